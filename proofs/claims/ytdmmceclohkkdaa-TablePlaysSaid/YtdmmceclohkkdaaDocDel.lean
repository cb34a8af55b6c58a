/- The document's Del: without the row at a place. -/
import Derived.Test.YtdmmceclohkkdaaDuo
namespace Go.Proofs.Ytdmmceclohkkdaa
open Go.RowKit Go.Sort
set_option maxHeartbeats 4000000
set_option maxRecDepth 100000
/-- The rows ahead, then those behind: two appends. -/
theorem del_chain {W3 : World} {l : List DR} {i j : Nat} {u1 u2 : Value} (hs1 : ∀ W', Grows W3 W' → RSrc W' u1 (l.take i)) (hs2 : ∀ W', Grows W3 W' → RSrc W' u2 (l.drop j)) (hl : l.length ≤ 10000) :
    ∃ v5 W5, (∀ ty, (Builtin.append_ #[35, 35] ty #[.slice (some ⟨W3.heap.size, 0, none⟩) 0 0, u1]).run Try.prog (W3.alloc (.cells #[] 117)) = .ok v5 W5) ∧ Grows W3 W5 ∧
    ∃ a8 n8 c8 W8, (∀ ty, (Builtin.append_ #[35, 35] ty #[v5, u2]).run Try.prog W5.drew = .ok (.slice a8 n8 c8) W8) ∧ Grows W3 W8 ∧ ROwn W8 W3.heap.size (.slice a8 n8 c8) (l.take i ++ l.drop j) := by
  have hl1 : (l.take i).length ≤ 10000 := Nat.le_trans (List.length_take_le' _ _) hl
  have hl2 : (l.drop j).length ≤ 10000 := by rw [List.length_drop]; omega
  have g4 : Grows W3 (W3.alloc (.cells #[] 117)) := bl_alloc (Below.refl _ _) _
  have o4 : ROwn (W3.alloc (.cells #[] 117)) W3.heap.size (.slice (some ⟨W3.heap.size, 0, none⟩) 0 0) [] := World.ownsRow_lit W3 #[] 0 (Nat.le_refl _) (by decide) rfl
  obtain ⟨v5, W5, r5, o5, b5⟩ := rapp_run o4 (hs1 _ g4) (by simp only [List.length_nil]; omega) g4.size
  have g5 := grows_of_grownBy g4 b5 (fun j hj => (o4.lt j hj).1)
  have gd : Grows W5 W5.drew := bl_drew (Below.refl _ _)
  have o5d := own_grows o5 gd
  have g5d := grows_trans _ _ _ g5 gd
  obtain ⟨v8, W8, r8, o8, b8⟩ := rapp_run o5d (hs2 _ g5d) (by simp; omega) g5d.size
  have g8 := grows_of_grownBy g5d b8 (fun j hj => (o5d.lt j hj).1)
  obtain ⟨a8, c8, rfl⟩ := ROwn.len o8 rfl
  refine ⟨v5, W5, r5, g5, a8, _, c8, W8, r8, g8, ?_⟩
  simpa using o8
theorem idx_facts {i n : Nat} (h : i < n) (hn : n ≤ 10000) : ∃ j : Nat, i + 1 = j ∧ j ≤ n ∧ wrap64 ((i : Int) + 1) = (j : Int) ∧ IntKind.i64.wrap ((i : Int) + 1) = (j : Int) ∧ wrap64 (i : Int) = (i : Int) ∧ (0 : Int) ≤ (j : Int) ∧ (j : Int) ≤ (n : Int) := by
  refine ⟨i + 1, rfl, h, wrap_succ (by omega), ?_, (nat_facts i (by omega)).2.2.2.1, by omega, by omega⟩
  rw [wrapEq, wrap_succ (by omega)]
  rfl
theorem rdel_any {v : Value} {l : List DR} {w : World} {base M i : Nat} (h : ROwn w base v l) (hi : i < l.length) (hm : l.length ≤ 10000) (hb : base ≤ w.heap.size) :
    Calls Try.prog 70 #[dval v M, .int .i64 (i : Int)] w (RTab w base (l.take i ++ l.drop (i + 1)) M (fun t => t)) := by
  obtain ⟨n, en⟩ : ∃ n, l.length = n := ⟨_, rfl⟩
  obtain ⟨b, eb⟩ : ∃ b, w.heap.size = b := ⟨_, rfl⟩
  have hi' := hi
  rw [en] at hi'
  obtain ⟨g, cap, rfl, hcap, hgl, hat⟩ := ROwn.form h en (Nat.lt_of_le_of_lt (Nat.zero_le _) hi')
  obtain ⟨j, ej, hjn, hjw, hjw2, hiw, hj0, hjn2⟩ := idx_facts hi' (by rw [← en]; exact hm)
  have JW := Lib.hid (And.intro hjw (And.intro hjw2 (And.intro hiw (And.intro hj0 hjn2))))
  clear hjw hjw2 hiw hj0 hjn2
  rw [ej]
  have hq2 := two_new w (.cells #[.slice (some ⟨g, 0, none⟩) n cap, .int .i64 (M : Int)] TDT) (.cells #[.slice none 0 0, .int .i64 0] TDT)
  have hgb : Grows w ((w.alloc (.cells #[.slice (some ⟨g, 0, none⟩) n cap, .int .i64 (M : Int)] TDT)).alloc (.cells #[.slice none 0 0, .int .i64 0] TDT)) := bl_alloc (bl_alloc (Below.refl _ _) _) _
  obtain ⟨W, eW⟩ : ∃ W, (w.alloc (.cells #[.slice (some ⟨g, 0, none⟩) n cap, .int .i64 (M : Int)] TDT)).alloc (.cells #[.slice none 0 0, .int .i64 0] TDT) = W := ⟨_, rfl⟩
  rw [eW, eb] at hq2
  rw [eW] at hgb
  have hs1 : ∀ W', Grows W W' → RSrc W' (.slice (some ⟨g, 0, none⟩) i cap) (l.take i) := fun W' hW => by
    have := rsrc_take (hat.grows (grows_trans _ _ _ hgb hW) hgl) i cap
    rwa [List.length_take, Nat.min_eq_left (Nat.le_of_lt hi)] at this
  have hlt2 : (l.drop j).length = n - j := by rw [List.length_drop, en]
  have arms : (cap ≠ j ∧ ∀ W', Grows W W' → RSrc W' (.slice (some ⟨g, j * 4, none⟩) (n - j) (cap - j)) (l.drop j)) ∨ (cap = j ∧ n = j ∧ ∀ W', Grows W W' → RSrc W' (.slice (some ⟨g, 0, none⟩) 0 0) (l.drop j)) := by
    by_cases hcj : cap = j
    · have hnj : n = j := Nat.le_antisymm (hcj ▸ hcap) hjn
      refine .inr ⟨hcj, hnj, fun W' hW => ?_⟩
      rw [List.eq_nil_of_length_eq_zero (hlt2.trans (by rw [hnj, Nat.sub_self]) : (l.drop j).length = 0)]
      exact rsrc_nil _ _ _ (fun h => by cases h)
    · refine .inl ⟨hcj, fun W' hW => ?_⟩
      have := rsrc_at (hat.grows (grows_trans _ _ _ hgb hW) hgl) j (cap - j)
      rwa [Nat.zero_add, hlt2] at this
  have HG := Lib.hid hgb
  have HB := Lib.hid hb
  have EB := Lib.hid eb
  have H0 := Lib.hid hq2
  have hin : i ≤ n := Nat.le_of_lt hi'
  have hicap : i ≤ cap := Nat.le_trans hin hcap
  have hjcap : j ≤ cap := Nat.le_trans hjn hcap
  have hl := hm
  have z0 := box_lt hq2.1
  have z1 := box_lt hq2.2
  obtain ⟨a0, -⟩ := cell_in hq2.1 0 rfl
  obtain ⟨a1, -⟩ := cell_in hq2.1 1 rfl
  have arms2 : ((cap = j) = False ∧ ∀ W', Grows W W' → RSrc W' (.slice (some ⟨g, j * 4, none⟩) (n - j) (cap - j)) (l.drop j)) ∨ (cap = j ∧ n = j ∧ ∀ W', Grows W W' → RSrc W' (.slice (some ⟨g, 0, none⟩) 0 0) (l.drop j)) := arms.imp (fun h => ⟨eq_false h.1, h.2⟩) id
  clear arms
  rcases arms2 with ⟨hcj, hs2⟩ | ⟨rfl, rfl, hs2⟩
  all_goals (
    obtain ⟨hjw, hjw2, hiw, hj0, hjn2⟩ := JW.out
    obtain ⟨v5, W5, r5, g5, a8, n8, c8, W8, r8, g8, o8⟩ := del_chain (W3 := W) hs1 hs2 hl
    have G := Lib.hid (And.intro g5 (And.intro g8 o8))
    have z5 := box_lt (box_grows H0.out.1 g5)
    have z8 := box_lt (box_grows H0.out.2 g8)
    obtain ⟨d0, -⟩ := cell_in (box_grows H0.out.1 g5) 0 rfl
    obtain ⟨d1, -⟩ := cell_in (box_grows H0.out.1 g5) 1 rfl
    obtain ⟨e0, -⟩ := cell_in (box_grows H0.out.1 g8) 0 rfl
    obtain ⟨e1, -⟩ := cell_in (box_grows H0.out.1 g8) 1 rfl
    obtain ⟨c0, c0f⟩ := cell_in (box_grows H0.out.2 g8) 0 rfl
    obtain ⟨c1, c1f⟩ := cell_in (box_grows H0.out.2 g8) 1 rfl
    clear en ej hjn h hi hi' hm hb hat hq2 hgb hs1 hs2 g5 g8 o8 hl hlt2 hcap hgl
    go_enter Try.func70, Try.ntmps70
    go_wp2_with (at_builtin; refine wpList_append_run _ rfl _ _ 35 35 rfl _ _ rfl rfl (r5 _) ?_)
    have mixed : Try.prog.follows .mixedOrders = true := by kernel_rfl
    go_region_law (refine step_append_run rfl _ _ 35 35 rfl _ _ (by simp [Act.eval, Act.put]) (by simp [Act.eval, Act.put]) (r8 _) ?_)
    all_goals (
      go_wp2
      obtain ⟨g5, g8, o8⟩ := G.out
      obtain ⟨k1, k2, q0, q1⟩ := rtab_end M (grows_trans _ _ _ HG.out g8) EB.out (b + 1) (Nat.le_succ _) (box_grows H0.out.2 g8) o8
      refine bodyPost_ret (v := dval (.slice a8 n8 c8) M) (by simp [results, Try.results70, go_sem, q0, q1]) rfl ⟨_, rfl, k1, ?_⟩
      exact row_base k2 (Nat.le_trans HB.out HG.out.size)))
end Go.Proofs.Ytdmmceclohkkdaa
