/- Views: when a node is in them: the plain law, the program's walk. -/
import Derived.Test.YtkihhdoejpjbbaaViewC
namespace Go.Proofs.Ytkihhdoejpjbbaa
open Go.RowKit Go.Sort
set_option maxHeartbeats 1000000
set_option maxRecDepth 100000

def p2 (p : Int × Int) : List Value := [.int .i64 p.1, .int .i64 p.2]
theorem Try.infoPair : (Try.prog.info? 43).map (fun i => (i.zero, i.size, i.bytes)) = some (some (.agg #[.int .i64 0, .int .i64 0]), 2, 16) := by kernel_rfl
abbrev POwn (w : World) (base : Nat) (v : Value) (l : List (Int × Int)) : Prop := w.ownsRow base 43 2 v l.length (l.flatMap p2)
theorem p2_one : ∀ (a : Int × Int), ∀ u ∈ p2 a, u.oneCell' = true := by
  intro a u hu
  simp [p2] at hu
  rcases hu with rfl | rfl <;> rfl

/-- The end of the last span is set. -/
def setEnd (l : List (Int × Int)) (t : Int) : List (Int × Int) := l.set (l.length - 1) ((l.getD (l.length - 1) (0, 0)).1, t)
/-- One view more. -/
def spStep (i : Int) (st : List (Int × Int) × Bool) (x : VW) : List (Int × Int) × Bool :=
  (if hasN x.set i then (if st.2 then st.1 else st.1 ++ [(x.tm, -1)]) else (if st.2 then setEnd st.1 x.tm else st.1), hasN x.set i)
def spFold (i : Int) (l : List VW) : List (Int × Int) × Bool := l.foldl (spStep i) ([], false)
def spansN (i : Int) (l : List VW) : List (Int × Int) := (spFold i l).1
theorem spFold_take (i : Int) (l : List VW) (k : Nat) (h : k < l.length) : spFold i (l.take (k + 1)) = spStep i (spFold i (l.take k)) l[k] := by
  unfold spFold
  rw [List.take_succ_eq_append_getElem h, List.foldl_append]
  rfl
theorem setEnd_length (l : List (Int × Int)) (t : Int) : (setEnd l t).length = l.length := by simp [setEnd]
theorem spFold_inv (i : Int) (l : List VW) : ((spFold i l).2 = true → (spFold i l).1 ≠ []) ∧ (spFold i l).1.length ≤ l.length := by
  have key : ∀ k, k ≤ l.length → ((spFold i (l.take k)).2 = true → (spFold i (l.take k)).1 ≠ []) ∧ (spFold i (l.take k)).1.length ≤ k := by
    intro k
    induction k with
    | zero => intro _; exact ⟨fun h => by simp [spFold] at h, by simp [spFold]⟩
    | succ k ih =>
      intro hk
      obtain ⟨h1, h2⟩ := ih (by omega)
      rw [spFold_take i l k (by omega)]
      obtain ⟨⟨o, b⟩, he⟩ : ∃ st, spFold i (l.take k) = st := ⟨_, rfl⟩
      rw [he] at h1 h2 ⊢
      simp only at h1 h2
      unfold spStep
      simp only
      cases hasN l[k].set i <;> cases b
      · exact ⟨fun h => by simp at h, by simpa using (by omega : o.length ≤ k + 1)⟩
      · exact ⟨fun h => by simp at h, by simp [setEnd_length]; omega⟩
      · exact ⟨fun _ => by simp, by simp; omega⟩
      · exact ⟨fun _ => by simpa using h1 rfl, by simp; omega⟩
  have := key l.length (Nat.le_refl _)
  rwa [List.take_length] at this

theorem set_end {l : List (Int × Int)} (h : l ≠ []) (t : Int) : (l.flatMap p2).set ((l.length - 1) * 2 + 1) (.int .i64 t) = (setEnd l t).flatMap p2 := by
  have hl : l.length - 1 < l.length := by have := List.length_pos_iff.2 h; omega
  exact rows_set (f := p2) (k := 2) (fun _ => rfl) l _ hl 1 (by omega) _ _ (by simp [p2, List.getD_eq_getElem?_getD, hl])

theorem ownsRow_base {w : World} {base base' : Nat} {e : TypeId} {size : Nat} {v : Value} {n : Nat} {xs : List Value} (h : w.ownsRow base e size v n xs) (hb : base' ≤ base) : w.ownsRow base' e size v n xs := by
  refine ⟨h.1, ?_⟩
  rcases h.2 with h2 | ⟨g, cap, cur, hv, hg, rest⟩
  · exact .inl h2
  · exact .inr ⟨g, cap, cur, hv, Nat.le_trans hb hg, rest⟩
/-- The head of the loop over views: what was collected. -/
def SpRel (i : Int) (l : List VW) (w1 : World) (v inn k : Value) (wr : World) : Prop :=
  ∃ (j : Nat) (out : List (Int × Int)) (b : Bool), k = .int .i64 (j : Int) ∧ j ≤ l.length ∧ inn = .bool b ∧ spFold i (l.take j) = (out, b) ∧ Grows w1 wr ∧ POwn wr w1.heap.size v out

theorem spans_nil (w : World) (i : Int) : Calls Try.prog 20 #[.pointer none, .int .i64 i] w (fun e w' => e = .returned (.slice none 0 0) ∧ w = w') := by
  have HC := Lib.hid (list_nil w)
  go_enter Try.func20, Try.ntmps20
  go_wp2_with (go_at_call 17; refine (HC.out).mono ?_; rintro e w' ⟨rfl, rfl⟩)
  go_loop [5, 13] (fun v i => v = .slice none 0 0 ∧ i = .int .i64 0) (fun _ _ => 0)
  case atStart => exact ⟨rfl, rfl⟩
  case round =>
    obtain ⟨rfl, rfl⟩ := hrel
    go_wp2
    go_ret
    exact ⟨rfl, rfl⟩

theorem spans_any (w : World) {base b : Nat} {v : Value} {l : List VW} (h : ViewsAt w base b v l) (hm : l.length ≤ 1000000) (hok : AllOk l) (i : Int) :
    Calls Try.prog 20 #[.pointer (some ⟨b, 0, none⟩), .int .i64 i] w (fun e w' => ∃ v', e = .returned v' ∧ Grows w w' ∧ POwn w' w.heap.size v' (spansN i l)) := by
  obtain ⟨i0, hi, hz0, hz1, hz2⟩ := info_parts Try.infoPair
  have HC := Lib.hid (list_any w h hm)
  obtain ⟨n, en⟩ : ∃ n, l.length = n := ⟨_, rfl⟩
  go_enter Try.func20, Try.ntmps20
  go_wp2_with fail
  refine (HC.out).mono ?_
  rintro e w1 ⟨vl, rfl, hg, hv⟩
  rcases own_rows (f := vv) (k := 3) (fun _ => rfl) rfl hv with ⟨rfl, rfl⟩ | ⟨g, cap, rfl, hcap, -, hgb, hat⟩
  · have HG := Lib.hid hg
    clear hv hg h
    go_wp2_with fail
    go_loopw [5, 13] (fun v i wr => v = .slice none 0 0 ∧ i = .int .i64 0 ∧ wr = w1) (fun _ _ _ => 0)
    case atStart => exact ⟨rfl, rfl, rfl⟩
    case round =>
      obtain ⟨rfl, rfl, rfl⟩ := hrel
      go_wp2_with fail
      go_ret
      exact ⟨_, rfl, HG.out, World.ownsRow_nil _ _ _ _⟩
  · have HG := Lib.hid hg
    have HAT := Lib.hid hat
    have HOK := Lib.hid hok
    rw [en] at hm ⊢
    clear hv hg h hat hok hcap
    go_wp2_with fail
    go_loopw [5, 6, 13] (fun v inn k wr => SpRel i l w1 v inn k wr) (fun _ _ k _ => n - (intOf k).toNat)
    case atStart => exact ⟨0, [], false, rfl, Nat.zero_le _, rfl, rfl, Below.refl _ _, World.ownsRow_nil _ _ _ _⟩
    case round =>
      obtain ⟨j, out, inb, rfl, hj, rfl, hf, hgr, hown⟩ := hrel
      rw [en] at hj
      by_cases hlt : j < n
      · have hlt2 : j < l.length := by omega
        have hinv := spFold_inv i (l.take j)
        have hstep := spFold_take i l j hlt2
        rw [hf] at hinv hstep
        simp only [List.length_take] at hinv
        have c0 := (HAT.out.grows hgr hgb) j hlt2 0 (by omega)
        have c1 := (HAT.out.grows hgr hgb) j hlt2 1 (by omega)
        have c2 := (HAT.out.grows hgr hgb) j hlt2 2 (by omega)
        have hx := HOK.out _ (List.getElem_mem hlt2)
        obtain ⟨x, ex⟩ : ∃ x, l[j] = x := ⟨_, rfl⟩
        rw [ex] at c0 c1 c2 hx hstep
        simp only [vv, List.getElem?_cons_zero, List.getElem?_cons_succ, Nat.zero_add, Nat.add_zero] at c0 c1 c2
        have hcl := fun W => nhas_any x.set i hx.2.2 W
        have hwb : g < wr.heap.size := Nat.lt_of_lt_of_le hgb hgr.size
        unfold spStep at hstep
        simp only at hstep
        obtain ⟨bb, eb⟩ : ∃ bb, hasN x.set i = bb := ⟨_, rfl⟩
        rw [eb] at hstep hcl
        have HCL := Lib.hid hcl
        have HO := Lib.hid hown
        have HGR := Lib.hid hgr
        have HSTEP := Lib.hid hstep
        have HINV := Lib.hid hinv
        clear hcl hown hgr hstep hinv ex eb hf hx
        cases bb
        · cases inb
          · go_wp2_with (go_at_call 51; refine (HCL.out _).mono ?_; rintro e w' ⟨rfl, rfl⟩)
            go_roundw
            case rel => exact ⟨j + 1, out, false, by go_num, by omega, rfl, HSTEP.out, bl_alloc HGR.out _, HO.out.alloc _⟩
            case measure => simp [intOf]; omega
          · have hne := (HINV.out).1 rfl
            obtain ⟨m, em⟩ : ∃ m, out.length = m + 1 := ⟨out.length - 1, by have := List.length_pos_iff.2 hne; omega⟩
            rcases own_rows (f := p2) (k := 2) (fun _ => rfl) rfl HO.out with ⟨h1, -⟩ | ⟨go, capo, rfl, hcapo, hgo1, hgo2, hato⟩
            · exact absurd h1 hne
            have hse := set_end hne x.tm
            rw [em] at hse
            simp only [Nat.add_sub_cancel] at hse
            have hfz : wr.frozen? ⟨go, m * 2 + 1, none⟩ = false := (HO.out).frozenAt _
            have hcell := hato m (by omega) 1 (by omega)
            obtain ⟨q, hq⟩ : ∃ q, (p2 (out[m]'(by omega)))[1]? = some q := ⟨_, rfl⟩
            rw [hq, Nat.zero_add] at hcell
            have hst := (HO.out.alloc (.cells #[.int .i64 x.no, .int .i64 x.tm, .int .u64 (x.set : Int)] 29)).stored (m * 2 + 1) (.int .i64 x.tm)
            rw [hse] at hst
            have HST := Lib.hid hst
            clear hst hse hq hato hne
            have HEM := Lib.hid em
            rw [em]
            have j1 : ((m : Int) + 1) - 1 = (m : Int) := by omega
            have j2 : (0 : Int) ≤ (m : Int) := by omega
            have j3 : (m : Int) < (m : Int) + 1 := by omega
            have j4 : wrap64 (m : Int) = (m : Int) := by have := (HINV.out).2; rw [← wrapEq]; exact IntWalk.i64_in _ (by omega)
            clear em
            go_wp2_with (go_at_call 51; refine (HCL.out _).mono ?_; rintro e w' ⟨rfl, rfl⟩)
            refine wp_region_tail_drewN 8 (by kernel_rfl) (by kernel_rfl) (by kernel_rfl) (by kernel_rfl) ?_
            simp only [List.take_succ_cons, List.take_zero, List.drop_succ_cons, List.drop_zero]
            repeat (first | go_big_quiet_step ((fail)) | quiet_step ((fail)))
            refine wpQuiet_nil ?_
            intro _ hcw1
            obtain ⟨nq, hcw2⟩ := hcw1
            subst hcw2
            go_wp2_with fail
            go_roundw
            case rel =>
              refine ⟨j + 1, setEnd out x.tm, false, by go_num, by omega, rfl, HSTEP.out, ?_, ?_⟩
              · exact bl_set (p := ⟨go, m * 2 + 1, none⟩) (bl_drewN (bl_alloc HGR.out _) _) hgo1 _
              · show World.ownsRow _ _ _ _ _ _ _
                rw [setEnd_length, HEM.out]
                have := (HST.out).1
                rw [HEM.out] at this
                exact this
            case measure => simp [intOf]; omega
        · cases inb
          · go_wp2_with (first | (go_at_call 51; refine (HCL.out _).mono ?_; rintro e w' ⟨rfl, rfl⟩) | (at_builtin; refine wpList_append_own _ rfl _ _ 37 rfl w1.heap.size 43 i0 _ 2 16 Try.underlying37 hi hz0 hz1 hz2 rfl (by decide) _ out.length (out.flatMap p2) rfl ((HO.out.alloc _).alloc _) ⟨wr.heap.size + 1, 0, none⟩ 1 1 (p2 (x.tm, -1)) rfl rfl ?c1 ?c2 ?c3 ?c4 ?c5 ?_))
            case c1 =>
              intro jj u hu
              have h9 := World.news_of_block (heap_alloc_new (wr.alloc (.cells #[.int .i64 x.no, .int .i64 x.tm, .int .u64 (x.set : Int)] 29)) (.cells #[.int .i64 x.tm, .int .i64 (-1)] 43)) jj u hu
              rw [World.size_alloc] at h9
              exact h9
            case c2 => exact p2_one _
            case c3 => have := (HINV.out).2; unfold maxLen; omega
            case c4 => have := (HINV.out).2; omega
            case c5 => have := HGR.out.size; simp; omega
            intro v' w2 hown2 hgrow _
            rw [rows_snoc] at hown2
            have hg2 : Grows w1 w2 := grows_of_grownBy (bl_alloc (bl_alloc HGR.out _) _) hgrow (fun kk hkk => (HO.out.lt kk hkk).1)
            have HO2 := Lib.hid hown2
            have HG2 := Lib.hid hg2
            clear hown2 hgrow hg2
            go_wp2_with fail
            go_roundw
            case rel =>
              refine ⟨j + 1, out ++ [(x.tm, -1)], true, by go_num, by omega, rfl, HSTEP.out, HG2.out, ?_⟩
              have := HO2.out
              rw [show out.length + 1 = (out ++ [(x.tm, -1)]).length by simp] at this
              exact this
            case measure => simp [intOf]; omega
          · go_wp2_with (go_at_call 51; refine (HCL.out _).mono ?_; rintro e w' ⟨rfl, rfl⟩)
            go_roundw
            case rel => exact ⟨j + 1, out, true, by go_num, by omega, rfl, HSTEP.out, bl_alloc HGR.out _, HO.out.alloc _⟩
            case measure => simp [intOf]; omega
      · have hjn : j = n := by omega
        subst hjn
        have hsp : spansN i l = out := by
          unfold spansN
          rw [← List.take_length (l := l), en, hf]
        have HO := Lib.hid hown
        have HGR := Lib.hid hgr
        have HSP := Lib.hid hsp
        clear hf hown hgr hsp
        go_wp2_with fail
        go_ret
        exact ⟨_, rfl, grows_trans _ _ _ HG.out HGR.out, by rw [HSP.out]; exact ownsRow_base HO.out HG.out.size⟩
end Go.Proofs.Ytkihhdoejpjbbaa
