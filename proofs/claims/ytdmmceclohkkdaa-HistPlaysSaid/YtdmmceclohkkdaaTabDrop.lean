/- A table's Drop: each row that the given function says is taken out. -/
import Derived.Test.YtdmmceclohkkdaaTabGo
import Derived.Test.YtdmmceclohkkdaaTabDI
namespace Go.Proofs.Ytdmmceclohkkdaa
open Go.RowKit Go.Sort
set_option maxHeartbeats 4000000
set_option maxRecDepth 100000
theorem Rec.chg {n : Nat} {A B : World} {U : Nat → Prop} (h : Rec n A B) (hU : ∀ k, n ≤ k → U k) : Chg U A B := Chg.mono h fun k _ hs => hU k hs.1
theorem TabAt.keep {T : TypeId} {n : Nat} {A B : World} {base tb mb most : Nat} {kv : Value} {m : List (KW × Value)} (h : TabAt T A base tb kv mb m most) (hr : Rec n A B) (hm : mb < n) : TabAt T B base tb kv mb m most := by
  have hk : ∀ {k : Nat} {cs : Array Value} {t : TypeId} {z : Nat × Nat}, A.heap[k]? = some (.cells cs t z) → ¬ (n ≤ k ∧ ∃ o : Obj, A.heap[k]? = some o ∧ o.isCells = false) := by
    rintro k cs t z h1 ⟨_, o, h2, h3⟩
    rw [h1] at h2
    cases h2
    cases h3
  refine h.chg hr (hk h.ob) (fun hs => by omega) (fun j hj => ?_)
  obtain ⟨cur, hg⟩ := h.own.ty hj
  exact hk hg
/-- The rows left behind so many rounds. -/
def leftT (D : KW × Value → Bool) (m s : List (KW × Value)) : List (KW × Value) := s.filter (fun p => !D p) ++ m.drop s.length
theorem leftT_nil (D : KW × Value → Bool) (m : List (KW × Value)) : leftT D m [] = m := by simp [leftT]
theorem leftT_all {D : KW × Value → Bool} {m s : List (KW × Value)} (h : s = m.take s.length) (hl : s.length = m.length) : leftT D m s = m.filter (fun p => !D p) := by
  have : s = m := by rw [h, hl, List.take_length]
  subst this
  simp [leftT]
theorem take_next {α : Type} {m s : List α} {x : α} (h : s = m.take s.length) (hx : m[s.length]? = some x) : s ++ [x] = m.take (s ++ [x]).length ∧ m = s ++ x :: m.drop (s ++ [x]).length := by
  obtain ⟨hl, e⟩ := List.getElem?_eq_some_iff.1 hx
  constructor
  · rw [List.length_append, List.length_singleton, List.take_add_one, hx, ← h]
    rfl
  · conv => lhs; rw [← List.take_append_drop s.length m, ← h]
    rw [List.length_append, List.length_singleton, ← e, ← List.drop_eq_getElem_cons hl]
theorem leftT_keep {D : KW × Value → Bool} {m s : List (KW × Value)} {x : KW × Value} (h : s = m.take s.length) (hx : m[s.length]? = some x) (hd : D x = false) : leftT D m (s ++ [x]) = leftT D m s := by
  obtain ⟨hl, e⟩ := List.getElem?_eq_some_iff.1 hx
  unfold leftT
  rw [List.filter_append, List.length_append, List.length_singleton, List.drop_eq_getElem_cons hl, e]
  simp [hd]
theorem leftT_del {D : KW × Value → Bool} {m s : List (KW × Value)} {x : KW × Value} (hn : (m.map (·.1)).Nodup) (h : s = m.take s.length) (hx : m[s.length]? = some x) (hd : D x = true) : leftT D m (s ++ [x]) = delT (leftT D m s) x.1 := by
  obtain ⟨hl, e⟩ := List.getElem?_eq_some_iff.1 hx
  have hm := (take_next h hx).2
  rw [hm, List.map_append, List.map_cons] at hn
  have hn2 := List.nodup_append.1 hn
  have hA : ∀ p ∈ s, p.1 ≠ x.1 := fun p hp => hn2.2.2 p.1 (List.mem_map_of_mem hp) x.1 (by simp)
  have hB : ∀ p ∈ m.drop (s ++ [x]).length, p.1 ≠ x.1 := fun p hp e => (List.nodup_cons.1 hn2.2.1).1 (e ▸ List.mem_map_of_mem hp)
  unfold leftT delT
  rw [List.filter_append, List.filter_append, List.drop_eq_getElem_cons hl, e, List.filter_cons]
  rw [List.length_append, List.length_singleton] at hB ⊢
  simp only [ne_eq, not_true_eq_false, decide_false, Bool.false_eq_true, if_false, hd, Bool.not_true, List.filter_cons, List.filter_nil, List.append_nil]
  congr 1
  · exact (List.filter_eq_self.2 fun p hp => by simpa using hA p (List.mem_filter.1 hp).1).symm
  · exact (List.filter_eq_self.2 fun p hp => by simpa using hB p hp).symm
theorem leftT_row {D : KW × Value → Bool} {m s : List (KW × Value)} {n : Nat} {p : KW × Value} (hl : s.length ≤ n) (hp : m[n]? = some p) : p ∈ leftT D m s := by
  unfold leftT
  refine List.mem_append.2 (.inr ?_)
  obtain ⟨h1, e⟩ := List.getElem?_eq_some_iff.1 hp
  rw [← e]
  have : m[n] = (m.drop s.length)[n - s.length]'(by rw [List.length_drop]; omega) := by
    rw [List.getElem_drop]; congr 1; omega
  rw [this]
  exact List.getElem_mem _
theorem getK_mem {m : List (KW × Value)} (hn : (m.map (·.1)).Nodup) {p : KW × Value} (hp : p ∈ m) : getK m p.1 = some p.2 := by
  induction m with
  | nil => cases hp
  | cons q m ih =>
    rw [getK_cons]
    rcases List.mem_cons.1 hp with rfl | hp
    · simp
    · rw [List.map_cons, List.nodup_cons] at hn
      have : p.1 ≠ q.1 := fun e => hn.1 (e ▸ List.mem_map_of_mem hp)
      rw [if_neg this]
      exact ih hn.2 hp
theorem delT_length {m : List (KW × Value)} (D : KW × Value → Bool) : (m.filter D).length + (m.filter fun p => !D p).length = m.length := by
  induction m with
  | nil => rfl
  | cons p m ih => cases h : D p <;> simp [h] <;> omega
section
attribute [local go_sem] Oper.semAt_some
theorem tdrop_any {w : World} {base tb mb most : Nat} {kv : Value} {m : List (KW × Value)} (h : TabAt TTI w base tb kv mb m most) (f : Nat) (cs : Array Value)
    (ef : ∀ args W, (callFunc f args).run Try.prog W = .ok (.enter f args) W) (P : World → Prop) (D : KW × Value → Bool)
    (hP : ∀ A B, P A → Chg (fun j => TabS tb kv mb j ∨ w.heap.size ≤ j) A B → P B) (h0 : P w)
    (hf : ∀ x W, x ∈ m → P W → Calls Try.prog f (rowV x ++ cs) W (RetV W (.bool (D x)))) :
    Calls Try.prog 38 #[.pointer (some ⟨tb, 0, none⟩), .func (.func f) #[] cs] w (TabTo TTI w base tb kv mb (m.filter fun p => !D p) most (.int .i64 ((m.filter D).length : Int))) := by
  have HAL := Lib.hid (fun W => tall_any (.pointer (some ⟨tb, 0, none⟩)) (.inr ⟨_, rfl⟩) W)
  have HF := Lib.hid hf
  have HP := Lib.hid hP
  have P0 := Lib.hid h0
  have HT := Lib.hid h
  have z1 := h.lt
  clear hf hP h0 h
  refine calls_of_wp_marks Try.func38 rfl ?_
  simp only [Try.ntmps38, List.size_toArray, List.length_cons, List.length_nil, Nat.reduceAdd, Nat.reduceSub, Array.replicate_succ, Array.replicate_zero, List.push_toArray, List.append_toArray, List.nil_append, List.cons_append]
  go_wp2_with fail
  refine (HAL.out _).mono ?_
  rintro e w1 ⟨rfl, hg1, hc1⟩
  obtain ⟨b, eb⟩ : ∃ b, w.heap.size = b := ⟨_, rfl⟩
  have q2 := two_new w (.cells #[.pointer (some ⟨tb, 0, none⟩)] 23) (.cells #[.func (.func f) #[] cs] 63)
  have q3 := heap_alloc_new ((w.alloc (.cells #[.pointer (some ⟨tb, 0, none⟩)] 23)).alloc (.cells #[.func (.func f) #[] cs] 63)) (.cells #[.int .i64 0] 3)
  have g3 : Grows _ (World.alloc ((w.alloc (.cells #[.pointer (some ⟨tb, 0, none⟩)] 23)).alloc (.cells #[.func (.func f) #[] cs] 63)) (.cells #[.int .i64 0] 3)) := bl_alloc (Below.refl _ _) _
  have q0 := box_grows (box_grows q2.1 g3) hg1
  have q1 := box_grows (box_grows q2.2 g3) hg1
  have q3 := box_grows q3 hg1
  have g0 : Grows w w1 := grows_trans _ _ _ (bl_alloc (bl_alloc (Below.refl _ _) _) _) (grows_trans _ _ _ g3 hg1)
  simp only [World.size_alloc] at hc1 q3 ⊢
  rw [eb] at q0 q1 q3 hc1 z1 ⊢
  have EB := Lib.hid eb
  have G0 := Lib.hid g0
  have hS1 : b + 2 < w1.heap.size := box_lt q3
  have H1 := Lib.hid (And.intro q0 (And.intro q1 (And.intro q3 hc1)))
  have HS1 := Lib.hid hS1
  have hbS : ∀ j, b ≤ j → ¬ TabS tb kv mb j := fun j hj hs => by
    rcases hs with rfl | rfl | hs
    · omega
    · have := HT.out.mlt; omega
    · have := (HT.out.own.lt j hs).2; omega
  have HBS := Lib.hid hbS
  clear hg1 hc1 q2 q0 q1 q3 g3 g0 eb hbS
  go_wp2_with fail
  refine wp_range2 (α := KW × Value) rfl (enters_of Try.func67 (by kernel_rfl) rfl) rowV (fun _ => rfl) (fun j => TabS tb kv mb j ∨ j = b + 2) ?hS
    (fun s W => s = m.take s.length ∧ (∃ kv', TabAt TTI W base tb kv' mb (leftT D m s) most ∧ kv'.ownBlock = kv.ownBlock ∧ (s = [] → kv' = kv)) ∧ W.heap[b]? = some (.cells #[.pointer (some ⟨tb, 0, none⟩)] 23 (0, 0)) ∧
      W.heap[b + 1]? = some (.cells #[.func (.func f) #[] cs] 63 (0, 0)) ∧ W.heap[b + 2]? = some (.cells #[.int .i64 ((s.filter D).length : Int)] 3 (0, 0)) ∧
      W.cell? ⟨b + 3, 0, none⟩ = some (.pointer (some ⟨tb, 0, none⟩)) ∧ P W ∧ Chg (fun j => TabS tb kv mb j ∨ b ≤ j) w W)
    (RowG m) (fun _ _ _ => False) (fun xs => xs.length = m.length) ?hI ?hIx ?h0 ?it ?rd ?dn ?st
  case hS =>
    rintro j (hs | rfl)
    · refine Nat.lt_of_not_le fun hj => HBS.out j (Nat.le_trans ?_ hj) hs
      rw [← EB.out]; exact G0.out.size
    · exact HS1.out
  case hI =>
    rintro s X Y ⟨h1, ⟨kv', h2, h2o⟩, h3, h4, h5, h6, h7, h8⟩ hr
    have hw : b ≤ w1.heap.size := by rw [← EB.out]; exact G0.out.size
    have hc : Chg (fun j => TabS tb kv mb j ∨ b ≤ j) X Y := hr.chg fun k hk => .inr (Nat.le_trans hw hk)
    exact ⟨h1, ⟨kv', h2.keep hr (Nat.lt_of_lt_of_le (HT.out.mlt) G0.out.size), h2o⟩, hr.at h3, hr.at h4, hr.at h5, hr.cell1 h6, HP.out X Y h7 (by rw [EB.out]; exact hc), h8.trans hc⟩
  case hIx => exact fun _ _ _ _ h _ => h.elim
  case h0 =>
    obtain ⟨q0, q1, q3, hc1⟩ := H1.out
    refine ⟨by simp, ⟨kv, ?_, rfl, fun _ => rfl⟩, q0, q1, q3, hc1, HP.out w w1 P0.out (Chg.ofGrows G0.out), Chg.ofGrows G0.out⟩
    rw [leftT_nil]
    exact HT.out.grows G0.out
  case it =>
    refine tall_tells (base := base) (kv := kv) (mb := mb) (most := most) w1 _ (fun A h => ?_) (fun s A h => ⟨h.2.2.2.2.2.1, ?_⟩)
    · obtain ⟨_, ⟨kv', h2, -, h2o⟩, _⟩ := h
      rw [leftT_nil, h2o rfl] at h2
      exact h2
    · obtain ⟨h1, ⟨kv', h2, h2o⟩, _⟩ := h
      exact ⟨kv', _, h2, fun i p hi hp => getK_mem h2.rises.nodup (leftT_row hi hp)⟩
  case st => exact fun _ _ _ _ _ h => h.elim
  case dn =>
    rintro d xs W hD hx ⟨h1, ⟨kv', h2, h2o, -⟩, h3, h4, h5, h6, h7, h8⟩ hdf
    rw [leftT_all h1 hx] at h2
    have hxm : xs = m := by rw [h1, hx, List.take_length]
    subst hxm
    have HD := Lib.hid (And.intro h2 (And.intro h2o (And.intro h8 (And.intro hdf hD))))
    obtain ⟨b2, -⟩ := cell_in h5 0 rfl
    clear h2 h2o h3 h4 h5 h6 h7 h8 hdf hD h1 hx
    go_wp2_with fail
    obtain ⟨h2, h2o, h8, hdf, hD⟩ := HD.out
    refine ⟨by simp, .inl ⟨_, _, rfl, run_takeDeferred hdf, ?_⟩⟩
    refine ⟨.int .i64 ((xs.filter D).length : Int), by simp [results, Try.results38, go_sem], rfl, ?_⟩
    have hr : Rec w1.heap.size W (W.putObj d (.deferred none)) := Rec.put _ hD hdf rfl
    have hw : b ≤ w1.heap.size := by rw [← EB.out]; exact G0.out.size
    refine ⟨kv', h2.keep hr (Nat.lt_of_lt_of_le (HT.out.mlt) G0.out.size), ?_, fun j hj => .inl (h2o ▸ hj)⟩
    refine (h8.trans (hr.chg fun k hk => .inr (Nat.le_trans hw hk))).mono fun j hj hs => ?_
    rcases hs with hs | hs
    · exact hs
    · rw [EB.out] at hj; exact absurd hs (Nat.not_le_of_lt hj)
  case rd =>
    intro l0 s x W hl0 hlt hI hG
    have HI := Lib.hid hI
    have HG := Lib.hid hG
    clear hI hG
    obtain ⟨⟨kt, kf, ks⟩, v⟩ := x
    simp only [rowV, KW.val]
    gi_wp2_with fail
    refine ⟨bl_alloc (Below.refl _ _) _, ?_⟩
    intro W2 hr2
    have hgb : Grows W (W.alloc (.cells #[.int .i64 kt, .int .i64 kf, .int .u32 ks] 29)) := bl_alloc (Below.refl _ _) _
    have hbx := heap_alloc_new W (.cells #[.int .i64 kt, .int .i64 kf, .int .u32 ks] 29)
    have hw : b ≤ w1.heap.size := by rw [← EB.out]; exact G0.out.size
    have hmb : mb < w1.heap.size := Nat.lt_of_lt_of_le (HT.out.mlt) G0.out.size
    have hc2 : Chg (fun j => TabS tb kv mb j ∨ b ≤ j) W W2 := (Chg.ofGrows hgb).trans (hr2.chg fun k hk => .inr (Nat.le_trans hw hk))
    obtain ⟨h1, ⟨kv', h2, h2o, -⟩, h3, h4, h5, h6, h7, h8⟩ := HI.out
    have f2 := (h2.grows hgb).keep hr2 hmb
    have f3 := hr2.at (box_grows h3 hgb)
    have f4 := hr2.at (box_grows h4 hgb)
    have f5 := hr2.at (box_grows h5 hgb)
    have f6 := hr2.cell1 (box_cell_grows h6 hgb)
    have f7 := HP.out W W2 h7 (by rw [EB.out]; exact hc2)
    have f8 := h8.trans hc2
    have f9 := hr2.at hbx
    have hx : (⟨⟨kt, kf, ks⟩, v⟩ : KW × Value) ∈ m := List.mem_of_getElem? HG.out
    have HC := Lib.hid (callsIn_wide (n := 7).2 (HF.out _ W2 hx f7))
    obtain ⟨b0, -⟩ := cell_in f3 0 rfl
    obtain ⟨b1, -⟩ := cell_in f4 0 rfl
    obtain ⟨b2, -⟩ := cell_in f5 0 rfl
    obtain ⟨t0, -⟩ := cell_in f9 0 rfl
    obtain ⟨t1, -⟩ := cell_in f9 1 rfl
    obtain ⟨t2, -⟩ := cell_in f9 2 rfl
    obtain ⟨q, eq⟩ : ∃ q, W.heap.size = q := ⟨_, rfl⟩
    have z2 : b + 1 < W2.heap.size := box_lt f4
    have z3 : b + 2 < W2.heap.size := box_lt f5
    have z4 : W.heap.size < W2.heap.size := box_lt f9
    rw [eq] at f9 t0 t1 t2 z4 ⊢
    clear hgb hbx hr2 h1 h2 h3 h4 h5 h6 h7 h8 hmb hx eq
    have F := Lib.hid (And.intro f2 (And.intro f3 (And.intro f4 (And.intro f5 (And.intro f6 (And.intro f7 (And.intro f8 f9)))))))
    clear f2 f3 f4 f5 f6 f7 f8 f9
    gi_wp2_with fail
    refine ⟨trivial, (CallsIn.inRound l0 HC.out).mono ?_⟩
    rintro e w3 ⟨rfl, hg3⟩
    obtain ⟨f2, f3, f4, f5, f6, f7, f8, f9⟩ := F.out
    have f2 := f2.grows hg3
    have f3 := box_grows f3 hg3
    have f4 := box_grows f4 hg3
    have f5 := box_grows f5 hg3
    have f6 := box_cell_grows f6 hg3
    have f7 := HP.out W2 w3 f7 (Chg.ofGrows hg3)
    have f8 := f8.trans (Chg.ofGrows hg3)
    have f9 := box_grows f9 hg3
    have g3 : Chg (fun j => TabS tb kv mb j ∨ j = b + 2) W2 w3 := Chg.ofGrows hg3
    have hx := HG.out
    have hs := HI.out.1
    have hs' := HI.out.1
    clear b0 b1 b2 t0 t1 t2 z2 z3 z4 F HC hg3
    obtain ⟨b0, -⟩ := cell_in f3 0 rfl
    obtain ⟨b2, -⟩ := cell_in f5 0 rfl
    obtain ⟨t0, -⟩ := cell_in f9 0 rfl
    obtain ⟨t1, -⟩ := cell_in f9 1 rfl
    obtain ⟨t2, -⟩ := cell_in f9 2 rfl
    cases hd : D (⟨kt, kf, ks⟩, v)
    · have HE := Lib.hid (And.intro g3 (And.intro (take_next hs hx).1 (And.intro (leftT_keep (D := D) hs hx hd) (And.intro f2 (And.intro f3 (And.intro f4 (And.intro f5 (And.intro f6 (And.intro f7 f8)))))))))
      clear f2 f3 f4 f5 f6 f7 f8 f9 hx hs g3 b0 b2 t0 t1 t2
      gi_wp2_with fail
      obtain ⟨g3, hs, hk, f2, f3, f4, f5, f6, f7, f8⟩ := HE.out
      refine ⟨g3, hs, ⟨kv', by rw [hk]; exact f2, h2o, fun e => by simp at e⟩, f3, f4, ?_, f6, f7, f8⟩
      rw [List.filter_append, List.filter_cons, hd]
      simpa using f5
    · have hyes : getK (leftT D m s) ⟨kt, kf, ks⟩ = some v := getK_mem f2.rises.nodup (p := (⟨kt, kf, ks⟩, v)) (leftT_row (Nat.le_refl _) hx)
      have HE := Lib.hid (And.intro g3 (And.intro (take_next hs hx).1 (And.intro (leftT_del (D := D) HT.out.rises.nodup hs hx hd) (And.intro f2 (And.intro f3 (And.intro f4 (And.intro f5 (And.intro f6 (And.intro f7 (And.intro f8 f9))))))))))
      have HD := Lib.hid (callsIn_wide (n := 7).2 (tdel_inI _ v f2 hyes))
      clear f2 f3 f4 f5 f6 f7 f8 f9 hx hs g3 hyes
      gi_wp2_with fail
      refine ⟨trivial, (CallsIn.inRound l0 HD.out).mono ?_⟩
      rintro e w4 ⟨rfl, kv4, ht4, hc4, ho4⟩
      obtain ⟨g3, hs, hk, f2, f3, f4, f5, f6, f7, f8, f9⟩ := HE.out
      have hc4 : Chg (TabS tb kv mb) w3 w4 := hc4.mono fun j _ hj => by unfold TabS at hj ⊢; rw [← h2o]; exact hj
      obtain ⟨cn, ecn⟩ : ∃ cn, (s.filter D).length = cn := ⟨_, rfl⟩
      have hcn : cn ≤ 1000000 := by
        rw [← ecn, hs']
        exact Nat.le_trans (List.length_filter_le _ _) (Nat.le_trans (List.length_take_le' _ _) (Nat.le_trans HT.out.few (Nat.le_trans HT.out.most (by decide))))
      have hb0 : ¬ TabS tb kv mb b := HBS.out _ (Nat.le_refl _)
      have hb1 : ¬ TabS tb kv mb (b + 1) := HBS.out _ (Nat.le_succ _)
      have hb2 : ¬ TabS tb kv mb (b + 2) := HBS.out _ (Nat.le_add_right _ 2)
      have hb3 : ¬ TabS tb kv mb (b + 3) := HBS.out _ (Nat.le_add_right _ 3)
      have f3 := box_chg f3 hc4 hb0
      have f4 := box_chg f4 hc4 hb1
      have f5 := box_chg f5 hc4 hb2
      have f6 := hc4.cellAt f6 hb3
      have f7 := HP.out _ _ f7 (hc4.mono fun j _ hj => .inl hj)
      have f8 := f8.trans (hc4.mono fun j _ hj => .inl hj)
      have g4 := g3.trans (hc4.mono fun j _ hj => .inl hj)
      rw [ecn] at f5
      have hwc := wrap_succ hcn
      have HE := Lib.hid (And.intro g4 (And.intro hs (And.intro hk (And.intro ht4 (And.intro f3 (And.intro f4 (And.intro f5 (And.intro f6 (And.intro f7 f8)))))))))
      have HO := Lib.hid (ho4.trans h2o)
      clear b0 b2 t0 t1 t2
      obtain ⟨b2, b2f⟩ := cell_in f5 0 rfl
      have b2f : w4.frozen? ⟨b + 1 + 1, 0, none⟩ = false := b2f
      have z3 : b + 2 < w4.heap.size := box_lt f5
      clear g3 hs hk f2 f3 f4 f5 f6 f7 f8 f9 hcn hb0 hb1 hb2 hb3 g4 ht4 hc4 ho4
      gi_wp2_with fail
      obtain ⟨g4, hs, hk, ht4, f3, f4, f5, f6, f7, f8⟩ := HE.out
      have hc5 : Chg (fun j => j = b + 2) w4 (w4.setCell ⟨b + 2, 0, none⟩ (.int .i64 ((cn : Int) + 1))) := Chg.setCell (Chg.refl _ _) _ (.inr rfl)
      have hb2 : ¬ TabS tb kv mb (b + 2) := HBS.out _ (Nat.le_add_right _ 2)
      have hbw : b ≤ b + 2 := Nat.le_add_right _ 2
      refine ⟨g4.trans (hc5.mono fun j _ hj => .inr hj), hs, ⟨kv4, ?_, HO.out, fun e => by simp at e⟩, box_chg f3 hc5 (by omega), box_chg f4 hc5 (by omega), ?_, hc5.cellAt f6 (by show b + 3 ≠ b + 2; omega), HP.out _ _ f7 ?_, f8.trans ?_⟩
      · rw [hk]
        refine ht4.chg hc5 (fun e => hb2 (.inl e.symm)) (fun e => hb2 (.inr (.inl e.symm))) (fun j hj e => hb2 (.inr (.inr ?_)))
        rw [← HO.out, hj, e]
      · have := box_setj (j := 0) (v := .int .i64 ((cn : Int) + 1)) f5
        rw [List.filter_append, List.filter_cons, hd, List.length_append, ecn]
        exact this
      · exact hc5.mono fun j _ hj => .inr (by rw [EB.out, hj]; exact hbw)
      · exact hc5.mono fun j _ hj => .inr (by rw [hj]; exact hbw)
end
end Go.Proofs.Ytdmmceclohkkdaa
