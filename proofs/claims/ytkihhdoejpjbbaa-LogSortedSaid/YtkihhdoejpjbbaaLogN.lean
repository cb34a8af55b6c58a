/- Whether entries rise, as the program and the document tell it. -/
import Derived.Test.YtkihhdoejpjbbaaLogK
namespace Go.Proofs.Ytkihhdoejpjbbaa
open Go.RowKit Go.Sort
set_option maxHeartbeats 2000000
set_option maxRecDepth 100000

/-- Does each entry's key lie ahead of the next one's? -/
def sortedB : List EC → Bool
  | x :: y :: r => lessK x.2.1 y.2.1 && sortedB (y :: r)
  | _ => true
theorem sortedB_one (c : List EC) : sortedB (c.take 1) = true := by
  cases c with
  | nil => rfl
  | cons x r => rfl
theorem sortedB_snoc (c : List EC) (x y : EC) : sortedB (c ++ [x, y]) = (sortedB (c ++ [x]) && lessK x.2.1 y.2.1) := by
  induction c with
  | nil => simp [sortedB]
  | cons z c ih =>
    cases c with
    | nil => simp [sortedB]
    | cons u c =>
      simp only [List.cons_append, sortedB] at ih ⊢
      rw [ih, Bool.and_assoc]
theorem sortedB_next (c : List EC) (k : Nat) (x y : EC) (hx : c[k]? = some x) (hy : c[k + 1]? = some y) : sortedB (c.take (k + 1 + 1)) = (sortedB (c.take (k + 1)) && lessK x.2.1 y.2.1) := by
  obtain ⟨h1, rfl⟩ := List.getElem?_eq_some_iff.1 hx
  obtain ⟨h2, rfl⟩ := List.getElem?_eq_some_iff.1 hy
  rw [List.take_succ_eq_append_getElem h2, List.take_succ_eq_append_getElem h1, List.append_assoc]
  exact sortedB_snoc _ _ _
theorem sortedB_pre (c d : List EC) (h : sortedB (c ++ d) = true) : sortedB c = true := by
  induction c with
  | nil => rfl
  | cons z c ih =>
    cases c with
    | nil => rfl
    | cons u c =>
      simp only [List.cons_append, sortedB, Bool.and_eq_true] at h ih ⊢
      exact ⟨h.1, ih h.2⟩
theorem sortedB_cut (c : List EC) (k : Nat) (h : sortedB (c.take k) = false) : sortedB c = false := by
  cases hc : sortedB c with
  | false => rfl
  | true =>
    rw [← List.take_append_drop k c] at hc
    rw [sortedB_pre _ _ hc] at h
    cases h
theorem addC_sorted {c : List EC} (h : sortedB c = true) (x : EC) : sortedB (addC c x) = true := by
  unfold addC
  split
  · rename_i hE
    unfold addCE at hE
    cases hl : c.getLast? with
    | none =>
      rw [List.getLast?_eq_none_iff] at hl
      rw [hl]
      rfl
    | some q =>
      rw [hl] at hE
      simp only at hE
      obtain ⟨d, rfl⟩ : ∃ d, c = d ++ [q] := by
        rw [List.getLast?_eq_some_iff] at hl
        exact hl
      rw [List.append_assoc]
      show sortedB (d ++ [q, x]) = true
      rw [sortedB_snoc, h, Bool.true_and]
      unfold lessK
      by_cases h0 : cmpK q.2.1 x.2.1 = 0
      · rw [if_pos h0] at hE; cases hE
      · rw [if_neg h0] at hE
        by_cases h1 : 0 < cmpK q.2.1 x.2.1
        · rw [if_pos h1] at hE; cases hE
        · exact decide_eq_true (by omega)
  · exact h
theorem sort_facts {k n : Nat} (h : k + 1 ≤ 1000000) (hlt : k + 1 < n) : ((k : Int) + 1) - 1 = (k : Int) ∧ wrap64 (k : Int) = (k : Int) ∧ (0 : Int) ≤ (k : Int) ∧ (k : Int) < (n : Int) ∧ (0 : Int) ≤ ((k + 1 : Nat) : Int) ∧ ((k + 1 : Nat) : Int) < (n : Int) ∧ wrap64 (((k + 1 : Nat) : Int) + 1) = ((k + 1 : Nat) : Int) + 1 ∧ n + 1 - (((k + 1 : Nat) : Int) + 1).toNat < n + 1 - ((k + 1 : Nat) : Int).toNat := by
  refine ⟨by omega, ?_, by omega, by omega, by omega, by omega, ?_, by omega⟩
  · unfold wrap64; omega
  · unfold wrap64; omega

theorem rsorted_any (v : Value) (l : List EW) (w : World) (h : EHas w v l) (hm : l.length ≤ 100000) :
    Calls Try.prog 47 #[v] w (RetV w (.bool (sortedB (cores l)))) := by
  obtain ⟨n, en⟩ : ∃ n, l.length = n := ⟨_, rfl⟩
  obtain ⟨a, cap, rfl⟩ := h.len en
  rw [en] at hm
  have HH := Lib.hid h
  have EN := Lib.hid en
  clear h en
  go_enter Try.func47, Try.ntmps47
  go_wp2_with fail
  go_loopw [3] (fun vi wr => ∃ k : Nat, vi = .int .i64 ((k : Int) + 1) ∧ (k < n ∨ k = 0) ∧ Grows w wr ∧ sortedB ((cores l).take (k + 1)) = true) (fun vi _ => n + 1 - (intOf vi).toNat)
  case atStart => exact ⟨0, rfl, .inr rfl, grows_refl _, sortedB_one (cores l)⟩
  case round =>
    obtain ⟨k, rfl, hk, hgr, hso⟩ := hrel
    have HG := Lib.hid hgr
    have HSO := Lib.hid hso
    clear hgr hso
    by_cases hlt : k + 1 < n
    · have hk6 : k + 1 ≤ 1000000 := Nat.le_trans (Nat.le_of_lt hlt) (Nat.le_trans hm (by decide))
      have HFX := Lib.hid (sort_facts hk6 hlt)
      have HKK := Lib.hid hlt
      obtain ⟨g, o, c1, he, hcap, hg, hat⟩ := HH.out.form EN.out (Nat.lt_of_le_of_lt (Nat.zero_le _) hlt)
      simp only [Value.slice.injEq, true_and] at he
      obtain ⟨rfl, rfl⟩ := he
      have hk0 : k < l.length := by rw [EN.out]; exact Nat.lt_of_succ_lt hlt
      have hk1 : k + 1 < l.length := by rw [EN.out]; exact hlt
      obtain ⟨-, q1, q2, q3, -⟩ := eat_cells hat k hk0
      obtain ⟨-, r1, r2, r3, -⟩ := eat_cells hat (k + 1) hk1
      have hst := sortedB_next (cores l) k (l[k]).core (l[k + 1]).core (by rw [List.getElem?_map, List.getElem?_eq_getElem hk0]; rfl) (by rw [List.getElem?_map, List.getElem?_eq_getElem hk1]; rfl)
      obtain ⟨x, ex⟩ : ∃ x, l[k] = x := ⟨_, rfl⟩
      obtain ⟨y, ey⟩ : ∃ x, l[k + 1] = x := ⟨_, rfl⟩
      rw [ex] at q1 q2 q3
      rw [ey] at r1 r2 r3
      rw [ex, ey] at hst
      have p1 := (HG.out.cell (p := ⟨g, o + k * 5 + 1, none⟩) hg).trans q1
      have p2 := (HG.out.cell (p := ⟨g, o + k * 5 + 2, none⟩) hg).trans q2
      have p3 := (HG.out.cell (p := ⟨g, o + k * 5 + 3, none⟩) hg).trans q3
      have s1 := (HG.out.cell (p := ⟨g, o + (k + 1) * 5 + 1, none⟩) hg).trans r1
      have s2 := (HG.out.cell (p := ⟨g, o + (k + 1) * 5 + 2, none⟩) hg).trans r2
      have s3 := (HG.out.cell (p := ⟨g, o + (k + 1) * 5 + 3, none⟩) hg).trans r3
      have hgw : g < wr.heap.size := Nat.lt_of_lt_of_le hg HG.out.size
      have hls := fun W => rless_any x.k y.k W
      clear q1 q2 q3 r1 r2 r3 hat ex ey hk0 hk1 hk6 hk hm hg
      obtain ⟨m, em⟩ : ∃ m, k + 1 = m := ⟨_, rfl⟩
      rw [em] at s1 s2 s3
      obtain ⟨j1, j2, j3, j4, j5, j6, j7, j8⟩ := HFX.out
      rw [em] at j5 j6 j7 j8 hlt
      rw [show ((k : Int) + 1) = (m : Int) by rw [← em]; rfl]
      have EM := Lib.hid em
      have j9 : (m : Int) - 1 = (k : Int) := by rw [← em]; exact j1
      clear em
      cases hb : lessK x.k y.k
      · rw [hb] at hls
        have hno : sortedB (cores l) = false := by
          have h1 := hst
          simp only at h1
          rw [hb, Bool.and_false] at h1
          exact sortedB_cut _ _ h1
        have HNO := Lib.hid hno
        have HLS := Lib.hid hls
        clear hls hb hst hno
        go_wp2_with fail
        refine wp_region_tail_drewN 11 (by kernel_rfl) (by kernel_rfl) (by kernel_rfl) (by kernel_rfl) ?_
        simp only [List.take_succ_cons, List.take_zero, List.drop_succ_cons, List.drop_zero]
        repeat (first | go_big_quiet_step ((fail)) | quiet_step ((fail)))
        refine wpQuiet_nil ?_
        intro _ hcw1
        obtain ⟨nq, hcw2⟩ := hcw1
        subst hcw2
        go_wp2_with fail
        refine (HLS.out _).mono ?_
        rintro e w2 ⟨rfl, hg2⟩
        have HG2 := Lib.hid (grows_trans _ _ _ HG.out (grows_trans _ _ _ (bl_drewN (Below.refl _ _) _ : Below wr.heap.size wr _) hg2))
        clear hg2
        go_wp2_with fail
        go_ret
        exact ⟨by rw [HNO.out]; rfl, HG2.out⟩
      · rw [hb] at hls
        have hyes : sortedB ((cores l).take (k + 1 + 1)) = true := by
          rw [hst]
          simp only
          rw [hb, HSO.out]
          rfl
        have HYES := Lib.hid hyes
        have HLS := Lib.hid hls
        clear hls hb hst hyes
        go_wp2_with fail
        refine wp_region_tail_drewN 11 (by kernel_rfl) (by kernel_rfl) (by kernel_rfl) (by kernel_rfl) ?_
        simp only [List.take_succ_cons, List.take_zero, List.drop_succ_cons, List.drop_zero]
        repeat (first | go_big_quiet_step ((fail)) | quiet_step ((fail)))
        refine wpQuiet_nil ?_
        intro _ hcw1
        obtain ⟨nq, hcw2⟩ := hcw1
        subst hcw2
        go_wp2_with fail
        refine (HLS.out _).mono ?_
        rintro e w2 ⟨rfl, hg2⟩
        have HG2 := Lib.hid (grows_trans _ _ _ HG.out (grows_trans _ _ _ (bl_drewN (Below.refl _ _) _ : Below wr.heap.size wr _) hg2))
        clear hg2
        go_wp2_with fail
        go_roundw
        case rel => exact ⟨k + 1, by first | (rw [j7, ← EM.out]) | (rw [← EM.out]) | (rw [j7, ← EM.out]; rfl), .inl HKK.out, HG2.out, HYES.out⟩
        case measure => first | (rw [j7]; exact j8) | exact j8
    · have hall : (cores l).take (k + 1) = cores l := List.take_of_length_le (by simp; rw [EN.out]; omega)
      have hs := HSO.out
      rw [hall] at hs
      have HS := Lib.hid hs
      have hnl : ¬ ((k : Int) + 1 < (n : Int)) := fun hc => hlt (by omega)
      clear hall hs hk hlt hm
      go_wp2_with fail
      go_ret
      exact ⟨by rw [HS.out]; rfl, HG.out⟩

theorem lsorted_any (v : Value) (l : List EW) (w : World) (h : EHas w v l) (hm : l.length ≤ 100000) :
    Calls Try.prog 46 #[v] w (RetV w (.bool (sortedB (cores l)))) := by
  obtain ⟨n, en⟩ : ∃ n, l.length = n := ⟨_, rfl⟩
  obtain ⟨a, cap, rfl⟩ := h.len en
  rw [en] at hm
  have HH := Lib.hid h
  have EN := Lib.hid en
  clear h en
  go_enter Try.func46, Try.ntmps46
  go_wp2_with fail
  go_loopw [3] (fun vi wr => ∃ k : Nat, vi = .int .i64 ((k : Int) + 1) ∧ (k < n ∨ k = 0) ∧ Grows w wr ∧ sortedB ((cores l).take (k + 1)) = true) (fun vi _ => n + 1 - (intOf vi).toNat)
  case atStart => exact ⟨0, rfl, .inr rfl, grows_refl _, sortedB_one (cores l)⟩
  case round =>
    obtain ⟨k, rfl, hk, hgr, hso⟩ := hrel
    have HG := Lib.hid hgr
    have HSO := Lib.hid hso
    clear hgr hso
    by_cases hlt : k + 1 < n
    · have hk6 : k + 1 ≤ 1000000 := Nat.le_trans (Nat.le_of_lt hlt) (Nat.le_trans hm (by decide))
      have HFX := Lib.hid (sort_facts hk6 hlt)
      have HKK := Lib.hid hlt
      obtain ⟨g, o, c1, he, hcap, hg, hat⟩ := HH.out.form EN.out (Nat.lt_of_le_of_lt (Nat.zero_le _) hlt)
      simp only [Value.slice.injEq, true_and] at he
      obtain ⟨rfl, rfl⟩ := he
      have hk0 : k < l.length := by rw [EN.out]; exact Nat.lt_of_succ_lt hlt
      have hk1 : k + 1 < l.length := by rw [EN.out]; exact hlt
      obtain ⟨-, q1, q2, q3, -⟩ := eat_cells hat k hk0
      obtain ⟨-, r1, r2, r3, -⟩ := eat_cells hat (k + 1) hk1
      have hst := sortedB_next (cores l) k (l[k]).core (l[k + 1]).core (by rw [List.getElem?_map, List.getElem?_eq_getElem hk0]; rfl) (by rw [List.getElem?_map, List.getElem?_eq_getElem hk1]; rfl)
      obtain ⟨x, ex⟩ : ∃ x, l[k] = x := ⟨_, rfl⟩
      obtain ⟨y, ey⟩ : ∃ x, l[k + 1] = x := ⟨_, rfl⟩
      rw [ex] at q1 q2 q3
      rw [ey] at r1 r2 r3
      rw [ex, ey] at hst
      have p1 := (HG.out.cell (p := ⟨g, o + k * 5 + 1, none⟩) hg).trans q1
      have p2 := (HG.out.cell (p := ⟨g, o + k * 5 + 2, none⟩) hg).trans q2
      have p3 := (HG.out.cell (p := ⟨g, o + k * 5 + 3, none⟩) hg).trans q3
      have s1 := (HG.out.cell (p := ⟨g, o + (k + 1) * 5 + 1, none⟩) hg).trans r1
      have s2 := (HG.out.cell (p := ⟨g, o + (k + 1) * 5 + 2, none⟩) hg).trans r2
      have s3 := (HG.out.cell (p := ⟨g, o + (k + 1) * 5 + 3, none⟩) hg).trans r3
      have hgw : g < wr.heap.size := Nat.lt_of_lt_of_le hg HG.out.size
      have hls := fun W => kless_any x.k y.k W
      clear q1 q2 q3 r1 r2 r3 hat ex ey hk0 hk1 hk6 hk hm hg
      obtain ⟨m, em⟩ : ∃ m, k + 1 = m := ⟨_, rfl⟩
      rw [em] at s1 s2 s3
      obtain ⟨j1, j2, j3, j4, j5, j6, j7, j8⟩ := HFX.out
      rw [em] at j5 j6 j7 j8 hlt
      rw [show ((k : Int) + 1) = (m : Int) by rw [← em]; rfl]
      have EM := Lib.hid em
      have j9 : (m : Int) - 1 = (k : Int) := by rw [← em]; exact j1
      clear em
      cases hb : lessK x.k y.k
      · rw [hb] at hls
        have hno : sortedB (cores l) = false := by
          have h1 := hst
          simp only at h1
          rw [hb, Bool.and_false] at h1
          exact sortedB_cut _ _ h1
        have HNO := Lib.hid hno
        have HLS := Lib.hid hls
        clear hls hb hst hno
        go_wp2_with fail
        refine wp_region_tail_drewN 11 (by kernel_rfl) (by kernel_rfl) (by kernel_rfl) (by kernel_rfl) ?_
        simp only [List.take_succ_cons, List.take_zero, List.drop_succ_cons, List.drop_zero]
        repeat (first | go_big_quiet_step ((fail)) | quiet_step ((fail)))
        refine wpQuiet_nil ?_
        intro _ hcw1
        obtain ⟨nq, hcw2⟩ := hcw1
        subst hcw2
        go_wp2_with fail
        refine (HLS.out _).mono ?_
        rintro e w2 ⟨rfl, hg2⟩
        have HG2 := Lib.hid (grows_trans _ _ _ HG.out (grows_trans _ _ _ (bl_drewN (Below.refl _ _) _ : Below wr.heap.size wr _) hg2))
        clear hg2
        go_wp2_with fail
        go_ret
        exact ⟨by rw [HNO.out]; rfl, HG2.out⟩
      · rw [hb] at hls
        have hyes : sortedB ((cores l).take (k + 1 + 1)) = true := by
          rw [hst]
          simp only
          rw [hb, HSO.out]
          rfl
        have HYES := Lib.hid hyes
        have HLS := Lib.hid hls
        clear hls hb hst hyes
        go_wp2_with fail
        refine wp_region_tail_drewN 11 (by kernel_rfl) (by kernel_rfl) (by kernel_rfl) (by kernel_rfl) ?_
        simp only [List.take_succ_cons, List.take_zero, List.drop_succ_cons, List.drop_zero]
        repeat (first | go_big_quiet_step ((fail)) | quiet_step ((fail)))
        refine wpQuiet_nil ?_
        intro _ hcw1
        obtain ⟨nq, hcw2⟩ := hcw1
        subst hcw2
        go_wp2_with fail
        refine (HLS.out _).mono ?_
        rintro e w2 ⟨rfl, hg2⟩
        have HG2 := Lib.hid (grows_trans _ _ _ HG.out (grows_trans _ _ _ (bl_drewN (Below.refl _ _) _ : Below wr.heap.size wr _) hg2))
        clear hg2
        go_wp2_with fail
        go_roundw
        case rel => exact ⟨k + 1, by first | (rw [j7, ← EM.out]) | (rw [← EM.out]) | (rw [j7, ← EM.out]; rfl), .inl HKK.out, HG2.out, HYES.out⟩
        case measure => first | (rw [j7]; exact j8) | exact j8
    · have hall : (cores l).take (k + 1) = cores l := List.take_of_length_le (by simp; rw [EN.out]; omega)
      have hs := HSO.out
      rw [hall] at hs
      have HS := Lib.hid hs
      have hnl : ¬ ((k : Int) + 1 < (n : Int)) := fun hc => hlt (by omega)
      clear hall hs hk hlt hm
      go_wp2_with fail
      go_ret
      exact ⟨by rw [HS.out]; rfl, HG.out⟩
end Go.Proofs.Ytkihhdoejpjbbaa
