/- Views: which one is ahead of a time or a number. -/
import Derived.Test.YtkihhdoejpjbbaaViewH
import Derived.Test.YtkihhdoejpjbbaaSearchV
import Derived.Laws.EntriesVeiled
namespace Go.Proofs.Ytkihhdoejpjbbaa
open Go.RowKit Go.Sort
set_option maxHeartbeats 2000000
set_option maxRecDepth 100000

theorem atTest_any (x : VW) (t : Int) (c : Nat) (w : World) (hc : w.cell? ⟨c, 0, none⟩ = some (.int .i64 t)) :
    Calls Try.prog 57 #[x.val, .pointer (some ⟨c, 0, none⟩)] w (RetV w (.bool (decide (t < x.tm)))) := by
  have hlt := block_lt_of_cell hc
  simp only at hlt
  go_enter Try.func57, Try.ntmps57
  go_wp2_with fail
  go_ret
  exact ⟨rfl, by (repeat (first | with_reducible exact Below.refl _ _ | with_reducible refine bl_alloc ?_ _ | ((with_reducible refine bl_set ?_ ?_ _); rotate_left; (first | exact Nat.le_refl _ | exact Nat.le_succ_of_le (Nat.le_refl _) | (simp only []; omega))) | with_reducible refine bl_drewN ?_ _ | with_reducible refine bl_drew ?_ | with_reducible refine bl_reg ?_ _))⟩
theorem ofTest_any (x : VW) (t : Int) (c : Nat) (w : World) (hc : w.cell? ⟨c, 0, none⟩ = some (.int .i64 t)) :
    Calls Try.prog 64 #[x.val, .pointer (some ⟨c, 0, none⟩)] w (RetV w (.bool (decide (t < x.no)))) := by
  have hlt := block_lt_of_cell hc
  simp only at hlt
  go_enter Try.func64, Try.ntmps64
  go_wp2_with fail
  go_ret
  exact ⟨rfl, by (repeat (first | with_reducible exact Below.refl _ _ | with_reducible refine bl_alloc ?_ _ | ((with_reducible refine bl_set ?_ ?_ _); rotate_left; (first | exact Nat.le_refl _ | exact Nat.le_succ_of_le (Nat.le_refl _) | (simp only []; omega))) | with_reducible refine bl_drewN ?_ _ | with_reducible refine bl_drew ?_ | with_reducible refine bl_reg ?_ _))⟩

/-- The test that a view is asked: by time, or by number. -/
inductive Asked where | tm | no
def Asked.fid : Asked → FuncId | .tm => 57 | .no => 64
def Asked.of (k : Asked) (t : Int) (x : VW) : Bool := match k with | .tm => decide (t < x.tm) | .no => decide (t < x.no)
theorem asked_any (k : Asked) (x : VW) (t : Int) (c : Nat) (w : World) (hc : w.cell? ⟨c, 0, none⟩ = some (.int .i64 t)) :
    Calls Try.prog k.fid #[x.val, .pointer (some ⟨c, 0, none⟩)] w (RetV w (.bool (k.of t x))) := by
  cases k
  · exact atTest_any x t c w hc
  · exact ofTest_any x t c w hc

theorem beforeTest_at (w : World) {base b : Nat} {v : Value} {l : List VW} (h : ViewsAt w base b v l) (hm : l.length ≤ 1000000) (k : Asked) (t : Int) (c c1 c2 : Nat) (hc : w.cell? ⟨c, 0, none⟩ = some (.int .i64 t))
    (h1 : w.cell? ⟨c1, 0, none⟩ = some (.func (.func k.fid) #[] #[.pointer (some ⟨c, 0, none⟩)])) (h2 : w.cell? ⟨c2, 0, none⟩ = some (.pointer (some ⟨b, 0, none⟩))) (i : Nat) (hi : i < l.length) :
    Calls Try.prog 71 #[.int .i64 (i : Int), .pointer (some ⟨c1, 0, none⟩), .pointer (some ⟨c2, 0, none⟩)] w (RetV w (.bool (k.of t l[i]))) := by
  rcases own_rows (f := vv) (k := 3) (fun _ => rfl) rfl h.own with ⟨rfl, -⟩ | ⟨g, cap, rfl, hcap, -, hg, hat⟩
  · simp at hi
  obtain ⟨d0, d1, d2⟩ := vat_cells hat i hi
  simp only [Nat.zero_add] at d0 d1 d2
  have c0 := h.c0
  obtain ⟨x, ex⟩ : ∃ x, l[i] = x := ⟨_, rfl⟩
  rw [ex] at d0 d1 d2 ⊢
  have hcall := fun W (hg : Grows w W) => asked_any k x t c W ((hg.cell (block_lt_of_cell hc)).trans hc)
  obtain ⟨n, en⟩ : ∃ n, l.length = n := ⟨_, rfl⟩
  rw [en] at hi c0 hm
  have i1 : (0 : Int) ≤ (i : Int) := by omega
  have i2 : (i : Int) < (n : Int) := by omega
  have b0 : b < w.heap.size := block_lt_of_cell c0
  have b1 : c1 < w.heap.size := block_lt_of_cell h1
  have b2 : c2 < w.heap.size := block_lt_of_cell h2
  obtain ⟨r, er⟩ : ∃ r, k.of t x = r := ⟨_, rfl⟩
  rw [er] at hcall ⊢
  have HCALL := Lib.hid hcall
  clear hcall h hat ex en er hc
  cases k
  · have HC2 : Hid (∀ W, Grows w W → Calls Try.prog 57 #[x.val, .pointer (some ⟨c, 0, none⟩)] W (RetV W (.bool r))) := Lib.hid HCALL.out
    have h1' : w.cell? ⟨c1, 0, none⟩ = some (.func (.func 57) #[] #[.pointer (some ⟨c, 0, none⟩)]) := h1
    clear HCALL h1
    go_enter Try.func71, Try.ntmps71
    go_wp2_with fail
    refine wp_region_tail_reg 8 (by kernel_rfl) (by kernel_rfl) (by kernel_rfl) (by kernel_rfl) ?_
    simp only [List.take_succ_cons, List.take_zero, List.drop_succ_cons, List.drop_zero]
    repeat (first | go_big_quiet_step ((fail)) | quiet_step ((fail)))
    refine wpQuiet_nil ?_
    intro _ hcw1
    obtain ⟨pq, hcw2⟩ := hcw1
    subst hcw2
    go_wp2_with fail
    refine (HC2.out _ (by show Below w.heap.size w _; (repeat (first | with_reducible exact Below.refl _ _ | with_reducible refine bl_alloc ?_ _ | ((with_reducible refine bl_set ?_ ?_ _); rotate_left; (first | exact Nat.le_refl _ | exact Nat.le_succ_of_le (Nat.le_refl _) | (simp only []; omega))) | with_reducible refine bl_drewN ?_ _ | with_reducible refine bl_drew ?_ | with_reducible refine bl_reg ?_ _)))).mono ?_
    rintro e w2 ⟨rfl, hb⟩
    have HB := Lib.hid hb
    clear hb
    go_wp2_with fail
    go_ret
    exact ⟨rfl, grows_trans _ _ _ (by show Below w.heap.size w _; (repeat (first | with_reducible exact Below.refl _ _ | with_reducible refine bl_alloc ?_ _ | ((with_reducible refine bl_set ?_ ?_ _); rotate_left; (first | exact Nat.le_refl _ | exact Nat.le_succ_of_le (Nat.le_refl _) | (simp only []; omega))) | with_reducible refine bl_drewN ?_ _ | with_reducible refine bl_drew ?_ | with_reducible refine bl_reg ?_ _))) HB.out⟩
  · have HC2 : Hid (∀ W, Grows w W → Calls Try.prog 64 #[x.val, .pointer (some ⟨c, 0, none⟩)] W (RetV W (.bool r))) := Lib.hid HCALL.out
    have h1' : w.cell? ⟨c1, 0, none⟩ = some (.func (.func 64) #[] #[.pointer (some ⟨c, 0, none⟩)]) := h1
    clear HCALL h1
    go_enter Try.func71, Try.ntmps71
    go_wp2_with fail
    refine wp_region_tail_reg 8 (by kernel_rfl) (by kernel_rfl) (by kernel_rfl) (by kernel_rfl) ?_
    simp only [List.take_succ_cons, List.take_zero, List.drop_succ_cons, List.drop_zero]
    repeat (first | go_big_quiet_step ((fail)) | quiet_step ((fail)))
    refine wpQuiet_nil ?_
    intro _ hcw1
    obtain ⟨pq, hcw2⟩ := hcw1
    subst hcw2
    go_wp2_with fail
    refine (HC2.out _ (by show Below w.heap.size w _; (repeat (first | with_reducible exact Below.refl _ _ | with_reducible refine bl_alloc ?_ _ | ((with_reducible refine bl_set ?_ ?_ _); rotate_left; (first | exact Nat.le_refl _ | exact Nat.le_succ_of_le (Nat.le_refl _) | (simp only []; omega))) | with_reducible refine bl_drewN ?_ _ | with_reducible refine bl_drew ?_ | with_reducible refine bl_reg ?_ _)))).mono ?_
    rintro e w2 ⟨rfl, hb⟩
    have HB := Lib.hid hb
    clear hb
    go_wp2_with fail
    go_ret
    exact ⟨rfl, grows_trans _ _ _ (by show Below w.heap.size w _; (repeat (first | with_reducible exact Below.refl _ _ | with_reducible refine bl_alloc ?_ _ | ((with_reducible refine bl_set ?_ ?_ _); rotate_left; (first | exact Nat.le_refl _ | exact Nat.le_succ_of_le (Nat.le_refl _) | (simp only []; omega))) | with_reducible refine bl_drewN ?_ _ | with_reducible refine bl_drew ?_ | with_reducible refine bl_reg ?_ _))) HB.out⟩

/-- What before tells of the place k: the view ahead of it. -/
def ahead (l : List VW) (k : Nat) : Value := .tuple #[(if k = 0 then (⟨0, 0, 0⟩ : VW) else l.getD (k - 1) ⟨0, 0, 0⟩).val, .bool (decide (k ≠ 0))]
theorem before_nil (w : World) (fn : Fn) (caps : Array Value) : Calls Try.prog 56 #[.pointer none, .func fn #[] caps] w (RetV w (.tuple #[(⟨0, 0, 0⟩ : VW).val, .bool false])) := by
  go_enter Try.func56, Try.ntmps56
  go_wp2_with fail
  exact bodyPost_ret (v := .tuple #[(⟨0, 0, 0⟩ : VW).val, .bool false]) (by simp [results, Try.results56, go_sem]) rfl ⟨rfl, by (repeat (first | with_reducible exact Below.refl _ _ | with_reducible refine bl_alloc ?_ _ | ((with_reducible refine bl_set ?_ ?_ _); rotate_left; (first | exact Nat.le_refl _ | exact Nat.le_succ_of_le (Nat.le_refl _) | (simp only []; omega))) | with_reducible refine bl_drewN ?_ _ | with_reducible refine bl_drew ?_ | with_reducible refine bl_reg ?_ _))⟩
/-- What is found of a list of views. -/
def FoundIn (k : Asked) (t : Int) (l : List VW) (i : Nat) : Prop := Found (fun j => k.of t (l.getD j ⟨0, 0, 0⟩)) l.length i
theorem before_any (w : World) {base b : Nat} {v : Value} {l : List VW} (h : ViewsAt w base b v l) (hm : l.length ≤ 1000000) (k : Asked) (t : Int) (c : Nat) (hc : w.cell? ⟨c, 0, none⟩ = some (.int .i64 t)) :
    Calls Try.prog 56 #[.pointer (some ⟨b, 0, none⟩), .func (.func k.fid) #[] #[.pointer (some ⟨c, 0, none⟩)]] w (fun e w' => ∃ i, FoundIn k t l i ∧ e = .returned (ahead l i) ∧ Grows w w') := by
  obtain ⟨fn, efv⟩ : ∃ fn : Fn, .func k.fid = fn := ⟨_, rfl⟩
  have c0 := h.c0
  have b0 : b < w.heap.size := block_lt_of_cell c0
  have hcv : c < w.heap.size := block_lt_of_cell hc
  have hsr : ∀ W : World, Grows w W → W.cell? ⟨w.heap.size + 1, 0, none⟩ = some (.func fn #[] #[.pointer (some ⟨c, 0, none⟩)]) → W.cell? ⟨w.heap.size, 0, none⟩ = some (.pointer (some ⟨b, 0, none⟩)) →
      Calls Try.prog 70 #[.int .i64 (l.length : Int), .func (.func 71) #[] #[.pointer (some ⟨w.heap.size + 1, 0, none⟩), .pointer (some ⟨w.heap.size, 0, none⟩)]] W (fun e w' => ∃ i : Nat, e = .returned (.int .i64 (i : Int)) ∧ FoundIn k t l i ∧ Grows W w') := by
    intro W hg h1 h2
    refine search_any _ _ l.length (fun j => k.of t (l.getD j ⟨0, 0, 0⟩)) W hm ?_
    intro W2 hg2 j hj
    have := beforeTest_at W2 ((h.grows hg).grows hg2) hm k t c (w.heap.size + 1) w.heap.size (((hg2.cell (Nat.lt_of_lt_of_le hcv hg.size)).trans (hg.cell hcv)).trans hc) (((hg2.cell (block_lt_of_cell h1)).trans h1).trans (by rw [efv])) ((hg2.cell (block_lt_of_cell h2)).trans h2) j hj
    have e : l.getD j ⟨0, 0, 0⟩ = l[j] := by rw [List.getD_eq_getElem?_getD, List.getElem?_eq_getElem hj]; rfl
    rw [e]
    exact this
  have hcells : ∀ i, 0 < i → i ≤ l.length → ∃ g cap, v = .slice (some ⟨g, 0, none⟩) l.length cap ∧ g < w.heap.size ∧ w.cell? ⟨g, (i - 1) * 3, none⟩ = some (.int .i64 (l.getD (i - 1) ⟨0, 0, 0⟩).no) ∧ w.cell? ⟨g, (i - 1) * 3 + 1, none⟩ = some (.int .i64 (l.getD (i - 1) ⟨0, 0, 0⟩).tm) ∧ w.cell? ⟨g, (i - 1) * 3 + 2, none⟩ = some (.int .u64 ((l.getD (i - 1) ⟨0, 0, 0⟩).set : Int)) := by
    intro i h0 h1
    rcases own_rows (f := vv) (k := 3) (fun _ => rfl) rfl h.own with ⟨rfl, -⟩ | ⟨g, cap, rfl, hcap, -, hg, hat⟩
    · simp at h1; omega
    · have e : l.getD (i - 1) ⟨0, 0, 0⟩ = l[i - 1] := by rw [List.getD_eq_getElem?_getD, List.getElem?_eq_getElem (by omega)]; rfl
      rw [e]
      have := vat_cells hat (i - 1) (by omega)
      simp only [Nat.zero_add] at this
      exact ⟨g, cap, rfl, hg, this⟩
  have HSR := Lib.hid hsr
  have HCL := Lib.hid hcells
  obtain ⟨a, cap, rfl⟩ : ∃ a cap, v = .slice a l.length cap := (vown_has h.own).len
  obtain ⟨n, en⟩ : ∃ n, l.length = n := ⟨_, rfl⟩
  have EN := Lib.hid en
  rw [en] at c0 HSR HCL hm
  rw [efv]
  clear hsr hcells h hc efv en
  go_enter Try.func56, Try.ntmps56
  go_wp2_with fail
  refine (HSR.out _ (by show Below w.heap.size w _; (repeat (first | with_reducible exact Below.refl _ _ | with_reducible refine bl_alloc ?_ _ | ((with_reducible refine bl_set ?_ ?_ _); rotate_left; (first | exact Nat.le_refl _ | exact Nat.le_succ_of_le (Nat.le_refl _) | (simp only []; omega))) | with_reducible refine bl_drewN ?_ _ | with_reducible refine bl_drew ?_ | with_reducible refine bl_reg ?_ _))) (by simp [go_sem]) (by simp [go_sem])).mono ?_
  rintro e w2 ⟨i, rfl, hf, hg⟩
  have HF := Lib.hid hf
  have hin : i ≤ n := by rw [← EN.out]; exact hf.1
  obtain ⟨p, rfl⟩ := regr hg
  clear hg hf HSR
  by_cases hi : i = 0
  · subst hi
    go_wp2_with fail
    exact bodyPost_ret (v := .tuple #[(⟨0, 0, 0⟩ : VW).val, .bool false]) (by simp [results, Try.results56, go_sem]) rfl ⟨0, HF.out, rfl, by show Below w.heap.size w _; (repeat (first | with_reducible exact Below.refl _ _ | with_reducible refine bl_alloc ?_ _ | ((with_reducible refine bl_set ?_ ?_ _); rotate_left; (first | exact Nat.le_refl _ | exact Nat.le_succ_of_le (Nat.le_refl _) | (simp only []; omega))) | with_reducible refine bl_drewN ?_ _ | with_reducible refine bl_drew ?_ | with_reducible refine bl_reg ?_ _))⟩
  · obtain ⟨g, cap2, hv, hg, d0, d1, d2⟩ := HCL.out i (by omega) hin
    obtain ⟨rfl, rfl⟩ : a = some ⟨g, 0, none⟩ ∧ cap = cap2 := by
      simp only [Value.slice.injEq, true_and] at hv
      exact hv
    have hah : ahead l i = .tuple #[(l.getD (i - 1) ⟨0, 0, 0⟩).val, .bool true] := by unfold ahead; simp [hi]
    have HAH := Lib.hid hah
    obtain ⟨x, ex⟩ : ∃ x, l.getD (i - 1) ⟨0, 0, 0⟩ = x := ⟨_, rfl⟩
    rw [ex] at d0 d1 d2 HAH
    obtain ⟨m, rfl⟩ : ∃ m, i = m + 1 := ⟨i - 1, by omega⟩
    simp only [Nat.add_sub_cancel] at d0 d1 d2
    have j1 : ((m : Int) + 1) - 1 = (m : Int) := by omega
    have j2 : (0 : Int) ≤ (m : Int) := by omega
    have j3 : (m : Int) < (n : Int) := by omega
    have q1 : g < w.heap.size + 1 := by omega
    have q2 : g < w.heap.size + 1 + 1 := by omega
    have q3 : g < w.heap.size + 1 + 1 + 1 := by omega
    clear hv HCL hah ex hi
    go_wp2_with fail
    exact bodyPost_ret (v := .tuple #[x.val, .bool true]) (by simp [results, Try.results56, go_sem]) rfl ⟨m + 1, HF.out, by rw [HAH.out], by show Below w.heap.size w _; (repeat (first | with_reducible exact Below.refl _ _ | with_reducible refine bl_alloc ?_ _ | ((with_reducible refine bl_set ?_ ?_ _); rotate_left; (first | exact Nat.le_refl _ | exact Nat.le_succ_of_le (Nat.le_refl _) | (simp only []; omega))) | with_reducible refine bl_drewN ?_ _ | with_reducible refine bl_drew ?_ | with_reducible refine bl_reg ?_ _))⟩
end Go.Proofs.Ytkihhdoejpjbbaa
