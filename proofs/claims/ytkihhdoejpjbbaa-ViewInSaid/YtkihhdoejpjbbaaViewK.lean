/- Views: the view of a time, the view with a number; what these are, of views that rise. -/
import Derived.Test.YtkihhdoejpjbbaaViewJ
namespace Go.Proofs.Ytkihhdoejpjbbaa
open Go.RowKit Go.Sort
set_option maxHeartbeats 2000000
set_option maxRecDepth 100000

theorem at_nil (w : World) (t : Int) : Calls Try.prog 26 #[.pointer none, .int .i64 t] w (RetV w (.tuple #[(⟨0, 0, 0⟩ : VW).val, .bool false])) := by
  have HC := Lib.hid (fun W fn caps => before_nil W fn caps)
  go_enter Try.func26, Try.ntmps26
  go_wp2_with fail
  refine (HC.out _ _ _).mono ?_
  rintro e w2 ⟨rfl, hb⟩
  obtain ⟨p, rfl⟩ := regr hb
  clear hb
  go_wp2_with fail
  exact bodyPost_ret (v := .tuple #[(⟨0, 0, 0⟩ : VW).val, .bool false]) (by simp [results, Try.results26, go_sem]) rfl ⟨rfl, by (repeat (first | with_reducible exact Below.refl _ _ | with_reducible refine bl_alloc ?_ _ | ((with_reducible refine bl_set ?_ ?_ _); rotate_left; (first | exact Nat.le_refl _ | exact Nat.le_succ_of_le (Nat.le_refl _) | (simp only []; omega))) | with_reducible refine bl_drewN ?_ _ | with_reducible refine bl_drew ?_ | with_reducible refine bl_reg ?_ _))⟩
theorem of_nil (w : World) (t : Int) : Calls Try.prog 37 #[.pointer none, .int .i64 t] w (RetV w (.tuple #[(⟨0, 0, 0⟩ : VW).val, .bool false])) := by
  have HC := Lib.hid (fun W fn caps => before_nil W fn caps)
  go_enter Try.func37, Try.ntmps37
  go_wp2_with fail
  refine (HC.out _ _ _).mono ?_
  rintro e w2 ⟨rfl, hb⟩
  obtain ⟨p, rfl⟩ := regr hb
  clear hb
  go_wp2_with fail
  exact bodyPost_ret (v := .tuple #[(⟨0, 0, 0⟩ : VW).val, .bool false]) (by simp [results, Try.results37, go_sem]) rfl ⟨rfl, by (repeat (first | with_reducible exact Below.refl _ _ | with_reducible refine bl_alloc ?_ _ | ((with_reducible refine bl_set ?_ ?_ _); rotate_left; (first | exact Nat.le_refl _ | exact Nat.le_succ_of_le (Nat.le_refl _) | (simp only []; omega))) | with_reducible refine bl_drewN ?_ _ | with_reducible refine bl_drew ?_ | with_reducible refine bl_reg ?_ _))⟩

def aheadV (l : List VW) (k : Nat) : VW := if k = 0 then ⟨0, 0, 0⟩ else l.getD (k - 1) ⟨0, 0, 0⟩
theorem at_any (w : World) {base b : Nat} {v : Value} {l : List VW} (h : ViewsAt w base b v l) (hm : l.length ≤ 1000000) (t : Int) :
    Calls Try.prog 26 #[.pointer (some ⟨b, 0, none⟩), .int .i64 t] w (fun e w' => ∃ i, FoundIn .tm t l i ∧ e = .returned (.tuple #[(aheadV l i).val, .bool (decide (i ≠ 0))]) ∧ Grows w w') := by
  have hcl := fun W (hg : Grows w W) (c : Nat) (hc : W.cell? ⟨c, 0, none⟩ = some (.int .i64 t)) => before_any W (h.grows hg) hm .tm t c hc
  have HC := Lib.hid hcl
  clear hcl h
  go_enter Try.func26, Try.ntmps26
  go_wp2_with fail
  refine (HC.out _ (by show Below w.heap.size w _; (repeat (first | with_reducible exact Below.refl _ _ | with_reducible refine bl_alloc ?_ _ | ((with_reducible refine bl_set ?_ ?_ _); rotate_left; (first | exact Nat.le_refl _ | exact Nat.le_succ_of_le (Nat.le_refl _) | (simp only []; omega))) | with_reducible refine bl_drewN ?_ _ | with_reducible refine bl_drew ?_ | with_reducible refine bl_reg ?_ _))) w.heap.size (by simp [go_sem])).mono ?_
  rintro e w2 ⟨i, hf, rfl, hg⟩
  have HF := Lib.hid hf
  obtain ⟨p, rfl⟩ := regr hg
  clear hg hf
  have ha : ahead l i = .tuple #[(aheadV l i).val, .bool (decide (i ≠ 0))] := rfl
  rw [ha]
  obtain ⟨x, ex⟩ : ∃ x, aheadV l i = x := ⟨_, rfl⟩
  obtain ⟨q, eq⟩ : ∃ q, decide (i ≠ 0) = q := ⟨_, rfl⟩
  rw [ex, eq]
  have EX := Lib.hid ex
  have EQ := Lib.hid eq
  clear ex eq ha
  go_wp2_with fail
  exact bodyPost_ret (v := .tuple #[x.val, .bool q]) (by simp [results, Try.results26, go_sem]) rfl ⟨i, HF.out, by rw [EX.out, EQ.out], by show Below w.heap.size w _; (repeat (first | with_reducible exact Below.refl _ _ | with_reducible refine bl_alloc ?_ _ | ((with_reducible refine bl_set ?_ ?_ _); rotate_left; (first | exact Nat.le_refl _ | exact Nat.le_succ_of_le (Nat.le_refl _) | (simp only []; omega))) | with_reducible refine bl_drewN ?_ _ | with_reducible refine bl_drew ?_ | with_reducible refine bl_reg ?_ _))⟩
/-- What Of tells of the place k. -/
def ofB (l : List VW) (no : Int) (k : Nat) : Bool := decide (k ≠ 0) && decide ((aheadV l k).no = no)
def ofV (l : List VW) (no : Int) (k : Nat) : VW := if ofB l no k then aheadV l k else ⟨0, 0, 0⟩
theorem of_any (w : World) {base b : Nat} {v : Value} {l : List VW} (h : ViewsAt w base b v l) (hm : l.length ≤ 1000000) (no : Int) :
    Calls Try.prog 37 #[.pointer (some ⟨b, 0, none⟩), .int .i64 no] w (fun e w' => ∃ i, FoundIn .no no l i ∧ e = .returned (.tuple #[(ofV l no i).val, .bool (ofB l no i)]) ∧ Grows w w') := by
  have hcl := fun W (hg : Grows w W) (c : Nat) (hc : W.cell? ⟨c, 0, none⟩ = some (.int .i64 no)) => before_any W (h.grows hg) hm .no no c hc
  have HC := Lib.hid hcl
  clear hcl h
  go_enter Try.func37, Try.ntmps37
  go_wp2_with fail
  refine (HC.out _ (by show Below w.heap.size w _; (repeat (first | with_reducible exact Below.refl _ _ | with_reducible refine bl_alloc ?_ _ | ((with_reducible refine bl_set ?_ ?_ _); rotate_left; (first | exact Nat.le_refl _ | exact Nat.le_succ_of_le (Nat.le_refl _) | (simp only []; omega))) | with_reducible refine bl_drewN ?_ _ | with_reducible refine bl_drew ?_ | with_reducible refine bl_reg ?_ _))) w.heap.size (by simp [go_sem])).mono ?_
  rintro e w2 ⟨i, hf, rfl, hg⟩
  have HF := Lib.hid hf
  obtain ⟨p, rfl⟩ := regr hg
  clear hg hf
  have ha : ahead l i = .tuple #[(aheadV l i).val, .bool (decide (i ≠ 0))] := rfl
  rw [ha]
  have hb : ofB l no i = (decide (i ≠ 0) && decide ((aheadV l i).no = no)) := rfl
  have hv : ofV l no i = if ofB l no i then aheadV l i else ⟨0, 0, 0⟩ := rfl
  obtain ⟨x, ex⟩ : ∃ x, aheadV l i = x := ⟨_, rfl⟩
  rw [ex] at hb hv ⊢
  have HB := Lib.hid hb
  have HV := Lib.hid hv
  clear ex ha hb hv
  by_cases hi : i = 0
  · subst hi
    go_wp2_with fail
    exact bodyPost_ret (v := .tuple #[(⟨0, 0, 0⟩ : VW).val, .bool false]) (by simp [results, Try.results37, go_sem]) rfl ⟨0, HF.out, by rw [HV.out, HB.out]; simp, by show Below w.heap.size w _; (repeat (first | with_reducible exact Below.refl _ _ | with_reducible refine bl_alloc ?_ _ | ((with_reducible refine bl_set ?_ ?_ _); rotate_left; (first | exact Nat.le_refl _ | exact Nat.le_succ_of_le (Nat.le_refl _) | (simp only []; omega))) | with_reducible refine bl_drewN ?_ _ | with_reducible refine bl_drew ?_ | with_reducible refine bl_reg ?_ _))⟩
  · have hd : decide (i ≠ 0) = true := by simpa using hi
    have HI := Lib.hid hi
    rw [hd]
    clear hd hi
    by_cases hx : x.no = no
    · have h1 : (x.no != no) = false := by simp [hx]
      have HX := Lib.hid hx
      clear hx
      go_wp2_with fail
      exact bodyPost_ret (v := .tuple #[x.val, .bool true]) (by simp [results, Try.results37, go_sem]) rfl ⟨i, HF.out, by rw [HV.out, HB.out]; simp [HI.out, HX.out], by show Below w.heap.size w _; (repeat (first | with_reducible exact Below.refl _ _ | with_reducible refine bl_alloc ?_ _ | ((with_reducible refine bl_set ?_ ?_ _); rotate_left; (first | exact Nat.le_refl _ | exact Nat.le_succ_of_le (Nat.le_refl _) | (simp only []; omega))) | with_reducible refine bl_drewN ?_ _ | with_reducible refine bl_drew ?_ | with_reducible refine bl_reg ?_ _))⟩
    · have h1 : (x.no != no) = true := by simp [hx]
      have HX := Lib.hid hx
      clear hx
      go_wp2_with fail
      exact bodyPost_ret (v := .tuple #[(⟨0, 0, 0⟩ : VW).val, .bool false]) (by simp [results, Try.results37, go_sem]) rfl ⟨i, HF.out, by rw [HV.out, HB.out]; simp [HX.out], by show Below w.heap.size w _; (repeat (first | with_reducible exact Below.refl _ _ | with_reducible refine bl_alloc ?_ _ | ((with_reducible refine bl_set ?_ ?_ _); rotate_left; (first | exact Nat.le_refl _ | exact Nat.le_succ_of_le (Nat.le_refl _) | (simp only []; omega))) | with_reducible refine bl_drewN ?_ _ | with_reducible refine bl_drew ?_ | with_reducible refine bl_reg ?_ _))⟩

/-! Views that rise. -/
def Rises (l : List VW) : Prop := l.Pairwise fun x y => x.no < y.no ∧ x.tm ≤ y.tm
theorem rises_last {l : List VW} (h : Rises l) (h0 : l ≠ []) : ∀ x ∈ l, x = lastV l ∨ (x.no < (lastV l).no ∧ x.tm ≤ (lastV l).tm) := by
  intro x hx
  obtain ⟨i, hi, rfl⟩ := List.getElem_of_mem hx
  have hp : 0 < l.length := List.length_pos_iff.2 h0
  rw [last_get hp]
  by_cases e : i = l.length - 1
  · subst e; exact .inl rfl
  · exact .inr ((List.pairwise_iff_getElem.1 h) i (l.length - 1) hi (by omega) (by omega))
theorem rises_step {l : List VW} {x : VW} (h : Rises l) : Rises (instStep l x) := by
  unfold instStep
  split
  · rename_i hit
    rw [inTime_iff] at hit
    unfold Rises
    rw [List.pairwise_append]
    refine ⟨h, by simp, fun y hy z hz => ?_⟩
    simp only [List.mem_singleton] at hz
    subst hz
    have h0 : l ≠ [] := fun hc => by rw [hc] at hy; simp at hy
    have hl := hit.resolve_left h0
    rcases rises_last h h0 y hy with rfl | h2
    · exact hl
    · omega
  · exact h
theorem rises_all (l : List VW) : Rises (instAll l) := by
  have key : ∀ k, k ≤ l.length → Rises (instAll (l.take k)) := by
    intro k
    induction k with
    | zero => intro _; simp [instAll, Rises]
    | succ k ih =>
      intro hk
      rw [instAll_take l k (by omega)]
      exact rises_step (ih (by omega))
  have := key l.length (Nat.le_refl _)
  rwa [List.take_length] at this
theorem rises_made (l : List VW) : Rises (madeN l) := rises_all _

theorem getD_at {l : List VW} {i : Nat} (h : i < l.length) : l.getD i ⟨0, 0, 0⟩ = l[i] := by
  rw [List.getD_eq_getElem?_getD, List.getElem?_eq_getElem h]; rfl
/-- All ahead of what was found fail the test, all from there on pass it. -/
theorem found_all {k : Asked} {t : Int} {l : List VW} {i : Nat} (hr : Rises l) (h : FoundIn k t l i) : i ≤ l.length ∧ (∀ j, (hj : j < l.length) → (k.of t l[j] = true ↔ i ≤ j)) := by
  obtain ⟨h1, h2, h3⟩ := h
  have hmono : ∀ a b, (ha : a < l.length) → (hb : b < l.length) → a ≤ b → k.of t l[a] = true → k.of t l[b] = true := by
    intro a b ha hb hab hp
    by_cases e : a = b
    · subst e; exact hp
    · have := (List.pairwise_iff_getElem.1 hr) a b ha hb (by omega)
      cases k
      · simp only [Asked.of, decide_eq_true_eq] at hp ⊢; omega
      · simp only [Asked.of, decide_eq_true_eq] at hp ⊢; omega
  refine ⟨h1, fun j hj => ⟨fun hp => ?_, fun hij => ?_⟩⟩
  · apply Decidable.byContradiction
    intro hc
    have h4 : k.of t (l.getD (i - 1) ⟨0, 0, 0⟩) = false := h2 (by omega)
    rw [getD_at (by omega)] at h4
    have := hmono j (i - 1) hj (by omega) (by omega) hp
    rw [h4] at this
    cases this
  · have h4 : k.of t (l.getD i ⟨0, 0, 0⟩) = true := h3 (by omega)
    rw [getD_at (by omega)] at h4
    exact hmono i j (by omega) hj hij h4

/-- The document's At is the one ahead. -/
theorem atN_found {t : Int} {l : List VW} {i : Nat} (hr : Rises l) (h : FoundIn .tm t l i) : atN l t = (i : Int) - 1 := by
  obtain ⟨h1, h2⟩ := found_all hr h
  have key : ∀ k, k ≤ l.length → atTo l t k = (min i k : Nat) - 1 := by
    intro k
    induction k with
    | zero => intro _; simp [atTo]
    | succ k ih =>
      intro hk
      have h3 := h2 k (by omega)
      unfold atTo
      rw [getD_at (by omega), ih (by omega)]
      simp only [Asked.of, decide_eq_true_eq] at h3
      split
      · rename_i hle
        have : ¬ i ≤ k := fun hc => by have := h3.2 hc; omega
        omega
      · rename_i hle
        have : i ≤ k := h3.1 (by omega)
        omega
  have := key l.length (Nat.le_refl _)
  unfold atN
  rw [this, Nat.min_eq_left h1]
end Go.Proofs.Ytkihhdoejpjbbaa
