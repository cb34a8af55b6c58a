/- Rows of elements of k cells each: plain laws; what a slice of the call's own gives. -/
import Derived.Test.YthdcmchjlpkkaaaDoorChg
namespace Go.Proofs.YthdcmchjlpkkaaaDoor
open Go.RowKit Go.Sort

theorem grows_of_grownBy {w w0 w1 : World} {r : Option Nat} (h0 : Grows w w0) (h : w0.grownBy w1 r) (hr : ∀ k, r = some k → w.heap.size ≤ k) : Grows w w1 := by
  refine ⟨h.os.trans h0.os, h.tape.trans h0.tape, h.output.trans h0.output, Nat.le_trans h0.size h.size, fun k hk => ?_⟩
  rw [h.block k (Nat.lt_of_lt_of_le hk h0.size) (fun hc => Nat.lt_irrefl _ (Nat.lt_of_lt_of_le hk (hr k hc.symm))), h0.block k hk]
theorem addr_add (b o j : Nat) : (⟨b, o, none⟩ : Addr).add j = ⟨b, o + j, none⟩ := by
  by_cases h : j = 0
  · subst h; simp [Addr.add]
  · simp [Addr.add, h]
section
variable {α : Type} {f : α → List Value} {k : Nat}
theorem rows_length (hf : ∀ a, (f a).length = k) (l : List α) : (l.flatMap f).length = l.length * k := by
  induction l with
  | nil => simp
  | cons a l ih => rw [List.flatMap_cons, List.length_append, ih, hf, List.length_cons, Nat.add_mul]; omega
theorem rows_get (hf : ∀ a, (f a).length = k) (l : List α) : ∀ i, (h : i < l.length) → ∀ j, j < k → (l.flatMap f)[i * k + j]? = (f l[i])[j]? := by
  induction l with
  | nil => intro i h; simp at h
  | cons a l ih =>
    intro i h j hj
    rw [List.flatMap_cons]
    cases i with
    | zero => rw [Nat.zero_mul, Nat.zero_add, List.getElem?_append_left (by rw [hf]; exact hj)]; rfl
    | succ i =>
      have := ih i (by simpa using h) j hj
      rw [Nat.succ_mul, List.getElem?_append_right (by rw [hf]; omega), hf, show i * k + k + j - k = i * k + j by omega, this]
      rfl
theorem rows_snoc (l : List α) (a : α) : l.flatMap f ++ f a = (l ++ [a]).flatMap f := by simp
theorem rows_append (l m : List α) : l.flatMap f ++ m.flatMap f = (l ++ m).flatMap f := by simp
theorem rows_take (hf : ∀ a, (f a).length = k) (l : List α) (n : Nat) : (l.flatMap f).take (n * k) = (l.take n).flatMap f := by
  induction l generalizing n with
  | nil => simp
  | cons a l ih =>
    cases n with
    | zero => simp
    | succ n =>
      rw [List.flatMap_cons, List.take_succ_cons, List.flatMap_cons, List.take_append, hf, List.take_of_length_le (by rw [hf]; rw [Nat.succ_mul]; omega), show (n + 1) * k - k = n * k by rw [Nat.succ_mul]; omega, ih]
theorem rows_set (hf : ∀ a, (f a).length = k) (l : List α) (i : Nat) (h : i < l.length) (j : Nat) (hj : j < k) (u : Value) (a : α) (ha : f a = (f l[i]).set j u) : (l.flatMap f).set (i * k + j) u = (l.set i a).flatMap f := by
  induction l generalizing i with
  | nil => simp at h
  | cons b l ih =>
    cases i with
    | zero =>
      rw [List.flatMap_cons, List.set_cons_zero, List.flatMap_cons, Nat.zero_mul, Nat.zero_add, List.set_append_left _ _ (by rw [hf]; exact hj), ha]
      rfl
    | succ i =>
      rw [List.flatMap_cons, List.set_cons_succ, List.flatMap_cons, List.set_append_right _ _ (by rw [hf, Nat.succ_mul]; omega), hf, Nat.succ_mul, show i * k + k + j - k = i * k + j by omega]
      rw [ih i (by simpa using h) (by simpa using ha)]
theorem rows_one (h1 : ∀ a, ∀ u ∈ f a, u.oneCell' = true) (l : List α) : ∀ u ∈ l.flatMap f, u.oneCell' = true := by
  intro u hu
  rw [List.mem_flatMap] at hu
  obtain ⟨a, _, ha⟩ := hu
  exact h1 a u ha
end

/-- The cells from o on in block b are the rows of l. -/
def RAt {α : Type} (f : α → List Value) (k : Nat) (w : World) (b o : Nat) (l : List α) : Prop := ∀ i, (h : i < l.length) → ∀ j, j < k → w.cell? ⟨b, o + i * k + j, none⟩ = (f l[i])[j]?
theorem RAt.chg {α : Type} {f : α → List Value} {k : Nat} {w w' : World} {b o : Nat} {l : List α} {S : Nat → Prop} (h : RAt f k w b o l) (hc : Chg S w w') (hb : b < w.heap.size) (hS : ¬ S b) : RAt f k w' b o l := fun i hi j hj =>
  (hc.cell (p := ⟨b, o + i * k + j, none⟩) hb hS).trans (h i hi j hj)
theorem RAt.grows {α : Type} {f : α → List Value} {k : Nat} {w w' : World} {b o : Nat} {l : List α} (h : RAt f k w b o l) (hc : Grows w w') (hb : b < w.heap.size) : RAt f k w' b o l := fun i hi j hj =>
  (hc.cell (p := ⟨b, o + i * k + j, none⟩) hb).trans (h i hi j hj)

/-- A slice of the call's own: nil and empty, or a row. -/
theorem own_rows {α : Type} {f : α → List Value} {k : Nat} (hf : ∀ a, (f a).length = k) {w : World} {base : Nat} {e : TypeId} {v : Value} {n : Nat} {l : List α} (hn : l.length = n) (h : w.ownsRow base e k v n (l.flatMap f)) :
    (l = [] ∧ v = .slice none 0 0) ∨ ∃ g cap, v = .slice (some ⟨g, 0, none⟩) n cap ∧ n ≤ cap ∧ base ≤ g ∧ g < w.heap.size ∧ RAt f k w g 0 l := by
  subst hn
  rcases h.2 with ⟨h1, h2⟩ | ⟨g, cap, cur, hv, hb, hg, h4, _⟩
  · exact .inl ⟨List.eq_nil_of_length_eq_zero h2, h1⟩
  · refine .inr ⟨g, cap, hv, h4, hb, (Array.getElem?_eq_some_iff.1 hg).1, fun i hi j hj => ?_⟩
    subst hv
    have hlt : i * k + j < l.length * k := by
      have : (i + 1) * k ≤ l.length * k := Nat.mul_le_mul_right _ hi
      rw [Nat.succ_mul] at this
      omega
    rw [Nat.zero_add, h.cellAt (i * k + j) hlt]
    exact rows_get hf l i hi j hj
end Go.Proofs.YthdcmchjlpkkaaaDoor
