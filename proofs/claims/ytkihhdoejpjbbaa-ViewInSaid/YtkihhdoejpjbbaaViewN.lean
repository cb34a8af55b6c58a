/- Views that rise, and their spans: a node is in the view of a time just if that lies in one of its spans. -/
import Derived.Test.YtkihhdoejpjbbaaViewK
namespace Go.Proofs.Ytkihhdoejpjbbaa
open Go.RowKit Go.Sort

/-- The last view of the first k whose time is not above t. -/
def lastTo (l : List VW) (t : Int) : Nat → VW
  | 0 => ⟨0, 0, 0⟩
  | k + 1 => if (l.getD k ⟨0, 0, 0⟩).tm ≤ t then l.getD k ⟨0, 0, 0⟩ else lastTo l t k
theorem lastTo_found {t : Int} {l : List VW} {i : Nat} (hr : Rises l) (h : FoundIn .tm t l i) : aheadV l i = lastTo l t l.length := by
  obtain ⟨h1, h2⟩ := found_all hr h
  have key : ∀ k, k ≤ l.length → lastTo l t k = aheadV l (min i k) := by
    intro k
    induction k with
    | zero => intro _; simp [lastTo, aheadV]
    | succ k ih =>
      intro hk
      have h3 := h2 k (by omega)
      unfold lastTo
      rw [getD_at (by omega), ih (by omega)]
      simp only [Asked.of, decide_eq_true_eq] at h3
      split
      · rename_i hle
        have : ¬ i ≤ k := fun hc => by have := h3.2 hc; omega
        rw [Nat.min_eq_right (by omega)]
        unfold aheadV
        rw [if_neg (by omega), Nat.add_sub_cancel, getD_at (by omega)]
      · rename_i hle
        have : i ≤ k := h3.1 (by omega)
        rw [Nat.min_eq_left (by omega), Nat.min_eq_left (by omega)]
  rw [key _ (Nat.le_refl _), Nat.min_eq_left h1]

/-- Does a span hold a time? -/
def inSpan (t : Int) (p : Int × Int) : Bool := decide (p.1 ≤ t) && (decide (p.2 = -1) || decide (t < p.2))
/-- A span that has ended, at the time of one of the first k views. -/
def Closed (l : List VW) (k : Nat) (p : Int × Int) : Prop := p.1 ≤ p.2 ∧ ∃ m, ∃ h : m < l.length, m < k ∧ p.2 = l[m].tm
def SpInv (l : List VW) (k : Nat) (st : List (Int × Int) × Bool) : Prop :=
  (st.2 = true → ∃ o s, st.1 = o ++ [(s, -1)] ∧ (∃ m, ∃ h : m < l.length, m < k ∧ s = l[m].tm) ∧ ∀ p ∈ o, Closed l k p) ∧ (st.2 = false → ∀ p ∈ st.1, Closed l k p)
theorem Closed.more {l : List VW} {k : Nat} {p : Int × Int} (h : Closed l k p) : Closed l (k + 1) p := by
  obtain ⟨h1, m, h2, h3, h4⟩ := h
  exact ⟨h1, m, h2, by omega, h4⟩
theorem rises_tm {l : List VW} (hr : Rises l) {a b : Nat} (ha : a < l.length) (hb : b < l.length) (hab : a ≤ b) : l[a].tm ≤ l[b].tm := by
  by_cases e : a = b
  · subst e; exact Int.le_refl _
  · exact ((List.pairwise_iff_getElem.1 hr) a b ha hb (by omega)).2
theorem setEnd_snoc (o : List (Int × Int)) (s t : Int) : setEnd (o ++ [(s, -1)]) t = o ++ [(s, t)] := by
  unfold setEnd
  have h1 : (o ++ [(s, (-1 : Int))]).length - 1 = o.length := by simp
  rw [h1, List.getD_eq_getElem?_getD, List.getElem?_append_right (Nat.le_refl _), Nat.sub_self]
  simp

theorem spInv_all (n : Int) {l : List VW} (hr : Rises l) : ∀ k, k ≤ l.length → SpInv l k (spFold n (l.take k)) := by
  intro k
  induction k with
  | zero => intro _; exact ⟨fun h => by simp [spFold] at h, fun _ p hp => by simp [spFold] at hp⟩
  | succ k ih =>
    intro hk
    obtain ⟨h1, h2⟩ := ih (by omega)
    rw [spFold_take n l k (by omega)]
    obtain ⟨⟨out, b⟩, he⟩ : ∃ st, spFold n (l.take k) = st := ⟨_, rfl⟩
    rw [he] at h1 h2 ⊢
    unfold spStep
    simp only at h1 h2 ⊢
    cases hx : hasN l[k].set n <;> cases b
    · exact ⟨fun h => by simp at h, fun _ p hp => (h2 rfl p (by simpa using hp)).more⟩
    · obtain ⟨o, s, rfl, ⟨m, hm, hmk, hs⟩, ho⟩ := h1 rfl
      refine ⟨fun h => by simp at h, fun _ p hp => ?_⟩
      simp only [Bool.false_eq_true, if_false, if_true, setEnd_snoc, List.mem_append, List.mem_singleton] at hp
      rcases hp with hp | rfl
      · exact (ho p hp).more
      · exact ⟨by show s ≤ l[k].tm; rw [hs]; exact rises_tm hr hm (by omega) (by omega), k, by omega, by omega, rfl⟩
    · refine ⟨fun _ => ⟨out, l[k].tm, by simp, ⟨k, by omega, by omega, rfl⟩, fun p hp => (h2 rfl p hp).more⟩, fun h => by simp at h⟩
    · obtain ⟨o, s, rfl, ⟨m, hm, hmk, hs⟩, ho⟩ := h1 rfl
      exact ⟨fun _ => ⟨o, s, by simp, ⟨m, hm, by omega, hs⟩, fun p hp => (ho p hp).more⟩, fun h => by simp at h⟩

/-- No span ends ahead of its beginning. -/
theorem spans_right (n : Int) {l : List VW} (hr : Rises l) : ∀ p ∈ spansN n l, p.2 = -1 ∨ p.1 ≤ p.2 := by
  intro p hp
  have h := spInv_all n hr l.length (Nat.le_refl _)
  rw [List.take_length] at h
  unfold spansN at hp
  cases hb : (spFold n l).2
  · exact .inr (h.2 hb p hp).1
  · obtain ⟨o, s, he, -, ho⟩ := h.1 hb
    rw [he] at hp
    rcases List.mem_append.1 hp with h1 | h1
    · exact .inr (ho p h1).1
    · simp only [List.mem_singleton] at h1; subst h1; exact .inl rfl

/-- In the view of a time just if in one of the spans. -/
theorem spans_in (n t : Int) {l : List VW} (hr : Rises l) (h0 : ∀ x ∈ l, 0 ≤ x.tm) : (spansN n l).any (inSpan t) = hasN (lastTo l t l.length).set n := by
  have hz : hasN 0 n = false := by simp [hasN]
  have key : ∀ k, k ≤ l.length → (spFold n (l.take k)).1.any (inSpan t) = hasN (lastTo l t k).set n := by
    intro k
    induction k with
    | zero => intro _; rw [show lastTo l t 0 = ⟨0, 0, 0⟩ from rfl, hz]; rfl
    | succ k ih =>
      intro hk
      have hi := ih (by omega)
      obtain ⟨h1, h2⟩ := spInv_all n hr k (by omega)
      have hlt : lastTo l t (k + 1) = if l[k].tm ≤ t then l[k] else lastTo l t k := by
        show (if (l.getD k ⟨0, 0, 0⟩).tm ≤ t then l.getD k ⟨0, 0, 0⟩ else lastTo l t k) = _
        rw [getD_at (by omega)]
      have hclosed : ∀ p, Closed l k p → l[k].tm ≤ t → inSpan t p = false := by
        rintro p ⟨-, m, hm, hmk, he⟩ hle
        have h3 := rises_tm hr hm (show k < l.length by omega) (by omega)
        have h4 := h0 _ (List.getElem_mem hm)
        simp only [inSpan, Bool.and_eq_false_iff, Bool.or_eq_false_iff, decide_eq_false_iff_not]
        omega
      have hnoneO : ∀ o : List (Int × Int), (∀ p ∈ o, Closed l k p) → l[k].tm ≤ t → o.any (inSpan t) = false := by
        intro o ho hle
        rw [List.any_eq_false]
        intro p hp
        rw [hclosed p (ho p hp) hle]
        simp
      have hk0 := h0 _ (List.getElem_mem (show k < l.length by omega))
      rw [spFold_take n l k (by omega), hlt]
      obtain ⟨⟨out, b⟩, he⟩ : ∃ st, spFold n (l.take k) = st := ⟨_, rfl⟩
      rw [he] at h1 h2 hi ⊢
      unfold spStep
      simp only at h1 h2 hi ⊢
      by_cases hle : l[k].tm ≤ t
      · rw [if_pos hle]
        cases hx : hasN l[k].set n <;> cases b
        · simpa using hnoneO out (h2 rfl) hle
        · obtain ⟨o, s, rfl, -, ho⟩ := h1 rfl
          simp only [Bool.false_eq_true, if_false, if_true, setEnd_snoc, List.any_append, List.any_cons, List.any_nil, hnoneO o ho hle]
          simp only [inSpan, Bool.false_or, Bool.or_false, Bool.and_eq_false_iff, Bool.or_eq_false_iff, decide_eq_false_iff_not]
          omega
        · simp only [Bool.false_eq_true, if_false, if_true, List.any_append, List.any_cons, List.any_nil]
          simp [inSpan, hle]
        · obtain ⟨o, s, rfl, ⟨m, hm, hmk, hs⟩, ho⟩ := h1 rfl
          have h3 := rises_tm hr hm (show k < l.length by omega) (by omega)
          simp only [if_true, List.any_append, List.any_cons, List.any_nil]
          have : inSpan t (s, -1) = true := by simp [inSpan]; omega
          simp [this]
      · rw [if_neg hle]
        rw [← hi]
        cases hx : hasN l[k].set n <;> cases b
        · simp
        · obtain ⟨o, s, rfl, -, ho⟩ := h1 rfl
          simp only [Bool.false_eq_true, if_false, if_true, setEnd_snoc, List.any_append, List.any_cons, List.any_nil]
          congr 2
          simp only [inSpan]
          have e1 : decide (l[k].tm = -1) = false := by simp; omega
          have e2 : decide (t < l[k].tm) = true := by simp; omega
          simp [e1, e2]
        · simp only [Bool.false_eq_true, if_false, if_true, List.any_append, List.any_cons, List.any_nil]
          have e1 : inSpan t (l[k].tm, -1) = false := by simp [inSpan]; omega
          simp [e1]
        · simp
  have := key l.length (Nat.le_refl _)
  rwa [List.take_length] at this
end Go.Proofs.Ytkihhdoejpjbbaa
