/- Rising lists of numbers: what is put in, left out; two that have the same are the same. -/
import Derived.Test.YthdcmchjlpkkaaaDoorBase
namespace Go.Proofs.YthdcmchjlpkkaaaDoor
open Go.RowKit Go.Sort
abbrev NL := List (Int × Int)
abbrev Up (l : List Int) : Prop := l.Pairwise (· < ·)
/-- A rising list and one more. -/
def insR (x : Int) : List Int → List Int
  | [] => [x]
  | y :: t => if y = x then y :: t else if x < y then x :: y :: t else y :: insR x t
/-- The numbers of notes, rising. -/
def numsN (l : NL) : List Int := l.foldl (fun out p => insR p.1 out) []
theorem mem_insR {x y : Int} {l : List Int} : y ∈ insR x l ↔ y = x ∨ y ∈ l := by
  induction l with
  | nil => simp [insR]
  | cons z t ih =>
    unfold insR
    split
    · rename_i h
      subst h
      simp
    · split
      · simp
      · simp only [List.mem_cons, ih]
        constructor
        · rintro (h | h | h)
          · exact .inr (.inl h)
          · exact .inl h
          · exact .inr (.inr h)
        · rintro (h | h | h)
          · exact .inr (.inl h)
          · exact .inl h
          · exact .inr (.inr h)
theorem up_insR {x : Int} {l : List Int} (h : Up l) : Up (insR x l) := by
  induction l with
  | nil => simp [insR]
  | cons z t ih =>
    have h1 := List.pairwise_cons.1 h
    unfold insR
    split
    · exact h
    · split
      · rename_i h2 h3
        refine List.pairwise_cons.2 ⟨fun a ha => ?_, h⟩
        rcases List.mem_cons.1 ha with rfl | ha
        · exact h3
        · have := h1.1 a ha
          omega
      · rename_i h2 h3
        refine List.pairwise_cons.2 ⟨fun a ha => ?_, ih h1.2⟩
        rcases mem_insR.1 ha with rfl | ha
        · omega
        · exact h1.1 a ha
theorem up_ext : ∀ {l m : List Int}, Up l → Up m → (∀ x, x ∈ l ↔ x ∈ m) → l = m
  | [], [], _, _, _ => rfl
  | [], b :: m, _, _, h => absurd ((h b).2 (List.mem_cons_self ..)) (by simp)
  | a :: l, [], _, _, h => absurd ((h a).1 (List.mem_cons_self ..)) (by simp)
  | a :: l, b :: m, hl, hm, h => by
    have h1 := List.pairwise_cons.1 hl
    have h2 := List.pairwise_cons.1 hm
    have hab : a = b := by
      rcases List.mem_cons.1 ((h a).1 (List.mem_cons_self ..)) with e | e
      · exact e
      · rcases List.mem_cons.1 ((h b).2 (List.mem_cons_self ..)) with e2 | e2
        · exact e2.symm
        · have := h1.1 b e2
          have := h2.1 a e
          omega
    subst hab
    congr 1
    refine up_ext h1.2 h2.2 fun x => ?_
    constructor
    · intro hx
      rcases List.mem_cons.1 ((h x).1 (List.mem_cons_of_mem _ hx)) with e | e
      · subst e
        have := h1.1 x hx
        omega
      · exact e
    · intro hx
      rcases List.mem_cons.1 ((h x).2 (List.mem_cons_of_mem _ hx)) with e | e
      · subst e
        have := h2.1 x hx
        omega
      · exact e
theorem numsN_snoc (l : NL) (p : Int × Int) : numsN (l ++ [p]) = insR p.1 (numsN l) := by
  unfold numsN
  rw [List.foldl_append]
  rfl
theorem nums_fold (l : NL) : ∀ (out : List Int), Up out → Up (l.foldl (fun out p => insR p.1 out) out) ∧ ∀ x, x ∈ l.foldl (fun out p => insR p.1 out) out ↔ x ∈ out ∨ x ∈ l.map (·.1) := by
  induction l with
  | nil => intro out h; exact ⟨h, fun x => by simp⟩
  | cons p l ih =>
    intro out h
    obtain ⟨h1, h2⟩ := ih (insR p.1 out) (up_insR h)
    refine ⟨h1, fun x => ?_⟩
    rw [List.foldl_cons, h2 x, mem_insR, List.map_cons, List.mem_cons]
    constructor
    · rintro ((h | h) | h)
      · exact .inr (.inl h)
      · exact .inl h
      · exact .inr (.inr h)
    · rintro (h | h | h)
      · exact .inl (.inr h)
      · exact .inl (.inl h)
      · exact .inr h
theorem up_nums (l : NL) : Up (numsN l) := (nums_fold l [] List.Pairwise.nil).1
theorem mem_nums {l : NL} {x : Int} : x ∈ numsN l ↔ x ∈ l.map (·.1) := by
  have h : x ∈ numsN l ↔ x ∈ ([] : List Int) ∨ x ∈ l.map (·.1) := (nums_fold l [] List.Pairwise.nil).2 x
  rw [h]
  simp
theorem nums_filter (l : NL) (f : Int → Bool) : numsN (l.filter fun p => f p.1) = (numsN l).filter f := by
  refine up_ext (up_nums _) ((up_nums l).filter _) fun x => ?_
  rw [mem_nums, List.mem_filter, mem_nums, List.mem_map]
  constructor
  · rintro ⟨p, hp, rfl⟩
    obtain ⟨h1, h2⟩ := List.mem_filter.1 hp
    exact ⟨List.mem_map_of_mem h1, h2⟩
  · rintro ⟨h1, h2⟩
    obtain ⟨p, hp, rfl⟩ := List.mem_map.1 h1
    exact ⟨p, List.mem_filter.2 ⟨hp, h2⟩, rfl⟩
theorem len_insR_le (x : Int) (l : List Int) : (insR x l).length ≤ l.length + 1 := by
  induction l with
  | nil => simp [insR]
  | cons y t ih =>
    unfold insR
    split
    · simp
    · split
      · simp
      · simp only [List.length_cons]; omega
theorem nums_len (l : NL) : (numsN l).length ≤ l.length := by
  have : ∀ (l : NL) (out : List Int), (l.foldl (fun out p => insR p.1 out) out).length ≤ out.length + l.length := by
    intro l
    induction l with
    | nil => intro out; simp
    | cons p l ih =>
      intro out
      have h1 := ih (insR p.1 out)
      have h2 := len_insR_le p.1 out
      rw [List.foldl_cons, List.length_cons]
      omega
  have := this l []
  simpa [numsN] using this
theorem up_nodup {l : List Int} (h : Up l) : l.Nodup := h.imp fun {a b} hab e => by subst e; omega
/-- How the document puts one more into its list: one round of the inner loop. -/
def stepN (x : Int) (s : List Int × Bool) (y : Int) : List Int × Bool :=
  if (s.2 || decide (y = x)) = false ∧ x < y then (s.1 ++ [x] ++ [y], true) else (s.1 ++ [y], s.2 || decide (y = x))
theorem stepN_true (x : Int) (t : List Int) : ∀ acc : List Int, t.foldl (stepN x) (acc, true) = (acc ++ t, true) := by
  induction t with
  | nil => intro acc; simp
  | cons y t ih =>
    intro acc
    rw [List.foldl_cons]
    have : stepN x (acc, true) y = (acc ++ [y], true) := by unfold stepN; simp
    rw [this, ih]
    simp
theorem stepN_ins (x : Int) (t : List Int) : ∀ acc : List Int, (let s := t.foldl (stepN x) (acc, false); if s.2 then s.1 else s.1 ++ [x]) = acc ++ insR x t := by
  induction t with
  | nil => intro acc; simp [insR]
  | cons y t ih =>
    intro acc
    rw [List.foldl_cons]
    by_cases h1 : y = x
    · have : stepN x (acc, false) y = (acc ++ [y], true) := by unfold stepN; simp [h1]
      rw [this, stepN_true]
      simp [insR, h1]
    · by_cases h2 : x < y
      · have : stepN x (acc, false) y = (acc ++ [x] ++ [y], true) := by unfold stepN; simp [h1, h2]
        rw [this, stepN_true]
        simp [insR, h1, h2]
      · have : stepN x (acc, false) y = (acc ++ [y], false) := by unfold stepN; simp [h1, h2]
        rw [this, ih]
        simp [insR, h1, h2]
/-- From whom notes of a number are. -/
def frs (l : NL) (no : Int) : List Int := (l.filter fun p => decide (p.1 = no)).map (·.2)
theorem frs_snoc (l : NL) (p : Int × Int) (no : Int) : frs (l ++ [p]) no = if p.1 = no then frs l no ++ [p.2] else frs l no := by
  unfold frs
  rw [List.filter_append, List.map_append]
  by_cases h : p.1 = no <;> simp [h]
theorem frs_nil {l : NL} {no : Int} (h : no ∉ l.map (·.1)) : frs l no = [] := by
  unfold frs
  rw [List.map_eq_nil_iff, List.filter_eq_nil_iff]
  intro p hp e
  exact h (List.mem_map.2 ⟨p, hp, of_decide_eq_true e⟩)
theorem frs_mem {l : NL} {no : Int} (h : no ∈ l.map (·.1)) : ∃ p ∈ l, p.1 = no ∧ p.2 ∈ frs l no := by
  obtain ⟨p, hp, rfl⟩ := List.mem_map.1 h
  exact ⟨p, hp, rfl, List.mem_map.2 ⟨p, List.mem_filter.2 ⟨hp, by simp⟩, rfl⟩⟩
theorem frs_filter (l : NL) (f : Int → Bool) (no : Int) : frs (l.filter fun p => f p.1) no = if f no then frs l no else [] := by
  unfold frs
  rw [List.filter_filter]
  split
  · rename_i h
    congr 1
    refine List.filter_congr fun p _ => ?_
    by_cases e : p.1 = no
    · subst e; simp [h]
    · simp [e]
  · rename_i h
    rw [List.map_eq_nil_iff, List.filter_eq_nil_iff]
    intro p hp e
    simp only [Bool.and_eq_true, decide_eq_true_eq] at e
    exact h (e.1 ▸ e.2)
end Go.Proofs.YthdcmchjlpkkaaaDoor
