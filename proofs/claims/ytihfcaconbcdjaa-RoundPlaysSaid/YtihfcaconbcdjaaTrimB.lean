/- Sorting: the program's, by slices.Sort, and the document's, by insertion: both tell the sorted list. -/
import Derived.Test.YtihfcaconbcdjaaTrimA
namespace Go.Proofs.Ytihfcaconbcdjaa
open Go.RowKit Go.Sort
set_option maxHeartbeats 1000000
set_option maxRecDepth 100000

def sortI (l : List Int) : List Int := l.mergeSort fun x y => decide (x ≤ y)
theorem sortI_length (l : List Int) : (sortI l).length = l.length := by simp [sortI]
theorem sortI_perm (l : List Int) : (sortI l).Perm l := List.mergeSort_perm l _
theorem sortI_sorted (l : List Int) : (sortI l).Pairwise (· ≤ ·) := by
  have := List.pairwise_mergeSort (le := fun x y : Int => decide (x ≤ y)) (fun a b c h1 h2 => by simp only [decide_eq_true_eq] at *; exact Int.le_trans h1 h2) (fun a b => by simp only [Bool.or_eq_true, decide_eq_true_eq]; exact Int.le_total a b) l
  exact this.imp (fun h => by simpa using h)
theorem sorted_unique {l m : List Int} (hp : l.Perm m) (h1 : l.Pairwise (· ≤ ·)) (h2 : m.Pairwise (· ≤ ·)) : l = m :=
  List.Perm.eq_of_pairwise (le := (· ≤ ·)) (fun _ _ _ _ h h' => Int.le_antisymm h h') h1 h2 hp
/-- A rising list with one more. -/
def ins (l : List Int) (x : Int) : List Int :=
  match l with
  | [] => [x]
  | a :: l => if x < a then x :: a :: l else a :: ins l x
theorem ins_perm (l : List Int) (x : Int) : (ins l x).Perm (x :: l) := by
  induction l with
  | nil => exact .refl _
  | cons a l ih =>
    unfold ins
    split
    · exact .refl _
    · exact ((ih.cons a).trans (.swap x a l))
theorem ins_length (l : List Int) (x : Int) : (ins l x).length = l.length + 1 := by rw [(ins_perm l x).length_eq]; rfl
theorem ins_mem (l : List Int) (x y : Int) : y ∈ ins l x ↔ y = x ∨ y ∈ l := by rw [(ins_perm l x).mem_iff]; simp
theorem ins_sorted (l : List Int) (x : Int) (h : l.Pairwise (· ≤ ·)) : (ins l x).Pairwise (· ≤ ·) := by
  induction l with
  | nil => exact List.pairwise_singleton _ _
  | cons a l ih =>
    rw [List.pairwise_cons] at h
    unfold ins
    split
    · rename_i hx
      refine List.pairwise_cons.2 ⟨fun y hy => ?_, List.pairwise_cons.2 h⟩
      rw [List.mem_cons] at hy
      rcases hy with rfl | hy
      · omega
      · have := h.1 y hy; omega
    · refine List.pairwise_cons.2 ⟨fun y hy => ?_, ih h.2⟩
      rw [ins_mem] at hy
      rcases hy with rfl | hy
      · omega
      · exact h.1 y hy
def insAll (l : List Int) : List Int := l.foldl ins []
theorem insAll_snoc (l : List Int) (x : Int) : insAll (l ++ [x]) = ins (insAll l) x := by simp [insAll]
theorem insAll_eq (l : List Int) : insAll l = sortI l := by
  have key : ∀ (l a : List Int), a.Pairwise (· ≤ ·) → (l.foldl ins a).Pairwise (· ≤ ·) ∧ (l.foldl ins a).Perm (a ++ l) := by
    intro l
    induction l with
    | nil => intro a ha; simp [ha]
    | cons x l ih =>
      intro a ha
      obtain ⟨h1, h2⟩ := ih (ins a x) (ins_sorted a x ha)
      refine ⟨h1, h2.trans ?_⟩
      refine ((ins_perm a x).append_right l).trans ?_
      rw [List.cons_append]
      exact List.perm_middle.symm
  obtain ⟨h1, h2⟩ := key l [] List.Pairwise.nil
  exact sorted_unique (h2.trans (by simpa using (sortI_perm l).symm)) h1 (sortI_sorted l)
/-- What the document's Into has made of the first k. -/
def insPre (l : List Int) (x : Int) (k : Nat) : List Int × Bool := (l.take k).foldl (fun s a => (if !s.2 && decide (x < a) then s.1 ++ [x, a] else s.1 ++ [a], s.2 || decide (x < a))) ([], false)
theorem insPre_succ (l : List Int) (x : Int) (k : Nat) (h : k < l.length) : insPre l x (k + 1) = (if !(insPre l x k).2 && decide (x < l[k]) then (insPre l x k).1 ++ [x, l[k]] else (insPre l x k).1 ++ [l[k]], (insPre l x k).2 || decide (x < l[k])) := by
  unfold insPre
  rw [List.take_succ_eq_append_getElem h, List.foldl_append]
  rfl
theorem insPre_all (l : List Int) (x : Int) : (if (insPre l x l.length).2 then (insPre l x l.length).1 else (insPre l x l.length).1 ++ [x]) = ins l x := by
  unfold insPre
  rw [List.take_length]
  have key1 : ∀ (l a : List Int), (l.foldl (fun s a => (if !s.2 && decide (x < a) then s.1 ++ [x, a] else s.1 ++ [a], s.2 || decide (x < a))) (a, true)) = (a ++ l, true) := by
    intro l
    induction l with
    | nil => simp
    | cons b l ih =>
      intro a
      rw [List.foldl_cons]
      have := ih (a ++ [b])
      simp only [Bool.not_true, Bool.false_and, Bool.false_eq_true, if_false, Bool.true_or]
      rw [this]
      simp
  have key : ∀ (l a : List Int), (if (l.foldl (fun s a => (if !s.2 && decide (x < a) then s.1 ++ [x, a] else s.1 ++ [a], s.2 || decide (x < a))) (a, false)).2 then (l.foldl (fun s a => (if !s.2 && decide (x < a) then s.1 ++ [x, a] else s.1 ++ [a], s.2 || decide (x < a))) (a, false)).1 else (l.foldl (fun s a => (if !s.2 && decide (x < a) then s.1 ++ [x, a] else s.1 ++ [a], s.2 || decide (x < a))) (a, false)).1 ++ [x]) = a ++ ins l x := by
    intro l
    induction l with
    | nil => intro a; simp [ins]
    | cons b l ih =>
      intro a
      rw [List.foldl_cons]
      by_cases hb : x < b
      · simp only [hb, decide_true, Bool.not_false, Bool.and_true, if_true, Bool.or_true, key1, ins]
        simp
      · simp only [hb, decide_false, Bool.and_false, Bool.or_false, ins, if_false, Bool.false_eq_true]
        rw [ih]
        simp
  exact (key l []).trans (by simp)
theorem insPre_length (l : List Int) (x : Int) (k : Nat) (h : k ≤ l.length) : (insPre l x k).1.length ≤ k + 1 := by
  have : ∀ k, k ≤ l.length → (insPre l x k).1.length = k + if (insPre l x k).2 then 1 else 0 := by
    intro k
    induction k with
    | zero => intro _; rfl
    | succ k ih =>
      intro hk
      have := ih (by omega)
      rw [insPre_succ l x k hk]
      cases hb : (insPre l x k).2 <;> by_cases hx : x < l[k] <;> simp [hb, hx] at * <;> omega
  have := this k h
  split at this <;> omega

/-- slices.Sort on a slice of the call's own. -/
theorem sort_own (v : Value) (l : List Int) (base : Nat) (w : World) (h : IOwn w base v l) (hl : l.length ≤ 1000000) :
    Calls Try.prog 41 #[v] w (fun e w' => e = .returned (.tuple #[]) ∧ w.grownBy w' v.ownBlock ∧ IOwn w' base v (sortI l)) := by
  have hs := sortI_length l
  by_cases h0 : l = []
  · subst h0
    have hv : ∃ p cap, v = .slice p 0 cap := by
      rcases h.2 with ⟨h1, h2⟩ | ⟨g, cap, cur, hv, _⟩
      · exact ⟨none, 0, h1⟩
      · exact ⟨_, cap, hv⟩
    obtain ⟨p, cap, rfl⟩ := hv
    refine (Try.slices_Sort_none p cap w).mono ?_
    rintro e w' ⟨rfl, rfl⟩
    exact ⟨rfl, ⟨rfl, rfl, rfl, Nat.le_refl _, fun _ _ _ => rfl⟩, by rw [show sortI [] = [] by simp [sortI]]; exact h⟩
  · rcases h.2 with ⟨h1, h2⟩ | ⟨g, cap, cur, rfl, hb, hg, h4, h5, h6, h7⟩
    · exact absurd (List.eq_nil_of_length_eq_zero h2) h0
    · rw [Nat.mul_one] at h7
      have hH := holds_of_block_i hg h7
      refine (Try.slices_Sort g 0 cap l w hH (Array.getElem?_eq_some_iff.1 hg).1 (by omega)).mono ?_
      rintro e w' ⟨rfl, n, os, rfl⟩
      refine ⟨rfl, grownBy_sorted_i _, ?_⟩
      have := ownsRow_sorted_i (n := n) (os := os) (ss := l) (ts := sortI l) hs hb hg h4 h5 h6
      unfold IOwn
      rw [hs]
      exact this
theorem sort_any (v : Value) (l : List Int) (w : World) (h : IHas w v l) (hl : l.length ≤ 1000000) :
    Calls Try.prog 15 #[v] w (fun e w' => ∃ v', e = .returned v' ∧ Grows w w' ∧ IOwn w' w.heap.size v' (sortI l)) := by
  have hc : Calls Try.prog 40 #[v] w fun e w' => ∃ v', e = .returned v' ∧ IOwn w' w.heap.size v' l ∧ Grows w w' := by
    rcases h with ⟨rfl, a, cap, rfl⟩ | ⟨g, o, cap, rfl, h4, hg, hc⟩
    · cases a with
      | none =>
        refine (Try.slices_Clone_int_nil 0 cap w).mono ?_
        rintro e w' ⟨rfl, rfl⟩
        exact ⟨_, rfl, ⟨rfl, .inl ⟨rfl, rfl⟩⟩, Below.refl _ _⟩
      | some a =>
        refine (Try.slices_Clone_int_zero a cap w).mono ?_
        rintro e w' ⟨v', rfl, h1, _, h2⟩
        exact ⟨_, rfl, h1, h2⟩
    · refine (Try.slices_Clone_int g o l.length cap l w (Nat.le_refl _) (by omega) (fun j hj => by rw [hc j hj]; simp [List.getD, hj])).mono ?_
      rintro e w' ⟨v', rfl, h1, _, h2⟩
      rw [List.take_length] at h1
      exact ⟨_, rfl, h1, h2⟩
  have HC := Lib.hid hc
  have hso := fun v' W => sort_own v' l w.heap.size W
  have HS := Lib.hid hso
  clear hc hso
  go_enter Try.func15, Try.ntmps15
  go_wp2_with (first | (go_at_call 40; refine HC.out.mono ?_; rintro e w1 ⟨v1, rfl, hO1, hG1⟩; have HO1 := Lib.hid hO1; have HG1 := Lib.hid hG1; clear hO1 hG1) | (go_at_call 41; refine (HS.out _ _ HO1.out hl).mono ?_; rintro e w2 ⟨rfl, hgr, hO2⟩; have HO2 := Lib.hid hO2; have HG2 := Lib.hid hgr; clear hO2 hgr))
  go_ret
  exact ⟨_, rfl, grows_of_grownBy HG1.out HG2.out (fun k hk => (HO1.out.lt k hk).1), HO2.out⟩
end Go.Proofs.Ytihfcaconbcdjaa
