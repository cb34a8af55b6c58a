/- The document's Put. -/
import Derived.Test.YtdmmceclohkkdaaDocAt
import Derived.Test.YtdmmceclohkkdaaTabP
namespace Go.Proofs.Ytdmmceclohkkdaa
open Go.RowKit Go.Sort
set_option maxHeartbeats 4000000
set_option maxRecDepth 100000
/-- What the document's Put leaves of the rows. -/
def putR (l : List DR) (M : Nat) (k : KW) (x : Int) : List DR := if putE (l.map tv) M k = 0 then insT l k x else l
/-- What a call leaves that gives back a table of the document. -/
def RTab (w : World) (base : Nat) (l : List DR) (M : Nat) (R : Value → Value) (e : Ending) (w' : World) : Prop := ∃ v', e = .returned (R (dval v' M)) ∧ Grows w w' ∧ ROwn w' base v' l
theorem getK_tv {l : List DR} {k : KW} : getK (l.map tv) k = none ↔ k ∉ l.map (·.1) := by rw [getK_none, tv_keys]
theorem putE_dup {l : List DR} {M : Nat} {k : KW} (h : k ∈ l.map (·.1)) : putE (l.map tv) M k = 12 := by
  unfold putE
  rw [if_pos (fun e => getK_tv.1 e h)]
theorem putE_full {l : List DR} {M : Nat} {k : KW} (h : k ∉ l.map (·.1)) (hl : M ≤ l.length) : putE (l.map tv) M k = 13 := by
  unfold putE
  rw [if_neg (by rw [getK_tv.2 h]; simp), if_pos (by rw [List.length_map]; exact hl)]
theorem putE_ok {l : List DR} {M : Nat} {k : KW} (h : k ∉ l.map (·.1)) (hl : ¬ M ≤ l.length) : putE (l.map tv) M k = 0 := by
  unfold putE
  rw [if_neg (by rw [getK_tv.2 h]; simp), if_neg (by rw [List.length_map]; exact hl)]
theorem atR_mem {l : List DR} {k : KW} (h : k ∈ l.map (·.1)) : ∃ i : Nat, atR l k = (i : Int) ∧ i < l.length := by
  unfold atR
  cases hf : l.findIdx? (fun p => decide (p.1 = k)) with
  | none =>
    rw [List.findIdx?_eq_none_iff] at hf
    obtain ⟨p, hp, e⟩ := List.mem_map.1 h
    have := hf p hp
    simp [e] at this
  | some i => exact ⟨i, rfl, (List.findIdx?_eq_some_iff_getElem.1 hf).1⟩
theorem insT_at (l : List DR) (k : KW) (x : Int) : insT l k x = l.take (posK (l.map (·.1)) k) ++ (k, x) :: l.drop (posK (l.map (·.1)) k) := by
  have h1 : (l.takeWhile fun p => lessK p.1 k).length = posK (l.map (·.1)) k := by
    unfold posK
    rw [← map_takeWhile' (fun p : DR => p.1) (fun y => lessK y k) l, List.length_map]
  have h2 := List.takeWhile_append_dropWhile (p := fun p : DR => lessK p.1 k) (l := l)
  unfold insT
  rw [← h1]
  conv => rhs; rw [← h2]
  rw [h2]
  congr 1
  · conv => rhs; rw [← h2]
    rw [h2, show l.take (l.takeWhile fun p => lessK p.1 k).length = ((l.takeWhile fun p => lessK p.1 k) ++ l.dropWhile fun p => lessK p.1 k).take (l.takeWhile fun p => lessK p.1 k).length by rw [h2], List.take_left]
  · congr 1
    rw [show l.drop (l.takeWhile fun p => lessK p.1 k).length = ((l.takeWhile fun p => lessK p.1 k) ++ l.dropWhile fun p => lessK p.1 k).drop (l.takeWhile fun p => lessK p.1 k).length by rw [h2], List.drop_left]
theorem takeWhile_imp {α : Type} {p : α → Bool} {x : α} : ∀ {l : List α}, x ∈ l.takeWhile p → p x = true
  | [], h => by simp at h
  | a :: l, h => by
    rw [List.takeWhile_cons] at h
    split at h
    · rcases List.mem_cons.1 h with rfl | h
      · assumption
      · exact takeWhile_imp h
    · simp at h
theorem pos_less {l : List DR} {k : KW} {i : Nat} (hi : i < l.length) : (i < posK (l.map (·.1)) k → lessK (l[i]).1 k = true) ∧ (i = posK (l.map (·.1)) k → lessK (l[i]).1 k = false) := by
  have h1 := (take_pos (l.map (·.1)) k)
  have h2 := (drop_pos (l.map (·.1)) k)
  constructor
  · intro h
    have hm : (l[i]).1 ∈ (l.map (·.1)).take (posK (l.map (·.1)) k) := by
      rw [List.mem_take_iff_getElem]
      exact ⟨i, by rw [List.length_map]; omega, by rw [List.getElem_map]⟩
    rw [h1] at hm
    exact takeWhile_imp (p := fun y => lessK y k) hm
  · intro h
    subst h
    have hd : (l.map (·.1)).drop (posK (l.map (·.1)) k) = (l[posK (l.map (·.1)) k]).1 :: (l.map (·.1)).drop (posK (l.map (·.1)) k + 1) := by
      rw [List.drop_eq_getElem_cons (by rw [List.length_map]; exact hi), List.getElem_map]
    rw [h2] at hd
    have := List.head?_dropWhile_not (fun y => lessK y k) (l.map (·.1))
    rw [hd] at this
    simpa using this
end Go.Proofs.Ytdmmceclohkkdaa
