/- Clocks that set one another right: the plain law. -/
import Derived.Test.YthdcmchjlpkkaaaDoorMndB
namespace Go.Proofs.YthdcmchjlpkkaaaDoor.Tr
open Go.RowKit Go.Sort
set_option maxRecDepth 100000
/-- A number that is neither too small nor too great. -/
def clL (x : Int) : Int := if x < -1099511627776 then -1099511627776 else if 1099511627776 < x then 1099511627776 else x
theorem clL_rng (x : Int) : -1099511627776 ≤ clL x ∧ clL x ≤ 1099511627776 := by
  unfold clL
  repeat' split
  all_goals omega
theorem clL_id {x : Int} (h : -1099511627776 ≤ x ∧ x ≤ 1099511627776) : clL x = x := by unfold clL; rw [if_neg (by omega), if_neg (by omega)]
/-- A number of a list; 0: it has none. -/
def atI (l : List Int) (i : Nat) : Int := if i < l.length then clL (l.getD i 0) else 0
theorem atI_rng (l : List Int) (i : Nat) : -1099511627776 ≤ atI l i ∧ atI l i ≤ 1099511627776 := by
  unfold atI; split
  · exact clL_rng _
  · omega
theorem atI_within {l : List Int} {d : Int} (hd : 0 ≤ d) (h : ∀ x ∈ l, -d ≤ x ∧ x ≤ d) (i : Nat) : -d ≤ atI l i ∧ atI l i ≤ d := by
  unfold atI; split
  · rename_i hi
    have h1 := h (l.getD i 0) (by rw [List.getD_eq_getElem?_getD, List.getElem?_eq_getElem hi]; exact List.getElem_mem hi)
    unfold clL
    repeat' split
    all_goals omega
  · omega
theorem atI_get {l : List Int} {i : Nat} (hi : i < l.length) (h : -1099511627776 ≤ l[i] ∧ l[i] ≤ 1099511627776) : atI l i = l[i] := by
  unfold atI
  rw [if_pos hi, List.getD_eq_getElem?_getD, List.getElem?_eq_getElem hi]
  exact clL_id h
/-- By how much a reading is wrong. -/
def errI (E : List (List Int)) (p q : Nat) : Int := atI (E.getD p []) q
theorem errI_within {E : List (List Int)} {e : Int} (he : 0 ≤ e) (h : ∀ l ∈ E, ∀ x ∈ l, -e ≤ x ∧ x ≤ e) (p q : Nat) : -e ≤ errI E p q ∧ errI E p q ≤ e := by
  unfold errI
  refine atI_within he (fun x hx => ?_) q
  by_cases hp : p < E.length
  · rw [List.getD_eq_getElem?_getD, List.getElem?_eq_getElem hp] at hx
    exact h _ (List.getElem_mem hp) x hx
  · rw [List.getD_eq_getElem?_getD, List.getElem?_eq_none (by omega)] at hx
    cases hx
/-- What node p reads of node q. -/
def readI (c : List Int) (E : List (List Int)) (p q : Nat) : Int := atI c q - atI c p + errI E p q
theorem readI_rng (c : List Int) (E : List (List Int)) (p q : Nat) : -3298534883328 ≤ readI c E p q ∧ readI c E p q ≤ 3298534883328 := by
  have h1 := atI_rng c q
  have h2 := atI_rng c p
  have h3 : -1099511627776 ≤ errI E p q ∧ errI E p q ≤ 1099511627776 := atI_rng _ _
  unfold readI
  omega
def readsI (c : List Int) (E : List (List Int)) (ss : List Int) (p : Nat) : List Int := ss.map fun q => readI c E p q.toNat
theorem readsI_rng (c : List Int) (E : List (List Int)) (ss : List Int) (p : Nat) : ∀ x ∈ readsI c E ss p, -3298534883328 ≤ x ∧ x ≤ 3298534883328 := by
  intro x hx
  unfold readsI at hx
  rw [List.mem_map] at hx
  obtain ⟨q, _, rfl⟩ := hx
  exact readI_rng c E p _
/-- The middle; 0 of none. -/
def midT (f : Int) (l : List Int) : Int := if l.length = 0 then 0 else midI (trimI f l)
theorem midT_within {f a b : Int} {l : List Int} (h0 : 0 < l.length) (h : ∀ x ∈ l, a ≤ x ∧ x ≤ b) : a ≤ midT f l ∧ midT f l ≤ b := by
  unfold midT
  rw [if_neg (by omega)]
  exact mid_rng a b _ (trimI_pos f l h0) fun x hx => h x (trimI_mem f l x hx)
theorem midT_rng (f : Int) {l : List Int} (h : ∀ x ∈ l, -3298534883328 ≤ x ∧ x ≤ 3298534883328) : -3298534883328 ≤ midT f l ∧ midT f l ≤ 3298534883328 := by
  by_cases h0 : l.length = 0
  · unfold midT; rw [if_pos h0]; omega
  · exact midT_within (by omega) h
/-- What node p's clock tells behind a turn. -/
def outI (c : List Int) (E : List (List Int)) (D : List Int) (ss : List Int) (f : Int) (p : Nat) : Int := atI c p + midT f (readsI c E ss p) + atI D p
theorem outI_rng (c : List Int) (E : List (List Int)) (D : List Int) (ss : List Int) (f : Int) (p : Nat) : -5497558138880 ≤ outI c E D ss f p ∧ outI c E D ss f p ≤ 5497558138880 := by
  have h1 := atI_rng c p
  have h2 := atI_rng D p
  have h3 := midT_rng f (readsI_rng c E ss p)
  unfold outI
  omega
def oneI (c : List Int) (E : List (List Int)) (D : List Int) (ss : List Int) (f : Int) : List Int := (List.range c.length).map (outI c E D ss f)
theorem oneI_length (c : List Int) (E : List (List Int)) (D : List Int) (ss : List Int) (f : Int) : (oneI c E D ss f).length = c.length := by simp [oneI]
theorem led_map {d : Int} {g h : Int → Int} : ∀ {_l : List Int}, (∀ x ∈ _l, g x ≤ h x + d) → LeD d (_l.map g) (_l.map h)
  | [], _ => trivial
  | a :: l, hl => ⟨hl a (List.mem_cons_self ..), led_map fun x hx => hl x (List.mem_cons_of_mem _ hx)⟩
/-- Any two clocks are near. -/
theorem out_near {c : List Int} {E : List (List Int)} {D ss : List Int} {f e d : Int} (h0 : 0 < ss.length) (he : ∀ p q, -e ≤ errI E p q ∧ errI E p q ≤ e) (hd : ∀ p, -d ≤ atI D p ∧ atI D p ≤ d) (p r : Nat) :
    outI c E D ss f p ≤ outI c E D ss f r + 2 * e + 2 * d := by
  have hl : LeD (atI c r - atI c p + 2 * e) (readsI c E ss p) (readsI c E ss r) := led_map fun q _ => by
    have h1 := he p q.toNat
    have h2 := he r q.toNat
    unfold readI
    omega
  have hn := near_plain _ f _ _ hl (by simp [readsI]; exact h0)
  have h1 := hd p
  have h2 := hd r
  have e1 : (readsI c E ss p).length ≠ 0 := by unfold readsI; rw [List.length_map]; omega
  have e2 : (readsI c E ss r).length ≠ 0 := by unfold readsI; rw [List.length_map]; omega
  unfold outI midT
  rw [if_neg e1, if_neg e2]
  omega
/-- Each clock is between the least and the greatest of those that it went by. -/
theorem out_within {c : List Int} {E : List (List Int)} {D ss : List Int} {f e d lo hi : Int} (h0 : 0 < ss.length) (he : ∀ p q, -e ≤ errI E p q ∧ errI E p q ≤ e) (hd : ∀ p, -d ≤ atI D p ∧ atI D p ≤ d) (hs : ∀ q ∈ ss, lo ≤ atI c q.toNat ∧ atI c q.toNat ≤ hi) (p : Nat) :
    lo - (e + d) ≤ outI c E D ss f p ∧ outI c E D ss f p ≤ hi + (e + d) := by
  have hm := midT_within (f := f) (l := readsI c E ss p) (a := lo - atI c p - e) (b := hi - atI c p + e) (by simp [readsI]; exact h0) (fun x hx => by
    unfold readsI at hx
    rw [List.mem_map] at hx
    obtain ⟨q, hq, rfl⟩ := hx
    have h1 := hs q hq
    have h2 := he p q.toNat
    unfold readI
    omega)
  have h1 := hd p
  unfold outI
  omega
end Go.Proofs.YthdcmchjlpkkaaaDoor.Tr
