/- If no reading is changed by more than so much, the middle is not either (plain). -/
import Derived.Test.YtihfcaconbcdjaaTrimL
namespace Go.Proofs.Ytihfcaconbcdjaa
set_option maxRecDepth 100000

/-- Place by place, no number is above the other by more than d. -/
def LeD (d : Int) : List Int → List Int → Prop
  | [], [] => True
  | a :: l, b :: m => a ≤ b + d ∧ LeD d l m
  | _, _ => False
theorem LeD.len {d : Int} : ∀ {l m : List Int}, LeD d l m → l.length = m.length
  | [], [], _ => rfl
  | _ :: _, _ :: _, h => by simp [LeD.len h.2]
  | [], _ :: _, h => h.elim
  | _ :: _, [], h => h.elim
theorem LeD.snoc {d : Int} {x y : Int} (hxy : x ≤ y + d) : ∀ {l m : List Int}, LeD d l m → LeD d (l ++ [x]) (m ++ [y])
  | [], [], _ => ⟨hxy, trivial⟩
  | _ :: _, _ :: _, h => ⟨h.1, LeD.snoc hxy h.2⟩
  | [], _ :: _, h => h.elim
  | _ :: _, [], h => h.elim
theorem LeD.mono {d e : Int} (hde : d ≤ e) : ∀ {l m : List Int}, LeD d l m → LeD e l m
  | [], [], _ => trivial
  | _ :: _, _ :: _, h => ⟨by have := h.1; omega, LeD.mono hde h.2⟩
  | [], _ :: _, h => h.elim
  | _ :: _, [], h => h.elim
theorem LeD.drop {d : Int} : ∀ (k : Nat) {l m : List Int}, LeD d l m → LeD d (l.drop k) (m.drop k)
  | 0, _, _, h => h
  | _ + 1, [], [], _ => trivial
  | k + 1, _ :: _, _ :: _, h => LeD.drop k h.2
  | _ + 1, [], _ :: _, h => h.elim
  | _ + 1, _ :: _, [], h => h.elim
theorem LeD.take {d : Int} : ∀ (k : Nat) {l m : List Int}, LeD d l m → LeD d (l.take k) (m.take k)
  | 0, _, _, _ => trivial
  | _ + 1, [], [], _ => trivial
  | k + 1, _ :: _, _ :: _, h => ⟨h.1, LeD.take k h.2⟩
  | _ + 1, [], _ :: _, h => h.elim
  | _ + 1, _ :: _, [], h => h.elim
theorem LeD.sum {d : Int} : ∀ {l m : List Int}, LeD d l m → l.sum ≤ m.sum + d * m.length
  | [], [], _ => by simp
  | a :: l, b :: m, h => by
    have h1 := h.1
    have h2 := LeD.sum h.2
    have h3 : d * ((b :: m).length : Int) = d * m.length + d := by rw [List.length_cons, Int.natCast_add, Int.mul_add]; simp
    rw [List.sum_cons, List.sum_cons, h3]
    omega
  | [], _ :: _, h => h.elim
  | _ :: _, [], h => h.elim
theorem ins_head (l : List Int) (x : Int) (h : ∀ y ∈ l, x ≤ y) : ins l x = x :: l := by
  induction l with
  | nil => rfl
  | cons a l ih =>
    unfold ins
    split
    · rfl
    · have h1 := h a (by simp)
      obtain rfl : x = a := by omega
      rw [ih (fun y hy => h y (by simp [hy]))]
theorem LeD.ins {d : Int} : ∀ {l m : List Int} {x y : Int}, l.Pairwise (· ≤ ·) → m.Pairwise (· ≤ ·) → LeD d l m → x ≤ y + d → LeD d (ins l x) (ins m y)
  | [], [], _, _, _, _, _, hxy => ⟨hxy, trivial⟩
  | [], _ :: _, _, _, _, _, h, _ => h.elim
  | _ :: _, [], _, _, _, _, h, _ => h.elim
  | a :: l, b :: m, x, y, hl, hm, h, hxy => by
    rw [List.pairwise_cons] at hl hm
    have hab := h.1
    have hlm := h.2
    by_cases h1 : x < a
    · by_cases h2 : y < b
      · have e1 : Go.Proofs.Ytihfcaconbcdjaa.ins (a :: l) x = x :: a :: l := by rw [Go.Proofs.Ytihfcaconbcdjaa.ins, if_pos h1]
        have e2 : Go.Proofs.Ytihfcaconbcdjaa.ins (b :: m) y = y :: b :: m := by rw [Go.Proofs.Ytihfcaconbcdjaa.ins, if_pos h2]
        rw [e1, e2]
        exact ⟨hxy, hab, hlm⟩
      · have e1 : Go.Proofs.Ytihfcaconbcdjaa.ins (a :: l) x = x :: a :: l := by rw [Go.Proofs.Ytihfcaconbcdjaa.ins, if_pos h1]
        have e2 : Go.Proofs.Ytihfcaconbcdjaa.ins (b :: m) y = b :: Go.Proofs.Ytihfcaconbcdjaa.ins m y := by rw [Go.Proofs.Ytihfcaconbcdjaa.ins, if_neg h2]
        rw [e1, e2, ← ins_head l a hl.1]
        exact ⟨by omega, LeD.ins hl.2 hm.2 hlm (by omega)⟩
    · by_cases h2 : y < b
      · have e1 : Go.Proofs.Ytihfcaconbcdjaa.ins (a :: l) x = a :: Go.Proofs.Ytihfcaconbcdjaa.ins l x := by rw [Go.Proofs.Ytihfcaconbcdjaa.ins, if_neg h1]
        have e2 : Go.Proofs.Ytihfcaconbcdjaa.ins (b :: m) y = y :: b :: m := by rw [Go.Proofs.Ytihfcaconbcdjaa.ins, if_pos h2]
        rw [e1, e2, ← ins_head m b hm.1]
        exact ⟨by omega, LeD.ins hl.2 hm.2 hlm (by omega)⟩
      · have e1 : Go.Proofs.Ytihfcaconbcdjaa.ins (a :: l) x = a :: Go.Proofs.Ytihfcaconbcdjaa.ins l x := by rw [Go.Proofs.Ytihfcaconbcdjaa.ins, if_neg h1]
        have e2 : Go.Proofs.Ytihfcaconbcdjaa.ins (b :: m) y = b :: Go.Proofs.Ytihfcaconbcdjaa.ins m y := by rw [Go.Proofs.Ytihfcaconbcdjaa.ins, if_neg h2]
        rw [e1, e2]
        exact ⟨hab, LeD.ins hl.2 hm.2 hlm hxy⟩
theorem LeD.fold {d : Int} : ∀ {l m : List Int} (s t : List Int), s.Pairwise (· ≤ ·) → t.Pairwise (· ≤ ·) → LeD d s t → LeD d l m → LeD d (l.foldl Go.Proofs.Ytihfcaconbcdjaa.ins s) (m.foldl Go.Proofs.Ytihfcaconbcdjaa.ins t)
  | [], [], _, _, _, _, h, _ => h
  | [], _ :: _, _, _, _, _, _, h => h.elim
  | _ :: _, [], _, _, _, _, _, h => h.elim
  | x :: l, y :: m, s, t, hs, ht, h, hlm => LeD.fold (l := l) (m := m) (Go.Proofs.Ytihfcaconbcdjaa.ins s x) (Go.Proofs.Ytihfcaconbcdjaa.ins t y) (ins_sorted s x hs) (ins_sorted t y ht) (LeD.ins hs ht h hlm.1) hlm.2
theorem LeD.sorted {d : Int} {l m : List Int} (h : LeD d l m) : LeD d (sortI l) (sortI m) := by
  rw [← insAll_eq, ← insAll_eq]
  exact LeD.fold [] [] List.Pairwise.nil List.Pairwise.nil trivial h
theorem near_plain (d f : Int) (l m : List Int) (h : LeD d l m) (h0 : 0 < l.length) : midI (trimI f l) ≤ midI (trimI f m) + d := by
  have hlen := h.len
  have ht : LeD d (trimI f l) (trimI f m) := by
    unfold trimI
    rw [hlen]
    exact (h.sorted.drop _).take _
  have hs := ht.sum
  have hl2 := ht.len
  have hp := trimI_pos f l h0
  unfold midI
  rw [hl2]
  rw [hl2] at hp
  have : (trimI f l).sum / ((trimI f m).length : Int) ≤ ((trimI f m).sum + d * (trimI f m).length) / ((trimI f m).length : Int) := Int.ediv_le_ediv (by omega) hs
  rwa [Int.add_mul_ediv_right _ _ (by omega)] at this
end Go.Proofs.Ytihfcaconbcdjaa
