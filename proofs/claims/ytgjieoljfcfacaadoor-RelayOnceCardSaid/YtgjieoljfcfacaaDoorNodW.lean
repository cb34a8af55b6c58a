/- The program's nodes.Without, and what it has to do with the document's. -/
import Derived.Test.YtgjieoljfcfacaaDoorNodM
import Derived.Laws.BitsAllLaws
namespace Go.Proofs.YtgjieoljfcfacaaDoor
open Go.RowKit Go.Sort
set_option maxHeartbeats 2000000
set_option maxRecDepth 100000
/-- A set but a node. -/
def offN (s : Nat) (i : Int) : Nat := s &&& (18446744073709551615 - bitN i)
theorem offN_lt {s : Nat} (hs : s < 18446744073709551616) (i : Int) : offN s i < 18446744073709551616 := Nat.lt_of_le_of_lt Nat.and_le_left hs
theorem offN_doc (s : Nat) (i : Int) (hs : s < 18446744073709551616) : offN s i = withoutN s [i] := by
  apply Nat.eq_of_testBit_eq
  intro j
  unfold offN
  rw [withoutN_bit, andNot_bit _ _ _ (bitN_lt i)]
  by_cases hj : j < 64
  · have : (bitN i).testBit j = inL [i] (j : Int) := by
      unfold bitN inL
      split
      · rename_i hi
        rw [Nat.testBit_two_pow]
        by_cases e : i.toNat = j
        · have e2 : i = (j : Int) := by omega
          simp [e2]
        · have e2 : ¬ (j : Int) = i := by omega
          simp [e, e2]
      · rename_i hi
        have e2 : ¬ (j : Int) = i := by omega
        simp [e2]
    rw [this]
    simp [hj]
  · simp [hj]
theorem nwithout_any (s g : Nat) (i : Int) (w : World) (hs : s < 18446744073709551616) (hc : w.cell? ⟨g, 0, none⟩ = some (.int .i64 i)) :
    Calls Tryd.prog 43 #[.int .u64 (s : Int), .slice (some ⟨g, 0, none⟩) 1 1] w (fun e w' => e = .returned (.int .u64 (offN s i : Nat)) ∧ w = w') := by
  have hand := u64_andNot_nat s (bitN i) hs (bitN_lt _)
  have ho : s &&& (18446744073709551615 - bitN i) = offN s i := rfl
  rw [ho] at hand
  obtain ⟨y, ey⟩ : ∃ y, offN s i = y := ⟨_, rfl⟩
  rw [ey] at hand ⊢
  clear ho ey hs
  go_enter Tryd.func43, Tryd.ntmps43
  go_wp2
  go_loop [0, 9] (fun v k => (k = .int .i64 0 ∧ v = .int .u64 (s : Int)) ∨ (k = .int .i64 1 ∧ v = .int .u64 (y : Int))) (fun _ k => 1 - (intOf k).toNat)
  case atStart => exact .inl ⟨rfl, rfl⟩
  case round =>
    rcases hrel with ⟨rfl, rfl⟩ | ⟨rfl, rfl⟩
    · go_wp2_with (first | (go_at_call 63; refine (bit_any _ _).mono ?_; rintro e w' ⟨rfl, rfl⟩))
      go_round
      case rel => exact .inr ⟨by go_num, rfl⟩
      case measure => simp [intOf]
    · go_wp2
      go_ret
      exact ⟨rfl, rfl⟩
end Go.Proofs.YtgjieoljfcfacaaDoor
