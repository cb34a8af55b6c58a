/- Sets of nodes as bits of a word: whether a node is in one, as the program and the document tell it. -/
import Derived.Test.YtgjieoljfcfacaaDoorBase
import Derived.Laws.BitsAllLaws
import Derived.LoopTactic
namespace Go.Proofs.YtgjieoljfcfacaaDoor
open Go.RowKit Go.Sort
set_option maxHeartbeats 1000000
set_option maxRecDepth 100000

/-- A node's bit; 0 of no node. -/
def bitN (i : Int) : Nat := if 0 ≤ i ∧ i < 64 then 2 ^ i.toNat else 0
theorem bitN_lt (i : Int) : bitN i < 18446744073709551616 := by
  unfold bitN
  split
  · have : 2 ^ i.toNat < 2 ^ 64 := Nat.pow_lt_pow_right (by omega) (by omega)
    simpa using this
  · omega

theorem bit_any (i : Int) (w : World) : Calls Tryd.prog 63 #[.int .i64 i] w (fun e w' => e = .returned (.int .u64 (bitN i)) ∧ w = w') := by
  by_cases h : 0 ≤ i ∧ i < 64
  · obtain ⟨n, rfl⟩ := Int.eq_ofNat_of_zero_le h.1
    have hn : n < 64 := by omega
    have hb : IntKind.u64.wrap (2 ^ n) = (bitN (n : Int) : Int) := by
      have h1 := bitN_lt (n : Int)
      have h2 : bitN (n : Int) = 2 ^ n := by unfold bitN; rw [if_pos (by omega)]; simp
      rw [h2] at h1 ⊢
      rw [IntKind.wrap_u64, Int.natCast_pow]
      have h3 : ((2 : Int) ^ n) = ((2 ^ n : Nat) : Int) := by simp
      rw [show ((2 : Nat) : Int) = 2 from rfl, h3]
      omega
    have H := Lib.hid hb
    clear hb
    go_enter Tryd.func63, Tryd.ntmps63
    go_wp2
    go_ret
    exact ⟨by rw [← H.out]; rfl, rfl⟩
  · have hb : bitN i = 0 := by unfold bitN; rw [if_neg h]
    have H := Lib.hid hb
    clear hb
    by_cases h0 : i < 0
    · clear h
      go_enter Tryd.func63, Tryd.ntmps63
      go_wp2
      go_ret
      exact ⟨by rw [H.out]; rfl, rfl⟩
    · have h1 : 64 ≤ i := by omega
      clear h
      go_enter Tryd.func63, Tryd.ntmps63
      go_wp2
      go_ret
      exact ⟨by rw [H.out]; rfl, rfl⟩

/-- Is a node in a set? -/
def hasN (s : Nat) (i : Int) : Bool := decide (0 ≤ i ∧ i < 64) && s.testBit i.toNat
theorem and_bitN (s : Nat) (i : Int) : (s &&& bitN i = 0) ↔ hasN s i = false := by
  unfold hasN bitN
  by_cases h : 0 ≤ i ∧ i < 64
  · rw [if_pos h, nat_bit]
    rw [decide_eq_true h, Bool.true_and, Nat.testBit_eq_decide_div_mod_eq]
    have h2 : 0 < 2 ^ i.toNat := Nat.pow_pos (by omega)
    rcases Nat.mod_two_eq_zero_or_one (s / 2 ^ i.toNat) with h3 | h3
    · simp [h3]
    · simp [h3]
  · rw [if_neg h]; simp [h]

theorem power_any (i : Nat) (hi : i < 64) (w : World) : Calls Tryd.prog 89 #[.int .i64 (i : Int)] w (fun e w' => e = .returned (.int .u64 ((2 ^ i : Nat) : Int)) ∧ w = w') := by
  go_enter Tryd.func89, Tryd.ntmps89
  go_wp2
  go_loop [3, 4] (fun v j => ∃ k : Nat, k ≤ i ∧ j = .int .i64 k ∧ v = .int .u64 ((2 ^ k : Nat) : Int)) (fun _ j => i - (intOf j).toNat)
  case atStart => exact ⟨0, Nat.zero_le _, rfl, rfl⟩
  case round =>
    obtain ⟨k, hk, rfl, rfl⟩ := hrel
    by_cases hlt : k < i
    · obtain ⟨q, hq⟩ : ∃ q, 2 ^ k = q := ⟨_, rfl⟩
      have hb : 2 ^ (k + 1) < 18446744073709551616 := by
        have : 2 ^ (k + 1) < 2 ^ 64 := Nat.pow_lt_pow_right (by omega) (by omega)
        simpa using this
      have h2 : 2 ^ (k + 1) = q * 2 := by rw [Nat.pow_succ, hq]
      rw [h2] at hb
      have H2 := Lib.hid h2
      rw [hq]
      clear h2 hq
      go_wp2
      go_round
      case rel => exact ⟨k + 1, by omega, by go_num, by rw [H2.out]; go_num⟩
      case measure => simp [intOf]; omega
    · have hkl : k = i := by omega
      subst hkl
      go_wp2
      go_ret
      exact ⟨rfl, rfl⟩

theorem div_bit (s : Nat) (i : Nat) (hi : i < 64) : hasN s i = (s / 2 ^ i % 2 == 1) := by
  unfold hasN
  rw [decide_eq_true (by omega : 0 ≤ (i : Int) ∧ (i : Int) < 64), Bool.true_and, Int.toNat_natCast, Nat.testBit_eq_decide_div_mod_eq]
  rfl

theorem rhas_any (s : Nat) (i : Int) (hs : s < 18446744073709551616) (w : World) : Calls Tryd.prog 76 #[.int .u64 (s : Int), .int .i64 i] w (fun e w' => e = .returned (.bool (hasN s i)) ∧ w = w') := by
  by_cases h : 0 ≤ i ∧ i < 64
  · obtain ⟨n, rfl⟩ := Int.eq_ofNat_of_zero_le h.1
    have hn : n < 64 := by omega
    have hd := div_bit s n hn
    have hp : 0 < 2 ^ n := Nat.pow_pos (by omega)
    obtain ⟨q, hq⟩ : ∃ q, 2 ^ n = q := ⟨_, rfl⟩
    rw [hq] at hd hp
    have hq0 : 0 < (q : Int) := by omega
    have HQ := Lib.hid hq
    have HD := Lib.hid hd
    clear hq hd h
    have hx : 0 ≤ (s : Int) / (q : Int) := Int.ediv_nonneg (by omega) (by omega)
    have hx2 : (s : Int) / (q : Int) ≤ s := Int.ediv_le_self _ (by omega)
    go_enter Tryd.func76, Tryd.ntmps76
    go_wp2_with (first | (go_at_call 89; refine (power_any n hn _).mono ?_; rintro e w' ⟨rfl, rfl⟩; rw [HQ.out]))
    go_ret
    refine ⟨ret_bool ?_, rfl⟩
    rw [HD.out, ← Int.natCast_ediv s q]
    generalize s / q = d
    rw [Bool.eq_iff_iff]
    simp
    omega
  · have hb : hasN s i = false := by unfold hasN; rw [decide_eq_false h]; rfl
    have H := Lib.hid hb
    clear hb
    by_cases h0 : i < 0
    · clear h
      go_enter Tryd.func76, Tryd.ntmps76
      go_wp2
      go_ret
      exact ⟨by rw [H.out]; rfl, rfl⟩
    · have h1 : 64 ≤ i := by omega
      clear h
      go_enter Tryd.func76, Tryd.ntmps76
      go_wp2
      go_ret
      exact ⟨by rw [H.out]; simp, rfl⟩
end Go.Proofs.YtgjieoljfcfacaaDoor
