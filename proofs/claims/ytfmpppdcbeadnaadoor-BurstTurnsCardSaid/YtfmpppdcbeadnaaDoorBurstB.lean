/- How wide some bits are: the program's and the document's. -/
import Derived.Test.YtfmpppdcbeadnaaDoorBurstA
namespace Go.Proofs.YtfmpppdcbeadnaaDoor
open Go.RowKit Go.Sort

theorem width_range (x : Nat) (hx : x < 4294967296) : 0 ≤ widthN x ∧ widthN x ≤ 32 := by
  unfold widthN
  split
  · omega
  · obtain ⟨h1, h2, h3, h4⟩ := len_spec x (by assumption) hx
    obtain ⟨h5, h6, h7⟩ := ctz32_spec x (by assumption) hx
    have : Lib.ctz 32 x ≤ Lib.bitLen x - 1 := by
      apply Decidable.byContradiction
      intro hc
      exact h6 _ (by omega) h2
    omega

set_option maxHeartbeats 1000000 in
theorem width_any (x : Nat) (hx : x < 4294967296) (w : World) (hT : TabAt 0 Lib.deBruijn32tab w) :
    Calls Tryd.prog 11 #[.int .u32 (x : Int)] w (fun e w' => e = .returned (.int .i64 (widthN x)) ∧ w = w') := by
  by_cases h0 : x = 0
  · subst h0
    go_enter Tryd.func11, Tryd.ntmps11
    go_wp2
    go_ret
    exact ⟨rfl, rfl⟩
  · obtain ⟨l1, -, -, l4⟩ := len_spec x h0 hx
    obtain ⟨-, -, c3⟩ := ctz32_spec x h0 hx
    have hw : widthN x = (Lib.bitLen x : Int) - (Lib.ctz 32 x : Int) := by unfold widthN; rw [if_neg h0]
    have hc1 := tz32_any x hx
    have hc2 : ∀ w, Calls Tryd.prog 17 #[.int .u32 (x : Int)] w (fun e w' => e = .returned (.int .i64 (Lib.bitLen x : Int)) ∧ w = w') := fun w =>
      (Tryd.bits_Len32 (x : Int) w (by omega) (by omega)).mono (by rintro e w' ⟨rfl, rfl⟩; exact ⟨by simp, rfl⟩)
    obtain ⟨a, ea⟩ : ∃ a, Lib.bitLen x = a := ⟨_, rfl⟩
    obtain ⟨b, eb⟩ : ∃ b, Lib.ctz 32 x = b := ⟨_, rfl⟩
    rw [ea] at l1 l4 hw hc2
    rw [eb] at c3 hw hc1
    have HC1 := Lib.hid hc1
    have HC2 := Lib.hid hc2
    have HT := Lib.hid hT
    have HW := Lib.hid hw
    have HX0 : ((x : Int) == 0) = false := by simp; omega
    clear hc1 hc2 hw ea eb hT h0
    go_enter Tryd.func11, Tryd.ntmps11
    go_wp2_with (first | (go_at_call 17; refine (HC2.out _).mono ?_; rintro e w' ⟨rfl, rfl⟩) | (go_at_call 18; refine (HC1.out _ HT.out).mono ?_; rintro e w' ⟨rfl, rfl⟩))
    go_ret
    exact ⟨ret_int HW.out.symm, rfl⟩

/-- The document's loop, behind i bits. -/
def WRel (x i : Nat) (lo hi : Int) : Prop := i ≤ 32 ∧ ((lo = -1 ∧ hi = -1 ∧ ∀ k, k < i → ¬ bitAt x k) ∨
  (∃ l h : Nat, lo = l ∧ hi = h ∧ l ≤ h ∧ h < i ∧ bitAt x l ∧ bitAt x h ∧ ∀ k, k < i → bitAt x k → l ≤ k ∧ k ≤ h))
theorem wrel_off {x i : Nat} {lo hi : Int} (h : WRel x i lo hi) (hi32 : i < 32) (hb : ¬ bitAt x i) : WRel x (i + 1) lo hi := by
  obtain ⟨h1, h2 | ⟨l, k, rfl, rfl, h3, h4, h5, h6, h7⟩⟩ := h
  · refine ⟨by omega, .inl ⟨h2.1, h2.2.1, fun k hk => ?_⟩⟩
    by_cases e : k = i
    · subst e; exact hb
    · exact h2.2.2 k (by omega)
  · refine ⟨by omega, .inr ⟨l, k, rfl, rfl, h3, by omega, h5, h6, fun m hm hbm => ?_⟩⟩
    by_cases e : m = i
    · subst e; exact absurd hbm hb
    · exact h7 m (by omega) hbm
theorem wrel_on {x i : Nat} {lo hi : Int} (h : WRel x i lo hi) (hi32 : i < 32) (hb : bitAt x i) : WRel x (i + 1) (if lo < 0 then (i : Int) else lo) i := by
  obtain ⟨h1, h2 | ⟨l, k, rfl, rfl, h3, h4, h5, h6, h7⟩⟩ := h
  · refine ⟨by omega, .inr ⟨i, i, ?_, rfl, Nat.le_refl _, by omega, hb, hb, fun k hk hbk => ?_⟩⟩
    · rw [h2.1]; rfl
    · by_cases e : k = i
      · omega
      · exact absurd hbk (h2.2.2 k (by omega))
  · refine ⟨by omega, .inr ⟨l, i, ?_, rfl, by omega, by omega, h5, hb, fun m hm hbm => ?_⟩⟩
    · rw [if_neg (by omega)]
    · by_cases e : m = i
      · omega
      · have := h7 m (by omega) hbm
        omega
theorem wrel_end {x : Nat} {lo hi : Int} (hx : x < 4294967296) (h : WRel x 32 lo hi) : (lo < 0 → widthN x = 0) ∧ (¬ lo < 0 → widthN x = hi - lo + 1) ∧ -1 ≤ lo ∧ lo < 32 ∧ -1 ≤ hi ∧ hi < 32 := by
  have hz : x ≠ 0 → ∃ k, k < 32 ∧ bitAt x k := fun h0 => ⟨_, (ctz32_spec x h0 hx).2.2, (ctz32_spec x h0 hx).1⟩
  obtain ⟨h1, h2 | ⟨l, k, rfl, rfl, h3, h4, h5, h6, h7⟩⟩ := h
  · have : x = 0 := by
      apply Decidable.byContradiction
      intro h0
      obtain ⟨k, hk, hbk⟩ := hz h0
      exact h2.2.2 k hk hbk
    refine ⟨fun _ => by rw [this]; rfl, fun hc => absurd h2.1 (by omega), ?_⟩
    omega
  · refine ⟨fun hc => by omega, fun _ => ?_, by omega⟩
    have h0 : x ≠ 0 := by
      rintro rfl
      simp [bitAt] at h5
    obtain ⟨a1, a2, a3, a4⟩ := len_spec x h0 hx
    obtain ⟨b1, b2, b3⟩ := ctz32_spec x h0 hx
    have c1 := h7 _ b3 b1
    have c2 := h7 (Lib.bitLen x - 1) (by omega) a2
    have c3 : ¬ l < Lib.ctz 32 x := fun hc => b2 _ hc h5
    have c4 : ¬ Lib.bitLen x ≤ k := fun hc => a3 _ hc h6
    unfold widthN
    rw [if_neg h0]
    omega

theorem bit_nat (d : Nat) : ((d : Int).tmod 2 == 1) = decide (d % 2 = 1) := by
  rw [Int.tmod_eq_emod_of_nonneg (by omega), Bool.eq_iff_iff]
  simp
  omega
theorem bit_eq (x k : Nat) : (((x : Int) / 2 ^ k).tmod 2 == 1) = decide (bitAt x k) := by
  have e : (x : Int) / 2 ^ k = ((x / 2 ^ k : Nat) : Int) := by simp
  rw [e]
  exact bit_nat _

set_option maxHeartbeats 1000000 in
theorem rwidth_any (x : Nat) (hx : x < 4294967296) (w : World) :
    Calls Tryd.prog 12 #[.int .u32 (x : Int)] w (fun e w' => e = .returned (.int .i64 (widthN x)) ∧ w = w') := by
  go_enter Tryd.func12, Tryd.ntmps12
  go_wp2
  go_loop [3, 4, 5] (fun lo hi i => ∃ (k : Nat) (l h : Int), i = .int .i64 k ∧ lo = .int .i64 l ∧ hi = .int .i64 h ∧ WRel x k l h) (fun _ _ i => 32 - (intOf i).toNat)
  case atStart => exact ⟨0, -1, -1, rfl, rfl, rfl, by omega, .inl ⟨rfl, rfl, fun k hk => absurd hk (by omega)⟩⟩
  case round =>
    obtain ⟨k, l, h, rfl, rfl, rfl, hr⟩ := hrel
    have hk := hr.1
    have hlo : l < 0 ∨ ¬ l < 0 := by omega
    by_cases hlt : k < 32
    · by_cases hb : bitAt x k
      · have hs := wrel_on hr hlt hb
        have hbi := bit_eq x k
        rw [decide_eq_true hb] at hbi
        clear hr hb
        have HS := Lib.hid hs
        clear hs
        rcases hlo with hlo | hlo
        · go_wp2_with fail
          go_round
          case rel => exact ⟨k + 1, k, k, by go_num, rfl, rfl, by have := HS.out; rwa [if_pos hlo] at this⟩
          case measure => simp [intOf]; omega
        · go_wp2_with fail
          go_round
          case rel => exact ⟨k + 1, l, k, by go_num, rfl, rfl, by have := HS.out; rwa [if_neg hlo] at this⟩
          case measure => simp [intOf]; omega
      · have hs := wrel_off hr hlt hb
        have hbi := bit_eq x k
        rw [decide_eq_false hb] at hbi
        have HS := Lib.hid hs
        clear hs hr hb
        go_wp2_with fail
        go_round
        case rel => exact ⟨k + 1, l, h, by go_num, rfl, rfl, HS.out⟩
        case measure => simp [intOf]; omega
    · have hk32 : k = 32 := by omega
      subst hk32
      obtain ⟨e1, e2, e3, e4, e5, e6⟩ := wrel_end hx hr
      have E1 := Lib.hid e1
      have E2 := Lib.hid e2
      clear e1 e2 hr
      rcases hlo with hlo | hlo
      · go_wp2_with fail
        go_ret
        exact ⟨ret_int (E1.out hlo).symm, rfl⟩
      · go_wp2_with fail
        go_ret
        exact ⟨ret_int (by rw [E2.out hlo]), rfl⟩
end Go.Proofs.YtfmpppdcbeadnaaDoor
