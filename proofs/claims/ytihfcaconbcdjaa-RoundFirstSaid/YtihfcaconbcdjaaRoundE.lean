/- The walks of RoundFirst and RoundNil. -/
import Derived.Test.YtihfcaconbcdjaaRoundD
namespace Go.Proofs.Ytihfcaconbcdjaa
open Go.RowKit Go.Sort Go.Maps
set_option maxHeartbeats 1000000
set_option maxRecDepth 100000

theorem roundFirst_walk (a y : Int) (w : World) (ha : 0 ≤ a ∧ a ≤ 4294967295) (hy : 0 ≤ y ∧ y ≤ 65535) :
    Calls Try.prog 8 #[.int .u32 a, .int .u16 y] w (RetV w (.bool true)) := by
  have HW := Lib.hid (fun W => roundWorks_any W)
  have hF := fun W => round_first a (y + 1) (by omega) (by omega) W
  have h1 : 1 ≤ firstI a (y + 1) ∧ a ≤ firstI a (y + 1) * (y + 1) ∧ (firstI a (y + 1) = 1 ∨ (firstI a (y + 1) - 1) * (y + 1) < a) ∧ firstI a (y + 1) * (y + 1) ≤ 4295032831 ∧ firstI a (y + 1) ≤ 4294967296 := by
    unfold firstI
    by_cases h0 : a < 1
    · rw [if_pos (.inr h0)]
      omega
    · rw [if_neg (by omega)]
      obtain ⟨hq1, hq2⟩ := first_quo (by omega : 1 ≤ y + 1) (by omega : 1 ≤ a) (by omega)
      have h2 := Int.mul_ediv_add_emod (a - 1) (y + 1)
      have h3 := Int.emod_nonneg (a - 1) (by omega : y + 1 ≠ 0)
      have h4 := Int.emod_lt_of_pos (a - 1) (by omega : 0 < y + 1)
      obtain ⟨q, eq⟩ : ∃ q, (a - 1) / (y + 1) = q := ⟨_, rfl⟩
      rw [eq] at h2 hq1 hq2
      rw [eq]
      have h5 : (q + 1) * (y + 1) = (y + 1) * q + (y + 1) := by rw [Int.add_mul, Int.one_mul, Int.mul_comm]
      have h6 : (q + 1 - 1) * (y + 1) = (y + 1) * q := by rw [Int.add_sub_cancel, Int.mul_comm]
      rw [h5, h6]
      omega
  obtain ⟨k, ek⟩ : ∃ k, firstI a (y + 1) = k := ⟨_, rfl⟩
  rw [ek] at h1
  simp only [ek] at hF
  obtain ⟨g1, g2, g3, g4, g5⟩ := h1
  obtain ⟨e, ee⟩ : ∃ e, y + 1 = e := ⟨_, rfl⟩
  rw [ee] at hF g2 g3 g4
  have hsub : (k - 1) * e = k * e - e := by rw [Int.sub_mul, Int.one_mul]
  obtain ⟨p, ep⟩ : ∃ p, k * e = p := ⟨_, rfl⟩
  rw [ep] at g2 g4 hsub
  obtain ⟨r, er⟩ : ∃ r, (k - 1) * e = r := ⟨_, rfl⟩
  rw [er] at g3 hsub
  have hw1 : wrap64 (y + 1) = e := by rw [ee]; unfold wrap64; omega
  have hw2 : wrap64 p = p := by unfold wrap64; omega
  have hw3 : wrap64 (k - 1) = k - 1 := by unfold wrap64; omega
  have hw4 : wrap64 r = r := by unfold wrap64; omega
  have hwa : wrap64 a = a := by unfold wrap64; omega
  have hwy : wrap64 y = y := by unfold wrap64; omega
  have d1 : decide ((1 : Int) ≤ k) = true := decide_eq_true g1
  have d2 : decide (a ≤ p) = true := decide_eq_true g2
  have HF := Lib.hid hF
  clear hF ha hy ek ee g1 g2 g4 g5
  by_cases hk : k = 1
  · have hk0 : (k == 1) = true := by simpa using hk
    clear g3 hw3 hw4 er hsub hk
    go_enter Try.func8, Try.ntmps8
    go_wp2_with (first
      | (go_at_call 24; refine (HF.out _).mono ?_; rintro x w' ⟨rfl, rfl⟩)
      | (go_at_call 25; refine (HW.out _).mono ?_; rintro x w' ⟨rfl, hg5⟩))
    go_ret
    exact ⟨rfl, hg5⟩
  · have d3 : decide (r < a) = true := decide_eq_true (by rcases g3 with h | h; exact absurd h hk; exact h)
    have hk0 : (k == 1) = false := by simpa using hk
    clear g3 hsub hk
    go_enter Try.func8, Try.ntmps8
    go_wp2_with (first
      | (go_at_call 24; refine (HF.out _).mono ?_; rintro x w' ⟨rfl, rfl⟩)
      | (go_at_call 25; refine (HW.out _).mono ?_; rintro x w' ⟨rfl, hg5⟩))
    go_ret
    exact ⟨rfl, hg5⟩

theorem roundNil_walk (x d : Int) (w : World) (hd : -9223372036854775808 ≤ d ∧ d ≤ 9223372036854775807) :
    Calls Try.prog 11 #[.int .i64 x, .int .i64 d] w (RetV w (.bool true)) := by
  have HW := Lib.hid (fun W => roundWorks_any W)
  have H1 := Lib.hid (fun W => nil_get x W)
  have H2 := Lib.hid (fun W => nil_close x W)
  have H3 := Lib.hid (fun W => nil_note x d W)
  have H4 := Lib.hid (fun W => nil_no W)
  have H5 := Lib.hid (fun W => nil_who W)
  have H6 := Lib.hid (fun W => nil_len W)
  have H7 := Lib.hid (fun W => nil_next W)
  obtain ⟨r, er⟩ : ∃ r, d.tmod 1000 = r := ⟨_, rfl⟩
  have hr : -1000 < r ∧ r < 1000 := by
    rw [← er]
    rcases Int.le_total 0 d with h | h
    · rw [Int.tmod_eq_emod_of_nonneg h]
      omega
    · have h2 : d.tmod 1000 = -((-d).tmod 1000) := by rw [Int.neg_tmod, Int.neg_neg]
      rw [h2, Int.tmod_eq_emod_of_nonneg (by omega)]
      omega
  have hw1 : wrap64 r = r := by unfold wrap64; omega
  have hw2 : wrap64 (r + 1) = r + 1 := by unfold wrap64; omega
  have HN := Lib.hid (fun W => round_new r W)
  have HX := Lib.hid (fun W b m (h : RoundAt W b m r []) => round_next W h hw2)
  clear hd hr
  go_enter Try.func11, Try.ntmps11
  go_wp2_with fail
  go_at_call 31
  refine (H1.out _).mono ?_
  rintro e w' ⟨rfl, rfl⟩
  go_wp2_with fail
  go_at_call 28
  refine (H2.out _).mono ?_
  rintro e w' ⟨rfl, rfl⟩
  go_wp2_with fail
  go_at_call 26
  refine (HN.out _).mono ?_
  rintro e w1 ⟨rfl, hr1, hg1⟩
  have G1 := Lib.hid (show Grows w w1 from hg1)
  have R1 := Lib.hid hr1
  clear hg1 hr1
  go_wp2_with fail
  go_at_call 36
  refine (HX.out _ _ _ R1.out).mono ?_
  rintro e w2 ⟨b', m', rfl, hr2, hg2⟩
  have G2 := Lib.hid hg2
  have H8 := Lib.hid (round_no w2 hr2)
  have H9 := Lib.hid (round_len w2 hr2)
  clear hg2 hr2
  go_wp2_with fail
  go_at_call 27
  refine (H3.out _).mono ?_
  rintro e w' ⟨rfl, rfl⟩
  go_wp2_with fail
  go_at_call 33
  refine (H4.out _).mono ?_
  rintro e w' ⟨rfl, rfl⟩
  go_wp2_with fail
  go_at_call 29
  refine (H5.out _).mono ?_
  rintro e w' ⟨rfl, rfl⟩
  go_wp2_with fail
  go_at_call 34
  refine (H6.out _).mono ?_
  rintro e w' ⟨rfl, rfl⟩
  go_wp2_with fail
  go_at_call 36
  refine (H7.out _).mono ?_
  rintro e w' ⟨rfl, rfl⟩
  go_wp2_with fail
  go_at_call 33
  refine (H8.out).mono ?_
  rintro e w' ⟨rfl, rfl⟩
  go_wp2_with fail
  go_at_call 34
  refine (H9.out).mono ?_
  rintro e w' ⟨rfl, rfl⟩
  go_wp2_with fail
  go_at_call 25
  refine (HW.out _).mono ?_
  rintro e w' ⟨rfl, hg5⟩
  go_wp2_with fail
  go_ret
  exact ⟨rfl, grows_trans _ _ _ (grows_trans _ _ _ G1.out G2.out) hg5⟩
end Go.Proofs.Ytihfcaconbcdjaa
