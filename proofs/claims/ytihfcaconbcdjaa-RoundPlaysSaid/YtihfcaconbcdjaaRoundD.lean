/- round.First, the methods of a nil round, Next, and the chapter's example. -/
import Derived.Test.YtihfcaconbcdjaaRoundC
import Derived.Test.YtihfcaconbcdjaaTrimJ
namespace Go.Proofs.Ytihfcaconbcdjaa
open Go.RowKit Go.Sort Go.Maps
set_option maxHeartbeats 1000000
set_option maxRecDepth 100000

def firstI (at_ every : Int) : Int := if every < 1 ∨ at_ < 1 then 1 else (at_ - 1) / every + 1
theorem first_quo {a e : Int} (he : 1 ≤ e) (ha : 1 ≤ a) (h : a ≤ 9223372036854775807) : 0 ≤ (a - 1) / e ∧ (a - 1) / e ≤ a - 1 := by
  have h1 := Int.ediv_nonneg (a := a - 1) (b := e) (by omega) (by omega)
  have h2 := Int.ediv_le_self (a := a - 1) e (by omega)
  omega
theorem round_first (a e : Int) (ha : -9223372036854775808 ≤ a ∧ a ≤ 9223372036854775807) (he : -9223372036854775808 ≤ e ∧ e ≤ 9223372036854775807) (w : World) :
    Calls Try.prog 24 #[.int .i64 a, .int .i64 e] w (fun x w' => x = .returned (.int .i64 (firstI a e)) ∧ w = w') := by
  by_cases h1 : e < 1
  · have hf : firstI a e = 1 := by unfold firstI; rw [if_pos (.inl h1)]
    rw [hf]
    clear ha he hf
    go_enter Try.func24, Try.ntmps24
    go_wp2
    go_ret
    exact ⟨rfl, rfl⟩
  · by_cases h2 : a < 1
    · have hf : firstI a e = 1 := by unfold firstI; rw [if_pos (.inr h2)]
      rw [hf]
      clear ha he hf
      go_enter Try.func24, Try.ntmps24
      go_wp2
      go_ret
      exact ⟨rfl, rfl⟩
    · have hf : firstI a e = (a - 1) / e + 1 := by unfold firstI; rw [if_neg (by omega)]
      have h3 := first_quo (by omega : 1 ≤ e) (by omega : 1 ≤ a) ha.2
      have hw1 : wrap64 (a - 1) = a - 1 := by unfold wrap64; omega
      have hq : (a - 1).tdiv e = (a - 1) / e := Int.tdiv_eq_ediv_of_nonneg (by omega)
      obtain ⟨q, eq⟩ : ∃ q, (a - 1) / e = q := ⟨_, rfl⟩
      rw [eq] at hf h3 hq
      have hw2 : wrap64 q = q := by unfold wrap64; omega
      have hw3 : wrap64 (q + 1) = q + 1 := by unfold wrap64; omega
      have he0 : (e == 0) = false := by simp; omega
      have he1 : e ≠ 0 := by omega
      rw [hf]
      clear ha he hf h3 eq
      go_enter Try.func24, Try.ntmps24
      go_wp2
      go_ret
      exact ⟨rfl, rfl⟩

theorem nil_get (x : Int) (w : World) : Calls Try.prog 31 #[.pointer none, .int .i64 x] w (fun e w' => e = .returned (.tuple #[.int .i64 0, .bool false]) ∧ w = w') := by
  go_enter Try.func31, Try.ntmps31
  go_wp2
  go_ret2
  exact ⟨rfl, rfl⟩
theorem nil_close (x : Int) (w : World) : Calls Try.prog 28 #[.pointer none, .int .i64 x] w (fun e w' => e = .returned (.tuple #[.int .i64 0, .bool false]) ∧ w = w') := by
  go_enter Try.func28, Try.ntmps28
  go_wp2
  go_ret2
  exact ⟨rfl, rfl⟩
theorem nil_note (x d : Int) (w : World) : Calls Try.prog 27 #[.pointer none, .int .i64 x, .int .i64 d] w (fun e w' => e = .returned (.int .i64 1) ∧ w = w') := by
  go_enter Try.func27, Try.ntmps27
  go_wp2
  go_ret
  exact ⟨rfl, rfl⟩
theorem nil_no (w : World) : Calls Try.prog 33 #[.pointer none] w (fun e w' => e = .returned (.int .i64 0) ∧ w = w') := by
  go_enter Try.func33, Try.ntmps33
  go_wp2
  go_ret
  exact ⟨rfl, rfl⟩
theorem nil_len (w : World) : Calls Try.prog 34 #[.pointer none] w (fun e w' => e = .returned (.int .i64 0) ∧ w = w') := by
  go_enter Try.func34, Try.ntmps34
  go_wp2
  go_ret
  exact ⟨rfl, rfl⟩
theorem nil_who (w : World) : Calls Try.prog 29 #[.pointer none] w (fun e w' => e = .returned (.int .u64 0) ∧ w = w') := by
  go_enter Try.func29, Try.ntmps29
  go_wp2
  go_ret
  exact ⟨rfl, rfl⟩
theorem nil_next (w : World) : Calls Try.prog 36 #[.pointer none] w (fun e w' => e = .returned (.pointer none) ∧ w = w') := by
  go_enter Try.func36, Try.ntmps36
  go_wp2
  go_ret
  exact ⟨rfl, rfl⟩
theorem round_next (w : World) {b m : Nat} {no : Int} {es : List (Int × Int)} (h : RoundAt w b m no es) (h1 : wrap64 (no + 1) = no + 1) :
    Calls Try.prog 36 #[.pointer (some ⟨b, 0, none⟩)] w (fun e w' => ∃ b' m', e = .returned (.pointer (some ⟨b', 0, none⟩)) ∧ RoundAt w' b' m' (no + 1) [] ∧ Grows w w') := by
  have c0 := h.c0
  have HN := Lib.hid (fun W => round_new (no + 1) W)
  clear h
  go_enter Try.func36, Try.ntmps36
  go_wp2_with fail
  go_at_call 26
  refine (HN.out _).mono ?_
  rintro e w1 ⟨rfl, hr, hg⟩
  go_wp2_with fail
  go_ret
  exact ⟨_, _, rfl, hr, hg⟩

/-- The example's readings. -/
abbrev exE : List (Int × Int) := [(0, 5), (1, 7), (2, -100), (3, 6)]
theorem roundWorks_any (w : World) : Calls Try.prog 25 #[] w (RetV w (.bool true)) := by
  have HN := Lib.hid (fun W => round_new 3 W)
  have HF := Lib.hid (fun a e ha he W => round_first a e ha he W)
  have hcl := fun (b m : Nat) (W : World) (h : RoundAt W b m 3 exE) => round_close 1 W h (by decide) (by intro x hx; simp [dsOf] at hx; rcases hx with rfl | rfl | rfl | rfl <;> decide) (by decide)
  have hti : trimI 1 (dsOf exE) = [5, 6] := by
    rw [← ex_trim]
    exact trimI_eq 1 (by decide)
  rw [hti, show midI [5, 6] = 5 by decide, show decide (0 < exE.length) = true by decide] at hcl
  have HCL := Lib.hid hcl
  clear hcl hti
  go_enter Try.func25, Try.ntmps25
  go_wp2_with fail
  go_at_call 26
  refine (HN.out _).mono ?_
  rintro e w1 ⟨rfl, hr1, hg1⟩
  obtain ⟨b, eb⟩ : ∃ b, w.heap.size + 1 = b := ⟨_, rfl⟩
  obtain ⟨m, em⟩ : ∃ m, w.heap.size = m := ⟨_, rfl⟩
  have hr1' : RoundAt w1 b m 3 [] := by rw [← eb, ← em]; exact hr1
  have hG1 : Below w.heap.size w w1 := hg1
  have HR1 := Lib.hid hr1'
  have HG1 := Lib.hid hG1
  have HB := Lib.hid eb
  have HM := Lib.hid em
  rw [eb]
  clear hr1 hg1 hr1' hG1 eb em
  go_wp2_with fail
  obtain ⟨w2, e2⟩ : ∃ w2, w1.alloc (.cells #[.int .i64 5, .int .i64 7, .int .i64 (-100), .int .i64 6] 2) = w2 := ⟨_, rfl⟩
  obtain ⟨g, eg⟩ : ∃ g, w1.heap.size = g := ⟨_, rfl⟩
  rw [e2, eg]
  have hcells : w2.heap[g]? = some (.cells #[.int .i64 5, .int .i64 7, .int .i64 (-100), .int .i64 6] 2) := by rw [← e2, ← eg]; exact heap_alloc_new w1 _
  have hr2 : RoundAt w2 b m 3 [] := by rw [← e2]; exact HR1.out.kept (World.grownBy_alloc w1 _ none) (by simp) (by simp)
  have hg2 : Below w.heap.size w w2 := by rw [← e2]; exact bl_alloc HG1.out _
  have hgm : g ≠ m := by have := HR1.out.lt.2; omega
  have hmw : w.heap.size ≤ m := by have := HM.out; omega
  have HMW := Lib.hid hmw
  clear e2 eg hmw
  go_loopw [2, 3, 9] (fun _ _ vi wr => ∃ k : Nat, vi = .int .i64 (k : Int) ∧ k ≤ 4 ∧ RoundAt wr b m 3 (exE.take k) ∧ Below w.heap.size w wr ∧ wr.heap[g]? = some (.cells #[.int .i64 5, .int .i64 7, .int .i64 (-100), .int .i64 6] 2)) (fun _ _ vi _ => 4 - (intOf vi).toNat)
  case atStart => exact ⟨0, rfl, by omega, hr2, hg2, hcells⟩
  case round =>
    obtain ⟨k, rfl, hk, hr, hg, hc⟩ := hrel
    have HR := Lib.hid hr
    have HG := Lib.hid hg
    have hgs := (Array.getElem?_eq_some_iff.1 hc).1
    clear hr hg hr2 hg2 hcells
    by_cases hk4 : k < 4
    · have hx0 : wr.cell? ⟨g, 0, none⟩ = some (.int .i64 5) := by unfold World.cell?; rw [hc]; rfl
      have hx1 : wr.cell? ⟨g, 1, none⟩ = some (.int .i64 7) := by unfold World.cell?; rw [hc]; rfl
      have hx2 : wr.cell? ⟨g, 2, none⟩ = some (.int .i64 (-100)) := by unfold World.cell?; rw [hc]; rfl
      have hx3 : wr.cell? ⟨g, 3, none⟩ = some (.int .i64 6) := by unfold World.cell?; rw [hc]; rfl
      have HCC := Lib.hid hc
      clear hc
      obtain ⟨d, hd, hwd, hxd⟩ : ∃ d, exE.take (k + 1) = exE.take k ++ [((k : Int), d)] ∧ (Lit.int .i64 d).wf = true ∧ wr.cell? ⟨g, k, none⟩ = some (.int .i64 d) := by
        have : k = 0 ∨ k = 1 ∨ k = 2 ∨ k = 3 := by omega
        rcases this with rfl | rfl | rfl | rfl
        · exact ⟨_, rfl, by decide, hx0⟩
        · exact ⟨_, rfl, by decide, hx1⟩
        · exact ⟨_, rfl, by decide, hx2⟩
        · exact ⟨_, rfl, by decide, hx3⟩
      have hn0 : noteF (exE.take k) k = 0 := by
        have : k = 0 ∨ k = 1 ∨ k = 2 ∨ k = 3 := by omega
        rcases this with rfl | rfl | rfl | rfl <;> decide
      have hnl : noteL (exE.take k) k d = exE.take (k + 1) := by unfold noteL; rw [if_pos hn0, hd]
      have hlen : (exE.take k).length ≤ 1000 := by rw [List.length_take]; simp; omega
      have hnt := round_note wr HR.out (k : Int) d hwd hlen
      rw [hn0, hnl] at hnt
      have HNT := Lib.hid hnt
      clear hnt hn0 hnl hlen hd hwd hx0 hx1 hx2 hx3
      go_wp2_with fail
      go_at_call 27
      refine HNT.out.mono ?_
      rintro e w3 ⟨rfl, hr3, hg3⟩
      have hG3 : Below w.heap.size w w3 := HG.out.grown hg3 HG.out.size (fun kk hkk => by cases hkk; exact HMW.out)
      have hc3 : w3.heap[g]? = some (.cells #[.int .i64 5, .int .i64 7, .int .i64 (-100), .int .i64 6] 2) := (hg3.block g hgs (by simpa using hgm)).trans HCC.out
      go_wp2_with fail
      go_roundw
      case rel => exact ⟨k + 1, rfl, hk4, hr3, hG3, hc3⟩
      case measure => simp only [intOf]; omega
    · obtain rfl : k = 4 := by omega
      clear hc
      go_wp2_with fail
      go_at_call 28
      refine (HCL.out b m wr HR.out).mono ?_
      rintro e w3 ⟨rfl, hg3⟩
      have HR3 := Lib.hid (HR.out.grows hg3)
      have G3 := Lib.hid hg3
      have HNO := Lib.hid (round_no w3 HR3.out)
      have HLN := Lib.hid (round_len w3 HR3.out)
      clear hg3
      go_wp2_with (first
        | (go_at_call 33; refine HNO.out.mono ?_; rintro e w' ⟨rfl, rfl⟩)
        | (go_at_call 34; refine HLN.out.mono ?_; rintro e w' ⟨rfl, rfl⟩)
        | (go_at_call 24; refine (HF.out _ _ (by decide) (by decide) _).mono ?_; rintro e w' ⟨rfl, rfl⟩))
      rw [show (firstI 2001 1000 == 3) = true from by decide]
      go_ret
      exact ⟨rfl, grows_trans _ _ _ HG.out G3.out⟩
end Go.Proofs.Ytihfcaconbcdjaa
