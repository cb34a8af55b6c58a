/- The walk of TrimMiddles. -/
import Derived.Test.YtihfcaconbcdjaaTrimL
namespace Go.Proofs.Ytihfcaconbcdjaa
open Go.RowKit Go.Sort
set_option maxHeartbeats 1000000
set_option maxRecDepth 100000

theorem trimMiddles_walk (f : Int) (v : Value) (l : List Int) (w : World) (h : IHas w v l) (hr : Rng l) (hf : -9223372036854775808 ≤ f ∧ f ≤ 9223372036854775807) :
    Calls Try.prog 5 #[.int .i64 f, v] w (RetV w (.bool true)) := by
  have HC := Lib.hid (fun v l W h => cut_any v l W h)
  have HM := Lib.hid (fun v l W h hl hr => middle_any f v l W h hl hr hf)
  have HRM := Lib.hid (fun v l W h hl hr => rmiddle_any f v l W h hl hr hf)
  have HRT := Lib.hid (fun v l W h hl => rtrim_any f v l W h hl hf)
  have HW := Lib.hid (fun W => trimWorks_any W)
  have HI := Lib.hid h
  clear h
  have ht : (l.take 40).length ≤ 1000 := by rw [List.length_take]; omega
  have hrm : Rng (l.take 40) := fun x hx => hr x (List.mem_of_mem_take hx)
  obtain ⟨m, em⟩ : ∃ m, l.take 40 = m := ⟨_, rfl⟩
  rw [em] at ht hrm
  have EM := Lib.hid em
  have HR := Lib.hid hrm
  have hends := fun h0 => trim_ends f m h0 _ rfl
  have htp := trimI_pos f m
  have ht0 : m.length = 0 → (trimI f m) = [] := fun h => by rw [List.eq_nil_of_length_eq_zero h, trimI_nil]
  have HMf := HM.out
  obtain ⟨M, eM⟩ : ∃ M, midI (trimI f m) = M := ⟨_, rfl⟩
  have EMM := Lib.hid eM
  rw [eM] at hends
  obtain ⟨s, es⟩ : ∃ s, trimI f m = s := ⟨_, rfl⟩
  rw [es] at hends htp ht0
  have ES := Lib.hid es
  have HEN := Lib.hid hends
  have HTP := Lib.hid htp
  have HT0 := Lib.hid ht0
  clear em hrm hr hends htp ht0 eM es HMf
  go_enter Try.func5, Try.ntmps5
  go_wp2_with fail
  go_at_call 13
  refine (HC.out _ _ _ HI.out).mono ?_
  rintro e w1 ⟨v1, rfl, hg1, ho1⟩
  rw [EM.out] at ho1
  have I1 := Lib.hid ho1.has
  have G1 := Lib.hid hg1
  clear ho1 hg1
  go_wp2_with fail
  go_at_call 22
  refine (HM.out _ _ _ I1.out ht HR.out).mono ?_
  rw [EMM.out]
  rintro e w2 ⟨rfl, hg2⟩
  have G2 := Lib.hid hg2
  have I12 := Lib.hid (I1.out.grows hg2)
  clear hg2
  go_wp2_with fail
  go_at_call 23
  refine (HRM.out _ _ _ I12.out ht HR.out).mono ?_
  rw [EMM.out]
  rintro e w3 ⟨rfl, hg3⟩
  have G3 := Lib.hid hg3
  have I13 := Lib.hid (I12.out.grows hg3)
  clear hg3
  go_wp2_with fail
  go_at_call 18
  refine (HRT.out _ _ _ I13.out ht).mono ?_
  rw [ES.out]
  rintro e w4 ⟨v4, rfl, hg4, ho4⟩
  have G4 := Lib.hid hg4
  have I4 := Lib.hid ho4
  clear hg4 ho4
  by_cases h0 : m.length = 0
  · have hd : decide (0 < m.length) = false := decide_eq_false (by omega)
    rw [hd]
    clear hd HC HM HRM HRT HI EM HR EMM HEN HTP HT0 I1 I12 I13 I4
    as_aux_lemma =>
    go_wp2_with fail
    go_at_call 19
    refine (HW.out _).mono ?_
    rintro e w5 ⟨rfl, hg5⟩
    have G5 := Lib.hid hg5
    clear hg5
    go_wp2_with fail
    go_ret
    exact ⟨rfl, grows_trans _ _ _ (grows_trans _ _ _ (grows_trans _ _ _ (grows_trans _ _ _ G1.out G2.out) G3.out) G4.out) G5.out⟩
  · have hd : decide (0 < m.length) = true := decide_eq_true (by omega)
    rw [hd]
    obtain ⟨k, hk1, hk2, a, b, ha, hb, hab, hbb⟩ := HEN.out (by omega)
    obtain ⟨g, o, cap, rfl, hcap, hgw⟩ := I4.out.form rfl (HTP.out (by omega))
    have hc0 := I4.out.cell 0 (HTP.out (by omega))
    have hck := I4.out.cell k hk2
    rw [ha, Nat.add_zero] at hc0
    rw [hb] at hck
    obtain ⟨n, en⟩ : ∃ n, s.length = n := ⟨_, rfl⟩
    rw [en] at hk1 hk2 hcap
    have hwk : wrap64 (k : Int) = (k : Int) := by have := HTP.out; have h3 := trimI_length f m; rw [ES.out] at h3; unfold wrap64; omega
    have hn0 : 0 < n := Nat.lt_of_le_of_lt (Nat.zero_le _) hk2
    rw [en]
    have hba : decide (a ≤ M) = true := decide_eq_true hab
    have hbm : decide (M ≤ b) = true := decide_eq_true hbb
    clear hd ha hb en HC HM HRM HRT HI EM HR EMM HEN HTP HT0 I1 I12 I13 I4 ES h0 ht hf
    clear s
    as_aux_lemma =>
    go_wp2_with fail
    go_at_call 19
    refine (HW.out _).mono ?_
    rintro e w5 ⟨rfl, hg5⟩
    have G5 := Lib.hid hg5
    clear hg5
    go_wp2_with fail
    go_ret
    exact ⟨rfl, grows_trans _ _ _ (grows_trans _ _ _ (grows_trans _ _ _ (grows_trans _ _ _ G1.out G2.out) G3.out) G4.out) G5.out⟩
end Go.Proofs.Ytihfcaconbcdjaa
