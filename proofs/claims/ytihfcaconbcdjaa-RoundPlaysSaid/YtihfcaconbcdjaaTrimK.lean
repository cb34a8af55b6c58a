/- The walks of TrimTrims, TrimFaults, TrimMiddles. -/
import Derived.Test.YtihfcaconbcdjaaTrimJ
namespace Go.Proofs.Ytihfcaconbcdjaa
open Go.RowKit Go.Sort
set_option maxHeartbeats 1000000
set_option maxRecDepth 100000

theorem trimFaults_walk (m f : Int) (w : World) (hm : 0 ≤ m ∧ m ≤ 255) (hf : -9223372036854775808 ≤ f ∧ f ≤ 9223372036854775807) :
    Calls Try.prog 4 #[.int .u8 m, .int .i64 f] w (RetV w (.bool true)) := by
  have h1 := fun W => fault_any m f W (by omega) hf
  have h2 := fun W => rfault_any m f W (by omega) hf
  have h3 := fun W => fault_any (-m) f W (by omega) hf
  rw [show faultI (-m) f = 0 by unfold faultI; rw [if_pos (by omega)]] at h3
  have hw := fun W => trimWorks_any W
  have hwm : wrap64 m = m := by unfold wrap64; omega
  have hwn : wrap64 (-m) = -m := by unfold wrap64; omega
  obtain ⟨F, eF⟩ : ∃ F, faultI m f = F := ⟨_, rfl⟩
  rw [eF] at h1 h2
  have H1 := Lib.hid h1
  have H2 := Lib.hid h2
  have H3 := Lib.hid h3
  have HW := Lib.hid hw
  clear h1 h2 h3 hw eF
  go_enter Try.func4, Try.ntmps4
  go_wp2_with fail
  go_at_call 20
  refine (H1.out _).mono ?_
  rintro e w' ⟨rfl, rfl⟩
  go_wp2_with fail
  go_at_call 21
  refine (H2.out _).mono ?_
  rintro e w' ⟨rfl, rfl⟩
  go_wp2_with fail
  go_at_call 20
  refine (H3.out _).mono ?_
  rintro e w' ⟨rfl, rfl⟩
  go_wp2_with fail
  go_at_call 19
  refine (HW.out _).mono ?_
  rintro e w1 ⟨rfl, hg⟩
  have HG := Lib.hid hg
  clear hg
  go_wp2_with fail
  go_ret
  exact ⟨rfl, HG.out⟩

theorem trimTrims_walk (f : Int) (v : Value) (l : List Int) (w : World) (h : IHas w v l) (hf : -9223372036854775808 ≤ f ∧ f ≤ 9223372036854775807) :
    Calls Try.prog 3 #[.int .i64 f, v] w (RetV w (.bool true)) := by
  have HC := Lib.hid (fun v l W h => cut_any v l W h)
  have HS := Lib.hid (fun v l W h hl => sort_any v l W h hl)
  have HRS := Lib.hid (fun v l W h hl => rsort_any v l W h hl)
  have HT := Lib.hid (fun v l W h hl => trim_any f v l W h hl hf)
  have HRT := Lib.hid (fun v l W h hl => rtrim_any f v l W h hl hf)
  have HE := Lib.hid (fun va vb a b W ha hb hl hl' => same_any va vb a b W ha hb hl hl')
  have HW := Lib.hid (fun W => trimWorks_any W)
  have HI := Lib.hid h
  clear h
  have ht : (l.take 40).length ≤ 1000 := by rw [List.length_take]; omega
  obtain ⟨m, em⟩ : ∃ m, l.take 40 = m := ⟨_, rfl⟩
  have hmm : m.take 40 = m := by rw [← em, List.take_take]; rfl
  rw [em] at ht
  have hsl : (sortI m).length ≤ 1000 := by rw [sortI_length]; exact ht
  have htl : (trimI f m).length ≤ 1000 := by rw [trimI_length]; omega
  have HMM := Lib.hid hmm
  have EM := Lib.hid em
  clear hmm em
  go_enter Try.func3, Try.ntmps3
  go_wp2_with fail
  go_at_call 13
  refine (HC.out _ _ _ HI.out).mono ?_
  rintro e w1 ⟨v1, rfl, hg1, ho1⟩
  rw [EM.out] at ho1
  have I1 := Lib.hid ho1.has
  have G1 := Lib.hid hg1
  clear ho1 hg1
  go_wp2_with fail
  go_at_call 13
  refine (HC.out _ _ _ I1.out).mono ?_
  rintro e w2 ⟨v2, rfl, hg2, ho2⟩
  rw [HMM.out] at ho2
  have I2 := Lib.hid ho2.has
  have G2 := Lib.hid hg2
  have I12 := Lib.hid (I1.out.grows hg2)
  clear ho2 hg2
  go_wp2_with fail
  go_at_call 15
  refine (HS.out _ _ _ I12.out (by omega)).mono ?_
  rintro e w3 ⟨v3, rfl, hg3, ho3⟩
  have I3 := Lib.hid ho3.has
  have G3 := Lib.hid hg3
  have I13 := Lib.hid (I12.out.grows hg3)
  have I23 := Lib.hid (I2.out.grows hg3)
  clear ho3 hg3
  go_wp2_with fail
  go_at_call 16
  refine (HRS.out _ _ _ I23.out ht).mono ?_
  rintro e w4 ⟨v4, rfl, hg4, ho4⟩
  have I4 := Lib.hid ho4.has
  have G4 := Lib.hid hg4
  have I14 := Lib.hid (I13.out.grows hg4)
  have I24 := Lib.hid (I23.out.grows hg4)
  have I34 := Lib.hid (I3.out.grows hg4)
  clear ho4 hg4
  go_wp2_with fail
  go_at_call 14
  refine (HE.out _ _ _ _ _ I34.out I4.out hsl hsl).mono ?_
  rintro e w5 ⟨he, hg5⟩
  rw [decide_eq_true rfl] at he
  subst he
  have G5 := Lib.hid hg5
  have I15 := Lib.hid (I14.out.grows hg5)
  have I25 := Lib.hid (I24.out.grows hg5)
  clear hg5
  go_wp2_with fail
  go_at_call 17
  refine (HT.out _ _ _ I15.out ht).mono ?_
  rintro e w6 ⟨v6, rfl, hg6, ho6⟩
  have I6 := Lib.hid ho6
  have G6 := Lib.hid hg6
  have I16 := Lib.hid (I15.out.grows hg6)
  have I26 := Lib.hid (I25.out.grows hg6)
  clear ho6 hg6
  go_wp2_with fail
  go_at_call 18
  refine (HRT.out _ _ _ I26.out ht).mono ?_
  rintro e w7 ⟨v7, rfl, hg7, ho7⟩
  have I7 := Lib.hid ho7
  have G7 := Lib.hid hg7
  have I17 := Lib.hid (I16.out.grows hg7)
  have I27 := Lib.hid (I26.out.grows hg7)
  have I67 := Lib.hid (I6.out.grows hg7)
  clear ho7 hg7
  go_wp2_with fail
  go_at_call 14
  refine (HE.out _ _ _ _ _ I67.out I7.out htl htl).mono ?_
  rintro e w8 ⟨he, hg8⟩
  rw [decide_eq_true rfl] at he
  subst he
  have G8 := Lib.hid hg8
  have I18 := Lib.hid (I17.out.grows hg8)
  have I28 := Lib.hid (I27.out.grows hg8)
  clear hg8
  go_wp2_with fail
  go_at_call 14
  refine (HE.out _ _ _ _ _ I18.out I28.out ht ht).mono ?_
  rintro e w9 ⟨he, hg9⟩
  rw [decide_eq_true rfl] at he
  subst he
  have G9 := Lib.hid hg9
  clear hg9
  go_wp2_with fail
  go_at_call 19
  refine (HW.out _).mono ?_
  rintro e w10 ⟨rfl, hg10⟩
  have G10 := Lib.hid hg10
  clear hg10
  go_wp2_with fail
  go_ret
  exact ⟨rfl, grows_trans _ _ _ (grows_trans _ _ _ (grows_trans _ _ _ (grows_trans _ _ _ (grows_trans _ _ _ (grows_trans _ _ _ (grows_trans _ _ _ (grows_trans _ _ _ (grows_trans _ _ _ G1.out G2.out) G3.out) G4.out) G5.out) G6.out) G7.out) G8.out) G9.out) G10.out⟩
end Go.Proofs.Ytihfcaconbcdjaa
