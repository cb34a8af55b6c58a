/- HistNil: the walk. -/
import Derived.Test.YtdmmceclohkkdaaHistF
namespace Go.Proofs.Ytdmmceclohkkdaa
open Go.RowKit Go.Sort
set_option maxHeartbeats 4000000
set_option maxRecDepth 100000
theorem nhpop_any (now : Int) (w : World) : Calls Try.prog 45 #[.pointer none, .int .i64 now] w (RetV w (.tuple #[PZ, .bool false])) := by
  have HM := Lib.hid (fun W => nhnext_any W)
  go_enter Try.func45, Try.ntmps45
  go_wp2_with fail
  refine (HM.out _).mono ?_
  rintro e w2 ⟨rfl, hg2⟩
  obtain ⟨b, eb⟩ : ∃ b, w.heap.size = b := ⟨_, rfl⟩
  have hr := box_grows (heap_alloc_new w (.cells pz.cells TPK)) hg2
  rw [eb] at hr
  obtain ⟨WA, eA⟩ : ∃ WA, st12 w2 b pz = WA := ⟨_, rfl⟩
  have uA : WA.heap[b]? = some (.cells pz.cells TPK (0, 0)) := by rw [← eA]; exact st12_box hr
  have gA : Grows w WA := by
    rw [← eA]
    exact grows_of_chg (grows_trans _ _ _ (bl_alloc (Below.refl _ _) _ : Grows w (w.alloc (.cells pz.cells TPK))) hg2) (st12_chg _ _ _) (fun j hj => by rw [hj, eb]; exact Nat.le_refl _)
  have HA := Lib.hid (And.intro uA gA)
  obtain ⟨x0, x1, x2, x3, x4, x5, x6, x7, x8, x9, x10, x11, x12⟩ := pat_of hr
  obtain ⟨y0, y1, y2, y3, y4, y5, y6, y7, y8, y9, y10, y11⟩ := pfree_of hr
  simp only [st12, PW.body] at eA
  clear hr uA gA hg2
  simp only [PW.val, PW.cells, PW.body]
  go_wp2_with fail
  obtain ⟨uA, gA⟩ := HA.out
  obtain ⟨i0, i1, i2, i3, i4, i5, i6, i7, i8, i9, i10, i11, i12⟩ := pat_of uA
  exact bodyPost_ret (v := .tuple #[PZ, .bool false]) (by simp [results, Try.results45, go_sem, i0, i1, i2, i3, i4, i5, i6, i7, i8, i9, i10, i11, i12]) rfl ⟨rfl, bl_alloc gA _⟩
theorem histNil_walk (now : Int) (w : World) : Calls Try.prog 14 #[.int .i64 now] w (RetV w (.bool true)) := by
  have HNX := Lib.hid (fun W => nhnext_any W)
  have HPO := Lib.hid (fun W => nhpop_any now W)
  have HFL := Lib.hid (fun W => nhfloor_any W)
  have HAT := Lib.hid (fun W => hat_any 1 W)
  have HPU := Lib.hid (fun W => nhput_any (atP 1) W)
  have HMI := Lib.hid (fun W => nhmine_any 0 4 W)
  have HLE := Lib.hid (fun W => nhlen_any W)
  have HRO := Lib.hid (fun W => nhroom_any W)
  have HW := Lib.hid (fun W => histWorks_any W)
  go_enter Try.func14, Try.ntmps14
  go_wp2_with fail
  refine (HNX.out _).mono ?_
  rintro e w1 ⟨rfl, hg1⟩
  have G1 := Lib.hid hg1
  clear hg1
  simp only [PW.val, PW.cells, PW.body]
  go_wp2_with fail
  refine (HPO.out _).mono ?_
  rintro e w2 ⟨rfl, hg2⟩
  have G2 := Lib.hid (grows_trans _ _ _ G1.out (grows_trans _ _ _ (bl_alloc (Below.refl _ _) _) hg2))
  clear hg2
  simp only [PW.val, PW.cells, PW.body]
  go_wp2_with fail
  refine (HFL.out _).mono ?_
  rintro e w3 ⟨rfl, hg3⟩
  have G3 := Lib.hid (grows_trans _ _ _ G2.out (grows_trans _ _ _ (bl_alloc (Below.refl _ _) _) hg3))
  clear hg3
  simp only [KW.val]
  go_wp2_with fail
  refine (HAT.out _).mono ?_
  rintro e w4 ⟨rfl, hg4⟩
  have G4 := Lib.hid (grows_trans _ _ _ G3.out (grows_trans _ _ _ (bl_alloc (Below.refl _ _) _) hg4))
  clear hg4
  simp only [PW.val, PW.cells, PW.body]
  go_wp2_with fail
  refine (HPU.out _).mono ?_
  rintro e w5 ⟨rfl, hg5⟩
  have G5 := Lib.hid (grows_trans _ _ _ G4.out hg5)
  clear hg5
  go_wp2_with fail
  refine (HMI.out _).mono ?_
  rintro e w6 ⟨rfl, hg6⟩
  have G6 := Lib.hid (grows_trans _ _ _ G5.out hg6)
  clear hg6
  go_wp2_with fail
  refine (HLE.out _).mono ?_
  rintro e w7 ⟨rfl, hg7⟩
  have G7 := Lib.hid (grows_trans _ _ _ G6.out hg7)
  clear hg7
  go_wp2_with fail
  refine (HRO.out _).mono ?_
  rintro e w8 ⟨rfl, hg8⟩
  have G8 := Lib.hid (grows_trans _ _ _ G7.out hg8)
  clear hg8
  go_wp2_with fail
  refine (HW.out _).mono ?_
  rintro e w9 ⟨rfl, hg9⟩
  have G9 := Lib.hid (grows_trans _ _ _ G8.out hg9)
  clear hg9
  go_wp2_with fail
  go_ret
  exact ⟨rfl, G9.out⟩
end Go.Proofs.Ytdmmceclohkkdaa
