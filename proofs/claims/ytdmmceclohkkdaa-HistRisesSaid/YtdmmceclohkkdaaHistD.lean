/- A history's Next; Len, Room, Mine, Floor; a history that is nil. -/
import Derived.Test.YtdmmceclohkkdaaHistC2
import Derived.Test.YtdmmceclohkkdaaTabGI
namespace Go.Proofs.Ytdmmceclohkkdaa
open Go.RowKit Go.Sort
set_option maxHeartbeats 4000000
set_option maxRecDepth 100000
theorem troomP {w : World} {base tb mb : Nat} {kv : Value} {m : List (KW × Value)} {most : Nat} (h : TabAt TTP w base tb kv mb m most) :
    Calls Try.prog 85 #[.pointer (some ⟨tb, 0, none⟩)] w (RetV w (.int .i64 ((most : Int) - (m.length : Int)))) := by
  obtain ⟨a, cap, rfl⟩ := h.len
  obtain ⟨n, en⟩ : ∃ n, m.length = n := ⟨_, rfl⟩
  obtain ⟨c0, -⟩ := cell_in h.ob 0 rfl
  obtain ⟨c2, -⟩ := cell_in h.ob 2 rfl
  have z1 := h.lt
  have hw := room_wrap h.few h.most
  rw [en] at c0 hw ⊢
  clear h en
  go_enter Try.func85, Try.ntmps85
  go_wp2_with fail
  refine wp_region_reg (by kernel_rfl) (by kernel_rfl) ?_
  repeat (first | go_big_quiet_step ((fail)) | quiet_step ((fail)))
  refine wpQuiet_nil ?_
  intro _ hcw1
  obtain ⟨pq, hcw2⟩ := hcw1
  subst hcw2
  go_wp2_with fail
  go_ret
  exact ⟨by first | rfl | (rw [hw]; rfl), below_reg _ _⟩
section
variable {w : World} {base hb tb mb wb most : Nat} {kv : Value} {dl : Int} {last : KW} {sm : Bool} {l : List HW} {g : Int × Int → Int}
theorem hlen_any (h : HistAt w base hb tb kv mb wb most dl last sm l g) : Calls Try.prog 58 #[.pointer (some ⟨hb, 0, none⟩)] w (fun e w' => e = .returned (.int .i64 (l.length : Int)) ∧ w = w') := by
  have hl := tlenP h.tab
  rw [List.length_map] at hl
  have HP := Lib.hid hl
  obtain ⟨c0, -⟩ := cell_in h.ob 0 rfl
  have z1 := box_lt h.ob
  clear h hl
  go_enter Try.func58, Try.ntmps58
  go_wp2_with fail
  refine (HP.out).mono ?_
  rintro e w1 ⟨rfl, rfl⟩
  go_wp2_with fail
  go_ret
  exact ⟨rfl, rfl⟩
theorem hroom_any (h : HistAt w base hb tb kv mb wb most dl last sm l g) : Calls Try.prog 59 #[.pointer (some ⟨hb, 0, none⟩)] w (RetV w (.int .i64 ((most : Int) - (l.length : Int)))) := by
  have hl := troomP h.tab
  rw [List.length_map] at hl
  have HP := Lib.hid hl
  obtain ⟨c0, -⟩ := cell_in h.ob 0 rfl
  have z1 := box_lt h.ob
  clear h hl
  go_enter Try.func59, Try.ntmps59
  go_wp2_with fail
  refine (HP.out).mono ?_
  rintro e w1 ⟨rfl, hg1⟩
  have HG := Lib.hid hg1
  clear hg1
  go_wp2_with fail
  go_ret
  exact ⟨rfl, HG.out⟩
theorem hmine_any (f kd : Int) (h : HistAt w base hb tb kv mb wb most dl last sm l g) : Calls Try.prog 53 #[.pointer (some ⟨hb, 0, none⟩), .int .i64 f, .int .i64 kd] w (RetV w (.int .i64 (g (f, kd)))) := by
  have hl := h.mine.look (f, kd)
  obtain ⟨c1, -⟩ := cell_in h.ob 1 rfl
  have z1 := box_lt h.ob
  clear h
  go_enter Try.func53, Try.ntmps53
  go_wp2_with fail
  go_ret
  exact ⟨rfl, Below.refl _ _⟩
theorem hfloor_any (h : HistAt w base hb tb kv mb wb most dl last sm l g) : Calls Try.prog 57 #[.pointer (some ⟨hb, 0, none⟩)] w (RetV w (.tuple #[last.val, .bool sm])) := by
  obtain ⟨c3, -⟩ := cell_in h.ob 3 rfl
  obtain ⟨c4, -⟩ := cell_in h.ob 4 rfl
  obtain ⟨c5, -⟩ := cell_in h.ob 5 rfl
  obtain ⟨c6, -⟩ := cell_in h.ob 6 rfl
  have z1 := box_lt h.ob
  clear h
  go_enter Try.func57, Try.ntmps57
  go_wp2_with fail
  have mixed : Try.prog.follows .mixedOrders = true := by kernel_rfl
  go_region_law (fail)
  all_goals (
    go_wp2_with fail
    exact bodyPost_ret (v := .tuple #[last.val, .bool sm]) (by simp [results, Try.results57, go_sem]) rfl ⟨rfl, by (repeat (first | with_reducible exact Below.refl _ _ | with_reducible refine bl_alloc ?_ _ | ((with_reducible refine bl_set ?_ ?_ _); rotate_left; (first | exact Nat.le_refl _ | exact Nat.le_succ_of_le (Nat.le_refl _) | (simp only []; omega))) | with_reducible refine bl_drewN ?_ _ | with_reducible refine bl_drew ?_ | with_reducible refine bl_reg ?_ _))⟩)
/-- The result's box, and the two that hold what Min told. -/
structure NextBx (W : World) (b c : Nat) (k : KW) (x : PW) : Prop where
  r1 : W.heap[b]? = some (.cells pz.cells TPK (0, 0))
  m0 : W.heap[c]? = some (KC k : Obj)
  m1 : W.heap[c + 1]? = some (.cells x.cells TPK (0, 0))
theorem nextBx {w2 : World} {k : KW} {x : PW} (hg2 : Grows (w.alloc (.cells pz.cells TPK)) w2) : NextBx ((w2.alloc (KC k)).alloc (.cells x.cells TPK)) w.heap.size w2.heap.size k x ∧ w.heap.size < w2.heap.size ∧ Grows w ((w2.alloc (KC k)).alloc (.cells x.cells TPK)) := by
  have h1 := heap_alloc_new w (.cells pz.cells TPK)
  have h2 := two_new w2 (KC k) (.cells x.cells TPK)
  have g : Grows w2 ((w2.alloc (KC k)).alloc (.cells x.cells TPK)) := bl_alloc (bl_alloc (Below.refl _ _) _) _
  have g0 : Grows w (w.alloc (.cells pz.cells TPK)) := bl_alloc (Below.refl _ _) _
  exact ⟨⟨box_grows (box_grows h1 hg2) g, h2.1, h2.2⟩, box_lt (box_grows h1 hg2), grows_trans _ _ _ g0 (grows_trans _ _ _ hg2 g)⟩
theorem hnext_none (h : HistAt w base hb tb kv mb wb most dl last sm [] g) : Calls Try.prog 56 #[.pointer (some ⟨hb, 0, none⟩)] w (RetV w (.tuple #[PZ, .int .i64 0, .bool false])) := by
  have hgb : Grows w (w.alloc (.cells pz.cells TPK)) := bl_alloc (Below.refl _ _) _
  have HM := Lib.hid (tmin_noneP (h.tab.grows hgb))
  obtain ⟨c0, -⟩ := cell_in h.ob 0 rfl
  have z1 := box_lt h.ob
  clear h hgb
  go_enter Try.func56, Try.ntmps56
  go_wp2_with fail
  refine (HM.out).mono ?_
  rintro e w2 ⟨rfl, hg2⟩
  obtain ⟨hb3, hlt, hg3⟩ := nextBx (k := ⟨0, 0, 0⟩) (x := pz) hg2
  obtain ⟨b, eb⟩ : ∃ b, w.heap.size = b := ⟨_, rfl⟩
  have hr := box_grows (heap_alloc_new w (.cells pz.cells TPK)) hg2
  rw [eb] at hr
  obtain ⟨WA, eA⟩ : ∃ WA, st12 w2 b pz = WA := ⟨_, rfl⟩
  have uA : WA.heap[b]? = some (.cells pz.cells TPK (0, 0)) := by rw [← eA]; exact st12_box hr
  have gA : Grows w WA := by
    rw [← eA]
    exact grows_of_chg (grows_trans _ _ _ (bl_alloc (Below.refl _ _) _ : Grows w (w.alloc (.cells pz.cells TPK))) hg2) (st12_chg _ _ _) (fun j hj => by rw [hj, eb]; exact Nat.le_refl _)
  have HA := Lib.hid (And.intro uA gA)
  obtain ⟨x0, x1, x2, x3, x4, x5, x6, x7, x8, x9, x10, x11, x12⟩ := pat_of hr
  obtain ⟨y0, y1, y2, y3, y4, y5, y6, y7, y8, y9, y10, y11⟩ := pfree_of hr
  simp only [st12, PW.body] at eA
  clear hb3 hlt hg3 hr uA gA hg2 c0
  simp only [KW.val, PW.val, PW.cells, PW.body]
  go_wp2_with fail
  obtain ⟨uA, gA⟩ := HA.out
  obtain ⟨i0, i1, i2, i3, i4, i5, i6, i7, i8, i9, i10, i11, i12⟩ := pat_of uA
  exact bodyPost_ret (v := .tuple #[PZ, .int .i64 0, .bool false]) (by simp [results, Try.results56, go_sem, i0, i1, i2, i3, i4, i5, i6, i7, i8, i9, i10, i11, i12]) rfl ⟨rfl, bl_alloc (bl_alloc gA _) _⟩
theorem hnext_some {x : HW} (h : HistAt w base hb tb kv mb wb most dl last sm (x :: l) g) : Calls Try.prog 56 #[.pointer (some ⟨hb, 0, none⟩)] w (RetV w (.tuple #[x.1.val, .int .i64 (wrap64 (x.1.k.t + dl)), .bool true])) := by
  have hgb : Grows w (w.alloc (.cells pz.cells TPK)) := bl_alloc (Below.refl _ _) _
  have HM := Lib.hid (tmin_someP (h.tab.grows hgb))
  have HOB := Lib.hid h.ob
  obtain ⟨c0, -⟩ := cell_in h.ob 0 rfl
  have z1 := box_lt h.ob
  have HZ := Lib.hid z1
  obtain ⟨x, b0⟩ := x
  clear h hgb
  go_enter Try.func56, Try.ntmps56
  go_wp2_with fail
  refine (HM.out).mono ?_
  rintro e w2 ⟨rfl, hg2⟩
  have hn := nextBx (k := x.k) (x := x) hg2
  have HB := Lib.hid (And.intro hn (grows_trans _ _ _ (bl_alloc (Below.refl _ _) _ : Grows w (w.alloc (.cells pz.cells TPK))) hg2))
  clear hn hg2 c0
  simp only [KW.val, PW.val, PW.cells, PW.body]
  go_wp2_with fail
  obtain ⟨⟨hb3, hlt, hg3⟩, hg02⟩ := HB.out
  obtain ⟨b, eb⟩ : ∃ b, w.heap.size = b := ⟨_, rfl⟩
  obtain ⟨c, ec⟩ : ∃ c, w2.heap.size = c := ⟨_, rfl⟩
  obtain ⟨W3, e3⟩ : ∃ W3, (w2.alloc (KC x.k)).alloc (.cells x.cells TPK) = W3 := ⟨_, rfl⟩
  rw [e3, eb, ec] at hb3
  rw [e3] at hg3
  rw [eb, ec] at hlt
  simp only [KC, PW.cells, PW.body] at e3
  rw [eb, ec, e3]
  obtain ⟨WA, eA⟩ : ∃ WA, st12 W3 b x = WA := ⟨_, rfl⟩
  have uA : WA.heap[b]? = some (.cells x.cells TPK (0, 0)) := by rw [← eA]; exact st12_box hb3.r1
  have gA : Grows w WA := by
    rw [← eA]
    exact grows_of_chg hg3 (st12_chg _ _ _) (fun j hj => by rw [hj, eb]; exact Nat.le_refl _)
  have HA := Lib.hid (And.intro uA gA)
  obtain ⟨x0, x1, x2, x3, x4, x5, x6, x7, x8, x9, x10, x11, x12⟩ := pat_of hb3.r1
  obtain ⟨y0, y1, y2, y3, y4, y5, y6, y7, y8, y9, y10, y11⟩ := pfree_of hb3.r1
  obtain ⟨m0, -⟩ := cell_in hb3.m0 0 rfl
  obtain ⟨n0, n1, n2, n3, n4, n5, n6, n7, n8, n9, n10, n11, n12⟩ := pat_of hb3.m1
  have z2 := box_lt hb3.m0
  have hob := box_grows HOB.out hg3
  obtain ⟨c2, -⟩ := cell_in hob 2 rfl
  have z3 := box_lt hob
  have hhb : hb < b := by rw [← eb]; exact HZ.out
  have q1 : (c = b) = False := eq_false (by omega)
  have q2 : (b = c) = False := eq_false (by omega)
  have q3 : (c + 1 = b) = False := eq_false (by omega)
  have q4 : (b = c + 1) = False := eq_false (by omega)
  have q5 : (hb = b) = False := eq_false (by omega)
  have q6 : (b = hb) = False := eq_false (by omega)
  have hcA : Chg (fun j => j = b) W3 WA := by rw [← eA]; exact st12_chg _ _ _
  have hobA := box_chg hob hcA (by omega)
  have hkA := box_chg hb3.m0 hcA (by omega)
  have hpA := box_chg hb3.m1 hcA (by omega)
  obtain ⟨d2, -⟩ := cell_in hobA 2 rfl
  have d3 := box_lt hobA
  obtain ⟨e0, -⟩ := cell_in hkA 0 rfl
  have e1 := box_lt hkA
  simp only [st12, PW.body] at eA
  clear hb3 hlt hg3 hg02 uA gA e3 hob hhb z1 hcA hobA hkA hpA
  have mixed : Try.prog.follows .mixedOrders = true := by kernel_rfl
  go_region_law (fail)
  all_goals (
    go_wp2_with fail
    obtain ⟨uA, gA⟩ := HA.out
    obtain ⟨i0, i1, i2, i3, i4, i5, i6, i7, i8, i9, i10, i11, i12⟩ := pat_of uA
    have hw := wrapEq (x.k.t + dl)
    exact bodyPost_ret (v := .tuple #[x.val, .int .i64 (wrap64 (x.k.t + dl)), .bool true]) (by simp [results, Try.results56, go_sem, i0, i1, i2, i3, i4, i5, i6, i7, i8, i9, i10, i11, i12, hw]) rfl ⟨rfl, bl_drew gA⟩)
end
theorem nhput_any (x : PW) (w : World) : Calls Try.prog 43 #[.pointer none, x.val] w (RetV w (.int .i64 1)) := by
  go_enter Try.func43, Try.ntmps43
  go_wp2
  go_ret
  exact ⟨rfl, by (repeat (first | with_reducible exact Below.refl _ _ | with_reducible refine bl_alloc ?_ _ | ((with_reducible refine bl_set ?_ ?_ _); rotate_left; (first | exact Nat.le_refl _ | exact Nat.le_succ_of_le (Nat.le_refl _) | (simp only []; omega))) | with_reducible refine bl_drewN ?_ _ | with_reducible refine bl_drew ?_ | with_reducible refine bl_reg ?_ _))⟩
theorem nhnext_any (w : World) : Calls Try.prog 56 #[.pointer none] w (RetV w (.tuple #[PZ, .int .i64 0, .bool false])) := by
  go_enter Try.func56, Try.ntmps56
  go_wp2
  exact bodyPost_ret (v := .tuple #[PZ, .int .i64 0, .bool false]) (by simp [results, Try.results56, go_sem]) rfl ⟨rfl, by (repeat (first | with_reducible exact Below.refl _ _ | with_reducible refine bl_alloc ?_ _ | ((with_reducible refine bl_set ?_ ?_ _); rotate_left; (first | exact Nat.le_refl _ | exact Nat.le_succ_of_le (Nat.le_refl _) | (simp only []; omega))) | with_reducible refine bl_drewN ?_ _ | with_reducible refine bl_drew ?_ | with_reducible refine bl_reg ?_ _))⟩
theorem nhmine_any (f kd : Int) (w : World) : Calls Try.prog 53 #[.pointer none, .int .i64 f, .int .i64 kd] w (RetV w (.int .i64 0)) := by
  go_enter Try.func53, Try.ntmps53
  go_wp2
  go_ret
  exact ⟨rfl, by (repeat (first | with_reducible exact Below.refl _ _ | with_reducible refine bl_alloc ?_ _ | ((with_reducible refine bl_set ?_ ?_ _); rotate_left; (first | exact Nat.le_refl _ | exact Nat.le_succ_of_le (Nat.le_refl _) | (simp only []; omega))) | with_reducible refine bl_drewN ?_ _ | with_reducible refine bl_drew ?_ | with_reducible refine bl_reg ?_ _))⟩
theorem nhfloor_any (w : World) : Calls Try.prog 57 #[.pointer none] w (RetV w (.tuple #[KW.val ⟨0, 0, 0⟩, .bool false])) := by
  go_enter Try.func57, Try.ntmps57
  go_wp2
  exact bodyPost_ret (v := .tuple #[KW.val ⟨0, 0, 0⟩, .bool false]) (by simp [results, Try.results57, go_sem]) rfl ⟨rfl, by (repeat (first | with_reducible exact Below.refl _ _ | with_reducible refine bl_alloc ?_ _ | ((with_reducible refine bl_set ?_ ?_ _); rotate_left; (first | exact Nat.le_refl _ | exact Nat.le_succ_of_le (Nat.le_refl _) | (simp only []; omega))) | with_reducible refine bl_drewN ?_ _ | with_reducible refine bl_drew ?_ | with_reducible refine bl_reg ?_ _))⟩
theorem nhlen_any (w : World) : Calls Try.prog 58 #[.pointer none] w (RetV w (.int .i64 0)) := by
  go_enter Try.func58, Try.ntmps58
  go_wp2
  go_ret
  exact ⟨rfl, by (repeat (first | with_reducible exact Below.refl _ _ | with_reducible refine bl_alloc ?_ _ | ((with_reducible refine bl_set ?_ ?_ _); rotate_left; (first | exact Nat.le_refl _ | exact Nat.le_succ_of_le (Nat.le_refl _) | (simp only []; omega))) | with_reducible refine bl_drewN ?_ _ | with_reducible refine bl_drew ?_ | with_reducible refine bl_reg ?_ _))⟩
theorem nhroom_any (w : World) : Calls Try.prog 59 #[.pointer none] w (RetV w (.int .i64 0)) := by
  go_enter Try.func59, Try.ntmps59
  go_wp2
  go_ret
  exact ⟨rfl, by (repeat (first | with_reducible exact Below.refl _ _ | with_reducible refine bl_alloc ?_ _ | ((with_reducible refine bl_set ?_ ?_ _); rotate_left; (first | exact Nat.le_refl _ | exact Nat.le_succ_of_le (Nat.le_refl _) | (simp only []; omega))) | with_reducible refine bl_drewN ?_ _ | with_reducible refine bl_drew ?_ | with_reducible refine bl_reg ?_ _))⟩
end Go.Proofs.Ytdmmceclohkkdaa
