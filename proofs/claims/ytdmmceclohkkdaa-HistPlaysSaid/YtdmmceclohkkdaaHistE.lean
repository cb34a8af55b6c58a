/- A history's Pop. -/
import Derived.Test.YtdmmceclohkkdaaHistC2
import Derived.Test.YtdmmceclohkkdaaTabGI
/- A history's Next; Len, Room, Mine, Floor; a history that is nil. -/
namespace Go.Proofs.Ytdmmceclohkkdaa
open Go.RowKit Go.Sort
set_option maxHeartbeats 4000000
set_option maxRecDepth 100000
theorem troomP {w : World} {base tb mb : Nat} {kv : Value} {m : List (KW × Value)} {most : Nat} (h : TabAt TTP w base tb kv mb m most) :
    Calls Try.prog 85 #[.pointer (some ⟨tb, 0, none⟩)] w (RetV w (.int .i64 ((most : Int) - (m.length : Int)))) := by
  obtain ⟨a, cap, rfl⟩ := h.len
  obtain ⟨n, en⟩ : ∃ n, m.length = n := ⟨_, rfl⟩
  obtain ⟨c0, -⟩ := cell_in h.ob 0 rfl
  obtain ⟨c2, -⟩ := cell_in h.ob 2 rfl
  have z1 := h.lt
  have hw := room_wrap h.few h.most
  rw [en] at c0 hw ⊢
  clear h en
  go_enter Try.func85, Try.ntmps85
  go_wp2_with fail
  refine wp_region_reg (by kernel_rfl) (by kernel_rfl) ?_
  repeat (first | go_big_quiet_step ((fail)) | quiet_step ((fail)))
  refine wpQuiet_nil ?_
  intro _ hcw1
  obtain ⟨pq, hcw2⟩ := hcw1
  subst hcw2
  go_wp2_with fail
  go_ret
  exact ⟨by first | rfl | (rw [hw]; rfl), below_reg _ _⟩
section
variable {w : World} {base hb tb mb wb most : Nat} {kv : Value} {dl : Int} {last : KW} {sm : Bool} {l : List HW} {g : Int × Int → Int}
theorem hlen_any (h : HistAt w base hb tb kv mb wb most dl last sm l g) : Calls Try.prog 58 #[.pointer (some ⟨hb, 0, none⟩)] w (fun e w' => e = .returned (.int .i64 (l.length : Int)) ∧ w = w') := by
  have hl := tlenP h.tab
  rw [List.length_map] at hl
  have HP := Lib.hid hl
  obtain ⟨c0, -⟩ := cell_in h.ob 0 rfl
  have z1 := box_lt h.ob
  clear h hl
  go_enter Try.func58, Try.ntmps58
  go_wp2_with fail
  refine (HP.out).mono ?_
  rintro e w1 ⟨rfl, rfl⟩
  go_wp2_with fail
  go_ret
  exact ⟨rfl, rfl⟩
theorem hroom_any (h : HistAt w base hb tb kv mb wb most dl last sm l g) : Calls Try.prog 59 #[.pointer (some ⟨hb, 0, none⟩)] w (RetV w (.int .i64 ((most : Int) - (l.length : Int)))) := by
  have hl := troomP h.tab
  rw [List.length_map] at hl
  have HP := Lib.hid hl
  obtain ⟨c0, -⟩ := cell_in h.ob 0 rfl
  have z1 := box_lt h.ob
  clear h hl
  go_enter Try.func59, Try.ntmps59
  go_wp2_with fail
  refine (HP.out).mono ?_
  rintro e w1 ⟨rfl, hg1⟩
  have HG := Lib.hid hg1
  clear hg1
  go_wp2_with fail
  go_ret
  exact ⟨rfl, HG.out⟩
theorem hmine_any (f kd : Int) (h : HistAt w base hb tb kv mb wb most dl last sm l g) : Calls Try.prog 53 #[.pointer (some ⟨hb, 0, none⟩), .int .i64 f, .int .i64 kd] w (RetV w (.int .i64 (g (f, kd)))) := by
  have hl := h.mine.look (f, kd)
  obtain ⟨c1, -⟩ := cell_in h.ob 1 rfl
  have z1 := box_lt h.ob
  clear h
  go_enter Try.func53, Try.ntmps53
  go_wp2_with fail
  go_ret
  exact ⟨rfl, Below.refl _ _⟩
theorem hfloor_any (h : HistAt w base hb tb kv mb wb most dl last sm l g) : Calls Try.prog 57 #[.pointer (some ⟨hb, 0, none⟩)] w (RetV w (.tuple #[last.val, .bool sm])) := by
  obtain ⟨c3, -⟩ := cell_in h.ob 3 rfl
  obtain ⟨c4, -⟩ := cell_in h.ob 4 rfl
  obtain ⟨c5, -⟩ := cell_in h.ob 5 rfl
  obtain ⟨c6, -⟩ := cell_in h.ob 6 rfl
  have z1 := box_lt h.ob
  clear h
  go_enter Try.func57, Try.ntmps57
  go_wp2_with fail
  have mixed : Try.prog.follows .mixedOrders = true := by kernel_rfl
  go_region_law (fail)
  all_goals (
    go_wp2_with fail
    exact bodyPost_ret (v := .tuple #[last.val, .bool sm]) (by simp [results, Try.results57, go_sem]) rfl ⟨rfl, by (repeat (first | with_reducible exact Below.refl _ _ | with_reducible refine bl_alloc ?_ _ | ((with_reducible refine bl_set ?_ ?_ _); rotate_left; (first | exact Nat.le_refl _ | exact Nat.le_succ_of_le (Nat.le_refl _) | (simp only []; omega))) | with_reducible refine bl_drewN ?_ _ | with_reducible refine bl_drew ?_ | with_reducible refine bl_reg ?_ _))⟩)
/-- The result's box, and the two that hold what Min told. -/
structure NextBx (W : World) (b c : Nat) (k : KW) (x : PW) : Prop where
  r1 : W.heap[b]? = some (.cells pz.cells TPK (0, 0))
  m0 : W.heap[c]? = some (KC k : Obj)
  m1 : W.heap[c + 1]? = some (.cells x.cells TPK (0, 0))
theorem nextBx {w2 : World} {k : KW} {x : PW} (hg2 : Grows (w.alloc (.cells pz.cells TPK)) w2) : NextBx ((w2.alloc (KC k)).alloc (.cells x.cells TPK)) w.heap.size w2.heap.size k x ∧ w.heap.size < w2.heap.size ∧ Grows w ((w2.alloc (KC k)).alloc (.cells x.cells TPK)) := by
  have h1 := heap_alloc_new w (.cells pz.cells TPK)
  have h2 := two_new w2 (KC k) (.cells x.cells TPK)
  have g : Grows w2 ((w2.alloc (KC k)).alloc (.cells x.cells TPK)) := bl_alloc (bl_alloc (Below.refl _ _) _) _
  have g0 : Grows w (w.alloc (.cells pz.cells TPK)) := bl_alloc (Below.refl _ _) _
  exact ⟨⟨box_grows (box_grows h1 hg2) g, h2.1, h2.2⟩, box_lt (box_grows h1 hg2), grows_trans _ _ _ g0 (grows_trans _ _ _ hg2 g)⟩
theorem hnext_none (h : HistAt w base hb tb kv mb wb most dl last sm [] g) : Calls Try.prog 56 #[.pointer (some ⟨hb, 0, none⟩)] w (RetV w (.tuple #[PZ, .int .i64 0, .bool false])) := by
  have hgb : Grows w (w.alloc (.cells pz.cells TPK)) := bl_alloc (Below.refl _ _) _
  have HM := Lib.hid (tmin_noneP (h.tab.grows hgb))
  obtain ⟨c0, -⟩ := cell_in h.ob 0 rfl
  have z1 := box_lt h.ob
  clear h hgb
  go_enter Try.func56, Try.ntmps56
  go_wp2_with fail
  refine (HM.out).mono ?_
  rintro e w2 ⟨rfl, hg2⟩
  obtain ⟨hb3, hlt, hg3⟩ := nextBx (k := ⟨0, 0, 0⟩) (x := pz) hg2
  obtain ⟨b, eb⟩ : ∃ b, w.heap.size = b := ⟨_, rfl⟩
  have hr := box_grows (heap_alloc_new w (.cells pz.cells TPK)) hg2
  rw [eb] at hr
  obtain ⟨WA, eA⟩ : ∃ WA, st12 w2 b pz = WA := ⟨_, rfl⟩
  have uA : WA.heap[b]? = some (.cells pz.cells TPK (0, 0)) := by rw [← eA]; exact st12_box hr
  have gA : Grows w WA := by
    rw [← eA]
    exact grows_of_chg (grows_trans _ _ _ (bl_alloc (Below.refl _ _) _ : Grows w (w.alloc (.cells pz.cells TPK))) hg2) (st12_chg _ _ _) (fun j hj => by rw [hj, eb]; exact Nat.le_refl _)
  have HA := Lib.hid (And.intro uA gA)
  obtain ⟨x0, x1, x2, x3, x4, x5, x6, x7, x8, x9, x10, x11, x12⟩ := pat_of hr
  obtain ⟨y0, y1, y2, y3, y4, y5, y6, y7, y8, y9, y10, y11⟩ := pfree_of hr
  simp only [st12, PW.body] at eA
  clear hb3 hlt hg3 hr uA gA hg2 c0
  simp only [KW.val, PW.val, PW.cells, PW.body]
  go_wp2_with fail
  obtain ⟨uA, gA⟩ := HA.out
  obtain ⟨i0, i1, i2, i3, i4, i5, i6, i7, i8, i9, i10, i11, i12⟩ := pat_of uA
  exact bodyPost_ret (v := .tuple #[PZ, .int .i64 0, .bool false]) (by simp [results, Try.results56, go_sem, i0, i1, i2, i3, i4, i5, i6, i7, i8, i9, i10, i11, i12]) rfl ⟨rfl, bl_alloc (bl_alloc gA _) _⟩
theorem hnext_some {x : HW} (h : HistAt w base hb tb kv mb wb most dl last sm (x :: l) g) : Calls Try.prog 56 #[.pointer (some ⟨hb, 0, none⟩)] w (RetV w (.tuple #[x.1.val, .int .i64 (wrap64 (x.1.k.t + dl)), .bool true])) := by
  have hgb : Grows w (w.alloc (.cells pz.cells TPK)) := bl_alloc (Below.refl _ _) _
  have HM := Lib.hid (tmin_someP (h.tab.grows hgb))
  have HOB := Lib.hid h.ob
  obtain ⟨c0, -⟩ := cell_in h.ob 0 rfl
  have z1 := box_lt h.ob
  have HZ := Lib.hid z1
  obtain ⟨x, b0⟩ := x
  clear h hgb
  go_enter Try.func56, Try.ntmps56
  go_wp2_with fail
  refine (HM.out).mono ?_
  rintro e w2 ⟨rfl, hg2⟩
  have hn := nextBx (k := x.k) (x := x) hg2
  have HB := Lib.hid (And.intro hn (grows_trans _ _ _ (bl_alloc (Below.refl _ _) _ : Grows w (w.alloc (.cells pz.cells TPK))) hg2))
  clear hn hg2 c0
  simp only [KW.val, PW.val, PW.cells, PW.body]
  go_wp2_with fail
  obtain ⟨⟨hb3, hlt, hg3⟩, hg02⟩ := HB.out
  obtain ⟨b, eb⟩ : ∃ b, w.heap.size = b := ⟨_, rfl⟩
  obtain ⟨c, ec⟩ : ∃ c, w2.heap.size = c := ⟨_, rfl⟩
  obtain ⟨W3, e3⟩ : ∃ W3, (w2.alloc (KC x.k)).alloc (.cells x.cells TPK) = W3 := ⟨_, rfl⟩
  rw [e3, eb, ec] at hb3
  rw [e3] at hg3
  rw [eb, ec] at hlt
  simp only [KC, PW.cells, PW.body] at e3
  rw [eb, ec, e3]
  obtain ⟨WA, eA⟩ : ∃ WA, st12 W3 b x = WA := ⟨_, rfl⟩
  have uA : WA.heap[b]? = some (.cells x.cells TPK (0, 0)) := by rw [← eA]; exact st12_box hb3.r1
  have gA : Grows w WA := by
    rw [← eA]
    exact grows_of_chg hg3 (st12_chg _ _ _) (fun j hj => by rw [hj, eb]; exact Nat.le_refl _)
  have HA := Lib.hid (And.intro uA gA)
  obtain ⟨x0, x1, x2, x3, x4, x5, x6, x7, x8, x9, x10, x11, x12⟩ := pat_of hb3.r1
  obtain ⟨y0, y1, y2, y3, y4, y5, y6, y7, y8, y9, y10, y11⟩ := pfree_of hb3.r1
  obtain ⟨m0, -⟩ := cell_in hb3.m0 0 rfl
  obtain ⟨n0, n1, n2, n3, n4, n5, n6, n7, n8, n9, n10, n11, n12⟩ := pat_of hb3.m1
  have z2 := box_lt hb3.m0
  have hob := box_grows HOB.out hg3
  obtain ⟨c2, -⟩ := cell_in hob 2 rfl
  have z3 := box_lt hob
  have hhb : hb < b := by rw [← eb]; exact HZ.out
  have q1 : (c = b) = False := eq_false (by omega)
  have q2 : (b = c) = False := eq_false (by omega)
  have q3 : (c + 1 = b) = False := eq_false (by omega)
  have q4 : (b = c + 1) = False := eq_false (by omega)
  have q5 : (hb = b) = False := eq_false (by omega)
  have q6 : (b = hb) = False := eq_false (by omega)
  have hcA : Chg (fun j => j = b) W3 WA := by rw [← eA]; exact st12_chg _ _ _
  have hobA := box_chg hob hcA (by omega)
  have hkA := box_chg hb3.m0 hcA (by omega)
  have hpA := box_chg hb3.m1 hcA (by omega)
  obtain ⟨d2, -⟩ := cell_in hobA 2 rfl
  have d3 := box_lt hobA
  obtain ⟨e0, -⟩ := cell_in hkA 0 rfl
  have e1 := box_lt hkA
  simp only [st12, PW.body] at eA
  clear hb3 hlt hg3 hg02 uA gA e3 hob hhb z1 hcA hobA hkA hpA
  have mixed : Try.prog.follows .mixedOrders = true := by kernel_rfl
  go_region_law (fail)
  all_goals (
    go_wp2_with fail
    obtain ⟨uA, gA⟩ := HA.out
    obtain ⟨i0, i1, i2, i3, i4, i5, i6, i7, i8, i9, i10, i11, i12⟩ := pat_of uA
    have hw := wrapEq (x.k.t + dl)
    exact bodyPost_ret (v := .tuple #[x.val, .int .i64 (wrap64 (x.k.t + dl)), .bool true]) (by simp [results, Try.results56, go_sem, i0, i1, i2, i3, i4, i5, i6, i7, i8, i9, i10, i11, i12, hw]) rfl ⟨rfl, bl_drew gA⟩)
end
theorem nhput_any (x : PW) (w : World) : Calls Try.prog 43 #[.pointer none, x.val] w (RetV w (.int .i64 1)) := by
  go_enter Try.func43, Try.ntmps43
  go_wp2
  go_ret
  exact ⟨rfl, by (repeat (first | with_reducible exact Below.refl _ _ | with_reducible refine bl_alloc ?_ _ | ((with_reducible refine bl_set ?_ ?_ _); rotate_left; (first | exact Nat.le_refl _ | exact Nat.le_succ_of_le (Nat.le_refl _) | (simp only []; omega))) | with_reducible refine bl_drewN ?_ _ | with_reducible refine bl_drew ?_ | with_reducible refine bl_reg ?_ _))⟩
theorem nhnext_any (w : World) : Calls Try.prog 56 #[.pointer none] w (RetV w (.tuple #[PZ, .int .i64 0, .bool false])) := by
  go_enter Try.func56, Try.ntmps56
  go_wp2
  exact bodyPost_ret (v := .tuple #[PZ, .int .i64 0, .bool false]) (by simp [results, Try.results56, go_sem]) rfl ⟨rfl, by (repeat (first | with_reducible exact Below.refl _ _ | with_reducible refine bl_alloc ?_ _ | ((with_reducible refine bl_set ?_ ?_ _); rotate_left; (first | exact Nat.le_refl _ | exact Nat.le_succ_of_le (Nat.le_refl _) | (simp only []; omega))) | with_reducible refine bl_drewN ?_ _ | with_reducible refine bl_drew ?_ | with_reducible refine bl_reg ?_ _))⟩
theorem nhmine_any (f kd : Int) (w : World) : Calls Try.prog 53 #[.pointer none, .int .i64 f, .int .i64 kd] w (RetV w (.int .i64 0)) := by
  go_enter Try.func53, Try.ntmps53
  go_wp2
  go_ret
  exact ⟨rfl, by (repeat (first | with_reducible exact Below.refl _ _ | with_reducible refine bl_alloc ?_ _ | ((with_reducible refine bl_set ?_ ?_ _); rotate_left; (first | exact Nat.le_refl _ | exact Nat.le_succ_of_le (Nat.le_refl _) | (simp only []; omega))) | with_reducible refine bl_drewN ?_ _ | with_reducible refine bl_drew ?_ | with_reducible refine bl_reg ?_ _))⟩
theorem nhfloor_any (w : World) : Calls Try.prog 57 #[.pointer none] w (RetV w (.tuple #[KW.val ⟨0, 0, 0⟩, .bool false])) := by
  go_enter Try.func57, Try.ntmps57
  go_wp2
  exact bodyPost_ret (v := .tuple #[KW.val ⟨0, 0, 0⟩, .bool false]) (by simp [results, Try.results57, go_sem]) rfl ⟨rfl, by (repeat (first | with_reducible exact Below.refl _ _ | with_reducible refine bl_alloc ?_ _ | ((with_reducible refine bl_set ?_ ?_ _); rotate_left; (first | exact Nat.le_refl _ | exact Nat.le_succ_of_le (Nat.le_refl _) | (simp only []; omega))) | with_reducible refine bl_drewN ?_ _ | with_reducible refine bl_drew ?_ | with_reducible refine bl_reg ?_ _))⟩
theorem nhlen_any (w : World) : Calls Try.prog 58 #[.pointer none] w (RetV w (.int .i64 0)) := by
  go_enter Try.func58, Try.ntmps58
  go_wp2
  go_ret
  exact ⟨rfl, by (repeat (first | with_reducible exact Below.refl _ _ | with_reducible refine bl_alloc ?_ _ | ((with_reducible refine bl_set ?_ ?_ _); rotate_left; (first | exact Nat.le_refl _ | exact Nat.le_succ_of_le (Nat.le_refl _) | (simp only []; omega))) | with_reducible refine bl_drewN ?_ _ | with_reducible refine bl_drew ?_ | with_reducible refine bl_reg ?_ _))⟩
theorem nhroom_any (w : World) : Calls Try.prog 59 #[.pointer none] w (RetV w (.int .i64 0)) := by
  go_enter Try.func59, Try.ntmps59
  go_wp2
  go_ret
  exact ⟨rfl, by (repeat (first | with_reducible exact Below.refl _ _ | with_reducible refine bl_alloc ?_ _ | ((with_reducible refine bl_set ?_ ?_ _); rotate_left; (first | exact Nat.le_refl _ | exact Nat.le_succ_of_le (Nat.le_refl _) | (simp only []; omega))) | with_reducible refine bl_drewN ?_ _ | with_reducible refine bl_drew ?_ | with_reducible refine bl_reg ?_ _))⟩
end Go.Proofs.Ytdmmceclohkkdaa
namespace Go.Proofs.Ytdmmceclohkkdaa
open Go.RowKit Go.Sort
set_option maxHeartbeats 4000000
set_option maxRecDepth 100000
section
variable {w : World} {base hb tb mb wb most : Nat} {kv : Value} {dl : Int} {last : KW} {sm : Bool} {l : List HW} {g : Int × Int → Int}
/-- A box of another kind is changed. -/
theorem HistAt.other {w' : World} {p : Nat} {T' : TypeId} {cs : Array Value} {z : Nat × Nat} (h : HistAt w base hb tb kv mb wb most dl last sm l g) (hp : w.heap[p]? = some (.cells cs T' z)) (h1 : T' ≠ TTP) (h2 : T' ≠ 29) (h3 : T' ≠ THI) (h4 : T' ≠ 5) (hc : Chg (fun j => j = p) w w') :
    HistAt w' base hb tb kv mb wb most dl last sm l g := by
  have hn := h.notS hp h1 h2 h3
  refine ⟨box_chg h.ob hc (fun e => hn (.inl e.symm)), h.tab.chg hc (fun e => hn (.inr (.inr (.inl e.symm)))) (fun e => hn (.inr (.inr (.inr (.inl e.symm))))) (fun j hj e => hn (.inr (.inr (.inr (.inr (e ▸ hj)))))), h.mine.chg hc (fun e => hn (.inr (.inl e.symm))), fun u hu => hc.own (h.bod u hu) (fun j hj e => ?_), h.bh, h.bw, h.wm, h.d0, h.d1⟩
  obtain ⟨cur, hg⟩ := brow_ty (h.bod u hu) hj
  rw [e, hp] at hg
  injection hg with hg
  injection hg with _ hg
  exact h4 hg
/-- The rows are changed. -/
theorem HistAt.rows {w4 : World} {l' : List HW} {r : Value} {e : Ending} (hh : HistAt w base hb tb kv mb wb most dl last sm l g) (hto : TabTo TTP w base tb kv mb (l'.map hv) most r e w4) (hl' : ∀ u ∈ l', BRow w base u.1.body u.2) :
    e = .returned r ∧ ∃ kv4, HistAt w4 base hb tb kv4 mb wb most dl last sm l' g ∧ Chg (TabS tb kv mb) w w4 ∧ ∀ j, kv4.ownBlock = some j → kv.ownBlock = some j ∨ w.heap.size ≤ j := by
  obtain ⟨rfl, kv4, k1, k2, k3⟩ := hto
  refine ⟨rfl, kv4, ⟨box_chg hh.ob k2 hh.hS, k1, hh.mine.chg k2 hh.wS, fun u hu => k2.own (hl' u hu) fun j hj hs => ?_, hh.bh, hh.bw, hh.wm, hh.d0, hh.d1⟩, k2, k3⟩
  obtain ⟨cur, hg⟩ := brow_ty (hl' u hu) hj
  exact Go.Proofs.Ytdmmceclohkkdaa.notS hh.tab hg (by decide) (by decide) hs
/-- The last key is set. -/
abbrev stF (w : World) (hb : Nat) (k : KW) : World := (((w.setCell ⟨hb, 3, none⟩ (.int .i64 k.t)).setCell ⟨hb, 4, none⟩ (.int .i64 k.f)).setCell ⟨hb, 5, none⟩ (.int .u32 k.s)).setCell ⟨hb, 6, none⟩ (.bool true)
theorem HistAt.floor (h : HistAt w base hb tb kv mb wb most dl last sm l g) (k : KW) : HistAt (stF w hb k) base hb tb kv mb wb most dl k true l g ∧ Chg (fun j => j = hb) w (stF w hb k) := by
  have hc : Chg (fun j => j = hb) w (stF w hb k) := by
    unfold stF
    repeat (refine Chg.setCell ?_ _ (.inr rfl))
    exact Chg.refl _ _
  have h0 : (w.setCell ⟨hb, 3, none⟩ (.int .i64 k.t)).heap[hb]? = some (.cells #[.pointer (some ⟨tb, 0, none⟩), .map (some wb), .int .i64 dl, .int .i64 k.t, .int .i64 last.f, .int .u32 last.s, .bool sm] THI (0, 0)) := box_setj (j := 3) h.ob
  have h1 : ((w.setCell ⟨hb, 3, none⟩ (.int .i64 k.t)).setCell ⟨hb, 4, none⟩ (.int .i64 k.f)).heap[hb]? = some (.cells #[.pointer (some ⟨tb, 0, none⟩), .map (some wb), .int .i64 dl, .int .i64 k.t, .int .i64 k.f, .int .u32 last.s, .bool sm] THI (0, 0)) := box_setj (j := 4) h0
  have h2 : (((w.setCell ⟨hb, 3, none⟩ (.int .i64 k.t)).setCell ⟨hb, 4, none⟩ (.int .i64 k.f)).setCell ⟨hb, 5, none⟩ (.int .u32 k.s)).heap[hb]? = some (.cells #[.pointer (some ⟨tb, 0, none⟩), .map (some wb), .int .i64 dl, .int .i64 k.t, .int .i64 k.f, .int .u32 k.s, .bool sm] THI (0, 0)) := box_setj (j := 5) h1
  have hn : ∀ j, TabS tb kv mb j → j ≠ hb := fun j hj e => h.hS (e ▸ hj)
  refine ⟨⟨box_setj (j := 6) h2, h.tab.chg hc (fun e => h.hS (.inl e.symm)) (fun e => h.hS (.inr (.inl e.symm))) (fun j hj e => h.hS (.inr (.inr (e ▸ hj)))), h.mine.chg hc (fun e => h.hw e.symm), fun u hu => hc.own (h.bod u hu) fun j hj e => ?_, h.bh, h.bw, h.wm, h.d0, h.d1⟩, hc⟩
  obtain ⟨cur, hg⟩ := brow_ty (h.bod u hu) hj
  rw [e, h.ob] at hg
  injection hg with hg
  injection hg with _ hg
  exact absurd hg (by decide)
/-- Nothing comes: what Next told does not serve. -/
theorem hpop_no (now : Int) (h : HistAt w base hb tb kv mb wb most dl last sm l g) (hno : ∀ x ∈ l.head?, now < wrap64 (x.1.k.t + dl)) :
    Calls Try.prog 45 #[.pointer (some ⟨hb, 0, none⟩), .int .i64 now] w (RetV w (.tuple #[PZ, .bool false])) := by
  have hgb : Grows w (w.alloc (.cells pz.cells TPK)) := bl_alloc (Below.refl _ _) _
  have hnx : ∃ (y : PW) (due : Int) (z : Bool), (z = false ∨ now < due) ∧ Calls Try.prog 56 #[.pointer (some ⟨hb, 0, none⟩)] (w.alloc (.cells pz.cells TPK)) (RetV (w.alloc (.cells pz.cells TPK)) (.tuple #[y.val, .int .i64 due, .bool z])) := by
    cases l with
    | nil => exact ⟨pz, 0, false, .inl rfl, hnext_none (h.grows hgb)⟩
    | cons x l => exact ⟨x.1, _, true, .inr (hno x rfl), hnext_some (h.grows hgb)⟩
  obtain ⟨y, due, z, hz, hcall⟩ := hnx
  have HM := Lib.hid hcall
  clear h hgb hcall hno
  have hq : (z = false) ∨ (z = true ∧ now < due) := by cases z; exact .inl rfl; exact .inr ⟨rfl, hz.resolve_left (by simp)⟩
  clear hz
  rcases hq with rfl | ⟨rfl, hlt⟩
  all_goals (
    go_enter Try.func45, Try.ntmps45
    go_wp2_with fail
    refine (HM.out).mono ?_
    rintro e w2 ⟨rfl, hg2⟩
    obtain ⟨b, eb⟩ : ∃ b, w.heap.size = b := ⟨_, rfl⟩
    have hr := box_grows (heap_alloc_new w (.cells pz.cells TPK)) hg2
    rw [eb] at hr
    obtain ⟨WA, eA⟩ : ∃ WA, st12 w2 b pz = WA := ⟨_, rfl⟩
    have uA : WA.heap[b]? = some (.cells pz.cells TPK (0, 0)) := by rw [← eA]; exact st12_box hr
    have gA : Grows w WA := by
      rw [← eA]
      exact grows_of_chg (grows_trans _ _ _ (bl_alloc (Below.refl _ _) _ : Grows w (w.alloc (.cells pz.cells TPK))) hg2) (st12_chg _ _ _) (fun j hj => by rw [hj, eb]; exact Nat.le_refl _)
    have HA := Lib.hid (And.intro uA gA)
    obtain ⟨x0, x1, x2, x3, x4, x5, x6, x7, x8, x9, x10, x11, x12⟩ := pat_of hr
    obtain ⟨y0, y1, y2, y3, y4, y5, y6, y7, y8, y9, y10, y11⟩ := pfree_of hr
    simp only [st12, PW.body] at eA
    clear hr uA gA hg2
    simp only [PW.val, PW.cells, PW.body]
    go_wp2_with fail
    obtain ⟨uA, gA⟩ := HA.out
    obtain ⟨i0, i1, i2, i3, i4, i5, i6, i7, i8, i9, i10, i11, i12⟩ := pat_of uA
    exact bodyPost_ret (v := .tuple #[PZ, .bool false]) (by simp [results, Try.results45, go_sem, i0, i1, i2, i3, i4, i5, i6, i7, i8, i9, i10, i11, i12]) rfl ⟨rfl, bl_alloc gA _⟩)
/-- What the first one's Pop leaves. -/
theorem hpop_yes {x : HW} (now : Int) (h : HistAt w base hb tb kv mb wb most dl last sm (x :: l) g) (hdue : ¬ now < wrap64 (x.1.k.t + dl)) :
    Calls Try.prog 45 #[.pointer (some ⟨hb, 0, none⟩), .int .i64 now] w (HistTo w base hb tb kv mb wb most dl x.1.k true l (bumpM g (x.1.k.f, x.1.kd) (-1)) (.tuple #[x.1.val, .bool true])) := by
  have hgb : Grows w (w.alloc (.cells pz.cells TPK)) := bl_alloc (Below.refl _ _) _
  have HM := Lib.hid (hnext_some (h.grows hgb))
  have HH := Lib.hid h
  have HZ := Lib.hid h.lt
  have HHB := Lib.hid (fun u hu => h.bod u (List.mem_cons_of_mem _ hu))
  obtain ⟨x, b0⟩ := x
  obtain ⟨due, edue⟩ : ∃ due, wrap64 (x.k.t + dl) = due := ⟨_, rfl⟩
  simp only [edue] at HM hdue
  clear h hgb edue
  go_enter Try.func45, Try.ntmps45
  go_wp2_with fail
  refine (HM.out).mono ?_
  rintro e w2 ⟨rfl, hg2⟩
  have g0 : Grows w (w.alloc (.cells pz.cells TPK)) := bl_alloc (Below.refl _ _) _
  have g02 := grows_trans _ _ _ g0 hg2
  obtain ⟨b, eb⟩ : ∃ b, w.heap.size = b := ⟨_, rfl⟩
  obtain ⟨c, ec⟩ : ∃ c, w2.heap.size = c := ⟨_, rfl⟩
  have g3 : Grows w2 (w2.alloc (.cells x.cells TPK)) := bl_alloc (Below.refl _ _) _
  have hm1 := heap_alloc_new w2 (.cells x.cells TPK)
  have hr1 := box_grows (heap_alloc_new w (.cells pz.cells TPK)) hg2
  have hbc : b < c := by rw [← eb, ← ec]; exact box_lt hr1
  obtain ⟨W3, e3⟩ : ∃ W3, w2.alloc (.cells x.cells TPK) = W3 := ⟨_, rfl⟩
  rw [e3] at g3 hm1
  rw [ec] at hm1
  rw [eb] at hr1
  have hr1 := box_grows hr1 g3
  have g03 := grows_trans _ _ _ g02 g3
  have h3 := HH.out.grows g03
  have X3 := Lib.hid (And.intro h3 (And.intro hr1 (And.intro hm1 (And.intro g03 hbc))))
  have HPOP := Lib.hid (tpop_someP h3.tab)
  obtain ⟨c0, -⟩ := cell_in h3.ob 0 rfl
  have z1 := h3.lt
  simp only [PW.cells, PW.body] at e3
  have E3 := Lib.hid (And.intro eb (And.intro ec e3))
  have hdc : decide (now < due) = false := decide_eq_false (by omega)
  clear hg2 g0 g02 g3 g03 h3 hm1 hr1 hbc
  simp only [PW.val, PW.cells, PW.body]
  go_wp2_with fail
  refine (HPOP.out).mono ?_
  intro e w4 hto
  obtain ⟨h3, hr1, hm1, g03, hbc⟩ := X3.out
  obtain ⟨rfl, kv4, h4, hc4, hf4⟩ := h3.rows (l' := l) hto (fun u hu => own_grows (HHB.out u hu) g03)
  have hr4 := box_chg hr1 hc4 (notS h3.tab hr1 (by decide) (by decide))
  have hm4 := box_chg hm1 hc4 (notS h3.tab hm1 (by decide) (by decide))
  have X4 := Lib.hid (And.intro h4 (And.intro hr4 (And.intro hm4 (And.intro ((Chg.ofGrows g03).trans hc4) (fun j hj => (hf4 j hj).imp id (Nat.le_trans g03.size))))))
  obtain ⟨x0, x1, x2, x3, x4, x5, x6, x7, x8, x9, x10, x11, x12⟩ := pat_of hm4
  obtain ⟨c1, -⟩ := cell_in h4.ob 1 rfl
  clear c0 z1
  have z1 := h4.lt
  have HC1 := Lib.hid (fun W' (hg : Grows w4 W') => And.intro (cell_in (box_grows h4.ob hg) 1 rfl).1 (And.intro (box_lt (box_grows h4.ob hg)) (h4.grows hg)))
  clear h3 hr1 hm1 g03 h4 hc4 hf4 hr4 hm4 hto
  go_wp2_with fail
  go_cut [] (fun wx => HistAt wx base hb tb kv4 mb wb most dl last sm l (bumpM g (x.k.f, x.kd) (-1)) ∧ wx.heap[b]? = some (.cells pz.cells TPK (0, 0)) ∧ wx.heap[c]? = some (.cells x.cells TPK (0, 0)) ∧ Chg (HistS hb tb kv mb wb) w wx)
  case first =>
    have mixed : Try.prog.follows .mixedOrders = true := by kernel_rfl
    go_region_law (first
      | (refine step_call (by rfl) 79 #[.tmp 32] #[TPK] (by rfl) #[x.val] (by simp [Act.eval]) Try.f79 Try.func79 (by kernel_rfl) (by kernel_rfl) (hof_any x w4.drew) ?_
         rintro e w5 ⟨rfl, hg5⟩
         have hg45 := grows_trans _ _ _ (bl_drew (Below.refl _ _) : Grows w4 w4.drew) hg5
         obtain ⟨o1, st, o2, he, hl1, hl2, hs2, hs3, c2, z2, c1, z1, h6, hc6⟩ := (HC1.out w5 hg45).2.2.count x.k.f x.kd (-1)
         rw [← Int.sub_eq_add_neg] at hs2 hs3
         have R := Lib.hid (And.intro hg45 (And.intro h6 hc6))
         refine ⟨_, rfl, ?_⟩
         clear hg5 hg45 h6 hc6)
      | fail)
    all_goals (
      go_wp2_with fail
      go_meet
      obtain ⟨hg45, h6, hc6⟩ := R.out
      obtain ⟨h4, hr4, hm4, hcw, -⟩ := X4.out
      have hne : ∀ p, w4.heap[p]? = some (.cells pz.cells TPK (0, 0)) ∨ w4.heap[p]? = some (.cells x.cells TPK (0, 0)) → p ≠ wb := fun p hp e => by
        rcases hp with hp | hp
        · exact mine_ne_cells h4.mine (e ▸ hp)
        · exact mine_ne_cells h4.mine (e ▸ hp)
      exact ⟨h6, box_chg (box_grows hr4 hg45) hc6 (hne _ (.inl hr4)), box_chg (box_grows hm4 hg45) hc6 (hne _ (.inr hm4)), ((hcw.mono fun j _ hj => .inr (.inr hj)).trans (Chg.ofGrows hg45)).trans (hc6.mono fun j _ hj => .inr (.inl hj))⟩)
  case rest =>
    obtain ⟨h6, hr6, hm6, hc6⟩ := hcut
    obtain ⟨h7, hc7⟩ := h6.floor x.k
    have hbh : b ≠ hb := fun e => by have := HZ.out; have := E3.out.1; omega
    have hch : c ≠ hb := fun e => by have := HZ.out; have := E3.out.1; have := X3.out.2.2.2.2; omega
    obtain ⟨W7, e7⟩ : ∃ W7, stF wc hb x.k = W7 := ⟨_, rfl⟩
    rw [e7] at h7 hc7
    have hr7 := box_chg hr6 hc7 hbh
    have hm7 := box_chg hm6 hc7 hch
    obtain ⟨WA, eA⟩ : ∃ WA, st12 W7 b x = WA := ⟨_, rfl⟩
    have hcA : Chg (fun j => j = b) W7 WA := by rw [← eA]; exact st12_chg _ _ _
    have uA : WA.heap[b]? = some (.cells x.cells TPK (0, 0)) := by rw [← eA]; exact st12_box hr7
    have h8 := h7.other hr7 (by decide) (by decide) (by decide) (by decide) hcA
    have hcw : Chg (HistS hb tb kv mb wb) w WA := Chg.fresh (hc6.trans (hc7.mono fun j _ hj => .inl hj)) hcA (fun j hj => by rw [hj, E3.out.1]; exact Nat.le_refl _)
    have HF := Lib.hid (And.intro h8 (And.intro uA hcw))
    obtain ⟨x0, x1, x2, x3, x4, x5, x6, x7, x8, x9, x10, x11, x12⟩ := pat_of hm6
    obtain ⟨n0, n1, n2, n3, n4, n5, n6, n7, n8, n9, n10, n11, n12⟩ := pat_of hm7
    obtain ⟨r0, r1, r2, r3, r4, r5, r6, r7, r8, r9, r10, r11, r12⟩ := pat_of hr7
    obtain ⟨y0, y1, y2, y3, y4, y5, y6, y7, y8, y9, y10, y11⟩ := pfree_of hr7
    obtain ⟨d3, d3f⟩ := cell_in h6.ob 3 rfl
    obtain ⟨d4, d4f⟩ := cell_in h6.ob 4 rfl
    obtain ⟨d5, d5f⟩ := cell_in h6.ob 5 rfl
    obtain ⟨d6, d6f⟩ := cell_in h6.ob 6 rfl
    have z3 := h6.lt
    simp only [stF] at e7
    simp only [st12, PW.body] at eA
    clear h6 hr6 hm6 hc6 h7 hc7 hr7 hm7 hcA uA h8 hcw
    go_wp2_with fail
    obtain ⟨h8, uA, hcw⟩ := HF.out
    obtain ⟨i0, i1, i2, i3, i4, i5, i6, i7, i8, i9, i10, i11, i12⟩ := pat_of uA
    exact bodyPost_ret (v := .tuple #[x.val, .bool true]) (by simp [results, Try.results45, go_sem, i0, i1, i2, i3, i4, i5, i6, i7, i8, i9, i10, i11, i12]) rfl ⟨rfl, kv4, h8, hcw, X4.out.2.2.2.2⟩
end
end Go.Proofs.Ytdmmceclohkkdaa
