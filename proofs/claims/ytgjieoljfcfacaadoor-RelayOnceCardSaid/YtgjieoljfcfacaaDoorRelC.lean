/- A relay's Take, Expire, Len, Room. -/
import Derived.Test.YtgjieoljfcfacaaDoorRelB
namespace Go.Proofs.YtgjieoljfcfacaaDoor
open Go.RowKit Go.Sort
set_option maxHeartbeats 4000000
set_option maxRecDepth 100000
/-- A time behind another one by so much. -/
def behI (t b : Int) : Int := if okT t = true then (if t + b ≤ 1152921504606846976 then t + b else 1152921504606846976) else 0

theorem behind_any (t b : Int) (w : World) (h0 : 0 ≤ b) (h1 : b ≤ 4611686018427387904) : Calls Tryd.prog 48 #[.int .i64 t, .int .i64 b] w (fun e w' => e = .returned (.int .i64 (behI t b)) ∧ w = w') := by
  cases ho : okT t
  · go_enter Tryd.func48, Tryd.ntmps48
    go_wp2_with (first | (go_at_call 58; refine (time_any _ _).mono ?_; rintro e w' ⟨rfl, rfl⟩))
    go_ret
    exact ⟨ret_int (by simp [behI, ho]), rfl⟩
  · have hb := of_okT ho
    obtain ⟨hb1, hb2⟩ := hb
    by_cases hle : t + b ≤ 1152921504606846976
    · go_enter Tryd.func48, Tryd.ntmps48
      go_wp2_with (first | (go_at_call 58; refine (time_any _ _).mono ?_; rintro e w' ⟨rfl, rfl⟩))
      go_ret
      exact ⟨ret_int (by simp [behI, ho]; omega), rfl⟩
    · go_enter Tryd.func48, Tryd.ntmps48
      go_wp2_with (first | (go_at_call 58; refine (time_any _ _).mono ?_; rintro e w' ⟨rfl, rfl⟩))
      go_ret
      exact ⟨ret_int (by simp [behI, ho]; omega), rfl⟩

/-- A number, no less than 0 and no more than the greatest time. -/
def clampI (x : Int) : Int := if x < 0 then 0 else if 1152921504606846976 < x then 1152921504606846976 else x
theorem clamp_any (x : Int) (w : World) : Calls Tryd.prog 28 #[.int .i64 x, .int .i64 0, .int .i64 1152921504606846976] w (fun e w' => e = .returned (.int .i64 (clampI x)) ∧ w = w') := by
  go_enter Tryd.func28, Tryd.ntmps28
  go_wp2
  all_goals (go_ret; exact ⟨ret_int (by unfold clampI; first | rw [if_pos (by omega)] | rw [if_neg (by omega), if_pos (by omega)] | rw [if_neg (by omega), if_neg (by omega)]), rfl⟩)

/-- The numbers are such that no sum runs over. -/
def UOk (b0 b1 b3 b10 : Int) : Prop := 0 ≤ b10 ∧ b10 ≤ 18300341342965825 ∧ 0 ≤ lateI b0 b3 b1 b0 b10 ∧ lateI b0 b3 b1 b0 b10 ≤ 4611686018427387904
theorem until_any (b0 b1 b2 b3 b4 b5 b6 b7 b8 b9 b10 b11 b12 b13 t : Int) (w : World) (hB : UOk b0 b1 b3 b10) :
    Calls Tryd.prog 24 #[bnd b0 b1 b2 b3 b4 b5 b6 b7 b8 b9 b10 b11 b12 b13, .int .i64 t] w (RetV w (.int .i64 (behI t (lateI b0 b3 b1 b0 b10)))) := by
  obtain ⟨c8, c9, l0, l1⟩ := hB
  go_enter Tryd.func24, Tryd.ntmps24
  go_wp2_with (first | (go_at_call 49; refine (late_any _ _ _ _ _ _ _ _ _ _ _ _ _ _ _ _ _ (by omega) (by omega)).mono ?_; rintro e w1 ⟨rfl, hb⟩; obtain ⟨p, rfl⟩ := regr hb; clear hb) | (go_at_call 48; refine (behind_any _ _ _ l0 l1).mono ?_; rintro e w' ⟨rfl, rfl⟩))
  go_ret
  exact ⟨rfl, by (repeat (first | with_reducible exact Below.refl _ _ | with_reducible refine bl_alloc ?_ _ | ((with_reducible refine bl_set ?_ ?_ _); rotate_left; (first | exact Nat.le_refl _ | exact Nat.le_succ_of_le (Nat.le_refl _) | (simp only []; omega))) | with_reducible refine bl_drewN ?_ _ | with_reducible refine bl_drew ?_ | with_reducible refine bl_reg ?_ _))⟩

theorem runtil_any (b0 b1 b2 b3 b4 b5 b6 b7 b8 b9 b10 b11 b12 b13 t : Int) (w : World) (hB : UOk b0 b1 b3 b10) :
    Calls Tryd.prog 11 #[bnd b0 b1 b2 b3 b4 b5 b6 b7 b8 b9 b10 b11 b12 b13, .int .i64 t] w (RetV w (.int .i64 (behI t (lateI b0 b3 b1 b0 b10)))) := by
  obtain ⟨c8, c9, l0, l1⟩ := hB
  cases ho : okT t
  · go_enter Tryd.func11, Tryd.ntmps11
    go_wp2_with (first | (go_at_call 27; refine (rtime_any _ _).mono ?_; rintro e w' ⟨rfl, rfl⟩))
    go_ret
    exact ⟨ret_int (by simp [behI, ho]), by (repeat (first | with_reducible exact Below.refl _ _ | with_reducible refine bl_alloc ?_ _ | ((with_reducible refine bl_set ?_ ?_ _); rotate_left; (first | exact Nat.le_refl _ | exact Nat.le_succ_of_le (Nat.le_refl _) | (simp only []; omega))) | with_reducible refine bl_drewN ?_ _ | with_reducible refine bl_drew ?_ | with_reducible refine bl_reg ?_ _))⟩
  · have hb := of_okT ho
    obtain ⟨hb1, hb2⟩ := hb
    go_enter Tryd.func11, Tryd.ntmps11
    go_wp2_with (first | (go_at_call 27; refine (rtime_any _ _).mono ?_; rintro e w' ⟨rfl, rfl⟩) | (go_at_call 29; refine (rlate_any _ _ _ _ _ _ _ _ _ _ _ _ _ _ _ _ _).mono ?_; rintro e w1 ⟨rfl, hb⟩; obtain ⟨p, rfl⟩ := regr hb; clear hb) | (go_at_call 28; refine (clamp_any _ _).mono ?_; rintro e w' ⟨rfl, rfl⟩))
    all_goals (go_ret; refine ⟨ret_int ?_, by (repeat (first | with_reducible exact Below.refl _ _ | with_reducible refine bl_alloc ?_ _ | ((with_reducible refine bl_set ?_ ?_ _); rotate_left; (first | exact Nat.le_refl _ | exact Nat.le_succ_of_le (Nat.le_refl _) | (simp only []; omega))) | with_reducible refine bl_drewN ?_ _ | with_reducible refine bl_drew ?_ | with_reducible refine bl_reg ?_ _))⟩)
    all_goals (unfold behI clampI; rw [if_pos ho]; repeat' split)
    all_goals omega

/-- Till when a name is kept. -/
def tillI (B : BV) (t : Int) : Int := behI t (lateI B.b0 B.b3 B.b1 B.b0 B.b10)
section
variable {w : World} {base rb sb tb mb most : Nat} {kv : Value} {m : List (KW × Value)} {me n : Int} {B : BV}
theorem rtake_any (tol now : Int) (x : PW) (h : RelayAt w base rb sb tb kv mb m most me n B) (hU : UOk B.b0 B.b1 B.b3 B.b10) (hbase : base ≤ w.heap.size) :
    Calls Tryd.prog 8 #[.pointer (some ⟨rb, 0, none⟩), .int .i64 tol, .int .i64 now, x.val] w (RelayTo w base rb sb tb kv mb (if rchk m most me n B tol now x = 0 then insT m x.k (.int .i64 (tillI B x.k.t)) else m) most me n B (.int .i64 (rchk m most me n B tol now x))) := by
  obtain ⟨p, ep⟩ : ∃ p, w.heap.size = p := ⟨_, rfl⟩
  obtain ⟨W, eW⟩ : ∃ W, w.alloc (.cells x.cells TPK) = W := ⟨_, rfl⟩
  have hgb : Grows w W := by rw [← eW]; exact bl_alloc (Below.refl _ _) _
  have hbx := heap_alloc_new w (.cells x.cells TPK)
  rw [eW, ep] at hbx
  have HCK := Lib.hid (fun W' (hg : Grows w W') => rcheck_r_any tol now x (h.grows hg))
  have HUN := Lib.hid (fun W' => until_any B.b0 B.b1 B.b2 B.b3 B.b4 B.b5 B.b6 B.b7 B.b8 B.b9 B.b10 B.b11 B.b12 B.b13 x.k.t W' hU)
  have HNO := Lib.hid (fun W' (hg : Grows w W') => (snote_any x.k (tillI B x.k.t) (h.grows hg).seen (Nat.le_trans hbase hg.size)).mono fun e w' ht => RelayTo.ofSeen h hg ht)
  have hti : behI x.k.t (lateI B.b0 B.b3 B.b1 B.b0 B.b10) = tillI B x.k.t := rfl
  rw [hti] at HUN
  have hre : rchk m most me n B tol now x = 0 → putE m most x.k = 0 := fun h0 => by
    unfold rchk at h0
    split at h0
    · cases h0
    · split at h0
      · cases h0
      · split at h0
        · rename_i hne; exact absurd h0 hne
        · exact h0
  have HG := Lib.hid hgb
  have HX := Lib.hid hbx
  have H0 := Lib.hid h
  have HRE := Lib.hid hre
  obtain ⟨x0, x1, x2, x3, x4, x5, x6, x7, x8, x9, x10, x11, x12⟩ := pat_of hbx
  obtain ⟨er, eer⟩ : ∃ er, rchk m most me n B tol now x = er := ⟨_, rfl⟩
  obtain ⟨ti, eti⟩ : ∃ ti, tillI B x.k.t = ti := ⟨_, rfl⟩
  obtain ⟨pe, epe⟩ : ∃ pe, putE m most x.k = pe := ⟨_, rfl⟩
  rw [eer] at HCK HRE
  rw [eti] at HUN HNO
  rw [epe] at HNO HRE
  rw [eer, eti]
  obtain ⟨mr, emr⟩ : ∃ mr, (if er = 0 then insT m x.k (.int .i64 ti) else m) = mr := ⟨_, rfl⟩
  rw [emr]
  have HMR := Lib.hid (show (er = 0 → mr = insT m x.k (.int .i64 ti)) ∧ (er ≠ 0 → mr = m) from ⟨fun h => by rw [← emr, if_pos h], fun h => by rw [← emr, if_neg h]⟩)
  clear emr
  clear h hgb hbx hU hbase hti hre eer eti epe
  simp only [PW.val, PW.cells, PW.body] at eW HCK ⊢
  go_enter Tryd.func8, Tryd.ntmps8
  go_wp2_with fail
  refine (HCK.out _ HG.out).mono ?_
  rintro e w1 ⟨rfl, hg1⟩
  have HG1 := Lib.hid hg1
  clear x0 x1 x2 x3 x4 x5 x6 x7 x8 x9 x10 x11 x12 eW
  obtain ⟨x0, x1, x2, x3, x4, x5, x6, x7, x8, x9, x10, x11, x12⟩ := pat_of (box_grows HX.out hg1)
  clear hg1
  by_cases h0 : er = 0
  · have e1 : (er != 0) = false := by simp [h0]
    have e2 : (er == 0) = true := by simp [h0]
    have HP0 := Lib.hid (HRE.out h0)
    have HE0 := Lib.hid h0
    obtain ⟨r0, r1, r2, r3, r4, r5, r6, r7, r8, r9, r10, r11, r12, r13, r14, r15, r16, zr⟩ := (H0.out.grows (grows_trans _ _ _ HG.out HG1.out)).cells
    obtain rfl := HMR.out.1 h0
    subst h0
    go_wp2_with fail
    refine wp_region_tail_reg 14 (by kernel_rfl) (by kernel_rfl) (by kernel_rfl) (by kernel_rfl) ?_
    simp only [List.take_succ_cons, List.take_zero, List.drop_succ_cons, List.drop_zero]
    repeat (first | go_big_quiet_step ((go_at_call 24; exact class_reg (HUN.out _))) | quiet_step ((go_at_call 24; exact class_reg (HUN.out _))))
    refine wpQuiet_nil ?_
    intro _ hcw1
    obtain ⟨pq, hcw2⟩ := hcw1
    subst hcw2
    go_wp2_with fail
    refine (HNO.out _ (grows_trans _ _ _ HG.out (grows_trans _ _ _ HG1.out (below_reg _ _)))).mono ?_
    intro e w2 hs
    rw [if_pos HP0.out, HP0.out] at hs
    have HS := Lib.hid hs
    obtain ⟨rfl, -⟩ := hs
    go_wp2_with fail
    go_ret
    exact HS.out
  · have e1 : (er != 0) = true := by simp [h0]
    have e2 : (er == 0) = false := by simp [h0]
    obtain rfl := HMR.out.2 h0
    go_wp2_with fail
    go_ret
    exact RelayTo.same H0.out (grows_trans _ _ _ HG.out HG1.out)
theorem rexpire_r_any (now : Int) (h : RelayAt w base rb sb tb kv mb m most me n B) (hm : ∀ p ∈ m, ∃ x, p.2 = .int .i64 x) :
    Calls Tryd.prog 9 #[.pointer (some ⟨rb, 0, none⟩), .int .i64 now] w (RelayTo w base rb sb tb kv mb (m.filter fun p => !overD now p) most me n B (.int .i64 ((m.filter (overD now)).length : Int))) := by
  have HE := Lib.hid ((sexpire_any now h.seen hm).mono fun e w' ht => RelayTo.ofSeen h (Below.refl _ _) ht)
  obtain ⟨r0, r1, r2, r3, r4, r5, r6, r7, r8, r9, r10, r11, r12, r13, r14, r15, r16, zr⟩ := h.cells
  clear h hm
  go_enter Tryd.func9, Tryd.ntmps9
  go_wp2_with fail
  refine (HE.out).mono ?_
  intro e w1 hs
  have HS := Lib.hid hs
  obtain ⟨rfl, -⟩ := hs
  go_wp2_with fail
  go_ret
  exact HS.out
theorem rlen_any (h : RelayAt w base rb sb tb kv mb m most me n B) : Calls Tryd.prog 10 #[.pointer (some ⟨rb, 0, none⟩)] w (fun e w' => e = .returned (.int .i64 (m.length : Int)) ∧ w = w') := by
  have HE := Lib.hid (slen_any h.seen)
  obtain ⟨r0, r1, r2, r3, r4, r5, r6, r7, r8, r9, r10, r11, r12, r13, r14, r15, r16, zr⟩ := h.cells
  clear h
  go_enter Tryd.func10, Tryd.ntmps10
  go_wp2_with fail
  refine (HE.out).mono ?_
  rintro e w1 ⟨rfl, rfl⟩
  go_wp2_with fail
  go_ret
  exact ⟨rfl, rfl⟩
theorem rroom_any (h : RelayAt w base rb sb tb kv mb m most me n B) : Calls Tryd.prog 16 #[.pointer (some ⟨rb, 0, none⟩)] w (RetV w (.int .i64 ((most : Int) - (m.length : Int)))) := by
  have HE := Lib.hid (sroom_any h.seen)
  obtain ⟨r0, r1, r2, r3, r4, r5, r6, r7, r8, r9, r10, r11, r12, r13, r14, r15, r16, zr⟩ := h.cells
  clear h
  go_enter Tryd.func16, Tryd.ntmps16
  go_wp2_with fail
  refine (HE.out).mono ?_
  rintro e w1 ⟨rfl, hg1⟩
  have HG := Lib.hid hg1
  clear hg1
  go_wp2_with fail
  go_ret
  exact ⟨rfl, HG.out⟩
end
/-! Of none. -/
theorem nlen_r (w : World) : Calls Tryd.prog 10 #[.pointer none] w (fun e w' => e = .returned (.int .i64 0) ∧ w = w') := by
  go_enter Tryd.func10, Tryd.ntmps10
  go_wp2
  go_ret
  exact ⟨rfl, rfl⟩
theorem nroom_r (w : World) : Calls Tryd.prog 16 #[.pointer none] w (fun e w' => e = .returned (.int .i64 0) ∧ w = w') := by
  go_enter Tryd.func16, Tryd.ntmps16
  go_wp2
  go_ret
  exact ⟨rfl, rfl⟩
theorem nexp_r (now : Int) (w : World) : Calls Tryd.prog 9 #[.pointer none, .int .i64 now] w (fun e w' => e = .returned (.int .i64 0) ∧ w = w') := by
  go_enter Tryd.func9, Tryd.ntmps9
  go_wp2
  go_ret
  exact ⟨rfl, rfl⟩
theorem ncheck_r (tol now : Int) (x : PW) (w : World) : Calls Tryd.prog 14 #[.pointer none, .int .i64 tol, .int .i64 now, x.val] w (RetV w (.int .i64 1)) := by
  simp only [PW.val, PW.cells, PW.body]
  go_enter Tryd.func14, Tryd.ntmps14
  go_wp2
  go_ret
  exact ⟨rfl, by show Below w.heap.size w _; (repeat (first | with_reducible exact Below.refl _ _ | with_reducible refine bl_alloc ?_ _ | ((with_reducible refine bl_set ?_ ?_ _); rotate_left; (first | exact Nat.le_refl _ | exact Nat.le_succ_of_le (Nat.le_refl _) | (simp only []; omega))) | with_reducible refine bl_drewN ?_ _ | with_reducible refine bl_drew ?_ | with_reducible refine bl_reg ?_ _))⟩
theorem ntake_r (tol now : Int) (x : PW) (w : World) : Calls Tryd.prog 8 #[.pointer none, .int .i64 tol, .int .i64 now, x.val] w (RetV w (.int .i64 1)) := by
  have HC := Lib.hid (fun W => ncheck_r tol now x W)
  simp only [PW.val, PW.cells, PW.body] at HC ⊢
  go_enter Tryd.func8, Tryd.ntmps8
  go_wp2_with fail
  refine (HC.out _).mono ?_
  rintro e w1 ⟨rfl, hg1⟩
  have HG := Lib.hid hg1
  clear hg1
  go_wp2_with fail
  go_ret
  exact ⟨rfl, grows_trans _ _ _ (bl_alloc (Below.refl _ _) _) HG.out⟩
end Go.Proofs.YtgjieoljfcfacaaDoor
