/- A relay's methods: Check, Take. -/
import Derived.Test.YtgjieoljfcfacaaDoorRelA
namespace Go.Proofs.YtgjieoljfcfacaaDoor
open Go.RowKit Go.Sort
set_option maxHeartbeats 4000000
set_option maxRecDepth 100000
/-- What a relay says of a packet. -/
def rchk (m : List (KW × Value)) (most : Nat) (me n : Int) (B : BV) (tol now : Int) (x : PW) : Int :=
  if floodB x.kd = false then 7 else if otherB me n x.k.f = false then 8 else if chkI B.b0 B.b3 B.b1 tol now x.hp x.k.t ≠ 0 then chkI B.b0 B.b3 B.b1 tol now x.hp x.k.t else putE m most x.k
section
variable {m : List (KW × Value)} {most : Nat} {me n tol now : Int} {B : BV} {x : PW}
theorem rchk_7 (h : floodB x.kd = false) : rchk m most me n B tol now x = 7 := by unfold rchk; rw [if_pos h]
theorem rchk_8 (h : floodB x.kd = true) (h2 : otherB me n x.k.f = false) : rchk m most me n B tol now x = 8 := by unfold rchk; rw [if_neg (by simp [h]), if_pos h2]
theorem rchk_c (h : floodB x.kd = true) (h2 : otherB me n x.k.f = true) (h3 : chkI B.b0 B.b3 B.b1 tol now x.hp x.k.t ≠ 0) : rchk m most me n B tol now x = chkI B.b0 B.b3 B.b1 tol now x.hp x.k.t := by unfold rchk; rw [if_neg (by simp [h]), if_neg (by simp [h2]), if_pos h3]
theorem rchk_p (h : floodB x.kd = true) (h2 : otherB me n x.k.f = true) (h3 : chkI B.b0 B.b3 B.b1 tol now x.hp x.k.t = 0) : rchk m most me n B tol now x = putE m most x.k := by unfold rchk; rw [if_neg (by simp [h]), if_neg (by simp [h2]), if_neg (by simp [h3])]
theorem putE_12 {k : KW} (h : (getK m k).isSome = true) : putE m most k = 12 := by unfold putE; rw [if_pos (by intro e; rw [e] at h; cases h)]
theorem getK_none' {k : KW} (h : (getK m k).isSome = false) : getK m k = none := by
  cases hg : getK m k with
  | none => rfl
  | some v => rw [hg] at h; cases h
theorem putE_13 {k : KW} (h : (getK m k).isSome = false) (h2 : most ≤ m.length) : putE m most k = 13 := by unfold putE; rw [if_neg (fun e => e (getK_none' h)), if_pos h2]
theorem putE_0 {k : KW} (h : (getK m k).isSome = false) (h2 : ¬ most ≤ m.length) : putE m most k = 0 := by unfold putE; rw [if_neg (fun e => e (getK_none' h)), if_neg h2]
end
section
variable {w : World} {base rb sb tb mb most : Nat} {kv : Value} {m : List (KW × Value)} {me n : Int} {B : BV}
theorem rcheck_r_any (tol now : Int) (x : PW) (h : RelayAt w base rb sb tb kv mb m most me n B) :
    Calls Tryd.prog 14 #[.pointer (some ⟨rb, 0, none⟩), .int .i64 tol, .int .i64 now, x.val] w (RetV w (.int .i64 (rchk m most me n B tol now x))) := by
  obtain ⟨p, ep⟩ : ∃ p, w.heap.size = p := ⟨_, rfl⟩
  obtain ⟨W, eW⟩ : ∃ W, w.alloc (.cells x.cells TPK) = W := ⟨_, rfl⟩
  have hgb : Grows w W := by rw [← eW]; exact bl_alloc (Below.refl _ _) _
  have hbx := heap_alloc_new w (.cells x.cells TPK)
  rw [eW, ep] at hbx
  have hfew := h.seen.tab.few
  have HFL := Lib.hid (fun W => flood_any x.kd W)
  have HOT := Lib.hid (fun W' (hg : Grows w W') => other_any x.k.f (h.grows hg))
  have HCH := Lib.hid (fun W' => check_any B.b0 B.b1 B.b2 B.b3 B.b4 B.b5 B.b6 B.b7 B.b8 B.b9 B.b10 B.b11 B.b12 B.b13 tol now x.kd x.k.t x.k.f x.k.s x.hp x.no x.dt x.ix x.tt x.st x.vl x.ba x.bl x.bc W')
  have HHAS := Lib.hid (fun W' (hg : Grows w W') => shas_any x.k (h.seen.grows hg))
  have HROOM := Lib.hid (fun W' (hg : Grows w W') => sroom_any (h.seen.grows hg))
  have HG := Lib.hid hgb
  have HX := Lib.hid hbx
  have HREL := Lib.hid (h.grows hgb)
  obtain ⟨x0, x1, x2, x3, x4, x5, x6, x7, x8, x9, x10, x11, x12⟩ := pat_of hbx
  obtain ⟨r0, r1, r2, r3, r4, r5, r6, r7, r8, r9, r10, r11, r12, r13, r14, r15, r16, zr⟩ := (h.grows hgb).cells
  obtain ⟨er, eer⟩ : ∃ er, rchk m most me n B tol now x = er := ⟨_, rfl⟩
  obtain ⟨cv, ecv⟩ : ∃ cv, chkI B.b0 B.b3 B.b1 tol now x.hp x.k.t = cv := ⟨_, rfl⟩
  have h7 := fun h => eer.symm.trans (rchk_7 (m := m) (most := most) (me := me) (n := n) (tol := tol) (now := now) (B := B) (x := x) h)
  have h8 := fun h h2 => eer.symm.trans (rchk_8 (m := m) (most := most) (me := me) (n := n) (tol := tol) (now := now) (B := B) (x := x) h h2)
  have hcc := fun h h2 h3 => eer.symm.trans (rchk_c (m := m) (most := most) (me := me) (n := n) (tol := tol) (now := now) (B := B) (x := x) h h2 h3)
  have hpp := fun h h2 h3 => eer.symm.trans (rchk_p (m := m) (most := most) (me := me) (n := n) (tol := tol) (now := now) (B := B) (x := x) h h2 h3)
  rw [ecv] at HCH hcc hpp
  obtain ⟨hh, ehh⟩ : ∃ hh, (getK m x.k).isSome = hh := ⟨_, rfl⟩
  rw [ehh] at HHAS
  have HP := Lib.hid (And.intro (And.intro h7 h8) (And.intro (And.intro hcc hpp) ehh))
  have HFEW := Lib.hid hfew
  rw [eer]
  clear h hgb hbx h7 h8 hcc hpp ehh eer ecv hfew
  simp only [PW.val, PW.cells, PW.body] at eW ⊢
  go_enter Tryd.func14, Tryd.ntmps14
  go_wp2_with fail
  refine (HFL.out _).mono ?_
  rintro e w1 ⟨rfl, rfl⟩
  cases hf : floodB x.kd with
  | false =>
    go_wp2_with fail
    go_ret
    exact ⟨ret_int (HP.out.1.1 hf).symm, HG.out⟩
  | true =>
    go_wp2_with fail
    refine (HOT.out _ HG.out).mono ?_
    rintro e w1 ⟨rfl, rfl⟩
    cases ho : otherB me n x.k.f with
    | false =>
      go_wp2_with fail
      go_ret
      exact ⟨ret_int (HP.out.1.2 hf ho).symm, HG.out⟩
    | true =>
      go_wp2_with fail
      refine wp_region_reg (by kernel_rfl) (by kernel_rfl) ?_
      repeat (first | go_big_quiet_step ((go_at_call 38; exact class_reg (HCH.out _))) | quiet_step ((go_at_call 38; exact class_reg (HCH.out _))))
      refine wpQuiet_nil ?_
      intro _ hcw1
      obtain ⟨pq, hcw2⟩ := hcw1
      subst hcw2
      obtain ⟨W2, e2⟩ : ∃ W2, reg W pq = W2 := ⟨_, rfl⟩
      have hg2 : Grows W W2 := by rw [← e2]; exact below_reg _ _
      rw [e2]
      have HG2 := Lib.hid hg2
      clear e2 eW r0 r1 r2 r3 r4 r5 r6 r7 r8 r9 r10 r11 r12 r13 r14 r15 r16 zr x0 x1 x2 x3 x4 x5 x6 x7 x8 x9 x10 x11 x12
      obtain ⟨x0, x1, x2, x3, x4, x5, x6, x7, x8, x9, x10, x11, x12⟩ := pat_of (box_grows HX.out hg2)
      obtain ⟨r0, r1, r2, r3, r4, r5, r6, r7, r8, r9, r10, r11, r12, r13, r14, r15, r16, zr⟩ := (HREL.out.grows hg2).cells
      clear hg2
      by_cases hc : cv = 0
      · have hcb : (cv != 0) = false := by simp [hc]
        have hcb2 : (cv == 0) = true := by simp [hc]
        have HC := Lib.hid hc
        go_wp2_with fail
        refine wp_region_reg (by kernel_rfl) (by kernel_rfl) ?_
        repeat (first | go_big_quiet_step ((go_at_call 39; exact class_reg (HHAS.out _ (grows_trans _ _ _ HG.out (grows_trans _ _ _ HG2.out (below_reg _ _)))))) | quiet_step ((go_at_call 39; exact class_reg (HHAS.out _ (grows_trans _ _ _ HG.out (grows_trans _ _ _ HG2.out (below_reg _ _)))))))
        refine wpQuiet_nil ?_
        intro _ hcw1
        obtain ⟨pq, hcw2⟩ := hcw1
        subst hcw2
        obtain ⟨W3, e3⟩ : ∃ W3, reg W2 pq = W3 := ⟨_, rfl⟩
        have hg3 : Grows W2 W3 := by rw [← e3]; exact below_reg _ _
        rw [e3]
        have HG3 := Lib.hid (grows_trans _ _ _ HG.out (grows_trans _ _ _ HG2.out hg3))
        clear e3 r0 r1 r2 r3 r4 r5 r6 r7 r8 r9 r10 r11 r12 r13 r14 r15 r16 zr x0 x1 x2 x3 x4 x5 x6 x7 x8 x9 x10 x11 x12
        obtain ⟨r0, r1, r2, r3, r4, r5, r6, r7, r8, r9, r10, r11, r12, r13, r14, r15, r16, zr⟩ := (HREL.out.grows (grows_trans _ _ _ HG2.out hg3)).cells
        clear hg3
        cases hh with
        | true =>
          go_wp2_with fail
          go_ret
          exact ⟨ret_int (by rw [HP.out.2.1.2 hf ho HC.out, putE_12 HP.out.2.2]), HG3.out⟩
        | false =>
          go_wp2_with fail
          refine (HROOM.out _ HG3.out).mono ?_
          rintro e w4 ⟨rfl, hg4⟩
          have HG4 := Lib.hid (grows_trans _ _ _ HG3.out hg4)
          clear hg4
          by_cases hfull : most ≤ m.length
          · have hz : ((most : Int) - (m.length : Int) == 0) = true := by have := HFEW.out; simp; omega
            have hz2 : (most : Int) - (m.length : Int) = 0 := by have := HFEW.out; omega
            have HE := Lib.hid (show er = 13 by rw [HP.out.2.1.2 hf ho HC.out, putE_13 HP.out.2.2 hfull])
            clear hfull
            go_wp2_with fail
            go_ret
            exact ⟨ret_int HE.out.symm, HG4.out⟩
          · have hz : ((most : Int) - (m.length : Int) == 0) = false := by simp; omega
            have HE := Lib.hid (show er = 0 by rw [HP.out.2.1.2 hf ho HC.out, putE_0 HP.out.2.2 hfull])
            clear hfull
            go_wp2_with fail
            go_ret
            exact ⟨ret_int HE.out.symm, HG4.out⟩
      · have hcb : (cv != 0) = true := by simp [hc]
        have hcb2 : (cv == 0) = false := by simp [hc]
        go_wp2_with fail
        go_ret
        exact ⟨ret_int (HP.out.2.1.1 hf ho hc).symm, grows_trans _ _ _ HG.out HG2.out⟩
end
end Go.Proofs.YtgjieoljfcfacaaDoor
