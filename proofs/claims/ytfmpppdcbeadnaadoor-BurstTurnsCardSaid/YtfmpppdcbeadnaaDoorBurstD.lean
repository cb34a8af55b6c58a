/- In which bits bytes differ: the program's walk. -/
import Derived.Test.YtfmpppdcbeadnaaDoorBurstQ
namespace Go.Proofs.YtfmpppdcbeadnaaDoor
open Go.RowKit Go.Sort

theorem differ_apart (a b : Option Addr) (n m c d : Nat) (w : World) (h : n ≠ m) :
    Calls Tryd.prog 13 #[.slice a n c, .slice b m d] w (fun e w' => e = .returned (.tuple #[.int .i64 0, .int .i64 0, .bool false]) ∧ w = w') := by
  have h1 : ((n : Int) == (m : Int)) = false := by simp; omega
  go_enter Tryd.func13, Tryd.ntmps13
  go_wp2
  go_ret3
  exact ⟨rfl, rfl⟩
/-- What Differ's slots bear. -/
def fstV (o : Option (Nat × Nat)) : Int := match o with | none => 0 | some p => (p.1 : Int)
def lstV (o : Option (Nat × Nat)) : Int := match o with | none => 0 | some p => (p.2 : Int)
def DiffRel (a b : List Nat) (w : World) (f la is i : Value) (wr : World) : Prop :=
  ∃ (k : Nat) (o : Option (Nat × Nat)), k ≤ a.length ∧ i = .int .i64 (k : Int) ∧ f = .int .i64 (fstV o) ∧ la = .int .i64 (lstV o) ∧ is = .bool o.isSome ∧ SpanRel (DiffAt a b) (8 * k) o ∧ ∃ m, wr = w.drewN m
/-- What Differ tells. -/
def diffR (o : Option (Nat × Nat)) : Value := match o with
  | none => .tuple #[.int .i64 0, .int .i64 0, .bool true]
  | some p => .tuple #[.int .i64 (p.1 : Int), .int .i64 ((p.2 : Int) - (p.1 : Int) + 1), .bool true]

set_option maxHeartbeats 1000000 in
theorem differ_alike (a b : Option Addr) (la lb : List Nat) (c d : Nat) (w : World) (hlen : lb.length = la.length) (h1 : la.length ≤ 1000) (ha : okB la) (hb : okB lb)
    (hc : la.length = 0 ∨ ∃ b1 o1 b2 o2, a = some ⟨b1, o1, none⟩ ∧ b = some ⟨b2, o2, none⟩ ∧ bytesAt w b1 o1 la ∧ bytesAt w b2 o2 lb) :
    Calls Tryd.prog 13 #[.slice a la.length c, .slice b lb.length d] w (fun e w' => ∃ o, e = .returned (diffR o) ∧ SpanRel (DiffAt la lb) (8 * la.length) o ∧ ∃ m, w' = w.drewN m) := by
  rw [hlen]
  have HC := Lib.hid hc
  clear hc
  obtain ⟨n, hn⟩ : ∃ n, la.length = n := ⟨_, rfl⟩
  rw [hn] at h1 ⊢
  go_enter Tryd.func13, Tryd.ntmps13
  go_wp2_with fail
  go_loopw [4, 7, 8, 18] (fun f l is i wr => DiffRel la lb w f l is i wr) (fun _ _ _ i _ => n - (intOf i).toNat)
  case atStart => exact ⟨0, none, Nat.zero_le _, rfl, rfl, rfl, rfl, fun k hk => absurd hk (by omega), 0, rfl⟩
  case round =>
    obtain ⟨k, o, hk, rfl, rfl, rfl, rfl, hs, m, rfl⟩ := hrel
    rw [hn] at hk
    by_cases hlt : k < n
    · obtain ⟨b1, o1, b2, o2, rfl, rfl, hc1, hc2⟩ := (HC.out).resolve_left (by omega)
      have hk1 : k < la.length := by omega
      have hk2 : k < lb.length := by omega
      have c1 := hc1 k hk1
      have c2 := hc2 k hk2
      have hq1 : la[k] < 256 := ha _ (List.getElem_mem hk1)
      have hq2 : lb[k] < 256 := hb _ (List.getElem_mem hk2)
      have hsp := span_byte (d := la[k] ^^^ lb[k]) hs (by simp [List.getD_eq_getElem?_getD, hk1, hk2]) (Nat.xor_lt_two_pow (n := 8) hq1 hq2)
      have hxor := u8_xor_nat _ _ hq1 hq2
      have hd := Nat.xor_lt_two_pow (n := 8) hq1 hq2
      obtain ⟨q1, e1⟩ : ∃ q, la[k] = q := ⟨_, rfl⟩
      obtain ⟨q2, e2⟩ : ∃ q, lb[k] = q := ⟨_, rfl⟩
      rw [e1] at c1 hq1 hsp hxor hd
      rw [e2] at c2 hq2 hsp hxor hd
      obtain ⟨dd, ed⟩ : ∃ q, q1 ^^^ q2 = q := ⟨_, rfl⟩
      rw [ed] at hsp hxor hd
      have HSP := Lib.hid hsp
      clear hsp hc1 hc2 e1 e2 ed hs
      by_cases h0 : dd = 0
      · subst h0
        go_wp2_with fail
        refine wp_region_quiet_lit (by kernel_rfl) (by kernel_rfl) ?_
        repeat (first | go_big_quiet_step ((fail)) | quiet_step ((fail)))
        refine wpQuiet_nil ?_
        intro _ hcw1
        obtain ⟨nq, hcw2⟩ := hcw1
        subst hcw2
        go_wp2_with fail
        go_roundw
        case rel => exact ⟨k + 1, o, by omega, by go_num, rfl, rfl, rfl, by simpa using HSP.out, m + nq, rfl⟩
        case measure => simp [intOf]; omega
      · have hd0 : ((dd : Int) == 0) = false := by simp; omega
        have hc1 : ∀ w, Calls Tryd.prog 19 #[.int .u8 (dd : Int)] w (fun e w' => e = .returned (.int .i64 (Lib.trailingZeros8 dd : Int)) ∧ w = w') := fun w =>
          (Tryd.bits_TrailingZeros8 (dd : Int) w (by omega) (by omega)).mono (by rintro e w' ⟨rfl, rfl⟩; exact ⟨by simp, rfl⟩)
        have hc2 : ∀ w, Calls Tryd.prog 20 #[.int .u8 (dd : Int)] w (fun e w' => e = .returned (.int .i64 (Lib.bitLen dd : Int)) ∧ w = w') := fun w =>
          (Tryd.bits_Len8 (dd : Int) w (by omega) (by omega)).mono (by rintro e w' ⟨rfl, rfl⟩; exact ⟨by simp, rfl⟩)
        obtain ⟨s1, s2, s3, -⟩ := byte_span ⟨dd, hd⟩ h0
        simp only at s1 s2 s3
        have hsp2 := HSP.out
        rw [if_neg h0] at hsp2
        obtain ⟨tz, etz⟩ : ∃ x, Lib.trailingZeros8 dd = x := ⟨_, rfl⟩
        obtain ⟨bl, ebl⟩ : ∃ x, Lib.bitLen dd = x := ⟨_, rfl⟩
        rw [etz] at s2 hc1 hsp2
        rw [ebl] at s1 s2 s3 hc2 hsp2
        have HC1 := Lib.hid hc1
        have HC2 := Lib.hid hc2
        have HSP2 := Lib.hid hsp2
        clear hc1 hc2 hsp2 etz ebl h0
        rcases o with _ | ⟨f, g⟩
        · go_wp2_with fail
          refine wp_region_quiet_lit (by kernel_rfl) (by kernel_rfl) ?_
          repeat (first | go_big_quiet_step ((fail)) | quiet_step ((fail)))
          refine wpQuiet_nil ?_
          intro _ hcw1
          obtain ⟨nq, hcw2⟩ := hcw1
          subst hcw2
          go_wp2_with (first | (go_at_call 19; refine (HC1.out _).mono ?_; rintro e w' ⟨rfl, rfl⟩) | (go_at_call 20; refine (HC2.out _).mono ?_; rintro e w' ⟨rfl, rfl⟩))
          go_roundw
          case rel => exact ⟨k + 1, _, by omega, by go_num, by simp [fstV, firstOr], by simp [lstV]; omega, rfl, HSP2.out, m + nq, rfl⟩
          case measure => simp [intOf]; omega
        · go_wp2_with fail
          refine wp_region_quiet_lit (by kernel_rfl) (by kernel_rfl) ?_
          repeat (first | go_big_quiet_step ((fail)) | quiet_step ((fail)))
          refine wpQuiet_nil ?_
          intro _ hcw1
          obtain ⟨nq, hcw2⟩ := hcw1
          subst hcw2
          go_wp2_with (first | (go_at_call 19; refine (HC1.out _).mono ?_; rintro e w' ⟨rfl, rfl⟩) | (go_at_call 20; refine (HC2.out _).mono ?_; rintro e w' ⟨rfl, rfl⟩))
          go_roundw
          case rel => exact ⟨k + 1, _, by omega, by go_num, by simp [fstV, firstOr], by simp [lstV]; omega, rfl, HSP2.out, m + nq, rfl⟩
          case measure => simp [intOf]; omega
    · have hkn : k = n := by omega
      subst hkn
      have HSP := Lib.hid hs
      clear hs
      rcases o with _ | ⟨f, g⟩
      · go_wp2_with fail
        go_ret3
        exact ⟨none, rfl, HSP.out, m, rfl⟩
      · have hfg : f ≤ g := (HSP.out).1
        have hgk : g < 8 * k := (HSP.out).2.1
        have hw1 : wrap64 ((g : Int) - (f : Int)) = (g : Int) - (f : Int) := by rw [← wrapEq]; exact IntWalk.i64_in _ (by omega)
        have hw2 : wrap64 ((g : Int) - (f : Int) + 1) = (g : Int) - (f : Int) + 1 := by rw [← wrapEq]; exact IntWalk.i64_in _ (by omega)
        have HW := Lib.hid (And.intro hw1 hw2)
        clear hw1 hw2
        go_wp2_with fail
        go_ret3
        exact ⟨some (f, g), by have h1 := (HW.out).1; have h2 := (HW.out).2; simp [diffR, fstV, lstV, h1, h2], HSP.out, m, rfl⟩

theorem span_exists (P : Nat → Prop) (m : Nat) : ∃ o, SpanRel P m o := by
  induction m with
  | zero => exact ⟨none, fun k hk => absurd hk (by omega)⟩
  | succ m ih =>
    obtain ⟨o, ho⟩ := ih
    by_cases hp : P m
    · match o, ho with
      | none, ho =>
        refine ⟨some (m, m), Nat.le_refl _, by omega, hp, hp, fun k hk hpk => ?_⟩
        by_cases h : k = m
        · omega
        · exact absurd hpk (ho k (by omega))
      | some (l, h), ⟨a1, a2, a3, a4, a5⟩ =>
        refine ⟨some (l, m), by omega, by omega, a3, hp, fun k hk hpk => ?_⟩
        by_cases h : k = m
        · omega
        · have := a5 k (by omega) hpk
          omega
    · match o, ho with
      | none, ho =>
        refine ⟨none, fun k hk => ?_⟩
        by_cases h : k = m
        · subst h; exact hp
        · exact ho k (by omega)
      | some (l, h), ⟨a1, a2, a3, a4, a5⟩ =>
        refine ⟨some (l, h), a1, by omega, a3, a4, fun k hk hpk => ?_⟩
        by_cases h : k = m
        · subst h; exact absurd hpk hp
        · exact a5 k (by omega) hpk

/-- What Differ tells of any bytes. -/
def diffV (la lb : List Nat) (o : Option (Nat × Nat)) : Value := if la.length = lb.length then diffR o else .tuple #[.int .i64 0, .int .i64 0, .bool false]
theorem differ_any (va vb : Value) (la lb : List Nat) (o : Option (Nat × Nat)) (w : World) (ha : BA w va la) (hb : BA w vb lb) (h1 : la.length ≤ 1000) (ho : SpanRel (DiffAt la lb) (8 * la.length) o) :
    Calls Tryd.prog 13 #[va, vb] w (fun e w' => e = .returned (diffV la lb o) ∧ ∃ m, w' = w.drewN m) := by
  by_cases hlen : la.length = lb.length
  · have key : ∀ (a b : Option Addr) (c d : Nat), (la.length = 0 ∨ ∃ b1 o1 b2 o2, a = some ⟨b1, o1, none⟩ ∧ b = some ⟨b2, o2, none⟩ ∧ bytesAt w b1 o1 la ∧ bytesAt w b2 o2 lb) →
        Calls Tryd.prog 13 #[.slice a la.length c, .slice b lb.length d] w (fun e w' => e = .returned (diffV la lb o) ∧ ∃ m, w' = w.drewN m) := by
      intro a b c d hc
      refine (differ_alike a b la lb c d w hlen.symm h1 ha.1 hb.1 hc).mono ?_
      rintro e w' ⟨o', rfl, hs, hm⟩
      rw [span_one hs ho]
      exact ⟨by rw [diffV, if_pos hlen], hm⟩
    obtain ⟨-, ⟨b1, o1, c1, rfl, -, -, h4⟩ | ⟨rfl, rfl⟩⟩ := ha
    · obtain ⟨-, ⟨b2, o2, c2, rfl, -, -, h5⟩ | ⟨rfl, rfl⟩⟩ := hb
      · exact key _ _ _ _ (.inr ⟨b1, o1, b2, o2, rfl, rfl, h4, h5⟩)
      · exact key _ none _ 0 (.inl hlen)
    · obtain ⟨-, ⟨b2, o2, c2, rfl, -, -, h5⟩ | ⟨rfl, rfl⟩⟩ := hb
      · exact key none _ 0 _ (.inl rfl)
      · exact key none none 0 0 (.inl rfl)
  · have key : ∀ (a b : Option Addr) (c d : Nat), Calls Tryd.prog 13 #[.slice a la.length c, .slice b lb.length d] w (fun e w' => e = .returned (diffV la lb o) ∧ ∃ m, w' = w.drewN m) := by
      intro a b c d
      refine (differ_apart a b _ _ c d w hlen).mono ?_
      rintro e w' ⟨rfl, rfl⟩
      exact ⟨by rw [diffV, if_neg hlen], 0, rfl⟩
    obtain ⟨-, ⟨b1, o1, c1, rfl, -, -, h4⟩ | ⟨rfl, rfl⟩⟩ := ha
    · obtain ⟨-, ⟨b2, o2, c2, rfl, -, -, h5⟩ | ⟨rfl, rfl⟩⟩ := hb
      · exact key _ _ _ _
      · exact key _ none _ 0
    · obtain ⟨-, ⟨b2, o2, c2, rfl, -, -, h5⟩ | ⟨rfl, rfl⟩⟩ := hb
      · exact key none _ 0 _
      · exact key none none 0 0
end Go.Proofs.YtfmpppdcbeadnaaDoor
