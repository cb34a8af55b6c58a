/- In which bits bytes differ: the document's walk. -/
import Derived.Test.YtfmpppdcbeadnaaDoorBurstD
namespace Go.Proofs.YtfmpppdcbeadnaaDoor
open Go.RowKit Go.Sort

/-- A bit of bytes, as a number. -/
def bitV (l : List Nat) (i : Nat) : Nat := l.getD (i / 8) 0 / 2 ^ (i % 8) % 2
theorem diffAt_iff (a b : List Nat) (i : Nat) : DiffAt a b i ↔ bitV a i ≠ bitV b i := by
  unfold DiffAt bitV
  rw [Nat.testBit_xor, Nat.testBit_eq_decide_div_mod_eq, Nat.testBit_eq_decide_div_mod_eq]
  generalize a.getD (i / 8) 0 / 2 ^ (i % 8) = x
  generalize b.getD (i / 8) 0 / 2 ^ (i % 8) = y
  simp
  omega
theorem bitV_le (l : List Nat) (i : Nat) : bitV l i ≤ 1 := by unfold bitV; omega

set_option maxHeartbeats 1000000 in
theorem bit_some (b o cap n : Nat) (l : List Nat) (i : Nat) (w : World) (hl : okB l) (hc : bytesAt w b o l) (hn : l.length = n) (h1 : n ≤ 1000) (hi : i < 8 * n) :
    Calls Tryd.prog 21 #[.slice (some ⟨b, o, none⟩) n cap, .int .i64 (i : Int)] w (fun e w' => e = .returned (.int .u8 (bitV l i : Int)) ∧ w = w') := by
  have hj1 : i / 8 < l.length := by omega
  have c1 := hc (i / 8) hj1
  have hq256 : l[i / 8] < 256 := hl _ (List.getElem_mem hj1)
  have hv : bitV l i = l[i / 8] / 2 ^ (i % 8) % 2 := by unfold bitV; simp [List.getD_eq_getElem?_getD, hj1]
  obtain ⟨q, eq⟩ : ∃ q, l[i / 8] = q := ⟨_, rfl⟩
  rw [eq] at c1 hv hq256
  have hj : (i : Int) / 8 = ((i / 8 : Nat) : Int) := by omega
  have ht : (i : Int) % 8 = ((i % 8 : Nat) : Int) := by omega
  obtain ⟨j, ej⟩ : ∃ j, i / 8 = j := ⟨_, rfl⟩
  obtain ⟨t, et⟩ : ∃ t, i % 8 = t := ⟨_, rfl⟩
  have ht8 : t < 8 := by omega
  have hjn : j < n := by omega
  rw [ej] at c1 hj
  rw [et] at hv ht
  have hz : ((q : Int) / 2 ^ t).tmod 2 = (bitV l i : Int) := by
    have e : (q : Int) / 2 ^ t = ((q / 2 ^ t : Nat) : Int) := by simp
    rw [e, hv]
    generalize q / 2 ^ t = d
    rw [Int.tmod_eq_emod_of_nonneg (by omega)]
    omega
  obtain ⟨v, ev⟩ : ∃ v, bitV l i = v := ⟨_, rfl⟩
  rw [ev] at hz ⊢
  clear hc hv ev ej et eq hj1 hn
  go_enter Tryd.func21, Tryd.ntmps21
  go_wp2
  go_ret
  exact ⟨rfl, rfl⟩

/-- The first and the last one of a list. -/
def spanOf (ds : List Nat) : Option (Nat × Nat) := match ds with | [] => none | a :: r => some (a, (a :: r).getLastD 0)
theorem spanOf_snoc (ds : List Nat) (k : Nat) : spanOf (ds ++ [k]) = some (firstOr (spanOf ds) k, k) := by
  cases ds with
  | nil => rfl
  | cons a r =>
    have h : (a :: (r ++ [k])).getLastD 0 = k := by
      rw [← List.cons_append, List.getLastD_eq_getLast?, List.getLast?_concat]
      rfl
    show some (a, (a :: (r ++ [k])).getLastD 0) = _
    rw [h]
    rfl
theorem span_off {P : Nat → Prop} {k : Nat} {o : Option (Nat × Nat)} (h : SpanRel P k o) (hp : ¬ P k) : SpanRel P (k + 1) o := by
  match o, h with
  | none, h =>
    intro m hm
    by_cases e : m = k
    · subst e; exact hp
    · exact h m (by omega)
  | some (l, u), ⟨a1, a2, a3, a4, a5⟩ =>
    refine ⟨a1, by omega, a3, a4, fun m hm hpm => ?_⟩
    by_cases e : m = k
    · subst e; exact absurd hpm hp
    · exact a5 m (by omega) hpm
theorem span_on {P : Nat → Prop} {k : Nat} {o : Option (Nat × Nat)} (h : SpanRel P k o) (hp : P k) : SpanRel P (k + 1) (some (firstOr o k, k)) := by
  match o, h with
  | none, h =>
    refine ⟨Nat.le_refl _, by omega, hp, hp, fun m hm hpm => ?_⟩
    by_cases e : m = k
    · subst e; exact ⟨Nat.le_refl _, Nat.le_refl _⟩
    · exact absurd hpm (h m (by omega))
  | some (l, u), ⟨a1, a2, a3, a4, a5⟩ =>
    refine ⟨by show l ≤ k; omega, by omega, a3, hp, fun m hm hpm => ?_⟩
    show l ≤ m ∧ m ≤ k
    by_cases e : m = k
    · omega
    · have := a5 m (by omega) hpm
      omega

theorem Tryd.infoInt : (Tryd.prog.info? 3).map (fun i => (i.zero, i.size, i.bytes)) = some (some (.int .i64 0), 1, 8) := by kernel_rfl
def iv (l : List Nat) : List Value := l.map fun (x : Nat) => Value.int .i64 (x : Int)
theorem iv_snoc (l : List Nat) (k : Nat) : iv l ++ [.int .i64 (k : Int)] = iv (l ++ [k]) := by simp [iv]

set_option maxHeartbeats 1000000 in
theorem rdiffer_alike (a b : Option Addr) (la lb : List Nat) (c d : Nat) (w : World) (hlen : lb.length = la.length) (h1 : la.length ≤ 1000) (ha : okB la) (hb : okB lb)
    (hc : la.length = 0 ∨ ∃ b1 o1 b2 o2, a = some ⟨b1, o1, none⟩ ∧ b = some ⟨b2, o2, none⟩ ∧ b1 < w.heap.size ∧ b2 < w.heap.size ∧ bytesAt w b1 o1 la ∧ bytesAt w b2 o2 lb) :
    Calls Tryd.prog 15 #[.slice a la.length c, .slice b lb.length d] w (fun e w' => ∃ v ds, e = .returned v ∧ SpanRel (DiffAt la lb) (8 * la.length) (spanOf ds) ∧ ds.length ≤ 8 * la.length ∧ Grows w w' ∧ w'.ownsRow w.heap.size 3 1 v ds.length (iv ds)) := by
  obtain ⟨i0, hi, hz0, hz1, hz2⟩ := info_parts Tryd.infoInt
  rw [hlen]
  have HC := Lib.hid hc
  clear hc
  obtain ⟨n, hn⟩ : ∃ n, la.length = n := ⟨_, rfl⟩
  rw [hn] at h1 hlen ⊢
  have HLA := Lib.hid hn
  have HLB := Lib.hid hlen
  clear hlen
  go_enter Tryd.func15, Tryd.ntmps15
  go_wp2_with fail
  go_loopw [5, 6] (fun v i wr => ∃ (k : Nat) (ds : List Nat), i = .int .i64 (k : Int) ∧ k ≤ 8 * n ∧ ds.length ≤ k ∧ SpanRel (DiffAt la lb) k (spanOf ds) ∧ Grows w wr ∧ wr.ownsRow w.heap.size 3 1 v ds.length (iv ds)) (fun _ i _ => 8 * n - (intOf i).toNat)
  case atStart => exact ⟨0, [], rfl, Nat.zero_le _, Nat.le_refl _, fun k hk => absurd hk (by omega), bl_alloc (Below.refl _ _) _, World.ownsRow_lit w #[] 0 (Nat.le_refl _) (by decide) rfl⟩
  case round =>
    obtain ⟨k, ds, rfl, hk, hds, hs, hgr, hown⟩ := hrel
    have HS := Lib.hid hs
    have HG := Lib.hid hgr
    have HO := Lib.hid hown
    clear hs hgr hown
    by_cases hlt : k < 8 * n
    · obtain ⟨b1, o1, b2, o2, rfl, rfl, hb1, hb2, hc1, hc2⟩ := (HC.out).resolve_left (by rw [HLA.out]; omega)
      have g1 : bytesAt wr b1 o1 la := fun i hi => (HG.out.cell (p := ⟨b1, o1 + i, none⟩) hb1).trans (hc1 i hi)
      have g2 : bytesAt wr b2 o2 lb := fun i hi => (HG.out.cell (p := ⟨b2, o2 + i, none⟩) hb2).trans (hc2 i hi)
      have k1 := fun cap => bit_some b1 o1 cap n la k wr ha g1 HLA.out h1 hlt
      have k2 := fun cap => bit_some b2 o2 cap n lb k wr hb g2 HLB.out h1 hlt
      have hd := diffAt_iff la lb k
      have hq1 := bitV_le la k
      have hq2 := bitV_le lb k
      obtain ⟨q1, e1⟩ : ∃ q, bitV la k = q := ⟨_, rfl⟩
      obtain ⟨q2, e2⟩ : ∃ q, bitV lb k = q := ⟨_, rfl⟩
      rw [e1] at k1 hd hq1
      rw [e2] at k2 hd hq2
      have K1 := Lib.hid k1
      have K2 := Lib.hid k2
      have HD := Lib.hid hd
      clear k1 k2 hd e1 e2 hc1 hc2 g1 g2
      by_cases hqq : q1 = q2
      · have hne : ((q1 : Int) != (q2 : Int)) = false := by simp; omega
        have hs2 := span_off HS.out (fun h => (HD.out.1 h) hqq)
        have HS2 := Lib.hid hs2
        clear hs2 hqq
        go_wp2_with (first | ((with_reducible refine (K1.out _).mono ?_); rintro e w' ⟨rfl, rfl⟩) | ((with_reducible refine (K2.out _).mono ?_); rintro e w' ⟨rfl, rfl⟩))
        go_roundw
        case rel => exact ⟨k + 1, ds, by go_num, by omega, by omega, HS2.out, HG.out, HO.out⟩
        case measure => simp [intOf]; omega
      · have hne : ((q1 : Int) != (q2 : Int)) = true := by simp; omega
        have hs2 := span_on HS.out (HD.out.2 hqq)
        rw [← spanOf_snoc] at hs2
        have HS2 := Lib.hid hs2
        clear hs2 hqq
        go_wp2_with (first | ((with_reducible refine (K1.out _).mono ?_); rintro e w' ⟨rfl, rfl⟩) | ((with_reducible refine (K2.out _).mono ?_); rintro e w' ⟨rfl, rfl⟩) | (at_builtin; refine wpList_append_own _ rfl _ _ 33 rfl w.heap.size 3 i0 (.int .i64 0) 1 8 Tryd.underlying33 hi hz0 hz1 hz2 rfl (by decide) _ ds.length (iv ds) rfl (HO.out.alloc _) ⟨wr.heap.size, 0, none⟩ 1 1 [.int .i64 (k : Int)] rfl rfl ?c1 ?c2 ?c3 ?c4 ?c5 ?_))
        case c1 =>
          intro j u hu
          obtain ⟨rfl, rfl⟩ : j = 0 ∧ u = .int .i64 (k : Int) := by
            rcases j with _ | j
            · simpa using hu.symm
            · simp at hu
          simp [go_sem, Addr.add]
        case c2 => intro u hu; simp at hu; subst hu; rfl
        case c3 => unfold maxLen; omega
        case c4 => omega
        case c5 => have := HG.out.size; simp; omega
        intro v' w1 hown2 hgrow _
        rw [iv_snoc] at hown2
        have hg2 : Grows w w1 := grows_of_grownBy (bl_alloc HG.out _) hgrow (fun kk hkk => (HO.out.lt kk hkk).1)
        have HO2 := Lib.hid hown2
        have HG2 := Lib.hid hg2
        clear hown2 hgrow hg2
        go_wp2_with fail
        go_roundw
        case rel => exact ⟨k + 1, ds ++ [k], by go_num, by omega, by simp; omega, HS2.out, HG2.out, by simpa using HO2.out⟩
        case measure => simp [intOf]; omega
    · have hkn : k = 8 * n := by omega
      subst hkn
      go_wp2_with fail
      go_ret
      exact ⟨_, ds, rfl, HS.out, hds, HG.out, HO.out⟩
end Go.Proofs.YtfmpppdcbeadnaaDoor
