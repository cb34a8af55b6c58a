/- Two lists of numbers that are alike: the law's Same. -/
import Derived.Test.YtgjieoljfcfacaaDoorRelG
import Derived.Test.YtgjieoljfcfacaaDoorRelO
import Derived.Test.YtgjieoljfcfacaaDoorSetsTW
/- The document's relay: Onward; two lists of numbers compared. -/
namespace Go.Proofs.YtgjieoljfcfacaaDoor
open Go.RowKit Go.Sort
set_option maxHeartbeats 4000000
set_option maxRecDepth 100000
theorem on_cases (B : BV) (x : PW) : (onB B x = false ∧ floodB x.kd = false) ∨ (onB B x = false ∧ floodB x.kd = true ∧ x.hp < 1) ∨ (onB B x = false ∧ floodB x.kd = true ∧ ¬ x.hp < 1 ∧ x.hp ≥ B.b0) ∨ (onB B x = false ∧ floodB x.kd = true ∧ ¬ x.hp < 1 ∧ ¬ x.hp ≥ B.b0 ∧ 62 < x.hp) ∨ (onB B x = true ∧ floodB x.kd = true ∧ ¬ x.hp < 1 ∧ ¬ x.hp ≥ B.b0 ∧ ¬ 62 < x.hp) := by
  unfold onB nextB hopsB
  cases hf : floodB x.kd with
  | false => exact .inl ⟨by simp, rfl⟩
  | true =>
    by_cases h1 : x.hp < 1
    · exact .inr (.inl ⟨by simp; omega, rfl, h1⟩)
    · by_cases h2 : x.hp ≥ B.b0
      · exact .inr (.inr (.inl ⟨by simp; omega, rfl, h1, h2⟩))
      · by_cases h3 : 62 < x.hp
        · exact .inr (.inr (.inr (.inl ⟨by simp; omega, rfl, h1, h2, h3⟩)))
        · exact .inr (.inr (.inr (.inr ⟨by simp; omega, rfl, h1, h2, h3⟩)))
theorem has_lone (W : World) (f : Int) : IHas (W.alloc (.cells #[.int .i64 f] 3)) (.slice (some ⟨W.heap.size, 0, none⟩) 1 1) [f] :=
  .inr ⟨W.heap.size, 0, 1, rfl, by simp, fun i hi => by
    have h0 : i = 0 := by simp at hi; omega
    subst h0
    exact (cell_in (heap_alloc_new W (.cells #[.int .i64 f] 3)) 0 rfl).1⟩
/-- What the document's Onward gives. -/
def DOn (w : World) (l : List Int) (e : Ending) (w' : World) : Prop := ∃ v, e = .returned v ∧ Grows w w' ∧ IOwn w' w.heap.size v l
theorem donward_any {w : World} {v : Value} {M : Nat} {me n : Int} {B : BV} (s : Nat) (f : Int) (x : PW) (hs : s < 18446744073709551616) (hv : ∃ a ln cap, v = .slice a ln cap) :
    Calls Tryd.prog 33 #[rdv me n B v M, .int .u64 (s : Int), .int .i64 f, x.val] w (DOn w (onL B x s f)) := by
  obtain ⟨a, ln, cap, rfl⟩ := hv
  obtain ⟨b, ep⟩ : ∃ b, w.heap.size = b := ⟨_, rfl⟩
  have hq2 := two_new w (.cells (rdc me n B (.slice a ln cap) M) TRR) (.cells x.cells TPK)
  obtain ⟨W, eW⟩ : ∃ W, (w.alloc (.cells (rdc me n B (.slice a ln cap) M) TRR)).alloc (.cells x.cells TPK) = W := ⟨_, rfl⟩
  have hg : Grows w W := by rw [← eW]; exact bl_alloc (bl_alloc (Below.refl _ _) _) _
  rw [eW, ep] at hq2
  have HFL := Lib.hid (fun W => rflood_any x.kd W)
  have HOC := Lib.hid (on_cases B x)
  have HG := Lib.hid hg
  have HQ := Lib.hid hq2
  have HS := Lib.hid hs
  have HWO := Lib.hid (fun (v : Value) W (h : IHas W v [f]) => rwithout_any s v [f] W hs h (by simp))
  have HLI := Lib.hid (fun W => rlist_any (offN s f) (offN_lt hs f) W)
  have HOF := Lib.hid (offN_doc s f hs)
  obtain ⟨d0, d1, d2, d3, d4, d5, d6, d7, d8, d9, d10, d11, d12, d13, d14, d15, d16, d17, zd⟩ := dat_of hq2.1
  obtain ⟨x0, x1, x2, x3, x4, x5, x6, x7, x8, x9, x10, x11, x12⟩ := pat_of hq2.2
  have hon1 : onB B x = false → onL B x s f = [] := fun h => by unfold onL; rw [h]; rfl
  have hon2 : onB B x = true → onL B x s f = listN (offN s f) := fun h => by unfold onL; rw [h]; rfl
  obtain ⟨oL, eoL⟩ : ∃ oL, onL B x s f = oL := ⟨_, rfl⟩
  obtain ⟨on, eon⟩ : ∃ on, offN s f = on := ⟨_, rfl⟩
  rw [eoL] at hon1 hon2 ⊢
  rw [eon] at hon2 HLI HOF
  have HO := Lib.hid (And.intro hon1 hon2)
  clear hq2 hg hs hon1 hon2 eoL eon
  simp only [rdv, rdc, PW.val, PW.cells, PW.body] at eW ⊢
  go_enter Tryd.func33, Tryd.ntmps33
  go_wp2_with fail
  refine (HFL.out _).mono ?_
  rintro e w1 ⟨rfl, rfl⟩
  rcases HOC.out with ⟨ho, hf⟩ | ⟨ho, hf, k1⟩ | ⟨ho, hf, k1, k2⟩ | ⟨ho, hf, k1, k2, k3⟩ | ⟨ho, hf, k1, k2, k3⟩
  all_goals rw [hf]
  · have HL := Lib.hid (HO.out.1 ho)
    go_wp2_with fail
    go_ret
    exact ⟨_, rfl, HG.out, by rw [HL.out]; exact World.ownsRow_nil _ _ _ _⟩
  · have HL := Lib.hid (HO.out.1 ho)
    have q1 : decide (x.hp < 1) = true := decide_eq_true (by omega)
    go_wp2_with fail
    go_ret
    exact ⟨_, rfl, HG.out, by rw [HL.out]; exact World.ownsRow_nil _ _ _ _⟩
  · have HL := Lib.hid (HO.out.1 ho)
    have q1 : decide (x.hp < 1) = false := decide_eq_false (by omega)
    have q2 : decide (B.b0 ≤ x.hp) = true := decide_eq_true (by omega)
    clear k1 k2
    go_wp2_with fail
    go_ret
    exact ⟨_, rfl, HG.out, by rw [HL.out]; exact World.ownsRow_nil _ _ _ _⟩
  · have HL := Lib.hid (HO.out.1 ho)
    have q1 : decide (x.hp < 1) = false := decide_eq_false (by omega)
    have q2 : decide (B.b0 ≤ x.hp) = false := decide_eq_false (by omega)
    have q3 : decide (62 < x.hp) = true := decide_eq_true (by omega)
    clear k1 k2 k3
    go_wp2_with fail
    go_ret
    exact ⟨_, rfl, HG.out, by rw [HL.out]; exact World.ownsRow_nil _ _ _ _⟩
  · have HL := Lib.hid (HO.out.2 ho)
    have q1 : decide (x.hp < 1) = false := decide_eq_false (by omega)
    have q2 : decide (B.b0 ≤ x.hp) = false := decide_eq_false (by omega)
    have q3 : decide (62 < x.hp) = false := decide_eq_false (by omega)
    clear k1 k2 k3
    go_wp2_with fail
    refine (HWO.out _ _ (has_lone W f)).mono ?_
    rintro e w2 ⟨rfl, hg2⟩
    have G2 := Lib.hid (grows_trans _ _ _ HG.out (grows_trans _ _ _ (bl_alloc (Below.refl _ _) _) hg2))
    rw [← HOF.out]
    have hszW := HG.out.size
    have hszw2 : w.heap.size ≤ w2.heap.size := G2.out.size
    clear hg2
    go_wp2_with fail
    refine (HLI.out _).mono ?_
    rintro e w3 ⟨v3, rfl, hg3, ho3⟩
    have G3 := Lib.hid (grows_trans _ _ _ G2.out hg3)
    have O3 := Lib.hid (row_base ho3 hszw2)
    clear hg3 ho3
    go_wp2_with fail
    go_ret
    exact ⟨_, rfl, G3.out, by rw [HL.out]; exact O3.out⟩
end Go.Proofs.YtgjieoljfcfacaaDoor
namespace Go.Proofs.YtgjieoljfcfacaaDoor
open Go.RowKit Go.Sort
set_option maxHeartbeats 4000000
set_option maxRecDepth 100000
theorem ihas_of {w : World} {base : Nat} {v : Value} {l : List Int} (h : GOwn ic 1 3 w base v l) : IHas w v l := by
  apply IOwn.has (base := base)
  have h' : w.ownsRow base 3 1 v l.length (l.flatMap ic) := h
  rw [flat_iv] at h'
  exact h'
theorem IHas.form {w : World} {v : Value} {l : List Int} {n : Nat} (h : IHas w v l) (hn : l.length = n) (h0 : 0 < n) : ∃ g o cap, v = .slice (some ⟨g, o, none⟩) n cap ∧ g < w.heap.size := by
  rcases h with ⟨rfl, _⟩ | ⟨g, o, cap, rfl, hg, _⟩
  · simp at hn; omega
  · exact ⟨g, o, cap, by rw [hn], hg⟩
theorem isame_any (va vb : Value) (a : List Int) (w : World) (ha : IHas w va a) (hb : IHas w vb a) (hm : a.length ≤ 1000) :
    Calls Tryd.prog 35 #[va, vb] w (RetV w (.bool true)) := by
  obtain ⟨n, en⟩ : ∃ n, a.length = n := ⟨_, rfl⟩
  by_cases h0 : n = 0
  · obtain rfl : a = [] := List.eq_nil_of_length_eq_zero (by omega)
    obtain ⟨p, cp, rfl⟩ : ∃ p cp, va = .slice p 0 cp := by
      rcases ha with ⟨_, h⟩ | ⟨g, o, cap, rfl, _⟩
      · exact h
      · exact ⟨_, _, rfl⟩
    obtain ⟨q, cq, rfl⟩ : ∃ p cp, vb = .slice p 0 cp := by
      rcases hb with ⟨_, h⟩ | ⟨g, o, cap, rfl, _⟩
      · exact h
      · exact ⟨_, _, rfl⟩
    clear ha hb
    go_enter Tryd.func35, Tryd.ntmps35
    go_wp2_with fail
    go_loop [13] (fun k => k = .int .i64 0) (fun _ => 0)
    case atStart => rfl
    case round =>
      subst hrel
      go_wp2_with fail
      go_ret
      exact ⟨rfl, Below.refl _ _⟩
  · obtain ⟨g, o, cap, rfl, hgw⟩ := ha.form en (by omega)
    obtain ⟨g', o', cap', rfl, hgw'⟩ := hb.form en (by omega)
    have HA := Lib.hid ha
    have HB := Lib.hid hb
    have EA := Lib.hid en
    rw [en] at hm
    clear ha hb en
    go_enter Tryd.func35, Tryd.ntmps35
    go_wp2_with fail
    go_loopw [13] (fun vi wr => ∃ k : Nat, vi = .int .i64 (k : Int) ∧ k ≤ n ∧ Grows w wr) (fun vi _ => n - (intOf vi).toNat)
    case atStart => exact ⟨0, rfl, by omega, Below.refl _ _⟩
    case round =>
      obtain ⟨k, rfl, hk, hgr⟩ := hrel
      have HG := Lib.hid hgr
      clear hgr
      by_cases hlt : k < n
      · have hka : k < a.length := by rw [EA.out]; exact hlt
        have hca : wr.cell? ⟨g, o + k, none⟩ = some (.int .i64 a[k]) ∧ g < wr.heap.size := by
          rcases HA.out with ⟨rfl, _⟩ | ⟨g', o', cap', he, hg, hc⟩
          · simp at hka
          · simp only [Value.slice.injEq, Option.some.injEq, Addr.mk.injEq] at he
            obtain ⟨⟨rfl, rfl, _⟩, _, rfl⟩ := he
            exact ⟨(HG.out.cell (p := ⟨g, o + k, none⟩) hg).trans (hc k hka), Nat.lt_of_lt_of_le hg HG.out.size⟩
        have hcb : wr.cell? ⟨g', o' + k, none⟩ = some (.int .i64 a[k]) ∧ g' < wr.heap.size := by
          rcases HB.out with ⟨rfl, _⟩ | ⟨g', o', cap', he, hg, hc⟩
          · simp at hka
          · simp only [Value.slice.injEq, Option.some.injEq, Addr.mk.injEq] at he
            obtain ⟨⟨rfl, rfl, _⟩, _, rfl⟩ := he
            exact ⟨(HG.out.cell (p := ⟨g', o' + k, none⟩) hg).trans (hc k hka), Nat.lt_of_lt_of_le hg HG.out.size⟩
        obtain ⟨hca, hga⟩ := hca
        obtain ⟨hcb, hgb⟩ := hcb
        obtain ⟨x, ex⟩ : ∃ x, a[k] = x := ⟨_, rfl⟩
        rw [ex] at hca hcb
        clear ex
        go_wp2_with fail
        refine wp_region_quiet_lit (by kernel_rfl) (by kernel_rfl) ?_
        repeat (first | go_big_quiet_step (fail) | quiet_step (fail))
        refine wpQuiet_nil ?_
        intro _ hcw1
        obtain ⟨nq, hcw2⟩ := hcw1
        subst hcw2
        go_wp2_with fail
        go_roundw
        case rel => exact ⟨k + 1, by go_num, by omega, grows_trans _ _ _ HG.out (bl_drewN (Below.refl _ _) _)⟩
        case measure => simp [intOf]; omega
      · obtain rfl : k = n := by omega
        go_wp2_with fail
        go_ret
        exact ⟨rfl, HG.out⟩
end Go.Proofs.YtgjieoljfcfacaaDoor
