/- The walk of a round's Close: the middle of all readings, in whatever order the map tells them. -/
import Derived.Test.YtihfcaconbcdjaaRoundB
namespace Go.Proofs.Ytihfcaconbcdjaa
open Go.RowKit Go.Sort Go.Maps
set_option maxHeartbeats 1000000
set_option maxRecDepth 100000

theorem sortI_eq {l m : List Int} (h : l.Perm m) : sortI l = sortI m := sorted_unique (((sortI_perm l).trans h).trans (sortI_perm m).symm) (sortI_sorted l) (sortI_sorted m)
theorem trimI_eq (f : Int) {l m : List Int} (h : l.Perm m) : trimI f l = trimI f m := by unfold trimI; rw [sortI_eq h, h.length_eq]

/-- The readings' values. -/
abbrev dsOf (es : List (Int × Int)) : List Int := es.map (·.2)

theorem round_close (f : Int) (w : World) {b m : Nat} {no : Int} {es : List (Int × Int)} (h : RoundAt w b m no es) (hs : es.length ≤ 1000) (hr : Rng (dsOf es)) (hf : -9223372036854775808 ≤ f ∧ f ≤ 9223372036854775807) :
    Calls Try.prog 28 #[.pointer (some ⟨b, 0, none⟩), .int .i64 f] w (RetV w (.tuple #[.int .i64 (midI (trimI f (dsOf es))), .bool (decide (0 < es.length))])) := by
  obtain ⟨D, ho, hR⟩ := h.own
  obtain ⟨i0, hi, hz0, hz1, hz2⟩ := info_parts Try.infoI64
  have HM := Lib.hid (fun v l W h hl hr => middle_any f v l W h hl hr hf)
  have c1 := h.c1
  have hml := ho.lt
  have HML := Lib.hid hml
  have HSZ := Lib.hid hR.size
  have HR := Lib.hid hR
  have HRN := Lib.hid hr
  clear h hR hr hf hml
  go_enter Try.func28, Try.ntmps28
  go_wp2_with (first | (at_range; refine wpList_range_own _ rfl _ 72 rfl 3 2 readLaw Try.underlying72 _ m (Maps.size D) D rfl ho ?_; intro w0 hrg0 hg0 hs0))
  go_frame
  go_loopw [6, 8] (fun vl _ wr => ∃ (left : Lit → Bool) (cnt : Nat) (ks : List (Int × Int)), wr.ranges Try.prog 3 (plainElem Try.prog 2) m w.heap.size (Maps.size D) D left cnt ∧ Coll es left ks ∧ ks.length + cnt ≤ es.length ∧ IOwn wr (w.heap.size + 1) vl (dsOf ks) ∧ Below w.heap.size w wr ∧ w.heap.size + 1 ≤ wr.heap.size) (fun _ _ wr => wr.rangeLeft m w.heap.size)
  case atStart => exact ⟨_, _, [], hrg0, Coll.start HR.out, by rw [HSZ.out]; simp, ⟨rfl, .inl ⟨rfl, rfl⟩⟩, ⟨hg0.os, hg0.tape, hg0.output, hg0.size, fun k hk => hg0.block k hk (by simp)⟩, by omega⟩
  case round =>
    obtain ⟨left, cnt, ks, hrg, hC, hcnt, hO, hG, hsz⟩ := hrel
    have HC := Lib.hid hC
    have HO := Lib.hid hO
    have HG := Lib.hid hG
    clear hC hO hG
    go_wp2_with (first | (at_next; refine wpList_next_ranges_ii _ rfl _ rfl 3 2 .i64 .i64 readLaw Try.underlying3 Try.underlying2 m w.heap.size (Maps.size D) _ _ _ rfl hrg ?_ ?_))
    · intro _ hl0
      have hp := HC.out.perm HR.out hl0
      have hpd : (dsOf ks).Perm (dsOf es) := hp.map _
      have hln : (dsOf ks).length = es.length := by rw [hpd.length_eq]; simp
      have hmc := fun v W h => HM.out v (dsOf ks) W h (by omega) (fun x hx => HRN.out x (hpd.mem_iff.1 hx))
      rw [hln, trimI_eq f hpd] at hmc
      obtain ⟨p, c, rfl⟩ := HO.out.has.len hln
      have HI := Lib.hid HO.out.has
      have HMC := Lib.hid hmc
      clear hmc hpd hp hl0
      go_wp2_with fail
      go_at_call 22
      refine (HMC.out _ _ HI.out).mono ?_
      rintro e w1 ⟨rfl, hg1⟩
      have G1 := Lib.hid hg1
      clear hg1
      go_wp2_with fail
      go_ret2
      exact ⟨rfl, grows_trans _ _ _ HG.out G1.out⟩
    · intro x c w1 cnt1 hwx hwc hlx hat hrg1 hlt hg1 hs1 hen
      have hC1 := HC.out.step HR.out hlx hat
      have hG1 : Below w.heap.size w w1 := HG.out.grown hg1 HG.out.size (fun k hk => by cases hk; exact Nat.le_refl _)
      have hO1 : IOwn w1 (w.heap.size + 1) u6 (dsOf ks) := HO.out.kept hg1 (by
        cases hb : u6.ownBlock with
        | none => exact .inl rfl
        | some k => exact .inr fun hc => by have := (HO.out.lt k hb).1; cases hc; omega)
      have hkl0 : (dsOf ks).length = ks.length := List.length_map _
      have hkl : (dsOf ks).length ≤ 1000 := by omega
      have HC1 := Lib.hid hC1
      have HG1 := Lib.hid hG1
      have HO1 := Lib.hid hO1
      have hz1' : w.heap.size + 1 ≤ w1.heap.size := by omega
      clear hC1 hG1 hO1 hs1
      go_wp2_with (at_builtin; refine wpList_append_own _ rfl _ _ 22 rfl (w.heap.size + 1) 2 i0 _ 1 8 Try.underlying22 hi hz0 hz1 hz2 rfl (by decide) _ (dsOf ks).length (iv (dsOf ks)) rfl (HO1.out.alloc _) ⟨w1.heap.size, 0, none⟩ 1 1 [.int .i64 c] rfl rfl ?aq1 ?aq2 ?aq3 ?aq4 ?aq5 ?_)
      first | (case aq1 => exact World.news_of_block (heap_alloc_new w1 (.cells #[.int .i64 c] 2))) | skip
      case aq2 => first | rfl | (intro u hu; simp at hu; subst hu; rfl)
      case aq3 => unfold maxLen; omega
      case aq4 => omega
      case aq5 => have := HG1.out.size; simp; omega
      intro v' w2 hown2 hgrow _
      rw [iv_snoc] at hown2
      have hO2 : IOwn w2 (w.heap.size + 1) v' (dsOf (ks ++ [(x, c)])) := by
        have e1 : dsOf (ks ++ [(x, c)]) = dsOf ks ++ [c] := by simp
        rw [e1]
        unfold IOwn
        rw [List.length_append, hkl0]
        exact hown2
      have hG2 : Grows w w2 := grows_of_grownBy (bl_alloc HG1.out _) hgrow (fun kk hkk => Nat.le_trans (Nat.le_succ _) (HO1.out.lt kk hkk).1)
      have hrg2 := (hrg1.alloc (.cells #[.int .i64 c] 2)).kept hgrow (fun hc => by have := (HO1.out.lt _ hc.symm).1; have := HML.out; omega) (fun hc => by have := (HO1.out.lt _ hc.symm).1; omega)
      have hz2 : w.heap.size + 1 ≤ w2.heap.size := Nat.le_trans (by simp; omega) hgrow.size
      have hm1 : w2.rangeLeft m w.heap.size < wr.rangeLeft m w.heap.size := by rw [hrg2.left_eq, hrg.left_eq]; exact hlt
      have hcnt1 : (ks ++ [(x, c)]).length + cnt1 ≤ es.length := by rw [List.length_append]; simp; omega
      go_wp2_with fail
      go_roundw
      case rel => exact ⟨_, _, _, hrg2, HC1.out, hcnt1, hO2, hG2, hz2⟩
      case measure => exact hm1
end Go.Proofs.Ytihfcaconbcdjaa
