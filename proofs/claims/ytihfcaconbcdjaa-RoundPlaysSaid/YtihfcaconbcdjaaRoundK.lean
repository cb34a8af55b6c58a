/- The document's Close. -/
import Derived.Test.YtihfcaconbcdjaaRoundJ
import Derived.Test.YtihfcaconbcdjaaRoundD
namespace Go.Proofs.Ytihfcaconbcdjaa
open Go.RowKit Go.Sort
set_option maxHeartbeats 1000000
set_option maxRecDepth 100000

theorem rclose_any (v : Value) (es : List (Int × Int)) (f : Int) (w : World) (h : RHas w v es) (hm : es.length ≤ 1000) (hr : Rng (dsOf es)) (hf : -9223372036854775808 ≤ f ∧ f ≤ 9223372036854775807) :
    Calls Try.prog 32 #[v, .int .i64 f] w (RetV w (.tuple #[.int .i64 (midI (trimI f (dsOf es))), .bool (decide (0 < es.length))])) := by
  obtain ⟨i0, hi, hz0, hz1, hz2⟩ := info_parts Try.infoI64
  have hmc := fun v W h => rmiddle_any f v (dsOf es) W h (by simpa using hm) hr hf
  rw [show (dsOf es).length = es.length by simp] at hmc
  obtain ⟨n, en⟩ : ∃ n, es.length = n := ⟨_, rfl⟩
  obtain ⟨a, cap, rfl⟩ := h.len en
  rw [en] at hm hmc ⊢
  obtain ⟨M, eM⟩ : ∃ M, midI (trimI f (dsOf es)) = M := ⟨_, rfl⟩
  rw [eM] at hmc ⊢
  have HM := Lib.hid hmc
  have HH := Lib.hid h
  have EN := Lib.hid en
  clear hmc h hr hf eM en
  go_enter Try.func32, Try.ntmps32
  go_wp2_with fail
  go_loopw [6, 7] (fun vl vi wr => ∃ k : Nat, vi = .int .i64 (k : Int) ∧ k ≤ n ∧ Grows w wr ∧ IOwn wr w.heap.size vl ((dsOf es).take k)) (fun _ vi _ => n - (intOf vi).toNat)
  case atStart => exact ⟨0, rfl, by omega, bl_alloc (Below.refl _ _) _, iown_empty w _ rfl⟩
  case round =>
    obtain ⟨k, rfl, hk, hgr, hown⟩ := hrel
    have HG := Lib.hid hgr
    have HO := Lib.hid hown
    clear hgr hown
    by_cases hlt : k < n
    · obtain ⟨g, o, c', he1, hcap, hgw0, hat⟩ := HH.out.form EN.out (by omega)
      simp only [Value.slice.injEq, true_and] at he1
      obtain ⟨rfl, rfl⟩ := he1
      have hkl : k < es.length := by rw [EN.out]; exact hlt
      obtain ⟨-, c2⟩ := rat_cells hat k hkl
      have c3 := (HG.out.cell (p := ⟨g, o + k * 2 + 1, none⟩) hgw0).trans c2
      have hgw : g < wr.heap.size := Nat.lt_of_lt_of_le hgw0 HG.out.size
      have hst : (dsOf es).take (k + 1) = (dsOf es).take k ++ [es[k].2] := by rw [List.take_succ_eq_append_getElem (by simpa using hkl)]; simp
      have hln : ((dsOf es).take k).length = k := by simp; omega
      obtain ⟨y, ey⟩ : ∃ y, es[k].2 = y := ⟨_, rfl⟩
      rw [ey] at c3 hst
      have HST := Lib.hid hst
      have HLN := Lib.hid hln
      have hka : ((dsOf es).take k).length ≤ 1000 := by omega
      clear hst c2 ey hat hln
      go_wp2_with (at_builtin; refine wpList_append_own _ rfl _ _ 22 rfl w.heap.size 2 i0 _ 1 8 Try.underlying22 hi hz0 hz1 hz2 rfl (by decide) _ ((dsOf es).take k).length (iv ((dsOf es).take k)) rfl (HO.out.alloc _) ⟨wr.heap.size, 0, none⟩ 1 1 [.int .i64 y] rfl rfl ?aq1 ?aq2 ?aq3 ?aq4 ?aq5 ?_)
      first | (case aq1 => exact World.news_of_block (heap_alloc_new wr (.cells #[.int .i64 y] 2))) | skip
      case aq2 => first | rfl | (intro u hu; simp at hu; subst hu; rfl)
      case aq3 => unfold maxLen; omega
      case aq4 => omega
      case aq5 => have := HG.out.size; simp; omega
      intro v' w2 hown2 hgrow _
      rw [iv_snoc] at hown2
      have hg2 : Grows w w2 := grows_of_grownBy (bl_alloc HG.out _) hgrow (fun kk hkk => (HO.out.lt kk hkk).1)
      have HO2 := Lib.hid hown2
      have HG2 := Lib.hid hg2
      clear hown2 hgrow hg2
      go_wp2_with fail
      go_roundw
      case rel =>
        refine ⟨k + 1, rfl, hlt, HG2.out, ?_⟩
        rw [HST.out]
        have := HO2.out
        show World.ownsRow _ _ _ _ _ _ _
        rw [show ((dsOf es).take k ++ [y]).length = min k es.length + 1 by simp]
        exact this
      case measure => simp only [intOf]; omega
    · obtain rfl : k = n := by omega
      have hall : (dsOf es).take k = dsOf es := List.take_of_length_le (by simp; rw [EN.out]; exact Nat.le_refl _)
      have ho2 := HO.out
      rw [hall] at ho2
      have hi2 : IHas wr u6 (dsOf es) := ho2.has
      have HMC := Lib.hid (HM.out _ _ hi2)
      clear ho2 hall hi2
      go_wp2_with fail
      go_at_call 23
      refine (HMC.out).mono ?_
      rintro e w1 ⟨rfl, hg1⟩
      have G1 := Lib.hid hg1
      clear hg1
      go_wp2_with fail
      go_ret2
      exact ⟨rfl, grows_trans _ _ _ HG.out G1.out⟩
end Go.Proofs.Ytihfcaconbcdjaa
