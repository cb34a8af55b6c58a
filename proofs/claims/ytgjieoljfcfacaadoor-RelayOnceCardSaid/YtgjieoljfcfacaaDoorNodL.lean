/- The nodes of a set, rising: the program's List, by the lowest bit again and again. -/
import Derived.Test.YtgjieoljfcfacaaDoorLowB
import Derived.Test.YtgjieoljfcfacaaDoorMisc
import Derived.Test.YtgjieoljfcfacaaDoorGRow
import Derived.Test.YtgjieoljfcfacaaDoorRange3
import Derived.Shelf.Spec.TrailingZeros
namespace Go.Proofs.YtgjieoljfcfacaaDoor
open Go.RowKit Go.Sort
set_option maxHeartbeats 2000000
set_option maxRecDepth 100000
/-- The library's table lies as its text lays it. -/
abbrev Laid (w : World) : Prop := TabAt 0 Lib.deBruijn64tab w
theorem Laid.at0 {w : World} (h : Laid w) : ∀ i, i < 64 → w.cell? ⟨0, i, none⟩ = some (.int .u8 (Lib.deBruijn64tab.getD i 0)) := fun i hi => h i (by simpa [Lib.deBruijn64tab] using hi)
theorem Laid.lt {w : World} (h : Laid w) : 0 < w.heap.size := block_lt_of_cell (a := ⟨0, 0, none⟩) (h.at0 0 (by decide))
theorem Laid.grows {w w' : World} (h : Laid w) (hg : Grows w w') : Laid w' := fun j hj => (hg.cell (p := ⟨0, j, none⟩) h.lt).trans (h j hj)
theorem Laid.chg {S : Nat → Prop} {w w' : World} (h : Laid w) (hc : Chg S w w') (hS : ¬ S 0) : Laid w' := fun j hj => hc.cellAt (p := ⟨0, j, none⟩) (h j hj) hS
theorem Laid.rec {n : Nat} {w w' : World} (h : Laid w) (hr : Rec n w w') : Laid w' := fun j hj => hr.cell1 (h j hj)
theorem tz64_any (x : Nat) (hx : x < 18446744073709551616) (w : World) (hT : Laid w) :
    Calls Tryd.prog 90 #[.int .u64 (x : Int)] w (fun e w' => e = .returned (.int .i64 (Lib.ctz 64 x : Int)) ∧ w = w') := by
  by_cases h0 : x = 0
  · subst h0
    go_enter Tryd.func90, Tryd.ntmps90
    go_wp2
    go_ret
    exact ⟨rfl, rfl⟩
  · obtain ⟨hlow, hk⟩ := Lib.lowest_bit 64 x h0 (by simpa using hx)
    obtain ⟨hi, htab⟩ := Lib.deBruijn64_at _ hk
    have hcell := hT _ hi
    rw [htab] at hcell
    have key := tz64_key x _ hx h0 hlow
    obtain ⟨k, ek⟩ : ∃ k, Lib.ctz 64 x = k := ⟨_, rfl⟩
    rw [ek] at hk hi hcell key ⊢
    obtain ⟨q, eq⟩ : ∃ q, 2 ^ k * 285870213051353865 % 18446744073709551616 / 288230376151711744 = q := ⟨_, rfl⟩
    rw [eq] at hi hcell key
    clear hlow htab ek eq hT
    have hx0 : ((x : Int) == 0) = false := by simp; omega
    go_enter Tryd.func90, Tryd.ntmps90
    go_wp2_with (simp only [key])
    go_ret
    exact ⟨rfl, rfl⟩
theorem least_any (x : Nat) (hx : x < 18446744073709551616) (h0 : x ≠ 0) (w : World) (hT : Laid w) :
    Calls Tryd.prog 80 #[.int .u64 (x : Int)] w (fun e w' => e = .returned (.int .i64 (Lib.ctz 64 x : Int)) ∧ w = w') := by
  have HT := Lib.hid (tz64_any x hx w hT)
  have hx0 : ((x : Int) == 0) = false := by simp; omega
  clear hT
  go_enter Tryd.func80, Tryd.ntmps80
  go_wp2_with fail
  refine (HT.out).mono ?_
  rintro e w' ⟨rfl, rfl⟩
  go_wp2_with fail
  go_ret
  exact ⟨rfl, rfl⟩
theorem each_any (s : Nat) (w : World) : Calls Tryd.prog 62 #[.int .u64 (s : Int)] w (fun e w' => e = .returned (.func (.func 79) #[] #[.pointer (some ⟨w.heap.size, 0, none⟩)]) ∧ w.alloc (.cells #[.int .u64 (s : Int)] 64) = w') := by
  go_enter Tryd.func62, Tryd.ntmps62
  go_wp2
  go_ret
  exact ⟨rfl, rfl⟩
/-- What a cell of a number holds. -/
def cellN (w : World) (c : Nat) : Nat := match w.cell? ⟨c, 0, none⟩ with | some (.int _ v) => v.toNat | _ => 0
theorem cellN_of {w : World} {c x : Nat} {T : TypeId} (h : w.heap[c]? = some (.cells #[.int .u64 (x : Int)] T (0, 0))) : cellN w c = x := by
  unfold cellN
  rw [(cell_in h 0 rfl).1]
  simp
section
attribute [local go_sem] Oper.semAt_some
theorem each_tells (w : World) (s : Nat) {c : Nat} (I : List Int → World → Prop) (hI : ∀ pre A, I pre A → Laid A) (hs : s < 18446744073709551616) (hc0 : w.heap[c]? = some (.cells #[.int .u64 (s : Int)] 64 (0, 0))) :
    Tells3 Tryd.prog 79 #[.pointer (some ⟨c, 0, none⟩)] (fun x => #[.int .i64 x]) c I (fun pre x _ => (listN s)[pre.length]? = some x) (fun xs => xs = listN s) w := by
  intro l J Jx W hg hJI hJ hJc hJx hY h0
  have HC0 := Lib.hid (box_grows hc0 hg)
  have H0 := Lib.hid h0
  have HI := Lib.hid (fun pre A h => hI pre A (hJI pre A h))
  have HY := Lib.hid hY
  have HJ := Lib.hid hJ
  have HJC := Lib.hid hJc
  have HS := Lib.hid hs
  obtain ⟨z0, -⟩ := cell_in (box_grows hc0 hg) 0 rfl
  clear hY hJ hJc hJx hJI hI h0 hs hc0 hg
  refine callsIn_of_wp Tryd.func79 rfl trivial ?_ rfl
  simp only [Tryd.ntmps79, List.size_toArray, List.length_cons, List.length_nil, Nat.reduceAdd, Nat.reduceSub, Array.replicate_succ, Array.replicate_zero, List.push_toArray, List.append_toArray, List.nil_append, List.cons_append]
  gi_wp2_with fail
  gi_loopw [] (fun wr => ∃ (x : Nat) (pre : List Int), wr.heap[c]? = some (.cells #[.int .u64 (x : Int)] 64 (0, 0)) ∧ x < 18446744073709551616 ∧ pre ++ listN x = listN s ∧ J pre wr) (fun wr => cellN wr c)
  case atStart => exact ⟨s, [], HC0.out, HS.out, rfl, H0.out⟩
  case round =>
    obtain ⟨x, pre, hc, hx, hpre, hj⟩ := hrel
    obtain ⟨c0, -⟩ := cell_in hc 0 rfl
    have zc := box_lt hc
    have hcn := cellN_of hc
    have C0 := Lib.hid hc
    have J0 := Lib.hid hj
    have HP := Lib.hid hpre
    have HX := Lib.hid hx
    by_cases h0 : x = 0
    · subst h0
      clear hc hx hpre hj z0
      gi_wp2_with fail
      go_end0
      exact ⟨⟨_, rfl⟩, .inl ⟨pre, by have := HP.out; rwa [listN_zero, List.append_nil] at this, J0.out⟩⟩
    · have hlc := listN_cons x h0 hx
      have hle := callsIn_wide (n := 8).2 (least_any x hx h0 wr (HI.out _ _ hj))
      obtain ⟨k, ek⟩ : ∃ k, Lib.ctz 64 x = k := ⟨_, rfl⟩
      rw [ek] at hlc hle
      have HLE := Lib.hid hle
      have hge : (listN s)[pre.length]? = some (k : Int) := by rw [← hpre, hlc]; simp
      obtain ⟨fn, tmps, assign, body, hy, hR⟩ := HY.out pre (k : Int) wr hj hge
      have HYR := Lib.hid hR
      have hx0 : ((x : Int) == 0) = false := by simp; omega
      have hx1 : ¬ (x : Int) = 0 := by omega
      have hsub : IntKind.u64.wrap ((x : Int) - 1) = ((x - 1 : Nat) : Int) := by rw [IntKind.wrap_u64]; omega
      have hand := bits_and_u64_nat x (x - 1) hx (by omega)
      have HLT := Lib.hid (lowN_lt h0)
      have HPN := Lib.hid (show (pre ++ [(k : Int)]) ++ listN (lowN x) = listN s by rw [← hpre, hlc]; simp)
      obtain ⟨y, ey⟩ : ∃ y, lowN x = y := ⟨_, rfl⟩
      have ey2 : x &&& (x - 1) = y := ey
      rw [ey2] at hand
      rw [ey] at HLT HPN
      have H0X := Lib.hid h0
      clear hc hx hpre hj z0 hlc hle hR hge ek ey ey2 h0
      gi_wp2_with fail
      refine ⟨trivial, (HLE.out).mono ?_⟩
      rintro e w2 ⟨rfl, rfl⟩
      gi_wp2_with fail
      refine (HYR.out).mono ?_
      rintro e w3 ⟨hcb, ⟨rfl, hj3⟩ | ⟨rfl, hj3⟩⟩
      · have hc3 := hcb.trans C0.out
        have J3 := Lib.hid hj3
        have C3 := Lib.hid hc3
        clear hcb c0 zc
        obtain ⟨c0, c0f⟩ := cell_in hc3 0 rfl
        have zc := box_lt hc3
        clear hc3 hj3
        gi_wp2_with fail
        have hnew := box_setj (j := 0) (v := .int .u64 (y : Int)) C3.out
        refine ⟨⟨y, pre ++ [(k : Int)], hnew, Nat.lt_trans HLT.out HX.out, HPN.out, HJC.out _ _ _ J3.out (Chg.setCell (S := fun k => k = c) (Chg.refl _ _) _ (.inr rfl))⟩, ?_⟩
        rw [cellN_of hnew, hcn]
        exact HLT.out
      · gi_wp2
        refine bodyPost_ret (results_none rfl _ _ _) rfl ?_
        exact ⟨⟨_, rfl⟩, .inr ⟨_, hj3⟩⟩
end
end Go.Proofs.YtgjieoljfcfacaaDoor
