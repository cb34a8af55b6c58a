/- The document's At and New. -/
import Derived.Test.YtdmmceclohkkdaaDocRow
import Derived.Test.YtdmmceclohkkdaaTabBI
namespace Go.Proofs.Ytdmmceclohkkdaa
open Go.RowKit Go.Sort
set_option maxHeartbeats 4000000
set_option maxRecDepth 100000
section
attribute [-go_sem] run_eql_struct run_neq_struct
theorem rat_any {v : Value} {l : List DR} {w : World} {base M : Nat} (k : KW) (h : ROwn w base v l) (hm : l.length ≤ 100000) :
    Calls Try.prog 41 #[dval v M, k.val] w (RetV w (.int .i64 (atR l k))) := by
  obtain ⟨n, en⟩ : ∃ n, l.length = n := ⟨_, rfl⟩
  obtain ⟨a, cap, rfl⟩ := ROwn.len h en
  have hq2 := two_new w (.cells #[.slice a n cap, .int .i64 (M : Int)] 37) (.cells #[.int .i64 k.t, .int .i64 k.f, .int .u32 k.s] 29)
  have hgb : Grows w ((w.alloc (.cells #[.slice a n cap, .int .i64 (M : Int)] 37)).alloc (.cells #[.int .i64 k.t, .int .i64 k.f, .int .u32 k.s] 29)) := bl_alloc (bl_alloc (Below.refl _ _) _) _
  obtain ⟨W, eW⟩ : ∃ W, (w.alloc (.cells #[.slice a n cap, .int .i64 (M : Int)] 37)).alloc (.cells #[.int .i64 k.t, .int .i64 k.f, .int .u32 k.s] 29) = W := ⟨_, rfl⟩
  rw [eW] at hgb hq2
  have HH := Lib.hid (own_grows h hgb)
  have HG := Lib.hid hgb
  have HB := Lib.hid hq2
  have EN := Lib.hid en
  have HM := Lib.hid hm
  have HQ := Lib.hid (fun (y : KW) (W : World) => key_eql y k W)
  obtain ⟨r, er⟩ : ∃ r, atR l k = r := ⟨_, rfl⟩
  have ER := Lib.hid er
  rw [er]
  clear h hm hgb hq2 en er
  go_enter Try.func41, Try.ntmps41
  go_wp2_with fail
  go_loopw [5] (fun iv wr => ∃ i : Nat, iv = .int .i64 (i : Int) ∧ i ≤ n ∧ k ∉ (l.take i).map (·.1) ∧ Grows W wr) (fun iv _ => n - (intOf iv).toNat)
  case atStart => exact ⟨0, rfl, Nat.zero_le _, by simp, grows_refl _⟩
  case round =>
    obtain ⟨i, rfl, hi, hni, hg⟩ := hrel
    have hta := box_grows HB.out.1 hg
    have hhb := box_grows HB.out.2 hg
    have hha := own_grows HH.out hg
    have z1 : w.heap.size < wr.heap.size := box_lt hta
    have z2 : w.heap.size + 1 < wr.heap.size := box_lt hhb
    obtain ⟨s0, -⟩ := cell_in hta 0 rfl
    obtain ⟨t0, -⟩ := cell_in hhb 0 rfl
    obtain ⟨t1, -⟩ := cell_in hhb 1 rfl
    obtain ⟨t2, -⟩ := cell_in hhb 2 rfl
    have HGG := Lib.hid hg
    have HNI := Lib.hid hni
    clear hg hhb hta hni eW
    by_cases hlt : i < n
    · have hn6 : i ≤ 1000000 := Nat.le_trans (Nat.le_of_lt hlt) (by rw [← EN.out]; exact Nat.le_trans HM.out (by decide))
      have HNF := Lib.hid (nat_facts i hn6)
      have HWS := Lib.hid (wrap_succ hn6)
      have HLT := Lib.hid hlt
      have hnl : i < l.length := by rw [EN.out]; exact hlt
      obtain ⟨g, c', he, hcap, hgl, hat⟩ := ROwn.form hha EN.out (Nat.lt_of_le_of_lt (Nat.zero_le _) hlt)
      simp only [Value.slice.injEq, true_and] at he
      obtain ⟨rfl, rfl⟩ := he
      obtain ⟨p0, p1, p2, -⟩ := rat_cells hat i hnl
      rw [Nat.zero_add] at p0 p1 p2
      obtain ⟨y, ey⟩ : ∃ y, l[i] = y := ⟨_, rfl⟩
      have HNL := Lib.hid (And.intro hnl ey)
      rw [ey] at p0 p1 p2
      have htk : l.take (i + 1) = l.take i ++ [y] := by rw [List.take_succ_eq_append_getElem hnl, ey]
      have HTK := Lib.hid htk
      have hki : (i : Int) < (n : Int) := Int.ofNat_lt.2 hlt
      have hq := HQ.out y.1
      have HRR := Lib.hid (fun (e : y.1 = k) => (atR_some hnl (by rw [ey]; exact e) HNI.out).symm.trans ER.out)
      clear htk ey hat hha hnl hcap hlt hn6 hi HNL
      obtain ⟨j1, j2, j3, j4, j6⟩ := HNF.out
      by_cases hyk : y.1 = k
      · have hd : decide (y.1 = k) = true := decide_eq_true hyk
        have HR := Lib.hid (HRR.out hyk)
        simp only [hd] at hq
        clear hyk hd
        go_wp2_with fail
        refine wp_region_reg (by kernel_rfl) (by kernel_rfl) ?_
        repeat (first | go_big_quiet_step ((fail)) | quiet_step ((fail)))
        refine wpQuiet_nil ?_
        intro _ hcw1
        obtain ⟨pq, hcw2⟩ := hcw1
        subst hcw2
        go_wp2_with fail
        go_ret
        exact ⟨by rw [HR.out]; rfl, grows_trans _ _ _ HG.out (grows_trans _ _ _ HGG.out (below_reg _ _))⟩
      · have hd : decide (y.1 = k) = false := decide_eq_false hyk
        simp only [hd] at hq
        have HYK := Lib.hid hyk
        clear hyk hd
        go_wp2_with fail
        refine wp_region_reg (by kernel_rfl) (by kernel_rfl) ?_
        repeat (first | go_big_quiet_step ((fail)) | quiet_step ((fail)))
        refine wpQuiet_nil ?_
        intro _ hcw1
        obtain ⟨pq, hcw2⟩ := hcw1
        subst hcw2
        go_wp2_with fail
        go_roundw
        case rel => exact ⟨i + 1, by rw [HWS.out]; rfl, HLT.out, by rw [HTK.out, List.map_append, List.mem_append]; rintro (h | h); exact HNI.out h; simp at h; exact HYK.out h.symm, grows_trans _ _ _ HGG.out (below_reg _ _)⟩
        case measure => rw [HWS.out]; exact meas_succ HLT.out
    · obtain rfl : i = n := Nat.le_antisymm hi (Nat.le_of_not_lt hlt)
      have hr : r = -1 := by
        rw [← ER.out]
        have h9 := HNI.out
        rw [List.take_of_length_le (by rw [EN.out]; exact Nat.le_refl _)] at h9
        exact atR_none h9
      have HR := Lib.hid hr
      clear hha hlt hi hr
      go_wp2_with fail
      go_ret
      exact ⟨by rw [HR.out]; rfl, grows_trans _ _ _ HG.out HGG.out⟩
end
theorem rnew_any (n : Int) (w : World) : Calls Try.prog 20 #[.int .i64 n] w (RetV w (dval (.slice none 0 0) (mostOfI n))) := by
  obtain ⟨k, ek⟩ : ∃ k, mostOfI n = k := ⟨_, rfl⟩
  have h3 : (n < 0 ∧ k = 0) ∨ (0 ≤ n ∧ n ≤ 65536 ∧ n = (k : Int)) ∨ (65536 < n ∧ k = 65536) := by rw [← ek]; unfold mostOfI; omega
  rw [ek]
  clear ek
  rcases h3 with ⟨h1, rfl⟩ | ⟨h1, h2, rfl⟩ | ⟨h1, rfl⟩
  all_goals (
    go_enter Try.func20, Try.ntmps20
    go_wp2)
  all_goals (
    refine bodyPost_ret (v := _) (by simp [results, Try.results20, go_sem]; rfl) rfl ?_
    exact ⟨rfl, by show Below w.heap.size w _; (repeat (first | with_reducible exact Below.refl _ _ | with_reducible refine bl_alloc ?_ _ | ((with_reducible refine bl_set ?_ ?_ _); rotate_left; (first | exact Nat.le_refl _ | exact Nat.le_succ_of_le (Nat.le_refl _) | (simp only []; omega))) | with_reducible refine bl_drewN ?_ _ | with_reducible refine bl_drew ?_ | with_reducible refine bl_reg ?_ _))⟩)
end Go.Proofs.Ytdmmceclohkkdaa
