/- The document's lists of keys: In. -/
import Derived.Test.YtdmmceclohkkdaaTab
namespace Go.Proofs.Ytdmmceclohkkdaa
open Go.RowKit Go.Sort
set_option maxHeartbeats 4000000
set_option maxRecDepth 100000
theorem key_eql (x y : KW) (w : World) : (binOp .eql 29 x.val y.val).run Try.prog w = .ok (.bool (decide (x = y))) w := by
  have h := run_eql_struct (P := Try.prog) w 29 #[.int .i64 x.t, .int .i64 x.f, .int .u32 x.s] #[.int .i64 y.t, .int .i64 y.f, .int .u32 y.s]
  have h2 := key_equal x y w
  unfold Op.equal Op.maxDepth at h2
  rw [h, h2]
  rfl
theorem key_neq (x y : KW) (w : World) : (binOp .neq 29 x.val y.val).run Try.prog w = .ok (.bool (!decide (x = y))) w := by
  have h := run_neq_struct (P := Try.prog) w 29 #[.int .i64 x.t, .int .i64 x.f, .int .u32 x.s] #[.int .i64 y.t, .int .i64 y.f, .int .u32 y.s]
  have h2 := key_equal x y w
  unfold Op.equal Op.maxDepth at h2
  rw [h, h2]
  rfl
section
attribute [-go_sem] run_eql_struct run_neq_struct
theorem kin_any {v : Value} {l : List KW} {w : World} (k : KW) (h : KHas w v l) (hm : l.length ≤ 100000) :
    Calls Try.prog 62 #[v, k.val] w (RetV w (.bool (decide (k ∈ l)))) := by
  obtain ⟨n, en⟩ : ∃ n, l.length = n := ⟨_, rfl⟩
  obtain ⟨a, cap, rfl⟩ := h.len en
  have hgb : Grows w (w.alloc (.cells #[.int .i64 k.t, .int .i64 k.f, .int .u32 k.s] 29)) := bl_alloc (Below.refl _ _) _
  have hbx := heap_alloc_new w (.cells #[.int .i64 k.t, .int .i64 k.f, .int .u32 k.s] 29)
  obtain ⟨W, eW⟩ : ∃ W, w.alloc (.cells #[.int .i64 k.t, .int .i64 k.f, .int .u32 k.s] 29) = W := ⟨_, rfl⟩
  rw [eW] at hgb hbx
  have HH := Lib.hid (h.grows hgb)
  have HG := Lib.hid hgb
  have HBX := Lib.hid hbx
  have EN := Lib.hid en
  have HM := Lib.hid hm
  have HQ := Lib.hid (fun (y : KW) (W : World) => key_eql y k W)
  obtain ⟨r, er⟩ : ∃ r, decide (k ∈ l) = r := ⟨_, rfl⟩
  have ER := Lib.hid er
  rw [er]
  clear h hm hgb hbx en er
  go_enter Try.func62, Try.ntmps62
  go_wp2_with fail
  go_loopw [5] (fun iv wr => ∃ i : Nat, iv = .int .i64 (i : Int) ∧ i ≤ n ∧ k ∉ l.take i ∧ Grows W wr) (fun iv _ => n - (intOf iv).toNat)
  case atStart => exact ⟨0, rfl, Nat.zero_le _, by simp, grows_refl _⟩
  case round =>
    obtain ⟨i, rfl, hi, hni, hg⟩ := hrel
    have hhb := box_grows HBX.out hg
    have hha := HH.out.grows hg
    have z1 : w.heap.size < wr.heap.size := box_lt hhb
    obtain ⟨t0, -⟩ := cell_in hhb 0 rfl
    obtain ⟨t1, -⟩ := cell_in hhb 1 rfl
    obtain ⟨t2, -⟩ := cell_in hhb 2 rfl
    have HGG := Lib.hid hg
    have HNI := Lib.hid hni
    clear hg hhb hni eW
    by_cases hlt : i < n
    · have hn6 : i ≤ 1000000 := Nat.le_trans (Nat.le_of_lt hlt) (by rw [← EN.out]; exact Nat.le_trans HM.out (by decide))
      have HNF := Lib.hid (nat_facts i hn6)
      have HWS := Lib.hid (wrap_succ hn6)
      have HLT := Lib.hid hlt
      have hnl : i < l.length := by rw [EN.out]; exact hlt
      obtain ⟨g, o, c', he, hcap, hgl, hat⟩ := hha.form EN.out (Nat.lt_of_le_of_lt (Nat.zero_le _) hlt)
      simp only [Value.slice.injEq, true_and] at he
      obtain ⟨rfl, rfl⟩ := he
      obtain ⟨p0, p1, p2⟩ := kat_cells hat i hnl
      obtain ⟨y, ey⟩ : ∃ y, l[i] = y := ⟨_, rfl⟩
      rw [ey] at p0 p1 p2
      have htk : l.take (i + 1) = l.take i ++ [y] := by rw [List.take_succ_eq_append_getElem hnl, ey]
      have hym : y ∈ l := by rw [← ey]; exact List.getElem_mem hnl
      have HTK := Lib.hid htk
      have HYM := Lib.hid hym
      have hki : (i : Int) < (n : Int) := Int.ofNat_lt.2 hlt
      have hq := HQ.out y
      clear htk hym ey hat hha hnl hcap hlt hn6 hi
      obtain ⟨j1, j2, j3, j4, j6⟩ := HNF.out
      by_cases hyk : y = k
      · have hd : decide (y = k) = true := decide_eq_true hyk
        have hr : r = true := by rw [← ER.out, ← hyk]; exact decide_eq_true HYM.out
        simp only [hd] at hq
        clear hyk hd
        go_wp2_with fail
        refine wp_region_reg (by kernel_rfl) (by kernel_rfl) ?_
        repeat (first | go_big_quiet_step ((fail)) | quiet_step ((fail)))
        refine wpQuiet_nil ?_
        intro _ hcw1
        obtain ⟨pq, hcw2⟩ := hcw1
        subst hcw2
        go_wp2_with fail
        go_ret
        exact ⟨by rw [hr]; rfl, grows_trans _ _ _ HG.out (grows_trans _ _ _ HGG.out (below_reg _ _))⟩
      · have hd : decide (y = k) = false := decide_eq_false hyk
        simp only [hd] at hq
        have HYK := Lib.hid hyk
        clear hyk hd
        go_wp2_with fail
        refine wp_region_reg (by kernel_rfl) (by kernel_rfl) ?_
        repeat (first | go_big_quiet_step ((fail)) | quiet_step ((fail)))
        refine wpQuiet_nil ?_
        intro _ hcw1
        obtain ⟨pq, hcw2⟩ := hcw1
        subst hcw2
        go_wp2_with fail
        go_roundw
        case rel => exact ⟨i + 1, by rw [HWS.out]; rfl, HLT.out, by rw [HTK.out]; simp; exact ⟨HNI.out, fun e => HYK.out e.symm⟩, grows_trans _ _ _ HGG.out (below_reg _ _)⟩
        case measure => rw [HWS.out]; exact meas_succ HLT.out
    · obtain rfl : i = n := Nat.le_antisymm hi (Nat.le_of_not_lt hlt)
      have hr : r = false := by
        rw [← ER.out]
        have h9 := HNI.out
        rw [List.take_of_length_le (by rw [EN.out]; exact Nat.le_refl _)] at h9
        exact decide_eq_false h9
      clear hha hlt hi
      go_wp2_with fail
      go_ret
      exact ⟨by rw [hr]; rfl, grows_trans _ _ _ HG.out HGG.out⟩
end
end Go.Proofs.Ytdmmceclohkkdaa
