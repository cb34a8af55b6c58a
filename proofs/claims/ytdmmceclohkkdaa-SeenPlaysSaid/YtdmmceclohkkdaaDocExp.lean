/- The document's Expire: the rows that stay. -/
import Derived.Test.YtdmmceclohkkdaaDuo
namespace Go.Proofs.Ytdmmceclohkkdaa
open Go.RowKit Go.Sort
set_option maxHeartbeats 4000000
set_option maxRecDepth 100000
/-- Does the row stay? -/
def keepE (e : Int) (p : DR) : Bool := decide (e ≤ p.2)
theorem take_filterE {e : Int} {l : List DR} {i : Nat} {y : DR} (hi : i < l.length) (hy : l[i] = y) : (l.take (i + 1)).filter (keepE e) = (l.take i).filter (keepE e) ++ (if keepE e y then [y] else []) := by
  rw [List.take_succ_eq_append_getElem hi, hy, List.filter_append, List.filter_cons, List.filter_nil]
theorem rexpire_any {v : Value} {l : List DR} {w : World} {base M : Nat} (e : Int) (h : ROwn w base v l) (hm : l.length ≤ 10000) (hb : base ≤ w.heap.size) :
    Calls Try.prog 40 #[dval v M, .int .i64 e] w (RTab w base (l.filter (keepE e)) M (fun t => t)) := by
  obtain ⟨n, en⟩ : ∃ n, l.length = n := ⟨_, rfl⟩
  obtain ⟨b, eb⟩ : ∃ b, w.heap.size = b := ⟨_, rfl⟩
  obtain ⟨a, cap, rfl⟩ := ROwn.len h en
  have hq2 := two_new w (.cells #[.slice a n cap, .int .i64 (M : Int)] TDT) (.cells #[.slice none 0 0, .int .i64 0] TDT)
  have hgb : Grows w ((w.alloc (.cells #[.slice a n cap, .int .i64 (M : Int)] TDT)).alloc (.cells #[.slice none 0 0, .int .i64 0] TDT)) := bl_alloc (bl_alloc (Below.refl _ _) _) _
  obtain ⟨W, eW⟩ : ∃ W, (w.alloc (.cells #[.slice a n cap, .int .i64 (M : Int)] TDT)).alloc (.cells #[.slice none 0 0, .int .i64 0] TDT) = W := ⟨_, rfl⟩
  rw [eW, eb] at hq2
  rw [eW] at hgb
  have gW : Grows W (W.alloc (.cells #[] 117)) := bl_alloc (Below.refl _ _) _
  have o4 : ROwn (W.alloc (.cells #[] 117)) W.heap.size (.slice (some ⟨W.heap.size, 0, none⟩) 0 0) [] := World.ownsRow_lit W #[] 0 (Nat.le_refl _) (by decide) rfl
  have HO4 := Lib.hid o4
  have HGW := Lib.hid gW
  have HH := Lib.hid (own_grows h hgb)
  have HG := Lib.hid hgb
  have HB := Lib.hid hb
  have HM := Lib.hid hm
  have EN := Lib.hid en
  have EB := Lib.hid eb
  have H0 := Lib.hid hq2
  obtain ⟨a0, -⟩ := cell_in (box_grows hq2.1 gW) 0 rfl
  obtain ⟨a1, -⟩ := cell_in (box_grows hq2.1 gW) 1 rfl
  have z0 := box_lt (box_grows hq2.1 gW)
  clear h hm hb hq2 hgb en o4 gW
  go_enter Try.func40, Try.ntmps40
  go_wp2_with fail
  go_loopw [5, 6] (fun ov iv wr => ∃ i : Nat, iv = .int .i64 (i : Int) ∧ i ≤ n ∧ ROwn wr W.heap.size ov ((l.take i).filter (keepE e)) ∧ Grows W wr) (fun _ iv _ => n - (intOf iv).toNat)
  case atStart => exact ⟨0, rfl, Nat.zero_le _, HO4.out, HGW.out⟩
  case round =>
    obtain ⟨i, rfl, hi, ho, hg⟩ := hrel
    clear a0 a1 z0
    obtain ⟨a0, -⟩ := cell_in (box_grows H0.out.1 hg) 0 rfl
    obtain ⟨a1, -⟩ := cell_in (box_grows H0.out.1 hg) 1 rfl
    have z0 := box_lt (box_grows H0.out.1 hg)
    have hha := own_grows HH.out hg
    have HO := Lib.hid ho
    have HGG := Lib.hid hg
    by_cases hlt : i < n
    · have hn6 : i ≤ 1000000 := Nat.le_trans (Nat.le_of_lt hlt) (by rw [← EN.out]; exact Nat.le_trans HM.out (by decide))
      have HNF := Lib.hid (nat_facts i hn6)
      have HWS := Lib.hid (wrap_succ hn6)
      have HLT := Lib.hid hlt
      have hnl : i < l.length := by rw [EN.out]; exact hlt
      obtain ⟨g, c', he, hcap, hgl, hat⟩ := ROwn.form hha EN.out (Nat.lt_of_le_of_lt (Nat.zero_le _) hlt)
      simp only [Value.slice.injEq, true_and] at he
      obtain ⟨rfl, rfl⟩ := he
      obtain ⟨p0, p1, p2, p3⟩ := rat_cells hat i hnl
      rw [Nat.zero_add] at p0 p1 p2 p3
      obtain ⟨y, ey⟩ : ∃ y, l[i] = y := ⟨_, rfl⟩
      rw [ey] at p0 p1 p2 p3
      have htf := take_filterE (e := e) hnl ey
      have HTF := Lib.hid htf
      have hki : (i : Int) < (n : Int) := Int.ofNat_lt.2 hlt
      have hol : ((l.take i).filter (keepE e)).length ≤ 10000 := Nat.le_trans (List.length_filter_le _ _) (Nat.le_trans (List.length_take_le' _ _) HM.out)
      have hgx : Grows wr (wr.alloc (.cells #[.int .i64 y.1.t, .int .i64 y.1.f, .int .u32 y.1.s, .int .i64 y.2] 117)) := bl_alloc (Below.refl _ _) _
      have s6 : RSrc (wr.alloc (.cells #[.int .i64 y.1.t, .int .i64 y.1.f, .int .u32 y.1.s, .int .i64 y.2] 117)) (.slice (some ⟨wr.heap.size, 0, none⟩) 1 1) [y] :=
        .inr ⟨_, 1, rfl, fun j u hj => by
          rw [addr_add, Nat.zero_add]
          exact (cell_in (heap_alloc_new wr _) j (by simpa [rvs, rc] using hj)).1⟩
      obtain ⟨v7, W7, r7, o7, b7⟩ := rapp_run (own_grows ho hgx) s6 (by simp only [List.length_singleton]; omega) (Nat.le_trans hg.size hgx.size)
      have g7 := grows_of_grownBy (grows_trans _ _ _ hg hgx) b7 (fun j hj => ((own_grows ho hgx).lt j hj).1)
      have H7 := Lib.hid (And.intro o7 g7)
      clear htf ey hat hha hnl hcap hlt hn6 hi ho hg hgx s6 o7 b7 g7 hol
      obtain ⟨j1, j2, j3, j4, j6⟩ := HNF.out
      cases hk : keepE e y with
      | true =>
        have hk2 := hk
        simp only [keepE, decide_eq_true_eq] at hk2
        have hk3 : decide (e ≤ y.2) = true := decide_eq_true hk2
        go_wp2_with (at_builtin; refine wpList_append_run _ rfl _ _ 35 35 rfl _ _ rfl rfl (r7 _) ?_)
        go_roundw
        case rel => exact ⟨i + 1, by rw [HWS.out]; rfl, HLT.out, by rw [HTF.out, hk]; exact H7.out.1, H7.out.2⟩
        case measure => rw [HWS.out]; exact meas_succ HLT.out
      | false =>
        have hk2 := hk
        simp only [keepE, decide_eq_false_iff_not] at hk2
        have hk3 : decide (e ≤ y.2) = false := decide_eq_false hk2
        go_wp2_with fail
        go_roundw
        case rel => exact ⟨i + 1, by rw [HWS.out]; rfl, HLT.out, by rw [HTF.out, hk]; simpa using HO.out, HGG.out⟩
        case measure => rw [HWS.out]; exact meas_succ HLT.out
    · obtain rfl : i = n := Nat.le_antisymm hi (Nat.le_of_not_lt hlt)
      obtain ⟨a8, c8, rfl⟩ := ROwn.len ho rfl
      obtain ⟨n8, en8⟩ : ∃ n8, ((l.take i).filter (keepE e)).length = n8 := ⟨_, rfl⟩
      have h2 := box_grows H0.out.2 hg
      have z1 := box_lt h2
      obtain ⟨c0, c0f⟩ := cell_in h2 0 rfl
      obtain ⟨c1, c1f⟩ := cell_in h2 1 rfl
      have hlx : l.take i = l := List.take_of_length_le (by rw [EN.out]; exact Nat.le_refl _)
      have HLX := Lib.hid hlx
      rw [en8] at HO ⊢
      clear hha hlt hi ho hg h2 hlx en8
      go_wp2_with fail
      obtain ⟨k1, k2, q0, q1⟩ := rtab_end M (grows_trans _ _ _ HG.out HGG.out) EB.out (b + 1) (Nat.le_succ _) (box_grows H0.out.2 HGG.out) HO.out
      refine bodyPost_ret (v := dval (.slice a8 n8 c8) M) (by simp [results, Try.results40, go_sem, q0, q1]) rfl ⟨_, rfl, k1, ?_⟩
      have k3 := row_base k2 (Nat.le_trans HB.out HG.out.size)
      rw [HLX.out] at k3
      exact k3
end Go.Proofs.Ytdmmceclohkkdaa
