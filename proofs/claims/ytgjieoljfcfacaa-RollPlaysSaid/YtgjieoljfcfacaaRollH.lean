/- The document's roll: how it lies; New, Set. -/
import Derived.Test.YtgjieoljfcfacaaRollG
import Derived.Test.YtgjieoljfcfacaaGRow
namespace Go.Proofs.Ytgjieoljfcfacaa
open Go.RowKit Go.Sort
set_option maxHeartbeats 4000000
set_option maxRecDepth 100000
abbrev TNO : TypeId := 60
abbrev TSN : TypeId := 25
abbrev TRD : TypeId := 27
abbrev nc (p : Int × Int) : List Value := [.int .i64 p.1, .int .i64 p.2]
abbrev ic (x : Int) : List Value := [.int .i64 x]
theorem kindNote : RowKind nc 2 TSN TNO (.agg #[.int .i64 0, .int .i64 0]) 16 :=
  ⟨fun _ => rfl, fun p u hu => by simp only [nc, List.mem_cons, List.not_mem_nil, or_false] at hu; rcases hu with rfl | rfl <;> rfl, Try.underlying25, by kernel_rfl, rfl, by decide, by decide⟩
theorem kindI64 : RowKind ic 1 42 2 (.int .i64 0) 8 :=
  ⟨fun _ => rfl, fun p u hu => by simp only [ic, List.mem_cons, List.not_mem_nil, or_false] at hu; subst hu; rfl, Try.underlying42, by kernel_rfl, rfl, by decide, by decide⟩
theorem kindInt : RowKind ic 1 58 3 (.int .i64 0) 8 :=
  ⟨fun _ => rfl, fun p u hu => by simp only [ic, List.mem_cons, List.not_mem_nil, or_false] at hu; subst hu; rfl, Try.underlying58, by kernel_rfl, rfl, by decide, by decide⟩
theorem flat_iv (l : List Int) : l.flatMap ic = iv l := by
  unfold iv
  induction l with
  | nil => rfl
  | cons x l ih => rw [List.flatMap_cons, ih]; rfl
/-- The document's notes, in a row of their own. -/
abbrev NOwn (w : World) (base : Nat) (v : Value) (l : NL) : Prop := GOwn nc 2 TNO w base v l
abbrev nval (v : Value) (M : Nat) : Value := .agg #[v, .int .i64 (M : Int)]
theorem NOwn.len {w : World} {base : Nat} {v : Value} {l : NL} {n : Nat} (h : NOwn w base v l) (hn : l.length = n) : ∃ a cap, v = .slice a n cap := GOwn.len kindNote.len h hn
theorem NOwn.form {w : World} {base : Nat} {v : Value} {l : NL} {n : Nat} (h : NOwn w base v l) (hn : l.length = n) (h0 : 0 < n) : ∃ g o cap, v = .slice (some ⟨g, o, none⟩) n cap ∧ n ≤ cap ∧ g < w.heap.size ∧ RAt nc 2 w g o l := (gown_rows kindNote.len h).form hn h0
theorem nat_cells {w : World} {g o : Nat} {l : NL} (h : RAt nc 2 w g o l) (i : Nat) (hi : i < l.length) : w.cell? ⟨g, o + i * 2, none⟩ = some (.int .i64 l[i].1) ∧ w.cell? ⟨g, o + i * 2 + 1, none⟩ = some (.int .i64 l[i].2) := ⟨h i hi 0 (by omega), h i hi 1 (by omega)⟩
theorem box_grows_own {α : Type} {f : α → List Value} {k : Nat} {E T : TypeId} {w w' : World} {base p : Nat} {v : Value} {l : List α} {cs : Array Value} (hp : w.heap[p]? = some (.cells cs T (0, 0))) (hg : w.grownBy w' v.ownBlock) (ho : GOwn f k E w base v l) (hT : T ≠ E := by decide) : w'.heap[p]? = some (.cells cs T (0, 0)) := by
  rw [hg.block p (box_lt hp) (fun e => by
    obtain ⟨cur, hc⟩ := gown_ty ho e.symm
    rw [hp] at hc
    injection hc with hc
    injection hc with _ hc
    exact hT hc)]
  exact hp
theorem nnew_any (n : Int) (w : World) : Calls Try.prog 6 #[.int .i64 n] w (RetV w (nval (.slice none 0 0) (mostO n))) := by
  have hk : min (max n 0) 65536 = (mostO n : Int) := by unfold mostO; omega
  have HK := Lib.hid hk
  clear hk
  go_enter Try.func6, Try.ntmps6
  go_wp2
  refine bodyPost_ret (v := _) (by simp [results, Try.results6, go_sem]; rfl) rfl ?_
  exact ⟨by rw [HK.out], by show Below w.heap.size w _; (repeat (first | with_reducible exact Below.refl _ _ | with_reducible refine bl_alloc ?_ _ | ((with_reducible refine bl_set ?_ ?_ _); rotate_left; (first | exact Nat.le_refl _ | exact Nat.le_succ_of_le (Nat.le_refl _) | (simp only []; omega))) | with_reducible refine bl_drewN ?_ _ | with_reducible refine bl_drew ?_ | with_reducible refine bl_reg ?_ _))⟩
theorem nset_any {v : Value} {l : NL} {w : World} {base M : Nat} (no : Int) (h : NOwn w base v l) (hm : l.length ≤ 1000) :
    Calls Try.prog 16 #[nval v M, .int .i64 no] w (RetV w (.int .u64 (setN l no : Nat))) := by
  obtain ⟨n, en⟩ : ∃ n, l.length = n := ⟨_, rfl⟩
  obtain ⟨a, cap, rfl⟩ := h.len en
  obtain ⟨b, eb⟩ : ∃ b, w.heap.size = b := ⟨_, rfl⟩
  obtain ⟨W, eW⟩ : ∃ W, w.alloc (.cells #[.slice a n cap, .int .i64 (M : Int)] TRD) = W := ⟨_, rfl⟩
  have hb0 := heap_alloc_new w (.cells #[.slice a n cap, .int .i64 (M : Int)] TRD)
  have hg : Grows w W := by rw [← eW]; exact bl_alloc (Below.refl _ _) _
  rw [eW, eb] at hb0
  obtain ⟨W2, eW2⟩ : ∃ W2, W.alloc (.cells #[] 3) = W2 := ⟨_, rfl⟩
  have hg2 : Grows W W2 := by rw [← eW2]; exact bl_alloc (Below.refl _ _) _
  have ho2 : GOwn ic 1 3 W2 W.heap.size (.slice (some ⟨W.heap.size, 0, none⟩) 0 0) [] := by rw [← eW2]; exact gown_lit (by decide) W
  obtain ⟨c, ec⟩ : ∃ c, W.heap.size = c := ⟨_, rfl⟩
  rw [ec] at ho2
  have HC2 := Lib.hid (show c ≤ W2.heap.size by rw [← ec]; exact hg2.size)
  have HBX := Lib.hid hb0
  have HG := Lib.hid hg
  have HG2 := Lib.hid (grows_trans _ _ _ hg hg2)
  have HB2 := Lib.hid (box_grows hb0 hg2)
  have HO2 := Lib.hid ho2
  have HH := Lib.hid h
  have EN := Lib.hid en
  have HM := Lib.hid hm
  have EB := Lib.hid eb
  have HBC := Lib.hid (show b ≤ c by rw [← ec, ← eb]; exact hg.size)
  clear h hm en hb0 hg hg2 ho2
  simp only [nval]
  go_enter Try.func16, Try.ntmps16
  go_wp2_with fail
  clear eW eW2 ec
  go_loopw [5, 6] (fun lv iv wr => ∃ i : Nat, iv = .int .i64 (i : Int) ∧ i ≤ n ∧ GOwn ic 1 3 wr c lv (frs (l.take i) no) ∧ Grows w wr ∧ c ≤ wr.heap.size ∧ wr.heap[b]? = some (.cells #[.slice a n cap, .int .i64 (M : Int)] TRD (0, 0))) (fun _ iv _ => n - (intOf iv).toNat)
  case atStart => exact ⟨0, rfl, Nat.zero_le _, HO2.out, HG2.out, HC2.out, HB2.out⟩
  case round =>
    obtain ⟨i, rfl, hi, ho, hg, hcs, hb⟩ := hrel
    have HCS := Lib.hid hcs
    have HO := Lib.hid ho
    have HGR := Lib.hid hg
    have HB := Lib.hid hb
    obtain ⟨s0, -⟩ := cell_in hb 0 rfl
    have z0 := box_lt hb
    clear ho hg hb hcs
    by_cases hlt : i < n
    · have hn6 : i ≤ 1000000 := Nat.le_trans (Nat.le_of_lt hlt) (by rw [← EN.out]; exact Nat.le_trans HM.out (by decide))
      have HNF := Lib.hid (nat_facts i hn6)
      have HWS := Lib.hid (wrap_succ hn6)
      have HLT := Lib.hid hlt
      have hnl : i < l.length := by rw [EN.out]; exact hlt
      obtain ⟨g, o, c', he, hcap, hgl, hat⟩ := NOwn.form (own_grows HH.out HGR.out) EN.out (Nat.lt_of_le_of_lt (Nat.zero_le _) hlt)
      simp only [Value.slice.injEq, true_and] at he
      obtain ⟨rfl, rfl⟩ := he
      obtain ⟨p0, p1⟩ := nat_cells hat i hnl
      have htk : l.take (i + 1) = l.take i ++ [l[i]] := List.take_succ_eq_append_getElem hnl
      obtain ⟨y, ey⟩ : ∃ y, l[i] = y := ⟨_, rfl⟩
      rw [ey] at p0 p1 htk
      have hki : (i : Int) < (n : Int) := Int.ofNat_lt.2 hlt
      have hfs := frs_snoc (l.take i) y no
      rw [← htk] at hfs
      have HFS := Lib.hid hfs
      have hfl : (frs (l.take i) no).length ≤ 99999 := by
        unfold frs
        rw [List.length_map]
        refine Nat.le_trans (List.length_filter_le _ _) ?_
        rw [List.length_take]
        have := HM.out
        omega
      obtain ⟨v2, w2, hr2, ho2, hg2⟩ := gapp_one kindInt y.2 HO.out hfl HCS.out
      have hgr2 : Grows w w2 := grows_of_grownBy HGR.out hg2 (fun j hj => Nat.le_trans (by rw [EB.out]; exact HBC.out) (HO.out.lt j hj).1)
      have hb2 := box_grows_own HB.out hg2 HO.out
      have HA := Lib.hid (And.intro ho2 (And.intro hgr2 (And.intro (Nat.le_trans HCS.out hg2.size) hb2)))
      clear hfs hfl htk ey hat hnl hcap hlt hn6 hi ho2 hg2 hgr2 hb2
      obtain ⟨j1, j2, j3, j4, j6⟩ := HNF.out
      by_cases hy : y.1 = no
      · have hyb : (y.1 == no) = true := beq_iff_eq.2 hy
        have HE := Lib.hid (show frs (l.take (i + 1)) no = frs (l.take i) no ++ [y.2] by rw [HFS.out, if_pos hy])
        clear hy
        go_wp2_with (at_builtin; refine wpList_append_eq _ rfl _ _ 58 58 rfl _ _ rfl rfl (hr2 _) ?_)
        go_roundw
        case rel => exact ⟨i + 1, by rw [HWS.out]; rfl, HLT.out, by rw [HE.out]; exact HA.out.1, HA.out.2.1, HA.out.2.2.1, HA.out.2.2.2⟩
        case measure => rw [HWS.out]; exact meas_succ HLT.out
      · have hyb : (y.1 == no) = false := beq_false_of_ne hy
        have HE := Lib.hid (show frs (l.take (i + 1)) no = frs (l.take i) no by rw [HFS.out, if_neg hy])
        clear hy hr2
        go_wp2_with fail
        go_roundw
        case rel => exact ⟨i + 1, by rw [HWS.out]; rfl, HLT.out, by rw [HE.out]; exact HO.out, HGR.out, HCS.out, HB.out⟩
        case measure => rw [HWS.out]; exact meas_succ HLT.out
    · obtain rfl : n = i := Nat.le_antisymm (Nat.le_of_not_lt hlt) hi
      have ho := HO.out
      rw [List.take_of_length_le (by rw [EN.out]; exact Nat.le_refl _)] at ho
      have hih : IHas wr u5 (frs l no) := by
        have h1 : IOwn wr c u5 (frs l no) := by
          have := ho
          unfold GOwn at this
          rw [flat_iv] at this
          exact this
        exact h1.has
      have HOF := Lib.hid (rof_any u5 (frs l no) wr hih (by
        unfold frs
        rw [List.length_map]
        have := List.length_filter_le (fun p : Int × Int => decide (p.1 = no)) l
        have := HM.out
        omega))
      clear ho hih hlt hi
      go_wp2_with fail
      refine (HOF.out).mono ?_
      rintro e w2 ⟨rfl, rfl⟩
      go_wp2_with fail
      go_ret
      exact ⟨rfl, HGR.out⟩
end Go.Proofs.Ytgjieoljfcfacaa
