/- The document's Drop: the notes that stay. -/
import Derived.Test.YtgjieoljfcfacaaRollK
namespace Go.Proofs.Ytgjieoljfcfacaa
open Go.RowKit Go.Sort
set_option maxHeartbeats 4000000
set_option maxRecDepth 100000
/-- Does a note of that number stay? -/
def outF (fr be x : Int) : Bool := decide (x < fr) || decide (be ≤ x)
theorem keep_take {F : Int → Bool} {l : NL} {i : Nat} {y : Int × Int} (hi : i < l.length) (hy : l[i] = y) : keepN (l.take (i + 1)) F = keepN (l.take i) F ++ (if F y.1 then [y] else []) := by
  unfold keepN
  rw [List.take_succ_eq_append_getElem hi, hy, List.filter_append, List.filter_cons, List.filter_nil]
/-- Drop's boxes: what came in, the result, what it builds. -/
structure DBox (w W : World) (b M : Nat) (v u : Value) : Prop where
  b0 : W.heap[b]? = some (.cells #[v, .int .i64 (M : Int)] TRD (0, 0))
  b1 : W.heap[b + 1]? = some (.cells #[.slice none 0 0, .int .i64 0] TRD (0, 0))
  b2 : W.heap[b + 2]? = some (.cells #[u, .int .i64 (M : Int)] TRD (0, 0))
  g : Grows w W
theorem DBox.grows {w W W' : World} {b M : Nat} {v u : Value} (h : DBox w W b M v u) (hg : Grows W W') : DBox w W' b M v u := ⟨box_grows h.b0 hg, box_grows h.b1 hg, box_grows h.b2 hg, grows_trans _ _ _ h.g hg⟩
theorem DBox.kept {w W W' : World} {b M : Nat} {v u x : Value} {l : NL} (h : DBox w W b M v u) (hg : W.grownBy W' x.ownBlock) (ho : NOwn W w.heap.size x l) : DBox w W' b M v u :=
  ⟨box_grows_own h.b0 hg ho, box_grows_own h.b1 hg ho, box_grows_own h.b2 hg ho, grows_of_grownBy h.g hg fun k hk => (ho.lt k hk).1⟩
theorem DBox.set {w W : World} {b M : Nat} {v u x : Value} {l : NL} (eb : w.heap.size = b) (h : DBox w W b M v u) (ho : NOwn W w.heap.size x l) : ∃ W', W.setCell ⟨b + 2, 0, none⟩ x = W' ∧ DBox w W' b M v x ∧ NOwn W' w.heap.size x l := by
  have hc : Chg (fun i => i = b + 2) W (W.setCell ⟨b + 2, 0, none⟩ x) := Chg.setCell (S := fun i => i = b + 2) (Chg.refl _ _) _ (.inr rfl)
  refine ⟨_, rfl, ⟨box_chg h.b0 hc (by omega), box_chg h.b1 hc (by omega), box_setj (j := 0) h.b2, ((Chg.ofGrows h.g).trans (S := fun i => i = b + 2) hc).toGrows fun i hi e => by omega⟩, hc.own ho fun j hj e => ?_⟩
  obtain ⟨cur, hcur⟩ := gown_ty ho hj
  rw [e, h.b2] at hcur
  injection hcur with hcur
  injection hcur with _ hcur
  exact absurd hcur (by decide)
theorem DBox.cells {w W : World} {b M : Nat} {v u : Value} (h : DBox w W b M v u) : (W.cell? ⟨b, 0, none⟩ = some v ∧ W.cell? ⟨b, 1, none⟩ = some (.int .i64 (M : Int)) ∧ b < W.heap.size) ∧ (W.cell? ⟨b + 1, 0, none⟩ = some (.slice none 0 0) ∧ W.frozen? ⟨b + 1, 0, none⟩ = false ∧ W.cell? ⟨b + 1, 1, none⟩ = some (.int .i64 0) ∧ W.frozen? ⟨b + 1, 1, none⟩ = false ∧ b + 1 < W.heap.size) ∧
    W.cell? ⟨b + 2, 0, none⟩ = some u ∧ W.frozen? ⟨b + 2, 0, none⟩ = false ∧ W.cell? ⟨b + 2, 1, none⟩ = some (.int .i64 (M : Int)) ∧ b + 2 < W.heap.size :=
  ⟨⟨(cell_in h.b0 0 rfl).1, (cell_in h.b0 1 rfl).1, box_lt h.b0⟩, ⟨(cell_in h.b1 0 rfl).1, (cell_in h.b1 0 rfl).2, (cell_in h.b1 1 rfl).1, (cell_in h.b1 1 rfl).2, box_lt h.b1⟩, (cell_in h.b2 0 rfl).1, (cell_in h.b2 0 rfl).2, (cell_in h.b2 1 rfl).1, box_lt h.b2⟩
theorem dbox_new (w : World) (b M : Nat) (v : Value) (eb : w.heap.size = b) : ∃ W1, (w.alloc (.cells #[v, .int .i64 (M : Int)] TRD)).alloc (.cells #[.slice none 0 0, .int .i64 0] TRD) = W1 ∧ NBox w W1 b M v ∧ W1.heap.size = b + 2 ∧ DBox w (W1.alloc (.cells #[.slice none 0 0, .int .i64 (M : Int)] TRD)) b M v (.slice none 0 0) := by
  obtain ⟨W1, e1, h1⟩ := nbox_new w b M v eb
  have hs : W1.heap.size = b + 2 := by rw [← e1]; simp [eb]
  have hg : Grows W1 (W1.alloc (.cells #[.slice none 0 0, .int .i64 (M : Int)] TRD)) := bl_alloc (Below.refl _ _) _
  refine ⟨W1, e1, h1, hs, ⟨box_grows h1.b0 hg, box_grows h1.b1 hg, ?_, grows_trans _ _ _ h1.g hg⟩⟩
  rw [← hs]
  exact heap_alloc_new W1 _
/-- A region of which only the common end is asked. -/
theorem wp_normal {P : Program} {c : Code} {Q : Exit → Act → World → Prop} {a : Act} {w : World} (h : c.wp P (fun e a' w' => match e with | .normal => Q .normal a' w' | _ => False) a w) : c.wp P Q a w :=
  wp_mono h fun e a' w' hq => by cases e <;> first | exact hq | exact hq.elim
theorem ndrop_any {v : Value} {l : NL} {w : World} {base M : Nat} (fr be : Int) (h : NOwn w base v l) (hm : l.length ≤ 1000) :
    Calls Try.prog 17 #[nval v M, .int .i64 fr, .int .i64 be] w (fun e w' => ∃ a n c, e = .returned (nval (.slice a n c) M) ∧ Grows w w' ∧ NOwn w' w.heap.size (.slice a n c) (keepN l (outF fr be))) := by
  obtain ⟨n, en⟩ : ∃ n, l.length = n := ⟨_, rfl⟩
  obtain ⟨a, cap, rfl⟩ := NOwn.len h en
  obtain ⟨b, eb⟩ : ∃ b, w.heap.size = b := ⟨_, rfl⟩
  obtain ⟨W1, e1, hn1, hs1, hd1⟩ := dbox_new w b M (.slice a n cap) eb
  have H1 := Lib.hid hd1
  have HH := Lib.hid h
  have EN := Lib.hid en
  have HM := Lib.hid hm
  have EB := Lib.hid eb
  obtain ⟨⟨s0, s1, z0⟩, m0, f0, m1, f1, z1⟩ := hn1.cells
  clear h hm en hn1 hd1
  simp only [nval]
  go_enter Try.func17, Try.ntmps17
  go_wp2_with fail
  clear s0 s1 z0 m0 f0 m1 f1 z1 e1 hs1
  go_loopw [8] (fun iv wr => ∃ (i : Nat) (lv : Value), iv = .int .i64 (i : Int) ∧ i ≤ n ∧ NOwn wr w.heap.size lv (keepN (l.take i) (outF fr be)) ∧ DBox w wr b M (.slice a n cap) lv) (fun iv _ => n - (intOf iv).toNat)
  case atStart => exact ⟨0, _, rfl, Nat.zero_le _, World.ownsRow_nil _ _ _ _, H1.out⟩
  case round =>
    obtain ⟨i, lv, rfl, hi, ho, hd⟩ := hrel
    have HO := Lib.hid ho
    have HD := Lib.hid hd
    obtain ⟨⟨s0, s1, z0⟩, -, m0, f0, m1, z1⟩ := hd.cells
    clear ho hd
    by_cases hlt : i < n
    · have hn6 : i ≤ 1000000 := Nat.le_trans (Nat.le_of_lt hlt) (by rw [← EN.out]; exact Nat.le_trans HM.out (by decide))
      have HNF := Lib.hid (nat_facts i hn6)
      have HWS := Lib.hid (wrap_succ hn6)
      have HLT := Lib.hid hlt
      have hnl : i < l.length := by rw [EN.out]; exact hlt
      obtain ⟨g, o, c', he, hcap, hgl, hat⟩ := NOwn.form (own_grows HH.out HD.out.g) EN.out (Nat.lt_of_le_of_lt (Nat.zero_le _) hlt)
      simp only [Value.slice.injEq, true_and] at he
      obtain ⟨rfl, rfl⟩ := he
      obtain ⟨p0, p1⟩ := nat_cells hat i hnl
      obtain ⟨y, ey⟩ : ∃ y, l[i] = y := ⟨_, rfl⟩
      rw [ey] at p0 p1
      have HKT := Lib.hid (keep_take (F := outF fr be) hnl ey)
      have hki : (i : Int) < (n : Int) := Int.ofNat_lt.2 hlt
      have hkl : (keepN (l.take i) (outF fr be)).length ≤ 1000 := Nat.le_trans (keep_len _ _) (Nat.le_trans (List.length_take_le' _ _) HM.out)
      have HKL := Lib.hid hkl
      clear hkl ey hat hnl hcap hlt hn6 hi
      obtain ⟨j1, j2, j3, j4, j6⟩ := HNF.out
      have hcase : (outF fr be y.1 = true ∧ y.1 < fr ∧ decide (y.1 < fr) = true) ∨ (outF fr be y.1 = true ∧ ¬ y.1 < fr ∧ be ≤ y.1 ∧ decide (y.1 < fr) = false ∧ decide (be ≤ y.1) = true) ∨ (outF fr be y.1 = false ∧ ¬ y.1 < fr ∧ ¬ be ≤ y.1 ∧ decide (y.1 < fr) = false ∧ decide (be ≤ y.1) = false) := by
        unfold outF
        by_cases h1 : y.1 < fr
        · exact .inl (by simp [h1])
        · by_cases h2 : be ≤ y.1
          · exact .inr (.inl (by simp [h1, h2]))
          · exact .inr (.inr (by simp [h1, h2]))
      rcases hcase with ⟨hk, hc1, hc2⟩ | ⟨hk, hc1, hc2, hc3, hc4⟩ | ⟨hk, hc1, hc2, hc3, hc4⟩
      all_goals (have HK := Lib.hid hk; clear hk)
      · go_wp2_with fail
        refine wp_normal ?_
        go_region_law (refine step_gapp2 kindNote (wc := w) rfl (.tmp 38) (.tmp 44) rfl (l := keepN (l.take i) (outF fr be)) (m := [y]) (by simp [Act.eval, Act.put] <;> rfl) (by simp [Act.eval, Act.put] <;> rfl) (grows_trans _ _ _ HD.out.g (bl_drew (bl_alloc (Below.refl _ _) _))) (own_grows HO.out (bl_drew (bl_alloc (Below.refl _ _) _))) (gsrc_box (x := y) (T := TNO) (drew_at (new_at _ rfl))) (by simp only [List.length_singleton]; have := HKL.out; omega) ?_; intro p5 n5 c5 W5 e5 o5 G5 b5; have hd5 := DBox.kept (HD.out.grows (bl_drew (bl_alloc (Below.refl _ _) _))) b5 (own_grows HO.out (bl_drew (bl_alloc (Below.refl _ _) _))); obtain ⟨-, -, k0, kf, k1, kz⟩ := hd5.cells; obtain ⟨W6, e6, d6, o6⟩ := DBox.set EB.out hd5 o5; have H6 := Lib.hid (And.intro d6 o6); clear hd5 d6 o6 o5 G5 b5 e5)
        all_goals (
          go_wp2_with fail
          go_roundw)
        repeat (case rel => exact ⟨i + 1, _, by rw [HWS.out]; rfl, HLT.out, by rw [HKT.out, HK.out]; exact H6.out.2, H6.out.1⟩)
        repeat (case measure => rw [HWS.out]; exact meas_succ HLT.out)
      · go_wp2_with fail
        refine wp_normal ?_
        go_region_law (refine step_gapp2 kindNote (wc := w) rfl (.tmp 38) (.tmp 44) rfl (l := keepN (l.take i) (outF fr be)) (m := [y]) (by simp [Act.eval, Act.put] <;> rfl) (by simp [Act.eval, Act.put] <;> rfl) (grows_trans _ _ _ HD.out.g (bl_drew (bl_alloc (Below.refl _ _) _))) (own_grows HO.out (bl_drew (bl_alloc (Below.refl _ _) _))) (gsrc_box (x := y) (T := TNO) (drew_at (new_at _ rfl))) (by simp only [List.length_singleton]; have := HKL.out; omega) ?_; intro p5 n5 c5 W5 e5 o5 G5 b5; have hd5 := DBox.kept (HD.out.grows (bl_drew (bl_alloc (Below.refl _ _) _))) b5 (own_grows HO.out (bl_drew (bl_alloc (Below.refl _ _) _))); obtain ⟨-, -, k0, kf, k1, kz⟩ := hd5.cells; obtain ⟨W6, e6, d6, o6⟩ := DBox.set EB.out hd5 o5; have H6 := Lib.hid (And.intro d6 o6); clear hd5 d6 o6 o5 G5 b5 e5)
        all_goals (
          go_wp2_with fail
          go_roundw)
        repeat (case rel => exact ⟨i + 1, _, by rw [HWS.out]; rfl, HLT.out, by rw [HKT.out, HK.out]; exact H6.out.2, H6.out.1⟩)
        repeat (case measure => rw [HWS.out]; exact meas_succ HLT.out)
      · go_wp2_with fail
        go_roundw
        case rel => exact ⟨i + 1, lv, by rw [HWS.out]; rfl, HLT.out, by rw [HKT.out, HK.out]; simpa using HO.out, HD.out⟩
        case measure => rw [HWS.out]; exact meas_succ HLT.out
    · obtain rfl : i = n := Nat.le_antisymm hi (Nat.le_of_not_lt hlt)
      have ho := HO.out
      rw [List.take_of_length_le (by rw [EN.out]; exact Nat.le_refl _)] at ho
      have HO2 := Lib.hid ho
      obtain ⟨a8, c8, rfl⟩ := NOwn.len ho rfl
      obtain ⟨n8, en8⟩ : ∃ n8, (keepN l (outF fr be)).length = n8 := ⟨_, rfl⟩
      rw [en8] at HO2 HD m0
      obtain ⟨W', e', i0, i1, gA, oA⟩ := nput_end (M := M) EB.out HD.out.g HD.out.b1 HO2.out
      have HX := Lib.hid (And.intro i0 (And.intro i1 (And.intro gA oA)))
      obtain ⟨-, ⟨m2, f2, m3, f3, z3⟩, -⟩ := HD.out.cells
      clear i0 i1 gA oA ho hlt hi en8
      go_wp2_with fail
      obtain ⟨i0, i1, gA, oA⟩ := HX.out
      exact bodyPost_ret (v := nval (.slice a8 n8 c8) M) (by simp [results, Try.results17, go_sem, i0, i1]) rfl ⟨a8, n8, c8, rfl, gA, oA⟩
end Go.Proofs.Ytgjieoljfcfacaa
