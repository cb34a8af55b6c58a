/- The document's Put, where the note goes in. -/
import Derived.Test.YtgjieoljfcfacaaRollJ
import Derived.Deep.RegionHeld3
namespace Go.Proofs.Ytgjieoljfcfacaa
open Go.RowKit Go.Sort
set_option maxHeartbeats 4000000
set_option maxRecDepth 100000
/-- An append within a region: the world still grows. -/
theorem step_gapp2 {α : Type} {f : α → List Value} {k : Nat} {TS E : TypeId} {z : Value} {bytes : Nat} (K : RowKind f k TS E z bytes) {ops : Array Oper} {o : Oper} {a : Act} {wc w : World} {KK : Act → World → Prop} {Q : Exit → Act → World → Prop} {EE : Prop} (hgd : o.guard = none) (d x : Operand)
    (ho : o.op = .call { callee := .builtin .append, args := #[d, x], argTypes := #[TS, TS] }) {v u : Value} {l m : List α} (hd : a.eval d = v) (hx : a.eval x = u) (hg : Grows wc w) (own : GOwn f k E w wc.heap.size v l) (src : GSrc f w u m) (hm : l.length + m.length ≤ 100000)
    (hK : ∀ p n c w', n = (l ++ m).length → GOwn f k E w' wc.heap.size (.slice p n c) (l ++ m) → Grows wc w' → w.grownBy w' v.ownBlock → KK (a.put o.dst (.slice p n c)) w') : if Region.wanted o (yielded ops a.tmps) = true then Oper.wp Try.prog o a w KK Q else EE :=
  step_gapp K hgd d x ho hd hx own src hm hg.size fun v' w' h1 h2 => by
    obtain ⟨p, c, rfl⟩ := GOwn.len K.len h1 rfl
    exact hK p _ c w' rfl h1 (grows_of_grownBy hg h2 fun k hk => (own.lt k hk).1) h2
theorem new_at {w : World} {p : Nat} (o : Obj) (h : w.heap.size = p) : (w.alloc o).heap[p]? = some o := by subst h; exact heap_alloc_new w o
theorem old_at {w : World} {p : Nat} {o : Obj} (o' : Obj) (h : w.heap[p]? = some o) : (w.alloc o').heap[p]? = some o := box_grows h (bl_alloc (Below.refl _ _) _)
theorem drew_at {w : World} {p : Nat} {o : Obj} (h : w.heap[p]? = some o) : w.drew.heap[p]? = some o := box_grows h (bl_drew (Below.refl _ _))
theorem gown_box {w : World} {p base : Nat} (h : w.heap[p]? = some (.cells #[] TNO (0, 0))) (hb : base ≤ p) : NOwn w base (.slice (some ⟨p, 0, none⟩) 0 0) [] :=
  ⟨rfl, .inr ⟨p, 0, #[], rfl, hb, h, Nat.le_refl _, by decide, rfl, rfl⟩⟩
theorem gsrc_box {w : World} {p : Nat} {x : Int × Int} {T : TypeId} (h : w.heap[p]? = some (.cells #[.int .i64 x.1, .int .i64 x.2] T (0, 0))) : GSrc nc w (.slice (some ⟨p, 0, none⟩) 1 1) [x] :=
  .inr ⟨_, 1, rfl, fun j u hj => by
    rw [addr_add, Nat.zero_add]
    exact (cell_in h j (by simpa using hj)).1⟩
theorem nput_end2 {w W : World} {b base M : Nat} {u v : Value} {l : NL} (eb : w.heap.size = b) (h : NBox w W b M u) (ho : NOwn W base v l) :
    ∃ W', (W.setCell ⟨b + 1, 0, none⟩ v).setCell ⟨b + 1, 1, none⟩ (.int .i64 (M : Int)) = W' ∧ Hid (W'.cell? ⟨b, 0, none⟩ = some u ∧ W'.cell? ⟨b, 1, none⟩ = some (.int .i64 (M : Int))) ∧ Hid (W'.cell? ⟨b + 1, 0, none⟩ = some v ∧ W'.cell? ⟨b + 1, 1, none⟩ = some (.int .i64 (M : Int)) ∧ Grows w W' ∧ NOwn W' base v l) := by
  obtain ⟨W', e, h1, h2, h3, h4⟩ := nput_end (M := M) eb h.g h.b1 ho
  obtain ⟨-, hc⟩ := box2_set (u0 := v) (u1 := .int .i64 (M : Int)) h.b1
  rw [e] at hc
  have hb := box_chg h.b0 hc (fun hs => by omega)
  exact ⟨W', e, Lib.hid ⟨(cell_in hb 0 rfl).1, (cell_in hb 1 rfl).1⟩, Lib.hid ⟨h1, h2, h3, h4⟩⟩
/-- The row ahead and the new note: two appends, in whatever order the blocks are made. -/
theorem nsrc_own {w : World} {base : Nat} {v : Value} {l : NL} (h : NOwn w base v l) : GSrc nc w v l := by
  rcases own_rows kindNote.len rfl h with ⟨rfl, rfl⟩ | ⟨g, cap, hv, _, _, _, h4⟩
  · exact .inl ⟨rfl, rfl⟩
  · rw [hv]; exact gsrc_all kindNote.len kindNote.k0 h4 cap
theorem nput_ok {v : Value} {l : NL} {w : World} {base M : Nat} (no f : Int) (h : NOwn w base v l) (hm : l.length ≤ 1000) (hbase : base ≤ w.heap.size) (hf : 0 ≤ f ∧ f < 64) (hd : hasN (setN l no) f = false) (h0 : ¬ (setN l no = 0 ∧ M ≤ (numsN l).length)) :
    Calls Try.prog 19 #[nval v M, .int .i64 no, .int .i64 f] w (NPut w base l M no f) := by
  obtain ⟨n, en⟩ : ∃ n, l.length = n := ⟨_, rfl⟩
  obtain ⟨a, cap, rfl⟩ := NOwn.len h en
  have hp : putN l M no f = 0 := by unfold putN; rw [if_neg (by omega), if_neg (by rw [hd]; simp), if_neg h0]
  obtain ⟨b, eb⟩ : ∃ b, w.heap.size = b := ⟨_, rfl⟩
  obtain ⟨W, eW, hbx⟩ := nbox_new w b M (.slice a n cap) eb
  have HBX := Lib.hid hbx
  have HS := Lib.hid (fun W' (hg : Grows w W') => nset_any (M := M) no (own_grows h hg) hm)
  have HR := Lib.hid (fun W => rhas_any (setN l no) f (setN_lt l no) W)
  have HNU := Lib.hid (fun W' (hg : Grows w W') => nnums_any (M := M) (own_grows h hg) hm)
  rw [hd] at HR
  obtain ⟨s, es⟩ : ∃ s, setN l no = s := ⟨_, rfl⟩
  rw [es] at HS HR h0
  obtain ⟨z, ez⟩ : ∃ z, (numsN l).length = z := ⟨_, rfl⟩
  rw [ez] at HNU h0
  have HH := Lib.hid h
  have HP := Lib.hid hp
  have EB := Lib.hid eb
  have H0 := Lib.hid h0
  have HM := Lib.hid hm
  have HBA := Lib.hid hbase
  obtain ⟨⟨s0, s1, z0⟩, m0, f0, m1, f1, z1⟩ := hbx.cells
  have q1 : (b + 1 = b) = False := eq_false (by omega)
  have q2 : (b = b + 1) = False := eq_false (by omega)
  obtain ⟨k1, k2⟩ := hf
  have k3 : ¬ f < 0 := by omega
  have k4 : ¬ 63 < f := by omega
  clear h en hp hbx hd hm h0 ez es hbase
  simp only [nval]
  go_enter Try.func19, Try.ntmps19
  go_wp2_with fail
  refine (HS.out _ HBX.out.g).mono ?_
  rintro e w1 ⟨rfl, hg1⟩
  have HB1 := Lib.hid (HBX.out.grows hg1)
  clear hg1 s0 s1 z0 m0 f0 m1 f1 z1 eW
  obtain ⟨⟨s0, s1, z0⟩, m0, f0, m1, f1, z1⟩ := HB1.out.cells
  go_wp2_with fail
  refine (HR.out _).mono ?_
  rintro e w2 ⟨rfl, rfl⟩
  go_wp2_with fail
  go_cut [32] (fun c wx => c = .bool false ∧ Grows w1 wx)
  case first =>
    by_cases hs : s = 0
    · have k5 : ¬ (M : Int) ≤ (z : Int) := fun h => H0.out ⟨hs, Int.ofNat_le.1 h⟩
      have k6 : decide ((M : Int) ≤ (z : Int)) = false := decide_eq_false k5
      have k7 : (z : Int) < (M : Int) := by omega
      have K8 := Lib.hid (show decide (M ≤ z) = false from decide_eq_false (fun h => k5 (Int.ofNat_le.2 h)))
      subst hs
      have KS := Lib.hid (fun W' (hg : Grows w1 W') => show Grows w1 W' ∧ W'.cell? ⟨b, 0, none⟩ = some (.slice a n cap) ∧ W'.cell? ⟨b, 1, none⟩ = some (.int .i64 (M : Int)) from ⟨hg, (HB1.out.grows hg).cells.1.1, (HB1.out.grows hg).cells.1.2.1⟩)
      clear s0 s1 z0 m0 f0 m1 f1 z1
      go_region_held3 (fun w' => Grows w1 w' ∧ w'.cell? ⟨b, 0, none⟩ = some (.slice a n cap) ∧ w'.cell? ⟨b, 1, none⟩ = some (.int .i64 (M : Int)))
        ((exact KS.out _ (by show Below w1.heap.size w1 _; (repeat (first | with_reducible exact Below.refl _ _ | with_reducible refine bl_alloc ?_ _ | ((with_reducible refine bl_set ?_ ?_ _); rotate_left; (first | exact Nat.le_refl _ | exact Nat.le_succ_of_le (Nat.le_refl _) | (simp only []; omega))) | with_reducible refine bl_drewN ?_ _ | with_reducible refine bl_drew ?_ | with_reducible refine bl_reg ?_ _)))))
        ((go_at_call 18; refine (HNU.out _ (grows_trans _ _ _ HB1.out.g (by show Below w1.heap.size w1 _; (repeat (first | with_reducible exact Below.refl _ _ | with_reducible refine bl_alloc ?_ _ | ((with_reducible refine bl_set ?_ ?_ _); rotate_left; (first | exact Nat.le_refl _ | exact Nat.le_succ_of_le (Nat.le_refl _) | (simp only []; omega))) | with_reducible refine bl_drewN ?_ _ | with_reducible refine bl_drew ?_ | with_reducible refine bl_reg ?_ _))))).mono ?_; rintro e w7 ⟨a5, c5, rfl, hg7, -⟩; obtain ⟨p7, rfl⟩ := regr hg7))
      all_goals (
        go_wp2_with fail
        go_meet
        refine ⟨by first | rfl | rw [K8.out], ?_⟩
        show Below w1.heap.size w1 _
        (repeat (first | with_reducible exact Below.refl _ _ | with_reducible refine bl_alloc ?_ _ | ((with_reducible refine bl_set ?_ ?_ _); rotate_left; (first | exact Nat.le_refl _ | exact Nat.le_succ_of_le (Nat.le_refl _) | (simp only []; omega))) | with_reducible refine bl_drewN ?_ _ | with_reducible refine bl_drew ?_ | with_reducible refine bl_reg ?_ _)))
    · have k5 : ((s : Int) == 0) = false := beq_false_of_ne (by omega)
      refine wp_region_reg (by kernel_rfl) (by kernel_rfl) ?_
      repeat (first | go_big_quiet_step ((fail)) | quiet_step ((fail)))
      refine wpQuiet_nil ?_
      intro _ hcw1
      obtain ⟨pq, hcw2⟩ := hcw1
      subst hcw2
      go_wp2_with fail
      go_meet
      exact ⟨rfl, below_reg _ _⟩
  case rest =>
    obtain ⟨rfl, hg2⟩ := hcut
    have HB2 := Lib.hid (HB1.out.grows hg2)
    clear hg2 s0 s1 z0 m0 f0 m1 f1 z1
    obtain ⟨⟨s0, s1, z0⟩, m0, f0, m1, f1, z1⟩ := HB2.out.cells
    go_wp2_with fail
    have KS := Lib.hid (fun W' (hg : Grows wc W') => show W'.cell? ⟨b, 0, none⟩ = some (.slice a n cap) ∧ W'.cell? ⟨b, 1, none⟩ = some (.int .i64 (M : Int)) from ⟨(HB2.out.grows hg).cells.1.1, (HB2.out.grows hg).cells.1.2.1⟩)
    have HSRC := Lib.hid (fun W' (hg : Grows wc W') => nsrc_own (own_grows HH.out (grows_trans _ _ _ HB2.out.g hg)))
    clear s0 s1 z0 m0 f0 m1 f1 z1
    go_region_held3 (fun w' => w'.cell? ⟨b, 0, none⟩ = some (.slice a n cap) ∧ w'.cell? ⟨b, 1, none⟩ = some (.int .i64 (M : Int)))
      ((first | exact K7.out | (rw [e']; exact K7.out) | exact KS.out _ G6 | exact KS.out _ G5 | exact KS.out _ (bl_alloc G5 _) | exact KS.out _ (by (show Below wc.heap.size wc _; (repeat (first | with_reducible exact Below.refl _ _ | with_reducible refine bl_alloc ?_ _ | ((with_reducible refine bl_set ?_ ?_ _); rotate_left; (first | exact Nat.le_refl _ | exact Nat.le_succ_of_le (Nat.le_refl _) | (simp only []; omega))) | with_reducible refine bl_drewN ?_ _ | with_reducible refine bl_drew ?_ | with_reducible refine bl_reg ?_ _))))))
      ((first
        | (refine step_gapp2 kindNote (wc := wc) rfl (.tmp 34) (.tmp 36) rfl (l := []) (m := l) (by simp [Act.eval, Act.put] <;> rfl) (by simp [Act.eval, Act.put] <;> rfl) (by show Below wc.heap.size wc _; (repeat (first | with_reducible exact Below.refl _ _ | with_reducible refine bl_alloc ?_ _ | ((with_reducible refine bl_set ?_ ?_ _); rotate_left; (first | exact Nat.le_refl _ | exact Nat.le_succ_of_le (Nat.le_refl _) | (simp only []; omega))) | with_reducible refine bl_drewN ?_ _ | with_reducible refine bl_drew ?_ | with_reducible refine bl_reg ?_ _))) (gown_box (by first | exact new_at _ (by simp) | exact old_at _ (new_at _ (by simp)) | exact drew_at (new_at _ (by simp)) | exact drew_at (old_at _ (new_at _ (by simp)))) (by simp)) (HSRC.out _ (by show Below wc.heap.size wc _; (repeat (first | with_reducible exact Below.refl _ _ | with_reducible refine bl_alloc ?_ _ | ((with_reducible refine bl_set ?_ ?_ _); rotate_left; (first | exact Nat.le_refl _ | exact Nat.le_succ_of_le (Nat.le_refl _) | (simp only []; omega))) | with_reducible refine bl_drewN ?_ _ | with_reducible refine bl_drew ?_ | with_reducible refine bl_reg ?_ _)))) (by simp only [List.length_nil]; have := HM.out; omega) ?_
           intro p5 n5 c5 W5 e5 o5 G5 b5
           rw [List.nil_append] at o5
           clear e5)
        | (refine step_gapp2 kindNote (wc := wc) rfl (.tmp 37) (.tmp 41) rfl (v := .slice p5 n5 c5) (l := l) (m := [(no, f)]) (by simp [Act.eval, Act.put]) (by simp [Act.eval, Act.put] <;> rfl) (by first | exact G5 | exact bl_alloc G5 _) (by first | exact o5 | exact own_grows o5 (bl_alloc (Below.refl _ _) _)) (by first | exact gsrc_one kindNote.len W5 (no, f) | exact gsrc_box (x := (no, f)) (T := TNO) (by rw [b5.block _ (by simp <;> omega) (by simp [Value.ownBlock])]; first | exact new_at _ (by simp) | exact old_at _ (new_at _ (by simp)) | exact drew_at (new_at _ (by simp)) | exact drew_at (old_at _ (new_at _ (by simp))))) (by simp only [List.length_singleton]; have := HM.out; omega) ?_
           intro p6 n6 c6 W6 e6 o6 G6 b6
           obtain ⟨⟨s0, s1, z0⟩, m0, f0, m1, f1, z1⟩ := (HB2.out.grows G6).cells
           obtain ⟨W', e', K7, HX⟩ := nput_end2 (M := M) EB.out (HB2.out.grows G6) (row_base o6 (Nat.le_trans HBA.out HB2.out.g.size))
           clear e6 b6)
        | fail))
    all_goals (
      go_wp2_with fail
      obtain ⟨i0, i1, gA, oA⟩ := HX.out
      exact bodyPost_ret (v := .tuple #[nval (.slice p6 n6 c6) M, .int .i64 0]) (by simp [results, Try.results19, go_sem, e', i0, i1]) rfl ⟨p6, n6, c6, by rw [HP.out], by first | exact gA | (rw [e']; exact gA), by rw [HP.out, if_pos rfl]; first | exact oA | (rw [e']; exact oA)⟩)
/-- The document's Put. -/
theorem nput_any {v : Value} {l : NL} {w : World} {base M : Nat} (no f : Int) (h : NOwn w base v l) (hm : l.length ≤ 1000) (hbase : base ≤ w.heap.size) :
    Calls Try.prog 19 #[nval v M, .int .i64 no, .int .i64 f] w (NPut w base l M no f) := by
  by_cases h1 : f < 0 ∨ 63 < f
  · exact nput_bad no f h h1
  · have hf : 0 ≤ f ∧ f < 64 := by omega
    by_cases h2 : hasN (setN l no) f = true
    · exact nput_dup no f h hm hf h2
    · have h2' : hasN (setN l no) f = false := by simpa using h2
      by_cases h3 : setN l no = 0 ∧ M ≤ (numsN l).length
      · exact nput_full no f h hm hf h2' h3.1 h3.2
      · exact nput_ok no f h hm hbase hf h2' h3
end Go.Proofs.Ytgjieoljfcfacaa
