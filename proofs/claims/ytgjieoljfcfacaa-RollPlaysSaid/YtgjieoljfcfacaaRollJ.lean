/- The document's Put and Drop. -/
import Derived.Test.YtgjieoljfcfacaaRollI
import Derived.Test.YtgjieoljfcfacaaStep
namespace Go.Proofs.Ytgjieoljfcfacaa
open Go.RowKit Go.Sort
set_option maxHeartbeats 4000000
set_option maxRecDepth 100000
/-- What Put leaves. -/
def NPut (w : World) (base : Nat) (l : NL) (M : Nat) (no f : Int) (e : Ending) (w' : World) : Prop :=
  ∃ a n c, e = .returned (.tuple #[nval (.slice a n c) M, .int .i64 (putN l M no f)]) ∧ Grows w w' ∧ NOwn w' base (.slice a n c) (if putN l M no f = 0 then l ++ [(no, f)] else l)
theorem box2_set {w : World} {p : Nat} {c0 c1 u0 u1 : Value} {T : TypeId} (h : w.heap[p]? = some (.cells #[c0, c1] T (0, 0))) : ((w.setCell ⟨p, 0, none⟩ u0).setCell ⟨p, 1, none⟩ u1).heap[p]? = some (.cells #[u0, u1] T (0, 0)) ∧ Chg (fun j => j = p) w ((w.setCell ⟨p, 0, none⟩ u0).setCell ⟨p, 1, none⟩ u1) :=
  ⟨box_setj (j := 1) (box_setj (j := 0) h), Chg.setCell (S := fun i => i = p) (Chg.setCell (S := fun i => i = p) (Chg.refl _ _) _ (.inr rfl)) _ (.inr rfl)⟩
/-- The end of Put: what is stored in the result's box. -/
theorem nput_end {w W : World} {b base M : Nat} {v : Value} {l : NL} (eb : w.heap.size = b) (hg : Grows w W) (h1 : W.heap[b + 1]? = some (.cells #[.slice none 0 0, .int .i64 0] TRD (0, 0))) (ho : NOwn W base v l) :
    ∃ W', (W.setCell ⟨b + 1, 0, none⟩ v).setCell ⟨b + 1, 1, none⟩ (.int .i64 (M : Int)) = W' ∧ W'.cell? ⟨b + 1, 0, none⟩ = some v ∧ W'.cell? ⟨b + 1, 1, none⟩ = some (.int .i64 (M : Int)) ∧ Grows w W' ∧ NOwn W' base v l := by
  obtain ⟨h2, hc⟩ := box2_set (u0 := v) (u1 := .int .i64 (M : Int)) h1
  refine ⟨_, rfl, (cell_in h2 0 rfl).1, (cell_in h2 1 rfl).1, ((Chg.ofGrows hg).trans (S := fun i => i = b + 1) hc).toGrows fun i hi e => by omega, hc.own ho fun j hj e => ?_⟩
  obtain ⟨cur, hcur⟩ := gown_ty ho hj
  rw [e, h1] at hcur
  injection hcur with hcur
  injection hcur with _ hcur
  exact absurd hcur (by decide)
theorem nput_bad {v : Value} {l : NL} {w : World} {base M : Nat} (no f : Int) (h : NOwn w base v l) (hf : f < 0 ∨ 63 < f) :
    Calls Try.prog 19 #[nval v M, .int .i64 no, .int .i64 f] w (NPut w base l M no f) := by
  obtain ⟨n, en⟩ : ∃ n, l.length = n := ⟨_, rfl⟩
  obtain ⟨a, cap, rfl⟩ := NOwn.len h en
  have hp : putN l M no f = 8 := by unfold putN; rw [if_pos hf]
  obtain ⟨b, eb⟩ : ∃ b, w.heap.size = b := ⟨_, rfl⟩
  have h2 := two_new w (.cells #[.slice a n cap, .int .i64 (M : Int)] TRD) (.cells #[.slice none 0 0, .int .i64 0] TRD)
  obtain ⟨W, eW⟩ : ∃ W, (w.alloc (.cells #[.slice a n cap, .int .i64 (M : Int)] TRD)).alloc (.cells #[.slice none 0 0, .int .i64 0] TRD) = W := ⟨_, rfl⟩
  have hg : Grows w W := by rw [← eW]; exact bl_alloc (bl_alloc (Below.refl _ _) _) _
  rw [eW, eb] at h2
  obtain ⟨W', e', i0, i1, gA, oA⟩ := nput_end (M := M) eb hg h2.2 (own_grows h hg)
  have HX := Lib.hid (And.intro i0 (And.intro i1 (And.intro gA oA)))
  have HP := Lib.hid hp
  obtain ⟨s0, -⟩ := cell_in h2.1 0 rfl
  obtain ⟨s1, -⟩ := cell_in h2.1 1 rfl
  obtain ⟨m0, f0⟩ := cell_in h2.2 0 rfl
  obtain ⟨m1, f1⟩ := cell_in h2.2 1 rfl
  have z0 := box_lt h2.1
  have z1 := box_lt h2.2
  have q1 : (b + 1 = b) = False := eq_false (by omega)
  have q2 : (b = b + 1) = False := eq_false (by omega)
  clear h en hp h2 hg i0 i1 gA oA
  simp only [nval]
  rcases hf with hf | hf
  · go_enter Try.func19, Try.ntmps19
    go_wp2_with fail
    obtain ⟨i0, i1, gA, oA⟩ := HX.out
    exact bodyPost_ret (v := .tuple #[nval (.slice a n cap) M, .int .i64 8]) (by simp [results, Try.results19, go_sem, i0, i1]) rfl ⟨a, n, cap, by rw [HP.out], gA, by rw [HP.out]; exact oA⟩
  · have hf0 : ¬ f < 0 := by omega
    go_enter Try.func19, Try.ntmps19
    go_wp2_with fail
    obtain ⟨i0, i1, gA, oA⟩ := HX.out
    exact bodyPost_ret (v := .tuple #[nval (.slice a n cap) M, .int .i64 8]) (by simp [results, Try.results19, go_sem, i0, i1]) rfl ⟨a, n, cap, by rw [HP.out], gA, by rw [HP.out]; exact oA⟩
/-- What Put's boxes hold. -/
structure NBox (w W : World) (b M : Nat) (v : Value) : Prop where
  b0 : W.heap[b]? = some (.cells #[v, .int .i64 (M : Int)] TRD (0, 0))
  b1 : W.heap[b + 1]? = some (.cells #[.slice none 0 0, .int .i64 0] TRD (0, 0))
  g : Grows w W
theorem NBox.grows {w W W' : World} {b M : Nat} {v : Value} (h : NBox w W b M v) (hg : Grows W W') : NBox w W' b M v := ⟨box_grows h.b0 hg, box_grows h.b1 hg, grows_trans _ _ _ h.g hg⟩
theorem NBox.cells {w W : World} {b M : Nat} {v : Value} (h : NBox w W b M v) : (W.cell? ⟨b, 0, none⟩ = some v ∧ W.cell? ⟨b, 1, none⟩ = some (.int .i64 (M : Int)) ∧ b < W.heap.size) ∧ W.cell? ⟨b + 1, 0, none⟩ = some (.slice none 0 0) ∧ W.frozen? ⟨b + 1, 0, none⟩ = false ∧ W.cell? ⟨b + 1, 1, none⟩ = some (.int .i64 0) ∧ W.frozen? ⟨b + 1, 1, none⟩ = false ∧ b + 1 < W.heap.size :=
  ⟨⟨(cell_in h.b0 0 rfl).1, (cell_in h.b0 1 rfl).1, box_lt h.b0⟩, (cell_in h.b1 0 rfl).1, (cell_in h.b1 0 rfl).2, (cell_in h.b1 1 rfl).1, (cell_in h.b1 1 rfl).2, box_lt h.b1⟩
theorem nbox_new (w : World) (b M : Nat) (v : Value) (eb : w.heap.size = b) : ∃ W, (w.alloc (.cells #[v, .int .i64 (M : Int)] TRD)).alloc (.cells #[.slice none 0 0, .int .i64 0] TRD) = W ∧ NBox w W b M v := by
  have h2 := two_new w (.cells #[v, .int .i64 (M : Int)] TRD) (.cells #[.slice none 0 0, .int .i64 0] TRD)
  rw [eb] at h2
  exact ⟨_, rfl, h2.1, h2.2, bl_alloc (bl_alloc (Below.refl _ _) _) _⟩
theorem nput_dup {v : Value} {l : NL} {w : World} {base M : Nat} (no f : Int) (h : NOwn w base v l) (hm : l.length ≤ 1000) (hf : 0 ≤ f ∧ f < 64) (hd : hasN (setN l no) f = true) :
    Calls Try.prog 19 #[nval v M, .int .i64 no, .int .i64 f] w (NPut w base l M no f) := by
  obtain ⟨n, en⟩ : ∃ n, l.length = n := ⟨_, rfl⟩
  obtain ⟨a, cap, rfl⟩ := NOwn.len h en
  have hp : putN l M no f = 12 := by unfold putN; rw [if_neg (by omega), if_pos hd]
  obtain ⟨b, eb⟩ : ∃ b, w.heap.size = b := ⟨_, rfl⟩
  obtain ⟨W, eW, hbx⟩ := nbox_new w b M (.slice a n cap) eb
  have HBX := Lib.hid hbx
  have HS := Lib.hid (fun W' (hg : Grows w W') => nset_any (M := M) no (own_grows h hg) hm)
  have HR := Lib.hid (fun W => rhas_any (setN l no) f (setN_lt l no) W)
  rw [hd] at HR
  have HH := Lib.hid h
  have HP := Lib.hid hp
  have EB := Lib.hid eb
  obtain ⟨⟨s0, s1, z0⟩, m0, f0, m1, f1, z1⟩ := hbx.cells
  have q1 : (b + 1 = b) = False := eq_false (by omega)
  have q2 : (b = b + 1) = False := eq_false (by omega)
  obtain ⟨k1, k2⟩ := hf
  have k3 : ¬ f < 0 := by omega
  have k4 : ¬ 63 < f := by omega
  clear h en hp hbx hd hm
  simp only [nval]
  go_enter Try.func19, Try.ntmps19
  go_wp2_with fail
  refine (HS.out _ HBX.out.g).mono ?_
  rintro e w1 ⟨rfl, hg1⟩
  have HB1 := Lib.hid (HBX.out.grows hg1)
  clear hg1 s0 s1 z0 m0 f0 m1 f1 z1 eW
  obtain ⟨W', e', i0, i1, gA, oA⟩ := nput_end (M := M) EB.out HB1.out.g HB1.out.b1 (own_grows HH.out HB1.out.g)
  have HX := Lib.hid (And.intro i0 (And.intro i1 (And.intro gA oA)))
  obtain ⟨⟨s0, s1, z0⟩, m0, f0, m1, f1, z1⟩ := HB1.out.cells
  clear i0 i1 gA oA
  go_wp2_with fail
  refine (HR.out _).mono ?_
  rintro e w2 ⟨rfl, rfl⟩
  go_wp2_with fail
  obtain ⟨i0, i1, gA, oA⟩ := HX.out
  exact bodyPost_ret (v := .tuple #[nval (.slice a n cap) M, .int .i64 12]) (by simp [results, Try.results19, go_sem, i0, i1]) rfl ⟨a, n, cap, by rw [HP.out], gA, by rw [HP.out]; exact oA⟩
theorem nput_full {v : Value} {l : NL} {w : World} {base M : Nat} (no f : Int) (h : NOwn w base v l) (hm : l.length ≤ 1000) (hf : 0 ≤ f ∧ f < 64) (hd : hasN (setN l no) f = false) (h0 : setN l no = 0) (hM : M ≤ (numsN l).length) :
    Calls Try.prog 19 #[nval v M, .int .i64 no, .int .i64 f] w (NPut w base l M no f) := by
  obtain ⟨n, en⟩ : ∃ n, l.length = n := ⟨_, rfl⟩
  obtain ⟨a, cap, rfl⟩ := NOwn.len h en
  have hp : putN l M no f = 13 := by unfold putN; rw [if_neg (by omega), if_neg (by rw [hd]; simp), if_pos ⟨h0, hM⟩]
  obtain ⟨b, eb⟩ : ∃ b, w.heap.size = b := ⟨_, rfl⟩
  obtain ⟨W, eW, hbx⟩ := nbox_new w b M (.slice a n cap) eb
  have HBX := Lib.hid hbx
  have HS := Lib.hid (fun W' (hg : Grows w W') => nset_any (M := M) no (own_grows h hg) hm)
  have HR := Lib.hid (fun W => rhas_any (setN l no) f (setN_lt l no) W)
  have HNU := Lib.hid (fun W' (hg : Grows w W') => nnums_any (M := M) (own_grows h hg) hm)
  rw [hd] at HR
  rw [h0] at HS HR
  obtain ⟨z, ez⟩ : ∃ z, (numsN l).length = z := ⟨_, rfl⟩
  rw [ez] at HNU hM
  have HH := Lib.hid h
  have HP := Lib.hid hp
  have EB := Lib.hid eb
  obtain ⟨⟨s0, s1, z0⟩, m0, f0, m1, f1, z1⟩ := hbx.cells
  have q1 : (b + 1 = b) = False := eq_false (by omega)
  have q2 : (b = b + 1) = False := eq_false (by omega)
  obtain ⟨k1, k2⟩ := hf
  have k3 : ¬ f < 0 := by omega
  have k4 : ¬ 63 < f := by omega
  have k5 : (M : Int) ≤ (z : Int) := Int.ofNat_le.2 hM
  clear h en hp hbx hd hm h0 hM ez
  simp only [nval]
  go_enter Try.func19, Try.ntmps19
  go_wp2_with fail
  refine (HS.out _ HBX.out.g).mono ?_
  rintro e w1 ⟨rfl, hg1⟩
  have HB1 := Lib.hid (HBX.out.grows hg1)
  clear hg1 s0 s1 z0 m0 f0 m1 f1 z1 eW
  obtain ⟨⟨s0, s1, z0⟩, m0, f0, m1, f1, z1⟩ := HB1.out.cells
  go_wp2_with fail
  refine (HR.out _).mono ?_
  rintro e w2 ⟨rfl, rfl⟩
  go_wp2_with fail
  go_cut [32] (fun c wx => c = .bool true ∧ Grows w1 wx)
  case first =>
    have KS := Lib.hid (fun W' (hg : Grows w1 W') => show Grows w1 W' ∧ W'.cell? ⟨b, 0, none⟩ = some (.slice a n cap) ∧ W'.cell? ⟨b, 1, none⟩ = some (.int .i64 (M : Int)) from ⟨hg, (HB1.out.grows hg).cells.1.1, (HB1.out.grows hg).cells.1.2.1⟩)
    clear s0 s1 z0 m0 f0 m1 f1 z1
    go_region_held3 (fun w' => Grows w1 w' ∧ w'.cell? ⟨b, 0, none⟩ = some (.slice a n cap) ∧ w'.cell? ⟨b, 1, none⟩ = some (.int .i64 (M : Int)))
      ((exact KS.out _ (by show Below w1.heap.size w1 _; (repeat (first | with_reducible exact Below.refl _ _ | with_reducible refine bl_alloc ?_ _ | ((with_reducible refine bl_set ?_ ?_ _); rotate_left; (first | exact Nat.le_refl _ | exact Nat.le_succ_of_le (Nat.le_refl _) | (simp only []; omega))) | with_reducible refine bl_drewN ?_ _ | with_reducible refine bl_drew ?_ | with_reducible refine bl_reg ?_ _)))))
      ((go_at_call 18; refine (HNU.out _ (grows_trans _ _ _ HB1.out.g (by show Below w1.heap.size w1 _; (repeat (first | with_reducible exact Below.refl _ _ | with_reducible refine bl_alloc ?_ _ | ((with_reducible refine bl_set ?_ ?_ _); rotate_left; (first | exact Nat.le_refl _ | exact Nat.le_succ_of_le (Nat.le_refl _) | (simp only []; omega))) | with_reducible refine bl_drewN ?_ _ | with_reducible refine bl_drew ?_ | with_reducible refine bl_reg ?_ _))))).mono ?_; rintro e w7 ⟨a5, c5, rfl, hg7, -⟩; obtain ⟨p7, rfl⟩ := regr hg7))
    all_goals (
      go_wp2_with fail
      go_meet
      refine ⟨rfl, ?_⟩
      show Below w1.heap.size w1 _
      (repeat (first | with_reducible exact Below.refl _ _ | with_reducible refine bl_alloc ?_ _ | ((with_reducible refine bl_set ?_ ?_ _); rotate_left; (first | exact Nat.le_refl _ | exact Nat.le_succ_of_le (Nat.le_refl _) | (simp only []; omega))) | with_reducible refine bl_drewN ?_ _ | with_reducible refine bl_drew ?_ | with_reducible refine bl_reg ?_ _)))
  case rest =>
    obtain ⟨rfl, hg2⟩ := hcut
    have HB2 := Lib.hid (HB1.out.grows hg2)
    clear hg2 s0 s1 z0 m0 f0 m1 f1 z1
    obtain ⟨W', e', i0, i1, gA, oA⟩ := nput_end (M := M) EB.out HB2.out.g HB2.out.b1 (own_grows HH.out HB2.out.g)
    have HX := Lib.hid (And.intro i0 (And.intro i1 (And.intro gA oA)))
    obtain ⟨⟨s0, s1, z0⟩, m0, f0, m1, f1, z1⟩ := HB2.out.cells
    clear i0 i1 gA oA
    go_wp2_with fail
    obtain ⟨i0, i1, gA, oA⟩ := HX.out
    exact bodyPost_ret (v := .tuple #[nval (.slice a n cap) M, .int .i64 13]) (by simp [results, Try.results19, go_sem, i0, i1]) rfl ⟨a, n, cap, by rw [HP.out], gA, by rw [HP.out]; exact oA⟩
end Go.Proofs.Ytgjieoljfcfacaa
