/- One call, of a roll and of the document's notes: the walk. -/
import Derived.Test.YtgjieoljfcfacaaRollT
import Derived.Deep.RegionHeld3
namespace Go.Proofs.Ytgjieoljfcfacaa
open Go.RowKit Go.Sort Go.Maps
set_option maxHeartbeats 4000000
set_option maxRecDepth 100000
theorem one_put {w : World} {B b m M : Nat} {D : DataW Unit} {v : Value} {l : NL} (q no f : Int) (hk : q.tmod 5 = 0 ∨ q.tmod 5 = 1 ∨ q.tmod 5 = 2) (hno : (Lit.int .i64 no).wf = true) (h : RollAt w b m D M) (hr : RollR D l) (ho : NOwn w B v l) (hm : l.length ≤ 1000) (hBw : B ≤ w.heap.size) (hBb : B ≤ b) (hBm : B ≤ m) :
    Calls Try.prog 7 #[.pointer (some ⟨b, 0, none⟩), nval v M, .agg #[.int .u8 q, .int .i64 no, .int .i64 f]] w (OneTo w B b m M l) := by
  obtain ⟨n, en⟩ : ∃ n, l.length = n := ⟨_, rfl⟩
  obtain ⟨c, ec⟩ : ∃ c, w.heap.size = c := ⟨_, rfl⟩
  obtain ⟨a, cap, rfl⟩ := NOwn.len ho en
  have hq3 := three_new w (.cells #[.slice a n cap, .int .i64 (M : Int)] TRD) (.cells #[.int .u8 q, .int .i64 no, .int .i64 f] TRA) (.cells #[.slice none 0 0, .int .i64 0] TRD)
  have hg : Grows w (((w.alloc (.cells #[.slice a n cap, .int .i64 (M : Int)] TRD)).alloc (.cells #[.int .u8 q, .int .i64 no, .int .i64 f] TRA)).alloc (.cells #[.slice none 0 0, .int .i64 0] TRD)) := bl_alloc (bl_alloc (bl_alloc (Below.refl _ _) _) _) _
  obtain ⟨W, eW⟩ : ∃ W, ((w.alloc (.cells #[.slice a n cap, .int .i64 (M : Int)] TRD)).alloc (.cells #[.int .u8 q, .int .i64 no, .int .i64 f] TRA)).alloc (.cells #[.slice none 0 0, .int .i64 0] TRD) = W := ⟨_, rfl⟩
  rw [eW, ec] at hq3
  rw [eW] at hg
  have hb1 : b < c := by rw [← ec]; exact cell_lt h.c0
  have hm1 : m < c := by rw [← ec]; exact h.own.lt
  have hos : OS w W B b m c M D (.slice a n cap) l q no f := ⟨h.grows hg, own_grows ho hg, hq3.1, hq3.2.1, hq3.2.2, grownBy_of hg, hb1, hm1⟩
  have hsz := h.size hr
  have hnl : (numsN l).length ≤ 1000 := Nat.le_trans (nums_len l) hm
  obtain ⟨er, eer⟩ : ∃ er, putN l M no f = er := ⟨_, rfl⟩
  have herr := hr.err hsz M no f
  rw [eer] at herr
  have hnr := hr.note (by obtain ⟨es, hes, hap, _⟩ := own_ints h.own setLaw Try.underlying2; rw [hes]; exact ⟨es, rfl⟩) hsz M no f
  rw [eer] at hnr
  have HPUT := Lib.hid (fun W' (hg : W.grownBy W' (some m)) (hw : B ≤ W'.heap.size) => nput_any (M := M) no f (own_map hos.own hos.roll.own hg) hm hw)
  have hnote : ∀ W', Grows W W' → Calls Try.prog 10 #[.pointer (some ⟨b, 0, none⟩), .int .i64 no, .int .i64 f] W' (fun e w' => e = .returned (.int .i64 er) ∧ RollAt w' b m (noteD D M no f) M ∧ W'.grownBy w' (some m)) := fun W' hg => by
    have := note_any W' (hos.roll.grows hg) no f hno (by rw [hsz]; unfold maxLen; omega)
    rw [herr] at this
    exact this
  have HNOTE := Lib.hid hnote
  have H0 := Lib.hid hos
  have HR := Lib.hid hnr
  have EC := Lib.hid ec
  have HBW := Lib.hid hBw
  have EN := Lib.hid en
  have HG := Lib.hid hg
  obtain ⟨⟨s0, s1, z0⟩, ⟨t0, t1, t2, z1⟩, c0, c0f, c1, c1f, z2⟩ := hos.cells
  clear h hr ho hm hBw hBb hBm hno en hq3 hg hb1 hm1 hos hsz hnl herr hnr hnote
  rcases hk with hk | hk | hk
  all_goals (
    simp only [nval]
    go_enter Try.func7, Try.ntmps7
    go_wp2_with fail
    refine (HPUT.out _ (grown_same _ _) (Nat.le_trans HBW.out HG.out.size)).mono ?_
    rintro e w1 ⟨a1, n1, c1', rfl, hg1, ho1⟩
    rw [eer] at ho1
    obtain ⟨d, ed⟩ : ∃ d, w1.heap.size = d := ⟨_, rfl⟩
    have g2 : Grows w1 (w1.alloc (.cells #[.slice a1 n1 c1', .int .i64 (M : Int)] TRD)) := bl_alloc (Below.refl _ _) _
    have hd2 := heap_alloc_new w1 (.cells #[.slice a1 n1 c1', .int .i64 (M : Int)] TRD)
    obtain ⟨w2, e2⟩ : ∃ w2, w1.alloc (.cells #[.slice a1 n1 c1', .int .i64 (M : Int)] TRD) = w2 := ⟨_, rfl⟩
    rw [e2] at g2
    rw [e2, ed] at hd2
    have hg12 := grows_trans _ _ _ hg1 g2
    have H2 := Lib.hid (H0.out.grows hg12)
    have O2 := Lib.hid (own_grows ho1 g2)
    have D2 := Lib.hid hd2
    have HN2 := Lib.hid (fun W' (hg : Grows w2 W') => HNOTE.out W' (grows_trans _ _ _ hg12 hg))
    have HDC := Lib.hid (show d ≠ c + 1 + 1 by have := box_lt (box_grows H0.out.h2 hg1); omega)
    have E2 := Lib.hid (And.intro e2 ed)
    clear s0 s1 z0 t0 t1 t2 z1 c0 c0f c1 c1f z2 ho1 hd2 e2 ed hg1 g2 hg12
    simp only [nval, eer]
    go_wp2_with fail
    rw [E2.out.1, E2.out.2]
    have KS := Lib.hid (fun W' (hg : Chg (fun j => j = m ∨ j = c + 1 + 1) w2 W') => show W'.cell? ⟨d, 0, none⟩ = some (.slice a1 n1 c1') ∧ W'.cell? ⟨d, 1, none⟩ = some (.int .i64 (M : Int)) ∧ W'.cell? ⟨c + 1, 1, none⟩ = some (.int .i64 no) ∧ W'.cell? ⟨c + 1, 2, none⟩ = some (.int .i64 f) from
      ⟨(cell_in (H2.out.stay D2.out HDC.out hg) 0 rfl).1, (cell_in (H2.out.stay D2.out HDC.out hg) 1 rfl).1, (cell_in (H2.out.stay H2.out.h1 (by omega) hg) 1 rfl).1, (cell_in (H2.out.stay H2.out.h1 (by omega) hg) 2 rfl).1⟩)
    go_region_held3 (fun w' => w'.cell? ⟨d, 0, none⟩ = some (.slice a1 n1 c1') ∧ w'.cell? ⟨d, 1, none⟩ = some (.int .i64 (M : Int)) ∧ w'.cell? ⟨c + 1, 1, none⟩ = some (.int .i64 no) ∧ w'.cell? ⟨c + 1, 2, none⟩ = some (.int .i64 f))
      ((first | exact KS.out _ (Chg.setCell (Chg.setCell C7.out _ (.inr (.inr rfl))) _ (.inr (.inr rfl))) | (rw [← ef]; exact KS.out _ (Chg.setCell (Chg.setCell C7.out _ (.inr (.inr rfl))) _ (.inr (.inr rfl)))) | exact KS.out _ C7.out | exact KS.out _ (Chg.refl _ _) | exact KS.out _ (Chg.drew (Chg.refl _ _))))
      ((go_at_call 10; refine (HN2.out _ (bl_drew (Below.refl _ _))).mono ?_; rintro e w7 ⟨rfl, hr7, hg6⟩; have hg7 := grown_trans (grown_drew w2 (some m)) hg6; clear hg6; have C7 := Lib.hid (chg_of (c := c + 1 + 1) hg7); have H7 := Lib.hid (H2.out.next hg7 hr7); have o7 : NOwn w7 B (.slice a1 n1 c1') (if er = 0 then l ++ [(no, f)] else l) := own_map (f := nc) O2.out H2.out.roll.own hg7; have O7 := Lib.hid o7; clear o7; obtain ⟨-, -, c0, c0f, c1, c1f, z2⟩ := H7.out.cells; obtain ⟨Wf, ef, HF⟩ := OS.fin EC.out H7.out O7.out; clear hr7 hg7))
    all_goals (
      go_wp2_with fail
      obtain ⟨q0, q1, r9, o9, g9⟩ := HF.out
      refine bodyPost_ret (v := .tuple #[nval (.slice a1 n1 c1') M, .bool true]) (by simp [results, Try.results7, go_sem, ef, q0, q1]) rfl ⟨_, a1, n1, c1', _, rfl, by first | exact r9 | (rw [ef]; exact r9), HR.out, by first | exact o9 | (rw [ef]; exact o9), ?_, by first | exact g9 | (rw [ef]; exact g9)⟩
      split
      · simp
      · exact Nat.le_succ _))
end Go.Proofs.Ytgjieoljfcfacaa
