/- One call, of a roll and of the document's notes: Take. -/
import Derived.Test.YtgjieoljfcfacaaRollT
import Derived.Deep.RegionHeld3
namespace Go.Proofs.Ytgjieoljfcfacaa
open Go.RowKit Go.Sort Go.Maps
set_option maxHeartbeats 4000000
set_option maxRecDepth 100000
theorem wf_num {n : Int} (h : (Lit.int .i64 n).wf = true) : -9223372036854775808 ≤ n ∧ n ≤ 9223372036854775807 := by
  simp [Lit.wf, IntKind.min, IntKind.max, IntKind.signed, IntKind.bits] at h; omega
theorem keepN_ext {l : NL} {f g : Int → Bool} (h : ∀ x ∈ numsN l, f x = g x) : keepN l f = keepN l g := by
  unfold keepN
  refine List.filter_congr fun p hp => h _ ?_
  exact mem_nums.2 (List.mem_map_of_mem hp)
theorem one_take_max {w : World} {B b m M : Nat} {D : DataW Unit} {v : Value} {l : NL} (q no f : Int) (hk : q.tmod 5 = 3) (hno : (Lit.int .i64 no).wf = true) (hmx : no = 9223372036854775807) (h : RollAt w b m D M) (hr : RollR D l) (ho : NOwn w B v l) (hm : l.length ≤ 1000) (hBw : B ≤ w.heap.size) :
    Calls Try.prog 7 #[.pointer (some ⟨b, 0, none⟩), nval v M, .agg #[.int .u8 q, .int .i64 no, .int .i64 f]] w (OneTo w B b m M l) := by
  obtain ⟨n, en⟩ : ∃ n, l.length = n := ⟨_, rfl⟩
  obtain ⟨c, ec⟩ : ∃ c, w.heap.size = c := ⟨_, rfl⟩
  obtain ⟨a, cap, rfl⟩ := NOwn.len ho en
  have hq3 := three_new w (.cells #[.slice a n cap, .int .i64 (M : Int)] TRD) (.cells #[.int .u8 q, .int .i64 no, .int .i64 f] TRA) (.cells #[.slice none 0 0, .int .i64 0] TRD)
  have hg : Grows w (((w.alloc (.cells #[.slice a n cap, .int .i64 (M : Int)] TRD)).alloc (.cells #[.int .u8 q, .int .i64 no, .int .i64 f] TRA)).alloc (.cells #[.slice none 0 0, .int .i64 0] TRD)) := bl_alloc (bl_alloc (bl_alloc (Below.refl _ _) _) _) _
  obtain ⟨W, eW⟩ : ∃ W, ((w.alloc (.cells #[.slice a n cap, .int .i64 (M : Int)] TRD)).alloc (.cells #[.int .u8 q, .int .i64 no, .int .i64 f] TRA)).alloc (.cells #[.slice none 0 0, .int .i64 0] TRD) = W := ⟨_, rfl⟩
  rw [eW, ec] at hq3
  rw [eW] at hg
  have hb1 : b < c := by rw [← ec]; exact cell_lt h.c0
  have hm1 : m < c := by rw [← ec]; exact h.own.lt
  have hos : OS w W B b m c M D (.slice a n cap) l q no f := ⟨h.grows hg, own_grows ho hg, hq3.1, hq3.2.1, hq3.2.2, grownBy_of hg, hb1, hm1⟩
  have hsz := h.size hr
  have hnl : (numsN l).length ≤ 1000 := Nat.le_trans (nums_len l) hm
  have hval := hr.val no
  have HSET := Lib.hid (fun W' (hg : Grows w W') => nset_any (M := M) no (own_grows ho hg) hm)
  have hset : ∀ W', Grows w W' → Calls Try.prog 11 #[.pointer (some ⟨b, 0, none⟩), .int .i64 no] W' (fun e w' => e = .returned (.int .u64 (setN l no : Nat)) ∧ W' = w') := fun W' hg => by
    have := set_same W' (h.grows hg) no hno
    rw [hval] at this
    exact this
  have HSR := Lib.hid hset
  obtain ⟨s, es⟩ : ∃ s, setN l no = s := ⟨_, rfl⟩
  rw [es] at HSET HSR
  have H0 := Lib.hid hos
  have HR := Lib.hid hr
  have EC := Lib.hid ec
  have HBW := Lib.hid hBw
  have EN := Lib.hid en
  have HG := Lib.hid hg
  obtain ⟨⟨s0, s1, z0⟩, ⟨t0, t1, t2, z1⟩, c0, c0f, c1, c1f, z2⟩ := hos.cells
  clear h hr ho hm hBw hno en hq3 hg hb1 hm1 hos hsz hnl hval hset es
  simp only [nval]
  subst hmx
  go_enter Try.func7, Try.ntmps7
  go_wp2_with fail
  refine (HSET.out _ HG.out).mono ?_
  rintro e w1 ⟨rfl, hg1⟩
  have H1 := Lib.hid (H0.out.grows hg1)
  have HSR1 := Lib.hid (fun W' (hg : Grows w1 W') => HSR.out W' (grows_trans _ _ _ HG.out (grows_trans _ _ _ hg1 hg)))
  clear s0 s1 z0 t0 t1 t2 z1 c0 c0f c1 c1f z2 hg1
  obtain ⟨⟨s0, s1, z0⟩, ⟨t0, t1, t2, z1⟩, c0, c0f, c1, c1f, z2⟩ := H1.out.cells
  go_wp2_with fail
  have KS := Lib.hid (fun W' (hg : Chg (fun j => j = m ∨ j = c + 1 + 1) w1 W') => show W'.cell? ⟨c, 0, none⟩ = some (.slice a n cap) ∧ W'.cell? ⟨c, 1, none⟩ = some (.int .i64 (M : Int)) ∧ W'.cell? ⟨c + 1, 1, none⟩ = some (.int .i64 9223372036854775807) from
    ⟨(cell_in (H1.out.stay H1.out.h0 (by omega) hg) 0 rfl).1, (cell_in (H1.out.stay H1.out.h0 (by omega) hg) 1 rfl).1, (cell_in (H1.out.stay H1.out.h1 (by omega) hg) 1 rfl).1⟩)
  go_region_held3 (fun w' => w'.cell? ⟨c, 0, none⟩ = some (.slice a n cap) ∧ w'.cell? ⟨c, 1, none⟩ = some (.int .i64 (M : Int)) ∧ w'.cell? ⟨c + 1, 1, none⟩ = some (.int .i64 9223372036854775807))
    ((first | exact KS.out _ (Chg.setCell (Chg.setCell C7.out _ (.inr (.inr rfl))) _ (.inr (.inr rfl))) | (rw [← ef]; exact KS.out _ (Chg.setCell (Chg.setCell C7.out _ (.inr (.inr rfl))) _ (.inr (.inr rfl)))) | exact KS.out _ C7.out | exact KS.out _ (Chg.refl _ _) | exact KS.out _ (Chg.drew (Chg.refl _ _))))
    ((go_at_call 11; refine (HSR1.out _ (bl_drew (Below.refl _ _))).mono ?_; rintro e w7 ⟨rfl, h7⟩; have G7 : Grows w1 w7 := h7 ▸ bl_drew (Below.refl _ _); have C7 := Lib.hid (show Chg (fun j => j = m ∨ j = c + 1 + 1) w1 w7 from Chg.ofGrows G7); have H7 := Lib.hid (H1.out.grows G7); clear G7 h7 c0 c0f c1 c1f z2; obtain ⟨-, -, c0, c0f, c1, c1f, z2⟩ := H7.out.cells; obtain ⟨Wf, ef, HF⟩ := OS.fin EC.out H7.out H7.out.own))
  all_goals (
    go_wp2_with fail
    obtain ⟨q0, q1, r9, o9, g9⟩ := HF.out
    exact bodyPost_ret (v := .tuple #[nval (.slice a n cap) M, .bool true]) (by simp [results, Try.results7, go_sem, ef, q0, q1]) rfl ⟨_, a, n, cap, _, rfl, by first | exact r9 | (rw [ef]; exact r9), HR.out, by first | exact o9 | (rw [ef]; exact o9), Nat.le_succ _, by first | exact g9 | (rw [ef]; exact g9)⟩)
theorem one_take {w : World} {B b m M : Nat} {D : DataW Unit} {v : Value} {l : NL} (q no f : Int) (hk : q.tmod 5 = 3) (hno : (Lit.int .i64 no).wf = true) (hmx : no ≠ 9223372036854775807) (h : RollAt w b m D M) (hr : RollR D l) (ho : NOwn w B v l) (hm : l.length ≤ 1000) (hBw : B ≤ w.heap.size) :
    Calls Try.prog 7 #[.pointer (some ⟨b, 0, none⟩), nval v M, .agg #[.int .u8 q, .int .i64 no, .int .i64 f]] w (OneTo w B b m M l) := by
  obtain ⟨n, en⟩ : ∃ n, l.length = n := ⟨_, rfl⟩
  obtain ⟨c, ec⟩ : ∃ c, w.heap.size = c := ⟨_, rfl⟩
  obtain ⟨a, cap, rfl⟩ := NOwn.len ho en
  have hq3 := three_new w (.cells #[.slice a n cap, .int .i64 (M : Int)] TRD) (.cells #[.int .u8 q, .int .i64 no, .int .i64 f] TRA) (.cells #[.slice none 0 0, .int .i64 0] TRD)
  have hg : Grows w (((w.alloc (.cells #[.slice a n cap, .int .i64 (M : Int)] TRD)).alloc (.cells #[.int .u8 q, .int .i64 no, .int .i64 f] TRA)).alloc (.cells #[.slice none 0 0, .int .i64 0] TRD)) := bl_alloc (bl_alloc (bl_alloc (Below.refl _ _) _) _) _
  obtain ⟨W, eW⟩ : ∃ W, ((w.alloc (.cells #[.slice a n cap, .int .i64 (M : Int)] TRD)).alloc (.cells #[.int .u8 q, .int .i64 no, .int .i64 f] TRA)).alloc (.cells #[.slice none 0 0, .int .i64 0] TRD) = W := ⟨_, rfl⟩
  rw [eW, ec] at hq3
  rw [eW] at hg
  have hb1 : b < c := by rw [← ec]; exact cell_lt h.c0
  have hm1 : m < c := by rw [← ec]; exact h.own.lt
  have hos : OS w W B b m c M D (.slice a n cap) l q no f := ⟨h.grows hg, own_grows ho hg, hq3.1, hq3.2.1, hq3.2.2, grownBy_of hg, hb1, hm1⟩
  have hsz := h.size hr
  have hnl : (numsN l).length ≤ 1000 := Nat.le_trans (nums_len l) hm
  have hval := hr.val no
  have HSET := Lib.hid (fun W' (hg : Grows w W') => nset_any (M := M) no (own_grows ho hg) hm)
  have hset : ∀ W', Grows w W' → Calls Try.prog 11 #[.pointer (some ⟨b, 0, none⟩), .int .i64 no] W' (fun e w' => e = .returned (.int .u64 (setN l no : Nat)) ∧ W' = w') := fun W' hg => by
    have := set_same W' (h.grows hg) no hno
    rw [hval] at this
    exact this
  have HSR := Lib.hid hset
  obtain ⟨s, es⟩ : ∃ s, setN l no = s := ⟨_, rfl⟩
  rw [es] at HSET HSR
  have hw6 : -9223372036854775808 ≤ no ∧ no ≤ 9223372036854775807 := wf_num hno
  have hno1 : IntKind.i64.wrap (no + 1) = no + 1 := by rw [wrapEq]; unfold wrap64; omega
  have hke : keepN l (outF no (no + 1)) = keepN l (fun x => decide (x ≠ no)) := keepN_ext fun x _ => by
    unfold outF
    by_cases h1 : x = no
    · subst h1
      have h3 : ¬ x + 1 ≤ x := by omega
      simp [h3]
    · have h2 : x < no ∨ no + 1 ≤ x := by omega
      rcases h2 with h2 | h2 <;> simp [h1, h2]
  have hdrop : ∀ W', W.grownBy W' (some m) → Calls Try.prog 17 #[nval (.slice a n cap) M, .int .i64 no, .int .i64 (no + 1)] W' (fun e w' => ∃ a n c, e = .returned (nval (.slice a n c) M) ∧ Grows W' w' ∧ NOwn w' B (.slice a n c) (keepN l (fun x => decide (x ≠ no)))) := fun W' hgw => by
    refine (ndrop_any (M := M) no (no + 1) (own_map (f := nc) hos.own hos.roll.own hgw) hm).mono ?_
    rintro e w' ⟨a', n', c', rfl, h1, h2⟩
    rw [hke] at h2
    exact ⟨a', n', c', rfl, h1, row_base h2 (Nat.le_trans (Nat.le_trans hBw hg.size) hgw.size)⟩
  have HDROP := Lib.hid hdrop
  have htake : ∀ W', Grows W W' → Calls Try.prog 12 #[.pointer (some ⟨b, 0, none⟩), .int .i64 no] W' (fun e w' => e = .returned (.int .u64 (s : Nat)) ∧ RollAt w' b m (D.del (keyL no)) M ∧ W'.grownBy w' (some m)) := fun W' hg => by
    have := take_any W' (hos.roll.grows hg) no hno
    rw [hval, es] at this
    exact this
  have HTAKE := Lib.hid htake
  have hne : (no == 9223372036854775807) = false := beq_false_of_ne hmx
  have HRD := Lib.hid (hr.del no)
  have H0 := Lib.hid hos
  have HR := Lib.hid hr
  have EC := Lib.hid ec
  have HBW := Lib.hid hBw
  have EN := Lib.hid en
  have HG := Lib.hid hg
  obtain ⟨⟨s0, s1, z0⟩, ⟨t0, t1, t2, z1⟩, c0, c0f, c1, c1f, z2⟩ := hos.cells
  clear h hr ho hm hBw hno en hq3 hg hb1 hm1 hos hsz hnl hval hset es hke hdrop htake hmx hw6
  simp only [nval]
  go_enter Try.func7, Try.ntmps7
  go_wp2_with fail
  refine (HSET.out _ HG.out).mono ?_
  rintro e w1 ⟨rfl, hg1⟩
  have H1 := Lib.hid (H0.out.grows hg1)
  have G1 := Lib.hid hg1
  clear s0 s1 z0 t0 t1 t2 z1 c0 c0f c1 c1f z2 hg1
  obtain ⟨⟨s0, s1, z0⟩, ⟨t0, t1, t2, z1⟩, c0, c0f, c1, c1f, z2⟩ := H1.out.cells
  go_wp2_with fail
  have KS := Lib.hid (fun W' (hg : Chg (fun j => j = m ∨ j = c + 1 + 1) w1 W') => show W'.cell? ⟨c, 0, none⟩ = some (.slice a n cap) ∧ W'.cell? ⟨c, 1, none⟩ = some (.int .i64 (M : Int)) ∧ W'.cell? ⟨c + 1, 1, none⟩ = some (.int .i64 no) from
    ⟨(cell_in (H1.out.stay H1.out.h0 (by omega) hg) 0 rfl).1, (cell_in (H1.out.stay H1.out.h0 (by omega) hg) 1 rfl).1, (cell_in (H1.out.stay H1.out.h1 (by omega) hg) 1 rfl).1⟩)
  clear s0 s1 z0 t0 t1 t2 z1
  go_region_held3 (fun w' => w'.cell? ⟨c, 0, none⟩ = some (.slice a n cap) ∧ w'.cell? ⟨c, 1, none⟩ = some (.int .i64 (M : Int)) ∧ w'.cell? ⟨c + 1, 1, none⟩ = some (.int .i64 no))
    ((first | exact KS.out _ (Chg.setCell (Chg.setCell C7.out _ (.inr (.inr rfl))) _ (.inr (.inr rfl))) | exact KS.out _ (Chg.setCell (Chg.setCell C8.out _ (.inr (.inr rfl))) _ (.inr (.inr rfl))) | (rw [← ef]; first | exact KS.out _ (Chg.setCell (Chg.setCell C7.out _ (.inr (.inr rfl))) _ (.inr (.inr rfl))) | exact KS.out _ (Chg.setCell (Chg.setCell C8.out _ (.inr (.inr rfl))) _ (.inr (.inr rfl)))) | exact KS.out _ C7.out | exact KS.out _ C8.out | exact KS.out _ (Chg.refl _ _) | exact KS.out _ (Chg.drew (Chg.refl _ _))))
    ((first
      | (go_at_call 17; refine (HDROP.out _ (by first | exact grown_trans (grownBy_of G1.out) K7.out | exact grown_trans (grownBy_of G1.out) (grown_drew _ _))).mono ?_; rintro e w8 ⟨a8, n8, c8, rfl, hg8, ho8⟩; have O8 := Lib.hid ho8; (first
          | (have H8 := Lib.hid (H7.out.grows hg8); have C8 := Lib.hid (C7.out.trans (Chg.ofGrows hg8)); clear c0 c0f c1 c1f z2; obtain ⟨-, -, c0, c0f, c1, c1f, z2⟩ := H8.out.cells; obtain ⟨Wf, ef, HF⟩ := OS.fin EC.out H8.out O8.out)
          | (have G8 := Lib.hid (grows_trans _ _ _ (bl_drew (Below.refl _ _) : Grows w1 w1.drew) hg8); have H8 := Lib.hid (H1.out.grows G8.out); have C8 := Lib.hid (show Chg (fun j => j = m ∨ j = c + 1 + 1) w1 w8 from Chg.ofGrows G8.out))); clear hg8 ho8)
      | (go_at_call 12; refine (HTAKE.out _ (by first | exact grows_trans _ _ _ G1.out G8.out | exact grows_trans _ _ _ G1.out (bl_drew (Below.refl _ _)))).mono ?_; rintro e w7 ⟨rfl, hr7, hg6⟩; (first
          | (have H7 := Lib.hid (H8.out.next hg6 hr7); have C7 := Lib.hid (C8.out.trans (chg_of hg6)); have o7 : NOwn w7 B (.slice a8 n8 c8) (keepN l (fun x => decide (x ≠ no))) := own_map (f := nc) O8.out H8.out.roll.own hg6; clear c0 c0f c1 c1f z2; obtain ⟨-, -, c0, c0f, c1, c1f, z2⟩ := H7.out.cells; obtain ⟨Wf, ef, HF⟩ := OS.fin EC.out H7.out o7; clear o7)
          | (have K7 := Lib.hid (grown_trans (grown_drew w1 (some m)) hg6); have H7 := Lib.hid (H1.out.next K7.out hr7); have C7 := Lib.hid (chg_of (c := c + 1 + 1) K7.out))); clear hr7 hg6)))
  all_goals (
    go_wp2_with fail
    obtain ⟨q0, q1, r9, o9, g9⟩ := HF.out
    exact bodyPost_ret (v := .tuple #[nval (.slice a8 n8 c8) M, .bool true]) (by simp [results, Try.results7, go_sem, ef, q0, q1]) rfl ⟨_, a8, n8, c8, _, rfl, by first | exact r9 | (rw [ef]; exact r9), HRD.out, by first | exact o9 | (rw [ef]; exact o9), Nat.le_trans (keep_len _ _) (Nat.le_succ _), by first | exact g9 | (rw [ef]; exact g9)⟩)
end Go.Proofs.Ytgjieoljfcfacaa
