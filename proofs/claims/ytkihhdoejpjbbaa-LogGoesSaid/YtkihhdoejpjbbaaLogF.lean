/- The document's Add. -/
import Derived.Test.YtkihhdoejpjbbaaLogE
import Derived.Test.YtkihhdoejpjbbaaWideT
import Derived.ArgAppend
namespace Go.Proofs.Ytkihhdoejpjbbaa
open Go.RowKit Go.Sort
set_option maxHeartbeats 2000000
set_option maxRecDepth 100000

theorem cmpI_zero {x y : Int} : cmpI x y = 0 ↔ x = y := by
  unfold cmpI
  split
  · constructor
    · intro h; cases h
    · intro h; omega
  · split
    · constructor
      · intro h; cases h
      · intro h; omega
    · constructor
      · intro _; omega
      · intro _; rfl
theorem cmpI_neg (x y : Int) : cmpI y x = - cmpI x y := by
  rcases Int.lt_trichotomy x y with h | rfl | h
  · rw [cmpI_lt h, cmpI_gt h]; rfl
  · rw [cmpI_eq]; rfl
  · rw [cmpI_gt h, cmpI_lt h]
theorem orI_zero {a b c : Int} : orI a b c = 0 ↔ a = 0 ∧ b = 0 ∧ c = 0 := by
  unfold orI
  by_cases ha : a = 0
  · subst ha
    by_cases hb : b = 0
    · subst hb; simp
    · simp [hb]
  · simp [ha]
theorem orI_neg (a b c : Int) : orI (-a) (-b) (-c) = - orI a b c := by
  unfold orI
  by_cases ha : a = 0
  · subst ha
    by_cases hb : b = 0
    · subst hb; simp
    · simp [hb]
  · simp [ha]
theorem cmpK_zero {a b : KW} : cmpK a b = 0 ↔ a = b := by
  unfold cmpK
  rw [orI_zero, cmpI_zero, cmpI_zero, cmpI_zero]
  constructor
  · rintro ⟨h1, h2, h3⟩; cases a; cases b; simp_all
  · rintro rfl; exact ⟨rfl, rfl, rfl⟩
theorem cmpK_neg (a b : KW) : cmpK b a = - cmpK a b := by
  unfold cmpK
  rw [cmpI_neg a.t b.t, cmpI_neg a.f b.f, cmpI_neg a.s b.s, orI_neg]
theorem lessK_swap (a b : KW) : lessK b a = decide (0 < cmpK a b) := by
  unfold lessK
  rw [cmpK_neg a b, decide_eq_decide]
  omega

/-- The document's list of entries; nil at first. -/
def RList (w : World) (v : Value) (c : List EC) : Prop := EList w 0 v c ∧ (c = [] → v = .slice none 0 0)
theorem RList.grows {w w' : World} {v : Value} {c : List EC} (h : RList w v c) (hg : Grows w w') : RList w' v c := ⟨h.1.grows hg, h.2⟩
/-- What the document's Add gives back. -/
def RAdds (w : World) (v : Value) (c : List EC) (x : EC) (e : Ending) (w' : World) : Prop := ∃ v', e = .returned (.tuple #[v', .int .i64 (addCE c x.2.1)]) ∧ Grows w w' ∧ RList w' v' (addC c x) ∧ (∀ k, v'.ownBlock = some k → v.ownBlock = some k ∨ w.heap.size ≤ k)
theorem radds_kept {w w' : World} {v : Value} {c : List EC} {x : EC} {e : Int} (h : RList w v c) (hg : Grows w w') (he : addCE c x.2.1 = e) (h0 : e ≠ 0) : RAdds w v c x (.returned (.tuple #[v, .int .i64 e])) w' := by
  refine ⟨v, by rw [he], hg, ?_, fun k hk => .inl hk⟩
  unfold addC
  rw [he, if_neg h0]
  exact h.grows hg

theorem last_core {l : List EW} {y : EW} {m : Nat} (hm : l.length = m + 1) (hy : l[m]? = some y) (k : KW) : addCE (cores l) k = if cmpK y.k k = 0 then 12 else if 0 < cmpK y.k k then 11 else 0 := by
  unfold addCE
  rw [List.getLast?_eq_getElem?]
  have : (cores l)[(cores l).length - 1]? = some y.core := by
    rw [show (cores l).length - 1 = m by simp; omega, List.getElem?_map, hy]
    rfl
  rw [this]

theorem key_parts {yt yf ys xt xf xs : Int} (h : (⟨yt, yf, ys⟩ : KW) ≠ ⟨xt, xf, xs⟩) : (yt == xt) = false ∨ (xt = yt ∧ (yf == xf) = false) ∨ (xt = yt ∧ xf = yf ∧ (ys == xs) = false) := by
  by_cases h1 : yt = xt
  · by_cases h2 : yf = xf
    · refine .inr (.inr ⟨h1.symm, h2.symm, ?_⟩)
      simp
      intro h3
      exact h (by rw [h1, h2, h3])
    · exact .inr (.inl ⟨h1.symm, by simp [h2]⟩)
  · exact .inl (by simp [h1])
/-- A slice of the call's own. -/
def sgOwn (base : Nat) (e : TypeId) (size n : Nat) (xs : List Value) : SG Grows := ⟨fun v w => w.ownsRow base e size v n xs, fun _ _ _ h hg => own_grows h hg⟩
/-- An empty one. -/
def sgEmpty (base : Nat) (e : TypeId) (size : Nat) : SG Grows := ⟨fun v w => w.ownsRow base e size v 0 [] ∧ ∃ g, v = .slice (some ⟨g, 0, none⟩) 0 0, fun _ _ _ h hg => ⟨own_grows h.1 hg, h.2⟩⟩
/-- One element in a slice by itself. -/
def sgLone (xs : List Value) : SG Grows := ⟨fun v w => ∃ g, v = .slice (some ⟨g, 0, none⟩) 1 1 ∧ g < w.heap.size ∧ ∀ j u, xs[j]? = some u → w.cell? ((⟨g, 0, none⟩ : Addr).add j) = some u, fun _ w1 w2 h hg => by
  obtain ⟨g, h1, h2, h3⟩ := h
  refine ⟨g, h1, Nat.lt_of_lt_of_le h2 hg.size, fun j u hu => ?_⟩
  have := h3 j u hu
  rw [addr_add] at this ⊢
  exact (hg.cell (p := ⟨g, 0 + j, none⟩) h2).trans this⟩
theorem radd_no (v : Value) (l : List EW) (x : EW) (w : World) (h : EOwn w 0 v l) (hb : Bods w l) (hm : l.length ≤ 100000) (hE : addCE (cores l) x.k ≠ 0) :
    Calls Try.prog 32 #[v, x.val] w (RAdds w v (cores l) x.core) := by
  obtain ⟨xa, ⟨xt, xf, xs⟩, xba, xbl, xbc, xb⟩ := x
  have h0 : l ≠ [] := fun hc => hE (by rw [hc]; rfl)
  have hp : 0 < l.length := List.length_pos_iff.2 h0
  obtain ⟨n, en⟩ : ∃ n, l.length = n := ⟨_, rfl⟩
  obtain ⟨m, em⟩ : ∃ m, n = m + 1 := ⟨n - 1, by omega⟩
  subst em
  have HNF := Lib.hid (nat_facts m (by omega))
  obtain ⟨g, o, cap, rfl, hcap, hg, hat⟩ := (eown_has h hb).form en (by omega)
  obtain ⟨q0, q1, q2, q3, q4⟩ := eat_cells hat m (by omega)
  have hk := last_core en (List.getElem?_eq_getElem (by omega)) ⟨xt, xf, xs⟩
  have HEL := Lib.hid (show RList w (.slice (some ⟨g, o, none⟩) (m + 1) cap) (cores l) from ⟨⟨l, h, hb, rfl⟩, fun hc => by have := congrArg List.length hc; simp [en] at this⟩)
  obtain ⟨y, ey⟩ : ∃ y, l[m]'(by omega) = y := ⟨_, rfl⟩
  rw [ey] at q1 q2 q3 hk
  obtain ⟨kk, ekk⟩ : ∃ kk, y.k = kk := ⟨_, rfl⟩
  rw [ekk] at q1 q2 q3 hk
  obtain ⟨yt, yf, ys⟩ := kk
  simp only at q1 q2 q3
  by_cases hz : (⟨yt, yf, ys⟩ : KW) = ⟨xt, xf, xs⟩
  · cases hz
    have hE12 : addCE (cores l) ⟨xt, xf, xs⟩ = 12 := by rw [hk, if_pos (cmpK_zero.2 rfl)]
    have HE := Lib.hid hE12
    clear h hb h0 hp hat q0 q4 hk ey hm hE hE12 en ekk
    obtain ⟨j1, j2, j3, j4, j6⟩ := HNF.out
    go_enter Try.func32, Try.ntmps32
    go_wp2_with fail
    go_ret2
    exact radds_kept HEL.out (by show Below w.heap.size w _; (repeat (first | with_reducible exact Below.refl _ _ | with_reducible refine bl_alloc ?_ _ | ((with_reducible refine bl_set ?_ ?_ _); rotate_left; (first | exact Nat.le_refl _ | exact Nat.le_succ_of_le (Nat.le_refl _) | (simp only []; omega))) | with_reducible refine bl_drewN ?_ _ | with_reducible refine bl_drew ?_ | with_reducible refine bl_reg ?_ _))) HE.out (by decide)
  · have hz0 : ¬ cmpK ⟨yt, yf, ys⟩ ⟨xt, xf, xs⟩ = 0 := fun hc => hz (cmpK_zero.1 hc)
    have hpos : 0 < cmpK ⟨yt, yf, ys⟩ ⟨xt, xf, xs⟩ := Decidable.byContradiction fun hc => hE (by rw [hk, if_neg hz0, if_neg hc])
    have hE11 : addCE (cores l) ⟨xt, xf, xs⟩ = 11 := by rw [hk, if_neg hz0, if_pos hpos]
    have HE := Lib.hid hE11
    have hless := fun W => rless_any ⟨xt, xf, xs⟩ ⟨yt, yf, ys⟩ W
    rw [lessK_swap ⟨yt, yf, ys⟩ ⟨xt, xf, xs⟩, decide_eq_true hpos] at hless
    have hcases := key_parts hz
    clear h hb h0 hp hat q0 q4 hk ey hm hE hE11 hz hz0 hpos en ekk
    obtain ⟨j1, j2, j3, j4, j6⟩ := HNF.out
    rcases hcases with e1 | ⟨rfl, e2⟩ | ⟨rfl, rfl, e3⟩
    all_goals (
      have HL := Lib.hid hless
      clear hless
      go_enter Try.func32, Try.ntmps32
      go_wp2_with fail
      refine (HL.out _).mono ?_
      rintro e w1 ⟨rfl, hg1⟩
      have G1 := Lib.hid (grows_trans w _ _ (by show Below w.heap.size w _; (repeat (first | with_reducible exact Below.refl _ _ | with_reducible refine bl_alloc ?_ _ | ((with_reducible refine bl_set ?_ ?_ _); rotate_left; (first | exact Nat.le_refl _ | exact Nat.le_succ_of_le (Nat.le_refl _) | (simp only []; omega))) | with_reducible refine bl_drewN ?_ _ | with_reducible refine bl_drew ?_ | with_reducible refine bl_reg ?_ _))) hg1)
      clear hg1
      go_wp2_with fail
      go_ret2
      exact radds_kept HEL.out G1.out HE.out (by decide))

theorem radd_next (v : Value) (l : List EW) (x : EW) (w : World) (h : EOwn w 0 v l) (hb : Bods w l) (hm : l.length ≤ 100000) (h0 : l ≠ []) (hx : BRow w 0 x.bv x.b) (hE : addCE (cores l) x.k = 0) :
    Calls Try.prog 32 #[v, x.val] w (RAdds w v (cores l) x.core) := by
  obtain ⟨i0, hi, hz0, hz1, hz2⟩ := info_parts Try.infoEnt
  obtain ⟨xa, ⟨xt, xf, xs⟩, xba, xbl, xbc, xb⟩ := x
  have hp : 0 < l.length := List.length_pos_iff.2 h0
  obtain ⟨n, en⟩ : ∃ n, l.length = n := ⟨_, rfl⟩
  obtain ⟨m, em⟩ : ∃ m, n = m + 1 := ⟨n - 1, by omega⟩
  subst em
  have HNF := Lib.hid (nat_facts m (by omega))
  obtain ⟨g, o, cap, rfl, hcap, hg, hat⟩ := (eown_has h hb).form en (by omega)
  obtain ⟨q0, q1, q2, q3, q4⟩ := eat_cells hat m (by omega)
  have hk := last_core en (List.getElem?_eq_getElem (by omega)) ⟨xt, xf, xs⟩
  have HEL := Lib.hid (show RList w (.slice (some ⟨g, o, none⟩) (m + 1) cap) (cores l) from ⟨⟨l, h, hb, rfl⟩, fun hc => by have := congrArg List.length hc; simp [en] at this⟩)
  obtain ⟨y, ey⟩ : ∃ y, l[m]'(by omega) = y := ⟨_, rfl⟩
  rw [ey] at q1 q2 q3 hk
  obtain ⟨kk, ekk⟩ : ∃ kk, y.k = kk := ⟨_, rfl⟩
  rw [ekk] at q1 q2 q3 hk
  obtain ⟨yt, yf, ys⟩ := kk
  simp only at q1 q2 q3
  have hz : (⟨yt, yf, ys⟩ : KW) ≠ ⟨xt, xf, xs⟩ := fun hc => by rw [hk, if_pos (cmpK_zero.2 hc)] at hE; cases hE
  have hz00 : ¬ cmpK ⟨yt, yf, ys⟩ ⟨xt, xf, xs⟩ = 0 := fun hc => hz (cmpK_zero.1 hc)
  have hneg : ¬ 0 < cmpK ⟨yt, yf, ys⟩ ⟨xt, xf, xs⟩ := fun hc => by rw [hk, if_neg hz00, if_pos hc] at hE; cases hE
  have hless := fun W => rless_any ⟨xt, xf, xs⟩ ⟨yt, yf, ys⟩ W
  rw [lessK_swap ⟨yt, yf, ys⟩ ⟨xt, xf, xs⟩, decide_eq_false hneg] at hless
  have hcases := key_parts hz
  have HAT := Lib.hid hat
  have EN := Lib.hid en
  have HE := Lib.hid hE
  have HBX := Lib.hid hx
  have HBB := Lib.hid hb
  have HM := Lib.hid hm
  have hfacts : m + 1 + 1 ≤ maxLen ∧ (m + 1 + 1) * 56 ≤ 140737488355328 ∧ m + 1 ≤ maxLen ∧ (m + 1) * 56 ≤ 140737488355328 := by unfold maxLen; omega
  have HF := Lib.hid hfacts
  clear h hb h0 hp hat q0 q4 hk ey hm hE hz hz00 hneg en ekk hx hfacts
  obtain ⟨j1, j2, j3, j4, j6⟩ := HNF.out
  rcases hcases with e1 | ⟨rfl, e2⟩ | ⟨rfl, rfl, e3⟩
  all_goals (
    have HL := Lib.hid hless
    clear hless
    go_enter Try.func32, Try.ntmps32
    go_wp2_with fail
    refine (HL.out _).mono ?_
    rintro e W ⟨rfl, hg1⟩
    have gW : Grows w W := grows_trans w _ _ (by show Below w.heap.size w _; (repeat (first | with_reducible exact Below.refl _ _ | with_reducible refine bl_alloc ?_ _ | ((with_reducible refine bl_set ?_ ?_ _); rotate_left; (first | exact Nat.le_refl _ | exact Nat.le_succ_of_le (Nat.le_refl _) | (simp only []; omega))) | with_reducible refine bl_drewN ?_ _ | with_reducible refine bl_drew ?_ | with_reducible refine bl_reg ?_ _))) hg1
    have hbx : W.heap[w.heap.size]? = some (.cells #[.int .i64 xa, .int .i64 xt, .int .i64 xf, .int .u32 xs, .slice xba xbl xbc] 56) := (hg1.block _ (by simp; omega)).trans (two_new w _ _).1
    have GW := Lib.hid gW
    have HBX2 := Lib.hid hbx
    have hsz : w.heap.size < W.heap.size := (Array.getElem?_eq_some_iff.1 hbx).1
    clear hg1 gW hbx
    go_wp2_with fail
    refine wp_wide_tail 5 [sgEmpty w.heap.size 56 5, .fix _ (.slice (some ⟨g, o, none⟩) (m + 1) cap), sgOwn w.heap.size 56 5 (m + 1) (evs l), .fix _ (.agg #[.int .i64 xa, .int .i64 xt, .int .i64 xf, .int .u32 xs, .slice xba xbl xbc]), sgLone [.int .i64 xa, .int .i64 xt, .int .i64 xf, .int .u32 xs, .slice xba xbl xbc]] ?_ (by kernel_rfl) (by kernel_rfl) (by kernel_rfl) rfl (fun vals => by simp [Act.over, dstsOf, overL]; rfl) ?_ ?_
    · simp only [List.take_succ_cons, List.take_zero]
      refine ⟨?_, ?_, ?_, ?_, ?_, trivial⟩
      all_goals
        intro vals w' hE hn R hR
        simp [needsOf, dstAt, gOf, SG.fix, sgEmpty, sgOwn, sgLone] at hn hR
        have HR0 := Lib.hid hR
        try simp only [hn] at hR
        have HR := Lib.hid hR
        have HE3 := Lib.hid (grows_trans _ _ _ GW.out hE)
        have HE2 := Lib.hid hE
        clear hR hE
      · go_wp2_with fail
        exact HR.out _ _ (World.ownsRow_lit w' #[] 0 HE3.out.size (by decide) rfl) _ rfl (bl_alloc (Below.refl _ _) _)
      · go_wp2_with fail
        exact HR.out _ _ rfl (grows_refl _)
      · obtain ⟨⟨-, gg, hgg⟩, h35⟩ := hn
        have hR9 := HR0.out
        simp only [h35, hgg] at hR9
        have HR9 := Lib.hid hR9
        clear hR9
        go_wp2_with (first | (at_builtin; refine wpList_append_grows _ rfl _ _ 47 rfl 56 i0 _ 5 56 Try.underlying47 hi hz0 hz1 hz2 rfl (by decide) (some ⟨gg, 0, none⟩) 0 0 [] hgg (by simp) rfl (by simp) ⟨g, o, none⟩ (m + 1) cap (evs l) h35 ?_ ?_ ?_ ?_ ?_ ?_ ?_))
        · rw [evs_length, EN.out]
        · intro j u hu
          have hj : j < l.length * 5 := by
            have := (List.getElem?_eq_some_iff.1 hu).1
            rw [evs_length] at this; omega
          have h1 := HAT.out (j / 5) (by omega) (j % 5) (by omega)
          have h2 := rows_get (f := ev) (k := 5) (fun _ => rfl) l (j / 5) (by omega) (j % 5) (by omega)
          rw [show j / 5 * 5 + j % 5 = j by omega] at h2
          rw [show o + j / 5 * 5 + j % 5 = o + j by omega, ← h2] at h1
          rw [addr_add, ← hu]
          exact (HE3.out.cell (p := ⟨g, o + j, none⟩) hg).trans h1
        · exact evs_one l
        · simp
        · simpa using HF.out.2.2.1
        · simpa using HF.out.2.2.2
        · intro v' w3 hown3 hgrow3
          refine HR9.out _ _ ?_ ⟨hgrow3.os, hgrow3.tape, hgrow3.output, hgrow3.size, fun k hk => hgrow3.block k hk (by simp)⟩
          have h9 := row_base hown3 HE3.out.size
          simpa using h9
      · obtain ⟨e0, -⟩ := cell_in ((HE2.out.block _ hsz).trans HBX2.out) 0 rfl
        obtain ⟨e1, -⟩ := cell_in ((HE2.out.block _ hsz).trans HBX2.out) 1 rfl
        obtain ⟨e2, -⟩ := cell_in ((HE2.out.block _ hsz).trans HBX2.out) 2 rfl
        obtain ⟨e3, -⟩ := cell_in ((HE2.out.block _ hsz).trans HBX2.out) 3 rfl
        obtain ⟨e4, -⟩ := cell_in ((HE2.out.block _ hsz).trans HBX2.out) 4 rfl
        go_wp2_with fail
        exact HR.out _ _ rfl (grows_refl _)
      · go_wp2_with fail
        exact HR.out _ _ _ rfl (by simp) (World.news_of_block (cs := #[.int .i64 xa, .int .i64 xt, .int .i64 xf, .int .u32 xs, .slice xba xbl xbc]) (heap_alloc_new w' _)) (bl_alloc (Below.refl _ _) _)
    · intro vals w' hE2 hn
      have n2 := hn 2 29 (by omega) rfl
      have n4 := hn 4 31 (by omega) rfl
      simp [gOf, sgOwn, sgLone] at n2 n4
      obtain ⟨gl, e38, hgl, hcl⟩ := n4
      have HE3 := Lib.hid (grows_trans _ _ _ GW.out hE2)
      have N2 := Lib.hid n2
      have HCL := Lib.hid hcl
      clear hn hE2 n2 hcl
      simp only [List.drop_succ_cons, List.drop_zero]
      go_wp2_with (first | (at_builtin; refine wpList_append_own _ rfl _ _ 47 rfl w.heap.size 56 i0 _ 5 56 Try.underlying47 hi hz0 hz1 hz2 rfl (by decide) _ (m + 1) (evs l) rfl N2.out ⟨gl, 0, none⟩ 1 1 [.int .i64 xa, .int .i64 xt, .int .i64 xf, .int .u32 xs, .slice xba xbl xbc] e38 rfl HCL.out (ev_one ⟨xa, ⟨xt, xf, xs⟩, xba, xbl, xbc, xb⟩) HF.out.1 HF.out.2.1 HE3.out.size ?_))
      intro v' w4 hown4 hgrow4 hnn
      have hch : Chg (fun k => (vals 29).ownBlock = some k) w' w4 := Chg.ofRow hgrow4
      have hg4 : Grows w w4 := grows_of_grownBy HE3.out hgrow4 (fun kk hkk => (N2.out.lt kk hkk).1)
      have hl4 : EList w4 0 v' (cores l ++ [(xa, ⟨xt, xf, xs⟩, xb)]) := by
        refine ⟨l ++ [⟨xa, ⟨xt, xf, xs⟩, xba, xbl, xbc, xb⟩], ?_, ?_, by simp⟩
        · show World.ownsRow _ _ _ _ _ _ _
          rw [List.length_append, EN.out, evs, List.flatMap_append]
          exact row_base (by simpa using hown4) (Nat.zero_le _)
        · intro z hz
          rw [List.mem_append] at hz
          rcases hz with hz | hz
          · exact (HBB.out.grows hg4) z hz
          · simp at hz
            subst hz
            exact own_grows HBX.out hg4
      have hbk : ∀ k, v'.ownBlock = some k → w.heap.size ≤ k := fun k hk => (hown4.lt k hk).1
      have HL4 := Lib.hid hl4
      have HG4 := Lib.hid hg4
      have HBK := Lib.hid hbk
      clear hown4 hgrow4 hnn hl4 hg4 hch hbk
      go_wp2_with fail
      go_ret2
      exact ⟨v', by rw [HE.out]; rfl, HG4.out, by unfold addC; rw [if_pos HE.out]; exact ⟨HL4.out, fun hc => by simp at hc⟩, fun k hk => .inr (HBK.out k hk)⟩)
theorem radd_nil (v : Value) (l : List EW) (x : EW) (w : World) (h0 : l = []) (hv : v = .slice none 0 0) (hx : BRow w 0 x.bv x.b) :
    Calls Try.prog 32 #[v, x.val] w (RAdds w v (cores l) x.core) := by
  obtain ⟨i0, hi, hz0, hz1, hz2⟩ := info_parts Try.infoEnt
  obtain ⟨xa, ⟨xt, xf, xs⟩, xba, xbl, xbc, xb⟩ := x
  subst h0
  subst hv
  have HE : Hid (addCE (cores []) ⟨xt, xf, xs⟩ = 0) := Lib.hid rfl
  have HBX := Lib.hid hx
  clear hx
  go_enter Try.func32, Try.ntmps32
  go_wp2_with fail
  obtain ⟨W, eW⟩ : ∃ W, w.alloc (.cells #[.int .i64 xa, .int .i64 xt, .int .i64 xf, .int .u32 xs, .slice xba xbl xbc] 56) = W := ⟨_, rfl⟩
  have gW : Grows w W := by rw [← eW]; exact bl_alloc (Below.refl _ _) _
  have hbx : W.heap[w.heap.size]? = some (.cells #[.int .i64 xa, .int .i64 xt, .int .i64 xf, .int .u32 xs, .slice xba xbl xbc] 56) := by rw [← eW]; exact heap_alloc_new w _
  rw [eW]
  have GW := Lib.hid gW
  have HBX2 := Lib.hid hbx
  have hsz : w.heap.size < W.heap.size := (Array.getElem?_eq_some_iff.1 hbx).1
  clear gW hbx eW
  refine wp_wide_tail 5 [sgEmpty w.heap.size 56 5, .fix _ (.slice none 0 0), sgOwn w.heap.size 56 5 0 [], .fix _ (.agg #[.int .i64 xa, .int .i64 xt, .int .i64 xf, .int .u32 xs, .slice xba xbl xbc]), sgLone [.int .i64 xa, .int .i64 xt, .int .i64 xf, .int .u32 xs, .slice xba xbl xbc]] ?_ (by kernel_rfl) (by kernel_rfl) (by kernel_rfl) rfl (fun vals => by simp [Act.over, dstsOf, overL]; rfl) ?_ ?_
  · simp only [List.take_succ_cons, List.take_zero]
    refine ⟨?_, ?_, ?_, ?_, ?_, trivial⟩
    all_goals
      intro vals w' hE hn R hR
      simp [needsOf, dstAt, gOf, SG.fix, sgEmpty, sgOwn, sgLone] at hn hR
      have HR0 := Lib.hid hR
      try simp only [hn] at hR
      have HR := Lib.hid hR
      have HE3 := Lib.hid (grows_trans _ _ _ GW.out hE)
      have HE2 := Lib.hid hE
      clear hR hE
    · go_wp2_with fail
      exact HR.out _ _ (World.ownsRow_lit w' #[] 0 HE3.out.size (by decide) rfl) _ rfl (bl_alloc (Below.refl _ _) _)
    · go_wp2_with fail
      exact HR.out _ _ rfl (grows_refl _)
    · obtain ⟨⟨hn1, -⟩, h35⟩ := hn
      have hR9 := HR0.out
      simp only [h35] at hR9
      have HR9 := Lib.hid hR9
      clear hR9
      go_wp2_with (first | (at_builtin; refine wpList_append_own_none rfl _ _ 47 rfl w.heap.size 56 i0 5 Try.underlying47 hi _ 0 [] rfl hn1 h35 ?_))
      exact HR9.out _ _ hn1 (grows_refl _)
    · obtain ⟨e0, -⟩ := cell_in ((HE2.out.block _ hsz).trans HBX2.out) 0 rfl
      obtain ⟨e1, -⟩ := cell_in ((HE2.out.block _ hsz).trans HBX2.out) 1 rfl
      obtain ⟨e2, -⟩ := cell_in ((HE2.out.block _ hsz).trans HBX2.out) 2 rfl
      obtain ⟨e3, -⟩ := cell_in ((HE2.out.block _ hsz).trans HBX2.out) 3 rfl
      obtain ⟨e4, -⟩ := cell_in ((HE2.out.block _ hsz).trans HBX2.out) 4 rfl
      go_wp2_with fail
      exact HR.out _ _ rfl (grows_refl _)
    · go_wp2_with fail
      exact HR.out _ _ _ rfl (by simp) (World.news_of_block (cs := #[.int .i64 xa, .int .i64 xt, .int .i64 xf, .int .u32 xs, .slice xba xbl xbc]) (heap_alloc_new w' _)) (bl_alloc (Below.refl _ _) _)
  · intro vals w' hE2 hn
    have n2 := hn 2 29 (by omega) rfl
    have n4 := hn 4 31 (by omega) rfl
    simp [gOf, sgOwn, sgLone] at n2 n4
    obtain ⟨gl, e38, hgl, hcl⟩ := n4
    have HE3 := Lib.hid (grows_trans _ _ _ GW.out hE2)
    have N2 := Lib.hid n2
    have HCL := Lib.hid hcl
    clear hn hE2 n2 hcl
    simp only [List.drop_succ_cons, List.drop_zero]
    go_wp2_with (first | (at_builtin; refine wpList_append_own _ rfl _ _ 47 rfl w.heap.size 56 i0 _ 5 56 Try.underlying47 hi hz0 hz1 hz2 rfl (by decide) _ 0 [] rfl N2.out ⟨gl, 0, none⟩ 1 1 [.int .i64 xa, .int .i64 xt, .int .i64 xf, .int .u32 xs, .slice xba xbl xbc] e38 rfl HCL.out (ev_one ⟨xa, ⟨xt, xf, xs⟩, xba, xbl, xbc, xb⟩) (by unfold maxLen; omega) (by omega) HE3.out.size ?_))
    intro v' w4 hown4 hgrow4 hnn
    have hch : Chg (fun k => (vals 29).ownBlock = some k) w' w4 := Chg.ofRow hgrow4
    have hg4 : Grows w w4 := grows_of_grownBy HE3.out hgrow4 (fun kk hkk => (N2.out.lt kk hkk).1)
    have hl4 : EList w4 0 v' ([] ++ [(xa, ⟨xt, xf, xs⟩, xb)]) := by
      refine ⟨[] ++ [⟨xa, ⟨xt, xf, xs⟩, xba, xbl, xbc, xb⟩], ?_, ?_, by simp⟩
      · show World.ownsRow _ _ _ _ _ _ _
        rw [List.length_append, evs, List.flatMap_append]
        exact row_base (by simpa using hown4) (Nat.zero_le _)
      · intro z hz
        rw [List.mem_append] at hz
        rcases hz with hz | hz
        · simp at hz
        · simp at hz
          subst hz
          exact own_grows HBX.out hg4
    have hbk : ∀ k, v'.ownBlock = some k → w.heap.size ≤ k := fun k hk => (hown4.lt k hk).1
    have HL4 := Lib.hid hl4
    have HG4 := Lib.hid hg4
    have HBK := Lib.hid hbk
    clear hown4 hgrow4 hnn hl4 hg4 hch hbk
    go_wp2_with fail
    go_ret2
    exact ⟨v', by rw [HE.out]; rfl, HG4.out, by unfold addC; rw [if_pos HE.out]; exact ⟨HL4.out, fun hc => by simp at hc⟩, fun k hk => .inr (HBK.out k hk)⟩
theorem radd_any (v : Value) (c : List EC) (x : EW) (w : World) (h : RList w v c) (hm : c.length ≤ 100000) (hx : BRow w 0 x.bv x.b) :
    Calls Try.prog 32 #[v, x.val] w (RAdds w v c x.core) := by
  obtain ⟨⟨l, ho, hb, rfl⟩, hnil⟩ := h
  have hm' : l.length ≤ 100000 := by simpa using hm
  by_cases hE : addCE (cores l) x.k = 0
  · by_cases h0 : l = []
    · exact radd_nil v l x w h0 (hnil (by rw [h0]; rfl)) hx
    · exact radd_next v l x w ho hb hm' h0 hx hE
  · exact radd_no v l x w ho hb hm' hE
end Go.Proofs.Ytkihhdoejpjbbaa
