/- Views: the document's Install. -/
import Derived.Test.YtkihhdoejpjbbaaViewC
import Derived.Test.YtkihhdoejpjbbaaWideT
import Derived.ArgAppend
namespace Go.Proofs.Ytkihhdoejpjbbaa
open Go.RowKit Go.Sort
set_option maxHeartbeats 2000000
set_option maxRecDepth 100000

/-- A slice of the call's own. -/
def sgOwn (base : Nat) (e : TypeId) (size n : Nat) (xs : List Value) : SG Grows := ⟨fun v w => w.ownsRow base e size v n xs, fun _ _ _ h hg => (Chg.ofGrows (S := fun _ => False) hg).own h (fun _ _ h => h)⟩
/-- An empty one. -/
def sgEmpty (base : Nat) (e : TypeId) (size : Nat) : SG Grows := ⟨fun v w => w.ownsRow base e size v 0 [] ∧ ∃ g, v = .slice (some ⟨g, 0, none⟩) 0 0, fun _ _ _ h hg => ⟨(Chg.ofGrows (S := fun _ => False) hg).own h.1 (fun _ _ h => h), h.2⟩⟩
/-- One element in a slice by itself. -/
def sgLone (xs : List Value) : SG Grows := ⟨fun v w => ∃ g, v = .slice (some ⟨g, 0, none⟩) 1 1 ∧ g < w.heap.size ∧ ∀ j u, xs[j]? = some u → w.cell? ((⟨g, 0, none⟩ : Addr).add j) = some u, fun _ w1 w2 h hg => by
  obtain ⟨g, h1, h2, h3⟩ := h
  refine ⟨g, h1, Nat.lt_of_lt_of_le h2 hg.size, fun j u hu => ?_⟩
  have := h3 j u hu
  rw [addr_add] at this ⊢
  exact (hg.cell (p := ⟨g, 0 + j, none⟩) h2).trans this⟩

/-- The document's list of views: of the call's own; nil at first. -/
def RList (w : World) (base : Nat) (v : Value) (l : List VW) : Prop := VOwn w base v l ∧ (l = [] → v = .slice none 0 0)
theorem RList.chg {w w' : World} {base : Nat} {v : Value} {l : List VW} {S : Nat → Prop} (h : RList w base v l) (hc : Chg S w w') (hS : ∀ k, v.ownBlock = some k → ¬ S k) : RList w' base v l := ⟨hc.own h.1 hS, h.2⟩
/-- What the document's Install says. -/
theorem rinstall_late (w : World) {base : Nat} {v : Value} {l : List VW} (h : RList w base v l) (hm : l.length ≤ 1000000) (x : VW) (h0 : l ≠ []) (hE : x.no ≤ (lastV l).no ∨ x.tm < (lastV l).tm) :
    Calls Try.prog 49 #[v, x.val] w (fun e w' => e = .returned (.tuple #[v, .int .i64 11]) ∧ Grows w w') := by
  rcases own_rows (f := vv) (k := 3) (fun _ => rfl) rfl h.1 with ⟨h1, -⟩ | ⟨g, cap, rfl, hcap, -, hg, hat⟩
  · exact absurd h1 h0
  have hp : 0 < l.length := List.length_pos_iff.2 h0
  have k0 := hat (l.length - 1) (by omega) 0 (by omega)
  have k1 := hat (l.length - 1) (by omega) 1 (by omega)
  have hl : lastV l = l[l.length - 1] := by
    rw [lastV, List.getLastD_eq_getLast?, List.getLast?_eq_getElem?, List.getElem?_eq_getElem (by omega)]
    rfl
  rw [hl] at hE
  obtain ⟨y, ey⟩ : ∃ y, l[l.length - 1] = y := ⟨_, rfl⟩
  rw [ey] at hE k0 k1
  obtain ⟨n, en⟩ : ∃ n, l.length = n := ⟨_, rfl⟩
  rw [en] at k0 k1 hp hm ⊢
  obtain ⟨m, em⟩ : ∃ m, n = m + 1 := ⟨n - 1, by omega⟩
  subst em
  simp only [Nat.zero_add, Nat.add_sub_cancel, Nat.add_zero, vv, List.getElem?_cons_zero, List.getElem?_cons_succ] at k0 k1
  clear en ey hat h0 hl h hp hcap
  have j1 : ((m : Int) + 1) - 1 = (m : Int) := by omega
  have j2 : (0 : Int) ≤ (m : Int) := by omega
  have j3 : (m : Int) < (m : Int) + 1 := by omega
  have j4 : wrap64 (m : Int) = (m : Int) := by rw [← wrapEq]; exact IntWalk.i64_in _ (by omega)
  have j6 : (0 : Int) < (m : Int) + 1 := by omega
  by_cases hno : x.no ≤ y.no
  · have d1 : decide (x.no ≤ y.no) = true := by simpa using hno
    clear hE
    go_enter Try.func49, Try.ntmps49
    go_wp2_with fail
    refine wp_region_quiet_lit (by kernel_rfl) (by kernel_rfl) ?_
    repeat (first | go_big_quiet_step ((fail)) | quiet_step ((fail)))
    refine wpQuiet_nil ?_
    intro _ hcw1
    obtain ⟨nq, hcw2⟩ := hcw1
    subst hcw2
    go_wp2_with fail
    go_ret2
    exact ⟨rfl, bl_drewN (bl_alloc (Below.refl _ _) _) _⟩
  · have htm : x.tm < y.tm := hE.resolve_left hno
    have d1 : decide (x.no ≤ y.no) = false := by simpa using hno
    have d2 : decide (x.tm < y.tm) = true := by simpa using htm
    clear hE
    go_enter Try.func49, Try.ntmps49
    go_wp2_with fail
    refine wp_region_quiet_lit (by kernel_rfl) (by kernel_rfl) ?_
    repeat (first | go_big_quiet_step ((fail)) | quiet_step ((fail)))
    refine wpQuiet_nil ?_
    intro _ hcw1
    obtain ⟨nq, hcw2⟩ := hcw1
    subst hcw2
    go_wp2_with fail
    go_ret2
    exact ⟨rfl, bl_drewN (bl_alloc (Below.refl _ _) _) _⟩

theorem ownsRow_base' {w : World} {base base' : Nat} {e : TypeId} {size : Nat} {v : Value} {n : Nat} {xs : List Value} (h : w.ownsRow base e size v n xs) (hb : base' ≤ base) : w.ownsRow base' e size v n xs := by
  refine ⟨h.1, ?_⟩
  rcases h.2 with h2 | ⟨g, cap, cur, hv, hg, rest⟩
  · exact .inl h2
  · exact .inr ⟨g, cap, cur, hv, Nat.le_trans hb hg, rest⟩
/-- The document's Install of a view that comes in time: a new list. -/
theorem rinstall_ok (w : World) {base : Nat} {v : Value} {l : List VW} (h : RList w base v l) (hm : l.length < 1000000) (x : VW) (hE : l = [] ∨ ((lastV l).no < x.no ∧ (lastV l).tm ≤ x.tm)) :
    Calls Try.prog 49 #[v, x.val] w (fun e w' => ∃ v', e = .returned (.tuple #[v', .int .i64 0]) ∧ Grows w w' ∧ RList w' w.heap.size v' (l ++ [x])) := by
  obtain ⟨i0, hi, hz0, hz1, hz2⟩ := info_parts Try.infoView
  by_cases h0 : l = []
  · subst h0
    obtain rfl := h.2 rfl
    have hd : decide ((0 : Int) < 0) = false := by simp
    clear h
    go_enter Try.func49, Try.ntmps49
    go_wp2_with fail
    refine wp_region_quiet_lit (by kernel_rfl) (by kernel_rfl) ?_
    repeat (first | go_big_quiet_step ((fail)) | quiet_step ((fail)))
    refine wpQuiet_nil ?_
    intro _ hcw1
    obtain ⟨nq, hcw2⟩ := hcw1
    subst hcw2
    go_wp2_with fail
    obtain ⟨W, eW⟩ : ∃ W, (w.alloc (.cells #[.int .i64 x.no, .int .i64 x.tm, .int .u64 (x.set : Int)] 29)).drewN nq = W := ⟨_, rfl⟩
    rw [eW]
    have gW : Grows w W := by rw [← eW]; exact bl_drewN (bl_alloc (Below.refl _ _) _) _
    have k0 : W.cell? ⟨w.heap.size, 0, none⟩ = some (.int .i64 x.no) := by rw [← eW]; simp [go_sem]
    have k1 : W.cell? ⟨w.heap.size, 1, none⟩ = some (.int .i64 x.tm) := by rw [← eW]; simp [go_sem]
    have k2 : W.cell? ⟨w.heap.size, 2, none⟩ = some (.int .u64 (x.set : Int)) := by rw [← eW]; simp [go_sem]
    have hsz : w.heap.size < W.heap.size := by rw [← eW]; simp
    have GW := Lib.hid gW
    have KK := Lib.hid (And.intro k0 (And.intro k1 k2))
    clear eW gW k0 k1 k2
    refine wp_wide_tail 5 [sgEmpty w.heap.size 29 3, .fix _ (.slice none 0 0), sgOwn w.heap.size 29 3 0 [], .fix _ x.val, sgLone (vv x)] ?f1 (by kernel_rfl) (by kernel_rfl) (by kernel_rfl) rfl (fun vals => by simp [Act.over, dstsOf, overL]; rfl) ?_ ?_
    · simp only [List.take_succ_cons, List.take_zero]
      refine ⟨?_, ?_, ?_, ?_, ?_, trivial⟩
      all_goals
        intro vals w' hE hn R hR
        simp [needsOf, dstAt, gOf, SG.fix, sgEmpty, sgOwn, sgLone] at hn hR
        have HR0 := Lib.hid hR
        try simp only [hn] at hR
        have HR := Lib.hid hR
        have HE := Lib.hid (grows_trans _ _ _ GW.out hE)
        have HE2 := Lib.hid hE
        clear hR hE
      case refine_1 =>
        go_wp2_with fail
        exact HR.out _ _ (World.ownsRow_lit w' #[] 0 HE.out.size (by decide) rfl) _ rfl (bl_alloc (Below.refl _ _) _)
      case refine_2 =>
        go_wp2_with fail
        exact HR.out _ _ rfl (grows_refl _)
      case refine_3 =>
        obtain ⟨⟨hn1, -⟩, h35⟩ := hn
        go_wp2_with (first | (at_builtin; refine wpList_append_own_none rfl _ _ 22 rfl w.heap.size 29 i0 3 Try.underlying22 hi _ 0 [] rfl hn1 h35 ?_))
        exact HR.out _ _ hn1 (grows_refl _)
      case refine_4 =>
        have e0 := (HE2.out.cell (p := ⟨w.heap.size, 0, none⟩) hsz).trans KK.out.1
        have e1 := (HE2.out.cell (p := ⟨w.heap.size, 1, none⟩) hsz).trans KK.out.2.1
        have e2 := (HE2.out.cell (p := ⟨w.heap.size, 2, none⟩) hsz).trans KK.out.2.2
        go_wp2_with fail
        exact HR.out _ _ rfl (grows_refl _)
      case refine_5 =>
        go_wp2_with fail
        exact HR.out _ _ _ rfl (by simp) (World.news_of_block (cs := #[.int .i64 x.no, .int .i64 x.tm, .int .u64 (x.set : Int)]) (heap_alloc_new w' _)) (bl_alloc (Below.refl _ _) _)
    · intro vals w' hE hn
      have n2 := hn 2 36 (by omega) rfl
      have n4 := hn 4 38 (by omega) rfl
      simp [gOf, sgOwn, sgLone] at n2 n4
      obtain ⟨gl, e38, hgl, hcl⟩ := n4
      have HE := Lib.hid (grows_trans _ _ _ GW.out hE)
      have N2 := Lib.hid n2
      have HCL := Lib.hid hcl
      clear hn hE n2 hcl
      simp only [List.drop_succ_cons, List.drop_zero]
      go_wp2_with (first | (at_builtin; refine wpList_append_own _ rfl _ _ 22 rfl w.heap.size 29 i0 _ 3 24 Try.underlying22 hi hz0 hz1 hz2 rfl (by decide) _ 0 [] rfl N2.out ⟨gl, 0, none⟩ 1 1 (vv x) e38 rfl HCL.out (by simp [vv, Value.oneCell']) (by unfold maxLen; omega) (by omega) HE.out.size ?_))
      intro v' w4 hown4 hgrow4 hnn
      have hg4 : Grows w w4 := grows_of_grownBy HE.out hgrow4 (fun kk hkk => (N2.out.lt kk hkk).1)
      have hl4 : RList w4 w.heap.size v' ([] ++ [x]) := by
        refine ⟨?_, fun h => by simp at h⟩
        show World.ownsRow _ _ _ _ _ _ _
        have h9 := hown4
        simpa [vvs] using h9
      have HL4 := Lib.hid hl4
      have HG4 := Lib.hid hg4
      clear hown4 hgrow4 hnn hl4 hg4
      go_wp2_with fail
      go_ret2
      exact ⟨_, rfl, HG4.out, HL4.out⟩
  · rcases own_rows (f := vv) (k := 3) (fun _ => rfl) rfl h.1 with ⟨h1, -⟩ | ⟨g, cap, rfl, hcap, -, hg, hat⟩
    · exact absurd h1 h0
    have hp : 0 < l.length := List.length_pos_iff.2 h0
    have k0 := hat (l.length - 1) (by omega) 0 (by omega)
    have k1 := hat (l.length - 1) (by omega) 1 (by omega)
    have hl : lastV l = l[l.length - 1] := by
      rw [lastV, List.getLastD_eq_getLast?, List.getLast?_eq_getElem?, List.getElem?_eq_getElem (by omega)]
      rfl
    obtain ⟨e1, e2⟩ := hE.resolve_left h0
    rw [hl] at e1 e2
    obtain ⟨y, ey⟩ : ∃ y, l[l.length - 1] = y := ⟨_, rfl⟩
    rw [ey] at e1 e2 k0 k1
    obtain ⟨n, en⟩ : ∃ n, l.length = n := ⟨_, rfl⟩
    rw [en] at k0 k1 hp hm ⊢
    obtain ⟨m, em⟩ : ∃ m, n = m + 1 := ⟨n - 1, by omega⟩
    have HAT := Lib.hid hat
    have EN := Lib.hid en
    have EM := Lib.hid em
    rw [em] at k0 k1
    simp only [Nat.zero_add, Nat.add_sub_cancel, Nat.add_zero, vv, List.getElem?_cons_zero, List.getElem?_cons_succ] at k0 k1
    have j1 : ((m : Int) + 1) - 1 = (m : Int) := by omega
    have j2 : (0 : Int) ≤ (m : Int) := by omega
    have j3 : (m : Int) < (n : Int) := by omega
    have j4 : (n : Int) - 1 = (m : Int) := by omega
    have j5 : IntKind.i64.wrap ((n : Int) - 1) = (m : Int) := by rw [IntWalk.i64_in _ (by omega)]; omega
    have j6 : (0 : Int) < (n : Int) := by omega
    have d1 : decide (x.no ≤ y.no) = false := by simpa using e1
    have d2 : decide (x.tm < y.tm) = false := by simpa using e2
    clear em en ey hat h0 hl h hE
    go_enter Try.func49, Try.ntmps49
    go_wp2_with fail
    refine wp_region_quiet_lit (by kernel_rfl) (by kernel_rfl) ?_
    repeat (first | go_big_quiet_step ((fail)) | quiet_step ((fail)))
    refine wpQuiet_nil ?_
    intro _ hcw1
    obtain ⟨nq, hcw2⟩ := hcw1
    subst hcw2
    go_wp2_with fail
    obtain ⟨W, eW⟩ : ∃ W, (w.alloc (.cells #[.int .i64 x.no, .int .i64 x.tm, .int .u64 (x.set : Int)] 29)).drewN nq = W := ⟨_, rfl⟩
    rw [eW]
    have gW : Grows w W := by rw [← eW]; exact bl_drewN (bl_alloc (Below.refl _ _) _) _
    have k0 : W.cell? ⟨w.heap.size, 0, none⟩ = some (.int .i64 x.no) := by rw [← eW]; simp [go_sem]
    have k1 : W.cell? ⟨w.heap.size, 1, none⟩ = some (.int .i64 x.tm) := by rw [← eW]; simp [go_sem]
    have k2 : W.cell? ⟨w.heap.size, 2, none⟩ = some (.int .u64 (x.set : Int)) := by rw [← eW]; simp [go_sem]
    have hsz : w.heap.size < W.heap.size := by rw [← eW]; simp
    have GW := Lib.hid gW
    have KK := Lib.hid (And.intro k0 (And.intro k1 k2))
    clear eW gW k0 k1 k2
    refine wp_wide_tail 5 [sgEmpty w.heap.size 29 3, .fix _ (.slice (some ⟨g, 0, none⟩) n cap), sgOwn w.heap.size 29 3 n (vvs l), .fix _ x.val, sgLone (vv x)] ?f2 (by kernel_rfl) (by kernel_rfl) (by kernel_rfl) rfl (fun vals => by simp [Act.over, dstsOf, overL]; rfl) ?_ ?_
    · simp only [List.take_succ_cons, List.take_zero]
      refine ⟨?_, ?_, ?_, ?_, ?_, trivial⟩
      all_goals
        intro vals w' hE hn R hR
        simp [needsOf, dstAt, gOf, SG.fix, sgEmpty, sgOwn, sgLone] at hn hR
        have HR0 := Lib.hid hR
        try simp only [hn] at hR
        have HR := Lib.hid hR
        have HE := Lib.hid (grows_trans _ _ _ GW.out hE)
        have HE2 := Lib.hid hE
        clear hR hE
      case refine_1 =>
        go_wp2_with fail
        exact HR.out _ _ (World.ownsRow_lit w' #[] 0 HE.out.size (by decide) rfl) _ rfl (bl_alloc (Below.refl _ _) _)
      case refine_2 =>
        go_wp2_with fail
        exact HR.out _ _ rfl (grows_refl _)
      case refine_3 =>
        obtain ⟨⟨-, gg, hgg⟩, h35⟩ := hn
        have hR9 := HR0.out
        simp only [h35, hgg] at hR9
        have HR9 := Lib.hid hR9
        clear hR9
        go_wp2_with (first | (at_builtin; refine wpList_append_grows _ rfl _ _ 22 rfl 29 i0 _ 3 24 Try.underlying22 hi hz0 hz1 hz2 rfl (by decide) (some ⟨gg, 0, none⟩) 0 0 [] hgg (by simp) rfl (by simp) ⟨g, 0, none⟩ n cap (vvs l) h35 ?d1 ?d2 ?d3 ?d4 ?d5 ?d6 ?_))
        case d1 => rw [vvs_length, EN.out]; omega
        case d2 =>
          intro j u hu
          have hj : j < l.length * 3 := by
            have := (List.getElem?_eq_some_iff.1 hu).1
            rw [vvs_length] at this; omega
          have h1 := HAT.out (j / 3) (by omega) (j % 3) (by omega)
          have h2 := rows_get (f := vv) (k := 3) (fun _ => rfl) l (j / 3) (by omega) (j % 3) (by omega)
          rw [show j / 3 * 3 + j % 3 = j by omega] at h2
          rw [show 0 + j / 3 * 3 + j % 3 = 0 + j by omega, ← h2] at h1
          rw [addr_add, ← hu]
          exact (HE.out.cell (p := ⟨g, 0 + j, none⟩) hg).trans h1
        case d3 => exact vvs_one l
        case d4 => omega
        case d5 => unfold maxLen; omega
        case d6 => omega
        intro v' w3 hown3 hgrow3
        refine HR9.out _ _ ?_ ⟨hgrow3.os, hgrow3.tape, hgrow3.output, hgrow3.size, fun k hk => hgrow3.block k hk (by simp)⟩
        have h9 := ownsRow_base' hown3 HE.out.size
        simpa using h9
      case refine_4 =>
        have e0 := (HE2.out.cell (p := ⟨w.heap.size, 0, none⟩) hsz).trans KK.out.1
        have e1 := (HE2.out.cell (p := ⟨w.heap.size, 1, none⟩) hsz).trans KK.out.2.1
        have e2 := (HE2.out.cell (p := ⟨w.heap.size, 2, none⟩) hsz).trans KK.out.2.2
        go_wp2_with fail
        exact HR.out _ _ rfl (grows_refl _)
      case refine_5 =>
        go_wp2_with fail
        exact HR.out _ _ _ rfl (by simp) (World.news_of_block (cs := #[.int .i64 x.no, .int .i64 x.tm, .int .u64 (x.set : Int)]) (heap_alloc_new w' _)) (bl_alloc (Below.refl _ _) _)
    · intro vals w' hE hn
      have n2 := hn 2 36 (by omega) rfl
      have n4 := hn 4 38 (by omega) rfl
      simp [gOf, sgOwn, sgLone] at n2 n4
      obtain ⟨gl, e38, hgl, hcl⟩ := n4
      have HE := Lib.hid (grows_trans _ _ _ GW.out hE)
      have N2 := Lib.hid n2
      have HCL := Lib.hid hcl
      clear hn hE n2 hcl
      simp only [List.drop_succ_cons, List.drop_zero]
      go_wp2_with (first | (at_builtin; refine wpList_append_own _ rfl _ _ 22 rfl w.heap.size 29 i0 _ 3 24 Try.underlying22 hi hz0 hz1 hz2 rfl (by decide) _ n (vvs l) rfl N2.out ⟨gl, 0, none⟩ 1 1 (vv x) e38 rfl HCL.out (by simp [vv, Value.oneCell']) (by unfold maxLen; omega) (by omega) HE.out.size ?_))
      intro v' w4 hown4 hgrow4 hnn
      have hg4 : Grows w w4 := grows_of_grownBy HE.out hgrow4 (fun kk hkk => (N2.out.lt kk hkk).1)
      have hl4 : RList w4 w.heap.size v' (l ++ [x]) := by
        refine ⟨?_, fun h => by simp at h⟩
        show World.ownsRow _ _ _ _ _ _ _
        rw [List.length_append, EN.out, ← vvs_snoc]
        exact hown4
      have HL4 := Lib.hid hl4
      have HG4 := Lib.hid hg4
      clear hown4 hgrow4 hnn hl4 hg4
      go_wp2_with fail
      go_ret2
      exact ⟨_, rfl, HG4.out, HL4.out⟩
end Go.Proofs.Ytkihhdoejpjbbaa
