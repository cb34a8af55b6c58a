/- The law's 'same': a roll and the document's notes side by side. -/
import Derived.Test.YtgjieoljfcfacaaRollL
namespace Go.Proofs.Ytgjieoljfcfacaa
open Go.RowKit Go.Sort Go.Maps
set_option maxHeartbeats 4000000
set_option maxRecDepth 100000
theorem RollAt.grows {w w' : World} {b m : Nat} {D : DataW Unit} {most : Int} (h : RollAt w b m D most) (hg : Grows w w') : RollAt w' b m D most :=
  h.kept (row := none) ⟨hg.os, hg.tape, hg.output, hg.size, fun k hk _ => hg.block k hk⟩ (by simp) (by simp)
theorem set_same (w : World) {b m : Nat} {D : DataW Unit} {most : Int} (h : RollAt w b m D most) (no : Int) (hno : (Lit.int .i64 no).wf = true) :
    Calls Try.prog 11 #[.pointer (some ⟨b, 0, none⟩), .int .i64 no] w (fun e w' => e = .returned (.int .u64 (valN D no)) ∧ w = w') :=
  (set_any w h no hno).mono fun _ _ ⟨he, _, hw⟩ => ⟨he, hw⟩
/-- The numbers of a roll are int64. -/
theorem RollAt.wfn {w : World} {b m : Nat} {D : DataW Unit} {most : Int} {l : NL} (h : RollAt w b m D most) (hr : RollR D l) {x : Int} (hx : x ∈ numsN l) : (Lit.int .i64 x).wf = true := by
  obtain ⟨es, rfl, h1, h2⟩ := own_ints h.own setLaw Try.underlying2
  have : Maps.has (.map es) (keyL x) = true := by rw [hr.has, decide_eq_true_eq]; exact mem_nums.1 hx
  obtain ⟨p, hp, hpk⟩ := List.any_eq_true.1 this
  obtain ⟨y, hy, hw⟩ := h2 p hp
  have he := WideAt.sameKey_eq hpk
  rw [hy] at he
  injection he with _ he
  rw [← he]; exact hw
theorem jget {w : World} {v : Value} {l : List Int} {n i : Nat} (h : JHas w v l) (hn : l.length = n) (hi : i < n) : ∃ g o cap, v = .slice (some ⟨g, o, none⟩) n cap ∧ n ≤ cap ∧ g < w.heap.size ∧ w.cell? ⟨g, o + i, none⟩ = some (.int .i64 (l[i]'(by omega))) := by
  subst hn
  rcases h with ⟨rfl, _⟩ | ⟨g, o, cap, h1, h2, h3, h4⟩
  · simp at hi
  · exact ⟨g, o, cap, h1, h2, h3, h4 i hi⟩
theorem rsame_any {w : World} {b m M B : Nat} {D : DataW Unit} {v : Value} {l : NL} (h : RollAt w b m D M) (hr : RollR D l) (ho : NOwn w B v l) (hm : l.length ≤ 1000) :
    Calls Try.prog 8 #[.pointer (some ⟨b, 0, none⟩), nval v M] w (RetV w (.bool true)) := by
  obtain ⟨n, en⟩ : ∃ n, l.length = n := ⟨_, rfl⟩
  obtain ⟨a, cap, rfl⟩ := NOwn.len ho en
  obtain ⟨c, ec⟩ : ∃ c, w.heap.size = c := ⟨_, rfl⟩
  obtain ⟨W, eW⟩ : ∃ W, w.alloc (.cells #[.slice a n cap, .int .i64 (M : Int)] TRD) = W := ⟨_, rfl⟩
  have hb0 := heap_alloc_new w (.cells #[.slice a n cap, .int .i64 (M : Int)] TRD)
  have hg : Grows w W := by rw [← eW]; exact bl_alloc (Below.refl _ _) _
  rw [eW, ec] at hb0
  obtain ⟨z, ez⟩ : ∃ z, (numsN l).length = z := ⟨_, rfl⟩
  have hsz := h.size hr
  have hwf := fun x hx => h.wfn hr (x := x) hx
  have hz6 : z ≤ 1000000 := by rw [← ez]; exact Nat.le_trans (nums_len l) (Nat.le_trans hm (by decide))
  have hval := fun x => hr.val x
  have HN1 := Lib.hid (fun W' (hg : Grows w W') => numbers_any W' (h.grows hg) hr hm)
  have HN2 := Lib.hid (fun W' (hg : Grows w W') => nnums_any (M := M) (own_grows ho hg) hm)
  have HL := Lib.hid (fun W' (hg : Grows w W') => len_any W' (h.grows hg))
  rw [hsz, ez] at HL
  rw [ez] at HN2
  have HS1 := Lib.hid (fun W' (hg : Grows w W') x hx => set_same W' (h.grows hg) x (hwf x hx))
  have HS2 := Lib.hid (fun W' (hg : Grows w W') x => nset_any (M := M) x (own_grows ho hg) hm)
  have HV := Lib.hid hval
  obtain ⟨K, eK⟩ : ∃ K, numsN l = K := ⟨_, rfl⟩
  rw [eK] at HN1 HN2 HS1 ez
  have HG := Lib.hid hg
  have HB := Lib.hid hb0
  have EZ := Lib.hid ez
  have HZ6 := Lib.hid hz6
  obtain ⟨s0, -⟩ := cell_in hb0 0 rfl
  obtain ⟨s1, -⟩ := cell_in hb0 1 rfl
  have z0 := box_lt hb0
  clear h hr ho hm en hb0 hg hsz hwf hz6 hval eK ez
  simp only [nval]
  go_enter Try.func8, Try.ntmps8
  go_wp2_with fail
  go_cut [5, 6] (fun x y wx => Shut (∃ a1 c1 a2 c2, x = .slice a1 z c1 ∧ y = .slice a2 z c2 ∧ JHas wx x K ∧ JHas wx y K ∧ Grows W wx))
  case first =>
    have KS := Lib.hid (fun W' (hg : Grows W W') => show W'.cell? ⟨c, 0, none⟩ = some (.slice a n cap) ∧ W'.cell? ⟨c, 1, none⟩ = some (.int .i64 (M : Int)) from ⟨(cell_in (box_grows HB.out hg) 0 rfl).1, (cell_in (box_grows HB.out hg) 1 rfl).1⟩)
    clear s0 s1 z0
    go_region_held3 (fun w' => w'.cell? ⟨c, 0, none⟩ = some (.slice a n cap) ∧ w'.cell? ⟨c, 1, none⟩ = some (.int .i64 (M : Int)))
      ((exact KS.out _ (by show Below W.heap.size W _; (repeat (first | with_reducible exact Below.refl _ _ | with_reducible refine bl_alloc ?_ _ | ((with_reducible refine bl_set ?_ ?_ _); rotate_left; (first | exact Nat.le_refl _ | exact Nat.le_succ_of_le (Nat.le_refl _) | (simp only []; omega))) | with_reducible refine bl_drewN ?_ _ | with_reducible refine bl_drew ?_ | with_reducible refine bl_reg ?_ _)))))
      ((first
        | (go_at_call 14; refine (HN1.out _ (grows_trans _ _ _ HG.out (by show Below W.heap.size W _; (repeat (first | with_reducible exact Below.refl _ _ | with_reducible refine bl_alloc ?_ _ | ((with_reducible refine bl_set ?_ ?_ _); rotate_left; (first | exact Nat.le_refl _ | exact Nat.le_succ_of_le (Nat.le_refl _) | (simp only []; omega))) | with_reducible refine bl_drewN ?_ _ | with_reducible refine bl_drew ?_ | with_reducible refine bl_reg ?_ _))))).mono ?_; rintro e w7 ⟨v7, rfl, hg7, ho7⟩; have hj7 := ho7.has; obtain ⟨a7, c7, rfl⟩ := hj7.len EZ.out; have N7 := Lib.hid hj7; clear ho7 hj7; (first | have J8 := Lib.hid (N8.out.grows hg7) | have J8 := Lib.hid (N8.out.grows (grows_trans _ _ _ (bl_drew (Below.refl _ _)) hg7)) | skip); obtain ⟨p7, rfl⟩ := regr hg7)
        | (go_at_call 18; refine (HN2.out _ (grows_trans _ _ _ HG.out (by show Below W.heap.size W _; (repeat (first | with_reducible exact Below.refl _ _ | with_reducible refine bl_alloc ?_ _ | ((with_reducible refine bl_set ?_ ?_ _); rotate_left; (first | exact Nat.le_refl _ | exact Nat.le_succ_of_le (Nat.le_refl _) | (simp only []; omega))) | with_reducible refine bl_drewN ?_ _ | with_reducible refine bl_drew ?_ | with_reducible refine bl_reg ?_ _))))).mono ?_; rintro e w8 ⟨a8, c8, rfl, hg8, ho8⟩; have N8 := Lib.hid ho8.has; clear ho8; (first | have J7 := Lib.hid (N7.out.grows hg8) | have J7 := Lib.hid (N7.out.grows (grows_trans _ _ _ (bl_drew (Below.refl _ _)) hg8)) | skip); obtain ⟨p8, rfl⟩ := regr hg8)))
    all_goals (
      go_wp2_with fail
      go_meet
      refine ⟨a7, c7, a8, c8, rfl, rfl, ?_, ?_, ?_⟩
      · first | (have h := J7.out; simpa only [reg_reg, drew_reg] using h) | (have h := N7.out; simpa only [reg_reg, drew_reg] using h)
      · first | (have h := J8.out; simpa only [reg_reg, drew_reg] using h) | (have h := N8.out; simpa only [reg_reg, drew_reg] using h)
      · show Below W.heap.size W _
        (repeat (first | with_reducible exact Below.refl _ _ | with_reducible refine bl_alloc ?_ _ | ((with_reducible refine bl_set ?_ ?_ _); rotate_left; (first | exact Nat.le_refl _ | exact Nat.le_succ_of_le (Nat.le_refl _) | (simp only []; omega))) | with_reducible refine bl_drewN ?_ _ | with_reducible refine bl_drew ?_ | with_reducible refine bl_reg ?_ _)))
  case rest =>
    obtain ⟨a1, c1, a2, c2, rfl, rfl, hk1, hk2, hg1⟩ := hcut
    have K1 := Lib.hid hk1
    have K2 := Lib.hid hk2
    have G1 := Lib.hid hg1
    clear hk1 hk2 hg1 s0 s1 z0 eW
    go_wp2_with fail
    refine (HL.out _ (grows_trans _ _ _ HG.out G1.out)).mono ?_
    rintro e w2 ⟨rfl, rfl⟩
    go_wp2_with fail
    go_loopw [26] (fun iv wr => ∃ i : Nat, iv = .int .i64 (i : Int) ∧ i ≤ z ∧ JHas wr (.slice a1 z c1) K ∧ JHas wr (.slice a2 z c2) K ∧ Grows W wr) (fun iv _ => z - (intOf iv).toNat)
    case atStart => exact ⟨0, rfl, Nat.zero_le _, K1.out, K2.out, G1.out⟩
    case round =>
      obtain ⟨i, rfl, hi, hk1, hk2, hg⟩ := hrel
      have J1 := Lib.hid hk1
      have J2 := Lib.hid hk2
      have HGR := Lib.hid hg
      obtain ⟨s0, -⟩ := cell_in (box_grows HB.out hg) 0 rfl
      obtain ⟨s1, -⟩ := cell_in (box_grows HB.out hg) 1 rfl
      have z0 := box_lt (box_grows HB.out hg)
      by_cases hlt : i < z
      · obtain ⟨g1, o1, c1', he1, hc1, hl1, hx1⟩ := jget hk1 EZ.out hlt
        obtain ⟨g2, o2, c2', he2, hc2, hl2, hx2⟩ := jget hk2 EZ.out hlt
        simp only [Value.slice.injEq, true_and] at he1 he2
        obtain ⟨rfl, rfl⟩ := he1
        obtain ⟨rfl, rfl⟩ := he2
        have hy : K[i]'(by rw [EZ.out]; exact hlt) ∈ K := List.getElem_mem _
        obtain ⟨y, ey⟩ : ∃ y, K[i]'(by rw [EZ.out]; exact hlt) = y := ⟨_, rfl⟩
        rw [ey] at hx1 hx2 hy
        have hn6 : i ≤ 1000000 := Nat.le_trans (Nat.le_of_lt hlt) HZ6.out
        have HNF := Lib.hid (nat_facts i hn6)
        have HWS := Lib.hid (wrap_succ hn6)
        have HLT := Lib.hid hlt
        have hki : (i : Int) < (z : Int) := Int.ofNat_lt.2 hlt
        have HT1 := Lib.hid (fun W' (hg' : Grows wr W') => HS1.out W' (grows_trans _ _ _ HG.out (grows_trans _ _ _ hg hg')) y hy)
        rw [HV.out y] at HT1
        have HT2 := Lib.hid (fun W' (hg' : Grows wr W') => HS2.out W' (grows_trans _ _ _ HG.out (grows_trans _ _ _ hg hg')) y)
        obtain ⟨s, es⟩ : ∃ s, setN l y = s := ⟨_, rfl⟩
        rw [es] at HT1 HT2
        clear hy ey hlt hn6 hi hg hk1 hk2 hc1 hc2 es
        obtain ⟨j1, j2, j3, j4, j6⟩ := HNF.out
        go_wp2_with fail
        refine wp_region_reg (by kernel_rfl) (by kernel_rfl) ?_
        repeat (first | go_big_quiet_step ((first | (go_at_call 11; refine class_same (HT1.out _ (below_reg _ _)) ⟨_, rfl⟩) | (go_at_call 16; exact class_reg (HT2.out _ (below_reg _ _))))) | quiet_step ((first | (go_at_call 11; refine class_same (HT1.out _ (below_reg _ _)) ⟨_, rfl⟩) | (go_at_call 16; exact class_reg (HT2.out _ (below_reg _ _))))))
        refine wpQuiet_nil ?_
        intro _ hcw1
        obtain ⟨pq, hcw2⟩ := hcw1
        subst hcw2
        have J5 := Lib.hid (And.intro (J1.out.grows (below_reg _ pq)) (And.intro (J2.out.grows (below_reg _ pq)) (grows_trans _ _ _ HGR.out (below_reg _ pq))))
        go_wp2_with fail
        go_roundw
        case rel => exact ⟨i + 1, by rw [HWS.out]; rfl, HLT.out, J5.out⟩
        case measure => rw [HWS.out]; exact meas_succ HLT.out
      · obtain rfl : i = z := Nat.le_antisymm hi (Nat.le_of_not_lt hlt)
        clear hlt hi hg hk1 hk2
        go_wp2_with fail
        go_ret
        exact ⟨rfl, grows_trans _ _ _ HG.out HGR.out⟩
end Go.Proofs.Ytgjieoljfcfacaa
