/- A roll's New (any number), Numbers, Drop. -/
import Derived.Test.YtgjieoljfcfacaaRollE
import Derived.Test.YtgjieoljfcfacaaSortRoll
import Derived.Test.YtgjieoljfcfacaaMisc
import Derived.Lib.SlKeysI
namespace Go.Proofs.Ytgjieoljfcfacaa
open Go.RowKit Go.Sort Go.Maps
set_option maxHeartbeats 1000000
set_option maxRecDepth 100000
theorem Try.infoI64 : (Try.prog.info? 2).map (fun i => (i.zero, i.size, i.bytes)) = some (some (.int .i64 0), 1, 8) := by kernel_rfl
/-- A slice of int64 of the call's own. -/
abbrev JOwn (w : World) (base : Nat) (v : Value) (l : List Int) : Prop := w.ownsRow base 2 1 v l.length (iv l)
def JHas (w : World) (v : Value) (l : List Int) : Prop := (l = [] ∧ ∃ a cap, v = .slice a 0 cap) ∨ ∃ g o cap, v = .slice (some ⟨g, o, none⟩) l.length cap ∧ l.length ≤ cap ∧ g < w.heap.size ∧ ∀ i, (h : i < l.length) → w.cell? ⟨g, o + i, none⟩ = some (.int .i64 l[i])
theorem JHas.grows {w w' : World} {v : Value} {l : List Int} (h : JHas w v l) (hg : Grows w w') : JHas w' v l := by
  rcases h with h | ⟨g, o, cap, h1, h0, h2, h3⟩
  · exact .inl h
  · exact .inr ⟨g, o, cap, h1, h0, Nat.lt_of_lt_of_le h2 hg.size, fun i hi => (hg.cell (p := ⟨g, o + i, none⟩) h2).trans (h3 i hi)⟩
theorem JOwn.has {w : World} {base : Nat} {v : Value} {l : List Int} (h : JOwn w base v l) : JHas w v l := by
  rcases h.2 with ⟨h1, h2⟩ | ⟨g, cap, cur, hv, hb, hg, h4, _⟩
  · exact .inl ⟨List.eq_nil_of_length_eq_zero h2, none, 0, h1⟩
  · refine .inr ⟨g, 0, cap, hv, h4, (Array.getElem?_eq_some_iff.1 hg).1, fun i hi => ?_⟩
    subst hv
    rw [Nat.zero_add, h.cellAt i (by omega)]
    simp [iv, hi]
theorem JHas.len {w : World} {v : Value} {l : List Int} {n : Nat} (h : JHas w v l) (hn : l.length = n) : ∃ a cap, v = .slice a n cap := by
  subst hn
  rcases h with ⟨rfl, a, cap, rfl⟩ | ⟨g, o, cap, h, _⟩
  · exact ⟨a, cap, rfl⟩
  · exact ⟨_, cap, h⟩
def sortI (l : List Int) : List Int := l.mergeSort fun x y => decide (x ≤ y)
theorem sortI_length (l : List Int) : (sortI l).length = l.length := by simp [sortI]
theorem sortI_perm (l : List Int) : (sortI l).Perm l := List.mergeSort_perm l _
theorem sortI_sorted (l : List Int) : (sortI l).Pairwise (· ≤ ·) := by
  have := List.pairwise_mergeSort (le := fun x y : Int => decide (x ≤ y)) (fun a b c h1 h2 => by simp only [decide_eq_true_eq] at *; exact Int.le_trans h1 h2) (fun a b => by simp only [Bool.or_eq_true, decide_eq_true_eq]; exact Int.le_total a b) l
  unfold sortI
  exact this.imp fun h => of_decide_eq_true h
/-- Numbers that are all different, in whatever order, sorted. -/
theorem sort_up {l K : List Int} (h : l.Perm K) (hK : Up K) : sortI l = K := by
  have hp := (sortI_perm l).trans h
  refine up_ext ?_ hK fun x => hp.mem_iff
  have hn : (sortI l).Nodup := hp.nodup_iff.2 (up_nodup hK)
  exact (sortI_sorted l).imp₂ (fun a b h1 h2 => by omega) hn
theorem sort_own (v : Value) (l : List Int) (base : Nat) (w : World) (h : JOwn w base v l) (hl : l.length ≤ 1000000) :
    Calls Try.prog 22 #[v] w (fun e w' => e = .returned (.tuple #[]) ∧ w.grownBy w' v.ownBlock ∧ JOwn w' base v (sortI l)) := by
  have hs := sortI_length l
  by_cases h0 : l = []
  · subst h0
    have hv : ∃ p cap, v = .slice p 0 cap := by
      rcases h.2 with ⟨h1, h2⟩ | ⟨g, cap, cur, hv, _⟩
      · exact ⟨none, 0, h1⟩
      · exact ⟨_, cap, hv⟩
    obtain ⟨p, cap, rfl⟩ := hv
    refine (Try.slices_Sort_none p cap w).mono ?_
    rintro e w' ⟨rfl, rfl⟩
    exact ⟨rfl, ⟨rfl, rfl, rfl, Nat.le_refl _, fun _ _ _ => rfl⟩, by rw [show sortI [] = [] by simp [sortI]]; exact h⟩
  · rcases h.2 with ⟨h1, h2⟩ | ⟨g, cap, cur, rfl, hb, hg, h4, h5, h6, h7⟩
    · exact absurd (List.eq_nil_of_length_eq_zero h2) h0
    · rw [Nat.mul_one] at h7
      have hH := holds_of_block_i hg h7
      refine (Try.slices_Sort g 0 cap l w hH (Array.getElem?_eq_some_iff.1 hg).1 (by omega)).mono ?_
      rintro e w' ⟨rfl, n, os, rfl⟩
      refine ⟨rfl, grownBy_sorted_i _, ?_⟩
      have := ownsRow_sorted_i (n := n) (os := os) (ss := l) (ts := sortI l) hs hb hg h4 h5 h6
      unfold JOwn
      rw [hs]
      exact this
/-- Which keys have come, as one goes over the map. -/
structure CollK (K : List Int) (left : Lit → Bool) (ks : List Int) : Prop where
  apart : ks.Nodup
  sub : ∀ x, x ∈ ks → x ∈ K
  left : ∀ x, x ∈ K → (x ∈ ks ↔ left (keyL x) = false)
theorem CollK.start {D : DataW Unit} {K : List Int} (h : ∀ x, Maps.has D (keyL x) = decide (x ∈ K)) : CollK K (Maps.has D) [] :=
  ⟨List.nodup_nil, fun p hp => absurd hp (by simp), fun p hp => by rw [h p]; simp [hp]⟩
theorem CollK.step {D : DataW Unit} {K ks : List Int} {left : Lit → Bool} (hD : ∀ x, Maps.has D (keyL x) = decide (x ∈ K)) (h : CollK K left ks) {x : Int} {y : DataW Unit} (hl : left (keyL x) = true) (hat : ∀ z, D.atKey (keyL x) z = y) :
    CollK K (fun z => left z && !z.sameKey (keyL x)) (ks ++ [x]) := by
  have hm : x ∈ K := by
    have hh := Maps.has_true_of_atKey hat
    rw [hD x] at hh
    exact of_decide_eq_true hh
  have hn : x ∉ ks := fun hc => by have := (h.left _ hm).1 hc; rw [hl] at this; cases this
  refine ⟨?_, ?_, ?_⟩
  · rw [List.nodup_append]
    exact ⟨h.apart, by simp, fun a ha b hb hab => by simp at hb; subst hb; subst hab; exact hn ha⟩
  · intro p hp
    rw [List.mem_append] at hp
    rcases hp with hp | hp
    · exact h.sub p hp
    · simp at hp; subst hp; exact hm
  · intro p hp
    by_cases hx : p = x
    · subst hx
      simp [Lit.sameKey]
    · have hs : (keyL p).sameKey (keyL x) = false := Maps.sameKey_ne (keyL_ne hx)
      rw [List.mem_append, hs, Bool.not_false, Bool.and_true, h.left p hp]
      simp [hx]
theorem CollK.perm {K ks : List Int} {left : Lit → Bool} (hK : K.Nodup) (h : CollK K left ks) (hl : ∀ k, left k = false) : ks.Perm K :=
  (List.perm_ext_iff_of_nodup h.apart hK).2 fun p => ⟨h.sub p, fun hp => (h.left p hp).2 (hl _)⟩
theorem mostO_cases (n : Int) : (n < 0 ∧ mostO n = 0) ∨ (0 ≤ n ∧ n ≤ 65536 ∧ n = (mostO n : Int)) ∨ (65536 < n ∧ mostO n = 65536) := by unfold mostO; omega
theorem rnew_most (n : Int) (w : World) :
    Calls Try.prog 5 #[.int .i64 n] w (fun e w' => e = .returned (.pointer (some ⟨w.heap.size + 1, 0, none⟩)) ∧ RollAt w' (w.heap.size + 1) w.heap.size (.map []) (mostO n : Nat) ∧ Below w.heap.size w w') := by
  have hmm := @run_makeMap Try.prog
  obtain ⟨k, ek⟩ : ∃ k, mostO n = k := ⟨_, rfl⟩
  have h3 := mostO_cases n
  rw [ek] at h3 ⊢
  clear ek
  rcases h3 with ⟨h1, rfl⟩ | ⟨h1, h2, rfl⟩ | ⟨h1, rfl⟩
  all_goals (
    go_enter Try.func5, Try.ntmps5
    go_wp2
    go_ret
    refine ⟨rfl, ⟨?_, ?_, ?_⟩, by (repeat (first | with_reducible exact Below.refl _ _ | with_reducible refine bl_alloc ?_ _ | ((with_reducible refine bl_set ?_ ?_ _); rotate_left; (first | exact Nat.le_refl _ | exact Nat.le_succ_of_le (Nat.le_refl _) | (simp only []; omega))) | with_reducible refine bl_drewN ?_ _ | with_reducible refine bl_drew ?_ | with_reducible refine bl_reg ?_ _))⟩
    · simp [go_sem]
    · simp [go_sem]; omega
    · exact ((World.ownsMap_made _ _ _ _).alloc _))
/-- Numbers: the keys, rising. -/
theorem numbers_any (w : World) {b m : Nat} {D : DataW Unit} {most : Int} {l : NL} (h : RollAt w b m D most) (hr : RollR D l) (hs : l.length ≤ 1000) :
    Calls Try.prog 14 #[.pointer (some ⟨b, 0, none⟩)] w (fun e w' => ∃ v, e = .returned v ∧ Grows w w' ∧ JOwn w' w.heap.size v (numsN l)) := by
  obtain ⟨i0, hi, hz0, hz1, hz2⟩ := info_parts Try.infoI64
  have hh : ∀ x, Maps.has D (keyL x) = decide (x ∈ numsN l) := fun x => by rw [hr.has, decide_eq_decide, mem_nums]
  have hsz := h.size hr
  have c0 := h.c0
  have ho := h.own
  have HML := Lib.hid ho.lt
  have HSZ := Lib.hid hsz
  have HD := Lib.hid hh
  have HU := Lib.hid (up_nums l)
  have HLN := Lib.hid (Nat.le_trans (nums_len l) hs)
  obtain ⟨K, eK⟩ : ∃ K, numsN l = K := ⟨_, rfl⟩
  rw [eK] at HSZ HD HU HLN ⊢
  clear h hr hs hh hsz eK
  go_enter Try.func14, Try.ntmps14
  go_wp2_with (first | (at_range; refine wpList_range_own _ rfl _ 46 rfl 2 39 setLaw Try.underlying46 _ m (Maps.size D) D rfl ho ?_; intro w0 hrg0 hg0 hs0))
  go_frame
  go_loopw [3, 4] (fun vl _ wr => ∃ (left : Lit → Bool) (cnt : Nat) (ks : List Int), wr.ranges Try.prog 2 (plainElem Try.prog 39) m w.heap.size (Maps.size D) D left cnt ∧ CollK K left ks ∧ ks.length + cnt ≤ K.length ∧ JOwn wr (w.heap.size + 1) vl ks ∧ Below w.heap.size w wr ∧ w.heap.size + 1 ≤ wr.heap.size) (fun _ _ wr => wr.rangeLeft m w.heap.size)
  case atStart => exact ⟨_, _, [], hrg0, CollK.start HD.out, by rw [HSZ.out]; simp, ⟨rfl, .inl ⟨rfl, rfl⟩⟩, ⟨hg0.os, hg0.tape, hg0.output, hg0.size, fun k hk => hg0.block k hk (by simp)⟩, by omega⟩
  case round =>
    obtain ⟨left, cnt, ks, hrg, hC, hcnt, hO, hG, hsz⟩ := hrel
    have HC := Lib.hid hC
    have HO := Lib.hid hO
    have HG := Lib.hid hG
    clear hC hO hG
    go_wp2_with (first | (at_next; refine wpList_next_ranges_ii _ rfl _ rfl 2 39 .i64 .u64 setLaw Try.underlying2 Try.underlying39 m w.heap.size (Maps.size D) _ _ _ rfl hrg ?_ ?_))
    · intro _ hl0
      have hp := HC.out.perm (up_nodup HU.out) hl0
      have hso := fun v W (h : JOwn W (w.heap.size + 1) v ks) => sort_own v ks (w.heap.size + 1) W h (by rw [hp.length_eq]; exact Nat.le_trans HLN.out (by decide))
      rw [sort_up hp HU.out] at hso
      have HSO := Lib.hid hso
      have HLT := Lib.hid (fun j hj => (HO.out.lt j hj).1)
      clear hso hp hl0
      go_wp2_with fail
      go_at_call 22
      refine (HSO.out _ _ HO.out).mono ?_
      rintro e w1 ⟨rfl, hg1, ho1⟩
      have G1 := Lib.hid (grows_of_grownBy HG.out hg1 (fun k hk => Nat.le_trans (Nat.le_succ _) (HLT.out k hk)))
      have O1 := Lib.hid (row_base ho1 (Nat.le_succ _))
      clear hg1 ho1
      go_wp2_with fail
      go_ret
      exact ⟨_, rfl, G1.out, O1.out⟩
    · intro x c w1 cnt1 hwx hwc hlx hat hrg1 hlt hg1 hs1 hen
      have hC1 := HC.out.step HD.out hlx hat
      have hG1 : Below w.heap.size w w1 := HG.out.grown hg1 HG.out.size (fun k hk => by cases hk; exact Nat.le_refl _)
      have hO1 : JOwn w1 (w.heap.size + 1) u3 ks := HO.out.kept hg1 (by
        cases hb : u3.ownBlock with
        | none => exact .inl rfl
        | some k => exact .inr fun hc => by have := (HO.out.lt k hb).1; cases hc; omega)
      have hkl : ks.length ≤ 1000 := by have := HLN.out; omega
      have HC1 := Lib.hid hC1
      have HG1 := Lib.hid hG1
      have HO1 := Lib.hid hO1
      have hz1' : w.heap.size + 1 ≤ w1.heap.size := by omega
      clear hC1 hG1 hO1 hs1
      go_wp2_with (at_builtin; refine wpList_append_own _ rfl _ _ 42 rfl (w.heap.size + 1) 2 i0 _ 1 8 Try.underlying42 hi hz0 hz1 hz2 rfl (by decide) _ ks.length (iv ks) rfl (HO1.out.alloc _) ⟨w1.heap.size, 0, none⟩ 1 1 [.int .i64 x] rfl rfl ?aq1 ?aq2 ?aq3 ?aq4 ?aq5 ?_)
      first | (case aq1 => exact World.news_of_block (heap_alloc_new w1 (.cells #[.int .i64 x] 2))) | skip
      case aq2 => first | rfl | (intro u hu; simp at hu; subst hu; rfl)
      case aq3 => unfold maxLen; omega
      case aq4 => omega
      case aq5 => have := HG1.out.size; simp; omega
      intro v' w2 hown2 hgrow _
      rw [iv_snoc] at hown2
      have hO2 : JOwn w2 (w.heap.size + 1) v' (ks ++ [x]) := by
        unfold JOwn
        rw [List.length_append]
        exact hown2
      have hG2 : Grows w w2 := grows_of_grownBy (bl_alloc HG1.out _) hgrow (fun kk hkk => Nat.le_trans (Nat.le_succ _) (HO1.out.lt kk hkk).1)
      have hrg2 := (hrg1.alloc (.cells #[.int .i64 x] 2)).kept hgrow (fun hc => by have := (HO1.out.lt _ hc.symm).1; have := HML.out; omega) (fun hc => by have := (HO1.out.lt _ hc.symm).1; omega)
      have hz2 : w.heap.size + 1 ≤ w2.heap.size := Nat.le_trans (by simp; omega) hgrow.size
      have hm1 : w2.rangeLeft m w.heap.size < wr.rangeLeft m w.heap.size := by rw [hrg2.left_eq, hrg.left_eq]; exact hlt
      have hcnt1 : (ks ++ [x]).length + cnt1 ≤ K.length := by rw [List.length_append]; simp; omega
      go_wp2_with fail
      go_roundw
      case rel => exact ⟨_, _, _, hrg2, HC1.out, hcnt1, hO2, hG2, hz2⟩
      case measure => exact hm1
end Go.Proofs.Ytgjieoljfcfacaa
