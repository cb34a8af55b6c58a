/- A region that draws its order: first operations by an invariant (new memory alone), the last ones in one forced order. -/
import Derived.Test.YtgjieoljfcfacaaDoorWideL
namespace Go.Proofs.YtgjieoljfcfacaaDoor
open Go.RowKit Go.Sort

section
variable {P : Program} {l : List Oper} {Q : Exit → Act → World → Prop} {E : World → World → Prop} {G : Nat → Value → World → Prop} {a : Act} {w : World} {n : Nat}

theorem wide_any_tail (hB : wideB l = true) (ok : TailOk l.toArray n) (hd : ∀ i d, dstAt l i = some d → d < a.tmps.size) (ht : ∀ w1 w2 w3, E w1 w2 → E w2 w3 → E w1 w3) (hG : ∀ i v w1 w2, G i v w1 → E w1 w2 → G i v w2)
    (hop : ∀ i o, i < n → l[i]? = some o → wideOb P l Q E G a w i o)
    (hfin : ∀ vals w', E w w' → (∀ i d, i < n → dstAt l i = some d → G i (vals d) w') → wpList P l.toArray Q (l.drop n) (Act.over a (dstsOf l) vals) w') :
    ∀ (fuel : Nat) (listed : Array Bool) (a' : Act) (w' : World), unlisted n listed ≤ fuel → (∀ t, n ≤ t → t < l.length → listed.getD t false = false) → WideInv l E G a w listed a' w' → wpAny P .any l.toArray Q (fuel + (l.length - n)) listed a' w' := by
  have hn : n < l.length := by simpa using ok.lt
  have done : ∀ (fuel : Nat) (listed : Array Bool) (a' : Act) (w' : World), (∀ i, i < n → listed.getD i false = true) → (∀ t, n ≤ t → t < l.length → listed.getD t false = false) → WideInv l E G a w listed a' w' → wpAny P .any l.toArray Q (fuel + (l.length - n)) listed a' w' := by
    intro fuel listed a' w' hall htl h
    have hq := hfin (fun s => a'.tmps.getD s undef) w' h.world (fun i d hi hid => h.on i d (hall i hi) hid)
    rw [← over_self h] at hq
    have := tail_seq (P := P) (Q := Q) ok fuel (l.drop n) n listed a' w' rfl (Nat.le_refl _) (by omega) h.size (fun i hi => by
      by_cases hin : i < n
      · rw [hall i hin]; simp [hin]
      · rw [htl i (by omega) hi]; simp [hin]) hq
    rwa [List.length_drop, Nat.add_comm] at this
  have all_of : ∀ (listed : Array Bool), unlisted n listed = 0 → ∀ i, i < n → listed.getD i false = true := by
    intro listed h0 i hi
    unfold unlisted at h0
    have := List.eq_nil_of_length_eq_zero h0
    rw [List.filter_eq_nil_iff] at this
    have := this i (List.mem_range.2 hi)
    simpa using this
  intro fuel
  induction fuel with
  | zero =>
    intro listed a' w' hu htl h
    exact done 0 listed a' w' (all_of listed (by omega)) htl h
  | succ fuel ih =>
    intro listed a' w' hu htl h
    by_cases hall : ∀ i, i < n → listed.getD i false = true
    · exact done (fuel + 1) listed a' w' hall htl h
    rw [show fuel + 1 + (l.length - n) = (fuel + (l.length - n)) + 1 by omega]
    refine ⟨fun hr => ?_, fun i hi => ?_⟩
    · exfalso
      have := wide_done hB h.size hr n hn
      rw [htl n (Nat.le_refl _) hn] at this
      cases this
    obtain ⟨h0, o, ho, hrall⟩ := mem_ready.1 hi
    have h0' := getD_true_of h0
    have ho' : l[i]? = some o := by simpa using ho
    have hi2 : i < l.length := (List.getElem?_eq_some_iff.1 ho').1
    have hin : i < n := by
      rcases Nat.lt_or_ge i n with h' | h'
      · exact h'
      · exfalso
        have H : HeadIs l n listed := ⟨h.size, fun k ok' hk hkt e he _ => h.closed k ok' hkt hk e he, htl⟩
        exact hall (fun j hj => tail_ready ok H hi h' j hj)
    have hdo : dstAt l i = o.dst := by unfold dstAt; rw [ho']; rfl
    have haf : ∀ e ∈ o.after, listed.getD e.on false = true := fun e he => hrall e he (wideB_edge hB ho' e he).2
    have step := hop i o hin ho' (fun s => a'.tmps.getD s undef) w' h.world
      (by
        rintro ⟨j, d⟩ hp
        unfold needsOf at hp
        rw [List.mem_filterMap] at hp
        obtain ⟨e, he, hm⟩ := hp
        cases hdj : dstAt l e.on with
        | none => simp [hdj] at hm
        | some d2 =>
          simp only [hdj, Option.map_some, Option.some.injEq, Prod.mk.injEq] at hm
          obtain ⟨rfl, rfl⟩ := hm
          exact h.on _ _ (haf e (by simpa using he)) hdj)
      (by
        intro d hp
        unfold laterOf at hp
        rw [List.mem_filterMap] at hp
        obtain ⟨ok, hk, hdk⟩ := hp
        rw [List.mem_filter] at hk
        obtain ⟨hk1, hk2⟩ := hk
        obtain ⟨k, hk3⟩ := List.getElem?_of_mem hk1
        obtain ⟨e, he, hb⟩ := Array.any_eq_true'.1 hk2
        simp only [Bool.and_eq_true, beq_iff_eq] at hb
        have hdk' : dstAt l k = some d := by unfold dstAt; rw [hk3]; exact hdk
        have := h.off d (fun j hj hjd => by
          have e1 := wideB_one hB hjd hdk'
          subst e1
          have := h.closed j ok hj hk3 e he
          rw [hb.2, h0'] at this
          cases this)
        simp only [Array.getD_eq_getD_getElem?, this])
      (wpAny P .any l.toArray Q (fuel + (l.length - n)) (listed.setIfInBounds i true))
      (by
        intro v w'' hgv hE
        rw [← over_self h]
        have hls : ∀ j, (listed.setIfInBounds i true).getD j false = (decide (j = i) || listed.getD j false) := fun j => listed_set (by rw [h.size]; exact hi2)
        refine ih _ _ _ ?_ ?_ ?_
        · have e : ((List.range n).filter fun j => !(listed.setIfInBounds i true).getD j false) = ((List.range n).filter fun j => !listed.getD j false).filter fun j => decide (j ≠ i) := by
            rw [List.filter_filter]
            apply List.filter_congr
            intro j _
            rw [hls]
            by_cases hji : j = i <;> simp [hji]
          have hlt : unlisted n (listed.setIfInBounds i true) < unlisted n listed := by
            unfold unlisted
            rw [e]
            apply List.length_filter_lt_length_iff_exists.2
            exact ⟨i, List.mem_filter.2 ⟨List.mem_range.2 hin, by rw [h0']; rfl⟩, by simp⟩
          omega
        · intro t htn htl2
          rw [hls, htl t htn htl2]
          simp
          omega
        · refine ⟨ht _ _ _ h.world hE, by simp [h.size], by rw [put_defers]; exact h.defers, by rw [put_size]; exact h.tmps, ?_, ?_, ?_⟩
          · intro j d hj hjd
            rw [Array.getD_eq_getD_getElem?, put_tmps]
            by_cases hji : j = i
            · subst hji
              rw [hdo] at hjd
              rw [if_pos ⟨hjd, by rw [h.tmps]; exact hd j d (by rw [hdo]; exact hjd)⟩]
              exact hgv
            · rw [if_neg (fun hc => hji (wideB_one hB hjd (by rw [hdo]; exact hc.1)))]
              rw [hls] at hj
              simp only [hji, decide_false, Bool.false_or] at hj
              have := hG _ _ _ _ (h.on j d hj hjd) hE
              rwa [Array.getD_eq_getD_getElem?] at this
          · intro j oj hj hoj e he
            rw [hls] at hj ⊢
            by_cases hji : j = i
            · subst hji
              rw [ho'] at hoj
              cases hoj
              rw [haf e he]
              simp
            · simp only [hji, decide_false, Bool.false_or] at hj
              rw [h.closed j oj hj hoj e he]
              simp
          · intro s hs
            rw [put_tmps, if_neg (fun hc => hs i (by rw [hls]; simp) (by rw [hdo]; exact hc.1))]
            exact h.off s fun j hj => hs j (by rw [hls, hj]; simp))
    rw [← over_self h] at step
    unfold wpOp
    simp only [ho]
    unfold wpList at step
    split
    · rename_i hw
      rw [if_pos hw] at step
      rcases step with step | ⟨hask, a1, w1, ho1⟩
      · exact .inl (upon_onDone step)
      · exact .inr ⟨hask, a1, w1, ho1⟩
    · rename_i hw
      rw [if_neg hw] at step
      exact step
end

/-- First n operations by an invariant, the rest in one forced order. -/
theorem wp_wide_tail {P : Program} {l : List Oper} {Q : Exit → Act → World → Prop} {a : Act} {w : World} (n : Nat) (Gs : List (SG Grows)) (f : (Nat → Value) → Act) {id : Nat} (hm : P.follows .mixedOrders = true) (hB : wideB l = true) (hT : tailB l.toArray n = true) (hd : (dstsOf l).all (fun d => decide (d < a.tmps.size)) = true)
    (hf : ∀ vals, Act.over a (dstsOf l) vals = f vals)
    (hop : wideOps P l Q Gs f w 0 (l.take n))
    (hfin : ∀ vals w', Grows w w' → (∀ i d, i < n → dstAt l i = some d → gOf Gs i (vals d) w') → wpList P l.toArray Q (l.drop n) (f vals) w') : (Code.region id l.toArray true).wp P Q a w := by
  have ok := tailOk_of hT
  have hn : n < l.length := by simpa using ok.lt
  refine wp_region_any hm ?_
  have := wide_any_tail (P := P) (Q := Q) (a := a) (w := w.drew) (E := Grows) (G := gOf Gs) (n := n) hB ok (fun i d hid => by
      rw [List.all_eq_true] at hd
      simpa using hd d (mem_dsts.2 ⟨i, hid⟩)) grows_trans (gOf_stays Gs)
    (fun i o hi ho => by
      have := wideOps_get _ 0 hop i o (by rw [List.getElem?_take]; simp [hi, ho])
      rw [Nat.zero_add] at this
      intro vals w' hE hn _ R hR
      rw [hf] at hR ⊢
      exact this vals w' (grows_trans _ _ _ (bl_drew (Below.refl _ _)) hE) hn R hR)
    (fun vals w' hE h => by
      rw [hf]
      exact hfin vals w' (grows_trans _ _ _ (bl_drew (Below.refl _ _)) hE) h)
    n (Array.replicate l.toArray.size false) a w.drew
    (by unfold unlisted; refine Nat.le_trans (List.length_filter_le _ _) ?_; simp)
    (fun t _ _ => by
      rw [Array.getD_eq_getD_getElem?, Array.getElem?_replicate]
      split <;> rfl)
    (by
      have hno : ∀ i, (Array.replicate l.toArray.size false).getD i false = false := by
        intro i
        rw [Array.getD_eq_getD_getElem?, Array.getElem?_replicate]
        split <;> rfl
      refine ⟨grows_refl _, by simp, rfl, rfl, ?_, ?_, ?_⟩
      · intro i d h; rw [hno] at h; cases h
      · intro i o h; rw [hno] at h; cases h
      · intro s _; rfl)
  rw [show n + (l.length - n) = l.length by omega] at this
  simpa using this
end Go.Proofs.YtgjieoljfcfacaaDoor
