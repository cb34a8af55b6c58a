/- A region that draws its order and whose last operation waits for all others: those by an invariant, the last one by itself. -/
import Derived.Test.YthdcmchjlpkkaaaDoorWide
namespace Go.Proofs.YthdcmchjlpkkaaaDoor
open Go.RowKit Go.Sort

/-! The same, the last operation by itself: it waits for all others. -/
/-- What the kernel is asked besides: the last operation waits for each other one. -/
def lastB (l : List Oper) : Bool := match l[l.length - 1]? with | some o => (List.range (l.length - 1)).all fun j => o.after.any fun e => Region.binds .any e && e.on == j | none => false
theorem lastB_spec {l : List Oper} (h : lastB l = true) : ∃ o, l[l.length - 1]? = some o ∧ ∀ j, j < l.length - 1 → ∃ e ∈ o.after, Region.binds .any e = true ∧ e.on = j := by
  unfold lastB at h
  cases ho : l[l.length - 1]? with
  | none => simp [ho] at h
  | some o =>
    simp only [ho, List.all_eq_true, List.mem_range] at h
    refine ⟨o, rfl, fun j hj => ?_⟩
    obtain ⟨e, he, hb⟩ := Array.any_eq_true'.1 (h j hj)
    simp only [Bool.and_eq_true, beq_iff_eq] at hb
    exact ⟨e, he, hb.1, hb.2⟩

section
variable {P : Program} {l : List Oper} {Q : Exit → Act → World → Prop} {E : World → World → Prop} {G : Nat → Value → World → Prop} {a : Act} {w : World}
theorem all_listed_end {listed : Array Bool} (hall : ∀ i, i < l.length → listed.getD i false = true) (fuel : Nat) (a' : Act) (w' : World) (h : Q .normal a' w') : wpAny P .any l.toArray Q fuel listed a' w' := by
  have hr : Region.ready .any l.toArray listed = [] := by
    rw [List.eq_nil_iff_forall_not_mem]
    intro i hi
    obtain ⟨h0, o, ho, _⟩ := mem_ready.1 hi
    have hi2 : i < l.length := by simpa using (Array.getElem?_eq_some_iff.1 ho).1
    have h1 := getD_true_of h0
    rw [hall i hi2] at h1
    cases h1
  cases fuel with
  | zero => exact ⟨hr, h⟩
  | succ fuel => exact ⟨fun _ => h, fun i hi => by rw [hr] at hi; cases hi⟩

theorem wide_any_last (hB : wideB l = true) (hL : lastB l = true) (hd : ∀ i d, dstAt l i = some d → d < a.tmps.size) (ht : ∀ w1 w2 w3, E w1 w2 → E w2 w3 → E w1 w3) (hG : ∀ i v w1 w2, G i v w1 → E w1 w2 → G i v w2)
    (hop : ∀ i o, i < l.length - 1 → l[i]? = some o → wideOb P l Q E G a w i o)
    (hfin : ∀ vals w' o, l[l.length - 1]? = some o → E w w' → (∀ i d, i < l.length - 1 → dstAt l i = some d → G i (vals d) w') → wpList P l.toArray Q [o] (Act.over a (dstsOf l) vals) w') :
    ∀ (fuel : Nat) (listed : Array Bool) (a' : Act) (w' : World), unlisted l.length listed ≤ fuel → listed.getD (l.length - 1) false = false → WideInv l E G a w listed a' w' → wpAny P .any l.toArray Q fuel listed a' w' := by
  obtain ⟨ol, hol, hwait⟩ := lastB_spec hL
  have hlen : l.length - 1 < l.length := (List.getElem?_eq_some_iff.1 hol).1
  intro fuel
  induction fuel with
  | zero =>
    intro listed a' w' hu hl0 h
    exfalso
    have := unlisted_set hlen h.size hl0
    omega
  | succ fuel ih =>
    intro listed a' w' hu hl0 h
    refine ⟨fun hr => ?_, fun i hi => ?_⟩
    · exfalso
      have := wide_done hB h.size hr _ hlen
      rw [hl0] at this
      cases this
    obtain ⟨h0, o, ho, hall⟩ := mem_ready.1 hi
    have h0' := getD_true_of h0
    have ho' : l[i]? = some o := by simpa using ho
    have hi2 : i < l.length := (List.getElem?_eq_some_iff.1 ho').1
    by_cases hlast : i = l.length - 1
    · subst hlast
      have hol2 : ol = o := by rw [hol] at ho'; cases ho'; rfl
      subst hol2
      have hallL : ∀ j, j < l.length - 1 → listed.getD j false = true := by
        intro j hj
        obtain ⟨e, he, hb, hon⟩ := hwait j hj
        have := hall e he hb
        rwa [hon] at this
      have step := hfin (fun s => a'.tmps.getD s undef) w' ol hol h.world (fun i d hi hid => h.on i d (hallL i hi) hid)
      rw [← over_self h] at step
      have hend : ∀ (a2 : Act) (w2 : World), Q .normal a2 w2 → wpAny P .any l.toArray Q fuel (listed.setIfInBounds (l.length - 1) true) a2 w2 := fun a2 w2 hq =>
        all_listed_end (fun j hj => by
          rw [listed_set (by rw [h.size]; exact hlen)]
          by_cases hjl : j = l.length - 1
          · simp [hjl]
          · rw [hallL j (by omega)]; simp) fuel a2 w2 hq
      unfold wpOp
      simp only [ho]
      unfold wpList at step
      split
      · rename_i hw
        rw [if_pos hw] at step
        exact step.imp (Oper.wp_mono (fun a2 w2 h2 => hend _ _ h2)) id
      · rename_i hw
        rw [if_neg hw] at step
        exact hend _ _ step
    have hdo : dstAt l i = o.dst := by unfold dstAt; rw [ho']; rfl
    have haf : ∀ e ∈ o.after, listed.getD e.on false = true := fun e he => hall e he (wideB_edge hB ho' e he).2
    have step := hop i o (by omega) ho' (fun s => a'.tmps.getD s undef) w' h.world
      (by
        rintro ⟨j, d⟩ hp
        unfold needsOf at hp
        rw [List.mem_filterMap] at hp
        obtain ⟨e, he, hm⟩ := hp
        cases hdj : dstAt l e.on with
        | none => simp [hdj] at hm
        | some d2 =>
          simp only [hdj, Option.map_some, Option.some.injEq, Prod.mk.injEq] at hm
          obtain ⟨rfl, rfl⟩ := hm
          exact h.on _ _ (haf e (by simpa using he)) hdj)
      (by
        intro d hp
        unfold laterOf at hp
        rw [List.mem_filterMap] at hp
        obtain ⟨ok, hk, hdk⟩ := hp
        rw [List.mem_filter] at hk
        obtain ⟨hk1, hk2⟩ := hk
        obtain ⟨k, hk3⟩ := List.getElem?_of_mem hk1
        obtain ⟨e, he, hb⟩ := Array.any_eq_true'.1 hk2
        simp only [Bool.and_eq_true, beq_iff_eq] at hb
        have hdk' : dstAt l k = some d := by unfold dstAt; rw [hk3]; exact hdk
        have := h.off d (fun j hj hjd => by
          have e1 := wideB_one hB hjd hdk'
          subst e1
          have := h.closed j ok hj hk3 e he
          rw [hb.2, h0'] at this
          cases this)
        simp only [Array.getD_eq_getD_getElem?, this])
      (wpAny P .any l.toArray Q fuel (listed.setIfInBounds i true))
      (by
        intro v w'' hgv hE
        rw [← over_self h]
        have hls : ∀ j, (listed.setIfInBounds i true).getD j false = (decide (j = i) || listed.getD j false) := fun j => listed_set (by rw [h.size]; exact hi2)
        refine ih _ _ _ ?_ ?_ ?_
        · have := unlisted_set hi2 h.size h0'
          omega
        · rw [hls, hl0]
          simp
          omega
        · refine ⟨ht _ _ _ h.world hE, by simp [h.size], by rw [put_defers]; exact h.defers, by rw [put_size]; exact h.tmps, ?_, ?_, ?_⟩
          · intro j d hj hjd
            rw [Array.getD_eq_getD_getElem?, put_tmps]
            by_cases hji : j = i
            · subst hji
              rw [hdo] at hjd
              rw [if_pos ⟨hjd, by rw [h.tmps]; exact hd j d (by rw [hdo]; exact hjd)⟩]
              exact hgv
            · rw [if_neg (fun hc => hji (wideB_one hB hjd (by rw [hdo]; exact hc.1)))]
              rw [hls] at hj
              simp only [hji, decide_false, Bool.false_or] at hj
              have := hG _ _ _ _ (h.on j d hj hjd) hE
              rwa [Array.getD_eq_getD_getElem?] at this
          · intro j oj hj hoj e he
            rw [hls] at hj ⊢
            by_cases hji : j = i
            · subst hji
              rw [ho'] at hoj
              cases hoj
              rw [haf e he]
              simp
            · simp only [hji, decide_false, Bool.false_or] at hj
              rw [h.closed j oj hj hoj e he]
              simp
          · intro s hs
            rw [put_tmps, if_neg (fun hc => hs i (by rw [hls]; simp) (by rw [hdo]; exact hc.1))]
            exact h.off s fun j hj => hs j (by rw [hls, hj]; simp))
    rw [← over_self h] at step
    unfold wpOp
    simp only [ho]
    unfold wpList at step
    split
    · rename_i hw
      rw [if_pos hw] at step
      rcases step with step | ⟨hask, a1, w1, ho1⟩
      · exact .inl (upon_onDone step)
      · exact .inr ⟨hask, a1, w1, ho1⟩
    · rename_i hw
      rw [if_neg hw] at step
      exact step
end

theorem wp_wide_last {P : Program} {l : List Oper} {Q : Exit → Act → World → Prop} {a : Act} {w : World} (Gs : List (SG Grows)) (f : (Nat → Value) → Act) {id : Nat} (hm : P.follows .mixedOrders = true) (hB : wideB l = true) (hL : lastB l = true) (hd : (dstsOf l).all (fun d => decide (d < a.tmps.size)) = true)
    (hf : ∀ vals, Act.over a (dstsOf l) vals = f vals)
    (hop : wideOps P l Q Gs f w 0 (l.take (l.length - 1)))
    (hfin : ∀ vals w' o, l[l.length - 1]? = some o → Grows w w' → (∀ i d, i < l.length - 1 → dstAt l i = some d → gOf Gs i (vals d) w') → wpList P l.toArray Q [o] (f vals) w') : (Code.region id l.toArray true).wp P Q a w := by
  refine wp_region_any hm ?_
  refine wide_any_last (a := a) (w := w.drew) (E := Grows) (G := gOf Gs) hB hL ?_ grows_trans (gOf_stays Gs) ?_ ?_ _ _ _ _ ?_ ?_ ?_
  · intro i d hid
    rw [List.all_eq_true] at hd
    simpa using hd d (mem_dsts.2 ⟨i, hid⟩)
  · intro i o hi ho
    have := wideOps_get _ 0 hop i o (by rw [List.getElem?_take]; simp [hi, ho])
    rw [Nat.zero_add] at this
    intro vals w' hE hn _ R hR
    rw [hf] at hR ⊢
    exact this vals w' (grows_trans _ _ _ (bl_drew (Below.refl _ _)) hE) hn R hR
  · intro vals w' o ho hE h
    rw [hf]
    exact hfin vals w' o ho (grows_trans _ _ _ (bl_drew (Below.refl _ _)) hE) h
  · unfold unlisted
    refine Nat.le_trans (List.length_filter_le _ _) ?_
    simp
  · rw [Array.getD_eq_getD_getElem?, Array.getElem?_replicate]
    split <;> rfl
  · have hno : ∀ i, (Array.replicate l.toArray.size false).getD i false = false := by
      intro i
      rw [Array.getD_eq_getD_getElem?, Array.getElem?_replicate]
      split <;> rfl
    refine ⟨grows_refl _, by simp, rfl, rfl, ?_, ?_, ?_⟩
    · intro i d h; rw [hno] at h; cases h
    · intro i o h; rw [hno] at h; cases h
    · intro s _; rfl
end Go.Proofs.YthdcmchjlpkkaaaDoor
