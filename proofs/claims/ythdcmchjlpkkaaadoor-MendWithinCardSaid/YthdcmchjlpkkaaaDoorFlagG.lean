/- A region that draws its order, one of whose calls changes what lies there, and one of whose stores does: an invariant that asks of each of the two whether it has come up. Each operation is shown once. Edges that do not bind in every order may stand. -/
import Derived.Test.YthdcmchjlpkkaaaDoorFlag
namespace Go.Proofs.YthdcmchjlpkkaaaDoor.WideN
open Go.RowKit Go.Sort

def flagObG (P : Program) (l : List Oper) (Q : Exit → Act → World → Prop) (E : World → World → Prop) (G : Nat → Value → World → Prop) (J : (Nat → Bool) → (Nat → Value) → World → Prop) (a : Act) (w : World) (i : Nat) (o : Oper) : Prop :=
  ∀ (vals : Nat → Value) (w' : World) (fl : Nat → Bool), E w w' → J fl vals w' → fl i = false → (∀ e ∈ o.after, Region.binds .any e = true → fl e.on = true) → (∀ p ∈ needsOf l o, G p.1 (vals p.2) w') → (∀ d ∈ laterOf l i, vals d = a.tmps.getD d undef) →
    ∀ R : Act → World → Prop, (∀ v w'', G i v w'' → E w' w'' → J (fun j => decide (j = i) || fl j) (fun z => if o.dst = some z then v else vals z) w'' → R ((Act.over a (dstsOf l) vals).put o.dst v) w'') → wpList P l.toArray (onDone Q R) [o] (Act.over a (dstsOf l) vals) w'

section
variable {P : Program} {l : List Oper} {Q : Exit → Act → World → Prop} {E : World → World → Prop} {G : Nat → Value → World → Prop} {J : (Nat → Bool) → (Nat → Value) → World → Prop} {a : Act} {w : World}
theorem flag_anyG (hB : wideB l = true) (hd : ∀ i d, dstAt l i = some d → d < a.tmps.size) (ht : ∀ w1 w2 w3, E w1 w2 → E w2 w3 → E w1 w3) (hG : ∀ i v w1 w2, G i v w1 → E w1 w2 → G i v w2)
    (hop : ∀ i o, l[i]? = some o → flagObG P l Q E G J a w i o)
    (hfin : ∀ vals w', E w w' → (∃ fl : Nat → Bool, (∀ i, i < l.length → fl i = true) ∧ J fl vals w') → (∀ i d, dstAt l i = some d → G i (vals d) w') → Q .normal (Act.over a (dstsOf l) vals) w') :
    ∀ (fuel : Nat) (listed : Array Bool) (a' : Act) (w' : World), unlisted l.length listed ≤ fuel → WideInv l E G a w listed a' w' → J (fun i => listed.getD i false) (fun z => a'.tmps.getD z undef) w' → wpAny P .any l.toArray Q fuel listed a' w' := by
  have fin : ∀ (listed : Array Bool) (a' : Act) (w' : World), Region.ready .any l.toArray listed = [] → WideInv l E G a w listed a' w' → J (fun i => listed.getD i false) (fun z => a'.tmps.getD z undef) w' → Q .normal a' w' := by
    intro listed a' w' hr h hj
    rw [over_self h]
    have hall := wide_done hB h.size hr
    refine hfin _ w' h.world ⟨_, hall, hj⟩ fun i d hid => h.on i d (hall i ?_) hid
    unfold dstAt at hid
    cases hl : l[i]? with
    | none => simp [hl] at hid
    | some o => exact (List.getElem?_eq_some_iff.1 hl).1
  intro fuel
  induction fuel with
  | zero =>
    intro listed a' w' hu h hj0
    have hr : Region.ready .any l.toArray listed = [] := by
      rw [List.eq_nil_iff_forall_not_mem]
      intro i hi
      obtain ⟨h0, o, ho, _⟩ := mem_ready.1 hi
      have hi2 : i < l.length := by simpa using (Array.getElem?_eq_some_iff.1 ho).1
      have := unlisted_set hi2 h.size (getD_true_of h0)
      omega
    exact ⟨hr, fin _ _ _ hr h hj0⟩
  | succ fuel ih =>
    intro listed a' w' hu h hj0
    refine ⟨fun hr => fin _ _ _ hr h hj0, fun i hi => ?_⟩
    obtain ⟨h0, o, ho, hall⟩ := mem_ready.1 hi
    have h0' := getD_true_of h0
    have ho' : l[i]? = some o := by simpa using ho
    have hi2 : i < l.length := (List.getElem?_eq_some_iff.1 ho').1
    have hdo : dstAt l i = o.dst := by unfold dstAt; rw [ho']; rfl
    have haf : ∀ e ∈ o.after, Region.binds .any e = true → listed.getD e.on false = true := fun e he hb => hall e he hb
    have step := hop i o ho' (fun s => a'.tmps.getD s undef) w' (fun i => listed.getD i false) h.world hj0 h0' (fun e he hb => haf e he hb)
      (by
        rintro ⟨j, d⟩ hp
        unfold needsOf at hp
        rw [List.mem_filterMap] at hp
        obtain ⟨e, he0, hm⟩ := hp
        obtain ⟨he, hbe⟩ := List.mem_filter.1 he0
        cases hdj : dstAt l e.on with
        | none => simp [hdj] at hm
        | some d2 =>
          simp only [hdj, Option.map_some, Option.some.injEq, Prod.mk.injEq] at hm
          obtain ⟨rfl, rfl⟩ := hm
          exact h.on _ _ (haf e (by simpa using he) hbe) hdj)
      (by
        intro d hp
        unfold laterOf at hp
        rw [List.mem_filterMap] at hp
        obtain ⟨ok, hk, hdk⟩ := hp
        rw [List.mem_filter] at hk
        obtain ⟨hk1, hk2⟩ := hk
        obtain ⟨k, hk3⟩ := List.getElem?_of_mem hk1
        obtain ⟨e, he, hb⟩ := Array.any_eq_true'.1 hk2
        simp only [Bool.and_eq_true, beq_iff_eq] at hb
        have hdk' : dstAt l k = some d := by unfold dstAt; rw [hk3]; exact hdk
        have := h.off d (fun j hj hjd => by
          have e1 := wideB_one hB hjd hdk'
          subst e1
          have := h.closed j ok hj hk3 e he hb.1
          rw [hb.2, h0'] at this
          cases this)
        simp only [Array.getD_eq_getD_getElem?, this])
      (wpAny P .any l.toArray Q fuel (listed.setIfInBounds i true))
      (by
        intro v w'' hgv hE hJ
        rw [← over_self h]
        have hls : ∀ j, (listed.setIfInBounds i true).getD j false = (decide (j = i) || listed.getD j false) := fun j => listed_set (by rw [h.size]; exact hi2)
        refine ih _ _ _ ?_ ?_ (by
          have e1 : (fun j => (listed.setIfInBounds i true).getD j false) = fun j => decide (j = i) || listed.getD j false := funext hls
          have e2 : (fun z => (a'.put o.dst v).tmps.getD z undef) = fun z => if o.dst = some z then v else a'.tmps.getD z undef := funext fun z => by
            rw [Array.getD_eq_getD_getElem?, put_tmps, Array.getD_eq_getD_getElem?]
            by_cases hd2 : o.dst = some z
            · rw [if_pos ⟨hd2, by rw [h.tmps]; exact hd i z (by rw [hdo]; exact hd2)⟩, if_pos hd2]; rfl
            · rw [if_neg (fun hc => hd2 hc.1), if_neg hd2]
          rw [e1, e2]; exact hJ)
        · have := unlisted_set hi2 h.size h0'
          omega
        · refine ⟨ht _ _ _ h.world hE, by simp [h.size], by rw [put_defers]; exact h.defers, by rw [put_size]; exact h.tmps, ?_, ?_, ?_⟩
          · intro j d hj hjd
            rw [Array.getD_eq_getD_getElem?, put_tmps]
            by_cases hji : j = i
            · subst hji
              rw [hdo] at hjd
              rw [if_pos ⟨hjd, by rw [h.tmps]; exact hd j d (by rw [hdo]; exact hjd)⟩]
              exact hgv
            · rw [if_neg (fun hc => hji (wideB_one hB hjd (by rw [hdo]; exact hc.1)))]
              rw [hls] at hj
              simp only [hji, decide_false, Bool.false_or] at hj
              have := hG _ _ _ _ (h.on j d hj hjd) hE
              rwa [Array.getD_eq_getD_getElem?] at this
          · intro j oj hj hoj e he hbe
            rw [hls] at hj ⊢
            by_cases hji : j = i
            · subst hji
              rw [ho'] at hoj
              cases hoj
              rw [haf e he hbe]
              simp
            · simp only [hji, decide_false, Bool.false_or] at hj
              rw [h.closed j oj hj hoj e he hbe]
              simp
          · intro s hs
            rw [put_tmps, if_neg (fun hc => hs i (by rw [hls]; simp) (by rw [hdo]; exact hc.1))]
            exact h.off s fun j hj => hs j (by rw [hls, hj]; simp))
    rw [← over_self h] at step
    unfold wpOp
    simp only [ho]
    unfold wpList at step
    split
    · rename_i hw
      rw [if_pos hw] at step
      rcases step with step | ⟨hask, a1, w1, ho1⟩
      · exact .inl (upon_onDone step)
      · exact .inr ⟨hask, a1, w1, ho1⟩
    · rename_i hw
      rw [if_neg hw] at step
      exact step

theorem wp_region_flagG {id : Nat} (hm : P.follows .mixedOrders = true) (hB : wideB l = true) (hd : (dstsOf l).all (fun d => decide (d < a.tmps.size)) = true)
    (hr : E w.drew w.drew) (hj : J (fun _ => false) (fun z => a.tmps.getD z undef) w.drew) (ht : ∀ w1 w2 w3, E w1 w2 → E w2 w3 → E w1 w3) (hG : ∀ i v w1 w2, G i v w1 → E w1 w2 → G i v w2)
    (hop : ∀ i o, l[i]? = some o → flagObG P l Q E G J a w.drew i o)
    (hfin : ∀ vals w', E w.drew w' → (∃ fl : Nat → Bool, (∀ i, i < l.length → fl i = true) ∧ J fl vals w') → (∀ i d, dstAt l i = some d → G i (vals d) w') → Q .normal (Act.over a (dstsOf l) vals) w') : (Code.region id l.toArray true).wp P Q a w := by
  have hno : ∀ i, (Array.replicate l.toArray.size false).getD i false = false := by
    intro i
    rw [Array.getD_eq_getD_getElem?, Array.getElem?_replicate]
    split <;> rfl
  refine wp_region_any hm ?_
  refine flag_anyG (w := w.drew) hB ?_ ht hG hop hfin _ _ _ _ ?_ ?_ ?_
  · intro i d hid
    rw [List.all_eq_true] at hd
    simpa using hd d (mem_dsts.2 ⟨i, hid⟩)
  · unfold unlisted
    refine Nat.le_trans (List.length_filter_le _ _) ?_
    simp
  · refine ⟨hr, by simp, rfl, rfl, ?_, ?_, ?_⟩
    · intro i d h; rw [hno] at h; cases h
    · intro i o h; rw [hno] at h; cases h
    · intro s _; rfl
  · rw [show (fun i => (Array.replicate l.toArray.size false).getD i false) = fun _ => false from funext hno]; exact hj
end

/-- What is to be shown of operation i, the frame spelled out by f. -/
def flagOpG (P : Program) (l : List Oper) (Q : Exit → Act → World → Prop) (S : Nat → Prop) (Gs : List (SG (Chg S))) (J : (Nat → Bool) → (Nat → Value) → World → Prop) (f : (Nat → Value) → Act) (w : World) (i : Nat) (o : Oper) : Prop :=
  ∀ (vals : Nat → Value) (w' : World) (fl : Nat → Bool), Chg S w w' → J fl vals w' → fl i = false → (∀ e ∈ o.after, Region.binds .any e = true → fl e.on = true) → (∀ p ∈ needsOf l o, gOf Gs p.1 (vals p.2) w') →
    ∀ R : Act → World → Prop, (∀ v w'', gOf Gs i v w'' → Chg S w' w'' → J (fun j => decide (j = i) || fl j) (fun z => if o.dst = some z then v else vals z) w'' → R ((f vals).put o.dst v) w'') → wpList P l.toArray (onDone Q R) [o] (f vals) w'
def flagOpsG (P : Program) (l : List Oper) (Q : Exit → Act → World → Prop) (S : Nat → Prop) (Gs : List (SG (Chg S))) (J : (Nat → Bool) → (Nat → Value) → World → Prop) (f : (Nat → Value) → Act) (w : World) : Nat → List Oper → Prop
  | _, [] => True
  | i, o :: r => flagOpG P l Q S Gs J f w i o ∧ flagOpsG P l Q S Gs J f w (i + 1) r
theorem flagOpsG_get {P : Program} {l : List Oper} {Q : Exit → Act → World → Prop} {S : Nat → Prop} {Gs : List (SG (Chg S))} {J : (Nat → Bool) → (Nat → Value) → World → Prop} {f : (Nat → Value) → Act} {w : World} :
    ∀ (r : List Oper) (i : Nat), flagOpsG P l Q S Gs J f w i r → ∀ j o, r[j]? = some o → flagOpG P l Q S Gs J f w (i + j) o
  | [], _, _, j, o, h => by simp at h
  | o1 :: r, i, h, 0, o, ho => by
    simp at ho
    subst ho
    exact h.1
  | o1 :: r, i, h, j + 1, o, ho => by
    have := flagOpsG_get r (i + 1) h.2 j o (by simpa using ho)
    rwa [show i + 1 + j = i + (j + 1) by omega] at this
/-- The law: S the blocks that may change; J called stored world; c and s the call's and the store's places in the region. -/
theorem wp_flagG {P : Program} {l : List Oper} {Q : Exit → Act → World → Prop} {a : Act} {w : World} (S : Nat → Prop) (Gs : List (SG (Chg S))) (J : (Nat → Bool) → (Nat → Value) → World → Prop) (f : (Nat → Value) → Act) {id : Nat} (hm : P.follows .mixedOrders = true) (hB : wideB l = true) (hd : (dstsOf l).all (fun d => decide (d < a.tmps.size)) = true)
    (hf : ∀ vals, Act.over a (dstsOf l) vals = f vals) (hj : J (fun _ => false) (fun z => a.tmps.getD z undef) w.drew)
    (hop : flagOpsG P l Q S Gs J f w 0 l)
    (hfin : ∀ vals w', Chg S w w' → (∃ fl : Nat → Bool, (∀ i, i < l.length → fl i = true) ∧ J fl vals w') → (∀ i d, dstAt l i = some d → gOf Gs i (vals d) w') → Q .normal (f vals) w') : (Code.region id l.toArray true).wp P Q a w := by
  refine wp_region_flagG (G := gOf Gs) (E := Chg S) hm hB hd (Chg.refl _ _) hj (fun _ _ _ h1 h2 => h1.trans h2) (gOf_stays Gs) (fun i o ho => ?_) (fun vals w' hE hJ h => ?_)
  · have := flagOpsG_get l 0 hop i o ho
    rw [Nat.zero_add] at this
    intro vals w' fl hE h1 h2 h3 hn _ R hR
    rw [hf] at hR ⊢
    exact this vals w' fl ((Chg.ofGrows (bl_drew (Below.refl _ _))).trans hE) h1 h2 h3 hn R hR
  · rw [hf]
    exact hfin vals w' ((Chg.ofGrows (bl_drew (Below.refl _ _))).trans hE) hJ h
end Go.Proofs.YthdcmchjlpkkaaaDoor.WideN
