/- A region that draws its order, whose callees give back values of which only a property is known (a new slice, somewhere): an invariant serves every order. Each operation is shown once, in whatever world, from the properties of those that it waits for. -/
import Derived.Test.YthdcmchjlpkkaaaDoorTail
namespace Go.Proofs.YthdcmchjlpkkaaaDoor
open Go.RowKit Go.Sort

/-- The frame's slots, those of ds anew. -/
def overL (ds : List Nat) (vals : Nat → Value) : Nat → List Value → List Value
  | _, [] => []
  | s, v :: t => (if ds.contains s then vals s else v) :: overL ds vals (s + 1) t
def Act.over (a : Act) (ds : List Nat) (vals : Nat → Value) : Act := { a with tmps := (overL ds vals 0 a.tmps.toList).toArray }
/-- Q, but for the normal end. -/
def onDone (Q : Exit → Act → World → Prop) (R : Act → World → Prop) : Exit → Act → World → Prop
  | .normal, a, w => R a w
  | .exit i, a, w => Q (.exit i) a w
  | .goto l, a, w => Q (.goto l) a w
  | .ret, a, w => Q .ret a w
  | .panic c, a, w => Q (.panic c) a w
  | .outgrown, a, w => Q .outgrown a w
/-- The slots that a region writes. -/
def dstsOf (l : List Oper) : List Nat := l.filterMap (·.dst)
def dstAt (l : List Oper) (j : Nat) : Option Nat := (l[j]?).bind (·.dst)
/-- Those that an operation waits for, with their slots. -/
def needsOf (l : List Oper) (o : Oper) : List (Nat × Nat) := o.after.toList.filterMap fun e => (dstAt l e.on).map fun d => (e.on, d)
/-- The slots of those that wait for operation i. -/
def laterOf (l : List Oper) (i : Nat) : List Nat := (l.filter fun o => o.after.any fun e => Region.binds .any e && e.on == i).filterMap (·.dst)

theorem overL_get (ds : List Nat) (vals : Nat → Value) : ∀ (l : List Value) (s k : Nat), (overL ds vals s l)[k]? = (l[k]?).map fun v => if ds.contains (s + k) then vals (s + k) else v
  | [], s, k => by simp [overL]
  | v :: t, s, 0 => by simp [overL]
  | v :: t, s, k + 1 => by
    simp only [overL, List.getElem?_cons_succ]
    rw [overL_get ds vals t (s + 1) k]
    simp only [show s + 1 + k = s + (k + 1) by omega]

/-- What the kernel is asked of a region. -/
def wideB (l : List Oper) : Bool :=
  (List.range l.length).all (fun j => match l[j]? with | some o => o.after.all (fun e => decide (e.on < j) && Region.binds .any e) | none => false) &&
  (List.range l.length).all (fun i => (List.range l.length).all fun j => i == j || (dstAt l i).isNone || dstAt l i != dstAt l j)

theorem wideB_edge {l : List Oper} (h : wideB l = true) {i : Nat} {o : Oper} (ho : l[i]? = some o) : ∀ e ∈ o.after, e.on < i ∧ Region.binds .any e = true := by
  unfold wideB at h
  simp only [Bool.and_eq_true, List.all_eq_true, List.mem_range] at h
  intro e he
  have h1 := h.1 i (List.getElem?_eq_some_iff.1 ho).1
  simp only [ho, Array.all_eq_true_iff_forall_mem, Bool.and_eq_true, decide_eq_true_eq] at h1
  exact h1 e he
theorem wideB_one {l : List Oper} (h : wideB l = true) {i j d : Nat} (hi : dstAt l i = some d) (hj : dstAt l j = some d) : i = j := by
  have lt : ∀ {k}, dstAt l k = some d → k < l.length := by
    intro k hk
    unfold dstAt at hk
    cases hl : l[k]? with
    | none => simp [hl] at hk
    | some o => exact (List.getElem?_eq_some_iff.1 hl).1
  unfold wideB at h
  simp only [Bool.and_eq_true, List.all_eq_true, List.mem_range] at h
  have h1 := h.2 i (lt hi) j (lt hj)
  rw [hi, hj] at h1
  simpa using h1

/-- What is to be shown of operation i. -/
def wideOb (P : Program) (l : List Oper) (Q : Exit → Act → World → Prop) (E : World → World → Prop) (G : Nat → Value → World → Prop) (a : Act) (w : World) (i : Nat) (o : Oper) : Prop :=
  ∀ (vals : Nat → Value) (w' : World), E w w' → (∀ p ∈ needsOf l o, G p.1 (vals p.2) w') → (∀ d ∈ laterOf l i, vals d = a.tmps.getD d undef) →
    ∀ R : Act → World → Prop, (∀ v w'', G i v w'' → E w' w'' → R ((Act.over a (dstsOf l) vals).put o.dst v) w'') → wpList P l.toArray (onDone Q R) [o] (Act.over a (dstsOf l) vals) w'

section
variable {P : Program} {l : List Oper} {Q : Exit → Act → World → Prop} {E : World → World → Prop} {G : Nat → Value → World → Prop} {a : Act} {w : World}

theorem upon_onDone {o : Oper} {a : Act} {K R : Act → World → Prop} {r : Result Next} (h : o.upon P a K (onDone Q R) r) : o.upon P a K Q r := by
  cases r with
  | ok n w' =>
    cases n <;> simp only [Oper.upon] at h ⊢ <;>
      first
        | exact h
        | exact Calls.mono h (fun e w'' he => by
            cases e
            · exact he
            · exact he
            · obtain ⟨a1, w1, h1⟩ := he
              exact ⟨a1, w1, h1⟩)
  | halt x w' => cases x <;> simp only [Oper.upon] at h ⊢ <;> exact h

structure WideInv (l : List Oper) (E : World → World → Prop) (G : Nat → Value → World → Prop) (a : Act) (w : World) (listed : Array Bool) (a' : Act) (w' : World) : Prop where
  world : E w w'
  size : listed.size = l.length
  defers : a'.defers = a.defers
  tmps : a'.tmps.size = a.tmps.size
  on : ∀ i d, listed.getD i false = true → dstAt l i = some d → G i (a'.tmps.getD d undef) w'
  closed : ∀ i o, listed.getD i false = true → l[i]? = some o → ∀ e ∈ o.after, listed.getD e.on false = true
  off : ∀ s, (∀ i, listed.getD i false = true → dstAt l i ≠ some s) → a'.tmps[s]? = a.tmps[s]?

theorem mem_dsts {d : Nat} : d ∈ dstsOf l ↔ ∃ i, dstAt l i = some d := by
  unfold dstsOf dstAt
  rw [List.mem_filterMap]
  constructor
  · rintro ⟨o, ho, hd⟩
    obtain ⟨i, hi⟩ := List.getElem?_of_mem ho
    exact ⟨i, by simp [hi, hd]⟩
  · rintro ⟨i, hi⟩
    cases ho : l[i]? with
    | none => simp [ho] at hi
    | some o =>
      simp [ho] at hi
      exact ⟨o, List.mem_of_getElem? ho, hi⟩

theorem over_self {listed : Array Bool} {a' : Act} {w' : World} (h : WideInv l E G a w listed a' w') : a' = Act.over a (dstsOf l) (fun s => a'.tmps.getD s undef) := by
  have : a'.tmps = (overL (dstsOf l) (fun s => a'.tmps.getD s undef) 0 a.tmps.toList).toArray := by
    apply Array.ext_getElem?
    intro k
    simp only [List.getElem?_toArray]
    rw [overL_get]
    simp only [Nat.zero_add]
    by_cases hk : k < a.tmps.size
    · have hk' : k < a'.tmps.size := by rw [h.tmps]; exact hk
      rw [Array.getElem?_toList, Array.getElem?_eq_getElem hk, Option.map_some]
      by_cases hc : (dstsOf l).contains k = true
      · rw [if_pos hc]
        simp [hk']
      · rw [if_neg hc]
        rw [h.off k ?_, Array.getElem?_eq_getElem hk]
        intro i _ hi
        apply hc
        simp only [List.contains_iff_mem]
        exact mem_dsts.2 ⟨i, hi⟩
    · have hk' : ¬ k < a'.tmps.size := by rw [h.tmps]; exact hk
      rw [Array.getElem?_eq_none (by omega), Array.getElem?_toList, Array.getElem?_eq_none (by omega)]
      rfl
  cases a'
  cases h.defers
  simp only [Act.over] at this ⊢
  congr

theorem put_tmps (a : Act) (d : Option Nat) (v : Value) (s : Nat) : (a.put d v).tmps[s]? = if d = some s ∧ s < a.tmps.size then some v else a.tmps[s]? := by
  cases d with
  | none => simp [Act.put]
  | some d =>
    simp only [Act.put, Option.some.injEq]
    rw [Array.getElem?_setIfInBounds]
    by_cases h : d = s
    · subst h
      by_cases h2 : d < a.tmps.size <;> simp [h2]
    · simp [h]
theorem put_size (a : Act) (d : Option Nat) (v : Value) : (a.put d v).tmps.size = a.tmps.size := by cases d <;> simp [Act.put]
theorem put_defers (a : Act) (d : Option Nat) (v : Value) : (a.put d v).defers = a.defers := by cases d <;> rfl

theorem listed_set {listed : Array Bool} {i j : Nat} (hi : i < listed.size) : (listed.setIfInBounds i true).getD j false = (decide (j = i) || listed.getD j false) := by
  by_cases h : j = i
  · subst h; simp [hi]
  · simp only [Array.getD_eq_getD_getElem?, Array.getElem?_setIfInBounds]
    rw [if_neg (fun hc => h hc.symm)]
    simp [h]

/-- How many have not come up. -/
def unlisted (n : Nat) (listed : Array Bool) : Nat := ((List.range n).filter fun i => !listed.getD i false).length
theorem unlisted_set {n : Nat} {listed : Array Bool} {i : Nat} (hi : i < n) (hs : listed.size = n) (h : listed.getD i false = false) : unlisted n (listed.setIfInBounds i true) < unlisted n listed := by
  unfold unlisted
  have e : ((List.range n).filter fun j => !(listed.setIfInBounds i true).getD j false) = ((List.range n).filter fun j => !listed.getD j false).filter fun j => decide (j ≠ i) := by
    rw [List.filter_filter]
    apply List.filter_congr
    intro j _
    rw [listed_set (by omega)]
    by_cases hji : j = i <;> simp [hji]
  rw [e]
  apply List.length_filter_lt_length_iff_exists.2
  exact ⟨i, List.mem_filter.2 ⟨List.mem_range.2 hi, by rw [h]; rfl⟩, by simp⟩

theorem wide_done (hB : wideB l = true) {listed : Array Bool} (hs : listed.size = l.length) (h : Region.ready .any l.toArray listed = []) : ∀ i, i < l.length → listed.getD i false = true := by
  intro i
  induction i using Nat.strongRecOn with
  | ind i ih =>
    intro hi
    apply Decidable.byContradiction
    intro hc
    have : i ∈ Region.ready .any l.toArray listed := by
      refine mem_ready.2 ⟨?_, l[i], by simp [hi], fun e he _ => ?_⟩
      · rw [Array.getD_eq_getD_getElem?] at hc ⊢
        rw [Array.getElem?_eq_getElem (by omega)] at hc ⊢
        simpa using hc
      · have := (wideB_edge hB (List.getElem?_eq_getElem hi) e he).1
        exact ih _ this (by omega)
    rw [h] at this
    cases this

theorem wide_any (hB : wideB l = true) (hd : ∀ i d, dstAt l i = some d → d < a.tmps.size) (ht : ∀ w1 w2 w3, E w1 w2 → E w2 w3 → E w1 w3) (hG : ∀ i v w1 w2, G i v w1 → E w1 w2 → G i v w2)
    (hop : ∀ i o, l[i]? = some o → wideOb P l Q E G a w i o)
    (hfin : ∀ vals w', E w w' → (∀ i d, dstAt l i = some d → G i (vals d) w') → Q .normal (Act.over a (dstsOf l) vals) w') :
    ∀ (fuel : Nat) (listed : Array Bool) (a' : Act) (w' : World), unlisted l.length listed ≤ fuel → WideInv l E G a w listed a' w' → wpAny P .any l.toArray Q fuel listed a' w' := by
  have fin : ∀ (listed : Array Bool) (a' : Act) (w' : World), Region.ready .any l.toArray listed = [] → WideInv l E G a w listed a' w' → Q .normal a' w' := by
    intro listed a' w' hr h
    rw [over_self h]
    have hall := wide_done hB h.size hr
    refine hfin _ w' h.world fun i d hid => h.on i d (hall i ?_) hid
    unfold dstAt at hid
    cases hl : l[i]? with
    | none => simp [hl] at hid
    | some o => exact (List.getElem?_eq_some_iff.1 hl).1
  intro fuel
  induction fuel with
  | zero =>
    intro listed a' w' hu h
    have hr : Region.ready .any l.toArray listed = [] := by
      rw [List.eq_nil_iff_forall_not_mem]
      intro i hi
      obtain ⟨h0, o, ho, _⟩ := mem_ready.1 hi
      have hi2 : i < l.length := by simpa using (Array.getElem?_eq_some_iff.1 ho).1
      have := unlisted_set hi2 h.size (getD_true_of h0)
      omega
    exact ⟨hr, fin _ _ _ hr h⟩
  | succ fuel ih =>
    intro listed a' w' hu h
    refine ⟨fun hr => fin _ _ _ hr h, fun i hi => ?_⟩
    obtain ⟨h0, o, ho, hall⟩ := mem_ready.1 hi
    have h0' := getD_true_of h0
    have ho' : l[i]? = some o := by simpa using ho
    have hi2 : i < l.length := (List.getElem?_eq_some_iff.1 ho').1
    have hdo : dstAt l i = o.dst := by unfold dstAt; rw [ho']; rfl
    have haf : ∀ e ∈ o.after, listed.getD e.on false = true := fun e he => hall e he (wideB_edge hB ho' e he).2
    have step := hop i o ho' (fun s => a'.tmps.getD s undef) w' h.world
      (by
        rintro ⟨j, d⟩ hp
        unfold needsOf at hp
        rw [List.mem_filterMap] at hp
        obtain ⟨e, he, hm⟩ := hp
        cases hdj : dstAt l e.on with
        | none => simp [hdj] at hm
        | some d2 =>
          simp only [hdj, Option.map_some, Option.some.injEq, Prod.mk.injEq] at hm
          obtain ⟨rfl, rfl⟩ := hm
          exact h.on _ _ (haf e (by simpa using he)) hdj)
      (by
        intro d hp
        unfold laterOf at hp
        rw [List.mem_filterMap] at hp
        obtain ⟨ok, hk, hdk⟩ := hp
        rw [List.mem_filter] at hk
        obtain ⟨hk1, hk2⟩ := hk
        obtain ⟨k, hk3⟩ := List.getElem?_of_mem hk1
        obtain ⟨e, he, hb⟩ := Array.any_eq_true'.1 hk2
        simp only [Bool.and_eq_true, beq_iff_eq] at hb
        have hdk' : dstAt l k = some d := by unfold dstAt; rw [hk3]; exact hdk
        have := h.off d (fun j hj hjd => by
          have e1 := wideB_one hB hjd hdk'
          subst e1
          have := h.closed j ok hj hk3 e he
          rw [hb.2, h0'] at this
          cases this)
        simp only [Array.getD_eq_getD_getElem?, this])
      (wpAny P .any l.toArray Q fuel (listed.setIfInBounds i true))
      (by
        intro v w'' hgv hE
        rw [← over_self h]
        refine ih _ _ _ ?_ ?_
        · have := unlisted_set hi2 h.size h0'
          omega
        · have hls : ∀ j, (listed.setIfInBounds i true).getD j false = (decide (j = i) || listed.getD j false) := fun j => listed_set (by rw [h.size]; exact hi2)
          refine ⟨ht _ _ _ h.world hE, by simp [h.size], by rw [put_defers]; exact h.defers, by rw [put_size]; exact h.tmps, ?_, ?_, ?_⟩
          · intro j d hj hjd
            rw [Array.getD_eq_getD_getElem?, put_tmps]
            by_cases hji : j = i
            · subst hji
              rw [hdo] at hjd
              rw [if_pos ⟨hjd, by rw [h.tmps]; exact hd j d (by rw [hdo]; exact hjd)⟩]
              exact hgv
            · rw [if_neg (fun hc => hji (wideB_one hB hjd (by rw [hdo]; exact hc.1)))]
              rw [hls] at hj
              simp only [hji, decide_false, Bool.false_or] at hj
              have := hG _ _ _ _ (h.on j d hj hjd) hE
              rwa [Array.getD_eq_getD_getElem?] at this
          · intro j oj hj hoj e he
            rw [hls] at hj ⊢
            by_cases hji : j = i
            · subst hji
              rw [ho'] at hoj
              cases hoj
              rw [haf e he]
              simp
            · simp only [hji, decide_false, Bool.false_or] at hj
              rw [h.closed j oj hj hoj e he]
              simp
          · intro s hs
            rw [put_tmps, if_neg (fun hc => hs i (by rw [hls]; simp) (by rw [hdo]; exact hc.1))]
            exact h.off s fun j hj => hs j (by rw [hls, hj]; simp))
    rw [← over_self h] at step
    unfold wpOp
    simp only [ho]
    unfold wpList at step
    split
    · rename_i hw
      rw [if_pos hw] at step
      rcases step with step | ⟨hask, a1, w1, ho1⟩
      · exact .inl (upon_onDone step)
      · exact .inr ⟨hask, a1, w1, ho1⟩
    · rename_i hw
      rw [if_neg hw] at step
      exact step

theorem wp_region_wide {id : Nat} (hm : P.follows .mixedOrders = true) (hB : wideB l = true) (hd : (dstsOf l).all (fun d => decide (d < a.tmps.size)) = true)
    (hr : E w.drew w.drew) (ht : ∀ w1 w2 w3, E w1 w2 → E w2 w3 → E w1 w3) (hG : ∀ i v w1 w2, G i v w1 → E w1 w2 → G i v w2)
    (hop : ∀ i o, l[i]? = some o → wideOb P l Q E G a w.drew i o)
    (hfin : ∀ vals w', E w.drew w' → (∀ i d, dstAt l i = some d → G i (vals d) w') → Q .normal (Act.over a (dstsOf l) vals) w') : (Code.region id l.toArray true).wp P Q a w := by
  refine wp_region_any hm ?_
  refine wide_any (w := w.drew) hB ?_ ht hG hop hfin _ _ _ _ ?_ ?_
  · intro i d hid
    rw [List.all_eq_true] at hd
    simpa using hd d (mem_dsts.2 ⟨i, hid⟩)
  · unfold unlisted
    refine Nat.le_trans (List.length_filter_le _ _) ?_
    simp
  · have hno : ∀ i, (Array.replicate l.toArray.size false).getD i false = false := by
      intro i
      rw [Array.getD_eq_getD_getElem?, Array.getElem?_replicate]
      split <;> rfl
    refine ⟨hr, by simp, rfl, rfl, ?_, ?_, ?_⟩
    · intro i d h; rw [hno] at h; cases h
    · intro i o h; rw [hno] at h; cases h
    · intro s _; rfl
end

/-- A property of a value in a world that stays as worlds grow. -/
structure SG (E : World → World → Prop) where
  g : Value → World → Prop
  stays : ∀ v w1 w2, g v w1 → E w1 w2 → g v w2
/-- .. that it is just this one. -/
def SG.fix (E : World → World → Prop) (c : Value) : SG E := ⟨fun v _ => v = c, fun _ _ _ h _ => h⟩
def SG.none (E : World → World → Prop) : SG E := ⟨fun _ _ => True, fun _ _ _ _ _ => trivial⟩
def gOf {E : World → World → Prop} (l : List (SG E)) (i : Nat) : Value → World → Prop := (l.getD i (SG.none E)).g
theorem gOf_stays {E : World → World → Prop} (l : List (SG E)) : ∀ i v w1 w2, gOf l i v w1 → E w1 w2 → gOf l i v w2 := fun i v w1 w2 h hE => (l.getD i (SG.none E)).stays v w1 w2 h hE

/-- All that is to be shown of the operations from i on. -/
def wideAll (P : Program) (l : List Oper) (Q : Exit → Act → World → Prop) (E : World → World → Prop) (G : Nat → Value → World → Prop) (a : Act) (w : World) : Nat → List Oper → Prop
  | _, [] => True
  | i, o :: r => wideOb P l Q E G a w i o ∧ wideAll P l Q E G a w (i + 1) r
theorem wideAll_get {P : Program} {l : List Oper} {Q : Exit → Act → World → Prop} {E : World → World → Prop} {G : Nat → Value → World → Prop} {a : Act} {w : World} :
    ∀ (r : List Oper) (i : Nat), wideAll P l Q E G a w i r → ∀ j o, r[j]? = some o → wideOb P l Q E G a w (i + j) o
  | [], _, _, j, o, h => by simp at h
  | o1 :: r, i, h, 0, o, ho => by
    simp at ho
    subst ho
    exact h.1
  | o1 :: r, i, h, j + 1, o, ho => by
    have := wideAll_get r (i + 1) h.2 j o (by simpa using ho)
    rwa [show i + 1 + j = i + (j + 1) by omega] at this

/-- Worlds that have only grown. -/
def Grows (w1 w2 : World) : Prop := Below w1.heap.size w1 w2
theorem grows_refl (w : World) : Grows w w := Below.refl _ _
theorem grows_trans (w1 w2 w3 : World) (h : Grows w1 w2) (h2 : Grows w2 w3) : Grows w1 w3 := bl_trans h h2

theorem wp_wide {P : Program} {l : List Oper} {Q : Exit → Act → World → Prop} {a : Act} {w : World} (Gs : List (SG Grows)) {id : Nat} (hm : P.follows .mixedOrders = true) (hB : wideB l = true) (hd : (dstsOf l).all (fun d => decide (d < a.tmps.size)) = true)
    (hop : wideAll P l Q Grows (gOf Gs) a w.drew 0 l)
    (hfin : ∀ vals w', Grows w.drew w' → (∀ i d, dstAt l i = some d → gOf Gs i (vals d) w') → Q .normal (Act.over a (dstsOf l) vals) w') : (Code.region id l.toArray true).wp P Q a w :=
  wp_region_wide hm hB hd (grows_refl _) grows_trans (gOf_stays Gs) (fun i o ho => by
    have := wideAll_get l 0 hop i o ho
    rwa [Nat.zero_add] at this) hfin

/-- What is to be shown of operation i, the frame spelled out by f. -/
def wideOp (P : Program) (l : List Oper) (Q : Exit → Act → World → Prop) (Gs : List (SG Grows)) (f : (Nat → Value) → Act) (w : World) (i : Nat) (o : Oper) : Prop :=
  ∀ (vals : Nat → Value) (w' : World), Grows w w' → (∀ p ∈ needsOf l o, gOf Gs p.1 (vals p.2) w') →
    ∀ R : Act → World → Prop, (∀ v w'', gOf Gs i v w'' → Grows w' w'' → R ((f vals).put o.dst v) w'') → wpList P l.toArray (onDone Q R) [o] (f vals) w'
def wideOps (P : Program) (l : List Oper) (Q : Exit → Act → World → Prop) (Gs : List (SG Grows)) (f : (Nat → Value) → Act) (w : World) : Nat → List Oper → Prop
  | _, [] => True
  | i, o :: r => wideOp P l Q Gs f w i o ∧ wideOps P l Q Gs f w (i + 1) r
theorem wideOps_get {P : Program} {l : List Oper} {Q : Exit → Act → World → Prop} {Gs : List (SG Grows)} {f : (Nat → Value) → Act} {w : World} :
    ∀ (r : List Oper) (i : Nat), wideOps P l Q Gs f w i r → ∀ j o, r[j]? = some o → wideOp P l Q Gs f w (i + j) o
  | [], _, _, j, o, h => by simp at h
  | o1 :: r, i, h, 0, o, ho => by
    simp at ho
    subst ho
    exact h.1
  | o1 :: r, i, h, j + 1, o, ho => by
    have := wideOps_get r (i + 1) h.2 j o (by simpa using ho)
    rwa [show i + 1 + j = i + (j + 1) by omega] at this
theorem wp_wide2 {P : Program} {l : List Oper} {Q : Exit → Act → World → Prop} {a : Act} {w : World} (Gs : List (SG Grows)) (f : (Nat → Value) → Act) {id : Nat} (hm : P.follows .mixedOrders = true) (hB : wideB l = true) (hd : (dstsOf l).all (fun d => decide (d < a.tmps.size)) = true)
    (hf : ∀ vals, Act.over a (dstsOf l) vals = f vals)
    (hop : wideOps P l Q Gs f w 0 l)
    (hfin : ∀ vals w', Grows w w' → (∀ i d, dstAt l i = some d → gOf Gs i (vals d) w') → Q .normal (f vals) w') : (Code.region id l.toArray true).wp P Q a w :=
  wp_region_wide (G := gOf Gs) hm hB hd (grows_refl _) grows_trans (gOf_stays Gs) (fun i o ho => by
    have := wideOps_get l 0 hop i o ho
    rw [Nat.zero_add] at this
    intro vals w' hE hn _ R hR
    rw [hf] at hR ⊢
    exact this vals w' (grows_trans _ _ _ (bl_drew (Below.refl _ _)) hE) hn R hR) (fun vals w' hE h => by
    rw [hf]
    exact hfin vals w' (grows_trans _ _ _ (bl_drew (Below.refl _ _)) hE) h)
end Go.Proofs.YthdcmchjlpkkaaaDoor
