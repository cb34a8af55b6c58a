/- The walk of RelayPlays. -/
import Derived.Test.YtgjieoljfcfacaaDoorFlag
import Derived.Test.YtgjieoljfcfacaaDoorRelS
import Derived.Test.YtgjieoljfcfacaaDoorRelZ
/- A region that draws its order, one of whose calls changes what lies there, and one of whose stores does: an invariant that asks of each of the two whether it has come up. Each operation is shown once. Edges that do not bind in every order may stand. -/
namespace Go.Proofs.YtgjieoljfcfacaaDoor.WideN
open Go.RowKit Go.Sort

def flagObG (P : Program) (l : List Oper) (Q : Exit → Act → World → Prop) (E : World → World → Prop) (G : Nat → Value → World → Prop) (J : (Nat → Bool) → (Nat → Value) → World → Prop) (a : Act) (w : World) (i : Nat) (o : Oper) : Prop :=
  ∀ (vals : Nat → Value) (w' : World) (fl : Nat → Bool), E w w' → J fl vals w' → fl i = false → (∀ e ∈ o.after, Region.binds .any e = true → fl e.on = true) → (∀ p ∈ needsOf l o, G p.1 (vals p.2) w') → (∀ d ∈ laterOf l i, vals d = a.tmps.getD d undef) →
    ∀ R : Act → World → Prop, (∀ v w'', G i v w'' → E w' w'' → J (fun j => decide (j = i) || fl j) (fun z => if o.dst = some z then v else vals z) w'' → R ((Act.over a (dstsOf l) vals).put o.dst v) w'') → wpList P l.toArray (onDone Q R) [o] (Act.over a (dstsOf l) vals) w'

section
variable {P : Program} {l : List Oper} {Q : Exit → Act → World → Prop} {E : World → World → Prop} {G : Nat → Value → World → Prop} {J : (Nat → Bool) → (Nat → Value) → World → Prop} {a : Act} {w : World}
theorem flag_anyG (hB : wideB l = true) (hd : ∀ i d, dstAt l i = some d → d < a.tmps.size) (ht : ∀ w1 w2 w3, E w1 w2 → E w2 w3 → E w1 w3) (hG : ∀ i v w1 w2, G i v w1 → E w1 w2 → G i v w2)
    (hop : ∀ i o, l[i]? = some o → flagObG P l Q E G J a w i o)
    (hfin : ∀ vals w', E w w' → (∃ fl : Nat → Bool, (∀ i, i < l.length → fl i = true) ∧ J fl vals w') → (∀ i d, dstAt l i = some d → G i (vals d) w') → Q .normal (Act.over a (dstsOf l) vals) w') :
    ∀ (fuel : Nat) (listed : Array Bool) (a' : Act) (w' : World), unlisted l.length listed ≤ fuel → WideInv l E G a w listed a' w' → J (fun i => listed.getD i false) (fun z => a'.tmps.getD z undef) w' → wpAny P .any l.toArray Q fuel listed a' w' := by
  have fin : ∀ (listed : Array Bool) (a' : Act) (w' : World), Region.ready .any l.toArray listed = [] → WideInv l E G a w listed a' w' → J (fun i => listed.getD i false) (fun z => a'.tmps.getD z undef) w' → Q .normal a' w' := by
    intro listed a' w' hr h hj
    rw [over_self h]
    have hall := wide_done hB h.size hr
    refine hfin _ w' h.world ⟨_, hall, hj⟩ fun i d hid => h.on i d (hall i ?_) hid
    unfold dstAt at hid
    cases hl : l[i]? with
    | none => simp [hl] at hid
    | some o => exact (List.getElem?_eq_some_iff.1 hl).1
  intro fuel
  induction fuel with
  | zero =>
    intro listed a' w' hu h hj0
    have hr : Region.ready .any l.toArray listed = [] := by
      rw [List.eq_nil_iff_forall_not_mem]
      intro i hi
      obtain ⟨h0, o, ho, _⟩ := mem_ready.1 hi
      have hi2 : i < l.length := by simpa using (Array.getElem?_eq_some_iff.1 ho).1
      have := unlisted_set hi2 h.size (getD_true_of h0)
      omega
    exact ⟨hr, fin _ _ _ hr h hj0⟩
  | succ fuel ih =>
    intro listed a' w' hu h hj0
    refine ⟨fun hr => fin _ _ _ hr h hj0, fun i hi => ?_⟩
    obtain ⟨h0, o, ho, hall⟩ := mem_ready.1 hi
    have h0' := getD_true_of h0
    have ho' : l[i]? = some o := by simpa using ho
    have hi2 : i < l.length := (List.getElem?_eq_some_iff.1 ho').1
    have hdo : dstAt l i = o.dst := by unfold dstAt; rw [ho']; rfl
    have haf : ∀ e ∈ o.after, Region.binds .any e = true → listed.getD e.on false = true := fun e he hb => hall e he hb
    have step := hop i o ho' (fun s => a'.tmps.getD s undef) w' (fun i => listed.getD i false) h.world hj0 h0' (fun e he hb => haf e he hb)
      (by
        rintro ⟨j, d⟩ hp
        unfold needsOf at hp
        rw [List.mem_filterMap] at hp
        obtain ⟨e, he0, hm⟩ := hp
        obtain ⟨he, hbe⟩ := List.mem_filter.1 he0
        cases hdj : dstAt l e.on with
        | none => simp [hdj] at hm
        | some d2 =>
          simp only [hdj, Option.map_some, Option.some.injEq, Prod.mk.injEq] at hm
          obtain ⟨rfl, rfl⟩ := hm
          exact h.on _ _ (haf e (by simpa using he) hbe) hdj)
      (by
        intro d hp
        unfold laterOf at hp
        rw [List.mem_filterMap] at hp
        obtain ⟨ok, hk, hdk⟩ := hp
        rw [List.mem_filter] at hk
        obtain ⟨hk1, hk2⟩ := hk
        obtain ⟨k, hk3⟩ := List.getElem?_of_mem hk1
        obtain ⟨e, he, hb⟩ := Array.any_eq_true'.1 hk2
        simp only [Bool.and_eq_true, beq_iff_eq] at hb
        have hdk' : dstAt l k = some d := by unfold dstAt; rw [hk3]; exact hdk
        have := h.off d (fun j hj hjd => by
          have e1 := wideB_one hB hjd hdk'
          subst e1
          have := h.closed j ok hj hk3 e he hb.1
          rw [hb.2, h0'] at this
          cases this)
        simp only [Array.getD_eq_getD_getElem?, this])
      (wpAny P .any l.toArray Q fuel (listed.setIfInBounds i true))
      (by
        intro v w'' hgv hE hJ
        rw [← over_self h]
        have hls : ∀ j, (listed.setIfInBounds i true).getD j false = (decide (j = i) || listed.getD j false) := fun j => listed_set (by rw [h.size]; exact hi2)
        refine ih _ _ _ ?_ ?_ (by
          have e1 : (fun j => (listed.setIfInBounds i true).getD j false) = fun j => decide (j = i) || listed.getD j false := funext hls
          have e2 : (fun z => (a'.put o.dst v).tmps.getD z undef) = fun z => if o.dst = some z then v else a'.tmps.getD z undef := funext fun z => by
            rw [Array.getD_eq_getD_getElem?, put_tmps, Array.getD_eq_getD_getElem?]
            by_cases hd2 : o.dst = some z
            · rw [if_pos ⟨hd2, by rw [h.tmps]; exact hd i z (by rw [hdo]; exact hd2)⟩, if_pos hd2]; rfl
            · rw [if_neg (fun hc => hd2 hc.1), if_neg hd2]
          rw [e1, e2]; exact hJ)
        · have := unlisted_set hi2 h.size h0'
          omega
        · refine ⟨ht _ _ _ h.world hE, by simp [h.size], by rw [put_defers]; exact h.defers, by rw [put_size]; exact h.tmps, ?_, ?_, ?_⟩
          · intro j d hj hjd
            rw [Array.getD_eq_getD_getElem?, put_tmps]
            by_cases hji : j = i
            · subst hji
              rw [hdo] at hjd
              rw [if_pos ⟨hjd, by rw [h.tmps]; exact hd j d (by rw [hdo]; exact hjd)⟩]
              exact hgv
            · rw [if_neg (fun hc => hji (wideB_one hB hjd (by rw [hdo]; exact hc.1)))]
              rw [hls] at hj
              simp only [hji, decide_false, Bool.false_or] at hj
              have := hG _ _ _ _ (h.on j d hj hjd) hE
              rwa [Array.getD_eq_getD_getElem?] at this
          · intro j oj hj hoj e he hbe
            rw [hls] at hj ⊢
            by_cases hji : j = i
            · subst hji
              rw [ho'] at hoj
              cases hoj
              rw [haf e he hbe]
              simp
            · simp only [hji, decide_false, Bool.false_or] at hj
              rw [h.closed j oj hj hoj e he hbe]
              simp
          · intro s hs
            rw [put_tmps, if_neg (fun hc => hs i (by rw [hls]; simp) (by rw [hdo]; exact hc.1))]
            exact h.off s fun j hj => hs j (by rw [hls, hj]; simp))
    rw [← over_self h] at step
    unfold wpOp
    simp only [ho]
    unfold wpList at step
    split
    · rename_i hw
      rw [if_pos hw] at step
      rcases step with step | ⟨hask, a1, w1, ho1⟩
      · exact .inl (upon_onDone step)
      · exact .inr ⟨hask, a1, w1, ho1⟩
    · rename_i hw
      rw [if_neg hw] at step
      exact step

theorem wp_region_flagG {id : Nat} (hm : P.follows .mixedOrders = true) (hB : wideB l = true) (hd : (dstsOf l).all (fun d => decide (d < a.tmps.size)) = true)
    (hr : E w.drew w.drew) (hj : J (fun _ => false) (fun z => a.tmps.getD z undef) w.drew) (ht : ∀ w1 w2 w3, E w1 w2 → E w2 w3 → E w1 w3) (hG : ∀ i v w1 w2, G i v w1 → E w1 w2 → G i v w2)
    (hop : ∀ i o, l[i]? = some o → flagObG P l Q E G J a w.drew i o)
    (hfin : ∀ vals w', E w.drew w' → (∃ fl : Nat → Bool, (∀ i, i < l.length → fl i = true) ∧ J fl vals w') → (∀ i d, dstAt l i = some d → G i (vals d) w') → Q .normal (Act.over a (dstsOf l) vals) w') : (Code.region id l.toArray true).wp P Q a w := by
  have hno : ∀ i, (Array.replicate l.toArray.size false).getD i false = false := by
    intro i
    rw [Array.getD_eq_getD_getElem?, Array.getElem?_replicate]
    split <;> rfl
  refine wp_region_any hm ?_
  refine flag_anyG (w := w.drew) hB ?_ ht hG hop hfin _ _ _ _ ?_ ?_ ?_
  · intro i d hid
    rw [List.all_eq_true] at hd
    simpa using hd d (mem_dsts.2 ⟨i, hid⟩)
  · unfold unlisted
    refine Nat.le_trans (List.length_filter_le _ _) ?_
    simp
  · refine ⟨hr, by simp, rfl, rfl, ?_, ?_, ?_⟩
    · intro i d h; rw [hno] at h; cases h
    · intro i o h; rw [hno] at h; cases h
    · intro s _; rfl
  · rw [show (fun i => (Array.replicate l.toArray.size false).getD i false) = fun _ => false from funext hno]; exact hj
end

/-- What is to be shown of operation i, the frame spelled out by f. -/
def flagOpG (P : Program) (l : List Oper) (Q : Exit → Act → World → Prop) (S : Nat → Prop) (Gs : List (SG (Chg S))) (J : (Nat → Bool) → (Nat → Value) → World → Prop) (f : (Nat → Value) → Act) (w : World) (i : Nat) (o : Oper) : Prop :=
  ∀ (vals : Nat → Value) (w' : World) (fl : Nat → Bool), Chg S w w' → J fl vals w' → fl i = false → (∀ e ∈ o.after, Region.binds .any e = true → fl e.on = true) → (∀ p ∈ needsOf l o, gOf Gs p.1 (vals p.2) w') →
    ∀ R : Act → World → Prop, (∀ v w'', gOf Gs i v w'' → Chg S w' w'' → J (fun j => decide (j = i) || fl j) (fun z => if o.dst = some z then v else vals z) w'' → R ((f vals).put o.dst v) w'') → wpList P l.toArray (onDone Q R) [o] (f vals) w'
def flagOpsG (P : Program) (l : List Oper) (Q : Exit → Act → World → Prop) (S : Nat → Prop) (Gs : List (SG (Chg S))) (J : (Nat → Bool) → (Nat → Value) → World → Prop) (f : (Nat → Value) → Act) (w : World) : Nat → List Oper → Prop
  | _, [] => True
  | i, o :: r => flagOpG P l Q S Gs J f w i o ∧ flagOpsG P l Q S Gs J f w (i + 1) r
theorem flagOpsG_get {P : Program} {l : List Oper} {Q : Exit → Act → World → Prop} {S : Nat → Prop} {Gs : List (SG (Chg S))} {J : (Nat → Bool) → (Nat → Value) → World → Prop} {f : (Nat → Value) → Act} {w : World} :
    ∀ (r : List Oper) (i : Nat), flagOpsG P l Q S Gs J f w i r → ∀ j o, r[j]? = some o → flagOpG P l Q S Gs J f w (i + j) o
  | [], _, _, j, o, h => by simp at h
  | o1 :: r, i, h, 0, o, ho => by
    simp at ho
    subst ho
    exact h.1
  | o1 :: r, i, h, j + 1, o, ho => by
    have := flagOpsG_get r (i + 1) h.2 j o (by simpa using ho)
    rwa [show i + 1 + j = i + (j + 1) by omega] at this
/-- The law: S the blocks that may change; J called stored world; c and s the call's and the store's places in the region. -/
theorem wp_flagG {P : Program} {l : List Oper} {Q : Exit → Act → World → Prop} {a : Act} {w : World} (S : Nat → Prop) (Gs : List (SG (Chg S))) (J : (Nat → Bool) → (Nat → Value) → World → Prop) (f : (Nat → Value) → Act) {id : Nat} (hm : P.follows .mixedOrders = true) (hB : wideB l = true) (hd : (dstsOf l).all (fun d => decide (d < a.tmps.size)) = true)
    (hf : ∀ vals, Act.over a (dstsOf l) vals = f vals) (hj : J (fun _ => false) (fun z => a.tmps.getD z undef) w.drew)
    (hop : flagOpsG P l Q S Gs J f w 0 l)
    (hfin : ∀ vals w', Chg S w w' → (∃ fl : Nat → Bool, (∀ i, i < l.length → fl i = true) ∧ J fl vals w') → (∀ i d, dstAt l i = some d → gOf Gs i (vals d) w') → Q .normal (f vals) w') : (Code.region id l.toArray true).wp P Q a w := by
  refine wp_region_flagG (G := gOf Gs) (E := Chg S) hm hB hd (Chg.refl _ _) hj (fun _ _ _ h1 h2 => h1.trans h2) (gOf_stays Gs) (fun i o ho => ?_) (fun vals w' hE hJ h => ?_)
  · have := flagOpsG_get l 0 hop i o ho
    rw [Nat.zero_add] at this
    intro vals w' fl hE h1 h2 h3 hn _ R hR
    rw [hf] at hR ⊢
    exact this vals w' fl ((Chg.ofGrows (bl_drew (Below.refl _ _))).trans hE) h1 h2 h3 hn R hR
  · rw [hf]
    exact hfin vals w' ((Chg.ofGrows (bl_drew (Below.refl _ _))).trans hE) hJ h
end Go.Proofs.YtgjieoljfcfacaaDoor.WideN
/- A call, of both: whatever it is. -/
namespace Go.Proofs.YtgjieoljfcfacaaDoor
open Go.RowKit Go.Sort
set_option maxHeartbeats 4000000
set_option maxRecDepth 100000
/-- The rows behind a call. -/
def oneL (l : List DR) (M : Nat) (me n : Int) (B : BV) (a : RA) : List DR := if a.q.tmod 5 = 0 ∨ a.q.tmod 5 = 1 then takeL l M me n B a.tol a.now a.x else if a.q.tmod 5 = 3 then l.filter (keepE a.now) else l
theorem oneL_length (l : List DR) (M : Nat) (me n : Int) (B : BV) (a : RA) : (oneL l M me n B a).length ≤ l.length + 1 := by
  unfold oneL takeL
  split
  · split
    · rw [insT_length]; exact Nat.le_refl _
    · omega
  · split
    · exact Nat.le_trans (List.length_filter_le _ _) (Nat.le_succ _)
    · omega
theorem one_any {W0 w : World} {base rb sb tb mb M : Nat} {kv v : Value} {l : List DR} {me n : Int} {B : BV} (a : RA) (h : RD W0 w base rb sb tb mb kv M me n B v l) (hm : l.length ≤ 10000) (hU : UOk B.b0 B.b1 B.b3 B.b10) (hT : Laid w) (ha : RAOk w a) :
    Calls Tryd.prog 13 #[.pointer (some ⟨rb, 0, none⟩), rdv me n B v M, .agg a.cells] w (OneTo W0 w base rb sb tb mb kv M me n B (oneL l M me n B a)) := by
  have hq : a.q.tmod 5 = 0 ∨ a.q.tmod 5 = 1 ∨ a.q.tmod 5 = 2 ∨ a.q.tmod 5 = 3 ∨ a.q.tmod 5 = 4 := by
    have h1 := ha.1.1
    rw [Int.tmod_eq_emod_of_nonneg h1]
    omega
  rcases hq with hq | hq | hq | hq | hq
  · have := one_take a.q a.tol a.now a.x a.s a.f h hm hU (.inl hq)
    unfold oneL; rw [if_pos (.inl hq)]; exact this
  · have := one_take a.q a.tol a.now a.x a.s a.f h hm hU (.inr hq)
    unfold oneL; rw [if_pos (.inr hq)]; exact this
  · have := one_check a.q a.tol a.now a.x a.s a.f h hm hq
    unfold oneL; rw [if_neg (by omega), if_neg (by omega)]; exact this
  · have := one_exp a.q a.tol a.now a.x a.s a.f h hm hq
    unfold oneL; rw [if_neg (by omega), if_pos hq]; exact this
  · have := one_on a.q a.tol a.now a.x a.s a.f h hq ha.2.1 hT ha.2.2
    unfold oneL; rw [if_neg (by omega), if_neg (by omega)]; exact this
end Go.Proofs.YtgjieoljfcfacaaDoor
/- RelayPlays: what holds at the loop's head and within its region. -/
namespace Go.Proofs.YtgjieoljfcfacaaDoor
open Go.RowKit Go.Sort
set_option maxHeartbeats 4000000
set_option maxRecDepth 100000
/-- What holds at the loop's head. -/
structure PJ (W0 wr : World) (base rb sb tb mb M : Nat) (me n : Int) (B : BV) (p i : Nat) : Prop where
  all : ∃ kv a nn c l, RD W0 wr base rb sb tb mb kv M me n B (.slice a nn c) l ∧ wr.heap[p]? = some (.cells (rdc me n B (.slice a nn c) M) TRR (0, 0)) ∧ l.length ≤ i
/-- What holds within the round's first region. -/
structure VN (W0 w : World) (base rb sb tb mb M : Nat) (me n : Int) (B : BV) (p : Nat) (old : Array Value) (l5 : List DR) (fl : Nat → Bool) (vals : Nat → Value) (kv' : Value) (a5 : Option Addr) (n5 c5 : Nat) : Prop where
  h1 : fl 1 = true
  h6 : fl 6 = true
  v31 : vals 31 = .tuple #[rdv me n B (.slice a5 n5 c5) M, .bool true]
  v24 : fl 7 = true → vals 24 = .tuple #[rdv me n B (.slice a5 n5 c5) M, .bool true]
  v32 : fl 8 = true → vals 32 = rdv me n B (.slice a5 n5 c5) M
  v33 : fl 9 = true → vals 33 = .bool true
  v7 : fl 11 = true → vals 7 = .bool true
  rd : RD W0 w base rb sb tb mb kv' M me n B (.slice a5 n5 c5) l5
  box : w.heap[p]? = some (.cells (bif fl 10 then rdc me n B (.slice a5 n5 c5) M else old) TRR (0, 0))
structure VO (W0 w : World) (base rb sb tb mb : Nat) (kv : Value) (M : Nat) (me n : Int) (B : BV) (p : Nat) (v : Value) (l2 : List DR) (fl : Nat → Bool) : Prop where
  h6 : fl 6 = false
  h7 : fl 7 = false
  h8 : fl 8 = false
  h9 : fl 9 = false
  h10 : fl 10 = false
  h11 : fl 11 = false
  rd : RD W0 w base rb sb tb mb kv M me n B v l2
  box : w.heap[p]? = some (.cells (rdc me n B v M) TRR (0, 0))
def VJ (W0 : World) (base rb sb tb mb : Nat) (kv : Value) (M : Nat) (me n : Int) (B : BV) (p : Nat) (v : Value) (l2 l5 : List DR) (fl : Nat → Bool) (vals : Nat → Value) (w : World) : Prop :=
  VO W0 w base rb sb tb mb kv M me n B p v l2 fl ∨ ∃ kv' a5 n5 c5, VN W0 w base rb sb tb mb M me n B p (rdc me n B v M) l5 fl vals kv' a5 n5 c5
section
variable {W0 w w' : World} {base rb sb tb mb M : Nat} {kv kv' v : Value} {me n : Int} {B : BV} {p : Nat} {old : Array Value} {l2 l5 : List DR} {fl : Nat → Bool} {vals : Nat → Value} {a5 : Option Addr} {n5 c5 : Nat}
abbrev upF (i : Nat) (fl : Nat → Bool) : Nat → Bool := fun j => decide (j = i) || fl j
abbrev upV (d : Option Nat) (x : Value) (vals : Nat → Value) : Nat → Value := fun z => if d = some z then x else vals z
theorem VN.s {i d : Nat} (x : Value) (h : VN W0 w base rb sb tb mb M me n B p old l5 fl vals kv' a5 n5 c5) (hi : i < 6) (h1 : d ≠ 31) (h2 : d ≠ 24) (h3 : d ≠ 32) (h4 : d ≠ 33) (h5 : d ≠ 7) : VN W0 w base rb sb tb mb M me n B p old l5 (upF i fl) (upV (some d) x vals) kv' a5 n5 c5 := by
  refine ⟨by simp [upF, h.h1], by simp [upF, h.h6], by simp [upV, h1, h.v31], fun hf => ?_, fun hf => ?_, fun hf => ?_, fun hf => ?_, h.rd, ?_⟩
  · simp [upF, show ¬ 7 = i by omega] at hf; simp [upV, h2, h.v24 hf]
  · simp [upF, show ¬ 8 = i by omega] at hf; simp [upV, h3, h.v32 hf]
  · simp [upF, show ¬ 9 = i by omega] at hf; simp [upV, h4, h.v33 hf]
  · simp [upF, show ¬ 11 = i by omega] at hf; simp [upV, h5, h.v7 hf]
  · have := h.box; simp only [upF, show ¬ 10 = i by omega, decide_false, Bool.false_or]; exact this
theorem VO.s {i d : Nat} (x : Value) (h : VO W0 w base rb sb tb mb kv M me n B p v l2 fl) (hi : i < 6) : VO W0 w base rb sb tb mb kv M me n B p v l2 (upF i fl) :=
  ⟨by simp [upF, h.h6]; omega, by simp [upF, h.h7]; omega, by simp [upF, h.h8]; omega, by simp [upF, h.h9]; omega, by simp [upF, h.h10]; omega, by simp [upF, h.h11]; omega, h.rd, h.box⟩
theorem VJ.s {i d : Nat} {x : Value} (h : VJ W0 base rb sb tb mb kv M me n B p v l2 l5 fl vals w) (hi : i < 6 := by decide) (h1 : d ≠ 31 := by decide) (h2 : d ≠ 24 := by decide) (h3 : d ≠ 32 := by decide) (h4 : d ≠ 33 := by decide) (h5 : d ≠ 7 := by decide) :
    VJ W0 base rb sb tb mb kv M me n B p v l2 l5 (upF i fl) (upV (some d) x vals) w := by
  rcases h with h | ⟨kv', a5, n5, c5, h⟩
  · exact .inl (h.s (d := d) x hi)
  · exact .inr ⟨kv', a5, n5, c5, h.s x hi h1 h2 h3 h4 h5⟩
theorem VJ.first (h : VJ W0 base rb sb tb mb kv M me n B p v l2 l5 fl vals w) (h1 : fl 1 = false ∨ fl 6 = false) : VO W0 w base rb sb tb mb kv M me n B p v l2 fl := by
  rcases h with h | ⟨kv', a5, n5, c5, h⟩
  · exact h
  · have e1 := h.h1
    have e6 := h.h6
    rw [e1, e6] at h1
    simp at h1
theorem VJ.new (h : VJ W0 base rb sb tb mb kv M me n B p v l2 l5 fl vals w) (h6 : fl 6 = true) : ∃ kv' a5 n5 c5, VN W0 w base rb sb tb mb M me n B p (rdc me n B v M) l5 fl vals kv' a5 n5 c5 := by
  rcases h with h | h
  · have := h.h6; rw [h6] at this; cases this
  · exact h
theorem VJ.any (h : VJ W0 base rb sb tb mb kv M me n B p v l2 l5 fl vals w) (h6 : fl 6 = true ∨ fl 7 = true ∨ fl 8 = true ∨ fl 9 = true) : ∃ kv' a5 n5 c5, VN W0 w base rb sb tb mb M me n B p (rdc me n B v M) l5 fl vals kv' a5 n5 c5 := by
  rcases h with h | h
  · rw [h.h6, h.h7, h.h8, h.h9] at h6; simp at h6
  · exact h
/-- The call. -/
theorem VO.call {e : Ending} (h : VO W0 w base rb sb tb mb kv M me n B p v l2 fl) (h1 : fl 1 = true) (ht : OneTo W0 w base rb sb tb mb kv M me n B l5 e w') :
    ∃ a5 n5 c5, e = .returned (.tuple #[rdv me n B (.slice a5 n5 c5) M, .bool true]) ∧ Chg (SD tb kv mb p) w w' ∧ VJ W0 base rb sb tb mb kv M me n B p v l2 l5 (upF 6 fl) (upV (some 31) (.tuple #[rdv me n B (.slice a5 n5 c5) M, .bool true]) vals) w' := by
  obtain ⟨kv', a5, n5, c5, rfl, hr, hc⟩ := ht
  refine ⟨a5, n5, c5, rfl, hc.mono fun j _ hj => .inl hj, .inr ⟨kv', a5, n5, c5, by simp [upF, h1], by simp [upF], by simp [upV], fun hf => ?_, fun hf => ?_, fun hf => ?_, fun hf => ?_, hr, ?_⟩⟩
  · simp [upF, h.h7] at hf
  · simp [upF, h.h8] at hf
  · simp [upF, h.h9] at hf
  · simp [upF, h.h11] at hf
  · simp [upF, h.h10]; exact box_chg h.box hc (h.rd.rel.notS h.box)
theorem VN.s7 (h : VN W0 w base rb sb tb mb M me n B p old l5 fl vals kv' a5 n5 c5) : VN W0 w base rb sb tb mb M me n B p old l5 (upF 7 fl) (upV (some 24) (.tuple #[rdv me n B (.slice a5 n5 c5) M, .bool true]) vals) kv' a5 n5 c5 := by
  refine ⟨by simp [upF, h.h1], by simp [upF, h.h6], by simp [upV, h.v31], fun hf => by simp [upV], fun hf => ?_, fun hf => ?_, fun hf => ?_, h.rd, ?_⟩
  · simp [upF] at hf; simp [upV, h.v32 hf]
  · simp [upF] at hf; simp [upV, h.v33 hf]
  · simp [upF] at hf; simp [upV, h.v7 hf]
  · have := h.box; simp [upF]; exact this
theorem VN.s8 (h : VN W0 w base rb sb tb mb M me n B p old l5 fl vals kv' a5 n5 c5) : VN W0 w base rb sb tb mb M me n B p old l5 (upF 8 fl) (upV (some 32) (rdv me n B (.slice a5 n5 c5) M) vals) kv' a5 n5 c5 := by
  refine ⟨by simp [upF, h.h1], by simp [upF, h.h6], by simp [upV, h.v31], fun hf => ?_, fun hf => by simp [upV], fun hf => ?_, fun hf => ?_, h.rd, ?_⟩
  · simp [upF] at hf; simp [upV, h.v24 hf]
  · simp [upF] at hf; simp [upV, h.v33 hf]
  · simp [upF] at hf; simp [upV, h.v7 hf]
  · have := h.box; simp [upF]; exact this
theorem VN.s9 (h : VN W0 w base rb sb tb mb M me n B p old l5 fl vals kv' a5 n5 c5) : VN W0 w base rb sb tb mb M me n B p old l5 (upF 9 fl) (upV (some 33) (.bool true) vals) kv' a5 n5 c5 := by
  refine ⟨by simp [upF, h.h1], by simp [upF, h.h6], by simp [upV, h.v31], fun hf => ?_, fun hf => ?_, fun hf => by simp [upV], fun hf => ?_, h.rd, ?_⟩
  · simp [upF] at hf; simp [upV, h.v24 hf]
  · simp [upF] at hf; simp [upV, h.v32 hf]
  · simp [upF] at hf; simp [upV, h.v7 hf]
  · have := h.box; simp [upF]; exact this
theorem VN.s11 (h : VN W0 w base rb sb tb mb M me n B p old l5 fl vals kv' a5 n5 c5) : VN W0 w base rb sb tb mb M me n B p old l5 (upF 11 fl) (upV (some 7) (.bool true) vals) kv' a5 n5 c5 := by
  refine ⟨by simp [upF, h.h1], by simp [upF, h.h6], by simp [upV, h.v31], fun hf => ?_, fun hf => ?_, fun hf => ?_, fun hf => by simp [upV], h.rd, ?_⟩
  · simp [upF] at hf; simp [upV, h.v24 hf]
  · simp [upF] at hf; simp [upV, h.v32 hf]
  · simp [upF] at hf; simp [upV, h.v33 hf]
  · have := h.box; simp [upF]; exact this
/-- The store. -/
theorem VN.s10 {x : Value} (h : VN W0 w base rb sb tb mb M me n B p old l5 fl vals kv' a5 n5 c5) (h10 : fl 10 = false) (h0 : W0.heap.size ≤ p) (hc : Chg (fun j => j = p) w w') (hb : w'.heap[p]? = some (.cells (rdc me n B (.slice a5 n5 c5) M) TRR (0, 0))) :
    VN W0 w' base rb sb tb mb M me n B p old l5 (upF 10 fl) (upV none x vals) kv' a5 n5 c5 := by
  have hbx := h.box
  rw [h10] at hbx
  refine ⟨by simp [upF, h.h1], by simp [upF, h.h6], by simp [upV, h.v31], fun hf => ?_, fun hf => ?_, fun hf => ?_, fun hf => ?_, h.rd.set hbx hc h0, ?_⟩
  · simp [upF] at hf; simp [upV, h.v24 hf]
  · simp [upF] at hf; simp [upV, h.v32 hf]
  · simp [upF] at hf; simp [upV, h.v33 hf]
  · simp [upF] at hf; simp [upV, h.v7 hf]
  · simp [upF]; exact hb
end
end Go.Proofs.YtgjieoljfcfacaaDoor
namespace Go.Proofs.YtgjieoljfcfacaaDoor
open Go.RowKit Go.Sort
set_option maxHeartbeats 4000000
set_option maxRecDepth 100000
theorem relayPlays_walk (n f dmin dmax rho slew rnd win att seen hist fly quota body : Int) (la : Option Addr) (ll lc : Nat) (me nn most : Int) {v : Value} {l : List RA} {w : World} (h : GHas rav 17 w v l) (hk : ∀ a ∈ l, RAOk w a) (hT : Laid w) :
    Calls Tryd.prog 5 #[rcfg n f dmin dmax rho slew rnd win att seen hist fly quota body la ll lc me nn most, v] w (RetV w (.bool true)) := by
  obtain ⟨ln, eln⟩ : ∃ ln, l.length = ln := ⟨_, rfl⟩
  obtain ⟨va, vc, rfl⟩ := h.len eln
  obtain ⟨c, ec⟩ : ∃ c, w.heap.size = c := ⟨_, rfl⟩
  obtain ⟨CS, eCS⟩ : ∃ CS, (#[.int .i64 n, .slice la ll lc, .int .i64 f, .int .i64 dmin, .int .i64 dmax, .int .i64 rho, .int .i64 slew, .int .i64 rnd, .int .i64 win, .int .i64 att, .int .i64 seen, .int .i64 hist, .int .i64 fly, .int .i64 quota, .int .i64 body, .int .i64 me, .int .i64 nn, .int .i64 most] : Array Value) = CS := ⟨_, rfl⟩
  have hq := heap_alloc_new w (.cells #[.int .i64 n, .slice la ll lc, .int .i64 f, .int .i64 dmin, .int .i64 dmax, .int .i64 rho, .int .i64 slew, .int .i64 rnd, .int .i64 win, .int .i64 att, .int .i64 seen, .int .i64 hist, .int .i64 fly, .int .i64 quota, .int .i64 body, .int .i64 me, .int .i64 nn, .int .i64 most] 26)
  obtain ⟨W, eW⟩ : ∃ W, w.alloc (.cells #[.int .i64 n, .slice la ll lc, .int .i64 f, .int .i64 dmin, .int .i64 dmax, .int .i64 rho, .int .i64 slew, .int .i64 rnd, .int .i64 win, .int .i64 att, .int .i64 seen, .int .i64 hist, .int .i64 fly, .int .i64 quota, .int .i64 body, .int .i64 me, .int .i64 nn, .int .i64 most] 26) = W := ⟨_, rfl⟩
  have hg : Grows w W := by rw [← eW]; exact bl_alloc (Below.refl _ _) _
  rw [eW, ec] at hq
  have HQ := Lib.hid hq
  have HG := Lib.hid hg
  have HH := Lib.hid (And.intro h (And.intro hk hT))
  have HMA := Lib.hid (made_any n f dmin dmax rho slew rnd win att seen hist fly quota body la ll lc me nn most W)
  have EN := Lib.hid eln
  clear h hk hT hq hg eCS
  go_enter Tryd.func5, Tryd.ntmps5
  go_wp2_with (refine wpList_load_box rfl 26 (.tmp 2) rfl c #[.int .i64 n, .slice la ll lc, .int .i64 f, .int .i64 dmin, .int .i64 dmax, .int .i64 rho, .int .i64 slew, .int .i64 rnd, .int .i64 win, .int .i64 att, .int .i64 seen, .int .i64 hist, .int .i64 fly, .int .i64 quota, .int .i64 body, .int .i64 me, .int .i64 nn, .int .i64 most] rfl (Tryd.isAgg26 _) (Tryd.sizeOf26 _) HQ.out ?_)
  refine HMA.out.mono ?_
  rintro e w1 ⟨B, base, rb, sb, tb, mb, hBk, hba, rfl, hg1, hr1⟩
  have HU := Lib.hid (uok_of hBk)
  have HBA := Lib.hid hba
  have R1 := Lib.hid hr1
  have G1 := Lib.hid (grows_trans _ _ _ HG.out hg1)
  obtain ⟨M, eM⟩ : ∃ M, mostOfI most = M := ⟨_, rfl⟩
  rw [eM] at R1 ⊢
  obtain ⟨p, ep⟩ : ∃ p, w1.heap.size = p := ⟨_, rfl⟩
  obtain ⟨w2, e2⟩ : ∃ w2, w1.alloc (.cells zrd TRR) = w2 := ⟨_, rfl⟩
  have g2 : Grows w1 w2 := by rw [← e2]; exact bl_alloc (Below.refl _ _) _
  have hp2 : w2.heap[p]? = some (.cells zrd TRR (0, 0)) := by rw [← e2, ← ep]; exact heap_alloc_new w1 _
  have G2 := Lib.hid (And.intro g2 hp2)
  clear hBk hba hg1 hr1 g2 hp2 eW eM
  go_wp2_with (refine wpList_store_box rfl 41 (.tmp 6) (.tmp 13) rfl p (rdc me nn B (.slice none 0 0) M) rfl rfl (Tryd.sizeOf41 _) G2.out.2 rfl (rdc_one _ _ _ _ _ _ _) ?_; intro w4 h4 c4)
  have J4 : PJ w w4 base rb sb tb mb M me nn B p 0 := ⟨_, _, _, _, [], ⟨(R1.out.grows G2.out.1).setBox G2.out.2 c4, World.ownsRow_nil _ _ _ _, Nat.le_trans HG.out.size HBA.out, grows_chg (grows_trans _ _ _ G1.out G2.out.1) c4 (fun j hj => by have := G1.out.size; omega)⟩, h4, Nat.le_refl _⟩
  have J4' := Lib.hid J4
  clear h4 c4 J4 e2
  go_loopw [7, 8] (fun okv iv wr => ∃ i : Nat, okv = .bool true ∧ iv = .int .i64 (i : Int) ∧ i ≤ ln ∧ i ≤ 40 ∧ PJ w wr base rb sb tb mb M me nn B p i) (fun _ iv _ => 40 - (intOf iv).toNat)
  case atStart => exact ⟨0, rfl, rfl, Nat.zero_le _, Nat.zero_le _, J4'.out⟩
  case round =>
    obtain ⟨i, rfl, rfl, hi, hi60, hpj⟩ := hrel
    obtain ⟨kv, a2, n2, c2, l2, hrd, hbp, hl2⟩ := hpj.all
    have D0 := Lib.hid (And.intro hrd (And.intro hbp hl2))
    clear hrd hbp hl2 hpj
    by_cases hlt : i < ln ∧ i < 40
    · obtain ⟨hin, h60⟩ := hlt
      have hnl : i < l.length := by rw [EN.out]; exact hin
      obtain ⟨g, o, cap, he, hml, hgl, hat⟩ := HH.out.1.form EN.out (by omega)
      simp only [Value.slice.injEq, true_and] at he
      obtain ⟨rfl, rfl⟩ := he
      obtain ⟨y, ey⟩ : ∃ y, l[i] = y := ⟨_, rfl⟩
      have hy : RAOk w y := by rw [← ey]; exact HH.out.2.1 _ (List.getElem_mem hnl)
      have gr : Grows w wr := D0.out.1.gr
      have HAT : ∀ j, j < 17 → wr.cell? ⟨g, o + i * 17 + j, none⟩ = (rav y)[j]? := fun j hj => by
        have h1 := hat i hnl j hj
        rw [ey] at h1
        exact (gr.cell (p := ⟨g, o + i * 17 + j, none⟩) hgl).trans h1
      have k0 : wr.cell? ⟨g, o + i * 17, none⟩ = some (.int .u8 y.q) := HAT 0 (by decide)
      have k1 : wr.cell? ⟨g, o + i * 17 + 1, none⟩ = some (.int .i64 y.tol) := HAT 1 (by decide)
      have k2 : wr.cell? ⟨g, o + i * 17 + 2, none⟩ = some (.int .i64 y.now) := HAT 2 (by decide)
      have k3 : wr.cell? ⟨g, o + i * 17 + 3, none⟩ = some (.int .i64 y.x.kd) := HAT 3 (by decide)
      have k4 : wr.cell? ⟨g, o + i * 17 + 4, none⟩ = some (.int .i64 y.x.k.t) := HAT 4 (by decide)
      have k5 : wr.cell? ⟨g, o + i * 17 + 5, none⟩ = some (.int .i64 y.x.k.f) := HAT 5 (by decide)
      have k6 : wr.cell? ⟨g, o + i * 17 + 6, none⟩ = some (.int .u32 y.x.k.s) := HAT 6 (by decide)
      have k7 : wr.cell? ⟨g, o + i * 17 + 7, none⟩ = some (.int .i64 y.x.hp) := HAT 7 (by decide)
      have k8 : wr.cell? ⟨g, o + i * 17 + 8, none⟩ = some (.int .i64 y.x.no) := HAT 8 (by decide)
      have k9 : wr.cell? ⟨g, o + i * 17 + 9, none⟩ = some (.int .i64 y.x.dt) := HAT 9 (by decide)
      have k10 : wr.cell? ⟨g, o + i * 17 + 10, none⟩ = some (.int .i64 y.x.ix) := HAT 10 (by decide)
      have k11 : wr.cell? ⟨g, o + i * 17 + 11, none⟩ = some (.int .i64 y.x.tt) := HAT 11 (by decide)
      have k12 : wr.cell? ⟨g, o + i * 17 + 12, none⟩ = some (.int .i64 y.x.st) := HAT 12 (by decide)
      have k13 : wr.cell? ⟨g, o + i * 17 + 13, none⟩ = some (.int .i64 y.x.vl) := HAT 13 (by decide)
      have k14 : wr.cell? ⟨g, o + i * 17 + 14, none⟩ = some (.slice y.x.ba y.x.bl y.x.bc) := HAT 14 (by decide)
      have k15 : wr.cell? ⟨g, o + i * 17 + 15, none⟩ = some (.int .u64 (y.s : Int)) := HAT 15 (by decide)
      have k16 : wr.cell? ⟨g, o + i * 17 + 16, none⟩ = some (.int .i64 y.f) := HAT 16 (by decide)
      have gz := Nat.lt_of_lt_of_le hgl gr.size
      have gd : Grows wr wr.drew := bl_drew (Below.refl _ _)
      have HYO := Lib.hid hy
      have H60' := Lib.hid (show i ≤ 10000 from Nat.le_trans hi60 (by decide))
      have HBD := Lib.hid (box_grows D0.out.2.1 gd)
      have hn6 : i ≤ 1000000 := Nat.le_trans hi60 (by decide)
      have HNF := Lib.hid (nat_facts i hn6)
      have HWS := Lib.hid (wrap_succ hn6)
      have H60 := Lib.hid h60
      have HIN := Lib.hid hin
      have hd1 : decide ((i : Int) < (ln : Int)) = true := decide_eq_true (by omega)
      have hd2 : decide ((i : Int) < 40) = true := decide_eq_true (by omega)
      have hq1 : (i < ln) = True := eq_true hin
      have hq2 : (i < 40) = True := eq_true h60
      have hq3 : (i : Int) < (ln : Int) := Int.ofNat_lt.2 hin
      have hq4 : (i : Int) < 40 := by omega
      have HP := Lib.hid (show w.heap.size ≤ p by rw [← ep]; exact G1.out.size)
      have HGL := Lib.hid hgl
      clear hnl hat ey hy hn6 hi hi60 h60 hml hgl hin gd gr HAT
      obtain ⟨j1, j2, j3, j4, j6⟩ := HNF.out
      go_wp2_with fail
      have HK0 := Lib.hid (fun w' (hE : Chg (SD tb kv mb p) wr w') => show ∀ j, wr.cell? ⟨g, o + i * 17 + j, none⟩ = w'.cell? ⟨g, o + i * 17 + j, none⟩ from fun j => (hE.cell (p := ⟨g, o + i * 17 + j, none⟩) gz (fun hs => by have := sd_low D0.out.1.rel D0.out.1.low (p := p) HP.out g hs; have := HGL.out; omega)).symm)
      refine WideN.wp_flagG (SD tb kv mb p) [.fix _ (.pointer (some ⟨rb, 0, none⟩)), .fix _ (.agg (rdc me nn B (.slice a2 n2 c2) M)), .fix _ (.slice (some ⟨g, o, none⟩) ln vc), .fix _ (.int .i64 (i : Int)), .fix _ (.pointer (some ⟨g, o + i * 17, none⟩)), .fix _ (.agg y.cells), .none _, .none _, .none _, .none _, .none _, .none _] (VJ w base rb sb tb mb kv M me nn B p (.slice a2 n2 c2) l2 (oneL l2 M me nn B y)) ?_ (by kernel_rfl) (by kernel_rfl) rfl (fun vals => by simp [Act.over, dstsOf, overL]; rfl) ?_ ?_ ?_
      · exact .inl ⟨rfl, rfl, rfl, rfl, rfl, rfl, D0.out.1.grows (bl_drew (Below.refl _ _)), box_grows D0.out.2.1 (bl_drew (Below.refl _ _))⟩
      · refine ⟨?_, ?_, ?_, ?_, ?_, ?_, ?_, ?_, ?_, ?_, ?_, ?_, trivial⟩
        all_goals
          intro vals w' fl hE hJ hi0 he hn R hR
          simp [WideN.needsOf, Region.binds, dstAt, gOf, SG.fix, SG.none] at hn he
          have HJ := Lib.hid hJ
          have HE := Lib.hid hE
          clear hJ hE
        · have HR := Lib.hid hR
          clear hR
          go_wp2_with fail
          exact HR.out _ _ rfl (Chg.refl _ _) HJ.out.s
        · have HB := Lib.hid (HJ.out.first (.inl hi0)).box
          have HR := Lib.hid hR
          clear hR
          go_wp2_with (refine wpList_load_box rfl 41 (.tmp 6) rfl p (rdc me nn B (.slice a2 n2 c2) M) rfl (Tryd.isAgg41 _) (Tryd.sizeOf41 _) HB.out ?_)
          exact HR.out _ _ rfl (Chg.refl _ _) (.inl ((HJ.out.first (.inl hi0)).s (d := 26) (rdv me nn B (.slice a2 n2 c2) M) (by decide)))
        · have HR := Lib.hid hR
          clear hR
          go_wp2_with fail
          exact HR.out _ _ rfl (Chg.refl _ _) HJ.out.s
        · have HR := Lib.hid hR
          clear hR
          go_wp2_with fail
          exact HR.out _ _ rfl (Chg.refl _ _) HJ.out.s
        · obtain ⟨hn1, hn2⟩ := hn
          try simp only [hn1, hn2] at hR
          have HR := Lib.hid hR
          clear hR
          go_wp2_with fail
          exact HR.out _ _ rfl (Chg.refl _ _) HJ.out.s
        · try simp only [hn] at hR
          have K := HK0.out w' HE.out
          have q0 : w'.cell? ⟨g, o + i * 17, none⟩ = some (.int .u8 y.q) := (K 0).symm.trans k0
          have q1 : w'.cell? ⟨g, o + i * 17 + 1, none⟩ = some (.int .i64 y.tol) := (K 1).symm.trans k1
          have q2 : w'.cell? ⟨g, o + i * 17 + 2, none⟩ = some (.int .i64 y.now) := (K 2).symm.trans k2
          have q3 : w'.cell? ⟨g, o + i * 17 + 3, none⟩ = some (.int .i64 y.x.kd) := (K 3).symm.trans k3
          have q4 : w'.cell? ⟨g, o + i * 17 + 4, none⟩ = some (.int .i64 y.x.k.t) := (K 4).symm.trans k4
          have q5 : w'.cell? ⟨g, o + i * 17 + 5, none⟩ = some (.int .i64 y.x.k.f) := (K 5).symm.trans k5
          have q6 : w'.cell? ⟨g, o + i * 17 + 6, none⟩ = some (.int .u32 y.x.k.s) := (K 6).symm.trans k6
          have q7 : w'.cell? ⟨g, o + i * 17 + 7, none⟩ = some (.int .i64 y.x.hp) := (K 7).symm.trans k7
          have q8 : w'.cell? ⟨g, o + i * 17 + 8, none⟩ = some (.int .i64 y.x.no) := (K 8).symm.trans k8
          have q9 : w'.cell? ⟨g, o + i * 17 + 9, none⟩ = some (.int .i64 y.x.dt) := (K 9).symm.trans k9
          have q10 : w'.cell? ⟨g, o + i * 17 + 10, none⟩ = some (.int .i64 y.x.ix) := (K 10).symm.trans k10
          have q11 : w'.cell? ⟨g, o + i * 17 + 11, none⟩ = some (.int .i64 y.x.tt) := (K 11).symm.trans k11
          have q12 : w'.cell? ⟨g, o + i * 17 + 12, none⟩ = some (.int .i64 y.x.st) := (K 12).symm.trans k12
          have q13 : w'.cell? ⟨g, o + i * 17 + 13, none⟩ = some (.int .i64 y.x.vl) := (K 13).symm.trans k13
          have q14 : w'.cell? ⟨g, o + i * 17 + 14, none⟩ = some (.slice y.x.ba y.x.bl y.x.bc) := (K 14).symm.trans k14
          have q15 : w'.cell? ⟨g, o + i * 17 + 15, none⟩ = some (.int .u64 (y.s : Int)) := (K 15).symm.trans k15
          have q16 : w'.cell? ⟨g, o + i * 17 + 16, none⟩ = some (.int .i64 y.f) := (K 16).symm.trans k16
          have gz' : g < w'.heap.size := block_lt_of_cell q0
          have HR := Lib.hid hR
          clear hR K k0 k1 k2 k3 k4 k5 k6 k7 k8 k9 k10 k11 k12 k13 k14 k15 k16
          go_wp2_with fail
          exact HR.out _ _ rfl (Chg.refl _ _) HJ.out.s
        · obtain ⟨hn1, hn2, hn3⟩ := hn
          try simp only [hn1, hn2, hn3] at hR
          have HR := Lib.hid hR
          clear hR
          have HOL := Lib.hid (HJ.out.first (.inr hi0))
          have HF1 := Lib.hid (show fl 1 = true by simp_all)
          clear k0 k1 k2 k3 k4 k5 k6 k7 k8 k9 k10 k11 k12 k13 k14 k15 k16
          go_wp2_with fail
          refine (one_any y HOL.out.rd (Nat.le_trans D0.out.2.2 H60'.out) HU.out (HH.out.2.2.grows HOL.out.rd.gr) ⟨HYO.out.1, HYO.out.2.1, HYO.out.2.2.grows HOL.out.rd.gr⟩).mono ?_
          rintro e w5 ht
          obtain ⟨a5, n5, c5, rfl, hc5, hj5⟩ := HOL.out.call (l5 := oneL l2 M me nn B y) (vals := vals) HF1.out ht
          have J5 := Lib.hid (And.intro hc5 hj5)
          clear ht hc5 hj5
          go_wp2_with fail
          exact HR.out _ _ trivial J5.out.1 J5.out.2
        · obtain ⟨kv', a5, n5, c5, hN⟩ := HJ.out.any (by simp [he])
          have hv := hN.v31
          have HN := Lib.hid hN
          try simp only [hv] at hR
          have HR := Lib.hid hR
          clear hR hN k0 k1 k2 k3 k4 k5 k6 k7 k8 k9 k10 k11 k12 k13 k14 k15 k16
          go_wp2_with fail
          exact HR.out _ _ trivial (Chg.refl _ _) (.inr ⟨kv', a5, n5, c5, HN.out.s7⟩)
        · obtain ⟨kv', a5, n5, c5, hN⟩ := HJ.out.any (by simp [he])
          have hv := hN.v24 (by simp [he])
          have HN := Lib.hid hN
          try simp only [hv] at hR
          have HR := Lib.hid hR
          clear hR hN k0 k1 k2 k3 k4 k5 k6 k7 k8 k9 k10 k11 k12 k13 k14 k15 k16
          go_wp2_with fail
          exact HR.out _ _ trivial (Chg.refl _ _) (.inr ⟨kv', a5, n5, c5, HN.out.s8⟩)
        · obtain ⟨kv', a5, n5, c5, hN⟩ := HJ.out.any (by simp [he])
          have hv := hN.v24 (by simp [he])
          have HN := Lib.hid hN
          try simp only [hv] at hR
          have HR := Lib.hid hR
          clear hR hN k0 k1 k2 k3 k4 k5 k6 k7 k8 k9 k10 k11 k12 k13 k14 k15 k16
          go_wp2_with fail
          exact HR.out _ _ trivial (Chg.refl _ _) (.inr ⟨kv', a5, n5, c5, HN.out.s9⟩)
        · obtain ⟨kv', a5, n5, c5, hN⟩ := HJ.out.any (by simp [he])
          have hv := hN.v32 (by simp [he])
          have HN := Lib.hid hN
          have hbx := hN.box
          rw [hi0] at hbx
          try simp only [hn] at hR
          try simp only [hv] at hR
          have HR := Lib.hid hR
          clear hR hN k0 k1 k2 k3 k4 k5 k6 k7 k8 k9 k10 k11 k12 k13 k14 k15 k16
          refine wpList_store_box rfl 41 (.tmp 6) (.tmp 32) rfl p (rdc me nn B (.slice a5 n5 c5) M) rfl hv (Tryd.sizeOf41 _) hbx rfl (rdc_one _ _ _ _ _ _ _) ?_
          intro w5 h5 c5'
          have J5 := Lib.hid (And.intro (c5'.mono (T := SD tb kv mb p) fun j _ hj => Or.inr hj) (HN.out.s10 (x := undef) hi0 HP.out c5' h5))
          clear h5 c5' hbx
          go_wp2_with fail
          exact HR.out undef _ trivial J5.out.1 (.inr ⟨kv', a5, n5, c5, J5.out.2⟩)
        · obtain ⟨kv', a5, n5, c5, hN⟩ := HJ.out.any (by simp [he])
          have hv := hN.v33 (by simp [he])
          have HN := Lib.hid hN
          try simp only [hn] at hR
          try simp only [hv] at hR
          have HR := Lib.hid hR
          clear hR hN k0 k1 k2 k3 k4 k5 k6 k7 k8 k9 k10 k11 k12 k13 k14 k15 k16
          go_wp2_with fail
          exact HR.out _ _ trivial (Chg.refl _ _) (.inr ⟨kv', a5, n5, c5, HN.out.s11⟩)
      · intro vals w' hE hJ hn
        obtain ⟨fl, hall, hJ⟩ := hJ
        obtain ⟨kv', a5, n5, c5, hN⟩ := hJ.new (hall 6 (by decide))
        have v7 := hN.v7 (hall 11 (by decide))
        have hbx := hN.box
        rw [hall 10 (by decide)] at hbx
        have X5 := Lib.hid (And.intro hN.rd (show w'.heap[p]? = some (.cells (rdc me nn B (.slice a5 n5 c5) M) TRR (0, 0)) from hbx))
        obtain ⟨np, enp⟩ : ∃ np, (oneL l2 M me nn B y).length = np := ⟨_, rfl⟩
        have hlen : ((oneL l2 M me nn B y).map tv).length = np := by rw [List.length_map]; exact enp
        obtain ⟨a6, c6, hs6⟩ := ROwn.len hN.rd.own enp
        simp only [Value.slice.injEq] at hs6
        obtain ⟨-, hnp, -⟩ := hs6
        have hwn : IntKind.i64.wrap ((M : Int) - (np : Int)) = (M : Int) - (np : Int) := by rw [wrapEq]; exact room_wrap (by rw [← hlen]; exact hN.rd.rel.seen.tab.few) hN.rd.rel.seen.tab.most
        have HLEN := Lib.hid (fun W' (hg : Grows w' W') => show Calls Tryd.prog 10 #[.pointer (some ⟨rb, 0, none⟩)] W' (fun e w'' => e = .returned (.int .i64 (np : Int)) ∧ W' = w'') from by have := rlen_any (X5.out.1.rel.grows hg); rw [hlen] at this; exact this)
        have HROOM := Lib.hid (fun W' (hg : Grows w' W') => show Calls Tryd.prog 16 #[.pointer (some ⟨rb, 0, none⟩)] W' (RetV W' (.int .i64 ((M : Int) - (np : Int)))) from by have := rroom_any (X5.out.1.rel.grows hg); rw [hlen] at this; exact this)
        have HLE := Lib.hid (show (oneL l2 M me nn B y).length ≤ i + 1 from Nat.le_trans (oneL_length _ _ _ _ _ _) (Nat.succ_le_succ D0.out.2.2))
        have HWN := Lib.hid hwn
        clear hn hE hJ hall hN hbx hlen enp hwn k0 k1 k2 k3 k4 k5 k6 k7 k8 k9 k10 k11 k12 k13 k14 k15 k16 gz
        subst hnp
        obtain ⟨d0, d1, d2, d3, d4, d5, d6, d7, d8, d9, d10, d11, d12, d13, d14, d15, d16, d17, zd⟩ := dat_of X5.out.2
        try simp only [v7]
        go_wp2_with fail
        have hwn := HWN.out
        have hnn : ((n5 : Int) != (n5 : Int)) = false := bne_self_eq_false _
        have hmm : (((M : Int) - (n5 : Int)) != ((M : Int) - (n5 : Int))) = false := bne_self_eq_false _
        refine wp_region_reg (by kernel_rfl) (by kernel_rfl) ?_
        repeat (first | go_big_quiet_step ((first | (go_at_call 10; refine class_same (HLEN.out _ (below_reg _ _)) ⟨_, rfl⟩) | (go_at_call 16; exact class_reg (HROOM.out _ (below_reg _ _))))) | quiet_step ((first | (go_at_call 10; refine class_same (HLEN.out _ (below_reg _ _)) ⟨_, rfl⟩) | (go_at_call 16; exact class_reg (HROOM.out _ (below_reg _ _))))))
        refine wpQuiet_nil ?_
        intro _ hcw1
        obtain ⟨pq, hcw2⟩ := hcw1
        subst hcw2
        obtain ⟨w6, e6, hg6⟩ : ∃ w6, reg w' pq = w6 ∧ Grows w' w6 := ⟨_, rfl, below_reg _ _⟩
        rw [e6]
        have HG6 := Lib.hid hg6
        clear e6 hg6 hwn hnn hmm d0 d1 d2 d3 d4 d5 d6 d7 d8 d9 d10 d11 d12 d13 d14 d15 d16 d17 zd
        go_wp2_with fail
        go_roundw
        case rel => exact ⟨i + 1, rfl, rfl, HIN.out, H60.out, ⟨_, _, _, _, _, X5.out.1.grows HG6.out, box_grows X5.out.2 HG6.out, HLE.out⟩⟩
        case measure => show 40 - (i + 1) < 40 - i; have := H60.out; omega
    · have hex : (decide ((i : Int) < (ln : Int)) = false ∧ (i < ln) = False) ∨ (decide ((i : Int) < (ln : Int)) = true ∧ (i < ln) = True ∧ decide ((i : Int) < 40) = false ∧ (i < 40) = False) := by
        by_cases h1 : i < ln
        · exact .inr ⟨decide_eq_true (by omega), eq_true h1, decide_eq_false (by omega), eq_false (by omega)⟩
        · exact .inl ⟨decide_eq_false (by omega), eq_false h1⟩
      have HW := Lib.hid (relayWorks_any wr (HH.out.2.2.grows D0.out.1.gr))
      clear hlt hi hi60
      rcases hex with ⟨hd1, hq1⟩ | ⟨hd1, hq1, hd2, hq2⟩
      all_goals
        go_wp2_with fail
        refine (HW.out).mono ?_
        rintro e w3 ⟨rfl, hg3⟩
        have HG3 := Lib.hid (grows_trans _ _ _ D0.out.1.gr hg3)
        clear hg3
        go_wp2_with fail
        go_ret
        exact ⟨rfl, HG3.out⟩
end Go.Proofs.YtgjieoljfcfacaaDoor
