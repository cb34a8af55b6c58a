/- A region that draws its order, whose first n operations only read and call (in a class of worlds), and whose last ones follow in one forced order: one walk of the text's order serves every order. -/
import Derived.Test.YthdcmchjlpkkaaaDoorBase
namespace Go.Proofs.YthdcmchjlpkkaaaDoor
open Go.RowKit Go.Sort

/-- Operation k waits for operation j. -/
def waits (ops : Array Oper) (k j : Nat) : Bool := match ops[k]? with | some o => o.after.any (fun e => Region.binds .any e && e.on == j) | none => false
/-- What the kernel is asked of a region: each operation waits for and looks at earlier ones alone; each of the first n is waited for by a later one, up to number n; from n on each waits for the one before. -/
def tailB (ops : Array Oper) (n : Nat) : Bool :=
  (List.range ops.size).all (fun j => match ops[j]? with | some o => o.after.all (fun e => decide (e.on < j)) && (match o.guard with | some g => decide (g.1 < j) | none => true) | none => false) &&
  (List.range n).all (fun j => (List.range (n + 1)).any (fun k => decide (j < k) && waits ops k j)) &&
  (List.range (ops.size - n - 1)).all (fun d => waits ops (n + d + 1) (n + d)) && decide (n < ops.size)

structure TailOk (ops : Array Oper) (n : Nat) : Prop where
  lt : n < ops.size
  edge : ∀ (j : Nat) (o : Oper), ops[j]? = some o → ∀ e ∈ o.after, e.on < j
  guard : ∀ (j : Nat) (o : Oper) (g : Nat × Bool), ops[j]? = some o → o.guard = some g → g.1 < j
  head : ∀ j, j < n → ∃ (k : Nat) (o : Oper), j < k ∧ k ≤ n ∧ ops[k]? = some o ∧ ∃ e ∈ o.after, Region.binds .any e = true ∧ e.on = j
  chain : ∀ t, n ≤ t → t + 1 < ops.size → ∃ o : Oper, ops[t + 1]? = some o ∧ ∃ e ∈ o.after, Region.binds .any e = true ∧ e.on = t

theorem waits_spec {ops : Array Oper} {k j : Nat} (h : waits ops k j = true) : ∃ o, ops[k]? = some o ∧ ∃ e ∈ o.after, Region.binds .any e = true ∧ e.on = j := by
  unfold waits at h
  cases ho : ops[k]? with
  | none => simp [ho] at h
  | some o =>
    simp only [ho] at h
    obtain ⟨e, he, hb⟩ := Array.any_eq_true'.1 h
    simp only [Bool.and_eq_true, beq_iff_eq] at hb
    exact ⟨o, rfl, e, he, hb.1, hb.2⟩

theorem tailOk_of {ops : Array Oper} {n : Nat} (h : tailB ops n = true) : TailOk ops n := by
  unfold tailB at h
  simp only [Bool.and_eq_true, List.all_eq_true, List.mem_range, decide_eq_true_eq] at h
  obtain ⟨⟨⟨h1, h2⟩, h3⟩, h4⟩ := h
  refine ⟨h4, fun j o ho e he => ?_, fun j o g ho hg => ?_, fun j hj => ?_, fun t ht hlt => ?_⟩
  · have hj := (Array.getElem?_eq_some_iff.1 ho).1
    have := h1 j hj
    simp only [ho, Bool.and_eq_true, Array.all_eq_true_iff_forall_mem, decide_eq_true_eq] at this
    exact this.1 e he
  · have hj := (Array.getElem?_eq_some_iff.1 ho).1
    have := h1 j hj
    simp only [ho, hg, Bool.and_eq_true, decide_eq_true_eq] at this
    exact this.2
  · have := h2 j hj
    rw [List.any_eq_true] at this
    obtain ⟨k, hk, hw⟩ := this
    simp only [List.mem_range, Bool.and_eq_true, decide_eq_true_eq] at hk hw
    obtain ⟨o, ho, he⟩ := waits_spec hw.2
    exact ⟨k, o, hw.1, by omega, ho, he⟩
  · have := h3 (t - n) (by omega)
    have e1 : n + (t - n) = t := by omega
    rw [e1] at this
    exact waits_spec this

section
variable {P : Program} {C : World → Prop} {Q : Exit → Act → World → Prop} {l : List Oper} {n : Nat}

theorem getD_true_of {listed : Array Bool} {i : Nat} (h : listed.getD i true = false) : listed.getD i false = false := by
  rcases Nat.lt_or_ge i listed.size with h' | h'
  · simp [h'] at h ⊢; exact h
  · simp [Array.getElem?_eq_none h'] at h

/-- The tail: all before m are listed, none from m on. -/
theorem tail_seq (ok : TailOk l.toArray n) (x : Nat) : ∀ (r : List Oper) (m : Nat) (listed : Array Bool) (a : Act) (w : World), r = l.drop m → n ≤ m → m ≤ l.length → listed.size = l.length →
    (∀ i, i < l.length → listed.getD i false = decide (i < m)) → wpList P l.toArray Q r a w → wpAny P .any l.toArray Q (r.length + x) listed a w := by
  intro r
  induction r with
  | nil =>
    intro m listed a w hr hnm hml hsz hl h
    have hm : m = l.length := by
      have := congrArg List.length hr
      simp at this; omega
    have hnone : Region.ready .any l.toArray listed = [] := by
      rw [List.eq_nil_iff_forall_not_mem]
      intro i hi
      obtain ⟨h0, o, ho, _⟩ := mem_ready.1 hi
      have hi' := (Array.getElem?_eq_some_iff.1 ho).1
      have h1 := getD_true_of h0
      rw [hl i (by simpa using hi')] at h1
      simp at hi' h1
      omega
    cases x with
    | zero => exact ⟨hnone, h⟩
    | succ x =>
      show wpAny P .any l.toArray Q (0 + (x + 1)) listed a w
      rw [Nat.zero_add]
      exact ⟨fun _ => h, fun i hi => by rw [hnone] at hi; cases hi⟩
  | cons o r ih =>
    intro m listed a w hr hnm hml hsz hl h
    have hmlt : m < l.length := by
      have := congrArg List.length hr
      simp at this; omega
    have hom : l[m]? = some o := by
      have := congrArg (fun z => z[0]?) hr
      simp only [List.getElem?_drop] at this
      simpa using this.symm
    have hrr : r = l.drop (m + 1) := by
      have := congrArg List.tail hr
      simpa [List.tail_drop] using this
    rw [List.length_cons, show r.length + 1 + x = (r.length + x) + 1 by omega]
    have only : ∀ i, i ∈ Region.ready .any l.toArray listed → i = m := by
      intro i hi
      obtain ⟨h0, oi, hoi, hall⟩ := mem_ready.1 hi
      have hi' := (Array.getElem?_eq_some_iff.1 hoi).1
      have hi2 : i < l.length := by simpa using hi'
      have h1 := getD_true_of h0
      rw [hl i hi2] at h1
      simp at h1
      rcases Nat.lt_or_ge m i with hlt | hge
      · exfalso
        obtain ⟨o', ho', e, he, hb, hon⟩ := ok.chain (i - 1) (by omega) (by simp; omega)
        rw [show i - 1 + 1 = i by omega] at ho'
        rw [hoi] at ho'
        cases ho'
        have := hall e he hb
        rw [hon, hl (i - 1) (by omega)] at this
        simp at this
        omega
      · omega
    refine ⟨fun hnil => ?_, fun i hi => ?_⟩
    · exfalso
      have : m ∈ Region.ready .any l.toArray listed := by
        refine mem_ready.2 ⟨?_, o, by simpa using hom, fun e he hb => ?_⟩
        · have := hl m hmlt
          simp at this
          simp [hsz, hmlt] at this ⊢
          exact this
        · have := ok.edge m o (by simpa using hom) e he
          rw [hl _ (by omega)]
          simpa using this
      rw [hnil] at this
      cases this
    · have := only i hi
      subst this
      unfold wpOp
      have ho' : l.toArray[i]? = some o := by simpa using hom
      simp only [ho']
      have hnext : ∀ (a' : Act) (w' : World), wpList P l.toArray Q r a' w' → wpAny P .any l.toArray Q (r.length + x) (listed.setIfInBounds i true) a' w' := by
        intro a' w' h'
        refine ih (i + 1) _ a' w' hrr (by omega) (by omega) (by simpa using hsz) (fun k hk => ?_) h'
        by_cases hki : i = k
        · subst hki
          simp [hsz, hmlt]
        · rw [getD_set_ne false hki, hl k hk]
          by_cases hlt : k < i
          · simp [hlt]; omega
          · simp [hlt]; omega
      unfold wpList at h
      split
      · rename_i hw
        rw [if_pos hw] at h
        exact h.imp (Oper.wp_mono hnext) id
      · rename_i hw
        rw [if_neg hw] at h
        exact hnext _ _ h

/-- What holds of the listed ones while the head is under way: closed under waiting; none of the tail. -/
structure HeadIs (l : List Oper) (n : Nat) (listed : Array Bool) : Prop where
  size : listed.size = l.length
  closed : ∀ (k : Nat) (o : Oper), l[k]? = some o → listed.getD k false = true → ∀ e ∈ o.after, Region.binds .any e = true → listed.getD e.on false = true
  tail : ∀ t, n ≤ t → t < l.length → listed.getD t false = false

theorem take_get {i : Nat} (h : i < n) : (l.take n).toArray[i]? = l.toArray[i]? := by simp [h]
theorem take_get' {i : Nat} {o : Oper} (h : (l.take n).toArray[i]? = some o) : i < n ∧ l.toArray[i]? = some o := by
  have : i < n := by
    have := (Array.getElem?_eq_some_iff.1 h).1
    simp at this; omega
  exact ⟨this, by rw [← take_get this]; exact h⟩

theorem yielded_take {g : Nat} (hg : g < n) (tmps : Array Value) : yielded (l.take n).toArray tmps g = yielded l.toArray tmps g := by
  unfold yielded
  rw [take_get hg]

theorem wanted_take (ok : TailOk l.toArray n) {i : Nat} {o : Oper} (hi : i < n) (ho : l.toArray[i]? = some o) (tmps : Array Value) : Region.wanted o (yielded (l.take n).toArray tmps) = Region.wanted o (yielded l.toArray tmps) := by
  unfold Region.wanted
  cases hg : o.guard with
  | none => rfl
  | some g =>
    obtain ⟨g, b⟩ := g
    have := ok.guard i o _ ho hg
    simp only [yielded_take (l := l) (n := n) (g := g) (by omega)]

/-- Nothing of the head may come up any more: all of it is listed. -/
theorem head_done (ok : TailOk l.toArray n) {listed : Array Bool} (hs : listed.size = l.length) (h : Region.ready .any (l.take n).toArray listed = []) : ∀ i, i < n → listed.getD i false = true := by
  have hn : n < l.length := by simpa using ok.lt
  intro i
  induction i using Nat.strongRecOn with
  | _ i ih =>
    intro hi
    cases hb : listed.getD i false with
    | true => rfl
    | false =>
      exfalso
      have ho : l.toArray[i]? = some (l[i]'(by omega)) := by simp [show i < l.length by omega]
      have : i ∈ Region.ready .any (l.take n).toArray listed := by
        refine mem_ready.2 ⟨?_, l[i]'(by omega), by rw [take_get hi]; exact ho, fun e he hbi => ?_⟩
        · have hlt : i < listed.size := by omega
          simp [hlt] at hb ⊢
          exact hb
        · have := ok.edge i _ ho e he
          exact ih e.on (by omega) (by omega)
      rw [h] at this
      cases this

/-- One of the tail may come up only when the head is listed whole. -/
theorem tail_ready (ok : TailOk l.toArray n) {listed : Array Bool} (H : HeadIs l n listed) {i : Nat} (hi : i ∈ Region.ready .any l.toArray listed) (hni : n ≤ i) : ∀ j, j < n → listed.getD j false = true := by
  have hn : n < l.length := by simpa using ok.lt
  obtain ⟨h0, o, ho, hall⟩ := mem_ready.1 hi
  have hil : i < l.length := by have := (Array.getElem?_eq_some_iff.1 ho).1; simpa using this
  have hin : i = n := by
    rcases Nat.lt_or_ge n i with hlt | hge
    · exfalso
      obtain ⟨o', ho', e, he, hb, hon⟩ := ok.chain (i - 1) (by omega) (by simp; omega)
      rw [show i - 1 + 1 = i by omega, ho] at ho'
      cases ho'
      have h1 := hall e he hb
      rw [hon, H.tail (i - 1) (by omega) (by omega)] at h1
      cases h1
    · omega
  subst hin
  intro j
  induction hd : i - j using Nat.strongRecOn generalizing j with
  | _ d ih =>
    intro hj
    obtain ⟨k, ok', hjk, hki, hok, e, he, hb, hon⟩ := ok.head j hj
    rcases Nat.lt_or_ge k i with hlt | hge
    · have hk := ih (i - k) (by omega) k rfl hlt
      have := H.closed k ok' (by simpa using hok) hk e he hb
      rwa [hon] at this
    · have : k = i := by omega
      subst this
      rw [ho] at hok
      cases hok
      have := hall e he hb
      rwa [hon] at this

theorem head_start : HeadIs l n (Array.replicate l.length false) :=
  ⟨by simp, fun k o ho h => by
    have hk : k < l.length := (List.getElem?_eq_some_iff.1 ho).1
    simp [hk] at h, fun t _ ht => by simp [ht]⟩

theorem head_set {listed : Array Bool} (H : HeadIs l n listed) {i : Nat} (hi : i ∈ Region.ready .any l.toArray listed) (hin : i < n) : HeadIs l n (listed.setIfInBounds i true) := by
  obtain ⟨h0, o, ho, hall⟩ := mem_ready.1 hi
  refine ⟨by simpa using H.size, fun k o' ho' hk e he hb => ?_, fun t ht htl => ?_⟩
  · by_cases hik : i = k
    · subst hik
      have : o' = o := by
        have h2 : l[i]? = some o := by simpa using ho
        rw [h2] at ho'; cases ho'; rfl
      subst this
      exact getD_set_true (hall e he hb)
    · rw [getD_set_ne false hik] at hk
      exact getD_set_true (H.closed k o' ho' hk e he hb)
  · rw [getD_set_ne false (show i ≠ t by omega)]
    exact H.tail t ht htl

theorem tail_bridge (ok : TailOk l.toArray n) :
    ∀ (f : Nat) (listed : Array Bool) (a : Act) (w : World), C w → HeadIs l n listed →
      wpAnyQ P .any (l.take n).toArray C (fun a' => ∀ w', C w' → wpList P l.toArray Q (l.drop n) a' w') f listed a →
      wpAny P .any l.toArray Q (f + (l.length - n)) listed a w := by
  have hn : n < l.length := by simpa using ok.lt
  have done : ∀ (f : Nat) (listed : Array Bool) (a : Act) (w : World), C w → HeadIs l n listed → Region.ready .any (l.take n).toArray listed = [] → (∀ w', C w' → wpList P l.toArray Q (l.drop n) a w') →
      wpAny P .any l.toArray Q (f + (l.length - n)) listed a w := by
    intro f listed a w hw H hr hq
    have hd := head_done ok H.size hr
    have := tail_seq (P := P) (Q := Q) ok f (l.drop n) n listed a w rfl (Nat.le_refl _) (by omega) H.size (fun i hi => by
      by_cases hin : i < n
      · rw [hd i hin]; simp [hin]
      · rw [H.tail i (by omega) hi]; simp [hin]) (hq w hw)
    rwa [List.length_drop, Nat.add_comm] at this
  intro f
  induction f with
  | zero =>
    intro listed a w hw H h
    exact done 0 listed a w hw H h.1 h.2
  | succ f ih =>
    intro listed a w hw H h
    by_cases hr : Region.ready .any (l.take n).toArray listed = []
    · exact done (f + 1) listed a w hw H hr (h.1 hr)
    · rw [show f + 1 + (l.length - n) = (f + (l.length - n)) + 1 by omega]
      have some_head : ∃ j, j ∈ Region.ready .any (l.take n).toArray listed := by
        cases hc : Region.ready .any (l.take n).toArray listed with
        | nil => exact absurd hc hr
        | cons j _ => exact ⟨j, by simp⟩
      obtain ⟨j, hj⟩ := some_head
      obtain ⟨hj0, oj, hoj, hjall⟩ := mem_ready.1 hj
      obtain ⟨hjn, hoj'⟩ := take_get' hoj
      have hjr : j ∈ Region.ready .any l.toArray listed := mem_ready.2 ⟨hj0, oj, hoj', hjall⟩
      refine ⟨(fun hnil => by rw [hnil] at hjr; cases hjr), fun i hi => ?_⟩
      have hin : i < n := by
        rcases Nat.lt_or_ge i n with h' | h'
        · exact h'
        · exfalso
          have := tail_ready ok H hi h' j hjn
          rw [getD_true_of hj0] at this
          cases this
      obtain ⟨h0, o, ho, hall⟩ := mem_ready.1 hi
      have hir : i ∈ Region.ready .any (l.take n).toArray listed := mem_ready.2 ⟨h0, o, by rw [take_get hin]; exact ho, hall⟩
      have hq := h.2 i hir
      have H' := head_set H hi hin
      unfold qOp at hq
      rw [take_get hin] at hq
      unfold wpOp
      simp only [ho] at hq ⊢
      rw [wanted_take ok hin ho] at hq
      split
      · rename_i hw'
        rw [if_pos hw'] at hq
        exact .inl (Oper.wp_of_quiet hw (fun a' w' hw'' h' => ih _ a' w' hw'' H' h') hq)
      · rename_i hw'
        rw [if_neg hw'] at hq
        exact ih _ _ w hw H' hq

/-- **One walk of the text's order serves every order**: the first n operations quiet in the class C, the rest in one forced order, from any world of the class. -/
theorem wp_region_tail {id : Nat} {a : Act} {w : World} (n : Nat) (hm : P.follows .mixedOrders = true) (ht : tailB l.toArray n = true) (hB : Region.noSelect (l.take n).toArray = true)
    (hL : Region.lexFrom .any (l.take n).toArray n 0 (Array.replicate l.length false) = true) (hC : C { w with drawn := w.drawn + 1 })
    (h : wpQuiet P (l.take n).toArray C (fun a' => ∀ w', C w' → wpList P l.toArray Q (l.drop n) a' w') (l.take n) a) : (Code.region id l.toArray true).wp P Q a w := by
  have ok := tailOk_of ht
  have hn : n < l.length := by simpa using ok.lt
  have htl : (l.take n).length = n := by simp; omega
  refine wp_region_any hm ?_
  have h1 := wpAnyQ_lex (C := C) (md := .any) (ops := (l.take n).toArray) hB (l.take n) 0 (Array.replicate l.length false) a (by simp) (by rw [htl]; exact hL) h
  have h2 := tail_bridge (P := P) (Q := Q) (C := C) ok _ _ _ _ hC head_start h1
  rw [htl, show n + (l.length - n) = l.length by omega] at h2
  simpa using h2

/-- .. in the class of the worlds that have only grown. -/
theorem wp_region_tail_reg {id : Nat} {a : Act} {w : World} (n : Nat) (hm : P.follows .mixedOrders = true) (ht : tailB l.toArray n = true) (hB : Region.noSelect (l.take n).toArray = true)
    (hL : Region.lexFrom .any (l.take n).toArray n 0 (Array.replicate l.length false) = true)
    (h : wpQuiet P (l.take n).toArray (fun w' => ∃ p : Regrown, w' = reg w p) (fun a' => ∀ w', (∃ p : Regrown, w' = reg w p) → wpList P l.toArray Q (l.drop n) a' w') (l.take n) a) : (Code.region id l.toArray true).wp P Q a w :=
  wp_region_tail (C := fun w' => ∃ p : Regrown, w' = reg w p) n hm ht hB hL ⟨⟨w.drawn + 1, #[]⟩, by rw [reg, grow_empty]; rfl⟩ h
/-- .. in the class of the worlds that part in draws alone. -/
theorem wp_region_tail_drewN {id : Nat} {a : Act} {w : World} (n : Nat) (hm : P.follows .mixedOrders = true) (ht : tailB l.toArray n = true) (hB : Region.noSelect (l.take n).toArray = true)
    (hL : Region.lexFrom .any (l.take n).toArray n 0 (Array.replicate l.length false) = true)
    (h : wpQuiet P (l.take n).toArray (fun w' => ∃ m, w' = w.drewN m) (fun a' => ∀ w', (∃ m, w' = w.drewN m) → wpList P l.toArray Q (l.drop n) a' w') (l.take n) a) : (Code.region id l.toArray true).wp P Q a w :=
  wp_region_tail (C := fun w' => ∃ m, w' = w.drewN m) n hm ht hB hL ⟨1, rfl⟩ h
end
end Go.Proofs.YthdcmchjlpkkaaaDoor
