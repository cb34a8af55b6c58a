/- As the rule for a drawn region with a tail, for a tail of two operations whose own order is open. -/
import Derived.Test.YtgjieoljfcfacaaDoorTail
namespace Go.Proofs.YtgjieoljfcfacaaDoor
open Go.RowKit Go.Sort

/-- What the kernel is asked: each operation waits for and looks at earlier ones alone; each of the first n is waited for by a later one of these, or by each of the tail. -/
def coverB (ops : Array Oper) (n : Nat) : Bool :=
  (List.range ops.size).all (fun j => match ops[j]? with | some o => o.after.all (fun e => decide (e.on < j)) && (match o.guard with | some g => decide (g.1 < j) | none => true) | none => false) &&
  (List.range n).all (fun j => (List.range n).any (fun k => decide (j < k) && waits ops k j) || (List.range (ops.size - n)).all (fun d => waits ops (n + d) j)) && decide (n < ops.size)

structure CoverOk (ops : Array Oper) (n : Nat) : Prop where
  lt : n < ops.size
  edge : ∀ (j : Nat) (o : Oper), ops[j]? = some o → ∀ e ∈ o.after, e.on < j
  guard : ∀ (j : Nat) (o : Oper) (g : Nat × Bool), ops[j]? = some o → o.guard = some g → g.1 < j
  head : ∀ t, n ≤ t → t < ops.size → ∀ j, j < n → ∃ (k : Nat) (o : Oper), j < k ∧ (k < n ∨ k = t) ∧ ops[k]? = some o ∧ ∃ e ∈ o.after, Region.binds .any e = true ∧ e.on = j

theorem coverOk_of {ops : Array Oper} {n : Nat} (h : coverB ops n = true) : CoverOk ops n := by
  unfold coverB at h
  simp only [Bool.and_eq_true, List.all_eq_true, List.mem_range, decide_eq_true_eq] at h
  obtain ⟨⟨h1, h2⟩, h4⟩ := h
  refine ⟨h4, fun j o ho e he => ?_, fun j o g ho hg => ?_, fun t ht hts j hj => ?_⟩
  · have hj := (Array.getElem?_eq_some_iff.1 ho).1
    have := h1 j hj
    simp only [ho, Bool.and_eq_true, Array.all_eq_true_iff_forall_mem, decide_eq_true_eq] at this
    exact this.1 e he
  · have hj := (Array.getElem?_eq_some_iff.1 ho).1
    have := h1 j hj
    simp only [ho, hg, Bool.and_eq_true, decide_eq_true_eq] at this
    exact this.2
  · have := h2 j hj
    rw [Bool.or_eq_true] at this
    rcases this with h' | h'
    · rw [List.any_eq_true] at h'
      obtain ⟨k, hk, hw⟩ := h'
      simp only [List.mem_range, Bool.and_eq_true, decide_eq_true_eq] at hk hw
      obtain ⟨o, ho, he⟩ := waits_spec hw.2
      exact ⟨k, o, hw.1, .inl hk, ho, he⟩
    · rw [List.all_eq_true] at h'
      have := h' (t - n) (by simp; omega)
      rw [show n + (t - n) = t by omega] at this
      obtain ⟨o, ho, he⟩ := waits_spec this
      exact ⟨t, o, by omega, .inr rfl, ho, he⟩

section
variable {P : Program} {C : World → Prop} {Q : Exit → Act → World → Prop} {l : List Oper} {n : Nat}

theorem wpAny_more : ∀ (f : Nat) (listed : Array Bool) (a : Act) (w : World), wpAny P .any l.toArray Q f listed a w → wpAny P .any l.toArray Q (f + 1) listed a w
  | 0, listed, a, w, h => ⟨fun _ => h.2, fun i hi => by rw [h.1] at hi; cases hi⟩
  | f + 1, listed, a, w, h => ⟨h.1, fun i hi => wpOp_mono (fun a' w' h' => wpAny_more f _ a' w' h') (h.2 i hi)⟩
theorem wpAny_more' (x : Nat) {f : Nat} {listed : Array Bool} {a : Act} {w : World} (h : wpAny P .any l.toArray Q f listed a w) : wpAny P .any l.toArray Q (x + f) listed a w := by
  induction x with
  | zero => rwa [Nat.zero_add]
  | succ x ih => rw [show x + 1 + f = (x + f) + 1 by omega]; exact wpAny_more _ _ _ _ ih

theorem cover_ready (ok : CoverOk l.toArray n) {listed : Array Bool} (H : HeadIs l n listed) {i : Nat} (hi : i ∈ Region.ready .any l.toArray listed) (hni : n ≤ i) : ∀ j, j < n → listed.getD j false = true := by
  obtain ⟨h0, o, ho, hall⟩ := mem_ready.1 hi
  have hil : i < l.toArray.size := (Array.getElem?_eq_some_iff.1 ho).1
  intro j
  induction hd : n - j using Nat.strongRecOn generalizing j with
  | _ d ih =>
    intro hj
    obtain ⟨k, ok', hjk, hki, hok, e, he, hb, hon⟩ := ok.head i hni hil j hj
    rcases hki with hlt | hge
    · have hk := ih (n - k) (by omega) k rfl hlt
      have := H.closed k ok' (by simpa using hok) hk e he hb
      rwa [hon] at this
    · subst hge
      rw [ho] at hok
      cases hok
      have := hall e he hb
      rwa [hon] at this

theorem cover_done (ok : CoverOk l.toArray n) {listed : Array Bool} (hs : listed.size = l.length) (h : Region.ready .any (l.take n).toArray listed = []) : ∀ i, i < n → listed.getD i false = true := by
  have hn : n < l.length := by simpa using ok.lt
  intro i
  induction i using Nat.strongRecOn with
  | _ i ih =>
    intro hi
    cases hb : listed.getD i false with
    | true => rfl
    | false =>
      exfalso
      have ho : l.toArray[i]? = some (l[i]'(by omega)) := by simp [show i < l.length by omega]
      have : i ∈ Region.ready .any (l.take n).toArray listed := by
        refine mem_ready.2 ⟨?_, l[i]'(by omega), by rw [take_get hi]; exact ho, fun e he hbi => ?_⟩
        · have hlt : i < listed.size := by omega
          simp [hlt] at hb ⊢
          exact hb
        · have := ok.edge i _ ho e he
          exact ih e.on (by omega) (by omega)
      rw [h] at this
      cases this

theorem cover_wanted (ok : CoverOk l.toArray n) {i : Nat} {o : Oper} (hi : i < n) (ho : l.toArray[i]? = some o) (tmps : Array Value) : Region.wanted o (yielded (l.take n).toArray tmps) = Region.wanted o (yielded l.toArray tmps) := by
  unfold Region.wanted
  cases hg : o.guard with
  | none => rfl
  | some g =>
    obtain ⟨g, b⟩ := g
    have := ok.guard i o _ ho hg
    simp only [yielded_take (l := l) (n := n) (g := g) (by omega)]

/-- The head listed whole, nothing of the tail. -/
def headL (n m : Nat) : Array Bool := Array.replicate n true ++ Array.replicate m false

theorem headL_eq {listed : Array Bool} (hn : n ≤ l.length) (hs : listed.size = l.length) (h1 : ∀ i, i < n → listed.getD i false = true) (h2 : ∀ t, n ≤ t → t < l.length → listed.getD t false = false) : listed = headL n (l.length - n) := by
  apply Array.ext
  · simp [headL, hs]; omega
  · intro i hi hi2
    by_cases hin : i < n
    · have := h1 i hin
      simp [hi] at this
      simp [headL, hin, this]
    · have := h2 i (by omega) (by omega)
      simp [hi] at this
      simp [headL, Array.getElem_append, hin, this]

theorem cover_bridge (ok : CoverOk l.toArray n) :
    ∀ (f : Nat) (listed : Array Bool) (a : Act) (w : World), C w → HeadIs l n listed →
      wpAnyQ P .any (l.take n).toArray C (fun a' => ∀ w', C w' → wpAny P .any l.toArray Q (l.length - n) (headL n (l.length - n)) a' w') f listed a →
      wpAny P .any l.toArray Q (f + (l.length - n)) listed a w := by
  have hn : n < l.length := by simpa using ok.lt
  have done : ∀ (f : Nat) (listed : Array Bool) (a : Act) (w : World), C w → HeadIs l n listed → Region.ready .any (l.take n).toArray listed = [] → (∀ w', C w' → wpAny P .any l.toArray Q (l.length - n) (headL n (l.length - n)) a w') →
      wpAny P .any l.toArray Q (f + (l.length - n)) listed a w := by
    intro f listed a w hw H hr hq
    have hd := cover_done ok H.size hr
    rw [headL_eq (by omega) H.size hd H.tail]
    exact wpAny_more' f (hq w hw)
  intro f
  induction f with
  | zero =>
    intro listed a w hw H h
    exact done 0 listed a w hw H h.1 h.2
  | succ f ih =>
    intro listed a w hw H h
    by_cases hr : Region.ready .any (l.take n).toArray listed = []
    · exact done (f + 1) listed a w hw H hr (h.1 hr)
    · rw [show f + 1 + (l.length - n) = (f + (l.length - n)) + 1 by omega]
      have some_head : ∃ j, j ∈ Region.ready .any (l.take n).toArray listed := by
        cases hc : Region.ready .any (l.take n).toArray listed with
        | nil => exact absurd hc hr
        | cons j _ => exact ⟨j, by simp⟩
      obtain ⟨j, hj⟩ := some_head
      obtain ⟨hj0, oj, hoj, hjall⟩ := mem_ready.1 hj
      obtain ⟨hjn, hoj'⟩ := take_get' hoj
      have hjr : j ∈ Region.ready .any l.toArray listed := mem_ready.2 ⟨hj0, oj, hoj', hjall⟩
      refine ⟨(fun hnil => by rw [hnil] at hjr; cases hjr), fun i hi => ?_⟩
      have hin : i < n := by
        rcases Nat.lt_or_ge i n with h' | h'
        · exact h'
        · exfalso
          have := cover_ready ok H hi h' j hjn
          rw [getD_true_of hj0] at this
          cases this
      obtain ⟨h0, o, ho, hall⟩ := mem_ready.1 hi
      have hir : i ∈ Region.ready .any (l.take n).toArray listed := mem_ready.2 ⟨h0, o, by rw [take_get hin]; exact ho, hall⟩
      have hq := h.2 i hir
      have H' := head_set H hi hin
      unfold qOp at hq
      rw [take_get hin] at hq
      unfold wpOp
      simp only [ho] at hq ⊢
      rw [cover_wanted ok hin ho] at hq
      split
      · rename_i hw'
        rw [if_pos hw'] at hq
        exact .inl (Oper.wp_of_quiet hw (fun a' w' hw'' h' => ih _ a' w' hw'' H' h') hq)
      · rename_i hw'
        rw [if_neg hw'] at hq
        exact ih _ _ w hw H' hq

/-- Two operations in whichever order: both orders are walked. -/
theorem wpAny_two {x y : Oper} (hx : l[n]? = some x) (hy : l[n + 1]? = some y) (h0 : Region.ready .any l.toArray (headL n 2) = [n, n + 1])
    (h1 : Region.ready .any l.toArray ((headL n 2).setIfInBounds n true) = [n + 1]) (h2 : Region.ready .any l.toArray ((headL n 2).setIfInBounds (n + 1) true) = [n])
    (h3 : Region.ready .any l.toArray (((headL n 2).setIfInBounds n true).setIfInBounds (n + 1) true) = []) {a : Act} {w : World}
    (hxy : wpList P l.toArray Q [x, y] a w) (hyx : wpList P l.toArray Q [y, x] a w) : wpAny P .any l.toArray Q 2 (headL n 2) a w := by
  have h4 : Region.ready .any l.toArray (((headL n 2).setIfInBounds (n + 1) true).setIfInBounds n true) = [] := by
    rw [Array.setIfInBounds_comm _ _ (by omega)]; exact h3
  have one : ∀ (i : Nat) (o : Oper) (K : Act → World → Prop) (rest : List Oper) (a' : Act) (w' : World), l[i]? = some o → (∀ a w, wpList P l.toArray Q rest a w → K a w) → wpList P l.toArray Q (o :: rest) a' w' → wpOp P l.toArray Q i K a' w' := by
    intro i o K rest a' w' ho hK h
    unfold wpOp
    have ho' : l.toArray[i]? = some o := by simpa using ho
    simp only [ho']
    unfold wpList at h
    split
    · rename_i hw
      rw [if_pos hw] at h
      exact h.imp (Oper.wp_mono hK) id
    · rename_i hw
      rw [if_neg hw] at h
      exact hK _ _ h
  refine ⟨(fun hnil => by rw [h0] at hnil; cases hnil), fun i hi => ?_⟩
  rw [h0] at hi
  rcases List.mem_cons.1 hi with rfl | hi
  · refine one i x _ [y] a w hx (fun a w h => ?_) hxy
    refine ⟨(fun hnil => by rw [h1] at hnil; cases hnil), fun j hj => ?_⟩
    rw [h1] at hj
    obtain rfl : j = i + 1 := by simpa using hj
    exact one _ y _ [] a w hy (fun a w h => ⟨h3, h⟩) h
  · obtain rfl : i = n + 1 := by simpa using hi
    refine one _ y _ [x] a w hy (fun a w h => ?_) hyx
    refine ⟨(fun hnil => by rw [h2] at hnil; cases hnil), fun j hj => ?_⟩
    rw [h2] at hj
    obtain rfl : j = n := by simpa using hj
    exact one _ x _ [] a w hx (fun a w h => ⟨h4, h⟩) h

def twoB (l : List Oper) (n : Nat) : Bool :=
  decide (l.length = n + 2) && decide (Region.ready .any l.toArray (headL n 2) = [n, n + 1]) && decide (Region.ready .any l.toArray ((headL n 2).setIfInBounds n true) = [n + 1]) &&
  decide (Region.ready .any l.toArray ((headL n 2).setIfInBounds (n + 1) true) = [n]) && decide (Region.ready .any l.toArray (((headL n 2).setIfInBounds n true).setIfInBounds (n + 1) true) = [])

/-- The first n operations quiet in the class C; then two in whichever order: both orders are walked, from any world of the class. -/
theorem wp_region_two {id : Nat} {a : Act} {w : World} (n : Nat) (x y : Oper) (hx : l[n]? = some x) (hy : l[n + 1]? = some y) (hm : P.follows .mixedOrders = true) (hc : coverB l.toArray n = true) (ht : twoB l n = true) (hB : Region.noSelect (l.take n).toArray = true)
    (hL : Region.lexFrom .any (l.take n).toArray n 0 (Array.replicate l.length false) = true) (hC : C { w with drawn := w.drawn + 1 })
    (h : wpQuiet P (l.take n).toArray C (fun a' => ∀ w', C w' → wpList P l.toArray Q [x, y] a' w' ∧ wpList P l.toArray Q [y, x] a' w') (l.take n) a) : (Code.region id l.toArray true).wp P Q a w := by
  have ok := coverOk_of hc
  have hn : n < l.length := by simpa using ok.lt
  have htl : (l.take n).length = n := by simp; omega
  unfold twoB at ht
  simp only [Bool.and_eq_true, decide_eq_true_eq] at ht
  obtain ⟨⟨⟨⟨hlen, t0⟩, t1⟩, t2⟩, t3⟩ := ht
  have hm2 : l.length - n = 2 := by omega
  refine wp_region_any hm ?_
  have h1 := wpAnyQ_lex (C := C) (md := .any) (ops := (l.take n).toArray) hB (l.take n) 0 (Array.replicate l.length false) a (by simp) (by rw [htl]; exact hL) h
  have h1' : wpAnyQ P .any (l.take n).toArray C (fun a' => ∀ w', C w' → wpAny P .any l.toArray Q (l.length - n) (headL n (l.length - n)) a' w') (l.take n).length (Array.replicate l.length false) a := by
    rw [hm2]
    have mono : ∀ (f : Nat) (listed : Array Bool) (a : Act), wpAnyQ P .any (l.take n).toArray C (fun a' => ∀ w', C w' → wpList P l.toArray Q [x, y] a' w' ∧ wpList P l.toArray Q [y, x] a' w') f listed a →
        wpAnyQ P .any (l.take n).toArray C (fun a' => ∀ w', C w' → wpAny P .any l.toArray Q 2 (headL n 2) a' w') f listed a := by
      intro f
      induction f with
      | zero => intro listed a h; exact ⟨h.1, fun w' hw' => wpAny_two hx hy t0 t1 t2 t3 (h.2 w' hw').1 (h.2 w' hw').2⟩
      | succ f ih => intro listed a h; exact ⟨fun hr w' hw' => wpAny_two hx hy t0 t1 t2 t3 (h.1 hr w' hw').1 (h.1 hr w' hw').2, fun i hi => qOp_mono (fun a h => ih _ a h) (h.2 i hi)⟩
    exact mono _ _ _ h1
  have h2 := cover_bridge (P := P) (Q := Q) (C := C) ok _ _ _ _ hC head_start h1'
  rw [htl, show n + (l.length - n) = l.length by omega] at h2
  simpa using h2

theorem wp_region_two_reg {id : Nat} {a : Act} {w : World} (n : Nat) (x y : Oper) (hx : l[n]? = some x) (hy : l[n + 1]? = some y) (hm : P.follows .mixedOrders = true) (hc : coverB l.toArray n = true) (ht : twoB l n = true) (hB : Region.noSelect (l.take n).toArray = true)
    (hL : Region.lexFrom .any (l.take n).toArray n 0 (Array.replicate l.length false) = true)
    (h : wpQuiet P (l.take n).toArray (fun w' => ∃ p : Regrown, w' = reg w p) (fun a' => ∀ w', (∃ p : Regrown, w' = reg w p) → wpList P l.toArray Q [x, y] a' w' ∧ wpList P l.toArray Q [y, x] a' w') (l.take n) a) : (Code.region id l.toArray true).wp P Q a w :=
  wp_region_two (C := fun w' => ∃ p : Regrown, w' = reg w p) n x y hx hy hm hc ht hB hL ⟨⟨w.drawn + 1, #[]⟩, by rw [reg, grow_empty]; rfl⟩ h
theorem wp_region_two_drewN {id : Nat} {a : Act} {w : World} (n : Nat) (x y : Oper) (hx : l[n]? = some x) (hy : l[n + 1]? = some y) (hm : P.follows .mixedOrders = true) (hc : coverB l.toArray n = true) (ht : twoB l n = true) (hB : Region.noSelect (l.take n).toArray = true)
    (hL : Region.lexFrom .any (l.take n).toArray n 0 (Array.replicate l.length false) = true)
    (h : wpQuiet P (l.take n).toArray (fun w' => ∃ m, w' = w.drewN m) (fun a' => ∀ w', (∃ m, w' = w.drewN m) → wpList P l.toArray Q [x, y] a' w' ∧ wpList P l.toArray Q [y, x] a' w') (l.take n) a) : (Code.region id l.toArray true).wp P Q a w :=
  wp_region_two (C := fun w' => ∃ m, w' = w.drewN m) n x y hx hy hm hc ht hB hL ⟨1, rfl⟩ h
end
end Go.Proofs.YtgjieoljfcfacaaDoor
