/- A range over a function, walked at the plain walk's own words: the one who goes over says what holds between two rounds; the function says of each thing that it hands over what it will. -/
import Derived.Test.YthdcmchjlpkkaaaDoorChg
import Derived.RangeFuncNested
import Derived.RangeFuncBound
import Derived.RangeFuncCalls
import Derived.RangeFuncLeaves
import Derived.Shelf.Abstract
import Derived.Shelf.RegionOpen
import Derived.OwnWalkIn
import Derived.TacticsInMore
import Derived.LoopNIn
import Derived.LoopIn
namespace Go.Proofs.YthdcmchjlpkkaaaDoor
open Go.RowKit Go.Sort

/-- B is A, but for blocks from n on that hold no cells, and new ones. -/
def Rec (n : Nat) (A B : World) : Prop := Chg (fun k => n ≤ k ∧ ∃ o : Obj, A.heap[k]? = some o ∧ o.isCells = false) A B
theorem Rec.grows {n : Nat} {A B : World} (h : Grows A B) : Rec n A B := Chg.ofGrows h
theorem Rec.refl (n : Nat) (A : World) : Rec n A A := Chg.refl _ _
theorem Rec.put {n l : Nat} {A : World} {o : Obj} (o' : Obj) (hn : n ≤ l) (hl : A.heap[l]? = some o) (ho : o.isCells = false) : Rec n A (A.putObj l o') :=
  ⟨rfl, rfl, rfl, by simp, fun k _ hk => World.putObj_heap_other (fun e => hk (by subst e; exact ⟨hn, o, hl, ho⟩))⟩
/-- A block of cells stays. -/
theorem Rec.at {n k : Nat} {A B : World} (h : Rec n A B) {cs : Array Value} {t : TypeId} {m : Nat × Nat} (hk : A.heap[k]? = some (.cells cs t m)) : B.heap[k]? = some (.cells cs t m) := by
  rw [h.block k (Array.getElem?_eq_some_iff.1 hk).1 (fun hs => ?_), hk]
  obtain ⟨_, o, ho, hc⟩ := hs
  rw [hk] at ho
  cases ho
  cases hc
/-- A cell stays. -/
theorem Rec.cell1 {n : Nat} {A B : World} (h : Rec n A B) {p : Addr} {v : Value} (hc : A.cell? p = some v) : B.cell? p = some v := by
  obtain ⟨o, ho, hcs⟩ := cells_of_cell hc
  rw [World.cell?_of_block (h.block _ (Array.getElem?_eq_some_iff.1 ho).1 (fun hs => ?_))]
  · exact hc
  · obtain ⟨_, o', ho', hc'⟩ := hs
    rw [ho] at ho'
    cases ho'
    rw [hcs] at hc'
    cases hc'
theorem Rec.below {n : Nat} {A B w : World} (h : Rec n A B) {b : Nat} (hw : Below b w A) (hb : b ≤ w.heap.size) (hn : b ≤ n) : Below b w B :=
  hw.trans (h.toBelow (Nat.le_trans hb hw.size) (fun k hk hs => by have := hs.1; omega))
theorem Rec.own {n : Nat} {A B : World} (h : Rec n A B) {base : Nat} {e : TypeId} {size : Nat} {v : Value} {m : Nat} {xs : List Value} (ho : A.ownsRow base e size v m xs) : B.ownsRow base e size v m xs := by
  refine ⟨ho.1, ?_⟩
  rcases ho.2 with hn | ⟨g, cap, cur, rfl, hb, hgg, rest⟩
  · exact .inl hn
  · exact .inr ⟨g, cap, cur, rfl, hb, h.at hgg, rest⟩

/-- How a round may be left. -/
def roundLeft {α : Type} (S : Nat → Prop) (I : List α → World → Prop) (Ix : Code → List α → World → Prop) (xs : List α) (W : World) : Exit → Act → World → Prop
  | .normal, _, W' => Chg S W W' ∧ I xs W'
  | .ret, _, W' => Chg S W W' ∧ Ix .ret xs W'
  | .exit id, _, W' => Chg S W W' ∧ Ix (.exit id) xs W'
  | .goto t, _, W' => Chg S W W' ∧ Ix (.goto t) xs W'
  | .panic _, _, _ => False
  | .outgrown, _, _ => False

/-- What is asked of the function that is ranged over: with each round it may know what holds between two rounds; of each thing that it hands over it says G; the rounds done, T holds of all. -/
def Tells {α : Type} (P : Program) (gf : FuncId) (lb : Array Value) (enc : α → Value) (I : List α → World → Prop) (G : List α → α → World → Prop) (T : List α → Prop) (w : World) : Prop :=
  ∀ (l : Nat) (J Jx : List α → World → Prop) (W : World), Grows w W → (∀ s A, J s A → I s A) → (∀ s A B, J s A → Grows A B → J s B) → (∀ s A B, Jx s A → Grows A B → Jx s B) →
    (∀ pre x W1, J pre W1 → G pre x W1 → YieldAt Fence.wide 8 P l #[enc x] W1 fun e W' => (e = .returned (.bool true) ∧ J (pre ++ [x]) W') ∨ (e = .returned (.bool false) ∧ Jx (pre ++ [x]) W')) →
    J [] W → CallsIn Fence.wide 9 P gf (#[.func (.yield l) #[] #[]] ++ lb) W fun e W' => (∃ v, e = .returned v) ∧ ((∃ xs, T xs ∧ J xs W') ∨ ∃ pre, Jx pre W')

theorem wp_range {α : Type} {P : Program} {g : Operand} {ps : Array Tmp} {assign body : Code} {Q : Exit → Act → World → Prop} {a : Act} {w : World} {gf : Nat} {lb : Array Value}
    (hg : a.eval g = .func (.func gf) #[] lb) (eg : ∀ args w, (callFunc gf args).run P w = .ok (.enter gf args) w) (enc : α → Value) (hps : ps.size = 1)
    (S : Nat → Prop) (hS : ∀ k, S k → k < w.heap.size) (I : List α → World → Prop) (G : List α → α → World → Prop) (Ix : Code → List α → World → Prop) (T : List α → Prop)
    (hI : ∀ s A B, I s A → Rec w.heap.size A B → I s B) (hIx : ∀ c s A B, Ix c s A → Rec w.heap.size A B → Ix c s B) (h0 : I [] w) (hiter : Tells P gf lb enc I G T w)
    (hround : ∀ l pre x W, w.heap.size ≤ l → l < W.heap.size → I pre W → G pre x W → assign.wpIn (Fence.wide.inRound l) 8 P
      (Exit.then (fun a1 W1 => Grows W W1 ∧ ∀ W2, Rec w.heap.size W1 W2 → body.wpIn (Fence.wide.inRound l) 8 P (roundLeft S I Ix (pre ++ [x]) W2) a1 W2) (fun _ _ _ => False))
      { tmps := (ps.zip #[enc x]).foldl (fun t (p, v) => t.setIfInBounds p v) a.tmps, defers := [] } W)
    (hdone : ∀ D xs W, w.heap.size ≤ D → T xs → I xs W → W.heap[D]? = some (.deferred (some [])) → Q .normal { a with defers := { target := .collected D, args := #[] } :: a.defers } W)
    (hstop : ∀ D c pre W, w.heap.size ≤ D → Ix c pre W → W.heap[D]? = some (.deferred (some [])) → c.wp P Q { a with defers := { target := .collected D, args := #[] } :: a.defers } W) :
    (Code.rangeFunc g ps assign body).wp P Q a w := by
  refine (wpIn_wide (n := 9)).1 (wpIn_rangeFunc fun fn hfn => ?_)
  have hro : Fence.wide.round = none := rfl
  rw [hro]
  -- the loop's record, by its state and the jump that waits
  obtain ⟨rc, hrc⟩ : ∃ rc : LoopState → Option Code → Loop, rc = fun st pe => { state := st, pending := pe, fn, tmps := a.tmps, params := ps, assign, body, defers := w.heap.size } := ⟨_, rfl⟩
  obtain ⟨W1, hW1⟩ : ∃ W1, (w.alloc (.deferred (some []))).alloc (.loop (rc .ready none)) = W1 := ⟨_, rfl⟩
  have hg1 : Grows w W1 := by rw [← hW1]; exact bl_alloc (bl_alloc (Below.refl _ _) _) _
  have hL1 : W1.heap[w.heap.size + 1]? = some (.loop (rc .ready none)) := by
    rw [← hW1]; have := World.alloc_heap_new (w.alloc (.deferred (some []))) (.loop (rc .ready none)); rwa [World.size_alloc] at this
  have hD1 : W1.heap[w.heap.size]? = some (.deferred (some [])) := by
    rw [← hW1]; exact (Below.heap_alloc _ _ _ (by simp)).trans (World.alloc_heap_new w _)
  obtain ⟨L, eL⟩ : ∃ L, w.heap.size + 1 = L := ⟨_, rfl⟩
  have hwL : w.heap.size ≤ L := by omega
  have hDL : w.heap.size ≠ L := by omega
  rw [eL] at hL1
  have hSL : ¬ S L := fun h => by have := hS _ h; omega
  have hSD : ¬ S w.heap.size := fun h => by have := hS _ h; omega
  -- both blocks stay where nothing of the sort is turned
  have keep : ∀ {A B : World} {k : Nat} {o : Obj} {U : Nat → Prop}, Chg U A B → ¬ U k → A.heap[k]? = some o → B.heap[k]? = some o := fun hc hu hk => by
    rw [hc.block _ (Array.getElem?_eq_some_iff.1 hk).1 hu]; exact hk
  have keepg : ∀ {A B : World} {k : Nat} {o : Obj}, Grows A B → A.heap[k]? = some o → B.heap[k]? = some o := fun hc hk => keep (Chg.ofGrows (S := fun _ => False) hc) (fun h => h) hk
  refine ⟨L, [{ target := .collected w.heap.size, args := #[] }], W1, { target := .fn (.func gf) lb, args := #[.func (.yield L) #[] #[]] }, W1, gf, #[.func (.yield L) #[] #[]] ++ lb, W1, ?_, ?_, ?_, ?_, fun _ => by decide, ?_⟩
  · rw [← eL, ← hW1, hrc]; exact run_enterLoop_outer _ _ _ _ _
  · simp only [resolve, hg]
    simp [go_sem]
  · intro f' _; trivial
  · simp [invoke, go_sem, eg]
  · refine callsIn_wide.2 (callsIn_wide.1 ((hiter L
      (fun s W => I s W ∧ W.heap[L]? = some (.loop (rc .ready none)) ∧ W.heap[w.heap.size]? = some (.deferred (some [])))
      (fun s W => ∃ c, Ix c s W ∧ W.heap[L]? = some (.loop (rc .done (some c))) ∧ W.heap[w.heap.size]? = some (.deferred (some [])))
      W1 hg1 (fun s A h => h.1) (fun s A B h hAB => ⟨hI s A B h.1 (Rec.grows hAB), keepg hAB h.2.1, keepg hAB h.2.2⟩)
      (fun s A B h hAB => by obtain ⟨c, h1, h2, h3⟩ := h; exact ⟨c, hIx c s A B h1 (Rec.grows hAB), keepg hAB h2, keepg hAB h3⟩)
      ?_ ⟨hI _ _ _ h0 (Rec.grows hg1), hL1, hD1⟩).mono ?_))
    · rintro pre x W ⟨hi, hl, hd⟩ hGx
      have hy := run_yield (P := P) (args := #[enc x]) hl (by rw [hrc]; simp [hps])
      rw [hrc] at hy
      refine ⟨fn, _, assign, body, hy, roundIn_of_wpIn hfn (wpIn_mono (hround L pre x W hwL (Array.getElem?_eq_some_iff.1 hl).1 hi hGx) ?_)⟩
      intro e a1 W2 hp
      cases e with
      | normal =>
        obtain ⟨hgr, hb⟩ := hp
        have hl2 := keepg hgr hl
        have hd2 := keepg hgr hd
        refine ⟨_, run_beginRound hl2 (by rw [hrc]), ?_⟩
        obtain ⟨r2, er2⟩ : ∃ r2 : Loop, { rc .ready none with state := .busy } = r2 := ⟨_, rfl⟩
        rw [er2]
        have hl3 : (W2.putObj L (.loop r2)).heap[L]? = some (.loop r2) := World.putObj_heap_same (Array.getElem?_eq_some_iff.1 hl2).1
        have hd3 : (W2.putObj L (.loop r2)).heap[w.heap.size]? = some (.deferred (some [])) := (World.putObj_heap_other hDL).trans hd2
        refine wpIn_mono (hb _ (Rec.put _ hwL hl2 rfl)) ?_
        have fin : ∀ (jump : Option Code) (W3 : World), Chg S (W2.putObj L (.loop r2)) W3 →
            ∃ W4, (Instr.endRound L jump).run P W3 = .ok (.bool jump.isNone) W4 ∧ Rec w.heap.size W3 W4 ∧ W4.heap[L]? = some (.loop (rc (if jump.isNone then .ready else .done) jump)) ∧ W4.heap[w.heap.size]? = some (.deferred (some [])) := fun jump W3 hc => by
          have hl4 := keep hc hSL hl3
          have hd4 := keep hc hSD hd3
          refine ⟨_, run_endRound (P := P) jump hl4, Rec.put _ hwL hl4 rfl, ?_, (World.putObj_heap_other hDL).trans hd4⟩
          rw [World.putObj_heap_same (Array.getElem?_eq_some_iff.1 hl4).1, ← er2, hrc]
        intro e2 a2 W3 hq
        cases e2 with
        | normal =>
          obtain ⟨W4, hr, hR, h1, h2⟩ := fin none W3 hq.1
          exact ⟨_, W4, hr, .inl ⟨rfl, hI _ _ _ hq.2 hR, h1, h2⟩⟩
        | ret =>
          obtain ⟨W4, hr, hR, h1, h2⟩ := fin (some .ret) W3 hq.1
          exact ⟨_, W4, hr, .inr ⟨rfl, _, hIx _ _ _ _ hq.2 hR, h1, h2⟩⟩
        | exit id =>
          obtain ⟨W4, hr, hR, h1, h2⟩ := fin (some (.exit id)) W3 hq.1
          exact ⟨_, W4, hr, .inr ⟨rfl, _, hIx _ _ _ _ hq.2 hR, h1, h2⟩⟩
        | goto t =>
          obtain ⟨W4, hr, hR, h1, h2⟩ := fin (some (.goto t)) W3 hq.1
          exact ⟨_, W4, hr, .inr ⟨rfl, _, hIx _ _ _ _ hq.2 hR, h1, h2⟩⟩
        | panic ch => exact hq.elim
        | outgrown => exact hq.elim
      | exit id => exact hp.elim
      | goto t => exact hp.elim
      | ret => exact hp.elim
      | panic ch => exact hp.elim
      | outgrown => exact hp.elim
    · rintro e W2 ⟨⟨v, rfl⟩, ⟨xs, hT, hi, hl, hd⟩ | ⟨pre, c, hi, hl, hd⟩⟩
      · refine ⟨none, _, by have := run_endLoop (P := P) hl (by rw [hrc]; simp); rw [hrc] at this; exact this, ?_⟩
        exact hdone _ xs _ (Nat.le_refl _) hT (hI _ _ _ hi (Rec.put _ hwL hl rfl)) ((World.putObj_heap_other hDL).trans hd)
      · refine ⟨some c, _, by have := run_endLoop (P := P) hl (by rw [hrc]; simp); rw [hrc] at this; exact this, ?_⟩
        exact wpIn_wide.2 (hstop _ c pre _ (Nat.le_refl _) (hIx _ _ _ _ hi (Rec.put _ hwL hl rfl)) ((World.putObj_heap_other hDL).trans hd))

/-! A function value, held against nil. -/
theorem run_equalIn_func_nil {P : Program} (w : World) (d : Nat) (t : TypeId) (f : Fn) (cs : Array Value) {a r : Array TypeId} {v : Bool} (h : P.underlying t = some (.func a r v)) : (Op.equalIn (d + 1) t (.func f #[] cs) .nilFunc).run P w = .ok false w := by
  simp [Op.equalIn, run_underlying h]
theorem run_equal_func_nil {P : Program} (w : World) (t : TypeId) (f : Fn) (cs : Array Value) {a r : Array TypeId} {v : Bool} (h : P.underlying t = some (.func a r v)) : (Op.equal t (.func f #[] cs) .nilFunc).run P w = .ok false w := run_equalIn_func_nil w 9999 t f cs h
theorem run_neq_func_nil {P : Program} (w : World) (t : TypeId) (f : Fn) (cs : Array Value) {a r : Array TypeId} {v : Bool} (h : P.underlying t = some (.func a r v)) : (binOp .neq t (.func f #[] cs) .nilFunc).run P w = .ok (.bool true) w := by
  simp only [binOp]
  simp [run_equal_func_nil w t f cs h]
theorem run_eql_func_nil {P : Program} (w : World) (t : TypeId) (f : Fn) (cs : Array Value) {a r : Array TypeId} {v : Bool} (h : P.underlying t = some (.func a r v)) : (binOp .eql t (.func f #[] cs) .nilFunc).run P w = .ok (.bool false) w := by
  simp only [binOp]
  simp [run_equal_func_nil w t f cs h]

/-- A function in whose body there is such a range. -/
theorem calls_of_wp_marks {P : Program} {f : FuncId} {fn : Func} {c : Code} {args : Array Value} {w : World} {R : Ending → World → Prop} (hf : P.funcs[f]? = some fn) (hb : fn.body = some c)
    (h : c.wp P (bodyPostM Fence.wide 9 P fn R) { tmps := args ++ Array.replicate (fn.ntmps - args.size) undef, defers := [] } w) : Calls P f args w R :=
  (callsIn_wide (n := 9)).1 (callsIn_of_wp_marks hf hb trivial (wpIn_wide.2 h))
end Go.Proofs.YthdcmchjlpkkaaaDoor
