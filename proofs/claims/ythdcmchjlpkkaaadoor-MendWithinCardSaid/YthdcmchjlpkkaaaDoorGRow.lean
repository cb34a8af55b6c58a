/- Rows of elements of k cells each, of any type: a slice of the call's own, what it takes from, appends. -/
import Derived.Test.YthdcmchjlpkkaaaDoorMisc
namespace Go.Proofs.YthdcmchjlpkkaaaDoor
open Go.RowKit Go.Sort
set_option maxHeartbeats 1000000
set_option maxRecDepth 100000
/-- What is asked of a type of elements. -/
structure RowKind {α : Type} (f : α → List Value) (k : Nat) (TS E : TypeId) (z : Value) (bytes : Nat) : Prop where
  len : ∀ a, (f a).length = k
  one : ∀ a, ∀ u ∈ f a, u.oneCell' = true
  und : Tryd.prog.underlying TS = some (.slice E)
  info : (Tryd.prog.info? E).map (fun i => (i.zero, i.size, i.bytes)) = some (some z, k, bytes)
  zs : z.cells.size = k
  k0 : 0 < k
  small : bytes ≤ 1000
section
variable {α : Type} {f : α → List Value} {k : Nat} {TS E : TypeId} {z : Value} {bytes : Nat}
/-- A slice of the call's own. -/
abbrev GOwn (f : α → List Value) (k : Nat) (E : TypeId) (w : World) (base : Nat) (v : Value) (l : List α) : Prop := w.ownsRow base E k v l.length (l.flatMap f)
/-- The slice v holds the rows l. -/
def GRows (f : α → List Value) (k : Nat) (w : World) (v : Value) (l : List α) : Prop := (l = [] ∧ ∃ a cap, v = .slice a 0 cap) ∨ ∃ g o cap, v = .slice (some ⟨g, o, none⟩) l.length cap ∧ l.length ≤ cap ∧ g < w.heap.size ∧ RAt f k w g o l
theorem GRows.grows {w w' : World} {v : Value} {l : List α} (h : GRows f k w v l) (hg : Grows w w') : GRows f k w' v l := by
  rcases h with h | ⟨g, o, cap, h1, h2, h3, h4⟩
  · exact .inl h
  · exact .inr ⟨g, o, cap, h1, h2, Nat.lt_of_lt_of_le h3 hg.size, h4.grows hg h3⟩
theorem GRows.form {w : World} {v : Value} {l : List α} {n : Nat} (h : GRows f k w v l) (hn : l.length = n) (h0 : 0 < n) : ∃ g o cap, v = .slice (some ⟨g, o, none⟩) n cap ∧ n ≤ cap ∧ g < w.heap.size ∧ RAt f k w g o l := by
  subst hn
  rcases h with ⟨rfl, _⟩ | h
  · simp at h0
  · exact h
theorem GRows.len {w : World} {v : Value} {l : List α} {n : Nat} (h : GRows f k w v l) (hn : l.length = n) : ∃ a cap, v = .slice a n cap := by
  subst hn
  rcases h with ⟨rfl, a, cap, rfl⟩ | ⟨g, o, cap, h, _⟩
  · exact ⟨a, cap, rfl⟩
  · exact ⟨_, cap, h⟩
theorem gown_rows (hf : ∀ a, (f a).length = k) {w : World} {base : Nat} {v : Value} {l : List α} (h : GOwn f k E w base v l) : GRows f k w v l := by
  rcases own_rows hf rfl h with ⟨rfl, rfl⟩ | ⟨g, cap, hv, h1, _, h3, h4⟩
  · exact .inl ⟨rfl, _, _, rfl⟩
  · exact .inr ⟨g, 0, cap, hv, h1, h3, h4⟩
theorem GOwn.len {w : World} {base : Nat} {v : Value} {l : List α} {n : Nat} (hf : ∀ a, (f a).length = k) (h : GOwn f k E w base v l) (hn : l.length = n) : ∃ a cap, v = .slice a n cap := (gown_rows hf h).len hn
theorem gown_ty {w : World} {base : Nat} {v : Value} {l : List α} (h : GOwn f k E w base v l) {j : Nat} (hj : v.ownBlock = some j) : ∃ cur, w.heap[j]? = some (.cells cur E (0, 0)) := by
  rcases h.2 with ⟨h1, _⟩ | ⟨g, cap, cur, hv, _, hg, _⟩
  · rw [h1] at hj; simp [Value.ownBlock] at hj
  · rw [hv] at hj
    simp only [Value.ownBlock, Option.some.injEq] at hj
    subst hj
    exact ⟨cur, hg⟩
theorem gown_lit (hz : 0 < k) (w : World) : GOwn f k E (w.alloc (.cells #[] E)) w.heap.size (.slice (some ⟨w.heap.size, 0, none⟩) 0 0) [] := by
  have := World.ownsRow_lit (e := E) (size := k) w #[] 0 (Nat.le_refl _) (by decide) (by simp)
  exact this
/-- What an append takes from: nothing, or cells that read so. -/
def GSrc (f : α → List Value) (w : World) (u : Value) (m : List α) : Prop := (m = [] ∧ u = .slice none 0 0) ∨ ∃ a c, u = .slice (some a) m.length c ∧ ∀ j x, (m.flatMap f)[j]? = some x → w.cell? (a.add j) = some x
theorem gsrc_at (hf : ∀ a, (f a).length = k) (k0 : 0 < k) {w : World} {g o : Nat} {l : List α} (h : RAt f k w g o l) (i c : Nat) : GSrc f w (.slice (some ⟨g, o + i * k, none⟩) (l.drop i).length c) (l.drop i) := by
  refine .inr ⟨_, _, rfl, fun j x hj => ?_⟩
  have hl := (List.getElem?_eq_some_iff.1 hj).1
  rw [rows_length hf, List.length_drop] at hl
  rw [addr_add]
  have hq : j / k < l.length - i := by rw [Nat.div_lt_iff_lt_mul k0]; exact hl
  have hdm := Nat.div_add_mod' j k
  have h5 := h (i + j / k) (Nat.add_lt_of_lt_sub' hq) (j % k) (Nat.mod_lt _ k0)
  rw [Nat.add_mul, show o + (i * k + j / k * k) + j % k = o + i * k + j by omega] at h5
  rw [h5]
  have h6 := rows_get hf (l.drop i) (j / k) (by rw [List.length_drop]; exact hq) (j % k) (Nat.mod_lt _ k0)
  rw [hdm, List.getElem_drop] at h6
  rw [← h6]
  exact hj
theorem gsrc_all (hf : ∀ a, (f a).length = k) (k0 : 0 < k) {w : World} {g o : Nat} {l : List α} (h : RAt f k w g o l) (c : Nat) : GSrc f w (.slice (some ⟨g, o, none⟩) l.length c) l := by
  have := gsrc_at hf k0 h 0 c
  simpa using this
theorem gsrc_one (hf : ∀ a, (f a).length = k) (w : World) (x : α) : GSrc f (w.alloc (.cells (f x).toArray E)) (.slice (some ⟨w.heap.size, 0, none⟩) 1 1) [x] :=
  .inr ⟨_, 1, rfl, fun j u hj => by
    rw [addr_add, Nat.zero_add]
    exact (cell_in (heap_alloc_new w _) j (by simpa using hj)).1⟩
theorem GSrc.grows {w w' : World} {u : Value} {m : List α} (h : GSrc f w u m) (hg : Grows w w') : GSrc f w' u m := by
  rcases h with h | ⟨a, c, rfl, h2⟩
  · exact .inl h
  · exact .inr ⟨a, c, rfl, fun j x hj => box_cell_grows (h2 j x hj) hg⟩
/-- Rows appended to rows of one's own. -/
theorem gapp_run (K : RowKind f k TS E z bytes) {W : World} {base : Nat} {v u : Value} {l m : List α} (ho : GOwn f k E W base v l) (hs : GSrc f W u m) (hm : l.length + m.length ≤ 100000) (hb : base ≤ W.heap.size) :
    ∃ v' W', (∀ ty, (Builtin.append_ #[TS, TS] ty #[v, u]).run Tryd.prog W = .ok v' W') ∧ GOwn f k E W' base v' (l ++ m) ∧ W.grownBy W' v.ownBlock := by
  obtain ⟨i0, hi, hz⟩ : ∃ i, Tryd.prog.info? E = some i ∧ (i.zero, i.size, i.bytes) = (some z, k, bytes) := Option.map_eq_some_iff.1 K.info
  simp only [Prod.mk.injEq] at hz
  obtain ⟨hz0, hz1, hz2⟩ := hz
  rcases hs with ⟨rfl, rfl⟩ | ⟨a, c, rfl, hc⟩
  · refine ⟨v, W, fun ty => run_append_owned_none W base _ ty E i0 k K.und hi v l.length (l.flatMap f) ho, by simpa using ho, ?_⟩
    exact ⟨rfl, rfl, rfl, Nat.le_refl _, fun _ _ _ => rfl⟩
  · have hbb : (l.length + m.length) * bytes ≤ 140737488355328 := Nat.le_trans (Nat.mul_le_mul hm K.small) (by decide)
    obtain ⟨v', W', h1, h2, h3, -⟩ := run_append_own (P := Tryd.prog) W base TS 0 E i0 _ k bytes K.und hi hz0 hz1 hz2 K.zs K.k0 v l.length (l.flatMap f) ho a m.length c (m.flatMap f) (rows_length K.len m) hc (rows_one K.one m)
      (by unfold maxLen; omega) hbb hb
    refine ⟨v', W', fun _ => h1, ?_, h3⟩
    show W'.ownsRow base _ k v' (l ++ m).length ((l ++ m).flatMap f)
    rw [← rows_append, List.length_append]
    exact h2
/-- One element appended, out of a literal's block. -/
theorem gapp_one (K : RowKind f k TS E z bytes) {W : World} {base : Nat} {v : Value} {l : List α} (x : α) (ho : GOwn f k E W base v l) (hm : l.length ≤ 99999) (hb : base ≤ W.heap.size) :
    ∃ v' W', (∀ ty, (Builtin.append_ #[TS, TS] ty #[v, .slice (some ⟨W.heap.size, 0, none⟩) 1 1]).run Tryd.prog (W.alloc (.cells (f x).toArray E)) = .ok v' W') ∧ GOwn f k E W' base v' (l ++ [x]) ∧ W.grownBy W' v.ownBlock := by
  have hg : Grows W (W.alloc (.cells (f x).toArray E)) := bl_alloc (Below.refl _ _) _
  obtain ⟨v', W', h1, h2, h3⟩ := gapp_run K (own_grows ho hg) (gsrc_one K.len W x) (by simp; omega) (Nat.le_trans hb hg.size)
  refine ⟨v', W', h1, h2, ?_⟩
  exact ⟨h3.os.trans hg.os, h3.tape.trans hg.tape, h3.output.trans hg.output, Nat.le_trans hg.size h3.size, fun j hj hne => (h3.block j (Nat.lt_of_lt_of_le hj hg.size) hne).trans (hg.block j hj)⟩
end
/-- 'append' as one step, where its run is known. -/
theorem wpList_append_eq {P : Program} (w : World) {ops : Array Oper} {rest : List Oper} {o : Oper} {a : Act} {Q : Exit → Act → World → Prop} (hgd : o.guard = none) (d s : Operand) (t t' : TypeId)
    (ho : o.op = .call { callee := .builtin .append, args := #[d, s], argTypes := #[t, t'] }) (v u : Value) (hd : a.eval d = v) (hs : a.eval s = u) {v' : Value} {w' : World}
    (hr : (Builtin.append_ #[t, t'] o.type #[v, u]).run P w = .ok v' w') (h : wpList P ops Q rest (a.put o.dst v') w') : wpList P ops Q (o :: rest) a w :=
  wpList_plain hgd fun _ hK => by
    unfold Oper.wp execOp
    simp only [ho, resolve, invoke, builtin, Sem.run_bind, Sem.run_pure, Result.andThen_ok, List.map_toArray, List.map_cons, List.map_nil, hd, hs, hr]
    exact hK _ _ h
/-- An append to rows of one's own as one step of a region that draws its order. -/
theorem step_gapp {α : Type} {f : α → List Value} {k : Nat} {TS E : TypeId} {z : Value} {bytes : Nat} (K : RowKind f k TS E z bytes) {ops : Array Oper} {o : Oper} {a : Act} {w : World} {KK : Act → World → Prop} {Q : Exit → Act → World → Prop} {EE : Prop} (hgd : o.guard = none) (d x : Operand)
    (ho : o.op = .call { callee := .builtin .append, args := #[d, x], argTypes := #[TS, TS] }) {base : Nat} {v u : Value} {l m : List α} (hd : a.eval d = v) (hx : a.eval x = u) (own : GOwn f k E w base v l) (src : GSrc f w u m) (hm : l.length + m.length ≤ 100000) (hb : base ≤ w.heap.size)
    (hK : ∀ v' w', GOwn f k E w' base v' (l ++ m) → w.grownBy w' v.ownBlock → KK (a.put o.dst v') w') : if Region.wanted o (yielded ops a.tmps) = true then Oper.wp Tryd.prog o a w KK Q else EE := by
  obtain ⟨v', w', h1, h2, h3⟩ := gapp_run K own src hm hb
  have hw : Region.wanted o (yielded ops a.tmps) = true := by simp [Region.wanted, hgd]
  rw [if_pos hw]
  unfold Oper.wp
  simp [execOp, ho, resolve, invoke, builtin, hd, hx, h1 o.type, Result.andThen]
  exact hK v' w' h2 h3
end Go.Proofs.YthdcmchjlpkkaaaDoor
