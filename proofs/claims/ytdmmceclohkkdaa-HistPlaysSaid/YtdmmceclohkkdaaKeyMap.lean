/- A map whose keys are api.Keys, at the block itself: what it holds of each key. -/
import Derived.Test.YtdmmceclohkkdaaLogA
import Derived.WideKeyRuns
import Derived.Laws.StructEq
import Derived.RangeFuncOwn
namespace Go.Proofs.Ytdmmceclohkkdaa
open Go.RowKit Go.Sort
set_option maxHeartbeats 1000000
set_option maxRecDepth 100000

theorem beq_int (a b : Int) : (a == b) = decide (a = b) := by by_cases h : a = b <;> simp [h]
theorem map_eraseIdx' {α β : Type} (f : α → β) : ∀ (l : List α) (j : Nat), (l.eraseIdx j).map f = (l.map f).eraseIdx j
  | [], _ => rfl
  | _ :: _, 0 => rfl
  | a :: l, j + 1 => by simp [map_eraseIdx' f l j]
theorem key_equal (x y : KW) (w : World) : (Op.equal 29 x.val y.val).run Try.prog w = .ok (decide (x = y)) w := by
  have h := run_eql_struct (P := Try.prog) w 29 #[.int .i64 x.t, .int .i64 x.f, .int .u32 x.s] #[.int .i64 y.t, .int .i64 y.f, .int .u32 y.s]
  obtain ⟨t, f, s⟩ := x
  obtain ⟨t', f', s'⟩ := y
  unfold Op.equal Op.maxDepth
  by_cases h1 : t = t' <;> by_cases h2 : f = f' <;> by_cases h3 : s = s' <;> simp [go_sem, h1, h2, h3]
theorem check_int {P : Program} (em : Bool) (n : Nat) (t : TypeId) (k k' : IntKind) (i : Int) (w : World) (h : P.underlying t = some (.int k)) : (Instr.checkKey em (n + 1) t (.int k' i)).run P w = .ok () w := by
  simp [Instr.checkKey, run_underlying h]
theorem key_check (em : Bool) (x : KW) (w : World) : (Instr.checkKey em 10000 29 x.val).run Try.prog w = .ok () w := by
  have h1 := check_int (P := Try.prog) em 9998 2 .i64 .i64 x.t w Try.underlying2
  have h2 := check_int (P := Try.prog) em 9998 3 .i64 .i64 x.f w Try.underlying3
  have h3 := check_int (P := Try.prog) em 9998 27 .u32 .u32 x.s w Try.underlying27
  simp only [Nat.reduceAdd] at h1 h2 h3
  rw [show (10000 : Nat) = 9999 + 1 from rfl, Instr.checkKey]
  simp [go_sem, h1, h2, h3]
theorem beq_keyval (x : KW) : Instr.sameBits 10000 x.val x.val = true := by
  rw [show (10000 : Nat) = 9999 + 1 from rfl]
  simp [Instr.sameBits]

/-- What a list of rows has of a key. -/
def getK {β : Type} (m : List (KW × β)) (x : KW) : Option β := (m.find? fun p => decide (x = p.1)).map (·.2)
theorem getK_nil {β : Type} (x : KW) : getK ([] : List (KW × β)) x = none := rfl
theorem getK_cons {β : Type} (p : KW × β) (m : List (KW × β)) (x : KW) : getK (p :: m) x = if x = p.1 then some p.2 else getK m x := by
  unfold getK
  rw [List.find?_cons]
  by_cases h : x = p.1 <;> simp [h]
theorem getK_none {β : Type} {m : List (KW × β)} {x : KW} : getK m x = none ↔ x ∉ m.map (·.1) := by
  induction m with
  | nil => simp [getK_nil]
  | cons p m ih =>
    rw [getK_cons]
    by_cases h : x = p.1 <;> simp [h]
    simpa using ih
theorem getK_some {β : Type} {m : List (KW × β)} (hn : (m.map (·.1)).Nodup) {x : KW} {v : β} : getK m x = some v ↔ (x, v) ∈ m := by
  induction m with
  | nil => simp [getK_nil]
  | cons p m ih =>
    rw [List.map_cons, List.nodup_cons] at hn
    rw [getK_cons]
    by_cases h : x = p.1
    · subst h
      simp only [if_true, Option.some.injEq, List.mem_cons]
      constructor
      · rintro rfl; exact .inl rfl
      · rintro (h | h)
        · rw [← h]
        · exact absurd (List.mem_map_of_mem (f := (·.1)) h) hn.1
    · rw [if_neg h, ih hn.2, List.mem_cons]
      constructor
      · exact .inr
      · rintro (h2 | h2)
        · exact absurd (by rw [← h2]) h
        · exact h2
theorem getK_perm {β : Type} {m n : List (KW × β)} (hp : m.Perm n) (hn : (m.map (·.1)).Nodup) (x : KW) : getK m x = getK n x := by
  have hn' : (n.map (·.1)).Nodup := (hp.map _).nodup_iff.1 hn
  cases h : getK m x with
  | none => rw [eq_comm, getK_none, ← (hp.map (·.1)).mem_iff, ← getK_none]; exact h
  | some v => rw [eq_comm, getK_some hn', ← hp.mem_iff, ← getK_some hn]; exact h
theorem getK_append {β : Type} (m n : List (KW × β)) (x : KW) : getK (m ++ n) x = (getK m x).or (getK n x) := by
  unfold getK
  rw [List.find?_append]
  cases m.find? fun p => decide (x = p.1) <;> simp

/-- The block b is a map that has of each key what g says. -/
def MapAt (w : World) (b : Nat) (g : KW → Option Value) : Prop :=
  ∃ (es : Array MapEntry) (clock : Nat) (m : List (KW × Value)), w.heap[b]? = some (.map es clock) ∧ es.toList.map (fun e => (e.key, e.val)) = m.map (fun p => (p.1.val, p.2)) ∧ (m.map (·.1)).Nodup ∧ ∀ x, getK m x = g x

theorem asking (x : KW) (w : World) : ∀ (es : List MapEntry) (m : List (KW × Value)), es.map (fun e => (e.key, e.val)) = m.map (fun p => (p.1.val, p.2)) → ∀ i,
    ((Instr.findAsking 29 x.val es i).run Try.prog w = .ok none w ∧ getK m x = none) ∨
    ∃ j v, (Instr.findAsking 29 x.val es i).run Try.prog w = .ok (some (i + j, v)) w ∧ m[j]? = some (x, v) ∧ getK m x = some v
  | [], m, h, i => by
    obtain rfl : m = [] := by simpa using h.symm
    exact .inl ⟨by simp [Instr.findAsking], rfl⟩
  | e :: es, [], h, i => by simp at h
  | e :: es, p :: m, h, i => by
    simp only [List.map_cons, List.cons.injEq, Prod.mk.injEq] at h
    obtain ⟨⟨h1, h2⟩, h3⟩ := h
    have hq := key_equal x p.1 w
    rw [getK_cons]
    unfold Instr.findAsking
    simp only [Sem.run_bind, h1, hq, Result.andThen_ok]
    by_cases hx : x = p.1
    · refine .inr ⟨0, p.2, ?_, ?_, by simp [hx]⟩
      · simp [hx, h2]
      · simp [hx]
    · simp only [hx, decide_false, Bool.false_eq_true, if_false]
      rcases asking x w es m h3 (i + 1) with ⟨h4, h5⟩ | ⟨j, v, h4, h5, h6⟩
      · exact .inl ⟨h4, h5⟩
      · exact .inr ⟨j + 1, v, by rw [h4]; congr 3; omega, by simpa using h5, h6⟩
theorem find_key (x : KW) (w : World) (es : List MapEntry) (m : List (KW × Value)) (h : es.map (fun e => (e.key, e.val)) = m.map (fun p => (p.1.val, p.2))) :
    ((Instr.findKey 29 x.val es).run Try.prog w = .ok none w ∧ getK m x = none) ∨
    ∃ j v, (Instr.findKey 29 x.val es).run Try.prog w = .ok (some (j, v)) w ∧ m[j]? = some (x, v) ∧ getK m x = some v := by
  have hk : (Instr.findKey 29 x.val es).run Try.prog w = (Instr.findAsking 29 x.val es).run Try.prog w := run_findKey_eq w (by kernel_rfl) x.val es
  rw [hk]
  rcases asking x w es m h 0 with h1 | ⟨j, v, h1, h2, h3⟩
  · exact .inl h1
  · exact .inr ⟨j, v, by rw [h1, Nat.zero_add], h2, h3⟩

theorem MapAt.lt {w : World} {b : Nat} {g : KW → Option Value} (h : MapAt w b g) : b < w.heap.size := by
  obtain ⟨es, cl, m, h1, _⟩ := h
  exact (Array.getElem?_eq_some_iff.1 h1).1
theorem MapAt.of_block {w w' : World} {b : Nat} {g : KW → Option Value} (h : MapAt w b g) (hb : w'.heap[b]? = w.heap[b]?) : MapAt w' b g := by
  obtain ⟨es, cl, m, h1, h2⟩ := h
  exact ⟨es, cl, m, by rw [hb, h1], h2⟩
theorem MapAt.chg {S : Nat → Prop} {w w' : World} {b : Nat} {g : KW → Option Value} (h : MapAt w b g) (hc : Chg S w w') (hs : ¬ S b) : MapAt w' b g := h.of_block (hc.block b h.lt hs)
theorem MapAt.grows {w w' : World} {b : Nat} {g : KW → Option Value} (h : MapAt w b g) (hg : Grows w w') : MapAt w' b g := h.of_block (hg.block b h.lt)
theorem MapAt.made (w : World) : MapAt (w.alloc (.map #[] 0)) w.heap.size (fun _ => none) := ⟨#[], 0, [], heap_alloc_new w _, rfl, List.nodup_nil, fun _ => rfl⟩

/-- What is looked up. -/
theorem MapAt.look {w : World} {b : Nat} {g : KW → Option Value} (h : MapAt w b g) {T E : TypeId} (hT : Try.prog.underlying T = some (.map 29 E)) {z : Value} (hz : (zeroValue E).run Try.prog w = .ok z w) (x : KW) (ok : Bool) :
    (Instr.lookup T (.map (some b)) x.val ok).run Try.prog w = .ok (if ok then .tuple #[(g x).getD z, .bool (g x).isSome] else (g x).getD z) w := by
  obtain ⟨es, cl, m, h1, h2, h3, h4⟩ := h
  have hc := key_check es.isEmpty x w
  have hf := find_key x w es.toList m h2
  rw [h4] at hf
  simp only [Instr.lookup, Sem.run_bind, run_underlying hT, Result.andThen_ok, MapKept.run_getObj_map h1, Sem.run_pure, hc]
  rcases hf with ⟨hf, hg⟩ | ⟨j, v, hf, -, hg⟩
  · simp only [hf, hg, Result.andThen_ok, Sem.run_bind, hz, Sem.run_pure]
    cases ok <;> rfl
  · simp only [hf, hg, Result.andThen_ok, Sem.run_bind, Sem.run_pure]
    cases ok <;> rfl
/-- A map that is nil. -/
theorem look_nil (w : World) {T E : TypeId} (hT : Try.prog.underlying T = some (.map 29 E)) {z : Value} (hz : (zeroValue E).run Try.prog w = .ok z w) (x : KW) (ok : Bool) :
    (Instr.lookup T (.map none) x.val ok).run Try.prog w = .ok (if ok then .tuple #[z, .bool false] else z) w := by
  have hc := key_check true x w
  have hf : (Instr.findKey 29 x.val (#[] : Array MapEntry).toList).run Try.prog w = .ok none w := by
    rcases find_key x w [] [] rfl with ⟨hf, -⟩ | ⟨j, v, -, h5, -⟩
    · exact hf
    · simp at h5
  simp only [Instr.lookup, Sem.run_bind, run_underlying hT, Result.andThen_ok, Sem.run_pure]
  rw [show (#[] : Array MapEntry).isEmpty = true from rfl, hc]
  simp only [hf, Result.andThen_ok, Sem.run_bind, hz, Sem.run_pure]
/-- A row is put in whose key is not there. -/
theorem MapAt.put {w : World} {b : Nat} {g : KW → Option Value} (h : MapAt w b g) {T E : TypeId} (hT : Try.prog.underlying T = some (.map 29 E)) (x : KW) (hx : g x = none) (v : Value) :
    ∃ o, (Instr.mapUpdate T (.map (some b)) x.val v).run Try.prog w = .ok () (w.putObj b o) ∧ o.isCells = false ∧ MapAt (w.putObj b o) b (fun y => if y = x then some v else g y) := by
  have hlt := h.lt
  obtain ⟨es, cl, m, h1, h2, h3, h4⟩ := h
  have hc := key_check false x w
  rcases find_key x w es.toList m h2 with ⟨hf, hg⟩ | ⟨j, v', hf, -, hg⟩
  · refine ⟨.map (es.push { key := x.val, val := v, born := cl }) (cl + 1), ?_, rfl, es.push { key := x.val, val := v, born := cl }, cl + 1, m ++ [(x, v)], World.putObj_heap_same hlt, by simp [h2], ?_, ?_⟩
    · simp only [Instr.mapUpdate, Sem.run_bind, run_underlying hT, Result.andThen_ok, MapKept.run_getObj_map h1, Sem.run_pure, hc, hf, MapKept.run_setObj_map _ h1]
      rfl
    · rw [List.map_append, List.nodup_append]
      exact ⟨h3, by simp, fun a ha c hc2 hac => by simp at hc2; subst hc2; subst hac; exact (getK_none.1 hg) ha⟩
    · intro y
      rw [getK_append, h4]
      by_cases hy : y = x
      · subst hy; rw [hx]; simp [getK_cons]
      · simp [getK_cons, getK_nil, hy]
  · rw [h4, hx] at hg; cases hg
/-- A row is taken out. -/
theorem MapAt.del {w : World} {b : Nat} {g : KW → Option Value} (h : MapAt w b g) {T E : TypeId} (hT : Try.prog.underlying T = some (.map 29 E)) (x : KW) (k ty : TypeId) :
    ∃ o, (Builtin.delete_ #[T, k] ty #[.map (some b), x.val]).run Try.prog w = .ok (.tuple #[]) (w.putObj b o) ∧ o.isCells = false ∧ MapAt (w.putObj b o) b (fun y => if y = x then none else g y) := by
  have hlt := h.lt
  obtain ⟨es, cl, m, h1, h2, h3, h4⟩ := h
  have hc := key_check es.isEmpty x w
  rcases find_key x w es.toList m h2 with ⟨hf, hg⟩ | ⟨j, v', hf, hj, hg⟩
  · refine ⟨.map es cl, ?_, rfl, es, cl, m, World.putObj_heap_same hlt, h2, h3, ?_⟩
    · simp [Builtin.delete_, Sem.run_bind, run_underlying hT, Result.andThen_ok, MapKept.run_getObj_map h1, Sem.run_pure, hc, hf, MapKept.run_setObj_map _ h1]
      rfl
    · intro y
      by_cases hy : y = x
      · subst hy; simp [hg]
      · simp [hy, h4]
  · have hjm : j < m.length := (List.getElem?_eq_some_iff.1 hj).1
    have hje : j < es.size := by have := congrArg List.length h2; simp at this; omega
    refine ⟨.map (es.eraseIdxIfInBounds j) cl, ?_, rfl, es.eraseIdxIfInBounds j, cl, m.eraseIdx j, World.putObj_heap_same hlt, ?_, ?_, ?_⟩
    · simp [Builtin.delete_, Sem.run_bind, run_underlying hT, Result.andThen_ok, MapKept.run_getObj_map h1, Sem.run_pure, hc, hf, MapKept.run_setObj_map _ h1]
      rfl
    · have e1 : (es.eraseIdxIfInBounds j).toList = es.toList.eraseIdx j := by simp [Array.eraseIdxIfInBounds, hje]
      rw [e1, map_eraseIdx', map_eraseIdx', h2]
    · rw [map_eraseIdx']; exact h3.eraseIdx _
    · intro y
      have hnd := h3
      show _ = if y = x then none else g y
      rw [← h4 y]
      by_cases hy : y = x
      · subst hy
        rw [if_pos rfl, getK_none, map_eraseIdx']
        intro hc
        have e1 : (m.map (·.1))[j]? = some y := by rw [List.getElem?_map, hj]; rfl
        obtain ⟨i, hi⟩ := List.getElem?_of_mem hc
        rw [List.getElem?_eraseIdx] at hi
        split at hi
        · have := (List.getElem?_inj (by simpa using Nat.lt_trans (by assumption) hjm) h3).1 (hi.trans e1.symm); omega
        · have h6 := (List.getElem?_eq_some_iff.1 hi).1
          have := (List.getElem?_inj h6 h3).1 (hi.trans e1.symm); omega
      · rw [if_neg hy]
        have e0 : m = m.take j ++ (x, v') :: m.drop (j + 1) := by
          rw [List.getElem?_eq_some_iff] at hj
          obtain ⟨q, hq⟩ := hj
          rw [← hq, ← List.drop_eq_getElem_cons q, List.take_append_drop]
        have e2 : m.eraseIdx j = m.take j ++ m.drop (j + 1) := List.eraseIdx_eq_take_drop_succ ..
        rw [e2, getK_append]
        conv => rhs; rw [e0]
        rw [getK_append, getK_cons, if_neg hy]
/-- All are taken out. -/
theorem MapAt.clear {w : World} {b : Nat} {g : KW → Option Value} (h : MapAt w b g) {T E : TypeId} (hT : Try.prog.underlying T = some (.map 29 E)) (ty : TypeId) :
    ∃ o, (Builtin.clear_ #[T] ty #[.map (some b)]).run Try.prog w = .ok (.tuple #[]) (w.putObj b o) ∧ o.isCells = false ∧ MapAt (w.putObj b o) b (fun _ => none) := by
  have hlt := h.lt
  obtain ⟨es, cl, m, h1, h2, h3, h4⟩ := h
  refine ⟨.map #[] cl, ?_, rfl, #[], cl, [], World.putObj_heap_same hlt, rfl, List.nodup_nil, fun _ => rfl⟩
  simp [Builtin.clear_, Sem.run_bind, run_underlying hT, Result.andThen_ok, MapKept.run_getObj_map h1, Sem.run_pure, MapKept.run_setObj_map _ h1]
  rfl
end Go.Proofs.Ytdmmceclohkkdaa
