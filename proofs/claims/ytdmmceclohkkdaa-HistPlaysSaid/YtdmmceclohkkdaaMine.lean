/- A map whose keys are a node and a kind: what it holds of each, as a plain function. -/
import Derived.Test.YtdmmceclohkkdaaPkt
import Derived.Test.YtdmmceclohkkdaaKeyMap
import Derived.WideKeyEntry
namespace Go.Proofs.Ytdmmceclohkkdaa
open Go.RowKit Go.Sort
set_option maxHeartbeats 1000000
set_option maxRecDepth 100000
abbrev TWH : TypeId := 132
abbrev TMW : TypeId := 125
abbrev wv (x : Int × Int) : Value := .agg #[.int .i64 x.1, .int .i64 x.2]
theorem wh_equal (x y : Int × Int) (w : World) : (Op.equal TWH (wv x) (wv y)).run Try.prog w = .ok (decide (x = y)) w := by
  obtain ⟨a, b⟩ := x
  obtain ⟨c, d⟩ := y
  unfold Op.equal Op.maxDepth
  by_cases h1 : a = c <;> by_cases h2 : b = d <;> simp [go_sem, h1, h2]
theorem wh_check (em : Bool) (x : Int × Int) (w : World) : (Instr.checkKey em 10000 TWH (wv x)).run Try.prog w = .ok () w := by
  have h1 := check_int (P := Try.prog) em 9998 3 .i64 .i64 x.1 w Try.underlying3
  have h2 := check_int (P := Try.prog) em 9998 3 .i64 .i64 x.2 w Try.underlying3
  simp only [Nat.reduceAdd] at h1 h2
  rw [show (10000 : Nat) = 9999 + 1 from rfl, Instr.checkKey]
  simp [go_sem, h1, h2]
theorem wh_bits (x : Int × Int) : Instr.sameBits 10000 (wv x) (wv x) = true := by
  rw [show (10000 : Nat) = 9999 + 1 from rfl]
  simp [Instr.sameBits]
/-- An entry: its key, what it holds, its stamp. -/
abbrev WE := (Int × Int) × Int × Nat
abbrev wenc (p : WE) : MapEntry := { key := wv p.1, val := .int .i64 p.2.1, born := p.2.2 }
/-- What the entries have of a key. -/
def getM (m : List WE) (x : Int × Int) : Int := ((m.find? fun p => decide (x = p.1)).map (·.2.1)).getD 0
theorem getM_cons (p : WE) (m : List WE) (x : Int × Int) : getM (p :: m) x = if x = p.1 then p.2.1 else getM m x := by
  unfold getM
  rw [List.find?_cons]
  by_cases h : x = p.1 <;> simp [h]
theorem getM_none {m : List WE} {x : Int × Int} (h : x ∉ m.map (·.1)) : getM m x = 0 := by
  induction m with
  | nil => rfl
  | cons p m ih =>
    simp only [List.map_cons, List.mem_cons, not_or] at h
    rw [getM_cons, if_neg h.1, ih h.2]
theorem getM_snoc {m : List WE} {x : Int × Int} (h : x ∉ m.map (·.1)) (v : Int) (n : Nat) (y : Int × Int) : getM (m ++ [(x, v, n)]) y = if y = x then v else getM m y := by
  induction m with
  | nil => rw [List.nil_append, getM_cons]; try rfl
  | cons p m ih =>
    simp only [List.map_cons, List.mem_cons, not_or] at h
    rw [List.cons_append, getM_cons, getM_cons, ih h.2]
    by_cases h1 : y = p.1
    · rw [if_pos h1, if_pos h1, if_neg (fun e => h.1 (e.symm.trans h1))]
    · rw [if_neg h1, if_neg h1]
theorem getM_at {m : List WE} (hn : (m.map (·.1)).Nodup) {j : Nat} {p : WE} (hj : m[j]? = some p) : getM m p.1 = p.2.1 := by
  induction m generalizing j with
  | nil => simp at hj
  | cons q m ih =>
    rw [List.map_cons, List.nodup_cons] at hn
    rw [getM_cons]
    cases j with
    | zero => simp at hj; subst hj; rw [if_pos rfl]
    | succ j =>
      simp at hj
      rw [if_neg (fun e => hn.1 (by rw [← e]; exact List.mem_map_of_mem (List.mem_of_getElem? hj))), ih hn.2 hj]
theorem getM_set {m : List WE} (hn : (m.map (·.1)).Nodup) {j : Nat} {p : WE} (hj : m[j]? = some p) (v : Int) (y : Int × Int) : getM (m.set j (p.1, v, p.2.2)) y = if y = p.1 then v else getM m y := by
  induction m generalizing j with
  | nil => simp at hj
  | cons q m ih =>
    rw [List.map_cons, List.nodup_cons] at hn
    cases j with
    | zero =>
      simp at hj
      subst hj
      rw [List.set_cons_zero, getM_cons, getM_cons]
      by_cases h : y = q.1 <;> simp [h]
    | succ j =>
      simp at hj
      rw [List.set_cons_succ, getM_cons, getM_cons, ih hn.2 hj]
      by_cases h : y = q.1
      · have hne : ¬ y = p.1 := fun e => hn.1 (by rw [← h, e]; exact List.mem_map_of_mem (List.mem_of_getElem? hj))
        rw [if_pos h, if_pos h, if_neg hne]
      · rw [if_neg h, if_neg h]
/-- The block b is a map that has of each node and kind what g says (0: nothing). -/
def MineAt (w : World) (b : Nat) (g : Int × Int → Int) : Prop :=
  ∃ (m : List WE) (cl : Nat), w.heap[b]? = some (.map (m.map wenc).toArray cl) ∧ (m.map (·.1)).Nodup ∧ (m.map (·.2.2)).Nodup ∧ (∀ p ∈ m, p.2.2 < cl) ∧ ∀ x, getM m x = g x
theorem wh_asking (x : Int × Int) (w : World) : ∀ (m : List WE) (i : Nat),
    ((Instr.findAsking TWH (wv x) (m.map wenc) i).run Try.prog w = .ok none w ∧ x ∉ m.map (·.1)) ∨
    ∃ j p, (Instr.findAsking TWH (wv x) (m.map wenc) i).run Try.prog w = .ok (some (i + j, .int .i64 p.2.1)) w ∧ m[j]? = some p ∧ p.1 = x
  | [], i => .inl ⟨by simp [Instr.findAsking], by simp⟩
  | p :: m, i => by
    have hq := wh_equal x p.1 w
    rw [List.map_cons]
    unfold Instr.findAsking
    simp only [Sem.run_bind, hq, Result.andThen_ok]
    by_cases hx : x = p.1
    · exact .inr ⟨0, p, by simp [hx], by simp, hx.symm⟩
    · simp only [hx, decide_false, Bool.false_eq_true, if_false]
      rcases wh_asking x w m (i + 1) with ⟨h4, h5⟩ | ⟨j, v, h4, h5, h6⟩
      · exact .inl ⟨h4, by simp only [List.map_cons, List.mem_cons, not_or]; exact ⟨hx, h5⟩⟩
      · exact .inr ⟨j + 1, v, by rw [h4]; congr 3; omega, by simpa using h5, h6⟩
theorem wh_find (x : Int × Int) (w : World) (m : List WE) :
    ((Instr.findKey TWH (wv x) (m.map wenc)).run Try.prog w = .ok none w ∧ x ∉ m.map (·.1)) ∨
    ∃ j p, (Instr.findKey TWH (wv x) (m.map wenc)).run Try.prog w = .ok (some (j, .int .i64 p.2.1)) w ∧ m[j]? = some p ∧ p.1 = x := by
  have hk : (Instr.findKey TWH (wv x) (m.map wenc)).run Try.prog w = (Instr.findAsking TWH (wv x) (m.map wenc)).run Try.prog w := run_findKey_eq w (by kernel_rfl) (wv x) (m.map wenc)
  rw [hk]
  rcases wh_asking x w m 0 with h1 | ⟨j, v, h1, h2, h3⟩
  · exact .inl h1
  · exact .inr ⟨j, v, by rw [h1, Nat.zero_add], h2, h3⟩
section
variable {w w' : World} {b : Nat} {g : Int × Int → Int}
theorem MineAt.lt (h : MineAt w b g) : b < w.heap.size := by obtain ⟨m, cl, h1, _⟩ := h; exact (Array.getElem?_eq_some_iff.1 h1).1
theorem MineAt.of_block (h : MineAt w b g) (hb : w'.heap[b]? = w.heap[b]?) : MineAt w' b g := by obtain ⟨m, cl, h1, h2⟩ := h; exact ⟨m, cl, by rw [hb, h1], h2⟩
theorem MineAt.chg {S : Nat → Prop} (h : MineAt w b g) (hc : Chg S w w') (hs : ¬ S b) : MineAt w' b g := h.of_block (hc.block b h.lt hs)
theorem MineAt.grows (h : MineAt w b g) (hg : Grows w w') : MineAt w' b g := h.of_block (hg.block b h.lt)
theorem MineAt.made (w : World) : MineAt (w.alloc (.map #[] 0)) w.heap.size (fun _ => 0) := ⟨[], 0, heap_alloc_new w _, by simp, by simp, by simp, fun _ => rfl⟩
theorem zero_int (w : World) : (zeroValue 3).run Try.prog w = .ok (.int .i64 0) w := by
  obtain ⟨i0, hii, hz⟩ : ∃ i, Try.prog.info? 3 = some i ∧ i.zero = some (.int .i64 0) := Option.map_eq_some_iff.1 (by kernel_rfl : (Try.prog.info? 3).map (fun i => i.zero) = some (some (.int .i64 0)))
  simp [zeroValue, typeInfo, hii, hz]
theorem MineAt.look (h : MineAt w b g) (x : Int × Int) : (Instr.lookup TMW (.map (some b)) (wv x) false).run Try.prog w = .ok (.int .i64 (g x)) w := by
  obtain ⟨m, cl, h1, h2, h3, h4, h5⟩ := h
  have hc := wh_check (m.map wenc).toArray.isEmpty x w
  simp only [Instr.lookup, Sem.run_bind, run_underlying Try.underlying125, Result.andThen_ok, MapKept.run_getObj_map h1, Sem.run_pure, hc]
  rcases wh_find x w m with ⟨hf, hg⟩ | ⟨j, p, hf, hj, rfl⟩
  · simp only [hf, Result.andThen_ok, Sem.run_bind, zero_int, Sem.run_pure, Bool.false_eq_true, if_false]
    rw [← h5, getM_none hg]
  · simp only [hf, Result.andThen_ok, Sem.run_bind, Sem.run_pure, Bool.false_eq_true, if_false]
    rw [← h5, getM_at h2 hj]
theorem look_nilM (w : World) (x : Int × Int) : (Instr.lookup TMW (.map none) (wv x) false).run Try.prog w = .ok (.int .i64 0) w := by
  have hc := wh_check true x w
  have hf : (Instr.findKey TWH (wv x) (#[] : Array MapEntry).toList).run Try.prog w = .ok none w := by
    rcases wh_find x w [] with ⟨hf, -⟩ | ⟨j, v, -, h5, -⟩
    · exact hf
    · simp at h5
  simp only [Instr.lookup, Sem.run_bind, run_underlying Try.underlying125, Result.andThen_ok, Sem.run_pure]
  rw [show (#[] : Array MapEntry).isEmpty = true from rfl, hc]
  simp only [hf, Result.andThen_ok, Sem.run_bind, zero_int, Sem.run_pure, Bool.false_eq_true, if_false]
theorem map_set' {α β : Type} (f : α → β) : ∀ (l : List α) (j : Nat) (a : α), (l.set j a).map f = (l.map f).set j (f a)
  | [], _, _ => rfl
  | _ :: _, 0, _ => rfl
  | a :: l, j + 1, b => by simp [map_set' f l j b]
theorem modify_at {α : Type} (f : α → α) : ∀ (l : List α) (j : Nat) (a : α), l[j]? = some a → l.modify j f = l.set j (f a)
  | [], _, _, h => by simp at h
  | b :: r, 0, a, h => by simp at h; subst h; rfl
  | b :: r, j + 1, a, h => by simp at h; simp [List.modify_succ_cons, modify_at f r j a h]
/-- An entry is looked for, or made; then it is set. -/
theorem MineAt.entry (h : MineAt w b g) (x : Int × Int) :
    ∃ o1 st, o1.isCells = false ∧ (Instr.mapEntry TMW (.map (some b)) (wv x)).run Try.prog w = .ok (.tuple #[.int .i64 (g x), .int .i64 st]) (w.putObj b o1) ∧ MineAt (w.putObj b o1) b g ∧
      ∀ v, ∃ o2, o2.isCells = false ∧ (Instr.entryStore TMW (.map (some b)) (.int .i64 st) (.int .i64 v)).run Try.prog (w.putObj b o1) = .ok () ((w.putObj b o1).putObj b o2) ∧ MineAt ((w.putObj b o1).putObj b o2) b (fun y => if y = x then v else g y) := by
  have hlt := h.lt
  obtain ⟨m, cl, h1, h2, h3, h4, h5⟩ := h
  have hc := wh_check false x w
  -- the store, where the entry is known by its place
  have store : ∀ (m1 : List WE) (c1 : Nat) (j : Nat) (p : WE), (m1.map (·.1)).Nodup → (m1.map (·.2.2)).Nodup → (∀ p ∈ m1, p.2.2 < c1) → m1[j]? = some p → p.1 = x → ∀ v, ∃ o2, o2.isCells = false ∧ (Instr.entryStore TMW (.map (some b)) (.int .i64 ((p.2.2 : Nat) : Int)) (.int .i64 v)).run Try.prog (w.putObj b (.map (m1.map wenc).toArray c1)) = .ok () ((w.putObj b (.map (m1.map wenc).toArray c1)).putObj b o2) ∧
      MineAt ((w.putObj b (.map (m1.map wenc).toArray c1)).putObj b o2) b (fun y => if y = x then v else getM m1 y) := by
    intro m1 c1 j p k1 k2 k3 hj hpx v
    have hb1 : (w.putObj b (.map (m1.map wenc).toArray c1)).heap[b]? = some (.map (m1.map wenc).toArray c1) := World.putObj_heap_same hlt
    have hlt1 : b < (w.putObj b (.map (m1.map wenc).toArray c1)).heap.size := (Array.getElem?_eq_some_iff.1 hb1).1
    have hbn : ((m1.map wenc).map (·.born)).Nodup := by rw [List.map_map]; exact k2
    have hidx := WideElems.findIdx_born (l := m1.map wenc) hbn (j := j) (e0 := wenc p) (by rw [List.getElem?_map, hj]; rfl)
    refine ⟨.map ((m1.set j (p.1, v, p.2.2)).map wenc).toArray c1, rfl, ?_, m1.set j (p.1, v, p.2.2), c1, World.putObj_heap_same hlt1, ?_, ?_, ?_, fun y => ?_⟩
    · have hmod : (m1.map wenc).toArray.modify j (fun e => { e with val := .int .i64 v }) = ((m1.set j (p.1, v, p.2.2)).map wenc).toArray := by
        apply Array.toList_inj.1
        rw [Array.toList_modify, map_set' wenc]
        exact modify_at (fun e : MapEntry => { e with val := .int .i64 v }) (m1.map wenc) j (wenc p) (by rw [List.getElem?_map, hj]; rfl)
      simp [Instr.entryStore, Sem.run_bind, MapKept.run_getObj_map hb1, Result.andThen_ok, asInt, asIntOf, Sem.run_pure, hidx, MapKept.run_setObj_map _ hb1, hmod]
      try rfl
    · have hs : (m1.map (fun q : WE => q.1)).set j p.1 = m1.map (fun q : WE => q.1) := WideElems.set_self _ j p.1 (by rw [List.getElem?_map, hj]; rfl)
      have e : (m1.set j (p.1, v, p.2.2)).map (fun q : WE => q.1) = m1.map (fun q : WE => q.1) := (map_set' _ _ _ _).trans hs
      rw [e]; exact k1
    · have hs : (m1.map (fun q : WE => q.2.2)).set j p.2.2 = m1.map (fun q : WE => q.2.2) := WideElems.set_self _ j p.2.2 (by rw [List.getElem?_map, hj]; rfl)
      have e : (m1.set j (p.1, v, p.2.2)).map (fun q : WE => q.2.2) = m1.map (fun q : WE => q.2.2) := (map_set' _ _ _ _).trans hs
      rw [e]; exact k2
    · intro q hq
      rcases List.mem_or_eq_of_mem_set hq with hq | rfl
      · exact k3 q hq
      · exact k3 p (List.mem_of_getElem? hj)
    · rw [getM_set k1 hj, hpx]
  rcases wh_find x w m with ⟨hf, hg⟩ | ⟨j, p, hf, hj, hp⟩
  · refine ⟨.map ((m ++ [(x, 0, cl)]).map wenc).toArray (cl + 1), ((cl : Nat) : Int), rfl, ?_, ⟨m ++ [(x, 0, cl)], cl + 1, World.putObj_heap_same hlt, ?_, ?_, ?_, fun y => ?_⟩, fun v => ?_⟩
    · have hpush : (m.map wenc).toArray.push { key := wv x, val := .int .i64 0, born := cl } = ((m ++ [(x, 0, cl)]).map wenc).toArray := by simp
      have hg0 : g x = 0 := by rw [← h5, getM_none hg]
      rw [hg0]
      simp only [Instr.mapEntry, Sem.run_bind, run_underlying Try.underlying125, Result.andThen_ok, MapKept.run_getObj_map h1, Sem.run_pure, hc, hf, zero_int, MapKept.run_setObj_map _ h1, hpush]
      rfl
    · rw [List.map_append, List.nodup_append]
      exact ⟨h2, by simp, fun a ha c hc2 hac => by simp at hc2; subst hc2; subst hac; exact hg ha⟩
    · rw [List.map_append, List.nodup_append]
      refine ⟨h3, by simp, fun a ha c hc2 hac => ?_⟩
      simp at hc2
      subst hc2
      subst hac
      obtain ⟨q, hq, e⟩ := List.mem_map.1 ha
      have := h4 q hq
      omega
    · intro q hq
      rcases List.mem_append.1 hq with hq | hq
      · have := h4 q hq; omega
      · simp at hq; subst hq; exact Nat.lt_succ_self _
    · rw [getM_snoc hg, ← h5]
      by_cases hy : y = x
      · rw [if_pos hy, hy, getM_none hg]
      · rw [if_neg hy]
    · obtain ⟨o2, r1, r2, r3⟩ := store (m ++ [(x, 0, cl)]) (cl + 1) m.length (x, 0, cl) (by
        rw [List.map_append, List.nodup_append]
        exact ⟨h2, by simp, fun a ha c hc2 hac => by simp at hc2; subst hc2; subst hac; exact hg ha⟩) (by
        rw [List.map_append, List.nodup_append]
        refine ⟨h3, by simp, fun a ha c hc2 hac => ?_⟩
        simp at hc2
        subst hc2
        subst hac
        obtain ⟨q, hq, e⟩ := List.mem_map.1 ha
        have := h4 q hq
        omega) (by
        intro q hq
        rcases List.mem_append.1 hq with hq | hq
        · have := h4 q hq; omega
        · simp at hq; subst hq; exact Nat.lt_succ_self _) (by simp) rfl v
      refine ⟨o2, r1, r2, ?_⟩
      obtain ⟨m2, c2, q1, q2, q3, q4, q5⟩ := r3
      refine ⟨m2, c2, q1, q2, q3, q4, fun y => ?_⟩
      rw [q5]
      show (if y = x then v else getM (m ++ [(x, 0, cl)]) y) = if y = x then v else g y
      rw [getM_snoc hg, ← h5]
      by_cases hy : y = x
      · rw [if_pos hy, if_pos hy]
      · rw [if_neg hy, if_neg hy, if_neg hy]
  · subst hp
    refine ⟨.map (m.map wenc).toArray cl, ((p.2.2 : Nat) : Int), rfl, ?_, ⟨m, cl, World.putObj_heap_same hlt, h2, h3, h4, h5⟩, fun v => ?_⟩
    · have hj2 : (m.map wenc).toArray[j]? = some (wenc p) := by simp [hj]
      have hmod : (m.map wenc).toArray.modify j (fun e => { e with key := wv p.1 }) = (m.map wenc).toArray := by
        apply Array.toList_inj.1
        rw [Array.toList_modify]
        have := modify_at (fun e : MapEntry => { e with key := wv p.1 }) (m.map wenc) j (wenc p) (by rw [List.getElem?_map, hj]; rfl)
        exact this.trans (WideElems.set_self _ _ _ (by rw [List.getElem?_map, hj]; rfl))
      have hk := wh_bits p.1
      simp only [Instr.mapEntry, Sem.run_bind, run_underlying Try.underlying125, Result.andThen_ok, MapKept.run_getObj_map h1, Sem.run_pure, hc, hf, hj2, Option.map_some, Option.getD_some, Instr.keyThatStays, hk, if_true, MapKept.run_setObj_map _ h1, hmod]
      rw [← h5, getM_at h2 hj]
      rfl
    · obtain ⟨o2, r1, r2, r3⟩ := store m cl j p h2 h3 h4 hj rfl v
      refine ⟨o2, r1, r2, ?_⟩
      obtain ⟨m2, c2, q1, q2, q3, q4, q5⟩ := r3
      exact ⟨m2, c2, q1, q2, q3, q4, fun y => by rw [q5]; show (if y = p.1 then v else getM m y) = if y = p.1 then v else g y; rw [h5]⟩
end
end Go.Proofs.Ytdmmceclohkkdaa
