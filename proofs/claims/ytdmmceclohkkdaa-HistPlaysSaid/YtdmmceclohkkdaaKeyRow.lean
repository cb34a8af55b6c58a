/- Slices of api.Keys: rows of three cells each. -/
import Derived.Test.YtdmmceclohkkdaaKeyMap
import Derived.Test.YtdmmceclohkkdaaMisc
import Derived.Lib.Overlaps
import Derived.Laws.Externs
import Derived.Lib.AppendZeros
import Derived.Deep.AppendLies
import Derived.Shelf.RegionOpenPlain
namespace Go.Proofs.Ytdmmceclohkkdaa
open Go.RowKit Go.Sort
set_option maxHeartbeats 4000000
set_option maxRecDepth 100000

theorem Try.infoKey : (Try.prog.info? 29).map (fun i => (i.zero, i.size, i.bytes)) = some (some (.agg #[.int .i64 0, .int .i64 0, .int .u32 0]), 3, 24) := by kernel_rfl
abbrev kc (k : KW) : List Value := [.int .i64 k.t, .int .i64 k.f, .int .u32 k.s]
abbrev kvs (l : List KW) : List Value := l.flatMap kc
theorem kc_one : ∀ (k : KW), ∀ u ∈ kc k, u.oneCell' = true := by
  intro k u hu
  simp only [kc, List.mem_cons, List.not_mem_nil, or_false] at hu
  rcases hu with rfl | rfl | rfl <;> rfl
theorem kvs_one (l : List KW) : ∀ u ∈ kvs l, u.oneCell' = true := rows_one (f := kc) kc_one l
theorem kvs_length (l : List KW) : (kvs l).length = l.length * 3 := rows_length (f := kc) (k := 3) (fun _ => rfl) l
theorem kvs_append (l m : List KW) : kvs (l ++ m) = kvs l ++ kvs m := by simp [kvs]
theorem kvs_cons (k : KW) (m : List KW) : kvs (k :: m) = kc k ++ kvs m := rfl

/-- A slice of keys of its own. -/
abbrev KOwn (w : World) (base : Nat) (v : Value) (l : List KW) : Prop := w.ownsRow base 29 3 v l.length (kvs l)
/-- A slice of keys, wherever it lies. -/
def KHas (w : World) (v : Value) (l : List KW) : Prop := (l = [] ∧ ∃ a cap, v = .slice a 0 cap) ∨ ∃ g o cap, v = .slice (some ⟨g, o, none⟩) l.length cap ∧ l.length ≤ cap ∧ g < w.heap.size ∧ RAt kc 3 w g o l
theorem KHas.grows {w w' : World} {v : Value} {l : List KW} (h : KHas w v l) (hg : Grows w w') : KHas w' v l := by
  rcases h with h | ⟨g, o, cap, h1, h2, h3, h4⟩
  · exact .inl h
  · exact .inr ⟨g, o, cap, h1, h2, Nat.lt_of_lt_of_le h3 hg.size, h4.grows hg h3⟩
theorem kown_has {w : World} {base : Nat} {v : Value} {l : List KW} (h : KOwn w base v l) : KHas w v l := by
  rcases own_rows (f := kc) (k := 3) (fun _ => rfl) rfl h with ⟨rfl, rfl⟩ | ⟨g, cap, rfl, hc, _, hg, hat⟩
  · exact .inl ⟨rfl, none, 0, rfl⟩
  · exact .inr ⟨g, 0, cap, rfl, hc, hg, hat⟩
theorem KHas.form {w : World} {v : Value} {l : List KW} {n : Nat} (h : KHas w v l) (hn : l.length = n) (h0 : 0 < n) : ∃ g o cap, v = .slice (some ⟨g, o, none⟩) n cap ∧ n ≤ cap ∧ g < w.heap.size ∧ RAt kc 3 w g o l := by
  rcases h with ⟨rfl, _⟩ | ⟨g, o, cap, h1, h2, h3, h4⟩
  · simp at hn; omega
  · exact ⟨g, o, cap, by rw [h1, hn], by omega, h3, h4⟩
theorem KHas.len {w : World} {v : Value} {l : List KW} {n : Nat} (h : KHas w v l) (hn : l.length = n) : ∃ a cap, v = .slice a n cap := by
  rcases h with ⟨rfl, a, cap, rfl⟩ | ⟨g, o, cap, rfl, _, _⟩
  · exact ⟨a, cap, by rw [← hn]; rfl⟩
  · exact ⟨_, cap, by rw [hn]⟩
theorem kat_cells {w : World} {g o : Nat} {l : List KW} (h : RAt kc 3 w g o l) (i : Nat) (hi : i < l.length) : w.cell? ⟨g, o + i * 3, none⟩ = some (.int .i64 l[i].t) ∧ w.cell? ⟨g, o + i * 3 + 1, none⟩ = some (.int .i64 l[i].f) ∧ w.cell? ⟨g, o + i * 3 + 2, none⟩ = some (.int .u32 l[i].s) :=
  ⟨h i hi 0 (by omega), h i hi 1 (by omega), h i hi 2 (by omega)⟩
/-- A slice of keys that is no nil: its block. -/
theorem KOwn.form {w : World} {base : Nat} {v : Value} {l : List KW} (h : KOwn w base v l) (h0 : l ≠ []) : ∃ g cap R, v = .slice (some ⟨g, 0, none⟩) l.length cap ∧ base ≤ g ∧ w.heap[g]? = some (.cells (kvs l ++ R).toArray 29 (0, 0)) ∧ l.length ≤ cap ∧ cap ≤ maxLen ∧ (kvs l ++ R).length = cap * 3 := by
  rcases h.2 with ⟨-, h1⟩ | ⟨g, cap, cur, rfl, h1, h2, h3, h4, h5, h6⟩
  · exact absurd (List.eq_nil_of_length_eq_zero h1) h0
  · have he : kvs l ++ cur.toList.drop (l.length * 3) = cur.toList := by rw [← h6, List.take_append_drop]
    exact ⟨g, cap, cur.toList.drop (l.length * 3), rfl, h1, by rw [he]; exact h2, h3, h4, by rw [he]; simpa using h5⟩
theorem KOwn.of_cells {w : World} {base g cap : Nat} {l : List KW} {R : List Value} (hb : base ≤ g) (hg : w.heap[g]? = some (.cells (kvs l ++ R).toArray 29 (0, 0))) (hc : l.length ≤ cap) (hm : cap ≤ maxLen) (hs : (kvs l ++ R).length = cap * 3) {n : Nat} (hn : l.length = n) :
    KOwn w base (.slice (some ⟨g, 0, none⟩) n cap) l := by
  subst hn
  refine ⟨kvs_length l, .inr ⟨g, cap, _, rfl, hb, hg, hc, hm, by simpa using hs, ?_⟩⟩
  simp only [← kvs_length l, List.take_left]

theorem shift_list {α : Type} (A B R K : List α) (m : Nat) (hK : K.length = m) (hR : m ≤ R.length) (c1 : List α) (h1 : c1 = (A ++ B ++ R).take (A.length + m) ++ B ++ (A ++ B ++ R).drop (A.length + m + B.length)) :
    c1.take A.length ++ K ++ c1.drop (A.length + K.length) = A ++ K ++ B ++ R.drop m := by
  have hl : ((A ++ B ++ R).take (A.length + m)).length = A.length + m := by rw [List.length_take]; simp; omega
  have e1 : c1.take A.length = A := by
    rw [h1, List.append_assoc, List.take_append_of_le_length (by omega), List.take_take, Nat.min_eq_left (by omega), List.append_assoc, List.take_left]
  have e2 : c1.drop (A.length + m) = B ++ R.drop m := by
    rw [h1, List.append_assoc]
    have := List.drop_left (l₁ := (A ++ B ++ R).take (A.length + m)) (l₂ := B ++ (A ++ B ++ R).drop (A.length + m + B.length))
    rw [hl] at this
    rw [this]
    congr 1
    rw [show A.length + m + B.length = (A ++ B).length + m by simp; omega, List.drop_append]
    simp
  rw [e1, hK, e2]
  simp
theorem fill_list {α : Type} (A Z K B : List α) (hZ : K.length + B.length ≤ Z.length) (c1 : List α) (h1 : c1 = (A ++ Z).take A.length ++ K ++ (A ++ Z).drop (A.length + K.length)) :
    c1.take (A.length + K.length) ++ B ++ c1.drop (A.length + K.length + B.length) = A ++ K ++ B ++ Z.drop (K.length + B.length) := by
  have e1 : c1 = A ++ K ++ Z.drop K.length := by
    rw [h1, List.take_left, List.drop_append]
    simp
  rw [e1, ← List.length_append, List.take_left, List.drop_append]
  simp [List.drop_drop]

/-- 'copy' as one step, where its run is known. -/
theorem wpList_copy {P : Program} (w : World) {ops : Array Oper} {rest : List Oper} {o : Oper} {a : Act} {Q : Exit → Act → World → Prop} (hgd : o.guard = none) (d s : Operand) (t t' : TypeId)
    (ho : o.op = .call { callee := .builtin .copy, args := #[d, s], argTypes := #[t, t'] }) (v u : Value) (hd : a.eval d = v) (hs : a.eval s = u) {v' : Value} {w' : World}
    (hr : (Builtin.copy_ #[t, t'] o.type #[v, u]).run P w = .ok v' w') (h : wpList P ops Q rest (a.put o.dst v') w') : wpList P ops Q (o :: rest) a w :=
  wpList_plain hgd fun _ hK => by
    unfold Oper.wp execOp
    simp only [ho, resolve, invoke, builtin, Sem.run_bind, Sem.run_pure, Result.andThen_ok, List.map_toArray, List.map_cons, List.map_nil, hd, hs, hr]
    exact hK _ _ h
theorem step_copy {P : Program} {ops : Array Oper} {o : Oper} {a : Act} {w : World} {K : Act → World → Prop} {Q : Exit → Act → World → Prop} {E : Prop}
    (hg : o.guard = none) (d x : Operand) (dT sT : TypeId) (hop : o.op = Op.call { callee := Callee.builtin Builtin.copy, args := #[d, x], argTypes := #[dT, sT] })
    (v u : Value) (hd : a.eval d = v) (hx : a.eval x = u) {v' : Value} {w' : World} (hr : (Builtin.copy_ #[dT, sT] o.type #[v, u]).run P w = .ok v' w') (hK : K (a.put o.dst v') w') :
    if Region.wanted o (yielded ops a.tmps) = true then Oper.wp P o a w K Q else E := by
  have hw : Region.wanted o (yielded ops a.tmps) = true := by simp [Region.wanted, hg]
  rw [if_pos hw]
  unfold Oper.wp
  simp [execOp, hop, resolve, invoke, builtin, hd, hx, hr, Result.andThen]
  exact hK
theorem ob_slice (a : Option Addr) (n c c' : Nat) : (Value.slice a n c).ownBlock = (Value.slice a n c').ownBlock := by cases a <;> rfl
/-- What Insert leaves. -/
def KIns (w : World) (base : Nat) (v : Value) (l : List KW) (e : Ending) (w' : World) : Prop :=
  ∃ v', e = .returned v' ∧ KOwn w' base v' l ∧ Chg (fun j => v.ownBlock = some j) w w' ∧ ∀ j, v'.ownBlock = some j → v.ownBlock = some j ∨ w.heap.size ≤ j
theorem sizeKey (w : World) : (Go.sizeOf 29).run Try.prog w = .ok 3 w := by
  cases hq : Try.prog.info? 29 with
  | none => have := Try.infoKey; rw [hq] at this; cases this
  | some i =>
    have h := Try.infoKey
    rw [hq] at h
    simp only [Option.map_some, Option.some.injEq, Prod.mk.injEq] at h
    simp [Go.sizeOf, typeInfo, hq, h.2.1]
/-- At the end. -/
theorem kins_end {w : World} {base vb : Nat} {v : Value} {l : List KW} (k : KW) (h : KOwn w base v l) (hl : l.length ≤ 100000) (hvb : w.heap[vb]? = some (.cells #[.int .i64 k.t, .int .i64 k.f, .int .u32 k.s] 29 (0, 0))) (hbase : base ≤ w.heap.size) :
    Calls Try.prog 60 #[v, .int .i64 (l.length : Int), .slice (some ⟨vb, 0, none⟩) 1 1] w (KIns w base v (l ++ [k])) := by
  obtain ⟨i0, hi, hz⟩ : ∃ i, Try.prog.info? 29 = some i ∧ (i.zero, i.size, i.bytes) = (some (.agg #[.int .i64 0, .int .i64 0, .int .u32 0]), 3, 24) := Option.map_eq_some_iff.1 Try.infoKey
  simp only [Prod.mk.injEq] at hz
  obtain ⟨hz0, hz1, hz2⟩ := hz
  obtain ⟨n, en⟩ : ∃ n, l.length = n := ⟨_, rfl⟩
  obtain ⟨a, cap, rfl⟩ := (kown_has h).len en
  have hcap : n ≤ cap := by
    rcases kown_has h with ⟨rfl, a, c, h1⟩ | ⟨g, o, c, h1, h2, _⟩
    · simp at en; omega
    · cases h1; omega
  have HO := Lib.hid h
  have EN := Lib.hid en
  have HV := Lib.hid hvb
  have HL := Lib.hid hl
  have HB := Lib.hid hbase
  rw [en]
  clear h hl hvb en hbase
  have hnn : ((n : Int) = (n : Int)) = True := eq_self _
  have hle : (n : Int) ≤ (cap : Int) := Int.ofNat_le.2 hcap
  go_enter Try.func60, Try.ntmps60
  go_wp2_with (first | (at_builtin; refine wpList_append_lies _ rfl _ _ 22 rfl base 29 i0 _ 3 24 Try.underlying22 hi hz0 hz1 hz2 rfl (by decide) (.slice a n cap) l.length (kvs l) rfl ?c0 ⟨vb, 0, none⟩ 1 1 (kc k) rfl ?c1 ?c2 ?c3 ?c4 ?c5 ?c6 ?c7 _ rfl ?_))
  all_goals first
    | exact HO.out
    | exact HB.out
    | (have h1 := HL.out; unfold maxLen; omega)
    | (have h1 := HL.out; omega)
    | decide
    | (intro j u hj; exact (cell_in HV.out j (by simpa [kc] using hj)).1)
    | exact ⟨rfl, rfl, rfl⟩
    | skip
  all_goals (
    intro g c2 w' hown hgr hat _
    go_wp2_with fail
    go_ret
    have hgr' : w.grownBy w' (Value.slice a n cap).ownBlock := by rw [ob_slice a n cap n]; first | exact hgr | (rw [ob_slice a n n cap]; exact hgr)
    have hat' : (Value.slice a n cap).ownBlock = some g ∨ g = w.heap.size := by rw [ob_slice a n cap n]; first | exact hat | (rw [ob_slice a n n cap]; exact hat)
    refine ⟨.slice (some ⟨g, 0, none⟩) (l.length + 1) c2, rfl, ?_, Chg.ofRow hgr', ?_⟩
    · have h1 := hown
      rw [EN.out] at h1
      have e1 : (l ++ [k]).length = n + 1 := by rw [List.length_append, EN.out]; rfl
      have e2 : kvs (l ++ [k]) = kvs l ++ kc k := by rw [kvs_append, kvs_cons]; simp
      show w'.ownsRow base _ 3 _ (l ++ [k]).length (kvs (l ++ [k]))
      rw [e1, e2]
      first | exact h1 | (rw [EN.out]; exact h1)
    · intro j hj
      simp only [Value.ownBlock, Option.some.injEq] at hj
      subst hj
      rcases hat' with h | h
      · exact .inl h
      · exact .inr (Nat.le_of_eq h.symm))
/-- In the midst, with room for it. -/
theorem kins_room {w : World} {base vb g cap n i : Nat} {R : List Value} {l : List KW} (k : KW) (hn : l.length = n) (hi : i < n) (hl : n ≤ 100000) (hb : base ≤ g) (hg : w.heap[g]? = some (.cells (kvs l ++ R).toArray 29 (0, 0))) (hc : n < cap) (hm : cap ≤ maxLen) (hs : (kvs l ++ R).length = cap * 3)
    (hvb : w.heap[vb]? = some (.cells #[.int .i64 k.t, .int .i64 k.f, .int .u32 k.s] 29 (0, 0))) (hne : vb ≠ g) :
    Calls Try.prog 60 #[.slice (some ⟨g, 0, none⟩) n cap, .int .i64 (i : Int), .slice (some ⟨vb, 0, none⟩) 1 1] w (KIns w base (.slice (some ⟨g, 0, none⟩) n cap) (l.take i ++ k :: l.drop i)) := by
  obtain ⟨i0, hii, hz⟩ : ∃ i, Try.prog.info? 29 = some i ∧ (i.zero, i.size, i.bytes) = (some (.agg #[.int .i64 0, .int .i64 0, .int .u32 0]), 3, 24) := Option.map_eq_some_iff.1 Try.infoKey
  simp only [Prod.mk.injEq] at hz
  obtain ⟨hz0, hz1, hz2⟩ := hz
  have hov : ∀ lb cb, (callFunc 86 #[.slice (some ⟨vb, 0, none⟩) 1 1, .slice (some ⟨g, (i + 1) * 3, none⟩) lb cb]).run Try.prog w = .ok (.value (.bool false)) w := fun lb cb => by
    rw [run_callFunc_extern Try.func86 (by kernel_rfl) (by kernel_rfl) (by kernel_rfl) (e := Extern.SlicesOverlaps.overlaps #[22, 22] #[4]) (by kernel_rfl),
      Lib.run_overlaps_apart w 22 4 29 Try.underlying22 3 sizeKey ⟨vb, 0, none⟩ ⟨g, (i + 1) * 3, none⟩ 1 1 lb cb hne 29 29 3 (cap * 3)
        (by simp [World.shape?, hvb]) (by rw [← hs]; simp [World.shape?, hg]) (by omega) (by simp [World.frozen?, hvb]) (by simp [World.frozen?, hvb])]
    rfl
  -- the two copies
  obtain ⟨A, eA⟩ : ∃ A, kvs (l.take i) = A := ⟨_, rfl⟩
  obtain ⟨B, eB⟩ : ∃ B, kvs (l.drop i) = B := ⟨_, rfl⟩
  have hAB : kvs l = A ++ B := by rw [← eA, ← eB, ← kvs_append, List.take_append_drop]
  have hAl : A.length = i * 3 := by rw [← eA, kvs_length, List.length_take]; omega
  have hBl : B.length = (n - i) * 3 := by rw [← eB, kvs_length, List.length_drop, hn]
  have hRl : 3 ≤ R.length := by rw [List.length_append, hAB, List.length_append] at hs; omega
  rw [hAB] at hg hs
  obtain ⟨c1, e1⟩ : ∃ c1, c1 = (A ++ B ++ R).take (A.length + 3) ++ B ++ (A ++ B ++ R).drop (A.length + 3 + B.length) := ⟨_, rfl⟩
  have hshift := shift_list A B R (kc k) 3 rfl hRl c1 e1
  rw [show (kc k).length = 3 from rfl] at hshift
  have hB1 : ∀ u ∈ B, u.oneCell' = true := by rw [← eB]; exact kvs_one _
  have hc1l : c1.length = cap * 3 := by rw [e1, ← hs]; simp; omega
  have hcp1 : ∀ ty dc sc, (Builtin.copy_ #[22, 22] ty #[.slice (some ⟨g, (i + 1) * 3, none⟩) (n - i) dc, .slice (some ⟨g, i * 3, none⟩) (n + 1 - i) sc]).run Try.prog w.drew = .ok (goInt ((n - i : Nat) : Int)) (w.drew.setRow g c1.toArray) := fun ty dc sc => by
    have := run_copy_block w.drew 22 22 ty 29 i0 Try.underlying22 hii g ((i + 1) * 3) (n - i) dc (A ++ B ++ R).toArray hg ⟨g, i * 3, none⟩ (n + 1 - i) sc (n - i) B (by simp only [Nat.min_def]; split <;> omega) (by rw [hz1]; exact hBl)
      (fun j u hj => by
        rw [addr_add]
        show w.cell? ⟨g, i * 3 + j, none⟩ = some u
        have : (A ++ B ++ R)[i * 3 + j]? = some u := by
          rw [List.append_assoc, List.getElem?_append_right (by omega), hAl, Nat.add_sub_cancel_left, List.getElem?_append_left (List.getElem?_eq_some_iff.1 hj).1]; exact hj
        exact (cell_in hg _ (by simpa using this)).1) hB1 (by simp; omega)
    rw [this, e1, hAl, show (i + 1) * 3 = i * 3 + 3 by omega]
  obtain ⟨W1, eW⟩ : ∃ W1, w.drew.setRow g c1.toArray = W1 := ⟨_, rfl⟩
  have hg1 : W1.heap[g]? = some (.cells c1.toArray 29 (0, 0)) := by rw [← eW]; exact setRow_heap w.drew g _ _ _ _ hg
  have hvb1 : W1.heap[vb]? = some (.cells #[.int .i64 k.t, .int .i64 k.f, .int .u32 k.s] 29 (0, 0)) := by rw [← eW, setRow_other _ _ _ _ hne]; exact hvb
  obtain ⟨c2, e2⟩ : ∃ c2, c2 = c1.take (i * 3) ++ kc k ++ c1.drop (i * 3 + 3) := ⟨_, rfl⟩
  have hcp2 : ∀ ty dc, (Builtin.copy_ #[22, 22] ty #[.slice (some ⟨g, i * 3, none⟩) (n + 1 - i) dc, .slice (some ⟨vb, 0, none⟩) 1 1]).run Try.prog W1 = .ok (goInt 1) (W1.setRow g c2.toArray) := fun ty dc => by
    have := run_copy_block W1 22 22 ty 29 i0 Try.underlying22 hii g (i * 3) (n + 1 - i) dc c1.toArray hg1 ⟨vb, 0, none⟩ 1 1 1 (kc k) (by simp only [Nat.min_def]; split <;> omega) (by rw [hz1]; rfl)
      (fun j u hj => by rw [addr_add]; exact (cell_in hvb1 _ (by simpa [kc] using hj)).1) (kc_one k) (by simp; omega)
    rw [this, e2]
    rfl
  have hc2 : c2 = kvs (l.take i ++ k :: l.drop i) ++ R.drop 3 := by
    rw [e2, ← hAl, hshift, kvs_append, kvs_cons, eA, eB]
    simp
  have hend : KIns w base (.slice (some ⟨g, 0, none⟩) n cap) (l.take i ++ k :: l.drop i) (.returned (.slice (some ⟨g, 0, none⟩) (n + 1) cap)) (W1.setRow g c2.toArray) := by
    refine ⟨_, rfl, KOwn.of_cells (R := R.drop 3) hb (by rw [← hc2]; exact setRow_heap W1 g _ _ _ _ hg1) ?_ hm ?_ ?_, ?_, fun j hj => .inl hj⟩
    · simp; omega
    · rw [← hc2, e2]; simp; omega
    · simp; omega
    · rw [← eW]
      exact Chg.setRow (S := fun j => some g = some j) (Chg.setRow (Chg.drew (Chg.refl _ _)) _ (.inr rfl)) _ (.inr rfl)
  have HEND := Lib.hid hend
  rw [eW] at hcp1
  have hq1 : ((i : Int) = (n : Int)) = False := eq_false (by omega)
  have hq2 : (((n + 1 : Nat) : Int) > (cap : Int)) = False := eq_false (by omega)
  have hq3 : (cap = i) = False := eq_false (by omega)
  have hq4 : (cap = i + 1) = False := eq_false (by omega)
  have hq5 : i ≤ n := Nat.le_of_lt hi
  have hq6 : n + 1 ≤ cap := hc
  have hq7 : i + 1 ≤ n + 1 := Nat.succ_le_succ hq5
  have hq8 : i ≤ n + 1 := Nat.le_succ_of_le hq5
  have hq9 : i ≤ cap := Nat.le_trans hq8 hq6
  have hw1 : wrap64 ((n : Int) + 1) = ((n + 1 : Nat) : Int) := wrap_succ (Nat.le_trans hl (by decide))
  have hw2 : wrap64 ((i : Int) + 1) = ((i + 1 : Nat) : Int) := wrap_succ (Nat.le_trans (Nat.le_of_lt hi) (Nat.le_trans hl (by decide)))
  have mixed : Try.prog.follows .mixedOrders = true := by kernel_rfl
  have hy1 : (0 : Int) ≤ (i : Int) + 1 := Int.natCast_nonneg (i + 1)
  have hy2 : (i : Int) + 1 ≤ (n : Int) + 1 := Int.ofNat_le.2 (Nat.succ_le_succ hq5)
  have hy3 : ((i : Int) + 1).toNat = i + 1 := Int.toNat_natCast (i + 1)
  have hy4 : IntKind.i64.wrap ((i : Int) + 1) = (i : Int) + 1 := (wrapEq _).trans (wrap_succ (Nat.le_trans (Nat.le_of_lt hi) (Nat.le_trans hl (by decide))))
  have hy5 : (i : Int) ≤ (n : Int) + 1 := Int.ofNat_le.2 hq8
  clear hend hc2 e2 e1 hshift hB1 hc1l hRl hAl hBl hAB eA eB hg hs hm hg1 hvb1 hvb hl eW
  go_enter Try.func60, Try.ntmps60
  go_wp2_with (simp only [hov])
  go_region_law_o (refine step_copy rfl _ _ 22 22 rfl _ _ (by simp [Act.eval, Act.put]) (by simp [Act.eval, Act.put]) (hcp1 _ _ _) ?_)
  go_wp2_with (at_builtin; refine wpList_copy _ rfl _ _ 22 22 rfl _ _ rfl rfl (hcp2 _ _) ?_)
  go_ret
  exact HEND.out
end Go.Proofs.Ytdmmceclohkkdaa
