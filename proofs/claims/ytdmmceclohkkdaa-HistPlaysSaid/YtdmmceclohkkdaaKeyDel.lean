/- slices.Delete of one key, and slices.Clone of keys. -/
import Derived.Test.YtdmmceclohkkdaaKeyGrow
namespace Go.Proofs.Ytdmmceclohkkdaa
open Go.RowKit Go.Sort
set_option maxHeartbeats 4000000
set_option maxRecDepth 100000

theorem step_append_run {P : Program} {ops : Array Oper} {o : Oper} {a : Act} {w : World} {K : Act → World → Prop} {Q : Exit → Act → World → Prop} {E : Prop}
    (hg : o.guard = none) (d x : Operand) (dT sT : TypeId) (hop : o.op = Op.call { callee := Callee.builtin Builtin.append, args := #[d, x], argTypes := #[dT, sT] })
    (v u : Value) (hd : a.eval d = v) (hx : a.eval x = u) {v' : Value} {w' : World} (hr : (Builtin.append_ #[dT, sT] o.type #[v, u]).run P w = .ok v' w') (hK : K (a.put o.dst v') w') :
    if Region.wanted o (yielded ops a.tmps) = true then Oper.wp P o a w K Q else E := by
  have hw : Region.wanted o (yielded ops a.tmps) = true := by simp [Region.wanted, hg]
  rw [if_pos hw]
  unfold Oper.wp
  simp [execOp, hop, resolve, invoke, builtin, hd, hx, hr, Result.andThen]
  exact hK
theorem run_clear_block {P : Program} (w : World) (t e ty : TypeId) (z : Value) (ht : P.underlying t = some (.slice e)) (hv : ∀ w, (zeroValue e).run P w = .ok z w) (g o n c : Nat) (hn : 0 < n) (cur : Array Value) (hg : w.heap[g]? = some (.cells cur e (0, 0)))
    (hfit : o + (Builtin.zeroCells z.cells n).toList.length ≤ cur.size) (h1 : ∀ u ∈ (Builtin.zeroCells z.cells n).toList, u.oneCell' = true) :
    (Builtin.clear_ #[t] ty #[.slice (some ⟨g, o, none⟩) n c]).run P w = .ok (.tuple #[]) (w.setRow g (cur.toList.take o ++ (Builtin.zeroCells z.cells n).toList ++ cur.toList.drop (o + (Builtin.zeroCells z.cells n).toList.length)).toArray) := by
  have hst := run_storeCells_at P g o e (Builtin.zeroCells z.cells n).toList 0 cur w hg (by simpa using hfit) h1
  simp only [Nat.add_zero] at hst
  cases n with
  | zero => omega
  | succ n => simp [Builtin.clear_, run_underlying ht, hv, hst]
theorem zeroKey (w : World) : (zeroValue 29).run Try.prog w = .ok (.agg #[.int .i64 0, .int .i64 0, .int .u32 0]) w := by
  obtain ⟨i0, hii, hz⟩ : ∃ i, Try.prog.info? 29 = some i ∧ (i.zero, i.size, i.bytes) = (some (.agg #[.int .i64 0, .int .i64 0, .int .u32 0]), 3, 24) := Option.map_eq_some_iff.1 Try.infoKey
  simp only [Prod.mk.injEq] at hz
  simp [zeroValue, typeInfo, hii, hz.1]
/-- What Delete leaves. -/
def KDel (w : World) (base : Nat) (v : Value) (l : List KW) (e : Ending) (w' : World) : Prop :=
  ∃ v', e = .returned v' ∧ KOwn w' base v' l ∧ Chg (fun j => v.ownBlock = some j) w w' ∧ v'.ownBlock = v.ownBlock
theorem kdel_list {α : Type} (A K B R Z : List α) (hZ : Z.length = K.length) (c1 : List α) (h1 : c1 = (A ++ K ++ B ++ R).take A.length ++ B ++ (A ++ K ++ B ++ R).drop (A.length + B.length)) :
    c1.take (A.length + B.length) ++ Z ++ c1.drop (A.length + B.length + Z.length) = A ++ B ++ Z ++ R := by
  have e1 : c1 = A ++ B ++ (A ++ K ++ B ++ R).drop (A.length + B.length) := by
    rw [h1]; congr 2; rw [List.append_assoc, List.append_assoc, List.take_left]
  have e2 : c1.drop (A.length + B.length + Z.length) = R := by
    have h3 : (A ++ K ++ B ++ R).drop (A.length + B.length + K.length) = R := by
      rw [show A.length + B.length + K.length = (A ++ K ++ B).length by simp; omega, List.drop_left]
    rw [e1, hZ, ← List.drop_drop, ← List.length_append, List.drop_left, List.drop_drop, List.length_append, h3]
  rw [e2, e1, ← List.length_append, List.take_left]
theorem zero_one : (Builtin.zeroCells (Value.agg #[.int .i64 0, .int .i64 0, .int .u32 0]).cells 1).toList = [.int .i64 0, .int .i64 0, .int .u32 0] := by
  simp [Builtin.zeroCells, Value.cells]
  rfl
theorem kdel_any {w : World} {base i : Nat} {v : Value} {l : List KW} (h : KOwn w base v l) (hi : i < l.length) (hl : l.length ≤ 100000) :
    Calls Try.prog 73 #[v, .int .i64 (i : Int), .int .i64 ((i : Int) + 1)] w (KDel w base v (l.eraseIdx i)) := by
  obtain ⟨i0, hii, hz⟩ : ∃ i, Try.prog.info? 29 = some i ∧ (i.zero, i.size, i.bytes) = (some (.agg #[.int .i64 0, .int .i64 0, .int .u32 0]), 3, 24) := Option.map_eq_some_iff.1 Try.infoKey
  simp only [Prod.mk.injEq] at hz
  obtain ⟨hz0, hz1, hz2⟩ := hz
  obtain ⟨g, cap, R, rfl, hb, hg, hc, hm, hs⟩ := h.form (by rintro rfl; simp at hi)
  obtain ⟨n, hn⟩ : ∃ n, l.length = n := ⟨_, rfl⟩
  rw [hn] at hi hl hc ⊢
  obtain ⟨j, ej⟩ : ∃ j, n - (i + 1) = j := ⟨_, rfl⟩
  obtain ⟨n1, en⟩ : ∃ n1, n1 + 1 = n := ⟨n - 1, by omega⟩
  obtain ⟨A, eA⟩ : ∃ A, kvs (l.take i) = A := ⟨_, rfl⟩
  obtain ⟨B, eB⟩ : ∃ B, kvs (l.drop (i + 1)) = B := ⟨_, rfl⟩
  have hli : i < l.length := by omega
  obtain ⟨K, eK⟩ : ∃ K, kc l[i] = K := ⟨_, rfl⟩
  have hAB : kvs l = A ++ K ++ B := by
    conv => lhs; rw [← List.take_append_drop i l, List.drop_eq_getElem_cons hli]
    rw [kvs_append, kvs_cons, eA, eB, eK, List.append_assoc]
  have hAl : A.length = i * 3 := by rw [← eA, kvs_length, List.length_take]; omega
  have hBl : B.length = j * 3 := by rw [← eB, kvs_length, List.length_drop, hn, ej]
  have hB1 : ∀ u ∈ B, u.oneCell' = true := by rw [← eB]; exact kvs_one _
  rw [hAB] at hg hs
  have hKl : K.length = 3 := by rw [← eK]; rfl
  obtain ⟨c1, e1⟩ : ∃ c1, c1 = (A ++ K ++ B ++ R).take A.length ++ B ++ (A ++ K ++ B ++ R).drop (A.length + B.length) := ⟨_, rfl⟩
  obtain ⟨Z, eZ⟩ : ∃ Z, (Builtin.zeroCells (Value.agg #[.int .i64 0, .int .i64 0, .int .u32 0]).cells 1).toList = Z := ⟨_, rfl⟩
  have hZ : Z = [.int .i64 0, .int .i64 0, .int .u32 0] := by rw [← eZ]; exact zero_one
  have hZl : Z.length = K.length := by rw [hZ, hKl]; rfl
  have hdel := kdel_list A K B R Z hZl c1 e1
  have hc1l : c1.length = cap * 3 := by rw [e1, ← hs]; simp; omega
  obtain ⟨ad, had, hadc⟩ : ∃ ad, (if cap = i + 1 then some (⟨g, 0, none⟩ : Addr) else some ⟨g, (i + 1) * 3, none⟩) = some ad ∧ ∀ q u, B[q]? = some u → w.drew.cell? (ad.add q) = some u := by
    by_cases hq : cap = i + 1
    · refine ⟨⟨g, 0, none⟩, by rw [if_pos hq], fun q u hu => ?_⟩
      have := (List.getElem?_eq_some_iff.1 hu).1
      omega
    · refine ⟨⟨g, (i + 1) * 3, none⟩, by rw [if_neg hq], fun q u hu => ?_⟩
      rw [addr_add]
      show w.cell? ⟨g, (i + 1) * 3 + q, none⟩ = some u
      have : (A ++ K ++ B ++ R)[(i + 1) * 3 + q]? = some u := by
        rw [List.append_assoc, List.getElem?_append_right (by simp; omega), List.length_append, hAl, hKl, show (i + 1) * 3 + q - (i * 3 + 3) = q by omega, List.getElem?_append_left (List.getElem?_eq_some_iff.1 hu).1]
        exact hu
      exact (cell_in hg _ (by simpa using this)).1
  have hap : ∀ ty, (Builtin.append_ #[22, 22] ty #[.slice (some ⟨g, 0, none⟩) i cap, .slice (some ad) j (cap - (i + 1))]).run Try.prog w.drew = .ok (.slice (some ⟨g, 0, none⟩) n1 cap) (w.drew.setRow g c1.toArray) := fun ty => by
    have := run_append_room (P := Try.prog) w.drew 22 ty 29 i0 Try.underlying22 hii g i cap (A ++ K ++ B ++ R).toArray hg ad j (cap - (i + 1)) B (by rw [hz1]; exact hBl) hadc hB1 (by omega) (by rw [hz1, hBl]; simp; omega)
    rw [this, hz1, ← hAl, show i + j = n1 by omega, e1]
  obtain ⟨W1, eW⟩ : ∃ W1, w.drew.setRow g c1.toArray = W1 := ⟨_, rfl⟩
  have hg1 : W1.heap[g]? = some (.cells c1.toArray 29 (0, 0)) := by rw [← eW]; exact setRow_heap w.drew g _ _ _ _ hg
  obtain ⟨c2, e2⟩ : ∃ c2, c2 = c1.take (n1 * 3) ++ Z ++ c1.drop (n1 * 3 + Z.length) := ⟨_, rfl⟩
  have hn13 : A.length + B.length = n1 * 3 := by omega
  have hcl : ∀ ty, (Builtin.clear_ #[22] ty #[.slice (some ⟨g, n1 * 3, none⟩) 1 (cap - n1)]).run Try.prog W1 = .ok (.tuple #[]) (W1.setRow g c2.toArray) := fun ty => by
    have := run_clear_block W1 22 29 ty _ Try.underlying22 zeroKey g (n1 * 3) 1 (cap - n1) (by omega) c1.toArray hg1 (by rw [eZ, hZl, hKl]; simp [hc1l]; omega) (by rw [eZ, hZ]; intro u hu; simp at hu; rcases hu with rfl | rfl <;> rfl)
    rw [this, eZ, e2]
  have hc2 : c2 = kvs (l.eraseIdx i) ++ (Z ++ R) := by
    rw [e2, ← hn13, hdel, List.eraseIdx_eq_take_drop_succ, kvs_append, eA, eB]
    simp
  have hel : (l.eraseIdx i).length = n1 := by rw [List.length_eraseIdx_of_lt hli]; omega
  have hend : KDel w base (.slice (some ⟨g, 0, none⟩) n cap) (l.eraseIdx i) (.returned (.slice (some ⟨g, 0, none⟩) n1 cap)) (W1.setRow g c2.toArray) := by
    refine ⟨_, rfl, KOwn.of_cells (R := Z ++ R) hb (by rw [← hc2]; exact setRow_heap W1 g _ _ _ _ hg1) (by omega) hm ?_ hel, ?_, rfl⟩
    · rw [← hc2, e2]; simp [hc1l]; omega
    · rw [← eW]
      exact Chg.setRow (S := fun j => some g = some j) (Chg.setRow (Chg.drew (Chg.refl _ _)) _ (.inr rfl)) _ (.inr rfl)
  have HEND := Lib.hid hend
  rw [eW] at hap
  have hq1 : ((i : Int) = (i : Int) + 1) = False := eq_false (by omega)
  have hq1c : ((i : Int) == (i : Int) + 1) = false := beq_false_of_ne (by omega)
  have hq3 : (cap = i) = False := eq_false (by omega)
  have hq4 : (cap = n1) = False := eq_false (by omega)
  have hq5 : i ≤ n := Nat.le_of_lt hi
  have hq6 : i + 1 ≤ n := hi
  have hq8 : n1 ≤ n := by omega
  have hq9 : i ≤ cap := Nat.le_trans hq5 hc
  have hq11 : n1 ≤ cap := Nat.le_trans hq8 hc
  have hq12 : n - n1 = 1 := by omega
  have hq13 : i + 1 ≤ cap := Nat.le_trans hq6 hc
  have hq14 : i ≤ i + 1 := Nat.le_succ i
  have hy0 : (i : Int) ≤ (i : Int) + 1 := Int.ofNat_le.2 hq14
  have hy1 : (0 : Int) ≤ (i : Int) + 1 := Int.natCast_nonneg (i + 1)
  have hy2 : (i : Int) + 1 ≤ (n : Int) := Int.ofNat_le.2 hq6
  have hy3 : ((i : Int) + 1).toNat = i + 1 := Int.toNat_natCast (i + 1)
  have hy6 : (i : Int) ≤ (cap : Int) := Int.ofNat_le.2 hq9
  have hy7 : (i : Int) + 1 ≤ (cap : Int) := Int.ofNat_le.2 hq13
  have mixed : Try.prog.follows .mixedOrders = true := by kernel_rfl
  clear hend hc2 e2 e1 hdel hB1 hc1l hAl hBl hAB eA eB hg hs hm hg1 hl eW hel hZ hZl eZ hKl eK hadc hn13 en hi hn h hb hli
  go_enter Try.func73, Try.ntmps73
  go_wp2_with fail
  go_region_law_o (refine step_append_run rfl _ _ 22 22 rfl _ _ (by simp [Act.eval, Act.put]) (by simp [Act.eval, Act.put]) (hap _) ?_)
  go_wp2_with fail
  go_ret
  exact HEND.out
end Go.Proofs.Ytdmmceclohkkdaa
