/- slices.Insert at keys: with no room. -/
import Derived.Test.YtdmmceclohkkdaaKeyRow
namespace Go.Proofs.Ytdmmceclohkkdaa
open Go.RowKit Go.Sort
set_option maxHeartbeats 4000000
set_option maxRecDepth 100000
def Held (p : Prop) : Prop := p
theorem held {p : Prop} (h : Held p) : p := h
/-- In the midst, with no room for it: a new row. -/
theorem kins_grow {w : World} {base vb g cap n i : Nat} {R : List Value} {l : List KW} (k : KW) (hn : l.length = n) (hi : i < n) (hl : n ≤ 100000) (hb : base ≤ w.heap.size) (hg : w.heap[g]? = some (.cells (kvs l ++ R).toArray 29 (0, 0))) (hc : cap < n + 1) (hnc : n ≤ cap)
    (hvb : w.heap[vb]? = some (.cells #[.int .i64 k.t, .int .i64 k.f, .int .u32 k.s] 29 (0, 0))) :
    Calls Try.prog 60 #[.slice (some ⟨g, 0, none⟩) n cap, .int .i64 (i : Int), .slice (some ⟨vb, 0, none⟩) 1 1] w (KIns w base (.slice (some ⟨g, 0, none⟩) n cap) (l.take i ++ k :: l.drop i)) := by
  obtain ⟨i0, hii, hz⟩ : ∃ i, Try.prog.info? 29 = some i ∧ (i.zero, i.size, i.bytes) = (some (.agg #[.int .i64 0, .int .i64 0, .int .u32 0]), 3, 24) := Option.map_eq_some_iff.1 Try.infoKey
  simp only [Prod.mk.injEq] at hz
  obtain ⟨hz0, hz1, hz2⟩ := hz
  obtain ⟨m, em⟩ : ∃ m, i + m = n + 1 := ⟨n + 1 - i, by omega⟩
  obtain ⟨A, eA⟩ : ∃ A, kvs (l.take i) = A := ⟨_, rfl⟩
  obtain ⟨B, eB⟩ : ∃ B, kvs (l.drop i) = B := ⟨_, rfl⟩
  have hAB : kvs l = A ++ B := by rw [← eA, ← eB, ← kvs_append, List.take_append_drop]
  have hAl : A.length = i * 3 := by rw [← eA, kvs_length, List.length_take]; omega
  have hBl : B.length = (n - i) * 3 := by rw [← eB, kvs_length, List.length_drop, hn]
  have hB1 : ∀ u ∈ B, u.oneCell' = true := by rw [← eB]; exact kvs_one _
  rw [hAB] at hg
  obtain ⟨G, eG⟩ : ∃ G, w.heap.size = G := ⟨_, rfl⟩
  obtain ⟨C2, eC⟩ : ∃ C2, grownCap w (n + 1) cap 29 = C2 := ⟨_, rfl⟩
  have hC1 : n + 1 ≤ C2 := by rw [← eC]; exact grownCap_ge _ _ _ _
  have hC2 : C2 ≤ maxLen := by rw [← eC]; exact grownCap_le_maxLen _ _ _ _ (by unfold maxLen; omega)
  obtain ⟨Z, eZ⟩ : ∃ Z : List Value, (Builtin.zeroCells #[.int .i64 0, .int .i64 0, .int .u32 0] m ++ Builtin.zeroCells #[.int .i64 0, .int .i64 0, .int .u32 0] (C2 - (n + 1))).toList = Z := ⟨_, rfl⟩
  have hZl : Z.length = (m + (C2 - (n + 1))) * 3 := by rw [← eZ]; simp [size_zeroCells]; omega
  have hgl : g < w.heap.size := (Array.getElem?_eq_some_iff.1 hg).1
  have hvl : vb < w.heap.size := (Array.getElem?_eq_some_iff.1 hvb).1
  have hap : ∀ ty, (Builtin.append_ #[22, 3] ty #[.slice (some ⟨g, 0, none⟩) i cap, .int .i64 (m : Int)]).run Try.prog w = .ok (.slice (some ⟨G, 0, none⟩) (n + 1) C2) (w.drew.alloc (.cells (A ++ Z).toArray 29)) := fun ty => by
    have := run_zeros_grow (P := Try.prog) w 22 3 ty 29 i0 _ .i64 .i64 Try.underlying22 Try.underlying3 hii hz0 ⟨g, 0, none⟩ i cap A (by rw [hz1]; exact hAl)
      (fun j u hj => by
        rw [addr_add, Nat.zero_add]
        exact (cell_in hg j (by simpa [List.append_assoc, List.getElem?_append_left (List.getElem?_eq_some_iff.1 hj).1] using hj)).1)
      m (by omega) (by omega) (by omega) (by omega) (by rw [hz2]; omega) (growslice_fits (by omega) (by rw [hz2]; omega))
    rw [this, em, eC, eG, ← eZ]
    simp [Value.cells]
    congr 2
    apply Array.ext'
    simp
  obtain ⟨W0, eW0⟩ : ∃ W0, w.drew.alloc (.cells (A ++ Z).toArray 29) = W0 := ⟨_, rfl⟩
  have hg0 : W0.heap[G]? = some (.cells (A ++ Z).toArray 29 (0, 0)) := by rw [← eW0, ← eG]; exact heap_alloc_new w.drew _
  have hgr0 : Grows w W0 := by rw [← eW0]; exact bl_alloc (bl_drew (Below.refl _ _)) _
  have hvb0 := box_grows hvb hgr0
  have hgg0 := box_grows hg hgr0
  obtain ⟨c1, e1⟩ : ∃ c1, c1 = (A ++ Z).take A.length ++ kc k ++ (A ++ Z).drop (A.length + (kc k).length) := ⟨_, rfl⟩
  have hfill := fill_list A Z (kc k) B (by rw [hBl, hZl, show (kc k).length = 3 from rfl]; omega) c1 e1
  rw [show (kc k).length = 3 from rfl] at hfill e1
  have hc1l : c1.length = C2 * 3 := by rw [e1]; simp [hAl, hZl]; omega
  have hcp1 : ∀ ty dc, (Builtin.copy_ #[22, 22] ty #[.slice (some ⟨G, i * 3, none⟩) (n + 1 - i) dc, .slice (some ⟨vb, 0, none⟩) 1 1]).run Try.prog W0 = .ok (goInt 1) (W0.setRow G c1.toArray) := fun ty dc => by
    have := run_copy_block W0 22 22 ty 29 i0 Try.underlying22 hii G (i * 3) (n + 1 - i) dc (A ++ Z).toArray hg0 ⟨vb, 0, none⟩ 1 1 1 (kc k) (by simp only [Nat.min_def]; split <;> omega) (by rw [hz1]; rfl)
      (fun j u hj => by rw [addr_add]; exact (cell_in hvb0 _ (by simpa [kc] using hj)).1) (kc_one k) (by simp [hAl, hZl]; omega)
    rw [this, e1, hAl]
    rfl
  obtain ⟨W1, eW⟩ : ∃ W1, W0.setRow G c1.toArray = W1 := ⟨_, rfl⟩
  have hg1 : W1.heap[G]? = some (.cells c1.toArray 29 (0, 0)) := by rw [← eW]; exact setRow_heap W0 G _ _ _ _ hg0
  have hgg1 : W1.heap[g]? = some (.cells (A ++ B ++ R).toArray 29 (0, 0)) := by rw [← eW, setRow_other _ _ _ _ (by omega)]; exact hgg0
  obtain ⟨c2, e2⟩ : ∃ c2, c2 = c1.take (i * 3 + 3) ++ B ++ c1.drop (i * 3 + 3 + B.length) := ⟨_, rfl⟩
  have hcp2 : ∀ ty dc sc, (Builtin.copy_ #[22, 22] ty #[.slice (some ⟨G, (i + 1) * 3, none⟩) (n - i) dc, .slice (some ⟨g, i * 3, none⟩) (n - i) sc]).run Try.prog W1.drew = .ok (goInt ((n - i : Nat) : Int)) (W1.drew.setRow G c2.toArray) := fun ty dc sc => by
    have := run_copy_block W1.drew 22 22 ty 29 i0 Try.underlying22 hii G ((i + 1) * 3) (n - i) dc c1.toArray hg1 ⟨g, i * 3, none⟩ (n - i) sc (n - i) B (by simp only [Nat.min_def]; split <;> omega) (by rw [hz1]; exact hBl)
      (fun j u hj => by
        rw [addr_add]
        show W1.cell? ⟨g, i * 3 + j, none⟩ = some u
        have : (A ++ B ++ R)[i * 3 + j]? = some u := by
          rw [List.append_assoc, List.getElem?_append_right (by omega), hAl, Nat.add_sub_cancel_left, List.getElem?_append_left (List.getElem?_eq_some_iff.1 hj).1]; exact hj
        exact (cell_in hgg1 _ (by simpa using this)).1) hB1 (by simp [hc1l, hBl]; omega)
    rw [this, e2, show (i + 1) * 3 = i * 3 + 3 by omega]
  have hc2 : c2 = kvs (l.take i ++ k :: l.drop i) ++ Z.drop (3 + B.length) := by
    rw [e2, ← hAl, hfill, kvs_append, kvs_cons, eA, eB]
    simp
  have hend : KIns w base (.slice (some ⟨g, 0, none⟩) n cap) (l.take i ++ k :: l.drop i) (.returned (.slice (some ⟨G, 0, none⟩) (n + 1) C2)) (W1.drew.setRow G c2.toArray) := by
    refine ⟨_, rfl, KOwn.of_cells (R := Z.drop (3 + B.length)) (by rw [← eG]; exact hb) (by rw [← hc2]; exact setRow_heap W1.drew G _ _ _ _ hg1) ?_ hC2 ?_ ?_, ?_, fun j hj => .inr ?_⟩
    · simp; omega
    · rw [← hc2, e2]; simp [hc1l, hBl]; omega
    · simp; omega
    · rw [← eW]
      exact Chg.setRow (S := fun j => some g = some j) (Chg.drew (Chg.setRow (Chg.ofGrows hgr0) _ (.inl (Nat.le_of_eq eG)))) _ (.inl (Nat.le_of_eq eG))
    · simp only [Value.ownBlock, Option.some.injEq] at hj
      subst hj
      exact Nat.le_of_eq eG
  have HEND := Lib.hid hend
  rw [eW0] at hap
  rw [eW] at hcp1
  have hq1 : ((i : Int) = (n : Int)) = False := eq_false (by omega)
  have hq1b : (i = n) = False := eq_false (by omega)
  have hq1c : ((i : Int) == (n : Int)) = false := beq_false_of_ne (by omega)
  have hq2 : ((cap : Int) < (n : Int) + 1) = True := eq_true (by omega)
  have hq3 : (cap = i) = False := eq_false (by omega)
  have hq4 : (C2 = i) = False := eq_false (by omega)
  have hq10 : (C2 = i + 1) = False := eq_false (by omega)
  have hq5 : i ≤ n := Nat.le_of_lt hi
  have hq7 : i + 1 ≤ n + 1 := Nat.succ_le_succ hq5
  have hq8 : i ≤ n + 1 := Nat.le_succ_of_le hq5
  have hq9 : i ≤ cap := Nat.le_trans hq5 hnc
  have hq11 : i ≤ C2 := Nat.le_trans hq8 hC1
  have hy1 : (0 : Int) ≤ (i : Int) + 1 := Int.natCast_nonneg (i + 1)
  have hy2 : (i : Int) + 1 ≤ (n : Int) + 1 := Int.ofNat_le.2 (Nat.succ_le_succ hq5)
  have hy3 : ((i : Int) + 1).toNat = i + 1 := Int.toNat_natCast (i + 1)
  have hy5 : (i : Int) ≤ (n : Int) + 1 := Int.ofNat_le.2 hq8
  have hy6 : (i : Int) ≤ (cap : Int) := Int.ofNat_le.2 hq9
  have hsub : wrap64 ((n : Int) + 1 - (i : Int)) = (m : Int) := by
    rw [show (n : Int) + 1 - (i : Int) = (m : Int) by omega]; exact wrap_nat (by omega)
  have hw1 : wrap64 ((n : Int) + 1) = ((n + 1 : Nat) : Int) := wrap_succ (Nat.le_trans hl (by decide))
  have hw2 : wrap64 ((i : Int) + 1) = ((i + 1 : Nat) : Int) := wrap_succ (Nat.le_trans (Nat.le_of_lt hi) (Nat.le_trans hl (by decide)))
  have hy4 : IntKind.i64.wrap ((i : Int) + 1) = (i : Int) + 1 := (wrapEq _).trans (wrap_succ (Nat.le_trans (Nat.le_of_lt hi) (Nat.le_trans hl (by decide))))
  have mixed : Try.prog.follows .mixedOrders = true := by kernel_rfl
  clear hend hc2 e2 e1 hfill hB1 hc1l hAl hBl hAB eA eB hg hg1 hvb hl eW eW0 hZl eZ hg0 hgr0 hvb0 hgg0 hgg1 eC hC2 hgl hvl em hi hc hnc
  go_enter Try.func60, Try.ntmps60
  rw [← hsub] at hap
  clear hsub
  go_wp2_with (at_builtin; refine held ?_)
  unfold Held
  refine Lib.wpList_append_run _ rfl _ _ _ _ rfl _ _ rfl rfl _ _ (hap _) ?_
  go_wp2_with fail
  go_region_law_o (refine step_copy rfl _ _ 22 22 rfl _ _ (by simp [Act.eval, Act.put]) (by simp [Act.eval, Act.put]) (hcp2 _ _ _) ?_)
  go_wp2_with fail
  go_ret
  exact HEND.out
/-- slices.Insert of one key. -/
theorem kins_any {w : World} {base vb i : Nat} {v : Value} {l : List KW} (k : KW) (h : KOwn w base v l) (hi : i ≤ l.length) (hl : l.length ≤ 100000) (hvb : w.heap[vb]? = some (.cells #[.int .i64 k.t, .int .i64 k.f, .int .u32 k.s] 29 (0, 0))) (hne : v.ownBlock ≠ some vb) (hbase : base ≤ w.heap.size) :
    Calls Try.prog 60 #[v, .int .i64 (i : Int), .slice (some ⟨vb, 0, none⟩) 1 1] w (KIns w base v (l.take i ++ k :: l.drop i)) := by
  rcases Nat.lt_or_ge i l.length with hlt | hge
  · obtain ⟨g, cap, R, rfl, hb, hg, hc, hm, hs⟩ := h.form (by rintro rfl; simp at hlt)
    by_cases hroom : l.length < cap
    · exact kins_room k rfl hlt hl hb hg hroom hm hs hvb (fun e => hne (by rw [e]; rfl))
    · exact kins_grow k rfl hlt hl hbase hg (by omega) hc hvb
  · obtain rfl : i = l.length := by omega
    have := kins_end k h hl hvb hbase
    simpa using this
end Go.Proofs.Ytdmmceclohkkdaa
