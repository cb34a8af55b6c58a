/- A table's Min and Pop, at rows of int64. -/
import Derived.Test.YtdmmceclohkkdaaTabDI
namespace Go.Proofs.Ytdmmceclohkkdaa
open Go.RowKit Go.Sort
set_option maxHeartbeats 4000000
set_option maxRecDepth 100000
/-- Del. -/
theorem tdelI {w : World} {base tb mb : Nat} {kv : Value} {m : List (KW × Value)} {most : Nat} (k : KW) (h : TabAt TTI w base tb kv mb m most) :
    Calls Try.prog 35 #[.pointer (some ⟨tb, 0, none⟩), k.val] w (TabTo TTI w base tb kv mb (if (getK m k).isSome then delT m k else m) most (.bool (getK m k).isSome)) := by
  cases hg : getK m k with
  | none => exact tdel_noI k h hg
  | some u => exact tdel_okI k u h hg
theorem tmin_noneI {w : World} {base tb mb : Nat} {kv : Value} {most : Nat} (h : TabAt TTI w base tb kv mb [] most) :
    Calls Try.prog 34 #[.pointer (some ⟨tb, 0, none⟩)] w (RetV w (.tuple #[KW.val ⟨0, 0, 0⟩, .int .i64 0, .bool false])) := by
  obtain ⟨a, cap, rfl⟩ := h.len
  have hgb : Grows w (w.alloc (.cells #[.int .i64 0, .int .i64 0, .int .u32 0] 29)) := bl_alloc (Below.refl _ _) _
  obtain ⟨c0, -⟩ := cell_in h.ob 0 rfl
  have z1 := h.lt
  simp only [List.length_nil] at c0
  clear h hgb
  go_enter Try.func34, Try.ntmps34
  go_wp2_with fail
  exact bodyPost_ret (v := .tuple #[KW.val ⟨0, 0, 0⟩, .int .i64 0, .bool false]) (by simp [results, Try.results34, go_sem]) rfl ⟨rfl, by (repeat (first | with_reducible exact Below.refl _ _ | with_reducible refine bl_alloc ?_ _ | ((with_reducible refine bl_set ?_ ?_ _); rotate_left; (first | exact Nat.le_refl _ | exact Nat.le_succ_of_le (Nat.le_refl _) | (simp only []; omega))) | with_reducible refine bl_drewN ?_ _ | with_reducible refine bl_drew ?_ | with_reducible refine bl_reg ?_ _))⟩
theorem tmin_someI {w : World} {base tb mb : Nat} {kv : Value} {most : Nat} {k : KW} {v : Value} {m : List (KW × Value)} (h : TabAt TTI w base tb kv mb ((k, v) :: m) most) :
    Calls Try.prog 34 #[.pointer (some ⟨tb, 0, none⟩)] w (RetV w (.tuple #[k.val, v, .bool true])) := by
  have hgb : Grows w (w.alloc (.cells #[.int .i64 0, .int .i64 0, .int .u32 0] 29)) := bl_alloc (Below.refl _ _) _
  have hbx := heap_alloc_new w (.cells #[.int .i64 0, .int .i64 0, .int .u32 0] 29)
  obtain ⟨g, o, cap, rfl, hcap, hgl, hat⟩ := (kown_has h.own).form (List.length_map ..) (by simp)
  obtain ⟨p0, p1, p2⟩ := kat_cells hat 0 (by simp)
  obtain ⟨c0, -⟩ := cell_in h.ob 0 rfl
  obtain ⟨c1, -⟩ := cell_in h.ob 1 rfl
  have z1 := h.lt
  have hl : ∀ W, Grows w W → (Instr.lookup 105 (.map (some mb)) k.val false).run Try.prog W = .ok v W := fun W hg => by
    have := (h.map.grows hg).look Try.underlying105 (zeroI _) k false
    rw [this, getK_cons, if_pos rfl]
    rfl
  have HL := Lib.hid hl
  obtain ⟨n, en⟩ : ∃ n, ((k, v) :: m).length = n := ⟨_, rfl⟩
  rw [en] at c0
  have hn : 0 < n := by rw [← en]; simp
  have hq1 : ((n : Int) = 0) = False := eq_false (by omega)
  have hq2 : (n = 0) = False := eq_false (by omega)
  have hq3 : ((n : Int) == 0) = false := beq_false_of_ne (by omega)
  have hq4 : (0 : Int) < (n : Int) := by omega
  simp only [Nat.zero_mul, Nat.add_zero, List.map_cons, List.getElem_cons_zero] at p0 p1 p2
  clear h hgb hat en hl hcap hbx
  go_enter Try.func34, Try.ntmps34
  go_wp2_with fail
  obtain ⟨W, eW⟩ : ∃ W, w.alloc (.cells #[.int .i64 k.t, .int .i64 k.f, .int .u32 k.s] 29) = W := ⟨_, rfl⟩
  have hg1 : Grows w W := by rw [← eW]; exact bl_alloc (Below.refl _ _) _
  have hbx : W.heap[w.heap.size]? = some (.cells #[.int .i64 k.t, .int .i64 k.f, .int .u32 k.s] 29 (0, 0)) := by rw [← eW]; exact heap_alloc_new w _
  obtain ⟨W2, eW2⟩ : ∃ W2, ((W.setCell ⟨w.heap.size, 0, none⟩ (.int .i64 k.t)).setCell ⟨w.heap.size, 1, none⟩ (.int .i64 k.f)).setCell ⟨w.heap.size, 2, none⟩ (.int .u32 k.s) = W2 := ⟨_, rfl⟩
  have hg2 : Grows w W2 := by
    rw [← eW2]
    refine bl_set (bl_set (bl_set ?_ (Nat.le_refl _) _) (Nat.le_refl _) _) (Nat.le_refl _) _
    exact hg1
  have hbx2 : W2.heap[w.heap.size]? = some (.cells #[.int .i64 k.t, .int .i64 k.f, .int .u32 k.s] 29 (0, 0)) := by
    rw [← eW2]; exact box_setj (box_setj (box_setj hbx))
  have hl1 := HL.out W.drew (bl_drew hg1)
  have hl2 := HL.out W2.drew (bl_drew hg2)
  have d1 := (hg1.cell (p := ⟨tb, 1, none⟩) z1).trans c1
  have d2 := (hg2.cell (p := ⟨tb, 1, none⟩) z1).trans c1
  obtain ⟨t0, f0⟩ := cell_in hbx 0 rfl
  obtain ⟨t1, f1⟩ := cell_in hbx 1 rfl
  obtain ⟨t2, f2⟩ := cell_in hbx 2 rfl
  obtain ⟨s0, -⟩ := cell_in hbx2 0 rfl
  obtain ⟨s1, -⟩ := cell_in hbx2 1 rfl
  obtain ⟨s2, -⟩ := cell_in hbx2 2 rfl
  have HG2 := Lib.hid hg2
  rw [eW]
  clear hbx hbx2 hg1 hg2 eW
  have mixed : Try.prog.follows .mixedOrders = true := by kernel_rfl
  go_region_law (fail)
  all_goals
    go_wp2_with fail
    exact bodyPost_ret (v := .tuple #[k.val, v, .bool true]) (by simp [results, Try.results34, go_sem, s0, s1, s2]) rfl ⟨rfl, bl_drew HG2.out⟩
end Go.Proofs.Ytdmmceclohkkdaa
