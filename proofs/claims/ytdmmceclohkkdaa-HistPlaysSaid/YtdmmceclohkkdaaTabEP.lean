/- A table's Min and Pop, at rows of api.Packet. -/
import Derived.Test.YtdmmceclohkkdaaTabDP
namespace Go.Proofs.Ytdmmceclohkkdaa
open Go.RowKit Go.Sort
set_option maxHeartbeats 4000000
set_option maxRecDepth 100000
abbrev st3 (w : World) (b : Nat) (k : KW) : World := ((w.setCell ⟨b, 0, none⟩ (.int .i64 k.t)).setCell ⟨b, 1, none⟩ (.int .i64 k.f)).setCell ⟨b, 2, none⟩ (.int .u32 k.s)
abbrev KC (k : KW) : Obj := .cells #[.int .i64 k.t, .int .i64 k.f, .int .u32 k.s] 29
theorem st3_box {w : World} {b : Nat} {k : KW} {a0 a1 a2 : Value} {T : TypeId} (h : w.heap[b]? = some (.cells #[a0, a1, a2] T (0, 0))) : (st3 w b k).heap[b]? = some (.cells #[.int .i64 k.t, .int .i64 k.f, .int .u32 k.s] T (0, 0)) := by
  have h0 : (w.setCell ⟨b, 0, none⟩ (.int .i64 k.t)).heap[b]? = some (.cells #[.int .i64 k.t, a1, a2] T (0, 0)) := box_setj (j := 0) h
  have h1 : ((w.setCell ⟨b, 0, none⟩ (.int .i64 k.t)).setCell ⟨b, 1, none⟩ (.int .i64 k.f)).heap[b]? = some (.cells #[.int .i64 k.t, .int .i64 k.f, a2] T (0, 0)) := box_setj (j := 1) h0
  exact box_setj (j := 2) h1
theorem st3_chg (w : World) (b : Nat) (k : KW) : Chg (fun j => j = b) w (st3 w b k) := by
  unfold st3
  repeat (refine Chg.setCell ?_ _ (.inr rfl))
  exact Chg.refl _ _
theorem two_store {W : World} {b : Nat} {k : KW} {x y : PW} {a0 a1 a2 : Value} (h0 : W.heap[b]? = some (.cells #[a0, a1, a2] 29 (0, 0))) (h1 : W.heap[b + 1]? = some (.cells y.cells TPK (0, 0))) :
    ((st12 (st3 W b k) (b + 1) x).heap[b]? = some (.cells #[.int .i64 k.t, .int .i64 k.f, .int .u32 k.s] 29 (0, 0)) ∧ (st12 (st3 W b k) (b + 1) x).heap[b + 1]? = some (.cells x.cells TPK (0, 0)) ∧ Chg (fun j => j = b ∨ j = b + 1) W (st12 (st3 W b k) (b + 1) x)) ∧
    ((st3 (st12 W (b + 1) x) b k).heap[b]? = some (.cells #[.int .i64 k.t, .int .i64 k.f, .int .u32 k.s] 29 (0, 0)) ∧ (st3 (st12 W (b + 1) x) b k).heap[b + 1]? = some (.cells x.cells TPK (0, 0)) ∧ Chg (fun j => j = b ∨ j = b + 1) W (st3 (st12 W (b + 1) x) b k)) := by
  have hne : ¬ b = b + 1 := by omega
  have hne2 : ¬ b + 1 = b := by omega
  refine ⟨⟨box_chg (st3_box h0) (st12_chg _ _ _) hne, st12_box (box_chg h1 (st3_chg _ _ _) hne2), ?_⟩, st3_box (box_chg h0 (st12_chg _ _ _) hne), box_chg (st12_box h1) (st3_chg _ _ _) hne2, ?_⟩
  · exact Chg.trans ((st3_chg _ _ _).mono fun j _ h => .inl h) ((st12_chg _ _ _).mono fun j _ h => .inr h)
  · exact Chg.trans ((st12_chg _ _ _).mono fun j _ h => .inr h) ((st3_chg _ _ _).mono fun j _ h => .inl h)
theorem tmin_noneP {w : World} {base tb mb : Nat} {kv : Value} {most : Nat} (h : TabAt TTP w base tb kv mb [] most) :
    Calls Try.prog 83 #[.pointer (some ⟨tb, 0, none⟩)] w (RetV w (.tuple #[KW.val ⟨0, 0, 0⟩, PZ, .bool false])) := by
  obtain ⟨a, cap, rfl⟩ := h.len
  obtain ⟨c0, -⟩ := cell_in h.ob 0 rfl
  have z1 := h.lt
  simp only [List.length_nil] at c0
  clear h
  go_enter Try.func83, Try.ntmps83
  go_wp2_with fail
  have mixed : Try.prog.follows .mixedOrders = true := by kernel_rfl
  go_region_law (fail)
  all_goals (
    go_wp2_with fail
    exact bodyPost_ret (v := .tuple #[KW.val ⟨0, 0, 0⟩, PZ, .bool false]) (by simp [results, Try.results83, go_sem]) rfl ⟨rfl, by (repeat (first | with_reducible exact Below.refl _ _ | with_reducible refine bl_alloc ?_ _ | ((with_reducible refine bl_set ?_ ?_ _); rotate_left; (first | exact Nat.le_refl _ | exact Nat.le_succ_of_le (Nat.le_refl _) | (simp only []; omega))) | with_reducible refine bl_drewN ?_ _ | with_reducible refine bl_drew ?_ | with_reducible refine bl_reg ?_ _))⟩)
theorem tmin_someP {w : World} {base tb mb : Nat} {kv : Value} {most : Nat} {k : KW} {x : PW} {m : List (KW × Value)} (h : TabAt TTP w base tb kv mb ((k, x.val) :: m) most) :
    Calls Try.prog 83 #[.pointer (some ⟨tb, 0, none⟩)] w (RetV w (.tuple #[k.val, x.val, .bool true])) := by
  obtain ⟨g, o, cap, rfl, hcap, hgl, hat⟩ := (kown_has h.own).form (List.length_map ..) (by simp)
  obtain ⟨p0, p1, p2⟩ := kat_cells hat 0 (by simp)
  obtain ⟨c0, -⟩ := cell_in h.ob 0 rfl
  obtain ⟨c1, -⟩ := cell_in h.ob 1 rfl
  have z1 := h.lt
  have hl : ∀ W, Grows w W → (Instr.lookup 144 (.map (some mb)) k.val false).run Try.prog W = .ok x.val W := fun W hg => by
    have := (h.map.grows hg).look Try.underlying144 (zeroP _) k false
    rw [this, getK_cons, if_pos rfl]
    rfl
  have hl1 := hl ((w.alloc (KC k)).alloc (.cells pz.cells TPK)).drew (bl_drew (bl_alloc (bl_alloc (Below.refl _ _) _) _))
  simp only [PW.cells, PW.body, KC] at hl1
  obtain ⟨n, en⟩ : ∃ n, ((k, x.val) :: m).length = n := ⟨_, rfl⟩
  rw [en] at c0
  have hn : 0 < n := by rw [← en]; simp
  have hq1 : ((n : Int) = 0) = False := eq_false (by omega)
  have hq2 : (n = 0) = False := eq_false (by omega)
  have hq3 : ((n : Int) == 0) = false := beq_false_of_ne (by omega)
  have hq4 : (0 : Int) < (n : Int) := by omega
  simp only [Nat.zero_mul, Nat.add_zero, List.map_cons, List.getElem_cons_zero] at p0 p1 p2
  clear h hat en hl hcap
  go_enter Try.func83, Try.ntmps83
  go_wp2_with fail
  have mixed : Try.prog.follows .mixedOrders = true := by kernel_rfl
  go_region_law (fail)
  all_goals (
    go_wp2_with fail
    exact bodyPost_ret (v := .tuple #[k.val, x.val, .bool true]) (by simp [results, Try.results83, go_sem]) rfl ⟨rfl, by (repeat (first | with_reducible exact Below.refl _ _ | with_reducible refine bl_alloc ?_ _ | ((with_reducible refine bl_set ?_ ?_ _); rotate_left; (first | exact Nat.le_refl _ | exact Nat.le_succ_of_le (Nat.le_refl _) | (simp only []; omega))) | with_reducible refine bl_drewN ?_ _ | with_reducible refine bl_drew ?_ | with_reducible refine bl_reg ?_ _))⟩)
end Go.Proofs.Ytdmmceclohkkdaa
