/- A struct stored into a box of its own, as one step. -/
import Derived.Test.YthdcmchjlpkkaaaDoorMisc
import Derived.Laws.CopyRow
namespace Go.Proofs.YthdcmchjlpkkaaaDoor
open Go.RowKit Go.Sort
set_option maxHeartbeats 1000000
set_option maxRecDepth 100000
theorem Chg.setRowB {w : World} (g : Nat) (cs : Array Value) : Chg (fun j => j = g) w (w.setRow g cs) := by
  refine ⟨rfl, rfl, rfl, by simp [World.setRow], fun k hk hs => ?_⟩
  simp only [World.setRow]
  rw [Array.getElem?_modify]
  rw [if_neg (fun e => hs e.symm)]
theorem run_store_box {P : Program} (w : World) (t b : Nat) (vs : Array Value) {cs : Array Value} {T : TypeId} (hsz : (sizeOf t).run P w = .ok vs.size w) (hv : (Value.agg vs).cells.size = vs.size) (hb : w.heap[b]? = some (.cells cs T (0, 0))) (hcs : cs.size = vs.size) (h1 : ∀ v ∈ vs.toList, v.oneCell' = true) :
    (Instr.storeAt t (.pointer (some ⟨b, 0, none⟩)) (.agg vs)).run P w = .ok () (w.setRow b vs) := by
  have hst := run_storeCells_at P b 0 T vs.toList 0 cs w hb (by simp; omega) h1
  have hall : (cs.toList.take (0 + 0) ++ vs.toList ++ cs.toList.drop (0 + 0 + vs.toList.length)).toArray = vs := by
    have h2 : cs.toList.drop (0 + 0 + vs.toList.length) = [] := List.drop_eq_nil_of_le (by simp; omega)
    rw [h2]
    simp
  rw [hall] at hst
  have hc : (Value.agg vs).cells = vs := rfl
  simp only [Instr.storeAt, Instr.sureAddr, storeVar, Sem.run_bind, Sem.run_pure, Result.andThen_ok, hsz, hc, ne_eq, not_true_eq_false, if_false]
  exact hst
theorem addr_add' (b j : Nat) : (⟨b, 0, none⟩ : Addr).add j = ⟨b, j, none⟩ := by
  by_cases h : j = 0
  · subst h; simp [Addr.add]
  · simp [Addr.add, h]
theorem run_load_box {P : Program} (w : World) (t b : Nat) (vs : Array Value) {T : TypeId} (hag : (isAgg t).run P w = .ok true w) (hsz : (sizeOf t).run P w = .ok vs.size w) (hb : w.heap[b]? = some (.cells vs T (0, 0))) :
    (Instr.loadAt t (.pointer (some ⟨b, 0, none⟩))).run P w = .ok (.agg vs) w := by
  have hl := run_loadCells_list (P := P) (w := w) ⟨b, 0, none⟩ vs.toList (fun j v hv => by
    rw [addr_add']
    exact (cell_in hb j (by simpa using hv)).1)
  simp only [Instr.loadAt, Instr.sureAddr, loadVar, Sem.run_bind, Sem.run_pure, Result.andThen_ok, hag, hsz, if_true]
  rw [show vs.size = vs.toList.length by simp, hl]
  simp
theorem run_var_box {P : Program} (w : World) (t b : Nat) (vs : Array Value) {T : TypeId} (hag : (isAgg t).run P w = .ok true w) (hsz : (sizeOf t).run P w = .ok vs.size w) (hb : w.heap[b]? = some (.cells vs T (0, 0))) :
    (loadVar t ⟨b, 0, none⟩).run P w = .ok (.agg vs) w := by
  have := run_load_box (P := P) w t b vs hag hsz hb
  simpa only [Instr.loadAt, Instr.sureAddr, Sem.run_bind, Sem.run_pure, Result.andThen_ok] using this
/-- A result that lies in a box. -/
theorem results_box {P : Program} {fn : Func} {d : Tmp} {t b : Nat} {tmps : Array Value} {w : World} {vs : Array Value} {T : TypeId} (h : fn.results = #[.cell d t]) (hd : tmps.getD d undef = .pointer (some ⟨b, 0, none⟩)) (hag : (isAgg t).run P w = .ok true w) (hsz : (sizeOf t).run P w = .ok vs.size w) (hb : w.heap[b]? = some (.cells vs T (0, 0))) :
    (results fn tmps).run P w = .ok (.agg vs) w := by
  have hr := run_var_box (P := P) w t b vs hag hsz hb
  rw [Array.getD_eq_getD_getElem?] at hd
  simp [results, h, hd, asAddr, hr]
theorem results_box2 {P : Program} {fn : Func} {d u : Tmp} {t b : Nat} {tmps : Array Value} {w : World} {vs : Array Value} {T : TypeId} (h : fn.results = #[.cell d t, .tmp u]) (hd : tmps.getD d undef = .pointer (some ⟨b, 0, none⟩)) (hag : (isAgg t).run P w = .ok true w) (hsz : (sizeOf t).run P w = .ok vs.size w) (hb : w.heap[b]? = some (.cells vs T (0, 0))) :
    (results fn tmps).run P w = .ok (.tuple #[.agg vs, tmps.getD u undef]) w := by
  have hr := run_var_box (P := P) w t b vs hag hsz hb
  rw [Array.getD_eq_getD_getElem?] at hd
  simp [results, h, hd, asAddr, hr]
section
variable {P : Program} {w : World} {ops : Array Oper} {rest : List Oper} {o : Oper} {a : Act} {Q : Exit → Act → World → Prop}
/-- .. of a list of operations. -/
theorem wpList_store_box (hgd : o.guard = none) (t : TypeId) (d s : Operand) (ho : o.op = .store t d s) (b : Nat) (vs : Array Value) (hd : a.eval d = .pointer (some ⟨b, 0, none⟩)) (hs : a.eval s = .agg vs) {cs : Array Value} {T : TypeId} (hsz : (sizeOf t).run P w = .ok vs.size w)
    (hb : w.heap[b]? = some (.cells cs T (0, 0))) (hcs : cs.size = vs.size) (h1 : ∀ v ∈ vs.toList, v.oneCell' = true) (hK : ∀ w', w'.heap[b]? = some (.cells vs T (0, 0)) → Chg (fun j => j = b) w w' → wpList P ops Q rest (a.put o.dst undef) w') : wpList P ops Q (o :: rest) a w :=
  wpList_plain hgd fun K hK' => by
    have hr := run_store_box (P := P) w t b vs hsz rfl hb hcs h1
    unfold Oper.wp execOp
    simp only [ho, hd, hs, Sem.run_bind, Sem.run_pure, Result.andThen_ok, hr]
    exact hK' _ _ (hK _ (setRow_heap w b _ _ _ _ hb) (Chg.setRowB b vs))
theorem wpList_load_box (hgd : o.guard = none) (t : TypeId) (d : Operand) (ho : o.op = .load t d) (b : Nat) (vs : Array Value) (hd : a.eval d = .pointer (some ⟨b, 0, none⟩)) {T : TypeId} (hag : (isAgg t).run P w = .ok true w) (hsz : (sizeOf t).run P w = .ok vs.size w)
    (hb : w.heap[b]? = some (.cells vs T (0, 0))) (hK : wpList P ops Q rest (a.put o.dst (.agg vs)) w) : wpList P ops Q (o :: rest) a w :=
  wpList_plain hgd fun K hK' => by
    have hr := run_load_box (P := P) w t b vs hag hsz hb
    unfold Oper.wp execOp
    simp only [ho, hd, Sem.run_bind, Sem.run_pure, Result.andThen_ok, hr]
    exact hK' _ _ hK
/-- .. of a region that draws its order. -/
theorem step_store_box {K : Act → World → Prop} {E : Prop} (hgd : o.guard = none) (t : TypeId) (d s : Operand) (ho : o.op = .store t d s) (b : Nat) (vs : Array Value) (hd : a.eval d = .pointer (some ⟨b, 0, none⟩)) (hs : a.eval s = .agg vs) {cs : Array Value} {T : TypeId} (hsz : (sizeOf t).run P w = .ok vs.size w)
    (hb : w.heap[b]? = some (.cells cs T (0, 0))) (hcs : cs.size = vs.size) (h1 : ∀ v ∈ vs.toList, v.oneCell' = true) (hK : ∀ w', w'.heap[b]? = some (.cells vs T (0, 0)) → Chg (fun j => j = b) w w' → K (a.put o.dst undef) w') : if Region.wanted o (yielded ops a.tmps) = true then Oper.wp P o a w K Q else E := by
  have hw : Region.wanted o (yielded ops a.tmps) = true := by simp [Region.wanted, hgd]
  rw [if_pos hw]
  have hr := run_store_box (P := P) w t b vs hsz rfl hb hcs h1
  unfold Oper.wp execOp
  simp only [ho, hd, hs, Sem.run_bind, Sem.run_pure, Result.andThen_ok, hr]
  exact hK _ (setRow_heap w b _ _ _ _ hb) (Chg.setRowB b vs)
end
end Go.Proofs.YthdcmchjlpkkaaaDoor
