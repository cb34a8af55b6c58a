/- Small laws: numbers that do not wrap, boxes that stay, rows at another base. -/
import Derived.Test.YthdcmchjlpkkaaaDoorRows2
namespace Go.Proofs.YthdcmchjlpkkaaaDoor
open Go.RowKit Go.Sort
theorem nat_facts (m : Nat) (h : m ≤ 1000000) : ((m : Int) + 1) - 1 = (m : Int) ∧ (0 : Int) ≤ (m : Int) ∧ (m : Int) < (m : Int) + 1 ∧ wrap64 (m : Int) = (m : Int) ∧ (0 : Int) < (m : Int) + 1 := by
  refine ⟨by omega, by omega, by omega, ?_, by omega⟩
  unfold wrap64; omega
theorem wrap_succ {k : Nat} (h : k ≤ 1000000) : wrap64 ((k : Int) + 1) = (k : Int) + 1 := by unfold wrap64; omega
theorem meas_succ {n k : Nat} (h : k < n) : n - ((k : Int) + 1).toNat < n - (k : Int).toNat := by omega
theorem wrap_nat {m : Nat} (h : m ≤ 1000000) : wrap64 (m : Int) = (m : Int) := by unfold wrap64; omega
theorem wrap_big {k : Nat} (h : k < 9223372036854775807) : wrap64 ((k : Int) + 1) = (k : Int) + 1 := by unfold wrap64; omega
theorem row_base {w : World} {base base' : Nat} {e : TypeId} {size : Nat} {v : Value} {n : Nat} {xs : List Value} (h : w.ownsRow base e size v n xs) (hb : base' ≤ base) : w.ownsRow base' e size v n xs := by
  refine ⟨h.1, ?_⟩
  rcases h.2 with h2 | ⟨g, cap, cur, hv, hg, rest⟩
  · exact .inl h2
  · exact .inr ⟨g, cap, cur, hv, Nat.le_trans hb hg, rest⟩
/-- Two new objects. -/
theorem two_new (w : World) (A B : Obj) : ((w.alloc A).alloc B).heap[w.heap.size]? = some A ∧ ((w.alloc A).alloc B).heap[w.heap.size + 1]? = some B := by
  constructor
  · rw [((bl_alloc (Below.refl _ _) B : Below (w.alloc A).heap.size (w.alloc A) ((w.alloc A).alloc B)).block w.heap.size (by simp))]
    exact heap_alloc_new w A
  · have := heap_alloc_new (w.alloc A) B
    simpa using this
theorem cell_in {w : World} {b : Nat} {cs : Array Value} {T : TypeId} (h : w.heap[b]? = some (.cells cs T (0, 0))) (i : Nat) {v : Value} (hv : cs[i]? = some v) : w.cell? ⟨b, i, none⟩ = some v ∧ w.frozen? ⟨b, i, none⟩ = false := by
  constructor
  · simp [World.cell?, h, hv]
  · simp [World.frozen?, h]
theorem own_grows {w w' : World} {base : Nat} {e : TypeId} {size : Nat} {v : Value} {n : Nat} {xs : List Value} (h : w.ownsRow base e size v n xs) (hg : Grows w w') : w'.ownsRow base e size v n xs := (Chg.ofGrows (S := fun _ => False) hg).own h (fun _ _ h => h)
/-- A box stays through a change of others. -/
theorem box_chg {S : Nat → Prop} {w w' : World} {p : Nat} {o : Obj} (hp : w.heap[p]? = some o) (hc : Chg S w w') (hs : ¬ S p) : w'.heap[p]? = some o := by
  rw [hc.block p (Array.getElem?_eq_some_iff.1 hp).1 hs]; exact hp
theorem box_grows {w w' : World} {p : Nat} {o : Obj} (hp : w.heap[p]? = some o) (hg : Grows w w') : w'.heap[p]? = some o := box_chg hp (Chg.ofGrows (S := fun _ => False) hg) (fun h => h)
theorem box_lt {w : World} {p : Nat} {o : Obj} (hp : w.heap[p]? = some o) : p < w.heap.size := (Array.getElem?_eq_some_iff.1 hp).1
/-- What lies in a box that is set. -/
theorem box_setj {w : World} {p j : Nat} {cs : Array Value} {v : Value} {T : TypeId} (hp : w.heap[p]? = some (.cells cs T (0, 0))) : (w.setCell ⟨p, j, none⟩ v).heap[p]? = some (.cells (cs.setIfInBounds j v) T (0, 0)) := by
  have hlt := (Array.getElem?_eq_some_iff.1 hp).1
  have he := (Array.getElem?_eq_some_iff.1 hp).2
  simp only [World.setCell]
  rw [Array.getElem?_eq_getElem (by simpa using hlt), Array.getElem_modify_self, he]
  rfl
theorem box_cell_grows {w w' : World} {p : Addr} {v : Value} (h : w.cell? p = some v) (hg : Grows w w') : w'.cell? p = some v := (Chg.ofGrows (S := fun _ => False) hg).cellAt h (fun h => h)
theorem Chg.setRow {S : Nat → Prop} {w w' : World} (h : Chg S w w') {g : Nat} (cs : Array Value) (hp : w.heap.size ≤ g ∨ S g) : Chg S w (w'.setRow g cs) := by
  refine ⟨h.os, h.tape, h.output, by simpa using h.size, fun k hk hS => ?_⟩
  rw [setRow_other w' g k cs (fun e => by subst e; rcases hp with hp | hp; exact Nat.lt_irrefl _ (Nat.lt_of_lt_of_le hk hp); exact hS hp)]
  exact h.block k hk hS
/-- What is copied into a row: all is read ahead of the first store. -/
theorem run_copy_block {P : Program} (w : World) (dT sT ty e : TypeId) (i : TypeInfo) (ht : P.underlying dT = some (.slice e)) (hi : P.info? e = some i) (g o dLen dCap : Nat) (cur : Array Value) (hg : w.heap[g]? = some (.cells cur e (0, 0)))
    (a : Addr) (sLen sCap m : Nat) (cs : List Value) (hm : Nat.min sLen dLen = m) (hl : cs.length = m * i.size) (hcs : ∀ j u, cs[j]? = some u → w.cell? (a.add j) = some u) (h1 : ∀ u ∈ cs, u.oneCell' = true) (hfit : o + cs.length ≤ cur.size) :
    (Builtin.copy_ #[dT, sT] ty #[.slice (some ⟨g, o, none⟩) dLen dCap, .slice (some a) sLen sCap]).run P w = .ok (goInt m) (w.setRow g (cur.toList.take o ++ cs ++ cur.toList.drop (o + cs.length)).toArray) := by
  have hf := run_firstCells_some (P := P) w i.size m a sLen sCap cs hl hcs
  have hst := run_storeCells_at P g o e cs 0 cur w hg (by simpa using hfit) h1
  simp only [Nat.add_zero] at hst
  simp [Builtin.copy_, run_underlying ht, sizeOf, typeInfo, hi, Builtin.lenOf, hm, hf, hst]
/-- A slice to which zeros are appended, and has no room for them. -/
theorem run_zeros_grow {P : Program} (w : World) (t tn ty e : TypeId) (i : TypeInfo) (z : Value) (k kn : IntKind) (ht : P.underlying t = some (.slice e)) (htn : P.underlying tn = some (.int kn)) (hi : P.info? e = some i) (hz : i.zero = some z)
    (b : Addr) (sLen sCap : Nat) (olds : List Value) (hlo : olds.length = sLen * i.size) (holds : ∀ j v, olds[j]? = some v → w.cell? (b.add j) = some v)
    (n : Nat) (h0 : 0 < n) (hs : 0 < i.size) (hg : sCap < sLen + n) (h63 : ((sLen + n : Nat) : Int) ≤ 9223372036854775807) (h48 : n * i.bytes ≤ 281474976710656) (hfit : Builtin.nextslicecap (sLen + n) sCap * i.bytes ≤ 281474976710656) :
    (Builtin.append_ #[t, tn] ty #[.slice (some b) sLen sCap, .int k n]).run P w =
      .ok (.slice (some ⟨w.heap.size, 0, none⟩) (sLen + n) (grownCap w (sLen + n) sCap e))
        (w.drew.alloc (.cells (olds.toArray ++ Builtin.zeroCells z.cells n ++ Builtin.zeroCells z.cells (grownCap w (sLen + n) sCap e - (sLen + n))) e)) := by
  have hn : ¬ (sLen + n ≤ sCap) := by omega
  have hw : IntKind.i64.wrap (n : Int) = n := by rw [IntKind.wrap_i64]; omega
  have h63' : ¬ (9223372036854775807 < ((sLen : Int) + (n : Int))) := by omega
  have h48' : ¬ (281474976710656 < Builtin.nextslicecap (sLen + n) sCap * i.bytes) := by omega
  have h48i : ¬ (281474976710656 < (n : Int) * (i.bytes : Int)) := by rw [← Int.natCast_mul]; omega
  have hneg : ¬ ((n : Int) < 0) := by omega
  have hn0 : n ≠ 0 := by omega
  have hns : ¬ (n * i.size = 0) := Nat.mul_ne_zero hn0 (by omega)
  have hfo := run_firstCells_some (P := P) w.drew i.size sLen b sLen sCap olds hlo (by simpa using holds)
  simp [Builtin.append_, run_underlying ht, run_underlying htn, sizeOf, typeInfo, zeroValue, hi, hz, asInt, asIntOf, hw, hn, hn0, hneg, hns, h63', h48', h48i, Question.forced, hfo, newRow, grownCap]
end Go.Proofs.YthdcmchjlpkkaaaDoor
