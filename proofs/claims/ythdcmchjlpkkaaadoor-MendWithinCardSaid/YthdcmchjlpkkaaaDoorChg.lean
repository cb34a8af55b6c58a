/- What a call leaves alone: all blocks but some, and new ones. -/
import Derived.Test.YthdcmchjlpkkaaaDoorWideL
import Derived.Laws.OwnMore
import Derived.Laws.AppendOwnNone
import Derived.Deep.AppendLies
import Derived.Deep.RegionLaw
namespace Go.Proofs.YthdcmchjlpkkaaaDoor
open Go.RowKit Go.Sort

/-- w' is w, but for the blocks of S and new ones. -/
structure Chg (S : Nat → Prop) (w w' : World) : Prop where
  os : w'.os = w.os
  tape : w'.tape = w.tape
  output : w'.output = w.output
  size : w.heap.size ≤ w'.heap.size
  block : ∀ k, k < w.heap.size → ¬ S k → w'.heap[k]? = w.heap[k]?

theorem Chg.refl (S : Nat → Prop) (w : World) : Chg S w w := ⟨rfl, rfl, rfl, Nat.le_refl _, fun _ _ _ => rfl⟩
theorem Chg.trans {S : Nat → Prop} {a b c : World} (h : Chg S a b) (k : Chg S b c) : Chg S a c :=
  ⟨k.os.trans h.os, k.tape.trans h.tape, k.output.trans h.output, Nat.le_trans h.size k.size, fun i hi hs => (k.block i (Nat.lt_of_lt_of_le hi h.size) hs).trans (h.block i hi hs)⟩
theorem Chg.mono {S T : Nat → Prop} {w w' : World} (h : Chg S w w') (hST : ∀ k, k < w.heap.size → S k → T k) : Chg T w w' :=
  ⟨h.os, h.tape, h.output, h.size, fun k hk hT => h.block k hk (fun hS => hT (hST k hk hS))⟩
theorem Chg.ofBelow {B : Nat} {w w' : World} (h : Below B w w') : Chg (fun k => B ≤ k) w w' := ⟨h.os, h.tape, h.output, h.size, fun k _ hB => h.block k (Nat.lt_of_not_le hB)⟩
theorem Chg.ofGrows {S : Nat → Prop} {w w' : World} (h : Grows w w') : Chg S w w' := ⟨h.os, h.tape, h.output, h.size, fun k hk _ => h.block k hk⟩
theorem Chg.ofGrown {w w' : World} {row : Option Nat} (h : w.grownBy w' row) : Chg (fun k => some k = row) w w' := ⟨h.os, h.tape, h.output, h.size, fun k hk hr => h.block k hk hr⟩
theorem Chg.ofRow {w w' : World} {row : Option Nat} (h : w.grownBy w' row) : Chg (fun k => row = some k) w w' := ⟨h.os, h.tape, h.output, h.size, fun k hk hr => h.block k hk (fun hc => hr hc.symm)⟩
theorem Chg.toBelow {S : Nat → Prop} {B : Nat} {w w' : World} (h : Chg S w w') (hB : B ≤ w.heap.size) (hS : ∀ k, k < B → ¬ S k) : Below B w w' :=
  ⟨h.os, h.tape, h.output, h.size, fun k hk => h.block k (Nat.lt_of_lt_of_le hk hB) (hS k hk)⟩
theorem Chg.toGrows {S : Nat → Prop} {w w' : World} (h : Chg S w w') (hS : ∀ k, k < w.heap.size → ¬ S k) : Grows w w' := h.toBelow (Nat.le_refl _) hS
theorem Chg.cell {S : Nat → Prop} {w w' : World} {p : Addr} (h : Chg S w w') (hp : p.block < w.heap.size) (hS : ¬ S p.block) : w'.cell? p = w.cell? p := World.cell?_of_block (h.block _ hp hS)
theorem Chg.frozen {S : Nat → Prop} {w w' : World} {p : Addr} (h : Chg S w w') (hp : p.block < w.heap.size) (hS : ¬ S p.block) : w'.frozen? p = w.frozen? p := World.frozen?_of_block (h.block _ hp hS)
theorem Chg.cellAt {S : Nat → Prop} {w w' : World} {p : Addr} {v : Value} (h : Chg S w w') (hc : w.cell? p = some v) (hS : ¬ S p.block) : w'.cell? p = some v := (h.cell (block_lt_of_cell hc) hS).trans hc
theorem Chg.alloc {S : Nat → Prop} {w w' : World} (h : Chg S w w') (o : Obj) : Chg S w (w'.alloc o) := h.trans (Chg.ofGrows (bl_alloc (Below.refl _ _) o))
theorem Chg.drewN {S : Nat → Prop} {w w' : World} (h : Chg S w w') (n : Nat) : Chg S w (w'.drewN n) := h.trans (Chg.ofGrows (bl_drewN (Below.refl _ _) n))
theorem Chg.drew {S : Nat → Prop} {w w' : World} (h : Chg S w w') : Chg S w w'.drew := h.trans (Chg.ofGrows (bl_drew (Below.refl _ _)))
theorem Chg.reg {S : Nat → Prop} {w w' : World} (h : Chg S w w') (p : Regrown) : Chg S w (reg w' p) := h.trans (Chg.ofGrows (below_reg _ p))
theorem Chg.setCell {S : Nat → Prop} {w w' : World} (h : Chg S w w') {p : Addr} (u : Value) (hp : w.heap.size ≤ p.block ∨ S p.block) : Chg S w (w'.setCell p u) := by
  have hb : w'.grownBy (w'.setCell p u) (some p.block) := by
    refine ⟨rfl, rfl, rfl, by simp [World.setCell], fun k hk hne => ?_⟩
    have : p.block ≠ k := fun hc => hne (by rw [hc])
    simp only [World.setCell]
    rw [Array.getElem?_modify]
    simp [this]
  refine ⟨hb.os.trans h.os, hb.tape.trans h.tape, hb.output.trans h.output, Nat.le_trans h.size hb.size, fun k hk hS => ?_⟩
  rw [hb.block k (Nat.lt_of_lt_of_le hk h.size) ?_, h.block k hk hS]
  intro hc
  cases hc
  rcases hp with hp | hp
  · omega
  · exact hS hp
theorem Chg.own {S : Nat → Prop} {w w' : World} {base : Nat} {e : TypeId} {size : Nat} {v : Value} {n : Nat} {xs : List Value} (h : Chg S w w') (ho : w.ownsRow base e size v n xs) (hS : ∀ k, v.ownBlock = some k → ¬ S k) : w'.ownsRow base e size v n xs := by
  refine ⟨ho.1, ?_⟩
  rcases ho.2 with hn | ⟨g, cap, cur, rfl, hb, hgg, rest⟩
  · exact .inl hn
  · refine .inr ⟨g, cap, cur, rfl, hb, ?_, rest⟩
    rw [h.block g (Array.getElem?_eq_some_iff.1 hgg).1 (hS g (by simp [Value.ownBlock]))]
    exact hgg
end Go.Proofs.YthdcmchjlpkkaaaDoor
