/- Two slices of the call's own, each appended to, in whatever order. -/
import Derived.Test.YtihfcaconbcdjaaTrimA
namespace Go.Proofs.Ytihfcaconbcdjaa
open Go.RowKit Go.Sort
set_option maxHeartbeats 1000000
set_option maxRecDepth 100000

/-- va and vb hold A and B, in memory of the call's own, apart. -/
structure Two (base : Nat) (w : World) (va : Value) (A : List Int) (vb : Value) (B : List Int) : Prop where
  a : IOwn w base va A
  b : IOwn w base vb B
  far : ∀ k, va.ownBlock = some k → vb.ownBlock ≠ some k
  size : base ≤ w.heap.size
/-- A fresh cell that holds x, apart from both. -/
def Fresh (w : World) (va vb : Value) (g : Nat) (x : Int) : Prop := w.cell? ⟨g, 0, none⟩ = some (.int .i64 x) ∧ g < w.heap.size ∧ va.ownBlock ≠ some g ∧ vb.ownBlock ≠ some g
section
variable {base : Nat} {w w' : World} {va vb : Value} {A B : List Int} {g : Nat} {x : Int}
theorem Two.swap (h : Two base w va A vb B) : Two base w vb B va A := ⟨h.b, h.a, fun k h1 h2 => h.far k h2 h1, h.size⟩
theorem Two.alloc (h : Two base w va A vb B) (o : Obj) : Two base (w.alloc o) va A vb B := ⟨h.a.alloc o, h.b.alloc o, h.far, Nat.le_trans h.size (bl_alloc (Below.refl w.heap.size w) o).size⟩
theorem Two.drew (h : Two base w va A vb B) : Two base w.drew va A vb B := ⟨h.a, h.b, h.far, h.size⟩
theorem Fresh.swap (h : Fresh w va vb g x) : Fresh w vb va g x := ⟨h.1, h.2.1, h.2.2.2, h.2.2.1⟩
theorem Fresh.alloc (h : Fresh w va vb g x) (o : Obj) : Fresh (w.alloc o) va vb g x :=
  have hb := bl_alloc (Below.refl w.heap.size w) o
  ⟨(hb.cell (p := ⟨g, 0, none⟩) h.2.1).trans h.1, Nat.lt_of_lt_of_le h.2.1 hb.size, h.2.2⟩
theorem Fresh.drew (h : Fresh w va vb g x) : Fresh w.drew va vb g x := h
theorem alloc_size (w : World) (o : Obj) : (w.alloc o).heap.size = w.heap.size + 1 := Array.size_push _
theorem fresh_new (h : Two base w va A vb B) (T : TypeId) (hg : g = w.heap.size) : Fresh (w.alloc (.cells #[.int .i64 x] T)) va vb g x := by
  subst hg
  have hb : (w.alloc (.cells #[.int .i64 x] T)).heap[w.heap.size]? = some (.cells #[.int .i64 x] T) := heap_alloc_new w _
  refine ⟨by unfold World.cell?; rw [hb]; rfl, (Array.getElem?_eq_some_iff.1 hb).1, fun hc => Nat.lt_irrefl _ (h.a.lt _ hc).2, fun hc => Nat.lt_irrefl _ (h.b.lt _ hc).2⟩
/-- What one append brings about. -/
structure Stepped (base : Nat) (w w' : World) (va va' vb : Value) : Prop where
  grows : Below base w w'
  size : w.heap.size ≤ w'.heap.size
  fresh : ∀ g x, Fresh w va vb g x → Fresh w' va' vb g x
theorem step_two {P : Program} {ops : Array Oper} {o : Oper} {a : Act} {K : Act → World → Prop} {Q : Exit → Act → World → Prop} {E : Prop} (hgd : o.guard = none) (s y : Operand) (t : TypeId)
    (ho : o.op = .call { callee := .builtin .append, args := #[s, y], argTypes := #[t, t] })
    (i : TypeInfo) (ht : P.underlying t = some (.slice 2)) (hi : P.info? 2 = some i) (hz : i.zero = some (.int .i64 0)) (hsize : i.size = 1) (hby : i.bytes = 8)
    (hT : Two base w va A vb B) (hs : a.eval s = va) (hm : A.length ≤ 1000000) (c : Nat) (hx : a.eval y = .slice (some ⟨g, 0, none⟩) 1 c) (hF : Fresh w va vb g x)
    (h : ∀ g' cap w', Two base w' (.slice (some ⟨g', 0, none⟩) (A.length + 1) cap) (A ++ [x]) vb B → Stepped base w w' va (.slice (some ⟨g', 0, none⟩) (A.length + 1) cap) vb → K (a.put o.dst (.slice (some ⟨g', 0, none⟩) (A.length + 1) cap)) w') :
    if Region.wanted o (yielded ops a.tmps) = true then Oper.wp P o a w K Q else E := by
  refine step_append_lies _ hgd s y t ho base 2 i _ 1 8 ht hi hz hsize hby rfl (by decide) va A.length (iv A) hs hT.a ⟨g, 0, none⟩ 1 c (iv [x]) hx rfl ?_ (iv_one _) (by decide) (by unfold maxLen; omega) (by omega) hT.size _ rfl ?_
  · intro j u hj
    have hj0 : j = 0 := by
      have := (List.getElem?_eq_some_iff.1 hj).1
      simp [iv] at this
      exact this
    subst hj0
    simp [iv] at hj
    subst hj
    rw [addr_add]
    exact hF.1
  · intro g' cap w' hown hg hat hlt
    rw [iv_append] at hown
    have ho2 : IOwn w' base (.slice (some ⟨g', 0, none⟩) (A.length + 1) cap) (A ++ [x]) := by unfold IOwn; rw [List.length_append]; exact hown
    have hfar : ∀ k, k < w.heap.size → va.ownBlock ≠ some k → g' ≠ k := fun k hk hne hc => by
      subst hc
      rcases hat with hat | hat
      · exact hne hat
      · omega
    refine h g' cap w' ⟨ho2, hT.b.kept hg ?_, ?_, Nat.le_trans hT.size hg.size⟩ ⟨⟨hg.os, hg.tape, hg.output, hg.size, fun k hk => hg.block k (Nat.lt_of_lt_of_le hk hT.size) fun hc => ?_⟩, hg.size, fun g2 x2 hf => ⟨?_, Nat.lt_of_lt_of_le hf.2.1 hg.size, ?_, hf.2.2.2⟩⟩
    · cases hb : vb.ownBlock with
      | none => exact .inl rfl
      | some k => exact .inr fun hc => hT.far k hc.symm hb
    · intro k hk hc
      simp [Value.ownBlock] at hk
      exact hfar k (hT.b.lt k hc).2 (fun h2 => hT.far k h2 hc) hk
    · exact Nat.lt_irrefl _ (Nat.lt_of_lt_of_le hk (hT.a.lt k hc.symm).1)
    · rw [← hf.1]
      exact hg.cell_far ⟨g2, 0, none⟩ hf.2.1 (fun hc => hf.2.2.1 hc.symm)
    · intro hc
      simp [Value.ownBlock] at hc
      exact hfar g2 hf.2.1 hf.2.2.1 hc
end
end Go.Proofs.Ytihfcaconbcdjaa
