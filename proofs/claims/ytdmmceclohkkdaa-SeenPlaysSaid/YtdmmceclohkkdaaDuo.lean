/- A table, and the document's in a box: side by side. -/
import Derived.Test.YtdmmceclohkkdaaDocPut2
import Derived.Test.YtdmmceclohkkdaaTabDrop
import Derived.Test.YtdmmceclohkkdaaTabX
import Derived.Test.YtdmmceclohkkdaaStep
namespace Go.Proofs.Ytdmmceclohkkdaa
open Go.RowKit Go.Sort
set_option maxHeartbeats 1000000
set_option maxRecDepth 100000
abbrev TDT : TypeId := 37
/-- A block of cells of another type is none of a table's. -/
theorem TabAt.notS {T T' : TypeId} {w : World} {base tb mb most p : Nat} {kv : Value} {m : List (KW × Value)} {cs : Array Value} {z : Nat × Nat} (h : TabAt T w base tb kv mb m most) (hp : w.heap[p]? = some (.cells cs T' z)) (h1 : T' ≠ T) (h2 : T' ≠ 29) : ¬ TabS tb kv mb p := by
  rintro (hs | hs | hs)
  · rw [hs, h.ob] at hp
    injection hp with hp
    injection hp with _ hp
    exact h1 hp.symm
  · subst hs; exact map_ne_cells h.map hp
  · obtain ⟨cur, hg⟩ := h.own.ty hs
    rw [hp] at hg
    injection hg with hg
    injection hg with _ hg
    exact h2 hg
theorem putR_tv (l : List DR) (M : Nat) (k : KW) (x : Int) : (putR l M k x).map tv = if putE (l.map tv) M k = 0 then insT (l.map tv) k (.int .i64 x) else l.map tv := by
  unfold putR
  split
  · rw [insT_tv]
  · rfl
theorem putR_length (l : List DR) (M : Nat) (k : KW) (x : Int) : (putR l M k x).length ≤ l.length + 1 := by
  unfold putR
  split
  · rw [insT_length]; exact Nat.le_refl _
  · omega
/-- Both have the rows l, the document's in the box p. -/
structure Duo (w : World) (B tb mb : Nat) (kv : Value) (p : Nat) (vw : Value) (l : List DR) (M : Nat) : Prop where
  tab : TabAt TTI w B tb kv mb (l.map tv) M
  own : ROwn w B vw l
  box : w.heap[p]? = some (.cells #[vw, .int .i64 (M : Int)] TDT (0, 0))
variable {w w' : World} {B tb mb p M : Nat} {kv vw : Value} {l : List DR}
theorem Duo.grows (h : Duo w B tb mb kv p vw l M) (hg : Grows w w') : Duo w' B tb mb kv p vw l M := ⟨h.tab.grows hg, own_grows h.own hg, box_grows h.box hg⟩
theorem Duo.pS (h : Duo w B tb mb kv p vw l M) : ¬ TabS tb kv mb p := h.tab.notS h.box (by decide) (by decide)
/-- The table is changed: the document's rows stay. -/
theorem Duo.to {m' : List (KW × Value)} {r : Value} {e : Ending} (h : Duo w B tb mb kv p vw l M) (ht : TabTo TTI w B tb kv mb m' M r e w') : e = .returned r ∧ ∃ kv', TabAt TTI w' B tb kv' mb m' M ∧ ROwn w' B vw l ∧ w'.heap[p]? = some (.cells #[vw, .int .i64 (M : Int)] TDT (0, 0)) := by
  obtain ⟨rfl, kv', k1, k2, k3⟩ := ht
  exact ⟨rfl, kv', k1, k2.own h.own (fun j hj hs => ROwn.tab h.own h.tab (by decide) j hj hs), box_chg h.box k2 h.pS⟩
/-- The box is set to the document's rows. -/
theorem Duo.next {v' : Value} {l' : List DR} (ht : TabAt TTI w B tb kv mb (l'.map tv) M) (ho : ROwn w B v' l') (hb : w.heap[p]? = some (.cells #[vw, .int .i64 (M : Int)] TDT (0, 0))) :
    Duo ((w.setCell ⟨p, 0, none⟩ v').setCell ⟨p, 1, none⟩ (.int .i64 (M : Int))) B tb mb kv p v' l' M ∧ Chg (fun j => j = p) w ((w.setCell ⟨p, 0, none⟩ v').setCell ⟨p, 1, none⟩ (.int .i64 (M : Int))) := by
  have hc : Chg (fun i => i = p) w ((w.setCell ⟨p, 0, none⟩ v').setCell ⟨p, 1, none⟩ (.int .i64 (M : Int))) := Chg.setCell (S := fun i => i = p) (Chg.setCell (S := fun i => i = p) (Chg.refl _ _) _ (.inr rfl)) _ (.inr rfl)
  have hn := ht.notS hb (by decide) (by decide)
  refine ⟨⟨ht.chg hc (fun e => hn (.inl e.symm)) (fun e => hn (.inr (.inl e.symm))) (fun j hj e => hn (.inr (.inr (e ▸ hj)))), hc.own ho (fun j hj e => ?_), box_setj (j := 1) (box_setj (j := 0) hb)⟩, hc⟩
  obtain ⟨cur, hcur⟩ := ROwn.ty ho hj
  rw [e, hb] at hcur
  injection hcur with hcur
  injection hcur with _ hcur
  exact absurd hcur (by decide)
theorem grows_chg {W : World} (hg : Grows W w) {S : Nat → Prop} (hc : Chg S w w') (hS : ∀ j, S j → W.heap.size ≤ j) : Grows W w' := Below.trans hg (hc.toBelow hg.size (fun j hj hs => by have := hS j hs; omega))
/-- A region of which only the common end is asked: where the way on is a loop's, 'go_region_law' wants this ahead of it. -/
theorem wp_normal {P : Program} {c : Code} {Q : Exit → Act → World → Prop} {a : Act} {w : World} (h : c.wp P (fun e a' w' => match e with | .normal => Q .normal a' w' | _ => False) a w) : c.wp P Q a w :=
  wp_mono h fun e a' w' hq => by cases e <;> first | exact hq | exact hq.elim
end Go.Proofs.Ytdmmceclohkkdaa
