/- The chapter's example of a relay. -/
import Derived.Test.YtgjieoljfcfacaaDoorRelQ
namespace Go.Proofs.YtgjieoljfcfacaaDoor
open Go.RowKit Go.Sort
set_option maxHeartbeats 4000000
set_option maxRecDepth 100000
section
variable {w w' : World} {base rb sb tb mb most : Nat} {kv r : Value} {m m' : List (KW × Value)} {me n : Int} {B : BV} {e : Ending}
theorem RelayAt.notS {p : Nat} {cs : Array Value} {T : TypeId} (h : RelayAt w base rb sb tb kv mb m most me n B) (hp : w.heap[p]? = some (.cells cs T (0, 0))) (h1 : T ≠ TTI := by decide) (h2 : T ≠ 29 := by decide) : ¬ TabS tb kv mb p := fun hs => by
  rcases hs with hs | hs | hs
  · have h3 := h.seen.tab.ob
    rw [← hs, hp] at h3
    injection h3 with h3
    injection h3 with _ h3
    exact h1 h3
  · exact map_ne_cells h.seen.tab.map (hs ▸ hp)
  · obtain ⟨cur, hg⟩ := h.seen.tab.own.ty hs
    rw [hp] at hg
    injection hg with hg
    injection hg with _ hg
    exact h2 hg
/-- What is behind a call that changes names: the relay, boxes, the world. -/
theorem RelayTo.next (h : RelayAt w base rb sb tb kv mb m most me n B) (ht : RelayTo w base rb sb tb kv mb m' most me n B r e w') :
    e = .returned r ∧ ∃ kv', RelayAt w' base rb sb tb kv' mb m' most me n B ∧ Chg (TabS tb kv mb) w w' := by
  obtain ⟨rfl, kv', k1, k2, k3⟩ := ht
  exact ⟨rfl, kv', k1, k2⟩
theorem RelayAt.low {W0 : World} (h : RelayAt w base rb sb tb kv mb m most me n B) (hb : W0.heap.size ≤ base) (hg : Grows W0 w) (hc : Chg (TabS tb kv mb) w w') : Grows W0 w' := by
  refine Below.trans hg (hc.toBelow hg.size (fun j hj hs => ?_))
  rcases hs with hs | hs | hs
  · have := h.seen.tab.bt; omega
  · have := h.seen.tab.bm; omega
  · have := (h.seen.tab.own.lt _ hs).1; omega
end
/-- A call that changes names, a packet's box beside it. -/
theorem RelayTo.step {W0 w w' : World} {base rb sb tb mb most p : Nat} {kv r : Value} {m m' : List (KW × Value)} {me n : Int} {B : BV} {e : Ending} {cs : Array Value} (h : RelayAt w base rb sb tb kv mb m most me n B) (hp : w.heap[p]? = some (.cells cs TPK (0, 0))) (hb : W0.heap.size ≤ base) (hg : Grows W0 w) (ht : RelayTo w base rb sb tb kv mb m' most me n B r e w') :
    e = .returned r ∧ ∃ kv', RelayAt w' base rb sb tb kv' mb m' most me n B ∧ w'.heap[p]? = some (.cells cs TPK (0, 0)) ∧ Grows W0 w' := by
  obtain ⟨rfl, kv', k1, k2⟩ := RelayTo.next h ht
  exact ⟨rfl, kv', k1, box_chg hp k2 (h.notS hp), h.low hb hg k2⟩
theorem RelayAt.setBox {w w' : World} {base rb sb tb mb most p : Nat} {kv : Value} {m : List (KW × Value)} {me n : Int} {B : BV} {cs : Array Value} {T : TypeId} (h : RelayAt w base rb sb tb kv mb m most me n B) (hp : w.heap[p]? = some (.cells cs T (0, 0))) (hc : Chg (fun j => j = p) w w')
    (h1 : T ≠ TTI := by decide) (h2 : T ≠ 29 := by decide) (h3 : T ≠ TRL := by decide) (h4 : T ≠ TSE := by decide) : RelayAt w' base rb sb tb kv mb m most me n B := by
  have hn := h.notS hp h1 h2
  refine ⟨box_chg h.ob hc (fun e => ?_), ⟨box_chg h.seen.ob hc (fun e => ?_), h.seen.tab.chg hc (fun e => hn (.inl e.symm)) (fun e => hn (.inr (.inl e.symm))) (fun j hj e => hn (.inr (.inr (e ▸ hj)))), h.seen.bs⟩, h.br⟩
  · have h5 := h.ob
    rw [e, hp] at h5
    injection h5 with h5
    injection h5 with _ h5
    exact h3 h5
  · have h5 := h.seen.ob
    rw [e, hp] at h5
    injection h5 with h5
    injection h5 with _ h5
    exact h4 h5
theorem RelayAt.base_le {w : World} {base rb sb tb mb most : Nat} {kv : Value} {m : List (KW × Value)} {me n : Int} {B : BV} (h : RelayAt w base rb sb tb kv mb m most me n B) : base ≤ w.heap.size := Nat.le_trans h.br (Nat.le_of_lt (box_lt h.ob))
abbrev exB : BV := ⟨2, 10, 0, 100, 0, 0, 0, 0, 0, 0, 5, 0, 0, 0⟩
abbrev exP (f : Int) : PW := ⟨4, ⟨1000, f, 0⟩, 1, 0, 0, 0, 0, 0, 0, none, 0, 0⟩
abbrev exH : PW := ⟨4, ⟨1000, 0, 0⟩, 2, 0, 0, 0, 0, 0, 0, none, 0, 0⟩
theorem exOn : onP exB (exP 0) = exH := by
  unfold onP
  rw [if_pos (by decide +kernel)]
  rfl
theorem exU : UOk exB.b0 exB.b1 exB.b3 exB.b10 := by unfold UOk; decide +kernel
theorem own_one {w : World} {base : Nat} {v : Value} {x : Int} (h : GOwn ic 1 3 w base v [x]) : ∃ g c, v = .slice (some ⟨g, 0, none⟩) 1 c ∧ w.cell? ⟨g, 0, none⟩ = some (.int .i64 x) ∧ g < w.heap.size ∧ 1 ≤ c := by
  rcases h.2 with ⟨_, h2⟩ | ⟨g, cap, cur, hv, hb, hg, h4, _⟩
  · simp at h2
  · refine ⟨g, cap, hv, ?_, box_lt hg, h4⟩
    subst hv
    have := h.cellAt 0 (by simp)
    simpa using this
theorem relayWorks_any (w : World) (hT : Laid w) : Calls Tryd.prog 12 #[] w (RetV w (.bool true)) := by
  obtain ⟨B, eB⟩ : ∃ B, w.heap.size = B := ⟨_, rfl⟩
  have HN := Lib.hid (rnew_r_any 1 3 9 exB w)
  have HT := Lib.hid hT
  have EB := Lib.hid eB
  have HLB := Lib.hid (show w.heap.size ≤ B + 1 by omega)
  clear hT
  go_enter Tryd.func12, Tryd.ntmps12
  go_wp2_with fail
  refine (HN.out).mono ?_
  rintro e w1 ⟨rb, sb, rfl, hg1, h1⟩
  rw [show mostOfI 9 = 9 from by decide, eB] at h1
  have R1 := Lib.hid h1
  have G1 := Lib.hid hg1
  obtain ⟨p, ep⟩ : ∃ p, w1.heap.size = p := ⟨_, rfl⟩
  obtain ⟨w2, e2⟩ : ∃ w2, w1.alloc (.cells (exP 1).cells TPK) = w2 := ⟨_, rfl⟩
  have g2 : Grows w1 w2 := by rw [← e2]; exact bl_alloc (Below.refl _ _) _
  have hb2 : w2.heap[p]? = some (.cells (exP 1).cells TPK (0, 0)) := by rw [← e2, ← ep]; exact heap_alloc_new w1 _
  have R2 := Lib.hid (h1.grows g2)
  have G2 := Lib.hid (grows_trans _ _ _ hg1 g2)
  have P2 := Lib.hid hb2
  have HBP := Lib.hid (show w.heap.size ≤ p by rw [← ep]; exact hg1.size)
  simp only [PW.cells, PW.body] at e2
  have E2 := Lib.hid (And.intro e2 ep)
  clear e2 ep g2 hg1 h1
  go_wp2_with fail
  rw [E2.out.1, E2.out.2]
  obtain ⟨x0, x1, x2, x3, x4, x5, x6, x7, x8, x9, x10, x11, x12⟩ := pat_of hb2
  clear E2 hb2
  have HT2 := Lib.hid (rtake_any 5 1000 (exP 1) R2.out exU R2.out.base_le)
  rw [show rchk [] 9 1 3 exB 5 1000 (exP 1) = 8 from by decide +kernel] at HT2
  go_wp2_with fail
  refine (HT2.out).mono ?_
  intro e w3 ht
  obtain ⟨rfl, kv3, k1, k2⟩ := RelayTo.next R2.out ht
  rw [if_neg (by decide)] at k1
  have R3 := Lib.hid k1
  have G3 := Lib.hid (R2.out.low HLB.out G2.out k2)
  have P3 := Lib.hid (box_chg P2.out k2 (R2.out.notS P2.out))
  clear ht k1 k2 x0 x1 x2 x3 x4 x5 x6 x7 x8 x9 x10 x11 x12 HT2
  obtain ⟨x0, x1, x2, x3, x4, x5, x6, x7, x8, x9, x10, x11, x12⟩ := pat_of P3.out
  obtain ⟨f0, f1, f2, f3, f4, f5, f6, f7, f8, f9, f10, f11⟩ := pfree_of P3.out
  go_wp2_with fail
  have hc4 : Chg (fun j => j = p) w3 (w3.setCell ⟨p, 2, none⟩ (.int .i64 0)) := Chg.setCell (S := fun j => j = p) (Chg.refl _ _) _ (.inr rfl)
  have hp4 : (w3.setCell ⟨p, 2, none⟩ (.int .i64 0)).heap[p]? = some (.cells (exP 0).cells TPK (0, 0)) := box_setj (j := 2) (v := .int .i64 0) P3.out
  obtain ⟨w4, e4⟩ : ∃ w4, w3.setCell ⟨p, 2, none⟩ (.int .i64 0) = w4 := ⟨_, rfl⟩
  rw [e4] at hc4 hp4 ⊢
  have R4 := Lib.hid (R3.out.setBox P3.out hc4)
  have G4 := Lib.hid (((Chg.ofGrows G3.out).trans hc4).toGrows (fun j hj e => by have := HBP.out; omega))
  have P4 := Lib.hid hp4
  clear e4 hc4 hp4 x0 x1 x2 x3 x4 x5 x6 x7 x8 x9 x10 x11 x12 f0 f1 f2 f3 f4 f5 f6 f7 f8 f9 f10 f11
  have hv : rchk [] 9 1 3 exB 5 1000 (exP 0) = 0 := by decide +kernel
  have gd : Grows w4 w4.drew := bl_drew (Below.refl _ _)
  have ht4 := rtake_any 5 1000 (exP 0) (R4.out.grows gd) exU (R4.out.grows gd).base_le
  rw [hv, if_pos rfl] at ht4
  have HT4 := Lib.hid ht4
  obtain ⟨ti, eti⟩ : ∃ ti, tillI exB (exP 0).k.t = ti := ⟨_, rfl⟩
  rw [eti, show insT ([] : List (KW × Value)) (exP 0).k (.int .i64 ti) = [((exP 0).k, .int .i64 ti)] from rfl] at HT4
  have hv2 : rchk [((exP 0).k, .int .i64 ti)] 9 1 3 exB 5 1000 (exP 0) = 12 := by
    rw [rchk_p (by decide +kernel) (by decide +kernel) (by decide +kernel)]
    exact putE_12 (by rw [getK_cons, if_pos rfl]; rfl)
  have HV2 := Lib.hid hv2
  clear ht4 gd hv eti hv2
  have hst4 : ∀ e w5, RelayTo w4.drew (B + 1) rb sb (B + 1 + 1) kv3 (B + 1) [((exP 0).k, .int .i64 ti)] 9 1 3 exB (.int .i64 0) e w5 → _ := fun e w5 ht => RelayTo.step (R4.out.grows (bl_drew (Below.refl _ _))) (box_grows P4.out (bl_drew (Below.refl _ _))) HLB.out (grows_trans _ _ _ G4.out (bl_drew (Below.refl _ _))) ht
  have HST4 := Lib.hid hst4
  have htx : ∀ (W : World) (kv : Value), RelayAt W (B + 1) rb sb (B + 1 + 1) kv (B + 1) [((exP 0).k, .int .i64 ti)] 9 1 3 exB → Calls Tryd.prog 8 #[.pointer (some ⟨rb, 0, none⟩), .int .i64 5, .int .i64 1000, (exP 0).val] W (RelayTo W (B + 1) rb sb (B + 1 + 1) kv (B + 1) [((exP 0).k, .int .i64 ti)] 9 1 3 exB (.int .i64 12)) := fun W kv h => by
    have h2 := rtake_any 5 1000 (exP 0) h exU h.base_le
    rw [HV2.out, if_neg (by decide)] at h2
    exact h2
  have HTX := Lib.hid htx
  clear hst4 htx
  have KS := Lib.hid (fun (w' : World) (h : w'.heap[p]? = some (.cells (exP 0).cells TPK (0, 0))) => show w'.cell? ⟨p, 0, none⟩ = some (.int .i64 4) ∧ w'.cell? ⟨p, 1, none⟩ = some (.int .i64 1000) ∧ w'.cell? ⟨p, 2, none⟩ = some (.int .i64 0) ∧ w'.cell? ⟨p, 3, none⟩ = some (.int .u32 0) ∧ w'.cell? ⟨p, 4, none⟩ = some (.int .i64 1) ∧ w'.cell? ⟨p, 5, none⟩ = some (.int .i64 0) ∧ w'.cell? ⟨p, 6, none⟩ = some (.int .i64 0) ∧ w'.cell? ⟨p, 7, none⟩ = some (.int .i64 0) ∧ w'.cell? ⟨p, 8, none⟩ = some (.int .i64 0) ∧ w'.cell? ⟨p, 9, none⟩ = some (.int .i64 0) ∧ w'.cell? ⟨p, 10, none⟩ = some (.int .i64 0) ∧ w'.cell? ⟨p, 11, none⟩ = some (.slice none 0 0) from ⟨(cell_in h 0 rfl).1, (cell_in h 1 rfl).1, (cell_in h 2 rfl).1, (cell_in h 3 rfl).1, (cell_in h 4 rfl).1, (cell_in h 5 rfl).1, (cell_in h 6 rfl).1, (cell_in h 7 rfl).1, (cell_in h 8 rfl).1, (cell_in h 9 rfl).1, (cell_in h 10 rfl).1, (cell_in h 11 rfl).1⟩)
  go_region_held3? (fun (w' : World) => w'.cell? ⟨p, 0, none⟩ = some (.int .i64 4) ∧ w'.cell? ⟨p, 1, none⟩ = some (.int .i64 1000) ∧ w'.cell? ⟨p, 2, none⟩ = some (.int .i64 0) ∧ w'.cell? ⟨p, 3, none⟩ = some (.int .u32 0) ∧ w'.cell? ⟨p, 4, none⟩ = some (.int .i64 1) ∧ w'.cell? ⟨p, 5, none⟩ = some (.int .i64 0) ∧ w'.cell? ⟨p, 6, none⟩ = some (.int .i64 0) ∧ w'.cell? ⟨p, 7, none⟩ = some (.int .i64 0) ∧ w'.cell? ⟨p, 8, none⟩ = some (.int .i64 0) ∧ w'.cell? ⟨p, 9, none⟩ = some (.int .i64 0) ∧ w'.cell? ⟨p, 10, none⟩ = some (.int .i64 0) ∧ w'.cell? ⟨p, 11, none⟩ = some (.slice none 0 0))
    ((first | exact KS.out _ P6.out | exact KS.out _ P5.out | exact KS.out _ P4.out | exact KS.out _ (box_grows P4.out (bl_drew (Below.refl _ _)))))
    ((first
      | (go_at_call 8; with_reducible show Calls _ _ _ (World.drew w4) _; refine (HT4.out).mono ?_; intro e w5 ht; obtain ⟨rfl, kv5, k1, k2, k3⟩ := HST4.out e w5 ht; have R5 := Lib.hid k1; have P5 := Lib.hid k2; have G5 := Lib.hid k3; clear ht k1 k2 k3)
      | (go_at_call 8; refine (HTX.out _ _ R5.out).mono ?_; intro e w6 ht; obtain ⟨rfl, kv6, k1, k2, k3⟩ := RelayTo.step R5.out P5.out HLB.out G5.out ht; have R6 := Lib.hid k1; have P6 := Lib.hid k2; have G6 := Lib.hid k3; clear ht k1 k2 k3)))
  all_goals (
    go_wp2_with fail
    have HON := Lib.hid (ronward_any 5 0 (exP 0) (by decide) R6.out (HT.out.grows G6.out))
    rw [exOn, show onL exB (exP 0) 5 0 = [2] from by decide +kernel] at HON
    refine (HON.out).mono ?_
    rintro e w7 ⟨v7, rfl, hg7, ho7⟩
    obtain ⟨g, c7, rfl, hc7, hl7, hcap⟩ := own_one ho7
    have HLN := Lib.hid (fun W' (hg : Grows w7 W') => rlen_any (R6.out.grows (grows_trans _ _ _ hg7 hg)))
    have G7 := Lib.hid (grows_trans _ _ _ G6.out hg7)
    clear hg7 ho7
    simp only [PW.val, PW.cells, PW.body]
    go_wp2_with fail
    refine (HLN.out _ (bl_alloc (Below.refl _ _) _)).mono ?_
    rintro e w9 ⟨rfl, rfl⟩
    go_wp2_with fail
    go_ret
    exact ⟨rfl, grows_trans _ _ _ G7.out (bl_alloc (Below.refl _ _) _)⟩)
end Go.Proofs.YtgjieoljfcfacaaDoor
