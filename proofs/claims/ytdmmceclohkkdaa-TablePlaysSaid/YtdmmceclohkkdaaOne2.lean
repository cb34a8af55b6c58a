/- One call, of a table and of the document's (TablePlays): the walk. -/
import Derived.Test.YtdmmceclohkkdaaDuo
import Derived.Test.YtdmmceclohkkdaaDocDel
import Derived.Test.YtdmmceclohkkdaaDocDrop
import Derived.Test.YtdmmceclohkkdaaTabEI
import Derived.Test.YtdmmceclohkkdaaTabFI
import Derived.Test.YtdmmceclohkkdaaTabGI
/- One call, of a table and of the document's (TablePlays). -/
namespace Go.Proofs.Ytdmmceclohkkdaa
open Go.RowKit Go.Sort
set_option maxHeartbeats 4000000
set_option maxRecDepth 100000
/-- What a call leaves of both. -/
def OneTo (w : World) (B tb : Nat) (kv : Value) (mb : Nat) (l : List DR) (M : Nat) (e : Ending) (w' : World) : Prop :=
  ∃ kv' v' l', e = .returned (.tuple #[dval v' M, .bool true]) ∧ TabAt TTI w' B tb kv' mb (l'.map tv) M ∧ ROwn w' B v' l' ∧ l'.length ≤ l.length + 1 ∧ Chg (fun j => TabS tb kv mb j ∨ w.heap.size ≤ j) w w'
/-- The result's box is set: what lies in it, and the rest. -/
theorem one_end {S : Nat → Prop} {W0 wx : World} {B tb mb j M : Nat} {kv v u0 u1 : Value} {l : List DR} (hg : Chg S W0 wx) (hj : S j) (h2 : wx.heap[j]? = some (.cells #[u0, u1] TDT (0, 0))) (ho : ROwn wx B v l) (ht : TabAt TTI wx B tb kv mb (l.map tv) M) :
    TabAt TTI ((wx.setCell ⟨j, 0, none⟩ v).setCell ⟨j, 1, none⟩ (.int .i64 (M : Int))) B tb kv mb (l.map tv) M ∧ ROwn ((wx.setCell ⟨j, 0, none⟩ v).setCell ⟨j, 1, none⟩ (.int .i64 (M : Int))) B v l ∧ Chg S W0 ((wx.setCell ⟨j, 0, none⟩ v).setCell ⟨j, 1, none⟩ (.int .i64 (M : Int))) ∧
      ((wx.setCell ⟨j, 0, none⟩ v).setCell ⟨j, 1, none⟩ (.int .i64 (M : Int))).cell? ⟨j, 0, none⟩ = some v ∧ ((wx.setCell ⟨j, 0, none⟩ v).setCell ⟨j, 1, none⟩ (.int .i64 (M : Int))).cell? ⟨j, 1, none⟩ = some (.int .i64 (M : Int)) := by
  have hc : Chg (fun i => i = j) wx ((wx.setCell ⟨j, 0, none⟩ v).setCell ⟨j, 1, none⟩ (.int .i64 (M : Int))) := Chg.setCell (S := fun i => i = j) (Chg.setCell (S := fun i => i = j) (Chg.refl _ _) _ (.inr rfl)) _ (.inr rfl)
  have hn := ht.notS h2 (by decide) (by decide)
  have h4 := box_setj (j := 1) (v := .int .i64 (M : Int)) (box_setj (j := 0) (v := v) h2)
  refine ⟨ht.chg hc (fun e => hn (.inl e.symm)) (fun e => hn (.inr (.inl e.symm))) (fun k hk e => hn (.inr (.inr (e ▸ hk)))), hc.own ho (fun k hk e => ?_), hg.trans (hc.mono fun k _ hk => hk ▸ hj), (cell_in h4 0 rfl).1, (cell_in h4 1 rfl).1⟩
  obtain ⟨cur, hcur⟩ := ROwn.ty ho hk
  rw [e, h2] at hcur
  injection hcur with hcur
  injection hcur with _ hcur
  exact absurd hcur (by decide)
theorem one_fin {S : Nat → Prop} {W0 wx wf : World} {B tb mb j M : Nat} {kv v u0 u1 : Value} {l : List DR} (hg : Chg S W0 wx) (hj : S j) (h2 : wx.heap[j]? = some (.cells #[u0, u1] TDT (0, 0))) (ho : ROwn wx B v l) (ht : TabAt TTI wx B tb kv mb (l.map tv) M)
    (hf : Grows ((wx.setCell ⟨j, 0, none⟩ v).setCell ⟨j, 1, none⟩ (.int .i64 (M : Int))) wf) :
    TabAt TTI wf B tb kv mb (l.map tv) M ∧ ROwn wf B v l ∧ Chg S W0 wf ∧ wf.cell? ⟨j, 0, none⟩ = some v ∧ wf.cell? ⟨j, 1, none⟩ = some (.int .i64 (M : Int)) := by
  obtain ⟨k1, k2, k3, k4, k5⟩ := one_end hg hj h2 ho ht
  exact ⟨k1.grows hf, own_grows k2 hf, k3.trans (Chg.ofGrows hf), box_cell_grows k4 hf, box_cell_grows k5 hf⟩
theorem delT_at {l : List DR} {k : KW} {i : Nat} (hn : (l.map (·.1)).Nodup) (hi : i < l.length) (hk : (l[i]).1 = k) : delT (l.map tv) k = (l.take i ++ l.drop (i + 1)).map tv := by
  have hl : l = l.take i ++ l[i] :: l.drop (i + 1) := by
    conv => lhs; rw [← List.take_append_drop i l]
    rw [List.drop_eq_getElem_cons hi]
  have hn2 := hn
  rw [hl, List.map_append, List.map_cons] at hn2
  have hn3 := List.nodup_append.1 hn2
  have hA : ∀ p ∈ (l.take i).map tv, p.1 ≠ k := fun p hp e => by
    obtain ⟨q, hq, rfl⟩ := List.mem_map.1 hp
    exact hn3.2.2 q.1 (List.mem_map_of_mem hq) l[i].1 (by simp) (by rw [hk]; exact e)
  have hB : ∀ p ∈ (l.drop (i + 1)).map tv, p.1 ≠ k := fun p hp e => by
    obtain ⟨q, hq, rfl⟩ := List.mem_map.1 hp
    exact (List.nodup_cons.1 hn3.2.1).1 (by rw [hk, ← e]; exact List.mem_map_of_mem hq)
  conv => lhs; rw [hl]
  unfold delT
  rw [List.map_append, List.map_cons, List.filter_append, List.filter_cons, List.map_append]
  have h1 : (List.filter (fun p : KW × Value => decide (p.1 ≠ k)) ((l.take i).map tv)) = (l.take i).map tv := List.filter_eq_self.2 fun p hp => by simpa using hA p hp
  have h2 : (List.filter (fun p : KW × Value => decide (p.1 ≠ k)) ((l.drop (i + 1)).map tv)) = (l.drop (i + 1)).map tv := List.filter_eq_self.2 fun p hp => by simpa using hB p hp
  rw [h1, h2]
  simp [tv, hk]
theorem atR_row {l : List DR} {k : KW} {i : Nat} (h : atR l k = (i : Int)) : ∃ hi : i < l.length, (l[i]).1 = k := by
  unfold atR at h
  cases hf : l.findIdx? (fun p => decide (p.1 = k)) with
  | none => rw [hf] at h; simp at h
  | some j =>
    rw [hf] at h
    have e : j = i := by simp at h; omega
    subst e
    obtain ⟨hi, hp, _⟩ := List.findIdx?_eq_some_iff_getElem.1 hf
    exact ⟨hi, by simpa using hp⟩
theorem getK_row {l : List DR} {k : KW} {i : Nat} (hn : ((l.map tv).map (·.1)).Nodup) (hi : i < l.length) (hk : (l[i]).1 = k) : getK (l.map tv) k = some (.int .i64 (l[i]).2) := by
  have hm : ((l[i]).1, Value.int .i64 (l[i]).2) ∈ l.map tv := List.mem_map.2 ⟨l[i], List.getElem_mem hi, rfl⟩
  have := getK_mem hn hm
  rw [hk] at this
  exact this
/-- Whose T is not above an end. -/
def lowD (e : Int) (p : KW × Value) : Bool := decide (p.1.t ≤ e)
theorem low_keep (e : Int) (l : List DR) : (l.map tv).filter (fun p => !lowD e p) = (l.filter (keepD e)).map tv := by
  rw [List.filter_map]
  congr 1
  refine List.filter_congr fun p _ => ?_
  simp only [Function.comp, lowD, keepD, tv]
  by_cases h : p.1.t ≤ e
  · simp [h, Int.not_lt.2 h]
  · simp [h, Int.not_le.1 h]
theorem low_count (e : Int) (l : List DR) : ((l.map tv).filter (lowD e)).length + (l.filter (keepD e)).length = l.length := by
  have h1 := delT_length (m := l.map tv) (lowD e)
  rw [low_keep, List.length_map, List.length_map] at h1
  exact h1
abbrev TAC : TypeId := 58
/-- The three boxes of a call. -/
structure OneBx (W : World) (b : Nat) (vw : Value) (M : Nat) (q : Int) (k : KW) (x : Int) : Prop where
  h0 : W.heap[b]? = some (.cells #[vw, .int .i64 (M : Int)] TDT (0, 0))
  h1 : W.heap[b + 1]? = some (.cells #[.int .u8 q, .int .i64 k.t, .int .i64 k.f, .int .u32 k.s, .int .i64 x] TAC (0, 0))
  h2 : W.heap[b + 2]? = some (.cells #[.slice none 0 0, .int .i64 0] TDT (0, 0))
section
variable {W W' : World} {b M : Nat} {vw : Value} {q x : Int} {k : KW}
theorem OneBx.grows (h : OneBx W b vw M q k x) (hg : Grows W W') : OneBx W' b vw M q k x := ⟨box_grows h.h0 hg, box_grows h.h1 hg, box_grows h.h2 hg⟩
theorem OneBx.tab {B tb mb most : Nat} {kv : Value} {m : List (KW × Value)} (h : OneBx W b vw M q k x) (ht : TabAt TTI W B tb kv mb m most) (hc : Chg (TabS tb kv mb) W W') : OneBx W' b vw M q k x :=
  ⟨box_chg h.h0 hc (ht.notS h.h0 (by decide) (by decide)), box_chg h.h1 hc (ht.notS h.h1 (by decide) (by decide)), box_chg h.h2 hc (ht.notS h.h2 (by decide) (by decide))⟩
theorem OneBx.cells (h : OneBx W b vw M q k x) : (W.cell? ⟨b, 0, none⟩ = some vw ∧ W.cell? ⟨b, 1, none⟩ = some (.int .i64 (M : Int)) ∧ b < W.heap.size) ∧
    (W.cell? ⟨b + 1, 0, none⟩ = some (.int .u8 q) ∧ W.cell? ⟨b + 1, 1, none⟩ = some (.int .i64 k.t) ∧ W.cell? ⟨b + 1, 2, none⟩ = some (.int .i64 k.f) ∧ W.cell? ⟨b + 1, 3, none⟩ = some (.int .u32 k.s) ∧ W.cell? ⟨b + 1, 4, none⟩ = some (.int .i64 x) ∧ b + 1 < W.heap.size) ∧
    (W.cell? ⟨b + 1 + 1, 0, none⟩ = some (.slice none 0 0) ∧ W.frozen? ⟨b + 1 + 1, 0, none⟩ = false ∧ W.cell? ⟨b + 1 + 1, 1, none⟩ = some (.int .i64 0) ∧ W.frozen? ⟨b + 1 + 1, 1, none⟩ = false ∧ b + 1 + 1 < W.heap.size) :=
  ⟨⟨(cell_in h.h0 0 rfl).1, (cell_in h.h0 1 rfl).1, box_lt h.h0⟩, ⟨(cell_in h.h1 0 rfl).1, (cell_in h.h1 1 rfl).1, (cell_in h.h1 2 rfl).1, (cell_in h.h1 3 rfl).1, (cell_in h.h1 4 rfl).1, box_lt h.h1⟩, (cell_in h.h2 0 rfl).1, (cell_in h.h2 0 rfl).2, (cell_in h.h2 1 rfl).1, (cell_in h.h2 1 rfl).2, box_lt h.h2⟩
/-- The document's rows stay where the table is changed; so do the boxes. -/
theorem one_step {S : Nat → Prop} {W0 W W' : World} {B tb mb b M : Nat} {kv vw u r : Value} {l : List DR} {m m' : List (KW × Value)} {q x : Int} {k : KW} {e : Ending} (ht : TabAt TTI W B tb kv mb m M) (ho : ROwn W B vw l) (hb : OneBx W b u M q k x) (hS : ∀ j, TabS tb kv mb j → S j) (hg : Chg S W0 W) (hto : TabTo TTI W B tb kv mb m' M r e W') :
    e = .returned r ∧ ∃ kv', TabAt TTI W' B tb kv' mb m' M ∧ ROwn W' B vw l ∧ OneBx W' b u M q k x ∧ Chg S W0 W' := by
  obtain ⟨rfl, kv', k1, k2, k3⟩ := hto
  exact ⟨rfl, kv', k1, k2.own ho (fun j hj hs => ROwn.tab ho ht (by decide) j hj hs), hb.tab ht k2, hg.trans (k2.mono fun j _ hj => hS j hj)⟩
end
theorem one1_any {w : World} (x : KW) (v : Value) {c : Nat} {u0 u2 u3 u4 : Value} {T : Int} (hc : w.heap[c]? = some (.cells #[u0, .int .i64 T, u2, u3, u4] TAC (0, 0))) :
    Calls Try.prog 71 (rowV (x, v) ++ #[.pointer (some ⟨c, 0, none⟩)]) w (RetV w (.bool (decide (x.t ≤ T)))) := by
  obtain ⟨W, eW⟩ : ∃ W, w.alloc (.cells #[.int .i64 x.t, .int .i64 x.f, .int .u32 x.s] 29) = W := ⟨_, rfl⟩
  have hgb : Grows w W := by rw [← eW]; exact bl_alloc (Below.refl _ _) _
  have hbx := heap_alloc_new w (.cells #[.int .i64 x.t, .int .i64 x.f, .int .u32 x.s] 29)
  rw [eW] at hbx
  obtain ⟨c1, -⟩ := cell_in (box_grows hc hgb) 1 rfl
  obtain ⟨t0, -⟩ := cell_in hbx 0 rfl
  have z1 := box_lt (box_grows hc hgb)
  have z2 := box_lt hbx
  have HG := Lib.hid hgb
  clear hc hgb hbx
  show Calls Try.prog 71 #[x.val, v, .pointer (some ⟨c, 0, none⟩)] w _
  go_enter Try.func71, Try.ntmps71
  go_wp2_with fail
  go_ret
  exact ⟨rfl, HG.out⟩
end Go.Proofs.Ytdmmceclohkkdaa
namespace Go.Proofs.Ytdmmceclohkkdaa
open Go.RowKit Go.Sort
set_option maxHeartbeats 4000000
set_option maxRecDepth 100000
theorem six_of {q : Int} (h : 0 ≤ q ∧ q ≤ 255) : q.tmod 6 = 0 ∨ q.tmod 6 = 1 ∨ q.tmod 6 = 2 ∨ q.tmod 6 = 3 ∨ q.tmod 6 = 4 ∨ q.tmod 6 = 5 := by
  rw [Int.tmod_eq_emod_of_nonneg h.1]
  omega
theorem sub_facts {c m n : Nat} (h : c + m = n) (hn : n ≤ 10000) : wrap64 ((n : Int) - (m : Int)) = (c : Int) ∧ IntKind.i64.wrap ((n : Int) - (m : Int)) = (c : Int) := by
  have h1 : (n : Int) - (m : Int) = (c : Int) := by omega
  rw [wrapEq, h1]
  exact ⟨(nat_facts c (by omega)).2.2.2.1, (nat_facts c (by omega)).2.2.2.1⟩
section
attribute [-go_sem] run_eql_struct run_neq_struct
theorem one_any {w : World} {B tb mb M : Nat} {kv v : Value} {l : List DR} (q : Int) (k : KW) (x : Int) (hq : 0 ≤ q ∧ q ≤ 255) (h : TabAt TTI w B tb kv mb (l.map tv) M) (ho : ROwn w B v l) (hm : l.length ≤ 1000) (hBw : B ≤ w.heap.size) :
    Calls Try.prog 31 #[.pointer (some ⟨tb, 0, none⟩), dval v M, .agg #[.int .u8 q, .int .i64 k.t, .int .i64 k.f, .int .u32 k.s, .int .i64 x]] w (OneTo w B tb kv mb l M) := by
  obtain ⟨n, en⟩ : ∃ n, l.length = n := ⟨_, rfl⟩
  obtain ⟨b, eb⟩ : ∃ b, w.heap.size = b := ⟨_, rfl⟩
  obtain ⟨a, cap, rfl⟩ := ROwn.len ho en
  have hq3 := three_new w (.cells #[.slice a n cap, .int .i64 (M : Int)] TDT) (.cells #[.int .u8 q, .int .i64 k.t, .int .i64 k.f, .int .u32 k.s, .int .i64 x] TAC) (.cells #[.slice none 0 0, .int .i64 0] TDT)
  obtain ⟨W, eW⟩ : ∃ W, ((w.alloc (.cells #[.slice a n cap, .int .i64 (M : Int)] TDT)).alloc (.cells #[.int .u8 q, .int .i64 k.t, .int .i64 k.f, .int .u32 k.s, .int .i64 x] TAC)).alloc (.cells #[.slice none 0 0, .int .i64 0] TDT) = W := ⟨_, rfl⟩
  rw [eW, eb] at hq3
  have HA := Lib.hid (fun W (hg : Grows w W) => rat_any (M := M) k (own_grows ho hg) (Nat.le_trans hm (by decide)))
  obtain ⟨h0, h1, h2, hg⟩ := hq3
  have hbx : OneBx W b (.slice a n cap) M q k x := ⟨h0, h1, h2⟩
  have HT := Lib.hid h
  have HO := Lib.hid ho
  have HG := Lib.hid hg
  have HM := Lib.hid (show l.length ≤ 10000 from Nat.le_trans hm (by decide))
  have EN := Lib.hid en
  have EB := Lib.hid eb
  obtain ⟨⟨a0, a1, z0⟩, ⟨b0, b1, b2, b3, b4, z1⟩, c0, c0f, c1, c1f, z2⟩ := hbx.cells
  have H0 := Lib.hid hbx
  have HB := Lib.hid (show B ≤ b by rw [← eb]; exact hBw)
  have HSI := Lib.hid (show ∀ j, TabS tb kv mb j → (fun j => TabS tb kv mb j ∨ w.heap.size ≤ j) j from fun j h => .inl h)
  have hsix := six_of hq
  clear h ho hg hm h0 h1 h2 hBw hq hbx en
  go_enter Try.func31, Try.ntmps31
  go_wp2_with fail
  refine (HA.out _ HG.out).mono ?_
  rintro e w1 ⟨rfl, hg1⟩
  have hgw1 := grows_trans _ _ _ HG.out hg1
  have H1 := Lib.hid (H0.out.grows hg1)
  have T1 := Lib.hid (HT.out.grows hgw1)
  have O1 := Lib.hid (own_grows HO.out hgw1)
  have G1 := Lib.hid (show Chg (fun j => TabS tb kv mb j ∨ w.heap.size ≤ j) w w1 from Chg.ofGrows hgw1)
  have HBZ := Lib.hid (show ∀ W' : World, b < W'.heap.size → B ≤ W'.heap.size from fun W' h => Nat.le_trans HB.out (Nat.le_of_lt h))
  have HJ := Lib.hid (show (fun j => TabS tb kv mb j ∨ w.heap.size ≤ j) (b + 2) from .inr (by rw [EB.out]; exact Nat.le_add_right b 2))
  clear a0 a1 b0 b1 b2 b3 b4 z0 z1 z2 c0 c0f c1 c1f hg1 hgw1 eW
  obtain ⟨⟨a0, a1, z0⟩, ⟨b0, b1, b2, b3, b4, z1⟩, c0, c0f, c1, c1f, z2⟩ := H1.out.cells
  obtain ⟨at0, eat⟩ : ∃ at0, atR l k = at0 := ⟨_, rfl⟩
  rw [eat]
  have EAT := Lib.hid eat
  clear eat
  rcases hsix with hs | hs | hs | hs | hs | hs
  · -- Put
    obtain ⟨r, er⟩ : ∃ r, putE (l.map tv) M k = r := ⟨_, rfl⟩
    obtain ⟨lp, elp⟩ : ∃ lp, putR l M k x = lp := ⟨_, rfl⟩
    have hput := tputI k (.int .i64 x) T1.out (HBZ.out _ z0)
    rw [← putR_tv, er, elp] at hput
    have HPUT := Lib.hid hput
    have HLP := Lib.hid (show lp.length ≤ l.length + 1 by rw [← elp]; exact putR_length l M k x)
    have HRP := Lib.hid (fun W' (hb : B ≤ W'.heap.size) (ho : ROwn W' B (.slice a n cap) l) => by
      have h1 := rput_any (M := M) k x ho HM.out hb
      rwa [er, elp] at h1)
    clear hput er elp
    go_wp2_with fail
    refine (HPUT.out).mono ?_
    intro e w2 hto
    obtain ⟨rfl, kv2, ht2, ho2, hb2, hg2⟩ := one_step T1.out O1.out H1.out HSI.out G1.out hto
    have X2 := Lib.hid (And.intro ht2 (And.intro ho2 (And.intro hb2 hg2)))
    clear a0 a1 b0 b1 b2 b3 b4 z0 z1 z2 c0 c0f c1 c1f hto
    obtain ⟨⟨a0, a1, z0⟩, ⟨b0, b1, b2, b3, b4, z1⟩, c0, c0f, c1, c1f, z2⟩ := hb2.cells
    clear ht2 ho2 hb2 hg2
    go_wp2_with fail
    refine (HRP.out _ (HBZ.out _ z0) X2.out.2.1).mono ?_
    rintro e w3 ⟨v3, rfl, hg3, ho3⟩
    obtain ⟨a3, cap3, rfl⟩ := ROwn.len ho3 rfl
    obtain ⟨np, enp⟩ : ∃ np, lp.length = np := ⟨_, rfl⟩
    rw [enp] at ho3 ⊢
    have hb3 := X2.out.2.2.1.grows hg3
    have X3 := Lib.hid (And.intro (X2.out.1.grows hg3) (And.intro ho3 (And.intro hb3 (X2.out.2.2.2.trans (Chg.ofGrows hg3)))))
    clear a0 a1 b0 b1 b2 b3 b4 z0 z1 z2 c0 c0f c1 c1f
    obtain ⟨⟨a0, a1, z0⟩, ⟨b0, b1, b2, b3, b4, z1⟩, c0, c0f, c1, c1f, z2⟩ := hb3.cells
    clear ho3 hb3 hg3 enp
    go_wp2_with fail
    obtain ⟨Wf, eWf⟩ : ∃ Wf, ((w3.setCell ⟨b + 1 + 1, 0, none⟩ (.slice a3 np cap3)).setCell ⟨b + 1 + 1, 1, none⟩ (.int .i64 (M : Int))).alloc (.cells #[.slice a3 np cap3, .int .i64 (M : Int)] TDT) = Wf := ⟨_, rfl⟩
    obtain ⟨k1, k2, k3, q0, q1⟩ := one_fin (wf := Wf) X3.out.2.2.2 HJ.out X3.out.2.2.1.h2 X3.out.2.1 X3.out.1 (by rw [← eWf]; exact bl_alloc (Below.refl _ _) _)
    rw [eWf]
    exact bodyPost_ret (v := .tuple #[dval (.slice a3 np cap3) M, .bool true]) (by simp [results, Try.results31, go_sem, q0, q1]) rfl ⟨kv2, _, lp, rfl, k1, k2, HLP.out, k3⟩
  · -- Del
    by_cases hk : k ∈ l.map (·.1)
    · obtain ⟨i, hi, hil⟩ := atR_mem hk
      obtain ⟨hil, hrow⟩ := atR_row hi
      have hdel := tdel_okI k _ T1.out (getK_row T1.out.rises.nodup hil hrow)
      rw [delT_at (by have := T1.out.rises.nodup; rwa [tv_keys] at this) hil hrow] at hdel
      have HDEL := Lib.hid hdel
      obtain ⟨lp, elp⟩ : ∃ lp, l.take i ++ l.drop (i + 1) = lp := ⟨_, rfl⟩
      rw [elp] at HDEL
      have HLP := Lib.hid (show lp.length ≤ l.length + 1 by rw [← elp]; simp; omega)
      have HRD := Lib.hid (fun W' (hb : B ≤ W'.heap.size) (ho : ROwn W' B (.slice a n cap) l) => by
        have h1 := rdel_any (M := M) ho hil HM.out hb
        rwa [elp] at h1)
      have ei : at0 = (i : Int) := EAT.out.symm.trans hi
      subst ei
      have hge : (0 : Int) ≤ (i : Int) := Int.natCast_nonneg i
      clear hi hil hrow hdel elp hk EAT
      go_wp2_with fail
      refine (HDEL.out).mono ?_
      intro e w2 hto
      obtain ⟨rfl, kv2, ht2, ho2, hb2, hg2⟩ := one_step T1.out O1.out H1.out HSI.out G1.out hto
      have X2 := Lib.hid (And.intro ht2 (And.intro ho2 (And.intro hb2 hg2)))
      clear a0 a1 b0 b1 b2 b3 b4 z0 z1 z2 c0 c0f c1 c1f hto
      obtain ⟨⟨a0, a1, z0⟩, ⟨b0, b1, b2, b3, b4, z1⟩, c0, c0f, c1, c1f, z2⟩ := hb2.cells
      clear ht2 ho2 hb2 hg2
      go_wp2_with fail
      refine (HRD.out _ (HBZ.out _ z0) X2.out.2.1).mono ?_
      rintro e w3 ⟨v3, rfl, hg3, ho3⟩
      obtain ⟨a3, cap3, rfl⟩ := ROwn.len ho3 rfl
      obtain ⟨np, enp⟩ : ∃ np, lp.length = np := ⟨_, rfl⟩
      rw [enp] at ho3 ⊢
      have hb3 := X2.out.2.2.1.grows hg3
      have ht3 := X2.out.1.grows hg3
      have hj0 : (fun j => TabS tb kv mb j ∨ w.heap.size ≤ j) b := .inr (by rw [EB.out]; exact Nat.le_refl _)
      obtain ⟨W4, e4⟩ : ∃ W4, (w3.setCell ⟨b, 0, none⟩ (.slice a3 np cap3)).setCell ⟨b, 1, none⟩ (.int .i64 (M : Int)) = W4 := ⟨_, rfl⟩
      obtain ⟨t1, t2, t3, t4, t5⟩ := one_end (X2.out.2.2.2.trans (Chg.ofGrows hg3)) hj0 hb3.h0 ho3 ht3
      have hc4 : Chg (fun i => i = b) w3 W4 := by rw [← e4]; exact Chg.setCell (S := fun i => i = b) (Chg.setCell (S := fun i => i = b) (Chg.refl _ _) _ (.inr rfl)) _ (.inr rfl)
      rw [e4] at t1 t2 t3 t4 t5
      have t6 := box_chg hb3.h2 hc4 (show ¬ b + 2 = b by omega)
      have t0 : b < W4.heap.size := block_lt_of_cell t4
      have X4 := Lib.hid (And.intro t1 (And.intro t2 (And.intro t6 t3)))
      clear a0 a1 b0 b1 b2 b3 b4 z0 z1 z2 c0 c0f c1 c1f
      obtain ⟨a0, a0f⟩ := cell_in hb3.h0 0 rfl
      obtain ⟨a1, a1f⟩ := cell_in hb3.h0 1 rfl
      have a0f : w3.frozen? ⟨b, 0, none⟩ = false := a0f
      have a1f : w3.frozen? ⟨b, 1, none⟩ = false := a1f
      have z0 := box_lt hb3.h0
      obtain ⟨c0, c0f⟩ := cell_in t6 0 rfl
      obtain ⟨c1, c1f⟩ := cell_in t6 1 rfl
      have c0f : W4.frozen? ⟨b + 1 + 1, 0, none⟩ = false := c0f
      have c1f : W4.frozen? ⟨b + 1 + 1, 1, none⟩ = false := c1f
      have z2 : b + 1 + 1 < W4.heap.size := box_lt t6
      clear t1 t2 t3 t6 hc4 ho3 hb3 hg3 enp ht3 hj0
      go_wp2_with fail
      obtain ⟨k1, k2, k3, q0, q1⟩ := one_end X4.out.2.2.2 HJ.out X4.out.2.2.1 X4.out.2.1 X4.out.1
      exact bodyPost_ret (v := .tuple #[dval (.slice a3 np cap3) M, .bool true]) (by simp [results, Try.results31, go_sem, q0, q1]) rfl ⟨kv2, _, lp, rfl, k1, k2, HLP.out, k3⟩
    · have ei : at0 = -1 := EAT.out.symm.trans (atR_none hk)
      subst ei
      have HDEL := Lib.hid (tdel_noI k T1.out (getK_tv.2 hk))
      clear hk EAT
      go_wp2_with fail
      refine (HDEL.out).mono ?_
      intro e w2 hto
      obtain ⟨rfl, kv2, ht2, ho2, hb2, hg2⟩ := one_step T1.out O1.out H1.out HSI.out G1.out hto
      have X2 := Lib.hid (And.intro ht2 (And.intro ho2 (And.intro hb2 hg2)))
      clear a0 a1 b0 b1 b2 b3 b4 z0 z1 z2 c0 c0f c1 c1f hto
      obtain ⟨⟨a0, a1, z0⟩, ⟨b0, b1, b2, b3, b4, z1⟩, c0, c0f, c1, c1f, z2⟩ := hb2.cells
      clear ht2 ho2 hb2 hg2
      go_wp2_with fail
      obtain ⟨k1, k2, k3, q0, q1⟩ := one_end X2.out.2.2.2 HJ.out X2.out.2.2.1.h2 X2.out.2.1 X2.out.1
      exact bodyPost_ret (v := .tuple #[dval (.slice a n cap) M, .bool true]) (by simp [results, Try.results31, go_sem, q0, q1]) rfl ⟨kv2, _, l, rfl, k1, k2, Nat.le_succ _, k3⟩
  · -- Pop
    cases l with
    | nil =>
      have hn0 : n = 0 := EN.out.symm
      subst hn0
      have HPOP := Lib.hid (tpop_noneI T1.out)
      go_wp2_with fail
      refine (HPOP.out).mono ?_
      intro e w2 hto
      obtain ⟨rfl, kv2, ht2, ho2, hb2, hg2⟩ := one_step T1.out O1.out H1.out HSI.out G1.out hto
      have X2 := Lib.hid (And.intro ht2 (And.intro ho2 (And.intro hb2 hg2)))
      clear a0 a1 b0 b1 b2 b3 b4 z0 z1 z2 c0 c0f c1 c1f hto
      obtain ⟨⟨a0, a1, z0⟩, ⟨b0, b1, b2, b3, b4, z1⟩, c0, c0f, c1, c1f, z2⟩ := hb2.cells
      clear ht2 ho2 hb2 hg2
      simp only [KW.val]
      go_wp2_with fail
      obtain ⟨Wf, eWf⟩ : ∃ Wf, ((w2.setCell ⟨b + 1 + 1, 0, none⟩ (.slice a 0 cap)).setCell ⟨b + 1 + 1, 1, none⟩ (.int .i64 (M : Int))).alloc (.cells #[.int .i64 0, .int .i64 0, .int .u32 0] 29) = Wf := ⟨_, rfl⟩
      obtain ⟨k1, k2, k3, q0, q1⟩ := one_fin (l := []) (wf := Wf) X2.out.2.2.2 HJ.out X2.out.2.2.1.h2 X2.out.2.1 X2.out.1 (by rw [← eWf]; exact bl_alloc (Below.refl _ _) _)
      rw [eWf]
      exact bodyPost_ret (v := .tuple #[dval (.slice a 0 cap) M, .bool true]) (by simp [results, Try.results31, go_sem, q0, q1]) rfl ⟨kv2, _, [], rfl, k1, k2, Nat.zero_le _, k3⟩
    | cons p l' =>
      have HPOP := Lib.hid (tpop_someI T1.out)
      have hn0 : 0 < n := by rw [← EN.out]; exact Nat.succ_pos _
      have hn1 : (0 : Int) < (n : Int) := Int.ofNat_lt.2 hn0
      have hn2 : (n = 0) = False := eq_false (Nat.ne_of_gt hn0)
      have HN0 := Lib.hid hn0
      have HRD := Lib.hid (fun W' (hb : B ≤ W'.heap.size) (ho : ROwn W' B (.slice a n cap) (p :: l')) => by
        have h1 := rdel_any (M := M) (i := 0) ho (Nat.succ_pos _) HM.out hb
        rwa [show (p :: l').take 0 ++ (p :: l').drop (0 + 1) = l' from rfl] at h1)
      clear hn0
      go_wp2_with fail
      refine (HPOP.out).mono ?_
      intro e w2 hto
      obtain ⟨rfl, kv2, ht2, ho2, hb2, hg2⟩ := one_step T1.out O1.out H1.out HSI.out G1.out hto
      obtain ⟨g, c', he, hcap, hgl, hat⟩ := ROwn.form ho2 EN.out HN0.out
      simp only [Value.slice.injEq, true_and] at he
      obtain ⟨rfl, rfl⟩ := he
      obtain ⟨p0, p1, p2, p3⟩ := rat_cells hat 0 (Nat.succ_pos _)
      simp only [List.getElem_cons_zero, Nat.zero_mul, Nat.add_zero, Nat.zero_add] at p0 p1 p2 p3
      have q2 := two_new w2 (.cells #[.int .i64 p.1.t, .int .i64 p.1.f, .int .u32 p.1.s] 29) (.cells #[.int .i64 p.1.t, .int .i64 p.1.f, .int .u32 p.1.s, .int .i64 p.2] 117)
      obtain ⟨W5, e5⟩ : ∃ W5, (w2.alloc (.cells #[.int .i64 p.1.t, .int .i64 p.1.f, .int .u32 p.1.s] 29)).alloc (.cells #[.int .i64 p.1.t, .int .i64 p.1.f, .int .u32 p.1.s, .int .i64 p.2] 117) = W5 := ⟨_, rfl⟩
      have hg5 : Grows w2 W5 := by rw [← e5]; exact bl_alloc (bl_alloc (Below.refl _ _) _) _
      rw [e5] at q2
      obtain ⟨c, ec⟩ : ∃ c, w2.heap.size = c := ⟨_, rfl⟩
      rw [ec] at q2
      have X5 := Lib.hid (And.intro (ht2.grows hg5) (And.intro (own_grows ho2 hg5) (And.intro (hb2.grows hg5) (And.intro (hg2.trans (Chg.ofGrows hg5)) q2))))
      have HEC := Lib.hid (And.intro e5 ec)
      clear a0 a1 b0 b1 b2 b3 b4 z0 z1 z2 c0 c0f c1 c1f hto
      obtain ⟨⟨a0, a1, z0⟩, ⟨b0, b1, b2, b3, b4, z1⟩, c0, c0f, c1, c1f, z2⟩ := hb2.cells
      clear ht2 ho2 hb2 hg2 hg5 q2 hat hcap e5 ec
      simp only [KW.val]
      go_wp2_with fail
      rw [HEC.out.1, HEC.out.2]
      clear a0 a1 b0 b1 b2 b3 b4 z0 z1 z2 c0 c0f c1 c1f p0 p1 p2 p3 HEC
      obtain ⟨⟨a0, a1, z0⟩, ⟨b0, b1, b2, b3, b4, z1⟩, c0, c0f, c1, c1f, z2⟩ := X5.out.2.2.1.cells
      have hv : ∀ W', Grows W5 W' → (W'.cell? ⟨c, 0, none⟩ = some (.int .i64 p.1.t) ∧ W'.cell? ⟨c, 1, none⟩ = some (.int .i64 p.1.f) ∧ W'.cell? ⟨c, 2, none⟩ = some (.int .u32 p.1.s) ∧ c < W'.heap.size) ∧ (W'.cell? ⟨c + 1, 0, none⟩ = some (.int .i64 p.1.t) ∧ W'.cell? ⟨c + 1, 1, none⟩ = some (.int .i64 p.1.f) ∧ W'.cell? ⟨c + 1, 2, none⟩ = some (.int .u32 p.1.s) ∧ W'.cell? ⟨c + 1, 3, none⟩ = some (.int .i64 p.2) ∧ c + 1 < W'.heap.size) := fun W' hg => by
        have h1 := box_grows X5.out.2.2.2.2.1 hg
        have h2 := box_grows X5.out.2.2.2.2.2 hg
        exact ⟨⟨(cell_in h1 0 rfl).1, (cell_in h1 1 rfl).1, (cell_in h1 2 rfl).1, box_lt h1⟩, (cell_in h2 0 rfl).1, (cell_in h2 1 rfl).1, (cell_in h2 2 rfl).1, (cell_in h2 3 rfl).1, box_lt h2⟩
      have HV := Lib.hid hv
      obtain ⟨⟨s0, s1, s2, s3⟩, t0, t1, t2, t3, t4⟩ := hv W5 (grows_refl _)
      have hq := fun W => key_eql p.1 p.1 W
      rw [decide_eq_true rfl] at hq
      simp only [KW.val] at hq
      clear hv
      have mixed : Try.prog.follows .mixedOrders = true := by kernel_rfl
      go_region_law (first
        | (refine step_call (by rfl) 70 #[.tmp 83, .const (.int .i64 0)] #[TDT, 3] (by rfl) #[dval (.slice (some ⟨g, 0, none⟩) n cap) M, .int .i64 0] (by simp [Act.eval]) Try.f70 Try.func70 (by kernel_rfl) (by kernel_rfl) (HRD.out _ (HBZ.out W5.drew z0) (own_grows X5.out.2.1 (bl_drew (Below.refl _ _)))) ?_
           rintro e w6 ⟨v6, rfl, hg6, ho6⟩
           obtain ⟨a6, cap6, rfl⟩ := ROwn.len ho6 rfl
           refine ⟨_, rfl, ?_⟩
           have hg56 := grows_trans _ _ _ (bl_drew (Below.refl _ _) : Grows W5 W5.drew) hg6
           obtain ⟨-, -, c0, c0f, c1, c1f, z2⟩ := (X5.out.2.2.1.grows hg56).cells
           obtain ⟨⟨s0, s1, s2, s3⟩, t0, t1, t2, t3, t4⟩ := HV.out w6 hg56
           have X6 := Lib.hid (And.intro hg56 ho6)
           clear hg6 ho6 hg56)
        | fail)
      all_goals (
        go_wp2
        obtain ⟨k1, k2, k3, q0, q1⟩ := one_end (X5.out.2.2.2.1.trans (Chg.ofGrows X6.out.1)) HJ.out (X5.out.2.2.1.grows X6.out.1).h2 X6.out.2 (X5.out.1.grows X6.out.1)
        exact bodyPost_ret (v := .tuple #[dval (.slice a6 l'.length cap6) M, .bool true]) (by simp [results, Try.results31, go_sem, q0, q1]) rfl ⟨kv2, _, l', rfl, k1, k2, Nat.le_trans (Nat.le_succ _) (Nat.le_succ _), k3⟩)
  · -- Drop
    have hnS : ¬ TabS tb kv mb (b + 1) := T1.out.notS H1.out.h1 (by decide) (by decide)
    have HP := Lib.hid (tdrop_any T1.out 71 #[.pointer (some ⟨b + 1, 0, none⟩)] (enters_of Try.func71 (by kernel_rfl) rfl)
      (fun A => A.heap[b + 1]? = some (.cells #[.int .u8 q, .int .i64 k.t, .int .i64 k.f, .int .u32 k.s, .int .i64 x] TAC (0, 0))) (lowD k.t) (fun A B' hA hc => box_chg hA hc (fun hs => by
        rcases hs with hs | hs
        · exact hnS hs
        · exact Nat.lt_irrefl _ (Nat.lt_of_lt_of_le z1 hs))) H1.out.h1 (fun y W' _ hW => one1_any y.1 y.2 hW))
    rw [low_keep] at HP
    obtain ⟨lp, elp⟩ : ∃ lp, l.filter (keepD k.t) = lp := ⟨_, rfl⟩
    obtain ⟨cn, ecn⟩ : ∃ cn, ((l.map tv).filter (lowD k.t)).length = cn := ⟨_, rfl⟩
    obtain ⟨np, enp⟩ : ∃ np, lp.length = np := ⟨_, rfl⟩
    have hsum : cn + np = n := by have := low_count k.t l; rw [elp, ecn, EN.out] at this; rw [← enp]; exact this
    have hn6 : n ≤ 10000 := by rw [← EN.out]; exact HM.out
    have hsub := sub_facts hsum hn6
    rw [elp, ecn] at HP
    have HLP := Lib.hid (show lp.length ≤ l.length + 1 by rw [← elp]; exact Nat.le_trans (List.length_filter_le _ _) (Nat.le_succ _))
    have HRD := Lib.hid (fun W' (hb : B ≤ W'.heap.size) (ho : ROwn W' B (.slice a n cap) l) => by
      have h1 := rdrop_any (M := M) k.t ho HM.out hb
      rwa [elp] at h1)
    have ENP := Lib.hid enp
    have HSUB := Lib.hid hsub
    clear hnS elp ecn enp hsum hn6 hsub
    go_wp2_with fail
    refine (HP.out).mono ?_
    intro e w2 hto
    obtain ⟨rfl, kv2, ht2, ho2, hb2, hg2⟩ := one_step T1.out O1.out H1.out HSI.out G1.out hto
    have X2 := Lib.hid (And.intro ht2 (And.intro ho2 (And.intro hb2 hg2)))
    clear a0 a1 b0 b1 b2 b3 b4 z0 z1 z2 c0 c0f c1 c1f hto
    obtain ⟨⟨a0, a1, z0⟩, ⟨b0, b1, b2, b3, b4, z1⟩, c0, c0f, c1, c1f, z2⟩ := hb2.cells
    clear ht2 ho2 hb2 hg2
    go_wp2_with fail
    refine (HRD.out _ (HBZ.out _ z0) X2.out.2.1).mono ?_
    rintro e w3 ⟨v3, rfl, hg3, ho3⟩
    obtain ⟨a3, cap3, rfl⟩ := ROwn.len ho3 ENP.out
    have hb3 := X2.out.2.2.1.grows hg3
    have g4 : Grows w3 (w3.alloc (.cells #[.slice a3 np cap3, .int .i64 (M : Int)] TDT)) := bl_alloc (Below.refl _ _) _
    have h4 := heap_alloc_new w3 (.cells #[.slice a3 np cap3, .int .i64 (M : Int)] TDT)
    obtain ⟨c, ec⟩ : ∃ c, w3.heap.size = c := ⟨_, rfl⟩
    obtain ⟨w4, e4⟩ : ∃ w4, w3.alloc (.cells #[.slice a3 np cap3, .int .i64 (M : Int)] TDT) = w4 := ⟨_, rfl⟩
    rw [e4] at g4
    rw [e4, ec] at h4
    have hb4 := hb3.grows g4
    have HBC := Lib.hid (show b + 1 + 1 < c by rw [← ec]; exact box_lt hb3.h2)
    have X4 := Lib.hid (And.intro (X2.out.1.grows (grows_trans _ _ _ hg3 g4)) (And.intro (own_grows ho3 g4) (And.intro hb4 (X2.out.2.2.2.trans (Chg.ofGrows (grows_trans _ _ _ hg3 g4))))))
    have HEC := Lib.hid (And.intro e4 ec)
    clear a0 a1 b0 b1 b2 b3 b4 z0 z1 z2 c0 c0f c1 c1f e4 ec ho3 hb3 hg3 g4
    go_wp2_with fail
    rw [HEC.out.1, HEC.out.2]
    obtain ⟨⟨a0, a1, z0⟩, ⟨b0, b1, b2, b3, b4, z1⟩, c0, c0f, c1, c1f, z2⟩ := hb4.cells
    obtain ⟨s0, -⟩ := cell_in h4 0 rfl
    obtain ⟨s1, -⟩ := cell_in h4 1 rfl
    have z4 := box_lt h4
    have hne1 : (b + 1 + 1 = c) = False := eq_false (Nat.ne_of_lt HBC.out)
    have hne2 : (c = b + 1 + 1) = False := eq_false (fun e => Nat.ne_of_lt HBC.out e.symm)
    have hsub := HSUB.out.1
    have hsub2 := HSUB.out.2
    clear hb4 h4 HEC
    have mixed : Try.prog.follows .mixedOrders = true := by kernel_rfl
    go_region_law (fail)
    all_goals (
      go_wp2
      obtain ⟨Wf, eWf⟩ : ∃ Wf, ((w4.setCell ⟨b + 1 + 1, 0, none⟩ (.slice a3 np cap3)).setCell ⟨b + 1 + 1, 1, none⟩ (.int .i64 (M : Int))).drew = Wf := ⟨_, rfl⟩
      obtain ⟨k1, k2, k3, q0, q1⟩ := one_fin (wf := Wf) X4.out.2.2.2 HJ.out X4.out.2.2.1.h2 X4.out.2.1 X4.out.1 (by rw [← eWf]; exact bl_drew (Below.refl _ _))
      rw [eWf]
      exact bodyPost_ret (v := .tuple #[dval (.slice a3 np cap3) M, .bool true]) (by simp [results, Try.results31, go_sem, q0, q1]) rfl ⟨kv2, _, lp, rfl, k1, k2, HLP.out, k3⟩)
  · -- Get
    by_cases hk : k ∈ l.map (·.1)
    · obtain ⟨i, hi, hil⟩ := atR_mem hk
      obtain ⟨hil, hrow⟩ := atR_row hi
      have hget := tgetI k T1.out
      rw [getK_row T1.out.rises.nodup hil hrow] at hget
      simp only [Option.getD_some, Option.isSome_some] at hget
      obtain ⟨y, ey⟩ : ∃ y, l[i] = y := ⟨_, rfl⟩
      rw [ey] at hget
      have HGET := Lib.hid hget
      have HIL := Lib.hid (And.intro hil ey)
      have ei : at0 = (i : Int) := EAT.out.symm.trans hi
      subst ei
      have hge : (0 : Int) ≤ (i : Int) := Int.natCast_nonneg i
      have hin : i < n := by rw [← EN.out]; exact hil
      have hn6 : i ≤ 1000000 := Nat.le_trans (Nat.le_of_lt hil) (Nat.le_trans HM.out (by decide))
      have HNF := Lib.hid (nat_facts i hn6)
      have HIN := Lib.hid hin
      clear hi hrow hget hk EAT ey hin hn6
      go_wp2_with fail
      refine (HGET.out).mono ?_
      rintro e w2 ⟨rfl, hg2⟩
      have hb2 := H1.out.grows hg2
      have ho2 := own_grows O1.out hg2
      obtain ⟨g, c', he, hcap, hgl, hat⟩ := ROwn.form ho2 EN.out (Nat.lt_of_le_of_lt (Nat.zero_le _) HIN.out)
      simp only [Value.slice.injEq, true_and] at he
      obtain ⟨rfl, rfl⟩ := he
      obtain ⟨p0, p1, p2, p3⟩ := rat_cells hat i HIL.out.1
      rw [Nat.zero_add] at p0 p1 p2 p3
      rw [HIL.out.2] at p0 p1 p2 p3
      have X2 := Lib.hid (And.intro (T1.out.grows hg2) (And.intro ho2 (And.intro hb2 (G1.out.trans (Chg.ofGrows hg2)))))
      clear a0 a1 b0 b1 b2 b3 b4 z0 z1 z2 c0 c0f c1 c1f
      obtain ⟨⟨a0, a1, z0⟩, ⟨b0, b1, b2, b3, b4, z1⟩, c0, c0f, c1, c1f, z2⟩ := hb2.cells
      obtain ⟨j1, j2, j3, j4, j6⟩ := HNF.out
      have hki : (i : Int) < (n : Int) := Int.ofNat_lt.2 HIN.out
      clear ho2 hb2 hg2 hat hcap
      go_wp2_with fail
      have mixed : Try.prog.follows .mixedOrders = true := by kernel_rfl
      go_region_law (fail)
      all_goals (
        go_wp2
        obtain ⟨Wf, eWf⟩ : ∃ Wf, ((w2.setCell ⟨b + 1 + 1, 0, none⟩ (.slice (some ⟨g, 0, none⟩) n cap)).setCell ⟨b + 1 + 1, 1, none⟩ (.int .i64 (M : Int))).drew = Wf := ⟨_, rfl⟩
        obtain ⟨k1, k2, k3, q0, q1⟩ := one_fin (wf := Wf) X2.out.2.2.2 HJ.out X2.out.2.2.1.h2 X2.out.2.1 X2.out.1 (by rw [← eWf]; exact bl_drew (Below.refl _ _))
        rw [eWf]
        exact bodyPost_ret (v := .tuple #[dval (.slice (some ⟨g, 0, none⟩) n cap) M, .bool true]) (by simp [results, Try.results31, go_sem, q0, q1]) rfl ⟨kv, _, l, rfl, k1, k2, Nat.le_succ _, k3⟩)
    · have ei : at0 = -1 := EAT.out.symm.trans (atR_none hk)
      subst ei
      have hget := tgetI k T1.out
      rw [getK_tv.2 hk] at hget
      simp only [Option.getD_none, Option.isSome_none] at hget
      have HGET := Lib.hid hget
      clear hk EAT hget
      go_wp2_with fail
      refine (HGET.out).mono ?_
      rintro e w2 ⟨rfl, hg2⟩
      have hb2 := H1.out.grows hg2
      have X2 := Lib.hid (And.intro (T1.out.grows hg2) (And.intro (own_grows O1.out hg2) (And.intro hb2 (G1.out.trans (Chg.ofGrows hg2)))))
      clear a0 a1 b0 b1 b2 b3 b4 z0 z1 z2 c0 c0f c1 c1f
      obtain ⟨⟨a0, a1, z0⟩, ⟨b0, b1, b2, b3, b4, z1⟩, c0, c0f, c1, c1f, z2⟩ := hb2.cells
      clear hb2 hg2
      go_wp2_with fail
      obtain ⟨k1, k2, k3, q0, q1⟩ := one_end X2.out.2.2.2 HJ.out X2.out.2.2.1.h2 X2.out.2.1 X2.out.1
      exact bodyPost_ret (v := .tuple #[dval (.slice a n cap) M, .bool true]) (by simp [results, Try.results31, go_sem, q0, q1]) rfl ⟨kv, _, l, rfl, k1, k2, Nat.le_succ _, k3⟩
  · -- Clear
    have HCL := Lib.hid (tclearI T1.out)
    go_wp2_with fail
    refine (HCL.out).mono ?_
    intro e w2 hto
    obtain ⟨rfl, kv2, ht2, ho2, hb2, hg2⟩ := one_step T1.out O1.out H1.out HSI.out G1.out hto
    have X2 := Lib.hid (And.intro ht2 (And.intro hb2 hg2))
    clear a0 a1 b0 b1 b2 b3 b4 z0 z1 z2 c0 c0f c1 c1f hto
    obtain ⟨⟨a0, a1, z0⟩, ⟨b0, b1, b2, b3, b4, z1⟩, c0, c0f, c1, c1f, z2⟩ := hb2.cells
    clear ht2 ho2 hb2 hg2
    go_wp2_with fail
    obtain ⟨k1, k2, k3, q0, q1⟩ := one_end (l := []) X2.out.2.2 HJ.out X2.out.2.1.h2 (World.ownsRow_nil _ _ _ _) X2.out.1
    exact bodyPost_ret (v := .tuple #[dval (.slice none 0 0) M, .bool true]) (by simp [results, Try.results31, go_sem, q0, q1]) rfl ⟨kv2, _, [], rfl, k1, k2, Nat.zero_le _, k3⟩
end
end Go.Proofs.Ytdmmceclohkkdaa
