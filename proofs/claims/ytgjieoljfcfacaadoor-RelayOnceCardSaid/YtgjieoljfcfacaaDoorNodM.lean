/- The program's nodes.List: a set's nodes, rising, in a row of the call's own. -/
import Derived.Test.YtgjieoljfcfacaaDoorNodL
import Derived.OwnWalkIn
namespace Go.Proofs.YtgjieoljfcfacaaDoor
open Go.RowKit Go.Sort
set_option maxHeartbeats 2000000
set_option maxRecDepth 100000
abbrev ic (x : Int) : List Value := [.int .i64 x]
theorem kindInt : RowKind ic 1 61 3 (.int .i64 0) 8 :=
  ⟨fun _ => rfl, fun a u hu => by simp at hu; subst hu; rfl, Tryd.underlying61, Tryd.infoInt, rfl, by decide, by decide⟩
theorem flat_iv (l : List Int) : l.flatMap ic = iv l := by
  induction l with
  | nil => rfl
  | cons a t ih => simp only [List.flatMap_cons, ih]; rfl
theorem wpListIn_append_eq {F : Fence} {n : Nat} {P : Program} (w : World) {ops : Array Oper} {rest : List Oper} {o : Oper} {a : Act} {Q : Exit → Act → World → Prop} (hgd : o.guard = none) (d s : Operand) (t t' : TypeId)
    (ho : o.op = .call { callee := .builtin .append, args := #[d, s], argTypes := #[t, t'] }) (v u : Value) (hd : a.eval d = v) (hs : a.eval s = u) {v' : Value} {w' : World}
    (hr : (Builtin.append_ #[t, t'] o.type #[v, u]).run P w = .ok v' w') (h : wpListIn F n P ops Q rest (a.put o.dst v') w') : wpListIn F n P ops Q (o :: rest) a w := by
  refine wpListIn_plain hgd fun K hK' => ?_
  unfold Oper.wpIn
  refine ⟨?_, ?_⟩
  · simp [Oper.about, ho, resolve, Target.leads, Sem.run_pure]
  · rw [Oper.semAt_plain F _ _ (by rw [ho]; intro c hc'; cases hc')]
    simp [execOp, ho, resolve, invoke, builtin, hd, hs, hr, Result.andThen]
    exact hK' _ _ h
theorem box_grows_own {α : Type} {f : α → List Value} {k : Nat} {E T : TypeId} {w w' : World} {base p : Nat} {v : Value} {l : List α} {cs : Array Value} (hp : w.heap[p]? = some (.cells cs T (0, 0))) (hg : w.grownBy w' v.ownBlock) (ho : GOwn f k E w base v l) (hT : T ≠ E := by decide) : w'.heap[p]? = some (.cells cs T (0, 0)) := by
  rw [hg.block p (box_lt hp) (fun e => by
    obtain ⟨cur, hc⟩ := gown_ty ho e.symm
    rw [hp] at hc
    injection hc with hc
    injection hc with _ hc
    exact hT hc)]
  exact hp
/-- An append to a row of one's own, then a store into a box: what holds no cells stays. -/
theorem stay_app {α : Type} {f : α → List Value} {k base n c p : Nat} {E T : TypeId} {v u0 u : Value} {l : List α} {W2 Wa W6 : World} (hg : Grows W2 Wa) (ho : GOwn f k E Wa base v l) (h6 : Wa.grownBy W6 v.ownBlock) (hp : W6.heap[p]? = some (.cells #[u0] T (0, 0))) (hc : c < base) (hcW : c < W2.heap.size) (hpc : p ≠ c) :
    Stay n c W2 (W6.setCell ⟨p, 0, none⟩ u) := by
  have hc6 : Chg (fun j => j = p) W6 (W6.setCell ⟨p, 0, none⟩ u) := Chg.setCell (S := fun j => j = p) (Chg.refl _ _) _ (.inr rfl)
  refine ⟨fun j o _ hoc hj => ?_, ?_⟩
  · have h1 := box_grows hj hg
    have h2 : W6.heap[j]? = some o := by
      rw [h6.block j (box_lt h1) (fun e => ?_)]
      · exact h1
      · obtain ⟨cur, hcur⟩ := gown_ty ho e.symm
        rw [h1] at hcur
        injection hcur with hcur
        rw [hcur] at hoc
        cases hoc
    rw [hc6.block j (box_lt h2) (fun e => ?_)]
    · exact h2
    · rw [e, hp] at h2
      injection h2 with h2
      rw [← h2] at hoc
      cases hoc
  · have h1 : c < Wa.heap.size := Nat.lt_of_lt_of_le hcW hg.size
    rw [hc6.block c (Nat.lt_of_lt_of_le h1 h6.size) (fun e => hpc e.symm), h6.block c h1 (fun e => by have := (ho.lt c e.symm).1; omega), hg.block c hcW]
section
attribute [local go_sem] Oper.semAt_some
theorem nlist_any (s : Nat) (hs : s < 18446744073709551616) (w : World) (hT : Laid w) :
    Calls Tryd.prog 42 #[.int .u64 (s : Int)] w (fun e w' => ∃ v, e = .returned v ∧ Grows w w' ∧ GOwn ic 1 3 w' w.heap.size v (listN s)) := by
  obtain ⟨p, ep⟩ : ∃ p, w.heap.size = p := ⟨_, rfl⟩
  obtain ⟨W, eW⟩ : ∃ W, w.alloc (.cells #[.slice none 0 0] 61) = W := ⟨_, rfl⟩
  have hgW : Grows w W := by rw [← eW]; exact bl_alloc (Below.refl _ _) _
  have hpW : W.heap[p]? = some (.cells #[.slice none 0 0] 61 (0, 0)) := by rw [← eW, ← ep]; exact heap_alloc_new w _
  have hsW : W.heap.size = p + 1 := by rw [← eW]; simp [ep]
  have HE := Lib.hid (each_any s W)
  have HT := Lib.hid hT
  have HGW := Lib.hid hgW
  have HPW := Lib.hid hpW
  have HSW := Lib.hid hsW
  have HS := Lib.hid hs
  have EP := Lib.hid ep
  clear hT hgW hpW hsW hs
  refine calls_of_wp_marks Tryd.func42 rfl ?_
  simp only [Tryd.ntmps42, List.size_toArray, List.length_cons, List.length_nil, Nat.reduceAdd, Nat.reduceSub, Array.replicate_succ, Array.replicate_zero, List.push_toArray, List.append_toArray, List.nil_append, List.cons_append]
  go_wp2_with fail
  refine (HE.out).mono ?_
  rintro e w3 ⟨rfl, e3⟩
  have hg3 : Grows W w3 := e3 ▸ bl_alloc (Below.refl _ _) _
  have hc3 : w3.heap[p + 1]? = some (.cells #[.int .u64 (s : Int)] 64 (0, 0)) := by rw [← e3, ← HSW.out]; exact heap_alloc_new W _
  have hs3 : w3.heap.size = p + 1 + 1 := by rw [← e3]; simp [HSW.out]
  rw [HSW.out]
  have hgw3 := grows_trans _ _ _ HGW.out hg3
  have hp3 := box_grows HPW.out hg3
  have hT3 := HT.out.grows hgw3
  clear e3 eW
  go_wp2_with fail
  refine wp_range3 (α := Int) rfl (enters_of Tryd.func79 (by kernel_rfl) rfl) (fun x => #[.int .i64 x]) (fun _ => rfl) (p + 1) (by rw [hs3]; exact Nat.lt_succ_self _)
    (fun pre A => Laid A ∧ (∃ v, A.heap[p]? = some (.cells #[v] 61 (0, 0)) ∧ GOwn ic 1 3 A (p + 1 + 1) v pre) ∧ Grows w A)
    (fun pre x _ => (listN s)[pre.length]? = some x) (fun _ _ _ => False) (fun xs => xs = listN s) ?hI ?hIc ?hIx ?h0 ?it ?rd ?dn ?st
  case hI =>
    rintro pre X Y ⟨h1, ⟨v, h2, h3⟩, h4⟩ hr
    exact ⟨h1.rec hr, ⟨v, hr.at h2, hr.own h3⟩, hr.below h4 (Nat.le_refl _) (hgw3.size)⟩
  case hIc =>
    rintro pre X Y ⟨h1, ⟨v, h2, h3⟩, h4⟩ hc
    exact ⟨h1.chg hc (by omega), ⟨v, box_chg h2 hc (by omega), hc.own h3 (fun j hj e => by have := (h3.lt j hj).1; omega)⟩, ((Chg.ofGrows h4).trans hc).toGrows fun j hj e => by omega⟩
  case hIx => exact fun _ _ _ _ h _ => h.elim
  case h0 => exact ⟨hT3, ⟨_, hp3, World.ownsRow_nil _ _ _ _⟩, hgw3⟩
  case it => exact each_tells w3 s _ (fun _ _ h => h.1) HS.out hc3
  case st => exact fun _ _ _ _ _ h => h.elim
  case rd =>
    intro l0 pre x W' hl0 hlt hI hG
    have HI := Lib.hid hI
    have hlen : pre.length ≤ 64 := Nat.le_trans (Nat.le_of_lt (List.getElem?_eq_some_iff.1 hG).1) (listN_length s)
    have HL := Lib.hid hlen
    have HLW := Lib.hid (show p + 1 < W'.heap.size by rw [hs3] at hl0; omega)
    clear hI hG hlen hT3 hp3 hc3
    gi_wp2_with fail
    refine ⟨Below.refl _ _, ?_⟩
    intro W2 hr2
    obtain ⟨h1, ⟨v, h2, h3⟩, h4⟩ := HI.out
    have f1 := h1.rec hr2
    have f2 := hr2.at h2
    have f3 : GOwn ic 1 3 W2 (p + 1 + 1) v pre := hr2.own h3
    have f4 := hr2.below h4 (Nat.le_refl _) (hgw3.size)
    have hs2 : p + 1 + 1 ≤ W2.heap.size := Nat.le_trans HLW.out hr2.size
    obtain ⟨v6, W6, hr6, ho6, hg6⟩ := gapp_one kindInt x f3 (Nat.le_trans HL.out (by decide)) hs2
    obtain ⟨a6, n6, rfl⟩ := GOwn.len kindInt.len ho6 rfl
    obtain ⟨v6, ev6⟩ : ∃ v6, Value.slice a6 (pre ++ [x]).length n6 = v6 := ⟨_, rfl⟩
    rw [ev6] at hr6 ho6
    have hp6 := box_grows_own f2 hg6 f3
    have hst := fun u => stay_app (n := w3.heap.size) (c := p + 1) (p := p) (u := u) (Below.refl _ W2) f3 hg6 hp6 (Nat.lt_succ_self _) hs2 (by omega)
    have hc6 : ∀ u, Chg (fun j => j = p) W6 (W6.setCell ⟨p, 0, none⟩ u) := fun u => Chg.setCell (S := fun j => j = p) (Chg.refl _ _) _ (.inr rfl)
    have hg26 : Grows w W6 := grows_of_grownBy f4 hg6 (fun k hk => by have := (f3.lt k hk).1; omega)
    have HF := Lib.hid (And.intro (hst v6) (And.intro ((Laid.chg (S := fun j => v.ownBlock = some j) f1 (Chg.ofRow hg6) (fun e => by have := (f3.lt 0 e).1; omega)).chg (hc6 v6) (by have := HT.out.lt; omega)) (And.intro (box_setj (j := 0) (v := v6) hp6) (And.intro ((hc6 v6).own ho6 (fun j hj e => by have := (ho6.lt j hj).1; omega)) (((Chg.ofGrows hg26).trans (hc6 v6)).toGrows fun j hj e => by omega)))))
    obtain ⟨c0, -⟩ := cell_in f2 0 rfl
    obtain ⟨d0, d0f⟩ := cell_in hp6 0 rfl
    have zc := box_lt f2
    have zd := box_lt hp6
    subst ev6
    obtain ⟨k6, ek6⟩ : ∃ k6, (pre ++ [x]).length = k6 := ⟨_, rfl⟩
    rw [ek6] at HF hr6
    clear h1 h2 h3 h4 f1 f2 f3 f4 ho6 hg6 hp6 hst hc6 hg26 hr2
    gi_wp2_with (gi_at_builtin; refine wpListIn_append_eq _ rfl _ _ 61 61 rfl _ _ rfl rfl (hr6 _) ?_)
    obtain ⟨k1, k2, k3, k4, k5⟩ := HF.out
    subst ek6
    exact ⟨k1, k2, ⟨_, k3, k4⟩, k5⟩
  case dn =>
    rintro D xs W7 hD hT7 ⟨h1, ⟨v, h2, h3⟩, h4⟩ hdf
    obtain ⟨b0, -⟩ := cell_in h2 0 rfl
    have HF := Lib.hid (And.intro hD (And.intro hT7 (And.intro h3 (And.intro h4 hdf))))
    clear hT3 hp3 hc3 h1 h2 h3 h4 hdf hD hT7
    go_wp2_with fail
    obtain ⟨hD, hT7, h3, h4, hdf⟩ := HF.out
    refine ⟨by simp, .inl ⟨_, _, rfl, run_takeDeferred hdf, ?_⟩⟩
    have hbel := (Rec.put (.deferred none) hD hdf rfl).below h4 (Nat.le_refl _) (hgw3.size)
    refine ⟨v, by simp [results, Tryd.results42, go_sem], v, rfl, hbel, ?_⟩
    have := (Rec.put (n := w3.heap.size) (.deferred none) hD hdf rfl).own h3
    rw [hT7] at this
    exact row_base this (show w.heap.size ≤ p + 1 + 1 by rw [EP.out]; omega)
end
end Go.Proofs.YtgjieoljfcfacaaDoor
