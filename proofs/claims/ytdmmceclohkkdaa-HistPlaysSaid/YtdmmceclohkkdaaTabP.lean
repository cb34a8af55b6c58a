/- A row put in, a row taken out: what lies in memory behind it. -/
import Derived.Test.YtdmmceclohkkdaaTab
namespace Go.Proofs.Ytdmmceclohkkdaa
open Go.RowKit Go.Sort
set_option maxHeartbeats 1000000
set_option maxRecDepth 100000
/-- What Put says. -/
def putE (m : List (KW × Value)) (most : Nat) (k : KW) : Int := if getK m k ≠ none then 12 else if most ≤ m.length then 13 else 0
/-- What a call leaves that changes a table. -/
def TabTo (T : TypeId) (w : World) (base tb : Nat) (kv : Value) (mb : Nat) (m' : List (KW × Value)) (most : Nat) (r : Value) (e : Ending) (w' : World) : Prop :=
  e = .returned r ∧ ∃ kv', TabAt T w' base tb kv' mb m' most ∧ Chg (TabS tb kv mb) w w' ∧ ∀ j, kv'.ownBlock = some j → kv.ownBlock = some j ∨ w.heap.size ≤ j
theorem TabTo.same {T : TypeId} {w w' : World} {base tb mb most : Nat} {kv : Value} {m : List (KW × Value)} {r : Value} (h : TabAt T w base tb kv mb m most) (hg : Grows w w') : TabTo T w base tb kv mb m most r (.returned r) w' :=
  ⟨rfl, kv, h.grows hg, Chg.ofGrows hg, fun _ hj => .inl hj⟩
theorem Chg.putObj {S : Nat → Prop} {w w' : World} (h : Chg S w w') {b : Nat} (o : Obj) (hp : w.heap.size ≤ b ∨ S b) : Chg S w (w'.putObj b o) := by
  refine ⟨h.os, h.tape, h.output, by simpa [World.putObj] using h.size, fun k hk hS => ?_⟩
  have hne : b ≠ k := fun e => by subst e; rcases hp with hp | hp; exact Nat.lt_irrefl _ (Nat.lt_of_lt_of_le hk hp); exact hS hp
  rw [World.putObj_heap_other (fun e => hne e.symm)]
  exact h.block k hk hS
theorem MapAt.congr {w : World} {b : Nat} {g g' : KW → Option Value} (h : MapAt w b g) (he : ∀ x, g x = g' x) : MapAt w b g' := by
  obtain ⟨es, cl, m, h1, h2, h3, h4⟩ := h
  exact ⟨es, cl, m, h1, h2, h3, fun x => (h4 x).trans (he x)⟩
theorem getK_insT {m : List (KW × Value)} {k : KW} {v : Value} (hn : ((insT m k v).map (·.1)).Nodup) (x : KW) : (if x = k then some v else getK m x) = getK (insT m k v) x := by
  rw [getK_perm (insT_perm m k v) hn, getK_cons]
/-- The slice's block is not the table's. -/
theorem own_ne {T : TypeId} {w : World} {base tb : Nat} {kv : Value} {l : List KW} {cs : Array Value} (hT : T ≠ 29) (ho : KOwn w base kv l) (hob : w.heap[tb]? = some (.cells cs T (0, 0))) : kv.ownBlock ≠ some tb := fun hj => by
  obtain ⟨cur, hg⟩ := ho.ty hj
  rw [hob] at hg
  injection hg with hg
  injection hg with _ hg
  exact hT hg
theorem own_mne {w : World} {base mb : Nat} {kv : Value} {l : List KW} {g : KW → Option Value} (ho : KOwn w base kv l) (hm : MapAt w mb g) : kv.ownBlock ≠ some mb := fun hj => by
  obtain ⟨cur, hg⟩ := ho.ty hj
  exact map_ne_cells hm hg
/-- The keys' slice changed, then the map: the table behind it. -/
theorem tab_end {T : TypeId} {w w1 w3 : World} {base tb mb most : Nat} {kv kv' : Value} {m m' : List (KW × Value)} {r : Value} {o : Obj} (q : Nat) (hT : T ≠ 29) (h : TabAt T w base tb kv mb m most) (hg : Grows w w1)
    (ho : KOwn w3 base kv' (m'.map (·.1))) (hc : Chg (fun j => kv.ownBlock = some j) w1 w3) (hf : ∀ j, kv'.ownBlock = some j → kv.ownBlock = some j ∨ w1.heap.size ≤ j)
    (hm : MapAt (((w3.setCell ⟨tb, 0, none⟩ kv').drewN q).putObj mb o) mb (getK m')) (hr : Rises (m'.map (·.1))) (hfew : m'.length ≤ most) :
    TabTo T w base tb kv mb m' most r (.returned r) (((w3.setCell ⟨tb, 0, none⟩ kv').drewN q).putObj mb o) := by
  have h1 := h.grows hg
  have hob3 := box_chg h1.ob hc (h1.kne hT)
  have hmp3 := h1.map.chg hc h1.kmne
  have hne := h.ne
  have hob4 : (w3.setCell ⟨tb, 0, none⟩ kv').heap[tb]? = some (.cells #[kv', .map (some mb), .int .i64 (most : Int)] T (0, 0)) := box_setj hob3
  have hc4 : Chg (fun j => j = tb) w3 (w3.setCell ⟨tb, 0, none⟩ kv') := Chg.setCell (Chg.refl _ _) _ (.inr rfl)
  have ho4 := hc4.own ho (fun j hj e => own_ne hT ho hob3 (e ▸ hj))
  have hmp4 := hmp3.chg hc4 hne
  have hc5 : Chg (fun j => j = mb) (w3.setCell ⟨tb, 0, none⟩ kv') (((w3.setCell ⟨tb, 0, none⟩ kv').drewN q).putObj mb o) := Chg.putObj (Chg.drewN (Chg.refl _ _) q) o (.inr rfl)
  have ho5 := hc5.own ho4 (fun j hj e => own_mne ho4 hmp4 (e ▸ hj))
  have hob5 := box_chg hob4 hc5 (fun e => hne e.symm)
  refine ⟨rfl, kv', ⟨hob5, ho5, hm, h.bt, h.bm, hfew, h.most, hr⟩, ?_, fun j hj => ?_⟩
  · exact Chg.trans (Chg.ofGrows hg) (Chg.trans (hc.mono fun j _ hj => .inr (.inr hj)) (Chg.trans (hc4.mono fun j _ hj => .inl hj) (hc5.mono fun j _ hj => .inr (.inl hj))))
  · rcases hf j hj with h2 | h2
    · exact .inl h2
    · exact .inr (Nat.le_trans hg.size h2)
/-- What lies between a change of the keys' slice and one of the map. -/
def TabMid (w : World) (base tb : Nat) (kv : Value) (l : List KW) (wx : World) : Prop :=
  ∃ w1 w3 a cap, Grows w w1 ∧ KOwn w3 base (.slice a l.length cap) l ∧ Chg (fun j => kv.ownBlock = some j) w1 w3 ∧ (∀ j, (Value.slice a l.length cap).ownBlock = some j → kv.ownBlock = some j ∨ w1.heap.size ≤ j) ∧ wx = w3.setCell ⟨tb, 0, none⟩ (.slice a l.length cap)
end Go.Proofs.Ytdmmceclohkkdaa
