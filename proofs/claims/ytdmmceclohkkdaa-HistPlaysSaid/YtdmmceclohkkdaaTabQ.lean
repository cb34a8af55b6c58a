/- Rows taken out: the plain laws. -/
import Derived.Test.YtdmmceclohkkdaaTabP
namespace Go.Proofs.Ytdmmceclohkkdaa
open Go.RowKit Go.Sort
set_option maxHeartbeats 1000000
set_option maxRecDepth 100000
/-- Without a key's row. -/
def delT (m : List (KW × Value)) (k : KW) : List (KW × Value) := m.filter fun p => decide (p.1 ≠ k)
theorem delT_keys (m : List (KW × Value)) (k : KW) : (delT m k).map (·.1) = (m.map (·.1)).filter fun y => decide (y ≠ k) := by
  induction m with
  | nil => rfl
  | cons p m ih =>
    by_cases h : p.1 = k
    · simp only [delT, List.filter_cons, h, ne_eq, not_true_eq_false, decide_false, Bool.false_eq_true, if_false, List.map_cons]
      exact ih
    · simp only [delT, List.filter_cons, h, ne_eq, not_false_eq_true, decide_true, if_true, List.map_cons]
      congr 1
theorem rises_split {l : List KW} (hr : Rises l) {k : KW} (hk : k ∈ l) : ∃ A B, l = A ++ k :: B ∧ posK l k = A.length ∧ k ∉ A ∧ k ∉ B := by
  have hnd := hr.nodup
  obtain ⟨A, B, rfl⟩ := List.append_of_mem hk
  have h1 := List.nodup_append.1 hnd
  have hA : k ∉ A := fun h => h1.2.2 k h k (by simp) rfl
  have hB : k ∉ B := (List.nodup_cons.1 h1.2.1).1
  refine ⟨A, B, rfl, ?_, hA, hB⟩
  have h2 := List.pairwise_append.1 hr
  have := take_found (fun y => lessK y k) (A ++ k :: B) A.length (by simp) (fun j hj hl => by
    rw [List.getElem_append_left hj]
    exact h2.2.2 _ (List.getElem_mem hj) k (by simp)) (fun h => by simp [lessK_irrefl])
  unfold posK
  rw [this.1, List.take_left]
theorem del_keys {m : List (KW × Value)} (hr : Rises (m.map (·.1))) {k : KW} (hk : k ∈ m.map (·.1)) : (m.map (·.1)).eraseIdx (posK (m.map (·.1)) k) = (delT m k).map (·.1) ∧ posK (m.map (·.1)) k < (m.map (·.1)).length := by
  obtain ⟨A, B, h1, h2, h3, h4⟩ := rises_split hr hk
  rw [delT_keys, h2]
  constructor
  · rw [h1, List.eraseIdx_append_of_length_le (Nat.le_refl _), Nat.sub_self, List.eraseIdx_cons_zero, List.filter_append, List.filter_cons]
    simp only [ne_eq, not_true_eq_false, decide_false, Bool.false_eq_true, if_false]
    rw [List.filter_eq_self.2 (fun y hy => by simp; rintro rfl; exact h3 hy), List.filter_eq_self.2 (fun y hy => by simp; rintro rfl; exact h4 hy)]
  · rw [h1]; simp
theorem delT_rises {m : List (KW × Value)} (hr : Rises (m.map (·.1))) (k : KW) : Rises ((delT m k).map (·.1)) := by
  rw [delT_keys]; exact hr.sublist List.filter_sublist
theorem getK_delT (m : List (KW × Value)) (k x : KW) : (if x = k then none else getK m x) = getK (delT m k) x := by
  induction m with
  | nil => simp [delT, getK_nil]
  | cons p m ih =>
    rw [getK_cons]
    by_cases h : p.1 = k
    · have e : delT (p :: m) k = delT m k := by simp [delT, h]
      rw [e, ← ih]
      by_cases hx : x = k
      · simp [hx]
      · rw [if_neg hx, if_neg hx, if_neg (by rw [h]; exact hx)]
    · have e : delT (p :: m) k = p :: delT m k := by simp [delT, h]
      rw [e, getK_cons, ← ih]
      by_cases hx : x = k
      · subst hx; rw [if_pos rfl, if_neg (fun e => h e.symm), if_pos rfl]
      · rw [if_neg hx, if_neg hx]
theorem delT_few (m : List (KW × Value)) (k : KW) : (delT m k).length ≤ m.length := List.length_filter_le _ _
/-- What Del leaves: the keys' slice lies where it lay. -/
def TabDel (T : TypeId) (w : World) (base tb : Nat) (kv : Value) (mb : Nat) (m' : List (KW × Value)) (most : Nat) (r : Value) (e : Ending) (w' : World) : Prop :=
  e = .returned r ∧ ∃ kv', TabAt T w' base tb kv' mb m' most ∧ Chg (TabS tb kv mb) w w' ∧ kv'.ownBlock = kv.ownBlock
theorem TabDel.to {T : TypeId} {w w' : World} {base tb mb most : Nat} {kv r : Value} {m' : List (KW × Value)} {e : Ending} (h : TabDel T w base tb kv mb m' most r e w') : TabTo T w base tb kv mb m' most r e w' := by
  obtain ⟨h1, kv', h2, h3, h4⟩ := h
  exact ⟨h1, kv', h2, h3, fun j hj => .inl (h4 ▸ hj)⟩
theorem tab_end2 {T : TypeId} {w w1 w3 : World} {base tb mb most : Nat} {kv kv' : Value} {m m' : List (KW × Value)} {r : Value} {o : Obj} (q : Nat) (hT : T ≠ 29) (h : TabAt T w base tb kv mb m most) (hg : Grows w w1)
    (ho : KOwn w3 base kv' (m'.map (·.1))) (hc : Chg (fun j => kv.ownBlock = some j) w1 w3) (hf : kv'.ownBlock = kv.ownBlock)
    (hm : MapAt (((w3.setCell ⟨tb, 0, none⟩ kv').drewN q).putObj mb o) mb (getK m')) (hr : Rises (m'.map (·.1))) (hfew : m'.length ≤ most) :
    TabDel T w base tb kv mb m' most r (.returned r) (((w3.setCell ⟨tb, 0, none⟩ kv').drewN q).putObj mb o) := by
  have h1 := h.grows hg
  have hob3 := box_chg h1.ob hc (h1.kne hT)
  have hmp3 := h1.map.chg hc h1.kmne
  have hne := h.ne
  have hob4 : (w3.setCell ⟨tb, 0, none⟩ kv').heap[tb]? = some (.cells #[kv', .map (some mb), .int .i64 (most : Int)] T (0, 0)) := box_setj hob3
  have hc4 : Chg (fun j => j = tb) w3 (w3.setCell ⟨tb, 0, none⟩ kv') := Chg.setCell (Chg.refl _ _) _ (.inr rfl)
  have ho4 := hc4.own ho (fun j hj e => own_ne hT ho hob3 (e ▸ hj))
  have hmp4 := hmp3.chg hc4 hne
  have hc5 : Chg (fun j => j = mb) (w3.setCell ⟨tb, 0, none⟩ kv') (((w3.setCell ⟨tb, 0, none⟩ kv').drewN q).putObj mb o) := Chg.putObj (Chg.drewN (Chg.refl _ _) q) o (.inr rfl)
  have ho5 := hc5.own ho4 (fun j hj e => own_mne ho4 hmp4 (e ▸ hj))
  have hob5 := box_chg hob4 hc5 (fun e => hne e.symm)
  refine ⟨rfl, kv', ⟨hob5, ho5, hm, h.bt, h.bm, hfew, h.most, hr⟩, ?_, hf⟩
  exact Chg.trans (Chg.ofGrows hg) (Chg.trans (hc.mono fun j _ hj => .inr (.inr hj)) (Chg.trans (hc4.mono fun j _ hj => .inl hj) (hc5.mono fun j _ hj => .inr (.inl hj))))
end Go.Proofs.Ytdmmceclohkkdaa
