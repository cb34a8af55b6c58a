/- A table of names (seen): its methods, by those of the table that it has. -/
import Derived.Test.YtdmmceclohkkdaaTabGI
import Derived.Test.YtdmmceclohkkdaaTabDrop
namespace Go.Proofs.Ytdmmceclohkkdaa
open Go.RowKit Go.Sort
set_option maxHeartbeats 4000000
set_option maxRecDepth 100000
abbrev TSE : TypeId := 120
/-- Names lie at block sb: their table at block tb. -/
structure SeenAt (w : World) (base sb tb : Nat) (kv : Value) (mb : Nat) (m : List (KW × Value)) (most : Nat) : Prop where
  ob : w.heap[sb]? = some (.cells #[.pointer (some ⟨tb, 0, none⟩)] TSE (0, 0))
  tab : TabAt TTI w base tb kv mb m most
  bs : base ≤ sb
theorem SeenAt.grows {w w' : World} {base sb tb mb most : Nat} {kv : Value} {m : List (KW × Value)} (h : SeenAt w base sb tb kv mb m most) (hg : Grows w w') : SeenAt w' base sb tb kv mb m most :=
  ⟨box_grows h.ob hg, h.tab.grows hg, h.bs⟩
theorem SeenAt.nS {w : World} {base sb tb mb most : Nat} {kv : Value} {m : List (KW × Value)} (h : SeenAt w base sb tb kv mb m most) : ¬ TabS tb kv mb sb := fun hs => by
  rcases hs with hs | hs | hs
  · have h1 := h.ob
    rw [hs, h.tab.ob] at h1
    injection h1 with h1
    injection h1 with _ h1
    exact absurd h1 (by decide)
  · exact map_ne_cells h.tab.map (hs ▸ h.ob)
  · obtain ⟨cur, hg⟩ := h.tab.own.ty hs
    rw [h.ob] at hg
    injection hg with hg
    injection hg with _ hg
    exact absurd hg (by decide)
/-- What a call leaves that changes names. -/
def SeenTo (w : World) (base sb tb : Nat) (kv : Value) (mb : Nat) (m' : List (KW × Value)) (most : Nat) (r : Value) (e : Ending) (w' : World) : Prop :=
  e = .returned r ∧ ∃ kv', SeenAt w' base sb tb kv' mb m' most ∧ Chg (TabS tb kv mb) w w' ∧ ∀ j, kv'.ownBlock = some j → kv.ownBlock = some j ∨ w.heap.size ≤ j
theorem SeenTo.ofTab {w w1 w' : World} {base sb tb mb most : Nat} {kv r : Value} {m m' : List (KW × Value)} {e : Ending} (h : SeenAt w base sb tb kv mb m most) (hg : Grows w w1) (ht : TabTo TTI w1 base tb kv mb m' most r e w') : SeenTo w base sb tb kv mb m' most r e w' := by
  obtain ⟨rfl, kv', k1, k2, k3⟩ := ht
  refine ⟨rfl, kv', ⟨box_chg (box_grows h.ob hg) k2 h.nS, k1, h.bs⟩, (Chg.ofGrows hg).trans k2, fun j hj => ?_⟩
  rcases k3 j hj with h1 | h1
  · exact .inl h1
  · exact .inr (Nat.le_trans hg.size h1)
theorem SeenTo.behind {w Wx Wy : World} {base sb tb mb most : Nat} {kv r : Value} {m m' : List (KW × Value)} {e : Ending} (h : SeenAt Wx base sb tb kv mb m most) (hb : w.heap.size ≤ base) (hg : Grows w Wx) (ht : SeenTo Wx base sb tb kv mb m' most r e Wy) : Grows w Wy := by
  obtain ⟨-, kv', k1, k2, k3⟩ := ht
  refine Below.trans hg (k2.toBelow hg.size (fun j hj hs => ?_))
  rcases hs with hs | hs | hs
  · have := h.tab.bt; omega
  · have := h.tab.bm; omega
  · have := (h.tab.own.lt _ hs).1; omega
theorem snew_any (n : Int) (w : World) : Calls Try.prog 24 #[.int .i64 n] w (fun e w' => ∃ sb, e = .returned (.pointer (some ⟨sb, 0, none⟩)) ∧ Grows w w' ∧ SeenAt w' w.heap.size sb (w.heap.size + 1) (.slice none 0 0) w.heap.size [] (mostOfI n)) := by
  have HN := Lib.hid (tnewI n w)
  go_enter Try.func24, Try.ntmps24
  go_wp2_with fail
  refine (HN.out).mono ?_
  rintro e w1 ⟨rfl, hg1, ht1⟩
  have HT := Lib.hid ht1
  have HG := Lib.hid hg1
  clear ht1 hg1
  go_wp2_with fail
  go_ret
  have g2 : Grows w1 (w1.alloc (.cells #[.pointer (some ⟨w.heap.size + 1, 0, none⟩)] TSE)) := bl_alloc (Below.refl _ _) _
  exact ⟨_, rfl, grows_trans _ _ _ HG.out g2, heap_alloc_new w1 _, HT.out.grows g2, HG.out.size⟩
section
variable {w : World} {base sb tb mb most : Nat} {kv : Value} {m : List (KW × Value)}
theorem snote_any (k : KW) (t : Int) (h : SeenAt w base sb tb kv mb m most) (hb : base ≤ w.heap.size) :
    Calls Try.prog 25 #[.pointer (some ⟨sb, 0, none⟩), k.val, .int .i64 t] w (SeenTo w base sb tb kv mb (if putE m most k = 0 then insT m k (.int .i64 t) else m) most (.int .i64 (putE m most k))) := by
  obtain ⟨W, eW⟩ : ∃ W, w.alloc (.cells #[.int .i64 k.t, .int .i64 k.f, .int .u32 k.s] 29) = W := ⟨_, rfl⟩
  have hgb : Grows w W := by rw [← eW]; exact bl_alloc (Below.refl _ _) _
  have hbx := heap_alloc_new w (.cells #[.int .i64 k.t, .int .i64 k.f, .int .u32 k.s] 29)
  rw [eW] at hbx
  have HP := Lib.hid (fun W' (hg : Grows w W') => (tputI k (.int .i64 t) (h.tab.grows hg) (Nat.le_trans hb hg.size)).mono fun e w' ht => SeenTo.ofTab h hg ht)
  have HG := Lib.hid hgb
  obtain ⟨c0, -⟩ := cell_in (box_grows h.ob hgb) 0 rfl
  have z1 := box_lt (box_grows h.ob hgb)
  have z2 := box_lt hbx
  obtain ⟨t0, -⟩ := cell_in hbx 0 rfl
  obtain ⟨t1, -⟩ := cell_in hbx 1 rfl
  obtain ⟨t2, -⟩ := cell_in hbx 2 rfl
  obtain ⟨r, er⟩ : ∃ r, putE m most k = r := ⟨_, rfl⟩
  obtain ⟨mr, emr⟩ : ∃ mr, (if putE m most k = 0 then insT m k (.int .i64 t) else m) = mr := ⟨_, rfl⟩
  rw [emr, er] at HP
  rw [emr, er]
  clear h hb hgb hbx er emr
  go_enter Try.func25, Try.ntmps25
  go_wp2_with fail
  refine wp_region_tail_reg 6 (by kernel_rfl) (by kernel_rfl) (by kernel_rfl) (by kernel_rfl) ?_
  simp only [List.take_succ_cons, List.take_zero, List.drop_succ_cons, List.drop_zero]
  repeat (first | go_big_quiet_step ((fail)) | quiet_step ((fail)))
  refine wpQuiet_nil ?_
  intro _ hcw1
  obtain ⟨pq, hcw2⟩ := hcw1
  subst hcw2
  go_wp2_with fail
  refine (HP.out _ (grows_trans _ _ _ HG.out (below_reg _ _))).mono ?_
  intro e w1 hs
  have HS := Lib.hid hs
  obtain ⟨rfl, -⟩ := hs
  go_wp2_with fail
  go_ret
  exact HS.out
theorem shas_any (k : KW) (h : SeenAt w base sb tb kv mb m most) :
    Calls Try.prog 30 #[.pointer (some ⟨sb, 0, none⟩), k.val] w (RetV w (.bool (getK m k).isSome)) := by
  obtain ⟨W, eW⟩ : ∃ W, w.alloc (.cells #[.int .i64 k.t, .int .i64 k.f, .int .u32 k.s] 29) = W := ⟨_, rfl⟩
  have hgb : Grows w W := by rw [← eW]; exact bl_alloc (Below.refl _ _) _
  have hbx := heap_alloc_new w (.cells #[.int .i64 k.t, .int .i64 k.f, .int .u32 k.s] 29)
  rw [eW] at hbx
  have HP := Lib.hid (fun W' (hg : Grows w W') => (tgetI k (h.tab.grows hg)))
  have HG := Lib.hid hgb
  obtain ⟨c0, -⟩ := cell_in (box_grows h.ob hgb) 0 rfl
  have z1 := box_lt (box_grows h.ob hgb)
  have z2 := box_lt hbx
  obtain ⟨t0, -⟩ := cell_in hbx 0 rfl
  obtain ⟨t1, -⟩ := cell_in hbx 1 rfl
  obtain ⟨t2, -⟩ := cell_in hbx 2 rfl
  clear h hgb hbx
  go_enter Try.func30, Try.ntmps30
  go_wp2_with fail
  refine wp_region_reg (by kernel_rfl) (by kernel_rfl) ?_
  repeat (first | go_big_quiet_step ((go_at_call 33; exact class_reg (HP.out _ (grows_trans _ _ _ HG.out (below_reg _ _))))) | quiet_step ((go_at_call 33; exact class_reg (HP.out _ (grows_trans _ _ _ HG.out (below_reg _ _))))))
  refine wpQuiet_nil ?_
  intro _ hcw1
  obtain ⟨pq, hcw2⟩ := hcw1
  subst hcw2
  go_wp2_with fail
  go_ret
  exact ⟨rfl, grows_trans _ _ _ HG.out (below_reg _ _)⟩
theorem slen_any (h : SeenAt w base sb tb kv mb m most) : Calls Try.prog 26 #[.pointer (some ⟨sb, 0, none⟩)] w (fun e w' => e = .returned (.int .i64 (m.length : Int)) ∧ w = w') := by
  have HP := Lib.hid (tlenI h.tab)
  obtain ⟨c0, -⟩ := cell_in h.ob 0 rfl
  have z1 := box_lt h.ob
  clear h
  go_enter Try.func26, Try.ntmps26
  go_wp2_with fail
  refine (HP.out).mono ?_
  rintro e w1 ⟨rfl, rfl⟩
  go_wp2_with fail
  go_ret
  exact ⟨rfl, rfl⟩
theorem sroom_any (h : SeenAt w base sb tb kv mb m most) : Calls Try.prog 27 #[.pointer (some ⟨sb, 0, none⟩)] w (RetV w (.int .i64 ((most : Int) - (m.length : Int)))) := by
  have HP := Lib.hid (troomI h.tab)
  obtain ⟨c0, -⟩ := cell_in h.ob 0 rfl
  have z1 := box_lt h.ob
  clear h
  go_enter Try.func27, Try.ntmps27
  go_wp2_with fail
  refine (HP.out).mono ?_
  rintro e w1 ⟨rfl, hg1⟩
  have HG := Lib.hid hg1
  clear hg1
  go_wp2_with fail
  go_ret
  exact ⟨rfl, HG.out⟩
/-- A row whose end is over. -/
def overD (now : Int) (p : KW × Value) : Bool := decide (intOf p.2 < now)
theorem sexp1_any {w : World} (x : KW) (e now : Int) {c : Nat} (hc : w.heap[c]? = some (.cells #[.int .i64 now] 2 (0, 0))) :
    Calls Try.prog 69 (rowV (x, .int .i64 e) ++ #[.pointer (some ⟨c, 0, none⟩)]) w (RetV w (.bool (decide (e < now)))) := by
  obtain ⟨W, eW⟩ : ∃ W, w.alloc (.cells #[.int .i64 x.t, .int .i64 x.f, .int .u32 x.s] 29) = W := ⟨_, rfl⟩
  have hgb : Grows w W := by rw [← eW]; exact bl_alloc (Below.refl _ _) _
  obtain ⟨c0, -⟩ := cell_in (box_grows hc hgb) 0 rfl
  have z1 := box_lt (box_grows hc hgb)
  have HG := Lib.hid hgb
  clear hc hgb
  show Calls Try.prog 69 #[x.val, .int .i64 e, .pointer (some ⟨c, 0, none⟩)] w _
  go_enter Try.func69, Try.ntmps69
  go_wp2_with fail
  go_ret
  exact ⟨rfl, HG.out⟩
theorem sexpire_any (now : Int) (h : SeenAt w base sb tb kv mb m most) (hm : ∀ p ∈ m, ∃ x, p.2 = .int .i64 x) :
    Calls Try.prog 29 #[.pointer (some ⟨sb, 0, none⟩), .int .i64 now] w (SeenTo w base sb tb kv mb (m.filter fun p => !overD now p) most (.int .i64 ((m.filter (overD now)).length : Int))) := by
  obtain ⟨W, eW⟩ : ∃ W, w.alloc (.cells #[.int .i64 now] 2) = W := ⟨_, rfl⟩
  have hgb : Grows w W := by rw [← eW]; exact bl_alloc (Below.refl _ _) _
  have hbx := heap_alloc_new w (.cells #[.int .i64 now] 2)
  rw [eW] at hbx
  have hS : ¬ TabS tb kv mb w.heap.size := by
    rintro (hs | hs | hs)
    · have := h.tab.lt; omega
    · have := h.tab.mlt; omega
    · have := (h.tab.own.lt _ hs).2; omega
  have HP := Lib.hid ((tdrop_any (h.tab.grows hgb) 69 #[.pointer (some ⟨w.heap.size, 0, none⟩)] (enters_of Try.func69 (by kernel_rfl) rfl)
    (fun A => A.heap[w.heap.size]? = some (.cells #[.int .i64 now] 2 (0, 0))) (overD now) (fun A B hA hc => box_chg hA hc (fun hs => by
      rcases hs with hs | hs
      · exact hS hs
      · have := box_lt hbx; omega)) hbx (fun x W' hx hW => by
      obtain ⟨⟨kt, kf, ks⟩, v⟩ := x
      obtain ⟨e, rfl⟩ := hm _ hx
      exact sexp1_any ⟨kt, kf, ks⟩ e now hW)).mono fun e w' ht => SeenTo.ofTab h hgb ht)
  have HG := Lib.hid hgb
  obtain ⟨c0, -⟩ := cell_in (box_grows h.ob hgb) 0 rfl
  have z1 := box_lt (box_grows h.ob hgb)
  have z2 := box_lt hbx
  clear h hgb hbx hS hm
  go_enter Try.func29, Try.ntmps29
  go_wp2_with fail
  refine (HP.out).mono ?_
  intro e w1 hs
  have HS := Lib.hid hs
  obtain ⟨rfl, -⟩ := hs
  go_wp2_with fail
  go_ret
  exact HS.out
end
end Go.Proofs.Ytdmmceclohkkdaa
