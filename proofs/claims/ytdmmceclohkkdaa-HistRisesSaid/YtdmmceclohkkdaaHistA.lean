/- A history: how it lies; New, of, check. -/
import Derived.Test.YtdmmceclohkkdaaTabFP
import Derived.Test.YtdmmceclohkkdaaMine
import Derived.Test.YtdmmceclohkkdaaByt
import Derived.Test.YtdmmceclohkkdaaTabDrop
namespace Go.Proofs.Ytdmmceclohkkdaa
open Go.RowKit Go.Sort
set_option maxHeartbeats 4000000
set_option maxRecDepth 100000
abbrev THI : TypeId := 128
/-- What waits: a packet, and its bytes. -/
abbrev HW := PW × List Int
abbrev hv (h : HW) : KW × Value := (h.1.k, h.1.val)
theorem hv_rows (l : List HW) : PRows (l.map hv) := fun p hp => by obtain ⟨h, -, rfl⟩ := List.mem_map.1 hp; exact ⟨h.1, rfl⟩
/-- A history lies at block hb: what waits is l, in order; of each node and kind there are so many. -/
structure HistAt (w : World) (base hb tb : Nat) (kv : Value) (mb wb : Nat) (most : Nat) (dl : Int) (last : KW) (sm : Bool) (l : List HW) (g : Int × Int → Int) : Prop where
  ob : w.heap[hb]? = some (.cells #[.pointer (some ⟨tb, 0, none⟩), .map (some wb), .int .i64 dl, .int .i64 last.t, .int .i64 last.f, .int .u32 last.s, .bool sm] THI (0, 0))
  tab : TabAt TTP w base tb kv mb (l.map hv) most
  mine : MineAt w wb g
  bod : ∀ h ∈ l, BRow w base h.1.body h.2
  bh : base ≤ hb
  bw : base ≤ wb
  wm : wb ≠ mb
  d0 : 0 ≤ dl
  d1 : dl ≤ 1152921504606846976
/-- Its blocks. -/
def HistS (hb tb : Nat) (kv : Value) (mb wb : Nat) (j : Nat) : Prop := j = hb ∨ j = wb ∨ TabS tb kv mb j
section
variable {w w' : World} {base hb tb mb wb most : Nat} {kv : Value} {dl : Int} {last : KW} {sm : Bool} {l : List HW} {g : Int × Int → Int}
theorem HistAt.grows (h : HistAt w base hb tb kv mb wb most dl last sm l g) (hg : Grows w w') : HistAt w' base hb tb kv mb wb most dl last sm l g :=
  ⟨box_grows h.ob hg, h.tab.grows hg, h.mine.grows hg, fun x hx => own_grows (h.bod x hx) hg, h.bh, h.bw, h.wm, h.d0, h.d1⟩
theorem mine_ne_cells {b : Nat} (h : MineAt w b g) {cs : Array Value} {T : TypeId} {z : Nat × Nat} (hc : w.heap[b]? = some (.cells cs T z)) : False := by
  obtain ⟨m, cl, h1, _⟩ := h
  rw [h1] at hc
  cases hc
theorem notS {T T' : TypeId} {p : Nat} {m : List (KW × Value)} {cs : Array Value} {z : Nat × Nat} (h : TabAt T w base tb kv mb m most) (hp : w.heap[p]? = some (.cells cs T' z)) (h1 : T' ≠ T) (h2 : T' ≠ 29) : ¬ TabS tb kv mb p := by
  rintro (hs | hs | hs)
  · rw [hs, h.ob] at hp
    injection hp with hp
    injection hp with _ hp
    exact h1 hp.symm
  · subst hs; exact map_ne_cells h.map hp
  · obtain ⟨cur, hg⟩ := h.own.ty hs
    rw [hp] at hg
    injection hg with hg
    injection hg with _ hg
    exact h2 hg
theorem HistAt.hS (h : HistAt w base hb tb kv mb wb most dl last sm l g) : ¬ TabS tb kv mb hb := notS h.tab h.ob (by decide) (by decide)
theorem HistAt.wS (h : HistAt w base hb tb kv mb wb most dl last sm l g) : ¬ TabS tb kv mb wb := by
  rintro (hs | hs | hs)
  · exact mine_ne_cells h.mine (hs ▸ h.tab.ob)
  · exact h.wm hs
  · obtain ⟨cur, hg⟩ := h.tab.own.ty hs
    exact mine_ne_cells h.mine hg
theorem HistAt.hw (h : HistAt w base hb tb kv mb wb most dl last sm l g) : hb ≠ wb := fun e => mine_ne_cells h.mine (e ▸ h.ob)
/-- A block of cells of another type is none of a history's. -/
theorem HistAt.notS (h : HistAt w base hb tb kv mb wb most dl last sm l g) {p : Nat} {T' : TypeId} {cs : Array Value} {z : Nat × Nat} (hp : w.heap[p]? = some (.cells cs T' z)) (h1 : T' ≠ TTP) (h2 : T' ≠ 29) (h3 : T' ≠ THI) : ¬ HistS hb tb kv mb wb p := by
  rintro (hs | hs | hs)
  · rw [hs, h.ob] at hp
    injection hp with hp
    injection hp with _ hp
    exact h3 hp.symm
  · exact mine_ne_cells h.mine (hs ▸ hp)
  · exact Go.Proofs.Ytdmmceclohkkdaa.notS h.tab hp h1 h2 hs
theorem brow_ty {b2 : Nat} {v : Value} {b : List Int} (h : BRow w b2 v b) {j : Nat} (hj : v.ownBlock = some j) : ∃ cur, w.heap[j]? = some (.cells cur 5 (0, 0)) := by
  rcases h.2 with ⟨h1, _⟩ | ⟨g, cap, cur, hv, _, hg, _⟩
  · rw [h1] at hj; simp [Value.ownBlock] at hj
  · rw [hv] at hj
    simp only [Value.ownBlock, Option.some.injEq] at hj
    subst hj
    exact ⟨cur, hg⟩
/-- Bytes stay through a history's changes. -/
theorem HistAt.bytes (h : HistAt w base hb tb kv mb wb most dl last sm l g) {b2 : Nat} {v : Value} {b : List Int} (hx : BRow w b2 v b) (hc : Chg (HistS hb tb kv mb wb) w w') : BRow w' b2 v b :=
  hc.own hx fun j hj hs => by
    obtain ⟨cur, hg⟩ := brow_ty hx hj
    exact h.notS hg (by decide) (by decide) (by decide) hs
theorem HistAt.lt (h : HistAt w base hb tb kv mb wb most dl last sm l g) : hb < w.heap.size := box_lt h.ob
/-- Whoever was there ahead of the history stays. -/
theorem HistAt.behind {W : World} (h : HistAt w base hb tb kv mb wb most dl last sm l g) (hb' : W.heap.size ≤ base) (hg : Grows W w) (hc : Chg (HistS hb tb kv mb wb) w w') : Grows W w' :=
  grows_of_chg hg hc fun j hj => by
    rcases hj with hs | hs | hs | hs | hs
    · have := h.bh; omega
    · have := h.bw; omega
    · have := h.tab.bt; omega
    · have := h.tab.bm; omega
    · have := (h.tab.own.lt _ hs).1; omega
end
/-- A number kept within bounds. -/
def clampD (x : Int) : Int := if x < 0 then 0 else if 1152921504606846976 < x then 1152921504606846976 else x
theorem clampD_in (x : Int) : 0 ≤ clampD x ∧ clampD x ≤ 1152921504606846976 := by unfold clampD; split <;> (try split) <;> omega
theorem clampD_any (x : Int) (w : World) : Calls Try.prog 75 #[.int .i64 x, .int .i64 0, .int .i64 1152921504606846976] w (fun e w' => e = .returned (.int .i64 (clampD x)) ∧ w = w') := by
  by_cases h1 : x < 0
  · rw [show clampD x = 0 by unfold clampD; rw [if_pos h1]]
    go_enter Try.func75, Try.ntmps75
    go_wp2
    go_ret
    exact ⟨rfl, rfl⟩
  · by_cases h2 : 1152921504606846976 < x
    · rw [show clampD x = 1152921504606846976 by unfold clampD; rw [if_neg h1, if_pos h2]]
      go_enter Try.func75, Try.ntmps75
      go_wp2
      go_ret
      exact ⟨rfl, rfl⟩
    · rw [show clampD x = x by unfold clampD; rw [if_neg h1, if_neg h2]]
      go_enter Try.func75, Try.ntmps75
      go_wp2
      go_ret
      exact ⟨rfl, rfl⟩
theorem hnew_any (n d : Int) (w : World) : Calls Try.prog 42 #[.int .i64 n, .int .i64 d] w (fun e w' => ∃ hb wb, e = .returned (.pointer (some ⟨hb, 0, none⟩)) ∧ Grows w w' ∧ HistAt w' w.heap.size hb (w.heap.size + 1) (.slice none 0 0) w.heap.size wb (mostOfP n) (clampD d) ⟨0, 0, 0⟩ false [] (fun _ => 0)) := by
  have HN := Lib.hid (tnewP n w)
  have HC := Lib.hid (fun W => clampD_any d W)
  have hcl := clampD_in d
  obtain ⟨D, eD⟩ : ∃ D, clampD d = D := ⟨_, rfl⟩
  rw [eD] at HC hcl
  rw [eD]
  have HCL := Lib.hid hcl
  have hmm := @run_makeMap Try.prog
  clear eD hcl
  go_enter Try.func42, Try.ntmps42
  go_wp2_with fail
  refine (HN.out).mono ?_
  rintro e w1 ⟨rfl, hg1, ht1⟩
  have HT := Lib.hid ht1
  have HG := Lib.hid hg1
  clear ht1 hg1
  go_wp2_with fail
  refine (HC.out _).mono ?_
  rintro e w2 ⟨rfl, rfl⟩
  go_wp2_with fail
  go_ret
  have h2 := two_new w1 (.map #[] 0) (.cells #[.pointer (some ⟨w.heap.size + 1, 0, none⟩), .map (some w1.heap.size), .int .i64 D, .int .i64 0, .int .i64 0, .int .u32 0, .bool false] THI)
  have g2 : Grows w1 ((w1.alloc (.map #[] 0)).alloc (.cells #[.pointer (some ⟨w.heap.size + 1, 0, none⟩), .map (some w1.heap.size), .int .i64 D, .int .i64 0, .int .i64 0, .int .u32 0, .bool false] THI)) := bl_alloc (bl_alloc (Below.refl _ _) _) _
  exact ⟨_, w1.heap.size, rfl, grows_trans _ _ _ HG.out g2, h2.2, HT.out.grows g2, (MineAt.made w1).grows (bl_alloc (Below.refl _ _) _), fun x hx => by simp at hx, Nat.le_trans HG.out.size (Nat.le_succ _), HG.out.size, fun e => by have := HT.out.mlt; omega, HCL.out.1, HCL.out.2⟩
end Go.Proofs.Ytdmmceclohkkdaa
