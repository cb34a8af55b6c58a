/- A log in memory; the walks of New, Len, Add. -/
import Derived.Test.YtkihhdoejpjbbaaLogB
import Derived.Test.YtkihhdoejpjbbaaStep
namespace Go.Proofs.Ytkihhdoejpjbbaa
open Go.RowKit Go.Sort
set_option maxHeartbeats 2000000
set_option maxRecDepth 100000

abbrev EOwn (w : World) (base : Nat) (v : Value) (l : List EW) : Prop := w.ownsRow base 56 5 v l.length (evs l)
/-- Each entry's body lies in a row of its own. -/
def Bods (w : World) (l : List EW) : Prop := ∀ x ∈ l, BRow w 0 x.bv x.b
/-- .. from some block on. -/
def BodsB (w : World) (B : Nat) (l : List EW) : Prop := ∀ x ∈ l, BRow w B x.bv x.b
theorem BodsB.low {w : World} {B : Nat} {l : List EW} (h : BodsB w B l) : Bods w l := fun x hx => row_base (h x hx) (Nat.zero_le _)
/-- The slice v holds the entries l. -/
def EHas (w : World) (v : Value) (l : List EW) : Prop := ((l = [] ∧ ∃ a cap, v = .slice a 0 cap) ∨ ∃ g o cap, v = .slice (some ⟨g, o, none⟩) l.length cap ∧ l.length ≤ cap ∧ g < w.heap.size ∧ RAt ev 5 w g o l) ∧ ∀ x ∈ l, BHas w x.ba x.bl x.bc x.b
theorem EHas.grows {w w' : World} {v : Value} {l : List EW} (h : EHas w v l) (hg : Grows w w') : EHas w' v l := by
  refine ⟨?_, fun x hx => (h.2 x hx).grows hg⟩
  rcases h.1 with h | ⟨g, o, cap, h1, h0, h2, h3⟩
  · exact .inl h
  · exact .inr ⟨g, o, cap, h1, h0, Nat.lt_of_lt_of_le h2 hg.size, h3.grows hg h2⟩
theorem brow_has {w : World} {base : Nat} {x : EW} (h : BRow w base x.bv x.b) : BHas w x.ba x.bl x.bc x.b := by
  obtain ⟨ba, bl, bc, he, hb⟩ := brow_form h
  cases he
  exact hb
theorem eown_has {w : World} {base : Nat} {v : Value} {l : List EW} (h : EOwn w base v l) (hb : Bods w l) : EHas w v l := by
  refine ⟨?_, fun x hx => brow_has (hb x hx)⟩
  rcases own_rows (f := ev) (k := 5) (fun _ => rfl) rfl h with ⟨rfl, rfl⟩ | ⟨g, cap, rfl, hc, _, hg, hat⟩
  · exact .inl ⟨rfl, none, 0, rfl⟩
  · exact .inr ⟨g, 0, cap, rfl, hc, hg, hat⟩
theorem EHas.form {w : World} {v : Value} {l : List EW} {n : Nat} (h : EHas w v l) (hn : l.length = n) (h0 : 0 < n) : ∃ g o cap, v = .slice (some ⟨g, o, none⟩) n cap ∧ n ≤ cap ∧ g < w.heap.size ∧ RAt ev 5 w g o l := by
  rcases h.1 with ⟨rfl, _⟩ | ⟨g, o, cap, h1, h0, h2, h3⟩
  · simp at hn; omega
  · exact ⟨g, o, cap, by rw [h1, hn], by omega, h2, h3⟩
theorem EHas.len {w : World} {v : Value} {l : List EW} {n : Nat} (h : EHas w v l) (hn : l.length = n) : ∃ a cap, v = .slice a n cap := by
  rcases h.1 with ⟨rfl, a, cap, rfl⟩ | ⟨g, o, cap, rfl, _, _⟩
  · exact ⟨a, cap, by rw [← hn]; rfl⟩
  · exact ⟨_, cap, by rw [hn]⟩
theorem eat_cells {w : World} {g o : Nat} {l : List EW} (h : RAt ev 5 w g o l) (i : Nat) (hi : i < l.length) : w.cell? ⟨g, o + i * 5, none⟩ = some (.int .i64 l[i].a) ∧ w.cell? ⟨g, o + i * 5 + 1, none⟩ = some (.int .i64 l[i].k.t) ∧ w.cell? ⟨g, o + i * 5 + 2, none⟩ = some (.int .i64 l[i].k.f) ∧ w.cell? ⟨g, o + i * 5 + 3, none⟩ = some (.int .u32 l[i].k.s) ∧ w.cell? ⟨g, o + i * 5 + 4, none⟩ = some l[i].bv :=
  ⟨h i hi 0 (by omega), h i hi 1 (by omega), h i hi 2 (by omega), h i hi 3 (by omega), h i hi 4 (by omega)⟩

/-- A log lies at block b: its entries are l, in the slice v. -/
structure LogAt (w : World) (base b : Nat) (v : Value) (l : List EW) : Prop where
  ob : w.heap[b]? = some (.cells #[v] 100 (0, 0))
  own : EOwn w base v l
  bod : Bods w l

/-- None of these blocks is one of bytes. -/
def NoBytes (w : World) (S : Nat → Prop) : Prop := ∀ k, S k → ∀ cur, w.heap[k]? ≠ some (.cells cur 5 (0, 0))
theorem brow_chg {w w' : World} {base : Nat} {v : Value} {b : List Int} {S : Nat → Prop} (h : BRow w base v b) (hc : Chg S w w') (hn : NoBytes w S) : BRow w' base v b := by
  refine hc.own h fun k hk hs => ?_
  rcases h.2 with ⟨h1, h2⟩ | ⟨g, cap, cur, rfl, hb, hg, _⟩
  · rw [h1] at hk; simp [Value.ownBlock] at hk
  · simp only [Value.ownBlock, Option.some.injEq] at hk
    subst hk
    exact hn _ hs cur hg
theorem Bods.chg {w w' : World} {l : List EW} {S : Nat → Prop} (h : Bods w l) (hc : Chg S w w') (hn : NoBytes w S) : Bods w' l := fun x hx => brow_chg (h x hx) hc hn
theorem BodsB.chg {w w' : World} {B : Nat} {l : List EW} {S : Nat → Prop} (h : BodsB w B l) (hc : Chg S w w') (hn : NoBytes w S) : BodsB w' B l := fun x hx => brow_chg (h x hx) hc hn
theorem BodsB.grows {w w' : World} {B : Nat} {l : List EW} (h : BodsB w B l) (hc : Grows w w') : BodsB w' B l := h.chg (S := fun _ => False) (Chg.ofGrows hc) (fun _ h => h.elim)
theorem Bods.grows {w w' : World} {l : List EW} (h : Bods w l) (hc : Grows w w') : Bods w' l := h.chg (S := fun _ => False) (Chg.ofGrows hc) (fun _ h => h.elim)
theorem own_grows {w w' : World} {base : Nat} {e : TypeId} {size : Nat} {v : Value} {n : Nat} {xs : List Value} (h : w.ownsRow base e size v n xs) (hg : Grows w w') : w'.ownsRow base e size v n xs := (Chg.ofGrows (S := fun _ => False) hg).own h (fun _ _ h => h)
theorem LogAt.grows {w w' : World} {base b : Nat} {v : Value} {l : List EW} (h : LogAt w base b v l) (hc : Grows w w') : LogAt w' base b v l :=
  ⟨(hc.block b (Array.getElem?_eq_some_iff.1 h.ob).1).trans h.ob, own_grows h.own hc, h.bod.grows hc⟩
theorem LogAt.c0 {w : World} {base b : Nat} {v : Value} {l : List EW} (h : LogAt w base b v l) : w.cell? ⟨b, 0, none⟩ = some v ∧ w.frozen? ⟨b, 0, none⟩ = false := cell_in h.ob 0 rfl
theorem LogAt.lt {w : World} {base b : Nat} {v : Value} {l : List EW} (h : LogAt w base b v l) : b < w.heap.size := (Array.getElem?_eq_some_iff.1 h.ob).1
/-- A block that holds the log's slice is one of entries. -/
theorem LogAt.tyOwn {w : World} {base b : Nat} {v : Value} {l : List EW} (h : LogAt w base b v l) {k : Nat} (hk : v.ownBlock = some k) : ∃ cur, w.heap[k]? = some (.cells cur 56 (0, 0)) := by
  rcases h.own.2 with ⟨h1, _⟩ | ⟨g, cap, cur, hv, _, hg, _⟩
  · rw [h1] at hk; simp [Value.ownBlock] at hk
  · rw [hv] at hk
    simp only [Value.ownBlock, Option.some.injEq] at hk
    subst hk
    exact ⟨cur, hg⟩
theorem LogAt.ne {w : World} {base b : Nat} {v : Value} {l : List EW} (h : LogAt w base b v l) : v.ownBlock ≠ some b := by
  intro hc
  obtain ⟨cur, hk⟩ := h.tyOwn hc
  rw [h.ob] at hk
  injection hk with hk
  injection hk with _ hk
  exact absurd hk (by decide)
/-- What an Add may change. -/
abbrev LogS (b : Nat) (v : Value) : Nat → Prop := fun k => k = b ∨ v.ownBlock = some k
theorem LogAt.noBytes {w : World} {base b : Nat} {v : Value} {l : List EW} (h : LogAt w base b v l) : NoBytes w (LogS b v) := by
  rintro k (rfl | hk) cur hc
  · rw [h.ob] at hc
    injection hc with hc
    injection hc with _ hc
    exact absurd hc (by decide)
  · obtain ⟨cur', hk'⟩ := h.tyOwn hk
    rw [hk'] at hc
    injection hc with hc
    injection hc with _ hc
    exact absurd hc (by decide)

theorem lnew_any (w : World) : Calls Try.prog 29 #[] w (fun e w' => e = .returned (.pointer (some ⟨w.heap.size, 0, none⟩)) ∧ Grows w w' ∧ LogAt w' w.heap.size w.heap.size (.slice none 0 0) []) := by
  go_enter Try.func29, Try.ntmps29
  go_wp2
  go_ret
  exact ⟨rfl, by show Below w.heap.size w _; (repeat (first | with_reducible exact Below.refl _ _ | with_reducible refine bl_alloc ?_ _ | ((with_reducible refine bl_set ?_ ?_ _); rotate_left; (first | exact Nat.le_refl _ | exact Nat.le_succ_of_le (Nat.le_refl _) | (simp only []; omega))) | with_reducible refine bl_drewN ?_ _ | with_reducible refine bl_drew ?_ | with_reducible refine bl_reg ?_ _)), heap_alloc_new w _, World.ownsRow_nil _ _ _ _, fun x hx => by simp at hx⟩

theorem llen_nil (w : World) : Calls Try.prog 39 #[.pointer none] w (fun e w' => e = .returned (.int .i64 0) ∧ w = w') := by
  go_enter Try.func39, Try.ntmps39
  go_wp2
  go_ret
  exact ⟨rfl, rfl⟩
theorem llen_any (w : World) {base b : Nat} {v : Value} {l : List EW} (h : LogAt w base b v l) : Calls Try.prog 39 #[.pointer (some ⟨b, 0, none⟩)] w (fun e w' => e = .returned (.int .i64 (l.length : Int)) ∧ w = w') := by
  obtain ⟨a, cap, hv⟩ := (eown_has h.own h.bod).len rfl
  obtain ⟨n, en⟩ : ∃ n, l.length = n := ⟨_, rfl⟩
  rw [en] at hv ⊢
  subst hv
  have c0 := h.c0.1
  clear h en
  go_enter Try.func39, Try.ntmps39
  go_wp2
  go_ret
  exact ⟨rfl, rfl⟩

theorem ladd_nil (x : EW) (w : World) : Calls Try.prog 31 #[.pointer none, x.val] w (RetV w (.int .i64 1)) := by
  go_enter Try.func31, Try.ntmps31
  go_wp2
  go_ret
  exact ⟨rfl, by (repeat (first | with_reducible exact Below.refl _ _ | with_reducible refine bl_alloc ?_ _ | ((with_reducible refine bl_set ?_ ?_ _); rotate_left; (first | exact Nat.le_refl _ | exact Nat.le_succ_of_le (Nat.le_refl _) | (simp only []; omega))) | with_reducible refine bl_drewN ?_ _ | with_reducible refine bl_drew ?_ | with_reducible refine bl_reg ?_ _))⟩

theorem nat_facts (m : Nat) (h : m ≤ 1000000) : ((m : Int) + 1) - 1 = (m : Int) ∧ (0 : Int) ≤ (m : Int) ∧ (m : Int) < (m : Int) + 1 ∧ wrap64 (m : Int) = (m : Int) ∧ (0 : Int) < (m : Int) + 1 := by
  refine ⟨by omega, by omega, by omega, ?_, by omega⟩
  unfold wrap64; omega
theorem wrap_succ {k : Nat} (h : k ≤ 1000000) : wrap64 ((k : Int) + 1) = (k : Int) + 1 := by unfold wrap64; omega
theorem meas_succ {n k : Nat} (h : k < n) : n - ((k : Int) + 1).toNat < n - (k : Int).toNat := by omega
theorem wrap_nat {m : Nat} (h : m ≤ 1000000) : wrap64 (m : Int) = (m : Int) := by unfold wrap64; omega
/-- The last entry's key. -/
def lastK (l : List EW) : KW := (l.getLastD ⟨0, ⟨0, 0, 0⟩, none, 0, 0, []⟩).k
theorem lastK_get {l : List EW} (h : 0 < l.length) : lastK l = l[l.length - 1].k := by
  rw [lastK, List.getLastD_eq_getLast?, List.getLast?_eq_getElem?, List.getElem?_eq_getElem (by omega)]
  rfl
/-- What is wrong with an entry behind these. -/
def addE (l : List EW) (k : KW) : Int := if l = [] then 0 else if cmpK (lastK l) k = 0 then 12 else if 0 < cmpK (lastK l) k then 11 else 0
/-- What an Add that refuses leaves behind. -/
theorem ladd_no (x : EW) (w : World) {base b : Nat} {v : Value} {l : List EW} (h : LogAt w base b v l) (hm : l.length ≤ 1000000) (hE : addE l x.k ≠ 0) :
    Calls Try.prog 31 #[.pointer (some ⟨b, 0, none⟩), x.val] w (RetV w (.int .i64 (addE l x.k))) := by
  have h0 : l ≠ [] := fun hc => hE (by unfold addE; rw [if_pos hc])
  have hp : 0 < l.length := List.length_pos_iff.2 h0
  obtain ⟨n, en⟩ : ∃ n, l.length = n := ⟨_, rfl⟩
  obtain ⟨m, em⟩ : ∃ m, n = m + 1 := ⟨n - 1, by omega⟩
  have hm2 : m ≤ 1000000 := by omega
  have HM2 := Lib.hid hm2
  clear hm2 hm
  obtain ⟨g, o, cap, rfl, hcap, hg, hat⟩ := (eown_has h.own h.bod).form en (by omega)
  obtain ⟨k0, k1, k2, k3, k4⟩ := eat_cells hat (l.length - 1) (by omega)
  have hlk := lastK_get hp
  have hc := fun W => kcmp_any (lastK l) x.k W
  have hE2 : addE l x.k = if cmpK (lastK l) x.k = 0 then 12 else if 0 < cmpK (lastK l) x.k then 11 else 0 := by unfold addE; rw [if_neg h0]
  rw [hE2] at hE ⊢
  rw [hlk] at hc hE ⊢
  obtain ⟨y, ey⟩ : ∃ y, l[l.length - 1] = y := ⟨_, rfl⟩
  rw [ey] at hc hE k1 k2 k3 ⊢
  obtain ⟨c, ec⟩ : ∃ c, cmpK y.k x.k = c := ⟨_, rfl⟩
  rw [ec] at hc hE ⊢
  have c0 := h.c0.1
  have hbl := h.lt
  rw [en, em] at k1 k2 k3
  rw [em] at c0 hcap
  simp only [Nat.add_sub_cancel] at k1 k2 k3
  have HC := Lib.hid hc
  obtain ⟨j1, j2, j3, j4, j6⟩ := nat_facts m HM2.out
  clear h hlk hE2 hc k0 k4 hat ey ec em en hp h0
  by_cases hz : c = 0
  · subst hz
    rw [if_pos rfl]
    clear hE
    go_enter Try.func31, Try.ntmps31
    go_wp2_with fail
    refine wp_region_tail_drewN 11 (by kernel_rfl) (by kernel_rfl) (by kernel_rfl) (by kernel_rfl) ?_
    simp only [List.take_succ_cons, List.take_zero, List.drop_succ_cons, List.drop_zero]
    repeat (first | go_big_quiet_step ((fail)) | quiet_step ((fail)))
    refine wpQuiet_nil ?_
    intro _ hcw1
    obtain ⟨nq, hcw2⟩ := hcw1
    subst hcw2
    go_wp2_with fail
    refine (HC.out _).mono ?_
    rintro e w1 ⟨rfl, hg1⟩
    have G1 := Lib.hid (grows_trans w _ _ (by show Below w.heap.size w _; (repeat (first | with_reducible exact Below.refl _ _ | with_reducible refine bl_alloc ?_ _ | ((with_reducible refine bl_set ?_ ?_ _); rotate_left; (first | exact Nat.le_refl _ | exact Nat.le_succ_of_le (Nat.le_refl _) | (simp only []; omega))) | with_reducible refine bl_drewN ?_ _ | with_reducible refine bl_drew ?_ | with_reducible refine bl_reg ?_ _))) hg1)
    clear hg1
    go_wp2_with fail
    go_ret
    exact ⟨rfl, G1.out⟩
  · rw [if_neg hz] at hE ⊢
    have hp : 0 < c := Decidable.byContradiction fun hc => hE (if_neg hc)
    rw [if_pos hp]
    have d1 : (c == 0) = false := by simp [hz]
    have d2 : decide (0 < c) = true := decide_eq_true hp
    clear hE hz hp
    go_enter Try.func31, Try.ntmps31
    go_wp2_with fail
    refine wp_region_tail_drewN 11 (by kernel_rfl) (by kernel_rfl) (by kernel_rfl) (by kernel_rfl) ?_
    simp only [List.take_succ_cons, List.take_zero, List.drop_succ_cons, List.drop_zero]
    repeat (first | go_big_quiet_step ((fail)) | quiet_step ((fail)))
    refine wpQuiet_nil ?_
    intro _ hcw1
    obtain ⟨nq, hcw2⟩ := hcw1
    subst hcw2
    go_wp2_with fail
    refine (HC.out _).mono ?_
    rintro e w1 ⟨rfl, hg1⟩
    have G1 := Lib.hid (grows_trans w _ _ (by show Below w.heap.size w _; (repeat (first | with_reducible exact Below.refl _ _ | with_reducible refine bl_alloc ?_ _ | ((with_reducible refine bl_set ?_ ?_ _); rotate_left; (first | exact Nat.le_refl _ | exact Nat.le_succ_of_le (Nat.le_refl _) | (simp only []; omega))) | with_reducible refine bl_drewN ?_ _ | with_reducible refine bl_drew ?_ | with_reducible refine bl_reg ?_ _))) hg1)
    clear hg1
    go_wp2_with fail
    go_ret
    exact ⟨rfl, G1.out⟩

/-- What an Add that was let in leaves behind. -/
def Added (w : World) (base b : Nat) (v : Value) (l : List EW) (x : EW) (e : Ending) (w' : World) : Prop :=
  e = .returned (.int .i64 0) ∧ ∃ v' y, LogAt w' base b v' (l ++ [y]) ∧ BRow w' w.heap.size y.bv y.b ∧ y.a = x.a ∧ y.k = x.k ∧ y.b = x.b ∧ Chg (LogS b v) w w' ∧ (∀ k, v'.ownBlock = some k → v.ownBlock = some k ∨ w.heap.size ≤ k)
theorem heap_set_one {w : World} {b : Nat} {u : Value} {T : TypeId} (h : w.heap[b]? = some (.cells #[u] T (0, 0))) (v : Value) : (w.setCell ⟨b, 0, none⟩ v).heap[b]? = some (.cells #[v] T (0, 0)) := by
  have hb := (Array.getElem?_eq_some_iff.1 h).1
  simp [World.setCell, Array.getElem?_modify, h]
/-- The step that adds: what lies in memory behind it. -/
theorem added_of {w W w2 w3 : World} {base b g2 cap2 n : Nat} {v : Value} {l : List EW} {x y : EW} {o : Obj} (en : l.length = n) (GW : Grows w W) (h : LogAt w base b v l) (hg2 : Grows W w2) (hbr : BRow w2 W.heap.size y.bv x.b) (ya : y.a = x.a) (yk : y.k = x.k) (yb : y.b = x.b)
    (hgrow : (w2.alloc o).grownBy w3 v.ownBlock) (hown3 : w3.ownsRow base 56 5 (.slice (some ⟨g2, 0, none⟩) (n + 1) cap2) (n + 1) (evs l ++ ev y)) (hat : v.ownBlock = some g2 ∨ g2 = w2.heap.size + 1) :
    Added w base b v l x (.returned (.int .i64 0)) (w3.setCell ⟨b, 0, none⟩ (.slice (some ⟨g2, 0, none⟩) (n + 1) cap2)) := by
  have hb : b < w.heap.size := h.lt
  have hs : w.heap.size ≤ W.heap.size := GW.size
  have hs2 : W.heap.size ≤ w2.heap.size := hg2.size
  have hrow : ∀ k, v.ownBlock = some k → k < w.heap.size := fun k hk => (h.own.lt k hk).2
  have gw2 : Grows w w2 := grows_trans _ _ _ GW hg2
  have hne : g2 ≠ b := by
    rintro rfl
    rcases hat with hat | hat
    · exact h.ne hat
    · omega
  have hch3 : Chg (LogS b v) w2 w3 := (Chg.alloc (Chg.refl _ _) o).trans ((Chg.ofRow hgrow).mono (fun k _ hk => .inr hk))
  have hch : Chg (LogS b v) w (w3.setCell ⟨b, 0, none⟩ (.slice (some ⟨g2, 0, none⟩) (n + 1) cap2)) :=
    Chg.setCell ((Chg.ofGrows gw2).trans hch3) _ (.inr (.inl rfl))
  have hob3 : w3.heap[b]? = some (.cells #[v] 100 (0, 0)) := by
    have h1 := (Chg.trans (Chg.alloc (Chg.refl (fun k => v.ownBlock = some k) w2) o) (Chg.ofRow hgrow)).block b (by omega) h.ne
    rw [h1, gw2.block b hb]
    exact h.ob
  refine ⟨rfl, .slice (some ⟨g2, 0, none⟩) (n + 1) cap2, y, ⟨?_, ?_, ?_⟩, ?_, ya, yk, yb, hch, ?_⟩
  · exact heap_set_one hob3 _
  · have := (Chg.setCell (S := fun k => k = b) (Chg.refl _ w3) (.slice (some ⟨g2, 0, none⟩) (n + 1) cap2) (p := ⟨b, 0, none⟩) (.inr rfl)).own hown3 (fun k hk hkb => by
      simp only [Value.ownBlock, Option.some.injEq] at hk
      exact hne (hk.trans hkb))
    show World.ownsRow _ _ _ _ _ _ _
    rw [List.length_append, en, evs, List.flatMap_append]
    simpa using this
  · intro z hz
    rw [List.mem_append] at hz
    rcases hz with hz | hz
    · exact brow_chg (h.bod z hz) hch h.noBytes
    · simp at hz
      subst hz
      rw [yb]
      refine brow_chg (S := LogS b v) (row_base hbr (Nat.zero_le _)) (Chg.setCell hch3 _ (.inr (.inl rfl))) ?_
      intro k hk cur hc
      refine h.noBytes k hk cur ?_
      rw [← hc, gw2.block k]
      rcases hk with rfl | hk
      · exact hb
      · exact hrow k hk
  · rw [yb]
    refine brow_chg (S := LogS b v) (row_base hbr hs) (Chg.setCell hch3 _ (.inr (.inl rfl))) ?_
    intro k hk cur hc
    refine h.noBytes k hk cur ?_
    rw [← hc, gw2.block k]
    rcases hk with rfl | hk
    · exact hb
    · exact hrow k hk
  · intro k hk
    simp only [Value.ownBlock, Option.some.injEq] at hk
    subst hk
    rcases hat with hat | hat
    · exact .inl hat
    · exact .inr (by omega)

theorem ladd_ok (x : EW) (w : World) {base b : Nat} {v : Value} {l : List EW} (h : LogAt w base b v l) (hbase : base ≤ w.heap.size) (hm : l.length ≤ 1000000) (hx : BHas w x.ba x.bl x.bc x.b) (hxl : x.bl ≤ 1000000) (hE : l = []) :
    Calls Try.prog 31 #[.pointer (some ⟨b, 0, none⟩), x.val] w (Added w base b v l x) := by
  obtain ⟨i0, hi, hz0, hz1, hz2⟩ := info_parts Try.infoEnt
  obtain ⟨n, en⟩ : ∃ n, l.length = n := ⟨_, rfl⟩
  obtain ⟨a, cap, rfl⟩ := (eown_has h.own h.bod).len en
  have hown := fun W (hg : Grows w W) => own_any x W (hx.grows hg) hxl
  have HW := Lib.hid hown
  have HH := Lib.hid h
  obtain ⟨c0, f0⟩ := h.c0
  have hbl := h.lt
  have hrow : ∀ k, (Value.slice a n cap).ownBlock = some k → k < w.heap.size := fun k hk => (h.own.lt k hk).2
  have hne := h.ne
  have hn0 : n = 0 := by rw [← en, hE]; rfl
  subst hn0
  have EN := Lib.hid en
  clear hown hx hxl h en hE hm
  go_enter Try.func31, Try.ntmps31
  go_wp2_with fail
  obtain ⟨W, eW⟩ : ∃ W, w.alloc (.cells #[.int .i64 x.a, .int .i64 x.k.t, .int .i64 x.k.f, .int .u32 x.k.s, x.bv] 56) = W := ⟨_, rfl⟩
  rw [eW]
  have gW : Grows w W := by rw [← eW]; exact bl_alloc (Below.refl _ _) _
  have hbx : W.heap[w.heap.size]? = some (.cells #[.int .i64 x.a, .int .i64 x.k.t, .int .i64 x.k.f, .int .u32 x.k.s, x.bv] 56) := by rw [← eW]; exact heap_alloc_new w _
  have hb1 : b < W.heap.size := Nat.lt_of_lt_of_le hbl gW.size
  have hw1 : w.heap.size < W.heap.size := (Array.getElem?_eq_some_iff.1 hbx).1
  obtain ⟨c0, f0⟩ := (HH.out.grows gW).c0
  obtain ⟨k0, -⟩ := cell_in hbx 0 rfl
  obtain ⟨k1, -⟩ := cell_in hbx 1 rfl
  obtain ⟨k2, -⟩ := cell_in hbx 2 rfl
  obtain ⟨k3, -⟩ := cell_in hbx 3 rfl
  obtain ⟨k4, -⟩ := cell_in hbx 4 rfl
  have hs : ∀ w', Chg (fun k => (Value.slice a 0 cap).ownBlock = some k) W w' → w'.cell? ⟨b, 0, none⟩ = some (.slice a 0 cap) ∧ w'.frozen? ⟨b, 0, none⟩ = false ∧ w'.cell? ⟨w.heap.size, 0, none⟩ = some (.int .i64 x.a) ∧ w'.cell? ⟨w.heap.size, 1, none⟩ = some (.int .i64 x.k.t) ∧ w'.cell? ⟨w.heap.size, 2, none⟩ = some (.int .i64 x.k.f) ∧ w'.cell? ⟨w.heap.size, 3, none⟩ = some (.int .u32 x.k.s) ∧ w'.cell? ⟨w.heap.size, 4, none⟩ = some x.bv := fun w' hc =>
    ⟨hc.cellAt c0 hne, (hc.frozen (p := ⟨b, 0, none⟩) hb1 hne).trans f0, hc.cellAt k0 (fun hk => Nat.lt_irrefl _ (hrow _ hk)), hc.cellAt k1 (fun hk => Nat.lt_irrefl _ (hrow _ hk)), hc.cellAt k2 (fun hk => Nat.lt_irrefl _ (hrow _ hk)), hc.cellAt k3 (fun hk => Nat.lt_irrefl _ (hrow _ hk)), hc.cellAt k4 (fun hk => Nat.lt_irrefl _ (hrow _ hk))⟩
  have HS := Lib.hid hs
  have GW := Lib.hid gW
  have hO : W.ownsRow base 56 5 (.slice a 0 cap) l.length (evs l) := (HH.out.grows gW).own
  rw [EN.out] at hO
  have HO := Lib.hid hO
  clear hO
  have hbW : base ≤ W.heap.size := Nat.le_trans hbase gW.size
  clear hs gW hbx eW
  clear hrow hne hbase
  go_region_law (first
    | (refine step_call (by rfl) 60 #[.tmp 39] #[56] (by rfl) #[x.val] (by rfl) Try.f60 Try.func60 (by kernel_rfl) (by kernel_rfl) (HW.out _ ?_) ?_; (· (repeat (first | exact GW.out | refine bl_drew ?_ | refine bl_alloc ?_ _))); rintro e w2 ⟨ca, cl, cc, rfl, hbr, hg2⟩; refine ⟨_, rfl, ?_⟩; obtain ⟨c0, f0, k0, k1, k2, k3, k4⟩ := HS.out w2 (Chg.ofGrows (grows_trans _ _ _ (bl_drew (Below.refl _ _)) hg2)); have hb2 : b < w2.heap.size := Nat.lt_of_lt_of_le hb1 hg2.size; have hg3 : Grows W w2 := grows_trans _ _ _ (bl_drew (Below.refl _ _)) hg2; have hs3 := hg3.size)
    | (refine step_append_lies _ (by rfl) _ _ _ (by rfl) base 56 i0 _ 5 56 Try.underlying47 hi hz0 hz1 hz2 rfl (by decide) (.slice a 0 cap) 0 (evs l) (by rfl) (own_grows (own_grows HO.out hg3) (bl_alloc (Below.refl _ _) _)) ⟨w2.heap.size, 0, none⟩ 1 1 [.int .i64 x.a, .int .i64 x.k.t, .int .i64 x.k.f, .int .u32 x.k.s, .slice ca cl cc] (by rfl) (by rfl) (World.news_of_block (heap_alloc_new w2 _)) (ev_one ⟨x.a, x.k, ca, cl, cc, x.b⟩) (by decide) (by unfold maxLen; omega) (by omega) (by simp; omega) (w2.heap.size + 1) (by simp) ?_; intro g2 cap2 w3 hown3 hgrow3 hat3 hlt3; obtain ⟨c0, f0, -⟩ := HS.out w3 (Chg.trans (Chg.alloc (Chg.ofGrows (grows_trans _ _ _ (bl_drew (Below.refl _ _)) hg2)) _) (Chg.ofRow hgrow3)))
    | fail)
  all_goals
    go_wp2_with fail
    go_ret
    exact added_of (y := ⟨x.a, x.k, ca, cl, cc, x.b⟩) EN.out GW.out HH.out hg3 hbr rfl rfl rfl hgrow3 hown3 hat3
theorem ladd_next (x : EW) (w : World) {base b : Nat} {v : Value} {l : List EW} (h : LogAt w base b v l) (hbase : base ≤ w.heap.size) (hm : l.length ≤ 1000000) (hx : BHas w x.ba x.bl x.bc x.b) (hxl : x.bl ≤ 1000000) (h0 : l ≠ []) (hE : addE l x.k = 0) :
    Calls Try.prog 31 #[.pointer (some ⟨b, 0, none⟩), x.val] w (Added w base b v l x) := by
  obtain ⟨i0, hi, hz0, hz1, hz2⟩ := info_parts Try.infoEnt
  have hp : 0 < l.length := List.length_pos_iff.2 h0
  obtain ⟨n, en⟩ : ∃ n, l.length = n := ⟨_, rfl⟩
  obtain ⟨m, em⟩ : ∃ m, n = m + 1 := ⟨n - 1, by omega⟩
  have hm2 : m ≤ 1000000 := by omega
  have HM2 := Lib.hid hm2
  clear hm2 hm
  obtain ⟨g, o, cap, rfl, hcap, hg, hat⟩ := (eown_has h.own h.bod).form en (by omega)
  obtain ⟨q0, q1, q2, q3, q4⟩ := eat_cells hat (l.length - 1) (by omega)
  have hlk := lastK_get hp
  have hc := fun W => kcmp_any (lastK l) x.k W
  have hE2 : addE l x.k = if cmpK (lastK l) x.k = 0 then 12 else if 0 < cmpK (lastK l) x.k then 11 else 0 := by unfold addE; rw [if_neg h0]
  rw [hE2] at hE
  rw [hlk] at hc hE
  obtain ⟨y, ey⟩ : ∃ y, l[l.length - 1] = y := ⟨_, rfl⟩
  rw [ey] at hc hE q1 q2 q3
  obtain ⟨c, ec⟩ : ∃ c, cmpK y.k x.k = c := ⟨_, rfl⟩
  rw [ec] at hc hE
  have hz : ¬ c = 0 := fun hz => by rw [if_pos hz] at hE; cases hE
  have hz2' : ¬ 0 < c := fun hz2 => by rw [if_neg hz, if_pos hz2] at hE; cases hE
  have d1 : (c == 0) = false := by simp [hz]
  have d2 : decide (0 < c) = false := decide_eq_false hz2'
  have hown := fun W (hg : Grows w W) => own_any x W (hx.grows hg) hxl
  have HW := Lib.hid hown
  have HH := Lib.hid h
  have c0 := h.c0.1
  have hbl := h.lt
  have hrow : ∀ k, (Value.slice (some ⟨g, o, none⟩) n cap).ownBlock = some k → k < w.heap.size := fun k hk => (h.own.lt k hk).2
  have hne := h.ne
  rw [en, em] at q1 q2 q3
  subst em
  simp only [Nat.add_sub_cancel] at q1 q2 q3
  have HC := Lib.hid hc
  have EN := Lib.hid en
  clear h hlk hE2 hc q0 q4 hat ey ec en hp h0 hown hx hxl hE hz hz2'
  obtain ⟨j1, j2, j3, j4, j6⟩ := nat_facts m HM2.out
  go_enter Try.func31, Try.ntmps31
  go_wp2_with fail
  refine wp_region_tail_drewN 11 (by kernel_rfl) (by kernel_rfl) (by kernel_rfl) (by kernel_rfl) ?_
  simp only [List.take_succ_cons, List.take_zero, List.drop_succ_cons, List.drop_zero]
  repeat (first | go_big_quiet_step ((fail)) | quiet_step ((fail)))
  refine wpQuiet_nil ?_
  intro _ hcw1
  obtain ⟨nq, hcw2⟩ := hcw1
  subst hcw2
  go_wp2_with fail
  refine (HC.out _).mono ?_
  rintro e W ⟨rfl, hg1⟩
  have gW : Grows w W := grows_trans w _ _ (by show Below w.heap.size w _; (repeat (first | with_reducible exact Below.refl _ _ | with_reducible refine bl_alloc ?_ _ | ((with_reducible refine bl_set ?_ ?_ _); rotate_left; (first | exact Nat.le_refl _ | exact Nat.le_succ_of_le (Nat.le_refl _) | (simp only []; omega))) | with_reducible refine bl_drewN ?_ _ | with_reducible refine bl_drew ?_ | with_reducible refine bl_reg ?_ _))) hg1
  have hbx : W.heap[w.heap.size]? = some (.cells #[.int .i64 x.a, .int .i64 x.k.t, .int .i64 x.k.f, .int .u32 x.k.s, x.bv] 56) := (hg1.block _ (by simp)).trans (heap_alloc_new w _)
  have hb1 : b < W.heap.size := Nat.lt_of_lt_of_le hbl gW.size
  have hw1 : w.heap.size < W.heap.size := (Array.getElem?_eq_some_iff.1 hbx).1
  clear hg1
  go_wp2_with fail
  obtain ⟨c0, f0⟩ := (HH.out.grows gW).c0
  obtain ⟨k0, -⟩ := cell_in hbx 0 rfl
  obtain ⟨k1, -⟩ := cell_in hbx 1 rfl
  obtain ⟨k2, -⟩ := cell_in hbx 2 rfl
  obtain ⟨k3, -⟩ := cell_in hbx 3 rfl
  obtain ⟨k4, -⟩ := cell_in hbx 4 rfl
  have hs : ∀ w', Chg (fun k => (Value.slice (some ⟨g, o, none⟩) (m + 1) cap).ownBlock = some k) W w' → w'.cell? ⟨b, 0, none⟩ = some (.slice (some ⟨g, o, none⟩) (m + 1) cap) ∧ w'.frozen? ⟨b, 0, none⟩ = false ∧ w'.cell? ⟨w.heap.size, 0, none⟩ = some (.int .i64 x.a) ∧ w'.cell? ⟨w.heap.size, 1, none⟩ = some (.int .i64 x.k.t) ∧ w'.cell? ⟨w.heap.size, 2, none⟩ = some (.int .i64 x.k.f) ∧ w'.cell? ⟨w.heap.size, 3, none⟩ = some (.int .u32 x.k.s) ∧ w'.cell? ⟨w.heap.size, 4, none⟩ = some x.bv := fun w' hc =>
    ⟨hc.cellAt c0 hne, (hc.frozen (p := ⟨b, 0, none⟩) hb1 hne).trans f0, hc.cellAt k0 (fun hk => Nat.lt_irrefl _ (hrow _ hk)), hc.cellAt k1 (fun hk => Nat.lt_irrefl _ (hrow _ hk)), hc.cellAt k2 (fun hk => Nat.lt_irrefl _ (hrow _ hk)), hc.cellAt k3 (fun hk => Nat.lt_irrefl _ (hrow _ hk)), hc.cellAt k4 (fun hk => Nat.lt_irrefl _ (hrow _ hk))⟩
  have HS := Lib.hid hs
  have hm2 := HM2.out
  have GW := Lib.hid gW
  have hO : W.ownsRow base 56 5 (.slice (some ⟨g, o, none⟩) (m + 1) cap) l.length (evs l) := (HH.out.grows gW).own
  rw [EN.out] at hO
  have HO := Lib.hid hO
  clear hO
  have hbW : base ≤ W.heap.size := Nat.le_trans hbase gW.size
  clear hs gW hbx
  clear hrow hne hbase
  go_region_law (first
    | (refine step_call (by rfl) 60 #[.tmp 39] #[56] (by rfl) #[x.val] (by rfl) Try.f60 Try.func60 (by kernel_rfl) (by kernel_rfl) (HW.out _ ?_) ?_; (· (repeat (first | exact GW.out | refine bl_drew ?_ | refine bl_alloc ?_ _))); rintro e w2 ⟨ca, cl, cc, rfl, hbr, hg2⟩; refine ⟨_, rfl, ?_⟩; obtain ⟨c0, f0, k0, k1, k2, k3, k4⟩ := HS.out w2 (Chg.ofGrows (grows_trans _ _ _ (bl_drew (Below.refl _ _)) hg2)); have hb2 : b < w2.heap.size := Nat.lt_of_lt_of_le hb1 hg2.size; have hg3 : Grows W w2 := grows_trans _ _ _ (bl_drew (Below.refl _ _)) hg2; have hs3 := hg3.size)
    | (refine step_append_lies _ (by rfl) _ _ _ (by rfl) base 56 i0 _ 5 56 Try.underlying47 hi hz0 hz1 hz2 rfl (by decide) (.slice (some ⟨g, o, none⟩) (m + 1) cap) (m + 1) (evs l) (by rfl) (own_grows (own_grows HO.out hg3) (bl_alloc (Below.refl _ _) _)) ⟨w2.heap.size, 0, none⟩ 1 1 [.int .i64 x.a, .int .i64 x.k.t, .int .i64 x.k.f, .int .u32 x.k.s, .slice ca cl cc] (by rfl) (by rfl) (World.news_of_block (heap_alloc_new w2 _)) (ev_one ⟨x.a, x.k, ca, cl, cc, x.b⟩) (by decide) (by unfold maxLen; omega) (by omega) (by simp; omega) (w2.heap.size + 1) (by simp) ?_; intro g2 cap2 w3 hown3 hgrow3 hat3 hlt3; obtain ⟨c0, f0, -⟩ := HS.out w3 (Chg.trans (Chg.alloc (Chg.ofGrows (grows_trans _ _ _ (bl_drew (Below.refl _ _)) hg2)) _) (Chg.ofRow hgrow3)))
    | fail)
  all_goals
    go_wp2_with fail
    go_ret
    exact added_of (y := ⟨x.a, x.k, ca, cl, cc, x.b⟩) EN.out GW.out HH.out hg3 hbr rfl rfl rfl hgrow3 hown3 hat3
