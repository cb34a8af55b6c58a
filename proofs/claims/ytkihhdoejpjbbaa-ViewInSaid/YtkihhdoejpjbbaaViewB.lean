/- Views in memory: a view is installed. -/
import Derived.Test.YtkihhdoejpjbbaaViewA
namespace Go.Proofs.Ytkihhdoejpjbbaa
open Go.RowKit Go.Sort
set_option maxHeartbeats 1000000
set_option maxRecDepth 100000

theorem ViewsAt.chg {w w' : World} {base b : Nat} {v : Value} {l : List VW} {S : Nat → Prop} (h : ViewsAt w base b v l) (hc : Chg S w w') (hb : ¬ S b) (hv : ∀ k, v.ownBlock = some k → ¬ S k) : ViewsAt w' base b v l :=
  ⟨hc.cellAt h.c0 hb, (hc.frozen (p := ⟨b, 0, none⟩) (block_lt_of_cell h.c0) hb).trans h.fz, hc.own h.own hv, h.ne, h.le⟩
theorem ViewsAt.grows {w w' : World} {base b : Nat} {v : Value} {l : List VW} (h : ViewsAt w base b v l) (hc : Grows w w') : ViewsAt w' base b v l :=
  h.chg (S := fun _ => False) (Chg.ofGrows hc) (fun h => h) (fun _ _ h => h)

/-- What a call of Install that was let in leaves behind. -/
def Installed (w : World) (base b : Nat) (v : Value) (l : List VW) (e : Ending) (w' : World) : Prop :=
  e = .returned (.int .i64 0) ∧ ∃ v', ViewsAt w' base b v' l ∧ Chg (fun k => k = b ∨ v.ownBlock = some k) w w' ∧ (∀ k, v'.ownBlock = some k → v.ownBlock = some k ∨ w.heap.size ≤ k)
theorem store_views {w : World} {base b : Nat} {u : Value} {l : List VW} (v : Value) (hc : w.cell? ⟨b, 0, none⟩ = some u) (hf : w.frozen? ⟨b, 0, none⟩ = false) (ho : VOwn w base v l) (hne : v.ownBlock ≠ some b) (hb : base ≤ b) :
    ViewsAt (w.setCell ⟨b, 0, none⟩ v) base b v l := by
  refine ⟨World.cell?_setCell_same _ _ _ hc, ?_, ?_, hne, hb⟩
  · rw [World.frozen?_setCell]; exact hf
  · exact (Chg.setCell (S := fun k => k = b) (Chg.refl _ _) v (.inr rfl)).own ho (fun k hk hkb => hne (by rw [hk, hkb]))

theorem installed_of {w W w1 : World} {base b g cap : Nat} {v : Value} {l : List VW} {x : VW} {o : Obj} (GW : Grows w W) (h : ViewsAt w base b v l) (hgrow : ((W.alloc o).drew).grownBy w1 v.ownBlock)
    (hown1 : w1.ownsRow base 29 3 (.slice (some ⟨g, 0, none⟩) (l.length + 1) cap) (l.length + 1) (vvs l ++ vv x)) (hat : v.ownBlock = some g ∨ g = W.heap.size + 1) (q0 : w1.cell? ⟨b, 0, none⟩ = some v) (q1 : w1.frozen? ⟨b, 0, none⟩ = false) :
    Installed w base b v (l ++ [x]) (.returned (.int .i64 0)) (w1.setCell ⟨b, 0, none⟩ (.slice (some ⟨g, 0, none⟩) (l.length + 1) cap)) := by
  have hb : b < w.heap.size := block_lt_of_cell h.c0
  have hs : w.heap.size ≤ W.heap.size := GW.size
  have ho : VOwn w1 base (.slice (some ⟨g, 0, none⟩) (l.length + 1) cap) (l ++ [x]) := by
    show World.ownsRow _ _ _ _ _ _ _
    rw [List.length_append, ← vvs_snoc]
    exact hown1
  refine ⟨rfl, _, store_views _ q0 q1 ho ?_ h.le, ?_, ?_⟩
  · simp only [Value.ownBlock, ne_eq, Option.some.injEq]
    rintro rfl
    rcases hat with hat | hat
    · exact h.ne hat
    · omega
  · refine Chg.setCell ?_ _ (.inr (.inl rfl))
    exact (Chg.ofGrows GW).trans (((Chg.alloc (Chg.refl _ _) _).drew).trans ((Chg.ofRow hgrow).mono (fun k _ hk => .inr hk)))
  · intro k hk
    simp only [Value.ownBlock, Option.some.injEq] at hk
    subst hk
    rcases hat with hat | hat
    · exact .inl hat
    · exact .inr (by omega)

theorem install_ok (w : World) {base b : Nat} {v : Value} {l : List VW} (h : ViewsAt w base b v l) (hm : l.length < 1000000) (x : VW) (hE : l = [] ∨ ((lastV l).no < x.no ∧ (lastV l).tm ≤ x.tm)) (hbase : base ≤ w.heap.size) :
    Calls Try.prog 44 #[.pointer (some ⟨b, 0, none⟩), x.val] w (Installed w base b v (l ++ [x])) := by
  have hlt := block_lt_of_cell h.c0
  simp only at hlt
  have h2 := h.grows (bl_alloc (Below.refl _ _) (.cells #[.int .i64 x.no, .int .i64 x.tm, .int .u64 (x.set : Int)] 29) : Grows w _)
  have hcall := last_any _ h2 (by omega)
  have HC := Lib.hid hcall
  clear hcall
  have hrow : ∀ k, v.ownBlock = some k → k < w.heap.size := fun k hk => (h.own.lt k hk).2
  obtain ⟨i0, hi, hz0, hz1, hz2⟩ := info_parts Try.infoView
  have hne := h.ne
  have HH := Lib.hid h
  by_cases hl : l = []
  · have he : (!l.isEmpty) = false := by rw [hl]; rfl
    rw [he] at HC
    obtain ⟨y, ey⟩ : ∃ y, lastV l = y := ⟨_, rfl⟩
    rw [ey] at HC
    clear ey he hE hl h2
    go_enter Try.func44, Try.ntmps44
    go_wp2_with fail
    refine (HC.out).mono ?_
    rintro e w1 ⟨rfl, hb⟩
    obtain ⟨p, rfl⟩ := regr hb
    clear hb
    go_wp2_with fail
    obtain ⟨W, eW⟩ : ∃ W, (reg (w.alloc (.cells #[.int .i64 x.no, .int .i64 x.tm, .int .u64 (x.set : Int)] 29)) p).alloc (.cells #[.int .i64 y.no, .int .i64 y.tm, .int .u64 (y.set : Int)] 29) = W := ⟨_, rfl⟩
    rw [eW]
    have gW : Grows w W := by rw [← eW]; show Below w.heap.size w _; (repeat (first | with_reducible exact Below.refl _ _ | with_reducible refine bl_alloc ?_ _ | ((with_reducible refine bl_set ?_ ?_ _); rotate_left; (first | exact Nat.le_refl _ | exact Nat.le_succ_of_le (Nat.le_refl _) | (simp only []; omega))) | with_reducible refine bl_drewN ?_ _ | with_reducible refine bl_drew ?_ | with_reducible refine bl_reg ?_ _))
    have hW : ViewsAt W base b v l := HH.out.grows gW
    have k0 : W.cell? ⟨w.heap.size, 0, none⟩ = some (.int .i64 x.no) := by rw [← eW]; simp [go_sem]
    have k1 : W.cell? ⟨w.heap.size, 1, none⟩ = some (.int .i64 x.tm) := by rw [← eW]; simp [go_sem]
    have k2 : W.cell? ⟨w.heap.size, 2, none⟩ = some (.int .u64 (x.set : Int)) := by rw [← eW]; simp [go_sem]
    have c0 := hW.c0
    have fz := hW.fz
    have HO := Lib.hid hW.own
    have GW := Lib.hid gW
    have hsz : w.heap.size < W.heap.size := by rw [← eW]; simp [reg_size]; omega
    have hb1 : b < W.heap.size := by omega
    clear eW hW gW
    have hs : ∀ w', Chg (fun k => v.ownBlock = some k) W w' → w'.cell? ⟨b, 0, none⟩ = some v ∧ w'.frozen? ⟨b, 0, none⟩ = false ∧ w'.cell? ⟨w.heap.size, 0, none⟩ = some (.int .i64 x.no) ∧ w'.cell? ⟨w.heap.size, 1, none⟩ = some (.int .i64 x.tm) ∧ w'.cell? ⟨w.heap.size, 2, none⟩ = some (.int .u64 (x.set : Int)) := fun w' hc =>
      ⟨hc.cellAt c0 hne, (hc.frozen (p := ⟨b, 0, none⟩) hb1 hne).trans fz, hc.cellAt k0 (fun hk => Nat.lt_irrefl _ (hrow _ hk)), hc.cellAt k1 (fun hk => Nat.lt_irrefl _ (hrow _ hk)), hc.cellAt k2 (fun hk => Nat.lt_irrefl _ (hrow _ hk))⟩
    have HS := Lib.hid hs
    clear hs
    go_region_law (refine step_append_lies _ (by rfl) _ _ _ (by rfl) base 29 i0 _ 3 24 Try.underlying22 hi hz0 hz1 hz2 rfl (by decide) v l.length (vvs l) (by rfl) ((HO.out.alloc _).drew) ⟨W.heap.size, 0, none⟩ 1 1 (vv x) (by rfl) (by rfl) (World.news_of_block (heap_alloc_new W _)) (by simp [vv, Value.oneCell']) (by decide) (by unfold maxLen; omega) (by omega) (by simp; omega) (W.heap.size + 1) (by simp) ?_; intro g cap w1 hown1 hgrow hat hlt1; obtain ⟨q0, q1, -⟩ := HS.out w1 (Chg.trans (Chg.alloc (Chg.refl _ _) _).drew (Chg.ofRow hgrow)))
    all_goals
      go_wp2_with fail
      go_ret
      exact installed_of GW.out HH.out hgrow hown1 hat q0 q1
  · obtain ⟨e1, e2⟩ := hE.resolve_left hl
    have he : (!l.isEmpty) = true := by simp [hl]
    rw [he] at HC
    obtain ⟨y, ey⟩ : ∃ y, lastV l = y := ⟨_, rfl⟩
    rw [ey] at HC e1 e2
    have e3 : ¬ x.no ≤ y.no := by omega
    have e4 : ¬ x.tm < y.tm := by omega
    clear ey he hE hl h2
    go_enter Try.func44, Try.ntmps44
    go_wp2_with fail
    refine (HC.out).mono ?_
    rintro e w1 ⟨rfl, hb⟩
    obtain ⟨p, rfl⟩ := regr hb
    clear hb
    go_wp2_with fail
    obtain ⟨W, eW⟩ : ∃ W, (reg (w.alloc (.cells #[.int .i64 x.no, .int .i64 x.tm, .int .u64 (x.set : Int)] 29)) p).alloc (.cells #[.int .i64 y.no, .int .i64 y.tm, .int .u64 (y.set : Int)] 29) = W := ⟨_, rfl⟩
    rw [eW]
    have gW : Grows w W := by rw [← eW]; show Below w.heap.size w _; (repeat (first | with_reducible exact Below.refl _ _ | with_reducible refine bl_alloc ?_ _ | ((with_reducible refine bl_set ?_ ?_ _); rotate_left; (first | exact Nat.le_refl _ | exact Nat.le_succ_of_le (Nat.le_refl _) | (simp only []; omega))) | with_reducible refine bl_drewN ?_ _ | with_reducible refine bl_drew ?_ | with_reducible refine bl_reg ?_ _))
    have hW : ViewsAt W base b v l := HH.out.grows gW
    have k0 : W.cell? ⟨w.heap.size, 0, none⟩ = some (.int .i64 x.no) := by rw [← eW]; simp [go_sem]
    have k1 : W.cell? ⟨w.heap.size, 1, none⟩ = some (.int .i64 x.tm) := by rw [← eW]; simp [go_sem]
    have k2 : W.cell? ⟨w.heap.size, 2, none⟩ = some (.int .u64 (x.set : Int)) := by rw [← eW]; simp [go_sem]
    have c0 := hW.c0
    have fz := hW.fz
    have HO := Lib.hid hW.own
    have GW := Lib.hid gW
    have hsz : w.heap.size < W.heap.size := by rw [← eW]; simp [reg_size]; omega
    have hb1 : b < W.heap.size := by omega
    clear eW hW gW
    have hs : ∀ w', Chg (fun k => v.ownBlock = some k) W w' → w'.cell? ⟨b, 0, none⟩ = some v ∧ w'.frozen? ⟨b, 0, none⟩ = false ∧ w'.cell? ⟨w.heap.size, 0, none⟩ = some (.int .i64 x.no) ∧ w'.cell? ⟨w.heap.size, 1, none⟩ = some (.int .i64 x.tm) ∧ w'.cell? ⟨w.heap.size, 2, none⟩ = some (.int .u64 (x.set : Int)) := fun w' hc =>
      ⟨hc.cellAt c0 hne, (hc.frozen (p := ⟨b, 0, none⟩) hb1 hne).trans fz, hc.cellAt k0 (fun hk => Nat.lt_irrefl _ (hrow _ hk)), hc.cellAt k1 (fun hk => Nat.lt_irrefl _ (hrow _ hk)), hc.cellAt k2 (fun hk => Nat.lt_irrefl _ (hrow _ hk))⟩
    have HS := Lib.hid hs
    clear hs
    go_region_law (refine step_append_lies _ (by rfl) _ _ _ (by rfl) base 29 i0 _ 3 24 Try.underlying22 hi hz0 hz1 hz2 rfl (by decide) v l.length (vvs l) (by rfl) ((HO.out.alloc _).drew) ⟨W.heap.size, 0, none⟩ 1 1 (vv x) (by rfl) (by rfl) (World.news_of_block (heap_alloc_new W _)) (by simp [vv, Value.oneCell']) (by decide) (by unfold maxLen; omega) (by omega) (by simp; omega) (W.heap.size + 1) (by simp) ?_; intro g cap w1 hown1 hgrow hat hlt1; obtain ⟨q0, q1, -⟩ := HS.out w1 (Chg.trans (Chg.alloc (Chg.refl _ _) _).drew (Chg.ofRow hgrow)))
    all_goals
      go_wp2_with fail
      go_ret
      exact installed_of GW.out HH.out hgrow hown1 hat q0 q1
end Go.Proofs.Ytkihhdoejpjbbaa
