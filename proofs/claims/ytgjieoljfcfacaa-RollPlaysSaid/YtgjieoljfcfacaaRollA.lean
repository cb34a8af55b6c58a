/- A roll in memory, and the walks of its methods New, Note, Set, Len. -/
import Derived.Test.YtgjieoljfcfacaaNodes
import Derived.Test.YtgjieoljfcfacaaTail
import Derived.Maps.OwnSet
import Derived.Maps.OwnOps
namespace Go.Proofs.Ytgjieoljfcfacaa
open Go.RowKit Go.Sort Go.Maps
set_option maxHeartbeats 1000000
set_option maxRecDepth 100000

theorem setLaw : Keyed Try.prog 2 := int_keyed Try.underlying2
theorem setZero (w : World) : (zeroValue 39).run Try.prog w = .ok (.int .u64 0) w := by kernel_rfl

abbrev keyL (no : Int) : Lit := .int .i64 no
/-- Who was at an attendance, as the map says. -/
def valN (D : DataW Unit) (no : Int) : Nat := match D.atKey (keyL no) (.lit (.int .u64 0)) with | .lit (.int _ c) => c.toNat | _ => 0

/-- A roll lies at block b, its map at block m, which reads as D. -/
structure RollAt (w : World) (b m : Nat) (D : DataW Unit) (most : Int) : Prop where
  c0 : w.cell? ⟨b, 0, none⟩ = some (.map (some m))
  c1 : w.cell? ⟨b, 1, none⟩ = some (.int .i64 most)
  own : w.ownsMap Try.prog 2 (plainElem Try.prog 39) m (Maps.size D) D

theorem own_exact {w : World} {P : Program} {k : TypeId} {R : Value → Option (DataW Unit × List MemPlace)} {b n : Nat} {D : DataW Unit} (h : w.ownsMap P k R b n D) : w.ownsMap P k R b (Maps.size D) D := by
  obtain ⟨es, clock, hb, F, _, rfl⟩ := h
  exact ⟨es, clock, hb, F, by simp [Maps.size, length_sorted], rfl⟩

theorem cell_lt {w : World} {b o : Nat} {v : Value} (h : w.cell? ⟨b, o, none⟩ = some v) : b < w.heap.size := block_lt_of_cell (a := ⟨b, o, none⟩) h

theorem RollAt.kept {w w' : World} {b m : Nat} {D : DataW Unit} {most : Int} {row : Option Nat} (h : RollAt w b m D most) (hg : w.grownBy w' row) (hb : some b ≠ row) (hm : some m ≠ row) : RollAt w' b m D most :=
  ⟨(World.cell?_of_block (a := ⟨b, 0, none⟩) (hg.block b (cell_lt h.c0) hb)).trans h.c0, (World.cell?_of_block (a := ⟨b, 1, none⟩) (hg.block b (cell_lt h.c0) hb)).trans h.c1, h.own.kept hg hm⟩
theorem grown_reg (w : World) (p : Regrown) : w.grownBy (reg w p) none := ⟨rfl, rfl, rfl, (below_reg w p).size, fun k hk _ => (below_reg w p).block k hk⟩
theorem grown_same (w : World) (r : Option Nat) : w.grownBy w r := ⟨rfl, rfl, rfl, Nat.le_refl _, fun _ _ _ => rfl⟩
theorem grown_drewN (w : World) (n : Nat) (r : Option Nat) : w.grownBy (w.drewN n) r := ⟨rfl, rfl, rfl, Nat.le_refl _, fun _ _ _ => rfl⟩
theorem grown_drew (w : World) (r : Option Nat) : w.grownBy w.drew r := ⟨rfl, rfl, rfl, Nat.le_refl _, fun _ _ _ => rfl⟩
theorem grown_trans {a b c : World} {r : Option Nat} (h : a.grownBy b r) (h' : b.grownBy c r) : a.grownBy c r :=
  ⟨h'.os.trans h.os, h'.tape.trans h.tape, h'.output.trans h.output, Nat.le_trans h.size h'.size, fun k hk hne => (h'.block k (Nat.lt_of_lt_of_le hk h.size) hne).trans (h.block k hk hne)⟩
theorem RollAt.reg {w : World} {b m : Nat} {D : DataW Unit} {most : Int} (h : RollAt w b m D most) (p : Regrown) : RollAt (reg w p) b m D most := h.kept (grown_reg w p) (by simp) (by simp)

theorem new_any (most : Int) (w : World) (h0 : 0 ≤ most) (h1 : most ≤ 65536) :
    Calls Try.prog 5 #[.int .i64 most] w (fun e w' => e = .returned (.pointer (some ⟨w.heap.size + 1, 0, none⟩)) ∧ RollAt w' (w.heap.size + 1) w.heap.size (.map []) most ∧ Below w.heap.size w w') := by
  have hmm := @run_makeMap Try.prog
  go_enter Try.func5, Try.ntmps5
  go_wp2
  go_ret
  refine ⟨rfl, ⟨?_, ?_, ?_⟩, by (repeat (first | with_reducible exact Below.refl _ _ | with_reducible refine bl_alloc ?_ _ | ((with_reducible refine bl_set ?_ ?_ _); rotate_left; (first | exact Nat.le_refl _ | exact Nat.le_succ_of_le (Nat.le_refl _) | (simp only []; omega))) | with_reducible refine bl_drewN ?_ _ | with_reducible refine bl_drew ?_ | with_reducible refine bl_reg ?_ _))⟩
  · simp [go_sem]
  · simp [go_sem]
  · exact ((World.ownsMap_made _ _ _ _).alloc _)

theorem roll_apart {w : World} {b m o n : Nat} {v : Value} {P : Program} {k : TypeId} {R : Value → Option (DataW Unit × List MemPlace)} {D : DataW Unit} (h : w.cell? ⟨b, o, none⟩ = some v) (hm : w.ownsMap P k R m n D) : b ≠ m := by
  rintro rfl
  obtain ⟨es, clock, hb, _⟩ := hm
  simp [World.cell?, hb] at h

theorem len_any (w : World) {b m : Nat} {D : DataW Unit} {most : Int} (h : RollAt w b m D most) :
    Calls Try.prog 15 #[.pointer (some ⟨b, 0, none⟩)] w (fun e w' => e = .returned (.int .i64 (Maps.size D)) ∧ w = w') := by
  have hl := fun ty => h.own.len Try.underlying46 ty
  have c0 := h.c0
  go_enter Try.func15, Try.ntmps15
  go_wp2
  go_ret
  exact ⟨rfl, rfl⟩

theorem valN_of {D : DataW Unit} {no c : Int} (hat : D.atKey (keyL no) (.lit (.int .u64 0)) = .lit (.int .u64 c)) (hwc : (Lit.int .u64 c).wf = true) : c = (valN D no : Int) ∧ valN D no < 18446744073709551616 := by
  have hc : 0 ≤ c ∧ c < 18446744073709551616 := by
    simp [Lit.wf, IntKind.min, IntKind.max, IntKind.signed, IntKind.bits] at hwc; omega
  have : valN D no = c.toNat := by unfold valN; rw [hat]
  omega

theorem set_any (w : World) {b m : Nat} {D : DataW Unit} {most : Int} (h : RollAt w b m D most) (no : Int) (hno : (Lit.int .i64 no).wf = true) :
    Calls Try.prog 11 #[.pointer (some ⟨b, 0, none⟩), .int .i64 no] w (fun e w' => e = .returned (.int .u64 (valN D no)) ∧ valN D no < 18446744073709551616 ∧ w = w') := by
  have hkey := keyOf_int_mk Try.underlying2 hno
  have c0 := h.c0
  have ho := h.own
  go_enter Try.func11, Try.ntmps11
  go_wp2_with (first | (at_lookup; refine wpList_lookup_own_int _ rfl _ _ 46 rfl 2 39 .u64 setLaw Try.underlying46 Try.underlying39 (setZero _) m (Maps.size D) D rfl ho _ _ rfl hkey ?_; intro c hat hwc; obtain ⟨rfl, hv⟩ := valN_of hat hwc; clear hat hwc))
  go_ret
  exact ⟨rfl, by assumption, rfl⟩

def noteE (D : DataW Unit) (most no from_ : Int) : Int :=
  if from_ < 0 ∨ 64 ≤ from_ then 8 else if hasN (valN D no) from_ = true then 12 else if Maps.has D (keyL no) = false ∧ most ≤ Maps.size D then 13 else 0
def noteD (D : DataW Unit) (most no from_ : Int) : DataW Unit := if noteE D most no from_ = 0 then D.put (keyL no) (.lit (.int .u64 (withN (valN D no) from_))) else D

theorem note_bad (w : World) (b : Nat) (no f : Int) (hf : f < 0 ∨ 64 ≤ f) :
    Calls Try.prog 10 #[.pointer (some ⟨b, 0, none⟩), .int .i64 no, .int .i64 f] w (fun e w' => e = .returned (.int .i64 8) ∧ w = w') := by
  rcases hf with hf | hf
  · go_enter Try.func10, Try.ntmps10
    go_wp2
    go_ret
    exact ⟨rfl, rfl⟩
  · go_enter Try.func10, Try.ntmps10
    go_wp2
    go_ret
    exact ⟨rfl, rfl⟩

/-- What a Note that was let in leaves behind. -/
def Noted (w : World) (b m : Nat) (D : DataW Unit) (most v : Int) (e : Ending) (w' : World) : Prop := e = .returned (.int .i64 v) ∧ RollAt w' b m D most ∧ w.grownBy w' (some m)

theorem note_in (w : World) {b m : Nat} {D : DataW Unit} {most : Int} (h : RollAt w b m D most) (no f : Int) (hno : (Lit.int .i64 no).wf = true) (hf : 0 ≤ f ∧ f < 64) (hs : Maps.size D < maxLen) :
    Calls Try.prog 10 #[.pointer (some ⟨b, 0, none⟩), .int .i64 no, .int .i64 f] w (Noted w b m (noteD D most no f) most (noteE D most no f)) := by
  have hkey := keyOf_int_mk Try.underlying2 hno
  have c0 := h.c0
  have c1 := h.c1
  have ho := h.own
  obtain ⟨hf1, hf2⟩ := hf
  go_enter Try.func10, Try.ntmps10
  go_wp2_with (first | (at_lookup; refine wpList_lookup_own_ok_int _ rfl _ _ 46 rfl 2 39 .u64 setLaw Try.underlying46 Try.underlying39 (setZero _) m (Maps.size D) D rfl ho _ _ rfl hkey ?_; intro c hat hwc; obtain ⟨rfl, hv⟩ := valN_of hat hwc; clear hat hwc))
  refine (nhas_any _ _ hv _).mono ?_
  rintro e w' ⟨rfl, rfl⟩
  have hE0 : noteE D most no f = if hasN (valN D no) f = true then 12 else if Maps.has D (keyL no) = false ∧ most ≤ Maps.size D then 13 else 0 := by unfold noteE; rw [if_neg (by omega)]
  have HE0 := Lib.hid hE0
  clear hE0
  cases hh : hasN (valN D no) f
  · cases hi : Maps.has D (keyL no)
    · have hlen := fun k ty => (show (w.drewN k).ownsMap Try.prog 2 (plainElem Try.prog 39) m (Maps.size D) D from ho).len Try.underlying46 ty
      by_cases hfull : most ≤ (Maps.size D : Int)
      · have HF : Hid (noteE D most no f = 13) := by show _ = _; rw [HE0.out, if_neg (by rw [hh]; simp), if_pos ⟨hi, hfull⟩]
        go_wp2_with fail
        go_quiet (fail)
        go_wp2
        go_ret
        exact ⟨ret_int HF.out.symm, by unfold noteD; rw [HF.out]; exact ⟨c0, c1, ho⟩, grown_drewN w _ _⟩
      · have HF : Hid (noteE D most no f = 0) := by show _ = _; rw [HE0.out, if_neg (by rw [hh]; simp), if_neg (fun hx => hfull hx.2)]
        have hnf : (Maps.size D : Int) < most := by omega
        clear hfull
        go_wp2_with fail
        go_quiet (fail)
        go_wp2_with fail
        obtain ⟨w1, hw1⟩ : ∃ w1, w.drewN nq = w1 := ⟨_, rfl⟩
        have g1 : w.grownBy w1 (some m) := by rw [← hw1]; exact grown_drewN w nq _
        have d0 : w1.cell? ⟨b, 0, none⟩ = some (.map (some m)) := by rw [← hw1]; exact c0
        have d1 : w1.cell? ⟨b, 1, none⟩ = some (.int .i64 most) := by rw [← hw1]; exact c1
        have ho1 : w1.ownsMap Try.prog 2 (plainElem Try.prog 39) m (Maps.size D) D := by rw [← hw1]; exact ho
        rw [hw1]
        clear hw1 hlen c0 c1
        have hne := World.new_ne w1 ⟨b, 0, none⟩ d0
        have hwl : (Lit.int .u64 ((withL (valN D no) [f] : Nat) : Int)).wf = true := by
          have := withL_lt hv [f]
          simp [Lit.wf, IntKind.min, IntKind.max, IntKind.signed, IntKind.bits]; omega
        obtain ⟨w2, hrun, hown2, hturn⟩ := ((ho1.alloc (.cells #[.int .i64 f] 3)).drew).store setLaw Try.underlying46 hs hkey (plainElem_int Try.underlying39 hwl)
        have g2 : w1.grownBy w2 (some m) := grown_trans (grown_trans (World.grownBy_alloc w1 _ _) (grown_drew _ _)) hturn.grown
        have hbm : b ≠ m := roll_apart d0 ho1
        have d2 : w2.cell? ⟨b, 0, none⟩ = some (.map (some m)) := (World.cell?_of_block (a := ⟨b, 0, none⟩) (g2.block b (cell_lt d0) (by simpa using hbm))).trans d0
        have d3 : w2.cell? ⟨b, 1, none⟩ = some (.int .i64 most) := (World.cell?_of_block (a := ⟨b, 1, none⟩) (g2.block b (cell_lt d0) (by simpa using hbm))).trans d1
        have hc1 : ∀ i, (hx : i < [f].length) → ((w1.alloc (.cells #[.int .i64 f] 3)).drew).cell? ⟨w1.heap.size, 0 + i, none⟩ = some (.int .i64 [f][i]) := by
          intro i hx
          obtain rfl : i = 0 := by simpa using hx
          simp [go_sem]
        have HC1 := Lib.hid hc1
        have HO := Lib.hid hown2
        have HT := Lib.hid hturn
        have HG := Lib.hid (grown_trans g1 g2)
        clear hc1 hown2 hturn ho ho1 h g1 g2 hbm
        go_region_held3 (fun w' => w'.cell? ⟨b, 0, none⟩ = some (.map (some m))) (go_keep) (first | (go_at_call 21; refine (with_any _ _ 0 1 1 [f] _ hv rfl (by decide) HC1.out).mono ?_; rintro e w' ⟨rfl, rfl⟩))
        go_wp2
        go_ret
        refine ⟨ret_int HF.out.symm, ?_, HG.out⟩
        unfold noteD
        rw [HF.out, if_pos rfl]
        exact ⟨d2, d3, own_exact HO.out⟩
    · have HF : Hid (noteE D most no f = 0) := by show _ = _; rw [HE0.out, if_neg (by rw [hh]; simp), if_neg (fun hx => by rw [hx.1] at hi; cases hi)]
      go_wp2_with fail
      go_quiet (fail)
      go_wp2_with fail
      obtain ⟨w1, hw1⟩ : ∃ w1, w.drewN nq = w1 := ⟨_, rfl⟩
      have g1 : w.grownBy w1 (some m) := by rw [← hw1]; exact grown_drewN w nq _
      have d0 : w1.cell? ⟨b, 0, none⟩ = some (.map (some m)) := by rw [← hw1]; exact c0
      have d1 : w1.cell? ⟨b, 1, none⟩ = some (.int .i64 most) := by rw [← hw1]; exact c1
      have ho1 : w1.ownsMap Try.prog 2 (plainElem Try.prog 39) m (Maps.size D) D := by rw [← hw1]; exact ho
      rw [hw1]
      clear hw1 c0 c1
      have hne := World.new_ne w1 ⟨b, 0, none⟩ d0
      have hwl : (Lit.int .u64 ((withL (valN D no) [f] : Nat) : Int)).wf = true := by
        have := withL_lt hv [f]
        simp [Lit.wf, IntKind.min, IntKind.max, IntKind.signed, IntKind.bits]; omega
      obtain ⟨w2, hrun, hown2, hturn⟩ := ((ho1.alloc (.cells #[.int .i64 f] 3)).drew).store setLaw Try.underlying46 hs hkey (plainElem_int Try.underlying39 hwl)
      have g2 : w1.grownBy w2 (some m) := grown_trans (grown_trans (World.grownBy_alloc w1 _ _) (grown_drew _ _)) hturn.grown
      have hbm : b ≠ m := roll_apart d0 ho1
      have d2 : w2.cell? ⟨b, 0, none⟩ = some (.map (some m)) := (World.cell?_of_block (a := ⟨b, 0, none⟩) (g2.block b (cell_lt d0) (by simpa using hbm))).trans d0
      have d3 : w2.cell? ⟨b, 1, none⟩ = some (.int .i64 most) := (World.cell?_of_block (a := ⟨b, 1, none⟩) (g2.block b (cell_lt d0) (by simpa using hbm))).trans d1
      have hc1 : ∀ i, (hx : i < [f].length) → ((w1.alloc (.cells #[.int .i64 f] 3)).drew).cell? ⟨w1.heap.size, 0 + i, none⟩ = some (.int .i64 [f][i]) := by
        intro i hx
        obtain rfl : i = 0 := by simpa using hx
        simp [go_sem]
      have HC1 := Lib.hid hc1
      have HO := Lib.hid hown2
      have HT := Lib.hid hturn
      have HG := Lib.hid (grown_trans g1 g2)
      clear hc1 hown2 hturn ho ho1 h g1 g2 hbm
      go_region_held3 (fun w' => w'.cell? ⟨b, 0, none⟩ = some (.map (some m))) (go_keep) (first | (go_at_call 21; refine (with_any _ _ 0 1 1 [f] _ hv rfl (by decide) HC1.out).mono ?_; rintro e w' ⟨rfl, rfl⟩))
      go_wp2
      go_ret
      refine ⟨ret_int HF.out.symm, ?_, HG.out⟩
      unfold noteD
      rw [HF.out, if_pos rfl]
      exact ⟨d2, d3, own_exact HO.out⟩
  · have HF : Hid (noteE D most no f = 12) := by show _ = _; rw [HE0.out, if_pos hh]
    go_wp2_with fail
    go_ret
    exact ⟨ret_int HF.out.symm, by unfold noteD; rw [HF.out]; exact h, grown_same w _⟩

theorem note_any (w : World) {b m : Nat} {D : DataW Unit} {most : Int} (h : RollAt w b m D most) (no f : Int) (hno : (Lit.int .i64 no).wf = true) (hs : Maps.size D < maxLen) :
    Calls Try.prog 10 #[.pointer (some ⟨b, 0, none⟩), .int .i64 no, .int .i64 f] w (Noted w b m (noteD D most no f) most (noteE D most no f)) := by
  by_cases hf : f < 0 ∨ 64 ≤ f
  · have hE : noteE D most no f = 8 := by unfold noteE; rw [if_pos hf]
    refine (note_bad w b no f hf).mono ?_
    rintro e w' ⟨rfl, rfl⟩
    exact ⟨ret_int hE.symm, by unfold noteD; rw [hE]; exact h, grown_same w _⟩
  · exact note_in w h no f hno (by omega) hs

theorem take_any (w : World) {b m : Nat} {D : DataW Unit} {most : Int} (h : RollAt w b m D most) (no : Int) (hno : (Lit.int .i64 no).wf = true) :
    Calls Try.prog 12 #[.pointer (some ⟨b, 0, none⟩), .int .i64 no] w (fun e w' => e = .returned (.int .u64 (valN D no)) ∧ RollAt w' b m (D.del (keyL no)) most ∧ w.grownBy w' (some m)) := by
  have hkey := keyOf_int_mk Try.underlying2 hno
  have c0 := h.c0
  have ho := h.own
  go_enter Try.func12, Try.ntmps12
  go_wp2_with (first
    | (go_at_call 11; refine (set_any _ h no hno).mono ?_; rintro e w' ⟨rfl, hv, rfl⟩)
    | (at_delete; refine wpList_delete_own _ rfl _ _ 46 2 rfl 39 setLaw Try.underlying46 _ m (Maps.size D) D rfl ho _ _ rfl hkey ?_; intro w1 hown1 hturn1))
  go_ret
  have hbm : b ≠ m := roll_apart h.c0 h.own
  exact ⟨rfl, ⟨(World.cell?_of_block (a := ⟨b, 0, none⟩) (hturn1.grown.block b (cell_lt h.c0) (by simpa using hbm))).trans h.c0, (World.cell?_of_block (a := ⟨b, 1, none⟩) (hturn1.grown.block b (cell_lt h.c0) (by simpa using hbm))).trans h.c1, own_exact hown1⟩, hturn1.grown⟩
end Go.Proofs.Ytgjieoljfcfacaa
