/- HistOwn: the walk. -/
import Derived.Test.YtdmmceclohkkdaaHistF
import Derived.Test.YtdmmceclohkkdaaDocAt
/- HistOwn: the walk. -/
namespace Go.Proofs.Ytdmmceclohkkdaa
open Go.RowKit Go.Sort
set_option maxHeartbeats 4000000
set_option maxRecDepth 100000
theorem bsv_append (a b : List Int) : bsv a ++ bsv b = bsv (a ++ b) := by simp
/-- Bytes appended to bytes of one's own. -/
theorem bapp_run {W : World} {base : Nat} {v : Value} {l m : List Int} {a : Option Addr} {n c : Nat} (ho : BRow W base v l) (hs : BHas W a n c m) (ha : a = none → c = 0) (hm : l.length + m.length ≤ 1000000) (hb : base ≤ W.heap.size) :
    ∃ v' W', (∀ ty, (Builtin.append_ #[74, 74] ty #[v, .slice a n c]).run Try.prog W = .ok v' W') ∧ BRow W' base v' (l ++ m) ∧ W.grownBy W' v.ownBlock := by
  obtain ⟨i0, hi, hz0, hz1, hz2⟩ := info_parts Try.infoU8
  obtain ⟨hl, hc⟩ := hs
  cases a with
  | none =>
    have hm0 : m = [] := by
      rcases hc with h2 | ⟨g, o, h2, _⟩
      · exact List.eq_nil_of_length_eq_zero (by rw [hl]; exact h2)
      · cases h2
    subst hm0
    obtain rfl := ha rfl
    obtain rfl : n = 0 := hl.symm
    refine ⟨v, W, fun ty => run_append_owned_none W base _ ty 5 i0 1 Try.underlying74 hi v l.length (bsv l) ho, by simpa using ho, ?_⟩
    exact ⟨rfl, rfl, rfl, Nat.le_refl _, fun _ _ _ => rfl⟩
  | some a =>
    have hcells : ∀ j u, (bsv m)[j]? = some u → W.cell? (a.add j) = some u := by
      intro j u hu
      rcases hc with h2 | ⟨g, o, h2, h3, h4, h5⟩
      · have hb : m = [] := List.eq_nil_of_length_eq_zero (by rw [hl]; exact h2)
        subst hb
        simp at hu
      · cases h2
        have hj : j < m.length := by
          have := (List.getElem?_eq_some_iff.1 hu).1
          simpa using this
        rw [addr_add, h5 j hj, ← hu]
        simp [hj]
    obtain ⟨v', W', h1, h2, h3, -⟩ := run_append_own (P := Try.prog) W base 74 0 5 i0 _ 1 1 Try.underlying74 hi hz0 hz1 hz2 rfl (by decide) v l.length (bsv l) ho a n c (bsv m) (by simp [hl]) hcells (bsv_one m)
      (by unfold maxLen; omega) (by omega) hb
    refine ⟨v', W', fun _ => h1, ?_, h3⟩
    show W'.ownsRow base _ 1 v' (l ++ m).length (bsv (l ++ m))
    rw [← bsv_append, List.length_append, hl]
    exact h2
section
variable {w : World} {base hb tb mb wb most : Nat} {kv : Value} {dl : Int} {last : KW} {sm : Bool} {l : List HW} {g : Int × Int → Int}
/-- What lies lower is changed. -/
theorem HistAt.low {w' : World} (h : HistAt w base hb tb kv mb wb most dl last sm l g) (hc : Chg (fun j => j < base) w w') : HistAt w' base hb tb kv mb wb most dl last sm l g :=
  ⟨box_chg h.ob hc (by have := h.bh; omega), h.tab.chg hc (by have := h.tab.bt; omega) (by have := h.tab.bm; omega) (fun j hj hs => by have := (h.tab.own.lt j hj).1; omega), h.mine.chg hc (by have := h.bw; omega), fun u hu => hc.own (h.bod u hu) (fun j hj hs => by have := ((h.bod u hu).lt j hj).1; omega), h.bh, h.bw, h.wm, h.d0, h.d1⟩
end
end Go.Proofs.Ytdmmceclohkkdaa
namespace Go.Proofs.Ytdmmceclohkkdaa
open Go.RowKit Go.Sort
set_option maxHeartbeats 4000000
set_option maxRecDepth 100000
theorem brow_bhas {w : World} {base : Nat} {ba : Option Addr} {bl bc : Nat} {b : List Int} (h : BRow w base (.slice ba bl bc) b) : BHas w ba bl bc b ∧ (ba = none → bc = 0) := by
  obtain ⟨a, n, c, e, h2⟩ := brow_form h
  simp only [Value.slice.injEq] at e
  obtain ⟨rfl, rfl, rfl⟩ := e
  refine ⟨h2, fun e => ?_⟩
  subst e
  rcases h.2 with ⟨h1, _⟩ | ⟨g, cap, cur, hv, _⟩
  · simp only [Value.slice.injEq] at h1; exact h1.2.2
  · cases hv
/-- The row of the bytes that were handed in: so many bytes, of whatever value. -/
def Raw (w : World) (g n : Nat) : Prop := ∃ cur, w.heap[g]? = some (.cells cur 5 (0, 0)) ∧ ∀ i, i < n → ∃ q : Int, cur[i]? = some (.int .u8 q)
theorem raw_of {w : World} {base g n cap : Nat} {b : List Int} (h : BRow w base (.slice (some ⟨g, 0, none⟩) n cap) b) : Raw w g n ∧ base ≤ g ∧ b.length = n ∧ n ≤ cap := by
  have hl : b.length = n := (brow_bhas h).1.1
  rcases h.2 with ⟨h1, _⟩ | ⟨g', cap', cur, hv, hb, hg, h4, rest⟩
  · simp at h1
  · simp only [Value.slice.injEq, Option.some.injEq, Addr.mk.injEq, and_true, true_and] at hv
    obtain ⟨rfl, hn, rfl⟩ := hv
    refine ⟨⟨cur, hg, fun i hi => ?_⟩, hb, hl, by omega⟩
    subst hl
    have hc := h.cellAt i (by omega)
    have hi' : i < b.length := by omega
    refine ⟨b[i], ?_⟩
    have h9 : (bsv b)[i]? = some (.int .u8 b[i]) := by simp [hi']
    rw [h9] at hc
    simpa [World.cell?, hg] using hc
theorem Raw.set {w : World} {g n i : Nat} (h : Raw w g n) (q : Int) : Raw (w.setCell ⟨g, i, none⟩ (.int .u8 q)) g n := by
  obtain ⟨cur, h1, h2⟩ := h
  refine ⟨_, box_setj (j := i) h1, fun j hj => ?_⟩
  obtain ⟨q', h3⟩ := h2 j hj
  have hlt : j < cur.size := (Array.getElem?_eq_some_iff.1 h3).1
  by_cases e : i = j
  · subst e
    exact ⟨q, by simp [hlt]⟩
  · exact ⟨q', by simp [e, h3]⟩
theorem own_min (bl : Nat) : min (bl : Int) 80 = ((min bl 80 : Nat) : Int) := by omega
theorem own_facts {t : Int} (h : 0 ≤ t ∧ t ≤ 4294967295) : wrap64 t = t ∧ wrap64 (t + 5) = t + 5 ∧ checkE 4 ⟨t, 0, 0⟩ 5 ⟨0, 0, 0⟩ false = 0 := by
  refine ⟨by unfold wrap64; omega, by unfold wrap64; omega, ?_⟩
  have h1 : goodK ⟨t, 0, 0⟩ = true := by unfold goodK; simp; omega
  unfold checkE
  rw [if_neg (by decide), if_neg (by rw [h1]; simp; omega), if_neg (by simp)]
theorem own_put {w : World} {base hb tb mb wb : Nat} {kv : Value} {t : Int} {pa : Option Addr} {pl pc : Nat} {b : List Int} (h : HistAt w base hb tb kv mb wb 3 5 ⟨0, 0, 0⟩ false [] (fun _ => 0)) (hbase : base ≤ w.heap.size) (hx : BHas w pa pl pc b) (hxl : pl ≤ 1000000) (hE : checkE 4 ⟨t, 0, 0⟩ 5 ⟨0, 0, 0⟩ false = 0) :
    Calls Try.prog 43 #[.pointer (some ⟨hb, 0, none⟩), ((atP t).at' pa pl pc).val] w (fun e w' => ∃ ba bl bc, HistTo w base hb tb kv mb wb 3 5 ⟨0, 0, 0⟩ false [((atP t).at' ba bl bc, b)] (bumpM (fun _ => 0) (0, 4) 1) (.int .i64 0) e w') := by
  have hP : putE (([] : List HW).map hv) 3 ⟨t, 0, 0⟩ = 0 := rfl
  have := hput_go ((atP t).at' pa pl pc) b h hbase hx hxl hE
  simp only [hP, if_true] at this
  exact this
theorem raw_cell {w : World} {g n k : Nat} (h : Raw w g n) (hk : k < n) : (∃ q : Int, w.cell? ⟨g, k, none⟩ = some (.int .u8 q)) ∧ w.frozen? ⟨g, k, none⟩ = false ∧ g < w.heap.size := by
  obtain ⟨cur, h1, h2⟩ := h
  obtain ⟨q, h3⟩ := h2 k hk
  exact ⟨⟨q, (cell_in h1 k h3).1⟩, (cell_in h1 k h3).2, (Array.getElem?_eq_some_iff.1 h1).1⟩
theorem row_forms {w : World} {base pl pc : Nat} {pa : Option Addr} {b : List Int} (h : BRow w base (.slice pa pl pc) b) : (pa = none ∧ pl = 0) ∨ ∃ g, pa = some ⟨g, 0, none⟩ ∧ Raw w g pl ∧ base ≤ g ∧ g < w.heap.size := by
  have h0 := h
  rcases h.2 with ⟨h1, h2⟩ | ⟨g, cap, cur, hv, hb, hg, _⟩
  · simp only [Value.slice.injEq] at h1
    exact .inl ⟨h1.1, h1.2.1⟩
  · simp only [Value.slice.injEq] at hv
    obtain ⟨rfl, -, -⟩ := hv
    obtain ⟨q1, q2, -, -⟩ := raw_of h0
    exact .inr ⟨g, rfl, q1, q2, (Array.getElem?_eq_some_iff.1 hg).1⟩
theorem histOwn_walk {ba : Option Addr} {bl bc : Nat} {b : List Int} (t : Int) (ht : 0 ≤ t ∧ t ≤ 4294967295) {w : World} (hb : BHas w ba bl bc b) (ha : ba = none → bc = 0) : Calls Try.prog 12 #[.slice ba bl bc, .int .u32 t] w (RetV w (.bool true)) := by
  have HA := Lib.hid (fun W => hat_any t W)
  have HN := Lib.hid (fun W => hnew_any 3 5 W)
  have HW := Lib.hid (fun W => histWorks_any W)
  obtain ⟨tw1, tw2, hck⟩ := own_facts ht
  have HCK := Lib.hid hck
  obtain ⟨m, em⟩ : ∃ m, min bl 80 = m := ⟨_, rfl⟩
  have hm80 : m ≤ 80 := by omega
  have hmb : m ≤ bl := by omega
  have hbc : bl ≤ bc ∨ bl = 0 := by
    rcases hb.2 with h | ⟨g, o, h1, h2, _⟩
    · exact .inr h
    · exact .inl h2
  have hmc : m ≤ bc := by omega
  have hmin := own_min bl
  rw [em] at hmin
  have hmin2 : (if (80 : Int) < (bl : Int) then (80 : Int) else (bl : Int)) = (m : Int) := by
    rw [← em]; split <;> omega
  have hbt : ∀ W', Grows w W' → BHas W' ba m bc (b.take m) := fun W' hg => by
    obtain ⟨h1, h2⟩ := hb.grows hg
    refine ⟨by rw [List.length_take, h1]; omega, ?_⟩
    rcases h2 with h2 | ⟨g, o, q1, q2, q3, q4⟩
    · exact .inl (by omega)
    · refine .inr ⟨g, o, q1, by omega, q3, fun i hi => ?_⟩
      rw [List.getElem_take]
      exact q4 i (by rw [List.length_take] at hi; omega)
  obtain ⟨bm, ebm⟩ : ∃ bm, b.take m = bm := ⟨_, rfl⟩
  rw [ebm] at hbt
  have hbl : bm.length ≤ 80 := by rw [← ebm, List.length_take]; omega
  have HBT := Lib.hid hbt
  have HA0 := Lib.hid ha
  have HBL := Lib.hid hbl
  have hm0 : (0 : Int) ≤ (m : Int) := Int.natCast_nonneg _
  have hmc2 : (m : Int) ≤ (bc : Int) := Int.ofNat_le.2 hmc
  have HT := Lib.hid ht
  have TW := Lib.hid tw2
  clear hb ha ebm hbl hbc hck em
  go_enter Try.func12, Try.ntmps12
  go_wp2_with fail
  refine (HA.out _).mono ?_
  rintro e w1 ⟨rfl, hg1⟩
  obtain ⟨p, ep⟩ : ∃ p, w1.heap.size = p := ⟨_, rfl⟩
  obtain ⟨W2, eW2⟩ : ∃ W2, (w1.alloc (.cells (atP t).cells TPK)).alloc (.cells #[] 5) = W2 := ⟨_, rfl⟩
  have h2 := two_new w1 (.cells (atP t).cells TPK) (.cells #[] 5)
  have g1b : Grows w1 (w1.alloc (.cells (atP t).cells TPK)) := bl_alloc (Below.refl _ _) _
  have gb2 : Grows (w1.alloc (.cells (atP t).cells TPK)) W2 := by rw [← eW2]; exact bl_alloc (Below.refl _ _) _
  have ho2 : BRow W2 (p + 1) (.slice (some ⟨p + 1, 0, none⟩) 0 0) [] := by
    have : BRow ((w1.alloc (.cells (atP t).cells TPK)).alloc (.cells #[] 5)) (w1.alloc (.cells (atP t).cells TPK)).heap.size (.slice (some ⟨(w1.alloc (.cells (atP t).cells TPK)).heap.size, 0, none⟩) 0 0) [] := World.ownsRow_lit _ #[] 0 (Nat.le_refl _) (by decide) rfl
    rw [eW2, World.size_alloc, ep] at this
    exact this
  rw [eW2, ep] at h2
  have hgw2 := grows_trans _ _ _ hg1 (grows_trans _ _ _ g1b gb2)
  obtain ⟨v3, W3, r3, o3, b3⟩ := bapp_run ho2 (HBT.out W2 hgw2) HA0.out (by simp only [List.length_nil]; have := HBL.out; omega) (by rw [← ep]; have := gb2.size; rw [World.size_alloc] at this; exact this)
  rw [List.nil_append] at o3
  have gb3 := grows_of_grownBy gb2 b3 (fun j hj => (ho2.lt j hj).1 |> fun h => by rw [World.size_alloc, ep]; exact h)
  obtain ⟨pa, pl, pc, rfl, -⟩ := brow_form o3
  have hbx3 : W3.heap[p]? = some (.cells (atP t).cells TPK (0, 0)) := by
    have := box_grows (heap_alloc_new w1 (.cells (atP t).cells TPK)) gb3
    rwa [ep] at this
  have c11 := (cell_in hbx3 11 rfl).1
  have f11 := (cell_in hbx3 11 rfl).2
  have z11 := box_lt hbx3
  obtain ⟨W4, e4⟩ : ∃ W4, W3.setCell ⟨p, 11, none⟩ (.slice pa pl pc) = W4 := ⟨_, rfl⟩
  have hc4 : Chg (fun j => j = p) W3 W4 := by rw [← e4]; exact Chg.setCell (Chg.refl _ _) _ (.inr rfl)
  obtain ⟨y, ey⟩ : ∃ y, (atP t).at' pa pl pc = y := ⟨_, rfl⟩
  have hbx4 : W4.heap[p]? = some (.cells y.cells TPK (0, 0)) := by rw [← e4, ← ey]; exact box_setj (j := 11) hbx3
  have o4 : BRow W4 (p + 1) (.slice pa pl pc) bm := hc4.own o3 fun j hj hs => by have := (o3.lt j hj).1; omega
  have hg4 : Grows w W4 := grows_of_chg (grows_trans _ _ _ hg1 (grows_trans _ _ _ g1b gb3)) hc4 (fun j hj => by rw [hj, ← ep]; exact hg1.size)
  have X4 := Lib.hid (And.intro hbx4 (And.intro o4 hg4))
  have hcv := conv_bytes (brow_bhas o4).1
  obtain ⟨s, es⟩ : ∃ s, strOfNums bm = s := ⟨_, rfl⟩
  rw [es] at hcv
  have ES := Lib.hid es
  have EY := Lib.hid ey
  have PW' := Lib.hid (show w.heap.size ≤ p by rw [← ep]; exact hg1.size)
  have d11 : W4.cell? ⟨p, 11, none⟩ = some (.slice pa pl pc) := by
    rw [(cell_in hbx4 11 rfl).1, ← ey]; rfl
  have z12 := box_lt hbx4
  have hyb : y.body = .slice pa pl pc := by rw [← ey]
  clear hg1 h2 g1b gb2 ho2 hgw2 o3 b3 gb3 hbx3 hc4 hbx4 o4 hg4 es
  simp only [PW.val, PW.cells, PW.body]
  have mixed : Try.prog.follows .mixedOrders = true := by kernel_rfl
  have hk1 : (if (80 : Int) < (bl : Int) then (80 : Int) else (bl : Int)) = (m : Int) := hmin2
  have hk2 : ((m : Int) ≤ (bc : Int)) = True := eq_true hmc2
  clear hm80 hmc2 hmin hmin2 hmb
  go_wp2_with (at_builtin; refine wpList_append_run _ rfl _ _ 74 74 rfl _ _ rfl rfl (r3 _) ?_)
  refine (HN.out _).mono ?_
  rintro e W5 ⟨hb, wb, rfl, hg5, hat5⟩
  obtain ⟨B, eB⟩ : ∃ B, W4.heap.size = B := ⟨_, rfl⟩
  rw [eB] at hat5
  rw [show mostOfP 3 = 3 from rfl, show clampD 5 = 5 from rfl] at hat5
  subst ey
  obtain ⟨hbx4, o4, hg4⟩ := X4.out
  have hpB : p < B := by rw [← eB]; exact box_lt hbx4
  have hBW : B ≤ W5.heap.size := by rw [← eB]; exact hg5.size
  have hbx5 := box_grows hbx4 hg5
  have o5 : BRow W5 (p + 1) (.slice pa pl pc) bm := own_grows o4 hg5
  have hform : (pa = none ∧ pl = 0) ∨ ∃ g, pa = some ⟨g, 0, none⟩ ∧ p + 1 ≤ g ∧ g < B := by
    rcases row_forms o4 with h | ⟨g, q1, -, q3, q4⟩
    · exact .inl h
    · exact .inr ⟨g, q1, q3, by rw [← eB]; exact q4⟩
  have HFORM := Lib.hid hform
  have hplm : bm.length = pl := (brow_bhas o5).1.1
  have hpl80 : pl ≤ 80 := by rw [← hplm]; exact HBL.out
  have HPL := Lib.hid hpl80
  have hwB : w.heap.size ≤ B := by rw [← eB]; exact hg4.size
  have HWB := Lib.hid hwB
  have X5 := Lib.hid (And.intro hat5 (And.intro hbx5 (And.intro o5 (grows_trans _ _ _ hg4 hg5))))
  have HP := Lib.hid (own_put hat5 hBW (brow_bhas o5).1 (by omega) HCK.out)
  obtain ⟨x0, x1, x2, x3, x4, x5, x6, x7, x8, x9, x10, x11, x12⟩ := pat_of hbx5
  have HPB := Lib.hid hpB
  clear hat5 hbx4 hg4 o4 hbx5 o5 hform hplm hpl80 hwB hg5 hBW hpB e4 hcv c11 f11 z11 d11 z12 hyb hk1 hk2
  simp only [PW.val, PW.cells, PW.body] at HP
  have x11 : W5.cell? ⟨p, 11, none⟩ = some (.slice pa pl pc) := x11
  go_wp2_with fail
  refine (HP.out).mono ?_
  rintro e W6 ⟨ca, cl, cc, ht⟩
  have hg6 := HistTo.behind X5.out.1 HWB.out X5.out.2.2.2 ht
  obtain ⟨rfl, kv6, h6, hc6, -⟩ := ht
  have hnS : ∀ j, j < B → ¬ HistS hb (B + 1) (.slice none 0 0) B wb j := by
    intro j hj hs
    have hA := X5.out.1
    rcases hs with hs | hs | hs | hs | hs
    · have := hA.bh; omega
    · have := hA.bw; omega
    · omega
    · omega
    · cases hs
  have hbx6 := box_chg X5.out.2.1 hc6 (hnS _ HPB.out)
  have o6 : BRow W6 (p + 1) (.slice pa pl pc) bm := HistAt.bytes X5.out.1 X5.out.2.2.1 hc6
  have hraw6 : ∀ g, pa = some ⟨g, 0, none⟩ → Raw W6 g pl := fun g hg => by
    rcases row_forms o6 with h | ⟨g', q1, q2, -, -⟩
    · rw [h.1] at hg; cases hg
    · rw [q1] at hg
      cases hg
      exact q2
  have X6 := Lib.hid (And.intro h6 (And.intro hbx6 (And.intro hraw6 hg6)))
  have hpB := HPB.out
  have y11 : W6.cell? ⟨p, 11, none⟩ = some (.slice pa pl pc) := (cell_in hbx6 11 rfl).1
  have yz := box_lt hbx6
  clear h6 hbx6 hraw6 hg6 hc6 hnS o6 x0 x1 x2 x3 x4 x5 x6 x7 x8 x9 x10 x11 x12 HP hpB
  go_wp2_with fail
  go_loopw [8, 33] (fun _ vi wr => ∃ (k : Nat), vi = .int .i64 (k : Int) ∧ k ≤ pl ∧ (∀ g, pa = some ⟨g, 0, none⟩ → Raw wr g pl) ∧ Chg (fun j => pa = some ⟨j, 0, none⟩) W6 wr) (fun _ vi _ => pl - (intOf vi).toNat)
  case atStart => exact ⟨0, rfl, Nat.zero_le _, X6.out.2.2.1, Chg.refl _ _⟩
  case round =>
    obtain ⟨k, rfl, hk, hraw, hch⟩ := hrel
    have hbxr := box_chg X6.out.2.1 hch (fun e => by
      rcases HFORM.out with h | ⟨g, q1, q2, -⟩
      · rw [h.1] at e; cases e
      · rw [q1] at e; cases e; omega)
    have r11 : wr.cell? ⟨p, 11, none⟩ = some (.slice pa pl pc) := (cell_in hbxr 11 rfl).1
    have rz := box_lt hbxr
    clear y11 yz
    have HRAW := Lib.hid hraw
    have HCH := Lib.hid hch
    have HBX := Lib.hid hbxr
    clear hraw hch hbxr
    by_cases hlt : k < pl
    · have hk6 : k ≤ 1000000 := Nat.le_trans (Nat.le_of_lt hlt) (Nat.le_trans HPL.out (by decide))
      have HNF := Lib.hid (nat_facts k hk6)
      have HWS := Lib.hid (wrap_succ hk6)
      have HKK := Lib.hid hlt
      obtain ⟨g, rfl, hg1, hg2⟩ : ∃ g, pa = some ⟨g, 0, none⟩ ∧ p + 1 ≤ g ∧ g < B := by
        rcases HFORM.out with h | h
        · exact absurd hlt (by rw [h.2]; exact Nat.not_lt_zero _)
        · exact h
      obtain ⟨⟨q, hq⟩, hfz, hgz⟩ := raw_cell (HRAW.out g rfl) hlt
      have hkn : (k : Int) < (pl : Int) := Int.ofNat_lt.2 hlt
      clear hk6 hk hg1 hg2
      obtain ⟨j1, j2, j3, j4, j6⟩ := HNF.out
      go_wp2_with fail
      go_roundw
      case rel => exact ⟨k + 1, by rw [HWS.out]; rfl, HKK.out, fun g' hg' => by cases hg'; exact (HRAW.out g rfl).set _, Chg.setCell HCH.out _ (.inr rfl)⟩
      case measure => rw [HWS.out]; exact meas_succ HKK.out
    · obtain rfl : k = pl := Nat.le_antisymm hk (Nat.le_of_not_lt hlt)
      clear hk hlt
      have hcB : Chg (fun j => j < B) W6 wr := HCH.out.mono fun j _ e => by
        rcases HFORM.out with h | ⟨g, q1, -, q3⟩
        · rw [h.1] at e; cases e
        · rw [q1] at e; cases e; exact q3
      have hatr := HistAt.low X6.out.1 hcB
      have hgr : Grows w wr := grows_of_chg X6.out.2.2.2 HCH.out (fun j e => by
        rcases HFORM.out with h | ⟨g, q1, q2, -⟩
        · rw [h.1] at e; cases e
        · rw [q1] at e
          cases e
          have := PW'.out
          omega)
      have XR := Lib.hid (And.intro hatr hgr)
      have HQ := Lib.hid (hpop_yes (t + 5) hatr (show ¬ t + 5 < wrap64 (t + 5) by rw [TW.out]; omega))
      simp only [PW.cells, PW.body, PW.val] at HQ
      clear hcB hatr hgr
      go_wp2_with fail
      refine (HQ.out).mono ?_
      intro e w7 ht
      have hg7 := HistTo.behind XR.out.1 HWB.out XR.out.2 ht
      obtain ⟨rfl, kv7, h7, hc7, -⟩ := ht
      have o7 := HistAt.bytes XR.out.1 (XR.out.1.bod _ (List.mem_cons_self ..)) hc7
      obtain ⟨q, eq⟩ : ∃ q, w7.heap.size = q := ⟨_, rfl⟩
      obtain ⟨W8, eW8⟩ : ∃ W8, w7.alloc (.cells ((atP t).at' ca cl cc).cells TPK) = W8 := ⟨_, rfl⟩
      have g78 : Grows w7 W8 := by rw [← eW8]; exact bl_alloc (Below.refl _ _) _
      have hbx8 : W8.heap[q]? = some (.cells ((atP t).at' ca cl cc).cells TPK (0, 0)) := by
        rw [← eW8, ← eq]; exact heap_alloc_new w7 _
      have v11 : W8.cell? ⟨q, 11, none⟩ = some (.slice ca cl cc) := (cell_in hbx8 11 rfl).1
      have vz := box_lt hbx8
      have o8 : BRow W8 B (.slice ca cl cc) bm := own_grows o7 g78
      have hcv8 := conv_bytes (brow_bhas o8).1
      rw [ES.out] at hcv8
      have HG8 := Lib.hid (grows_trans _ _ _ hg7 g78)
      clear hg7 g78 hbx8 o8 o7 h7 hc7 HQ r11 rz
      simp only [PW.cells, PW.body] at eW8
      go_wp2_with fail
      refine (HW.out _).mono ?_
      rintro e w9 ⟨rfl, hg9⟩
      have HG9 := Lib.hid (grows_trans _ _ _ HG8.out hg9)
      clear hg9
      go_wp2_with fail
      go_ret
      exact ⟨rfl, HG9.out⟩
end Go.Proofs.Ytdmmceclohkkdaa
