/- A history's Put: the walk. -/
import Derived.Test.YtdmmceclohkkdaaHistC
namespace Go.Proofs.Ytdmmceclohkkdaa
open Go.RowKit Go.Sort
set_option maxHeartbeats 4000000
set_option maxRecDepth 100000
section
variable {w : World} {base hb tb mb wb most : Nat} {kv : Value} {dl : Int} {last : KW} {sm : Bool} {l : List HW} {g : Int × Int → Int}
theorem hput_go (x : PW) (b : List Int) (h : HistAt w base hb tb kv mb wb most dl last sm l g) (hbase : base ≤ w.heap.size) (hx : BHas w x.ba x.bl x.bc b) (hxl : x.bl ≤ 1000000) (hE : checkE x.kd x.k dl last sm = 0) :
    Calls Try.prog 43 #[.pointer (some ⟨hb, 0, none⟩), x.val] w (fun e w' => ∃ ba bl bc, HistTo w base hb tb kv mb wb most dl last sm (if putE (l.map hv) most x.k = 0 then insH l (x.at' ba bl bc, b) else l) (if putE (l.map hv) most x.k = 0 then bumpM g (x.k.f, x.kd) 1 else g) (.int .i64 (putE (l.map hv) most x.k)) e w') := by
  have hgb : Grows w (w.alloc (.cells x.cells TPK)) := bl_alloc (Below.refl _ _) _
  have hbx := heap_alloc_new w (.cells x.cells TPK)
  obtain ⟨W, eW⟩ : ∃ W, w.alloc (.cells x.cells TPK) = W := ⟨_, rfl⟩
  rw [eW] at hgb hbx
  have hc0 := hcheck_any x (h.grows hgb)
  rw [hE] at hc0
  have HC := Lib.hid hc0
  have hlc : x.bl ≤ x.bc ∨ x.bl = 0 := by
    rcases hx.2 with h1 | ⟨g, o, h1, h2, _⟩
    · exact .inr h1
    · exact .inl h2
  have hlc : x.bl ≤ x.bc := by omega
  have hx1 : ∀ W', Grows w W' → BHas W' x.ba x.bl x.bl b := fun W' hg => by
    obtain ⟨h1, h2⟩ := hx.grows hg
    refine ⟨h1, ?_⟩
    rcases h2 with h2 | ⟨g, o, q1, q2, q3, q4⟩
    · exact .inl h2
    · exact .inr ⟨g, o, q1, Nat.le_refl _, q3, q4⟩
  have HCL := Lib.hid (fun W' (hg : Grows w W') => bclone_any x.ba x.bl x.bl b W' (hx1 W' hg) hxl)
  have HG := Lib.hid hgb
  have HH := Lib.hid h
  have HBX := Lib.hid hbx
  have HBS := Lib.hid hbase
  have hlw : wrap64 (x.bl : Int) = (x.bl : Int) := (nat_facts x.bl hxl).2.2.2.1
  have hl0 : (0 : Int) ≤ (x.bl : Int) := Int.natCast_nonneg _
  have hlc2 : (x.bl : Int) ≤ (x.bc : Int) := Int.ofNat_le.2 hlc
  obtain ⟨x0, x1, x2, x3, x4, x5, x6, x7, x8, x9, x10, x11, x12⟩ := pat_of hbx
  simp only [PW.cells, PW.body] at eW
  clear h hbase hx hE hgb hbx hc0 hx1
  obtain ⟨r, er⟩ : ∃ r, putE (l.map hv) most x.k = r := ⟨_, rfl⟩
  rw [er]
  have ER := Lib.hid er
  clear er
  go_enter Try.func43, Try.ntmps43
  go_wp2_with fail
  refine (HC.out).mono ?_
  rintro e w1 ⟨rfl, hg1⟩
  have HG1 := Lib.hid hg1
  have hb1 := box_grows HBX.out hg1
  clear x0 x1 x2 x3 x4 x5 x6 x7 x8 x9 x10 x11 x12 hg1
  obtain ⟨x0, x1, x2, x3, x4, x5, x6, x7, x8, x9, x10, x11, x12⟩ := pat_of hb1
  clear hb1
  go_wp2_with fail
  refine (HCL.out _ (grows_trans _ _ _ HG.out HG1.out)).mono ?_
  rintro e w2 ⟨v2, rfl, hg2, hr2⟩
  obtain ⟨ba, bl, bc, rfl, -⟩ := brow_form hr2
  obtain ⟨W3, e3⟩ : ∃ W3, w2.setCell ⟨w.heap.size, 11, none⟩ (.slice ba bl bc) = W3 := ⟨_, rfl⟩
  have hm3 := put_mid HH.out HBS.out (grows_trans _ _ _ HG.out HG1.out) (box_grows HBX.out HG1.out) hg2 hr2
  rw [e3] at hm3
  have hb2 := box_grows (box_grows HBX.out HG1.out) hg2
  have f11 := (cell_in hb2 11 rfl).2
  have c11 := (cell_in hb2 11 rfl).1
  have z11 := box_lt hb2
  obtain ⟨y, ey⟩ : ∃ y, x.at' ba bl bc = y := ⟨_, rfl⟩
  have hyk : y.k = x.k ∧ y.kd = x.kd := by rw [← ey]; exact ⟨rfl, rfl⟩
  rw [ey] at hm3
  have HM3 := Lib.hid hm3
  have EY := Lib.hid ey
  have HYK := Lib.hid hyk
  obtain ⟨c0, -⟩ := cell_in hm3.his.ob 0 rfl
  have z1 := hm3.his.lt
  clear x0 x1 x2 x3 x4 x5 x6 x7 x8 x9 x10 x11 x12 hg2 hr2 hb2 hlw hl0 hlc2
  obtain ⟨x0, x1, x2, x3, x4, x5, x6, x7, x8, x9, x10, x11, x12⟩ := pat_of hm3.box
  clear hm3 ey hyk
  go_wp2_with fail
  refine wp_region_tail_reg 7 (by kernel_rfl) (by kernel_rfl) (by kernel_rfl) (by kernel_rfl) ?_
  simp only [List.take_succ_cons, List.take_zero, List.drop_succ_cons, List.drop_zero]
  repeat (first | go_big_quiet_step ((fail)) | quiet_step ((fail)))
  refine wpQuiet_nil ?_
  intro _ hcw1
  obtain ⟨pq, hcw2⟩ := hcw1
  subst hcw2
  have HM4 := Lib.hid (HM3.out.next (below_reg W3 pq))
  go_wp2_with fail
  have hput := tputP y.k y HM4.out.his.tab (hv_rows l) (Nat.le_trans HBS.out HM4.out.grows.size)
  have er : putE (l.map hv) most y.k = r := by rw [HYK.out.1]; exact ER.out
  rw [er] at hput
  obtain ⟨l', el'⟩ : ∃ l', (if r = 0 then insH l (y, b) else l) = l' := ⟨_, rfl⟩
  have hrows : (if r = 0 then insT (l.map hv) y.k y.val else l.map hv) = l'.map hv := by
    rw [← el']
    split
    · rw [insH_hv]
    · rfl
  rw [hrows] at hput
  have HPUT := Lib.hid hput
  have EL := Lib.hid el'
  clear hput hrows er el' x0 x1 x2 x3 x4 x5 x6 x7 x8 x9 x10 x11 x12 c0 z1 c11 f11 z11 e3
  refine (HPUT.out).mono ?_
  intro e w4 hto
  obtain ⟨rfl, kv4, h4, b4, hc4, hf4⟩ := HM4.out.rows hto (by
    intro u hu
    rw [← EL.out] at hu
    split at hu
    · rcases insH_mem hu with rfl | hu
      · exact HM4.out.row
      · exact HM4.out.his.bod u hu
    · exact HM4.out.his.bod u hu)
  by_cases hr : r = 0
  · subst hr
    have X4 := Lib.hid (And.intro h4 (And.intro hc4 hf4))
    obtain ⟨x0, x1, x2, x3, x4, x5, x6, x7, x8, x9, x10, x11, x12⟩ := pat_of b4
    obtain ⟨c1, -⟩ := cell_in h4.ob 1 rfl
    have z1 := h4.lt
    have HC1 := Lib.hid (fun W' (hg : Grows w4 W') => And.intro (cell_in (box_grows h4.ob hg) 1 rfl).1 (And.intro (box_lt (box_grows h4.ob hg)) (h4.grows hg)))
    clear h4 b4 hc4 hf4 hto
    go_wp2_with fail
    have mixed : Try.prog.follows .mixedOrders = true := by kernel_rfl
    go_region_law (first
      | (refine step_call (by rfl) 79 #[.tmp 41] #[TPK] (by rfl) #[y.val] (by simp [Act.eval]) Try.f79 Try.func79 (by kernel_rfl) (by kernel_rfl) (hof_any y w4.drew) ?_
         rintro e w5 ⟨rfl, hg5⟩
         have hg45 := grows_trans _ _ _ (bl_drew (Below.refl _ _) : Grows w4 w4.drew) hg5
         obtain ⟨o1, st, o2, he, hl1, hl2, hs2, hs3, c2, z2, c1, z1, h6, hc6⟩ := (HC1.out w5 hg45).2.2.count y.k.f y.kd 1
         have R := Lib.hid (And.intro hg45 (And.intro h6 hc6))
         refine ⟨_, rfl, ?_⟩
         clear hg5 hg45 h6 hc6)
      | fail)
    all_goals (
      go_wp2_with fail
      go_ret
      have e1 := EL.out
      first | rw [if_pos trivial] at e1 | rw [if_pos rfl] at e1
      obtain ⟨hg45, h6, hc6⟩ := R.out
      rw [← e1, HYK.out.1, HYK.out.2, ← EY.out] at h6
      refine ⟨ba, bl, bc, rfl, kv4, h6, (X4.out.2.1.trans (Chg.ofGrows hg45)).trans (hc6.mono fun j _ hj => .inr (.inl hj)), X4.out.2.2⟩)
  · have hr2 : (r == 0) = false := beq_false_of_ne hr
    have hr3 : (r != 0) = true := bne_iff_ne.2 hr
    have X4 := Lib.hid (And.intro h4 (And.intro hc4 hf4))
    clear h4 b4 hc4 hf4 hto
    go_wp2_with fail
    go_ret
    have := EL.out
    rw [if_neg hr] at this
    subst this
    first
      | exact ⟨rfl, kv4, X4.out.1, X4.out.2.1, X4.out.2.2⟩
      | exact ⟨ba, bl, bc, rfl, kv4, X4.out.1, X4.out.2.1, X4.out.2.2⟩
end
end Go.Proofs.Ytdmmceclohkkdaa
