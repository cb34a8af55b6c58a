/- A turn whose errors are within bounds. -/
import Derived.Test.YthdcmchjlpkkaaaDoorMndJ
import Derived.Test.YthdcmchjlpkkaaaDoorMndO
import Derived.Test.YthdcmchjlpkkaaaDoorMndQ
import Derived.Test.YthdcmchjlpkkaaaDoorStoreB
namespace Go.Proofs.YthdcmchjlpkkaaaDoor.Tr
open Go.RowKit Go.Sort
set_option maxHeartbeats 4000000
set_option maxRecDepth 100000
theorem Tryd.infoSl : (Tryd.prog.info? 27).map (fun i => (i.zero, i.size, i.bytes)) = some (some (.slice none 0 0), 1, 24) := by kernel_rfl
theorem kindSl : RowKind sv 1 31 27 (.slice none 0 0) 24 :=
  ⟨fun _ => rfl, fun a u hu => by simp at hu; subst hu; rfl, Tryd.underlying31, Tryd.infoSl, rfl, by decide, by decide⟩
def Wi (e : Int) (l : List Int) : Prop := ∀ y ∈ l, -e ≤ y ∧ y ≤ e
theorem wi_snoc {e y : Int} {l : List Int} (h : Wi e l) (hy : -e ≤ y ∧ y ≤ e) : Wi e (l ++ [y]) := fun z hz => by
  rw [List.mem_append, List.mem_singleton] at hz
  rcases hz with hz | rfl
  · exact h z hz
  · exact hy
theorem rem_within {x e : Int} (hx : R32 x) (he : 0 ≤ e ∧ e ≤ 65535) : ∃ y : Int, Int.tmod x (e + 1) = y ∧ (-e ≤ y ∧ y ≤ e) ∧ IntKind.i64.wrap y = y ∧ wrap64 y = y ∧ IntKind.i64.wrap x = x ∧ wrap64 x = x ∧ IntKind.i64.wrap e = e ∧ wrap64 e = e ∧ IntKind.i64.wrap (e + 1) = e + 1 ∧ wrap64 (e + 1) = e + 1 ∧ ((e + 1) == 0) = false ∧ (e + 1 = 0) = False := by
  unfold R32 at hx
  have h1 : -e ≤ Int.tmod x (e + 1) ∧ Int.tmod x (e + 1) ≤ e := by
    rcases Int.le_total 0 x with h | h
    · rw [Int.tmod_eq_emod_of_nonneg h]
      have := Int.emod_nonneg x (show e + 1 ≠ 0 by omega)
      have := Int.emod_lt_of_pos x (show 0 < e + 1 by omega)
      omega
    · have h2 : Int.tmod x (e + 1) = -(Int.tmod (-x) (e + 1)) := by rw [Int.neg_tmod, Int.neg_neg]
      rw [h2, Int.tmod_eq_emod_of_nonneg (show 0 ≤ -x by omega)]
      have := Int.emod_nonneg (-x) (show e + 1 ≠ 0 by omega)
      have := Int.emod_lt_of_pos (-x) (show 0 < e + 1 by omega)
      omega
  refine ⟨_, rfl, h1, IntWalk.i64_in _ (by omega), IntWalk.wrap64_in _ (by omega), IntWalk.i64_in _ (by omega), IntWalk.wrap64_in _ (by omega), IntWalk.i64_in _ (by omega), IntWalk.wrap64_in _ (by omega), IntWalk.i64_in _ (by omega), IntWalk.wrap64_in _ (by omega), by simp; omega, by simp; omega⟩
theorem three_box (w : World) (A B C : Obj) : (((w.alloc A).alloc B).alloc C).heap[w.heap.size]? = some A ∧ (((w.alloc A).alloc B).alloc C).heap[w.heap.size + 1]? = some B ∧ (((w.alloc A).alloc B).alloc C).heap[w.heap.size + 1 + 1]? = some C := by
  have h2 := two_new w A B
  have hg : Grows ((w.alloc A).alloc B) (((w.alloc A).alloc B).alloc C) := bl_alloc (Below.refl _ _) _
  have h3 := heap_alloc_new ((w.alloc A).alloc B) C
  rw [show ((w.alloc A).alloc B).heap.size = w.heap.size + 1 + 1 by simp] at h3
  exact ⟨box_grows h2.1 hg, box_grows h2.2 hg, h3⟩
/-- What holds between two rows. -/
structure T1 (w wr : World) (c : Nat) (set : Nat) (x : WR) (i : Nat) : Prop where
  gr : Grows w wr
  hc : w.heap.size = c
  hb0 : wr.heap[c]? = some (.cells x.cells 26 (0, 0))
  hb1 : wr.heap[c + 1]? = some (.cells #[.int .u64 0, .slice none 0 0, .slice none 0 0] TTN (0, 0))
  all : ∃ (vE : Value) (E : List SL), wr.heap[c + 1 + 1]? = some (.cells #[.int .u64 (set : Int), vE, .slice none 0 0] TTN (0, 0)) ∧ GOwn sv 1 27 wr (c + 1 + 1 + 1) vE E ∧ E.length ≤ i ∧ ∀ r ∈ E, GOwn ic 1 2 wr (c + 1 + 1 + 1) r.val r.l ∧ Wi x.e r.l
theorem T1.grows {w wr w' : World} {c set : Nat} {x : WR} {i : Nat} (h : T1 w wr c set x i) (hg : Grows wr w') : T1 w w' c set x i := by
  obtain ⟨vE, E, h1, h2, h3, h4⟩ := h.all
  exact ⟨grows_trans _ _ _ h.gr hg, h.hc, box_grows h.hb0 hg, box_grows h.hb1 hg, vE, E, box_grows h1 hg, own_grows h2 hg, h3, fun r hr => ⟨own_grows (h4 r hr).1 hg, (h4 r hr).2⟩⟩
theorem T1.add {w wr : World} {c set : Nat} {x : WR} {i : Nat} {la : Option Addr} {ln lc : Nat} {ll : List Int} (h : T1 w wr c set x i) (ho : GOwn ic 1 2 wr (c + 1 + 1 + 1) (.slice la ln lc) ll) (hwi : Wi x.e ll) (hi : i ≤ 1000) :
    ∃ (vE : Value) (a6 : Option Addr) (n6 c6 : Nat) (W6 : World), wr.heap[c + 1 + 1]? = some (.cells #[.int .u64 (set : Int), vE, .slice none 0 0] TTN (0, 0)) ∧
      (∀ ty, (Builtin.append_ #[31, 31] ty #[vE, .slice (some ⟨wr.heap.size, 0, none⟩) 1 1]).run Tryd.prog (wr.alloc (.cells #[.slice la ln lc] 27)) = .ok (.slice a6 n6 c6) W6) ∧
      W6.heap[c + 1 + 1]? = some (.cells #[.int .u64 (set : Int), vE, .slice none 0 0] TTN (0, 0)) ∧ T1 w (W6.setCell ⟨c + 1 + 1, 1, none⟩ (.slice a6 n6 c6)) c set x (i + 1) := by
  obtain ⟨vE, E, h1, h2, h3, h4⟩ := h.all
  have hsz := box_lt h1
  obtain ⟨v6, W6, hr6, ho6, hg6⟩ := gapp_one kindSl ⟨la, ln, lc, ll⟩ h2 (by omega) hsz
  obtain ⟨a6, c6, rfl⟩ := GOwn.len kindSl.len ho6 rfl
  have hc6 : Chg (fun j => vE.ownBlock = some j) wr W6 := Chg.ofRow hg6
  have hb := box_grows_own h1 hg6 h2 (by decide)
  have hc7 : Chg (fun j => j = c + 1 + 1) W6 (W6.setCell ⟨c + 1 + 1, 1, none⟩ (.slice a6 (E ++ [(⟨la, ln, lc, ll⟩ : SL)]).length c6)) := Chg.setCell (S := fun j => j = c + 1 + 1) (Chg.refl _ _) _ (.inr rfl)
  have hne : ∀ (r : SL), GOwn ic 1 2 wr (c + 1 + 1 + 1) r.val r.l → GOwn ic 1 2 (W6.setCell ⟨c + 1 + 1, 1, none⟩ (.slice a6 (E ++ [(⟨la, ln, lc, ll⟩ : SL)]).length c6)) (c + 1 + 1 + 1) r.val r.l := fun r hr => by
    have e6 := hc6.own hr (fun j hj hs => by
      obtain ⟨d1, e1⟩ := gown_ty hr hj
      obtain ⟨d2, e2⟩ := gown_ty h2 hs
      rw [e1] at e2
      injection e2 with e2
      injection e2 with _ e2
      exact absurd e2 (by decide))
    exact hc7.own e6 (fun j hj e => by have := (hr.lt j hj).1; omega)
  refine ⟨vE, a6, _, c6, W6, h1, hr6, hb, grows_chg (grows_of_grownBy h.gr hg6 (fun j hj => by have := (h2.lt j hj).1; have := h.hc; omega)) hc7 (fun j hj => by have := h.hc; omega), h.hc, box_chg (box_grows_own h.hb0 hg6 h2 (by decide)) hc7 (fun (e : c = c + 1 + 1) => by omega), box_chg (box_grows_own h.hb1 hg6 h2 (by decide)) hc7 (fun (e : c + 1 = c + 1 + 1) => by omega), _, E ++ [⟨la, ln, lc, ll⟩], box_setj (j := 1) hb, hc7.own ho6 (fun j hj e => by have := (ho6.lt j hj).1; omega), by rw [List.length_append]; exact Nat.succ_le_succ h3, fun r hr => ?_⟩
  rw [List.mem_append, List.mem_singleton] at hr
  rcases hr with hr | rfl
  · exact ⟨hne r (h4 r hr).1, (h4 r hr).2⟩
  · exact ⟨hne _ ho, hwi⟩
theorem turn_any {w : World} (x : WR) (set : Nat) (hx : WROk w x) : Calls Tryd.prog 7 #[.agg x.cells, .int .u64 (set : Int)] w (fun e w' => Grows w w' ∧ ∃ t : TN, e = .returned (.agg t.cells) ∧ t.s = set ∧ EHas w' (.slice t.ea t.en t.ec) t.E ∧ IHas w' (.slice t.da t.dn t.dc) t.D ∧ (∀ l ∈ errsOf t.E, Wi x.e l) ∧ Wi x.dd t.D) := by
  obtain ⟨hxe, hxd, ⟨hE1, hE2⟩, hD1, hD2⟩ := hx
  obtain ⟨c, ec⟩ : ∃ c, w.heap.size = c := ⟨_, rfl⟩
  obtain ⟨nE, enE⟩ : ∃ nE, x.E.length = nE := ⟨_, rfl⟩
  obtain ⟨nD, enD⟩ : ∃ nD, x.D.length = nD := ⟨_, rfl⟩
  obtain ⟨xe, xd, ea, en, eC, da, dn, dc, EE, DD⟩ := x
  simp only at hxe hxd hE1 hE2 hD1 hD2 enE enD
  obtain ⟨a1, c1, he1⟩ := hE1.len enE
  simp only [Value.slice.injEq] at he1
  obtain ⟨rfl, rfl, rfl⟩ := he1
  obtain ⟨a2, c2, he2⟩ := hD1.len enD
  simp only [Value.slice.injEq] at he2
  obtain ⟨rfl, rfl, rfl⟩ := he2
  obtain ⟨x, ex⟩ : ∃ x : WR, (⟨xe, xd, ea, en, eC, da, dn, dc, EE, DD⟩ : WR) = x := ⟨_, rfl⟩
  have hq3 := three_box w (.cells #[.int .u16 xe, .int .u16 xd, .slice ea en eC, .slice da dn dc] 26) (.cells #[.int .u64 0, .slice none 0 0, .slice none 0 0] TTN) (.cells #[.int .u64 (set : Int), .slice none 0 0, .slice none 0 0] TTN)
  obtain ⟨W, eW⟩ : ∃ W, ((w.alloc (.cells #[.int .u16 xe, .int .u16 xd, .slice ea en eC, .slice da dn dc] 26)).alloc (.cells #[.int .u64 0, .slice none 0 0, .slice none 0 0] TTN)).alloc (.cells #[.int .u64 (set : Int), .slice none 0 0, .slice none 0 0] TTN) = W := ⟨_, rfl⟩
  have hg : Grows w W := by rw [← eW]; exact bl_alloc (bl_alloc (bl_alloc (Below.refl _ _) _) _) _
  rw [eW, ec] at hq3
  have T0 := Lib.hid (show T1 w W c set x 0 from ⟨hg, ec, by rw [← ex]; exact hq3.1, hq3.2.1, .slice none 0 0, [], hq3.2.2, World.ownsRow_nil _ _ _ _, Nat.le_refl _, fun r hr => by cases hr⟩)
  have HX := Lib.hid (And.intro hxe (And.intro hxd (And.intro hE1 (And.intro hE2 (And.intro hD1 hD2)))))
  have EW := Lib.hid eW
  have EX := Lib.hid ex
  clear hg hq3 hxe hxd hE1 hE2 hD1 hD2 eW ex
  simp only [WR.cells]
  go_enter Tryd.func7, Tryd.ntmps7
  go_wp2_with fail
  simp only [EW.out]
  go_loopw [6] (fun iv wr => ∃ i : Nat, iv = .int .i64 (i : Int) ∧ i ≤ en ∧ i ≤ 8 ∧ T1 w wr c set x i) (fun iv _ => 8 - (intOf iv).toNat)
  case atStart => exact ⟨0, rfl, Nat.zero_le _, Nat.zero_le _, T0.out⟩
  case round =>
    obtain ⟨i, rfl, hi, hi8, ht⟩ := hrel
    have D0 := Lib.hid ht
    have hb0 := ht.hb0
    rw [← EX.out] at hb0
    have HB0 := Lib.hid hb0
    obtain ⟨k2, -⟩ := cell_in hb0 2 rfl
    have zk := box_lt hb0
    clear ht hb0
    by_cases hlt : i < en ∧ i < 8
    · obtain ⟨hin, h8⟩ := hlt
      have hil : i < EE.length := by rw [enE]; exact hin
      obtain ⟨g, o, cap', he, hml, hgl, hat⟩ := HX.out.2.2.1.form enE (by omega)
      simp only [Value.slice.injEq, true_and] at he
      obtain ⟨rfl, rfl⟩ := he
      obtain ⟨r, er⟩ : ∃ r, EE[i] = r := ⟨_, rfl⟩
      have hr := HX.out.2.2.2.1 r (by rw [← er]; exact List.getElem_mem hil)
      obtain ⟨rn, ern⟩ : ∃ rn, r.l.length = rn := ⟨_, rfl⟩
      obtain ⟨ra, rn', rc, rl⟩ := r
      simp only at hr ern
      obtain ⟨a3, c3, he3⟩ := hr.1.len ern
      simp only [Value.slice.injEq] at he3
      obtain ⟨rfl, rfl, rfl⟩ := he3
      have q0 : wr.cell? ⟨g, o + i, none⟩ = some (.slice ra rn' rc) := by
        have h1 := hat i hil 0 (by decide)
        rw [er] at h1
        have h2 := (D0.out.gr.cell (p := ⟨g, o + i * 1 + 0, none⟩) hgl).trans h1
        simpa using h2
      have gz := Nat.lt_of_lt_of_le hgl D0.out.gr.size
      have HQ := Lib.hid (And.intro hgl (And.intro q0 hr))
      have HI := Lib.hid (And.intro hin h8)
      have hd1 : decide ((i : Int) < (en : Int)) = true := decide_eq_true (by omega)
      have hd2 : decide ((i : Int) < 8) = true := decide_eq_true (by omega)
      have hq1 : (i < en) = True := eq_true hin
      have hq2 : (i < 8) = True := eq_true h8
      have hq3 : (i : Int) < (en : Int) := Int.ofNat_lt.2 hin
      have hq4 : (i : Int) < 8 := by omega
      clear hat er hr hml hgl hil hin h8 hi hi8
      go_wp2_with fail
      obtain ⟨B0, eB0⟩ : ∃ B0, wr.heap.size = B0 := ⟨_, rfl⟩
      have HB := Lib.hid eB0
      go_loopw [7, 8] (fun lv kv wr2 => ∃ (lw : Value) (k : Nat) (ll : List Int), lw = lv ∧ kv = .int .i64 (k : Int) ∧ k ≤ rn' ∧ k ≤ 8 ∧ GOwn ic 1 2 wr2 B0 lv ll ∧ ll.length ≤ k ∧ Wi xe ll ∧ Grows wr wr2) (fun _ kv _ => 8 - (intOf kv).toNat)
      case atStart => exact ⟨_, 0, [], rfl, rfl, Nat.zero_le _, Nat.zero_le _, World.ownsRow_nil _ _ _ _, Nat.le_refl _, (fun y hy => by cases hy), Below.refl _ _⟩
      case round =>
        obtain ⟨lv, k, ll, elv, rfl, hk, hk8, ho, hll, hwi, hgr⟩ := hrel
        subst elv
        have D1 := Lib.hid (And.intro ho (And.intro hll (And.intro hwi hgr)))
        have hb0 := box_grows HB0.out hgr
        have q0 := (hgr.cell (p := ⟨g, o + i, none⟩) gz).trans HQ.out.2.1
        have zz := Nat.lt_of_lt_of_le gz hgr.size
        clear k2 zk
        obtain ⟨k0, -⟩ := cell_in hb0 0 rfl
        obtain ⟨k2, -⟩ := cell_in hb0 2 rfl
        have zk := box_lt hb0
        clear ho hll hwi hgr hb0
        by_cases hlt : k < rn' ∧ k < 8
        · obtain ⟨hkn, hk9⟩ := hlt
          have hkl : k < rl.length := by rw [ern]; exact hkn
          obtain ⟨g2, o2, cap2, he2, hml2, hgl2, hat2⟩ := HQ.out.2.2.1.form ern (by omega)
          simp only [Value.slice.injEq, true_and] at he2
          obtain ⟨rfl, rfl⟩ := he2
          obtain ⟨y0, ey0⟩ : ∃ y0, rl[k] = y0 := ⟨_, rfl⟩
          have hy0 : R32 y0 := HQ.out.2.2.2 y0 (by rw [← ey0]; exact List.getElem_mem hkl)
          have hpo := (D0.out.gr.cell (p := ⟨g2, o2 + k, none⟩) hgl2).trans (show w.cell? ⟨g2, o2 + k, none⟩ = some (.int .i32 y0) by
            have h1 := hat2 k hkl 0 (by decide)
            rw [ey0] at h1
            simpa using h1)
          have HP0 := Lib.hid hpo
          have HGL2 := Lib.hid hgl2
          have p0 : wr.cell? ⟨g2, o2 + k, none⟩ = some (.int .i32 y0) := (D1.out.2.2.2.cell (p := ⟨g2, o2 + k, none⟩) (Nat.lt_of_lt_of_le hgl2 D0.out.gr.size)).trans hpo
          have gz2 := Nat.lt_of_lt_of_le hgl2 (grows_trans _ _ _ D0.out.gr D1.out.2.2.2).size
          obtain ⟨y, ey, hyw, m1, m2, m3, m4, m5, m6, m7, m8, m9, m10⟩ := rem_within hy0 HX.out.1
          have hd3 : decide ((k : Int) < (rn' : Int)) = true := decide_eq_true (by omega)
          have hd4 : decide ((k : Int) < 8) = true := decide_eq_true (by omega)
          have hq5 : (k < rn') = True := eq_true hkn
          have hq6 : (k < 8) = True := eq_true hk9
          have hq7 : (k : Int) < (rn' : Int) := Int.ofNat_lt.2 hkn
          have hq8 : (k : Int) < 8 := by omega
          have HKI := Lib.hid (And.intro hkn (And.intro hk9 hyw))
          clear hpo hat2 hml2 hgl2 hkl ey0 hy0 hkn hk9 hyw hk hk8
          have HQZ := Lib.hid gz
          have HPC := Lib.hid (fun W9 (hg : Grows _ W9) => (hg.cell (p := ⟨g2, o2 + k, none⟩) (Nat.lt_of_lt_of_le HGL2.out D0.out.gr.size)).trans (HP0.out))
          have HPZ := Lib.hid (fun W9 (hg : Grows _ W9) => Nat.lt_of_lt_of_le (Nat.lt_of_lt_of_le HGL2.out D0.out.gr.size) hg.size)
          have HLL := Lib.hid (show ll.length ≤ 1000 from Nat.le_trans D1.out.2.1 (Nat.le_trans (Nat.le_of_lt HKI.out.2.1) (by decide)))
          go_wp2_with fail
          refine WideN.wp_flagG (fun j => lv.ownBlock = some j) [.fix _ lv, .fix _ (.pointer (some ⟨c, 2, none⟩)), .fix _ (.slice (some ⟨g, o, none⟩) en eC), .fix _ (.int .i64 (i : Int)), .fix _ (.pointer (some ⟨g, o + i, none⟩)), .fix _ (.slice (some ⟨g2, o2, none⟩) rn' rc), .fix _ (.int .i64 (k : Int)), .fix _ (.pointer (some ⟨g2, o2 + k, none⟩)), .fix _ (.int .i32 y0), .fix _ (.int .i64 y0), .fix _ (.pointer (some ⟨c, 0, none⟩)), .fix _ (.int .u16 xe), .fix _ (.int .i64 xe), .fix _ (.int .i64 (xe + 1)), .fix _ (.int .i64 y), .none _, .none _, .none _] (QJ B0 lv ll y) ?_ (by kernel_rfl) (by kernel_rfl) rfl (fun vals => by simp [Act.over, dstsOf, overL]; rfl) ?_ ?_ ?_
          · exact ⟨⟨by rw [← HB.out]; exact D1.out.2.2.2.size, .inl ⟨rfl, rfl, own_grows D1.out.1 (bl_drew (Below.refl _ _))⟩⟩, fun h => (by cases h), fun h => (by cases h), fun _ => rfl, fun h => (by cases h)⟩
          · refine ⟨?_, ?_, ?_, ?_, ?_, ?_, ?_, ?_, ?_, ?_, ?_, ?_, ?_, ?_, ?_, ?_, ?_, ?_, trivial⟩
            all_goals
              intro vals w' fl hE hJ hi0 he hn R hR
              simp [WideN.needsOf, Region.binds, dstAt, gOf, SG.fix, SG.none] at hn he
              have HG9 := Lib.hid (grows_chg D1.out.2.2.2 hE (fun j hj => by rw [HB.out]; exact (D1.out.1.lt j hj).1))
              have HJ := Lib.hid hJ
              clear hJ hE k0 k2 zk q0 zz p0 gz2 gz
            · have hv := HJ.out.first hi0
              try simp only [hv] at hR
              have HR := Lib.hid hR
              clear hR
              go_wp2_with fail
              exact HR.out _ _ rfl (Chg.refl _ _) HJ.out.s
            · try simp only [hn] at hR
              have HR := Lib.hid hR
              clear hR
              go_wp2_with fail
              exact HR.out _ _ rfl (Chg.refl _ _) HJ.out.s
            · obtain ⟨k0, -⟩ := cell_in (box_grows HB0.out HG9.out) 2 rfl
              have zk := box_lt (box_grows HB0.out HG9.out)
              try simp only [hn] at hR
              have HR := Lib.hid hR
              clear hR
              go_wp2_with fail
              exact HR.out _ _ rfl (Chg.refl _ _) HJ.out.s
            · try simp only [hn] at hR
              have HR := Lib.hid hR
              clear hR
              go_wp2_with fail
              exact HR.out _ _ rfl (Chg.refl _ _) HJ.out.s
            · try simp only [hn] at hR
              have HR := Lib.hid hR
              clear hR
              go_wp2_with fail
              exact HR.out _ _ rfl (Chg.refl _ _) HJ.out.s
            · have q0 := (HG9.out.cell (p := ⟨g, o + i, none⟩) HQZ.out).trans HQ.out.2.1
              have zz := Nat.lt_of_lt_of_le HQZ.out HG9.out.size
              try simp only [hn] at hR
              have HR := Lib.hid hR
              clear hR
              go_wp2_with fail
              exact HR.out _ _ rfl (Chg.refl _ _) HJ.out.s
            · try simp only [hn] at hR
              have HR := Lib.hid hR
              clear hR
              go_wp2_with fail
              exact HR.out _ _ rfl (Chg.refl _ _) HJ.out.s
            · try simp only [hn] at hR
              have HR := Lib.hid hR
              clear hR
              go_wp2_with fail
              exact HR.out _ _ rfl (Chg.refl _ _) HJ.out.s
            · have p0 := HPC.out _ HG9.out
              have zz := HPZ.out _ HG9.out
              try simp only [hn] at hR
              have HR := Lib.hid hR
              clear hR
              go_wp2_with fail
              exact HR.out _ _ rfl (Chg.refl _ _) HJ.out.s
            · try simp only [hn] at hR
              have HR := Lib.hid hR
              clear hR
              go_wp2_with fail
              exact HR.out _ _ rfl (Chg.refl _ _) HJ.out.s
            · try simp only [hn] at hR
              have HR := Lib.hid hR
              clear hR
              go_wp2_with fail
              exact HR.out _ _ rfl (Chg.refl _ _) HJ.out.s
            · obtain ⟨k0, -⟩ := cell_in (box_grows HB0.out HG9.out) 0 rfl
              have zk := box_lt (box_grows HB0.out HG9.out)
              try simp only [hn] at hR
              have HR := Lib.hid hR
              clear hR
              go_wp2_with fail
              exact HR.out _ _ rfl (Chg.refl _ _) HJ.out.s
            · try simp only [hn] at hR
              have HR := Lib.hid hR
              clear hR
              go_wp2_with fail
              exact HR.out _ _ rfl (Chg.refl _ _) HJ.out.s
            · try simp only [hn] at hR
              have HR := Lib.hid hR
              clear hR
              go_wp2_with fail
              exact HR.out _ _ rfl (Chg.refl _ _) HJ.out.s
            · try simp only [hn] at hR
              have HR := Lib.hid hR
              clear hR
              go_wp2_with fail
              exact HR.out _ _ rfl (Chg.refl _ _) HJ.out.s
            · try simp only [hn] at hR
              have HR := Lib.hid hR
              clear hR
              go_wp2_with fail
              exact HR.out _ _ trivial (Chg.ofGrows (bl_alloc (Below.refl _ _) _)) (HJ.out.build hi0)
            · obtain ⟨v6, W6, hr6, hj6, hc6⟩ := HJ.out.app HLL.out (by simp [he]) (by simp [he]) hi0
              have J6 := Lib.hid (And.intro hj6 hc6)
              try simp only [hn] at hR
              have HR := Lib.hid hR
              clear hR hj6 hc6
              go_wp2_with (at_builtin; refine wpList_append_eq _ rfl _ _ 27 27 rfl _ _ (by first | exact hn | exact hn.1 | rfl) rfl (hr6 _) ?_)
              exact HR.out _ _ trivial J6.out.2 J6.out.1
            · try simp only [hn] at hR
              have HR := Lib.hid hR
              clear hR
              go_wp2_with fail
              exact HR.out _ _ trivial (Chg.refl _ _) (HJ.out.assign (by simp [he]))
          · intro vals w' hE hJ hn
            obtain ⟨fl, hall, hJ⟩ := hJ
            have hv := hJ.v1 (hall 17 (by decide))
            have D6 := Lib.hid (And.intro (hJ.pj.done (hall 16 (by decide))) (grows_chg D1.out.2.2.2 hE (fun j hj => by rw [HB.out]; exact (D1.out.1.lt j hj).1)))
            try simp only [hv]
            clear hn hE hJ hall hv k0 k2 zk q0 zz p0 gz2 m1 m2 m3 m4 m5 m6 m7 m8 m9 m10 ey
            go_wp2_with fail
            go_roundw
            case rel => exact ⟨_, k + 1, ll ++ [y], rfl, rfl, HKI.out.1, HKI.out.2.1, D6.out.1, by rw [List.length_append]; exact Nat.succ_le_succ D1.out.2.1, wi_snoc D1.out.2.2.1 HKI.out.2.2, D6.out.2⟩
            case measure => exact meas_succ HKI.out.2.1
        · have hex : (decide ((k : Int) < (rn' : Int)) = false ∧ (k < rn') = False) ∨ (decide ((k : Int) < (rn' : Int)) = true ∧ (k < rn') = True ∧ decide ((k : Int) < 8) = false ∧ (k < 8) = False) := by
            by_cases h1 : k < rn'
            · exact .inr ⟨decide_eq_true (by omega), eq_true h1, decide_eq_false (by omega), eq_false (by omega)⟩
            · exact .inl ⟨decide_eq_false (by omega), eq_false h1⟩
          have T2 := D0.out.grows D1.out.2.2.2
          obtain ⟨la, lc, elv⟩ := GOwn.len kindI64.len D1.out.1 rfl
          subst elv
          have hB3 : c + 1 + 1 + 1 ≤ B0 := by
            obtain ⟨vE, E, h1, -⟩ := D0.out.all
            have := box_lt h1
            rw [HB.out] at this
            exact this
          obtain ⟨vE, a6, n6, c6, W6, t1, t2, t3, t4⟩ := T2.add (row_base D1.out.1 hB3) (by rw [← EX.out]; exact D1.out.2.2.1) (by have := HI.out.2; omega)
          obtain ⟨W7, e7⟩ : ∃ W7, W6.setCell ⟨c + 1 + 1, 1, none⟩ (.slice a6 n6 c6) = W7 := ⟨_, rfl⟩
          rw [e7] at t4
          have T4 := Lib.hid t4
          obtain ⟨s1, -⟩ := cell_in t1 1 rfl
          have sz := box_lt t1
          obtain ⟨d1, d1f⟩ := cell_in t3 1 rfl
          have dz := box_lt t3
          obtain ⟨lln, ell⟩ : ∃ lln, ll.length = lln := ⟨_, rfl⟩
          rw [ell] at t2
          have hn6 : i ≤ 1000000 := by have := HI.out.2; omega
          have HWS := Lib.hid (wrap_succ hn6)
          clear t1 t3 t4 T2 hB3 hlt hk hk8 hn6
          simp only [ell]
          rcases hex with ⟨hd3, hq5⟩ | ⟨hd3, hq5, hd4, hq6⟩
          all_goals
            go_wp2_with (at_builtin; refine wpList_append_eq _ rfl _ _ 31 31 rfl _ _ rfl rfl (t2 _) ?_)
            go_roundw
          repeat (case rel => exact ⟨i + 1, rfl, HI.out.1, HI.out.2, T4.out⟩)
          repeat (case measure => exact meas_succ HI.out.2)
    · have hex : (decide ((i : Int) < (en : Int)) = false ∧ (i < en) = False) ∨ (decide ((i : Int) < (en : Int)) = true ∧ (i < en) = True ∧ decide ((i : Int) < 8) = false ∧ (i < 8) = False) := by
        by_cases h1 : i < en
        · exact .inr ⟨decide_eq_true (by omega), eq_true h1, decide_eq_false (by omega), eq_false (by omega)⟩
        · exact .inl ⟨decide_eq_false (by omega), eq_false h1⟩
      obtain ⟨vE, E, t1, t2, t3, t4⟩ := D0.out.all
      obtain ⟨aE, cE, elE⟩ := GOwn.len kindSl.len t2 rfl
      obtain ⟨nE, enE2⟩ : ∃ nE, E.length = nE := ⟨_, rfl⟩
      rw [enE2] at elE
      subst elE
      obtain ⟨B3, eB3⟩ : ∃ B3, wr.heap.size = B3 := ⟨_, rfl⟩
      have hcz := D0.out.hc
      have hB3 : c + 1 + 1 < B3 := by have := box_lt t1; omega
      have HB3 := Lib.hid hB3
      have HBC := Lib.hid (fun W9 (hc9 : Chg (fun b => b = c + 1 + 1 ∨ B3 ≤ b) wr W9) => box_chg HB0.out hc9 (fun h => by rcases h with h | h <;> omega))
      have HBD := Lib.hid (fun W9 (hc9 : Chg (fun b => b = c + 1 + 1 ∨ B3 ≤ b) wr W9) => box_chg D0.out.hb1 hc9 (fun h => by rcases h with h | h <;> omega))
      have HGC := Lib.hid (fun W9 (hc9 : Chg (fun b => b = c + 1 + 1 ∨ B3 ≤ b) wr W9) => show Grows w W9 from grows_chg D0.out.gr hc9 (fun b hb => by have := D0.out.gr.size; rcases hb with h | h <;> omega))
      have HRC := Lib.hid (fun W9 (hc9 : Chg (fun b => b = c + 1 + 1 ∨ B3 ≤ b) wr W9) => show GOwn sv 1 27 W9 (c + 1 + 1 + 1) (.slice aE nE cE) E ∧ ∀ r ∈ E, GOwn ic 1 2 W9 (c + 1 + 1 + 1) r.val r.l ∧ Wi x.e r.l from
        ⟨hc9.own t2 (fun j hj hs => by have := t2.lt j hj; rw [eB3] at this; rcases hs with h | h <;> omega), fun r hr => ⟨hc9.own (t4 r hr).1 (fun j hj hs => by have := (t4 r hr).1.lt j hj; rw [eB3] at this; rcases hs with h | h <;> omega), (t4 r hr).2⟩⟩)
      have HS := Lib.hid (show wr.heap[c + 1 + 1]? = some (.cells #[.int .u64 (set : Int), .slice aE nE cE, .slice none 0 0] TTN (0, 0)) from t1)
      have HEB := Lib.hid eB3
      clear hlt hi hi8 t1 t2 t3 t4 hB3 hcz
      rcases hex with ⟨hd1, hq1⟩ | ⟨hd1, hq1, hd2, hq2⟩
      all_goals
        go_wp2_with fail
        clear k2 zk
        go_loopw [9] (fun jw wr3 => ∃ (j : Nat) (DL : List Int) (vD : Value), jw = .int .i64 (j : Int) ∧ j ≤ dn ∧ j ≤ 8 ∧ Chg (fun b => b = c + 1 + 1 ∨ B3 ≤ b) wr wr3 ∧ wr3.heap[c + 1 + 1]? = some (.cells #[.int .u64 (set : Int), .slice aE nE cE, vD] TTN (0, 0)) ∧ GOwn ic 1 2 wr3 B3 vD DL ∧ DL.length ≤ j ∧ Wi xd DL) (fun jw _ => 8 - (intOf jw).toNat)
        case atStart => exact ⟨0, [], _, rfl, Nat.zero_le _, Nat.zero_le _, Chg.refl _ _, HS.out, World.ownsRow_nil _ _ _ _, Nat.le_refl _, fun y hy => by cases hy⟩
        case round =>
          obtain ⟨j, DL, vD, rfl, hj, hj8, hch, hbx, ho, hdl, hwi⟩ := hrel
          have hb0 := HBC.out _ hch
          have D1 := Lib.hid (And.intro hch (And.intro hbx (And.intro ho (And.intro hdl hwi))))
          obtain ⟨k3, -⟩ := cell_in hb0 3 rfl
          have zk := box_lt hb0
          clear hch hbx ho hdl hwi hb0
          by_cases hlt : j < dn ∧ j < 8
          · obtain ⟨hjn, h8⟩ := hlt
            have hjl : j < DD.length := by rw [enD]; exact hjn
            obtain ⟨gd, od, cap', he, hml, hgl, hat⟩ := HX.out.2.2.2.2.1.form enD (by omega)
            simp only [Value.slice.injEq, true_and] at he
            obtain ⟨rfl, rfl⟩ := he
            obtain ⟨y0, ey0⟩ : ∃ y0, DD[j] = y0 := ⟨_, rfl⟩
            have hy0 : R32 y0 := HX.out.2.2.2.2.2 y0 (by rw [← ey0]; exact List.getElem_mem hjl)
            have HP0 := Lib.hid (show w.cell? ⟨gd, od + j, none⟩ = some (.int .i32 y0) by
              have h1 := hat j hjl 0 (by decide)
              rw [ey0] at h1
              simpa using h1)
            have HDZ := Lib.hid hgl
            obtain ⟨y, ey, hyw, m1, m2, m3, m4, m5, m6, m7, m8, m9, m10⟩ := rem_within hy0 HX.out.2.1
            have hd3 : decide ((j : Int) < (dn : Int)) = true := decide_eq_true (by omega)
            have hd4 : decide ((j : Int) < 8) = true := decide_eq_true (by omega)
            have hq5 : (j < dn) = True := eq_true hjn
            have hq6 : (j < 8) = True := eq_true h8
            have hq7 : (j : Int) < (dn : Int) := Int.ofNat_lt.2 hjn
            have hq8 : (j : Int) < 8 := by omega
            have HKI := Lib.hid (And.intro hjn (And.intro h8 hyw))
            have HLL := Lib.hid (show DL.length ≤ 1000 from Nat.le_trans D1.out.2.2.2.1 (by omega))
            clear hat hml hgl hjl ey0 hy0 hjn h8 hyw hj hj8
            go_wp2_with fail
            refine WideN.wp_flagG (fun b => b = c + 1 + 1 ∨ vD.ownBlock = some b) [.fix _ (.pointer (some ⟨c + 1 + 1, 2, none⟩)), .fix _ vD, .fix _ (.pointer (some ⟨c, 3, none⟩)), .fix _ (.slice (some ⟨gd, od, none⟩) dn dc), .fix _ (.int .i64 (j : Int)), .fix _ (.pointer (some ⟨gd, od + j, none⟩)), .fix _ (.int .i32 y0), .fix _ (.int .i64 y0), .fix _ (.pointer (some ⟨c, 1, none⟩)), .fix _ (.int .u16 xd), .fix _ (.int .i64 xd), .fix _ (.int .i64 (xd + 1)), .fix _ (.int .i64 y), .none _, .none _, .fix _ (.pointer (some ⟨c + 1 + 1, 2, none⟩)), .none _] (UJ (c + 1 + 1) B3 (.int .u64 (set : Int)) (.slice aE nE cE) vD DL y TTN) ?_ (by kernel_rfl) (by kernel_rfl) rfl (fun vals => by simp [Act.over, dstsOf, overL]; rfl) ?_ ?_ ?_
            · exact ⟨⟨by have := D1.out.1.size; rw [HEB.out] at this; exact this, .inl ⟨rfl, rfl, own_grows D1.out.2.2.1 (bl_drew (Below.refl _ _))⟩⟩, box_grows D1.out.2.1 (bl_drew (Below.refl _ _)), fun h => (by cases h), fun h => (by cases h)⟩
            · refine ⟨?_, ?_, ?_, ?_, ?_, ?_, ?_, ?_, ?_, ?_, ?_, ?_, ?_, ?_, ?_, ?_, ?_, trivial⟩
              all_goals
                intro vals w' fl hE hJ hi0 he hn R hR
                simp [WideN.needsOf, Region.binds, dstAt, gOf, SG.fix, SG.none] at hn he
                have HC9 := Lib.hid (D1.out.1.trans (hE.mono (T := fun b => b = c + 1 + 1 ∨ B3 ≤ b) fun b _ hb => hb.elim .inl (fun h => .inr (D1.out.2.2.1.lt b h).1)))
                have HJ := Lib.hid hJ
                clear hJ hE k3 zk
              · try simp only [hn] at hR
                have HR := Lib.hid hR
                clear hR
                go_wp2_with fail
                exact HR.out _ _ rfl (Chg.refl _ _) HJ.out.s
              · obtain ⟨k0, -⟩ := cell_in (HJ.out.first hi0) 2 rfl
                have zk := box_lt (HJ.out.first hi0)
                try simp only [hn] at hR
                have HR := Lib.hid hR
                clear hR
                go_wp2_with fail
                exact HR.out _ _ rfl (Chg.refl _ _) HJ.out.s
              · try simp only [hn] at hR
                have HR := Lib.hid hR
                clear hR
                go_wp2_with fail
                exact HR.out _ _ rfl (Chg.refl _ _) HJ.out.s
              · obtain ⟨k0, -⟩ := cell_in (HBC.out _ HC9.out) 3 rfl
                have zk := box_lt (HBC.out _ HC9.out)
                try simp only [hn] at hR
                have HR := Lib.hid hR
                clear hR
                go_wp2_with fail
                exact HR.out _ _ rfl (Chg.refl _ _) HJ.out.s
              · try simp only [hn] at hR
                have HR := Lib.hid hR
                clear hR
                go_wp2_with fail
                exact HR.out _ _ rfl (Chg.refl _ _) HJ.out.s
              · try simp only [hn] at hR
                have HR := Lib.hid hR
                clear hR
                go_wp2_with fail
                exact HR.out _ _ rfl (Chg.refl _ _) HJ.out.s
              · have p0 := ((HGC.out _ HC9.out).cell (p := ⟨gd, od + j, none⟩) HDZ.out).trans HP0.out
                have zz := Nat.lt_of_lt_of_le HDZ.out (HGC.out _ HC9.out).size
                try simp only [hn] at hR
                have HR := Lib.hid hR
                clear hR
                go_wp2_with fail
                exact HR.out _ _ rfl (Chg.refl _ _) HJ.out.s
              · try simp only [hn] at hR
                have HR := Lib.hid hR
                clear hR
                go_wp2_with fail
                exact HR.out _ _ rfl (Chg.refl _ _) HJ.out.s
              · try simp only [hn] at hR
                have HR := Lib.hid hR
                clear hR
                go_wp2_with fail
                exact HR.out _ _ rfl (Chg.refl _ _) HJ.out.s
              · obtain ⟨k0, -⟩ := cell_in (HBC.out _ HC9.out) 1 rfl
                have zk := box_lt (HBC.out _ HC9.out)
                try simp only [hn] at hR
                have HR := Lib.hid hR
                clear hR
                go_wp2_with fail
                exact HR.out _ _ rfl (Chg.refl _ _) HJ.out.s
              · try simp only [hn] at hR
                have HR := Lib.hid hR
                clear hR
                go_wp2_with fail
                exact HR.out _ _ rfl (Chg.refl _ _) HJ.out.s
              · try simp only [hn] at hR
                have HR := Lib.hid hR
                clear hR
                go_wp2_with fail
                exact HR.out _ _ rfl (Chg.refl _ _) HJ.out.s
              · try simp only [hn] at hR
                have HR := Lib.hid hR
                clear hR
                go_wp2_with fail
                exact HR.out _ _ rfl (Chg.refl _ _) HJ.out.s
              · try simp only [hn] at hR
                have HR := Lib.hid hR
                clear hR
                go_wp2_with fail
                exact HR.out _ _ trivial (Chg.ofGrows (bl_alloc (Below.refl _ _) _)) (HJ.out.build hi0)
              · obtain ⟨v6, W6, hr6, hj6, hc6⟩ := HJ.out.app HLL.out (by simp [he]) (by simp [he]) hi0 (by decide)
                have J6 := Lib.hid (And.intro hj6 hc6)
                try simp only [hn] at hR
                have HR := Lib.hid hR
                clear hR hj6 hc6
                go_wp2_with (at_builtin; refine wpList_append_eq _ rfl _ _ 27 27 rfl _ _ (by first | exact hn | exact hn.1 | rfl) rfl (hr6 _) ?_)
                exact HR.out _ _ trivial J6.out.2 J6.out.1
              · try simp only [hn] at hR
                have HR := Lib.hid hR
                clear hR
                go_wp2_with fail
                exact HR.out _ _ rfl (Chg.refl _ _) HJ.out.s
              · obtain ⟨hb6, hj6, hc6⟩ := HJ.out.store (u := undef) (by simp [he]) hi0 HB3.out
                obtain ⟨a9, n9, c9, ev⟩ := HJ.out.pj.slice (by simp [he])
                rw [ev] at hj6 hc6
                have J6 := Lib.hid (And.intro hj6 hc6)
                obtain ⟨k0, k0f⟩ := cell_in hb6 2 rfl
                have zk := box_lt hb6
                try simp only [hn] at hR
                try simp only [ev] at hR
                have HR := Lib.hid hR
                clear hR hj6 hc6
                go_wp2_with fail
                exact HR.out undef _ trivial J6.out.2 J6.out.1
            · intro vals w' hE hJ hn
              obtain ⟨fl, hall, hJ⟩ := hJ
              have hb := hJ.box
              rw [hall 16 (by decide)] at hb
              have D6 := Lib.hid (And.intro (D1.out.1.trans (hE.mono (T := fun b => b = c + 1 + 1 ∨ B3 ≤ b) fun b _ hb => hb.elim .inl (fun h => .inr (D1.out.2.2.1.lt b h).1))) (And.intro hb (hJ.pj.done (hall 14 (by decide)))))
              clear hn hE hJ hall hb k3 zk m1 m2 m3 m4 m5 m6 m7 m8 m9 m10 ey
              go_wp2_with fail
              go_roundw
              case rel => exact ⟨j + 1, DL ++ [y], _, rfl, HKI.out.1, HKI.out.2.1, D6.out.1, D6.out.2.1, D6.out.2.2, by rw [List.length_append]; exact Nat.succ_le_succ D1.out.2.2.2.1, wi_snoc D1.out.2.2.2.2 HKI.out.2.2⟩
              case measure => exact meas_succ HKI.out.2.1
          · have hex2 : (decide ((j : Int) < (dn : Int)) = false ∧ (j < dn) = False) ∨ (decide ((j : Int) < (dn : Int)) = true ∧ (j < dn) = True ∧ decide ((j : Int) < 8) = false ∧ (j < 8) = False) := by
              by_cases h1 : j < dn
              · exact .inr ⟨decide_eq_true (by omega), eq_true h1, decide_eq_false (by omega), eq_false (by omega)⟩
              · exact .inl ⟨decide_eq_false (by omega), eq_false h1⟩
            obtain ⟨aD, cD, elD⟩ := GOwn.len kindI64.len D1.out.2.2.1 rfl
            subst elD
            obtain ⟨nD2, enD2⟩ : ∃ nD2, DL.length = nD2 := ⟨_, rfl⟩
            have hbx := D1.out.2.1
            rw [enD2] at hbx
            have HBX := Lib.hid hbx
            have HB1 := Lib.hid (HBD.out _ D1.out.1)
            clear hlt hj hj8 hbx
            rcases hex2 with ⟨hd3, hq5⟩ | ⟨hd3, hq5, hd4, hq6⟩
            all_goals
              go_wp2_with (first
                | (refine wpList_load_box rfl TTN (.tmp 5) rfl (c + 1 + 1) #[.int .u64 (set : Int), .slice aE nE cE, .slice aD nD2 cD] rfl (Tryd.isAgg33 _) (Tryd.sizeOf33 _) HBX.out ?_)
                | (refine wpList_store_box rfl TTN (.tmp 4) (.tmp 87) rfl (c + 1) #[.int .u64 (set : Int), .slice aE nE cE, .slice aD nD2 cD] rfl rfl (Tryd.sizeOf33 _) HB1.out rfl (by intro u hu; simp only [List.mem_cons, List.not_mem_nil, or_false] at hu; rcases hu with rfl | rfl | rfl <;> rfl) ?_; intro w4 h4 c4))
              have hRC := HRC.out _ D1.out.1
              have hGR : Grows w w4 := grows_chg (HGC.out _ D1.out.1) c4 (fun b hb => by have := D0.out.hc; omega)
              have hE4 := c4.own hRC.1 (fun b hb e => by have := (hRC.1.lt b hb).1; omega)
              have hD4 := c4.own D1.out.2.2.1 (fun b hb e => by have := (D1.out.2.2.1.lt b hb).1; have := HB3.out; omega)
              refine bodyPost_ret (results_box Tryd.results7 rfl (Tryd.isAgg33 _) (Tryd.sizeOf33 _) h4) rfl ⟨hGR, ⟨set, aE, nE, cE, aD, nD2, cD, E, DL⟩, rfl, rfl, ⟨by rw [← enE2] at hE4 ⊢; exact gown_rows kindSl.len hE4, fun r hr => gown_ihas (c4.own (hRC.2 r hr).1 (fun b hb e => by have := ((hRC.2 r hr).1.lt b hb).1; omega))⟩, by rw [← enD2]; exact gown_ihas hD4, fun l hl => ?_, D1.out.2.2.2.2⟩
              rw [List.mem_map] at hl
              obtain ⟨r, hr, rfl⟩ := hl
              have := (hRC.2 r hr).2
              rw [← EX.out] at this
              exact this
end Go.Proofs.YthdcmchjlpkkaaaDoor.Tr
