/- Bodies that are changed: what else stays as it was. -/
import Derived.Test.YtkihhdoejpjbbaaLogK
namespace Go.Proofs.Ytkihhdoejpjbbaa
open Go.RowKit Go.Sort
set_option maxHeartbeats 2000000
set_option maxRecDepth 100000

/-- The block of a body. -/
abbrev BodS (v : Value) : Nat → Prop := fun k => v.ownBlock = some k
theorem brow_ty {w : World} {base : Nat} {v : Value} {b : List Int} (h : BRow w base v b) {k : Nat} (hk : v.ownBlock = some k) : ∃ cur, w.heap[k]? = some (.cells cur 5 (0, 0)) := by
  rcases h.2 with ⟨h1, _⟩ | ⟨g, cap, cur, hv, _, hg, _⟩
  · rw [h1] at hk; simp [Value.ownBlock] at hk
  · rw [hv] at hk
    simp only [Value.ownBlock, Option.some.injEq] at hk
    subst hk
    exact ⟨cur, hg⟩
theorem ents_body {w w' : World} {base base' : Nat} {v ve : Value} {b : List Int} {l : List EW} (h : BRow w base v b) (ho : EOwn w base' ve l) (hc : Chg (BodS v) w w') : EOwn w' base' ve l := by
  refine hc.own ho fun k hk hs => ?_
  obtain ⟨cur, hcur⟩ := brow_ty h hs
  exact own_noBytes ho k hk cur hcur
theorem bods_body {w w' : World} {B : Nat} {v : Value} {l : List EW} (hb : BodsB w B l) (hsep : ∀ k, v.ownBlock = some k → k < B) (hc : Chg (BodS v) w w') : BodsB w' B l := fun x hx =>
  hc.own (hb x hx) fun k hk hs => by
    have h1 := ((hb x hx).lt k hk).1
    have h2 := hsep k hs
    omega
theorem log_body {w w' : World} {base B b : Nat} {v vl : Value} {bs : List Int} {l : List EW} (h : BRow w base v bs) (hl : LogAt w B b vl l) (hsep : ∀ x ∈ l, ∀ k, x.bv.ownBlock = some k → v.ownBlock ≠ some k) (hc : Chg (BodS v) w w') : LogAt w' B b vl l := by
  refine ⟨?_, ents_body h hl.own hc, fun x hx => hc.own (hl.bod x hx) (fun k hk hs => hsep x hx k hk hs)⟩
  rw [hc.block b hl.lt (fun hs => by
    obtain ⟨cur, hcur⟩ := brow_ty h hs
    rw [hl.ob] at hcur
    injection hcur with hcur
    injection hcur with _ hcur
    exact absurd hcur (by decide))]
  exact hl.ob
theorem bods_keep {w w' : World} {B : Nat} {v : Value} {l : List EW} (hb : BodsB w B l) (hsep : ∀ x ∈ l, ∀ k, x.bv.ownBlock = some k → v.ownBlock ≠ some k) (hc : Chg (BodS v) w w') : BodsB w' B l := fun x hx =>
  hc.own (hb x hx) fun k hk hs => hsep x hx k hk hs
theorem body_keep {w w' : World} {base p : Nat} {v : Value} {b : List Int} {cs : Array Value} (h : BRow w base v b) (hp : w.heap[p]? = some (.cells cs 56 (0, 0))) (hc : Chg (BodS v) w w') : w'.heap[p]? = some (.cells cs 56 (0, 0)) := by
  rw [hc.block p (Array.getElem?_eq_some_iff.1 hp).1 (fun hs => by
    obtain ⟨cur, hcur⟩ := brow_ty h hs
    rw [hp] at hcur
    injection hcur with hcur
    injection hcur with _ hcur
    exact absurd hcur (by decide))]
  exact hp
theorem body_below {w w' w0 : World} {base B : Nat} {v : Value} {b : List Int} (h : BRow w base v b) (hB : Below B w0 w) (hb : B ≤ base) (h0 : B ≤ w0.heap.size) (hc : Chg (BodS v) w w') : Below B w0 w' :=
  hB.trans (hc.toBelow (Nat.le_trans h0 hB.size) (fun k hk hs => by
    have := (h.lt k hs).1
    omega))
/-- A body's byte, in its own row. -/
theorem brow_byte {w : World} {base n cap gb : Nat} {b : List Int} (h : BRow w base (.slice (some ⟨gb, 0, none⟩) n cap) b) (hn : b.length = n) (k : Nat) (hk : k < n) : (∃ x, w.cell? ⟨gb, k, none⟩ = some (.int .u8 x)) ∧ w.frozen? ⟨gb, k, none⟩ = false ∧ gb < w.heap.size := by
  subst hn
  obtain ⟨cur, hcur⟩ := brow_ty h (k := gb) rfl
  refine ⟨⟨b[k]'(by omega), ?_⟩, ?_, (Array.getElem?_eq_some_iff.1 hcur).1⟩
  · rw [h.cellAt k (by omega)]
    simp [show k < b.length by omega]
  · simp [World.frozen?, hcur]
theorem brow_put {w : World} {base n cap gb : Nat} {b : List Int} (h : BRow w base (.slice (some ⟨gb, 0, none⟩) n cap) b) (k : Nat) (y : Int) : BRow (w.setCell ⟨gb, k, none⟩ (.int .u8 y)) base (.slice (some ⟨gb, 0, none⟩) n cap) (b.set k y) := by
  have hn : n = b.length := by
    rcases h.2 with ⟨h1, h2⟩ | ⟨g, c, cur, hv, _⟩
    · cases h1
    · cases hv; rfl
  subst hn
  have := (World.ownsRow.stored h k (.int .u8 y)).1
  show World.ownsRow _ _ _ _ _ _ _
  rw [List.length_set, bsv, List.map_set]
  exact this
theorem brow_shape {w : World} {base : Nat} {v : Value} {b : List Int} (h : BRow w base v b) : (b = [] ∧ v = .slice none 0 0) ∨ ∃ gb cap, v = .slice (some ⟨gb, 0, none⟩) b.length cap ∧ b.length ≤ cap ∧ base ≤ gb := by
  rcases h.2 with ⟨h1, h2⟩ | ⟨g, c, cur, hv, h3, _, h4, _⟩
  · exact .inl ⟨List.eq_nil_of_length_eq_zero h2, h1⟩
  · exact .inr ⟨g, c, hv, h4, h3⟩

theorem own_at {w : World} {base g n cap : Nat} {l : List EW} (h : EOwn w base (.slice (some ⟨g, 0, none⟩) n cap) l) (hl : l.length = n) (h0 : 0 < n) : RAt ev 5 w g 0 l ∧ g < w.heap.size ∧ n ≤ cap := by
  rcases own_rows (f := ev) (k := 5) (fun _ => rfl) rfl h with ⟨h1, _⟩ | ⟨g', cap', h1, h2, _, h3, h4⟩
  · rw [h1] at hl; simp at hl; omega
  · cases h1
    exact ⟨h4, h3, h2⟩
/-- The cell that holds the first entry's body. -/
theorem own_body {w : World} {base g n cap : Nat} {x : EW} {l : List EW} (h : EOwn w base (.slice (some ⟨g, 0, none⟩) n cap) (x :: l)) (hl : (x :: l).length = n) : w.cell? ⟨g, 4, none⟩ = some x.bv ∧ g < w.heap.size := by
  obtain ⟨h1, h2, h3⟩ := own_at h hl (by rw [← hl]; simp)
  have := h1 0 (by simp) 4 (by omega)
  simp only [Nat.zero_mul, Nat.zero_add] at this
  exact ⟨this, h2⟩

theorem cut_one (x : EC) : cutC [x] = [(x.1, x.2.1, x.2.2.take 60)] := rfl
theorem cut_two (x : EC) : cutC (cutC [x]) = cutC [x] := by
  rw [cut_one, cut_one]
  simp [List.take_take]

theorem logOwn_walk (x : EW) (w : World) (hx : BHas w x.ba x.bl x.bc x.b) :
    Calls Try.prog 9 #[x.val] w (RetV w (.bool true)) := by
  have HW := Lib.hid (fun W => logWorks_any W)
  obtain ⟨c0, ec0⟩ : ∃ c : EC, (x.a, x.k, x.b.take 60) = c := ⟨_, rfl⟩
  have hc1 : cutC [x.core] = [c0] := by rw [cut_one]; exact congrArg (fun z => [z]) ec0
  have hc2 : cutC [c0] = [c0] := by rw [← hc1]; exact cut_two x.core
  have hsh : c0.2.2.length ≤ 1000 := by rw [← ec0]; simp; omega
  have HC1 := Lib.hid hc1
  have HC2 := Lib.hid hc2
  have HSH := Lib.hid hsh
  have HX := Lib.hid hx
  clear hx hc1 hc2 hsh ec0
  go_enter Try.func9, Try.ntmps9
  go_wp2_with fail
  -- the first Cut
  obtain ⟨W, eW⟩ : ∃ W, (w.alloc (.cells #[.int .i64 x.a, .int .i64 x.k.t, .int .i64 x.k.f, .int .u32 x.k.s, x.bv] 56)).alloc (.cells #[.int .i64 x.a, .int .i64 x.k.t, .int .i64 x.k.f, .int .u32 x.k.s, x.bv] 56) = W := ⟨_, rfl⟩
  have gW : Grows w W := by rw [← eW]; exact bl_alloc (bl_alloc (Below.refl _ _) _) _
  have hbx : W.heap[w.heap.size + 1]? = some (.cells #[.int .i64 x.a, .int .i64 x.k.t, .int .i64 x.k.f, .int .u32 x.k.s, x.bv] 56) := by rw [← eW]; exact (two_new w _ _).2
  have hh : EHas W (.slice (some ⟨w.heap.size + 1, 0, none⟩) 1 1) [x] := by
    refine ⟨.inr ⟨w.heap.size + 1, 0, 1, rfl, Nat.le_refl _, (Array.getElem?_eq_some_iff.1 hbx).1, ?_⟩, ?_⟩
    · intro i hi j hj
      have hi0 : i = 0 := by simpa using hi
      subst hi0
      simp only [Nat.zero_mul, Nat.add_zero, Nat.zero_add, List.getElem_cons_zero]
      have hjj : j = 0 ∨ j = 1 ∨ j = 2 ∨ j = 3 ∨ j = 4 := by omega
      rcases hjj with rfl | rfl | rfl | rfl | rfl
      · exact (cell_in hbx 0 rfl).1
      · exact (cell_in hbx 1 rfl).1
      · exact (cell_in hbx 2 rfl).1
      · exact (cell_in hbx 3 rfl).1
      · exact (cell_in hbx 4 rfl).1
    · intro y hy
      simp at hy
      subst hy
      exact HX.out.grows gW
  rw [eW]
  have HCU := Lib.hid (cutB_any _ [x] W hh (by simp))
  have GW := Lib.hid gW
  clear eW gW hbx hh
  refine (HCU.out).mono ?_
  rintro e w1 ⟨vl, rfl, hg1, lc, ho1, hb1, hc1⟩
  rw [show cores [x] = [x.core] from rfl, HC1.out] at hc1
  have hn1 : lc.length = 1 := by have := congrArg List.length hc1; simpa using this
  obtain ⟨⟨ya, yk, yba, ybl, ybc, yb⟩, rfl⟩ : ∃ y, lc = [y] := List.length_eq_one_iff.1 hn1
  obtain ⟨y, ey⟩ : ∃ y : EW, ⟨ya, yk, yba, ybl, ybc, yb⟩ = y := ⟨_, rfl⟩
  have EY := Lib.hid ey
  rw [ey] at ho1 hb1 hc1
  clear ey
  have hyc : y.core = c0 := by simpa using hc1
  obtain ⟨g, cap, rfl, hcap, hgw, hat⟩ : ∃ g cap, vl = .slice (some ⟨g, 0, none⟩) 1 cap ∧ 1 ≤ cap ∧ g < w1.heap.size ∧ RAt ev 5 w1 g 0 [y] := by
    rcases own_rows (f := ev) (k := 5) (fun _ => rfl) rfl ho1 with ⟨h1, _⟩ | ⟨g, cap, h1, h2, _, h3, h4⟩
    · cases h1
    · exact ⟨g, cap, h1, h2, h3, h4⟩
  have hby := hb1 y (by simp)
  have hcut2 := cutB_any _ [y] w1 (eown_has ho1 hb1.low) (by simp)
  rw [show cores [y] = [c0] by rw [← hyc]; rfl, HC2.out] at hcut2
  have HCU2 := Lib.hid hcut2
  have O1 := Lib.hid ho1
  have BY := Lib.hid hby
  have YC := Lib.hid hyc
  have G1 := Lib.hid (grows_trans _ _ _ GW.out hg1)
  have AT := Lib.hid hat
  clear hg1 ho1 hb1 hc1 hn1 hyc hby hcut2 hat
  go_wp2_with fail
  refine (HCU2.out).mono ?_
  rintro e w2 ⟨vw, rfl, hg2, lw, ho2, hb2, hcw⟩
  have G2 := Lib.hid (grows_trans _ _ _ G1.out hg2)
  have O2 := Lib.hid ho2
  have B2 := Lib.hid hb2
  have CW := Lib.hid hcw
  have O1 := Lib.hid (own_grows O1.out hg2)
  have hlt1 : ∀ k, y.bv.ownBlock = some k → k < w1.heap.size := fun k hk => (BY.out.lt k hk).2
  have LT1 := Lib.hid hlt1
  have BY := Lib.hid (own_grows BY.out hg2)
  have S12 := Lib.hid hg2.size
  have AT := Lib.hid (AT.out.grows hg2 hgw)
  have hgw2 : g < w2.heap.size := Nat.lt_of_lt_of_le hgw hg2.size
  clear hg2 ho2 hb2 hcw hlt1
  go_wp2_with fail
  refine (lnew_any _).mono ?_
  rintro e w3 ⟨rfl, hg3, hl3⟩
  obtain ⟨b, eb⟩ : ∃ b, w2.heap.size = b := ⟨_, rfl⟩
  rw [eb] at hl3 ⊢
  have O1 := Lib.hid (own_grows O1.out hg3)
  have O2 := Lib.hid (own_grows O2.out hg3)
  have B2 := Lib.hid (B2.out.grows hg3)
  have BY := Lib.hid (own_grows BY.out hg3)
  have G3 := Lib.hid (grows_trans _ _ _ G2.out hg3)
  have hyl : y.bl ≤ 1000000 := by
    have h1 := (brow_has BY.out).1
    have h2 : y.b = c0.2.2 := by rw [← YC.out]
    rw [← h1, h2]
    exact Nat.le_trans HSH.out (by decide)
  have hadd := ladd_ok y w3 hl3 (by rw [← eb]; exact hg3.size) (by simp) (brow_has BY.out) hyl rfl
  have AT := Lib.hid (AT.out.grows hg3 hgw2)
  have hgw3 : g < w3.heap.size := Nat.lt_of_lt_of_le hgw2 hg3.size
  obtain ⟨q0, q1, q2, q3, q4⟩ := eat_cells AT.out 0 (by simp)
  simp only [List.getElem_cons_zero, Nat.zero_mul, Nat.zero_add] at q0 q1 q2 q3 q4
  have HA := Lib.hid hadd
  have L3 := Lib.hid hl3
  have EB := Lib.hid eb
  have S23 := Lib.hid hg3.size
  clear hadd hl3 hg3 hyl eb
  go_wp2_with fail
  refine (HA.out).mono ?_
  rintro e w4 ⟨rfl, v4, z, hl4, hz4, za, zk, zb, hch4, ho4⟩
  have hsep : ∀ k, (Value.slice (some ⟨g, 0, none⟩) 1 cap).ownBlock = some k → (Value.slice none 0 0).ownBlock ≠ some k := fun k hk hk2 => by simp [Value.ownBlock] at hk2
  have hy1 : Bods w3 [y] := fun z hz => by simp at hz; subst hz; exact row_base BY.out (Nat.zero_le _)
  obtain ⟨hO1, -⟩ := ents_kept O1.out hy1 L3.out hch4 hsep
  obtain ⟨hO2, -⟩ := ents_kept O2.out B2.out.low L3.out hch4 (fun k hk hk2 => by simp [Value.ownBlock] at hk2)
  have hB2 := B2.out.chg hch4 L3.out.noBytes
  have hBY := brow_chg BY.out hch4 L3.out.noBytes
  have hzc : z.core = c0 := by rw [← YC.out]; exact Prod.ext za (Prod.ext zk zb)
  have hS4 := hch4.size
  have hB4 := L3.out.below (w0 := w) (B := w.heap.size) G3.out (by have := G2.out.size; rw [EB.out] at this; exact this) (by have := G2.out.size; rw [EB.out] at this; exact this) (Nat.le_refl _) hch4
  have O1 := Lib.hid hO1
  have O2 := Lib.hid hO2
  have B2 := Lib.hid hB2
  have BY := Lib.hid hBY
  have L4 := Lib.hid hl4
  have ZB := Lib.hid hz4
  have ZC := Lib.hid hzc
  have B4 := Lib.hid hB4
  have S34 := Lib.hid hS4
  obtain ⟨qb, hgw4⟩ := own_body hO1 rfl
  clear hy1 hsep hO1 hO2 hB2 hBY hzc hl4 hz4 za zk zb hch4 ho4 hB4 hS4 q0 q1 q2 q3 q4 hgw3 hgw2 hgw
  obtain ⟨n, en⟩ : ∃ n, y.b.length = n := ⟨_, rfl⟩
  have EN := Lib.hid en
  have hbl : y.bl = n := by rw [← en]; exact (brow_has BY.out).1.symm
  have hn6 : n ≤ 1000 := by rw [← en, show y.b = c0.2.2 by rw [← YC.out]]; exact HSH.out
  have HN6 := Lib.hid hn6
  obtain ⟨bv, ebv⟩ : ∃ bv, y.bv = bv := ⟨_, rfl⟩
  obtain ⟨pa, pc, rfl⟩ : ∃ pa pc, bv = .slice pa n pc := ⟨y.ba, y.bc, by rw [← ebv]; show Value.slice y.ba y.bl y.bc = _; rw [hbl]⟩
  have hBY2 := BY.out
  rw [ebv] at qb hBY2
  have BY := Lib.hid hBY2
  have EBV := Lib.hid ebv
  clear en hbl hn6 ebv hBY2
  go_wp2_with fail
  go_loopw [6, 29] (fun _ vi wr => ∃ (k : Nat) (b' : List Int), vi = .int .i64 (k : Int) ∧ k ≤ n ∧ b'.length = n ∧ BRow wr W.heap.size (.slice pa n pc) b' ∧ Chg (BodS (.slice pa n pc)) w4 wr) (fun _ vi _ => n - (intOf vi).toNat)
  case atStart => exact ⟨0, y.b, rfl, Nat.zero_le _, EN.out, BY.out, Chg.refl _ _⟩
  case round =>
    obtain ⟨k, b', rfl, hk, hb', hrow, hch⟩ := hrel
    have HR := Lib.hid hrow
    have HCH := Lib.hid hch
    have HBL := Lib.hid hb'
    have hO1 := ents_body BY.out O1.out hch
    obtain ⟨qb', hgw'⟩ := own_body hO1 rfl
    rw [EBV.out] at qb'
    clear hrow hch hb' hO1 qb
    by_cases hlt : k < n
    · have hk6 : k ≤ 1000000 := Nat.le_trans (Nat.le_of_lt hlt) (Nat.le_trans HN6.out (by decide))
      have HNF := Lib.hid (nat_facts k hk6)
      have HWS := Lib.hid (wrap_succ hk6)
      have HKK := Lib.hid hlt
      obtain ⟨gb, pc', he⟩ : ∃ gb pc', (Value.slice pa n pc) = .slice (some ⟨gb, 0, none⟩) n pc' := by
        rcases brow_shape HR.out with ⟨h1, h2⟩ | ⟨gb, cp, h1, _⟩
        · have := HBL.out; rw [h1] at this; simp at this; omega
        · exact ⟨gb, cp, by rw [h1, HBL.out]⟩
      cases he
      obtain ⟨⟨bx, hbx⟩, hfz, hgb⟩ := brow_byte HR.out HBL.out k hlt
      have hkn : (k : Int) < (n : Int) := Int.ofNat_lt.2 hlt
      clear hk6 hk
      obtain ⟨j1, j2, j3, j4, j6⟩ := HNF.out
      go_wp2_with fail
      go_roundw
      case rel => exact ⟨k + 1, b'.set k _, by rw [HWS.out]; rfl, HKK.out, by rw [List.length_set]; exact HBL.out, brow_put HR.out k _, Chg.setCell HCH.out _ (.inr rfl)⟩
      case measure => rw [HWS.out]; exact meas_succ HKK.out
    · obtain rfl : k = n := Nat.le_antisymm hk (Nat.le_of_not_lt hlt)
      clear hk hlt qb'
      -- behind the first loop
      have hlt1 : ∀ j, (Value.slice pa k pc).ownBlock = some j → j < w1.heap.size := fun j hj => LT1.out j (by rw [EBV.out]; exact hj)
      have hO2 := ents_body BY.out O2.out HCH.out
      have hB2 := bods_body B2.out hlt1 HCH.out
      have hzsep : ∀ q ∈ [] ++ [z], ∀ j, q.bv.ownBlock = some j → (Value.slice pa k pc).ownBlock ≠ some j := fun q hq j hj hj2 => by
        simp at hq
        subst hq
        have h1 := (ZB.out.lt j hj).1
        have h2 := hlt1 j hj2
        have h3 := S12.out
        have h4 := S23.out
        omega
      have hL5 := log_body BY.out L4.out hzsep HCH.out
      have hZB := HCH.out.own ZB.out (fun j hj hs => hzsep z (by simp) j hj hs)
      have hB5 := body_below (w0 := w) (B := w.heap.size) BY.out B4.out GW.out.size (Nat.le_refl _) HCH.out
      have hcz : cores ([] ++ [z]) = [c0] := by show [z.core] = [c0]; rw [ZC.out]
      have hsz : Short (cores ([] ++ [z])) := by rw [hcz]; intro q hq; simp at hq; subst hq; exact HSH.out
      have hat5 := lat_in wr hL5 (by simp) hsz 0 c0 (by rw [hcz]; rfl)
      have HAT5 := Lib.hid hat5
      have HZS := Lib.hid hsz
      have HCZ := Lib.hid hcz
      have O2 := Lib.hid hO2
      have B2 := Lib.hid hB2
      have L5 := Lib.hid hL5
      have ZB := Lib.hid hZB
      have B5 := Lib.hid hB5
      clear hlt1 hO2 hB2 hzsep hL5 hZB hB5 hsz hcz hat5
      obtain ⟨w5, e5⟩ : ∃ w5, w5 = wr := ⟨_, rfl⟩
      subst e5
      have WLT : Hid (∀ q ∈ lw, ∀ j, q.bv.ownBlock = some j → j < w5.heap.size) := Lib.hid (fun q hq j hj => ((B2.out q hq).lt j hj).2)
      have ZLT : Hid (∀ j, z.bv.ownBlock = some j → j < w5.heap.size) := Lib.hid (fun j hj => (ZB.out.lt j hj).2)
      go_wp2_with fail
      refine (HAT5.out).mono ?_
      rintro e w6 ⟨ca, cl, cc, rfl, hbr6, hg6⟩
      obtain rfl : cl = k := by
        have h1 := (brow_has (x := ⟨0, ⟨0, 0, 0⟩, ca, cl, cc, c0.2.2⟩) hbr6).1
        simp only at h1
        rw [← h1, ← EN.out, show y.b = c0.2.2 by rw [← YC.out]]
      have HBR6 := Lib.hid hbr6
      have O2 := Lib.hid (own_grows O2.out hg6)
      have B2 := Lib.hid (B2.out.grows hg6)
      have L5 := Lib.hid (L5.out.grows hg6)
      have ZB := Lib.hid (own_grows ZB.out hg6)
      have hw5 : w.heap.size ≤ w5.heap.size := B5.out.size
      have B6 := Lib.hid (B5.out.trans ((hg6 : Below _ _ _).mono hw5))
      clear hbr6 hg6
      go_wp2_with fail
      obtain ⟨w7, e7⟩ : ∃ w7, w6.alloc (.cells #[.int .i64 c0.1, .int .i64 c0.2.1.t, .int .i64 c0.2.1.f, .int .u32 c0.2.1.s, .slice ca cl cc] 56) = w7 := ⟨_, rfl⟩
      have hg7 : Grows w6 w7 := by rw [← e7]; exact bl_alloc (Below.refl _ _) _
      have hx7 : w7.heap[w6.heap.size]? = some (.cells #[.int .i64 c0.1, .int .i64 c0.2.1.t, .int .i64 c0.2.1.f, .int .u32 c0.2.1.s, .slice ca cl cc] 56) := by rw [← e7]; exact heap_alloc_new w6 _
      rw [e7]
      have HX7 := Lib.hid hx7
      have O2 := Lib.hid (own_grows O2.out hg7)
      have B2 := Lib.hid (B2.out.grows hg7)
      have L5 := Lib.hid (L5.out.grows hg7)
      have ZB := Lib.hid (own_grows ZB.out hg7)
      have BR7 := Lib.hid (own_grows HBR6.out hg7)
      have hw6 : w.heap.size ≤ w6.heap.size := B6.out.size
      have B7 := Lib.hid (B6.out.trans ((hg7 : Below _ _ _).mono hw6))
      have hcl : c0.2.2.length = cl := by rw [← EN.out, show y.b = c0.2.2 by rw [← YC.out]]
      have HCL := Lib.hid hcl
      clear e7 hg7 hx7 hcl
      go_loopw [9, 50] (fun _ vi wr => ∃ (k : Nat) (b' : List Int), vi = .int .i64 (k : Int) ∧ k ≤ cl ∧ b'.length = cl ∧ BRow wr w5.heap.size (Value.slice ca cl cc) b' ∧ Chg (BodS (Value.slice ca cl cc)) w7 wr) (fun _ vi _ => cl - (intOf vi).toNat)
      case atStart => exact ⟨0, c0.2.2, rfl, Nat.zero_le _, HCL.out, BR7.out, Chg.refl _ _⟩
      case round =>
        obtain ⟨k, b', rfl, hk, hb', hrow, hch⟩ := hrel
        have HR := Lib.hid hrow
        have HCH := Lib.hid hch
        have HBL := Lib.hid hb'
        obtain ⟨qb', -⟩ := cell_in (body_keep BR7.out HX7.out hch) 4 rfl
        have hgw' := (Array.getElem?_eq_some_iff.1 (body_keep BR7.out HX7.out hch)).1
        clear hrow hch hb'
        by_cases hlt : k < cl
        · have hk6 : k ≤ 1000000 := Nat.le_trans (Nat.le_of_lt hlt) (Nat.le_trans HN6.out (by decide))
          have HNF := Lib.hid (nat_facts k hk6)
          have HWS := Lib.hid (wrap_succ hk6)
          have HKK := Lib.hid hlt
          obtain ⟨gb, pc', he⟩ : ∃ gb pc', (Value.slice ca cl cc) = Value.slice (some ⟨gb, 0, none⟩) cl pc' := by
            rcases brow_shape HR.out with ⟨h1, h2⟩ | ⟨gb, cp, h1, _⟩
            · have := HBL.out; rw [h1] at this; simp at this; omega
            · exact ⟨gb, cp, by rw [h1, HBL.out]⟩
          cases he
          obtain ⟨⟨bx, hbx⟩, hfz, hgb⟩ := brow_byte HR.out HBL.out k hlt
          have hkn : (k : Int) < (cl : Int) := Int.ofNat_lt.2 hlt
          clear hk6 hk
          obtain ⟨j1, j2, j3, j4, j6⟩ := HNF.out
          go_wp2_with fail
          go_roundw
          case rel => exact ⟨k + 1, b'.set k _, by rw [HWS.out]; rfl, HKK.out, by rw [List.length_set]; exact HBL.out, brow_put HR.out k _, Chg.setCell HCH.out _ (.inr rfl)⟩
          case measure => rw [HWS.out]; exact meas_succ HKK.out
        · obtain rfl : k = cl := Nat.le_antisymm hk (Nat.le_of_not_lt hlt)
          clear hk hlt qb'
          -- behind the second loop
          have sepW : ∀ q ∈ lw, ∀ j, q.bv.ownBlock = some j → (Value.slice ca k cc).ownBlock ≠ some j := fun q hq j hj hj2 => Nat.lt_irrefl _ (Nat.lt_of_lt_of_le (WLT.out q hq j hj) (BR7.out.lt j hj2).1)
          have sepZ : ∀ q ∈ [] ++ [z], ∀ j, q.bv.ownBlock = some j → (Value.slice ca k cc).ownBlock ≠ some j := fun q hq j hj hj2 => by
            simp at hq
            subst hq
            exact Nat.lt_irrefl _ (Nat.lt_of_lt_of_le (ZLT.out j hj) (BR7.out.lt j hj2).1)
          have hO2 := ents_body BR7.out O2.out HCH.out
          have hB2 := bods_keep B2.out sepW HCH.out
          have hL8 := log_body BR7.out L5.out sepZ HCH.out
          have hB8 := body_below (w0 := w) (B := w.heap.size) BR7.out B7.out hw5 (Nat.le_refl _) HCH.out
          have hsi := sinceB_any wr hL8 (by simp) HZS.out 0 0 rfl
          rw [HCZ.out] at hsi
          have HSI := Lib.hid hsi
          have O2 := Lib.hid hO2
          have B2 := Lib.hid hB2
          have L8 := Lib.hid hL8
          have B8 := Lib.hid hB8
          clear sepW sepZ hO2 hB2 hL8 hB8 hsi
          obtain ⟨w8, e8⟩ : ∃ w8, w8 = wr := ⟨_, rfl⟩
          subst e8
          have WLT : Hid (∀ q ∈ lw, ∀ j, q.bv.ownBlock = some j → j < w8.heap.size) := Lib.hid (fun q hq j hj => ((B2.out q hq).lt j hj).2)
          have ZLT : Hid (∀ j, z.bv.ownBlock = some j → j < w8.heap.size) := Lib.hid (fun j hj => ((L8.out.bod z (by simp)).lt j hj).2)
          go_wp2_with fail
          refine (HSI.out).mono ?_
          rintro e w9 ⟨v9, rfl, hg9, l9, ho9, hb9, hc9⟩
          have hn9 : l9.length = 1 := by have := congrArg List.length hc9; simpa using this
          obtain ⟨x9, rfl⟩ : ∃ x9, l9 = [x9] := List.length_eq_one_iff.1 hn9
          have hx9 : x9.core = c0 := by simpa using hc9
          obtain ⟨g9, cap9, rfl, hcap9, hgw9⟩ : ∃ g cap, v9 = .slice (some ⟨g, 0, none⟩) 1 cap ∧ 1 ≤ cap ∧ g < w9.heap.size := by
            rcases own_rows (f := ev) (k := 5) (fun _ => rfl) rfl ho9 with ⟨h1, _⟩ | ⟨g, cap, h1, h2, _, h3, h4⟩
            · cases h1
            · exact ⟨g, cap, h1, h2, h3⟩
          have hbx9 := hb9 x9 (by simp)
          obtain ⟨qb9, -⟩ := own_body ho9 rfl
          have hbl9 : x9.bl = k := by
            have h1 := (brow_has hbx9).1
            rw [← h1, show x9.b = c0.2.2 by rw [← hx9]]
            exact HCL.out
          obtain ⟨bv9, ebv9⟩ : ∃ bv, x9.bv = bv := ⟨_, rfl⟩
          obtain ⟨pa9, pc9, rfl⟩ : ∃ pa pc, bv9 = .slice pa k pc := ⟨x9.ba, x9.bc, by rw [← ebv9]; show Value.slice x9.ba x9.bl x9.bc = _; rw [hbl9]⟩
          have hlen9 : x9.b.length = k := by rw [show x9.b = c0.2.2 by rw [← hx9]]; exact HCL.out
          rw [ebv9] at qb9 hbx9
          have O9 := Lib.hid ho9
          have BX9 := Lib.hid hbx9
          have EB9 := Lib.hid ebv9
          have HL9 := Lib.hid hlen9
          have O2 := Lib.hid (own_grows O2.out hg9)
          have B2 := Lib.hid (B2.out.grows hg9)
          have L8 := Lib.hid (L8.out.grows hg9)
          have hw8 : w.heap.size ≤ w8.heap.size := B8.out.size
          have B9 := Lib.hid (B8.out.trans ((hg9 : Below _ _ _).mono hw8))
          clear hg9 ho9 hb9 hc9 hn9 hx9 hbx9 hbl9 ebv9 hlen9
          go_wp2_with fail
          go_loopw [11, 71] (fun _ vi wr => ∃ (q : Nat) (b' : List Int), vi = .int .i64 (q : Int) ∧ q ≤ k ∧ b'.length = k ∧ BRow wr w8.heap.size (Value.slice pa9 k pc9) b' ∧ Chg (BodS (Value.slice pa9 k pc9)) w9 wr) (fun _ vi _ => k - (intOf vi).toNat)
          case atStart => exact ⟨0, x9.b, rfl, Nat.zero_le _, HL9.out, BX9.out, Chg.refl _ _⟩
          case round =>
            obtain ⟨q, b', rfl, hk, hb', hrow, hch⟩ := hrel
            have HR := Lib.hid hrow
            have HCH := Lib.hid hch
            have HBL := Lib.hid hb'
            have hO9 := ents_body BX9.out O9.out hch
            obtain ⟨qb', hgw'⟩ := own_body hO9 rfl
            rw [EB9.out] at qb'
            clear hO9 qb9
            clear hrow hch hb'
            by_cases hlt : q < k
            · have hk6 : q ≤ 1000000 := Nat.le_trans (Nat.le_of_lt hlt) (Nat.le_trans HN6.out (by decide))
              have HNF := Lib.hid (nat_facts q hk6)
              have HWS := Lib.hid (wrap_succ hk6)
              have HKK := Lib.hid hlt
              obtain ⟨gb, pc', he⟩ : ∃ gb pc', (Value.slice pa9 k pc9) = Value.slice (some ⟨gb, 0, none⟩) k pc' := by
                rcases brow_shape HR.out with ⟨h1, h2⟩ | ⟨gb, cp, h1, _⟩
                · have := HBL.out; rw [h1] at this; simp at this; omega
                · exact ⟨gb, cp, by rw [h1, HBL.out]⟩
              cases he
              obtain ⟨⟨bx, hbx⟩, hfz, hgb⟩ := brow_byte HR.out HBL.out q hlt
              have hkn : (q : Int) < (k : Int) := Int.ofNat_lt.2 hlt
              clear hk6 hk
              obtain ⟨j1, j2, j3, j4, j6⟩ := HNF.out
              go_wp2_with fail
              go_roundw
              case rel => exact ⟨q + 1, b'.set q _, by rw [HWS.out]; rfl, HKK.out, by rw [List.length_set]; exact HBL.out, brow_put HR.out q _, Chg.setCell HCH.out _ (.inr rfl)⟩
              case measure => rw [HWS.out]; exact meas_succ HKK.out
            · obtain rfl : q = k := Nat.le_antisymm hk (Nat.le_of_not_lt hlt)
              clear hk hlt qb'
              -- behind the third loop
              have sepW : ∀ p ∈ lw, ∀ j, p.bv.ownBlock = some j → (Value.slice pa9 q pc9).ownBlock ≠ some j := fun p hp j hj hj2 => Nat.lt_irrefl _ (Nat.lt_of_lt_of_le (WLT.out p hp j hj) (BX9.out.lt j hj2).1)
              have sepZ : ∀ p ∈ [] ++ [z], ∀ j, p.bv.ownBlock = some j → (Value.slice pa9 q pc9).ownBlock ≠ some j := fun p hp j hj hj2 => by
                simp at hp
                subst hp
                exact Nat.lt_irrefl _ (Nat.lt_of_lt_of_le (ZLT.out j hj) (BX9.out.lt j hj2).1)
              have hO2 := ents_body BX9.out O2.out HCH.out
              have hB2 := bods_keep B2.out sepW HCH.out
              have hL8 := log_body BX9.out L8.out sepZ HCH.out
              have hB8 := body_below (w0 := w) (B := w.heap.size) BX9.out B9.out hw8 (Nat.le_refl _) HCH.out
              have hsi := sinceB_any wr hL8 (by simp) HZS.out 0 0 rfl
              rw [HCZ.out] at hsi
              have HSI := Lib.hid hsi
              have O2 := Lib.hid hO2
              have B2 := Lib.hid hB2
              have B8 := Lib.hid hB8
              clear sepW sepZ hO2 hB2 hL8 hB8 hsi
              go_wp2_with fail
              refine (HSI.out).mono ?_
              rintro e wA ⟨vA, rfl, hgA, lA, hoA, hbA, hcA⟩
              have hal := all_any vA vw lA lw wA (eown_has hoA hbA.low) ((eown_has O2.out B2.out.low).grows hgA) (by have := congrArg List.length hcA; simp at this; omega) (hcA.trans CW.out.symm)
              have HAL := Lib.hid hal
              have GA := Lib.hid hgA
              clear hal hgA hoA hbA hcA
              go_wp2_with fail
              refine (HAL.out).mono ?_
              rintro e wB ⟨rfl, hgB⟩
              have GB := Lib.hid (grows_trans _ _ _ GA.out hgB)
              clear hgB
              go_wp2_with fail
              refine (HW.out _).mono ?_
              rintro e wC ⟨rfl, hgC⟩
              have GC := Lib.hid (grows_trans _ _ _ GB.out hgC)
              clear hgC
              go_wp2_with fail
              go_ret
              exact ⟨rfl, B8.out.trans ((GC.out : Below _ _ _).mono B8.out.size)⟩
end Go.Proofs.Ytkihhdoejpjbbaa
