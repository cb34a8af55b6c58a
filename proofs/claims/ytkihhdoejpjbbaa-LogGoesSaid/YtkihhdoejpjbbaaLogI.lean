/- The chapter's example; logs and the document's lists side by side. -/
import Derived.Test.YtkihhdoejpjbbaaLogH
namespace Go.Proofs.Ytkihhdoejpjbbaa
open Go.RowKit Go.Sort
set_option maxHeartbeats 2000000
set_option maxRecDepth 100000

/-- What an Add leaves behind, in given numbers. -/
def AddLit (w : World) (base b : Nat) (v : Value) (r : Int) (c' : List EC) (e : Ending) (w' : World) : Prop :=
  e = .returned (.int .i64 r) ∧ ∃ v' l', LogAt w' base b v' l' ∧ cores l' = c' ∧ Chg (LogS b v) w w' ∧ (∀ k, v'.ownBlock = some k → v.ownBlock = some k ∨ w.heap.size ≤ k)
theorem ladd_lit (x : EW) (w : World) {base b : Nat} {v : Value} {l : List EW} (h : LogAt w base b v l) (hbase : base ≤ w.heap.size) (hx : BHas w x.ba x.bl x.bc x.b) (hxl : x.bl ≤ 1000000) (c c' : List EC) (r : Int) (hc : cores l = c) (hm : c.length ≤ 1000000) (hr : addCE c x.k = r) (hc' : addC c x.core = c') :
    Calls Try.prog 31 #[.pointer (some ⟨b, 0, none⟩), x.val] w (AddLit w base b v r c') := by
  subst hc hr hc'
  exact ladd_any x w h hbase (by simpa using hm) hx hxl
theorem LogAt.below {w w' : World} {w0 : World} {base b : Nat} {v : Value} {l : List EW} {B : Nat} (h : LogAt w base b v l) (hB : Below B w0 w) (hb : B ≤ b) (hbase : B ≤ base) (h0 : B ≤ w0.heap.size) (hc : Chg (LogS b v) w w') : Below B w0 w' :=
  hB.trans (hc.toBelow (Nat.le_trans h0 hB.size) (fun k hk hs => by
    rcases hs with rfl | hs
    · omega
    · have := (h.own.lt k hs).1
      omega))

abbrev litE (t : Int) : EW := ⟨0, ⟨t, 0, 0⟩, none, 0, 0, []⟩
theorem litE_has (t : Int) (w : World) : BHas w none 0 0 [] := ⟨rfl, .inl rfl⟩
theorem logWorks_any (w : World) : Calls Try.prog 36 #[] w (RetV w (.bool true)) := by
  go_enter Try.func36, Try.ntmps36
  go_wp2_with fail
  refine (lnew_any _).mono ?_
  rintro e w1 ⟨rfl, hg1, hl1⟩
  obtain ⟨b, eb⟩ : ∃ b, w.heap.size = b := ⟨_, rfl⟩
  have hB1 : Below w.heap.size w w1 := hg1
  rw [eb] at hl1 ⊢
  have hs1 : b ≤ w1.heap.size := by rw [← eb]; exact hg1.size
  have H1 := Lib.hid hl1
  have B1 := Lib.hid hB1
  have A1 := Lib.hid (ladd_lit (litE 5) w1 hl1 hs1 (litE_has 5 w1) (Nat.zero_le _) [] [(0, ⟨5, 0, 0⟩, [])] 0 rfl (by decide) rfl rfl)
  have EB := Lib.hid eb
  clear hg1 hl1 hB1 hs1 eb
  go_wp2_with fail
  refine (A1.out).mono ?_
  rintro e w2 ⟨rfl, v2, l2, hl2, hc2, hch2, ho2⟩
  have hB2 := H1.out.below B1.out (by rw [EB.out]; exact Nat.le_refl _) (by rw [EB.out]; exact Nat.le_refl _) (Nat.le_refl _) hch2
  have hs2 : b ≤ w2.heap.size := by rw [← EB.out]; exact hB2.size
  have H2 := Lib.hid hl2
  have B2 := Lib.hid hB2
  have A2 := Lib.hid (ladd_lit (litE 5) w2 hl2 hs2 (litE_has 5 w2) (Nat.zero_le _) _ [(0, ⟨5, 0, 0⟩, [])] 12 hc2 (by decide) (by decide) (by decide))
  clear hl2 hc2 hch2 ho2 hB2 hs2
  go_wp2_with fail
  refine (A2.out).mono ?_
  rintro e w3 ⟨rfl, v3, l3, hl3, hc3, hch3, ho3⟩
  have hB3 := H2.out.below B2.out (by rw [EB.out]; exact Nat.le_refl _) (by rw [EB.out]; exact Nat.le_refl _) (Nat.le_refl _) hch3
  have hs3 : b ≤ w3.heap.size := by rw [← EB.out]; exact hB3.size
  have H3 := Lib.hid hl3
  have B3 := Lib.hid hB3
  have A3 := Lib.hid (ladd_lit (litE 4) w3 hl3 hs3 (litE_has 4 w3) (Nat.zero_le _) _ [(0, ⟨5, 0, 0⟩, [])] 11 hc3 (by decide) (by decide) (by decide))
  clear hl3 hc3 hch3 ho3 hB3 hs3
  go_wp2_with fail
  refine (A3.out).mono ?_
  rintro e w4 ⟨rfl, v4, l4, hl4, hc4, hch4, ho4⟩
  have hB4 := H3.out.below B3.out (by rw [EB.out]; exact Nat.le_refl _) (by rw [EB.out]; exact Nat.le_refl _) (Nat.le_refl _) hch4
  have hs4 : b ≤ w4.heap.size := by rw [← EB.out]; exact hB4.size
  have H4 := Lib.hid hl4
  have B4 := Lib.hid hB4
  have A4 := Lib.hid (ladd_lit (litE 7) w4 hl4 hs4 (litE_has 7 w4) (Nat.zero_le _) _ [(0, ⟨5, 0, 0⟩, []), (0, ⟨7, 0, 0⟩, [])] 0 hc4 (by decide) (by decide) (by decide))
  clear hl4 hc4 hch4 ho4 hB4 hs4
  go_wp2_with fail
  refine (A4.out).mono ?_
  rintro e w5 ⟨rfl, v5, l5, hl5, hc5, hch5, ho5⟩
  have hB5 := H4.out.below B4.out (by rw [EB.out]; exact Nat.le_refl _) (by rw [EB.out]; exact Nat.le_refl _) (Nat.le_refl _) hch5
  have hlen5 : l5.length = 2 := by have := congrArg List.length hc5; simpa using this
  have hbt := lbetween_any w5 hl5 (by omega) (by rw [hc5]; intro x hx; simp at hx; rcases hx with rfl | rfl <;> decide) (by rw [hc5]; unfold InOrder; decide) 6 9
  rw [hc5, show betweenC [(0, ⟨5, 0, 0⟩, []), (0, ⟨7, 0, 0⟩, [])] 6 9 = [(0, ⟨7, 0, 0⟩, [])] from by decide] at hbt
  have H5 := Lib.hid hl5
  have B5 := Lib.hid hB5
  have HBT := Lib.hid hbt
  have HLN := Lib.hid hlen5
  clear hl5 hc5 hch5 ho5 hB5 hbt hlen5
  go_wp2_with fail
  refine (HBT.out).mono ?_
  rintro e w6 ⟨v6, rfl, hg6, l6, ho6, hb6, hc6⟩
  have hn6 : l6.length = 1 := by have := congrArg List.length hc6; simpa using this
  obtain ⟨g, o, cap, rfl, hcap, hgw, hat⟩ := (eown_has ho6 hb6).form hn6 (by omega)
  obtain ⟨-, q1, -⟩ := eat_cells hat 0 (by omega)
  have hk : l6[0].k.t = 7 := by
    have h1 : (cores l6)[0]? = some (l6[0].core) := by rw [List.getElem?_map, List.getElem?_eq_getElem (by omega)]; rfl
    rw [hc6] at h1
    have h2 := Option.some.inj h1
    rw [show l6[0].k = (l6[0].core).2.1 from rfl, ← h2]
  rw [hk] at q1
  have hln := llen_any w6 (H5.out.grows hg6)
  rw [HLN.out] at hln
  have HL := Lib.hid hln
  have G6 := Lib.hid hg6
  clear ho6 hb6 hc6 hat hk hln hg6 hn6
  go_wp2_with (first | (go_at_call 39; refine (HL.out).mono ?_; rintro e w' ⟨rfl, rfl⟩))
  go_ret
  exact ⟨rfl, (B5.out).trans ((G6.out : Below _ _ _).mono (Nat.le_trans (Nat.le_refl _) B5.out.size))⟩
end Go.Proofs.Ytkihhdoejpjbbaa
