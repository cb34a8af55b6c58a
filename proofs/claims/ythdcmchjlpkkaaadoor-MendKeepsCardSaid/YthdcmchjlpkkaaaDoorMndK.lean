/- The walk of MendKeeps. -/
import Derived.Test.YthdcmchjlpkkaaaDoorMndJ
namespace Go.Proofs.YthdcmchjlpkkaaaDoor.Tr
open Go.RowKit Go.Sort
set_option maxHeartbeats 4000000
set_option maxRecDepth 100000
theorem two_turns (w : World) (t : TN) (T : TypeId) : GRows tnv 3 (w.alloc (.cells #[.int .u64 (t.s : Int), .slice t.ea t.en t.ec, .slice t.da t.dn t.dc, .int .u64 (t.s : Int), .slice t.ea t.en t.ec, .slice t.da t.dn t.dc] T)) (.slice (some ⟨w.heap.size, 0, none⟩) 2 2) [t, t] := by
  have hn := heap_alloc_new w (.cells #[.int .u64 (t.s : Int), .slice t.ea t.en t.ec, .slice t.da t.dn t.dc, .int .u64 (t.s : Int), .slice t.ea t.en t.ec, .slice t.da t.dn t.dc] T)
  refine .inr ⟨w.heap.size, 0, 2, rfl, by simp, by simp, fun i hi j hj => ?_⟩
  have hi2 : i = 0 ∨ i = 1 := by simp at hi; omega
  have hj3 : j = 0 ∨ j = 1 ∨ j = 2 := by omega
  rcases hi2 with rfl | rfl
  · rcases hj3 with rfl | rfl | rfl
    · exact (cell_in hn 0 rfl).1
    · exact (cell_in hn 1 rfl).1
    · exact (cell_in hn 2 rfl).1
  · rcases hj3 with rfl | rfl | rfl
    · exact (cell_in hn 3 rfl).1
    · exact (cell_in hn 4 rfl).1
    · exact (cell_in hn 5 rfl).1
theorem iv_flat (l : List Int) : iv l = l.flatMap ic := by
  induction l with
  | nil => rfl
  | cons a l ih => simp only [List.flatMap_cons, ← ih]; rfl
theorem mendKeeps_walk {w : World} {v : Value} {c : List Int} (f : Int) (t : TN) (hc : IHas w v c) (ht : TNOk w t) (hT : Laid w) (hf : -9223372036854775808 ≤ f ∧ f ≤ 9223372036854775807) :
    Calls Tryd.prog 5 #[v, .int .i64 f, .agg t.cells] w (RetV w (.bool true)) := by
  obtain ⟨b, eb⟩ : ∃ b, w.heap.size = b := ⟨_, rfl⟩
  have hq := heap_alloc_new w (.cells t.cells 42)
  obtain ⟨W, eW⟩ : ∃ W, w.alloc (.cells t.cells 42) = W := ⟨_, rfl⟩
  have hg : Grows w W := by rw [← eW]; exact bl_alloc (Below.refl _ _) _
  rw [eW, eb] at hq
  have HQ := Lib.hid hq
  have HG := Lib.hid hg
  have HT := Lib.hid hT
  have HF := Lib.hid hf
  have HTK := Lib.hid ht
  have HCU := Lib.hid (cut_any v c W (hc.grows hg))
  clear hc ht hT hf hq hg
  go_enter Tryd.func5, Tryd.ntmps5
  go_wp2_with fail
  refine HCU.out.mono ?_
  rintro e w1 ⟨v1, rfl, hg1, ho1⟩
  have hl8 : (c.take 8).length ≤ 8 := by rw [List.length_take]; omega
  have HCU2 := Lib.hid (cut_any v1 (c.take 8) w1 ho1.has)
  have D1 := Lib.hid (And.intro ho1 (grows_trans _ _ _ HG.out hg1))
  have HL8 := Lib.hid hl8
  have HQ1 := Lib.hid (box_grows HQ.out hg1)
  clear ho1 hg1 hl8 eW
  go_wp2_with fail
  refine HCU2.out.mono ?_
  rintro e w2 ⟨v2, rfl, hg2, ho2⟩
  have D2 := Lib.hid (And.intro ho2 (And.intro hg2 (grows_trans _ _ _ D1.out.2 hg2)))
  have hb2 := box_grows HQ1.out hg2
  obtain ⟨k0, -⟩ := cell_in hb2 0 rfl
  obtain ⟨k1, -⟩ := cell_in hb2 1 rfl
  obtain ⟨k2, -⟩ := cell_in hb2 2 rfl
  have zk := box_lt hb2
  obtain ⟨W3, e3⟩ : ∃ W3, w2.alloc (.cells #[.int .u64 (t.s : Int), .slice t.ea t.en t.ec, .slice t.da t.dn t.dc, .int .u64 (t.s : Int), .slice t.ea t.en t.ec, .slice t.da t.dn t.dc] 42) = W3 := ⟨_, rfl⟩
  have hg3 : Grows w2 W3 := by rw [← e3]; exact bl_alloc (Below.refl _ _) _
  have HOU := Lib.hid (ours_any (w := W3) (l := [t, t]) (by rw [← e3]; exact two_turns w2 t _) (by simp))
  have G3 := Lib.hid (And.intro hg3 (grows_trans _ _ _ D2.out.2.2 hg3))
  clear hb2 ho2 hg2 hg3
  go_wp2_with fail
  refine HOU.out.mono ?_
  rintro e w4 ⟨v4, rfl, hg4, ho4⟩
  have D4 := Lib.hid (And.intro (gown_rows kindTurn.len ho4) (And.intro (grows_trans _ _ _ G3.out.1 hg4) (grows_trans _ _ _ G3.out.2 hg4)))
  clear hg4 ho4 k0 k1 k2 zk e3
  have hown1 : GOwn ic 1 2 w4 W.heap.size v1 (c.take 8) := by
    have h1 := own_grows D1.out.1 (grows_trans _ _ _ D2.out.2.1 D4.out.2.1)
    rw [iv_flat] at h1
    exact h1
  have HRU := Lib.hid (run_any f hown1 (Nat.le_trans HL8.out (by decide)) D4.out.1 (fun x hx => by
    have : x = t := by simpa using hx
    rw [this]
    exact HTK.out.grows D4.out.2.2) (by simp) (HT.out.grows D4.out.2.2) HF.out)
  clear hown1
  go_wp2_with fail
  refine HRU.out.mono ?_
  rintro e w5 ⟨⟨v5, rfl⟩, hg5⟩
  have D5 := Lib.hid (And.intro (grows_trans _ _ _ D4.out.2.1 hg5) (grows_trans _ _ _ D4.out.2.2 hg5))
  have h8 := List.take_take (i := 8) (j := 8) (l := c)
  rw [Nat.min_self] at h8
  have hsame := same_any v1 v2 (c.take 8) (c.take 8) w5 ((D1.out.1.has.grows D2.out.2.1).grows D5.out.1) (by have := D2.out.1.has.grows D5.out.1; rw [h8] at this; exact this) (Nat.le_trans HL8.out (by decide)) (Nat.le_trans HL8.out (by decide))
  rw [decide_eq_true rfl] at hsame
  have HSA := Lib.hid hsame
  clear hg5 h8 hsame
  go_wp2_with fail
  refine HSA.out.mono ?_
  rintro e w6 ⟨rfl, hg6⟩
  have G6 := Lib.hid (grows_trans _ _ _ D5.out.2 hg6)
  clear hg6
  go_wp2_with fail
  refine (mendWorks_any w6 (HT.out.grows G6.out)).mono ?_
  rintro e w7 ⟨rfl, hg7⟩
  have G7 := Lib.hid (grows_trans _ _ _ G6.out hg7)
  clear hg7
  go_wp2_with fail
  go_ret
  exact ⟨rfl, G7.out⟩
end Go.Proofs.YthdcmchjlpkkaaaDoor.Tr
