/- Views: the chapter's example; views of both made; lists compared. -/
import Derived.Test.YtkihhdoejpjbbaaViewF
import Derived.ChangeKeysEq
namespace Go.Proofs.Ytkihhdoejpjbbaa
open Go.RowKit Go.Sort
set_option maxHeartbeats 2000000
set_option maxRecDepth 100000

theorem Try.infoI64 : (Try.prog.info? 2).map (fun i => (i.zero, i.size, i.bytes)) = some (some (.int .i64 0), 1, 8) := by kernel_rfl
theorem ViewsAt.below {w w' : World} {base b : Nat} {v : Value} {l : List VW} {e : Ending} {l' : List VW} (h : ViewsAt w base b v l) (hi : Installed w base b v l' e w') (hb : base ≤ w.heap.size) : Below base w w' := by
  obtain ⟨-, v', -, hc, -⟩ := hi
  exact hc.toBelow hb (fun k hk hS => by
    rcases hS with h1 | h1
    · have := h.le; omega
    · have := (h.own.lt k h1).1; omega)

theorem pair_eq (w : World) (a b c d : Int) : (Op.equalIn 10000 43 (.agg #[.int .i64 a, .int .i64 b]) (.agg #[.int .i64 c, .int .i64 d])).run Try.prog w = .ok ((a == c) && (b == d)) w := by
  obtain ⟨i0, hi, -⟩ := info_parts Try.infoPair
  have hc : Try.prog.cellsOf 2 = 1 := by kernel_rfl
  rw [run_equalIn_array w 9999 _ _ Try.underlying43 (show Try.prog.info? 2 = some _ from (Option.map_eq_some_iff.1 Try.infoI64).choose_spec.1), hc]
  have p0 : ∀ (x y : Int), (part 2 #[.int .i64 x, .int .i64 y] (0 * 1)).run Try.prog w = .ok (.int .i64 x) w := fun x y => by kernel_rfl
  have q1 : ∀ (x y : Int), (part 2 #[.int .i64 x, .int .i64 y] 1).run Try.prog w = .ok (.int .i64 y) w := fun x y => by kernel_rfl
  have e1 : ∀ (x y : Int), (Op.equalIn 9999 2 (.int .i64 x) (.int .i64 y)).run Try.prog w = .ok (x == y) w := fun x y => run_equalIn_int w 9998 2 .i64 .i64 x y Try.underlying2
  have r2 : List.range 2 = [0, 1] := rfl
  rw [r2]
  simp only [Op.eqItems, Sem.run_bind, p0, e1, Result.andThen_ok]
  by_cases h1 : a = c
  · subst h1
    by_cases h2 : b = d
    · subst h2; simp [q1, e1]
    · simp [q1, e1, h2]
  · simp [h1]
attribute [go_sem] pair_eq
theorem exSpans : spansN 0 [⟨0, 0, 3⟩, ⟨1, 50, 2⟩, ⟨2, 90, 3⟩] = [(0, 50), (90, -1)] := by decide
theorem exCame : cameN [⟨0, 0, 3⟩, ⟨1, 50, 2⟩, ⟨2, 90, 3⟩] = 1 := by decide
theorem viewWorks_any (w : World) : Calls Try.prog 18 #[] w (RetV w (.bool true)) := by
  go_enter Try.func18, Try.ntmps18
  go_wp2_with fail
  refine (new_any w).mono ?_
  rintro e w1 ⟨rfl, hb1, hv1⟩
  have HB1 := Lib.hid hb1
  have HV1 := Lib.hid hv1
  clear hb1 hv1
  go_wp2_with fail
  refine (install_ok w1 HV1.out (by simp) ⟨0, 0, 3⟩ (.inl rfl) HB1.out.size).mono ?_
  intro e w2 hi2
  have hb2 := HV1.out.below hi2 HB1.out.size
  obtain ⟨rfl, v2, hv2, -, -⟩ := hi2
  have HB2 := Lib.hid (HB1.out.trans hb2)
  have HV2 := Lib.hid hv2
  clear hb2 hv2 HB1 HV1
  go_wp2_with fail
  refine (install_ok w2 HV2.out (by simp) ⟨1, 50, 2⟩ (.inr (by decide)) HB2.out.size).mono ?_
  intro e w3 hi3
  have hb3 := HV2.out.below hi3 HB2.out.size
  obtain ⟨rfl, v3, hv3, -, -⟩ := hi3
  have HB3 := Lib.hid (HB2.out.trans hb3)
  have HV3 := Lib.hid hv3
  clear hb3 hv3 HB2 HV2
  go_wp2_with fail
  refine (install_ok w3 HV3.out (by simp) ⟨2, 90, 3⟩ (.inr (by decide)) HB3.out.size).mono ?_
  intro e w4 hi4
  have hb4 := HV3.out.below hi4 HB3.out.size
  obtain ⟨rfl, v4, hv4, -, -⟩ := hi4
  have HB4 := Lib.hid (HB3.out.trans hb4)
  have HV4 := Lib.hid hv4
  clear hb4 hv4 HB3 HV3
  have hok : AllOk [⟨0, 0, 3⟩, ⟨1, 50, 2⟩, ⟨2, 90, 3⟩] := by
    intro x hx
    simp at hx
    rcases hx with rfl | rfl | rfl <;> (unfold VW.ok; simp)
  go_wp2_with fail
  refine (spans_any w4 HV4.out (by simp) hok 0).mono ?_
  rintro e w5 ⟨v5, rfl, hg5, ho5⟩
  have hcame := came_any w5 (HV4.out.grows hg5) (by simp) hok
  have e1 : cameN (([] ++ [⟨0, 0, 3⟩] ++ [⟨1, 50, 2⟩]) ++ [⟨2, 90, 3⟩]) = 1 := exCame
  rw [e1] at hcame
  have e2 : spansN 0 (([] ++ [⟨0, 0, 3⟩] ++ [⟨1, 50, 2⟩]) ++ [⟨2, 90, 3⟩]) = [(0, 50), (90, -1)] := exSpans
  rw [e2] at ho5
  have HC := Lib.hid hcame
  have HB5 := Lib.hid (HB4.out.trans (hg5.mono HB4.out.size))
  rcases own_rows (f := p2) (k := 2) (fun _ => rfl) rfl ho5 with ⟨h1, -⟩ | ⟨g, cap, rfl, -, -, hg, hat⟩
  · cases h1
  have c00 := hat 0 (by decide) 0 (by decide)
  have c01 := hat 0 (by decide) 1 (by decide)
  have c10 := hat 1 (by decide) 0 (by decide)
  have c11 := hat 1 (by decide) 1 (by decide)
  simp [p2] at c00 c01 c10 c11
  clear hok e1 e2 hcame ho5 hg5 HV4 HB4 hat
  go_wp2_with (go_at_call 22; refine (HC.out).mono ?_; rintro e w6 ⟨rfl, hb⟩)
  go_ret
  exact ⟨rfl, HB5.out.trans (hb.mono HB5.out.size)⟩
end Go.Proofs.Ytkihhdoejpjbbaa
