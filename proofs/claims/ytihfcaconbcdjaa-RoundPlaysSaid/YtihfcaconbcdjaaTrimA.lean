/- Slices of int64: what a slice holds; how many are left out at each end. -/
import Derived.Test.YtihfcaconbcdjaaRows2
import Derived.Test.YtihfcaconbcdjaaSortShelf
import Derived.Test.YtihfcaconbcdjaaCloneShelf
import Derived.Lib.SlKeysI
namespace Go.Proofs.Ytihfcaconbcdjaa
open Go.RowKit Go.Sort
set_option maxHeartbeats 1000000
set_option maxRecDepth 100000

theorem Try.infoI64 : (Try.prog.info? 2).map (fun i => (i.zero, i.size, i.bytes)) = some (some (.int .i64 0), 1, 8) := by kernel_rfl
def iv (l : List Int) : List Value := l.map fun x => Value.int .i64 x
theorem iv_length (l : List Int) : (iv l).length = l.length := by simp [iv]
theorem iv_snoc (l : List Int) (k : Int) : iv l ++ [.int .i64 k] = iv (l ++ [k]) := by simp [iv]
theorem iv_append (l m : List Int) : iv l ++ iv m = iv (l ++ m) := by simp [iv]
theorem iv_one (l : List Int) : ∀ u ∈ iv l, u.oneCell' = true := by
  intro u hu
  simp [iv] at hu
  obtain ⟨x, _, rfl⟩ := hu
  rfl
abbrev IOwn (w : World) (base : Nat) (v : Value) (l : List Int) : Prop := w.ownsRow base 2 1 v l.length (iv l)
/-- The slice v holds the integers l. -/
def IHas (w : World) (v : Value) (l : List Int) : Prop := (l = [] ∧ ∃ a cap, v = .slice a 0 cap) ∨ ∃ g o cap, v = .slice (some ⟨g, o, none⟩) l.length cap ∧ l.length ≤ cap ∧ g < w.heap.size ∧ ∀ i, (h : i < l.length) → w.cell? ⟨g, o + i, none⟩ = some (.int .i64 l[i])
theorem IHas.grows {w w' : World} {v : Value} {l : List Int} (h : IHas w v l) (hg : Grows w w') : IHas w' v l := by
  rcases h with h | ⟨g, o, cap, h1, h0, h2, h3⟩
  · exact .inl h
  · exact .inr ⟨g, o, cap, h1, h0, Nat.lt_of_lt_of_le h2 hg.size, fun i hi => (hg.cell (p := ⟨g, o + i, none⟩) h2).trans (h3 i hi)⟩
theorem IOwn.has {w : World} {base : Nat} {v : Value} {l : List Int} (h : IOwn w base v l) : IHas w v l := by
  rcases h.2 with ⟨h1, h2⟩ | ⟨g, cap, cur, hv, hb, hg, h4, _⟩
  · exact .inl ⟨List.eq_nil_of_length_eq_zero h2, none, 0, h1⟩
  · refine .inr ⟨g, 0, cap, hv, h4, (Array.getElem?_eq_some_iff.1 hg).1, fun i hi => ?_⟩
    subst hv
    rw [Nat.zero_add, h.cellAt i (by omega)]
    simp [iv, hi]
theorem iown_empty (w : World) (T : TypeId) (hT : T = 2) : IOwn (w.alloc (.cells #[] T)) w.heap.size (.slice (some ⟨w.heap.size, 0, none⟩) 0 0) [] := by
  subst hT
  exact World.ownsRow_lit w #[] 0 (Nat.le_refl _) (by decide) rfl
def Rng (l : List Int) : Prop := ∀ x ∈ l, -9223372036854775808 ≤ x ∧ x ≤ 9223372036854775807

/-- How many are left out at each end. -/
def faultI (m f : Int) : Int := if m < 1 ∨ f < 1 then 0 else min f ((m - 1) / 2)
theorem fault_any (m f : Int) (w : World) (hm : -9223372036854775808 ≤ m ∧ m ≤ 9223372036854775807) (hf : -9223372036854775808 ≤ f ∧ f ≤ 9223372036854775807) :
    Calls Try.prog 20 #[.int .i64 m, .int .i64 f] w (fun e w' => e = .returned (.int .i64 (faultI m f)) ∧ w = w') := by
  have hd : IntKind.i64.wrap (m - 1) = (if m = -9223372036854775808 then 9223372036854775807 else m - 1) := by split <;> (rw [wrapEq]; unfold wrap64; omega)
  by_cases h1 : m < 1
  · have e : faultI m f = 0 := by simp [faultI, h1]
    rw [e]
    go_enter Try.func20, Try.ntmps20
    go_wp2
    go_ret
    exact ⟨rfl, rfl⟩
  · by_cases h2 : f < 1
    · have e : faultI m f = 0 := by simp [faultI, h2]
      rw [e]
      go_enter Try.func20, Try.ntmps20
      go_wp2
      go_ret
      exact ⟨rfl, rfl⟩
    · have hw : IntKind.i64.wrap (m - 1) = m - 1 := by rw [hd, if_neg (by omega)]
      have hw2 : wrap64 (m - 1) = m - 1 := by rw [← wrapEq]; exact hw
      have hq : (m - 1).tdiv 2 = (m - 1) / 2 := Int.tdiv_eq_ediv_of_nonneg (by omega)
      have hq2 : wrap64 ((m - 1) / 2) = (m - 1) / 2 := by unfold wrap64; omega
      have e : faultI m f = min f ((m - 1) / 2) := by simp [faultI, h1, h2]
      rw [e]
      go_enter Try.func20, Try.ntmps20
      go_wp2
      go_ret
      exact ⟨rfl, rfl⟩
theorem rfault_any (m f : Int) (w : World) (hm : 0 ≤ m ∧ m ≤ 1000000) (hf : -9223372036854775808 ≤ f ∧ f ≤ 9223372036854775807) :
    Calls Try.prog 21 #[.int .i64 m, .int .i64 f] w (fun e w' => e = .returned (.int .i64 (faultI m f)) ∧ w = w') := by
  obtain ⟨F, eF⟩ : ∃ F, faultI m f = F := ⟨_, rfl⟩
  rw [eF]
  go_enter Try.func21, Try.ntmps21
  go_wp2_with fail
  go_loop [5] (fun tv => ∃ t : Int, tv = .int .i64 t ∧ 0 ≤ t ∧ (t = 0 ∨ t ≤ f) ∧ (t = 0 ∨ 2 * t < m)) (fun tv => (m - intOf tv).toNat)
  case atStart => exact ⟨0, rfl, by omega, .inl rfl, .inl rfl⟩
  case round =>
    obtain ⟨t, rfl, h0, h1, h2⟩ := hrel
    by_cases c1 : t < f
    · by_cases c2 : 2 * t + 2 < m
      · go_wp2_with fail
        go_round
        case rel => exact ⟨t + 1, by go_num, by omega, .inr (by omega), .inr (by omega)⟩
        case measure => simp [intOf]; omega
      · by_cases c3 : 2 * t ≥ m
        · have : F = 0 := by rw [← eF]; unfold faultI; split <;> omega
          subst this
          go_wp2_with fail
          go_ret
          exact ⟨rfl, rfl⟩
        · have : F = t := by rw [← eF]; unfold faultI; split <;> omega
          subst this
          go_wp2_with fail
          go_ret
          exact ⟨rfl, rfl⟩
    · by_cases c3 : 2 * t ≥ m
      · have : F = 0 := by rw [← eF]; unfold faultI; split <;> omega
        subst this
        go_wp2_with fail
        go_ret
        exact ⟨rfl, rfl⟩
      · have : F = t := by rw [← eF]; unfold faultI; split <;> omega
        subst this
        go_wp2_with fail
        go_ret
        exact ⟨rfl, rfl⟩
end Go.Proofs.Ytihfcaconbcdjaa
