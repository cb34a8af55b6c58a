/- sort.Search at a closure with three captured variables. -/
import Derived.Test.YtkihhdoejpjbbaaChg
namespace Go.Proofs.Ytkihhdoejpjbbaa
open Go.RowKit Go.Sort
set_option maxHeartbeats 1000000
set_option maxRecDepth 100000

/-- What Search finds, of whatever test: the one ahead fails, this one does not. -/
def Found (P : Nat → Bool) (n k : Nat) : Prop := k ≤ n ∧ (0 < k → P (k - 1) = false) ∧ (k < n → P k = true)
theorem search_any (c1 c2 c3 : Value) (n : Nat) (P : Nat → Bool) (w : World) (hn : n ≤ 1000000)
    (hcall : ∀ W, Grows w W → ∀ h, h < n → Calls Try.prog 77 #[.int .i64 (h : Int), c1, c2, c3] W (RetV W (.bool (P h)))) :
    Calls Try.prog 70 #[.int .i64 (n : Int), .func (.func 77) #[] #[c1, c2, c3]] w (fun e w' => ∃ k : Nat, e = .returned (.int .i64 (k : Int)) ∧ Found P n k ∧ Grows w w') := by
  have HC := Lib.hid hcall
  clear hcall
  go_enter Try.func70, Try.ntmps70
  go_wp2_with fail
  go_loopw [5, 6] (fun iv jv wr => ∃ i j : Nat, iv = .int .i64 (i : Int) ∧ jv = .int .i64 (j : Int) ∧ i ≤ j ∧ j ≤ n ∧ (0 < i → P (i - 1) = false) ∧ (j < n → P j = true) ∧ Grows w wr) (fun iv jv _ => (intOf jv).toNat - (intOf iv).toNat)
  case atStart => exact ⟨0, n, rfl, rfl, Nat.zero_le _, Nat.le_refl _, fun h => absurd h (by omega), fun h => absurd h (by omega), Below.refl _ _⟩
  case round =>
    obtain ⟨i, j, rfl, rfl, hij, hjn, hi, hj, hg⟩ := hrel
    have HI := Lib.hid hi
    have HJ := Lib.hid hj
    have HG := Lib.hid hg
    clear hi hj hg
    by_cases hlt : i < j
    · obtain ⟨h, hh⟩ : ∃ h, (i + j) / 2 = h := ⟨_, rfl⟩
      have h1 : i ≤ h := by omega
      have h2 : h < j := by omega
      have hc := HC.out wr HG.out h (by omega)
      have e1 : IntKind.u64.wrap ((i : Int) + (j : Int)) = (i : Int) + (j : Int) := by rw [IntKind.wrap_u64]; omega
      have e2 : ((i : Int) + (j : Int)) / 2 = (h : Int) := by omega
      have e3 : IntKind.i64.wrap (h : Int) = (h : Int) := IntWalk.i64_in _ (by omega)
      clear hh
      cases hp : P h
      · rw [hp] at hc
        have HCC := Lib.hid hc
        have HP := Lib.hid hp
        clear hc hp
        go_wp2_with fail
        refine (HCC.out).mono ?_
        rintro e w2 ⟨rfl, hb⟩
        have HG2 := Lib.hid (grows_trans _ _ _ HG.out hb)
        clear hb
        go_wp2_with fail
        go_roundw
        case rel => exact ⟨h + 1, j, by go_num, rfl, by omega, hjn, fun _ => by simpa using HP.out, HJ.out, HG2.out⟩
        case measure => simp [intOf]; omega
      · rw [hp] at hc
        have HCC := Lib.hid hc
        have HP := Lib.hid hp
        clear hc hp
        go_wp2_with fail
        refine (HCC.out).mono ?_
        rintro e w2 ⟨rfl, hb⟩
        have HG2 := Lib.hid (grows_trans _ _ _ HG.out hb)
        clear hb
        go_wp2_with fail
        go_roundw
        case rel => exact ⟨i, h, rfl, rfl, h1, by omega, HI.out, fun _ => HP.out, HG2.out⟩
        case measure => simp [intOf]; omega
    · obtain rfl : i = j := by omega
      go_wp2_with fail
      go_ret
      exact ⟨i, rfl, ⟨hjn, HI.out, HJ.out⟩, HG.out⟩
end Go.Proofs.Ytkihhdoejpjbbaa
