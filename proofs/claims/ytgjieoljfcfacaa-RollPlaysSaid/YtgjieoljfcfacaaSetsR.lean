/- Sets of nodes as lists: the document's in, Of (printed by setsr.py out of XSets). -/
import Derived.Test.YtgjieoljfcfacaaNodes
import Derived.Test.YtgjieoljfcfacaaRows2
namespace Go.Proofs.Ytgjieoljfcfacaa
open Go.RowKit Go.Sort
set_option maxHeartbeats 1000000
set_option maxRecDepth 100000

theorem Try.infoInt : (Try.prog.info? 3).map (fun i => (i.zero, i.size, i.bytes)) = some (some (.int .i64 0), 1, 8) := by kernel_rfl
def iv (l : List Int) : List Value := l.map fun x => Value.int .i64 x
theorem iv_length (l : List Int) : (iv l).length = l.length := by simp [iv]
theorem iv_snoc (l : List Int) (k : Int) : iv l ++ [.int .i64 k] = iv (l ++ [k]) := by simp [iv]
theorem iv_one (l : List Int) : ∀ u ∈ iv l, u.oneCell' = true := by
  intro u hu
  simp [iv] at hu
  obtain ⟨x, _, rfl⟩ := hu
  rfl
abbrev IOwn (w : World) (base : Nat) (v : Value) (l : List Int) : Prop := w.ownsRow base 3 1 v l.length (iv l)
/-- The slice v holds the integers l. -/
def IHas (w : World) (v : Value) (l : List Int) : Prop := (l = [] ∧ ∃ a cap, v = .slice a 0 cap) ∨ ∃ g o cap, v = .slice (some ⟨g, o, none⟩) l.length cap ∧ g < w.heap.size ∧ ∀ i, (h : i < l.length) → w.cell? ⟨g, o + i, none⟩ = some (.int .i64 l[i])
theorem IHas.grows {w w' : World} {v : Value} {l : List Int} (h : IHas w v l) (hg : Grows w w') : IHas w' v l := by
  rcases h with h | ⟨g, o, cap, h1, h2, h3⟩
  · exact .inl h
  · exact .inr ⟨g, o, cap, h1, Nat.lt_of_lt_of_le h2 hg.size, fun i hi => (hg.cell (p := ⟨g, o + i, none⟩) h2).trans (h3 i hi)⟩
theorem IOwn.has {w : World} {base : Nat} {v : Value} {l : List Int} (h : IOwn w base v l) : IHas w v l := by
  rcases h.2 with ⟨h1, h2⟩ | ⟨g, cap, cur, hv, hb, hg, _⟩
  · exact .inl ⟨List.eq_nil_of_length_eq_zero h2, none, 0, h1⟩
  · refine .inr ⟨g, 0, cap, hv, (Array.getElem?_eq_some_iff.1 hg).1, fun i hi => ?_⟩
    subst hv
    rw [Nat.zero_add, h.cellAt i (by omega)]
    simp [iv, hi]
theorem iown_empty (w : World) (T : TypeId) (hT : T = 3) : IOwn (w.alloc (.cells #[] T)) w.heap.size (.slice (some ⟨w.heap.size, 0, none⟩) 0 0) [] := by
  subst hT
  exact World.ownsRow_lit w #[] 0 (Nat.le_refl _) (by decide) rfl

/-- Is a node on a list? -/
def inL (l : List Int) (i : Int) : Bool := l.contains i
theorem in_any (v : Value) (l : List Int) (i : Int) (w : World) (h : IHas w v l) (hm : l.length ≤ 1000000) :
    Calls Try.prog 28 #[v, .int .i64 i] w (fun e w' => e = .returned (.bool (inL l i)) ∧ w = w') := by
  rcases h with ⟨rfl, a, cap, rfl⟩ | ⟨g, o, cap, rfl, hg, hc⟩
  · go_enter Try.func28, Try.ntmps28
    go_wp2_with fail
    go_loop [5] (fun k => k = .int .i64 0) (fun _ => 0)
    case atStart => rfl
    case round =>
      subst hrel
      go_wp2_with fail
      go_ret
      exact ⟨rfl, rfl⟩
  · obtain ⟨n, en⟩ : ∃ n, l.length = n := ⟨_, rfl⟩
    rw [en] at hm ⊢
    have HC := Lib.hid hc
    have EN := Lib.hid en
    clear hc en
    go_enter Try.func28, Try.ntmps28
    go_wp2_with fail
    go_loop [5] (fun kv => ∃ k : Nat, kv = .int .i64 (k : Int) ∧ k ≤ n ∧ (l.take k).contains i = false) (fun kv => n - (intOf kv).toNat)
    case atStart => exact ⟨0, rfl, Nat.zero_le _, rfl⟩
    case round =>
      obtain ⟨k, rfl, hk, hno⟩ := hrel
      have HNO := Lib.hid hno
      clear hno
      by_cases hlt : k < n
      · have hkl : k < l.length := by rw [EN.out]; exact hlt
        have c := HC.out k hkl
        have ht := List.take_succ_eq_append_getElem hkl
        obtain ⟨x, ex⟩ : ∃ x, l[k] = x := ⟨_, rfl⟩
        rw [ex] at c ht
        have HX := Lib.hid ex
        have HT := Lib.hid ht
        clear ht ex
        by_cases hx : x = i
        · have hb : (x == i) = true := by simp [hx]
          have hmem : inL l i = true := by
            rw [inL, List.contains_iff_mem, ← hx, ← HX.out]
            exact List.getElem_mem hkl
          have HM := Lib.hid hmem
          clear hx hmem
          go_wp2_with fail
          go_ret
          exact ⟨ret_bool HM.out.symm, rfl⟩
        · have hb : (x == i) = false := by simp [hx]
          have hno2 : (l.take (k + 1)).contains i = false := by
            rw [HT.out]
            have := HNO.out
            simp only [← Bool.not_eq_true, List.contains_iff_mem, List.mem_append, List.mem_singleton] at this ⊢
            rintro (h1 | h1)
            · exact this h1
            · exact hx h1.symm
          have HN2 := Lib.hid hno2
          clear hx hno2
          go_wp2_with fail
          go_round
          case rel => exact ⟨k + 1, by go_num, by omega, HN2.out⟩
          case measure => simp [intOf]; omega
      · have hkn : k = n := by omega
        subst hkn
        have hno2 : inL l i = false := by
          have := HNO.out
          rwa [List.take_of_length_le (by rw [EN.out]; exact Nat.le_refl _)] at this
        have HN2 := Lib.hid hno2
        clear hno2
        go_wp2_with fail
        go_ret
        exact ⟨ret_bool HN2.out.symm, rfl⟩

/-- The set of the nodes below k that are on a list. -/
def ofTo (l : List Int) : Nat → Nat
  | 0 => 0
  | k + 1 => if l.contains (k : Int) then ofTo l k + 2 ^ k else ofTo l k
def ofN (l : List Int) : Nat := ofTo l 64
theorem ofTo_lt (l : List Int) (k : Nat) : ofTo l k < 2 ^ k := by
  induction k with
  | zero => simp [ofTo]
  | succ k ih =>
    unfold ofTo
    split
    · rw [Nat.pow_succ]; omega
    · rw [Nat.pow_succ]; omega
theorem ofTo_bit (l : List Int) (k i : Nat) : (ofTo l k).testBit i = (decide (i < k) && l.contains (i : Int)) := by
  induction k with
  | zero => simp [ofTo]
  | succ k ih =>
    have hlt := ofTo_lt l k
    unfold ofTo
    by_cases hik : i = k
    · subst hik
      split
      · rename_i hc
        rw [Nat.add_comm, Nat.testBit_two_pow_add_eq, ih]
        simp_all
      · rename_i hc
        rw [ih]
        simp_all
    · have e : decide (i < k + 1) = decide (i < k) := by rw [decide_eq_decide]; omega
      split
      · rw [e, ← ih]
        rcases Nat.lt_or_ge i k with h | h
        · rw [Nat.add_comm, Nat.testBit_two_pow_add_gt h]
        · have h1 : ofTo l k + 2 ^ k < 2 ^ i := by
            have h2 : 2 ^ (k + 1) ≤ 2 ^ i := Nat.pow_le_pow_right (by omega) (by omega)
            rw [Nat.pow_succ] at h2
            omega
          rw [Nat.testBit_lt_two_pow h1, Nat.testBit_lt_two_pow (Nat.lt_of_lt_of_le hlt (Nat.pow_le_pow_right (by omega) h))]
      · rw [e, ih]
theorem ofN_lt (l : List Int) : ofN l < 18446744073709551616 := by
  have := ofTo_lt l 64
  simpa [ofN] using this

theorem rof_any (v : Value) (l : List Int) (w : World) (h : IHas w v l) (hm : l.length ≤ 1000000) :
    Calls Try.prog 23 #[v] w (fun e w' => e = .returned (.int .u64 (ofN l : Int)) ∧ w = w') := by
  have hcl := fun (i : Nat) => in_any v l (i : Int) w h hm
  have HCL := Lib.hid hcl
  clear hcl h
  go_enter Try.func23, Try.ntmps23
  go_wp2_with fail
  go_loop [3, 4] (fun s i => ∃ k : Nat, i = .int .i64 (k : Int) ∧ k ≤ 64 ∧ s = .int .u64 (ofTo l k : Int)) (fun _ i => 64 - (intOf i).toNat)
  case atStart => exact ⟨0, rfl, by omega, rfl⟩
  case round =>
    obtain ⟨k, rfl, hk, rfl⟩ := hrel
    by_cases hlt : k < 64
    · have hc := HCL.out k
      have hst : ofTo l (k + 1) = if inL l (k : Int) then ofTo l k + 2 ^ k else ofTo l k := rfl
      have h1 := ofTo_lt l k
      have h2 : 2 ^ (k + 1) ≤ 2 ^ 64 := Nat.pow_le_pow_right (by omega) (by omega)
      rw [Nat.pow_succ] at h2
      have hpw := fun W => power_any k hlt W
      cases hb : inL l (k : Int)
      · rw [hb] at hc hst
        have HC := Lib.hid hc
        have HS := Lib.hid hst
        clear hc hst hb hpw h1 h2
        go_wp2_with (go_at_call 28; refine (HC.out).mono ?_; rintro e w' ⟨rfl, rfl⟩)
        go_round
        case rel => exact ⟨k + 1, by go_num, by omega, by rw [HS.out]; rfl⟩
        case measure => simp [intOf]; omega
      · rw [hb] at hc hst
        obtain ⟨q, hq⟩ : ∃ q, 2 ^ k = q := ⟨_, rfl⟩
        rw [hq] at hst h1 h2 hpw
        obtain ⟨z, hz⟩ : ∃ z, ofTo l k = z := ⟨_, rfl⟩
        rw [hz] at hst h1 ⊢
        have h3 : z + q < 18446744073709551616 := by omega
        have HC := Lib.hid hc
        have HS := Lib.hid hst
        have HP := Lib.hid hpw
        clear hc hst hb hpw hq hz h2
        go_wp2_with (first | (go_at_call 28; refine (HC.out).mono ?_; rintro e w' ⟨rfl, rfl⟩) | (go_at_call 29; refine (HP.out _).mono ?_; rintro e w' ⟨rfl, rfl⟩))
        go_round
        case rel => exact ⟨k + 1, by go_num, by omega, by rw [HS.out, if_pos trivial]; go_num⟩
        case measure => simp [intOf]; omega
    · obtain rfl : k = 64 := by omega
      go_wp2_with fail
      go_ret
      exact ⟨rfl, rfl⟩
end Go.Proofs.Ytgjieoljfcfacaa
