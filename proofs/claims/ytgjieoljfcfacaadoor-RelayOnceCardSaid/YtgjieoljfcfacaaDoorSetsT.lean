/- Sets of nodes as lists: the document's List, in, Of, Without. -/
import Derived.Test.YtgjieoljfcfacaaDoorHasT
import Derived.Test.YtgjieoljfcfacaaDoorRows2
namespace Go.Proofs.YtgjieoljfcfacaaDoor
open Go.RowKit Go.Sort
set_option maxHeartbeats 1000000
set_option maxRecDepth 100000

theorem Tryd.infoInt : (Tryd.prog.info? 3).map (fun i => (i.zero, i.size, i.bytes)) = some (some (.int .i64 0), 1, 8) := by kernel_rfl
def iv (l : List Int) : List Value := l.map fun x => Value.int .i64 x
theorem iv_length (l : List Int) : (iv l).length = l.length := by simp [iv]
theorem iv_snoc (l : List Int) (k : Int) : iv l ++ [.int .i64 k] = iv (l ++ [k]) := by simp [iv]
theorem iv_one (l : List Int) : ∀ u ∈ iv l, u.oneCell' = true := by
  intro u hu
  simp [iv] at hu
  obtain ⟨x, _, rfl⟩ := hu
  rfl
abbrev IOwn (w : World) (base : Nat) (v : Value) (l : List Int) : Prop := w.ownsRow base 3 1 v l.length (iv l)
/-- The slice v holds the integers l. -/
def IHas (w : World) (v : Value) (l : List Int) : Prop := (l = [] ∧ ∃ a cap, v = .slice a 0 cap) ∨ ∃ g o cap, v = .slice (some ⟨g, o, none⟩) l.length cap ∧ g < w.heap.size ∧ ∀ i, (h : i < l.length) → w.cell? ⟨g, o + i, none⟩ = some (.int .i64 l[i])
theorem IHas.grows {w w' : World} {v : Value} {l : List Int} (h : IHas w v l) (hg : Grows w w') : IHas w' v l := by
  rcases h with h | ⟨g, o, cap, h1, h2, h3⟩
  · exact .inl h
  · exact .inr ⟨g, o, cap, h1, Nat.lt_of_lt_of_le h2 hg.size, fun i hi => (hg.cell (p := ⟨g, o + i, none⟩) h2).trans (h3 i hi)⟩
theorem IOwn.has {w : World} {base : Nat} {v : Value} {l : List Int} (h : IOwn w base v l) : IHas w v l := by
  rcases h.2 with ⟨h1, h2⟩ | ⟨g, cap, cur, hv, hb, hg, _⟩
  · exact .inl ⟨List.eq_nil_of_length_eq_zero h2, none, 0, h1⟩
  · refine .inr ⟨g, 0, cap, hv, (Array.getElem?_eq_some_iff.1 hg).1, fun i hi => ?_⟩
    subst hv
    rw [Nat.zero_add, h.cellAt i (by omega)]
    simp [iv, hi]
theorem iown_empty (w : World) (T : TypeId) (hT : T = 3) : IOwn (w.alloc (.cells #[] T)) w.heap.size (.slice (some ⟨w.heap.size, 0, none⟩) 0 0) [] := by
  subst hT
  exact World.ownsRow_lit w #[] 0 (Nat.le_refl _) (by decide) rfl

/-- The nodes of a set, rising. -/
def listN (s : Nat) : List Int := (List.range 64).filterMap fun (i : Nat) => if hasN s i then some (i : Int) else none
def listTo (s k : Nat) : List Int := (List.range k).filterMap fun (i : Nat) => if hasN s i then some (i : Int) else none
theorem listTo_succ (s k : Nat) : listTo s (k + 1) = if hasN s k then listTo s k ++ [(k : Int)] else listTo s k := by
  unfold listTo
  rw [List.range_succ, List.filterMap_append]
  simp only [List.filterMap_cons, List.filterMap_nil]
  cases hasN s (k : Int) <;> simp
theorem listTo_length (s k : Nat) : (listTo s k).length ≤ k := by
  unfold listTo
  exact Nat.le_trans (List.length_filterMap_le _ _) (by simp)

theorem rlist_any (s : Nat) (hs : s < 18446744073709551616) (w : World) :
    Calls Tryd.prog 56 #[.int .u64 (s : Int)] w (fun e w' => ∃ v, e = .returned v ∧ Grows w w' ∧ IOwn w' w.heap.size v (listN s)) := by
  obtain ⟨i0, hi, hz0, hz1, hz2⟩ := info_parts Tryd.infoInt
  have hcl := fun (k : Nat) W => rhas_any s (k : Int) hs W
  have HCL := Lib.hid hcl
  clear hcl
  go_enter Tryd.func56, Tryd.ntmps56
  go_wp2_with fail
  go_loopw [3, 4] (fun v i wr => ∃ k : Nat, i = .int .i64 (k : Int) ∧ k ≤ 64 ∧ Grows w wr ∧ IOwn wr w.heap.size v (listTo s k)) (fun _ i _ => 64 - (intOf i).toNat)
  case atStart => exact ⟨0, rfl, by omega, bl_alloc (Below.refl _ _) _, iown_empty w _ rfl⟩
  case round =>
    obtain ⟨k, rfl, hk, hgr, hown⟩ := hrel
    have HG := Lib.hid hgr
    have HO := Lib.hid hown
    have hl := listTo_length s k
    clear hgr hown
    by_cases hlt : k < 64
    · have hc := HCL.out k
      have hst := listTo_succ s k
      cases hb : hasN s (k : Int)
      · rw [hb] at hc hst
        have HC := Lib.hid hc
        have HS := Lib.hid hst
        clear hc hst hb
        go_wp2_with (go_at_call 76; refine (HC.out _).mono ?_; rintro e w' ⟨rfl, rfl⟩)
        go_roundw
        case rel => exact ⟨k + 1, by go_num, by omega, HG.out, by rw [HS.out]; exact HO.out⟩
        case measure => simp [intOf]; omega
      · rw [hb] at hc hst
        have HC := Lib.hid hc
        have HS := Lib.hid hst
        clear hc hst hb
        go_wp2_with (first | (go_at_call 76; refine (HC.out _).mono ?_; rintro e w' ⟨rfl, rfl⟩) | (at_builtin; refine wpList_append_own _ rfl _ _ 61 rfl w.heap.size 3 i0 _ 1 8 Tryd.underlying61 hi hz0 hz1 hz2 rfl (by decide) _ (listTo s k).length (iv (listTo s k)) rfl (HO.out.alloc _) ⟨wr.heap.size, 0, none⟩ 1 1 [.int .i64 (k : Int)] rfl rfl ?c1 ?c2 ?c3 ?c4 ?c5 ?_))
        case c1 => exact World.news_of_block (heap_alloc_new wr (.cells #[.int .i64 (k : Int)] 3))
        case c2 => intro u hu; simp at hu; subst hu; rfl
        case c3 => unfold maxLen; omega
        case c4 => omega
        case c5 => have := HG.out.size; simp; omega
        intro v' w1 hown2 hgrow _
        rw [iv_snoc] at hown2
        have hg2 : Grows w w1 := grows_of_grownBy (bl_alloc HG.out _) hgrow (fun kk hkk => (HO.out.lt kk hkk).1)
        have HO2 := Lib.hid hown2
        have HG2 := Lib.hid hg2
        clear hown2 hgrow hg2
        go_wp2_with fail
        go_roundw
        case rel =>
          refine ⟨k + 1, by go_num, by omega, HG2.out, ?_⟩
          rw [HS.out, if_pos trivial]
          have := HO2.out
          rw [show (listTo s k).length + 1 = (listTo s k ++ [(k : Int)]).length by simp] at this
          exact this
        case measure => simp [intOf]; omega
    · obtain rfl : k = 64 := by omega
      go_wp2_with fail
      go_ret
      exact ⟨_, rfl, HG.out, HO.out⟩

/-- Is a node on a list? -/
def inL (l : List Int) (i : Int) : Bool := l.contains i
theorem in_any (v : Value) (l : List Int) (i : Int) (w : World) (h : IHas w v l) (hm : l.length ≤ 1000000) :
    Calls Tryd.prog 77 #[v, .int .i64 i] w (fun e w' => e = .returned (.bool (inL l i)) ∧ w = w') := by
  rcases h with ⟨rfl, a, cap, rfl⟩ | ⟨g, o, cap, rfl, hg, hc⟩
  · go_enter Tryd.func77, Tryd.ntmps77
    go_wp2_with fail
    go_loop [5] (fun k => k = .int .i64 0) (fun _ => 0)
    case atStart => rfl
    case round =>
      subst hrel
      go_wp2_with fail
      go_ret
      exact ⟨rfl, rfl⟩
  · obtain ⟨n, en⟩ : ∃ n, l.length = n := ⟨_, rfl⟩
    rw [en] at hm ⊢
    have HC := Lib.hid hc
    have EN := Lib.hid en
    clear hc en
    go_enter Tryd.func77, Tryd.ntmps77
    go_wp2_with fail
    go_loop [5] (fun kv => ∃ k : Nat, kv = .int .i64 (k : Int) ∧ k ≤ n ∧ (l.take k).contains i = false) (fun kv => n - (intOf kv).toNat)
    case atStart => exact ⟨0, rfl, Nat.zero_le _, rfl⟩
    case round =>
      obtain ⟨k, rfl, hk, hno⟩ := hrel
      have HNO := Lib.hid hno
      clear hno
      by_cases hlt : k < n
      · have hkl : k < l.length := by rw [EN.out]; exact hlt
        have c := HC.out k hkl
        have ht := List.take_succ_eq_append_getElem hkl
        obtain ⟨x, ex⟩ : ∃ x, l[k] = x := ⟨_, rfl⟩
        rw [ex] at c ht
        have HX := Lib.hid ex
        have HT := Lib.hid ht
        clear ht ex
        by_cases hx : x = i
        · have hb : (x == i) = true := by simp [hx]
          have hmem : inL l i = true := by
            rw [inL, List.contains_iff_mem, ← hx, ← HX.out]
            exact List.getElem_mem hkl
          have HM := Lib.hid hmem
          clear hx hmem
          go_wp2_with fail
          go_ret
          exact ⟨ret_bool HM.out.symm, rfl⟩
        · have hb : (x == i) = false := by simp [hx]
          have hno2 : (l.take (k + 1)).contains i = false := by
            rw [HT.out]
            have := HNO.out
            simp only [← Bool.not_eq_true, List.contains_iff_mem, List.mem_append, List.mem_singleton] at this ⊢
            rintro (h1 | h1)
            · exact this h1
            · exact hx h1.symm
          have HN2 := Lib.hid hno2
          clear hx hno2
          go_wp2_with fail
          go_round
          case rel => exact ⟨k + 1, by go_num, by omega, HN2.out⟩
          case measure => simp [intOf]; omega
      · have hkn : k = n := by omega
        subst hkn
        have hno2 : inL l i = false := by
          have := HNO.out
          rwa [List.take_of_length_le (by rw [EN.out]; exact Nat.le_refl _)] at this
        have HN2 := Lib.hid hno2
        clear hno2
        go_wp2_with fail
        go_ret
        exact ⟨ret_bool HN2.out.symm, rfl⟩

/-- The set of the nodes below k that are on a list. -/
def ofTo (l : List Int) : Nat → Nat
  | 0 => 0
  | k + 1 => if l.contains (k : Int) then ofTo l k + 2 ^ k else ofTo l k
def ofN (l : List Int) : Nat := ofTo l 64
theorem ofTo_lt (l : List Int) (k : Nat) : ofTo l k < 2 ^ k := by
  induction k with
  | zero => simp [ofTo]
  | succ k ih =>
    unfold ofTo
    split
    · rw [Nat.pow_succ]; omega
    · rw [Nat.pow_succ]; omega
theorem ofTo_bit (l : List Int) (k i : Nat) : (ofTo l k).testBit i = (decide (i < k) && l.contains (i : Int)) := by
  induction k with
  | zero => simp [ofTo]
  | succ k ih =>
    have hlt := ofTo_lt l k
    unfold ofTo
    by_cases hik : i = k
    · subst hik
      split
      · rename_i hc
        rw [Nat.add_comm, Nat.testBit_two_pow_add_eq, ih]
        simp_all
      · rename_i hc
        rw [ih]
        simp_all
    · have e : decide (i < k + 1) = decide (i < k) := by rw [decide_eq_decide]; omega
      split
      · rw [e, ← ih]
        rcases Nat.lt_or_ge i k with h | h
        · rw [Nat.add_comm, Nat.testBit_two_pow_add_gt h]
        · have h1 : ofTo l k + 2 ^ k < 2 ^ i := by
            have h2 : 2 ^ (k + 1) ≤ 2 ^ i := Nat.pow_le_pow_right (by omega) (by omega)
            rw [Nat.pow_succ] at h2
            omega
          rw [Nat.testBit_lt_two_pow h1, Nat.testBit_lt_two_pow (Nat.lt_of_lt_of_le hlt (Nat.pow_le_pow_right (by omega) h))]
      · rw [e, ih]
theorem ofN_lt (l : List Int) : ofN l < 18446744073709551616 := by
  have := ofTo_lt l 64
  simpa [ofN] using this

theorem rof_any (v : Value) (l : List Int) (w : World) (h : IHas w v l) (hm : l.length ≤ 1000000) :
    Calls Tryd.prog 78 #[v] w (fun e w' => e = .returned (.int .u64 (ofN l : Int)) ∧ w = w') := by
  have hcl := fun (i : Nat) => in_any v l (i : Int) w h hm
  have HCL := Lib.hid hcl
  clear hcl h
  go_enter Tryd.func78, Tryd.ntmps78
  go_wp2_with fail
  go_loop [3, 4] (fun s i => ∃ k : Nat, i = .int .i64 (k : Int) ∧ k ≤ 64 ∧ s = .int .u64 (ofTo l k : Int)) (fun _ i => 64 - (intOf i).toNat)
  case atStart => exact ⟨0, rfl, by omega, rfl⟩
  case round =>
    obtain ⟨k, rfl, hk, rfl⟩ := hrel
    by_cases hlt : k < 64
    · have hc := HCL.out k
      have hst : ofTo l (k + 1) = if inL l (k : Int) then ofTo l k + 2 ^ k else ofTo l k := rfl
      have h1 := ofTo_lt l k
      have h2 : 2 ^ (k + 1) ≤ 2 ^ 64 := Nat.pow_le_pow_right (by omega) (by omega)
      rw [Nat.pow_succ] at h2
      have hpw := fun W => power_any k hlt W
      cases hb : inL l (k : Int)
      · rw [hb] at hc hst
        have HC := Lib.hid hc
        have HS := Lib.hid hst
        clear hc hst hb hpw h1 h2
        go_wp2_with (go_at_call 77; refine (HC.out).mono ?_; rintro e w' ⟨rfl, rfl⟩)
        go_round
        case rel => exact ⟨k + 1, by go_num, by omega, by rw [HS.out]; rfl⟩
        case measure => simp [intOf]; omega
      · rw [hb] at hc hst
        obtain ⟨q, hq⟩ : ∃ q, 2 ^ k = q := ⟨_, rfl⟩
        rw [hq] at hst h1 h2 hpw
        obtain ⟨z, hz⟩ : ∃ z, ofTo l k = z := ⟨_, rfl⟩
        rw [hz] at hst h1 ⊢
        have h3 : z + q < 18446744073709551616 := by omega
        have HC := Lib.hid hc
        have HS := Lib.hid hst
        have HP := Lib.hid hpw
        clear hc hst hb hpw hq hz h2
        go_wp2_with (first | (go_at_call 77; refine (HC.out).mono ?_; rintro e w' ⟨rfl, rfl⟩) | (go_at_call 89; refine (HP.out _).mono ?_; rintro e w' ⟨rfl, rfl⟩))
        go_round
        case rel => exact ⟨k + 1, by go_num, by omega, by rw [HS.out, if_pos trivial]; go_num⟩
        case measure => simp [intOf]; omega
    · obtain rfl : k = 64 := by omega
      go_wp2_with fail
      go_ret
      exact ⟨rfl, rfl⟩
end Go.Proofs.YtgjieoljfcfacaaDoor
