/- Sets of nodes as lists: the document's Without; what these come to as bits. -/
import Derived.Test.YtgjieoljfcfacaaDoorSetsT
namespace Go.Proofs.YtgjieoljfcfacaaDoor
open Go.RowKit Go.Sort
set_option maxHeartbeats 1000000
set_option maxRecDepth 100000

def offL (l : List Int) (all : List Int) : List Int := all.filter fun i => !inL l i
theorem offL_take (l all : List Int) (k : Nat) (h : k < all.length) : offL l (all.take (k + 1)) = if inL l all[k] then offL l (all.take k) else offL l (all.take k) ++ [all[k]] := by
  unfold offL
  rw [List.take_succ_eq_append_getElem h, List.filter_append]
  simp only [List.filter_cons, List.filter_nil]
  cases inL l all[k] <;> simp
theorem listN_length (s : Nat) : (listN s).length ≤ 64 := listTo_length s 64
theorem offL_length (l all : List Int) : (offL l all).length ≤ all.length := List.length_filter_le _ _
def withoutN (s : Nat) (l : List Int) : Nat := ofN (offL l (listN s))

theorem iown_cases {w : World} {base : Nat} {v : Value} {l : List Int} (h : IOwn w base v l) : (l = [] ∧ v = .slice none 0 0) ∨ ∃ g cap, v = .slice (some ⟨g, 0, none⟩) l.length cap ∧ base ≤ g ∧ g < w.heap.size ∧ ∀ i, (h : i < l.length) → w.cell? ⟨g, i, none⟩ = some (.int .i64 l[i]) := by
  rcases h.2 with ⟨h1, h2⟩ | ⟨g, cap, cur, hv, hb, hg, _⟩
  · exact .inl ⟨List.eq_nil_of_length_eq_zero h2, h1⟩
  · refine .inr ⟨g, cap, hv, hb, (Array.getElem?_eq_some_iff.1 hg).1, fun i hi => ?_⟩
    subst hv
    rw [h.cellAt i (by omega)]
    simp [iv, hi]

theorem rwithout_any (s : Nat) (v : Value) (l : List Int) (w : World) (hs : s < 18446744073709551616) (h : IHas w v l) (hm : l.length ≤ 1000000) :
    Calls Tryd.prog 57 #[.int .u64 (s : Int), v] w (fun e w' => e = .returned (.int .u64 (withoutN s l : Int)) ∧ Grows w w') := by
  obtain ⟨i0, hi, hz0, hz1, hz2⟩ := info_parts Tryd.infoInt
  have hcl := fun W (hg : Grows w W) (i : Int) => in_any v l i W (h.grows hg) hm
  have HCL := Lib.hid hcl
  clear hcl h
  go_enter Tryd.func57, Tryd.ntmps57
  go_wp2_with fail
  refine (rlist_any s hs _).mono ?_
  rintro e w1 ⟨va, rfl, hg1, ho1⟩
  have hlen := listN_length s
  have hfin : withoutN s l = ofN (offL l (listN s)) := rfl
  obtain ⟨all, eall⟩ : ∃ a, listN s = a := ⟨_, rfl⟩
  rw [eall] at ho1 hlen hfin
  have HF := Lib.hid hfin
  have HG := Lib.hid (grows_trans _ _ _ (bl_alloc (Below.refl _ _) _) hg1)
  have hown0 : IOwn w1 w.heap.size (.slice (some ⟨w.heap.size, 0, none⟩) 0 0) [] := by
    exact (Chg.ofGrows (S := fun _ => False) hg1).own (iown_empty w _ rfl) (fun _ _ h => h)
  have HO0 := Lib.hid hown0
  have hw1 : w.heap.size < w1.heap.size := Nat.lt_of_lt_of_le (by simp) hg1.size
  clear eall hfin hg1 hown0
  rcases iown_cases ho1 with ⟨rfl, rfl⟩ | ⟨g, cap, rfl, hbase, hg, hc⟩
  · clear ho1
    go_wp2_with fail
    go_loopw [5, 7] (fun kv i wr => kv = .slice (some ⟨w.heap.size, 0, none⟩) 0 0 ∧ i = .int .i64 0 ∧ wr = w1) (fun _ _ _ => 0)
    case atStart => exact ⟨rfl, rfl, rfl⟩
    case round =>
      obtain ⟨rfl, rfl, rfl⟩ := hrel
      have hcall := rof_any _ [] wr HO0.out.has (by simp)
      have HC := Lib.hid hcall
      clear hcall
      go_wp2_with (go_at_call 78; refine (HC.out).mono ?_; rintro e w' ⟨rfl, rfl⟩)
      go_ret
      exact ⟨by rw [HF.out]; rfl, HG.out⟩
  · obtain ⟨n, en⟩ : ∃ n, all.length = n := ⟨_, rfl⟩
    rw [en] at hlen ⊢
    have hgne : g ≠ w.heap.size := by simp at hbase; omega
    have HC := Lib.hid hc
    have EN := Lib.hid en
    clear hc en ho1 hbase
    go_wp2_with fail
    go_loopw [5, 7] (fun kv i wr => ∃ k : Nat, i = .int .i64 (k : Int) ∧ k ≤ n ∧ Chg (fun b => b = w.heap.size) w1 wr ∧ IOwn wr w.heap.size kv (offL l (all.take k)) ∧ (∀ b, kv.ownBlock = some b → b = w.heap.size ∨ w1.heap.size ≤ b)) (fun _ i _ => n - (intOf i).toNat)
    case atStart => exact ⟨0, rfl, Nat.zero_le _, Chg.refl _ _, HO0.out, fun b hb => .inl (by simpa [Value.ownBlock] using hb.symm)⟩
    case round =>
      obtain ⟨k, rfl, hk, hch, hown, hblk⟩ := hrel
      have hgr : Grows w wr := (HG.out : Below w.heap.size w w1).trans (hch.toBelow (by omega) (fun b hb => by omega))
      have HGR := Lib.hid hgr
      have HCH := Lib.hid hch
      have HO := Lib.hid hown
      have HB := Lib.hid hblk
      clear hgr hch hown hblk
      by_cases hlt : k < n
      · have hkl : k < all.length := by rw [EN.out]; exact hlt
        have c := HCH.out.cellAt (HC.out k hkl) hgne
        have ht := offL_take l all k hkl
        have hol : (offL l (all.take k)).length ≤ k := Nat.le_trans (offL_length _ _) (by simp; omega)
        obtain ⟨x, ex⟩ : ∃ x, all[k] = x := ⟨_, rfl⟩
        rw [ex] at c ht
        have hcall := HCL.out wr HGR.out x
        clear ex
        cases hb : inL l x
        · rw [hb] at ht hcall
          have HT := Lib.hid ht
          have HCALL := Lib.hid hcall
          clear ht hcall hb
          go_wp2_with (first | (go_at_call 77; refine (HCALL.out).mono ?_; rintro e w' ⟨rfl, rfl⟩) | (at_builtin; refine wpList_append_lies _ rfl _ _ 61 rfl w.heap.size 3 i0 _ 1 8 Tryd.underlying61 hi hz0 hz1 hz2 rfl (by decide) _ (offL l (all.take k)).length (iv (offL l (all.take k))) rfl (HO.out.alloc _) ⟨wr.heap.size, 0, none⟩ 1 1 [.int .i64 x] rfl rfl ?c1 ?c2 (by decide) ?c3 ?c4 ?c5 (wr.heap.size + 1) ?c6 ?_))
          case c1 => exact World.news_of_block (heap_alloc_new wr (.cells #[.int .i64 x] 3))
          case c2 => intro u hu; simp at hu; subst hu; rfl
          case c3 => unfold maxLen; omega
          case c4 => omega
          case c5 => have := HGR.out.size; simp; omega
          case c6 => simp
          intro gg cc w2 hown2 hgrow hat hlt2
          rw [iv_snoc] at hown2
          have hwr := HCH.out.size
          have hch2 : Chg (fun b => b = w.heap.size) w1 w2 := by
            have h1 := (HCH.out.alloc (.cells #[.int .i64 x] 3))
            refine ⟨hgrow.os.trans h1.os, hgrow.tape.trans h1.tape, hgrow.output.trans h1.output, Nat.le_trans h1.size hgrow.size, fun b hb hne => ?_⟩
            rw [hgrow.block b (Nat.lt_of_lt_of_le hb h1.size) (fun hc => by
                rcases HB.out b hc.symm with h | h
                · exact hne h
                · omega)]
            exact h1.block b hb hne
          have HO2 := Lib.hid hown2
          have HC2 := Lib.hid hch2
          have HAT := Lib.hid hat
          clear hown2 hgrow hch2 hat
          go_wp2_with fail
          go_roundw
          case rel =>
            refine ⟨k + 1, by go_num, by omega, HC2.out, ?_, ?_⟩
            · rw [HT.out, if_neg (by simp)]
              show World.ownsRow _ _ _ _ _ _ _
              rw [List.length_append]
              exact HO2.out
            · intro b hb
              simp only [Value.ownBlock, Option.some.injEq] at hb
              subst hb
              rcases HAT.out with h | h
              · exact HB.out _ h
              · right; omega
          case measure => simp [intOf]; omega
        · rw [hb] at ht hcall
          have HT := Lib.hid ht
          have HCALL := Lib.hid hcall
          clear ht hcall hb
          go_wp2_with (first | (go_at_call 77; refine (HCALL.out).mono ?_; rintro e w' ⟨rfl, rfl⟩))
          go_roundw
          case rel => exact ⟨k + 1, by go_num, by omega, HCH.out, by rw [HT.out, if_pos trivial]; exact HO.out, HB.out⟩
          case measure => simp [intOf]; omega
      · have hkn : k = n := by omega
        subst hkn
        have hall : all.take k = all := List.take_of_length_le (by rw [EN.out]; exact Nat.le_refl _)
        have ho2 := HO.out
        rw [hall] at ho2
        have hcall := rof_any _ _ wr ho2.has (by have := offL_length l all; rw [EN.out] at this; omega)
        have HCALL := Lib.hid hcall
        clear hall ho2 hcall
        go_wp2_with (go_at_call 78; refine (HCALL.out).mono ?_; rintro e w' ⟨rfl, rfl⟩)
        go_ret
        exact ⟨by rw [HF.out]; rfl, HGR.out⟩

/-! What these come to as bits. -/
theorem mem_listN (s : Nat) (i : Int) : i ∈ listN s ↔ hasN s i = true := by
  unfold listN
  rw [List.mem_filterMap]
  constructor
  · rintro ⟨k, hk, he⟩
    split at he
    · cases he; assumption
    · cases he
  · intro h
    have h2 := h
    unfold hasN at h2
    simp only [Bool.and_eq_true, decide_eq_true_eq] at h2
    refine ⟨i.toNat, List.mem_range.2 (by omega), ?_⟩
    rw [show ((i.toNat : Nat) : Int) = i by omega, if_pos h]
theorem inL_listN (s : Nat) (i : Int) : inL (listN s) i = hasN s i := by
  rw [Bool.eq_iff_iff, inL, List.contains_iff_mem, mem_listN]
theorem ofN_bit (l : List Int) (i : Nat) : (ofN l).testBit i = (decide (i < 64) && inL l (i : Int)) := ofTo_bit l 64 i
theorem hasN_nat (s i : Nat) : hasN s (i : Int) = (decide (i < 64) && s.testBit i) := by
  unfold hasN
  congr 1
  rw [decide_eq_decide]
  omega
theorem ofN_listN (s : Nat) (hs : s < 18446744073709551616) : ofN (listN s) = s := by
  apply Nat.eq_of_testBit_eq
  intro i
  rw [ofN_bit, inL_listN, hasN_nat]
  by_cases h : i < 64
  · simp [h]
  · have : s < 2 ^ i := Nat.lt_of_lt_of_le (show s < 2 ^ 64 by simpa using hs) (Nat.pow_le_pow_right (by omega) (by omega))
    rw [Nat.testBit_lt_two_pow this]
    simp
theorem withoutN_bit (s : Nat) (l : List Int) (i : Nat) : (withoutN s l).testBit i = (decide (i < 64) && s.testBit i && !inL l (i : Int)) := by
  unfold withoutN
  rw [ofN_bit]
  have : inL (offL l (listN s)) (i : Int) = (hasN s (i : Int) && !inL l (i : Int)) := by
    rw [Bool.eq_iff_iff]
    unfold offL
    rw [inL, List.contains_iff_mem, List.mem_filter, mem_listN]
    simp
  rw [this, hasN_nat]
  cases decide (i < 64) <;> simp
theorem andNot_bit (a b i : Nat) (hb : b < 18446744073709551616) : (a &&& (18446744073709551615 - b)).testBit i = (a.testBit i && (decide (i < 64) && !b.testBit i)) := by
  rw [Nat.testBit_and]
  congr 1
  have h9 := Nat.testBit_two_pow_sub_succ (n := 64) (x := b) (by simpa using hb) i
  rw [show 2 ^ 64 - (b + 1) = 18446744073709551615 - b by omega] at h9
  exact h9
theorem without_list (s t : Nat) (ht : t < 18446744073709551616) : withoutN s (listN t) = s &&& (18446744073709551615 - t) := by
  apply Nat.eq_of_testBit_eq
  intro i
  rw [withoutN_bit, andNot_bit _ _ _ ht, inL_listN, hasN_nat]
  cases decide (i < 64) <;> simp
end Go.Proofs.YtgjieoljfcfacaaDoor
