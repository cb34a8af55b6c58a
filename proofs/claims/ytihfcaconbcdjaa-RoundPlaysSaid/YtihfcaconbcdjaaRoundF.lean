/- The walk of a round's Who: the nodes of all readings, as bits of a word, in whatever order the map tells them. -/
import Derived.Test.YtihfcaconbcdjaaRoundB
import Derived.Laws.BitsAllLaws
namespace Go.Proofs.Ytihfcaconbcdjaa
open Go.RowKit Go.Sort Go.Maps
set_option maxHeartbeats 1000000
set_option maxRecDepth 100000

/-- The nodes of some readings, as bits. -/
def whoN (ks : List (Int × Int)) : Nat := ks.foldl (fun s p => s ||| 2 ^ p.1.toNat) 0
theorem whoN_snoc (ks : List (Int × Int)) (p : Int × Int) : whoN (ks ++ [p]) = whoN ks ||| 2 ^ p.1.toNat := by unfold whoN; rw [List.foldl_append]; rfl
theorem who_fold_bit (ks : List (Int × Int)) (s j : Nat) : (ks.foldl (fun s p => s ||| 2 ^ p.1.toNat) s).testBit j = (s.testBit j || ks.any fun p => p.1.toNat == j) := by
  induction ks generalizing s with
  | nil => simp
  | cons p ks ih =>
    rw [List.foldl_cons, ih, Nat.testBit_or, Nat.testBit_two_pow, List.any_cons, Bool.or_assoc]
    congr 1
theorem whoN_bit (ks : List (Int × Int)) (j : Nat) : (whoN ks).testBit j = ks.any fun p => p.1.toNat == j := by
  unfold whoN
  rw [who_fold_bit, Nat.zero_testBit, Bool.false_or]
theorem whoN_perm {ks es : List (Int × Int)} (h : ks.Perm es) : whoN ks = whoN es := by
  apply Nat.eq_of_testBit_eq
  intro j
  rw [whoN_bit, whoN_bit, Bool.eq_iff_iff, List.any_eq_true, List.any_eq_true]
  exact ⟨fun ⟨p, hp, e⟩ => ⟨p, h.mem_iff.1 hp, e⟩, fun ⟨p, hp, e⟩ => ⟨p, h.mem_iff.2 hp, e⟩⟩
/-- All keys are nodes. -/
def Keys64 (es : List (Int × Int)) : Prop := ∀ p ∈ es, 0 ≤ p.1 ∧ p.1 < 64
theorem whoN_lt {ks : List (Int × Int)} (h : Keys64 ks) : whoN ks < 18446744073709551616 := by
  have : whoN ks < 2 ^ 64 := by
    apply Nat.lt_pow_two_of_testBit
    intro j hj
    rw [whoN_bit, List.any_eq_false]
    intro p hp
    have := h p hp
    simp
    omega
  simpa using this

theorem round_who (w : World) {b m : Nat} {no : Int} {es : List (Int × Int)} (h : RoundAt w b m no es) (hk : Keys64 es) :
    Calls Try.prog 29 #[.pointer (some ⟨b, 0, none⟩)] w (RetV w (.int .u64 (whoN es))) := by
  obtain ⟨D, ho, hR⟩ := h.own
  have c1 := h.c1
  have HR := Lib.hid hR
  have HK := Lib.hid hk
  clear h hR hk
  go_enter Try.func29, Try.ntmps29
  go_wp2_with (first | (at_range; refine wpList_range_own _ rfl _ 72 rfl 3 2 readLaw Try.underlying72 _ m (Maps.size D) D rfl ho ?_; intro w0 hrg0 hg0 hs0))
  go_frame
  go_loopw [3, 4] (fun vs _ wr => ∃ (left : Lit → Bool) (cnt : Nat) (ks : List (Int × Int)), wr.ranges Try.prog 3 (plainElem Try.prog 2) m w.heap.size (Maps.size D) D left cnt ∧ Coll es left ks ∧ vs = .int .u64 (whoN ks) ∧ Below w.heap.size w wr) (fun _ _ wr => wr.rangeLeft m w.heap.size)
  case atStart => exact ⟨_, _, [], hrg0, Coll.start HR.out, rfl, ⟨hg0.os, hg0.tape, hg0.output, hg0.size, fun k hk => hg0.block k hk (by simp)⟩⟩
  case round =>
    obtain ⟨left, cnt, ks, hrg, hC, rfl, hG⟩ := hrel
    have HC := Lib.hid hC
    have HG := Lib.hid hG
    clear hC hG
    go_wp2_with (first | (at_next; refine wpList_next_ranges_ii _ rfl _ rfl 3 2 .i64 .i64 readLaw Try.underlying3 Try.underlying2 m w.heap.size (Maps.size D) _ _ _ rfl hrg ?_ ?_))
    · intro _ hl0
      have hp := whoN_perm (HC.out.perm HR.out hl0)
      rw [hp]
      clear hp hl0
      go_wp2
      go_ret
      exact ⟨rfl, HG.out⟩
    · intro x c w1 cnt1 hwx hwc hlx hat hrg1 hlt hg1 hs1 hen
      have hC1 := HC.out.step HR.out hlx hat
      have hG1 : Below w.heap.size w w1 := HG.out.grown hg1 HG.out.size (fun k hk => by cases hk; exact Nat.le_refl _)
      have hx := HK.out _ (HR.out.of_at hat)
      obtain ⟨n, rfl⟩ := Int.eq_ofNat_of_zero_le hx.1
      have hn : n < 64 := by have := hx.2; omega
      have hks : Keys64 ks := fun p hp => HK.out p (HC.out.sub p hp)
      have hz : 2 ^ n < 18446744073709551616 := by
        have : 2 ^ n < 2 ^ 64 := Nat.pow_lt_pow_right (by omega) hn
        simpa using this
      have hor := u64_or_nat (whoN ks) (2 ^ n) (whoN_lt hks) hz
      have hb : IntKind.u64.wrap (2 ^ n) = ((2 ^ n : Nat) : Int) := by
        rw [IntKind.wrap_u64]
        have h3 : ((2 : Int) ^ n) = ((2 ^ n : Nat) : Int) := by simp
        rw [h3]
        generalize (2 ^ n : Nat) = z at hz
        omega
      have hsn : whoN ks ||| 2 ^ n = whoN (ks ++ [((n : Int), c)]) := (whoN_snoc ks ((n : Int), c)).symm
      rw [hsn] at hor
      obtain ⟨z, ez⟩ : ∃ z, (2 ^ n : Nat) = z := ⟨_, rfl⟩
      obtain ⟨s, es'⟩ : ∃ s, whoN ks = s := ⟨_, rfl⟩
      obtain ⟨t, et⟩ : ∃ t, whoN (ks ++ [((n : Int), c)]) = t := ⟨_, rfl⟩
      rw [ez, es', et] at hor
      rw [ez] at hb
      rw [es']
      have HC1 := Lib.hid hC1
      have HG1 := Lib.hid hG1
      have HT := Lib.hid et
      have hm1 : w1.rangeLeft m w.heap.size < wr.rangeLeft m w.heap.size := by rw [hrg1.left_eq, hrg.left_eq]; exact hlt
      clear hC1 hG1 hs1 hks hsn ez es' et hz hx hlx hat hwx hwc
      go_wp2
      go_roundw
      case rel => exact ⟨_, _, _, hrg1, HC1.out, by rw [HT.out], HG1.out⟩
      case measure => exact hm1
end Go.Proofs.Ytihfcaconbcdjaa
