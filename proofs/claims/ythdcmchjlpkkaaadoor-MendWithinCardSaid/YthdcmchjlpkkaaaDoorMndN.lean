/- MndN: texts laid one behind the other. -/
import Derived.Test.YthdcmchjlpkkaaaDoorBase
import Derived.Laws.BitsAllLaws
import Derived.LoopTactic
import Derived.Test.YthdcmchjlpkkaaaDoorRows2
import Derived.Test.YthdcmchjlpkkaaaDoorNumL
import Derived.Lib.TrailingZeros
import Derived.Test.YthdcmchjlpkkaaaDoorMisc
import Derived.Test.YthdcmchjlpkkaaaDoorGRow
import Derived.Test.YthdcmchjlpkkaaaDoorRange3
import Derived.Shelf.Spec.TrailingZeros
import Derived.OwnWalkIn
/- Sets of nodes as bits of a word: whether a node is in one, as the program and the document tell it. -/
namespace Go.Proofs.YthdcmchjlpkkaaaDoor
open Go.RowKit Go.Sort
set_option maxHeartbeats 1000000
set_option maxRecDepth 100000

/-- A node's bit; 0 of no node. -/
def bitN (i : Int) : Nat := if 0 ≤ i ∧ i < 64 then 2 ^ i.toNat else 0
theorem bitN_lt (i : Int) : bitN i < 18446744073709551616 := by
  unfold bitN
  split
  · have : 2 ^ i.toNat < 2 ^ 64 := Nat.pow_lt_pow_right (by omega) (by omega)
    simpa using this
  · omega

theorem bit_any (i : Int) (w : World) : Calls Tryd.prog 23 #[.int .i64 i] w (fun e w' => e = .returned (.int .u64 (bitN i)) ∧ w = w') := by
  by_cases h : 0 ≤ i ∧ i < 64
  · obtain ⟨n, rfl⟩ := Int.eq_ofNat_of_zero_le h.1
    have hn : n < 64 := by omega
    have hb : IntKind.u64.wrap (2 ^ n) = (bitN (n : Int) : Int) := by
      have h1 := bitN_lt (n : Int)
      have h2 : bitN (n : Int) = 2 ^ n := by unfold bitN; rw [if_pos (by omega)]; simp
      rw [h2] at h1 ⊢
      rw [IntKind.wrap_u64, Int.natCast_pow]
      have h3 : ((2 : Int) ^ n) = ((2 ^ n : Nat) : Int) := by simp
      rw [show ((2 : Nat) : Int) = 2 from rfl, h3]
      omega
    have H := Lib.hid hb
    clear hb
    go_enter Tryd.func23, Tryd.ntmps23
    go_wp2
    go_ret
    exact ⟨by rw [← H.out]; rfl, rfl⟩
  · have hb : bitN i = 0 := by unfold bitN; rw [if_neg h]
    have H := Lib.hid hb
    clear hb
    by_cases h0 : i < 0
    · clear h
      go_enter Tryd.func23, Tryd.ntmps23
      go_wp2
      go_ret
      exact ⟨by rw [H.out]; rfl, rfl⟩
    · have h1 : 64 ≤ i := by omega
      clear h
      go_enter Tryd.func23, Tryd.ntmps23
      go_wp2
      go_ret
      exact ⟨by rw [H.out]; rfl, rfl⟩

/-- Is a node in a set? -/
def hasN (s : Nat) (i : Int) : Bool := decide (0 ≤ i ∧ i < 64) && s.testBit i.toNat
theorem and_bitN (s : Nat) (i : Int) : (s &&& bitN i = 0) ↔ hasN s i = false := by
  unfold hasN bitN
  by_cases h : 0 ≤ i ∧ i < 64
  · rw [if_pos h, nat_bit]
    rw [decide_eq_true h, Bool.true_and, Nat.testBit_eq_decide_div_mod_eq]
    have h2 : 0 < 2 ^ i.toNat := Nat.pow_pos (by omega)
    rcases Nat.mod_two_eq_zero_or_one (s / 2 ^ i.toNat) with h3 | h3
    · simp [h3]
    · simp [h3]
  · rw [if_neg h]; simp [h]

theorem power_any (i : Nat) (hi : i < 64) (w : World) : Calls Tryd.prog 22 #[.int .i64 (i : Int)] w (fun e w' => e = .returned (.int .u64 ((2 ^ i : Nat) : Int)) ∧ w = w') := by
  go_enter Tryd.func22, Tryd.ntmps22
  go_wp2
  go_loop [3, 4] (fun v j => ∃ k : Nat, k ≤ i ∧ j = .int .i64 k ∧ v = .int .u64 ((2 ^ k : Nat) : Int)) (fun _ j => i - (intOf j).toNat)
  case atStart => exact ⟨0, Nat.zero_le _, rfl, rfl⟩
  case round =>
    obtain ⟨k, hk, rfl, rfl⟩ := hrel
    by_cases hlt : k < i
    · obtain ⟨q, hq⟩ : ∃ q, 2 ^ k = q := ⟨_, rfl⟩
      have hb : 2 ^ (k + 1) < 18446744073709551616 := by
        have : 2 ^ (k + 1) < 2 ^ 64 := Nat.pow_lt_pow_right (by omega) (by omega)
        simpa using this
      have h2 : 2 ^ (k + 1) = q * 2 := by rw [Nat.pow_succ, hq]
      rw [h2] at hb
      have H2 := Lib.hid h2
      rw [hq]
      clear h2 hq
      go_wp2
      go_round
      case rel => exact ⟨k + 1, by omega, by go_num, by rw [H2.out]; go_num⟩
      case measure => simp [intOf]; omega
    · have hkl : k = i := by omega
      subst hkl
      go_wp2
      go_ret
      exact ⟨rfl, rfl⟩

theorem div_bit (s : Nat) (i : Nat) (hi : i < 64) : hasN s i = (s / 2 ^ i % 2 == 1) := by
  unfold hasN
  rw [decide_eq_true (by omega : 0 ≤ (i : Int) ∧ (i : Int) < 64), Bool.true_and, Int.toNat_natCast, Nat.testBit_eq_decide_div_mod_eq]
  rfl

theorem rhas_any (s : Nat) (i : Int) (hs : s < 18446744073709551616) (w : World) : Calls Tryd.prog 10 #[.int .u64 (s : Int), .int .i64 i] w (fun e w' => e = .returned (.bool (hasN s i)) ∧ w = w') := by
  by_cases h : 0 ≤ i ∧ i < 64
  · obtain ⟨n, rfl⟩ := Int.eq_ofNat_of_zero_le h.1
    have hn : n < 64 := by omega
    have hd := div_bit s n hn
    have hp : 0 < 2 ^ n := Nat.pow_pos (by omega)
    obtain ⟨q, hq⟩ : ∃ q, 2 ^ n = q := ⟨_, rfl⟩
    rw [hq] at hd hp
    have hq0 : 0 < (q : Int) := by omega
    have HQ := Lib.hid hq
    have HD := Lib.hid hd
    clear hq hd h
    have hx : 0 ≤ (s : Int) / (q : Int) := Int.ediv_nonneg (by omega) (by omega)
    have hx2 : (s : Int) / (q : Int) ≤ s := Int.ediv_le_self _ (by omega)
    go_enter Tryd.func10, Tryd.ntmps10
    go_wp2_with (first | (go_at_call 22; refine (power_any n hn _).mono ?_; rintro e w' ⟨rfl, rfl⟩; rw [HQ.out]))
    go_ret
    refine ⟨ret_bool ?_, rfl⟩
    rw [HD.out, ← Int.natCast_ediv s q]
    generalize s / q = d
    rw [Bool.eq_iff_iff]
    simp
    omega
  · have hb : hasN s i = false := by unfold hasN; rw [decide_eq_false h]; rfl
    have H := Lib.hid hb
    clear hb
    by_cases h0 : i < 0
    · clear h
      go_enter Tryd.func10, Tryd.ntmps10
      go_wp2
      go_ret
      exact ⟨by rw [H.out]; rfl, rfl⟩
    · have h1 : 64 ≤ i := by omega
      clear h
      go_enter Tryd.func10, Tryd.ntmps10
      go_wp2
      go_ret
      exact ⟨by rw [H.out]; simp, rfl⟩
end Go.Proofs.YthdcmchjlpkkaaaDoor
/- Sets of nodes as lists: the document's List, in, Of, Without. -/
namespace Go.Proofs.YthdcmchjlpkkaaaDoor
open Go.RowKit Go.Sort
set_option maxHeartbeats 1000000
set_option maxRecDepth 100000

/-- The nodes of a set, rising. -/
def listN (s : Nat) : List Int := (List.range 64).filterMap fun (i : Nat) => if hasN s i then some (i : Int) else none
def listTo (s k : Nat) : List Int := (List.range k).filterMap fun (i : Nat) => if hasN s i then some (i : Int) else none
theorem listTo_succ (s k : Nat) : listTo s (k + 1) = if hasN s k then listTo s k ++ [(k : Int)] else listTo s k := by
  unfold listTo
  rw [List.range_succ, List.filterMap_append]
  simp only [List.filterMap_cons, List.filterMap_nil]
  cases hasN s (k : Int) <;> simp
theorem listTo_length (s k : Nat) : (listTo s k).length ≤ k := by
  unfold listTo
  exact Nat.le_trans (List.length_filterMap_le _ _) (by simp)

end Go.Proofs.YthdcmchjlpkkaaaDoor
/- Sets of nodes as lists: the document's Without; what these come to as bits. -/
namespace Go.Proofs.YthdcmchjlpkkaaaDoor
open Go.RowKit Go.Sort
set_option maxHeartbeats 1000000
set_option maxRecDepth 100000

theorem listN_length (s : Nat) : (listN s).length ≤ 64 := listTo_length s 64
/-! What these come to as bits. -/
theorem mem_listN (s : Nat) (i : Int) : i ∈ listN s ↔ hasN s i = true := by
  unfold listN
  rw [List.mem_filterMap]
  constructor
  · rintro ⟨k, hk, he⟩
    split at he
    · cases he; assumption
    · cases he
  · intro h
    have h2 := h
    unfold hasN at h2
    simp only [Bool.and_eq_true, decide_eq_true_eq] at h2
    refine ⟨i.toNat, List.mem_range.2 (by omega), ?_⟩
    rw [show ((i.toNat : Nat) : Int) = i by omega, if_pos h]
theorem hasN_nat (s i : Nat) : hasN s (i : Int) = (decide (i < 64) && s.testBit i) := by
  unfold hasN
  congr 1
  rw [decide_eq_decide]
  omega
end Go.Proofs.YthdcmchjlpkkaaaDoor
/- A set's nodes, rising: the lowest bit, then those of the rest. -/
namespace Go.Proofs.YthdcmchjlpkkaaaDoor
open Go.RowKit Go.Sort
theorem low_shape {x c m : Nat} (h : x = 2 ^ c * (2 * m + 1)) (j : Nat) : (x &&& (x - 1)).testBit j = (x.testBit j && decide (j ≠ c)) ∧ (j < c → x.testBit j = false) ∧ x.testBit c = true := by
  have hp : 0 < 2 ^ c := Nat.pow_pos (by omega)
  have h1 : ∀ j, x.testBit j = (decide (c ≤ j) && (2 * m + 1).testBit (j - c)) := fun j => by rw [h, Nat.testBit_two_pow_mul]
  have h2 : x - 1 = 2 ^ c * (2 * m) + (2 ^ c - 1) := by
    rw [h, Nat.mul_add, Nat.mul_one]
    omega
  have h3 : ∀ j, c ≤ j → (x - 1).testBit j = (2 * m).testBit (j - c) := fun j hj => by
    rw [h2, Nat.testBit_two_pow_mul_add _ (by omega), if_neg (by omega)]
  refine ⟨?_, fun hj => ?_, ?_⟩
  · rw [Nat.testBit_and]
    by_cases hj : c ≤ j
    · rw [h3 j hj, h1 j]
      by_cases he : j = c
      · subst he
        simp
      · obtain ⟨d, rfl⟩ : ∃ d, j = c + (d + 1) := ⟨j - c - 1, by omega⟩
        have e1 : c + (d + 1) - c = d + 1 := by omega
        rw [e1, Nat.testBit_succ, Nat.testBit_succ, show (2 * m + 1) / 2 = m by omega, show 2 * m / 2 = m by omega]
        simp [he]
    · rw [h1 j]
      simp [hj]
  · rw [h1 j]
    simp [show ¬ c ≤ j by omega]
  · rw [h1 c]
    simp
theorem up_listN (s : Nat) : Up (listN s) := by
  unfold listN Up
  refine List.Pairwise.filterMap _ (R := (· < ·)) (fun a b hab x hx y hy => ?_) List.pairwise_lt_range
  split at hx <;> simp at hx
  split at hy <;> simp at hy
  subst hx; subst hy
  omega
theorem ctz_spec (x : Nat) (h0 : x ≠ 0) (h : x < 18446744073709551616) : ∃ m, x = 2 ^ Lib.ctz 64 x * (2 * m + 1) ∧ Lib.ctz 64 x < 64 := by
  obtain ⟨m, hm, hl⟩ := Lib.ctzFrom_spec 64 x (by omega) (by simpa using h)
  have e : Lib.ctz 64 x = Lib.ctzFrom 64 x := by unfold Lib.ctz; rw [if_neg h0]
  rw [e]
  exact ⟨m, hm, hl⟩
/-- The rest, its lowest bit struck. -/
def lowN (x : Nat) : Nat := x &&& (x - 1)
theorem lowN_lt {x : Nat} (h0 : x ≠ 0) : lowN x < x := Nat.lt_of_le_of_lt Nat.and_le_right (by omega)
theorem listN_cons (x : Nat) (h0 : x ≠ 0) (h : x < 18446744073709551616) : listN x = (Lib.ctz 64 x : Int) :: listN (lowN x) := by
  obtain ⟨m, hm, hl⟩ := ctz_spec x h0 h
  obtain ⟨c, ec⟩ : ∃ c, Lib.ctz 64 x = c := ⟨_, rfl⟩
  rw [ec] at hm hl ⊢
  have hs := low_shape hm
  have hin : ∀ y, y ∈ listN (lowN x) ↔ y ∈ listN x ∧ y ≠ (c : Int) := fun y => by
    rw [mem_listN, mem_listN]
    unfold hasN lowN
    rw [(hs y.toNat).1]
    by_cases hy : 0 ≤ y ∧ y < 64
    · have : (y.toNat ≠ c) ↔ (y ≠ (c : Int)) := by omega
      simp [hy, this]
    · simp [hy]
  refine up_ext (up_listN x) (List.pairwise_cons.2 ⟨fun a ha => ?_, up_listN _⟩) fun y => ?_
  · have h1 := (hin a).1 ha
    have h2 := (mem_listN x a).1 h1.1
    unfold hasN at h2
    simp only [Bool.and_eq_true, decide_eq_true_eq] at h2
    apply Decidable.byContradiction
    intro hc
    have h3 : a.toNat < c := by omega
    rw [(hs a.toNat).2.1 h3] at h2
    exact absurd h2.2 (by simp)
  · rw [List.mem_cons, hin]
    by_cases hy : y = (c : Int)
    · subst hy
      simp only [true_or, iff_true]
      rw [mem_listN]
      unfold hasN
      rw [Int.toNat_natCast, (hs c).2.2]
      simp
      omega
    · simp [hy]
theorem listN_zero : listN 0 = [] := by decide
end Go.Proofs.YthdcmchjlpkkaaaDoor
/- The nodes of a set, rising: the program's List, by the lowest bit again and again. -/
namespace Go.Proofs.YthdcmchjlpkkaaaDoor
open Go.RowKit Go.Sort
set_option maxHeartbeats 2000000
set_option maxRecDepth 100000
/-- The library's table lies as its text lays it. -/
abbrev Laid (w : World) : Prop := TabAt 0 Lib.deBruijn64tab w
theorem Laid.at0 {w : World} (h : Laid w) : ∀ i, i < 64 → w.cell? ⟨0, i, none⟩ = some (.int .u8 (Lib.deBruijn64tab.getD i 0)) := fun i hi => h i (by simpa [Lib.deBruijn64tab] using hi)
theorem Laid.lt {w : World} (h : Laid w) : 0 < w.heap.size := block_lt_of_cell (a := ⟨0, 0, none⟩) (h.at0 0 (by decide))
theorem Laid.grows {w w' : World} (h : Laid w) (hg : Grows w w') : Laid w' := fun j hj => (hg.cell (p := ⟨0, j, none⟩) h.lt).trans (h j hj)
theorem Laid.chg {S : Nat → Prop} {w w' : World} (h : Laid w) (hc : Chg S w w') (hS : ¬ S 0) : Laid w' := fun j hj => hc.cellAt (p := ⟨0, j, none⟩) (h j hj) hS
theorem Laid.rec {n : Nat} {w w' : World} (h : Laid w) (hr : Rec n w w') : Laid w' := fun j hj => hr.cell1 (h j hj)
theorem tz64_any (x : Nat) (hx : x < 18446744073709551616) (w : World) (hT : Laid w) :
    Calls Tryd.prog 27 #[.int .u64 (x : Int)] w (fun e w' => e = .returned (.int .i64 (Lib.ctz 64 x : Int)) ∧ w = w') := by
  by_cases h0 : x = 0
  · subst h0
    go_enter Tryd.func27, Tryd.ntmps27
    go_wp2
    go_ret
    exact ⟨rfl, rfl⟩
  · obtain ⟨hlow, hk⟩ := Lib.lowest_bit 64 x h0 (by simpa using hx)
    obtain ⟨hi, htab⟩ := Lib.deBruijn64_at _ hk
    have hcell := hT _ hi
    rw [htab] at hcell
    have key := tz64_key x _ hx h0 hlow
    obtain ⟨k, ek⟩ : ∃ k, Lib.ctz 64 x = k := ⟨_, rfl⟩
    rw [ek] at hk hi hcell key ⊢
    obtain ⟨q, eq⟩ : ∃ q, 2 ^ k * 285870213051353865 % 18446744073709551616 / 288230376151711744 = q := ⟨_, rfl⟩
    rw [eq] at hi hcell key
    clear hlow htab ek eq hT
    have hx0 : ((x : Int) == 0) = false := by simp; omega
    go_enter Tryd.func27, Tryd.ntmps27
    go_wp2_with (simp only [key])
    go_ret
    exact ⟨rfl, rfl⟩
theorem least_any (x : Nat) (hx : x < 18446744073709551616) (h0 : x ≠ 0) (w : World) (hT : Laid w) :
    Calls Tryd.prog 21 #[.int .u64 (x : Int)] w (fun e w' => e = .returned (.int .i64 (Lib.ctz 64 x : Int)) ∧ w = w') := by
  have HT := Lib.hid (tz64_any x hx w hT)
  have hx0 : ((x : Int) == 0) = false := by simp; omega
  clear hT
  go_enter Tryd.func21, Tryd.ntmps21
  go_wp2_with fail
  refine (HT.out).mono ?_
  rintro e w' ⟨rfl, rfl⟩
  go_wp2_with fail
  go_ret
  exact ⟨rfl, rfl⟩
theorem each_any (s : Nat) (w : World) : Calls Tryd.prog 17 #[.int .u64 (s : Int)] w (fun e w' => e = .returned (.func (.func 24) #[] #[.pointer (some ⟨w.heap.size, 0, none⟩)]) ∧ w.alloc (.cells #[.int .u64 (s : Int)] 30) = w') := by
  go_enter Tryd.func17, Tryd.ntmps17
  go_wp2
  go_ret
  exact ⟨rfl, rfl⟩
/-- What a cell of a number holds. -/
def cellN (w : World) (c : Nat) : Nat := match w.cell? ⟨c, 0, none⟩ with | some (.int _ v) => v.toNat | _ => 0
theorem cellN_of {w : World} {c x : Nat} {T : TypeId} (h : w.heap[c]? = some (.cells #[.int .u64 (x : Int)] T (0, 0))) : cellN w c = x := by
  unfold cellN
  rw [(cell_in h 0 rfl).1]
  simp
section
attribute [local go_sem] Oper.semAt_some
theorem each_tells (w : World) (s : Nat) {c : Nat} (I : List Int → World → Prop) (hI : ∀ pre A, I pre A → Laid A) (hs : s < 18446744073709551616) (hc0 : w.heap[c]? = some (.cells #[.int .u64 (s : Int)] 30 (0, 0))) :
    Tells3 Tryd.prog 24 #[.pointer (some ⟨c, 0, none⟩)] (fun x => #[.int .i64 x]) c I (fun pre x _ => (listN s)[pre.length]? = some x) (fun xs => xs = listN s) w := by
  intro l J Jx W hg hJI hJ hJc hJx hY h0
  have HC0 := Lib.hid (box_grows hc0 hg)
  have H0 := Lib.hid h0
  have HI := Lib.hid (fun pre A h => hI pre A (hJI pre A h))
  have HY := Lib.hid hY
  have HJ := Lib.hid hJ
  have HJC := Lib.hid hJc
  have HS := Lib.hid hs
  obtain ⟨z0, -⟩ := cell_in (box_grows hc0 hg) 0 rfl
  clear hY hJ hJc hJx hJI hI h0 hs hc0 hg
  refine callsIn_of_wp Tryd.func24 rfl trivial ?_ rfl
  simp only [Tryd.ntmps24, List.size_toArray, List.length_cons, List.length_nil, Nat.reduceAdd, Nat.reduceSub, Array.replicate_succ, Array.replicate_zero, List.push_toArray, List.append_toArray, List.nil_append, List.cons_append]
  gi_wp2_with fail
  gi_loopw [] (fun wr => ∃ (x : Nat) (pre : List Int), wr.heap[c]? = some (.cells #[.int .u64 (x : Int)] 30 (0, 0)) ∧ x < 18446744073709551616 ∧ pre ++ listN x = listN s ∧ J pre wr) (fun wr => cellN wr c)
  case atStart => exact ⟨s, [], HC0.out, HS.out, rfl, H0.out⟩
  case round =>
    obtain ⟨x, pre, hc, hx, hpre, hj⟩ := hrel
    obtain ⟨c0, -⟩ := cell_in hc 0 rfl
    have zc := box_lt hc
    have hcn := cellN_of hc
    have C0 := Lib.hid hc
    have J0 := Lib.hid hj
    have HP := Lib.hid hpre
    have HX := Lib.hid hx
    by_cases h0 : x = 0
    · subst h0
      clear hc hx hpre hj z0
      gi_wp2_with fail
      go_end0
      exact ⟨⟨_, rfl⟩, .inl ⟨pre, by have := HP.out; rwa [listN_zero, List.append_nil] at this, J0.out⟩⟩
    · have hlc := listN_cons x h0 hx
      have hle := callsIn_wide (n := 8).2 (least_any x hx h0 wr (HI.out _ _ hj))
      obtain ⟨k, ek⟩ : ∃ k, Lib.ctz 64 x = k := ⟨_, rfl⟩
      rw [ek] at hlc hle
      have HLE := Lib.hid hle
      have hge : (listN s)[pre.length]? = some (k : Int) := by rw [← hpre, hlc]; simp
      obtain ⟨fn, tmps, assign, body, hy, hR⟩ := HY.out pre (k : Int) wr hj hge
      have HYR := Lib.hid hR
      have hx0 : ((x : Int) == 0) = false := by simp; omega
      have hx1 : ¬ (x : Int) = 0 := by omega
      have hsub : IntKind.u64.wrap ((x : Int) - 1) = ((x - 1 : Nat) : Int) := by rw [IntKind.wrap_u64]; omega
      have hand := bits_and_u64_nat x (x - 1) hx (by omega)
      have HLT := Lib.hid (lowN_lt h0)
      have HPN := Lib.hid (show (pre ++ [(k : Int)]) ++ listN (lowN x) = listN s by rw [← hpre, hlc]; simp)
      obtain ⟨y, ey⟩ : ∃ y, lowN x = y := ⟨_, rfl⟩
      have ey2 : x &&& (x - 1) = y := ey
      rw [ey2] at hand
      rw [ey] at HLT HPN
      have H0X := Lib.hid h0
      clear hc hx hpre hj z0 hlc hle hR hge ek ey ey2 h0
      gi_wp2_with fail
      refine ⟨trivial, (HLE.out).mono ?_⟩
      rintro e w2 ⟨rfl, rfl⟩
      gi_wp2_with fail
      refine (HYR.out).mono ?_
      rintro e w3 ⟨hcb, ⟨rfl, hj3⟩ | ⟨rfl, hj3⟩⟩
      · have hc3 := hcb.trans C0.out
        have J3 := Lib.hid hj3
        have C3 := Lib.hid hc3
        clear hcb c0 zc
        obtain ⟨c0, c0f⟩ := cell_in hc3 0 rfl
        have zc := box_lt hc3
        clear hc3 hj3
        gi_wp2_with fail
        have hnew := box_setj (j := 0) (v := .int .u64 (y : Int)) C3.out
        refine ⟨⟨y, pre ++ [(k : Int)], hnew, Nat.lt_trans HLT.out HX.out, HPN.out, HJC.out _ _ _ J3.out (Chg.setCell (S := fun k => k = c) (Chg.refl _ _) _ (.inr rfl))⟩, ?_⟩
        rw [cellN_of hnew, hcn]
        exact HLT.out
      · gi_wp2
        refine bodyPost_ret (results_none rfl _ _ _) rfl ?_
        exact ⟨⟨_, rfl⟩, .inr ⟨_, hj3⟩⟩
end
end Go.Proofs.YthdcmchjlpkkaaaDoor
/- The program's nodes.List: a set's nodes, rising, in a row of the call's own. -/
namespace Go.Proofs.YthdcmchjlpkkaaaDoor
open Go.RowKit Go.Sort
set_option maxHeartbeats 2000000
set_option maxRecDepth 100000
abbrev ic (x : Int) : List Value := [.int .i64 x]
theorem wpListIn_append_eq {F : Fence} {n : Nat} {P : Program} (w : World) {ops : Array Oper} {rest : List Oper} {o : Oper} {a : Act} {Q : Exit → Act → World → Prop} (hgd : o.guard = none) (d s : Operand) (t t' : TypeId)
    (ho : o.op = .call { callee := .builtin .append, args := #[d, s], argTypes := #[t, t'] }) (v u : Value) (hd : a.eval d = v) (hs : a.eval s = u) {v' : Value} {w' : World}
    (hr : (Builtin.append_ #[t, t'] o.type #[v, u]).run P w = .ok v' w') (h : wpListIn F n P ops Q rest (a.put o.dst v') w') : wpListIn F n P ops Q (o :: rest) a w := by
  refine wpListIn_plain hgd fun K hK' => ?_
  unfold Oper.wpIn
  refine ⟨?_, ?_⟩
  · simp [Oper.about, ho, resolve, Target.leads, Sem.run_pure]
  · rw [Oper.semAt_plain F _ _ (by rw [ho]; intro c hc'; cases hc')]
    simp [execOp, ho, resolve, invoke, builtin, hd, hs, hr, Result.andThen]
    exact hK' _ _ h
theorem box_grows_own {α : Type} {f : α → List Value} {k : Nat} {E T : TypeId} {w w' : World} {base p : Nat} {v : Value} {l : List α} {cs : Array Value} (hp : w.heap[p]? = some (.cells cs T (0, 0))) (hg : w.grownBy w' v.ownBlock) (ho : GOwn f k E w base v l) (hT : T ≠ E := by decide) : w'.heap[p]? = some (.cells cs T (0, 0)) := by
  rw [hg.block p (box_lt hp) (fun e => by
    obtain ⟨cur, hc⟩ := gown_ty ho e.symm
    rw [hp] at hc
    injection hc with hc
    injection hc with _ hc
    exact hT hc)]
  exact hp
/-- An append to a row of one's own, then a store into a box: what holds no cells stays. -/
theorem stay_app {α : Type} {f : α → List Value} {k base n c p : Nat} {E T : TypeId} {v u0 u : Value} {l : List α} {W2 Wa W6 : World} (hg : Grows W2 Wa) (ho : GOwn f k E Wa base v l) (h6 : Wa.grownBy W6 v.ownBlock) (hp : W6.heap[p]? = some (.cells #[u0] T (0, 0))) (hc : c < base) (hcW : c < W2.heap.size) (hpc : p ≠ c) :
    Stay n c W2 (W6.setCell ⟨p, 0, none⟩ u) := by
  have hc6 : Chg (fun j => j = p) W6 (W6.setCell ⟨p, 0, none⟩ u) := Chg.setCell (S := fun j => j = p) (Chg.refl _ _) _ (.inr rfl)
  refine ⟨fun j o _ hoc hj => ?_, ?_⟩
  · have h1 := box_grows hj hg
    have h2 : W6.heap[j]? = some o := by
      rw [h6.block j (box_lt h1) (fun e => ?_)]
      · exact h1
      · obtain ⟨cur, hcur⟩ := gown_ty ho e.symm
        rw [h1] at hcur
        injection hcur with hcur
        rw [hcur] at hoc
        cases hoc
    rw [hc6.block j (box_lt h2) (fun e => ?_)]
    · exact h2
    · rw [e, hp] at h2
      injection h2 with h2
      rw [← h2] at hoc
      cases hoc
  · have h1 : c < Wa.heap.size := Nat.lt_of_lt_of_le hcW hg.size
    rw [hc6.block c (Nat.lt_of_lt_of_le h1 h6.size) (fun e => hpc e.symm), h6.block c h1 (fun e => by have := (ho.lt c e.symm).1; omega), hg.block c hcW]
section
attribute [local go_sem] Oper.semAt_some
end
end Go.Proofs.YthdcmchjlpkkaaaDoor
