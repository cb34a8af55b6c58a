/- slices.Clone and slices.BinarySearchFunc at keys. -/
import Derived.Test.YtdmmceclohkkdaaKeyDel
import Derived.Lib.LazyBuf
namespace Go.Proofs.Ytdmmceclohkkdaa
open Go.RowKit Go.Sort
set_option maxHeartbeats 4000000
set_option maxRecDepth 100000

theorem kclone_any {v : Value} {l : List KW} {w : World} (h : KHas w v l) (hm : l.length ≤ 100000) :
    Calls Try.prog 68 #[v] w (fun e w' => ∃ v', e = .returned v' ∧ Grows w w' ∧ KOwn w' w.heap.size v' l) := by
  obtain ⟨i0, hi, hz⟩ : ∃ i, Try.prog.info? 29 = some i ∧ (i.zero, i.size, i.bytes) = (some (.agg #[.int .i64 0, .int .i64 0, .int .u32 0]), 3, 24) := Option.map_eq_some_iff.1 Try.infoKey
  simp only [Prod.mk.injEq] at hz
  obtain ⟨hz0, hz1, hz2⟩ := hz
  obtain ⟨n, en⟩ : ∃ n, l.length = n := ⟨_, rfl⟩
  obtain ⟨a, cap, rfl⟩ := h.len en
  have he := run_eql_slice_nil (P := Try.prog) w 22 29 a n cap Try.underlying22
  cases a with
  | none =>
    have hb : l = [] := by
      rcases h with ⟨h1, _⟩ | ⟨g, o, c, h1, _⟩
      · exact h1
      · simp at h1
    subst hb
    obtain rfl : n = 0 := by simpa using en.symm
    clear h
    go_enter Try.func68, Try.ntmps68
    go_wp2
    go_ret
    exact ⟨_, rfl, Below.refl _ _, World.ownsRow_nil _ _ _ _⟩
  | some a =>
    have hc : ∀ j u, (kvs l)[j]? = some u → w.cell? (a.add j) = some u ∧ a.block < w.heap.size := by
      intro j u hu
      have hj := (List.getElem?_eq_some_iff.1 hu).1
      rw [kvs_length] at hj
      rcases h with ⟨rfl, _⟩ | ⟨g, o, c, h1, _, h3, h4⟩
      · simp at hj
      · simp only [Value.slice.injEq, Option.some.injEq] at h1
        obtain ⟨rfl, -, -⟩ := h1
        refine ⟨?_, h3⟩
        rw [addr_add]
        have h5 := h4 (j / 3) (by omega) (j % 3) (Nat.mod_lt _ (by omega))
        rw [show o + j / 3 * 3 + j % 3 = o + j by omega] at h5
        rw [h5, ← rows_get (f := kc) (k := 3) (fun _ => rfl) l (j / 3) (by omega) (j % 3) (Nat.mod_lt _ (by omega)), show j / 3 * 3 + j % 3 = j by omega]
        exact hu
    have HC := Lib.hid hc
    have HL := Lib.hid en
    have HM := Lib.hid hm
    clear h hc en hm
    go_enter Try.func68, Try.ntmps68
    go_wp2_with (first | (at_builtin; refine wpList_append_own _ rfl _ _ 22 rfl w.heap.size 29 i0 _ 3 24 Try.underlying22 hi hz0 hz1 hz2 rfl (by decide) _ 0 [] rfl ?c0 a n cap (kvs l) rfl ?c1 ?c2 ?c3 ?c4 ?c5 ?c6 ?_))
    case c0 => exact World.ownsRow_lit w #[] 0 (Nat.le_refl _) (by decide) rfl
    case c1 => rw [kvs_length, HL.out]
    case c2 =>
      intro j u hu
      obtain ⟨h1, h2⟩ := HC.out j u hu
      exact ((bl_alloc (Below.refl _ _) _ : Below w.heap.size w _).cell (p := a.add j) (by rw [show (a.add j).block = a.block by unfold Addr.add; split <;> rfl]; exact h2)).trans h1
    case c3 => exact kvs_one l
    case c4 => have := HM.out; have := HL.out; unfold maxLen; omega
    case c5 => have := HM.out; have := HL.out; omega
    case c6 => simp
    intro v' w1 hown hgrow _
    have hg2 : Grows w w1 := grows_of_grownBy (bl_alloc (Below.refl _ _) _) hgrow (by rintro k hk; cases hk; exact Nat.le_refl _)
    have ho : KOwn w1 w.heap.size v' l := by
      show World.ownsRow _ _ _ _ _ _ _
      rw [HL.out]
      simpa using hown
    have HO := Lib.hid ho
    clear hown hgrow ho
    go_wp2_with fail
    go_ret
    exact ⟨v', rfl, hg2, HO.out⟩

/-- What a search finds, of whatever test: the one ahead fails, this one does not. -/
def Found (P : Nat → Bool) (n k : Nat) : Prop := k ≤ n ∧ (0 < k → P (k - 1) = false) ∧ (k < n → P k = true)
/-- Is the key at a place not ahead of this one? -/
def behind (l : List KW) (k : KW) (j : Nat) : Bool := match l[j]? with | some y => !lessK y k | none => true
/-- Is it the key? -/
def hitK (l : List KW) (k : KW) (j : Nat) : Bool := match l[j]? with | some y => decide (cmpK y k = 0) | none => false
theorem mid_facts {i j n : Nat} (hlt : i < j) (hjn : j ≤ n) (hn : n ≤ 100000) : ∃ h, (i ≤ h ∧ h < j) ∧ IntKind.u64.wrap ((i : Int) + (j : Int)) = (i : Int) + (j : Int) ∧ ((i : Int) + (j : Int)) / 2 = (h : Int) ∧ IntKind.i64.wrap (h : Int) = (h : Int) ∧ wrap64 ((i : Int) + (j : Int)) = (i : Int) + (j : Int) ∧ wrap64 (h : Int) = (h : Int) ∧ wrap64 ((h : Int) + 1) = (h : Int) + 1 ∧ (h : Int) < (n : Int) ∧ h < n ∧ (0 : Int) ≤ (h : Int) := by
  refine ⟨(i + j) / 2, ⟨by omega, by omega⟩, by rw [IntKind.wrap_u64]; omega, by omega, IntWalk.i64_in _ (by omega), by unfold wrap64; omega, by unfold wrap64; omega, by unfold wrap64; omega, by omega, by omega, by omega⟩
theorem meas_lo {i h j : Nat} (h1 : i ≤ h) (h2 : h < j) : (intOf (.int .i64 (h : Int))).toNat - (intOf (.int .i64 (i : Int))).toNat < (intOf (.int .i64 (j : Int))).toNat - (intOf (.int .i64 (i : Int))).toNat := by
  simp only [intOf]; omega
theorem meas_hi {i h j : Nat} (h1 : i ≤ h) (h2 : h < j) : (intOf (.int .i64 (j : Int))).toNat - (intOf (.int .i64 ((h : Int) + 1))).toNat < (intOf (.int .i64 (j : Int))).toNat - (intOf (.int .i64 (i : Int))).toNat := by
  simp only [intOf]; omega
theorem ksearch_any {v : Value} {l : List KW} {w : World} (k : KW) (h : KHas w v l) (hm : l.length ≤ 100000) :
    Calls Try.prog 88 #[v, k.val, .func (.func 89) #[] #[]] w (fun e w' => ∃ (n : Nat), e = .returned (.tuple #[.int .i64 (n : Int), .bool (hitK l k n)]) ∧ Found (behind l k) l.length n ∧ Grows w w') := by
  obtain ⟨n, en⟩ : ∃ n, l.length = n := ⟨_, rfl⟩
  obtain ⟨a, cap, rfl⟩ := h.len en
  have hgb : Grows w (w.alloc (.cells #[.int .i64 k.t, .int .i64 k.f, .int .u32 k.s] 29)) := bl_alloc (Below.refl _ _) _
  have HH := Lib.hid (h.grows hgb)
  have HG := Lib.hid hgb
  have hn6 : n ≤ 100000 := by omega
  rw [en]
  have EN := Lib.hid en
  have hbx := heap_alloc_new w (.cells #[.int .i64 k.t, .int .i64 k.f, .int .u32 k.s] 29)
  have HBX := Lib.hid hbx
  have HN := Lib.hid hn6
  clear hgb h hm en hbx hn6
  go_enter Try.func88, Try.ntmps88
  go_wp2_with fail
  obtain ⟨w1, e1⟩ : ∃ w1, w.alloc (.cells #[.int .i64 k.t, .int .i64 k.f, .int .u32 k.s] 29) = w1 := ⟨_, rfl⟩
  rw [e1] at HH HG HBX
  rw [e1]
  clear e1
  go_loopw [9, 10] (fun iv jv wr => ∃ i j : Nat, iv = .int .i64 (i : Int) ∧ jv = .int .i64 (j : Int) ∧ i ≤ j ∧ j ≤ n ∧ (0 < i → behind l k (i - 1) = false) ∧ (j < n → behind l k j = true) ∧ Grows w1 wr) (fun iv jv _ => (intOf jv).toNat - (intOf iv).toNat)
  case atStart => exact ⟨0, n, rfl, rfl, Nat.zero_le _, Nat.le_refl _, fun h => absurd h (by omega), fun h => absurd h (by omega), Below.refl _ _⟩
  case round =>
    obtain ⟨i, j, rfl, rfl, hij, hjn, hi, hj, hg⟩ := hrel
    have hhb := box_grows HBX.out hg
    have hha := HH.out.grows hg
    have z1 : w.heap.size < wr.heap.size := box_lt hhb
    obtain ⟨t0, -⟩ := cell_in hhb 0 rfl
    obtain ⟨t1, -⟩ := cell_in hhb 1 rfl
    obtain ⟨t2, -⟩ := cell_in hhb 2 rfl
    have HI := Lib.hid hi
    have HJ := Lib.hid hj
    have HGG := Lib.hid hg
    have HJN := Lib.hid hjn
    clear hi hj hg hhb
    have hjn := HJN.out
    by_cases hlt : i < j
    · obtain ⟨h, ⟨h1, h2⟩, hfacts⟩ := mid_facts hlt hjn HN.out
      have HFA := Lib.hid hfacts
      clear hfacts
      have hnl : h < l.length := by rw [EN.out]; omega
      obtain ⟨g, o, c', he, hcap, hgl, hat⟩ := hha.form EN.out (by omega)
      simp only [Value.slice.injEq, true_and] at he
      obtain ⟨rfl, rfl⟩ := he
      obtain ⟨p0, p1, p2⟩ := kat_cells hat h hnl
      obtain ⟨y, ey⟩ : ∃ y, l[h] = y := ⟨_, rfl⟩
      rw [ey] at p0 p1 p2
      have hbe : behind l k h = !lessK y k := by unfold behind; rw [List.getElem?_eq_getElem hnl, ey]
      have hc := fun W => kcmp_any y k W
      obtain ⟨c, ec⟩ : ∃ c, cmpK y k = c := ⟨_, rfl⟩
      have hle : lessK y k = decide (c < 0) := by unfold lessK; rw [ec]
      rw [ec] at hc
      rw [hle] at hbe
      have HCC := Lib.hid hc
      have HBE := Lib.hid hbe
      have hd1 : decide ((i : Int) < (j : Int)) = true := decide_eq_true (by omega)
      have HF := Lib.hid (And.intro h1 (And.intro h2 hij))
      clear hc hbe hha hat ec ey hle hnl hij h1 h2 hcap hjn
      obtain ⟨e1, e2, e3, e4, e5, e6, e7, e8, e9⟩ := HFA.out
      by_cases hcz : c < 0
      · have HBE2 := Lib.hid (show behind l k h = false by rw [HBE.out, decide_eq_true hcz]; rfl)
        have hcn : (c < 0) = True := eq_true hcz
        have hcd : decide (c < 0) = true := decide_eq_true hcz
        clear hcz
        go_wp2_with fail
        refine wp_region_reg (by kernel_rfl) (by kernel_rfl) ?_
        repeat (first | go_big_quiet_step ((go_at_call 89; exact class_reg (HCC.out _))) | quiet_step ((go_at_call 89; exact class_reg (HCC.out _))))
        refine wpQuiet_nil ?_
        intro _ hcw1
        obtain ⟨pq, hcw2⟩ := hcw1
        subst hcw2
        have HG2 := Lib.hid (grows_trans _ _ _ HGG.out (below_reg wr pq))
        go_wp2_with fail
        go_roundw
        case rel => exact ⟨h + 1, j, by rw [e6]; rfl, rfl, HF.out.2.1, HJN.out, fun _ => HBE2.out, HJ.out, HG2.out⟩
        case measure => rw [e6]; exact meas_hi HF.out.1 HF.out.2.1
      · have HBE2 := Lib.hid (show behind l k h = true by rw [HBE.out, decide_eq_false hcz]; rfl)
        have hcn : (c < 0) = False := eq_false hcz
        have hcd : decide (c < 0) = false := decide_eq_false hcz
        clear hcz
        go_wp2_with fail
        refine wp_region_reg (by kernel_rfl) (by kernel_rfl) ?_
        repeat (first | go_big_quiet_step ((go_at_call 89; exact class_reg (HCC.out _))) | quiet_step ((go_at_call 89; exact class_reg (HCC.out _))))
        refine wpQuiet_nil ?_
        intro _ hcw1
        obtain ⟨pq, hcw2⟩ := hcw1
        subst hcw2
        have HG2 := Lib.hid (grows_trans _ _ _ HGG.out (below_reg wr pq))
        go_wp2_with fail
        go_roundw
        case rel => exact ⟨i, h, rfl, rfl, HF.out.1, Nat.le_trans (Nat.le_of_lt HF.out.2.1) HJN.out, HI.out, fun _ => HBE2.out, HG2.out⟩
        case measure => exact meas_lo HF.out.1 HF.out.2.1
    · obtain rfl : i = j := by omega
      have hd1 : decide ((i : Int) < (i : Int)) = false := decide_eq_false (by omega)
      have hend : ∀ w', Grows wr w' → Found (behind l k) n i ∧ Grows w w' := fun w' hg => ⟨⟨HJN.out, HI.out, HJ.out⟩, grows_trans _ _ _ HG.out (grows_trans _ _ _ HGG.out hg)⟩
      have HE := Lib.hid hend
      clear hend
      by_cases hin : i < n
      · obtain ⟨g, o, c', he, hcap, hgl, hat⟩ := hha.form EN.out (by omega)
        simp only [Value.slice.injEq, true_and] at he
        obtain ⟨rfl, rfl⟩ := he
        have hnl : i < l.length := by rw [EN.out]; exact hin
        obtain ⟨p0, p1, p2⟩ := kat_cells hat i hnl
        obtain ⟨y, ey⟩ : ∃ y, l[i] = y := ⟨_, rfl⟩
        rw [ey] at p0 p1 p2
        have hc := fun W => kcmp_any y k W
        obtain ⟨c, ec⟩ : ∃ c, cmpK y k = c := ⟨_, rfl⟩
        rw [ec] at hc
        have HCC := Lib.hid hc
        have HHI := Lib.hid (show hitK l k i = decide (c = 0) by unfold hitK; rw [List.getElem?_eq_getElem hnl, ey]; simp only [ec])
        have hd2 : decide ((i : Int) < (n : Int)) = true := decide_eq_true (by omega)
        have hq : (i < n) = True := eq_true hin
        have hq2 : (i : Int) < (n : Int) := by omega
        have hq3 : (0 : Int) ≤ (i : Int) := by omega
        clear hc ec hat hha ey hnl hcap hjn hij hlt
        go_wp2_with fail
        refine wp_region_reg (by kernel_rfl) (by kernel_rfl) ?_
        repeat (first | go_big_quiet_step ((go_at_call 89; exact class_reg (HCC.out _))) | quiet_step ((go_at_call 89; exact class_reg (HCC.out _))))
        refine wpQuiet_nil ?_
        intro _ hcw1
        obtain ⟨pq, hcw2⟩ := hcw1
        subst hcw2
        go_wp2_with fail
        go_ret2
        exact ⟨i, by rw [HHI.out]; rfl, HE.out _ (below_reg _ _)⟩
      · have hd2 : decide ((i : Int) < (n : Int)) = false := decide_eq_false (by omega)
        have hq : (i < n) = False := eq_false hin
        have HHI := Lib.hid (show hitK l k i = false by unfold hitK; rw [List.getElem?_eq_none (by rw [EN.out]; exact Nat.le_of_not_lt hin)])
        clear hha hjn hij hlt
        go_wp2_with fail
        refine wp_region_reg (by kernel_rfl) (by kernel_rfl) ?_
        repeat (first | go_big_quiet_step ((fail)) | quiet_step ((fail)))
        refine wpQuiet_nil ?_
        intro _ hcw1
        obtain ⟨pq, hcw2⟩ := hcw1
        subst hcw2
        go_wp2_with fail
        go_ret2
        exact ⟨i, by rw [HHI.out]; rfl, HE.out _ (below_reg _ _)⟩
end Go.Proofs.Ytdmmceclohkkdaa
