/- The walk of RollOrder. -/
import Derived.Test.YtfmpppdcbeadnaaRollC
import Derived.Test.YtfmpppdcbeadnaaRollP
import Derived.Deep.RegionWith
namespace Go.Proofs.Ytfmpppdcbeadnaa
open Go.RowKit Go.Sort Go.Maps
set_option maxHeartbeats 2000000
set_option maxRecDepth 100000

/-- The notes of some calls. -/
abbrev notes (l : List (Int × Int × Int)) : List (Int × Int) := l.map (·.2)

/-- Two rolls: one has the notes of the first k calls, the other those of the last k of n. -/
structure TwoRolls (w : World) (l : List (Int × Int × Int)) (n k : Nat) (b1 m1 b2 m2 : Nat) (D1 D2 : DataW Unit) (wr : World) : Prop where
  r1 : RollAt wr b1 m1 D1 100
  r2 : RollAt wr b2 m2 D2 100
  n1 : IsNotes D1 ((notes l).take k)
  n2 : IsNotes D2 (((notes l).take n).reverse.take k)
  low : Below w.heap.size w wr

def OrderRel (w : World) (l : List (Int × Int × Int)) (n : Nat) (b1 m1 b2 m2 : Nat) (i : Value) (wr : World) : Prop :=
  ∃ (k : Nat) (D1 D2 : DataW Unit), k ≤ n ∧ i = .int .i64 k ∧ TwoRolls w l n k b1 m1 b2 m2 D1 D2 wr

def SameRel (w : World) (n b1 m1 b2 m2 : Nat) (D : DataW Unit) (i : Value) (wr : World) : Prop :=
  ∃ k : Nat, k ≤ n ∧ i = .int .i64 k ∧ RollAt wr b1 m1 D 100 ∧ RollAt wr b2 m2 D 100 ∧ Below w.heap.size w wr

theorem set_same (w : World) {b m : Nat} {D : DataW Unit} {most : Int} (h : RollAt w b m D most) (no : Int) (hno : (Lit.int .i64 no).wf = true) :
    Calls Try.prog 19 #[.pointer (some ⟨b, 0, none⟩), .int .i64 no] w (fun e w' => e = .returned (.int .u64 (valN D no)) ∧ w = w') :=
  (set_any w h no hno).mono fun _ _ ⟨he, _, hw⟩ => ⟨he, hw⟩

theorem rev_mem (L : List (Int × Int)) (n : Nat) (x : Int × Int) : x ∈ L.take n ↔ x ∈ (L.take n).reverse.take n := by
  rw [List.take_of_length_le (l := (L.take n).reverse) (by simp; omega), List.mem_reverse]

theorem take_snoc (L : List (Int × Int)) (k : Nat) (h : k < L.length) : L.take (k + 1) = L.take k ++ [L[k]] := List.take_succ_eq_append_getElem h
theorem rev_get (L : List (Int × Int)) (n k : Nat) (hn : n ≤ L.length) (hk : k < n) : (L.take n).reverse.take (k + 1) = (L.take n).reverse.take k ++ [L[n - 1 - k]'(by omega)] := by
  rw [List.take_succ_eq_append_getElem (by simp; omega)]
  congr 2
  rw [List.getElem_reverse, List.getElem_take]
  congr 1
  simp; omega

theorem rollOrder_walk (l : List (Int × Int × Int)) (v : Value) (w : World) (hl : ActsAt w v l) :
    Calls Try.prog 7 #[v] w (RetV w (.bool true)) := by
  rcases hl with ⟨rfl, a, cap, rfl⟩ | ⟨b, o, cap, rfl, hlen, hb, hc⟩
  · go_enter Try.func7, Try.ntmps7
    go_wp2_with fail
    refine (new_any 100 _ (by decide) (by decide)).mono ?_
    rintro e w1 ⟨rfl, hr1, hbl1⟩
    go_wp2_with fail
    refine (new_any 100 _ (by decide) (by decide)).mono ?_
    rintro e w2 ⟨rfl, hr2, hbl2⟩
    have hr1' : RollAt w2 (w.heap.size + 1) w.heap.size (.map []) 100 := by
      obtain ⟨p, rfl⟩ := regr hbl2
      exact hr1.reg p
    have hbl := bl_trans hbl1 hbl2
    obtain ⟨b1, eb1⟩ : ∃ x, w.heap.size + 1 = x := ⟨_, rfl⟩
    obtain ⟨m1, em1⟩ : ∃ x, w.heap.size = x := ⟨_, rfl⟩
    obtain ⟨b2, eb2⟩ : ∃ x, w1.heap.size + 1 = x := ⟨_, rfl⟩
    obtain ⟨m2, em2⟩ : ∃ x, w1.heap.size = x := ⟨_, rfl⟩
    rw [eb1, em1] at hr1'
    rw [eb2, em2] at hr2
    rw [eb1, eb2]
    have HL := Lib.hid hbl
    have HR1 := Lib.hid hr1'
    have HR2 := Lib.hid hr2
    clear hr1 hr2 hr1' hbl1 hbl2 hbl eb1 em1 eb2 em2
    go_wp2_with fail
    go_loopw [6] (fun i wr => SameRel w 0 b1 m1 b2 m2 (.map []) i wr) (fun _ _ => 0)
    case atStart => exact ⟨0, Nat.le_refl _, rfl, HR1.out, HR2.out, HL.out⟩
    case round =>
      clear HR1 HR2 HL
      obtain ⟨k, hk, rfl, r1, r2, low⟩ := hrel
      obtain rfl : k = 0 := by omega
      have R1 := Lib.hid r1
      have R2 := Lib.hid r2
      have LW := Lib.hid low
      clear r1 r2 low
      go_wp2_with fail
      go_loopw [7] (fun i wx => SameRel w 0 b1 m1 b2 m2 (.map []) i wx) (fun _ _ => 0)
      case atStart => exact ⟨0, Nat.le_refl _, rfl, R1.out, R2.out, LW.out⟩
      case round =>
        clear R1 R2 LW
        obtain ⟨j, hj, rfl, r1, r2, low⟩ := hrel
        obtain rfl : j = 0 := by omega
        have Q1 := Lib.hid r1
        have Q2 := Lib.hid r2
        have LO := Lib.hid low
        clear r1 r2 low
        go_wp2_with (first | (go_at_call_of 21 b1; refine (len_any _ Q1.out).mono ?_; rintro e w' ⟨rfl, rfl⟩) | (go_at_call_of 21 b2; refine (len_any _ Q2.out).mono ?_; rintro e w' ⟨rfl, rfl⟩) | (go_at_call 22; refine (rollWorks_any _).mono ?_; rintro e w5 ⟨rfl, hb5⟩))
        go_ret
        exact ⟨rfl, bl_trans LO.out hb5⟩
  · unfold maxLen at hlen
    have HC := Lib.hid hc
    clear hc
    go_enter Try.func7, Try.ntmps7
    go_wp2_with fail
    refine (new_any 100 _ (by decide) (by decide)).mono ?_
    rintro e w1 ⟨rfl, hr1, hbl1⟩
    go_wp2_with fail
    refine (new_any 100 _ (by decide) (by decide)).mono ?_
    rintro e w2 ⟨rfl, hr2, hbl2⟩
    have hr1' : RollAt w2 (w.heap.size + 1) w.heap.size (.map []) 100 := by
      obtain ⟨p, rfl⟩ := regr hbl2
      exact hr1.reg p
    have hbl := bl_trans hbl1 hbl2
    have hz1 := hbl1.size
    have hz2 := cell_lt hr1.c0
    obtain ⟨b1, eb1⟩ : ∃ x, w.heap.size + 1 = x := ⟨_, rfl⟩
    obtain ⟨m1, em1⟩ : ∃ x, w.heap.size = x := ⟨_, rfl⟩
    obtain ⟨b2, eb2⟩ : ∃ x, w1.heap.size + 1 = x := ⟨_, rfl⟩
    obtain ⟨m2, em2⟩ : ∃ x, w1.heap.size = x := ⟨_, rfl⟩
    have hm1 : w.heap.size ≤ m1 := by omega
    have hm2 : w.heap.size ≤ m2 := by omega
    have hap : b1 ≠ m2 ∧ m1 ≠ m2 ∧ b2 ≠ m1 := by omega
    rw [eb1, em1] at hr1'
    rw [eb2, em2] at hr2
    rw [eb1, eb2]
    have HA := Lib.hid hap
    have HL := Lib.hid hbl
    have HR1 := Lib.hid hr1'
    have HR2 := Lib.hid hr2
    clear hr1 hr2 hr1' hbl1 hbl2 hbl hz1 hz2 eb1 em1 eb2 em2 hap
    go_upto_region 2 with fail
    go_cut [5] (fun v wx => ∃ n : Nat, n ≤ l.length ∧ n ≤ 50 ∧ v = .int .i64 n ∧ wx = w2)
    case first =>
      by_cases h50 : 50 < l.length
      · go_wp2_with fail
        go_meet
        exact ⟨50, by omega, by omega, rfl, rfl⟩
      · go_wp2_with fail
        go_meet
        exact ⟨l.length, by omega, by omega, rfl, rfl⟩
    case rest =>
      obtain ⟨n, hn, hn5, rfl, rfl⟩ := hcut
      have hN : (notes l).length = l.length := by simp
      have HN := Lib.hid hN
      clear hN
      go_wp2_with fail
      go_loopw [6] (fun i wr => OrderRel w l n b1 m1 b2 m2 i wr) (fun i _ => n - (intOf i).toNat)
      case atStart => exact ⟨0, .map [], .map [], Nat.zero_le _, rfl, HR1.out, HR2.out, isNotes_nil, isNotes_nil, HL.out⟩
      case round =>
        clear HR1 HR2 HL
        obtain ⟨k, D1, D2, hk, rfl, T⟩ := hrel
        have HT := Lib.hid T
        clear T
        by_cases hlt : k < n
        · obtain ⟨_, x1, x2, _, hno, _⟩ := HC.out k (by omega)
          obtain ⟨_, z1, z2, _, hno2, _⟩ := HC.out (n - 1 - k) (by omega)
          have y1 := (HT.out.low.cell (p := ⟨b, o + k * 3 + 1, none⟩) hb).trans x1
          have y2 := (HT.out.low.cell (p := ⟨b, o + k * 3 + 2, none⟩) hb).trans x2
          have hb' : b < wr.heap.size := Nat.lt_of_lt_of_le hb HT.out.low.size
          have hk1 : k < (notes l).length := by rw [HN.out]; omega
          have t1 : IsNotes (noteD D1 100 l[k].2.1 l[k].2.2) ((notes l).take (k + 1)) := by
            rw [take_snoc _ _ hk1]
            have := isNotes_step HT.out.n1 (HT.out.r1.own.tidy setLaw) 100 l[k].2.1 l[k].2.2 (by simp; omega)
            simpa using this
          have t2 : IsNotes (noteD D2 100 (l[n - 1 - k]'(by omega)).2.1 (l[n - 1 - k]'(by omega)).2.2) (((notes l).take n).reverse.take (k + 1)) := by
            rw [rev_get _ _ _ (by rw [HN.out]; exact hn) hlt]
            have := isNotes_step HT.out.n2 (HT.out.r2.own.tidy setLaw) 100 (l[n - 1 - k]'(by omega)).2.1 (l[n - 1 - k]'(by omega)).2.2 (by simp; omega)
            simpa using this
          have s1 : Maps.size D1 < maxLen := by have := HT.out.n1.size; unfold maxLen; simp at this; omega
          have s2 : Maps.size D2 < maxLen := by have := HT.out.n2.size; unfold maxLen; simp at this; omega
          obtain ⟨no, eno⟩ : ∃ no, l[k].2.1 = no := ⟨_, rfl⟩
          obtain ⟨f, ef⟩ : ∃ f, l[k].2.2 = f := ⟨_, rfl⟩
          obtain ⟨no2, eno2⟩ : ∃ no, (l[n - 1 - k]'(by omega)).2.1 = no := ⟨_, rfl⟩
          obtain ⟨f2, ef2⟩ : ∃ f, (l[n - 1 - k]'(by omega)).2.2 = f := ⟨_, rfl⟩
          rw [eno] at y1 hno t1
          rw [ef] at y2 t1
          rw [eno2] at z1 hno2 t2
          rw [ef2] at z2 t2
          have T1 := Lib.hid t1
          have T2 := Lib.hid t2
          have Z1 := Lib.hid z1
          have Z2 := Lib.hid z2
          have i1 : (0 : Int) ≤ (k : Int) := by omega
          have i2 : (k : Int) < (l.length : Int) := by omega
          have i3 : (k : Int) < (n : Int) := by omega
          clear x1 x2 z1 z2 t1 t2 eno ef eno2 ef2 hk1
          go_wp2_with fail
          refine wp_region_tail_reg 11 (by kernel_rfl) (by kernel_rfl) (by kernel_rfl) (by kernel_rfl) ?_
          simp only [List.take_succ_cons, List.take_zero, List.drop_succ_cons, List.drop_zero]
          repeat (first | go_big_quiet_step ((fail)) | quiet_step ((fail)))
          refine wpQuiet_nil ?_
          intro _ hcw1
          obtain ⟨pq, hcw2⟩ := hcw1
          subst hcw2
          go_wp2_with fail
          refine (note_any _ (HT.out.r1.reg pq) no f hno s1).mono ?_
          rintro e w3 ⟨rfl, hr1, hg1⟩
          have hB3 := bl_grown (bl_reg HT.out.low pq) hg1 hm1
          have hr2 := (HT.out.r2.reg pq).kept hg1 (by simp; exact HA.out.2.2) (by simp; exact fun h => HA.out.2.1 h.symm)
          have y3 := (hB3.cell (p := ⟨b, o + (n - 1 - k) * 3 + 1, none⟩) hb).trans Z1.out
          have y4 := (hB3.cell (p := ⟨b, o + (n - 1 - k) * 3 + 2, none⟩) hb).trans Z2.out
          have hb3 : b < w3.heap.size := Nat.lt_of_lt_of_le hb hB3.size
          have HB3 := Lib.hid hB3
          have HR1 := Lib.hid hr1
          have HR2 := Lib.hid hr2
          clear hr1 hr2 hg1 hB3 y1 y2 hb'
          have e1 : IntKind.i64.wrap ((n : Int) - 1) = (n : Int) - 1 := IntWalk.i64_in _ (by omega)
          have e2 : IntKind.i64.wrap ((n : Int) - 1 - (k : Int)) = (n : Int) - 1 - (k : Int) := IntWalk.i64_in _ (by omega)
          have i4 : (0 : Int) ≤ (n : Int) - 1 - (k : Int) := by omega
          have i5 : (n : Int) - 1 - (k : Int) < (l.length : Int) := by omega
          have e3 : ((n : Int) - 1 - (k : Int)).toNat = n - 1 - k := by omega
          go_wp2_with fail
          refine wp_region_tail_reg 17 (by kernel_rfl) (by kernel_rfl) (by kernel_rfl) (by kernel_rfl) ?_
          simp only [List.take_succ_cons, List.take_zero, List.drop_succ_cons, List.drop_zero]
          repeat (first | go_big_quiet_step ((fail)) | quiet_step ((fail)))
          refine wpQuiet_nil ?_
          intro _ hcw1
          obtain ⟨pq, hcw2⟩ := hcw1
          subst hcw2
          go_wp2_with fail
          refine (note_any _ (HR2.out.reg pq) no2 f2 hno2 s2).mono ?_
          rintro e w4 ⟨rfl, hr2, hg2⟩
          have hB4 := bl_grown (bl_reg HB3.out pq) hg2 hm2
          have hr1 := (HR1.out.reg pq).kept hg2 (by simp; exact HA.out.1) (by simp; exact HA.out.2.1)
          have HT4 : Hid (TwoRolls w l n (k + 1) b1 m1 b2 m2 (noteD D1 100 no f) (noteD D2 100 no2 f2) w4) := ⟨hr1, hr2, T1.out, T2.out, hB4⟩
          clear hr1 hr2 hg2 hB4 y3 y4 e1 e2 e3 HR1 HR2 HB3 hb3
          go_wp2_with fail
          go_roundw
          case rel => exact ⟨k + 1, _, _, by omega, by go_num, HT4.out⟩
          case measure => simp [intOf]; omega
        · have hkn : k = n := by omega
          subst hkn
          have hDD : D1 = D2 := by
            exact isNotes_eq HT.out.n1 HT.out.n2 (HT.out.r1.own.canon setLaw) (HT.out.r2.own.canon setLaw) (rev_mem _ _)
          subst hDD
          have R1 := Lib.hid HT.out.r1
          have R2 := Lib.hid HT.out.r2
          have N1 := Lib.hid HT.out.n1
          have LW := Lib.hid HT.out.low
          clear HT
          go_wp2_with fail
          go_loopw [7] (fun i wx => SameRel w k b1 m1 b2 m2 D1 i wx) (fun i _ => k - (intOf i).toNat)
          case atStart => exact ⟨0, Nat.zero_le _, rfl, R1.out, R2.out, LW.out⟩
          case round =>
            obtain ⟨j, hj, rfl, r1, r2, low⟩ := hrel
            have S1 : ∀ q, RollAt (wr.drewN q) b1 m1 D1 100 := fun q => r1.kept (grown_drewN wr q none) (by simp) (by simp)
            have S2 : ∀ q, RollAt (wr.drewN q) b2 m2 D1 100 := fun q => r2.kept (grown_drewN wr q none) (by simp) (by simp)
            have A1 := Lib.hid S1
            have A2 := Lib.hid S2
            have LO := Lib.hid low
            clear r1 r2 S1 S2 low R1 R2 LW
            by_cases hlt : j < k
            · obtain ⟨_, x1, x2, _, hno, _⟩ := HC.out j (by omega)
              have y1 := (LO.out.cell (p := ⟨b, o + j * 3 + 1, none⟩) hb).trans x1
              have y2 := (LO.out.cell (p := ⟨b, o + j * 3 + 2, none⟩) hb).trans x2
              have hmem : (notes l)[j]'(by rw [HN.out]; omega) ∈ (notes l).take k := by
                rw [List.mem_take_iff_getElem]
                exact ⟨j, by rw [HN.out]; omega, rfl⟩
              have hin : goodN l[j].2.2 = true → hasN (valN D1 l[j].2.1) l[j].2.2 = true := fun hg => by
                rw [(N1.out.val _).2, List.any_eq_true]
                exact ⟨_, hmem, by simp [hg]⟩
              obtain ⟨no, eno⟩ : ∃ no, l[j].2.1 = no := ⟨_, rfl⟩
              obtain ⟨f, ef⟩ : ∃ f, l[j].2.2 = f := ⟨_, rfl⟩
              rw [eno] at y1 hno hin
              rw [ef] at y2 hin
              have hv := (N1.out.val no).1
              have HV := Lib.hid hv
              have HI := Lib.hid hin
              have i1 : (0 : Int) ≤ (j : Int) := by omega
              have i2 : (j : Int) < (l.length : Int) := by omega
              have i3 : (j : Int) < (k : Int) := by omega
              clear x1 x2 eno ef hmem hin hv
              by_cases hf0 : 0 ≤ f
              · by_cases hf1 : f < 64
                · have hh := HI.out (by simp [goodN]; omega)
                  have hd1 : decide (0 ≤ f) = true := by simpa using hf0
                  go_wp2_with fail
                  refine wp_region_quiet_lit (by kernel_rfl) (by kernel_rfl) ?_
                  repeat (first | go_big_quiet_step ((first | (go_at_call_of 19 b1; exact class_same (set_same _ (A1.out _) no hno) ⟨_, rfl⟩) | (go_at_call_of 19 b2; exact class_same (set_same _ (A2.out _) no hno) ⟨_, rfl⟩) | (go_at_call 20; exact class_same (rhas_any _ f HV.out _) ⟨_, rfl⟩))) | quiet_step ((first | (go_at_call_of 19 b1; exact class_same (set_same _ (A1.out _) no hno) ⟨_, rfl⟩) | (go_at_call_of 19 b2; exact class_same (set_same _ (A2.out _) no hno) ⟨_, rfl⟩) | (go_at_call 20; exact class_same (rhas_any _ f HV.out _) ⟨_, rfl⟩))))
                  refine wpQuiet_nil ?_
                  intro _ hcw1
                  obtain ⟨nq, hcw2⟩ := hcw1
                  subst hcw2
                  go_wp2_with fail
                  go_roundw
                  case rel => exact ⟨j + 1, by omega, by go_num, A1.out nq, A2.out nq, bl_drewN LO.out nq⟩
                  case measure => simp [intOf]; omega
                · have hd1 : decide (0 ≤ f) = true := by simpa using hf0
                  have hd2 : decide (f < 64) = false := by simpa using hf1
                  have hf2 : 64 ≤ f := by omega
                  clear hf1
                  go_wp2_with fail
                  refine wp_region_quiet_lit (by kernel_rfl) (by kernel_rfl) ?_
                  repeat (first | go_big_quiet_step ((first | (go_at_call_of 19 b1; exact class_same (set_same _ (A1.out _) no hno) ⟨_, rfl⟩) | (go_at_call_of 19 b2; exact class_same (set_same _ (A2.out _) no hno) ⟨_, rfl⟩) | (go_at_call 20; exact class_same (rhas_any _ f HV.out _) ⟨_, rfl⟩))) | quiet_step ((first | (go_at_call_of 19 b1; exact class_same (set_same _ (A1.out _) no hno) ⟨_, rfl⟩) | (go_at_call_of 19 b2; exact class_same (set_same _ (A2.out _) no hno) ⟨_, rfl⟩) | (go_at_call 20; exact class_same (rhas_any _ f HV.out _) ⟨_, rfl⟩))))
                  refine wpQuiet_nil ?_
                  intro _ hcw1
                  obtain ⟨nq, hcw2⟩ := hcw1
                  subst hcw2
                  go_wp2_with fail
                  go_roundw
                  case rel => exact ⟨j + 1, by omega, by go_num, A1.out nq, A2.out nq, bl_drewN LO.out nq⟩
                  case measure => simp [intOf]; omega
              · have hd1 : decide (0 ≤ f) = false := by simpa using hf0
                have hf2 : f < 0 := by omega
                clear hf0
                go_wp2_with fail
                refine wp_region_quiet_lit (by kernel_rfl) (by kernel_rfl) ?_
                repeat (first | go_big_quiet_step ((first | (go_at_call_of 19 b1; exact class_same (set_same _ (A1.out _) no hno) ⟨_, rfl⟩) | (go_at_call_of 19 b2; exact class_same (set_same _ (A2.out _) no hno) ⟨_, rfl⟩) | (go_at_call 20; exact class_same (rhas_any _ f HV.out _) ⟨_, rfl⟩))) | quiet_step ((first | (go_at_call_of 19 b1; exact class_same (set_same _ (A1.out _) no hno) ⟨_, rfl⟩) | (go_at_call_of 19 b2; exact class_same (set_same _ (A2.out _) no hno) ⟨_, rfl⟩) | (go_at_call 20; exact class_same (rhas_any _ f HV.out _) ⟨_, rfl⟩))))
                refine wpQuiet_nil ?_
                intro _ hcw1
                obtain ⟨nq, hcw2⟩ := hcw1
                subst hcw2
                go_wp2_with fail
                go_roundw
                case rel => exact ⟨j + 1, by omega, by go_num, A1.out nq, A2.out nq, bl_drewN LO.out nq⟩
                case measure => simp [intOf]; omega
            · have hjk : ¬ (j : Int) < (k : Int) := by omega
              clear hlt
              have r1 : RollAt wr b1 m1 D1 100 := A1.out 0
              have r2 : RollAt wr b2 m2 D1 100 := A2.out 0
              have Q1 := Lib.hid r1
              have Q2 := Lib.hid r2
              clear r1 r2
              go_wp2_with (first | (go_at_call_of 21 b1; refine (len_any _ Q1.out).mono ?_; rintro e w' ⟨rfl, rfl⟩) | (go_at_call_of 21 b2; refine (len_any _ Q2.out).mono ?_; rintro e w' ⟨rfl, rfl⟩) | (go_at_call 22; refine (rollWorks_any _).mono ?_; rintro e w5 ⟨rfl, hb5⟩))
              go_ret
              exact ⟨rfl, bl_trans LO.out hb5⟩
end Go.Proofs.Ytfmpppdcbeadnaa
