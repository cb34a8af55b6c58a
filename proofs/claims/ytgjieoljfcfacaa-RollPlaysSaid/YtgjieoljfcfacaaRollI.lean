/- The document's Numbers (printed by rollngen.py). -/
import Derived.Test.YtgjieoljfcfacaaRollH
namespace Go.Proofs.Ytgjieoljfcfacaa
open Go.RowKit Go.Sort
set_option maxHeartbeats 4000000
set_option maxRecDepth 100000
theorem stepN_len (x : Int) (t : List Int) : ∀ (acc : List Int) (b : Bool), (t.foldl (stepN x) (acc, b)).1.length ≤ acc.length + 2 * t.length := by
  induction t with
  | nil => intro acc b; simp
  | cons y t ih =>
    intro acc b
    rw [List.foldl_cons, List.length_cons]
    unfold stepN
    split
    · refine Nat.le_trans (ih _ _) ?_
      simp only [List.length_append, List.length_singleton]
      omega
    · refine Nat.le_trans (ih _ _) ?_
      simp only [List.length_append, List.length_singleton]
      omega
theorem stepN_eq {x y : Int} {s : List Int × Bool} (h : y = x) : stepN x s y = (s.1 ++ [y], true) := by unfold stepN; simp [h]
theorem stepN_in {x y : Int} {s : List Int × Bool} (h : y ≠ x) (hb : s.2 = true) : stepN x s y = (s.1 ++ [y], true) := by unfold stepN; simp [h, hb]
theorem stepN_lt {x y : Int} {s : List Int × Bool} (h : y ≠ x) (hb : s.2 = false) (hx : x < y) : stepN x s y = (s.1 ++ [x] ++ [y], true) := by unfold stepN; simp [h, hb, hx]
theorem stepN_ge {x y : Int} {s : List Int × Bool} (h : y ≠ x) (hb : s.2 = false) (hx : ¬ x < y) : stepN x s y = (s.1 ++ [y], false) := by unfold stepN; simp [h, hb, hx]
theorem nnums_any {v : Value} {l : NL} {w : World} {base M : Nat} (h : NOwn w base v l) (hm : l.length ≤ 1000) :
    Calls Try.prog 18 #[nval v M] w (fun e w' => ∃ a c, e = .returned (.slice a (numsN l).length c) ∧ Grows w w' ∧ JOwn w' w.heap.size (.slice a (numsN l).length c) (numsN l)) := by
  obtain ⟨n, en⟩ : ∃ n, l.length = n := ⟨_, rfl⟩
  obtain ⟨a, cap, rfl⟩ := NOwn.len h en
  obtain ⟨b, eb⟩ : ∃ b, w.heap.size = b := ⟨_, rfl⟩
  obtain ⟨W, eW⟩ : ∃ W, w.alloc (.cells #[.slice a n cap, .int .i64 (M : Int)] TRD) = W := ⟨_, rfl⟩
  have hb0 := heap_alloc_new w (.cells #[.slice a n cap, .int .i64 (M : Int)] TRD)
  have hg : Grows w W := by rw [← eW]; exact bl_alloc (Below.refl _ _) _
  rw [eW, eb] at hb0
  obtain ⟨W2, eW2⟩ : ∃ W2, W.alloc (.cells #[] 2) = W2 := ⟨_, rfl⟩
  have hg2 : Grows W W2 := by rw [← eW2]; exact bl_alloc (Below.refl _ _) _
  have ho2 : GOwn ic 1 2 W2 W.heap.size (.slice (some ⟨W.heap.size, 0, none⟩) 0 0) [] := by rw [← eW2]; exact gown_lit (by decide) W
  have hbc : b ≤ W.heap.size := by rw [← eb]; exact hg.size
  have ho2 := row_base ho2 hbc
  obtain ⟨c, ec⟩ : ∃ c, W.heap.size = c := ⟨_, rfl⟩
  rw [ec] at ho2
  have HG2 := Lib.hid (grows_trans _ _ _ hg hg2)
  have HB2 := Lib.hid (box_grows hb0 hg2)
  have HO2 := Lib.hid ho2
  have HH := Lib.hid h
  have EN := Lib.hid en
  have HM := Lib.hid hm
  have EB := Lib.hid eb
  clear h hm en hb0 hg hg2 ho2 hbc
  simp only [nval]
  go_enter Try.func18, Try.ntmps18
  go_wp2_with fail
  clear eW eW2 ec
  go_loopw [3, 4] (fun ov iv wr => ∃ i : Nat, iv = .int .i64 (i : Int) ∧ i ≤ n ∧ GOwn ic 1 2 wr b ov (numsN (l.take i)) ∧ Grows w wr ∧ wr.heap[b]? = some (.cells #[.slice a n cap, .int .i64 (M : Int)] TRD (0, 0))) (fun _ iv _ => n - (intOf iv).toNat)
  case atStart => exact ⟨0, rfl, Nat.zero_le _, HO2.out, HG2.out, HB2.out⟩
  case round =>
    obtain ⟨i, rfl, hi, ho, hg, hb⟩ := hrel
    have HO := Lib.hid ho
    have HGR := Lib.hid hg
    have HB := Lib.hid hb
    obtain ⟨s0, -⟩ := cell_in hb 0 rfl
    have z0 := box_lt hb
    clear ho hg hb
    by_cases hlt : i < n
    · have hn6 : i ≤ 1000000 := Nat.le_trans (Nat.le_of_lt hlt) (by rw [← EN.out]; exact Nat.le_trans HM.out (by decide))
      have HNF := Lib.hid (nat_facts i hn6)
      have HWS := Lib.hid (wrap_succ hn6)
      have HLT := Lib.hid hlt
      have hnl : i < l.length := by rw [EN.out]; exact hlt
      obtain ⟨g, o, c', he, hcap, hgl, hat⟩ := NOwn.form (own_grows HH.out HGR.out) EN.out (Nat.lt_of_le_of_lt (Nat.zero_le _) hlt)
      simp only [Value.slice.injEq, true_and] at he
      obtain ⟨rfl, rfl⟩ := he
      have htk : l.take (i + 1) = l.take i ++ [l[i]] := List.take_succ_eq_append_getElem hnl
      have hp := fun W' (hg : Grows wr W') => (nat_cells (hat.grows hg hgl) i hnl).1
      obtain ⟨y, ey⟩ : ∃ y, l[i] = y := ⟨_, rfl⟩
      rw [ey] at htk hp
      obtain ⟨x, ex⟩ : ∃ x, y.1 = x := ⟨_, rfl⟩
      rw [ex] at hp
      have hnx : numsN (l.take (i + 1)) = insR x (numsN (l.take i)) := by rw [htk, numsN_snoc, ex]
      obtain ⟨out, eo⟩ : ∃ out, numsN (l.take i) = out := ⟨_, rfl⟩
      rw [eo] at hnx HO
      have hol : out.length ≤ 1000 := by
        rw [← eo]
        refine Nat.le_trans (nums_len _) ?_
        rw [List.length_take]
        have := HM.out
        omega
      obtain ⟨m, em⟩ : ∃ m, out.length = m := ⟨_, rfl⟩
      have hor := gown_rows kindI64.len HO.out
      obtain ⟨oa, oc, rfl⟩ := hor.len em
      have HOR := Lib.hid hor
      have HNX := Lib.hid hnx
      have HP := Lib.hid hp
      have HGL := Lib.hid hgl
      have EM := Lib.hid em
      have HOL := Lib.hid hol
      have hki : (i : Int) < (n : Int) := Int.ofNat_lt.2 hlt
      obtain ⟨d, ed⟩ : ∃ d, wr.heap.size = d := ⟨_, rfl⟩
      have hlit : GOwn ic 1 2 (wr.alloc (.cells #[] 2)) wr.heap.size (.slice (some ⟨wr.heap.size, 0, none⟩) 0 0) [] := gown_lit (by decide) wr
      obtain ⟨w1, e1⟩ : ∃ w1, wr.alloc (.cells #[] 2) = w1 := ⟨_, rfl⟩
      have hg1 : Grows wr w1 := by rw [← e1]; exact bl_alloc (Below.refl _ _) _
      rw [e1, ed] at hlit
      have HL1 := Lib.hid hlit
      have HG1 := Lib.hid hg1
      have ED := Lib.hid ed
      clear hor hnx hp hgl hat htk ey ex eo hol em hnl hcap hlt hn6 hi hlit hg1
      obtain ⟨j1, j2, j3, j4, j6⟩ := HNF.out
      go_wp2_with fail
      clear e1 ed
      go_loopw [5, 6, 7] (fun lv bv kv wx => ∃ k : Nat, kv = .int .i64 (k : Int) ∧ k ≤ m ∧ bv = .bool ((out.take k).foldl (stepN x) ([], false)).2 ∧ GOwn ic 1 2 wx d lv ((out.take k).foldl (stepN x) ([], false)).1 ∧ Grows wr wx) (fun _ _ kv _ => m - (intOf kv).toNat)
      case atStart => exact ⟨0, rfl, Nat.zero_le _, rfl, HL1.out, HG1.out⟩
      case round =>
        obtain ⟨k, rfl, hk, rfl, hlv, hgx⟩ := hrel
        obtain ⟨s, es⟩ : ∃ s, (out.take k).foldl (stepN x) ([], false) = s := ⟨_, rfl⟩
        have hsl := stepN_len x (out.take k) [] false
        rw [es] at hlv hsl ⊢
        have HLV := Lib.hid hlv
        have HGX := Lib.hid hgx
        clear s0 z0
        obtain ⟨s0, -⟩ := cell_in (box_grows HB.out hgx) 0 rfl
        have z0 := box_lt (box_grows HB.out hgx)
        have p0 := HP.out wr hgx
        have hgl := Nat.lt_of_lt_of_le HGL.out hgx.size
        by_cases hkm : k < m
        · have hkl : k < out.length := by rw [EM.out]; exact hkm
          obtain ⟨gu, ou, cu, he, hcu, hgu, hau⟩ := HOR.out.form EM.out (Nat.lt_of_le_of_lt (Nat.zero_le _) hkm)
          simp only [Value.slice.injEq, true_and] at he
          obtain ⟨rfl, rfl⟩ := he
          have hu := fun W' (hg : Grows _ W') => (hau.grows hg hgu) k hkl 0 (by omega)
          simp only [Nat.mul_one, Nat.add_zero, ic, List.getElem?_cons_zero] at hu
          have HGU := Lib.hid (fun (W' : World) (hg : Grows _ W') => Nat.lt_of_lt_of_le hgu hg.size)
          have hgu := HGU.out wr hgx
          have htk : out.take (k + 1) = out.take k ++ [out[k]] := List.take_succ_eq_append_getElem hkl
          obtain ⟨yk, ey⟩ : ∃ y, out[k] = y := ⟨_, rfl⟩
          rw [ey] at hu htk
          have HU := Lib.hid hu
          have u0 := hu wr hgx
          have HFO := Lib.hid (show (out.take (k + 1)).foldl (stepN x) ([], false) = stepN x s yk by rw [htk, List.foldl_append, es]; rfl)
          have HSL := Lib.hid (show s.1.length ≤ 9000 by
            have h1 := hsl
            rw [List.length_take] at h1
            simp only [List.length_nil] at h1
            have := HOL.out
            omega)
          have hk6 : k ≤ 1000000 := Nat.le_trans (Nat.le_of_lt hkm) (by rw [← EM.out]; exact Nat.le_trans HOL.out (by decide))
          have HNK := Lib.hid (nat_facts k hk6)
          have HWK := Lib.hid (wrap_succ hk6)
          have HKM := Lib.hid hkm
          have hkk : (k : Int) < (m : Int) := Int.ofNat_lt.2 hkm
          clear hu hlv hgx hsl htk ey hau hkl hcu hk6 hk hkm es
          obtain ⟨i1, i2, i3, i4, i6⟩ := HNK.out
          by_cases h1 : yk = x
          · have hb1 : (yk == x) = true := beq_iff_eq.2 h1
            have HE := Lib.hid (stepN_eq (s := s) h1)
            clear h1
            go_wp2_with fail
            refine wp_region_reg (by kernel_rfl) (by kernel_rfl) ?_
            repeat (first | go_big_quiet_step ((fail)) | quiet_step ((fail)))
            refine wpQuiet_nil ?_
            intro _ hcw1
            obtain ⟨pq, hcw2⟩ := hcw1
            subst hcw2
            obtain ⟨W2, eW2, hg2⟩ : ∃ W, reg wr pq = W ∧ Grows wr W := ⟨_, rfl, below_reg _ _⟩
            rw [eW2]
            have p0 := box_cell_grows p0 hg2
            have u0 := box_cell_grows u0 hg2
            have s0 := box_cell_grows s0 hg2
            have z0 := Nat.lt_of_lt_of_le z0 hg2.size
            have hgl := Nat.lt_of_lt_of_le hgl hg2.size
            have hgu := Nat.lt_of_lt_of_le hgu hg2.size
            have GW2 := Lib.hid hg2
            clear hg2 eW2
            go_wp2_with fail
            refine wp_region_reg (by kernel_rfl) (by kernel_rfl) ?_
            repeat (first | go_big_quiet_step ((fail)) | quiet_step ((fail)))
            refine wpQuiet_nil ?_
            intro _ hcw1
            obtain ⟨pq, hcw2⟩ := hcw1
            subst hcw2
            obtain ⟨W3, eW3, hg3⟩ : ∃ W, reg W2 pq = W ∧ Grows W2 W := ⟨_, rfl, below_reg _ _⟩
            rw [eW3]
            have p0 := box_cell_grows p0 hg3
            have u0 := box_cell_grows u0 hg3
            have s0 := box_cell_grows s0 hg3
            have z0 := Nat.lt_of_lt_of_le z0 hg3.size
            have hgl := Nat.lt_of_lt_of_le hgl hg3.size
            have hgu := Nat.lt_of_lt_of_le hgu hg3.size
            have GW3 := Lib.hid (grows_trans _ _ _ GW2.out hg3)
            clear hg3 eW3
            obtain ⟨v8, w8, r8, o8, b8⟩ := gapp_one kindI64 yk (own_grows HLV.out GW3.out) (Nat.le_trans HSL.out (by decide)) (by have := (grows_trans _ _ _ HGX.out GW3.out).size; rwa [ED.out] at this)
            have HA := Lib.hid (And.intro o8 (grows_of_grownBy (grows_trans _ _ _ HGX.out GW3.out) b8 (fun j hj => by rw [ED.out]; exact (World.ownsRow.lt (own_grows HLV.out GW3.out) j hj).1)))
            clear o8 b8
            go_wp2_with (at_builtin; refine wpList_append_eq _ rfl _ _ 42 42 rfl _ _ rfl rfl (r8 _) ?_)
            go_roundw
            case rel => exact ⟨k + 1, by rw [HWK.out]; rfl, HKM.out, by rw [HFO.out, HE.out], by rw [HFO.out, HE.out]; exact HA.out.1, HA.out.2⟩
            case measure => rw [HWK.out]; exact meas_succ HKM.out
          · have hb1 : (yk == x) = false := beq_false_of_ne h1
            obtain ⟨sb, esb⟩ : ∃ sb, s.2 = sb := ⟨_, rfl⟩
            rw [esb]
            cases sb with
            | true =>
              have HE := Lib.hid (stepN_in (s := s) h1 esb)
              clear h1 esb
              go_wp2_with fail
              refine wp_region_reg (by kernel_rfl) (by kernel_rfl) ?_
              repeat (first | go_big_quiet_step ((fail)) | quiet_step ((fail)))
              refine wpQuiet_nil ?_
              intro _ hcw1
              obtain ⟨pq, hcw2⟩ := hcw1
              subst hcw2
              obtain ⟨W2, eW2, hg2⟩ : ∃ W, reg wr pq = W ∧ Grows wr W := ⟨_, rfl, below_reg _ _⟩
              rw [eW2]
              have p0 := box_cell_grows p0 hg2
              have u0 := box_cell_grows u0 hg2
              have s0 := box_cell_grows s0 hg2
              have z0 := Nat.lt_of_lt_of_le z0 hg2.size
              have hgl := Nat.lt_of_lt_of_le hgl hg2.size
              have hgu := Nat.lt_of_lt_of_le hgu hg2.size
              have GW2 := Lib.hid hg2
              clear hg2 eW2
              go_wp2_with fail
              refine wp_region_reg (by kernel_rfl) (by kernel_rfl) ?_
              repeat (first | go_big_quiet_step ((fail)) | quiet_step ((fail)))
              refine wpQuiet_nil ?_
              intro _ hcw1
              obtain ⟨pq, hcw2⟩ := hcw1
              subst hcw2
              obtain ⟨W3, eW3, hg3⟩ : ∃ W, reg W2 pq = W ∧ Grows W2 W := ⟨_, rfl, below_reg _ _⟩
              rw [eW3]
              have p0 := box_cell_grows p0 hg3
              have u0 := box_cell_grows u0 hg3
              have s0 := box_cell_grows s0 hg3
              have z0 := Nat.lt_of_lt_of_le z0 hg3.size
              have hgl := Nat.lt_of_lt_of_le hgl hg3.size
              have hgu := Nat.lt_of_lt_of_le hgu hg3.size
              have GW3 := Lib.hid (grows_trans _ _ _ GW2.out hg3)
              clear hg3 eW3
              obtain ⟨v8, w8, r8, o8, b8⟩ := gapp_one kindI64 yk (own_grows HLV.out GW3.out) (Nat.le_trans HSL.out (by decide)) (by have := (grows_trans _ _ _ HGX.out GW3.out).size; rwa [ED.out] at this)
              have HA := Lib.hid (And.intro o8 (grows_of_grownBy (grows_trans _ _ _ HGX.out GW3.out) b8 (fun j hj => by rw [ED.out]; exact (World.ownsRow.lt (own_grows HLV.out GW3.out) j hj).1)))
              clear o8 b8
              go_wp2_with (at_builtin; refine wpList_append_eq _ rfl _ _ 42 42 rfl _ _ rfl rfl (r8 _) ?_)
              go_roundw
              case rel => exact ⟨k + 1, by rw [HWK.out]; rfl, HKM.out, by rw [HFO.out, HE.out], by rw [HFO.out, HE.out]; exact HA.out.1, HA.out.2⟩
              case measure => rw [HWK.out]; exact meas_succ HKM.out
            | false =>
              by_cases h3 : x < yk
              · have HE := Lib.hid (stepN_lt (s := s) h1 esb h3)
                have hd3 : decide (x < yk) = true := decide_eq_true h3
                clear h1 esb
                go_wp2_with fail
                refine wp_region_reg (by kernel_rfl) (by kernel_rfl) ?_
                repeat (first | go_big_quiet_step ((fail)) | quiet_step ((fail)))
                refine wpQuiet_nil ?_
                intro _ hcw1
                obtain ⟨pq, hcw2⟩ := hcw1
                subst hcw2
                obtain ⟨W2, eW2, hg2⟩ : ∃ W, reg wr pq = W ∧ Grows wr W := ⟨_, rfl, below_reg _ _⟩
                rw [eW2]
                have p0 := box_cell_grows p0 hg2
                have u0 := box_cell_grows u0 hg2
                have s0 := box_cell_grows s0 hg2
                have z0 := Nat.lt_of_lt_of_le z0 hg2.size
                have hgl := Nat.lt_of_lt_of_le hgl hg2.size
                have hgu := Nat.lt_of_lt_of_le hgu hg2.size
                have GW2 := Lib.hid hg2
                clear hg2 eW2
                go_wp2_with fail
                refine wp_region_reg (by kernel_rfl) (by kernel_rfl) ?_
                repeat (first | go_big_quiet_step ((fail)) | quiet_step ((fail)))
                refine wpQuiet_nil ?_
                intro _ hcw1
                obtain ⟨pq, hcw2⟩ := hcw1
                subst hcw2
                obtain ⟨W3, eW3, hg3⟩ : ∃ W, reg W2 pq = W ∧ Grows W2 W := ⟨_, rfl, below_reg _ _⟩
                rw [eW3]
                have p0 := box_cell_grows p0 hg3
                have u0 := box_cell_grows u0 hg3
                have s0 := box_cell_grows s0 hg3
                have z0 := Nat.lt_of_lt_of_le z0 hg3.size
                have hgl := Nat.lt_of_lt_of_le hgl hg3.size
                have hgu := Nat.lt_of_lt_of_le hgu hg3.size
                have GW3 := Lib.hid (grows_trans _ _ _ GW2.out hg3)
                clear hg3 eW3
                obtain ⟨v7, w7, r7, o7, b7⟩ := gapp_one kindI64 x (own_grows HLV.out GW3.out) (Nat.le_trans HSL.out (by decide)) (by have := (grows_trans _ _ _ HGX.out GW3.out).size; rwa [ED.out] at this)
                have g7 := grows_of_grownBy (grows_trans _ _ _ HGX.out GW3.out) b7 (fun j hj => by rw [ED.out]; exact (World.ownsRow.lt (own_grows HLV.out GW3.out) j hj).1)
                obtain ⟨v8, w8, r8, o8, b8⟩ := gapp_one kindI64 yk o7 (by rw [List.length_append, List.length_singleton]; exact Nat.le_trans (Nat.succ_le_succ HSL.out) (by decide)) (by have := g7.size; rwa [ED.out] at this)
                have HA := Lib.hid (And.intro o8 (grows_of_grownBy g7 b8 (fun j hj => by rw [ED.out]; exact (o7.lt j hj).1)))
                clear u0 hgu
                have hu3 := HU.out _ g7
                have hgu := HGU.out _ g7
                clear o8 b8 o7 b7 g7
                go_wp2_with (at_builtin; first | refine wpList_append_eq _ rfl _ _ 42 42 rfl _ _ rfl rfl (r7 _) ?_ | refine wpList_append_eq _ rfl _ _ 42 42 rfl _ _ rfl rfl (r8 _) ?_)
                go_roundw
                case rel => exact ⟨k + 1, by rw [HWK.out]; rfl, HKM.out, by rw [HFO.out, HE.out], by rw [HFO.out, HE.out]; exact HA.out.1, HA.out.2⟩
                case measure => rw [HWK.out]; exact meas_succ HKM.out
              · have HE := Lib.hid (stepN_ge (s := s) h1 esb h3)
                have hd3 : decide (x < yk) = false := decide_eq_false h3
                clear h1 esb
                go_wp2_with fail
                refine wp_region_reg (by kernel_rfl) (by kernel_rfl) ?_
                repeat (first | go_big_quiet_step ((fail)) | quiet_step ((fail)))
                refine wpQuiet_nil ?_
                intro _ hcw1
                obtain ⟨pq, hcw2⟩ := hcw1
                subst hcw2
                obtain ⟨W2, eW2, hg2⟩ : ∃ W, reg wr pq = W ∧ Grows wr W := ⟨_, rfl, below_reg _ _⟩
                rw [eW2]
                have p0 := box_cell_grows p0 hg2
                have u0 := box_cell_grows u0 hg2
                have s0 := box_cell_grows s0 hg2
                have z0 := Nat.lt_of_lt_of_le z0 hg2.size
                have hgl := Nat.lt_of_lt_of_le hgl hg2.size
                have hgu := Nat.lt_of_lt_of_le hgu hg2.size
                have GW2 := Lib.hid hg2
                clear hg2 eW2
                go_wp2_with fail
                refine wp_region_reg (by kernel_rfl) (by kernel_rfl) ?_
                repeat (first | go_big_quiet_step ((fail)) | quiet_step ((fail)))
                refine wpQuiet_nil ?_
                intro _ hcw1
                obtain ⟨pq, hcw2⟩ := hcw1
                subst hcw2
                obtain ⟨W3, eW3, hg3⟩ : ∃ W, reg W2 pq = W ∧ Grows W2 W := ⟨_, rfl, below_reg _ _⟩
                rw [eW3]
                have p0 := box_cell_grows p0 hg3
                have u0 := box_cell_grows u0 hg3
                have s0 := box_cell_grows s0 hg3
                have z0 := Nat.lt_of_lt_of_le z0 hg3.size
                have hgl := Nat.lt_of_lt_of_le hgl hg3.size
                have hgu := Nat.lt_of_lt_of_le hgu hg3.size
                have GW3 := Lib.hid (grows_trans _ _ _ GW2.out hg3)
                clear hg3 eW3
                obtain ⟨v8, w8, r8, o8, b8⟩ := gapp_one kindI64 yk (own_grows HLV.out GW3.out) (Nat.le_trans HSL.out (by decide)) (by have := (grows_trans _ _ _ HGX.out GW3.out).size; rwa [ED.out] at this)
                have HA := Lib.hid (And.intro o8 (grows_of_grownBy (grows_trans _ _ _ HGX.out GW3.out) b8 (fun j hj => by rw [ED.out]; exact (World.ownsRow.lt (own_grows HLV.out GW3.out) j hj).1)))
                clear o8 b8
                go_wp2_with (at_builtin; refine wpList_append_eq _ rfl _ _ 42 42 rfl _ _ rfl rfl (r8 _) ?_)
                go_roundw
                case rel => exact ⟨k + 1, by rw [HWK.out]; rfl, HKM.out, by rw [HFO.out, HE.out], by rw [HFO.out, HE.out]; exact HA.out.1, HA.out.2⟩
                case measure => rw [HWK.out]; exact meas_succ HKM.out
        · obtain rfl : m = k := Nat.le_antisymm (Nat.le_of_not_lt hkm) hk
          rw [List.take_of_length_le (by rw [EM.out]; exact Nat.le_refl _)] at es hsl
          have hins := stepN_ins x out []
          rw [es, List.nil_append] at hins
          have HINS := Lib.hid hins
          have HSL := Lib.hid (show s.1.length ≤ 9000 by
            have h1 := hsl
            simp only [List.length_nil] at h1
            have := HOL.out
            omega)
          obtain ⟨sb, esb⟩ : ∃ sb, s.2 = sb := ⟨_, rfl⟩
          rw [esb]
          have HSB := Lib.hid esb
          clear hlv hgx hsl es hins hk hkm esb
          cases sb with
          | true =>
            have HQ := Lib.hid (show insR x out = s.1 by have h1 := HINS.out; simp only [HSB.out, if_true] at h1; exact h1.symm)
            go_wp2_with fail
            go_roundw
            case rel => exact ⟨i + 1, by rw [HWS.out]; rfl, HLT.out, by rw [HNX.out, HQ.out]; exact row_base HLV.out (by rw [← ED.out, ← EB.out]; exact HGR.out.size), grows_trans _ _ _ HGR.out HGX.out, box_grows HB.out HGX.out⟩
            case measure => rw [HWS.out]; exact meas_succ HLT.out
          | false =>
            have HQ := Lib.hid (show insR x out = s.1 ++ [x] by have h1 := HINS.out; simp only [HSB.out, Bool.false_eq_true, if_false] at h1; exact h1.symm)
            obtain ⟨v8, w8, r8, o8, b8⟩ := gapp_one kindI64 x HLV.out (Nat.le_trans HSL.out (by decide)) (by have := HGX.out.size; rwa [ED.out] at this)
            have HA := Lib.hid (And.intro o8 (grows_of_grownBy HGX.out b8 (fun j hj => by rw [ED.out]; exact (World.ownsRow.lt HLV.out j hj).1)))
            clear o8 b8
            go_wp2_with (at_builtin; refine wpList_append_eq _ rfl _ _ 42 42 rfl _ _ rfl rfl (r8 _) ?_)
            go_roundw
            case rel => exact ⟨i + 1, by rw [HWS.out]; rfl, HLT.out, by rw [HNX.out, HQ.out]; exact row_base HA.out.1 (by rw [← ED.out, ← EB.out]; exact HGR.out.size), grows_trans _ _ _ HGR.out HA.out.2, box_grows HB.out HA.out.2⟩
            case measure => rw [HWS.out]; exact meas_succ HLT.out
    · obtain rfl : n = i := Nat.le_antisymm (Nat.le_of_not_lt hlt) hi
      have ho := HO.out
      rw [List.take_of_length_le (by rw [EN.out]; exact Nat.le_refl _)] at ho
      obtain ⟨oa, oc, rfl⟩ := (gown_rows kindI64.len ho).len rfl
      have HJ := Lib.hid (show JOwn wr b (.slice oa (numsN l).length oc) (numsN l) by
        have := ho
        unfold GOwn at this
        rw [flat_iv] at this
        exact this)
      clear ho hlt hi
      go_wp2_with fail
      go_ret
      exact ⟨_, _, rfl, HGR.out, by rw [EB.out]; exact HJ.out⟩
end Go.Proofs.Ytgjieoljfcfacaa
