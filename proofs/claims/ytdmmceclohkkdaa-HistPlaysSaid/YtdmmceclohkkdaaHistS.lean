/- The document's Put of a packet that is none too bad (printed by histputgen.py). -/
import Derived.Test.YtdmmceclohkkdaaHistR
namespace Go.Proofs.Ytdmmceclohkkdaa
open Go.RowKit Go.Sort
set_option maxHeartbeats 4000000
set_option maxRecDepth 100000
/-- The keys of packets. -/
abbrev keysP (l : List PW) : List KW := l.map (·.k)
/-- What Put says of a packet that is none too bad. -/
def putP (l : List PW) (M : Nat) (k : KW) : Int := if k ∈ keysP l then 12 else if M ≤ l.length then 13 else 0
theorem tw_imp {α : Type} {p : α → Bool} {x : α} : ∀ {l : List α}, x ∈ l.takeWhile p → p x = true
  | [], h => by simp at h
  | a :: l, h => by
    rw [List.takeWhile_cons] at h
    split at h
    · rcases List.mem_cons.1 h with rfl | h
      · assumption
      · exact tw_imp h
    · simp at h
theorem posP_less {l : List KW} (hr : Rises l) {k : KW} {i : Nat} (hi : i < l.length) : (lessK l[i] k = true → i < posK l k) ∧ (lessK l[i] k = false → posK l k ≤ i) := by
  constructor
  · intro h
    apply Decidable.byContradiction
    intro hc
    have hm : l[i] ∈ l.drop (posK l k) := by
      rw [List.mem_iff_getElem]
      exact ⟨i - posK l k, by rw [List.length_drop]; omega, by rw [List.getElem_drop]; congr 1; omega⟩
    rw [drop_pos] at hm
    have := dropWhile_not hr _ hm
    rw [h] at this
    cases this
  · intro h
    apply Decidable.byContradiction
    intro hc
    have hm : l[i] ∈ l.take (posK l k) := by
      rw [List.mem_take_iff_getElem]
      exact ⟨i, by omega, rfl⟩
    rw [take_pos] at hm
    have := tw_imp (p := fun y => lessK y k) hm
    rw [h] at this
    cases this
theorem own_ty {w : World} {base : Nat} {T : TypeId} {k n : Nat} {v : Value} {xs : List Value} (h : w.ownsRow base T k v n xs) {j : Nat} (hj : v.ownBlock = some j) : ∃ cur, w.heap[j]? = some (.cells cur T (0, 0)) := by
  rcases h.2 with ⟨h1, _⟩ | ⟨g, cap, cur, hv, _, hg, _⟩
  · rw [h1] at hj; simp [Value.ownBlock] at hj
  · rw [hv] at hj
    simp only [Value.ownBlock, Option.some.injEq] at hj
    subst hj
    exact ⟨cur, hg⟩
/-- The rows ahead, then a packet, then those behind: three appends. -/
theorem pput_chain {W3 : World} {l : List PW} {i : Nat} {x : PW} {u1 u2 : Value} (hs1 : ∀ W', Grows W3 W' → PSrc W' u1 (l.take i)) (hs2 : ∀ W', Grows W3 W' → PSrc W' u2 (l.drop i)) (hl : l.length ≤ 10000) :
    ∃ v5 W5, (∀ ty, (Builtin.append_ #[TSP, TSP] ty #[.slice (some ⟨W3.heap.size, 0, none⟩) 0 0, u1]).run Try.prog (W3.alloc (.cells #[] TPK)) = .ok v5 W5) ∧ Grows W3 W5 ∧
    ∃ v7 W7, (∀ ty, (Builtin.append_ #[TSP, TSP] ty #[v5, .slice (some ⟨W5.heap.size, 0, none⟩) 1 1]).run Try.prog (W5.alloc (.cells x.cells TPK)) = .ok v7 W7) ∧ Grows W3 W7 ∧
    ∃ a8 n8 c8 W8, (∀ ty, (Builtin.append_ #[TSP, TSP] ty #[v7, u2]).run Try.prog W7 = .ok (.slice a8 n8 c8) W8) ∧ Grows W3 W8 ∧ POwn W8 W3.heap.size (.slice a8 n8 c8) (l.take i ++ x :: l.drop i) := by
  have hl1 : (l.take i).length ≤ 10000 := Nat.le_trans (List.length_take_le' _ _) hl
  have hl2 : (l.drop i).length ≤ 10000 := by rw [List.length_drop]; omega
  have g4 : Grows W3 (W3.alloc (.cells #[] TPK)) := bl_alloc (Below.refl _ _) _
  have o4 : POwn (W3.alloc (.cells #[] TPK)) W3.heap.size (.slice (some ⟨W3.heap.size, 0, none⟩) 0 0) [] := World.ownsRow_lit W3 #[] 0 (Nat.le_refl _) (by decide) rfl
  obtain ⟨v5, W5, r5, o5, b5⟩ := papp_run o4 (hs1 _ g4) (by simp only [List.length_nil]; omega) g4.size
  have g5 := grows_of_grownBy g4 b5 (fun j hj => (o4.lt j hj).1)
  have g6 : Grows W5 (W5.alloc (.cells x.cells TPK)) := bl_alloc (Below.refl _ _) _
  have s6 : PSrc (W5.alloc (.cells x.cells TPK)) (.slice (some ⟨W5.heap.size, 0, none⟩) 1 1) [x] :=
    .inr ⟨_, 1, rfl, fun j u hj => by
      rw [addr_add, Nat.zero_add]
      exact (cell_in (heap_alloc_new W5 _) j (by simpa [pvs, pcs] using hj)).1⟩
  have o6 := own_grows o5 g6
  have g36 := grows_trans _ _ _ g5 g6
  obtain ⟨v7, W7, r7, o7, b7⟩ := papp_run (l := [] ++ l.take i) o6 s6 (by simp; omega) g36.size
  have g7 := grows_of_grownBy g36 b7 (fun j hj => (o6.lt j hj).1)
  obtain ⟨v8, W8, r8, o8, b8⟩ := papp_run o7 (hs2 _ g7) (by simp; omega) g7.size
  have g8 := grows_of_grownBy g7 b8 (fun j hj => (o7.lt j hj).1)
  obtain ⟨a8, c8, rfl⟩ := POwn.lt' o8 rfl
  refine ⟨v5, W5, r5, g5, v7, W7, r7, g7, a8, _, c8, W8, r8, g8, ?_⟩
  simpa using o8
theorem put_mid9 {w wr W8 : World} {b M : Nat} {v : Value} {dl : Int} {last : KW} {sm : Bool} {x : PW} {a8 : Option Addr} {n8 c8 : Nat} {l : List PW} (eb : w.heap.size = b) (h8 : PutBox w W8 b v M dl last sm x) (hg : Grows w wr) (o8 : POwn W8 wr.heap.size (.slice a8 n8 c8) l) :
    ∃ W9, W8.setCell ⟨b, 0, none⟩ (.slice a8 n8 c8) = W9 ∧ W9.heap[b]? = some (.cells (dcs (.slice a8 n8 c8) M dl last sm) TRH (0, 0)) ∧ W9.heap[b + 1 + 1]? = some (.cells dz TRH (0, 0)) ∧ Grows w W9 ∧ POwn W9 w.heap.size (.slice a8 n8 c8) l := by
  have hc : Chg (fun j => j = b) W8 (W8.setCell ⟨b, 0, none⟩ (.slice a8 n8 c8)) := Chg.setCell (Chg.refl _ _) _ (.inr rfl)
  refine ⟨_, rfl, box_setj (j := 0) h8.b0, box_chg h8.b2 hc (by omega), grows_of_chg h8.g hc (fun j hj => by omega), row_base (hc.own o8 fun j hj e => ?_) hg.size⟩
  obtain ⟨cur, hg8⟩ := own_ty o8 hj
  rw [e, h8.b0] at hg8
  injection hg8 with hg8
  injection hg8 with _ hg8
  exact absurd hg8 (by decide)
theorem put_end10 {w W9 : World} {b M : Nat} {dl : Int} {last : KW} {sm : Bool} {a8 : Option Addr} {n8 c8 : Nat} {l : List PW} (eb : w.heap.size = b) (hg : Grows w W9) (h2 : W9.heap[b + 1 + 1]? = some (.cells dz TRH (0, 0))) (o9 : POwn W9 w.heap.size (.slice a8 n8 c8) l) :
    ∃ W', st7 W9 (b + 1 + 1) (.slice a8 n8 c8) M dl last sm = W' ∧ HAt7 W' (b + 1 + 1) (.slice a8 n8 c8) M dl last sm ∧ Grows w W' ∧ POwn W' w.heap.size (.slice a8 n8 c8) l := by
  obtain ⟨W', e, h1, h3⟩ := put_ret (v := .slice a8 n8 c8) (M := M) (dl := dl) (last := last) (sm := sm) eb hg h2
  refine ⟨W', e, h1, h3, ?_⟩
  have hc := st7_chg W9 (b + 1 + 1) (.slice a8 n8 c8) M dl last sm
  rw [e] at hc
  refine hc.own o9 fun j hj e => ?_
  obtain ⟨cur, hg8⟩ := own_ty o9 hj
  rw [e, h2] at hg8
  injection hg8 with hg8
  injection hg8 with _ hg8
  exact absurd hg8 (by decide)
theorem min_stay {i p m : Nat} (h : m = min i p) (h1 : p ≤ i) : m = min (i + 1) p := by omega
theorem min_go {i p : Nat} (h1 : i < p) : i + 1 = min (i + 1) p := by omega
/-- What Put leaves. -/
def PutTo (w : World) (v : Value) (L : List PW) (M : Nat) (dl : Int) (last : KW) (sm : Bool) (x : PW) (e : Ending) (w' : World) : Prop :=
  ∃ v' r, e = .returned (.tuple #[DV v' M dl last sm, .int .i64 r]) ∧ r = putP L M x.k ∧ Grows w w' ∧ ((r ≠ 0 ∧ v' = v) ∨ (r = 0 ∧ POwn w' w.heap.size v' (L.take (posK (keysP L) x.k) ++ x :: L.drop (posK (keysP L) x.k))))
section
variable {w : World} {M : Nat} {dl : Int} {last : KW} {sm : Bool} {a : Option Addr} {n cap : Nat} {L : List PW}
attribute [-go_sem] run_eql_struct run_neq_struct
theorem rput_go (x : PW) (h : PHas w (.slice a n cap) L) (hn : L.length = n) (hm : n ≤ 10000) (hr : Rises (keysP L)) (h0 : 0 ≤ dl) (h1 : dl ≤ 1152921504606846976) (hE : checkE x.kd x.k dl last sm = 0) :
    Calls Try.prog 50 #[DV (.slice a n cap) M dl last sm, x.val] w (PutTo w (.slice a n cap) L M dl last sm x) := by
  obtain ⟨b, eb⟩ : ∃ b, w.heap.size = b := ⟨_, rfl⟩
  obtain ⟨W, eW, hb0, hb1, hb2, hg⟩ := three_at w (.cells (dcs (.slice a n cap) M dl last sm) TRH) (.cells x.cells TPK) (.cells dz TRH) b eb
  have hbx : PutBox w W b (.slice a n cap) M dl last sm x := ⟨hb0, hb1, hb2, hg⟩
  have HF := Lib.hid (fun W2 (hw : Grows W W2) => (hbx.grows hw).facts)
  have HE := Lib.hid (fun W2 (hw : Grows W W2) => put_ret (v := .slice a n cap) (M := M) (dl := dl) (last := last) (sm := sm) eb (hbx.grows hw).g (hbx.grows hw).b2)
  have HBX := Lib.hid hbx
  obtain ⟨⟨s0, s1, s2, s3, s4, s5, s6, s7⟩, ⟨x0, x1, x2, x3, x4, x5, x6, x7, x8, x9, x10, x11, x12⟩, ⟨f0, f1, f2, f3, f4, f5, f6⟩, ⟨m0, m1, m2, m3, m4, m5, m6, m7⟩⟩ := HF.out W (grows_refl _)
  have HK := Lib.hid (fun W => rkgood_any x.k W)
  have HL := Lib.hid (fun W => rless_any last x.k W)
  obtain ⟨dw1, dw2⟩ := delta_wrap h0 h1
  have q1 : (b + 1 = b) = False := eq_false (by omega)
  have q2 : (b + 1 + 1 = b) = False := eq_false (by omega)
  have q3 : (b + 1 + 1 = b + 1) = False := eq_false (by omega)
  have q4 : (b = b + 1) = False := eq_false (by omega)
  have q5 : (b = b + 1 + 1) = False := eq_false (by omega)
  have q6 : (b + 1 = b + 1 + 1) = False := eq_false (by omega)
  have hgd : goodK x.k = true := by unfold checkE at hE; split at hE; cases hE; split at hE; cases hE; rename_i h; cases e : goodK x.k; exact absurd (.inl e) h; rfl
  have hle : ¬ (1152921504606846976 - dl < x.k.t) := by unfold checkE at hE; split at hE; cases hE; split at hE; cases hE; rename_i h; exact fun e => h (.inr e)
  have hkd : x.kd = 4 ∨ x.kd = 5 := by unfold checkE at hE; split at hE; cases hE; omega
  have hls : sm = true → lessK last x.k = true := check_less hE
  rw [hgd] at HK
  have HKD := Lib.hid hkd
  have HLS := Lib.hid hls
  have HH := Lib.hid (fun W2 (hw : Grows W W2) => h.grows (grows_trans _ _ _ hg hw))
  have HN := Lib.hid hn
  have HM := Lib.hid hm
  have HRI := Lib.hid hr
  have EB := Lib.hid eb
  simp only [dcs, dz, PW.cells, PW.body] at eW
  clear hb0 hb1 hb2 hg hbx h0 h1 hE hgd hkd hls h hn hm hr
  simp only [DV, dcs, PW.val, PW.cells, PW.body]
  go_enter Try.func50, Try.ntmps50
  go_upto_region 1 with (fail)
  clear eW
  go_cut [16] (fun c wx => c = .bool false ∧ Grows W wx)
  case first =>
    have hkd := HKD.out
    rcases hkd with hkd | hkd
    all_goals (
      rw [hkd] at x0
      clear hkd
      go_wp2_with fail
      go_meet
      exact ⟨rfl, grows_refl _⟩)
  case rest =>
    obtain ⟨rfl, hg0⟩ := hcut
    clear s0 s1 s2 s3 s4 s5 s6 s7 x0 x1 x2 x3 x4 x5 x6 x7 x8 x9 x10 x11 x12 f0 f1 f2 f3 f4 f5 f6 m0 m1 m2 m3 m4 m5 m6 m7
    obtain ⟨⟨s0, s1, s2, s3, s4, s5, s6, s7⟩, ⟨x0, x1, x2, x3, x4, x5, x6, x7, x8, x9, x10, x11, x12⟩, ⟨f0, f1, f2, f3, f4, f5, f6⟩, ⟨m0, m1, m2, m3, m4, m5, m6, m7⟩⟩ := HF.out wc hg0
    have HG0 := Lib.hid hg0
    clear hg0
    go_wp2_with fail
    refine (HK.out _).mono ?_
    rintro e w1 ⟨rfl, hg1⟩
    have HG1 := Lib.hid (grows_trans _ _ _ HG0.out hg1)
    clear s0 s1 s2 s3 s4 s5 s6 s7 x0 x1 x2 x3 x4 x5 x6 x7 x8 x9 x10 x11 x12 f0 f1 f2 f3 f4 f5 f6 m0 m1 m2 m3 m4 m5 m6 m7
    obtain ⟨⟨s0, s1, s2, s3, s4, s5, s6, s7⟩, ⟨x0, x1, x2, x3, x4, x5, x6, x7, x8, x9, x10, x11, x12⟩, ⟨f0, f1, f2, f3, f4, f5, f6⟩, ⟨m0, m1, m2, m3, m4, m5, m6, m7⟩⟩ := HF.out w1 HG1.out
    clear hg1
    go_upto_region 5 with (fail)
    go_cut [41] (fun c wx => c = .bool false ∧ Grows W wx)
    case first =>
      cases sm with
      | false =>
        go_wp2_with fail
        go_meet
        exact ⟨rfl, HG1.out⟩
      | true =>
        have hls := HLS.out rfl
        rw [hls] at HL
        clear hls
        go_wp2_with fail
        refine (HL.out _).mono ?_
        rintro e w2 ⟨rfl, hg2⟩
        have HG2 := Lib.hid (grows_trans _ _ _ HG1.out hg2)
        clear hg2
        go_wp2_with fail
        go_meet
        exact ⟨rfl, HG2.out⟩
    case rest =>
      obtain ⟨rfl, hg0⟩ := hcut
      clear s0 s1 s2 s3 s4 s5 s6 s7 x0 x1 x2 x3 x4 x5 x6 x7 x8 x9 x10 x11 x12 f0 f1 f2 f3 f4 f5 f6 m0 m1 m2 m3 m4 m5 m6 m7
      obtain ⟨⟨s0, s1, s2, s3, s4, s5, s6, s7⟩, ⟨x0, x1, x2, x3, x4, x5, x6, x7, x8, x9, x10, x11, x12⟩, ⟨f0, f1, f2, f3, f4, f5, f6⟩, ⟨m0, m1, m2, m3, m4, m5, m6, m7⟩⟩ := HF.out wc hg0
      have HG2 := Lib.hid hg0
      clear hg0
      go_wp2_with fail
      obtain ⟨p, ep⟩ : ∃ p, posK (keysP L) x.k = p := ⟨_, rfl⟩
      have EP := Lib.hid ep
      have hpn : p ≤ n := by rw [← ep, ← HN.out]; have := posK_le (keysP L) x.k; rwa [List.length_map] at this
      have HPN := Lib.hid hpn
      clear ep hpn
      go_loopw [6, 7] (fun av iv wr => ∃ i m : Nat, av = .int .i64 (m : Int) ∧ m = min i p ∧ iv = .int .i64 (i : Int) ∧ i ≤ n ∧ x.k ∉ (keysP L).take i ∧ Grows W wr) (fun _ iv _ => n - (intOf iv).toNat)
      case atStart => exact ⟨0, 0, rfl, (Nat.zero_min _).symm, rfl, Nat.zero_le _, by simp, HG2.out⟩
      case round =>
        obtain ⟨i, m, rfl, em, rfl, hi, hni, hg⟩ := hrel
        clear s0 s1 s2 s3 s4 s5 s6 s7 x0 x1 x2 x3 x4 x5 x6 x7 x8 x9 x10 x11 x12 f0 f1 f2 f3 f4 f5 f6 m0 m1 m2 m3 m4 m5 m6 m7
        obtain ⟨⟨s0, s1, s2, s3, s4, s5, s6, s7⟩, ⟨x0, x1, x2, x3, x4, x5, x6, x7, x8, x9, x10, x11, x12⟩, ⟨f0, f1, f2, f3, f4, f5, f6⟩, ⟨m0, m1, m2, m3, m4, m5, m6, m7⟩⟩ := HF.out wr hg
        have HG3 := Lib.hid hg
        have HNI := Lib.hid hni
        have EM := Lib.hid em
        have hh := HH.out wr hg
        clear hg hni em
        by_cases hlt : i < n
        · have hn6 : i ≤ 1000000 := Nat.le_trans (Nat.le_of_lt hlt) (Nat.le_trans HM.out (by decide))
          have HNF := Lib.hid (nat_facts i hn6)
          have HWS := Lib.hid (wrap_succ hn6)
          have HLT := Lib.hid hlt
          have hnl : i < L.length := by rw [HN.out]; exact hlt
          obtain ⟨g, o, c', he, hcap, hgl, hat⟩ := hh.form HN.out (Nat.lt_of_le_of_lt (Nat.zero_le _) hlt)
          simp only [Value.slice.injEq, true_and] at he
          obtain ⟨rfl, rfl⟩ := he
          obtain ⟨-, p1, p2, p3, -⟩ := pat_cells hat i hnl
          obtain ⟨y, ey⟩ : ∃ y, L[i] = y := ⟨_, rfl⟩
          rw [ey] at p1 p2 p3
          have htk : (keysP L).take (i + 1) = (keysP L).take i ++ [y.k] := by rw [List.take_succ_eq_append_getElem (by rw [List.length_map]; exact hnl), List.getElem_map, ey]
          have HTK := Lib.hid htk
          have hki : (i : Int) < (n : Int) := Int.ofNat_lt.2 hlt
          have hq := key_eql y.k x.k
          have HMEM := Lib.hid (fun (e : y.k = x.k) => show x.k ∈ keysP L from List.mem_map.2 ⟨y, by rw [← ey]; exact List.getElem_mem _, e⟩)
          have hpl := posP_less HRI.out (k := x.k) (i := i) (by rw [List.length_map]; exact hnl)
          rw [List.getElem_map, ey] at hpl
          have HPL := Lib.hid hpl
          have HLY := Lib.hid (fun W => rless_any y.k x.k W)
          clear hpl htk ey hat hh hnl hcap hlt hn6 hi
          obtain ⟨j1, j2, j3, j4, j6⟩ := HNF.out
          by_cases hyk : y.k = x.k
          · have hd : decide (y.k = x.k) = true := decide_eq_true hyk
            have HR := Lib.hid (show (12 : Int) = putP L M x.k by unfold putP; rw [if_pos (HMEM.out hyk)])
            simp only [hd] at hq
            have hq1 := hq wr.drew
            clear hyk hd
            go_wp2_with fail
            refine wp_region_reg (by kernel_rfl) (by kernel_rfl) ?_
            repeat (first | go_big_quiet_step ((fail)) | quiet_step ((fail)))
            refine wpQuiet_nil ?_
            intro _ hcw1
            obtain ⟨pq, hcw2⟩ := hcw1
            subst hcw2
            obtain ⟨W2, eW2, hg2⟩ : ∃ W2, reg wr pq = W2 ∧ Grows wr W2 := ⟨_, rfl, below_reg _ _⟩
            rw [eW2]
            have HG4 := Lib.hid (grows_trans _ _ _ HG3.out hg2)
            clear hg2 eW2 p1 p2 p3
            clear s0 s1 s2 s3 s4 s5 s6 s7 x0 x1 x2 x3 x4 x5 x6 x7 x8 x9 x10 x11 x12 f0 f1 f2 f3 f4 f5 f6 m0 m1 m2 m3 m4 m5 m6 m7
            obtain ⟨⟨s0, s1, s2, s3, s4, s5, s6, s7⟩, ⟨x0, x1, x2, x3, x4, x5, x6, x7, x8, x9, x10, x11, x12⟩, ⟨f0, f1, f2, f3, f4, f5, f6⟩, ⟨m0, m1, m2, m3, m4, m5, m6, m7⟩⟩ := HF.out W2 HG4.out
            obtain ⟨W7, e7, i7, gA⟩ := HE.out W2 HG4.out
            have HX := Lib.hid (And.intro i7 gA)
            simp only [st7] at e7
            clear i7 gA
            go_wp2_with fail
            obtain ⟨⟨i0, i1, i2, i3, i4, i5, i6, i7⟩, gA⟩ := HX.out
            exact bodyPost_ret (v := .tuple #[DV (.slice (some ⟨g, o, none⟩) n cap) M dl last sm, .int .i64 12]) (by simp [results, Try.results50, go_sem, i0, i1, i2, i3, i4, i5, i6]) rfl ⟨_, _, rfl, HR.out, gA, .inl ⟨by decide, rfl⟩⟩
          · have hd : decide (y.k = x.k) = false := decide_eq_false hyk
            simp only [hd] at hq
            have HYK := Lib.hid hyk
            clear hyk hd
            go_wp2_with fail
            refine wp_region_reg (by kernel_rfl) (by kernel_rfl) ?_
            repeat (first | go_big_quiet_step ((fail)) | quiet_step ((fail)))
            refine wpQuiet_nil ?_
            intro _ hcw1
            obtain ⟨pq, hcw2⟩ := hcw1
            subst hcw2
            obtain ⟨W2, eW2, hg2⟩ : ∃ W2, reg wr pq = W2 ∧ Grows wr W2 := ⟨_, rfl, below_reg _ _⟩
            rw [eW2]
            have p1 := box_cell_grows p1 hg2
            have p2 := box_cell_grows p2 hg2
            have p3 := box_cell_grows p3 hg2
            have hgl := Nat.lt_of_lt_of_le hgl hg2.size
            have HG4 := Lib.hid (grows_trans _ _ _ HG3.out hg2)
            clear hg2 eW2
            clear s0 s1 s2 s3 s4 s5 s6 s7 x0 x1 x2 x3 x4 x5 x6 x7 x8 x9 x10 x11 x12 f0 f1 f2 f3 f4 f5 f6 m0 m1 m2 m3 m4 m5 m6 m7
            obtain ⟨⟨s0, s1, s2, s3, s4, s5, s6, s7⟩, ⟨x0, x1, x2, x3, x4, x5, x6, x7, x8, x9, x10, x11, x12⟩, ⟨f0, f1, f2, f3, f4, f5, f6⟩, ⟨m0, m1, m2, m3, m4, m5, m6, m7⟩⟩ := HF.out W2 HG4.out
            have hni' := fun h => (List.mem_append.1 (HTK.out ▸ h : x.k ∈ (keysP L).take i ++ [y.k])).elim HNI.out (fun h => HYK.out (List.mem_singleton.1 h).symm)
            have HNI2 := Lib.hid hni'
            obtain ⟨ls, els⟩ : ∃ ls, lessK y.k x.k = ls := ⟨_, rfl⟩
            have ELS := Lib.hid els
            rw [els] at HLY
            clear hni' els
            go_wp2_with fail
            refine wp_region_reg (by kernel_rfl) (by kernel_rfl) ?_
            repeat (first | go_big_quiet_step ((go_at_call 46; exact class_reg (HLY.out _))) | quiet_step ((go_at_call 46; exact class_reg (HLY.out _))))
            refine wpQuiet_nil ?_
            intro _ hcw1
            obtain ⟨pq, hcw2⟩ := hcw1
            subst hcw2
            have HG5 := Lib.hid (grows_trans _ _ _ HG4.out (below_reg W2 pq))
            cases ls with
            | false =>
              have h1 := HPL.out.2 ELS.out
              rw [EP.out] at h1
              have HE2 := Lib.hid (min_stay EM.out h1)
              clear h1
              go_wp2_with fail
              go_roundw
              case rel => exact ⟨i + 1, m, rfl, HE2.out, by rw [HWS.out]; rfl, HLT.out, HNI2.out, HG5.out⟩
              case measure => rw [HWS.out]; exact meas_succ HLT.out
            | true =>
              have h1 := HPL.out.1 ELS.out
              rw [EP.out] at h1
              have HE2 := Lib.hid (min_go h1)
              clear h1
              go_wp2_with fail
              go_roundw
              case rel => exact ⟨i + 1, i + 1, by rw [HWS.out]; rfl, HE2.out, by rw [HWS.out]; rfl, HLT.out, HNI2.out, HG5.out⟩
              case measure => rw [HWS.out]; exact meas_succ HLT.out
        · obtain rfl : n = i := Nat.le_antisymm (Nat.le_of_not_lt hlt) hi
          obtain rfl : m = p := by rw [EM.out]; exact Nat.min_eq_right HPN.out
          have hno : x.k ∉ keysP L := by
            have h9 := HNI.out
            rwa [List.take_of_length_le (by rw [List.length_map, HN.out]; exact Nat.le_refl _)] at h9
          clear hlt hi
          by_cases hM : M ≤ n
          · have HR := Lib.hid (show (13 : Int) = putP L M x.k by unfold putP; rw [if_neg hno, if_pos (by rw [HN.out]; exact hM)])
            have hMi : (M : Int) ≤ (n : Int) := Int.ofNat_le.2 hM
            clear hno hM hh
            obtain ⟨W7, e7, i7, gA⟩ := HE.out wr HG3.out
            have HX := Lib.hid (And.intro i7 gA)
            simp only [st7] at e7
            clear i7 gA
            go_wp2_with fail
            obtain ⟨⟨i0, i1, i2, i3, i4, i5, i6, i7⟩, gA⟩ := HX.out
            exact bodyPost_ret (v := .tuple #[DV (.slice a n cap) M dl last sm, .int .i64 13]) (by simp [results, Try.results50, go_sem, i0, i1, i2, i3, i4, i5, i6]) rfl ⟨_, _, rfl, HR.out, gA, .inl ⟨by decide, rfl⟩⟩
          · have HR := Lib.hid (show (0 : Int) = putP L M x.k by unfold putP; rw [if_neg hno, if_neg (by rw [HN.out]; exact hM)])
            have hMi : (n : Int) < (M : Int) := Int.ofNat_lt.2 (Nat.lt_of_not_le hM)
            clear hno hM
            have hpn := HPN.out
            have arms : (L = [] ∧ n = 0 ∧ m = 0 ∧ a = none ∧ cap = 0) ∨ ∃ g o, a = some ⟨g, o, none⟩ ∧ n ≤ cap ∧ (∀ W', Grows wr W' → RAt pcs 12 W' g o L) ∧ ((n = m ∧ cap = m) ∨ cap ≠ m) := by
              have hor : n ≤ cap → ((n = m ∧ cap = m) ∨ cap ≠ m) := fun h => by omega
              rcases hh with ⟨hnil, a', cap', hv, hz, hsp⟩ | ⟨g, o, cap', cur, hv, hcap, hg, hat⟩
              · simp only [Value.slice.injEq] at hv
                obtain ⟨rfl, e0, rfl⟩ := hv
                cases a with
                | none => exact .inl ⟨hnil, e0, by omega, rfl, hz rfl⟩
                | some y =>
                  obtain ⟨g, o, sp⟩ := y
                  obtain rfl : sp = none := hsp _ rfl
                  exact .inr ⟨g, o, rfl, by omega, fun W' _ i hi => by rw [hnil] at hi; simp at hi, hor (by omega)⟩
              · rw [HN.out] at hv hcap
                simp only [Value.slice.injEq, true_and] at hv
                obtain ⟨rfl, rfl⟩ := hv
                exact .inr ⟨g, o, rfl, hcap, fun W' hW => hat.grows hW (box_lt hg), hor hcap⟩
            have hm6 : m ≤ 1000000 := Nat.le_trans hpn (Nat.le_trans HM.out (by decide))
            have hwm := wrap_nat hm6
            have hm0 : (0 : Int) ≤ (m : Int) := Int.natCast_nonneg _
            have HCH := Lib.hid (fun (u1 u2 : Value) (h : (∀ W', Grows wr W' → PSrc W' u1 (L.take m)) ∧ (∀ W', Grows wr W' → PSrc W' u2 (L.drop m))) => pput_chain (x := x) h.1 h.2 (by rw [HN.out]; exact HM.out))
            have hlt2 : (L.drop m).length = n - m := by rw [List.length_drop, HN.out]
            have hlt1 : (L.take m).length = m := by rw [List.length_take, HN.out]; exact Nat.min_eq_left hpn
            clear hh hm6
            rcases arms with ⟨hl, e1, e2, rfl, rfl⟩ | ⟨g, o, rfl, hcap, hat, ⟨e1, e2⟩ | hne⟩
            · have HS := Lib.hid (HCH.out (.slice none 0 0) (.slice none 0 0) ⟨fun _ _ => .inl ⟨by rw [hl]; simp, rfl⟩, fun _ _ => .inl ⟨by rw [hl]; simp, rfl⟩⟩)
              clear hl hlt1 hlt2
              subst e1 e2
              have HA := HS.out
              obtain ⟨v5, W5, r5, g5, v7, W7, r7, g7, a8, n8, c8, W8, r8, g8, o8⟩ := HA
              have hb5 := HBX.out.grows (grows_trans _ _ _ HG3.out g5)
              have hb7 := HBX.out.grows (grows_trans _ _ _ HG3.out g7)
              have hb8 := HBX.out.grows (grows_trans _ _ _ HG3.out g8)
              obtain ⟨W9, e9, b90, b92, g9, o9⟩ := put_mid9 EB.out hb8 (grows_trans _ _ _ HBX.out.g HG3.out) o8
              obtain ⟨W10, e10, i10, g10, o10⟩ := put_end10 (M := M) (dl := dl) (last := last) (sm := sm) EB.out g9 b92 o9
              have HX := Lib.hid (And.intro i10 (And.intro g10 o10))
              clear x0 x1 x2 x3 x4 x5 x6 x7 x8 x9 x10 x11 x12 f0 f1 f2 f3 f4 f5 f6 m0 m1 m2 m3 m4 m5 m6 m7
              obtain ⟨x0, x1, x2, x3, x4, x5, x6, x7, x8, x9, x10, x11, x12⟩ := pat_of hb5.b1
              obtain ⟨t0, t1, t2, t3, t4, t5, t6, t7⟩ := hat7_of hb7.b0
              obtain ⟨k0, k1, k2, k3, k4, k5, k6, k7⟩ := hat7_of hb8.b0
              obtain ⟨kf0, -⟩ := hfree7_of hb8.b0
              obtain ⟨l0, l1, l2, l3, l4, l5, l6, l7⟩ := hat7_of b90
              obtain ⟨f0, f1, f2, f3, f4, f5, f6⟩ := hfree7_of b92
              obtain ⟨m0, m1, m2, m3, m4, m5, m6, m7⟩ := hat7z_of b92
              simp only [st7] at e10
              clear hb5 hb7 hb8 b90 b92 g9 o9 i10 g10 o10 g5 g7 g8 o8
              go_wp2_with (at_builtin; first | refine wpList_append_run _ rfl _ _ TSP TSP rfl _ _ rfl rfl (r5 _) ?_ | refine wpList_append_run _ rfl _ _ TSP TSP rfl _ _ rfl rfl (r7 _) ?_ | refine wpList_append_run _ rfl _ _ TSP TSP rfl _ _ rfl rfl (r8 _) ?_)
              obtain ⟨⟨i0, i1, i2, i3, i4, i5, i6, i7⟩, gA, oA⟩ := HX.out
              exact bodyPost_ret (v := .tuple #[DV (.slice a8 n8 c8) M dl last sm, .int .i64 0]) (by simp [results, Try.results50, go_sem, i0, i1, i2, i3, i4, i5, i6]) rfl ⟨_, _, rfl, HR.out, gA, .inr ⟨rfl, by rw [EP.out]; exact oA⟩⟩
            · subst e1
              subst e2
              have HS := Lib.hid (HCH.out (.slice (some ⟨g, o, none⟩) cap cap) (.slice (some ⟨g, o, none⟩) 0 0) ⟨fun W' hW => by have := psrc_take (hat W' hW) cap cap; rwa [hlt1] at this, fun W' hW => by rw [List.eq_nil_of_length_eq_zero (hlt2.trans (Nat.sub_self _))]; exact psrc_nil _ _ _ (fun h => by cases h)⟩)
              clear hat hlt1 hlt2 hcap
              have HA := HS.out
              obtain ⟨v5, W5, r5, g5, v7, W7, r7, g7, a8, n8, c8, W8, r8, g8, o8⟩ := HA
              have hb5 := HBX.out.grows (grows_trans _ _ _ HG3.out g5)
              have hb7 := HBX.out.grows (grows_trans _ _ _ HG3.out g7)
              have hb8 := HBX.out.grows (grows_trans _ _ _ HG3.out g8)
              obtain ⟨W9, e9, b90, b92, g9, o9⟩ := put_mid9 EB.out hb8 (grows_trans _ _ _ HBX.out.g HG3.out) o8
              obtain ⟨W10, e10, i10, g10, o10⟩ := put_end10 (M := M) (dl := dl) (last := last) (sm := sm) EB.out g9 b92 o9
              have HX := Lib.hid (And.intro i10 (And.intro g10 o10))
              clear x0 x1 x2 x3 x4 x5 x6 x7 x8 x9 x10 x11 x12 f0 f1 f2 f3 f4 f5 f6 m0 m1 m2 m3 m4 m5 m6 m7
              obtain ⟨x0, x1, x2, x3, x4, x5, x6, x7, x8, x9, x10, x11, x12⟩ := pat_of hb5.b1
              obtain ⟨t0, t1, t2, t3, t4, t5, t6, t7⟩ := hat7_of hb7.b0
              obtain ⟨k0, k1, k2, k3, k4, k5, k6, k7⟩ := hat7_of hb8.b0
              obtain ⟨kf0, -⟩ := hfree7_of hb8.b0
              obtain ⟨l0, l1, l2, l3, l4, l5, l6, l7⟩ := hat7_of b90
              obtain ⟨f0, f1, f2, f3, f4, f5, f6⟩ := hfree7_of b92
              obtain ⟨m0, m1, m2, m3, m4, m5, m6, m7⟩ := hat7z_of b92
              simp only [st7] at e10
              clear hb5 hb7 hb8 b90 b92 g9 o9 i10 g10 o10 g5 g7 g8 o8
              go_wp2_with (at_builtin; first | refine wpList_append_run _ rfl _ _ TSP TSP rfl _ _ rfl rfl (r5 _) ?_ | refine wpList_append_run _ rfl _ _ TSP TSP rfl _ _ rfl rfl (r7 _) ?_ | refine wpList_append_run _ rfl _ _ TSP TSP rfl _ _ rfl rfl (r8 _) ?_)
              obtain ⟨⟨i0, i1, i2, i3, i4, i5, i6, i7⟩, gA, oA⟩ := HX.out
              exact bodyPost_ret (v := .tuple #[DV (.slice a8 n8 c8) M dl last sm, .int .i64 0]) (by simp [results, Try.results50, go_sem, i0, i1, i2, i3, i4, i5, i6]) rfl ⟨_, _, rfl, HR.out, gA, .inr ⟨rfl, by rw [EP.out]; exact oA⟩⟩
            · have HS := Lib.hid (HCH.out (.slice (some ⟨g, o, none⟩) m cap) (.slice (some ⟨g, o + m * 12, none⟩) (n - m) (cap - m)) ⟨fun W' hW => by have := psrc_take (hat W' hW) m cap; rwa [hlt1] at this, fun W' hW => by have := psrc_at (hat W' hW) m (cap - m); rwa [hlt2] at this⟩)
              have hq9 : (cap = m) = False := eq_false hne
              have hq8 : m ≤ cap := Nat.le_trans hpn hcap
              clear hat hlt1 hlt2 hne
              have HA := HS.out
              obtain ⟨v5, W5, r5, g5, v7, W7, r7, g7, a8, n8, c8, W8, r8, g8, o8⟩ := HA
              have hb5 := HBX.out.grows (grows_trans _ _ _ HG3.out g5)
              have hb7 := HBX.out.grows (grows_trans _ _ _ HG3.out g7)
              have hb8 := HBX.out.grows (grows_trans _ _ _ HG3.out g8)
              obtain ⟨W9, e9, b90, b92, g9, o9⟩ := put_mid9 EB.out hb8 (grows_trans _ _ _ HBX.out.g HG3.out) o8
              obtain ⟨W10, e10, i10, g10, o10⟩ := put_end10 (M := M) (dl := dl) (last := last) (sm := sm) EB.out g9 b92 o9
              have HX := Lib.hid (And.intro i10 (And.intro g10 o10))
              clear x0 x1 x2 x3 x4 x5 x6 x7 x8 x9 x10 x11 x12 f0 f1 f2 f3 f4 f5 f6 m0 m1 m2 m3 m4 m5 m6 m7
              obtain ⟨x0, x1, x2, x3, x4, x5, x6, x7, x8, x9, x10, x11, x12⟩ := pat_of hb5.b1
              obtain ⟨t0, t1, t2, t3, t4, t5, t6, t7⟩ := hat7_of hb7.b0
              obtain ⟨k0, k1, k2, k3, k4, k5, k6, k7⟩ := hat7_of hb8.b0
              obtain ⟨kf0, -⟩ := hfree7_of hb8.b0
              obtain ⟨l0, l1, l2, l3, l4, l5, l6, l7⟩ := hat7_of b90
              obtain ⟨f0, f1, f2, f3, f4, f5, f6⟩ := hfree7_of b92
              obtain ⟨m0, m1, m2, m3, m4, m5, m6, m7⟩ := hat7z_of b92
              simp only [st7] at e10
              clear hb5 hb7 hb8 b90 b92 g9 o9 i10 g10 o10 g5 g7 g8 o8
              go_wp2_with (at_builtin; first | refine wpList_append_run _ rfl _ _ TSP TSP rfl _ _ rfl rfl (r5 _) ?_ | refine wpList_append_run _ rfl _ _ TSP TSP rfl _ _ rfl rfl (r7 _) ?_ | refine wpList_append_run _ rfl _ _ TSP TSP rfl _ _ rfl rfl (r8 _) ?_)
              obtain ⟨⟨i0, i1, i2, i3, i4, i5, i6, i7⟩, gA, oA⟩ := HX.out
              exact bodyPost_ret (v := .tuple #[DV (.slice a8 n8 c8) M dl last sm, .int .i64 0]) (by simp [results, Try.results50, go_sem, i0, i1, i2, i3, i4, i5, i6]) rfl ⟨_, _, rfl, HR.out, gA, .inr ⟨rfl, by rw [EP.out]; exact oA⟩⟩
end
end Go.Proofs.Ytdmmceclohkkdaa
