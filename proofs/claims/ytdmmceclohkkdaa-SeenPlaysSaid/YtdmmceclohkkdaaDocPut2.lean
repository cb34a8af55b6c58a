/- The document's Put: the walk. -/
import Derived.Test.YtdmmceclohkkdaaDocAt
import Derived.Test.YtdmmceclohkkdaaTabP
/- The document's Put. -/
namespace Go.Proofs.Ytdmmceclohkkdaa
open Go.RowKit Go.Sort
set_option maxHeartbeats 4000000
set_option maxRecDepth 100000
/-- What the document's Put leaves of the rows. -/
def putR (l : List DR) (M : Nat) (k : KW) (x : Int) : List DR := if putE (l.map tv) M k = 0 then insT l k x else l
/-- What a call leaves that gives back a table of the document. -/
def RTab (w : World) (base : Nat) (l : List DR) (M : Nat) (R : Value → Value) (e : Ending) (w' : World) : Prop := ∃ v', e = .returned (R (dval v' M)) ∧ Grows w w' ∧ ROwn w' base v' l
theorem getK_tv {l : List DR} {k : KW} : getK (l.map tv) k = none ↔ k ∉ l.map (·.1) := by rw [getK_none, tv_keys]
theorem putE_dup {l : List DR} {M : Nat} {k : KW} (h : k ∈ l.map (·.1)) : putE (l.map tv) M k = 12 := by
  unfold putE
  rw [if_pos (fun e => getK_tv.1 e h)]
theorem putE_full {l : List DR} {M : Nat} {k : KW} (h : k ∉ l.map (·.1)) (hl : M ≤ l.length) : putE (l.map tv) M k = 13 := by
  unfold putE
  rw [if_neg (by rw [getK_tv.2 h]; simp), if_pos (by rw [List.length_map]; exact hl)]
theorem putE_ok {l : List DR} {M : Nat} {k : KW} (h : k ∉ l.map (·.1)) (hl : ¬ M ≤ l.length) : putE (l.map tv) M k = 0 := by
  unfold putE
  rw [if_neg (by rw [getK_tv.2 h]; simp), if_neg (by rw [List.length_map]; exact hl)]
theorem atR_mem {l : List DR} {k : KW} (h : k ∈ l.map (·.1)) : ∃ i : Nat, atR l k = (i : Int) ∧ i < l.length := by
  unfold atR
  cases hf : l.findIdx? (fun p => decide (p.1 = k)) with
  | none =>
    rw [List.findIdx?_eq_none_iff] at hf
    obtain ⟨p, hp, e⟩ := List.mem_map.1 h
    have := hf p hp
    simp [e] at this
  | some i => exact ⟨i, rfl, (List.findIdx?_eq_some_iff_getElem.1 hf).1⟩
theorem insT_at (l : List DR) (k : KW) (x : Int) : insT l k x = l.take (posK (l.map (·.1)) k) ++ (k, x) :: l.drop (posK (l.map (·.1)) k) := by
  have h1 : (l.takeWhile fun p => lessK p.1 k).length = posK (l.map (·.1)) k := by
    unfold posK
    rw [← map_takeWhile' (fun p : DR => p.1) (fun y => lessK y k) l, List.length_map]
  have h2 := List.takeWhile_append_dropWhile (p := fun p : DR => lessK p.1 k) (l := l)
  unfold insT
  rw [← h1]
  conv => rhs; rw [← h2]
  rw [h2]
  congr 1
  · conv => rhs; rw [← h2]
    rw [h2, show l.take (l.takeWhile fun p => lessK p.1 k).length = ((l.takeWhile fun p => lessK p.1 k) ++ l.dropWhile fun p => lessK p.1 k).take (l.takeWhile fun p => lessK p.1 k).length by rw [h2], List.take_left]
  · congr 1
    rw [show l.drop (l.takeWhile fun p => lessK p.1 k).length = ((l.takeWhile fun p => lessK p.1 k) ++ l.dropWhile fun p => lessK p.1 k).drop (l.takeWhile fun p => lessK p.1 k).length by rw [h2], List.drop_left]
theorem takeWhile_imp {α : Type} {p : α → Bool} {x : α} : ∀ {l : List α}, x ∈ l.takeWhile p → p x = true
  | [], h => by simp at h
  | a :: l, h => by
    rw [List.takeWhile_cons] at h
    split at h
    · rcases List.mem_cons.1 h with rfl | h
      · assumption
      · exact takeWhile_imp h
    · simp at h
theorem pos_less {l : List DR} {k : KW} {i : Nat} (hi : i < l.length) : (i < posK (l.map (·.1)) k → lessK (l[i]).1 k = true) ∧ (i = posK (l.map (·.1)) k → lessK (l[i]).1 k = false) := by
  have h1 := (take_pos (l.map (·.1)) k)
  have h2 := (drop_pos (l.map (·.1)) k)
  constructor
  · intro h
    have hm : (l[i]).1 ∈ (l.map (·.1)).take (posK (l.map (·.1)) k) := by
      rw [List.mem_take_iff_getElem]
      exact ⟨i, by rw [List.length_map]; omega, by rw [List.getElem_map]⟩
    rw [h1] at hm
    exact takeWhile_imp (p := fun y => lessK y k) hm
  · intro h
    subst h
    have hd : (l.map (·.1)).drop (posK (l.map (·.1)) k) = (l[posK (l.map (·.1)) k]).1 :: (l.map (·.1)).drop (posK (l.map (·.1)) k + 1) := by
      rw [List.drop_eq_getElem_cons (by rw [List.length_map]; exact hi), List.getElem_map]
    rw [h2] at hd
    have := List.head?_dropWhile_not (fun y => lessK y k) (l.map (·.1))
    rw [hd] at this
    simpa using this
end Go.Proofs.Ytdmmceclohkkdaa
namespace Go.Proofs.Ytdmmceclohkkdaa
open Go.RowKit Go.Sort
set_option maxHeartbeats 4000000
set_option maxRecDepth 100000
theorem three_new (w : World) (A B C : Obj) : let W := ((w.alloc A).alloc B).alloc C; W.heap[w.heap.size]? = some A ∧ W.heap[w.heap.size + 1]? = some B ∧ W.heap[w.heap.size + 2]? = some C ∧ Grows w W := by
  have h1 := two_new w A B
  have h2 := heap_alloc_new ((w.alloc A).alloc B) C
  have g : Grows ((w.alloc A).alloc B) (((w.alloc A).alloc B).alloc C) := bl_alloc (Below.refl _ _) _
  refine ⟨box_grows h1.1 g, box_grows h1.2 g, ?_, bl_alloc (bl_alloc (bl_alloc (Below.refl _ _) _) _) _⟩
  simp only [World.size_alloc] at h2
  exact h2
theorem rtab_end {w wx : World} {base b : Nat} {v u0 u1 : Value} {l : List DR} (M : Nat) (hg : Grows w wx) (eb : w.heap.size = b) (j : Nat) (hj : b ≤ j) (h2 : wx.heap[j]? = some (.cells #[u0, u1] 37 (0, 0))) (ho : ROwn wx base v l) :
    Grows w ((wx.setCell ⟨j, 0, none⟩ v).setCell ⟨j, 1, none⟩ (.int .i64 (M : Int))) ∧ ROwn ((wx.setCell ⟨j, 0, none⟩ v).setCell ⟨j, 1, none⟩ (.int .i64 (M : Int))) base v l ∧
      ((wx.setCell ⟨j, 0, none⟩ v).setCell ⟨j, 1, none⟩ (.int .i64 (M : Int))).cell? ⟨j, 0, none⟩ = some v ∧ ((wx.setCell ⟨j, 0, none⟩ v).setCell ⟨j, 1, none⟩ (.int .i64 (M : Int))).cell? ⟨j, 1, none⟩ = some (.int .i64 (M : Int)) := by
  have hc : Chg (fun i => i = j) wx ((wx.setCell ⟨j, 0, none⟩ v).setCell ⟨j, 1, none⟩ (.int .i64 (M : Int))) := Chg.setCell (S := fun i => i = j) (Chg.setCell (S := fun i => i = j) (Chg.refl _ _) _ (.inr rfl)) _ (.inr rfl)
  have h3 := box_setj (j := 0) (v := v) h2
  have h4 := box_setj (j := 1) (v := .int .i64 (M : Int)) h3
  refine ⟨?_, hc.own ho (fun i hi e => ?_), (cell_in h4 0 rfl).1, (cell_in h4 1 rfl).1⟩
  · refine ((Chg.ofGrows hg).trans (S := fun i => i = j) hc).toGrows fun i hi e => ?_
    rw [e, eb] at hi
    omega
  · obtain ⟨cur, hcur⟩ := ROwn.ty ho hi
    rw [e, h2] at hcur
    injection hcur with hcur
    injection hcur with _ hcur
    exact absurd hcur (by decide)
/-- The rows ahead, then a row, then those behind: three appends. -/
theorem put_chain {W3 : World} {l : List DR} {i : Nat} {k : KW} {x : Int} {u1 u2 : Value} (hs1 : ∀ W', Grows W3 W' → RSrc W' u1 (l.take i)) (hs2 : ∀ W', Grows W3 W' → RSrc W' u2 (l.drop i)) (hl : l.length ≤ 10000) :
    ∃ v5 W5, (∀ ty, (Builtin.append_ #[35, 35] ty #[.slice (some ⟨W3.heap.size, 0, none⟩) 0 0, u1]).run Try.prog (W3.alloc (.cells #[] 117)) = .ok v5 W5) ∧ Grows W3 W5 ∧
    ∃ v7 W7, (∀ ty, (Builtin.append_ #[35, 35] ty #[v5, .slice (some ⟨W5.heap.size, 0, none⟩) 1 1]).run Try.prog (W5.alloc (.cells #[.int .i64 k.t, .int .i64 k.f, .int .u32 k.s, .int .i64 x] 117)) = .ok v7 W7) ∧ Grows W3 W7 ∧
    ∃ a8 n8 c8 W8, (∀ ty, (Builtin.append_ #[35, 35] ty #[v7, u2]).run Try.prog W7.drew = .ok (.slice a8 n8 c8) W8) ∧ Grows W3 W8 ∧ ROwn W8 W3.heap.size (.slice a8 n8 c8) (l.take i ++ (k, x) :: l.drop i) := by
  have hl1 : (l.take i).length ≤ 10000 := Nat.le_trans (List.length_take_le' _ _) hl
  have hl2 : (l.drop i).length ≤ 10000 := by rw [List.length_drop]; omega
  have g4 : Grows W3 (W3.alloc (.cells #[] 117)) := bl_alloc (Below.refl _ _) _
  have o4 : ROwn (W3.alloc (.cells #[] 117)) W3.heap.size (.slice (some ⟨W3.heap.size, 0, none⟩) 0 0) [] := World.ownsRow_lit W3 #[] 0 (Nat.le_refl _) (by decide) rfl
  obtain ⟨v5, W5, r5, o5, b5⟩ := rapp_run o4 (hs1 _ g4) (by simp only [List.length_nil]; omega) g4.size
  have g5 := grows_of_grownBy g4 b5 (fun j hj => (o4.lt j hj).1)
  have g6 : Grows W5 (W5.alloc (.cells #[.int .i64 k.t, .int .i64 k.f, .int .u32 k.s, .int .i64 x] 117)) := bl_alloc (Below.refl _ _) _
  have s6 : RSrc (W5.alloc (.cells #[.int .i64 k.t, .int .i64 k.f, .int .u32 k.s, .int .i64 x] 117)) (.slice (some ⟨W5.heap.size, 0, none⟩) 1 1) [(k, x)] :=
    .inr ⟨_, 1, rfl, fun j u hj => by
      rw [addr_add, Nat.zero_add]
      exact (cell_in (heap_alloc_new W5 _) j (by simpa [rvs, rc] using hj)).1⟩
  have o6 := own_grows o5 g6
  have g36 := grows_trans _ _ _ g5 g6
  obtain ⟨v7, W7, r7, o7, b7⟩ := rapp_run (l := [] ++ l.take i) o6 s6 (by simp; omega) g36.size
  have g7 := grows_of_grownBy g36 b7 (fun j hj => (o6.lt j hj).1)
  have gd : Grows W7 W7.drew := bl_drew (Below.refl _ _)
  have o7d := own_grows o7 gd
  have g7d := grows_trans _ _ _ g7 gd
  obtain ⟨v8, W8, r8, o8, b8⟩ := rapp_run o7d (hs2 _ g7d) (by simp; omega) g7d.size
  have g8 := grows_of_grownBy g7d b8 (fun j hj => (o7d.lt j hj).1)
  obtain ⟨a8, c8, rfl⟩ := ROwn.len o8 rfl
  refine ⟨v5, W5, r5, g5, v7, W7, r7, g7, a8, _, c8, W8, r8, g8, ?_⟩
  simpa using o8
theorem rput_any {v : Value} {l : List DR} {w : World} {base M : Nat} (k : KW) (x : Int) (h : ROwn w base v l) (hm : l.length ≤ 10000) (hb : base ≤ w.heap.size) :
    Calls Try.prog 21 #[dval v M, k.val, .int .i64 x] w (RTab w base (putR l M k x) M (fun t => .tuple #[t, .int .i64 (putE (l.map tv) M k)])) := by
  obtain ⟨n, en⟩ : ∃ n, l.length = n := ⟨_, rfl⟩
  obtain ⟨b, eb⟩ : ∃ b, w.heap.size = b := ⟨_, rfl⟩
  obtain ⟨r, er⟩ : ∃ r, putE (l.map tv) M k = r := ⟨_, rfl⟩
  obtain ⟨lp, elp⟩ : ∃ lp, putR l M k x = lp := ⟨_, rfl⟩
  rw [er, elp]
  obtain ⟨a, cap, rfl⟩ := ROwn.len h en
  have hq3 := three_new w (.cells #[.slice a n cap, .int .i64 (M : Int)] 37) (.cells #[.int .i64 k.t, .int .i64 k.f, .int .u32 k.s] 29) (.cells #[.slice none 0 0, .int .i64 0] 37)
  obtain ⟨W, eW⟩ : ∃ W, ((w.alloc (.cells #[.slice a n cap, .int .i64 (M : Int)] 37)).alloc (.cells #[.int .i64 k.t, .int .i64 k.f, .int .u32 k.s] 29)).alloc (.cells #[.slice none 0 0, .int .i64 0] 37) = W := ⟨_, rfl⟩
  rw [eW, eb] at hq3
  have HA := Lib.hid (fun W (hg : Grows w W) => rat_any (M := M) k (own_grows h hg) (Nat.le_trans hm (by decide)))
  obtain ⟨h0, h1, h2, hg⟩ := hq3
  have HH := Lib.hid h
  have HG := Lib.hid hg
  have HM := Lib.hid hm
  have EN := Lib.hid en
  have EB := Lib.hid eb
  have z0 := box_lt h0
  have z1 := box_lt h1
  have z2 := box_lt h2
  obtain ⟨a0, -⟩ := cell_in h0 0 rfl
  obtain ⟨a1, -⟩ := cell_in h0 1 rfl
  obtain ⟨b0, -⟩ := cell_in h1 0 rfl
  obtain ⟨b1, -⟩ := cell_in h1 1 rfl
  obtain ⟨b2, -⟩ := cell_in h1 2 rfl
  have H0 := Lib.hid (And.intro h0 (And.intro h1 h2))
  rw [eb] at hb
  have HB := Lib.hid hb
  have ER := Lib.hid er
  have ELP := Lib.hid elp
  clear h hg hm en h0 h1 h2 hb er elp
  go_enter Try.func21, Try.ntmps21
  go_wp2_with fail
  refine (HA.out _ HG.out).mono ?_
  rintro e w1 ⟨rfl, hg1⟩
  have HG1 := Lib.hid (grows_trans _ _ _ HG.out hg1)
  obtain ⟨h0, h1, h2⟩ := H0.out
  have h0 := box_grows h0 hg1
  have h1 := box_grows h1 hg1
  have h2 := box_grows h2 hg1
  have z0 := box_lt h0
  have z1 := box_lt h1
  have z2 := box_lt h2
  clear a0 a1 b0 b1 b2
  obtain ⟨a0, -⟩ := cell_in h0 0 rfl
  obtain ⟨a1, -⟩ := cell_in h0 1 rfl
  obtain ⟨b0, -⟩ := cell_in h1 0 rfl
  obtain ⟨b1, -⟩ := cell_in h1 1 rfl
  obtain ⟨b2, -⟩ := cell_in h1 2 rfl
  obtain ⟨c0, c0f⟩ := cell_in h2 0 rfl
  obtain ⟨c1, c1f⟩ := cell_in h2 1 rfl
  have c0f : w1.frozen? ⟨b + 1 + 1, 0, none⟩ = false := c0f
  have c1f : w1.frozen? ⟨b + 1 + 1, 1, none⟩ = false := c1f
  have z2' : b + 1 + 1 < w1.heap.size := z2
  have H1 := Lib.hid (And.intro h0 (And.intro h1 h2))
  clear hg1 h0 h1 h2 eW
  by_cases hk : k ∈ l.map (·.1)
  · obtain ⟨i, hi, hil⟩ := atR_mem hk
    have he := putE_dup (M := M) hk
    have hp : putR l M k x = l := by unfold putR; rw [he, if_neg (by decide)]
    rw [hi]
    rw [ER.out] at he
    rw [ELP.out] at hp
    have HE := Lib.hid (And.intro he hp)
    have hge : (0 : Int) ≤ (i : Int) := Int.natCast_nonneg i
    clear hi hil he hp hk
    go_wp2_with fail
    obtain ⟨k1, k2, q0, q1⟩ := rtab_end M HG1.out EB.out (b + 1 + 1) (by omega) H1.out.2.2 (own_grows HH.out HG1.out)
    exact bodyPost_ret (v := .tuple #[dval (.slice a n cap) M, .int .i64 12]) (by simp [results, Try.results21, go_sem, q0, q1]) rfl ⟨_, by rw [HE.out.1], k1, by rw [HE.out.2]; exact k2⟩
  · rw [atR_none hk]
    by_cases hM : M ≤ n
    · have he := putE_full hk (by rw [EN.out]; exact hM)
      have hp : putR l M k x = l := by unfold putR; rw [he, if_neg (by decide)]
      rw [ER.out] at he
      rw [ELP.out] at hp
      have HE := Lib.hid (And.intro he hp)
      have hMi : (M : Int) ≤ (n : Int) := Int.ofNat_le.2 hM
      clear he hp hk
      go_wp2_with fail
      obtain ⟨k1, k2, q0, q1⟩ := rtab_end M HG1.out EB.out (b + 1 + 1) (by omega) H1.out.2.2 (own_grows HH.out HG1.out)
      exact bodyPost_ret (v := .tuple #[dval (.slice a n cap) M, .int .i64 13]) (by simp [results, Try.results21, go_sem, q0, q1]) rfl ⟨_, by rw [HE.out.1], k1, by rw [HE.out.2]; exact k2⟩
    · have he := putE_ok hk (by rw [EN.out]; exact hM)
      have hp : putR l M k x = insT l k x := by unfold putR; rw [he, if_pos rfl]
      rw [ER.out] at he
      rw [ELP.out] at hp
      have HE := Lib.hid (And.intro he hp)
      have hMi : (n : Int) < (M : Int) := Int.ofNat_lt.2 (Nat.lt_of_not_le hM)
      clear he hp hk
      go_wp2_with fail
      obtain ⟨p, ep⟩ : ∃ p, posK (l.map (·.1)) k = p := ⟨_, rfl⟩
      have EP := Lib.hid ep
      have hpn : p ≤ n := by rw [← ep, ← EN.out]; have := posK_le (l.map (·.1)) k; rwa [List.length_map] at this
      have HPN := Lib.hid hpn
      clear ep hpn hM c0 c1 c0f c1f
      go_loopw [8] (fun iv wr => ∃ i : Nat, iv = .int .i64 (i : Int) ∧ i ≤ p ∧ Grows w1 wr) (fun iv _ => p - (intOf iv).toNat)
      case atStart => exact ⟨0, rfl, Nat.zero_le _, grows_refl _⟩
      case round =>
        obtain ⟨i, rfl, hi, hg⟩ := hrel
        have h0 := box_grows H1.out.1 hg
        have h1 := box_grows H1.out.2.1 hg
        have hha := own_grows HH.out (grows_trans _ _ _ HG1.out hg)
        have z0 := box_lt h0
        have z1 := box_lt h1
        clear a0 a1 b0 b1 b2 z2 z2'
        obtain ⟨a0, -⟩ := cell_in h0 0 rfl
        obtain ⟨a1, -⟩ := cell_in h0 1 rfl
        obtain ⟨b0, -⟩ := cell_in h1 0 rfl
        obtain ⟨b1, -⟩ := cell_in h1 1 rfl
        obtain ⟨b2, -⟩ := cell_in h1 2 rfl
        have HGG := Lib.hid hg
        clear h0 h1 hg
        by_cases hlt : i < p
        · have hln : i < n := Nat.lt_of_lt_of_le hlt HPN.out
          have hn6 : i ≤ 1000000 := Nat.le_trans (Nat.le_of_lt hln) (by rw [← EN.out]; exact Nat.le_trans HM.out (by decide))
          have HNF := Lib.hid (nat_facts i hn6)
          have HWS := Lib.hid (wrap_succ hn6)
          have HLT := Lib.hid hlt
          have hnl : i < l.length := by rw [EN.out]; exact hln
          obtain ⟨g, c', he, hcap, hgl, hat⟩ := ROwn.form hha EN.out (Nat.lt_of_le_of_lt (Nat.zero_le _) hln)
          simp only [Value.slice.injEq, true_and] at he
          obtain ⟨rfl, rfl⟩ := he
          obtain ⟨p0, p1, p2, -⟩ := rat_cells hat i hnl
          rw [Nat.zero_add] at p0 p1 p2
          have hls := (pos_less (k := k) hnl).1 (by rw [EP.out]; exact hlt)
          obtain ⟨y, ey⟩ : ∃ y, l[i] = y := ⟨_, rfl⟩
          rw [ey] at p0 p1 p2 hls
          have HLS := Lib.hid (fun W => rless_any y.1 k W)
          rw [hls] at HLS
          have hki : (i : Int) < (n : Int) := Int.ofNat_lt.2 hln
          clear hls ey hat hha hnl hcap hlt hn6 hi hln
          obtain ⟨j1, j2, j3, j4, j6⟩ := HNF.out
          go_wp2_with fail
          refine wp_region_reg (by kernel_rfl) (by kernel_rfl) ?_
          repeat (first | go_big_quiet_step ((go_at_call 46; exact class_reg (HLS.out _))) | quiet_step ((go_at_call 46; exact class_reg (HLS.out _))))
          refine wpQuiet_nil ?_
          intro _ hcw1
          obtain ⟨pq, hcw2⟩ := hcw1
          subst hcw2
          go_wp2_with fail
          go_roundw
          case rel => exact ⟨i + 1, by rw [HWS.out]; rfl, HLT.out, grows_trans _ _ _ HGG.out (below_reg _ _)⟩
          case measure => rw [HWS.out]; exact meas_succ HLT.out
        · obtain rfl : i = p := Nat.le_antisymm hi (Nat.le_of_not_lt hlt)
          have hi6 : i ≤ 1000000 := Nat.le_trans HPN.out (by rw [← EN.out]; exact Nat.le_trans HM.out (by decide))
          have HNF := Lib.hid (nat_facts i hi6)
          have hin := HPN.out
          have HIN := Lib.hid (fun (hnl : i < l.length) => (pos_less (k := k) hnl).2 EP.out.symm)
          have HEND := Lib.hid (fun W3 (hg : Grows w1 W3) (u1 u2 : Value) (hs1 : ∀ W', Grows W3 W' → RSrc W' u1 (l.take i)) (hs2 : ∀ W', Grows W3 W' → RSrc W' u2 (l.drop i)) => put_chain (k := k) (x := x) hs1 hs2 HM.out)
          have HIT := Lib.hid (show l.take i ++ (k, x) :: l.drop i = insT l k x by rw [insT_at, EP.out])
          have arms : (l = [] ∧ n = 0 ∧ i = 0 ∧ a = none ∧ cap = 0) ∨ (∃ g, a = some ⟨g, 0, none⟩ ∧ n ≤ cap ∧ g < wr.heap.size ∧ RAt rc 4 wr g 0 l ∧ ((i < n ∧ i < l.length ∧ cap ≠ i) ∨ (i = n ∧ cap ≠ i) ∨ (i = n ∧ cap = i))) := by
            rcases rform hha with ⟨hnil, hv⟩ | ⟨g, cap', hv, hcap, hbg, hgl, hat⟩
            · simp only [Value.slice.injEq] at hv
              obtain ⟨rfl, rfl, rfl⟩ := hv
              exact .inl ⟨hnil, rfl, Nat.le_zero.1 hin, rfl, rfl⟩
            · rw [EN.out] at hv hcap
              simp only [Value.slice.injEq, true_and] at hv
              obtain ⟨rfl, rfl⟩ := hv
              refine .inr ⟨g, rfl, hcap, hgl, hat, ?_⟩
              by_cases h1 : i < n
              · exact .inl ⟨h1, by rw [EN.out]; exact h1, by omega⟩
              · by_cases h2 : cap = i
                · exact .inr (.inr ⟨by omega, h2⟩)
                · exact .inr (.inl ⟨by omega, h2⟩)
          have EI := Lib.hid (show i ≤ n from hin)
          clear hha hlt hi hin hi6
-- arms (docputgen.py)
          rcases arms with ⟨hl, rfl, rfl, rfl, rfl⟩ | ⟨g, rfl, hcap, hgl, hat, harm⟩
          · have hs1 : ∀ W', Grows wr W' → RSrc W' (.slice none 0 0) (l.take 0) := fun W' _ => .inl ⟨by simp, rfl⟩
            have hs2 : ∀ W', Grows wr W' → RSrc W' (.slice none 0 0) (l.drop 0) := fun W' _ => .inl ⟨by simp [hl], rfl⟩
            have HS := Lib.hid (And.intro hs1 hs2)
            clear hs1 hs2 hl
            go_wp2_with fail
            refine wp_region_reg (by kernel_rfl) (by kernel_rfl) ?_
            repeat (first | go_big_quiet_step ((fail)) | quiet_step ((fail)))
            refine wpQuiet_nil ?_
            intro _ hcw1
            obtain ⟨pq, hcw2⟩ := hcw1
            subst hcw2
            have hg3 : Grows wr (reg wr pq) := below_reg _ _
            obtain ⟨W3, eW3⟩ : ∃ W3, reg wr pq = W3 := ⟨_, rfl⟩
            rw [eW3] at hg3 ⊢
            obtain ⟨v5, W5, r5, g5, v7, W7, r7, g7, a8, n8, c8, W8, r8, g8, o8⟩ := HEND.out W3 (grows_trans _ _ _ HGG.out hg3) _ _ (fun W' hW => HS.out.1 W' (grows_trans _ _ _ hg3 hW)) (fun W' hW => HS.out.2 W' (grows_trans _ _ _ hg3 hW))
            have G := Lib.hid (And.intro hg3 (And.intro g5 (And.intro g7 (And.intro g8 o8))))
            have gb3 := grows_trans _ _ _ HGG.out hg3
            have F := fun W' (hW : Grows W3 W') => And.intro (box_grows H1.out.1 (grows_trans _ _ _ gb3 hW)) (And.intro (box_grows H1.out.2.1 (grows_trans _ _ _ gb3 hW)) (box_grows H1.out.2.2 (grows_trans _ _ _ gb3 hW)))
            have z0 := box_lt (F W3 (grows_refl _)).1
            have zz := box_lt (F W5 g5).2.1
            obtain ⟨a0, -⟩ := cell_in (F W3 (grows_refl _)).1 0 rfl
            obtain ⟨b0, -⟩ := cell_in (F W5 g5).2.1 0 rfl
            obtain ⟨b1, -⟩ := cell_in (F W5 g5).2.1 1 rfl
            obtain ⟨b2, -⟩ := cell_in (F W5 g5).2.1 2 rfl
            obtain ⟨d7, -⟩ := cell_in (F W7 g7).1 0 rfl
            obtain ⟨d71, -⟩ := cell_in (F W7 g7).1 1 rfl
            obtain ⟨d8, -⟩ := cell_in (F W8 g8).1 0 rfl
            obtain ⟨d81, -⟩ := cell_in (F W8 g8).1 1 rfl
            obtain ⟨c0, c0f⟩ := cell_in (F W8 g8).2.2 0 rfl
            obtain ⟨c1, c1f⟩ := cell_in (F W8 g8).2.2 1 rfl
            have c0f : W8.frozen? ⟨b + 1 + 1, 0, none⟩ = false := c0f
            have c1f : W8.frozen? ⟨b + 1 + 1, 1, none⟩ = false := c1f
            have z8 : b + 1 + 1 < W8.heap.size := box_lt (F W8 g8).2.2
            have HF := Lib.hid F
            clear F hg3 g5 g7 g8 o8 gb3 eW3
            go_wp2_with (at_builtin; first | refine wpList_append_run _ rfl _ _ 35 35 rfl _ _ rfl rfl (r5 _) ?_ | refine wpList_append_run _ rfl _ _ 35 35 rfl _ _ rfl rfl (r7 _) ?_)
            have mixed : Try.prog.follows .mixedOrders = true := by kernel_rfl
            go_region_law (refine step_append_run rfl _ _ 35 35 rfl _ _ (by simp [Act.eval, Act.put]) (by simp [Act.eval, Act.put]) (r8 _) ?_)
            all_goals (
              go_wp2
              obtain ⟨hg3, g5, g7, g8, o8⟩ := G.out
              obtain ⟨k1, k2, q0, q1⟩ := rtab_end M (grows_trans _ _ _ HG1.out (grows_trans _ _ _ HGG.out (grows_trans _ _ _ hg3 g8))) EB.out (b + 1 + 1) (by omega) (HF.out W8 g8).2.2 o8
              refine bodyPost_ret (v := .tuple #[dval (.slice a8 n8 c8) M, .int .i64 0]) (by simp [results, Try.results21, go_sem, q0, q1]) rfl ⟨_, by rw [HE.out.1], k1, ?_⟩
              rw [HE.out.2, ← HIT.out]
              exact row_base k2 (Nat.le_trans HB.out (by rw [← EB.out]; exact (grows_trans _ _ _ HG1.out (grows_trans _ _ _ HGG.out hg3)).size)))
          · have hs1 : ∀ W', Grows wr W' → RSrc W' (.slice (some ⟨g, 0, none⟩) i cap) (l.take i) := fun W' hW => by
              have := rsrc_take (hat.grows hW hgl) i cap
              rwa [List.length_take, EN.out, Nat.min_eq_left EI.out] at this
            have hlt2 : (l.drop i).length = n - i := by rw [List.length_drop, EN.out]
            obtain ⟨j1, j2, j3, j4, j6⟩ := HNF.out
            rcases harm with ⟨hin, hil, hci⟩ | ⟨rfl, hci⟩ | ⟨rfl, rfl⟩
            · have hs2 : ∀ W', Grows wr W' → RSrc W' (.slice (some ⟨g, i * 4, none⟩) (n - i) (cap - i)) (l.drop i) := fun W' hW => by
                have := rsrc_at (hat.grows hW hgl) i (cap - i)
                rwa [Nat.zero_add, hlt2] at this
              have HS := Lib.hid (And.intro hs1 hs2)
              obtain ⟨p0, p1, p2, -⟩ := rat_cells hat i hil
              rw [Nat.zero_add] at p0 p1 p2
              have hls := HIN.out hil
              obtain ⟨y, ey⟩ : ∃ y, l[i] = y := ⟨_, rfl⟩
              rw [ey] at p0 p1 p2 hls
              have HLS := Lib.hid (fun W => rless_any y.1 k W)
              rw [hls] at HLS
              have hki : (i : Int) < (n : Int) := Int.ofNat_lt.2 hin
              have hq3 : (cap = i) = False := eq_false hci
              have hq4 : i ≤ n := EI.out
              have hq5 : i ≤ cap := Nat.le_trans hq4 hcap
              clear hs1 hs2 hls ey hil hat hci hlt2 hin
              go_wp2_with fail
              refine wp_region_reg (by kernel_rfl) (by kernel_rfl) ?_
              repeat (first | go_big_quiet_step ((go_at_call 46; exact class_reg (HLS.out _))) | quiet_step ((go_at_call 46; exact class_reg (HLS.out _))))
              refine wpQuiet_nil ?_
              intro _ hcw1
              obtain ⟨pq, hcw2⟩ := hcw1
              subst hcw2
              clear p0 p1 p2 hki HLS a1 z1 j1 j3 j6
              have hg3 : Grows wr (reg wr pq) := below_reg _ _
              obtain ⟨W3, eW3⟩ : ∃ W3, reg wr pq = W3 := ⟨_, rfl⟩
              rw [eW3] at hg3 ⊢
              obtain ⟨v5, W5, r5, g5, v7, W7, r7, g7, a8, n8, c8, W8, r8, g8, o8⟩ := HEND.out W3 (grows_trans _ _ _ HGG.out hg3) _ _ (fun W' hW => HS.out.1 W' (grows_trans _ _ _ hg3 hW)) (fun W' hW => HS.out.2 W' (grows_trans _ _ _ hg3 hW))
              have G := Lib.hid (And.intro hg3 (And.intro g5 (And.intro g7 (And.intro g8 o8))))
              have gb3 := grows_trans _ _ _ HGG.out hg3
              have F := fun W' (hW : Grows W3 W') => And.intro (box_grows H1.out.1 (grows_trans _ _ _ gb3 hW)) (And.intro (box_grows H1.out.2.1 (grows_trans _ _ _ gb3 hW)) (box_grows H1.out.2.2 (grows_trans _ _ _ gb3 hW)))
              have z0 := box_lt (F W3 (grows_refl _)).1
              have zz := box_lt (F W5 g5).2.1
              obtain ⟨a0, -⟩ := cell_in (F W3 (grows_refl _)).1 0 rfl
              obtain ⟨b0, -⟩ := cell_in (F W5 g5).2.1 0 rfl
              obtain ⟨b1, -⟩ := cell_in (F W5 g5).2.1 1 rfl
              obtain ⟨b2, -⟩ := cell_in (F W5 g5).2.1 2 rfl
              obtain ⟨d7, -⟩ := cell_in (F W7 g7).1 0 rfl
              obtain ⟨d71, -⟩ := cell_in (F W7 g7).1 1 rfl
              obtain ⟨d8, -⟩ := cell_in (F W8 g8).1 0 rfl
              obtain ⟨d81, -⟩ := cell_in (F W8 g8).1 1 rfl
              obtain ⟨c0, c0f⟩ := cell_in (F W8 g8).2.2 0 rfl
              obtain ⟨c1, c1f⟩ := cell_in (F W8 g8).2.2 1 rfl
              have c0f : W8.frozen? ⟨b + 1 + 1, 0, none⟩ = false := c0f
              have c1f : W8.frozen? ⟨b + 1 + 1, 1, none⟩ = false := c1f
              have z8 : b + 1 + 1 < W8.heap.size := box_lt (F W8 g8).2.2
              have HF := Lib.hid F
              clear F hg3 g5 g7 g8 o8 gb3 eW3
              go_wp2_with (at_builtin; first | refine wpList_append_run _ rfl _ _ 35 35 rfl _ _ rfl rfl (r5 _) ?_ | refine wpList_append_run _ rfl _ _ 35 35 rfl _ _ rfl rfl (r7 _) ?_)
              have mixed : Try.prog.follows .mixedOrders = true := by kernel_rfl
              go_region_law (refine step_append_run rfl _ _ 35 35 rfl _ _ (by simp [Act.eval, Act.put]) (by simp [Act.eval, Act.put]) (r8 _) ?_)
              all_goals (
                go_wp2
                obtain ⟨hg3, g5, g7, g8, o8⟩ := G.out
                obtain ⟨k1, k2, q0, q1⟩ := rtab_end M (grows_trans _ _ _ HG1.out (grows_trans _ _ _ HGG.out (grows_trans _ _ _ hg3 g8))) EB.out (b + 1 + 1) (by omega) (HF.out W8 g8).2.2 o8
                refine bodyPost_ret (v := .tuple #[dval (.slice a8 n8 c8) M, .int .i64 0]) (by simp [results, Try.results21, go_sem, q0, q1]) rfl ⟨_, by rw [HE.out.1], k1, ?_⟩
                rw [HE.out.2, ← HIT.out]
                exact row_base k2 (Nat.le_trans HB.out (by rw [← EB.out]; exact (grows_trans _ _ _ HG1.out (grows_trans _ _ _ HGG.out hg3)).size)))
            · have hs2 : ∀ W', Grows wr W' → RSrc W' (.slice (some ⟨g, i * 4, none⟩) 0 (cap - i)) (l.drop i) := fun W' hW => by
                have := rsrc_at (hat.grows hW hgl) i (cap - i)
                rwa [Nat.zero_add, hlt2, Nat.sub_self] at this
              have HS := Lib.hid (And.intro hs1 hs2)
              have hq3 : (cap = i) = False := eq_false hci
              clear hs1 hs2 hat hci hlt2
              go_wp2_with fail
              refine wp_region_reg (by kernel_rfl) (by kernel_rfl) ?_
              repeat (first | go_big_quiet_step ((fail)) | quiet_step ((fail)))
              refine wpQuiet_nil ?_
              intro _ hcw1
              obtain ⟨pq, hcw2⟩ := hcw1
              subst hcw2
              have hg3 : Grows wr (reg wr pq) := below_reg _ _
              obtain ⟨W3, eW3⟩ : ∃ W3, reg wr pq = W3 := ⟨_, rfl⟩
              rw [eW3] at hg3 ⊢
              obtain ⟨v5, W5, r5, g5, v7, W7, r7, g7, a8, n8, c8, W8, r8, g8, o8⟩ := HEND.out W3 (grows_trans _ _ _ HGG.out hg3) _ _ (fun W' hW => HS.out.1 W' (grows_trans _ _ _ hg3 hW)) (fun W' hW => HS.out.2 W' (grows_trans _ _ _ hg3 hW))
              have G := Lib.hid (And.intro hg3 (And.intro g5 (And.intro g7 (And.intro g8 o8))))
              have gb3 := grows_trans _ _ _ HGG.out hg3
              have F := fun W' (hW : Grows W3 W') => And.intro (box_grows H1.out.1 (grows_trans _ _ _ gb3 hW)) (And.intro (box_grows H1.out.2.1 (grows_trans _ _ _ gb3 hW)) (box_grows H1.out.2.2 (grows_trans _ _ _ gb3 hW)))
              have z0 := box_lt (F W3 (grows_refl _)).1
              have zz := box_lt (F W5 g5).2.1
              obtain ⟨a0, -⟩ := cell_in (F W3 (grows_refl _)).1 0 rfl
              obtain ⟨b0, -⟩ := cell_in (F W5 g5).2.1 0 rfl
              obtain ⟨b1, -⟩ := cell_in (F W5 g5).2.1 1 rfl
              obtain ⟨b2, -⟩ := cell_in (F W5 g5).2.1 2 rfl
              obtain ⟨d7, -⟩ := cell_in (F W7 g7).1 0 rfl
              obtain ⟨d71, -⟩ := cell_in (F W7 g7).1 1 rfl
              obtain ⟨d8, -⟩ := cell_in (F W8 g8).1 0 rfl
              obtain ⟨d81, -⟩ := cell_in (F W8 g8).1 1 rfl
              obtain ⟨c0, c0f⟩ := cell_in (F W8 g8).2.2 0 rfl
              obtain ⟨c1, c1f⟩ := cell_in (F W8 g8).2.2 1 rfl
              have c0f : W8.frozen? ⟨b + 1 + 1, 0, none⟩ = false := c0f
              have c1f : W8.frozen? ⟨b + 1 + 1, 1, none⟩ = false := c1f
              have z8 : b + 1 + 1 < W8.heap.size := box_lt (F W8 g8).2.2
              have HF := Lib.hid F
              clear F hg3 g5 g7 g8 o8 gb3 eW3
              go_wp2_with (at_builtin; first | refine wpList_append_run _ rfl _ _ 35 35 rfl _ _ rfl rfl (r5 _) ?_ | refine wpList_append_run _ rfl _ _ 35 35 rfl _ _ rfl rfl (r7 _) ?_)
              have mixed : Try.prog.follows .mixedOrders = true := by kernel_rfl
              go_region_law (refine step_append_run rfl _ _ 35 35 rfl _ _ (by simp [Act.eval, Act.put]) (by simp [Act.eval, Act.put]) (r8 _) ?_)
              all_goals (
                go_wp2
                obtain ⟨hg3, g5, g7, g8, o8⟩ := G.out
                obtain ⟨k1, k2, q0, q1⟩ := rtab_end M (grows_trans _ _ _ HG1.out (grows_trans _ _ _ HGG.out (grows_trans _ _ _ hg3 g8))) EB.out (b + 1 + 1) (by omega) (HF.out W8 g8).2.2 o8
                refine bodyPost_ret (v := .tuple #[dval (.slice a8 n8 c8) M, .int .i64 0]) (by simp [results, Try.results21, go_sem, q0, q1]) rfl ⟨_, by rw [HE.out.1], k1, ?_⟩
                rw [HE.out.2, ← HIT.out]
                exact row_base k2 (Nat.le_trans HB.out (by rw [← EB.out]; exact (grows_trans _ _ _ HG1.out (grows_trans _ _ _ HGG.out hg3)).size)))
            · have hs2 : ∀ W', Grows wr W' → RSrc W' (.slice (some ⟨g, 0, none⟩) 0 0) (l.drop cap) := fun W' hW => by
                rw [List.eq_nil_of_length_eq_zero (hlt2.trans (Nat.sub_self _))]
                exact rsrc_nil _ _ _ (fun h => by cases h)
              have HS := Lib.hid (And.intro hs1 hs2)
              clear hs1 hs2 hat hlt2
              go_wp2_with fail
              refine wp_region_reg (by kernel_rfl) (by kernel_rfl) ?_
              repeat (first | go_big_quiet_step ((fail)) | quiet_step ((fail)))
              refine wpQuiet_nil ?_
              intro _ hcw1
              obtain ⟨pq, hcw2⟩ := hcw1
              subst hcw2
              have hg3 : Grows wr (reg wr pq) := below_reg _ _
              obtain ⟨W3, eW3⟩ : ∃ W3, reg wr pq = W3 := ⟨_, rfl⟩
              rw [eW3] at hg3 ⊢
              obtain ⟨v5, W5, r5, g5, v7, W7, r7, g7, a8, n8, c8, W8, r8, g8, o8⟩ := HEND.out W3 (grows_trans _ _ _ HGG.out hg3) _ _ (fun W' hW => HS.out.1 W' (grows_trans _ _ _ hg3 hW)) (fun W' hW => HS.out.2 W' (grows_trans _ _ _ hg3 hW))
              have G := Lib.hid (And.intro hg3 (And.intro g5 (And.intro g7 (And.intro g8 o8))))
              have gb3 := grows_trans _ _ _ HGG.out hg3
              have F := fun W' (hW : Grows W3 W') => And.intro (box_grows H1.out.1 (grows_trans _ _ _ gb3 hW)) (And.intro (box_grows H1.out.2.1 (grows_trans _ _ _ gb3 hW)) (box_grows H1.out.2.2 (grows_trans _ _ _ gb3 hW)))
              have z0 := box_lt (F W3 (grows_refl _)).1
              have zz := box_lt (F W5 g5).2.1
              obtain ⟨a0, -⟩ := cell_in (F W3 (grows_refl _)).1 0 rfl
              obtain ⟨b0, -⟩ := cell_in (F W5 g5).2.1 0 rfl
              obtain ⟨b1, -⟩ := cell_in (F W5 g5).2.1 1 rfl
              obtain ⟨b2, -⟩ := cell_in (F W5 g5).2.1 2 rfl
              obtain ⟨d7, -⟩ := cell_in (F W7 g7).1 0 rfl
              obtain ⟨d71, -⟩ := cell_in (F W7 g7).1 1 rfl
              obtain ⟨d8, -⟩ := cell_in (F W8 g8).1 0 rfl
              obtain ⟨d81, -⟩ := cell_in (F W8 g8).1 1 rfl
              obtain ⟨c0, c0f⟩ := cell_in (F W8 g8).2.2 0 rfl
              obtain ⟨c1, c1f⟩ := cell_in (F W8 g8).2.2 1 rfl
              have c0f : W8.frozen? ⟨b + 1 + 1, 0, none⟩ = false := c0f
              have c1f : W8.frozen? ⟨b + 1 + 1, 1, none⟩ = false := c1f
              have z8 : b + 1 + 1 < W8.heap.size := box_lt (F W8 g8).2.2
              have HF := Lib.hid F
              clear F hg3 g5 g7 g8 o8 gb3 eW3
              go_wp2_with (at_builtin; first | refine wpList_append_run _ rfl _ _ 35 35 rfl _ _ rfl rfl (r5 _) ?_ | refine wpList_append_run _ rfl _ _ 35 35 rfl _ _ rfl rfl (r7 _) ?_)
              have mixed : Try.prog.follows .mixedOrders = true := by kernel_rfl
              go_region_law (refine step_append_run rfl _ _ 35 35 rfl _ _ (by simp [Act.eval, Act.put]) (by simp [Act.eval, Act.put]) (r8 _) ?_)
              all_goals (
                go_wp2
                obtain ⟨hg3, g5, g7, g8, o8⟩ := G.out
                obtain ⟨k1, k2, q0, q1⟩ := rtab_end M (grows_trans _ _ _ HG1.out (grows_trans _ _ _ HGG.out (grows_trans _ _ _ hg3 g8))) EB.out (b + 1 + 1) (by omega) (HF.out W8 g8).2.2 o8
                refine bodyPost_ret (v := .tuple #[dval (.slice a8 n8 c8) M, .int .i64 0]) (by simp [results, Try.results21, go_sem, q0, q1]) rfl ⟨_, by rw [HE.out.1], k1, ?_⟩
                rw [HE.out.2, ← HIT.out]
                exact row_base k2 (Nat.le_trans HB.out (by rw [← EB.out]; exact (grows_trans _ _ _ HG1.out (grows_trans _ _ _ HGG.out hg3)).size)))
end Go.Proofs.Ytdmmceclohkkdaa
