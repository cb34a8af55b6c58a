/- The walk of TablePops. -/
import Derived.Test.YtdmmceclohkkdaaTabW
import Derived.Test.YtdmmceclohkkdaaTabFI
namespace Go.Proofs.Ytdmmceclohkkdaa
open Go.RowKit Go.Sort
set_option maxHeartbeats 4000000
set_option maxRecDepth 100000
/-- A call that changes a table made behind w leaves what was there. -/
theorem TabTo.behind {T : TypeId} {w Wx Wy : World} {base tb mb most : Nat} {kv r : Value} {m m' : List (KW × Value)} {e : Ending} (h : TabAt T Wx base tb kv mb m most) (hb : w.heap.size ≤ base) (hg : Grows w Wx) (ht : TabTo T Wx base tb kv mb m' most r e Wy) : Grows w Wy := by
  obtain ⟨-, kv', k1, k2, k3⟩ := ht
  refine Below.trans hg (k2.toBelow hg.size (fun j hj hs => ?_))
  rcases hs with hs | hs | hs
  · have := h.bt; omega
  · have := h.bm; omega
  · have := (h.own.lt _ hs).1; omega
/-- Another slice of keys stays. -/
theorem TabTo.other {T : TypeId} {Wx Wy : World} {base tb mb most b : Nat} {kv r wv : Value} {m m' : List (KW × Value)} {l : List KW} {e : Ending} (hT : T ≠ 29) (h : TabAt T Wx base tb kv mb m most) (ho : KOwn Wx b wv l) (hs : ∀ j, wv.ownBlock = some j → kv.ownBlock ≠ some j) (ht : TabTo T Wx base tb kv mb m' most r e Wy) :
    KOwn Wy b wv l ∧ ∃ kv', TabAt T Wy base tb kv' mb m' most ∧ e = .returned r ∧ ∀ j, wv.ownBlock = some j → kv'.ownBlock ≠ some j := by
  obtain ⟨rfl, kv', k1, k2, k3⟩ := ht
  refine ⟨k2.own ho (fun j hj hS => ?_), kv', k1, rfl, fun j hj hk => ?_⟩
  · rcases hS with h1 | h1 | h1
    · exact own_ne hT ho h.ob (h1 ▸ hj)
    · exact own_mne ho h.map (h1 ▸ hj)
    · exact hs j hj h1
  · rcases k3 j hk with h1 | h1
    · exact hs j hj h1
    · exact Nat.lt_irrefl _ (Nat.lt_of_lt_of_le (ho.lt j hj).2 h1)
/-- The rows, one key more. -/
def more (m : List (KW × Value)) (k : KW) : List (KW × Value) := if putE m 100 k = 0 then insT m k (.int .i64 1) else m
theorem more_keys {m : List (KW × Value)} (k : KW) (hl : m.length < 100) : (more m k).map (·.1) = intoK (m.map (·.1)) k := by
  unfold more putE
  cases hg : getK m k with
  | none =>
    have h1 := getK_none.1 hg
    rw [if_pos (by simp; omega)]
    exact (intoK_ins h1 _).symm
  | some u =>
    have h1 : k ∈ m.map (·.1) := by rw [← Classical.not_not (a := k ∈ m.map (·.1)), ← getK_none, hg]; simp
    unfold intoK
    rw [if_pos h1, if_neg (by simp)]
theorem more_ones {m : List (KW × Value)} (k : KW) (h : ∀ p ∈ m, p.2 = .int .i64 1) : ∀ p ∈ more m k, p.2 = .int .i64 1 := by
  unfold more
  split
  · intro p hp
    rcases List.mem_cons.1 ((insT_perm m k _).mem_iff.1 hp) with rfl | hp
    · rfl
    · exact h p hp
  · exact h
theorem more_length (m : List (KW × Value)) (k : KW) : (more m k).length ≤ m.length + 1 := by
  unfold more
  split
  · rw [insT_length]; exact Nat.le_refl _
  · omega
section
attribute [-go_sem] run_eql_struct run_neq_struct
theorem tablePops_walk {v : Value} {l : List KW} {w : World} (h : KHas w v l) (hm : l.length ≤ 9223372036854775807) : Calls Try.prog 3 #[v] w (RetV w (.bool true)) := by
  have HN := Lib.hid (fun W => tnewI 100 W)
  have HW := Lib.hid (fun W => tworks_any W)
  obtain ⟨n, en⟩ : ∃ n, l.length = n := ⟨_, rfl⟩
  obtain ⟨a, cap, rfl⟩ := h.len en
  have HH := Lib.hid h
  have EN := Lib.hid en
  have HM := Lib.hid hm
  clear h en hm
  go_enter Try.func3, Try.ntmps3
  go_wp2_with fail
  refine (HN.out _).mono ?_
  rintro e w1 ⟨rfl, hg1, ht1⟩
  rw [show mostOfI 100 = 100 from rfl] at ht1
  have HT1 := Lib.hid ht1
  have HG1 := Lib.hid hg1
  clear ht1 hg1
  go_wp2_with fail
  go_loopw [4, 5] (fun wv iv wr => ∃ (i : Nat) (kv : Value) (m : List (KW × Value)), iv = .int .i64 (i : Int) ∧ i ≤ n ∧ i ≤ 60 ∧ m.length ≤ i ∧ TabAt TTI wr w.heap.size (w.heap.size + 1) kv w.heap.size m 100 ∧ KOwn wr w.heap.size wv (m.map (·.1)) ∧ (∀ j, wv.ownBlock = some j → kv.ownBlock ≠ some j) ∧ (∀ p ∈ m, p.2 = .int .i64 1) ∧ Grows w wr) (fun _ iv _ => 60 - (intOf iv).toNat)
  case atStart => exact ⟨0, _, _, rfl, Nat.zero_le _, Nat.zero_le _, Nat.le_refl _, HT1.out, World.ownsRow_nil _ _ _ _, fun j hj => by simp [Value.ownBlock] at hj, fun p hp => by simp at hp, HG1.out⟩
  case round =>
    obtain ⟨i, kv, m, rfl, hi, hi60, hmi, ht, ho, hs, hv, hg⟩ := hrel
    have HT := Lib.hid ht
    have HO := Lib.hid ho
    have HS := Lib.hid hs
    have HV := Lib.hid hv
    have HGG := Lib.hid hg
    have HMI := Lib.hid hmi
    have HI := Lib.hid (And.intro hi hi60)
    clear ht ho hs hv hg hmi
    by_cases hlt : i < n ∧ i < 60
    · obtain ⟨hin, h60⟩ := hlt
      have hha := HH.out.grows HGG.out
      have hnl : i < l.length := by rw [EN.out]; exact hin
      obtain ⟨g, o, c', he, hcap, hgl, hat⟩ := HH.out.form EN.out (Nat.lt_of_le_of_lt (Nat.zero_le _) hin)
      simp only [Value.slice.injEq, true_and] at he
      obtain ⟨rfl, rfl⟩ := he
      have hp : ∀ W', Grows w W' → W'.cell? ⟨g, o + i * 3, none⟩ = some (.int .i64 l[i].t) ∧ W'.cell? ⟨g, o + i * 3 + 1, none⟩ = some (.int .i64 l[i].f) ∧ W'.cell? ⟨g, o + i * 3 + 2, none⟩ = some (.int .u32 l[i].s) := fun W' hg => kat_cells (hat.grows hg hgl) i hnl
      obtain ⟨y, ey⟩ : ∃ y, l[i] = y := ⟨_, rfl⟩
      rw [ey] at hp
      have HP := Lib.hid hp
      obtain ⟨p0, p1, p2⟩ := hp wr HGG.out
      have hput := tputI y (.int .i64 1) HT.out HGG.out.size
      have HPUT := Lib.hid hput
      have hn6 : i ≤ 1000000 := Nat.le_trans hi60 (by decide)
      have HNF := Lib.hid (nat_facts i hn6)
      have HWS := Lib.hid (wrap_succ hn6)
      have H60 := Lib.hid h60
      have HIN := Lib.hid hin
      have hd1 : decide ((i : Int) < (n : Int)) = true := decide_eq_true (by omega)
      have hd2 : decide ((i : Int) < 60) = true := decide_eq_true (by omega)
      have hq1 : (i < n) = True := eq_true hin
      have hq2 : (i < 60) = True := eq_true h60
      have hq3 : (i : Int) < (n : Int) := Int.ofNat_lt.2 hin
      have hq4 : (i : Int) < 60 := by omega
      clear hha hnl hat hp ey hput hn6 hi hi60 h60 hcap hgl hin
      obtain ⟨j1, j2, j3, j4, j6⟩ := HNF.out
      go_wp2_with fail
      refine (HPUT.out).mono ?_
      intro e w2 hto
      have hg2 := TabTo.behind HT.out (Nat.le_refl _) HGG.out hto
      obtain ⟨ho2, kv2, ht2, rfl, hs2⟩ := TabTo.other (by decide) HT.out HO.out HS.out hto
      have ht2' : TabAt TTI w2 w.heap.size (w.heap.size + 1) kv2 w.heap.size (more m y) 100 := ht2
      have hml : m.length ≤ 60 := Nat.le_trans HMI.out HI.out.2
      have hinto := kinto_any y ho2 hg2.size (by rw [List.length_map]; exact Nat.le_trans hml (by decide))
      rw [← more_keys y (Nat.lt_of_le_of_lt hml (by decide))] at hinto
      have HINTO := Lib.hid hinto
      have HT2 := Lib.hid ht2'
      have HG2 := Lib.hid hg2
      have HS2 := Lib.hid hs2
      obtain ⟨p0, p1, p2⟩ := HP.out w2 hg2
      clear hto hg2 ho2 ht2 hs2 ht2' hml hinto
      go_wp2_with fail
      refine (HINTO.out).mono ?_
      rintro e w3 ⟨wv', rfl, hg3, ho3, hf3⟩
      have HO3 := Lib.hid ho3
      have HT3 := Lib.hid (HT2.out.grows hg3)
      have HG3 := Lib.hid (grows_trans _ _ _ HG2.out hg3)
      have HF3 := Lib.hid hf3
      clear hg3 ho3 hf3 p0 p1 p2
      go_wp2_with fail
      go_roundw
      case rel => exact ⟨i + 1, kv2, more m y, rfl, HIN.out, H60.out, Nat.le_trans (more_length m y) (Nat.succ_le_succ HMI.out), HT3.out, HO3.out, fun j hj hk => by
        rcases HF3.out j hj with h1 | h1
        · exact HS2.out j h1 hk
        · exact Nat.lt_irrefl _ (Nat.lt_of_lt_of_le (HT2.out.own.lt j hk).2 h1), more_ones y HV.out, HG3.out⟩
      case measure => exact meas_succ H60.out
    · obtain ⟨N, eN⟩ : ∃ N, m.length = N := ⟨_, rfl⟩
      have hN : N ≤ 60 := by rw [← eN]; exact Nat.le_trans HMI.out hi60
      obtain ⟨a2, cap2, rfl⟩ := (kown_has HO.out).len (show (m.map (·.1)).length = N by rw [List.length_map]; exact eN)
      have hex : (decide ((i : Int) < (n : Int)) = false ∧ (i < n) = False) ∨ (decide ((i : Int) < (n : Int)) = true ∧ (i < n) = True ∧ decide ((i : Int) < 60) = false ∧ (i < 60) = False) := by
        by_cases h1 : i < n
        · exact .inr ⟨decide_eq_true (by omega), eq_true h1, decide_eq_false (by omega), eq_false (by omega)⟩
        · exact .inl ⟨decide_eq_false (by omega), eq_false h1⟩
      have HNN := Lib.hid hN
      have HEN := Lib.hid eN
      clear hlt hi hi60 hN eN
      rcases hex with ⟨hd1, hq1⟩ | ⟨hd1, hq1, hd2, hq2⟩
      all_goals
        go_wp2_with fail
        clear hd1 hq1
        go_loopw [39] (fun iv wx => ∃ (j : Nat) (kv' : Value), iv = .int .i64 (j : Int) ∧ j ≤ N ∧ TabAt TTI wx w.heap.size (w.heap.size + 1) kv' w.heap.size (m.drop j) 100 ∧ KOwn wx w.heap.size (.slice a2 N cap2) (m.map (·.1)) ∧ (∀ q, (Value.slice a2 N cap2).ownBlock = some q → kv'.ownBlock ≠ some q) ∧ Grows w wx) (fun iv _ => N - (intOf iv).toNat)
        case atStart => exact ⟨0, kv, rfl, Nat.zero_le _, HT.out, HO.out, HS.out, HGG.out⟩
        case round =>
          obtain ⟨j, kv', rfl, hj, ht, ho, hs, hg⟩ := hrel
          by_cases hlt : j < N
          · have hjl : j < (m.map (·.1)).length := by rw [List.length_map, HEN.out]; exact hlt
            have hjm : j < m.length := by rw [HEN.out]; exact hlt
            obtain ⟨g, o, c', he, hcap, hgl, hat⟩ := (kown_has ho).form (show (m.map (·.1)).length = N by rw [List.length_map]; exact HEN.out) (Nat.lt_of_le_of_lt (Nat.zero_le _) hlt)
            simp only [Value.slice.injEq, true_and] at he
            obtain ⟨rfl, rfl⟩ := he
            obtain ⟨p0, p1, p2⟩ := kat_cells hat j hjl
            obtain ⟨y, ey⟩ : ∃ y, (m.map (·.1))[j] = y := ⟨_, rfl⟩
            rw [ey] at p0 p1 p2
            have hdr : m.drop j = (y, .int .i64 1) :: m.drop (j + 1) := by
              rw [List.drop_eq_getElem_cons hjm]
              congr 1
              have h1 := HV.out m[j] (List.getElem_mem hjm)
              rw [List.getElem_map] at ey
              exact Prod.ext ey h1
            rw [hdr] at ht
            have hgb : Grows wr (wr.alloc (.cells #[.int .i64 y.t, .int .i64 y.f, .int .u32 y.s] 29)) := bl_alloc (Below.refl _ _) _
            have hbx := heap_alloc_new wr (.cells #[.int .i64 y.t, .int .i64 y.f, .int .u32 y.s] 29)
            have hpop := tpop_someI (ht.grows hgb)
            have HPOP := Lib.hid hpop
            have HTT := Lib.hid ht
            have HOO := Lib.hid (own_grows ho hgb)
            have HSS := Lib.hid hs
            have HGB := Lib.hid (And.intro hgb (And.intro hbx (grows_trans _ _ _ hg hgb)))
            have hn6 : j ≤ 1000000 := Nat.le_trans (Nat.le_of_lt hlt) (Nat.le_trans HNN.out (by decide))
            have HNF := Lib.hid (nat_facts j hn6)
            have HWS := Lib.hid (wrap_succ hn6)
            have HLT := Lib.hid hlt
            have hq3 : (j : Int) < (N : Int) := Int.ofNat_lt.2 hlt
            clear hjl hjm hat ey hdr ht hgb hbx hpop ho hs hg hn6 hlt hj hcap hgl
            obtain ⟨j1, j2, j3, j4, j6⟩ := HNF.out
            go_wp2_with fail
            refine (HPOP.out).mono ?_
            intro e w2 hto
            obtain ⟨hgb, hbx, hgw⟩ := HGB.out
            have hg2 := TabTo.behind (HTT.out.grows hgb) (Nat.le_refl _) hgw hto
            obtain ⟨-, kvq, -, hc, -⟩ := id hto
            obtain ⟨ho2, kv2, ht2, rfl, hs2⟩ := TabTo.other (by decide) (HTT.out.grows hgb) HOO.out HSS.out hto
            have hb2 := box_chg hbx hc (fun hS => by
              rcases hS with h1 | h1 | h1
              · have := HTT.out.lt; omega
              · have := HTT.out.mlt; omega
              · exact Nat.lt_irrefl _ (HTT.out.own.lt _ h1).2)
            obtain ⟨s0, -⟩ := cell_in hb2 0 rfl
            obtain ⟨s1, -⟩ := cell_in hb2 1 rfl
            obtain ⟨s2, -⟩ := cell_in hb2 2 rfl
            have z1 := box_lt hb2
            have hgb2 : Grows w2 (w2.alloc (.cells #[.int .i64 y.t, .int .i64 y.f, .int .u32 y.s] 29)) := bl_alloc (Below.refl _ _) _
            have HR := Lib.hid (And.intro (ht2.grows hgb2) (And.intro (own_grows ho2 hgb2) (And.intro hs2 (grows_trans _ _ _ hg2 hgb2))))
            have hq := fun W => key_neq y y W
            rw [decide_eq_true rfl] at hq
            clear hgb hbx hgw hg2 hc ho2 ht2 hs2 hto hb2 hgb2 p0 p1 p2
            go_wp2_with fail
            go_roundw
            case rel => exact ⟨j + 1, kv2, by rw [HWS.out]; rfl, HLT.out, HR.out.1, HR.out.2.1, HR.out.2.2.1, HR.out.2.2.2⟩
            case measure => rw [HWS.out]; exact meas_succ HLT.out
          · obtain rfl : j = N := Nat.le_antisymm hj (Nat.le_of_not_lt hlt)
            rw [List.drop_of_length_le (by rw [HEN.out]; exact Nat.le_refl _)] at ht
            have hpop := tpop_noneI ht
            have HPOP := Lib.hid hpop
            have HTT := Lib.hid ht
            have HGL := Lib.hid hg
            clear ht hpop ho hs hg hlt hj
            go_wp2_with fail
            refine (HPOP.out).mono ?_
            intro e w2 hto
            have hg2 := TabTo.behind HTT.out (Nat.le_refl _) HGL.out hto
            obtain ⟨rfl, -⟩ := hto
            have HG2 := Lib.hid hg2
            clear hg2
            go_wp2_with fail
            refine (HW.out _).mono ?_
            rintro e w3 ⟨rfl, hg3⟩
            have HG3 := Lib.hid (grows_trans _ _ _ (grows_trans _ _ _ HG2.out (bl_alloc (Below.refl _ _) _)) hg3)
            clear hg3
            go_wp2_with fail
            go_ret
            exact ⟨rfl, HG3.out⟩
end
end Go.Proofs.Ytdmmceclohkkdaa
