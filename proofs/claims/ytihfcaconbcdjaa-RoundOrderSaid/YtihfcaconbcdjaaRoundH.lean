/- The walk of RoundOrder. -/
import Derived.Test.YtihfcaconbcdjaaRoundG
import Derived.Test.YtihfcaconbcdjaaRoundD
namespace Go.Proofs.Ytihfcaconbcdjaa
open Go.RowKit Go.Sort Go.Maps
set_option maxHeartbeats 1000000
set_option maxRecDepth 100000

theorem order_next {n k : Nat} (hn : n ≤ 40) (hk : k < n) : wrap64 ((k : Int) + 1) = (k : Int) + 1 := by unfold wrap64; omega
theorem order_less {n k : Nat} (hk : k < n) : n - ((k : Int) + 1).toNat < n - (k : Int).toNat := by omega
theorem roundOrder_walk (l : List Int) (t : Nat) (f : Int) (v : Value) (w : World) (hl : IHas w v l) (hr : Rng l) (ht : t ≤ 255) (hf : -9223372036854775808 ≤ f ∧ f ≤ 9223372036854775807) :
    Calls Try.prog 9 #[v, .int .u8 (t : Int), .int .i64 f] w (RetV w (.bool true)) := by
  obtain ⟨nl, en⟩ : ∃ n, l.length = n := ⟨_, rfl⟩
  obtain ⟨p, cap, rfl⟩ := hl.len en
  have HW := Lib.hid (fun W => roundWorks_any W)
  have HN := Lib.hid (fun W => round_new 1 W)
  have HL := Lib.hid hl
  have EN := Lib.hid en
  have RL := Lib.hid hr
  have HF := Lib.hid hf
  clear hl en hr hf
  go_enter Try.func9, Try.ntmps9
  go_wp2_with fail
  go_at_call 26
  refine (HN.out _).mono ?_
  rintro e w1 ⟨rfl, hr1, hg1⟩
  have hs1 := hr1.lt
  have R1 := Lib.hid hr1
  have G1 := Lib.hid (show Grows w w1 from hg1)
  clear hr1 hg1
  go_wp2_with fail
  go_at_call 26
  refine (HN.out _).mono ?_
  rintro e w2 ⟨rfl, hr2, hg2⟩
  have R2 := Lib.hid hr2
  have R12 := Lib.hid (R1.out.grows hg2)
  have G2 := Lib.hid (show Grows w1 w2 from hg2)
  clear hr2 hg2
  have hs2 := G1.out.size
  have hs3 := G2.out.size
  have GW : Below w.heap.size w w2 := grows_trans _ _ _ G1.out G2.out
  obtain ⟨n, hn⟩ : ∃ n, min nl 40 = n := ⟨_, rfl⟩
  have hmin : min (nl : Int) 40 = (n : Int) := by omega
  have hn1 : n ≤ nl := by omega
  have hn2 : n ≤ 40 := by omega
  have hlt1 := R12.out.lt
  obtain ⟨ma, ema⟩ : ∃ m, w.heap.size = m := ⟨_, rfl⟩
  obtain ⟨mb, emb⟩ : ∃ m, w1.heap.size = m := ⟨_, rfl⟩
  have RA : Hid (RoundAt w2 (ma + 1) ma 1 []) := by rw [← ema]; exact Lib.hid R12.out
  have RB : Hid (RoundAt w2 (mb + 1) mb 1 []) := by rw [← emb]; exact Lib.hid R2.out
  obtain ⟨ba, eba⟩ : ∃ m, ma + 1 = m := ⟨_, rfl⟩
  obtain ⟨bb, ebb⟩ : ∃ m, mb + 1 = m := ⟨_, rfl⟩
  rw [eba] at RA
  rw [ebb] at RB
  have hab1 : ba ≠ mb := by have := hs1.1; omega
  have hab2 : ma ≠ mb := by have := hs1.1; omega
  have hba1 : bb ≠ ma := by have := hs1.1; omega
  have hma : w.heap.size ≤ ma := by omega
  have hmb : w.heap.size ≤ mb := by omega
  rw [ema, emb, eba, ebb]
  have HMA := Lib.hid hma
  have HMB := Lib.hid hmb
  have HGW := Lib.hid GW
  clear hs1 hs2 hs3 hlt1 R1 R12 R2 G1 G2 GW ema emb eba ebb hn hma hmb HN
  go_wp2_with fail
  go_loopw [10, 11] (fun vi _ wr => ∃ k : Nat, vi = .int .i64 (k : Int) ∧ k ≤ n ∧ RoundAt wr ba ma 1 (esA l k) ∧ RoundAt wr bb mb 1 (esB l n t k) ∧ Below w.heap.size w wr) (fun vi _ _ => n - (intOf vi).toNat)
  case atStart => exact ⟨0, rfl, by omega, RA.out, RB.out, HGW.out⟩
  case round =>
    obtain ⟨k, rfl, hk, hra, hrb, hg⟩ := hrel
    have RA := Lib.hid hra
    have RB := Lib.hid hrb
    have HG := Lib.hid hg
    clear hra hrb hg
    by_cases hkn : k < n
    · have hkk := kN_lt t hkn
      obtain ⟨hA1, hA2⟩ := noteA l k (by omega)
      obtain ⟨hB1, hB2⟩ := noteB l n t k (by omega) hkn
      have hi := HL.out.grows HG.out
      obtain ⟨g, o, c', he1, hcap, hgw0⟩ := HL.out.form EN.out (by omega)
      simp only [Value.slice.injEq, true_and] at he1
      obtain ⟨rfl, rfl⟩ := he1
      have hgw : g < wr.heap.size := Nat.lt_of_lt_of_le hgw0 HG.out.size
      have hxa := read_cell hi EN.out (by omega : k < nl)
      have hna := round_note wr RA.out (k : Int) (l.getD k 0) (read_wf RL.out k) (by rw [esA_length]; omega)
      rw [hA1, hA2] at hna
      have hnb := fun (W : World) (h : RoundAt W bb mb 1 (esB l n t k)) => round_note W h (kN n t k : Nat) (l.getD (kN n t k) 0) (read_wf RL.out _) (by rw [esB_length]; omega)
      rw [hB1, hB2] at hnb
      have hxb := read_cell hi EN.out (by omega : kN n t k < nl)
      have HI := Lib.hid hi
      obtain ⟨h1, h2, h3, h4, h5, h6, h7⟩ := order_facts hn2 ht hkn
      have h8 : (n : Int) ≠ 0 := by clear h1 h2 h3 h4 h5 h6 h7; omega
      have H10 := Lib.hid (order_next hn2 hkn)
      have h9 : n ≠ 0 := by clear h1 h2 h3 h4 h5 h6 h7; omega
      have hql : kN n t k < nl := by clear h1 h2 h3 h4 h5 h7; omega
      have hkl : k < nl := by clear h1 h2 h3 h4 h5 h7; omega
      obtain ⟨x, ex⟩ : ∃ x, l.getD k 0 = x := ⟨_, rfl⟩
      obtain ⟨q, eq⟩ : ∃ q, kN n t k = q := ⟨_, rfl⟩
      rw [eq] at hxb hnb hkk h5 h7 hql
      obtain ⟨y, ey⟩ : ∃ y, l.getD q 0 = y := ⟨_, rfl⟩
      rw [ey] at hxb hnb
      rw [ex] at hxa hna
      have HNA := Lib.hid hna
      have HNB := Lib.hid hnb
      have HXB := Lib.hid hxb
      have HKN := Lib.hid hkn
      clear hna hnb hA1 hA2 hB1 hB2 hi ex eq ey hxb hkk
      go_wp2_with fail
      go_at_call 27
      refine HNA.out.mono ?_
      rintro e w3 ⟨rfl, hra3, hg3⟩
      have hG3 : Below w.heap.size w w3 := HG.out.grown hg3 HG.out.size (fun kk hkk => by cases hkk; exact HMA.out)
      have hrb3 := RB.out.kept hg3 (by simpa using hba1) (by simpa using fun hc => hab2 hc.symm)
      clear ht hn1 hn2 hkn hk hmin
      have hxb3 : w3.cell? ⟨g, o + q, none⟩ = some (.int .i64 y) := (hG3.cell (p := ⟨g, o + q, none⟩) hgw0).trans ((HG.out.cell (p := ⟨g, o + q, none⟩) hgw0).symm.trans HXB.out)
      have hgw3 : g < w3.heap.size := Nat.lt_of_lt_of_le hgw0 hG3.size
      have HRA3 := Lib.hid hra3
      have HNB3 := Lib.hid (HNB.out w3 hrb3)
      have HG3 := Lib.hid hG3
      clear hra3 hrb3 hg3 hG3 hxa hgw hgw0
      go_wp2_with fail
      go_at_call 27
      refine HNB3.out.mono ?_
      rintro e w4 ⟨rfl, hrb4, hg4⟩
      have hG4 : Below w.heap.size w w4 := HG3.out.grown hg4 HG3.out.size (fun kk hkk => by cases hkk; exact HMB.out)
      have hra4 := HRA3.out.kept hg4 (by simpa using hab1) (by simpa using hab2)
      clear hg4
      go_wp2_with fail
      have h10 := H10.out
      have hkn := HKN.out
      go_roundw
      case rel => exact ⟨k + 1, by rw [h10]; rfl, hkn, hra4, hrb4, hG4⟩
      case measure => rw [h10]; exact order_less hkn
    · obtain rfl : k = n := by omega
      have hpm := esA_perm l k t
      have hpd : (dsOf (esA l k)).Perm (dsOf (esB l k t k)) := hpm.map _
      have hrA := esA_rng RL.out k
      have hca := fun W (h : RoundAt W ba ma 1 (esA l k)) => round_close f W h (by rw [esA_length]; omega) hrA HF.out
      have hcb := fun W (h : RoundAt W bb mb 1 (esB l k t k)) => round_close f W h (by rw [esB_length]; omega) (fun x hx => hrA x (hpd.mem_iff.2 hx)) HF.out
      have hwa := fun W (h : RoundAt W ba ma 1 (esA l k)) => round_who W h (esA_keys l k (by omega))
      have hwb := fun W (h : RoundAt W bb mb 1 (esB l k t k)) => round_who W h (fun p hp => esA_keys l k (by omega) p (hpm.mem_iff.2 hp))
      rw [← trimI_eq f hpd, esB_length] at hcb
      rw [esA_length] at hca
      rw [← whoN_perm hpm] at hwb
      obtain ⟨M, eM⟩ : ∃ M, midI (trimI f (dsOf (esA l k))) = M := ⟨_, rfl⟩
      obtain ⟨S, eS⟩ : ∃ S, whoN (esA l k) = S := ⟨_, rfl⟩
      rw [eM] at hca hcb
      rw [eS] at hwa hwb
      have HCA := Lib.hid hca
      have HCB := Lib.hid hcb
      have HWA := Lib.hid hwa
      have HWB := Lib.hid hwb
      clear hca hcb hwa hwb eM eS hpm hpd hrA ht hn1 hn2 hk hmin hkn
      go_wp2_with fail
      go_at_call 28
      refine (HCA.out _ RA.out).mono ?_
      rintro e w3 ⟨rfl, hg3⟩
      have RA3 := Lib.hid (RA.out.grows hg3)
      have RB3 := Lib.hid (RB.out.grows hg3)
      have G3 := Lib.hid hg3
      clear hg3
      go_wp2_with fail
      go_at_call 28
      refine (HCB.out _ RB3.out).mono ?_
      rintro e w4 ⟨rfl, hg4⟩
      have RA4 := Lib.hid (RA3.out.grows hg4)
      have RB4 := Lib.hid (RB3.out.grows hg4)
      have G4 := Lib.hid hg4
      clear hg4
      by_cases h0 : 0 < k
      all_goals (
        first
          | (have h6 : decide ((0 : Int) < (k : Int)) = true := decide_eq_true (by omega)
             rw [decide_eq_true h0])
          | (have h6 : decide ((0 : Int) < (k : Int)) = false := decide_eq_false (by omega)
             rw [decide_eq_false h0])
        go_wp2_with fail
        go_at_call 29
        refine (HWA.out _ RA4.out).mono ?_
        rintro e w5 ⟨rfl, hg5⟩
        have RB5 := Lib.hid (RB4.out.grows hg5)
        have G5 := Lib.hid hg5
        clear hg5
        go_wp2_with fail
        go_at_call 29
        refine (HWB.out _ RB5.out).mono ?_
        rintro e w6 ⟨rfl, hg6⟩
        have G6 := Lib.hid hg6
        clear hg6
        go_wp2_with fail
        go_at_call 25
        refine (HW.out _).mono ?_
        rintro e w7 ⟨rfl, hg7⟩
        have G7 := Lib.hid hg7
        clear hg7
        go_wp2_with fail
        go_ret
        exact ⟨rfl, grows_trans _ _ _ (grows_trans _ _ _ (grows_trans _ _ _ HG.out G3.out) (grows_trans _ _ _ G4.out G5.out)) (grows_trans _ _ _ G6.out G7.out)⟩)
end Go.Proofs.Ytihfcaconbcdjaa
