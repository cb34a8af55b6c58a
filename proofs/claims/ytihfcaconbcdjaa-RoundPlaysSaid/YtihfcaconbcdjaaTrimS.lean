/- The walk of TrimSound. -/
import Derived.Test.YtihfcaconbcdjaaTrimL
namespace Go.Proofs.Ytihfcaconbcdjaa
open Go.RowKit Go.Sort
set_option maxHeartbeats 1000000
set_option maxRecDepth 100000

theorem IHas.len {w : World} {v : Value} {l : List Int} {n : Nat} (h : IHas w v l) (hl : l.length = n) : ∃ a cap, v = .slice a n cap := by
  rcases h with ⟨rfl, a, cap, rfl⟩ | ⟨g, o, cap, rfl, h4, hg, hc⟩
  · exact ⟨a, cap, by rw [← hl]; rfl⟩
  · exact ⟨_, cap, by rw [← hl]⟩
theorem own_grows {w w' : World} {base : Nat} {e : TypeId} {size : Nat} {v : Value} {n : Nat} {xs : List Value} (h : w.ownsRow base e size v n xs) (hg : Grows w w') : w'.ownsRow base e size v n xs :=
  ⟨h.1, h.2.imp id fun ⟨g, cap, cur, h1, h2, h3, h4⟩ => ⟨g, cap, cur, h1, h2, (hg.block g (Array.getElem?_eq_some_iff.1 h3).1).trans h3, h4⟩⟩
/-- What an append to another row leaves alone. -/
theorem IHas.grownBy {w w' : World} {v : Value} {l : List Int} {row : Option Nat} (h : IHas w v l) (hg : w.grownBy w' row) (hr : ∀ k, row = some k → v.ownBlock ≠ some k) : IHas w' v l := by
  rcases h with h | ⟨g, o, cap, rfl, h0, h2, h3⟩
  · exact .inl h
  · refine .inr ⟨g, o, cap, rfl, h0, Nat.lt_of_lt_of_le h2 hg.size, fun i hi => ?_⟩
    rw [← h3 i hi]
    refine World.cell?_of_block (hg.block g h2 fun hc => ?_)
    exact hr g hc.symm (by simp [Value.ownBlock])
theorem trimSound_walk (f : Int) (vg vb : Value) (lg lb : List Int) (w : World) (hg : IHas w vg lg) (hb : IHas w vb lb) (hrg : Rng lg) (hrb : Rng lb) (hf : 0 ≤ f ∧ f ≤ 255) :
    Calls Try.prog 7 #[.int .u8 f, vg, vb] w (RetV w (.bool true)) := by
  obtain ⟨i0, hi, hz0, hz1, hz2⟩ := info_parts Try.infoI64
  have hff : -9223372036854775808 ≤ f ∧ f ≤ 9223372036854775807 := by omega
  have HC := Lib.hid (fun v l W h => cut_any v l W h)
  have HM := Lib.hid (fun v l W h hl hr => middle_any f v l W h hl hr hff)
  have HRS := Lib.hid (fun v l W h hl => rsort_any v l W h hl)
  have HF := Lib.hid (fun m W hm => fault_any m f W hm hff)
  have HW := Lib.hid (fun W => trimWorks_any W)
  have HIG := Lib.hid hg
  have HIB := Lib.hid hb
  have hrg' : Rng (lg.take 40) := fun x hx => hrg x (List.mem_of_mem_take hx)
  have hrb' : Rng (lb.take 40) := fun x hx => hrb x (List.mem_of_mem_take hx)
  have hg40 : (lg.take 40).length ≤ 40 := by rw [List.length_take]; omega
  have hb40 : (lb.take 40).length ≤ 40 := by rw [List.length_take]; omega
  clear hg hb hrg hrb
  obtain ⟨a, ea⟩ : ∃ a, lg.take 40 = a := ⟨_, rfl⟩
  obtain ⟨b, eb⟩ : ∃ b, lb.take 40 = b := ⟨_, rfl⟩
  rw [ea] at hrg' hg40
  rw [eb] at hrb' hb40
  obtain ⟨n, en⟩ : ∃ n, a.length = n := ⟨_, rfl⟩
  obtain ⟨k, ek⟩ : ∃ k, b.length = k := ⟨_, rfl⟩
  rw [en] at hg40
  rw [ek] at hb40
  have EA := Lib.hid ea
  have EB := Lib.hid eb
  have EN := Lib.hid en
  have EK := Lib.hid ek
  have RA := Lib.hid hrg'
  have RB := Lib.hid hrb'
  clear ea eb en ek hrg' hrb'
  have hwf : wrap64 f = f := by unfold wrap64; omega
  go_enter Try.func7, Try.ntmps7
  go_wp2_with fail
  go_at_call 13
  refine (HC.out _ _ _ HIG.out).mono ?_
  rintro e w1 ⟨v1, rfl, hg1, ho1⟩
  rw [EA.out] at ho1
  have I1 := Lib.hid ho1.has
  have G1 := Lib.hid hg1
  have IB1 := Lib.hid (HIB.out.grows hg1)
  clear ho1 hg1
  go_wp2_with fail
  go_at_call 13
  refine (HC.out _ _ _ IB1.out).mono ?_
  rintro e w2 ⟨v2, rfl, hg2, ho2⟩
  rw [EB.out] at ho2
  have O2 := Lib.hid ho2
  have G2 := Lib.hid hg2
  have I12 := Lib.hid (I1.out.grows hg2)
  clear ho2 hg2
  obtain ⟨p1, c1, rfl⟩ := I1.out.len EN.out
  obtain ⟨p2, c2, rfl⟩ := O2.out.has.len EK.out
  by_cases h0 : n = 0
  · subst h0
    go_wp2_with fail
    go_at_call 19
    refine (HW.out _).mono ?_
    rintro e w5 ⟨rfl, hg5⟩
    have G5 := Lib.hid hg5
    clear hg5
    go_wp2_with fail
    go_ret
    exact ⟨rfl, grows_trans _ _ _ (grows_trans _ _ _ G1.out G2.out) G5.out⟩
  · have hn0 : ((n : Int) == 0) = false := by simp; omega
    have hnk : wrap64 ((n : Int) + (k : Int)) = ((k + n : Nat) : Int) := by unfold wrap64; omega
    have hnk2 : (n : Int) + (k : Int) = ((k + n : Nat) : Int) := by omega
    obtain ⟨N, eN⟩ : ∃ N, k + n = N := ⟨_, rfl⟩
    rw [eN] at hnk hnk2
    have hfc := fun W => HF.out (N : Int) W (by omega)
    rw [cutN_eq] at hfc
    obtain ⟨t, et⟩ : ∃ t, cutN f N = t := ⟨_, rfl⟩
    rw [et] at hfc
    have HFC := Lib.hid hfc
    have ET := Lib.hid et
    have E2 := Lib.hid eN
    clear hfc et eN
    by_cases hkt : k ≤ t
    · have hkt2 : ¬ (t : Int) < (k : Int) := by omega
      have hlen : (b ++ a).length = N := by rw [List.length_append, EN.out, EK.out]; exact E2.out
      have hso := sound_plain f a b (by rw [EN.out]; omega) (by rw [hlen, ET.out, EK.out]; exact hkt) n EN.out
      have HSO := Lib.hid hso
      clear hlen hso
      obtain ⟨g1, o1, c1', he1, hcap1, hgw1⟩ := I1.out.form EN.out (by omega)
      simp only [Value.slice.injEq, true_and] at he1
      obtain ⟨rfl, rfl⟩ := he1
      go_wp2_with fail
      go_at_call 20
      refine (HFC.out _).mono ?_
      rintro e w' ⟨rfl, rfl⟩
      go_wp2_with fail
      go_at_call 16
      refine (HRS.out _ _ _ I12.out (by rw [EN.out]; omega)).mono ?_
      rintro e w3 ⟨v3, rfl, hg3, ho3⟩
      have G3 := Lib.hid hg3
      have O23 := Lib.hid (show IOwn w3 w1.heap.size (.slice p2 k c2) b from own_grows O2.out hg3)
      have I13 := Lib.hid (I12.out.grows hg3)
      have O3 := Lib.hid ho3
      clear hg3 ho3
      go_wp2_with (at_builtin; refine wpList_append_own _ rfl _ _ 22 rfl w1.heap.size 2 i0 _ 1 8 Try.underlying22 hi hz0 hz1 hz2 rfl (by decide) _ b.length (iv b) rfl O23.out ⟨g1, o1, none⟩ n c1 (iv a) rfl (by rw [iv_length, EN.out, Nat.mul_one]) ?c1 ?c2 ?c3 ?c4 ?c5 ?_)
      case c1 =>
        intro j u hj
        have hjl : j < a.length := by have := List.getElem?_eq_some_iff.1 hj; rw [← iv_length]; exact this.1
        have hju : u = .int .i64 (a[j]) := by obtain ⟨h1, h2⟩ := List.getElem?_eq_some_iff.1 hj; rw [← h2]; simp [iv]
        rw [hju, addr_add]
        exact I13.out.cell j hjl
      case c2 => exact iv_one _
      case c3 => rw [EK.out]; unfold maxLen; omega
      case c4 => rw [EK.out]; omega
      case c5 => exact Nat.le_trans G2.out.size G3.out.size
      intro v4 w4 hown hgrow _
      rw [iv_append] at hown
      have ho4 : IOwn w4 w1.heap.size v4 (b ++ a) := by unfold IOwn; rw [List.length_append, EN.out]; exact hown
      have hg4 : Grows w w4 := grows_of_grownBy (grows_trans _ _ _ (grows_trans _ _ _ G1.out G2.out) G3.out) hgrow (fun kk hkk => Nat.le_trans G1.out.size (O2.out.lt kk hkk).1)
      have hi4 : IHas w4 v3 (sortI a) := O3.out.has.grownBy hgrow (fun kk hkk hc => by have h1 := (O2.out.lt kk hkk).2; have h2 := (O3.out.lt kk hc).1; omega)
      have I4 := Lib.hid ho4.has
      have I34 := Lib.hid hi4
      have G4 := Lib.hid hg4
      clear hown hgrow ho4 hg4 hi4
      have hlen : (b ++ a).length ≤ 1000 := by rw [List.length_append, EN.out, EK.out]; omega
      have hrng : Rng (b ++ a) := fun x hx => by rw [List.mem_append] at hx; rcases hx with hx | hx; exact RB.out x hx; exact RA.out x hx
      have hmc := fun W h => HM.out v4 (b ++ a) W h hlen hrng
      have hdl : decide (0 < (b ++ a).length) = true := decide_eq_true (by rw [List.length_append, EN.out]; omega)
      rw [hdl] at hmc
      obtain ⟨q, hq1, hq2, x0, x1, hx0, hx1, hlo, hhi⟩ := HSO.out
      obtain ⟨M, eM⟩ : ∃ M, midI (trimI f (b ++ a)) = M := ⟨_, rfl⟩
      rw [eM] at hmc hlo hhi
      have HMC := Lib.hid hmc
      have hq2' := Lib.hid hq2
      have hsl := sortI_length a
      rw [EN.out] at hsl
      clear hlen hrng hmc hdl eM
      go_wp2_with fail
      go_at_call 22
      refine (HMC.out _ I4.out).mono ?_
      rintro e w5 ⟨rfl, hg5⟩
      have G5 := Lib.hid hg5
      have i5 := I34.out.grows hg5
      obtain ⟨g3, o3, c3, rfl, hcap3, hgw3⟩ := i5.form hsl (by omega)
      have hc0 := i5.cell 0 (by omega)
      have hc1 := i5.cell q (by omega)
      rw [hx0, Nat.add_zero] at hc0
      rw [hx1] at hc1
      have hq40 : q < 40 := Nat.lt_of_lt_of_le hq2 hg40
      have hwq : wrap64 (q : Int) = (q : Int) := by clear hff hnk hnk2; unfold wrap64; omega
      have hn1 : 0 < n := Nat.lt_of_le_of_lt (Nat.zero_le _) hq2
      clear hg5 i5 hx0 hx1 hsl HSO HMC HM HRS HF HC I1 I12 I13 I4 I34 O2 O23 O3 RA RB EA EB EN EK HIG HIB IB1
      have hb0 : decide (x0 ≤ M) = true := decide_eq_true hlo
      have hb1 : decide (M ≤ x1) = true := decide_eq_true hhi
      clear HFC ET E2 hff hf hwf hg40 hb40 hnk hnk2 hkt hkt2 hq2' hn0 h0 hq40 hi hz0 hz1 hz2
      as_aux_lemma =>
      go_wp2_with fail
      go_at_call 19
      refine (HW.out _).mono ?_
      rintro e w6 ⟨rfl, hg6⟩
      have G6 := Lib.hid hg6
      clear hg6
      go_wp2_with fail
      go_ret
      exact ⟨rfl, grows_trans _ _ _ (grows_trans _ _ _ G4.out G5.out) G6.out⟩
    · have hkt2 : (t : Int) < (k : Int) := by omega
      go_wp2_with fail
      go_at_call 20
      refine (HFC.out _).mono ?_
      rintro e w' ⟨rfl, rfl⟩
      go_wp2_with fail
      go_at_call 19
      refine (HW.out _).mono ?_
      rintro e w5 ⟨rfl, hg5⟩
      have G5 := Lib.hid hg5
      clear hg5
      go_wp2_with fail
      go_ret
      exact ⟨rfl, grows_trans _ _ _ (grows_trans _ _ _ G1.out G2.out) G5.out⟩
end Go.Proofs.Ytihfcaconbcdjaa
