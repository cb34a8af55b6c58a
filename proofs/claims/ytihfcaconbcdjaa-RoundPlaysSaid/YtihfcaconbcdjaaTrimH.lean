/- The middle: the document's. -/
import Derived.Test.YtihfcaconbcdjaaTrimG
namespace Go.Proofs.Ytihfcaconbcdjaa
open Go.RowKit Go.Sort
set_option maxHeartbeats 1000000
set_option maxRecDepth 100000

theorem q32_rng (s : List Int) (h : Rng s) : -2147483648 * s.length ≤ qSum 4294967296 s ∧ qSum 4294967296 s ≤ 2147483648 * s.length := by
  have := sum_rng (-2147483648) 2147483648 (s.map fun x => x / 4294967296) (fun x hx => by
    rw [List.mem_map] at hx
    obtain ⟨y, hy, rfl⟩ := hx
    have := h y hy
    omega)
  rw [List.length_map] at this
  exact this
theorem mid32 (s : List Int) (n : Nat) (en : s.length = n) (hp : 0 < n) (hn : n ≤ 1000) (h : Rng s) :
    ∃ q1 P1 r1 r2 T q2 q3 : Int, qSum 4294967296 s / n = q1 ∧ wrap64 (q1 * n) = P1 ∧ wrap64 (qSum 4294967296 s - P1) = r1 ∧ wrap64 (r1 * 4294967296) = r2 ∧ wrap64 (r2 + rSum 4294967296 s) = T ∧ T / n = q2 ∧ wrap64 (q1 * 4294967296) = q3 ∧ wrap64 (q3 + q2) = midI s ∧ (-9223372036854775808 ≤ T ∧ T ≤ 9223372036854775807) ∧ (-9223372036854775808 ≤ qSum 4294967296 s ∧ qSum 4294967296 s ≤ 9223372036854775807) := by
  have hH := q32_rng s h
  have hL := rSum_rng 4294967296 (by omega) s
  have hS := sum_qr 4294967296 s
  have hM := mid_rng _ _ s (by omega) h
  rw [en] at hH hL
  have hmid : midI s = s.sum / (n : Int) := by unfold midI; rw [en]
  rw [hS] at hmid
  obtain ⟨H, eH⟩ : ∃ H, qSum 4294967296 s = H := ⟨_, rfl⟩
  obtain ⟨L, eL⟩ : ∃ L, rSum 4294967296 s = L := ⟨_, rfl⟩
  obtain ⟨M, eM⟩ : ∃ M, midI s = M := ⟨_, rfl⟩
  rw [eH] at hH hmid ⊢
  rw [eL] at hL hmid ⊢
  rw [eM] at hM hmid ⊢
  have d1 := Int.mul_ediv_add_emod H (n : Int)
  have d2 := Int.emod_nonneg H (by omega : (n : Int) ≠ 0)
  have d3 := Int.emod_lt_of_pos H (by omega : 0 < (n : Int))
  have e1 : 4294967296 * H + L = (n : Int) * (4294967296 * (H / n)) + ((H % n) * 4294967296 + L) := by
    conv => lhs; rw [← d1]
    rw [Int.mul_add, ← Int.mul_assoc, ← Int.mul_assoc, Int.mul_comm 4294967296 (n : Int)]
    omega
  rw [e1, Int.add_comm, Int.add_mul_ediv_left _ _ (by omega)] at hmid
  have hc : H / (n : Int) * (n : Int) = (n : Int) * (H / n) := Int.mul_comm _ _
  obtain ⟨q1, eq1⟩ : ∃ q1, H / (n : Int) = q1 := ⟨_, rfl⟩
  obtain ⟨r1, er1⟩ : ∃ r1, H % (n : Int) = r1 := ⟨_, rfl⟩
  rw [eq1] at d1 hmid hc
  rw [er1] at d1 d2 d3 hmid
  have w1 : wrap64 (q1 * n) = q1 * n := by rw [hc]; unfold wrap64; omega
  have w2 : wrap64 (H - q1 * n) = r1 := by rw [hc]; unfold wrap64; omega
  have w3 : wrap64 (r1 * 4294967296) = r1 * 4294967296 := by unfold wrap64; omega
  have w4 : wrap64 (r1 * 4294967296 + L) = r1 * 4294967296 + L := by unfold wrap64; omega
  refine ⟨q1, q1 * n, r1, r1 * 4294967296, r1 * 4294967296 + L, _, _, eq1, w1, w2, w3, w4, rfl, rfl, ?_, by omega, by omega⟩
  unfold wrap64
  omega

theorem rmiddle_any (f : Int) (v : Value) (l : List Int) (w : World) (h : IHas w v l) (hm : l.length ≤ 1000) (hr : Rng l) (hf : -9223372036854775808 ≤ f ∧ f ≤ 9223372036854775807) :
    Calls Try.prog 23 #[.int .i64 f, v] w (RetV w (.tuple #[.int .i64 (midI (trimI f l)), .bool (decide (0 < l.length))])) := by
  have ht := rtrim_any f v l w h hm hf
  have HT := Lib.hid ht
  have htl := trimI_length f l
  have hpos := trimI_pos f l
  obtain ⟨s, es⟩ : ∃ s, trimI f l = s := ⟨_, rfl⟩
  have hrs : Rng s := es ▸ trimI_rng f l hr
  have h0s : l = [] → s = [] := fun e => by rw [← es, e, trimI_nil]
  rw [es] at HT hpos htl ⊢
  obtain ⟨n, en⟩ : ∃ n, s.length = n := ⟨_, rfl⟩
  rw [en] at hpos htl
  have hn : n ≤ 1000 := by omega
  have hdv := fun x m W hx hm => div_any x m W hx hm
  have HD := Lib.hid hdv
  clear ht hdv
  by_cases h0 : l = []
  · obtain rfl := h0s h0
    subst h0
    have hn0 : n = 0 := by rw [← en]; rfl
    subst hn0
    clear hpos htl h hr hrs h0s HD
    have e0 : midI [] = 0 := rfl
    rw [e0]
    go_enter Try.func23, Try.ntmps23
    go_wp2_with (go_at_call 18; refine HT.out.mono ?_; rintro e w1 ⟨v1, rfl, hG1, hO1⟩; have HG1 := Lib.hid hG1; obtain ⟨p, cap, rfl⟩ := hO1.nil_form rfl; clear hO1 hG1)
    go_ret2
    exact ⟨rfl, HG1.out⟩
  · have hl0 : 0 < l.length := List.length_pos_iff.2 h0
    have hp : 0 < n := hpos hl0
    have hdec : decide (0 < l.length) = true := by simp [hl0]
    rw [hdec]
    have hW0 : (0 : Int) = qSum 4294967296 (s.take 0) := by simp [qSum]
    have hR0 : (0 : Int) = rSum 4294967296 (s.take 0) := by simp [rSum]
    have hWs : ∀ k, (hk : k < s.length) → qSum 4294967296 (s.take k) + s[k] / 4294967296 = qSum 4294967296 (s.take (k + 1)) := fun k hk => (qSum_succ _ _ k hk).symm
    have hRs : ∀ k, (hk : k < s.length) → rSum 4294967296 (s.take k) + s[k] % 4294967296 = rSum 4294967296 (s.take (k + 1)) := fun k hk => (rSum_succ _ _ k hk).symm
    have htk : ∀ k, (s.take k).length ≤ 1000 := fun k => by rw [List.length_take]; omega
    have hRb : ∀ k, 0 ≤ rSum 4294967296 (s.take k) ∧ rSum 4294967296 (s.take k) ≤ 4294967296000 := fun k => by
      have h1 := rSum_rng 4294967296 (by omega) (s.take k)
      have := htk k
      omega
    have hQb : ∀ k, -2147483648000 ≤ qSum 4294967296 (s.take k) ∧ qSum 4294967296 (s.take k) ≤ 2147483648000 := fun k => by
      have h1 := q32_rng (s.take k) (fun x hx => hrs x (List.mem_of_mem_take hx))
      have := htk k
      omega
    have hend := mid32 s n en hp hn hrs
    rw [show qSum 4294967296 s = qSum 4294967296 (s.take n) by rw [← en, List.take_length], show rSum 4294967296 s = rSum 4294967296 (s.take n) by rw [← en, List.take_length]] at hend
    obtain ⟨M, eM⟩ : ∃ M, midI s = M := ⟨_, rfl⟩
    rw [eM] at hend ⊢
    have hbz : ((n : Int) == 0) = false := by simp; omega
    have HW0 := Lib.hid hW0
    have HR0 := Lib.hid hR0
    have HWs := Lib.hid hWs
    have HRs := Lib.hid hRs
    have HRb := Lib.hid hRb
    have HQb := Lib.hid hQb
    have HE := Lib.hid hend
    have HRN := Lib.hid hrs
    have EN := Lib.hid en
    clear hW0 hR0 hWs hRs hRb hQb hend eM h hr hrs h0s hpos htl hdec es en htk
    go_enter Try.func23, Try.ntmps23
    go_wp2_with (go_at_call 18; refine HT.out.mono ?_; rintro e w1 ⟨v1, rfl, hG1, hO1⟩; have HG1 := Lib.hid hG1; have HO1 := Lib.hid hO1; obtain ⟨g, o, cap, rfl, hcap, hgw⟩ := hO1.form EN.out hp; clear hO1 hG1)
    go_loopw [7, 8, 10] (fun vq vr vi wr => ∃ k : Nat, vi = .int .i64 (k : Int) ∧ k ≤ n ∧ Grows w1 wr ∧ vq = .int .i64 (qSum 4294967296 (s.take k)) ∧ vr = .int .i64 (rSum 4294967296 (s.take k))) (fun _ _ vi _ => n - (intOf vi).toNat)
    case atStart => exact ⟨0, rfl, by omega, Below.refl _ _, by rw [← HW0.out], by rw [← HR0.out]⟩
    case round =>
      obtain ⟨k, rfl, hk, hgr, rfl, rfl⟩ := hrel
      have HG := Lib.hid hgr
      clear hgr
      by_cases hlt : k < n
      · have hkl : k < s.length := by rw [EN.out]; exact hlt
        have hc : wr.cell? ⟨g, o + k, none⟩ = some (.int .i64 s[k]) ∧ g < wr.heap.size := by
          rcases HO1.out with ⟨rfl, _⟩ | ⟨g', o', cap', he, h4, hg, hc⟩
          · simp at hkl
          · simp only [Value.slice.injEq, Option.some.injEq, Addr.mk.injEq] at he
            obtain ⟨⟨rfl, rfl, _⟩, _, rfl⟩ := he
            exact ⟨(HG.out.cell (p := ⟨g, o + k, none⟩) hg).trans (hc k hkl), Nat.lt_of_lt_of_le hg HG.out.size⟩
        obtain ⟨hc, hgw2⟩ := hc
        have hxr := HRN.out s[k] (List.getElem_mem hkl)
        have h1 := HWs.out k hkl
        have h2 := HRs.out k hkl
        have hb := HRb.out k
        have hb1 := HRb.out (k + 1)
        have hq := HQb.out k
        have hq1 := HQb.out (k + 1)
        obtain ⟨y, ey⟩ : ∃ y, s[k] = y := ⟨_, rfl⟩
        rw [ey] at hc hxr h1 h2
        have hcall := fun W => HD.out y 4294967296 W hxr (by omega)
        obtain ⟨a1, ea1⟩ : ∃ a1, qSum 4294967296 (s.take k) = a1 := ⟨_, rfl⟩
        obtain ⟨b1, eb1⟩ : ∃ b1, rSum 4294967296 (s.take k) = b1 := ⟨_, rfl⟩
        obtain ⟨a2, ea2⟩ : ∃ a2, qSum 4294967296 (s.take (k + 1)) = a2 := ⟨_, rfl⟩
        obtain ⟨b2, eb2⟩ : ∃ b2, rSum 4294967296 (s.take (k + 1)) = b2 := ⟨_, rfl⟩
        rw [ea1, ea2] at h1
        rw [eb1, eb2] at h2
        rw [ea1] at hq
        rw [ea2] at hq1
        rw [eb1] at hb
        rw [eb2] at hb1
        rw [ea1, eb1]
        obtain ⟨q, eq⟩ : ∃ q, y / 4294967296 = q := ⟨_, rfl⟩
        have f1 : wrap64 (a1 + q) = a2 := by rw [← eq, h1]; unfold wrap64; omega
        have f2 : wrap64 (q * 4294967296) = q * 4294967296 := by unfold wrap64; omega
        have f4 : wrap64 (wrap64 (b1 + y) - q * 4294967296) = b2 := by rw [← h2, ← eq]; unfold wrap64; omega
        obtain ⟨z, ez⟩ : ∃ z, wrap64 (b1 + y) = z := ⟨_, rfl⟩
        rw [ez] at f4
        obtain ⟨p, ep⟩ : ∃ p, q * 4294967296 = p := ⟨_, rfl⟩
        rw [ep] at f2 f4
        rw [eq] at hcall
        have HC := Lib.hid hcall
        have EA2 := Lib.hid ea2
        have EB2 := Lib.hid eb2
        clear hcall ea1 eb1 ea2 eb2 eq hb hb1 h1 h2 ey hq hq1 hxr
        go_wp2_with (go_at_call 44; refine (HC.out _).mono ?_; rintro e w2 ⟨rfl, rfl⟩)
        refine wp_region_quiet_lit (by kernel_rfl) (by kernel_rfl) ?_
        repeat (first | go_big_quiet_step (fail) | quiet_step (fail))
        refine wpQuiet_nil ?_
        intro _ hcw1
        obtain ⟨nq, hcw2⟩ := hcw1
        subst hcw2
        go_wp2_with fail
        go_roundw
        case rel => exact ⟨k + 1, by go_num, by omega, grows_trans _ _ _ HG.out (bl_drewN (Below.refl _ _) _), by rw [EA2.out, f1], by rw [EB2.out, f4]⟩
        case measure => simp [intOf]; omega
      · obtain rfl : k = n := by omega
        obtain ⟨q1, P1, r1, r2, T, q2, q3, h1, h2, h3, h4, h5, h6, h7, h8, h9, h10⟩ := HE.out
        have hc1 := fun W => HD.out _ (k : Int) W h10 (by omega)
        have hc2 := fun W => HD.out T (k : Int) W h9 (by omega)
        rw [h1] at hc1
        rw [h6] at hc2
        obtain ⟨a1, ea1⟩ : ∃ a1, qSum 4294967296 (s.take k) = a1 := ⟨_, rfl⟩
        obtain ⟨b1, eb1⟩ : ∃ b1, rSum 4294967296 (s.take k) = b1 := ⟨_, rfl⟩
        rw [ea1] at h3 hc1
        rw [eb1] at h5
        rw [ea1, eb1]
        have HC1 := Lib.hid hc1
        have HC2 := Lib.hid hc2
        have H9 := Lib.hid h9
        clear ea1 eb1 hc1 hc2 h9 h10 h1 h6
        go_wp2_with (first | (go_at_call_of 44 a1; refine (HC1.out _).mono ?_; rintro e w2 ⟨rfl, rfl⟩) | (go_at_call_of 44 T; refine (HC2.out _).mono ?_; rintro e w2 ⟨rfl, rfl⟩))
        go_ret2
        rw [h8]
        exact ⟨rfl, grows_trans _ _ _ HG1.out HG.out⟩
end Go.Proofs.Ytihfcaconbcdjaa
