/- MndB: texts laid one behind the other. -/
import Derived.Test.YthdcmchjlpkkaaaDoorMndA
/- Quotients, rounded down, and what is left. -/
namespace Go.Proofs.YthdcmchjlpkkaaaDoor.Tr
open Go.RowKit Go.Sort
set_option maxHeartbeats 1000000
set_option maxRecDepth 100000

theorem tdiv_floor (x m : Int) (hm : 0 < m) : x.tdiv m = if x % m ≠ 0 ∧ x < 0 then x / m + 1 else x / m := by
  have h1 := Int.mul_ediv_add_emod x m
  have h2 := Int.emod_nonneg x (by omega : m ≠ 0)
  have h3 := Int.emod_lt_of_pos x hm
  by_cases hx : x < 0
  · rw [Int.tdiv_eq_ediv]
    by_cases h0 : x % m = 0
    · have : m ∣ x := Int.dvd_of_emod_eq_zero h0
      simp [this, h0]
    · have : ¬ m ∣ x := fun h => h0 (Int.emod_eq_zero_of_dvd h)
      simp [this, h0, hx, Int.sign_eq_one_of_pos hm, show ¬ 0 ≤ x by omega]
  · rw [if_neg (by omega), Int.tdiv_eq_ediv_of_nonneg (by omega)]
theorem tmod_floor (x m : Int) (hm : 0 < m) : x.tmod m = if x % m ≠ 0 ∧ x < 0 then x % m - m else x % m := by
  have h1 := Int.mul_ediv_add_emod x m
  have h2 := Int.mul_tdiv_add_tmod x m
  rw [tdiv_floor x m hm] at h2
  split at h2
  · rename_i h
    rw [if_pos h]
    rw [Int.mul_add, Int.mul_one] at h2
    omega
  · rename_i h
    rw [if_neg h]
    omega
theorem floor_rng (x m : Int) (hm : 0 < m) (hx : -9223372036854775808 ≤ x ∧ x ≤ 9223372036854775807) : -9223372036854775808 ≤ x / m ∧ x / m ≤ 9223372036854775807 := by
  constructor
  · rw [Int.le_ediv_iff_mul_le hm]
    have : -9223372036854775808 * m ≤ -9223372036854775808 * 1 := by omega
    omega
  · by_cases h : 0 ≤ x
    · exact Int.le_trans (Int.ediv_le_self _ h) hx.2
    · have := Int.ediv_neg_of_neg_of_pos (a := x) (b := m) (by omega) hm
      omega
theorem parts_any (x m : Int) (w : World) (hx : -9223372036854775808 ≤ x ∧ x ≤ 9223372036854775807) (hm : 0 < m ∧ m ≤ 1000000) :
    Calls Tryd.prog 26 #[.int .i64 x, .int .i64 m] w (RetV w (.tuple #[.int .i64 (x / m), .int .i64 (x % m)])) := by
  have h0 := Int.emod_nonneg x (by omega : m ≠ 0)
  have h3 := Int.emod_lt_of_pos x hm.1
  have hfr := floor_rng x m hm.1 hx
  have e1 := tdiv_floor x m hm.1
  have e2 := tmod_floor x m hm.1
  obtain ⟨q, eq⟩ : ∃ q, x / m = q := ⟨_, rfl⟩
  obtain ⟨r, er⟩ : ∃ r, x % m = r := ⟨_, rfl⟩
  rw [er] at h0 h3 e1 e2
  rw [eq] at hfr e1
  rw [eq, er]
  have hmz : ¬ m = 0 := by omega
  by_cases hc : r ≠ 0 ∧ x < 0
  · rw [if_pos hc] at e1 e2
    have hq1 : q < 0 := by rw [← eq]; exact Int.ediv_neg_of_neg_of_pos hc.2 hm.1
    have w1 : wrap64 (q + 1) = q + 1 := by unfold wrap64; omega
    have w2 : wrap64 (r - m) = r - m := by unfold wrap64; omega
    clear eq er
    obtain ⟨q1, eq1⟩ : ∃ q1, q + 1 = q1 := ⟨_, rfl⟩
    obtain ⟨r1, er1⟩ : ∃ r1, r - m = r1 := ⟨_, rfl⟩
    rw [eq1] at e1 w1
    rw [er1] at e2 w2
    have hr1 : r1 < 0 := by omega
    have w3 : wrap64 (q1 - 1) = q := by unfold wrap64; omega
    have w4 : wrap64 (r1 + m) = r := by unfold wrap64; omega
    go_enter Tryd.func26, Tryd.ntmps26
    go_wp2_with fail
    refine wp_region_quiet_lit (by kernel_rfl) (by kernel_rfl) ?_
    repeat (first | go_big_quiet_step (fail) | quiet_step (fail))
    refine wpQuiet_nil ?_
    intro _ hcw1
    obtain ⟨nq, hcw2⟩ := hcw1
    subst hcw2
    go_wp2_with fail
    go_ret2
    rw [show q1 - 1 = q by omega, show r1 + m = r by omega]
    exact ⟨rfl, by (repeat (first | with_reducible exact Below.refl _ _ | with_reducible refine bl_alloc ?_ _ | ((with_reducible refine bl_set ?_ ?_ _); rotate_left; (first | exact Nat.le_refl _ | exact Nat.le_succ_of_le (Nat.le_refl _) | (simp only []; omega))) | with_reducible refine bl_drewN ?_ _ | with_reducible refine bl_drew ?_ | with_reducible refine bl_reg ?_ _))⟩
  · rw [if_neg hc] at e1 e2
    clear eq er
    have hr1 : ¬ r < 0 := by omega
    go_enter Tryd.func26, Tryd.ntmps26
    go_wp2_with fail
    refine wp_region_quiet_lit (by kernel_rfl) (by kernel_rfl) ?_
    repeat (first | go_big_quiet_step (fail) | quiet_step (fail))
    refine wpQuiet_nil ?_
    intro _ hcw1
    obtain ⟨nq, hcw2⟩ := hcw1
    subst hcw2
    go_wp2_with fail
    go_ret2
    exact ⟨rfl, by (repeat (first | with_reducible exact Below.refl _ _ | with_reducible refine bl_alloc ?_ _ | ((with_reducible refine bl_set ?_ ?_ _); rotate_left; (first | exact Nat.le_refl _ | exact Nat.le_succ_of_le (Nat.le_refl _) | (simp only []; omega))) | with_reducible refine bl_drewN ?_ _ | with_reducible refine bl_drew ?_ | with_reducible refine bl_reg ?_ _))⟩
end Go.Proofs.YthdcmchjlpkkaaaDoor.Tr
/- The middle: the program's. -/
namespace Go.Proofs.YthdcmchjlpkkaaaDoor.Tr
open Go.RowKit Go.Sort
set_option maxHeartbeats 1000000
set_option maxRecDepth 100000

def midI (s : List Int) : Int := s.sum / (s.length : Int)
def qSum (m : Int) (s : List Int) : Int := (s.map fun x => x / m).sum
def rSum (m : Int) (s : List Int) : Int := (s.map fun x => x % m).sum
theorem qSum_succ (m : Int) (s : List Int) (k : Nat) (h : k < s.length) : qSum m (s.take (k + 1)) = qSum m (s.take k) + s[k] / m := by
  unfold qSum; rw [List.take_succ_eq_append_getElem h]; simp only [List.map_append, List.sum_append, List.map_cons, List.map_nil, List.sum_cons, List.sum_nil]; omega
theorem rSum_succ (m : Int) (s : List Int) (k : Nat) (h : k < s.length) : rSum m (s.take (k + 1)) = rSum m (s.take k) + s[k] % m := by
  unfold rSum; rw [List.take_succ_eq_append_getElem h]; simp only [List.map_append, List.sum_append, List.map_cons, List.map_nil, List.sum_cons, List.sum_nil]; omega
theorem sum_qr (m : Int) (s : List Int) : s.sum = m * qSum m s + rSum m s := by
  unfold qSum rSum
  induction s with
  | nil => simp
  | cons a s ih =>
    have := Int.mul_ediv_add_emod a m
    simp only [List.sum_cons, List.map_cons, Int.mul_add]
    omega
theorem rSum_rng (m : Int) (hm : 0 < m) (s : List Int) : 0 ≤ rSum m s ∧ rSum m s ≤ s.length * m := by
  unfold rSum
  induction s with
  | nil => simp
  | cons a s ih =>
    have h1 := Int.emod_nonneg a (by omega : m ≠ 0)
    have h2 := Int.emod_lt_of_pos a hm
    have h3 : ((a :: s).length : Int) * m = s.length * m + m := by rw [List.length_cons, Int.natCast_add, Int.add_mul]; simp
    rw [List.map_cons, List.sum_cons, h3]
    omega
theorem mid_eq (s : List Int) (h : 0 < s.length) : midI s = qSum s.length s + rSum s.length s / (s.length : Int) := by
  unfold midI
  rw [sum_qr (s.length : Int) s, Int.add_comm, Int.add_mul_ediv_left _ _ (by omega), Int.add_comm]
theorem sum_rng (a b : Int) (s : List Int) (h : ∀ x ∈ s, a ≤ x ∧ x ≤ b) : a * s.length ≤ s.sum ∧ s.sum ≤ b * s.length := by
  induction s with
  | nil => simp
  | cons x s ih =>
    have h1 := h x (by simp)
    have h2 := ih (fun y hy => h y (by simp [hy]))
    have h3 : a * ((x :: s).length : Int) = a * s.length + a := by rw [List.length_cons, Int.natCast_add, Int.mul_add]; simp
    have h4 : b * ((x :: s).length : Int) = b * s.length + b := by rw [List.length_cons, Int.natCast_add, Int.mul_add]; simp
    rw [List.sum_cons, h3, h4]
    omega
theorem mid_rng (a b : Int) (s : List Int) (h0 : 0 < s.length) (h : ∀ x ∈ s, a ≤ x ∧ x ≤ b) : a ≤ midI s ∧ midI s ≤ b := by
  obtain ⟨h1, h2⟩ := sum_rng a b s h
  unfold midI
  constructor
  · rw [Int.le_ediv_iff_mul_le (by omega)]; exact h1
  · have : s.sum / (s.length : Int) ≤ b * s.length / s.length := Int.ediv_le_ediv (by omega) h2
    rwa [Int.mul_ediv_cancel _ (by omega)] at this
theorem sortI_rng (l : List Int) (h : Rng l) : Rng (sortI l) := fun x hx => h x ((sortI_perm l).mem_iff.1 hx)
theorem trimI_mem (f : Int) (l : List Int) (x : Int) (h : x ∈ trimI f l) : x ∈ l := (sortI_perm l).mem_iff.1 (List.mem_of_mem_drop (List.mem_of_mem_take h))
theorem trimI_rng (f : Int) (l : List Int) (h : Rng l) : Rng (trimI f l) := fun x hx => h x (trimI_mem f l x hx)
theorem trimI_pos (f : Int) (l : List Int) (h : 0 < l.length) : 0 < (trimI f l).length := by
  rw [trimI_length]
  have := cutN_lt f l.length h
  omega

theorem middle_any (f : Int) (v : Value) (l : List Int) (w : World) (h : IHas w v l) (hm : l.length ≤ 1000) (hr : Rng l) (hf : -9223372036854775808 ≤ f ∧ f ≤ 9223372036854775807) :
    Calls Tryd.prog 20 #[.int .i64 f, v] w (RetV w (.tuple #[.int .i64 (midI (trimI f l)), .bool (decide (0 < l.length))])) := by
  have ht := trim_any f v l w h hm hf
  have HT := Lib.hid ht
  have htl := trimI_length f l
  have hpos := trimI_pos f l
  obtain ⟨s, es⟩ : ∃ s, trimI f l = s := ⟨_, rfl⟩
  have hrs : Rng s := es ▸ trimI_rng f l hr
  have h0s : l = [] → s = [] := fun e => by rw [← es, e, trimI_nil]
  rw [es] at HT hpos htl ⊢
  obtain ⟨n, en⟩ : ∃ n, s.length = n := ⟨_, rfl⟩
  rw [en] at hpos htl
  have hn : n ≤ 1000 := by omega
  have hpt := fun x m W hx hm => parts_any x m W hx hm
  have HP := Lib.hid hpt
  clear ht hpt
  by_cases h0 : l = []
  · obtain rfl := h0s h0
    subst h0
    have hn0 : n = 0 := by rw [← en]; rfl
    subst hn0
    clear hpos htl h hr hrs h0s HP
    have e0 : midI [] = 0 := rfl
    rw [e0]
    go_enter Tryd.func20, Tryd.ntmps20
    go_wp2_with (go_at_call 25; refine HT.out.mono ?_; rintro e w1 ⟨v1, rfl, hG1, hO1⟩; have HG1 := Lib.hid hG1; obtain ⟨p, cap, rfl⟩ := hO1.nil_form rfl; clear hO1 hG1)
    go_ret2
    exact ⟨rfl, HG1.out⟩
  · have hl0 : 0 < l.length := List.length_pos_iff.2 h0
    have hp : 0 < n := hpos hl0
    have hdec : decide (0 < l.length) = true := by simp [hl0]
    rw [hdec]
    have hmid := mid_eq s (by omega)
    have hmr := mid_rng _ _ s (by omega) hrs
    have hrr := rSum_rng (n : Int) (by omega)
    rw [en] at hmid
    have hW0 : (0 : Int) = wrap64 (qSum n (s.take 0)) := by simp [qSum, wrap64]
    have hR0 : (0 : Int) = rSum n (s.take 0) := by simp [rSum]
    have hWs : ∀ k, (hk : k < s.length) → wrap64 (wrap64 (qSum n (s.take k)) + s[k] / (n : Int)) = wrap64 (qSum n (s.take (k + 1))) := fun k hk => by
      rw [qSum_succ _ _ k hk]; unfold wrap64; omega
    have hRs : ∀ k, (hk : k < s.length) → rSum n (s.take k) + s[k] % (n : Int) = rSum n (s.take (k + 1)) := fun k hk => (rSum_succ _ _ k hk).symm
    have hRb : ∀ k, 0 ≤ rSum n (s.take k) ∧ rSum n (s.take k) ≤ 1000000 := fun k => by
      have h1 := rSum_rng (n : Int) (by omega) (s.take k)
      have h2 : ((s.take k).length : Int) * (n : Int) ≤ 1000 * 1000 := by
        have : (s.take k).length ≤ 1000 := by rw [List.length_take]; omega
        exact Int.mul_le_mul (by omega) (by omega) (by omega) (by omega)
      omega
    have hend : wrap64 (wrap64 (qSum n (s.take n)) + (rSum n (s.take n)).tdiv n) = midI s := by
      rw [Int.tdiv_eq_ediv_of_nonneg (hRb n).1, ← en, List.take_length]
      rw [← en] at hmid
      rw [hmid] at hmr ⊢
      unfold wrap64
      omega
    have hquo : wrap64 ((rSum n (s.take n)).tdiv n) = (rSum n (s.take n)).tdiv n := by
      have h1 := hRb n
      rw [Int.tdiv_eq_ediv_of_nonneg h1.1]
      have h2 : rSum n (s.take n) / (n : Int) ≤ rSum n (s.take n) := Int.ediv_le_self _ h1.1
      have h3 : 0 ≤ rSum n (s.take n) / (n : Int) := Int.ediv_nonneg h1.1 (by omega)
      unfold wrap64
      omega
    obtain ⟨M, eM⟩ : ∃ M, midI s = M := ⟨_, rfl⟩
    rw [eM] at hend ⊢
    have hbz : ((n : Int) == 0) = false := by simp; omega
    have HW0 := Lib.hid hW0
    have HR0 := Lib.hid hR0
    have HWs := Lib.hid hWs
    have HRs := Lib.hid hRs
    have HRb := Lib.hid hRb
    have HE := Lib.hid hend
    have HQ := Lib.hid hquo
    have HRN := Lib.hid hrs
    have EN := Lib.hid en
    clear hW0 hR0 hWs hRs hRb hend hquo hmid hmr hrr eM h hr hrs h0s hpos htl hdec es en
    go_enter Tryd.func20, Tryd.ntmps20
    go_wp2_with (go_at_call 25; refine HT.out.mono ?_; rintro e w1 ⟨v1, rfl, hG1, hO1⟩; have HG1 := Lib.hid hG1; have HO1 := Lib.hid hO1; obtain ⟨g, o, cap, rfl, hcap, hgw⟩ := hO1.form EN.out hp; clear hO1 hG1)
    go_loopw [8, 9, 23] (fun vq vr vi wr => ∃ k : Nat, vi = .int .i64 (k : Int) ∧ k ≤ n ∧ Grows w1 wr ∧ vq = .int .i64 (wrap64 (qSum n (s.take k))) ∧ vr = .int .i64 (rSum n (s.take k))) (fun _ _ vi _ => n - (intOf vi).toNat)
    case atStart => exact ⟨0, rfl, by omega, Below.refl _ _, by rw [← HW0.out], by rw [← HR0.out]⟩
    case round =>
      obtain ⟨k, rfl, hk, hgr, rfl, rfl⟩ := hrel
      have HG := Lib.hid hgr
      clear hgr
      by_cases hlt : k < n
      · have hkl : k < s.length := by rw [EN.out]; exact hlt
        have hc : wr.cell? ⟨g, o + k, none⟩ = some (.int .i64 s[k]) ∧ g < wr.heap.size := by
          rcases HO1.out with ⟨rfl, _⟩ | ⟨g', o', cap', he, h4, hg, hc⟩
          · simp at hkl
          · simp only [Value.slice.injEq, Option.some.injEq, Addr.mk.injEq] at he
            obtain ⟨⟨rfl, rfl, _⟩, _, rfl⟩ := he
            exact ⟨(HG.out.cell (p := ⟨g, o + k, none⟩) hg).trans (hc k hkl), Nat.lt_of_lt_of_le hg HG.out.size⟩
        obtain ⟨hc, hgw2⟩ := hc
        have hxr := HRN.out s[k] (List.getElem_mem hkl)
        have h1 := HWs.out k hkl
        have h2 := HRs.out k hkl
        have hb := HRb.out k
        have hb1 := HRb.out (k + 1)
        have h3 : wrap64 (rSum n (s.take k) + s[k] % (n : Int)) = rSum n (s.take (k + 1)) := by rw [h2]; unfold wrap64; omega
        obtain ⟨y, ey⟩ : ∃ y, s[k] = y := ⟨_, rfl⟩
        rw [ey] at hc hxr h1 h3
        have hcall := fun W => HP.out y (n : Int) W hxr (by omega)
        obtain ⟨a1, ea1⟩ : ∃ a1, wrap64 (qSum n (s.take k)) = a1 := ⟨_, rfl⟩
        obtain ⟨b1, eb1⟩ : ∃ b1, rSum n (s.take k) = b1 := ⟨_, rfl⟩
        obtain ⟨a2, ea2⟩ : ∃ a2, wrap64 (qSum n (s.take (k + 1))) = a2 := ⟨_, rfl⟩
        obtain ⟨b2, eb2⟩ : ∃ b2, rSum n (s.take (k + 1)) = b2 := ⟨_, rfl⟩
        obtain ⟨q, eq⟩ : ∃ q, y / (n : Int) = q := ⟨_, rfl⟩
        obtain ⟨r, er⟩ : ∃ r, y % (n : Int) = r := ⟨_, rfl⟩
        rw [eq, er] at hcall
        rw [ea1, ea2, eq] at h1
        rw [eb1, eb2, er] at h3
        rw [ea1, eb1]
        have HC := Lib.hid hcall
        have EA2 := Lib.hid ea2
        have EB2 := Lib.hid eb2
        clear hcall ea1 eb1 ea2 eb2 eq er hb hb1 h2 ey
        go_wp2_with (go_at_call 26; refine (HC.out _).mono ?_; rintro e w2 ⟨rfl, hg2⟩; have HG2 := Lib.hid hg2; clear hg2)
        go_roundw
        case rel => exact ⟨k + 1, by go_num, by omega, grows_trans _ _ _ HG.out HG2.out, by rw [EA2.out, h1], by rw [EB2.out, h3]⟩
        case measure => simp [intOf]; omega
      · obtain rfl : k = n := by omega
        have h1 := HE.out
        have h2 := HQ.out
        obtain ⟨a1, ea1⟩ : ∃ a1, wrap64 (qSum k (s.take k)) = a1 := ⟨_, rfl⟩
        obtain ⟨b1, eb1⟩ : ∃ b1, rSum k (s.take k) = b1 := ⟨_, rfl⟩
        rw [ea1, eb1] at h1
        rw [eb1] at h2
        rw [ea1, eb1]
        have hkz : ¬ (k : Int) = 0 := by omega
        clear ea1 eb1
        go_wp2_with fail
        go_ret2
        rw [h1]
        exact ⟨rfl, grows_trans _ _ _ HG1.out HG.out⟩
end Go.Proofs.YthdcmchjlpkkaaaDoor.Tr
/- If no reading is changed by more than so much, the middle is not either (plain). -/
namespace Go.Proofs.YthdcmchjlpkkaaaDoor.Tr
set_option maxRecDepth 100000

/-- Place by place, no number is above the other by more than d. -/
def LeD (d : Int) : List Int → List Int → Prop
  | [], [] => True
  | a :: l, b :: m => a ≤ b + d ∧ LeD d l m
  | _, _ => False
theorem LeD.len {d : Int} : ∀ {l m : List Int}, LeD d l m → l.length = m.length
  | [], [], _ => rfl
  | _ :: _, _ :: _, h => by simp [LeD.len h.2]
  | [], _ :: _, h => h.elim
  | _ :: _, [], h => h.elim
theorem LeD.snoc {d : Int} {x y : Int} (hxy : x ≤ y + d) : ∀ {l m : List Int}, LeD d l m → LeD d (l ++ [x]) (m ++ [y])
  | [], [], _ => ⟨hxy, trivial⟩
  | _ :: _, _ :: _, h => ⟨h.1, LeD.snoc hxy h.2⟩
  | [], _ :: _, h => h.elim
  | _ :: _, [], h => h.elim
theorem LeD.mono {d e : Int} (hde : d ≤ e) : ∀ {l m : List Int}, LeD d l m → LeD e l m
  | [], [], _ => trivial
  | _ :: _, _ :: _, h => ⟨by have := h.1; omega, LeD.mono hde h.2⟩
  | [], _ :: _, h => h.elim
  | _ :: _, [], h => h.elim
theorem LeD.drop {d : Int} : ∀ (k : Nat) {l m : List Int}, LeD d l m → LeD d (l.drop k) (m.drop k)
  | 0, _, _, h => h
  | _ + 1, [], [], _ => trivial
  | k + 1, _ :: _, _ :: _, h => LeD.drop k h.2
  | _ + 1, [], _ :: _, h => h.elim
  | _ + 1, _ :: _, [], h => h.elim
theorem LeD.take {d : Int} : ∀ (k : Nat) {l m : List Int}, LeD d l m → LeD d (l.take k) (m.take k)
  | 0, _, _, _ => trivial
  | _ + 1, [], [], _ => trivial
  | k + 1, _ :: _, _ :: _, h => ⟨h.1, LeD.take k h.2⟩
  | _ + 1, [], _ :: _, h => h.elim
  | _ + 1, _ :: _, [], h => h.elim
theorem LeD.sum {d : Int} : ∀ {l m : List Int}, LeD d l m → l.sum ≤ m.sum + d * m.length
  | [], [], _ => by simp
  | a :: l, b :: m, h => by
    have h1 := h.1
    have h2 := LeD.sum h.2
    have h3 : d * ((b :: m).length : Int) = d * m.length + d := by rw [List.length_cons, Int.natCast_add, Int.mul_add]; simp
    rw [List.sum_cons, List.sum_cons, h3]
    omega
  | [], _ :: _, h => h.elim
  | _ :: _, [], h => h.elim
theorem ins_head (l : List Int) (x : Int) (h : ∀ y ∈ l, x ≤ y) : ins l x = x :: l := by
  induction l with
  | nil => rfl
  | cons a l ih =>
    unfold ins
    split
    · rfl
    · have h1 := h a (by simp)
      obtain rfl : x = a := by omega
      rw [ih (fun y hy => h y (by simp [hy]))]
theorem LeD.ins {d : Int} : ∀ {l m : List Int} {x y : Int}, l.Pairwise (· ≤ ·) → m.Pairwise (· ≤ ·) → LeD d l m → x ≤ y + d → LeD d (ins l x) (ins m y)
  | [], [], _, _, _, _, _, hxy => ⟨hxy, trivial⟩
  | [], _ :: _, _, _, _, _, h, _ => h.elim
  | _ :: _, [], _, _, _, _, h, _ => h.elim
  | a :: l, b :: m, x, y, hl, hm, h, hxy => by
    rw [List.pairwise_cons] at hl hm
    have hab := h.1
    have hlm := h.2
    by_cases h1 : x < a
    · by_cases h2 : y < b
      · have e1 : Go.Proofs.YthdcmchjlpkkaaaDoor.Tr.ins (a :: l) x = x :: a :: l := by rw [Go.Proofs.YthdcmchjlpkkaaaDoor.Tr.ins, if_pos h1]
        have e2 : Go.Proofs.YthdcmchjlpkkaaaDoor.Tr.ins (b :: m) y = y :: b :: m := by rw [Go.Proofs.YthdcmchjlpkkaaaDoor.Tr.ins, if_pos h2]
        rw [e1, e2]
        exact ⟨hxy, hab, hlm⟩
      · have e1 : Go.Proofs.YthdcmchjlpkkaaaDoor.Tr.ins (a :: l) x = x :: a :: l := by rw [Go.Proofs.YthdcmchjlpkkaaaDoor.Tr.ins, if_pos h1]
        have e2 : Go.Proofs.YthdcmchjlpkkaaaDoor.Tr.ins (b :: m) y = b :: Go.Proofs.YthdcmchjlpkkaaaDoor.Tr.ins m y := by rw [Go.Proofs.YthdcmchjlpkkaaaDoor.Tr.ins, if_neg h2]
        rw [e1, e2, ← ins_head l a hl.1]
        exact ⟨by omega, LeD.ins hl.2 hm.2 hlm (by omega)⟩
    · by_cases h2 : y < b
      · have e1 : Go.Proofs.YthdcmchjlpkkaaaDoor.Tr.ins (a :: l) x = a :: Go.Proofs.YthdcmchjlpkkaaaDoor.Tr.ins l x := by rw [Go.Proofs.YthdcmchjlpkkaaaDoor.Tr.ins, if_neg h1]
        have e2 : Go.Proofs.YthdcmchjlpkkaaaDoor.Tr.ins (b :: m) y = y :: b :: m := by rw [Go.Proofs.YthdcmchjlpkkaaaDoor.Tr.ins, if_pos h2]
        rw [e1, e2, ← ins_head m b hm.1]
        exact ⟨by omega, LeD.ins hl.2 hm.2 hlm (by omega)⟩
      · have e1 : Go.Proofs.YthdcmchjlpkkaaaDoor.Tr.ins (a :: l) x = a :: Go.Proofs.YthdcmchjlpkkaaaDoor.Tr.ins l x := by rw [Go.Proofs.YthdcmchjlpkkaaaDoor.Tr.ins, if_neg h1]
        have e2 : Go.Proofs.YthdcmchjlpkkaaaDoor.Tr.ins (b :: m) y = b :: Go.Proofs.YthdcmchjlpkkaaaDoor.Tr.ins m y := by rw [Go.Proofs.YthdcmchjlpkkaaaDoor.Tr.ins, if_neg h2]
        rw [e1, e2]
        exact ⟨hab, LeD.ins hl.2 hm.2 hlm hxy⟩
theorem LeD.fold {d : Int} : ∀ {l m : List Int} (s t : List Int), s.Pairwise (· ≤ ·) → t.Pairwise (· ≤ ·) → LeD d s t → LeD d l m → LeD d (l.foldl Go.Proofs.YthdcmchjlpkkaaaDoor.Tr.ins s) (m.foldl Go.Proofs.YthdcmchjlpkkaaaDoor.Tr.ins t)
  | [], [], _, _, _, _, h, _ => h
  | [], _ :: _, _, _, _, _, _, h => h.elim
  | _ :: _, [], _, _, _, _, _, h => h.elim
  | x :: l, y :: m, s, t, hs, ht, h, hlm => LeD.fold (l := l) (m := m) (Go.Proofs.YthdcmchjlpkkaaaDoor.Tr.ins s x) (Go.Proofs.YthdcmchjlpkkaaaDoor.Tr.ins t y) (ins_sorted s x hs) (ins_sorted t y ht) (LeD.ins hs ht h hlm.1) hlm.2
theorem LeD.sorted {d : Int} {l m : List Int} (h : LeD d l m) : LeD d (sortI l) (sortI m) := by
  rw [← insAll_eq, ← insAll_eq]
  exact LeD.fold [] [] List.Pairwise.nil List.Pairwise.nil trivial h
theorem near_plain (d f : Int) (l m : List Int) (h : LeD d l m) (h0 : 0 < l.length) : midI (trimI f l) ≤ midI (trimI f m) + d := by
  have hlen := h.len
  have ht : LeD d (trimI f l) (trimI f m) := by
    unfold trimI
    rw [hlen]
    exact (h.sorted.drop _).take _
  have hs := ht.sum
  have hl2 := ht.len
  have hp := trimI_pos f l h0
  unfold midI
  rw [hl2]
  rw [hl2] at hp
  have : (trimI f l).sum / ((trimI f m).length : Int) ≤ ((trimI f m).sum + d * (trimI f m).length) / ((trimI f m).length : Int) := Int.ediv_le_ediv (by omega) hs
  rwa [Int.add_mul_ediv_right _ _ (by omega)] at this
end Go.Proofs.YthdcmchjlpkkaaaDoor.Tr
