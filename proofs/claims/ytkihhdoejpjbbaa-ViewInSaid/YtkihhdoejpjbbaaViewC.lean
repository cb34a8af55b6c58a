/- Views: the walks of List, Came and Went. -/
import Derived.Test.YtkihhdoejpjbbaaViewB
import Derived.Test.YtkihhdoejpjbbaaRows2
import Derived.Test.YtkihhdoejpjbbaaHas
import Derived.Lib.LazyBuf
namespace Go.Proofs.Ytkihhdoejpjbbaa
open Go.RowKit Go.Sort
set_option maxHeartbeats 1000000
set_option maxRecDepth 100000

theorem clone_any (w : World) {base : Nat} {v : Value} {l : List VW} (h : VOwn w base v l) (hm : l.length ≤ 1000000) :
    Calls Try.prog 50 #[v] w (fun e w' => ∃ v', e = .returned v' ∧ Grows w w' ∧ VOwn w' w.heap.size v' l) := by
  obtain ⟨i0, hi, hz0, hz1, hz2⟩ := info_parts Try.infoView
  rcases own_rows (f := vv) (k := 3) (fun _ => rfl) rfl h with ⟨rfl, rfl⟩ | ⟨g, cap, rfl, hcap, -, hg, hat⟩
  · have he := run_eql_slice_nil (P := Try.prog) w 22 29 none 0 0 Try.underlying22
    go_enter Try.func50, Try.ntmps50
    go_wp2
    go_ret
    exact ⟨_, rfl, Below.refl _ _, World.ownsRow_nil _ _ _ _⟩
  · obtain ⟨n, en⟩ : ∃ n, l.length = n := ⟨_, rfl⟩
    rw [en] at hm ⊢
    have HAT := Lib.hid hat
    have EN := Lib.hid en
    have he := run_eql_slice_nil (P := Try.prog) w 22 29 (some ⟨g, 0, none⟩) n cap Try.underlying22
    clear hat h
    go_enter Try.func50, Try.ntmps50
    go_wp2_with (first | (at_builtin; refine wpList_append_own _ rfl _ _ 22 rfl w.heap.size 29 i0 _ 3 24 Try.underlying22 hi hz0 hz1 hz2 rfl (by decide) _ 0 [] rfl ?c0 ⟨g, 0, none⟩ n cap (vvs l) rfl ?c1 ?c2 ?c3 ?c4 ?c5 ?c6 ?_))
    case c0 => exact World.ownsRow_lit w #[] 0 (Nat.le_refl _) (by decide) rfl
    case c1 => rw [vvs_length, EN.out]; omega
    case c2 =>
      intro j u hu
      have hj : j < l.length * 3 := by
        have := (List.getElem?_eq_some_iff.1 hu).1
        rw [vvs_length] at this; omega
      have h1 := HAT.out (j / 3) (by omega) (j % 3) (by omega)
      have h2 := rows_get (f := vv) (k := 3) (fun _ => rfl) l (j / 3) (by omega) (j % 3) (by omega)
      rw [show j / 3 * 3 + j % 3 = j by omega] at h2
      rw [show 0 + j / 3 * 3 + j % 3 = 0 + j by omega, ← h2] at h1
      rw [addr_add, ← hu]
      exact ((bl_alloc (Below.refl _ _) _ : Below w.heap.size w _).cell (p := ⟨g, 0 + j, none⟩) hg).trans h1
    case c3 => exact vvs_one l
    case c4 => unfold maxLen; omega
    case c5 => omega
    case c6 => simp
    intro v' w1 hown hgrow _
    have hg2 : Grows w w1 := grows_of_grownBy (bl_alloc (Below.refl _ _) _) hgrow (by rintro k hk; cases hk; exact Nat.le_refl _)
    have ho : VOwn w1 w.heap.size v' l := by
      show World.ownsRow _ _ _ _ _ _ _
      rw [EN.out]
      simpa using hown
    have HO := Lib.hid ho
    clear hown hgrow ho
    go_wp2_with fail
    go_ret
    exact ⟨v', rfl, hg2, HO.out⟩

theorem list_nil (w : World) : Calls Try.prog 17 #[.pointer none] w (fun e w' => e = .returned (.slice none 0 0) ∧ w = w') := by
  go_enter Try.func17, Try.ntmps17
  go_wp2
  go_ret
  exact ⟨rfl, rfl⟩
theorem list_any (w : World) {base b : Nat} {v : Value} {l : List VW} (h : ViewsAt w base b v l) (hm : l.length ≤ 1000000) :
    Calls Try.prog 17 #[.pointer (some ⟨b, 0, none⟩)] w (fun e w' => ∃ v', e = .returned v' ∧ Grows w w' ∧ VOwn w' w.heap.size v' l) := by
  have c0 := h.c0
  have ho := h.own
  have HC := Lib.hid (clone_any w ho hm)
  clear ho
  go_enter Try.func17, Try.ntmps17
  go_wp2_with (go_at_call 50; refine (HC.out).mono ?_; rintro e w' ⟨v', rfl, hg, hv⟩)
  go_ret
  exact ⟨_, rfl, hg, hv⟩

/-- The last two sets. -/
def nowS (l : List VW) : Nat := (lastV l).set
def oldS (l : List VW) : Nat := if 2 ≤ l.length then (l.getD (l.length - 2) ⟨0, 0, 0⟩).set else 0
theorem pair_nil (w : World) : Calls Try.prog 52 #[.pointer none] w (RetV w (.tuple #[.int .u64 0, .int .u64 0])) := by
  have HC := Lib.hid (last_nil w)
  go_enter Try.func52, Try.ntmps52
  go_wp2_with fail
  refine (HC.out).mono ?_
  rintro e w1 ⟨rfl, hb⟩
  obtain ⟨p, rfl⟩ := regr hb
  clear hb
  go_wp2_with fail
  go_ret2
  exact ⟨rfl, by (repeat (first | with_reducible exact Below.refl _ _ | with_reducible refine bl_alloc ?_ _ | ((with_reducible refine bl_set ?_ ?_ _); rotate_left; (first | exact Nat.le_refl _ | exact Nat.le_succ_of_le (Nat.le_refl _) | (simp only []; omega))) | with_reducible refine bl_drewN ?_ _ | with_reducible refine bl_drew ?_ | with_reducible refine bl_reg ?_ _))⟩
theorem pair_any (w : World) {base b : Nat} {v : Value} {l : List VW} (h : ViewsAt w base b v l) (hm : l.length ≤ 1000000) :
    Calls Try.prog 52 #[.pointer (some ⟨b, 0, none⟩)] w (RetV w (.tuple #[.int .u64 (oldS l : Int), .int .u64 (nowS l : Int)])) := by
  have HC := Lib.hid (last_any w h hm)
  have hlt := block_lt_of_cell h.c0
  simp only at hlt
  have c0 := h.c0
  by_cases h0 : l = []
  · subst h0
    go_enter Try.func52, Try.ntmps52
    go_wp2_with fail
    refine (HC.out).mono ?_
    rintro e w1 ⟨rfl, hb⟩
    obtain ⟨p, rfl⟩ := regr hb
    clear hb
    go_wp2_with fail
    go_ret2
    exact ⟨rfl, by (repeat (first | with_reducible exact Below.refl _ _ | with_reducible refine bl_alloc ?_ _ | ((with_reducible refine bl_set ?_ ?_ _); rotate_left; (first | exact Nat.le_refl _ | exact Nat.le_succ_of_le (Nat.le_refl _) | (simp only []; omega))) | with_reducible refine bl_drewN ?_ _ | with_reducible refine bl_drew ?_ | with_reducible refine bl_reg ?_ _))⟩
  · rcases own_rows (f := vv) (k := 3) (fun _ => rfl) rfl h.own with ⟨h1, h2⟩ | ⟨g, cap, rfl, hcap, -, hg, hat⟩
    · exact absurd h1 h0
    have he : (!l.isEmpty) = true := by simp [h0]
    rw [he] at HC
    have hp : 0 < l.length := List.length_pos_iff.2 h0
    have hnow : (lastV l).set = nowS l := rfl
    by_cases h2 : 2 ≤ l.length
    · have hcell := hat (l.length - 2) (by omega) 2 (by omega)
      have hold : oldS l = l[l.length - 2].set := by
        unfold oldS
        rw [if_pos h2, List.getD_eq_getElem?_getD, List.getElem?_eq_getElem (by omega)]
        rfl
      have hcell2 : w.cell? ⟨g, 0 + (l.length - 2) * 3 + 2, none⟩ = some (.int .u64 (oldS l : Int)) := by rw [hcell, hold]; rfl
      obtain ⟨m, em⟩ : ∃ m, l.length = m + 2 := ⟨l.length - 2, by omega⟩
      rw [em] at c0 hcell2 hm
      simp only [Nat.zero_add, Nat.add_sub_cancel] at hcell2
      obtain ⟨y, ey⟩ : ∃ y, lastV l = y := ⟨_, rfl⟩
      rw [ey] at HC hnow
      rw [← hnow]
      obtain ⟨z, ez⟩ : ∃ z, oldS l = z := ⟨_, rfl⟩
      rw [ez] at hcell2 ⊢
      clear h hat he h0 hp em hnow ey h2 hcell hold ez
      have j1 : ((m : Int) + 2) - 2 = (m : Int) := by omega
      go_enter Try.func52, Try.ntmps52
      go_wp2_with fail
      refine (HC.out).mono ?_
      rintro e w1 ⟨rfl, hb⟩
      obtain ⟨p, rfl⟩ := regr hb
      clear hb
      go_wp2_with fail
      go_ret2
      exact ⟨rfl, by (repeat (first | with_reducible exact Below.refl _ _ | with_reducible refine bl_alloc ?_ _ | ((with_reducible refine bl_set ?_ ?_ _); rotate_left; (first | exact Nat.le_refl _ | exact Nat.le_succ_of_le (Nat.le_refl _) | (simp only []; omega))) | with_reducible refine bl_drewN ?_ _ | with_reducible refine bl_drew ?_ | with_reducible refine bl_reg ?_ _))⟩
    · have h1 : l.length = 1 := by omega
      have hold : oldS l = 0 := by unfold oldS; rw [if_neg h2]
      rw [hold]
      rw [h1] at c0
      obtain ⟨y, ey⟩ : ∃ y, lastV l = y := ⟨_, rfl⟩
      rw [ey] at HC hnow
      rw [← hnow]
      clear h hat he h0 hp hnow ey h2 hold h1
      go_enter Try.func52, Try.ntmps52
      go_wp2_with fail
      refine (HC.out).mono ?_
      rintro e w1 ⟨rfl, hb⟩
      obtain ⟨p, rfl⟩ := regr hb
      clear hb
      go_wp2_with fail
      go_ret2
      exact ⟨rfl, by (repeat (first | with_reducible exact Below.refl _ _ | with_reducible refine bl_alloc ?_ _ | ((with_reducible refine bl_set ?_ ?_ _); rotate_left; (first | exact Nat.le_refl _ | exact Nat.le_succ_of_le (Nat.le_refl _) | (simp only []; omega))) | with_reducible refine bl_drewN ?_ _ | with_reducible refine bl_drew ?_ | with_reducible refine bl_reg ?_ _))⟩

/-- Who came, who went last. -/
def cameN (l : List VW) : Nat := nowS l &&& (18446744073709551615 - oldS l)
def wentN (l : List VW) : Nat := oldS l &&& (18446744073709551615 - nowS l)
def AllOk (l : List VW) : Prop := ∀ x ∈ l, x.ok
theorem nowS_lt {l : List VW} (h : AllOk l) : nowS l < 18446744073709551616 := by
  unfold nowS lastV
  rw [List.getLastD_eq_getLast?]
  cases hl : l.getLast? with
  | none => decide
  | some x => exact (h x (List.mem_of_getLast? hl)).2.2
theorem oldS_lt {l : List VW} (h : AllOk l) : oldS l < 18446744073709551616 := by
  unfold oldS
  split
  · rw [List.getD_eq_getElem?_getD, List.getElem?_eq_getElem (by omega)]
    exact (h _ (List.getElem_mem _)).2.2
  · omega
theorem came_any (w : World) {base b : Nat} {v : Value} {l : List VW} (h : ViewsAt w base b v l) (hm : l.length ≤ 1000000) (hok : AllOk l) :
    Calls Try.prog 22 #[.pointer (some ⟨b, 0, none⟩)] w (RetV w (.int .u64 (cameN l : Int))) := by
  have HC := Lib.hid (pair_any w h hm)
  have hb := u64_andNot_nat (nowS l) (oldS l) (nowS_lt hok) (oldS_lt hok)
  have hb2 : ((nowS l &&& (18446744073709551615 - oldS l) : Nat) : Int) = (cameN l : Int) := rfl
  rw [hb2] at hb
  obtain ⟨q1, e1⟩ : ∃ q, nowS l = q := ⟨_, rfl⟩
  obtain ⟨q2, e2⟩ : ∃ q, oldS l = q := ⟨_, rfl⟩
  obtain ⟨q3, e3⟩ : ∃ q, cameN l = q := ⟨_, rfl⟩
  rw [e1, e2] at HC
  rw [e1, e2, e3] at hb
  rw [e3]
  clear e1 e2 e3 hb2 h
  go_enter Try.func22, Try.ntmps22
  go_wp2_with (go_at_call 52; refine (HC.out).mono ?_; rintro e w1 ⟨rfl, hbl⟩)
  go_ret
  exact ⟨rfl, hbl⟩
theorem went_any (w : World) {base b : Nat} {v : Value} {l : List VW} (h : ViewsAt w base b v l) (hm : l.length ≤ 1000000) (hok : AllOk l) :
    Calls Try.prog 24 #[.pointer (some ⟨b, 0, none⟩)] w (RetV w (.int .u64 (wentN l : Int))) := by
  have HC := Lib.hid (pair_any w h hm)
  have hb := u64_andNot_nat (oldS l) (nowS l) (oldS_lt hok) (nowS_lt hok)
  have hb2 : ((oldS l &&& (18446744073709551615 - nowS l) : Nat) : Int) = (wentN l : Int) := rfl
  rw [hb2] at hb
  obtain ⟨q1, e1⟩ : ∃ q, nowS l = q := ⟨_, rfl⟩
  obtain ⟨q2, e2⟩ : ∃ q, oldS l = q := ⟨_, rfl⟩
  obtain ⟨q3, e3⟩ : ∃ q, wentN l = q := ⟨_, rfl⟩
  rw [e1, e2] at HC
  rw [e1, e2, e3] at hb
  rw [e3]
  clear e1 e2 e3 hb2 h
  go_enter Try.func24, Try.ntmps24
  go_wp2_with (go_at_call 52; refine (HC.out).mono ?_; rintro e w1 ⟨rfl, hbl⟩)
  go_ret
  exact ⟨rfl, hbl⟩
theorem came_nil (w : World) : Calls Try.prog 22 #[.pointer none] w (RetV w (.int .u64 0)) := by
  have HC := Lib.hid (pair_nil w)
  have hb := u64_andNot_nat 0 0 (by omega) (by omega)
  go_enter Try.func22, Try.ntmps22
  go_wp2_with (go_at_call 52; refine (HC.out).mono ?_; rintro e w1 ⟨rfl, hbl⟩)
  go_ret
  exact ⟨rfl, hbl⟩
theorem went_nil (w : World) : Calls Try.prog 24 #[.pointer none] w (RetV w (.int .u64 0)) := by
  have HC := Lib.hid (pair_nil w)
  have hb := u64_andNot_nat 0 0 (by omega) (by omega)
  go_enter Try.func24, Try.ntmps24
  go_wp2_with (go_at_call 52; refine (HC.out).mono ?_; rintro e w1 ⟨rfl, hbl⟩)
  go_ret
  exact ⟨rfl, hbl⟩
end Go.Proofs.Ytkihhdoejpjbbaa
