/- Views in memory; the walks of New, Last, Install. -/
import Derived.Test.YtkihhdoejpjbbaaChg
namespace Go.Proofs.Ytkihhdoejpjbbaa
open Go.RowKit Go.Sort
set_option maxHeartbeats 1000000
set_option maxRecDepth 100000

/-- A view: its number, its time, who is in it. -/
structure VW where
  no : Int
  tm : Int
  set : Nat
deriving DecidableEq
def VW.ok (v : VW) : Prop := (-9223372036854775808 ≤ v.no ∧ v.no ≤ 9223372036854775807) ∧ (-9223372036854775808 ≤ v.tm ∧ v.tm ≤ 9223372036854775807) ∧ v.set < 18446744073709551616
abbrev VW.val (v : VW) : Value := .agg #[.int .i64 v.no, .int .i64 v.tm, .int .u64 (v.set : Int)]
def vv (v : VW) : List Value := [.int .i64 v.no, .int .i64 v.tm, .int .u64 (v.set : Int)]
def vvs (l : List VW) : List Value := l.flatMap vv
theorem vvs_length (l : List VW) : (vvs l).length = 3 * l.length := by
  induction l with
  | nil => rfl
  | cons a l ih => simp only [vvs, List.flatMap_cons, List.length_append, List.length_cons] at ih ⊢; rw [ih]; simp [vv]; omega
theorem vvs_get (l : List VW) : ∀ i, (h : i < l.length) → (vvs l)[i * 3]? = some (.int .i64 l[i].no) ∧ (vvs l)[i * 3 + 1]? = some (.int .i64 l[i].tm) ∧ (vvs l)[i * 3 + 2]? = some (.int .u64 (l[i].set : Int)) := by
  induction l with
  | nil => intro i h; simp at h
  | cons a l ih =>
    intro i h
    cases i with
    | zero => simp [vvs, vv]
    | succ i =>
      have := ih i (by simpa using h)
      have e : vvs (a :: l) = vv a ++ vvs l := rfl
      rw [e, show (i + 1) * 3 = i * 3 + 3 by omega]
      refine ⟨?_, ?_, ?_⟩
      · rw [List.getElem?_append_right (by simp [vv]), show i * 3 + 3 - (vv a).length = i * 3 by simp [vv]]; exact this.1
      · rw [List.getElem?_append_right (by simp [vv]), show i * 3 + 3 + 1 - (vv a).length = i * 3 + 1 by simp [vv]]; exact this.2.1
      · rw [List.getElem?_append_right (by simp [vv]), show i * 3 + 3 + 2 - (vv a).length = i * 3 + 2 by simp [vv]]; exact this.2.2
theorem vvs_snoc (l : List VW) (v : VW) : vvs l ++ vv v = vvs (l ++ [v]) := by simp [vvs]
theorem vvs_one (l : List VW) : ∀ u ∈ vvs l, u.oneCell' = true := by
  intro u hu
  simp only [vvs, List.mem_flatMap] at hu
  obtain ⟨v, _, hv⟩ := hu
  simp [vv] at hv
  rcases hv with rfl | rfl | rfl <;> rfl
/-- The cells of some views. -/
def VAt (w : World) (b o : Nat) (l : List VW) : Prop := ∀ i, (h : i < l.length) → w.cell? ⟨b, o + i * 3, none⟩ = some (.int .i64 l[i].no) ∧ w.cell? ⟨b, o + i * 3 + 1, none⟩ = some (.int .i64 l[i].tm) ∧ w.cell? ⟨b, o + i * 3 + 2, none⟩ = some (.int .u64 (l[i].set : Int))

theorem Try.infoView : (Try.prog.info? 29).map (fun i => (i.zero, i.size, i.bytes)) = some (some (.agg #[.int .i64 0, .int .i64 0, .int .u64 0]), 3, 24) := by kernel_rfl

abbrev VOwn (w : World) (base : Nat) (v : Value) (l : List VW) : Prop := w.ownsRow base 29 3 v l.length (vvs l)
theorem vown_slice {w : World} {base : Nat} {v : Value} {l : List VW} (h : VOwn w base v l) : (l = [] ∧ v = .slice none 0 0) ∨ ∃ g cap, v = .slice (some ⟨g, 0, none⟩) l.length cap ∧ base ≤ g ∧ g < w.heap.size ∧ VAt w g 0 l := by
  rcases h.2 with ⟨h1, h2⟩ | ⟨g, cap, cur, hv, hb, hg, _⟩
  · exact .inl ⟨List.eq_nil_of_length_eq_zero h2, h1⟩
  · refine .inr ⟨g, cap, hv, hb, (Array.getElem?_eq_some_iff.1 hg).1, fun i hi => ?_⟩
    subst hv
    obtain ⟨a1, a2, a3⟩ := vvs_get l i hi
    have c1 := h.cellAt (i * 3) (by omega)
    have c2 := h.cellAt (i * 3 + 1) (by omega)
    have c3 := h.cellAt (i * 3 + 2) (by omega)
    rw [a1] at c1
    rw [a2] at c2
    rw [a3] at c3
    simp only [Nat.zero_add]
    exact ⟨c1, c2, c3⟩

/-- Views lie at block b: those of l. -/
structure ViewsAt (w : World) (base b : Nat) (v : Value) (l : List VW) : Prop where
  c0 : w.cell? ⟨b, 0, none⟩ = some v
  fz : w.frozen? ⟨b, 0, none⟩ = false
  own : VOwn w base v l
  ne : v.ownBlock ≠ some b
  le : base ≤ b

theorem new_any (w : World) : Calls Try.prog 48 #[] w (fun e w' => e = .returned (.pointer (some ⟨w.heap.size, 0, none⟩)) ∧ Below w.heap.size w w' ∧ ViewsAt w' w.heap.size w.heap.size (.slice none 0 0) []) := by
  go_enter Try.func48, Try.ntmps48
  go_wp2
  go_ret
  refine ⟨rfl, by (repeat (first | with_reducible exact Below.refl _ _ | with_reducible refine bl_alloc ?_ _ | ((with_reducible refine bl_set ?_ ?_ _); rotate_left; (first | exact Nat.le_refl _ | exact Nat.le_succ_of_le (Nat.le_refl _) | (simp only []; omega))) | with_reducible refine bl_drewN ?_ _ | with_reducible refine bl_drew ?_ | with_reducible refine bl_reg ?_ _)), ?_, ?_, World.ownsRow_nil _ _ _ _, by simp [Value.ownBlock], Nat.le_refl _⟩
  · simp [go_sem]
  · simp [go_sem]

def lastV (l : List VW) : VW := l.getLastD ⟨0, 0, 0⟩
theorem last_nil (w : World) : Calls Try.prog 15 #[.pointer none] w (RetV w (.tuple #[(⟨0, 0, 0⟩ : VW).val, .bool false])) := by
  go_enter Try.func15, Try.ntmps15
  go_wp2
  exact bodyPost_ret (v := .tuple #[(⟨0, 0, 0⟩ : VW).val, .bool false]) (by simp [results, Try.results15, go_sem]) rfl ⟨rfl, by (repeat (first | with_reducible exact Below.refl _ _ | with_reducible refine bl_alloc ?_ _ | ((with_reducible refine bl_set ?_ ?_ _); rotate_left; (first | exact Nat.le_refl _ | exact Nat.le_succ_of_le (Nat.le_refl _) | (simp only []; omega))) | with_reducible refine bl_drewN ?_ _ | with_reducible refine bl_drew ?_ | with_reducible refine bl_reg ?_ _))⟩
theorem last_any (w : World) {base b : Nat} {v : Value} {l : List VW} (h : ViewsAt w base b v l) (hm : l.length ≤ 1000000) :
    Calls Try.prog 15 #[.pointer (some ⟨b, 0, none⟩)] w (RetV w (.tuple #[(lastV l).val, .bool (!l.isEmpty)])) := by
  have c0 := h.c0
  have hlt := block_lt_of_cell c0
  simp only at hlt
  rcases vown_slice h.own with ⟨rfl, rfl⟩ | ⟨g, cap, rfl, -, hg, hat⟩
  · go_enter Try.func15, Try.ntmps15
    go_wp2
    exact bodyPost_ret (v := .tuple #[(⟨0, 0, 0⟩ : VW).val, .bool false]) (by simp [results, Try.results15, go_sem]) rfl ⟨rfl, by (repeat (first | with_reducible exact Below.refl _ _ | with_reducible refine bl_alloc ?_ _ | ((with_reducible refine bl_set ?_ ?_ _); rotate_left; (first | exact Nat.le_refl _ | exact Nat.le_succ_of_le (Nat.le_refl _) | (simp only []; omega))) | with_reducible refine bl_drewN ?_ _ | with_reducible refine bl_drew ?_ | with_reducible refine bl_reg ?_ _))⟩
  · by_cases h0 : l = []
    · subst h0
      go_enter Try.func15, Try.ntmps15
      go_wp2
      exact bodyPost_ret (v := .tuple #[(⟨0, 0, 0⟩ : VW).val, .bool false]) (by simp [results, Try.results15, go_sem]) rfl ⟨rfl, by (repeat (first | with_reducible exact Below.refl _ _ | with_reducible refine bl_alloc ?_ _ | ((with_reducible refine bl_set ?_ ?_ _); rotate_left; (first | exact Nat.le_refl _ | exact Nat.le_succ_of_le (Nat.le_refl _) | (simp only []; omega))) | with_reducible refine bl_drewN ?_ _ | with_reducible refine bl_drew ?_ | with_reducible refine bl_reg ?_ _))⟩
    · have hp : 0 < l.length := List.length_pos_iff.2 h0
      obtain ⟨k1, k2, k3⟩ := hat (l.length - 1) (by omega)
      have hl : lastV l = l[l.length - 1] := by
        rw [lastV, List.getLastD_eq_getLast?, List.getLast?_eq_getElem?, List.getElem?_eq_getElem (by omega)]
        rfl
      have he : (!l.isEmpty) = true := by simp [h0]
      rw [he]
      rw [hl]
      obtain ⟨x, ex⟩ : ∃ x, l[l.length - 1] = x := ⟨_, rfl⟩
      rw [ex] at k1 k2 k3 ⊢
      obtain ⟨n, en⟩ : ∃ n, l.length = n := ⟨_, rfl⟩
      rw [en] at c0 k1 k2 k3 hp hm
      obtain ⟨m, em⟩ : ∃ m, n = m + 1 := ⟨n - 1, by omega⟩
      subst em
      simp only [Nat.zero_add, Nat.add_sub_cancel] at k1 k2 k3
      clear en ex hat h0 hl he h hp
      have j1 : ((m : Int) + 1) - 1 = (m : Int) := by omega
      go_enter Try.func15, Try.ntmps15
      go_wp2_with fail
      refine wp_region_tail_reg 12 (by kernel_rfl) (by kernel_rfl) (by kernel_rfl) (by kernel_rfl) ?_
      simp only [List.take_succ_cons, List.take_zero, List.drop_succ_cons, List.drop_zero]
      repeat (first | go_big_quiet_step ((fail)) | quiet_step ((fail)))
      refine wpQuiet_nil ?_
      intro _ hcw1
      obtain ⟨pq, hcw2⟩ := hcw1
      subst hcw2
      go_wp2_with fail
      exact bodyPost_ret (v := .tuple #[x.val, .bool true]) (by simp [results, Try.results15, go_sem]) rfl ⟨rfl, by (repeat (first | with_reducible exact Below.refl _ _ | with_reducible refine bl_alloc ?_ _ | ((with_reducible refine bl_set ?_ ?_ _); rotate_left; (first | exact Nat.le_refl _ | exact Nat.le_succ_of_le (Nat.le_refl _) | (simp only []; omega))) | with_reducible refine bl_drewN ?_ _ | with_reducible refine bl_drew ?_ | with_reducible refine bl_reg ?_ _))⟩

/-- What Install says of a view. -/
def installE (l : List VW) (x : VW) : Int := if l ≠ [] ∧ (x.no ≤ (lastV l).no ∨ x.tm < (lastV l).tm) then 11 else 0
theorem install_nil (w : World) (x : VW) : Calls Try.prog 44 #[.pointer none, x.val] w (RetV w (.int .i64 1)) := by
  go_enter Try.func44, Try.ntmps44
  go_wp2
  go_ret
  exact ⟨rfl, by (repeat (first | with_reducible exact Below.refl _ _ | with_reducible refine bl_alloc ?_ _ | ((with_reducible refine bl_set ?_ ?_ _); rotate_left; (first | exact Nat.le_refl _ | exact Nat.le_succ_of_le (Nat.le_refl _) | (simp only []; omega))) | with_reducible refine bl_drewN ?_ _ | with_reducible refine bl_drew ?_ | with_reducible refine bl_reg ?_ _))⟩
theorem install_late (w : World) {base b : Nat} {v : Value} {l : List VW} (h : ViewsAt w base b v l) (hm : l.length ≤ 1000000) (x : VW) (hE : l ≠ [] ∧ (x.no ≤ (lastV l).no ∨ x.tm < (lastV l).tm)) :
    Calls Try.prog 44 #[.pointer (some ⟨b, 0, none⟩), x.val] w (RetV w (.int .i64 11)) := by
  have hlt := block_lt_of_cell h.c0
  simp only at hlt
  have h2 : ViewsAt (w.alloc (.cells #[.int .i64 x.no, .int .i64 x.tm, .int .u64 (x.set : Int)] 29)) base b v l :=
    ⟨((bl_alloc (Below.refl _ _) _ : Below w.heap.size w _).cell (p := ⟨b, 0, none⟩) hlt).trans h.c0, ((bl_alloc (Below.refl _ _) _ : Below w.heap.size w _).frozen (p := ⟨b, 0, none⟩) hlt).trans h.fz, h.own.alloc _, h.ne, h.le⟩
  have hcall := last_any _ h2 hm
  have he : (!l.isEmpty) = true := by simp [hE.1]
  rw [he] at hcall
  have HC := Lib.hid hcall
  obtain ⟨-, hE⟩ := hE
  obtain ⟨y, ey⟩ : ∃ y, lastV l = y := ⟨_, rfl⟩
  rw [ey] at HC hE
  clear hcall he h h2 ey hm
  by_cases hno : x.no ≤ y.no
  · clear hE
    go_enter Try.func44, Try.ntmps44
    go_wp2_with fail
    refine (HC.out).mono ?_
    rintro e w1 ⟨rfl, hb⟩
    obtain ⟨p, rfl⟩ := regr hb
    clear hb
    go_wp2_with fail
    go_ret
    exact ⟨rfl, by (repeat (first | with_reducible exact Below.refl _ _ | with_reducible refine bl_alloc ?_ _ | ((with_reducible refine bl_set ?_ ?_ _); rotate_left; (first | exact Nat.le_refl _ | exact Nat.le_succ_of_le (Nat.le_refl _) | (simp only []; omega))) | with_reducible refine bl_drewN ?_ _ | with_reducible refine bl_drew ?_ | with_reducible refine bl_reg ?_ _))⟩
  · have htm : x.tm < y.tm := hE.resolve_left hno
    clear hE
    go_enter Try.func44, Try.ntmps44
    go_wp2_with fail
    refine (HC.out).mono ?_
    rintro e w1 ⟨rfl, hb⟩
    obtain ⟨p, rfl⟩ := regr hb
    clear hb
    go_wp2_with fail
    go_ret
    exact ⟨rfl, by (repeat (first | with_reducible exact Below.refl _ _ | with_reducible refine bl_alloc ?_ _ | ((with_reducible refine bl_set ?_ ?_ _); rotate_left; (first | exact Nat.le_refl _ | exact Nat.le_succ_of_le (Nat.le_refl _) | (simp only []; omega))) | with_reducible refine bl_drewN ?_ _ | with_reducible refine bl_drew ?_ | with_reducible refine bl_reg ?_ _))⟩
end Go.Proofs.Ytkihhdoejpjbbaa
