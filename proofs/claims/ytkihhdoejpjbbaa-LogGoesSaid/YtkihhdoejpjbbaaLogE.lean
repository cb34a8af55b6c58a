/- Logs: which entries are between two times. -/
import Derived.Test.YtkihhdoejpjbbaaLogD
import Derived.Test.YtkihhdoejpjbbaaSearchL
namespace Go.Proofs.Ytkihhdoejpjbbaa
open Go.RowKit Go.Sort
set_option maxHeartbeats 2000000
set_option maxRecDepth 100000

/-- Is a time above another one, or (if not so asked) at it? -/
def atB (t : Int) (ab : Bool) (x : Int) : Bool := decide (t < x) || (decide (x = t) && !ab)
theorem atB_false (t x : Int) : atB t false x = decide (t ≤ x) := by
  unfold atB
  rw [Bool.eq_iff_iff]
  simp
  omega
theorem atB_true (t x : Int) : atB t true x = decide (t < x) := by unfold atB; simp

theorem test_any (w : World) {base b : Nat} {v : Value} {l : List EW} (h : LogAt w base b v l) (hm : l.length ≤ 100000) (t : Int) (ab : Bool) (c1 c2 c3 : Nat) (h1 : w.cell? ⟨c1, 0, none⟩ = some (.pointer (some ⟨b, 0, none⟩))) (h2 : w.cell? ⟨c2, 0, none⟩ = some (.int .i64 t)) (h3 : w.cell? ⟨c3, 0, none⟩ = some (.bool ab)) (k : Nat) (x : EC) (hx : (cores l)[k]? = some x) :
    Calls Try.prog 77 #[.int .i64 (k : Int), .pointer (some ⟨c1, 0, none⟩), .pointer (some ⟨c2, 0, none⟩), .pointer (some ⟨c3, 0, none⟩)] w (RetV w (.bool (atB t ab x.2.1.t))) := by
  have hk : k < l.length := by
    have := (List.getElem?_eq_some_iff.1 hx).1
    simpa using this
  obtain ⟨n, en⟩ : ∃ n, l.length = n := ⟨_, rfl⟩
  obtain ⟨a, cap, rfl⟩ := (eown_has h.own h.bod).len en
  rw [en] at hk hm
  have HNF := Lib.hid (nat_facts k (Nat.le_trans (Nat.le_of_lt hk) (Nat.le_trans hm (by decide))))
  obtain ⟨g, o, rfl, hcap, hg, y, hy, q0, q1, q2, q3, q4, hbx⟩ := row_cells h en k hk
  have hxy : y.core = x := by
    rw [List.getElem?_map, hy] at hx
    exact Option.some.inj hx
  subst hxy
  obtain ⟨c0, -⟩ := h.c0
  have b1 := block_lt_of_cell h1
  have b2 := block_lt_of_cell h2
  have b3 := block_lt_of_cell h3
  have hbl := h.lt
  simp only at b1 b2 b3
  obtain ⟨j1, j2, j3, j4, j6⟩ := HNF.out
  have hkn : (k : Int) < (n : Int) := by exact_mod_cast hk
  show Calls _ _ _ _ (RetV w (.bool (atB t ab y.k.t)))
  obtain ⟨z, ez⟩ : ∃ z, y.k.t = z := ⟨_, rfl⟩
  rw [ez] at q1 ⊢
  clear h en hx hy hbx q0 q2 q3 q4 hm ez
  rcases Int.lt_trichotomy t z with hc | rfl | hc
  · have hr : atB t ab z = true := by unfold atB; rw [decide_eq_true hc]; rfl
    rw [hr]
    clear hr
    go_enter Try.func77, Try.ntmps77
    go_wp2
    go_ret
    exact ⟨rfl, Below.refl _ _⟩
  · cases ab
    · have hr : atB t false t = true := by unfold atB; simp
      rw [hr]
      clear hr
      go_enter Try.func77, Try.ntmps77
      go_wp2
      go_ret
      exact ⟨rfl, Below.refl _ _⟩
    · have hr : atB t true t = false := by unfold atB; simp
      rw [hr]
      clear hr
      go_enter Try.func77, Try.ntmps77
      go_wp2
      go_ret
      exact ⟨rfl, Below.refl _ _⟩
  · have hr : atB t ab z = false := by unfold atB; rw [decide_eq_false (by omega), decide_eq_false (by omega)]; rfl
    have hd : (z == t) = false := by simp; omega
    rw [hr]
    clear hr
    go_enter Try.func77, Try.ntmps77
    go_wp2
    go_ret
    exact ⟨ret_bool (decide_eq_false (Int.not_lt.2 (Int.le_of_lt hc))), Below.refl _ _⟩

/-- What first finds. -/
def FirstAt (c : List EC) (t : Int) (ab : Bool) (k : Nat) : Prop := Found (fun j => match c[j]? with | some x => atB t ab x.2.1.t | none => false) c.length k
theorem first_nil (t : Int) (ab : Bool) (w : World) :
    Calls Try.prog 63 #[.pointer none, .int .i64 t, .bool ab] w (fun e w' => e = .returned (.int .i64 0) ∧ Grows w w') := by
  have HL := Lib.hid (fun W => llen_nil W)
  have HS := Lib.hid (fun (c1 c2 c3 : Value) W => search_any c1 c2 c3 0 (fun _ => true) W (by omega) (fun W2 _ h hh => absurd hh (by omega)))
  go_enter Try.func63, Try.ntmps63
  go_wp2_with (first | (go_at_call 39; refine (HL.out _).mono ?_; rintro e w' ⟨rfl, rfl⟩))
  refine (HS.out _ _ _ _).mono ?_
  rintro e w1 ⟨k, rfl, hf, hg⟩
  have hk : k = 0 := by have := hf.1; omega
  subst hk
  have HG := Lib.hid hg
  clear hg hf
  go_wp2_with fail
  go_ret
  exact ⟨rfl, grows_trans w _ _ (by show Below w.heap.size w _; (repeat (first | with_reducible exact Below.refl _ _ | with_reducible refine bl_alloc ?_ _ | ((with_reducible refine bl_set ?_ ?_ _); rotate_left; (first | exact Nat.le_refl _ | exact Nat.le_succ_of_le (Nat.le_refl _) | (simp only []; omega))) | with_reducible refine bl_drewN ?_ _ | with_reducible refine bl_drew ?_ | with_reducible refine bl_reg ?_ _))) HG.out⟩
theorem first_any (w : World) {base b : Nat} {v : Value} {l : List EW} (h : LogAt w base b v l) (hm : l.length ≤ 100000) (t : Int) (ab : Bool) :
    Calls Try.prog 63 #[.pointer (some ⟨b, 0, none⟩), .int .i64 t, .bool ab] w (fun e w' => ∃ k : Nat, e = .returned (.int .i64 (k : Int)) ∧ FirstAt (cores l) t ab k ∧ Grows w w') := by
  have HL := Lib.hid (fun W (hg : Grows w W) => llen_any W (h.grows hg))
  have hsr : ∀ W : World, Grows w W → ∀ c1 c2 c3 : Nat, W.cell? ⟨c1, 0, none⟩ = some (.pointer (some ⟨b, 0, none⟩)) → W.cell? ⟨c2, 0, none⟩ = some (.int .i64 t) → W.cell? ⟨c3, 0, none⟩ = some (.bool ab) →
      Calls Try.prog 70 #[.int .i64 (l.length : Int), .func (.func 77) #[] #[.pointer (some ⟨c1, 0, none⟩), .pointer (some ⟨c2, 0, none⟩), .pointer (some ⟨c3, 0, none⟩)]] W (fun e w' => ∃ k : Nat, e = .returned (.int .i64 (k : Int)) ∧ FirstAt (cores l) t ab k ∧ Grows W w') := by
    intro W hg c1 c2 c3 h1 h2 h3
    have := search_any (.pointer (some ⟨c1, 0, none⟩)) (.pointer (some ⟨c2, 0, none⟩)) (.pointer (some ⟨c3, 0, none⟩)) l.length (fun j => match (cores l)[j]? with | some x => atB t ab x.2.1.t | none => false) W (by omega) (by
      intro W2 hg2 j hj
      have hx : (cores l)[j]? = some (l[j].core) := by rw [List.getElem?_map, List.getElem?_eq_getElem hj]; rfl
      have := test_any W2 ((h.grows hg).grows hg2) hm t ab c1 c2 c3 ((hg2.cell (block_lt_of_cell h1)).trans h1) ((hg2.cell (block_lt_of_cell h2)).trans h2) ((hg2.cell (block_lt_of_cell h3)).trans h3) j _ hx
      simp only [hx]
      exact this)
    unfold FirstAt
    rw [show (cores l).length = l.length by simp]
    exact this
  have HS := Lib.hid hsr
  obtain ⟨n, en⟩ : ∃ n, l.length = n := ⟨_, rfl⟩
  rw [en] at HL HS
  clear hsr h hm en
  go_enter Try.func63, Try.ntmps63
  go_wp2_with (first | (go_at_call 39; refine (HL.out _ (by show Below w.heap.size w _; (repeat (first | with_reducible exact Below.refl _ _ | with_reducible refine bl_alloc ?_ _ | ((with_reducible refine bl_set ?_ ?_ _); rotate_left; (first | exact Nat.le_refl _ | exact Nat.le_succ_of_le (Nat.le_refl _) | (simp only []; omega))) | with_reducible refine bl_drewN ?_ _ | with_reducible refine bl_drew ?_ | with_reducible refine bl_reg ?_ _)))).mono ?_; rintro e w' ⟨rfl, rfl⟩))
  refine (HS.out _ (by show Below w.heap.size w _; (repeat (first | with_reducible exact Below.refl _ _ | with_reducible refine bl_alloc ?_ _ | ((with_reducible refine bl_set ?_ ?_ _); rotate_left; (first | exact Nat.le_refl _ | exact Nat.le_succ_of_le (Nat.le_refl _) | (simp only []; omega))) | with_reducible refine bl_drewN ?_ _ | with_reducible refine bl_drew ?_ | with_reducible refine bl_reg ?_ _))) _ _ _ (by simp [go_sem]) (by simp [go_sem]) (by simp [go_sem])).mono ?_
  rintro e w1 ⟨k, rfl, hf, hg⟩
  have HG := Lib.hid hg
  have HF := Lib.hid hf
  clear hg hf
  go_wp2_with fail
  go_ret
  exact ⟨k, rfl, HF.out, grows_trans w _ _ (by show Below w.heap.size w _; (repeat (first | with_reducible exact Below.refl _ _ | with_reducible refine bl_alloc ?_ _ | ((with_reducible refine bl_set ?_ ?_ _); rotate_left; (first | exact Nat.le_refl _ | exact Nat.le_succ_of_le (Nat.le_refl _) | (simp only []; omega))) | with_reducible refine bl_drewN ?_ _ | with_reducible refine bl_drew ?_ | with_reducible refine bl_reg ?_ _))) HG.out⟩

/-- Those between two times, of entries in order. -/
def betweenC (c : List EC) (lo hi : Int) : List EC := c.filter fun x => decide (lo ≤ x.2.1.t) && decide (x.2.1.t ≤ hi)
/-- In order by time. -/
def InOrder (c : List EC) : Prop := c.Pairwise fun x y => x.2.1.t ≤ y.2.1.t
theorem found_mono {P : Nat → Bool} {n k : Nat} (h : Found P n k) (hm : ∀ i j, i ≤ j → j < n → P i = true → P j = true) : (∀ j, j < k → P j = false) ∧ (∀ j, k ≤ j → j < n → P j = true) := by
  constructor
  · intro j hj
    have h1 := h.2.1 (by omega)
    cases hp : P j with
    | false => rfl
    | true =>
      have := hm j (k - 1) (by omega) (by have := h.1; omega) hp
      rw [h1] at this
      cases this
  · intro j hj hn
    exact hm k j hj hn (h.2.2 (by omega))
theorem first_split {c : List EC} {t : Int} {ab : Bool} {k : Nat} (ho : InOrder c) (h : FirstAt c t ab k) : k ≤ c.length ∧ (∀ x ∈ c.take k, atB t ab x.2.1.t = false) ∧ (∀ x ∈ c.drop k, atB t ab x.2.1.t = true) := by
  have hmono := found_mono h (by
    intro i j hij hj hi
    have hi' : i < c.length := by omega
    simp only [List.getElem?_eq_getElem hi', List.getElem?_eq_getElem hj] at hi ⊢
    rcases Nat.lt_or_eq_of_le hij with hlt | rfl
    · have hle := (List.pairwise_iff_getElem.1 ho) i j hi' hj hlt
      generalize c[i].2.1.t = p at hi hle
      generalize c[j].2.1.t = q at hle ⊢
      cases ab
      · rw [atB_false] at hi ⊢
        simp at hi ⊢
        omega
      · rw [atB_true] at hi ⊢
        simp at hi ⊢
        omega
    · exact hi)
  refine ⟨h.1, ?_, ?_⟩
  · intro x hx
    obtain ⟨i, hi, rfl⟩ := List.mem_iff_getElem.1 hx
    rw [List.length_take] at hi
    have := hmono.1 i (by omega)
    simp only [List.getElem?_eq_getElem (show i < c.length by omega)] at this
    rw [List.getElem_take]
    exact this
  · intro x hx
    obtain ⟨i, hi, rfl⟩ := List.mem_iff_getElem.1 hx
    rw [List.length_drop] at hi
    have := hmono.2 (k + i) (by omega) (by omega)
    simp only [List.getElem?_eq_getElem (show k + i < c.length by omega)] at this
    rw [List.getElem_drop]
    exact this
theorem between_part {c : List EC} {lo hi : Int} {i j : Nat} (ho : InOrder c) (hi' : FirstAt c lo false i) (hj : FirstAt c hi true j) : partC c i j = betweenC c lo hi := by
  obtain ⟨h1, h2, h3⟩ := first_split ho hi'
  obtain ⟨g1, g2, g3⟩ := first_split ho hj
  unfold betweenC partC
  conv => rhs; rw [← List.take_append_drop j c]
  rw [List.filter_append]
  have hd : (c.drop j).filter (fun x => decide (lo ≤ x.2.1.t) && decide (x.2.1.t ≤ hi)) = [] := by
    rw [List.filter_eq_nil_iff]
    intro x hx
    have := g3 x hx
    rw [atB_true] at this
    simp at this ⊢
    omega
  rw [hd, List.append_nil]
  conv => rhs; rw [← List.take_append_drop i (c.take j)]
  rw [List.filter_append]
  have ht : ((c.take j).take i).filter (fun x => decide (lo ≤ x.2.1.t) && decide (x.2.1.t ≤ hi)) = [] := by
    rw [List.filter_eq_nil_iff]
    intro x hx
    have := h2 x (by rw [List.take_take] at hx; exact (List.take_subset_take_left c (Nat.min_le_left i j)) hx)
    rw [atB_false] at this
    simp at this ⊢
    omega
  rw [ht, List.nil_append]
  symm
  rw [List.filter_eq_self]
  intro x hx
  have hxd : x ∈ c.drop i := by
    rw [List.drop_take] at hx
    exact List.mem_of_mem_take hx
  have hxt : x ∈ c.take j := List.mem_of_mem_drop hx
  have e1 := h3 x hxd
  have e2 := g2 x hxt
  rw [atB_false] at e1
  rw [atB_true] at e2
  simp at e1 e2 ⊢
  exact ⟨e1, e2⟩

theorem lbetween_any (w : World) {base b : Nat} {v : Value} {l : List EW} (h : LogAt w base b v l) (hm : l.length ≤ 100000) (hs : Short (cores l)) (ho : InOrder (cores l)) (lo hi : Int) :
    Calls Try.prog 34 #[.pointer (some ⟨b, 0, none⟩), .int .i64 lo, .int .i64 hi] w (fun e w' => ∃ v', e = .returned v' ∧ Grows w w' ∧ EList w' w.heap.size v' (betweenC (cores l) lo hi)) := by
  have H1 := Lib.hid (first_any w h hm lo false)
  have H2 := Lib.hid (fun W (hg : Grows w W) => first_any W (h.grows hg) hm hi true)
  have H3 := Lib.hid (fun W (hg : Grows w W) (f t : Nat) (hf : f ≤ (cores l).length) (ht : t ≤ (cores l).length) => part_any W (h.grows hg) hm hs f t (by simpa using ht))
  have HB := Lib.hid (fun i j h1 h2 => between_part (c := cores l) (lo := lo) (hi := hi) (i := i) (j := j) ho h1 h2)
  clear h hm hs ho
  go_enter Try.func34, Try.ntmps34
  go_wp2_with fail
  refine (H1.out).mono ?_
  rintro e w1 ⟨i, rfl, hfi, hg1⟩
  have G1 := Lib.hid hg1
  have HI := Lib.hid hfi
  clear hfi hg1
  go_wp2_with fail
  refine (H2.out _ G1.out).mono ?_
  rintro e w2 ⟨j, rfl, hfj, hg2⟩
  have G2 := Lib.hid (grows_trans _ _ _ G1.out hg2)
  have HJ := Lib.hid hfj
  clear hfj hg2
  go_wp2_with fail
  refine (H3.out _ G2.out i j HI.out.1 HJ.out.1).mono ?_
  rintro e w3 ⟨v', rfl, hg3, hl⟩
  rw [HB.out i j HI.out HJ.out] at hl
  have G3 := Lib.hid (grows_trans _ _ _ G2.out hg3)
  have HL := Lib.hid hl
  have HS2 := Lib.hid G2.out.size
  clear hg3 hl
  go_wp2_with fail
  go_ret
  obtain ⟨l3, q1, q2, q3⟩ := HL.out
  exact ⟨v', rfl, G3.out, l3, row_base q1 HS2.out, q2, q3⟩
end Go.Proofs.Ytkihhdoejpjbbaa
