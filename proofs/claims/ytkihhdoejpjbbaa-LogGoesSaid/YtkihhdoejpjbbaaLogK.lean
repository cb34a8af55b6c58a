/- The walks of a log's At and Since. -/
import Derived.Test.YtkihhdoejpjbbaaLogJ
namespace Go.Proofs.Ytkihhdoejpjbbaa
open Go.RowKit Go.Sort
set_option maxHeartbeats 2000000
set_option maxRecDepth 100000

abbrev zeroE : Value := .agg #[.int .i64 0, .int .i64 0, .int .i64 0, .int .u32 0, .slice none 0 0]
theorem lat_low (v : Value) (i : Int) (hi : i < 0) (w : World) (hv : v = .pointer none ∨ ∃ b, v = .pointer (some ⟨b, 0, none⟩)) : Calls Try.prog 40 #[v, .int .i64 i] w (RetV w (.tuple #[zeroE, .bool false])) := by
  rcases hv with rfl | ⟨b, rfl⟩
  · go_enter Try.func40, Try.ntmps40
    go_wp2_with fail
    exact bodyPost_ret (v := .tuple #[zeroE, .bool false]) (by simp [results, Try.results40, go_sem]) rfl ⟨rfl, by (repeat (first | with_reducible exact Below.refl _ _ | with_reducible refine bl_alloc ?_ _ | ((with_reducible refine bl_set ?_ ?_ _); rotate_left; (first | exact Nat.le_refl _ | exact Nat.le_succ_of_le (Nat.le_refl _) | (simp only []; omega))) | with_reducible refine bl_drewN ?_ _ | with_reducible refine bl_drew ?_ | with_reducible refine bl_reg ?_ _))⟩
  · go_enter Try.func40, Try.ntmps40
    go_wp2_with fail
    exact bodyPost_ret (v := .tuple #[zeroE, .bool false]) (by simp [results, Try.results40, go_sem]) rfl ⟨rfl, by (repeat (first | with_reducible exact Below.refl _ _ | with_reducible refine bl_alloc ?_ _ | ((with_reducible refine bl_set ?_ ?_ _); rotate_left; (first | exact Nat.le_refl _ | exact Nat.le_succ_of_le (Nat.le_refl _) | (simp only []; omega))) | with_reducible refine bl_drewN ?_ _ | with_reducible refine bl_drew ?_ | with_reducible refine bl_reg ?_ _))⟩
theorem lat_nil (i : Int) (hi : 0 ≤ i) (w : World) : Calls Try.prog 40 #[.pointer none, .int .i64 i] w (RetV w (.tuple #[zeroE, .bool false])) := by
  have HL := Lib.hid (fun W => llen_nil W)
  have h1 : decide (i < 0) = false := decide_eq_false (by omega)
  go_enter Try.func40, Try.ntmps40
  go_wp2_with (first | (go_at_call 39; refine (HL.out _).mono ?_; rintro e w' ⟨rfl, rfl⟩))
  exact bodyPost_ret (v := .tuple #[zeroE, .bool false]) (by simp [results, Try.results40, go_sem]) rfl ⟨rfl, by (repeat (first | with_reducible exact Below.refl _ _ | with_reducible refine bl_alloc ?_ _ | ((with_reducible refine bl_set ?_ ?_ _); rotate_left; (first | exact Nat.le_refl _ | exact Nat.le_succ_of_le (Nat.le_refl _) | (simp only []; omega))) | with_reducible refine bl_drewN ?_ _ | with_reducible refine bl_drew ?_ | with_reducible refine bl_reg ?_ _))⟩
theorem lat_high (w : World) {base b : Nat} {v : Value} {l : List EW} (h : LogAt w base b v l) (i : Int) (h0 : 0 ≤ i) (hi : (l.length : Int) ≤ i) :
    Calls Try.prog 40 #[.pointer (some ⟨b, 0, none⟩), .int .i64 i] w (RetV w (.tuple #[zeroE, .bool false])) := by
  have HL := Lib.hid (fun W (hg : Grows w W) => llen_any W (h.grows hg))
  obtain ⟨n, en⟩ : ∃ n, l.length = n := ⟨_, rfl⟩
  rw [en] at HL hi
  have h1 : decide (i < 0) = false := decide_eq_false (by omega)
  have h2 : decide ((n : Int) ≤ i) = true := decide_eq_true hi
  clear h en
  go_enter Try.func40, Try.ntmps40
  go_wp2_with (first | (go_at_call 39; refine (HL.out _ (by show Below w.heap.size w _; (repeat (first | with_reducible exact Below.refl _ _ | with_reducible refine bl_alloc ?_ _ | ((with_reducible refine bl_set ?_ ?_ _); rotate_left; (first | exact Nat.le_refl _ | exact Nat.le_succ_of_le (Nat.le_refl _) | (simp only []; omega))) | with_reducible refine bl_drewN ?_ _ | with_reducible refine bl_drew ?_ | with_reducible refine bl_reg ?_ _)))).mono ?_; rintro e w' ⟨rfl, rfl⟩))
  exact bodyPost_ret (v := .tuple #[zeroE, .bool false]) (by simp [results, Try.results40, go_sem]) rfl ⟨rfl, by (repeat (first | with_reducible exact Below.refl _ _ | with_reducible refine bl_alloc ?_ _ | ((with_reducible refine bl_set ?_ ?_ _); rotate_left; (first | exact Nat.le_refl _ | exact Nat.le_succ_of_le (Nat.le_refl _) | (simp only []; omega))) | with_reducible refine bl_drewN ?_ _ | with_reducible refine bl_drew ?_ | with_reducible refine bl_reg ?_ _))⟩

/-- What At gives back of an entry: the same one, its body anew. -/
def AtOf (c : EC) (w : World) (e : Ending) (w' : World) : Prop := ∃ ca cl cc, e = .returned (.tuple #[.agg #[.int .i64 c.1, .int .i64 c.2.1.t, .int .i64 c.2.1.f, .int .u32 c.2.1.s, .slice ca cl cc], .bool true]) ∧ BRow w' w.heap.size (.slice ca cl cc) c.2.2 ∧ Grows w w'
theorem lat_in (w : World) {base b : Nat} {v : Value} {l : List EW} (h : LogAt w base b v l) (hm : l.length ≤ 100000) (hs : Short (cores l)) (k : Nat) (c : EC) (hc : (cores l)[k]? = some c) :
    Calls Try.prog 40 #[.pointer (some ⟨b, 0, none⟩), .int .i64 (k : Int)] w (AtOf c w) := by
  have HL := Lib.hid (fun W (hg : Grows w W) => llen_any W (h.grows hg))
  obtain ⟨n, en⟩ : ∃ n, l.length = n := ⟨_, rfl⟩
  have hk : k < n := by
    have := (List.getElem?_eq_some_iff.1 hc).1
    rw [← en]
    simpa using this
  obtain ⟨a, cap, rfl⟩ := (eown_has h.own h.bod).len en
  rw [en] at HL hm
  have HNF := Lib.hid (nat_facts k (Nat.le_trans (Nat.le_of_lt hk) (Nat.le_trans hm (by decide))))
  obtain ⟨g, o, rfl, hcap, hg, x, hx, q0, q1, q2, q3, q4, hbx⟩ := row_cells h en k hk
  have hxc : x.core = c := by
    rw [List.getElem?_map, hx] at hc
    exact Option.some.inj hc
  subst hxc
  have hxs : x.bl ≤ 1000000 := by
    have h1 := hs _ (List.mem_of_getElem? hc)
    have h2 := hbx.1
    simp only at h1
    rw [← h2]
    exact Nat.le_trans h1 (by decide)
  have HO := Lib.hid (fun W (hg : Grows w W) => own_any x W (hbx.grows hg) hxs)
  have c0 := h.c0.1
  have hbl := h.lt
  have d1 : decide ((k : Int) < 0) = false := decide_eq_false (Int.not_lt.2 (Int.natCast_nonneg k))
  have d2 : decide ((n : Int) ≤ (k : Int)) = false := decide_eq_false (Int.not_le.2 (Int.ofNat_lt.2 hk))
  have hkn : (k : Int) < (n : Int) := Int.ofNat_lt.2 hk
  obtain ⟨j1, j2, j3, j4, j6⟩ := HNF.out
  clear h en hx hc hbx hxs hm hs
  go_enter Try.func40, Try.ntmps40
  go_wp2_with (first | (go_at_call 39; refine (HL.out _ (by show Below w.heap.size w _; (repeat (first | with_reducible exact Below.refl _ _ | with_reducible refine bl_alloc ?_ _ | ((with_reducible refine bl_set ?_ ?_ _); rotate_left; (first | exact Nat.le_refl _ | exact Nat.le_succ_of_le (Nat.le_refl _) | (simp only []; omega))) | with_reducible refine bl_drewN ?_ _ | with_reducible refine bl_drew ?_ | with_reducible refine bl_reg ?_ _)))).mono ?_; rintro e w' ⟨rfl, rfl⟩))
  refine (HO.out _ (by show Below w.heap.size w _; (repeat (first | with_reducible exact Below.refl _ _ | with_reducible refine bl_alloc ?_ _ | ((with_reducible refine bl_set ?_ ?_ _); rotate_left; (first | exact Nat.le_refl _ | exact Nat.le_succ_of_le (Nat.le_refl _) | (simp only []; omega))) | with_reducible refine bl_drewN ?_ _ | with_reducible refine bl_drew ?_ | with_reducible refine bl_reg ?_ _)))).mono ?_
  rintro e w2 ⟨ca, cl, cc, rfl, hbr, hg2⟩
  have q := heap_alloc_new w (.cells #[.int .i64 0, .int .i64 0, .int .i64 0, .int .u32 0, .slice none 0 0] 56)
  have r0 := (hg2.block w.heap.size (by simp)).trans q
  obtain ⟨b0, e0⟩ := cell_in r0 0 rfl
  obtain ⟨b1, e1⟩ := cell_in r0 1 rfl
  obtain ⟨b2, e2⟩ := cell_in r0 2 rfl
  obtain ⟨b3, e3⟩ := cell_in r0 3 rfl
  obtain ⟨b4, e4⟩ := cell_in r0 4 rfl
  have HB := Lib.hid hbr
  have HG := Lib.hid hg2
  clear hbr hg2 q r0
  go_wp2_with fail
  have hch : Chg (fun k => k = w.heap.size) w2 (((((w2.setCell ⟨w.heap.size, 0, none⟩ (.int .i64 x.a)).setCell ⟨w.heap.size, 1, none⟩ (.int .i64 x.k.t)).setCell ⟨w.heap.size, 2, none⟩ (.int .i64 x.k.f)).setCell ⟨w.heap.size, 3, none⟩ (.int .u32 x.k.s)).setCell ⟨w.heap.size, 4, none⟩ (.slice ca cl cc)) :=
    Chg.setCell (Chg.setCell (Chg.setCell (Chg.setCell (Chg.setCell (Chg.refl (fun k => k = w.heap.size) w2) _ (.inr rfl)) _ (.inr rfl)) _ (.inr rfl)) _ (.inr rfl)) _ (.inr rfl)
  have hgw : Grows w w2 := grows_trans _ _ _ (bl_alloc (Below.refl _ _) _ : Below w.heap.size w _) HG.out
  refine bodyPost_ret (v := .tuple #[.agg #[.int .i64 x.a, .int .i64 x.k.t, .int .i64 x.k.f, .int .u32 x.k.s, .slice ca cl cc], .bool true]) (by simp [results, Try.results40, go_sem, b0, b1, b2, b3, b4]) rfl ⟨ca, cl, cc, rfl, ?_, ((Chg.ofGrows hgw).trans hch).toGrows (fun k hk hs => by rw [hs] at hk; exact Nat.lt_irrefl _ hk)⟩
  have hb2 := hch.own HB.out (fun k hk hs => by
    have := (HB.out.lt k hk).1
    simp at this
    omega)
  exact row_base hb2 (by simp)

theorem sinceB_any (w : World) {base b : Nat} {v : Value} {l : List EW} (h : LogAt w base b v l) (hm : l.length ≤ 100000) (hs : Short (cores l)) (i : Int) (f : Nat) (hf : max i 0 = (f : Int)) :
    Calls Try.prog 42 #[.pointer (some ⟨b, 0, none⟩), .int .i64 i] w (fun e w' => ∃ v', e = .returned v' ∧ Grows w w' ∧ EListB w' w.heap.size v' ((cores l).drop f)) := by
  have HL := Lib.hid (llen_any w h)
  have hp := partB_any w h hm hs f l.length (Nat.le_refl _)
  rw [show partC (cores l) f l.length = (cores l).drop f by unfold partC; rw [List.take_of_length_le (by simp)]] at hp
  have HP := Lib.hid hp
  obtain ⟨n, en⟩ : ∃ n, l.length = n := ⟨_, rfl⟩
  rw [en] at HL HP
  clear h hm hs hp en
  have hcases : (i < 0 ∧ f = 0) ∨ (i = 0 ∧ f = 0) ∨ (0 < i ∧ i = (f : Int)) := by omega
  rcases hcases with ⟨h0, rfl⟩ | ⟨rfl, rfl⟩ | ⟨h0, rfl⟩
  all_goals (
    clear hf
    go_enter Try.func42, Try.ntmps42
    go_wp2_with (first | (go_at_call 39; refine (HL.out).mono ?_; rintro e w' ⟨rfl, rfl⟩))
    refine (HP.out).mono ?_
    rintro e w2 ⟨v', rfl, hg2, hl2⟩
    have G2 := Lib.hid hg2
    have L2 := Lib.hid hl2
    clear hg2 hl2
    go_wp2_with fail
    go_ret
    exact ⟨v', rfl, G2.out, L2.out⟩)
theorem since_any (w : World) {base b : Nat} {v : Value} {l : List EW} (h : LogAt w base b v l) (hm : l.length ≤ 100000) (hs : Short (cores l)) (i : Int) (f : Nat) (hf : max i 0 = (f : Int)) :
    Calls Try.prog 42 #[.pointer (some ⟨b, 0, none⟩), .int .i64 i] w (fun e w' => ∃ v', e = .returned v' ∧ Grows w w' ∧ EList w' w.heap.size v' ((cores l).drop f)) :=
  (sinceB_any w h hm hs i f hf).mono fun _ _ ⟨v', h1, h2, h3⟩ => ⟨v', h1, h2, h3.low⟩
end Go.Proofs.Ytkihhdoejpjbbaa
