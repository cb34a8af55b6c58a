/- The walk of TrimNear: the loop and what follows. -/
import Derived.Test.YtihfcaconbcdjaaTrimW
namespace Go.Proofs.Ytihfcaconbcdjaa
open Go.RowKit Go.Sort
set_option maxHeartbeats 8000000
set_option maxRecDepth 100000

theorem max3_if (D c : Int) : Value.int .i64 (if (if D < c then c else D) < -c then -c else if D < c then c else D) = .int .i64 (max (max D c) (-c)) := by
  congr 1
  omega
theorem near_end (f : Int) (l y : List Int) (hl : R32 l) (hy : R16 y) (k : Nat) :
    (-4294967296 ≤ midI (trimI f (nA l k)) ∧ midI (trimI f (nA l k)) ≤ 4294967296) ∧ (-4294967296 ≤ midI (trimI f (nB l y k)) ∧ midI (trimI f (nB l y k)) ≤ 4294967296) ∧ midI (trimI f (nA l k)) - midI (trimI f (nB l y k)) ≤ nD y k ∧ midI (trimI f (nB l y k)) - midI (trimI f (nA l k)) ≤ nD y k := by
  by_cases hk : k = 0
  · subst hk
    have h1 : nA l 0 = [] := rfl
    have h2 : nB l y 0 = [] := rfl
    have h3 : midI (trimI f []) = 0 := by
      have : trimI f [] = [] := List.eq_nil_of_length_eq_zero (by rw [trimI_length]; simp)
      rw [this]
      rfl
    have h4 := nD_rng y hy 0
    rw [h1, h2, h3]
    omega
  · have ha := mid_rng _ _ _ (trimI_pos f (nA l k) (by rw [nA_length]; omega)) (fun x hx => nA_rng l hl k x (trimI_mem f _ x hx))
    have hb := mid_rng _ _ _ (trimI_pos f (nB l y k) (by rw [nB_length]; omega)) (fun x hx => nB_rng l y hl hy k x (trimI_mem f _ x hx))
    have h1 := near_plain _ f _ _ (near_lists l y k).1 (by rw [nA_length]; omega)
    have h2 := near_plain _ f _ _ (near_lists l y k).2 (by rw [nB_length]; omega)
    omega
theorem trimNear_walk (f : Int) (vl vy : Value) (l y : List Int) (w : World) (hl : NHas .i32 w vl l) (hy : NHas .i16 w vy y) (hrl : R32 l) (hry : R16 y) (hf : -9223372036854775808 ≤ f ∧ f ≤ 9223372036854775807) :
    Calls Try.prog 6 #[.int .i64 f, vl, vy] w (RetV w (.bool true)) := by
  obtain ⟨i0, hi, hz0, hz1, hz2⟩ := info_parts Try.infoI64
  have HM := Lib.hid (fun v l W h hl hr => middle_any f v l W h hl hr hf)
  have HW := Lib.hid (fun W => trimWorks_any W)
  obtain ⟨nl, enl⟩ : ∃ n, l.length = n := ⟨_, rfl⟩
  obtain ⟨ny, eny⟩ : ∃ n, y.length = n := ⟨_, rfl⟩
  obtain ⟨al, capl, rfl, hcl⟩ := hl.len enl
  obtain ⟨ay, capy, rfl, hcy⟩ := hy.len eny
  have HCL := Lib.hid hcl
  have HCY := Lib.hid hcy
  have RL := Lib.hid hrl
  have RY := Lib.hid hry
  have HY0 := Lib.hid (fun (k : Nat) (h : ¬ k < ny) => show y.getD k 0 = 0 by rw [List.getD_eq_getElem?_getD, List.getElem?_eq_none (by omega)]; rfl)
  clear hl hy hcl hcy hrl hry hf enl eny
  go_enter Try.func6, Try.ntmps6
  go_wp2_with fail
  go_loopw [7, 8, 9, 10] (fun va vb vd vi wr => ∃ k : Nat, vi = .int .i64 (k : Int) ∧ k ≤ nl ∧ k ≤ 40 ∧ Below w.heap.size w wr ∧ Two w.heap.size wr va (nA l k) vb (nB l y k) ∧ vd = .int .i64 (nD y k)) (fun _ _ _ vi _ => 40 - (intOf vi).toNat)
  case atStart => exact ⟨0, rfl, by omega, by omega, Below.refl _ _, ⟨⟨rfl, .inl ⟨rfl, rfl⟩⟩, ⟨rfl, .inl ⟨rfl, rfl⟩⟩, fun k hk => by simp [Value.ownBlock] at hk, Nat.le_refl _⟩, rfl⟩
  case round =>
    obtain ⟨k, rfl, hk, hk40, hgr, hT, rfl⟩ := hrel
    have HG := Lib.hid hgr
    have HT := Lib.hid hT
    clear hgr hT
    by_cases hlt : k < nl ∧ k < 40
    · obtain ⟨hlt1, hlt2⟩ := hlt
      obtain ⟨gl, ol, rfl, hcapl, hgl, hcell⟩ := HCL.out k hlt1
      have hx := getD_rng RL.out (by omega) (by omega) k
      have hc := getD_rng RY.out (by omega) (by omega) k
      have hd := nD_rng y RY.out k
      have hds : nD y (k + 1) = max (max (nD y k) (y.getD k 0)) (-(y.getD k 0)) := rfl
      have hds := Lib.hid hds
      have hA := Lib.hid (nA_succ l k)
      have hB := Lib.hid (nB_succ l y k)
      have hAl := nA_length l k
      have hBl := nB_length l y k
      have hcw : wr.cell? ⟨gl, ol + k, none⟩ = some (.int .i32 (l.getD k 0)) := (HG.out.cell (p := ⟨gl, ol + k, none⟩) hgl).trans hcell
      have hgw : gl < wr.heap.size := Nat.lt_of_lt_of_le hgl HG.out.size
      have hgw1 : gl < wr.heap.size + 1 := Nat.lt_succ_of_lt hgw
      have hgw2 : gl < wr.heap.size + 1 + 1 := Nat.lt_succ_of_lt hgw1
      have HCELL := Lib.hid hcell
      obtain ⟨A, eA⟩ : ∃ A, nA l k = A := ⟨_, rfl⟩
      obtain ⟨B, eB⟩ : ∃ B, nB l y k = B := ⟨_, rfl⟩
      obtain ⟨D, eD⟩ : ∃ D, nD y k = D := ⟨_, rfl⟩
      rw [eA] at hAl
      rw [eB] at hBl
      rw [eD] at hd
      rw [eA, eB] at HT
      rw [eA] at hA
      rw [eB] at hB
      rw [eD] at hds
      rw [eD]
      obtain ⟨x, ex⟩ : ∃ x, l.getD k 0 = x := ⟨_, rfl⟩
      obtain ⟨c, ec⟩ : ∃ c, y.getD k 0 = c := ⟨_, rfl⟩
      rw [ex] at hx hcw hA hB HCELL
      rw [ec] at hc hB hds
      have hwx : wrap64 x = x := by unfold wrap64; omega
      have hwc : wrap64 c = c := by unfold wrap64; omega
      have hwxc : wrap64 (x + c) = x + c := by unfold wrap64; omega
      have hvx : IntKind.i64.wrap x = x := by rw [wrapEq]; exact hwx
      have hvxc : IntKind.i64.wrap (x + c) = x + c := by rw [wrapEq]; exact hwxc
      have hwn : wrap64 (-c) = -c := by unfold wrap64; omega
      have hcy : k < ny → ∃ gy oy, ay = some ⟨gy, oy, none⟩ ∧ ny ≤ capy ∧ gy < wr.heap.size ∧ wr.cell? ⟨gy, oy + k, none⟩ = some (.int .i16 c) := fun h => by
        obtain ⟨gy, oy, h1, h2, h3, h4⟩ := HCY.out k h
        exact ⟨gy, oy, h1, h2, Nat.lt_of_lt_of_le h3 HG.out.size, by rw [← ec]; exact (HG.out.cell (p := ⟨gy, oy + k, none⟩) h3).trans h4⟩
      have hcn : ¬ k < ny → c = 0 := fun h => by rw [← ec]; exact HY0.out k h
      clear eA eB eD ex ec hcell hx hc
      by_cases hky : k < ny
      · obtain ⟨gy, oy, rfl, hcapy, hgy, hcelly⟩ := hcy hky
        clear hcn
        go_wp2_with fail
        -- arms1
        go_region_law (first | (refine step_two (base := w.heap.size) (va := u7) (A := A) (vb := u8) (B := B) (g := wr.heap.size) (x := x) (by rfl) (.tmp 35) (.tmp 41) 22 (by rfl) i0 Try.underlying22 hi hz0 hz1 hz2 ?_ (by rfl) (by omega) 1 (by rfl) ?_ ?_; (· (repeat (first | with_reducible exact HT.out | with_reducible refine Two.alloc ?_ _ | with_reducible refine Two.drew ?_))); (· (repeat (first | (refine fresh_new (base := w.heap.size) (A := A) (B := B) ?_ _ ?_; (· (repeat (first | with_reducible exact HT.out | with_reducible refine Two.alloc ?_ _ | with_reducible refine Two.drew ?_))); (· (first | rfl | exact (alloc_size _ _).symm))) | with_reducible refine Fresh.alloc ?_ _ | with_reducible refine Fresh.drew ?_))); intro ga capa wa hTa hSa; have hBa : Below w.heap.size w wa := (by refine Below.trans ?_ hSa.grows; (· (repeat (first | with_reducible exact HG.out | with_reducible refine bl_alloc ?_ _ | with_reducible refine bl_drew ?_)))); have hca : wa.cell? ⟨gl, ol + k, none⟩ = some (.int .i32 x) := (hBa.cell (p := ⟨gl, ol + k, none⟩) hgl).trans HCELL.out; have hga : gl < wa.heap.size := Nat.lt_of_lt_of_le hgl hBa.size; have hga1 : gl < wa.heap.size + 1 := Nat.lt_succ_of_lt hga) | (refine step_two (base := w.heap.size) (va := u7) (A := A) (vb := u8) (B := B) (g := (wr.heap.size + 1)) (x := x) (by rfl) (.tmp 35) (.tmp 41) 22 (by rfl) i0 Try.underlying22 hi hz0 hz1 hz2 ?_ (by rfl) (by omega) 1 (by rfl) ?_ ?_; (· (repeat (first | with_reducible exact HT.out | with_reducible refine Two.alloc ?_ _ | with_reducible refine Two.drew ?_))); (· (repeat (first | (refine fresh_new (base := w.heap.size) (A := A) (B := B) ?_ _ ?_; (· (repeat (first | with_reducible exact HT.out | with_reducible refine Two.alloc ?_ _ | with_reducible refine Two.drew ?_))); (· (first | rfl | exact (alloc_size _ _).symm))) | with_reducible refine Fresh.alloc ?_ _ | with_reducible refine Fresh.drew ?_))); intro ga capa wa hTa hSa; have hBa : Below w.heap.size w wa := (by refine Below.trans ?_ hSa.grows; (· (repeat (first | with_reducible exact HG.out | with_reducible refine bl_alloc ?_ _ | with_reducible refine bl_drew ?_)))); have hca : wa.cell? ⟨gl, ol + k, none⟩ = some (.int .i32 x) := (hBa.cell (p := ⟨gl, ol + k, none⟩) hgl).trans HCELL.out; have hga : gl < wa.heap.size := Nat.lt_of_lt_of_le hgl hBa.size; have hga1 : gl < wa.heap.size + 1 := Nat.lt_succ_of_lt hga) | (refine step_two (base := w.heap.size) (va := u7) (A := A) (vb := (.slice (some ⟨gb, 0, none⟩) (B.length + 1) capb)) (B := (B ++ [(x + c)])) (g := wr.heap.size) (x := x) (by rfl) (.tmp 35) (.tmp 41) 22 (by rfl) i0 Try.underlying22 hi hz0 hz1 hz2 ?_ (by rfl) (by omega) 1 (by rfl) ?_ ?_; (· (repeat (first | with_reducible exact hTb.swap | with_reducible refine Two.alloc ?_ _ | with_reducible refine Two.drew ?_))); (· (repeat (first | (refine fresh_new (base := w.heap.size) (A := A) (B := (B ++ [(x + c)])) ?_ _ ?_; (· (repeat (first | with_reducible exact hTb.swap | with_reducible refine Two.alloc ?_ _ | with_reducible refine Two.drew ?_))); (· (first | rfl | exact (alloc_size _ _).symm))) | (refine fresh_new (base := w.heap.size) (A := A) (B := B) ?_ _ ?_; (· (repeat (first | with_reducible exact HT.out | with_reducible refine Two.alloc ?_ _ | with_reducible refine Two.drew ?_))); (· (first | rfl | exact (alloc_size _ _).symm))) | with_reducible refine Fresh.alloc ?_ _ | with_reducible refine Fresh.drew ?_ | (with_reducible refine (hSb.fresh _ _ (Fresh.swap ?_)).swap)))); intro ga capa wa hTa hSa; have hBa : Below w.heap.size w wa := (by refine Below.trans ?_ hSa.grows; (· (repeat (first | with_reducible exact hBb | with_reducible refine bl_alloc ?_ _ | with_reducible refine bl_drew ?_)))); have hca : wa.cell? ⟨gl, ol + k, none⟩ = some (.int .i32 x) := (hBa.cell (p := ⟨gl, ol + k, none⟩) hgl).trans HCELL.out; have hga : gl < wa.heap.size := Nat.lt_of_lt_of_le hgl hBa.size; have hga1 : gl < wa.heap.size + 1 := Nat.lt_succ_of_lt hga) | (refine step_two (base := w.heap.size) (va := u7) (A := A) (vb := (.slice (some ⟨gb, 0, none⟩) (B.length + 1) capb)) (B := (B ++ [(x + c)])) (g := (wr.heap.size + 1)) (x := x) (by rfl) (.tmp 35) (.tmp 41) 22 (by rfl) i0 Try.underlying22 hi hz0 hz1 hz2 ?_ (by rfl) (by omega) 1 (by rfl) ?_ ?_; (· (repeat (first | with_reducible exact hTb.swap | with_reducible refine Two.alloc ?_ _ | with_reducible refine Two.drew ?_))); (· (repeat (first | (refine fresh_new (base := w.heap.size) (A := A) (B := (B ++ [(x + c)])) ?_ _ ?_; (· (repeat (first | with_reducible exact hTb.swap | with_reducible refine Two.alloc ?_ _ | with_reducible refine Two.drew ?_))); (· (first | rfl | exact (alloc_size _ _).symm))) | (refine fresh_new (base := w.heap.size) (A := A) (B := B) ?_ _ ?_; (· (repeat (first | with_reducible exact HT.out | with_reducible refine Two.alloc ?_ _ | with_reducible refine Two.drew ?_))); (· (first | rfl | exact (alloc_size _ _).symm))) | with_reducible refine Fresh.alloc ?_ _ | with_reducible refine Fresh.drew ?_ | (with_reducible refine (hSb.fresh _ _ (Fresh.swap ?_)).swap)))); intro ga capa wa hTa hSa; have hBa : Below w.heap.size w wa := (by refine Below.trans ?_ hSa.grows; (· (repeat (first | with_reducible exact hBb | with_reducible refine bl_alloc ?_ _ | with_reducible refine bl_drew ?_)))); have hca : wa.cell? ⟨gl, ol + k, none⟩ = some (.int .i32 x) := (hBa.cell (p := ⟨gl, ol + k, none⟩) hgl).trans HCELL.out; have hga : gl < wa.heap.size := Nat.lt_of_lt_of_le hgl hBa.size; have hga1 : gl < wa.heap.size + 1 := Nat.lt_succ_of_lt hga) | (refine step_two (base := w.heap.size) (va := u7) (A := A) (vb := (.slice (some ⟨gb, 0, none⟩) (B.length + 1) capb)) (B := (B ++ [(x + c)])) (g := wb.heap.size) (x := x) (by rfl) (.tmp 35) (.tmp 41) 22 (by rfl) i0 Try.underlying22 hi hz0 hz1 hz2 ?_ (by rfl) (by omega) 1 (by rfl) ?_ ?_; (· (repeat (first | with_reducible exact hTb.swap | with_reducible refine Two.alloc ?_ _ | with_reducible refine Two.drew ?_))); (· (repeat (first | (refine fresh_new (base := w.heap.size) (A := A) (B := (B ++ [(x + c)])) ?_ _ ?_; (· (repeat (first | with_reducible exact hTb.swap | with_reducible refine Two.alloc ?_ _ | with_reducible refine Two.drew ?_))); (· (first | rfl | exact (alloc_size _ _).symm))) | (refine fresh_new (base := w.heap.size) (A := A) (B := B) ?_ _ ?_; (· (repeat (first | with_reducible exact HT.out | with_reducible refine Two.alloc ?_ _ | with_reducible refine Two.drew ?_))); (· (first | rfl | exact (alloc_size _ _).symm))) | with_reducible refine Fresh.alloc ?_ _ | with_reducible refine Fresh.drew ?_ | (with_reducible refine (hSb.fresh _ _ (Fresh.swap ?_)).swap)))); intro ga capa wa hTa hSa; have hBa : Below w.heap.size w wa := (by refine Below.trans ?_ hSa.grows; (· (repeat (first | with_reducible exact hBb | with_reducible refine bl_alloc ?_ _ | with_reducible refine bl_drew ?_)))); have hca : wa.cell? ⟨gl, ol + k, none⟩ = some (.int .i32 x) := (hBa.cell (p := ⟨gl, ol + k, none⟩) hgl).trans HCELL.out; have hga : gl < wa.heap.size := Nat.lt_of_lt_of_le hgl hBa.size; have hga1 : gl < wa.heap.size + 1 := Nat.lt_succ_of_lt hga) | (refine step_two (base := w.heap.size) (va := u8) (A := B) (vb := u7) (B := A) (g := wr.heap.size) (x := (x + c)) (by rfl) (.tmp 43) (.tmp 51) 22 (by rfl) i0 Try.underlying22 hi hz0 hz1 hz2 ?_ (by rfl) (by omega) 1 (by rfl) ?_ ?_; (· (repeat (first | with_reducible exact HT.out.swap | with_reducible refine Two.alloc ?_ _ | with_reducible refine Two.drew ?_))); (· (repeat (first | (refine fresh_new (base := w.heap.size) (A := B) (B := A) ?_ _ ?_; (· (repeat (first | with_reducible exact HT.out.swap | with_reducible refine Two.alloc ?_ _ | with_reducible refine Two.drew ?_))); (· (first | rfl | exact (alloc_size _ _).symm))) | with_reducible refine Fresh.alloc ?_ _ | with_reducible refine Fresh.drew ?_))); intro gb capb wb hTb hSb; have hBb : Below w.heap.size w wb := (by refine Below.trans ?_ hSb.grows; (· (repeat (first | with_reducible exact HG.out | with_reducible refine bl_alloc ?_ _ | with_reducible refine bl_drew ?_)))); have hcb : wb.cell? ⟨gl, ol + k, none⟩ = some (.int .i32 x) := (hBb.cell (p := ⟨gl, ol + k, none⟩) hgl).trans HCELL.out; have hgb : gl < wb.heap.size := Nat.lt_of_lt_of_le hgl hBb.size; have hgb1 : gl < wb.heap.size + 1 := Nat.lt_succ_of_lt hgb) | (refine step_two (base := w.heap.size) (va := u8) (A := B) (vb := u7) (B := A) (g := (wr.heap.size + 1)) (x := (x + c)) (by rfl) (.tmp 43) (.tmp 51) 22 (by rfl) i0 Try.underlying22 hi hz0 hz1 hz2 ?_ (by rfl) (by omega) 1 (by rfl) ?_ ?_; (· (repeat (first | with_reducible exact HT.out.swap | with_reducible refine Two.alloc ?_ _ | with_reducible refine Two.drew ?_))); (· (repeat (first | (refine fresh_new (base := w.heap.size) (A := B) (B := A) ?_ _ ?_; (· (repeat (first | with_reducible exact HT.out.swap | with_reducible refine Two.alloc ?_ _ | with_reducible refine Two.drew ?_))); (· (first | rfl | exact (alloc_size _ _).symm))) | with_reducible refine Fresh.alloc ?_ _ | with_reducible refine Fresh.drew ?_))); intro gb capb wb hTb hSb; have hBb : Below w.heap.size w wb := (by refine Below.trans ?_ hSb.grows; (· (repeat (first | with_reducible exact HG.out | with_reducible refine bl_alloc ?_ _ | with_reducible refine bl_drew ?_)))); have hcb : wb.cell? ⟨gl, ol + k, none⟩ = some (.int .i32 x) := (hBb.cell (p := ⟨gl, ol + k, none⟩) hgl).trans HCELL.out; have hgb : gl < wb.heap.size := Nat.lt_of_lt_of_le hgl hBb.size; have hgb1 : gl < wb.heap.size + 1 := Nat.lt_succ_of_lt hgb) | (refine step_two (base := w.heap.size) (va := u8) (A := B) (vb := (.slice (some ⟨ga, 0, none⟩) (A.length + 1) capa)) (B := (A ++ [x])) (g := wr.heap.size) (x := (x + c)) (by rfl) (.tmp 43) (.tmp 51) 22 (by rfl) i0 Try.underlying22 hi hz0 hz1 hz2 ?_ (by rfl) (by omega) 1 (by rfl) ?_ ?_; (· (repeat (first | with_reducible exact hTa.swap | with_reducible refine Two.alloc ?_ _ | with_reducible refine Two.drew ?_))); (· (repeat (first | (refine fresh_new (base := w.heap.size) (A := B) (B := (A ++ [x])) ?_ _ ?_; (· (repeat (first | with_reducible exact hTa.swap | with_reducible refine Two.alloc ?_ _ | with_reducible refine Two.drew ?_))); (· (first | rfl | exact (alloc_size _ _).symm))) | (refine fresh_new (base := w.heap.size) (A := B) (B := A) ?_ _ ?_; (· (repeat (first | with_reducible exact HT.out.swap | with_reducible refine Two.alloc ?_ _ | with_reducible refine Two.drew ?_))); (· (first | rfl | exact (alloc_size _ _).symm))) | with_reducible refine Fresh.alloc ?_ _ | with_reducible refine Fresh.drew ?_ | (with_reducible refine (hSa.fresh _ _ (Fresh.swap ?_)).swap)))); intro gb capb wb hTb hSb; have hBb : Below w.heap.size w wb := (by refine Below.trans ?_ hSb.grows; (· (repeat (first | with_reducible exact hBa | with_reducible refine bl_alloc ?_ _ | with_reducible refine bl_drew ?_)))); have hcb : wb.cell? ⟨gl, ol + k, none⟩ = some (.int .i32 x) := (hBb.cell (p := ⟨gl, ol + k, none⟩) hgl).trans HCELL.out; have hgb : gl < wb.heap.size := Nat.lt_of_lt_of_le hgl hBb.size; have hgb1 : gl < wb.heap.size + 1 := Nat.lt_succ_of_lt hgb) | (refine step_two (base := w.heap.size) (va := u8) (A := B) (vb := (.slice (some ⟨ga, 0, none⟩) (A.length + 1) capa)) (B := (A ++ [x])) (g := (wr.heap.size + 1)) (x := (x + c)) (by rfl) (.tmp 43) (.tmp 51) 22 (by rfl) i0 Try.underlying22 hi hz0 hz1 hz2 ?_ (by rfl) (by omega) 1 (by rfl) ?_ ?_; (· (repeat (first | with_reducible exact hTa.swap | with_reducible refine Two.alloc ?_ _ | with_reducible refine Two.drew ?_))); (· (repeat (first | (refine fresh_new (base := w.heap.size) (A := B) (B := (A ++ [x])) ?_ _ ?_; (· (repeat (first | with_reducible exact hTa.swap | with_reducible refine Two.alloc ?_ _ | with_reducible refine Two.drew ?_))); (· (first | rfl | exact (alloc_size _ _).symm))) | (refine fresh_new (base := w.heap.size) (A := B) (B := A) ?_ _ ?_; (· (repeat (first | with_reducible exact HT.out.swap | with_reducible refine Two.alloc ?_ _ | with_reducible refine Two.drew ?_))); (· (first | rfl | exact (alloc_size _ _).symm))) | with_reducible refine Fresh.alloc ?_ _ | with_reducible refine Fresh.drew ?_ | (with_reducible refine (hSa.fresh _ _ (Fresh.swap ?_)).swap)))); intro gb capb wb hTb hSb; have hBb : Below w.heap.size w wb := (by refine Below.trans ?_ hSb.grows; (· (repeat (first | with_reducible exact hBa | with_reducible refine bl_alloc ?_ _ | with_reducible refine bl_drew ?_)))); have hcb : wb.cell? ⟨gl, ol + k, none⟩ = some (.int .i32 x) := (hBb.cell (p := ⟨gl, ol + k, none⟩) hgl).trans HCELL.out; have hgb : gl < wb.heap.size := Nat.lt_of_lt_of_le hgl hBb.size; have hgb1 : gl < wb.heap.size + 1 := Nat.lt_succ_of_lt hgb) | (refine step_two (base := w.heap.size) (va := u8) (A := B) (vb := (.slice (some ⟨ga, 0, none⟩) (A.length + 1) capa)) (B := (A ++ [x])) (g := wa.heap.size) (x := (x + c)) (by rfl) (.tmp 43) (.tmp 51) 22 (by rfl) i0 Try.underlying22 hi hz0 hz1 hz2 ?_ (by rfl) (by omega) 1 (by rfl) ?_ ?_; (· (repeat (first | with_reducible exact hTa.swap | with_reducible refine Two.alloc ?_ _ | with_reducible refine Two.drew ?_))); (· (repeat (first | (refine fresh_new (base := w.heap.size) (A := B) (B := (A ++ [x])) ?_ _ ?_; (· (repeat (first | with_reducible exact hTa.swap | with_reducible refine Two.alloc ?_ _ | with_reducible refine Two.drew ?_))); (· (first | rfl | exact (alloc_size _ _).symm))) | (refine fresh_new (base := w.heap.size) (A := B) (B := A) ?_ _ ?_; (· (repeat (first | with_reducible exact HT.out.swap | with_reducible refine Two.alloc ?_ _ | with_reducible refine Two.drew ?_))); (· (first | rfl | exact (alloc_size _ _).symm))) | with_reducible refine Fresh.alloc ?_ _ | with_reducible refine Fresh.drew ?_ | (with_reducible refine (hSa.fresh _ _ (Fresh.swap ?_)).swap)))); intro gb capb wb hTb hSb; have hBb : Below w.heap.size w wb := (by refine Below.trans ?_ hSb.grows; (· (repeat (first | with_reducible exact hBa | with_reducible refine bl_alloc ?_ _ | with_reducible refine bl_drew ?_)))); have hcb : wb.cell? ⟨gl, ol + k, none⟩ = some (.int .i32 x) := (hBb.cell (p := ⟨gl, ol + k, none⟩) hgl).trans HCELL.out; have hgb : gl < wb.heap.size := Nat.lt_of_lt_of_le hgl hBb.size; have hgb1 : gl < wb.heap.size + 1 := Nat.lt_succ_of_lt hgb) | fail)
        all_goals clear hcelly hgw hgw1 hgw2 hgy hcw
        all_goals first
          | have HTF : Two w.heap.size wb (.slice (some ⟨ga, 0, none⟩) (A.length + 1) capa) (A ++ [x]) (.slice (some ⟨gb, 0, none⟩) (B.length + 1) capb) (B ++ [x + c]) := hTb.swap
            have HBF : Below w.heap.size w wb := hBb
            clear hTa hTb hSa hSb hBa hBb hca hcb hga hgb hga1 hgb1
          | have HTF : Two w.heap.size wa (.slice (some ⟨ga, 0, none⟩) (A.length + 1) capa) (A ++ [x]) (.slice (some ⟨gb, 0, none⟩) (B.length + 1) capb) (B ++ [x + c]) := hTa
            have HBF : Below w.heap.size w wa := hBa
            clear hTa hTb hSa hSb hBa hBb hca hcb hga hgb hga1 hgb1
        all_goals go_wp2_with fail
        all_goals rw [hAl, hBl] at HTF
        all_goals exact ⟨⟨k + 1, rfl, hlt1, hlt2, HBF, by rw [hA.out, hB.out]; exact HTF, by rw [hds.out, max3_if]⟩, by simp only [intOf]; omega⟩
      · obtain rfl := hcn hky
        clear hcy
        rw [Int.add_zero] at hB
        go_wp2_with fail
        -- arms2
        go_region_law (first | (refine step_two (base := w.heap.size) (va := u7) (A := A) (vb := u8) (B := B) (g := wr.heap.size) (x := x) (by rfl) (.tmp 35) (.tmp 41) 22 (by rfl) i0 Try.underlying22 hi hz0 hz1 hz2 ?_ (by rfl) (by omega) 1 (by rfl) ?_ ?_; (· (repeat (first | with_reducible exact HT.out | with_reducible refine Two.alloc ?_ _ | with_reducible refine Two.drew ?_))); (· (repeat (first | (refine fresh_new (base := w.heap.size) (A := A) (B := B) ?_ _ ?_; (· (repeat (first | with_reducible exact HT.out | with_reducible refine Two.alloc ?_ _ | with_reducible refine Two.drew ?_))); (· (first | rfl | exact (alloc_size _ _).symm))) | with_reducible refine Fresh.alloc ?_ _ | with_reducible refine Fresh.drew ?_))); intro ga capa wa hTa hSa; have hBa : Below w.heap.size w wa := (by refine Below.trans ?_ hSa.grows; (· (repeat (first | with_reducible exact HG.out | with_reducible refine bl_alloc ?_ _ | with_reducible refine bl_drew ?_)))); have hca : wa.cell? ⟨gl, ol + k, none⟩ = some (.int .i32 x) := (hBa.cell (p := ⟨gl, ol + k, none⟩) hgl).trans HCELL.out; have hga : gl < wa.heap.size := Nat.lt_of_lt_of_le hgl hBa.size; have hga1 : gl < wa.heap.size + 1 := Nat.lt_succ_of_lt hga) | (refine step_two (base := w.heap.size) (va := u7) (A := A) (vb := u8) (B := B) (g := (wr.heap.size + 1)) (x := x) (by rfl) (.tmp 35) (.tmp 41) 22 (by rfl) i0 Try.underlying22 hi hz0 hz1 hz2 ?_ (by rfl) (by omega) 1 (by rfl) ?_ ?_; (· (repeat (first | with_reducible exact HT.out | with_reducible refine Two.alloc ?_ _ | with_reducible refine Two.drew ?_))); (· (repeat (first | (refine fresh_new (base := w.heap.size) (A := A) (B := B) ?_ _ ?_; (· (repeat (first | with_reducible exact HT.out | with_reducible refine Two.alloc ?_ _ | with_reducible refine Two.drew ?_))); (· (first | rfl | exact (alloc_size _ _).symm))) | with_reducible refine Fresh.alloc ?_ _ | with_reducible refine Fresh.drew ?_))); intro ga capa wa hTa hSa; have hBa : Below w.heap.size w wa := (by refine Below.trans ?_ hSa.grows; (· (repeat (first | with_reducible exact HG.out | with_reducible refine bl_alloc ?_ _ | with_reducible refine bl_drew ?_)))); have hca : wa.cell? ⟨gl, ol + k, none⟩ = some (.int .i32 x) := (hBa.cell (p := ⟨gl, ol + k, none⟩) hgl).trans HCELL.out; have hga : gl < wa.heap.size := Nat.lt_of_lt_of_le hgl hBa.size; have hga1 : gl < wa.heap.size + 1 := Nat.lt_succ_of_lt hga) | (refine step_two (base := w.heap.size) (va := u7) (A := A) (vb := (.slice (some ⟨gb, 0, none⟩) (B.length + 1) capb)) (B := (B ++ [x])) (g := wr.heap.size) (x := x) (by rfl) (.tmp 35) (.tmp 41) 22 (by rfl) i0 Try.underlying22 hi hz0 hz1 hz2 ?_ (by rfl) (by omega) 1 (by rfl) ?_ ?_; (· (repeat (first | with_reducible exact hTb.swap | with_reducible refine Two.alloc ?_ _ | with_reducible refine Two.drew ?_))); (· (repeat (first | (refine fresh_new (base := w.heap.size) (A := A) (B := (B ++ [x])) ?_ _ ?_; (· (repeat (first | with_reducible exact hTb.swap | with_reducible refine Two.alloc ?_ _ | with_reducible refine Two.drew ?_))); (· (first | rfl | exact (alloc_size _ _).symm))) | (refine fresh_new (base := w.heap.size) (A := A) (B := B) ?_ _ ?_; (· (repeat (first | with_reducible exact HT.out | with_reducible refine Two.alloc ?_ _ | with_reducible refine Two.drew ?_))); (· (first | rfl | exact (alloc_size _ _).symm))) | with_reducible refine Fresh.alloc ?_ _ | with_reducible refine Fresh.drew ?_ | (with_reducible refine (hSb.fresh _ _ (Fresh.swap ?_)).swap)))); intro ga capa wa hTa hSa; have hBa : Below w.heap.size w wa := (by refine Below.trans ?_ hSa.grows; (· (repeat (first | with_reducible exact hBb | with_reducible refine bl_alloc ?_ _ | with_reducible refine bl_drew ?_)))); have hca : wa.cell? ⟨gl, ol + k, none⟩ = some (.int .i32 x) := (hBa.cell (p := ⟨gl, ol + k, none⟩) hgl).trans HCELL.out; have hga : gl < wa.heap.size := Nat.lt_of_lt_of_le hgl hBa.size; have hga1 : gl < wa.heap.size + 1 := Nat.lt_succ_of_lt hga) | (refine step_two (base := w.heap.size) (va := u7) (A := A) (vb := (.slice (some ⟨gb, 0, none⟩) (B.length + 1) capb)) (B := (B ++ [x])) (g := (wr.heap.size + 1)) (x := x) (by rfl) (.tmp 35) (.tmp 41) 22 (by rfl) i0 Try.underlying22 hi hz0 hz1 hz2 ?_ (by rfl) (by omega) 1 (by rfl) ?_ ?_; (· (repeat (first | with_reducible exact hTb.swap | with_reducible refine Two.alloc ?_ _ | with_reducible refine Two.drew ?_))); (· (repeat (first | (refine fresh_new (base := w.heap.size) (A := A) (B := (B ++ [x])) ?_ _ ?_; (· (repeat (first | with_reducible exact hTb.swap | with_reducible refine Two.alloc ?_ _ | with_reducible refine Two.drew ?_))); (· (first | rfl | exact (alloc_size _ _).symm))) | (refine fresh_new (base := w.heap.size) (A := A) (B := B) ?_ _ ?_; (· (repeat (first | with_reducible exact HT.out | with_reducible refine Two.alloc ?_ _ | with_reducible refine Two.drew ?_))); (· (first | rfl | exact (alloc_size _ _).symm))) | with_reducible refine Fresh.alloc ?_ _ | with_reducible refine Fresh.drew ?_ | (with_reducible refine (hSb.fresh _ _ (Fresh.swap ?_)).swap)))); intro ga capa wa hTa hSa; have hBa : Below w.heap.size w wa := (by refine Below.trans ?_ hSa.grows; (· (repeat (first | with_reducible exact hBb | with_reducible refine bl_alloc ?_ _ | with_reducible refine bl_drew ?_)))); have hca : wa.cell? ⟨gl, ol + k, none⟩ = some (.int .i32 x) := (hBa.cell (p := ⟨gl, ol + k, none⟩) hgl).trans HCELL.out; have hga : gl < wa.heap.size := Nat.lt_of_lt_of_le hgl hBa.size; have hga1 : gl < wa.heap.size + 1 := Nat.lt_succ_of_lt hga) | (refine step_two (base := w.heap.size) (va := u7) (A := A) (vb := (.slice (some ⟨gb, 0, none⟩) (B.length + 1) capb)) (B := (B ++ [x])) (g := wb.heap.size) (x := x) (by rfl) (.tmp 35) (.tmp 41) 22 (by rfl) i0 Try.underlying22 hi hz0 hz1 hz2 ?_ (by rfl) (by omega) 1 (by rfl) ?_ ?_; (· (repeat (first | with_reducible exact hTb.swap | with_reducible refine Two.alloc ?_ _ | with_reducible refine Two.drew ?_))); (· (repeat (first | (refine fresh_new (base := w.heap.size) (A := A) (B := (B ++ [x])) ?_ _ ?_; (· (repeat (first | with_reducible exact hTb.swap | with_reducible refine Two.alloc ?_ _ | with_reducible refine Two.drew ?_))); (· (first | rfl | exact (alloc_size _ _).symm))) | (refine fresh_new (base := w.heap.size) (A := A) (B := B) ?_ _ ?_; (· (repeat (first | with_reducible exact HT.out | with_reducible refine Two.alloc ?_ _ | with_reducible refine Two.drew ?_))); (· (first | rfl | exact (alloc_size _ _).symm))) | with_reducible refine Fresh.alloc ?_ _ | with_reducible refine Fresh.drew ?_ | (with_reducible refine (hSb.fresh _ _ (Fresh.swap ?_)).swap)))); intro ga capa wa hTa hSa; have hBa : Below w.heap.size w wa := (by refine Below.trans ?_ hSa.grows; (· (repeat (first | with_reducible exact hBb | with_reducible refine bl_alloc ?_ _ | with_reducible refine bl_drew ?_)))); have hca : wa.cell? ⟨gl, ol + k, none⟩ = some (.int .i32 x) := (hBa.cell (p := ⟨gl, ol + k, none⟩) hgl).trans HCELL.out; have hga : gl < wa.heap.size := Nat.lt_of_lt_of_le hgl hBa.size; have hga1 : gl < wa.heap.size + 1 := Nat.lt_succ_of_lt hga) | (refine step_two (base := w.heap.size) (va := u8) (A := B) (vb := u7) (B := A) (g := wr.heap.size) (x := x) (by rfl) (.tmp 43) (.tmp 51) 22 (by rfl) i0 Try.underlying22 hi hz0 hz1 hz2 ?_ (by rfl) (by omega) 1 (by rfl) ?_ ?_; (· (repeat (first | with_reducible exact HT.out.swap | with_reducible refine Two.alloc ?_ _ | with_reducible refine Two.drew ?_))); (· (repeat (first | (refine fresh_new (base := w.heap.size) (A := B) (B := A) ?_ _ ?_; (· (repeat (first | with_reducible exact HT.out.swap | with_reducible refine Two.alloc ?_ _ | with_reducible refine Two.drew ?_))); (· (first | rfl | exact (alloc_size _ _).symm))) | with_reducible refine Fresh.alloc ?_ _ | with_reducible refine Fresh.drew ?_))); intro gb capb wb hTb hSb; have hBb : Below w.heap.size w wb := (by refine Below.trans ?_ hSb.grows; (· (repeat (first | with_reducible exact HG.out | with_reducible refine bl_alloc ?_ _ | with_reducible refine bl_drew ?_)))); have hcb : wb.cell? ⟨gl, ol + k, none⟩ = some (.int .i32 x) := (hBb.cell (p := ⟨gl, ol + k, none⟩) hgl).trans HCELL.out; have hgb : gl < wb.heap.size := Nat.lt_of_lt_of_le hgl hBb.size; have hgb1 : gl < wb.heap.size + 1 := Nat.lt_succ_of_lt hgb) | (refine step_two (base := w.heap.size) (va := u8) (A := B) (vb := u7) (B := A) (g := (wr.heap.size + 1)) (x := x) (by rfl) (.tmp 43) (.tmp 51) 22 (by rfl) i0 Try.underlying22 hi hz0 hz1 hz2 ?_ (by rfl) (by omega) 1 (by rfl) ?_ ?_; (· (repeat (first | with_reducible exact HT.out.swap | with_reducible refine Two.alloc ?_ _ | with_reducible refine Two.drew ?_))); (· (repeat (first | (refine fresh_new (base := w.heap.size) (A := B) (B := A) ?_ _ ?_; (· (repeat (first | with_reducible exact HT.out.swap | with_reducible refine Two.alloc ?_ _ | with_reducible refine Two.drew ?_))); (· (first | rfl | exact (alloc_size _ _).symm))) | with_reducible refine Fresh.alloc ?_ _ | with_reducible refine Fresh.drew ?_))); intro gb capb wb hTb hSb; have hBb : Below w.heap.size w wb := (by refine Below.trans ?_ hSb.grows; (· (repeat (first | with_reducible exact HG.out | with_reducible refine bl_alloc ?_ _ | with_reducible refine bl_drew ?_)))); have hcb : wb.cell? ⟨gl, ol + k, none⟩ = some (.int .i32 x) := (hBb.cell (p := ⟨gl, ol + k, none⟩) hgl).trans HCELL.out; have hgb : gl < wb.heap.size := Nat.lt_of_lt_of_le hgl hBb.size; have hgb1 : gl < wb.heap.size + 1 := Nat.lt_succ_of_lt hgb) | (refine step_two (base := w.heap.size) (va := u8) (A := B) (vb := (.slice (some ⟨ga, 0, none⟩) (A.length + 1) capa)) (B := (A ++ [x])) (g := wr.heap.size) (x := x) (by rfl) (.tmp 43) (.tmp 51) 22 (by rfl) i0 Try.underlying22 hi hz0 hz1 hz2 ?_ (by rfl) (by omega) 1 (by rfl) ?_ ?_; (· (repeat (first | with_reducible exact hTa.swap | with_reducible refine Two.alloc ?_ _ | with_reducible refine Two.drew ?_))); (· (repeat (first | (refine fresh_new (base := w.heap.size) (A := B) (B := (A ++ [x])) ?_ _ ?_; (· (repeat (first | with_reducible exact hTa.swap | with_reducible refine Two.alloc ?_ _ | with_reducible refine Two.drew ?_))); (· (first | rfl | exact (alloc_size _ _).symm))) | (refine fresh_new (base := w.heap.size) (A := B) (B := A) ?_ _ ?_; (· (repeat (first | with_reducible exact HT.out.swap | with_reducible refine Two.alloc ?_ _ | with_reducible refine Two.drew ?_))); (· (first | rfl | exact (alloc_size _ _).symm))) | with_reducible refine Fresh.alloc ?_ _ | with_reducible refine Fresh.drew ?_ | (with_reducible refine (hSa.fresh _ _ (Fresh.swap ?_)).swap)))); intro gb capb wb hTb hSb; have hBb : Below w.heap.size w wb := (by refine Below.trans ?_ hSb.grows; (· (repeat (first | with_reducible exact hBa | with_reducible refine bl_alloc ?_ _ | with_reducible refine bl_drew ?_)))); have hcb : wb.cell? ⟨gl, ol + k, none⟩ = some (.int .i32 x) := (hBb.cell (p := ⟨gl, ol + k, none⟩) hgl).trans HCELL.out; have hgb : gl < wb.heap.size := Nat.lt_of_lt_of_le hgl hBb.size; have hgb1 : gl < wb.heap.size + 1 := Nat.lt_succ_of_lt hgb) | (refine step_two (base := w.heap.size) (va := u8) (A := B) (vb := (.slice (some ⟨ga, 0, none⟩) (A.length + 1) capa)) (B := (A ++ [x])) (g := (wr.heap.size + 1)) (x := x) (by rfl) (.tmp 43) (.tmp 51) 22 (by rfl) i0 Try.underlying22 hi hz0 hz1 hz2 ?_ (by rfl) (by omega) 1 (by rfl) ?_ ?_; (· (repeat (first | with_reducible exact hTa.swap | with_reducible refine Two.alloc ?_ _ | with_reducible refine Two.drew ?_))); (· (repeat (first | (refine fresh_new (base := w.heap.size) (A := B) (B := (A ++ [x])) ?_ _ ?_; (· (repeat (first | with_reducible exact hTa.swap | with_reducible refine Two.alloc ?_ _ | with_reducible refine Two.drew ?_))); (· (first | rfl | exact (alloc_size _ _).symm))) | (refine fresh_new (base := w.heap.size) (A := B) (B := A) ?_ _ ?_; (· (repeat (first | with_reducible exact HT.out.swap | with_reducible refine Two.alloc ?_ _ | with_reducible refine Two.drew ?_))); (· (first | rfl | exact (alloc_size _ _).symm))) | with_reducible refine Fresh.alloc ?_ _ | with_reducible refine Fresh.drew ?_ | (with_reducible refine (hSa.fresh _ _ (Fresh.swap ?_)).swap)))); intro gb capb wb hTb hSb; have hBb : Below w.heap.size w wb := (by refine Below.trans ?_ hSb.grows; (· (repeat (first | with_reducible exact hBa | with_reducible refine bl_alloc ?_ _ | with_reducible refine bl_drew ?_)))); have hcb : wb.cell? ⟨gl, ol + k, none⟩ = some (.int .i32 x) := (hBb.cell (p := ⟨gl, ol + k, none⟩) hgl).trans HCELL.out; have hgb : gl < wb.heap.size := Nat.lt_of_lt_of_le hgl hBb.size; have hgb1 : gl < wb.heap.size + 1 := Nat.lt_succ_of_lt hgb) | (refine step_two (base := w.heap.size) (va := u8) (A := B) (vb := (.slice (some ⟨ga, 0, none⟩) (A.length + 1) capa)) (B := (A ++ [x])) (g := wa.heap.size) (x := x) (by rfl) (.tmp 43) (.tmp 51) 22 (by rfl) i0 Try.underlying22 hi hz0 hz1 hz2 ?_ (by rfl) (by omega) 1 (by rfl) ?_ ?_; (· (repeat (first | with_reducible exact hTa.swap | with_reducible refine Two.alloc ?_ _ | with_reducible refine Two.drew ?_))); (· (repeat (first | (refine fresh_new (base := w.heap.size) (A := B) (B := (A ++ [x])) ?_ _ ?_; (· (repeat (first | with_reducible exact hTa.swap | with_reducible refine Two.alloc ?_ _ | with_reducible refine Two.drew ?_))); (· (first | rfl | exact (alloc_size _ _).symm))) | (refine fresh_new (base := w.heap.size) (A := B) (B := A) ?_ _ ?_; (· (repeat (first | with_reducible exact HT.out.swap | with_reducible refine Two.alloc ?_ _ | with_reducible refine Two.drew ?_))); (· (first | rfl | exact (alloc_size _ _).symm))) | with_reducible refine Fresh.alloc ?_ _ | with_reducible refine Fresh.drew ?_ | (with_reducible refine (hSa.fresh _ _ (Fresh.swap ?_)).swap)))); intro gb capb wb hTb hSb; have hBb : Below w.heap.size w wb := (by refine Below.trans ?_ hSb.grows; (· (repeat (first | with_reducible exact hBa | with_reducible refine bl_alloc ?_ _ | with_reducible refine bl_drew ?_)))); have hcb : wb.cell? ⟨gl, ol + k, none⟩ = some (.int .i32 x) := (hBb.cell (p := ⟨gl, ol + k, none⟩) hgl).trans HCELL.out; have hgb : gl < wb.heap.size := Nat.lt_of_lt_of_le hgl hBb.size; have hgb1 : gl < wb.heap.size + 1 := Nat.lt_succ_of_lt hgb) | fail)
        all_goals clear hgw hgw1 hgw2 hcw
        all_goals first
          | have HTF : Two w.heap.size wb (.slice (some ⟨ga, 0, none⟩) (A.length + 1) capa) (A ++ [x]) (.slice (some ⟨gb, 0, none⟩) (B.length + 1) capb) (B ++ [x]) := hTb.swap
            have HBF : Below w.heap.size w wb := hBb
            clear hTa hTb hSa hSb hBa hBb hca hcb hga hgb hga1 hgb1
          | have HTF : Two w.heap.size wa (.slice (some ⟨ga, 0, none⟩) (A.length + 1) capa) (A ++ [x]) (.slice (some ⟨gb, 0, none⟩) (B.length + 1) capb) (B ++ [x]) := hTa
            have HBF : Below w.heap.size w wa := hBa
            clear hTa hTb hSa hSb hBa hBb hca hcb hga hgb hga1 hgb1
        all_goals go_wp2_with fail
        all_goals rw [hAl, hBl] at HTF
        all_goals exact ⟨⟨k + 1, rfl, hlt1, hlt2, HBF, by rw [hA.out, hB.out]; exact HTF, by rw [hds.out]; congr 1; omega⟩, by simp only [intOf]; omega⟩
    · have HTa := Lib.hid HT.out.a.has
      have HTb := Lib.hid HT.out.b.has
      have hAl := nA_length l k
      have hBl := nB_length l y k
      have hd := nD_rng y RY.out k
      have hRA : Rng (nA l k) := fun x hx => by have := nA_rng l RL.out k x hx; omega
      have hRB : Rng (nB l y k) := fun x hx => by have := nB_rng l y RL.out RY.out k x hx; omega
      have hE := near_end f l y RL.out RY.out k
      have hma := fun v W h => HM.out v (nA l k) W h (by omega) hRA
      have hmb := fun v W h => HM.out v (nB l y k) W h (by omega) hRB
      rw [hAl] at hma
      rw [hBl] at hmb
      obtain ⟨A, eA⟩ : ∃ A, nA l k = A := ⟨_, rfl⟩
      obtain ⟨B, eB⟩ : ∃ B, nB l y k = B := ⟨_, rfl⟩
      obtain ⟨D, eD⟩ : ∃ D, nD y k = D := ⟨_, rfl⟩
      rw [eA] at hma HTa hE hAl
      rw [eB] at hmb HTb hE hBl
      rw [eD] at hE hd
      rw [eD]
      obtain ⟨M, eM⟩ : ∃ M, midI (trimI f A) = M := ⟨_, rfl⟩
      obtain ⟨N, eN⟩ : ∃ N, midI (trimI f B) = N := ⟨_, rfl⟩
      rw [eM] at hma hE
      rw [eN] at hmb hE
      obtain ⟨pa, ca, rfl⟩ := HTa.out.len hAl
      obtain ⟨pb, cb, rfl⟩ := HTb.out.len hBl
      have h1 : decide (M - N ≤ D) = true := decide_eq_true (by omega)
      have h2 : decide (N - M ≤ D) = true := decide_eq_true (by omega)
      have h3 : wrap64 (M - N) = M - N := by unfold wrap64; omega
      have h4 : wrap64 (N - M) = N - M := by unfold wrap64; omega
      have HMA := Lib.hid hma
      have HMB := Lib.hid hmb
      have hkk : k < nl → ¬ k < 40 := fun h h2 => hlt ⟨h, h2⟩
      clear hma hmb eA eB eD eM eN hRA hRB hE hd hAl hBl HT RL RY HM HCL HCY HY0 hlt
      by_cases hkn : k < nl
      all_goals (
        first | (have hk2 := hkk hkn; obtain rfl : k = 40 := by omega) | skip
        clear hkk
        go_wp2_with fail
        go_at_call 22
        refine (HMA.out _ _ HTa.out).mono ?_
        rintro e w1 ⟨rfl, hg1⟩
        have I1 := Lib.hid (HTb.out.grows hg1)
        have G1 := Lib.hid hg1
        clear hg1
        go_wp2_with fail
        go_at_call 22
        refine (HMB.out _ _ I1.out).mono ?_
        rintro e w2 ⟨rfl, hg2⟩
        have G2 := Lib.hid hg2
        clear hg2
        first | (by_cases h0 : 0 < k) | skip
        all_goals (
          first
            | (have h6 : decide ((0 : Int) < (k : Int)) = true := decide_eq_true (by omega)
               rw [decide_eq_true h0])
            | (have h6 : decide ((0 : Int) < (k : Int)) = false := decide_eq_false (by omega)
               rw [decide_eq_false h0])
            | rw [show decide (0 < 40) = true from rfl]
          go_wp2_with fail
          go_at_call 19
          refine (HW.out _).mono ?_
          rintro e w3 ⟨rfl, hg3⟩
          have G3 := Lib.hid hg3
          clear hg3
          go_wp2_with fail
          go_ret
          exact ⟨rfl, grows_trans _ _ _ (grows_trans _ _ _ (grows_trans _ _ _ HG.out G1.out) G2.out) G3.out⟩))
end Go.Proofs.Ytihfcaconbcdjaa
