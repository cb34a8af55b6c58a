/- Bytes as a string; whether bytes differ by a burst; the chapter's example. -/
import Derived.Test.YtfmpppdcbeadnaaDoorBurstE
import Derived.Laws.BytesArg
namespace Go.Proofs.YtfmpppdcbeadnaaDoor
open Go.RowKit Go.Sort

/-- Bytes as a string. -/
def strB (l : List Nat) : ByteArray := strOfNums (l.map fun (x : Nat) => (x : Int))
theorem ba_string {w : World} {v : Value} {l : List Nat} (h : BA w v l) : (convert 22 9 v).run Tryd.prog w = .ok (.string (strB l)) w := by
  obtain ⟨h1, ⟨b, o, cap, rfl, h2, h3, h4⟩ | ⟨rfl, rfl⟩⟩ := h
  · refine run_convert_bytes_arg w 22 5 Tryd.underlying22 Tryd.underlying5 b o _ cap (l.map fun (x : Nat) => (x : Int)) (by simp) (fun i hi => ?_) 9 Tryd.underlying9
    rw [h4 i hi]
    simp [List.getD_eq_getElem?_getD, hi]
  · exact run_convert_bytes_nil w 22 5 Tryd.underlying22 Tryd.underlying5 0 0 9 Tryd.underlying9

/-- Do bytes differ by a burst? -/
def isB (la lb : List Nat) (o : Option (Nat × Nat)) : Bool := decide (la.length = lb.length) && match o with | none => false | some p => decide ((p.2 : Int) - (p.1 : Int) + 1 ≤ 32)

set_option maxHeartbeats 1000000 in
theorem is_any (va vb : Value) (la lb : List Nat) (o : Option (Nat × Nat)) (w : World) (ha : BA w va la) (hb : BA w vb lb) (h1 : la.length ≤ 1000) (ho : SpanRel (DiffAt la lb) (8 * la.length) o) :
    Calls Tryd.prog 14 #[va, vb] w (fun e w' => e = .returned (.bool (isB la lb o)) ∧ ∃ m, w' = w.drewN m) := by
  have hd := differ_any va vb la lb o w ha hb h1 ho
  by_cases hlen : la.length = lb.length
  · rcases o with _ | ⟨f, g⟩
    · have hv : diffV la lb none = .tuple #[.int .i64 0, .int .i64 0, .bool true] := by unfold diffV; rw [if_pos hlen]; rfl
      have hi : isB la lb none = false := by simp [isB]
      rw [hv] at hd
      rw [hi]
      have HD := Lib.hid hd
      clear hd hv hi ha hb ho hlen h1
      go_enter Tryd.func14, Tryd.ntmps14
      go_wp2_with (go_at_call 13; refine (HD.out).mono ?_; rintro e w' ⟨rfl, m, rfl⟩)
      go_ret
      exact ⟨rfl, m, rfl⟩
    · have hv : diffV la lb (some (f, g)) = .tuple #[.int .i64 (f : Int), .int .i64 ((g : Int) - (f : Int) + 1), .bool true] := by unfold diffV; rw [if_pos hlen]; rfl
      have hfg : f ≤ g := ho.1
      have hi : isB la lb (some (f, g)) = decide ((g : Int) - (f : Int) + 1 ≤ 32) := by simp [isB, hlen]
      rw [hv] at hd
      rw [hi]
      obtain ⟨u, hu⟩ : ∃ u : Int, (g : Int) - (f : Int) + 1 = u := ⟨_, rfl⟩
      rw [hu] at hd ⊢
      have hu0 : 0 < u := by omega
      have HD := Lib.hid hd
      clear hd hv hi ha hb ho hlen h1 hu hfg
      go_enter Tryd.func14, Tryd.ntmps14
      by_cases h32 : u ≤ 32
      · go_wp2_with (go_at_call 13; refine (HD.out).mono ?_; rintro e w' ⟨rfl, m, rfl⟩)
        go_ret
        exact ⟨ret_bool (by simpa using h32), m, rfl⟩
      · go_wp2_with (go_at_call 13; refine (HD.out).mono ?_; rintro e w' ⟨rfl, m, rfl⟩)
        go_ret
        exact ⟨ret_bool (by simp), m, rfl⟩
  · have hv : diffV la lb o = .tuple #[.int .i64 0, .int .i64 0, .bool false] := by unfold diffV; rw [if_neg hlen]
    have hi : isB la lb o = false := by simp [isB, hlen]
    rw [hv] at hd
    rw [hi]
    have HD := Lib.hid hd
    clear hd hv hi ha hb ho hlen h1
    go_enter Tryd.func14, Tryd.ntmps14
    go_wp2_with (go_at_call 13; refine (HD.out).mono ?_; rintro e w' ⟨rfl, m, rfl⟩)
    go_ret
    exact ⟨rfl, m, rfl⟩

instance (l : List Nat) : Decidable (okB l) := inferInstanceAs (Decidable (∀ x ∈ l, x < 256))
theorem ba_lit (w : World) (l : List Nat) (hl : okB l) (T : TypeId) : BA (w.alloc (.cells (bv l).toArray T)) (.slice (some ⟨w.heap.size, 0, none⟩) l.length l.length) l := by
  refine ⟨hl, .inl ⟨w.heap.size, 0, l.length, rfl, Nat.le_refl _, by simp, fun i hi => ?_⟩⟩
  simp [go_sem, bv, hi]

theorem exTurn : turnN [0, 0] (7 % 16) 3 = [128, 1] := by decide
theorem exStr : strB [128, 1] = ⟨#[128, 1]⟩ := rfl
theorem exSpan : SpanRel (DiffAt [128, 1] [0, 0]) 16 (some (7, 8)) := by
  refine ⟨by omega, by omega, by unfold DiffAt; decide, by unfold DiffAt; decide, ?_⟩
  unfold DiffAt
  decide
theorem exWidth : widthN 10 = 3 := by decide

set_option maxHeartbeats 1000000 in
theorem works_any (w : World) (hT : TabAt 0 Lib.deBruijn32tab w) (h0 : 0 < w.heap.size) : Calls Tryd.prog 10 #[] w (RetV w (.bool true)) := by
  have hT2 : ∀ w', Grows w w' → TabAt 0 Lib.deBruijn32tab w' := fun w' hg i hi => (hg.cell (p := ⟨0, i, none⟩) h0).trans (hT i hi)
  have HT := Lib.hid hT2
  clear hT hT2
  have hb0 : ∀ W : World, BA (W.alloc (.cells #[.int .u8 0, .int .u8 0] 5)) (.slice (some ⟨W.heap.size, 0, none⟩) 2 2) [0, 0] := fun W => ba_lit W [0, 0] (by decide) _
  have HB0 := Lib.hid hb0
  clear hb0
  go_enter Tryd.func10, Tryd.ntmps10
  go_wp2_with fail
  refine (turn_any _ [0, 0] 7 3 _ (HB0.out w) (by decide) (by decide) (by decide)).mono ?_
  rintro e w1 ⟨v, rfl, hg1, hba1⟩
  have hba2 : BA w1 v [128, 1] := hba1
  have hg2 : Grows w w1 := bl_trans (bl_alloc (Below.refl _ _) _) hg1
  have HBA := Lib.hid hba2
  have HG := Lib.hid hg2
  clear hba1 hba2 hg1 hg2
  have hd := differ_any v _ [128, 1] [0, 0] (some (7, 8)) (w1.alloc (.cells #[.int .u8 0, .int .u8 0] 5)) (HBA.out.stays (bl_alloc (Below.refl _ _) _)) (HB0.out w1) (by decide) exSpan
  have hd2 : diffV [128, 1] [0, 0] (some (7, 8)) = .tuple #[.int .i64 7, .int .i64 2, .bool true] := rfl
  rw [hd2] at hd
  have HD := Lib.hid hd
  clear hd hd2
  have hst : ∀ n, (convert 22 9 v).run Tryd.prog ((w1.alloc (.cells #[.int .u8 0, .int .u8 0] 5)).drewN n) = .ok (.string ⟨#[128, 1]⟩) ((w1.alloc (.cells #[.int .u8 0, .int .u8 0] 5)).drewN n) := fun n =>
    ba_string (HBA.out.stays (bl_drewN (bl_alloc (Below.refl _ _) _) n))
  have hW : ∀ W, Grows w W → Calls Tryd.prog 11 #[.int .u32 10] W (fun e w' => e = .returned (.int .i64 3) ∧ W = w') := fun W hg => width_any 10 (by decide) W (HT.out W hg)
  have HW := Lib.hid hW
  clear hW
  go_wp2_with (first | (go_at_call 13; refine (HD.out).mono ?_; rintro e w' ⟨rfl, m, rfl⟩) | (go_at_call 11; refine (HW.out _ (bl_drewN (bl_alloc HG.out _) _)).mono ?_; rintro e w' ⟨rfl, rfl⟩))
  go_ret
  exact ⟨rfl, bl_drewN (bl_alloc HG.out _) _⟩
end Go.Proofs.YtfmpppdcbeadnaaDoor
