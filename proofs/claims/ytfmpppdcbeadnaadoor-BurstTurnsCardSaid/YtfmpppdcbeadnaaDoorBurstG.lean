/- The walks of BurstWidth and BurstDiffers. -/
import Derived.Test.YtfmpppdcbeadnaaDoorBurstF
namespace Go.Proofs.YtfmpppdcbeadnaaDoor
open Go.RowKit Go.Sort

/-- What the statement lists of memory: the table of math/bits. -/
def Laid (w : World) : Prop := TabAt 0 Lib.deBruijn32tab w ∧ 0 < w.heap.size
theorem Laid.later {w w' : World} (h : Laid w) (hg : Grows w w') : Laid w' := ⟨fun i hi => (hg.cell (p := ⟨0, i, none⟩) h.2).trans (h.1 i hi), Nat.lt_of_lt_of_le h.2 hg.size⟩

set_option maxHeartbeats 1000000 in
theorem burstWidth_walk (x : Nat) (w : World) (hx : x < 4294967296) (hL : Laid w) : Calls Tryd.prog 4 #[.int .u32 (x : Int)] w (RetV w (.bool true)) := by
  have c1 := width_any x hx w hL.1
  have c2 := rwidth_any x hx w
  have c3 := works_any w hL.1 hL.2
  obtain ⟨u, hu⟩ : ∃ u, widthN x = u := ⟨_, rfl⟩
  rw [hu] at c1 c2
  have C1 := Lib.hid c1
  have C2 := Lib.hid c2
  have C3 := Lib.hid c3
  clear c1 c2 c3 hu
  go_enter Tryd.func4, Tryd.ntmps4
  go_wp2_with (first | (go_at_call 11; refine (C1.out).mono ?_; rintro e w' ⟨rfl, rfl⟩) | (go_at_call 12; refine (C2.out).mono ?_; rintro e w' ⟨rfl, rfl⟩) | (go_at_call 10; refine (C3.out).mono ?_; rintro e w' ⟨rfl, hb⟩))
  go_ret
  exact ⟨rfl, hb⟩

theorem BA.slice {w : World} {v : Value} {l : List Nat} (h : BA w v l) : ∃ a cap, v = .slice a l.length cap := by
  obtain ⟨h1, ⟨b, o, cap, rfl, h2, h3, h4⟩ | ⟨rfl, rfl⟩⟩ := h
  · exact ⟨_, _, rfl⟩
  · exact ⟨none, 0, rfl⟩
theorem rdiffer_any (va vb : Value) (la lb : List Nat) (w : World) (ha : BA w va la) (hb : BA w vb lb) (hlen : la.length = lb.length) (h1 : la.length ≤ 1000) :
    Calls Tryd.prog 15 #[va, vb] w (fun e w' => ∃ v ds, e = .returned v ∧ SpanRel (DiffAt la lb) (8 * la.length) (spanOf ds) ∧ ds.length ≤ 8 * la.length ∧ Grows w w' ∧ w'.ownsRow w.heap.size 3 1 v ds.length (iv ds)) := by
  have key : ∀ (a b : Option Addr) (c d : Nat), (la.length = 0 ∨ ∃ b1 o1 b2 o2, a = some ⟨b1, o1, none⟩ ∧ b = some ⟨b2, o2, none⟩ ∧ b1 < w.heap.size ∧ b2 < w.heap.size ∧ bytesAt w b1 o1 la ∧ bytesAt w b2 o2 lb) →
      Calls Tryd.prog 15 #[.slice a la.length c, .slice b lb.length d] w (fun e w' => ∃ v ds, e = .returned v ∧ SpanRel (DiffAt la lb) (8 * la.length) (spanOf ds) ∧ ds.length ≤ 8 * la.length ∧ Grows w w' ∧ w'.ownsRow w.heap.size 3 1 v ds.length (iv ds)) :=
    fun a b c d hc => rdiffer_alike a b la lb c d w hlen.symm h1 ha.1 hb.1 hc
  obtain ⟨-, ⟨b1, o1, c1, rfl, -, h3, h4⟩ | ⟨rfl, rfl⟩⟩ := ha
  · obtain ⟨-, ⟨b2, o2, c2, rfl, -, h6, h5⟩ | ⟨rfl, rfl⟩⟩ := hb
    · exact key _ _ _ _ (.inr ⟨b1, o1, b2, o2, rfl, rfl, h3, h6, h4, h5⟩)
    · exact key _ none _ 0 (.inl hlen)
  · obtain ⟨-, ⟨b2, o2, c2, rfl, -, -, h5⟩ | ⟨rfl, rfl⟩⟩ := hb
    · exact key none _ 0 _ (.inl rfl)
    · exact key none none 0 0 (.inl rfl)

theorem iv_own {w : World} {base n : Nat} {v : Value} {l : List Nat} (h : w.ownsRow base 3 1 v n (iv l)) (hn : 0 < n) :
    ∃ g cap, v = .slice (some ⟨g, 0, none⟩) n cap ∧ base ≤ g ∧ g < w.heap.size := by
  rcases h.2 with ⟨_, h2⟩ | ⟨g, cap, cur, hv, hb, hg, _⟩
  · omega
  · exact ⟨g, cap, hv, hb, (Array.getElem?_eq_some_iff.1 hg).1⟩

theorem iv_slice {w : World} {base n : Nat} {v : Value} {l : List Value} (h : w.ownsRow base 3 1 v n l) : ∃ a cap, v = .slice a n cap := by
  rcases h.2 with ⟨h1, h2⟩ | ⟨g, cap, cur, hv, hb, hg, _⟩
  · subst h1; subst h2; exact ⟨none, 0, rfl⟩
  · exact ⟨_, cap, hv⟩
theorem spanOf_none {ds : List Nat} (h : spanOf ds = none) : ds = [] := by
  cases ds with
  | nil => rfl
  | cons a r => cases h

set_option maxHeartbeats 1000000 in
theorem burstDiffers_walk (va vb : Value) (la lb : List Nat) (w : World) (ha : BA0 w va la) (hb : BA0 w vb lb) (hL : Laid w) : Calls Tryd.prog 5 #[va, vb] w (RetV w (.bool true)) := by
  have HA := Lib.hid ha
  have HB := Lib.hid hb
  have HL := Lib.hid hL
  clear ha hb hL
  go_enter Tryd.func5, Tryd.ntmps5
  go_wp2_with fail
  refine (cut_came va la w HA.out).mono ?_
  rintro e w1 ⟨v1, rfl, hg1, hba1⟩
  have HG1 := Lib.hid hg1
  have HBA1 := Lib.hid hba1
  clear hg1 hba1
  go_wp2_with fail
  refine (cut_came vb lb w1 (HB.out.stays HG1.out)).mono ?_
  rintro e w2 ⟨v2, rfl, hg2, hba2⟩
  have hg := grows_trans _ _ _ HG1.out hg2
  have ha2 := HBA1.out.stays hg2
  have HG := Lib.hid hg
  clear hg hg2 HG1 HBA1 HA HB
  obtain ⟨xa, ea⟩ : ∃ x, la.take 200 = x := ⟨_, rfl⟩
  obtain ⟨xb, eb⟩ : ∃ x, lb.take 200 = x := ⟨_, rfl⟩
  have hn1 : xa.length ≤ 200 := by rw [← ea]; exact List.length_take_le _ _
  have hn2 : xb.length ≤ 200 := by rw [← eb]; exact List.length_take_le _ _
  rw [ea] at ha2
  rw [eb] at hba2
  clear ea eb
  obtain ⟨o, ho⟩ := span_exists (DiffAt xa xb) (8 * xa.length)
  have c1 := fun W (hg : Grows w2 W) => differ_any v1 v2 xa xb o W (ha2.stays hg) (hba2.stays hg) (by omega) ho
  have c2 := fun W (hg : Grows w2 W) => is_any v1 v2 xa xb o W (ha2.stays hg) (hba2.stays hg) (by omega) ho
  have c3 := fun W (hg : Grows w2 W) => works_any W (HL.out.later (grows_trans _ _ _ HG.out hg)).1 (HL.out.later (grows_trans _ _ _ HG.out hg)).2
  have c4 := fun W (hg : Grows w2 W) he => rdiffer_any v1 v2 xa xb W (ha2.stays hg) (hba2.stays hg) he (by omega)
  obtain ⟨a1, k1, rfl⟩ := ha2.slice
  obtain ⟨a2, k2, rfl⟩ := hba2.slice
  have C3 := Lib.hid c3
  clear c3 ha2 hba2
  by_cases hlen : xa.length = xb.length
  · have c4 := fun W hg => c4 W hg hlen
    cases o with
    | none =>
      have hv : diffV xa xb none = .tuple #[.int .i64 0, .int .i64 0, .bool true] := by unfold diffV; rw [if_pos hlen]; rfl
      have hi : isB xa xb none = false := by simp [isB]
      rw [hv] at c1
      rw [hi] at c2
      rw [← hlen] at c1 c2 c4 ⊢
      obtain ⟨n, en⟩ : ∃ n, xa.length = n := ⟨_, rfl⟩
      rw [en] at c1 c2 c4 hn1 ho ⊢
      have HO := Lib.hid ho
      have C1 := Lib.hid c1
      have C2 := Lib.hid c2
      have C4 := Lib.hid c4
      clear c1 c2 c4 hv hi ho hlen en hn2
      go_wp2_with (first | (go_at_call 13; refine (C1.out _ (Below.refl _ _)).mono ?_; rintro e w' ⟨rfl, m, rfl⟩))
      refine (C4.out _ (bl_drewN (Below.refl _ _) m)).mono ?_
      rintro e w3 ⟨v, ds, rfl, hs, -, hg3, hown⟩
      have hds := spanOf_none (span_one hs HO.out)
      subst hds
      obtain ⟨a3, k3, rfl⟩ := iv_slice hown
      have HG3 := Lib.hid (grows_trans _ _ _ (bl_drewN (Below.refl _ _) m) hg3)
      clear hs hg3 hown
      go_wp2_with (first | (go_at_call 14; refine (C2.out _ HG3.out).mono ?_; rintro e w' ⟨rfl, m2, rfl⟩) | (go_at_call 10; refine (C3.out _ (by repeat (first | exact HG3.out | refine bl_drewN ?_ _))).mono ?_; rintro e w4 ⟨rfl, hb⟩))
      go_ret
      exact ⟨rfl, grows_trans _ _ _ HG.out (grows_trans _ _ _ (bl_drewN HG3.out _) hb)⟩
    | some fg =>
      obtain ⟨f, g⟩ := fg
      have hv : diffV xa xb (some (f, g)) = .tuple #[.int .i64 (f : Int), .int .i64 ((g : Int) - (f : Int) + 1), .bool true] := by unfold diffV; rw [if_pos hlen]; rfl
      have hi : isB xa xb (some (f, g)) = decide ((g : Int) - (f : Int) + 1 ≤ 32) := by simp [isB, hlen]
      rw [hv] at c1
      rw [hi] at c2
      have hfg : f ≤ g := ho.1
      have hgn : g < 8 * xa.length := ho.2.1
      rw [← hlen] at c1 c2 c4 ⊢
      obtain ⟨n, en⟩ : ∃ n, xa.length = n := ⟨_, rfl⟩
      rw [en] at c1 c2 c4 hn1 ho hgn ⊢
      have HO := Lib.hid ho
      have C1 := Lib.hid c1
      have C2 := Lib.hid c2
      have C4 := Lib.hid c4
      clear c1 c2 c4 hv hi ho hlen en hn2
      go_wp2_with (first | (go_at_call 13; refine (C1.out _ (Below.refl _ _)).mono ?_; rintro e w' ⟨rfl, m, rfl⟩))
      refine (C4.out _ (bl_drewN (Below.refl _ _) m)).mono ?_
      rintro e w3 ⟨v, ds, rfl, hs, hdl, hg3, hown⟩
      have hds := span_one hs HO.out
      obtain ⟨x, r, rfl, hf, hgl⟩ : ∃ x r, ds = x :: r ∧ x = f ∧ (x :: r).getLastD 0 = g := by
        cases ds with
        | nil => cases hds
        | cons x r =>
          simp only [spanOf, Option.some.injEq, Prod.mk.injEq] at hds
          exact ⟨x, r, rfl, hds.1, hds.2⟩
      subst hf
      obtain ⟨gb, k3, rfl, -, hgb⟩ := iv_own hown (by simp)
      have e0 : w3.cell? ⟨gb, 0, none⟩ = some (.int .i64 (x : Int)) := by
        rw [hown.cellAt 0 (by simp)]; rfl
      have e1 : w3.cell? ⟨gb, r.length, none⟩ = some (.int .i64 (g : Int)) := by
        rw [hown.cellAt r.length (by simp)]
        have h9 : (x :: r)[r.length]? = some g := by
          rw [← hgl, List.getLastD_eq_getLast?, List.getLast?_eq_getElem?]
          simp
        unfold iv
        rw [List.getElem?_map, h9]
        rfl
      have hrl : r.length + 1 ≤ 8 * n := by simpa using hdl
      obtain ⟨q, eq⟩ : ∃ q, r.length = q := ⟨_, rfl⟩
      have HG3 := Lib.hid (grows_trans _ _ _ (bl_drewN (Below.refl _ _) m) hg3)
      simp only [List.length_cons] at hdl ⊢
      rw [eq] at e1 hrl ⊢
      clear hs hg3 hown hds hgl eq hdl
      have t0 : (0 : Int) ≤ (q : Int) := by omega
      have t1 : (q : Int) + 1 - 1 = (q : Int) := by omega
      have t2 : (q : Int) < (q : Int) + 1 := by omega
      by_cases h32 : (g : Int) - (x : Int) + 1 ≤ 32
      · go_wp2_with fail
        refine wp_region_quiet_lit (by kernel_rfl) (by kernel_rfl) ?_
        repeat (first | go_big_quiet_step ((fail)) | quiet_step ((fail)))
        refine wpQuiet_nil ?_
        intro _ hcw1
        obtain ⟨nq, hcw2⟩ := hcw1
        subst hcw2
        go_wp2_with (first | (go_at_call 14; refine (C2.out _ (bl_drewN HG3.out _)).mono ?_; rintro e w' ⟨rfl, m2, rfl⟩) | (go_at_call 10; refine (C3.out _ (by repeat (first | exact HG3.out | refine bl_drewN ?_ _))).mono ?_; rintro e w4 ⟨rfl, hb⟩))
        go_ret
        exact ⟨rfl, grows_trans _ _ _ HG.out (grows_trans _ _ _ (by repeat (first | exact HG3.out | refine bl_drewN ?_ _)) hb)⟩
      · go_wp2_with fail
        refine wp_region_quiet_lit (by kernel_rfl) (by kernel_rfl) ?_
        repeat (first | go_big_quiet_step ((fail)) | quiet_step ((fail)))
        refine wpQuiet_nil ?_
        intro _ hcw1
        obtain ⟨nq, hcw2⟩ := hcw1
        subst hcw2
        go_wp2_with (first | (go_at_call 14; refine (C2.out _ (bl_drewN HG3.out _)).mono ?_; rintro e w' ⟨rfl, m2, rfl⟩) | (go_at_call 10; refine (C3.out _ (by repeat (first | exact HG3.out | refine bl_drewN ?_ _))).mono ?_; rintro e w4 ⟨rfl, hb⟩))
        go_ret
        exact ⟨rfl, grows_trans _ _ _ HG.out (grows_trans _ _ _ (by repeat (first | exact HG3.out | refine bl_drewN ?_ _)) hb)⟩
  · have hv : diffV xa xb o = .tuple #[.int .i64 0, .int .i64 0, .bool false] := by unfold diffV; rw [if_neg hlen]
    have hi : isB xa xb o = false := by simp [isB, hlen]
    rw [hv] at c1
    rw [hi] at c2
    have hne : ((xa.length : Int) != (xb.length : Int)) = true := by simp; omega
    have C1 := Lib.hid c1
    have C2 := Lib.hid c2
    clear c1 c2 c4 hv hi ho hlen
    obtain ⟨n, en⟩ : ∃ n, xa.length = n := ⟨_, rfl⟩
    obtain ⟨n2, en2⟩ : ∃ n, xb.length = n := ⟨_, rfl⟩
    rw [en] at C1 C2 hne ⊢
    rw [en2] at C1 C2 hne ⊢
    clear en en2
    go_wp2_with (first | (go_at_call 13; refine (C1.out _ (Below.refl _ _)).mono ?_; rintro e w' ⟨rfl, m, rfl⟩) | (go_at_call 14; refine (C2.out _ (bl_drewN (Below.refl _ _) _)).mono ?_; rintro e w' ⟨rfl, m2, rfl⟩) | (go_at_call 10; refine (C3.out _ (by repeat (first | exact Below.refl _ _ | refine bl_drewN ?_ _))).mono ?_; rintro e w4 ⟨rfl, hb⟩))
    go_ret
    exact ⟨rfl, grows_trans _ _ _ HG.out (grows_trans _ _ _ (by repeat (first | exact Below.refl _ _ | refine bl_drewN ?_ _)) hb)⟩
end Go.Proofs.YtfmpppdcbeadnaaDoor
