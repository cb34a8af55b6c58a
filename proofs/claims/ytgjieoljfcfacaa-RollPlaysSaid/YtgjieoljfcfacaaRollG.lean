/- A roll's Drop: a range over its map that strikes keys. -/
import Derived.Test.YtgjieoljfcfacaaRollF
namespace Go.Proofs.Ytgjieoljfcfacaa
open Go.RowKit Go.Sort Go.Maps
set_option maxHeartbeats 1000000
set_option maxRecDepth 100000
def litN : Lit → Int
  | .int _ x => x
  | _ => 0
/-- Those entries that are not below, or are still to come. -/
def FsB (b : Int) (es : List (Lit × DataW Unit)) (left : Lit → Bool) : DataW Unit := .map (es.filter fun p => decide (b ≤ litN p.1) || left p.1)
section
variable {b : Int} {es : List (Lit × DataW Unit)} {left : Lit → Bool}
theorem FsB_start (hkeys : ∀ p ∈ es, WideAt.IsKeyLit p.1) : FsB b es (Maps.has (.map es)) = .map es := by
  unfold FsB
  rw [List.filter_eq_self.2 (fun p hp => by
    have : Maps.has (DataW.map es) p.1 = true := List.any_eq_true.2 ⟨p, hp, WideAt.sameKey_self (hkeys p hp)⟩
    simp [this])]
theorem FsB_end (hl : ∀ kl, left kl = false) : FsB b es left = .map (es.filter fun p => decide (b ≤ litN p.1)) := by
  unfold FsB
  congr 1
  exact List.filter_congr (fun p _ => by simp [hl])
theorem FsB_struck {x : Int} (hx : x < b) : (FsB b es left).del (keyL x) = FsB b es (fun z => left z && !z.sameKey (keyL x)) := by
  show DataW.map ((es.filter fun p => decide (b ≤ litN p.1) || left p.1).filter fun p => !p.1.sameKey (keyL x)) = _
  unfold FsB
  rw [List.filter_filter]
  congr 1
  refine List.filter_congr (fun p hp => ?_)
  cases hs : p.1.sameKey (keyL x)
  · simp [hs]
  · have e := WideAt.sameKey_eq hs
    rw [e] at hs
    simp [e, litN, hx, hs]
theorem FsB_stays {x : Int} (hx : ¬ x < b) : FsB b es left = FsB b es (fun z => left z && !z.sameKey (keyL x)) := by
  unfold FsB
  congr 1
  refine List.filter_congr (fun p hp => ?_)
  cases hs : p.1.sameKey (keyL x)
  · simp [hs]
  · have e := WideAt.sameKey_eq hs
    have hb : b ≤ x := by omega
    simp [e, litN, hb]
end
theorem has_filter (b : Int) (es : List (Lit × DataW Unit)) (x : Int) : Maps.has (.map (es.filter fun p => decide (b ≤ litN p.1))) (keyL x) = (decide (b ≤ x) && Maps.has (.map es) (keyL x)) := by
  rw [Bool.eq_iff_iff, Bool.and_eq_true, decide_eq_true_eq]
  constructor
  · intro h
    obtain ⟨p, hp, hk⟩ := List.any_eq_true.1 h
    obtain ⟨h1, h2⟩ := List.mem_filter.1 hp
    have e := WideAt.sameKey_eq hk
    rw [e] at h2
    exact ⟨of_decide_eq_true h2, List.any_eq_true.2 ⟨p, h1, hk⟩⟩
  · rintro ⟨h1, h⟩
    obtain ⟨p, hp, hk⟩ := List.any_eq_true.1 h
    have e := WideAt.sameKey_eq hk
    exact List.any_eq_true.2 ⟨p, List.mem_filter.2 ⟨hp, by rw [e]; exact decide_eq_true h1⟩, hk⟩
theorem valN_filter (b : Int) {es : List (Lit × DataW Unit)} (hap : es.Pairwise (fun p q => p.1 ≠ q.1)) (x : Int) : valN (.map (es.filter fun p => decide (b ≤ litN p.1))) x = if b ≤ x then valN (.map es) x else 0 := by
  split
  · rename_i hb
    cases hh : Maps.has (.map es) (keyL x)
    · have h2 : Maps.has (.map (es.filter fun p => decide (b ≤ litN p.1))) (keyL x) = false := by rw [has_filter, hh, Bool.and_false]
      unfold valN
      rw [Maps.atKey_of_not_has hh, Maps.atKey_of_not_has h2]
    · obtain ⟨p, hp, hk⟩ := List.any_eq_true.1 hh
      have e := WideAt.sameKey_eq hk
      obtain ⟨k, d⟩ := p
      simp only at e
      subst e
      unfold valN
      rw [WideAt.atKey_mem _ (isKeyL x) hap hp, WideAt.atKey_mem _ (isKeyL x) (hap.filter _) (List.mem_filter.2 ⟨hp, decide_eq_true hb⟩)]
  · rename_i hb
    have h2 : Maps.has (.map (es.filter fun p => decide (b ≤ litN p.1))) (keyL x) = false := by rw [has_filter, decide_eq_false hb, Bool.false_and]
    unfold valN
    rw [Maps.atKey_of_not_has h2]
    rfl
theorem RollR.drop {es : List (Lit × DataW Unit)} {l : NL} (h : RollR (.map es) l) (hap : es.Pairwise (fun p q => p.1 ≠ q.1)) (b : Int) : RollR (.map (es.filter fun p => decide (b ≤ litN p.1))) (keepN l fun x => decide (b ≤ x)) := by
  refine ⟨fun x => ?_, fun x => ?_, fun p hp => h.rng p (List.mem_filter.1 hp).1⟩
  · rw [has_filter, h.has, Bool.eq_iff_iff, Bool.and_eq_true, decide_eq_true_eq, decide_eq_true_eq, decide_eq_true_eq, mem_keep, decide_eq_true_eq]
  · rw [valN_filter b hap, setN_keep, h.val]
    by_cases hb : b ≤ x <;> simp [hb]
theorem keep_len (l : NL) (f : Int → Bool) : (keepN l f).length ≤ l.length := List.length_filter_le _ _
theorem nums_keep_len (l : NL) (f : Int → Bool) : (numsN (keepN l f)).length ≤ (numsN l).length := by
  unfold keepN
  rw [nums_filter]
  exact List.length_filter_le _ _
theorem sub_wrap {a b : Nat} (h : b ≤ a) (ha : a ≤ 1000) : wrap64 ((a : Int) - (b : Int)) = (a : Int) - (b : Int) := by unfold wrap64; omega
/-- What Drop leaves. -/
def Dropped (w : World) (b m : Nat) (most : Int) (l l' : NL) (e : Ending) (w' : World) : Prop := e = .returned (.int .i64 (((numsN l).length : Int) - ((numsN l').length : Int))) ∧ ∃ D, RollAt w' b m D most ∧ RollR D l' ∧ w.grownBy w' (some m)
theorem drop_any (w : World) {b m : Nat} {D : DataW Unit} {most : Int} {l : NL} (below : Int) (h : RollAt w b m D most) (hr : RollR D l) (hs : l.length ≤ 1000) :
    Calls Try.prog 13 #[.pointer (some ⟨b, 0, none⟩), .int .i64 below] w (Dropped w b m most l (keepN l fun x => decide (below ≤ x))) := by
  have hbm : b ≠ m := roll_apart h.c0 h.own
  have hsz := h.size hr
  obtain ⟨es, rfl, hap, hki⟩ := own_ints h.own setLaw Try.underlying2
  have hkeys : ∀ p ∈ es, WideAt.IsKeyLit p.1 := fun p hp => by obtain ⟨x, hx, _⟩ := hki p hp; rw [hx]; exact isKeyL x
  have hl := fun ty => h.own.len Try.underlying46 ty
  have c0 := h.c0
  have c1 := h.c1
  have ho := h.own
  have HC0 := Lib.hid c0
  have HC1 := Lib.hid c1
  have HML := Lib.hid ho.lt
  have HBL := Lib.hid (cell_lt c0)
  have HSZ := Lib.hid hsz
  have HAP := Lib.hid hap
  have HKE := Lib.hid hkeys
  have HR := Lib.hid hr
  have HBM := Lib.hid hbm
  have HLS := Lib.hid hs
  obtain ⟨n, en⟩ : ∃ n, Maps.size (.map es : DataW Unit) = n := ⟨_, rfl⟩
  rw [en] at hl ho HSZ
  have EN := Lib.hid en
  clear h hr hsz hap hki hkeys hbm hs en c1
  go_enter Try.func13, Try.ntmps13
  go_wp2_with (first | (at_range; refine wpList_range_own _ rfl _ 46 rfl 2 39 setLaw Try.underlying46 _ m n (.map es) rfl ho ?_; intro w0 hrg0 hg0 hs0))
  go_frame
  go_loopw [6] (fun _ wr => ∃ (left : Lit → Bool) (cnt : Nat), wr.ranges Try.prog 2 (plainElem Try.prog 39) m w.heap.size n (FsB below es left) left cnt ∧ w.grownBy wr (some m))
    (fun _ wr => wr.rangeLeft m w.heap.size)
  case atStart => exact ⟨_, _, by rw [FsB_start HKE.out]; exact hrg0, hg0.but _⟩
  case round =>
    obtain ⟨left, cnt, hrg, hgw⟩ := hrel
    have c0 : wr.cell? ⟨b, 0, none⟩ = some (.map (some m)) := (World.cell?_of_block (a := ⟨b, 0, none⟩) (hgw.block b HBL.out (by simpa using HBM.out))).trans HC0.out
    clear hl
    go_wp2_with (first | (at_next; refine wpList_next_ranges_ii _ rfl _ rfl 2 39 .i64 .u64 setLaw Try.underlying2 Try.underlying39 m w.heap.size n _ _ _ rfl hrg ?_ ?_))
    · intro _ hl0
      have hown := hrg.owns
      rw [FsB_end hl0] at hown
      have hl := fun ty => hown.len Try.underlying46 ty
      have HO := Lib.hid hown
      have HG := Lib.hid hgw
      obtain ⟨D', eD⟩ : ∃ D', DataW.map (es.filter fun p => decide (below ≤ litN p.1)) = D' := ⟨_, rfl⟩
      rw [eD] at hl
      have hra : RollAt wr b m D' most := ⟨c0, (World.cell?_of_block (a := ⟨b, 1, none⟩) (hgw.block b HBL.out (by simpa using HBM.out))).trans HC1.out, by rw [← eD]; exact own_exact hown⟩
      have hrr : RollR D' (keepN l fun x => decide (below ≤ x)) := by rw [← eD]; exact HR.out.drop HAP.out below
      have hsz2 := hra.size hrr
      have hwr := sub_wrap (nums_keep_len l fun x => decide (below ≤ x)) (Nat.le_trans (nums_len l) HLS.out)
      rw [← HSZ.out, ← hsz2] at hwr
      have HX := Lib.hid (And.intro hra hrr)
      have HE := Lib.hid (show Ending.returned (.int .i64 ((n : Int) - (Maps.size D' : Int))) = .returned (.int .i64 (((numsN l).length : Int) - ((numsN (keepN l fun x => decide (below ≤ x))).length : Int))) by rw [HSZ.out, hsz2])
      clear hown hgw hrg eD hra hrr hsz2 hl0
      go_wp2_with fail
      go_ret
      exact ⟨by first | exact HE.out | (rw [hwr]; exact HE.out), D', HX.out.1, HX.out.2, HG.out⟩
    · intro x c w1 cnt1 hwx hwc hlx hat hrg1 hlt hg1 hs1 hen
      have hgw1 := hgw.andThen hg1 (fun j hj => by cases hj; exact Or.inl (Nat.le_refl _))
      have c01 : w1.cell? ⟨b, 0, none⟩ = some (.map (some m)) := (World.cell?_of_block (a := ⟨b, 0, none⟩) (hgw1.block b HBL.out (by simpa using HBM.out))).trans HC0.out
      have HG1 := Lib.hid hgw1
      have HRG := Lib.hid hrg
      clear hgw hgw1 hat
      by_cases hx : x < below
      · go_wp2_with (first | (at_delete; refine wpList_delete_ranges _ rfl _ _ 46 2 rfl 39 setLaw Try.underlying46 _ m w.heap.size n _ _ _ rfl hrg1 _ _ rfl (keyOf_int_mk Try.underlying2 hwx) ?_; intro w2 cnt2 hrg2 hle hturn; go_frame))
        rw [strike_twice, FsB_struck hx] at hrg2
        go_roundw
        case rel => exact ⟨_, cnt2, hrg2, HG1.out.andThen hturn.grown (fun j hj => by cases hj; exact Or.inr rfl)⟩
        case measure => rw [hrg2.left_eq, HRG.out.left_eq]; omega
      · go_wp2_with fail
        go_roundw
        case rel => exact ⟨_, cnt1, by rw [← FsB_stays hx]; exact hrg1, HG1.out⟩
        case measure => rw [hrg1.left_eq, HRG.out.left_eq]; exact hlt
end Go.Proofs.Ytgjieoljfcfacaa
