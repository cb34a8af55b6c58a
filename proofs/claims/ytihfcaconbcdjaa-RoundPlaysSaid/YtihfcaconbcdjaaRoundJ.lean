/- The document's Note: a new list of readings. -/
import Derived.Test.YtihfcaconbcdjaaRoundI
import Derived.ArgAppend
namespace Go.Proofs.Ytihfcaconbcdjaa
open Go.RowKit Go.Sort
set_option maxHeartbeats 2000000
set_option maxRecDepth 100000

/-- The document's list of readings; nil at first. -/
def RL (w : World) (v : Value) (l : List (Int × Int)) : Prop := RHas w v l ∧ (l = [] → v = .slice none 0 0)
theorem RL.grows {w w' : World} {v : Value} {l : List (Int × Int)} (h : RL w v l) (hg : Grows w w') : RL w' v l := ⟨h.1.grows hg, h.2⟩
/-- What the document's Note gives back. -/
def RNotes (l : List (Int × Int)) (x d : Int) (w : World) (e : Ending) (w' : World) : Prop := ∃ v', e = .returned (.tuple #[v', .int .i64 (noteF l x)]) ∧ Grows w w' ∧ RL w' v' (noteL l x d)
theorem rnotes_kept {w : World} {v : Value} {l : List (Int × Int)} {x d c : Int} (h : RL w v l) (hc : c = noteF l x) (h0 : c ≠ 0) : RNotes l x d w (.returned (.tuple #[v, .int .i64 c])) w := by
  refine ⟨v, by rw [hc], Below.refl _ _, ?_⟩
  unfold noteL
  rw [if_neg (by rw [← hc]; exact h0)]
  exact h

theorem rnote_no (v : Value) (l : List (Int × Int)) (x d : Int) (w : World) (h : RL w v l) (hm : l.length ≤ 1000) (hE : noteF l x ≠ 0) :
    Calls Try.prog 30 #[v, .int .i64 x, .int .i64 d] w (RNotes l x d w) := by
  by_cases h1 : x < 0
  · have HR := Lib.hid (rnotes_kept (d := d) h (c := 8) (by unfold noteF; rw [if_pos (.inl h1)]) (by decide))
    clear h hE hm
    go_enter Try.func30, Try.ntmps30
    go_wp2_with fail
    go_ret2
    exact HR.out
  · by_cases h2 : 64 ≤ x
    · have HR := Lib.hid (rnotes_kept (d := d) h (c := 8) (by unfold noteF; rw [if_pos (.inr h2)]) (by decide))
      clear h hE hm
      go_enter Try.func30, Try.ntmps30
      go_wp2_with fail
      go_ret2
      exact HR.out
    · have h12 : ¬ (x < 0 ∨ 64 ≤ x) := by omega
      have hx : x ∈ l.map (·.1) := by
        refine Decidable.byContradiction fun hc => hE ?_
        unfold noteF
        rw [if_neg h12, if_neg hc]
      have HR := Lib.hid (rnotes_kept (d := d) h (c := 12) (by unfold noteF; rw [if_neg h12, if_pos hx]) (by decide))
      have HA := Lib.hid (rat25_any v l x w h.1 (by omega))
      have HX := Lib.hid (decide_eq_true hx)
      clear h hE hm hx h12
      go_enter Try.func30, Try.ntmps30
      go_wp2_with fail
      go_at_call 45
      refine (HA.out).mono ?_
      rintro e w' ⟨i, rfl, hi, rfl⟩
      unfold AtIs at hi
      rw [HX.out] at hi
      go_wp2_with fail
      go_ret2
      exact HR.out

theorem rnote_ok (v : Value) (l : List (Int × Int)) (x d : Int) (w : World) (h : RL w v l) (hm : l.length ≤ 1000) (hE : noteF l x = 0) :
    Calls Try.prog 30 #[v, .int .i64 x, .int .i64 d] w (RNotes l x d w) := by
  obtain ⟨i0, hi0, hz0, hz1, hz2⟩ := info_parts Try.infoRd
  have h1 : ¬ (x < 0 ∨ 64 ≤ x) := fun hc => by unfold noteF at hE; rw [if_pos hc] at hE; cases hE
  have hx : x ∉ l.map (·.1) := fun hc => by unfold noteF at hE; rw [if_neg h1, if_pos hc] at hE; cases hE
  have hx0 : 0 ≤ x := by omega
  have hx1 : x < 64 := by omega
  have HA := Lib.hid (rat25_any v l x w h.1 (by omega))
  have HX := Lib.hid (decide_eq_false hx)
  have hL : noteL l x d = l ++ [(x, d)] := by unfold noteL; rw [if_pos hE]
  have HL := Lib.hid hL
  have HE := Lib.hid hE
  clear hx hL hE h1
  by_cases h0 : l = []
  · subst h0
    obtain rfl := h.2 rfl
    clear h
    go_enter Try.func30, Try.ntmps30
    go_wp2_with fail
    go_at_call 45
    refine (HA.out).mono ?_
    rintro e w' ⟨i, rfl, hi, rfl⟩
    unfold AtIs at hi
    rw [HX.out] at hi
    go_wp2_with (first | (at_builtin; refine wpList_append_own _ rfl _ _ 53 rfl w.heap.size 55 i0 _ 2 16 Try.underlying53 hi0 hz0 hz1 hz2 rfl (by decide) _ 0 [] rfl ?n0 ⟨w.heap.size + 1, 0, none⟩ 1 1 (rv (x, d)) rfl rfl ?n1 ?n2 ?n3 ?n4 ?n5 ?_))
    case n0 => exact (World.ownsRow_lit w #[] 0 (Nat.le_refl _) (by decide) rfl).alloc _
    case n1 => exact World.news_of_block (cs := #[.int .i64 x, .int .i64 d]) (t := 55) (by have := heap_alloc_new (w.alloc (.cells #[] 55)) (.cells #[.int .i64 x, .int .i64 d] 55); simpa using this)
    case n2 => exact rv_one (x, d)
    case n3 => unfold maxLen; omega
    case n4 => omega
    case n5 => simp; omega
    intro v' w2 hown2 hgrow _
    have hg2 : Grows w w2 := grows_of_grownBy (bl_alloc (bl_alloc (Below.refl _ _) _) _) hgrow (by rintro k hk; cases hk; exact Nat.le_refl _)
    have ho2 : ROwn w2 w.heap.size v' ([] ++ [(x, d)]) := by
      show World.ownsRow _ _ _ _ _ _ _
      simpa using hown2
    have HG2 := Lib.hid hg2
    have HO2 := Lib.hid (show RL w2 v' ([] ++ [(x, d)]) from ⟨rown_has ho2, fun hc => by simp at hc⟩)
    clear hown2 hgrow hg2 ho2
    go_wp2_with fail
    go_ret2
    exact ⟨v', by rw [HE.out]; rfl, HG2.out, by rw [HL.out]; exact HO2.out⟩
  · obtain ⟨n, en⟩ : ∃ n, l.length = n := ⟨_, rfl⟩
    have hp : 0 < n := by have := List.length_pos_iff.2 h0; omega
    obtain ⟨g, o, cap, rfl, hcap, hg, hat⟩ := h.1.form en hp
    rw [en] at hm
    have HAT := Lib.hid hat
    have EN := Lib.hid en
    clear h h0 hat en
    go_enter Try.func30, Try.ntmps30
    go_wp2_with fail
    go_at_call 45
    refine (HA.out).mono ?_
    rintro e w' ⟨i, rfl, hi, rfl⟩
    unfold AtIs at hi
    rw [HX.out] at hi
    go_wp2_with (first | (at_builtin; refine wpList_append_own _ rfl _ _ 53 rfl w.heap.size 55 i0 _ 2 16 Try.underlying53 hi0 hz0 hz1 hz2 rfl (by decide) _ 0 [] rfl ?m0 ⟨g, o, none⟩ n cap (rvs l) rfl ?m1 ?m2 ?m3 ?m4 ?m5 ?m6 ?_))
    case m0 => exact World.ownsRow_lit w #[] 0 (Nat.le_refl _) (by decide) rfl
    case m1 => rw [rvs_length, EN.out]
    case m2 =>
      intro j u hu
      have hj : j < l.length * 2 := by
        have := (List.getElem?_eq_some_iff.1 hu).1
        rw [rvs_length] at this; omega
      have h1 := HAT.out (j / 2) (by omega) (j % 2) (by omega)
      have h2 := rows_get (f := rv) (k := 2) (fun _ => rfl) l (j / 2) (by omega) (j % 2) (by omega)
      rw [show j / 2 * 2 + j % 2 = j by omega] at h2
      rw [show o + j / 2 * 2 + j % 2 = o + j by omega, ← h2] at h1
      rw [addr_add, ← hu]
      exact ((bl_alloc (Below.refl _ _) _ : Below w.heap.size w _).cell (p := ⟨g, o + j, none⟩) hg).trans h1
    case m3 => exact rvs_one l
    case m4 => unfold maxLen; omega
    case m5 => omega
    case m6 => simp
    intro v1 w1 hown1 hgrow1 _
    have hg1 : Grows w w1 := grows_of_grownBy (bl_alloc (Below.refl _ _) _) hgrow1 (by rintro k hk; cases hk; exact Nat.le_refl _)
    have HO1 := Lib.hid hown1
    have HG1 := Lib.hid hg1
    clear hown1 hgrow1 hg1
    go_wp2_with (first | (at_builtin; refine wpList_append_own _ rfl _ _ 53 rfl w.heap.size 55 i0 _ 2 16 Try.underlying53 hi0 hz0 hz1 hz2 rfl (by decide) _ n (rvs l) rfl (HO1.out.alloc _) ⟨w1.heap.size, 0, none⟩ 1 1 (rv (x, d)) rfl rfl ?k1 ?k2 ?k3 ?k4 ?k5 ?_))
    case k1 => exact World.news_of_block (cs := #[.int .i64 x, .int .i64 d]) (heap_alloc_new w1 _)
    case k2 => exact rv_one (x, d)
    case k3 => unfold maxLen; omega
    case k4 => omega
    case k5 => have := HG1.out.size; simp; omega
    intro v' w2 hown2 hgrow _
    have hg2 : Grows w w2 := grows_of_grownBy (bl_alloc HG1.out _) hgrow (fun kk hkk => (HO1.out.lt kk hkk).1)
    have ho2 : ROwn w2 w.heap.size v' (l ++ [(x, d)]) := by
      show World.ownsRow _ _ _ _ _ _ _
      rw [List.length_append, EN.out]
      simpa using hown2
    have HG2 := Lib.hid hg2
    have HO2 := Lib.hid (show RL w2 v' (l ++ [(x, d)]) from ⟨rown_has ho2, fun hc => by simp at hc⟩)
    clear hown2 hgrow hg2 ho2
    go_wp2_with fail
    go_ret2
    exact ⟨v', by rw [HE.out]; rfl, HG2.out, by rw [HL.out]; exact HO2.out⟩
theorem rnote_any (v : Value) (l : List (Int × Int)) (x d : Int) (w : World) (h : RL w v l) (hm : l.length ≤ 1000) :
    Calls Try.prog 30 #[v, .int .i64 x, .int .i64 d] w (RNotes l x d w) := by
  by_cases hE : noteF l x = 0
  · exact rnote_ok v l x d w h hm hE
  · exact rnote_no v l x d w h hm hE
end Go.Proofs.Ytihfcaconbcdjaa
