/- The plain law of a roll's notes: what a map holds behind some notes hangs on which they were, not on their order. -/
import Derived.Test.YtfmpppdcbeadnaaRollA
import Derived.Maps.Ext
namespace Go.Proofs.Ytfmpppdcbeadnaa
open Go.RowKit Go.Sort Go.Maps

/-- A note that counts. -/
def goodN (f : Int) : Bool := decide (0 ≤ f ∧ f < 64)
/-- The map holds just these notes. -/
structure IsNotes (D : DataW Unit) (L : List (Int × Int)) : Prop where
  size : Maps.size D ≤ L.length
  val : ∀ no, valN D no < 18446744073709551616 ∧ ∀ j, hasN (valN D no) j = L.any (fun x => x.1 == no && x.2 == j && goodN x.2)
  has : ∀ no, Maps.has D (keyL no) = L.any (fun x => x.1 == no && goodN x.2)
  key : ∀ k z, Maps.has D k = true → ∃ no, k = keyL no ∧ D.atKey k z = .lit (.int .u64 (valN D no))

theorem isNotes_nil : IsNotes (.map []) [] := by
  refine ⟨Nat.le_refl _, fun no => ⟨?_, fun j => ?_⟩, fun no => rfl, fun k z h => ?_⟩
  · show (0 : Nat) < _; decide
  · show hasN 0 j = false
    unfold hasN; simp
  · cases h

theorem isKey (no : Int) : WideAt.IsKeyLit (keyL no) := by simp [WideAt.IsKeyLit]

theorem valN_put_same (D : DataW Unit) (hD : Maps.IsMap D) (no : Int) (s : Nat) : valN (D.put (keyL no) (.lit (.int .u64 (s : Int)))) no = s := by
  unfold valN
  rw [Maps.atKey_put_same hD (isKey no)]
  simp
theorem valN_put_other (D : DataW Unit) (no no' : Int) (d : DataW Unit) (h : no' ≠ no) : valN (D.put (keyL no) d) no' = valN D no' := by
  unfold valN
  rw [Maps.atKey_put_other (k := keyL no) (k' := keyL no') (by intro e; exact h (by simpa using e))]

theorem isNotes_step {D : DataW Unit} {L : List (Int × Int)} (h : IsNotes D L) (hT : Maps.Tidy D) (most no f : Int) (hm : (L.length : Int) < most) : IsNotes (noteD D most no f) (L ++ [(no, f)]) := by
  have hD := hT.isMap
  have hsz : ¬ most ≤ (Maps.size D : Int) := by have := h.size; omega
  have hv := (h.val no).1
  by_cases hg : goodN f = true
  · have hg' : 0 ≤ f ∧ f < 64 := by simpa [goodN] using hg
    have hE : noteE D most no f = if hasN (valN D no) f = true then 12 else 0 := by
      unfold noteE
      rw [if_neg (by omega)]
      split
      · rfl
      · rw [if_neg (fun hx => hsz hx.2)]
    by_cases hh : hasN (valN D no) f = true
    · have hN : noteD D most no f = D := by unfold noteD; rw [hE, if_pos hh]; rfl
      rw [hN]
      have hin := (h.val no).2 f
      rw [hh] at hin
      refine ⟨by have := h.size; simp; omega, fun no' => ⟨(h.val no').1, fun j => ?_⟩, fun no' => ?_, h.key⟩
      · rw [(h.val no').2 j, List.any_append]
        by_cases hc : no = no' ∧ f = j
        · obtain ⟨rfl, rfl⟩ := hc
          rw [← hin]; rfl
        · have : (List.any [(no, f)] fun x => x.1 == no' && x.2 == j && goodN x.2) = false := by
            simp only [List.any_cons, List.any_nil, Bool.or_false]
            by_cases h1 : no = no'
            · have h2 : ¬ f = j := fun e => hc ⟨h1, e⟩
              simp [h2]
            · simp [h1]
          rw [this, Bool.or_false]
      · rw [h.has no', List.any_append]
        by_cases h1 : no = no'
        · subst h1
          have : (L.any fun x => x.1 == no && goodN x.2) = true := by
            have hin' := hin.symm
            rw [List.any_eq_true] at hin' ⊢
            obtain ⟨x, hx, hp⟩ := hin'
            simp only [Bool.and_eq_true] at hp
            exact ⟨x, hx, by simp [hp.1.1, hp.2]⟩
          rw [this]; rfl
        · have : (List.any [(no, f)] fun x => x.1 == no' && goodN x.2) = false := by simp [h1]
          rw [this, Bool.or_false]
    · have hN : noteD D most no f = D.put (keyL no) (.lit (.int .u64 (withN (valN D no) f))) := by unfold noteD; rw [hE, if_neg hh, if_pos rfl]
      rw [hN]
      refine ⟨?_, fun no' => ?_, fun no' => ?_, fun k z hk => ?_⟩
      · rw [Maps.size_put hT]
        have := h.size
        split <;> simp <;> omega
      · by_cases h1 : no' = no
        · subst h1
          rw [valN_put_same D hD]
          refine ⟨withN_lt hv f, fun j => ?_⟩
          rw [hasN_with _ _ _ hg', (h.val no').2 j, List.any_append]
          simp [hg]
          rfl
        · rw [valN_put_other D no no' _ h1]
          refine ⟨(h.val no').1, fun j => ?_⟩
          rw [(h.val no').2 j, List.any_append]
          have h2 : ¬ no = no' := fun e => h1 e.symm
          simp [h2]
      · by_cases h1 : no' = no
        · subst h1
          rw [Maps.has_put_same hD (isKey no'), List.any_append]
          simp [hg]
        · rw [Maps.has_put_other (k := keyL no) (k' := keyL no') (by intro e; exact h1 (by simpa using e)), h.has no', List.any_append]
          have h2 : ¬ no = no' := fun e => h1 e.symm
          simp [h2]
      · by_cases h1 : k = keyL no
        · subst h1
          refine ⟨no, rfl, ?_⟩
          rw [Maps.atKey_put_same hD (isKey no), valN_put_same D hD]
        · rw [Maps.has_put_other h1] at hk
          obtain ⟨no', rfl, ha⟩ := h.key k z hk
          have h2 : no' ≠ no := fun e => h1 (by rw [e])
          exact ⟨no', rfl, by rw [Maps.atKey_put_other h1, ha, valN_put_other D no no' _ h2]⟩
  · have hN : noteD D most no f = D := by
      have hE : noteE D most no f = 8 := by
        unfold noteE
        rw [if_pos (by simp [goodN] at hg; omega)]
      unfold noteD; rw [hE]; rfl
    rw [hN]
    have hg0 : goodN f = false := by simpa using hg
    refine ⟨by have := h.size; simp; omega, fun no' => ⟨(h.val no').1, fun j => ?_⟩, fun no' => ?_, h.key⟩
    · rw [(h.val no').2 j, List.any_append]; simp [hg0]
    · rw [h.has no', List.any_append]; simp [hg0]

theorem nat_eq_of_has {a b : Nat} (ha : a < 18446744073709551616) (hb : b < 18446744073709551616) (h : ∀ j, hasN a j = hasN b j) : a = b := by
  apply Nat.eq_of_testBit_eq
  intro i
  by_cases hi : i < 64
  · have := h (i : Int)
    unfold hasN at this
    rw [decide_eq_true (by omega : 0 ≤ (i : Int) ∧ (i : Int) < 64), Bool.true_and, Bool.true_and, Int.toNat_natCast] at this
    exact this
  · have e1 : a < 2 ^ i := Nat.lt_of_lt_of_le (by simpa using ha) (Nat.pow_le_pow_right (by omega) (by omega : 64 ≤ i))
    have e2 : b < 2 ^ i := Nat.lt_of_lt_of_le (by simpa using hb) (Nat.pow_le_pow_right (by omega) (by omega : 64 ≤ i))
    rw [Nat.testBit_lt_two_pow e1, Nat.testBit_lt_two_pow e2]

theorem isNotes_eq {D₁ D₂ : DataW Unit} {L₁ L₂ : List (Int × Int)} (h₁ : IsNotes D₁ L₁) (h₂ : IsNotes D₂ L₂) (c₁ : Maps.Canon D₁) (c₂ : Maps.Canon D₂) (hL : ∀ x, x ∈ L₁ ↔ x ∈ L₂) : D₁ = D₂ := by
  have any : ∀ p : Int × Int → Bool, L₁.any p = L₂.any p := fun p => by
    rw [Bool.eq_iff_iff, List.any_eq_true, List.any_eq_true]
    exact ⟨fun ⟨x, hx, hp⟩ => ⟨x, (hL x).1 hx, hp⟩, fun ⟨x, hx, hp⟩ => ⟨x, (hL x).2 hx, hp⟩⟩
  have hv : ∀ no, valN D₁ no = valN D₂ no := fun no => nat_eq_of_has (h₁.val no).1 (h₂.val no).1 (fun j => by rw [(h₁.val no).2 j, (h₂.val no).2 j, any])
  have hh : ∀ k, Maps.has D₁ k = Maps.has D₂ k := fun k => by
    cases e1 : Maps.has D₁ k with
    | true =>
      obtain ⟨no, rfl, _⟩ := h₁.key k (.lit (.bool true)) e1
      rw [h₂.has no, ← any, ← h₁.has no, e1]
    | false =>
      cases e2 : Maps.has D₂ k with
      | false => rfl
      | true =>
        obtain ⟨no, rfl, _⟩ := h₂.key k (.lit (.bool true)) e2
        rw [h₁.has no, any, ← h₂.has no, e2] at e1
        cases e1
  refine Maps.ext c₁ c₂ hh (fun k z hk => ?_)
  obtain ⟨no, rfl, ha⟩ := h₁.key k z hk
  obtain ⟨no', e, hb⟩ := h₂.key (keyL no) z ((hh _).symm.trans hk)
  have : no = no' := by simpa using e
  subst this
  rw [ha, hb, hv]
end Go.Proofs.Ytfmpppdcbeadnaa
