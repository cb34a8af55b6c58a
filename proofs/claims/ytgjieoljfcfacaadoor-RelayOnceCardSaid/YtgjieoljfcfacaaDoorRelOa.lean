/- RelayOnce: the plain law; a slice of steps, opened. -/
import Derived.Test.YtgjieoljfcfacaaDoorRelJ
import Derived.Test.YtgjieoljfcfacaaDoorRelZ
namespace Go.Proofs.YtgjieoljfcfacaaDoor
open Go.RowKit Go.Sort
set_option maxRecDepth 100000
theorem late_vl {b0 b1 b3 b7 b10 b11 h tol : Int} (hB : BOk b0 b1 b3 b7 b10 b11) (h0 : 0 ≤ h) (h1 : h ≤ b0) (t0 : 0 ≤ tol) (t1 : tol ≤ b10) :
    lateI b0 b3 b1 h tol = h * (b3 + tol) + b1 ∧ 0 ≤ h * (b3 + tol) ∧ h * (b3 + tol) ≤ 1134000008064000 * 1000 := by
  obtain ⟨c1, c2, c3, c4, c5, c6, c7, c8, c9, c10⟩ := hB
  have m0 : 0 ≤ h * (b3 + tol) := Int.mul_nonneg h0 (by omega)
  have m1 : h * (b3 + tol) ≤ 63 * 18000000000128000 := Int.mul_le_mul (by omega) (by omega) (by omega) (by omega)
  refine ⟨?_, m0, by omega⟩
  unfold lateI
  rw [if_neg (by omega), IntWalk.wrap64_in (b3 + tol) (by omega), IntWalk.wrap64_in (h * (b3 + tol)) (by omega), IntWalk.wrap64_in _ (by omega)]
/-- A copy is in time, and then the name is not over; or it is late. -/
theorem once_chk {b0 b1 b3 b7 b10 b11 T now h : Int} (hB : BOk b0 b1 b3 b7 b10 b11) (hT : 0 ≤ T ∧ T ≤ 4294967295) (hn : T ≤ now ∧ now ≤ 5000000000) (hh : 1 ≤ h ∧ h ≤ b0) :
    (chkI b0 b3 b1 b10 now h T = 0 ∧ now ≤ behI T (lateI b0 b3 b1 b0 b10)) ∨ chkI b0 b3 b1 b10 now h T = 11 := by
  have e7 : 0 ≤ b7 ∧ b7 ≤ b10 := ⟨hB.2.2.2.2.2.2.1, hB.2.2.2.2.2.2.2.1⟩
  obtain ⟨v3, p3, q3⟩ := late_vl hB (h := h) (tol := b10) (by omega) hh.2 (by omega) (Int.le_refl _)
  obtain ⟨v4, p4, q4⟩ := late_vl hB (h := b0) (tol := b10) (by omega) (Int.le_refl _) (by omega) (Int.le_refl _)
  obtain ⟨c1, c2, c3, c4, c5, c6, c7, c8, c9, c10⟩ := hB
  have m3 : h * (b3 + b10) ≤ b0 * (b3 + b10) := Int.mul_le_mul_of_nonneg_right hh.2 (by omega)
  have o : okT T = true := okT_t (by omega) (by omega)
  have u : behI T (lateI b0 b3 b1 b0 b10) = T + lateI b0 b3 b1 b0 b10 := by unfold behI; rw [if_pos o, if_pos (by omega)]
  have o2 : okT now = true := okT_t (by omega) (by omega)
  rw [u]
  unfold chkI
  rw [o, o2, IntWalk.wrap64_in (T - _) (by omega), IntWalk.wrap64_in (_ - T) (by omega), if_neg (by simp; omega), if_neg (by omega), if_neg (by omega)]
  by_cases hl : lateI b0 b3 b1 h b10 < now - T
  · rw [if_pos hl]; exact .inr rfl
  · rw [if_neg hl]; exact .inl ⟨rfl, by omega⟩
theorem once_first {b0 b1 b3 b7 b10 b11 T : Int} (hB : BOk b0 b1 b3 b7 b10 b11) (hT : 0 ≤ T ∧ T ≤ 4294967295) : chkI b0 b3 b1 b10 T 1 T = 0 := by
  have e7 : 0 ≤ b7 ∧ b7 ≤ b10 := ⟨hB.2.2.2.2.2.2.1, hB.2.2.2.2.2.2.2.1⟩
  obtain ⟨v3, p3, q3⟩ := late_vl hB (h := 1) (tol := b10) (by omega) hB.1 (by omega) (Int.le_refl _)
  obtain ⟨c1, c2, c3, c4, c5, c6, c7, c8, c9, c10⟩ := hB
  have o : okT T = true := okT_t (by omega) (by omega)
  unfold chkI
  rw [o, IntWalk.wrap64_in (T - _) (by omega), if_neg (by simp; omega), if_neg (by omega), if_neg (by omega), if_neg (by omega)]
/-- The law's packet: of node 0, due at T, behind so many hops. -/
abbrev xo (x : PW) (T h : Int) : PW := ⟨4, ⟨T, 0, x.k.s⟩, h, x.no, x.dt, x.ix, x.tt, x.st, x.vl, x.ba, x.bl, x.bc⟩
theorem once_rchk (m : List (KW × Value)) (B : BV) (tol now T h : Int) (x : PW) : rchk m 9 1 4 B tol now (xo x T h) = if chkI B.b0 B.b3 B.b1 tol now h T ≠ 0 then chkI B.b0 B.b3 B.b1 tol now h T else putE m 9 ⟨T, 0, x.k.s⟩ := by
  unfold rchk
  rw [if_neg (by show ¬ floodB 4 = false; decide), if_neg (by show ¬ otherB 1 4 0 = false; decide)]
/-- The names: of the one packet, or none. -/
def OM (m : List (KW × Value)) (k : KW) (till now : Int) : Prop := m = [(k, .int .i64 till)] ∨ (m = [] ∧ till < now)
theorem OM.vals {m : List (KW × Value)} {k : KW} {till now : Int} (h : OM m k till now) : ∀ p ∈ m, ∃ x, p.2 = .int .i64 x := by
  rcases h with rfl | ⟨rfl, -⟩
  · intro p hp; simp only [List.mem_singleton] at hp; subst hp; exact ⟨_, rfl⟩
  · intro p hp; cases hp
/-- One step: names expire, the packet comes again. -/
theorem once_step {B : BV} {b7 b11 T now0 now h : Int} {x : PW} {m : List (KW × Value)} (hB : BOk B.b0 B.b1 B.b3 b7 B.b10 b11) (hT : 0 ≤ T ∧ T ≤ 4294967295) (hn : T ≤ now ∧ now ≤ 5000000000) (h0 : now0 ≤ now) (hh : 1 ≤ h ∧ h ≤ B.b0) (hm : OM m ⟨T, 0, x.k.s⟩ (tillI B T) now0) :
    let m' := m.filter fun p => !overD now p
    let er := rchk m' 9 1 4 B B.b10 now (xo x T h)
    OM m' ⟨T, 0, x.k.s⟩ (tillI B T) now ∧ ((er = 12 ∧ m'.length = 1 ∧ now ≤ tillI B T) ∨ (er = 11 ∧ m'.length = 1 ∧ now ≤ tillI B T) ∨ (er = 11 ∧ m'.length = 0 ∧ tillI B T < now)) := by
  intro m' er
  have hc := once_chk hB hT hn hh
  have hti : behI T (lateI B.b0 B.b3 B.b1 B.b0 B.b10) = tillI B T := rfl
  rw [hti] at hc
  have her : er = _ := once_rchk m' B B.b10 now T h x
  by_cases hk : now ≤ tillI B T
  · have hmm : m = [(⟨T, 0, x.k.s⟩, .int .i64 (tillI B T))] := by
      rcases hm with hm | ⟨-, hm⟩
      · exact hm
      · omega
    have hm' : m' = [(⟨T, 0, x.k.s⟩, .int .i64 (tillI B T))] := by
      show m.filter _ = _
      have ho : overD now (⟨T, 0, x.k.s⟩, .int .i64 (tillI B T)) = false := decide_eq_false (by show ¬ tillI B T < now; omega)
      rw [hmm]
      simp [ho]
    refine ⟨.inl hm', ?_⟩
    rcases hc with ⟨hc, -⟩ | hc
    · left
      rw [her, hc, if_neg (by simp), hm']
      refine ⟨?_, rfl, hk⟩
      rw [putE_12]
      simp [getK]
    · right; left
      rw [her, hc, if_pos (by decide), hm']
      exact ⟨rfl, rfl, hk⟩
  · have hm' : m' = [] := by
      show m.filter _ = _
      rcases hm with hm | ⟨hm, -⟩
      · have ho : overD now (⟨T, 0, x.k.s⟩, .int .i64 (tillI B T)) = true := decide_eq_true (by show tillI B T < now; omega)
        rw [hm]
        simp [ho]
      · rw [hm]; rfl
    refine ⟨.inr ⟨hm', by omega⟩, .inr (.inr ?_)⟩
    have h11 : chkI B.b0 B.b3 B.b1 B.b10 now h T = 11 := by
      rcases hc with ⟨_, h1⟩ | hc
      · omega
      · exact hc
    rw [her, h11, if_pos (by decide), hm']
    exact ⟨rfl, rfl, by omega⟩
theorem once_take {B : BV} {b7 b11 T : Int} {x : PW} (hB : BOk B.b0 B.b1 B.b3 b7 B.b10 b11) (hT : 0 ≤ T ∧ T ≤ 4294967295) : rchk [] 9 1 4 B B.b10 T (xo x T 1) = 0 := by
  rw [once_rchk, once_first hB hT, if_neg (by simp)]
  rfl
theorem insT_one (k : KW) (v : Value) : insT [] k v = [(k, v)] := rfl
abbrev uv (x : Int) : List Value := [.int .u16 x]
section
open Go.ChangeShapes Go.WideShapes Go.ChangeAt
variable {H : Type} {enc : TypeId × Value → H} {w : World} {base b0 : Nat} {spare : Nat → Bool} {held : Bool} {r : Reach} {v : Value} {d : DataW H} {p : List MemPlace}
/-- A slice of steps that came in. -/
theorem open_steps (hv : Value.okWide Tryd.prog w r b0 33 v) (h : DataW.Trod enc Tryd.prog w base spare held 33 v d p) : ∃ l : List Int, GHas uv 1 w v l ∧ ∀ x ∈ l, 0 ≤ x ∧ x ≤ 65535 :=
  open_rows (k := 0) Tryd.underlying33 (by kernel_rfl) (fun _ => rfl) (fun {m cs y} ht => by
    obtain ⟨q, hk, _, hw⟩ := DataW.trod_int Tryd.underlying46 ht
    exact ⟨q, hk, wf_u16 hw⟩) hv h
end
end Go.Proofs.YtgjieoljfcfacaaDoor
