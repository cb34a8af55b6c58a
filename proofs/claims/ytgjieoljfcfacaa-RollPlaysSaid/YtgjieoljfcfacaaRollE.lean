/- A roll and the document's notes: what the one has, the other has. -/
import Derived.Test.YtgjieoljfcfacaaRollA
import Derived.Test.YtgjieoljfcfacaaSetsR
import Derived.Test.YtgjieoljfcfacaaNumL
import Derived.Maps.RangeWalk
namespace Go.Proofs.Ytgjieoljfcfacaa
open Go.RowKit Go.Sort Go.Maps
set_option maxHeartbeats 1000000
set_option maxRecDepth 100000
theorem ofN_testBit (l : List Int) (i : Nat) : (ofN l).testBit i = (decide (i < 64) && l.contains (i : Int)) := ofTo_bit l 64 i
theorem ofN_nil : ofN [] = 0 := by decide
theorem ofN_snoc (l : List Int) {f : Int} (hf : 0 ≤ f ∧ f < 64) : ofN (l ++ [f]) = withN (ofN l) f := by
  apply Nat.eq_of_testBit_eq
  intro i
  unfold withN bitN
  rw [if_pos hf, Nat.testBit_or, ofN_testBit, ofN_testBit, Nat.testBit_two_pow, List.contains_append]
  by_cases h : f.toNat = i
  · have h1 : (i : Int) = f := by omega
    have h2 : i < 64 := by omega
    simp [h1, h2, h]
  · have h1 : ¬ (i : Int) = f := by omega
    simp [h1, h]
theorem ofN_pos {l : List Int} {f : Int} (h : f ∈ l) (hf : 0 ≤ f ∧ f < 64) : ofN l ≠ 0 := by
  intro e
  have h1 := ofN_testBit l f.toNat
  rw [e, Nat.zero_testBit] at h1
  have h2 : ((f.toNat : Nat) : Int) = f := by omega
  have h3 : f.toNat < 64 := by omega
  rw [h2] at h1
  simp [h3] at h1
  exact h1 h
def setN (l : NL) (no : Int) : Nat := ofN (frs l no)
theorem setN_lt (l : NL) (no : Int) : setN l no < 18446744073709551616 := ofN_lt _
def mostO (n : Int) : Nat := (min (max n 0) 65536).toNat
theorem mostO_le (n : Int) : mostO n ≤ 65536 := by unfold mostO; omega
/-- What the document's Put says. -/
def putN (l : NL) (M : Nat) (no f : Int) : Int := if f < 0 ∨ 63 < f then 8 else if hasN (setN l no) f = true then 12 else if setN l no = 0 ∧ M ≤ (numsN l).length then 13 else 0
structure RollR (D : DataW Unit) (l : NL) : Prop where
  has : ∀ no, Maps.has D (keyL no) = decide (no ∈ l.map (·.1))
  val : ∀ no, valN D no = setN l no
  rng : ∀ p ∈ l, 0 ≤ p.2 ∧ p.2 < 64
theorem isKeyL (x : Int) : WideAt.IsKeyLit (keyL x) := by simp [WideAt.IsKeyLit]
theorem keyL_ne {x y : Int} (h : x ≠ y) : keyL x ≠ keyL y := by intro hc; injection hc with _ hc; exact h hc
theorem RollR.nil : RollR (.map []) [] := ⟨fun _ => rfl, fun no => rfl, fun p hp => by cases hp⟩
theorem RollR.zero {D : DataW Unit} {l : NL} (h : RollR D l) (no : Int) : setN l no = 0 ↔ no ∉ l.map (·.1) := by
  constructor
  · intro h0 hm
    obtain ⟨p, hp, rfl, hf⟩ := frs_mem hm
    exact ofN_pos hf (h.rng p hp) h0
  · intro hm
    unfold setN
    rw [frs_nil hm]
    exact ofN_nil
theorem valN_put_same {D : DataW Unit} (hD : Maps.IsMap D) (no : Int) (c : Nat) : valN (D.put (keyL no) (.lit (.int .u64 (c : Int)))) no = c := by
  unfold valN
  rw [Maps.atKey_put_same hD (isKeyL no)]
  rfl
theorem valN_put_other {D : DataW Unit} {no x : Int} (h : x ≠ no) (d : DataW Unit) : valN (D.put (keyL no) d) x = valN D x := by
  unfold valN
  rw [Maps.atKey_put_other (keyL_ne h)]
theorem valN_del_same {D : DataW Unit} (no : Int) : valN (D.del (keyL no)) no = 0 := by
  unfold valN
  rw [Maps.atKey_del_same]
  rfl
theorem valN_del_other {D : DataW Unit} {no x : Int} (h : x ≠ no) : valN (D.del (keyL no)) x = valN D x := by
  unfold valN
  rw [Maps.atKey_del_other (keyL_ne h)]
/-- The same error of both. -/
theorem RollR.err {D : DataW Unit} {l : NL} (h : RollR D l) (hs : Maps.size D = (numsN l).length) (M : Nat) (no f : Int) : noteE D M no f = putN l M no f := by
  unfold noteE putN
  rw [h.val]
  have h1 : (f < 0 ∨ 64 ≤ f) = (f < 0 ∨ 63 < f) := by rw [eq_iff_iff]; omega
  have h2 : (Maps.has D (keyL no) = false ∧ (M : Int) ≤ (Maps.size D : Int)) = (setN l no = 0 ∧ M ≤ (numsN l).length) := by
    rw [eq_iff_iff, h.zero, h.has, hs, Int.ofNat_le, decide_eq_false_iff_not]
  simp only [h1, h2]
theorem RollR.note {D : DataW Unit} {l : NL} (h : RollR D l) (hD : Maps.IsMap D) (hs : Maps.size D = (numsN l).length) (M : Nat) (no f : Int) : RollR (noteD D M no f) (if putN l M no f = 0 then l ++ [(no, f)] else l) := by
  unfold noteD
  rw [h.err hs]
  split
  · rename_i he
    have hf : 0 ≤ f ∧ f < 64 := by
      unfold putN at he
      split at he
      · cases he
      · omega
    refine ⟨fun x => ?_, fun x => ?_, fun p hp => ?_⟩
    · by_cases hx : x = no
      · subst hx
        rw [Maps.has_put_same hD (isKeyL x)]
        simp
      · rw [Maps.has_put_other (keyL_ne hx), h.has]
        simp [hx]
    · by_cases hx : x = no
      · subst hx
        rw [valN_put_same hD, h.val]
        unfold setN
        rw [frs_snoc, if_pos rfl, ofN_snoc _ hf]
      · rw [valN_put_other hx, h.val]
        unfold setN
        rw [frs_snoc, if_neg (fun e => hx e.symm)]
    · rcases List.mem_append.1 hp with hp | hp
      · exact h.rng p hp
      · rw [List.mem_singleton.1 hp]; exact hf
  · exact h
/-- Notes of some numbers alone are kept. -/
def keepN (l : NL) (f : Int → Bool) : NL := l.filter fun p => f p.1
theorem mem_keep {l : NL} {f : Int → Bool} {x : Int} : x ∈ (keepN l f).map (·.1) ↔ f x = true ∧ x ∈ l.map (·.1) := by
  unfold keepN
  constructor
  · intro h
    obtain ⟨p, hp, rfl⟩ := List.mem_map.1 h
    obtain ⟨h1, h2⟩ := List.mem_filter.1 hp
    exact ⟨h2, List.mem_map_of_mem h1⟩
  · rintro ⟨h1, h2⟩
    obtain ⟨p, hp, rfl⟩ := List.mem_map.1 h2
    exact List.mem_map.2 ⟨p, List.mem_filter.2 ⟨hp, h1⟩, rfl⟩
theorem setN_keep (l : NL) (f : Int → Bool) (no : Int) : setN (keepN l f) no = if f no then setN l no else 0 := by
  unfold setN keepN
  rw [frs_filter]
  split
  · rfl
  · exact ofN_nil
theorem RollR.del {D : DataW Unit} {l : NL} (h : RollR D l) (no : Int) : RollR (D.del (keyL no)) (keepN l fun x => decide (x ≠ no)) := by
  refine ⟨fun x => ?_, fun x => ?_, fun p hp => h.rng p (List.mem_filter.1 hp).1⟩
  · by_cases hx : x = no
    · subst hx
      rw [Maps.has_del_same]
      symm
      rw [decide_eq_false_iff_not, mem_keep]
      simp
    · rw [Maps.has_del_other (keyL_ne hx), h.has, decide_eq_decide, mem_keep]
      simp [hx]
  · rw [setN_keep]
    by_cases hx : x = no
    · subst hx
      rw [valN_del_same]
      simp
    · rw [valN_del_other hx, h.val]
      simp [hx]
/-- The keys of a map of numbers are numbers. -/
theorem own_ints {w : World} {P : Program} {k : TypeId} {q : IntKind} {R : Value → Option (DataW Unit × List MemPlace)} {b n : Nat} {D : DataW Unit} (h : w.ownsMap P k R b n D) (K : Keyed P k) (hk : P.underlying k = some (.int q)) :
    ∃ es, D = .map es ∧ es.Pairwise (fun p q => p.1 ≠ q.1) ∧ ∀ p ∈ es, ∃ x, p.1 = .int q x ∧ (Lit.int q x).wf = true := by
  obtain ⟨es, clock, _, F, _, rfl⟩ := h
  refine ⟨_, rfl, ((Go.WideShapes.sorted_perm _).pairwise_iff (fun {_ _} hne => Ne.symm hne)).2 (Maps.fit_apart K F), fun p hp => ?_⟩
  obtain ⟨x, hx, rfl⟩ := List.mem_map.1 (mem_sorted.1 hp)
  obtain ⟨y, hy⟩ := F.reads x hx
  rw [WideElems.rg_of hy]
  obtain ⟨z, -, h2, h3⟩ := Maps.keyOf_int_inv hk (WideElems.rd_key hy)
  exact ⟨z, h2, h3⟩
/-- How many there are. -/
theorem size_nums {es : List (Lit × DataW Unit)} {K : List Int} (hap : es.Pairwise (fun p q => p.1 ≠ q.1)) (hk : ∀ p ∈ es, ∃ x, p.1 = keyL x) (hK : K.Nodup) (hh : ∀ x, Maps.has (.map es) (keyL x) = decide (x ∈ K)) : es.length = K.length := by
  have h1 : (es.map (·.1)).Nodup := by
    unfold List.Nodup
    rw [List.pairwise_map]
    exact hap
  have h2 : (K.map keyL).Nodup := by
    unfold List.Nodup
    rw [List.pairwise_map]
    exact hK.imp fun h => keyL_ne h
  have h3 : (es.map (·.1)).Perm (K.map keyL) := (List.perm_ext_iff_of_nodup h1 h2).2 fun u => by
    constructor
    · intro hu
      obtain ⟨p, hp, rfl⟩ := List.mem_map.1 hu
      obtain ⟨x, hx⟩ := hk p hp
      have : Maps.has (.map es) (keyL x) = true := List.any_eq_true.2 ⟨p, hp, by rw [hx]; exact WideAt.sameKey_self (isKeyL x)⟩
      rw [hh x] at this
      rw [hx]
      exact List.mem_map_of_mem (of_decide_eq_true this)
    · intro hu
      obtain ⟨x, hx, rfl⟩ := List.mem_map.1 hu
      have : Maps.has (.map es) (keyL x) = true := by rw [hh x]; exact decide_eq_true hx
      obtain ⟨p, hp, hpk⟩ := List.any_eq_true.1 this
      exact List.mem_map.2 ⟨p, hp, WideAt.sameKey_eq hpk⟩
  have := h3.length_eq
  rwa [List.length_map, List.length_map] at this
theorem RollAt.size {w : World} {b m : Nat} {D : DataW Unit} {most : Int} {l : NL} (h : RollAt w b m D most) (hr : RollR D l) : Maps.size D = (numsN l).length := by
  obtain ⟨es, rfl, h1, h2⟩ := own_ints h.own setLaw Try.underlying2
  exact size_nums h1 (fun p hp => by obtain ⟨x, hx, _⟩ := h2 p hp; exact ⟨x, hx⟩) (up_nodup (up_nums l)) fun x => by
    rw [hr.has, decide_eq_decide, mem_nums]
end Go.Proofs.Ytgjieoljfcfacaa
