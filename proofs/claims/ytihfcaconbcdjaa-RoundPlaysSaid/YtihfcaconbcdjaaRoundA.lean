/- What a map of readings holds, in plain words. -/
import Derived.Test.YtihfcaconbcdjaaTail
import Derived.Maps.OwnSet
import Derived.Maps.OwnOps
import Derived.Maps.RangeWalk
import Derived.Maps.Ext
namespace Go.Proofs.Ytihfcaconbcdjaa
open Go.RowKit Go.Sort Go.Maps
set_option maxHeartbeats 1000000
set_option maxRecDepth 100000

abbrev keyF (x : Int) : Lit := .int .i64 x
theorem isKeyF (x : Int) : WideAt.IsKeyLit (keyF x) := by simp [WideAt.IsKeyLit]
/-- The map D holds the readings es, and no other. -/
structure Rep (D : DataW Unit) (es : List (Int × Int)) : Prop where
  tidy : Maps.Tidy D
  apart : (es.map (·.1)).Nodup
  has : ∀ x, Maps.has D (keyF x) = decide (x ∈ es.map (·.1))
  at_ : ∀ p, p ∈ es → ∀ z, D.atKey (keyF p.1) z = .lit (.int .i64 p.2)
  size : Maps.size D = es.length
theorem Rep.nil : Rep (.map []) [] := ⟨Maps.tidy_empty, List.nodup_nil, fun x => rfl, fun p hp => absurd hp (by simp), rfl⟩
theorem Rep.put {D : DataW Unit} {es : List (Int × Int)} (h : Rep D es) (x d : Int) (hx : x ∉ es.map (·.1)) : Rep (D.put (keyF x) (.lit (.int .i64 d))) (es ++ [(x, d)]) := by
  have hD := h.tidy.isMap
  refine ⟨h.tidy.put (isKeyF x) _, ?_, ?_, ?_, ?_⟩
  · rw [List.map_append, List.nodup_append]
    exact ⟨h.apart, by simp, fun a ha b hb hab => by simp at hb; subst hb; subst hab; exact hx ha⟩
  · intro y
    by_cases hy : y = x
    · subst hy
      rw [Maps.has_put_same hD (isKeyF y)]
      simp
    · rw [Maps.has_put_other (by intro hc; injection hc with _ hc; exact hy hc), h.has y]
      simp [hy]
  · intro p hp z
    rw [List.mem_append] at hp
    rcases hp with hp | hp
    · rw [Maps.atKey_put_other (by intro hc; injection hc with _ hc; exact hx (hc ▸ List.mem_map_of_mem (f := (·.1)) hp))]
      exact h.at_ p hp z
    · simp at hp
      subst hp
      exact Maps.atKey_put_same hD (isKeyF x) _ _
  · rw [Maps.size_put h.tidy, h.has x, if_neg (by simpa using hx), h.size, List.length_append]
    rfl
theorem Rep.of_at {D : DataW Unit} {es : List (Int × Int)} (h : Rep D es) {x c : Int} (hat : ∀ z, D.atKey (keyF x) z = .lit (.int .i64 c)) : (x, c) ∈ es := by
  have hh := Maps.has_true_of_atKey hat
  rw [h.has x] at hh
  obtain ⟨p, hp, rfl⟩ := List.mem_map.1 (of_decide_eq_true hh)
  have := (h.at_ p hp (.lit (.int .i64 0))).symm.trans (hat _)
  injection this with this
  injection this with _ this
  rw [← this]
  exact hp

/-- Which of the readings have come, as one goes over the map. -/
structure Coll (es : List (Int × Int)) (left : Lit → Bool) (ks : List (Int × Int)) : Prop where
  apart : ks.Nodup
  sub : ∀ p, p ∈ ks → p ∈ es
  left : ∀ p, p ∈ es → (p ∈ ks ↔ left (keyF p.1) = false)
theorem Coll.start {D : DataW Unit} {es : List (Int × Int)} (h : Rep D es) : Coll es (Maps.has D) [] :=
  ⟨List.nodup_nil, fun p hp => absurd hp (by simp), fun p hp => by rw [h.has p.1]; simp; exact ⟨p.2, hp⟩⟩
theorem Coll.step {D : DataW Unit} {es ks : List (Int × Int)} {left : Lit → Bool} (hR : Rep D es) (h : Coll es left ks) {x c : Int} (hl : left (keyF x) = true) (hat : ∀ z, D.atKey (keyF x) z = .lit (.int .i64 c)) :
    Coll es (fun z => left z && !z.sameKey (keyF x)) (ks ++ [(x, c)]) := by
  have hm := hR.of_at hat
  have hn : (x, c) ∉ ks := fun hc => by have := (h.left _ hm).1 hc; rw [hl] at this; cases this
  refine ⟨?_, ?_, ?_⟩
  · rw [List.nodup_append]
    exact ⟨h.apart, by simp, fun a ha b hb hab => by simp at hb; subst hb; subst hab; exact hn ha⟩
  · intro p hp
    rw [List.mem_append] at hp
    rcases hp with hp | hp
    · exact h.sub p hp
    · simp at hp; subst hp; exact hm
  · intro p hp
    by_cases hx : p.1 = x
    · have hpc : p = (x, c) := by
        obtain ⟨p1, p2⟩ := p
        simp only at hx
        subst hx
        have := (hR.at_ _ hp (.lit (.int .i64 0))).symm.trans (hat _)
        injection this with this
        injection this with _ this
        rw [← this]
      subst hpc
      simp [Lit.sameKey]
    · have hs : (keyF p.1).sameKey (keyF x) = false := Maps.sameKey_ne (by intro hc; injection hc with _ hc; exact hx hc)
      rw [List.mem_append, hs, Bool.not_false, Bool.and_true, h.left p hp]
      constructor
      · rintro (h1 | h1)
        · exact h1
        · simp at h1; subst h1; exact absurd rfl hx
      · exact .inl
theorem Coll.perm {D : DataW Unit} {es ks : List (Int × Int)} {left : Lit → Bool} (hR : Rep D es) (h : Coll es left ks) (hl : ∀ k, left k = false) : ks.Perm es := by
  refine (List.perm_ext_iff_of_nodup h.apart ?_).2 fun p => ⟨h.sub p, fun hp => (h.left p hp).2 (hl _)⟩
  have := hR.apart
  unfold List.Nodup at this ⊢
  rw [List.pairwise_map] at this
  exact this.imp fun h hc => h (by rw [hc])
end Go.Proofs.Ytihfcaconbcdjaa
