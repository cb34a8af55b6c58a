/- Those that are left between both ends. -/
import Derived.Test.YtihfcaconbcdjaaTrimD
namespace Go.Proofs.Ytihfcaconbcdjaa
open Go.RowKit Go.Sort
set_option maxHeartbeats 1000000
set_option maxRecDepth 100000

def cutN (f : Int) (n : Nat) : Nat := (faultI (n : Int) f).toNat
def trimI (f : Int) (l : List Int) : List Int := ((sortI l).drop (cutN f l.length)).take (l.length - 2 * cutN f l.length)
theorem cutN_lt (f : Int) (n : Nat) (h : 0 < n) : 2 * cutN f n < n := by
  unfold cutN faultI
  split <;> omega
theorem cutN_le (f : Int) (n : Nat) : 2 * cutN f n ≤ n := by
  unfold cutN faultI
  split <;> omega
theorem cutN_eq (f : Int) (n : Nat) : faultI (n : Int) f = (cutN f n : Int) := by
  unfold cutN faultI
  split <;> omega
theorem trimI_length (f : Int) (l : List Int) : (trimI f l).length = l.length - 2 * cutN f l.length := by
  have := cutN_le f l.length
  simp only [trimI, List.length_take, List.length_drop, sortI_length]
  omega
theorem trimI_nil (f : Int) : trimI f [] = [] := by
  have := trimI_length f []
  exact List.eq_nil_of_length_eq_zero (by simpa using this)
theorem trimI_get (f : Int) (l : List Int) (i : Nat) (h : i < (trimI f l).length) : (trimI f l)[i] = (sortI l)[cutN f l.length + i]'(by rw [trimI_length] at h; rw [sortI_length]; have := cutN_le f l.length; omega) := by
  simp [trimI]
theorem IHas.nil_form {w : World} {v : Value} {l : List Int} (h : IHas w v l) (hl : l.length = 0) : ∃ p cap, v = .slice p 0 cap := by
  rcases h with ⟨_, a, c, e⟩ | ⟨g, o, c, e, _⟩
  · exact ⟨_, _, e⟩
  · rw [hl] at e; exact ⟨_, _, e⟩
theorem IHas.form {w : World} {v : Value} {l : List Int} {n : Nat} (h : IHas w v l) (hl : l.length = n) (h0 : 0 < n) : ∃ g o cap, v = .slice (some ⟨g, o, none⟩) n cap ∧ n ≤ cap ∧ g < w.heap.size := by
  rcases h with ⟨rfl, a, c, e⟩ | ⟨g, o, c, e, h4, hg, _⟩
  · simp at hl; omega
  · rw [hl] at e h4; exact ⟨_, _, _, e, h4, hg⟩
/-- A slice of a slice. -/
theorem ihas_cut {w : World} {g o n cap t : Nat} {l : List Int} (cap' : Nat) (h : IHas w (.slice (some ⟨g, o, none⟩) n cap) l) (hn : l.length = n) (h0 : 0 < n) (f : Int) (ht : cutN f n = t) (hc : n - 2 * t ≤ cap') (hs : l = sortI l) (m : List Int) (hm : sortI m = l) : IHas w (.slice (some ⟨g, o + t, none⟩) (n - 2 * t) cap') (trimI f m) := by
  have hml : m.length = n := by rw [← hn, ← hm, sortI_length]
  have hl := trimI_length f m
  rw [hml, ht] at hl
  rcases h with ⟨rfl, _⟩ | ⟨g', o', c', he, h4, hg, hcell⟩
  · simp at hn; omega
  · simp only [Value.slice.injEq, Option.some.injEq, Addr.mk.injEq] at he
    obtain ⟨⟨rfl, rfl, _⟩, _, rfl⟩ := he
    refine .inr ⟨g, o + t, cap', by rw [hl], by omega, hg, fun i hi => ?_⟩
    have := hcell (t + i) (by rw [hn]; rw [hl] at hi; omega)
    rw [Nat.add_assoc, this, trimI_get]
    simp only [hml, ht, hm]
theorem trim_any (f : Int) (v : Value) (l : List Int) (w : World) (h : IHas w v l) (hm : l.length ≤ 1000) (hf : -9223372036854775808 ≤ f ∧ f ≤ 9223372036854775807) :
    Calls Try.prog 17 #[.int .i64 f, v] w (fun e w' => ∃ v', e = .returned v' ∧ Grows w w' ∧ IHas w' v' (trimI f l)) := by
  obtain ⟨n, en⟩ : ∃ n, l.length = n := ⟨_, rfl⟩
  have hs := sort_any v l w h (by omega)
  have hvl : ∃ a cap, v = .slice a n cap := by
    rcases h with ⟨rfl, a, cap, rfl⟩ | ⟨g, o, cap, rfl, h4, hg, hc⟩
    · exact ⟨a, cap, by rw [← en]; rfl⟩
    · exact ⟨_, cap, by rw [← en]⟩
  obtain ⟨a, cap, rfl⟩ := hvl
  rw [en] at hm
  have hft := fun W => fault_any (n : Int) f W (by omega) hf
  rw [cutN_eq] at hft
  obtain ⟨t, et⟩ : ∃ t, cutN f n = t := ⟨_, rfl⟩
  have ht := cutN_le f n
  have ht0 := cutN_lt f n
  rw [et] at hft ht ht0
  have hsl := sortI_length l
  rw [en] at hsl
  have hss : sortI l = sortI (sortI l) := sorted_unique (sortI_perm _).symm (sortI_sorted _) (sortI_sorted _)
  by_cases h0 : n = 0
  · obtain rfl : l = [] := List.eq_nil_of_length_eq_zero (by omega)
    subst h0
    obtain rfl : t = 0 := by omega
    rw [trimI_nil]
    have HS := Lib.hid hs
    have HF := Lib.hid hft
    clear hs hft h hss ht0
    go_enter Try.func17, Try.ntmps17
    go_wp2_with (first | (go_at_call 15; refine HS.out.mono ?_; rintro e w1 ⟨v1, rfl, hG1, hO1⟩; have HG1 := Lib.hid hG1; obtain ⟨p, cap, rfl⟩ := hO1.has.nil_form hsl; clear hO1 hG1) | (go_at_call 20; refine (HF.out _).mono ?_; rintro e w' ⟨rfl, rfl⟩))
    go_ret
    exact ⟨_, rfl, HG1.out, .inl ⟨rfl, _, _, rfl⟩⟩
  · have hp : 0 < n := by omega
    have hlt := ht0 hp
    have he : IntKind.i64.wrap ((n : Int) - (t : Int)) = (n : Int) - (t : Int) := by rw [wrapEq]; unfold wrap64; omega
    obtain ⟨E, eE⟩ : ∃ E : Nat, (n : Int) - (t : Int) = (E : Int) := ⟨n - t, by omega⟩
    rw [eE] at he
    have hE1 : t ≤ E := by omega
    have hE2 : E ≤ n := by omega
    have hE3 : E - t = n - 2 * t := by omega
    have HS := Lib.hid hs
    have HF := Lib.hid hft
    have HSS := Lib.hid hss
    clear hs hft h hss ht0
    go_enter Try.func17, Try.ntmps17
    go_wp2_with (first | (go_at_call 15; refine HS.out.mono ?_; rintro e w1 ⟨v1, rfl, hG1, hO1⟩; have HG1 := Lib.hid hG1; have HO1 := Lib.hid hO1; obtain ⟨g, o, cap, rfl, hcap, hgw⟩ := hO1.has.form hsl hp; clear hO1 hG1) | (go_at_call 20; refine (HF.out _).mono ?_; rintro e w' ⟨rfl, rfl⟩))
    go_ret
    exact ⟨_, rfl, HG1.out, ihas_cut _ HO1.out.has hsl hp f et (by omega) HSS.out l rfl⟩
theorem rtrim_any (f : Int) (v : Value) (l : List Int) (w : World) (h : IHas w v l) (hm : l.length ≤ 1000) (hf : -9223372036854775808 ≤ f ∧ f ≤ 9223372036854775807) :
    Calls Try.prog 18 #[.int .i64 f, v] w (fun e w' => ∃ v', e = .returned v' ∧ Grows w w' ∧ IHas w' v' (trimI f l)) := by
  obtain ⟨n, en⟩ : ∃ n, l.length = n := ⟨_, rfl⟩
  have hs := rsort_any v l w h (by omega)
  have hvl : ∃ a cap, v = .slice a n cap := by
    rcases h with ⟨rfl, a, cap, rfl⟩ | ⟨g, o, cap, rfl, h4, hg, hc⟩
    · exact ⟨a, cap, by rw [← en]; rfl⟩
    · exact ⟨_, cap, by rw [← en]⟩
  obtain ⟨a, cap, rfl⟩ := hvl
  rw [en] at hm
  have hft := fun W => rfault_any (n : Int) f W (by omega) hf
  rw [cutN_eq] at hft
  obtain ⟨t, et⟩ : ∃ t, cutN f n = t := ⟨_, rfl⟩
  have ht := cutN_le f n
  have ht0 := cutN_lt f n
  rw [et] at hft ht ht0
  have hsl := sortI_length l
  rw [en] at hsl
  have hss : sortI l = sortI (sortI l) := sorted_unique (sortI_perm _).symm (sortI_sorted _) (sortI_sorted _)
  by_cases h0 : n = 0
  · obtain rfl : l = [] := List.eq_nil_of_length_eq_zero (by omega)
    subst h0
    obtain rfl : t = 0 := by omega
    rw [trimI_nil]
    have HS := Lib.hid hs
    have HF := Lib.hid hft
    clear hs hft h hss ht0
    go_enter Try.func18, Try.ntmps18
    go_wp2_with (first | (go_at_call 16; refine HS.out.mono ?_; rintro e w1 ⟨v1, rfl, hG1, hO1⟩; have HG1 := Lib.hid hG1; obtain ⟨p, cap, rfl⟩ := hO1.has.nil_form hsl; clear hO1 hG1) | (go_at_call 21; refine (HF.out _).mono ?_; rintro e w' ⟨rfl, rfl⟩))
    go_ret
    exact ⟨_, rfl, HG1.out, .inl ⟨rfl, _, _, rfl⟩⟩
  · have hp : 0 < n := by omega
    have hlt := ht0 hp
    have he : IntKind.i64.wrap ((n : Int) - (t : Int)) = (n : Int) - (t : Int) := by rw [wrapEq]; unfold wrap64; omega
    obtain ⟨E, eE⟩ : ∃ E : Nat, (n : Int) - (t : Int) = (E : Int) := ⟨n - t, by omega⟩
    rw [eE] at he
    have hE1 : t ≤ E := by omega
    have hE2 : E ≤ n := by omega
    have hE3 : E - t = n - 2 * t := by omega
    have HS := Lib.hid hs
    have HF := Lib.hid hft
    have HSS := Lib.hid hss
    clear hs hft h hss ht0
    go_enter Try.func18, Try.ntmps18
    go_wp2_with (first | (go_at_call 16; refine HS.out.mono ?_; rintro e w1 ⟨v1, rfl, hG1, hO1⟩; have HG1 := Lib.hid hG1; have HO1 := Lib.hid hO1; obtain ⟨g, o, cap, rfl, hcap, hgw⟩ := hO1.has.form hsl hp; clear hO1 hG1) | (go_at_call 21; refine (HF.out _).mono ?_; rintro e w' ⟨rfl, rfl⟩))
    go_ret
    exact ⟨_, rfl, HG1.out, ihas_cut _ HO1.out.has hsl hp f et (by omega) HSS.out l rfl⟩
end Go.Proofs.Ytihfcaconbcdjaa
