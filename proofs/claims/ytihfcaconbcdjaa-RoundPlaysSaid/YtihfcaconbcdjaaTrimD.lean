/- The document's Sort. -/
import Derived.Test.YtihfcaconbcdjaaTrimC
namespace Go.Proofs.Ytihfcaconbcdjaa
open Go.RowKit Go.Sort
set_option maxHeartbeats 1000000
set_option maxRecDepth 100000

theorem rsort_any (v : Value) (l : List Int) (w : World) (h : IHas w v l) (hm : l.length ≤ 1000) :
    Calls Try.prog 16 #[v] w (fun e w' => ∃ v', e = .returned v' ∧ Grows w w' ∧ IOwn w' w.heap.size v' (sortI l)) := by
  obtain ⟨n, en⟩ : ∃ n, l.length = n := ⟨_, rfl⟩
  have HI := Lib.hid h
  have hvl : ∃ a cap, v = .slice a n cap := by
    rcases h with ⟨rfl, a, cap, rfl⟩ | ⟨g, o, cap, rfl, h4, hg, hc⟩
    · exact ⟨a, cap, by rw [← en]; rfl⟩
    · exact ⟨_, cap, by rw [← en]⟩
  clear h
  have hto := fun v' l' x W h h2 => into_any v' l' x W h h2
  have HTO := Lib.hid hto
  clear hto
  obtain ⟨a, cap, rfl⟩ := hvl
  have EN := Lib.hid en
  rw [en] at hm
  clear en
  have hall : insAll (l.take n) = sortI l := by rw [← EN.out, List.take_length]; exact insAll_eq l
  have hst : ∀ k, (h : k < l.length) → insAll (l.take (k + 1)) = ins (insAll (l.take k)) l[k] := fun k h => by rw [List.take_succ_eq_append_getElem h, insAll_snoc]
  have hle : ∀ k, (insAll (l.take k)).length ≤ k := fun k => by rw [insAll_eq, sortI_length, List.length_take]; omega
  have HA := Lib.hid hall
  have HST := Lib.hid hst
  have HL := Lib.hid hle
  clear hall hst hle
  go_enter Try.func16, Try.ntmps16
  go_wp2_with fail
  go_loopw [3, 4] (fun vo vi wr => ∃ k : Nat, vi = .int .i64 (k : Int) ∧ k ≤ n ∧ Grows w wr ∧ ∃ base, w.heap.size ≤ base ∧ IOwn wr base vo (insAll (l.take k))) (fun _ vi _ => n - (intOf vi).toNat)
  case atStart => exact ⟨0, rfl, by omega, bl_alloc (Below.refl _ _) _, _, Nat.le_refl _, iown_empty w _ rfl⟩
  case round =>
    obtain ⟨k, rfl, hk, hgr, base, hbase, hown⟩ := hrel
    have HG := Lib.hid hgr
    have HO := Lib.hid hown
    clear hgr hown
    by_cases hlt : k < n
    · have hkl : k < l.length := by rw [EN.out]; exact hlt
      have hcell : ∃ g o, a = some ⟨g, o, none⟩ ∧ wr.cell? ⟨g, o + k, none⟩ = some (.int .i64 l[k]) ∧ g < wr.heap.size ∧ g < w.heap.size ∧ n ≤ cap := by
        rcases HI.out with ⟨rfl, _⟩ | ⟨g, o, cap', he, h4, hg, hc⟩
        · simp at hkl
        · simp only [Value.slice.injEq] at he
          obtain ⟨rfl, e2, rfl⟩ := he
          refine ⟨g, o, rfl, (HG.out.cell (p := ⟨g, o + k, none⟩) hg).trans (hc k hkl), Nat.lt_of_lt_of_le hg HG.out.size, hg, by rw [e2]; exact h4⟩
      obtain ⟨g, o, rfl, hc, hgw, hg0, hcap⟩ := hcell
      have hs := HST.out k hkl
      have hle := HL.out k
      obtain ⟨y, ey⟩ : ∃ y, l[k] = y := ⟨_, rfl⟩
      rw [ey] at hc hs
      have hcall := HTO.out _ (insAll (l.take k)) y wr HO.out.has (by omega)
      rw [← hs] at hcall
      have HC := Lib.hid hcall
      clear hcall hs ey hle
      go_wp2_with (go_at_call 42; refine HC.out.mono ?_; rintro e w1 ⟨v1, rfl, hg1, ho1⟩; have HG1 := Lib.hid hg1; have HO1 := Lib.hid ho1; clear hg1 ho1)
      go_roundw
      case rel => exact ⟨k + 1, by go_num, by omega, grows_trans _ _ _ HG.out HG1.out, _, HG.out.size, HO1.out⟩
      case measure => simp [intOf]; omega
    · obtain rfl : k = n := by omega
      go_wp2_with fail
      go_ret
      refine ⟨_, rfl, HG.out, ?_⟩
      rw [← HA.out]
      exact ⟨HO.out.1, HO.out.2.imp id (fun ⟨g, cap, cur, h1, h2, h3⟩ => ⟨g, cap, cur, h1, Nat.le_trans hbase h2, h3⟩)⟩
end Go.Proofs.Ytihfcaconbcdjaa
