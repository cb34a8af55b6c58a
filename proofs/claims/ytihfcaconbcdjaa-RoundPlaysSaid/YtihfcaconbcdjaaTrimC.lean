/- The document's Into and Sort. -/
import Derived.Test.YtihfcaconbcdjaaTrimB
namespace Go.Proofs.Ytihfcaconbcdjaa
open Go.RowKit Go.Sort
set_option maxHeartbeats 1000000
set_option maxRecDepth 100000

theorem into_any (v : Value) (l : List Int) (x : Int) (w : World) (h : IHas w v l) (hm : l.length ≤ 100000) :
    Calls Try.prog 42 #[v, .int .i64 x] w (fun e w' => ∃ v', e = .returned v' ∧ Grows w w' ∧ IOwn w' w.heap.size v' (ins l x)) := by
  obtain ⟨i0, hi, hz0, hz1, hz2⟩ := info_parts Try.infoI64
  have hall := insPre_all l x
  obtain ⟨n, en⟩ : ∃ n, l.length = n := ⟨_, rfl⟩
  have hlen := fun k hk => insPre_length l x k hk
  have hst := fun k hk => insPre_succ l x k hk
  have HA := Lib.hid hall
  have HL := Lib.hid hlen
  have HST := Lib.hid hst
  have HI := Lib.hid h
  obtain ⟨vl, evl⟩ : ∃ vl, v = vl := ⟨_, rfl⟩
  have hvl : ∃ a cap, v = .slice a n cap := by
    rcases h with ⟨rfl, a, cap, rfl⟩ | ⟨g, o, cap, rfl, h4, hg, hc⟩
    · exact ⟨a, cap, by rw [← en]; rfl⟩
    · exact ⟨_, cap, by rw [← en]⟩
  clear hall hlen hst h evl vl
  obtain ⟨a, cap, rfl⟩ := hvl
  have EN := Lib.hid en
  rw [en] at hm
  clear en
  go_enter Try.func42, Try.ntmps42
  go_wp2_with fail
  go_loopw [5, 6, 7] (fun vo vb vi wr => ∃ k : Nat, vi = .int .i64 (k : Int) ∧ k ≤ n ∧ Grows w wr ∧ IOwn wr w.heap.size vo (insPre l x k).1 ∧ vb = .bool (insPre l x k).2) (fun _ _ vi _ => n - (intOf vi).toNat)
  case atStart => exact ⟨0, rfl, by omega, bl_alloc (Below.refl _ _) _, iown_empty w _ rfl, rfl⟩
  case round =>
    obtain ⟨k, rfl, hk, hgr, hown, rfl⟩ := hrel
    have HG := Lib.hid hgr
    have HO := Lib.hid hown
    clear hgr hown
    have hl := HL.out k (by rw [EN.out]; exact hk)
    obtain ⟨P, eP⟩ : ∃ P, insPre l x k = P := ⟨_, rfl⟩
    have hHO := HO.out
    rw [eP] at hl hHO
    obtain ⟨out, b⟩ := P
    simp only at hl hHO
    have HO := Lib.hid hHO
    have EP := Lib.hid eP
    clear hHO
    rw [eP]
    clear eP
    by_cases hlt : k < n
    · have hkl : k < l.length := by rw [EN.out]; exact hlt
      have hcell : ∃ g o, a = some ⟨g, o, none⟩ ∧ wr.cell? ⟨g, o + k, none⟩ = some (.int .i64 l[k]) ∧ g < wr.heap.size ∧ g < w.heap.size ∧ n ≤ cap := by
        rcases HI.out with ⟨rfl, _⟩ | ⟨g, o, cap', he, h4, hg, hc⟩
        · simp at hkl
        · simp only [Value.slice.injEq] at he
          obtain ⟨rfl, e2, rfl⟩ := he
          refine ⟨g, o, rfl, (HG.out.cell (p := ⟨g, o + k, none⟩) hg).trans (hc k hkl), Nat.lt_of_lt_of_le hg HG.out.size, hg, by rw [e2]; exact h4⟩
      obtain ⟨g, o, rfl, hc, hgw, hg0, hcap⟩ := hcell
      have hs := HST.out k hkl
      rw [EP.out] at hs
      obtain ⟨y, ey⟩ : ∃ y, l[k] = y := ⟨_, rfl⟩
      rw [ey] at hc hs
      have HS := Lib.hid hs
      clear hs ey
      cases b
      · by_cases hx : x < y
        · go_wp2_with (at_builtin; refine wpList_append_own _ rfl _ _ 22 rfl w.heap.size 2 i0 _ 1 8 Try.underlying22 hi hz0 hz1 hz2 rfl (by decide) _ out.length (iv out) rfl (HO.out.alloc _) ⟨wr.heap.size, 0, none⟩ 1 1 [.int .i64 x] rfl rfl ?aq1 ?aq2 ?aq3 ?aq4 ?aq5 ?_)
          first | (case aq1 => exact World.news_of_block (heap_alloc_new wr (.cells #[.int .i64 x] 2))) | skip
          case aq2 => first | rfl | (intro u hu; simp at hu; subst hu; rfl)
          case aq3 => unfold maxLen; omega
          case aq4 => omega
          case aq5 => have := HG.out.size; simp; omega
          intro v' w1 hown2 hgrow _
          rw [iv_snoc] at hown2
          have hg2 : Grows w w1 := grows_of_grownBy (bl_alloc HG.out _) hgrow (fun kk hkk => (HO.out.lt kk hkk).1)
          have HO2 := Lib.hid hown2
          have HG2 := Lib.hid hg2
          have hc1 : w1.cell? ⟨g, o + k, none⟩ = some (.int .i64 y) := by
            rw [← hc, HG.out.cell (p := ⟨g, o + k, none⟩) hg0, hg2.cell (p := ⟨g, o + k, none⟩) hg0]
          have hgw1 : g < w1.heap.size := Nat.lt_of_lt_of_le hg0 hg2.size
          clear hown2 hgrow hg2 hc
          have e1 : out.length + 1 = (out ++ [x]).length := by simp
          rw [e1] at HO2
          clear e1
          go_wp2_with (at_builtin; refine wpList_append_own _ rfl _ _ 22 rfl w.heap.size 2 i0 _ 1 8 Try.underlying22 hi hz0 hz1 hz2 rfl (by decide) _ (out ++ [x]).length (iv (out ++ [x])) rfl (HO2.out.alloc _) ⟨w1.heap.size, 0, none⟩ 1 1 [.int .i64 y] rfl rfl ?bq1 ?bq2 ?bq3 ?bq4 ?bq5 ?_)
          first | (case bq1 => exact World.news_of_block (heap_alloc_new w1 (.cells #[.int .i64 y] 2))) | skip
          case bq2 => first | rfl | (intro u hu; simp at hu; subst hu; rfl)
          case bq3 => simp; unfold maxLen; omega
          case bq4 => simp; omega
          case bq5 => have := HG2.out.size; simp; omega
          intro v'' w2 hown3 hgrow3 _
          rw [iv_snoc] at hown3
          have hg3 : Grows w w2 := grows_of_grownBy (bl_alloc HG2.out _) hgrow3 (fun kk hkk => (HO2.out.lt kk hkk).1)
          have HO3 := Lib.hid hown3
          have HG3 := Lib.hid hg3
          clear hown3 hgrow3 hg3
          go_wp2_with fail
          go_roundw
          case rel =>
            have hd : decide (x < y) = true := by simp [hx]
            refine ⟨k + 1, by go_num, by omega, HG3.out, ?_, ?_⟩
            · rw [HS.out]
              simp only [hd, Bool.not_false, Bool.and_true, if_true]
              have := HO3.out
              simp only [List.length_append, List.length_cons, List.length_nil, List.append_assoc, List.cons_append, List.nil_append] at this ⊢
              unfold IOwn
              simp only [List.length_append, List.length_cons, List.length_nil] at this ⊢
              exact this
            · rw [HS.out, hd]; rfl
          case measure => simp [intOf]; omega
        · go_wp2_with (at_builtin; refine wpList_append_own _ rfl _ _ 22 rfl w.heap.size 2 i0 _ 1 8 Try.underlying22 hi hz0 hz1 hz2 rfl (by decide) _ out.length (iv out) rfl (HO.out.alloc _) ⟨wr.heap.size, 0, none⟩ 1 1 [.int .i64 y] rfl rfl ?cq1 ?cq2 ?cq3 ?cq4 ?cq5 ?_)
          first | (case cq1 => exact World.news_of_block (heap_alloc_new wr (.cells #[.int .i64 y] 2))) | skip
          case cq2 => first | rfl | (intro u hu; simp at hu; subst hu; rfl)
          case cq3 => unfold maxLen; omega
          case cq4 => omega
          case cq5 => have := HG.out.size; simp; omega
          intro v' w1 hown2 hgrow _
          rw [iv_snoc] at hown2
          have hg2 : Grows w w1 := grows_of_grownBy (bl_alloc HG.out _) hgrow (fun kk hkk => (HO.out.lt kk hkk).1)
          have HO2 := Lib.hid hown2
          have HG2 := Lib.hid hg2
          clear hown2 hgrow hg2 hc
          go_wp2_with fail
          go_roundw
          case rel =>
            have hd : decide (x < y) = false := by simp; omega
            refine ⟨k + 1, by go_num, by omega, HG2.out, ?_, ?_⟩
            · rw [HS.out]
              simp only [hd, Bool.and_false, Bool.false_eq_true, if_false]
              have := HO2.out
              rw [show out.length + 1 = (out ++ [y]).length by simp] at this
              exact this
            · rw [HS.out, hd]; rfl
          case measure => simp [intOf]; omega
      · go_wp2_with (at_builtin; refine wpList_append_own _ rfl _ _ 22 rfl w.heap.size 2 i0 _ 1 8 Try.underlying22 hi hz0 hz1 hz2 rfl (by decide) _ out.length (iv out) rfl (HO.out.alloc _) ⟨wr.heap.size, 0, none⟩ 1 1 [.int .i64 y] rfl rfl ?dq1 ?dq2 ?dq3 ?dq4 ?dq5 ?_)
        first | (case dq1 => exact World.news_of_block (heap_alloc_new wr (.cells #[.int .i64 y] 2))) | skip
        case dq2 => first | rfl | (intro u hu; simp at hu; subst hu; rfl)
        case dq3 => unfold maxLen; omega
        case dq4 => omega
        case dq5 => have := HG.out.size; simp; omega
        intro v' w1 hown2 hgrow _
        rw [iv_snoc] at hown2
        have hg2 : Grows w w1 := grows_of_grownBy (bl_alloc HG.out _) hgrow (fun kk hkk => (HO.out.lt kk hkk).1)
        have HO2 := Lib.hid hown2
        have HG2 := Lib.hid hg2
        clear hown2 hgrow hg2 hc
        go_wp2_with fail
        go_roundw
        case rel =>
          refine ⟨k + 1, by go_num, by omega, HG2.out, ?_, ?_⟩
          · rw [HS.out]
            simp only [Bool.not_true, Bool.false_and, Bool.false_eq_true, if_false]
            have := HO2.out
            rw [show out.length + 1 = (out ++ [y]).length by simp] at this
            exact this
          · rw [HS.out]; rfl
        case measure => simp [intOf]; omega
    · obtain rfl : k = n := by omega
      have hA := HA.out
      rw [EN.out, EP.out] at hA
      cases b
      · simp only [Bool.false_eq_true, if_false] at hA
        have HA2 := Lib.hid hA
        clear hA
        go_wp2_with (at_builtin; refine wpList_append_own _ rfl _ _ 22 rfl w.heap.size 2 i0 _ 1 8 Try.underlying22 hi hz0 hz1 hz2 rfl (by decide) _ out.length (iv out) rfl (HO.out.alloc _) ⟨wr.heap.size, 0, none⟩ 1 1 [.int .i64 x] rfl rfl ?eq1 ?eq2 ?eq3 ?eq4 ?eq5 ?_)
        first | (case eq1 => exact World.news_of_block (heap_alloc_new wr (.cells #[.int .i64 x] 2))) | skip
        case eq2 => first | rfl | (intro u hu; simp at hu; subst hu; rfl)
        case eq3 => unfold maxLen; omega
        case eq4 => omega
        case eq5 => have := HG.out.size; simp; omega
        intro v' w1 hown2 hgrow _
        rw [iv_snoc] at hown2
        have hg2 : Grows w w1 := grows_of_grownBy (bl_alloc HG.out _) hgrow (fun kk hkk => (HO.out.lt kk hkk).1)
        have HO2 := Lib.hid hown2
        have HG2 := Lib.hid hg2
        clear hown2 hgrow hg2
        go_wp2_with fail
        go_ret
        refine ⟨_, rfl, HG2.out, ?_⟩
        rw [← HA2.out]
        have := HO2.out
        rw [show out.length + 1 = (out ++ [x]).length by simp] at this
        exact this
      · simp only [if_true] at hA
        have HA2 := Lib.hid hA
        clear hA
        go_wp2_with fail
        go_ret
        exact ⟨_, rfl, HG.out, by rw [← HA2.out]; exact HO.out⟩

end Go.Proofs.Ytihfcaconbcdjaa
