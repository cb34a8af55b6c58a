/- A table's All, gone over: each row that is there, in order. -/
import Derived.Test.YtdmmceclohkkdaaTabAll
import Derived.Test.YtdmmceclohkkdaaKeyFind
namespace Go.Proofs.Ytdmmceclohkkdaa
open Go.RowKit Go.Sort
set_option maxHeartbeats 4000000
set_option maxRecDepth 100000
/-- A row, as it is handed over. -/
def rowV (p : KW × Value) : Array Value := #[p.1.val, p.2]
/-- What All says of each row that it hands over. -/
def RowG (m pre : List (KW × Value)) (x : KW × Value) (_ : World) : Prop := m[pre.length]? = some x
theorem TabAt.len_n {T : TypeId} {w : World} {base tb mb most n : Nat} {kv : Value} {m : List (KW × Value)} (h : TabAt T w base tb kv mb m most) (hn : m.length = n) : ∃ a cap, kv = .slice a n cap := by
  obtain ⟨a, cap, e⟩ := h.len
  exact ⟨a, cap, by rw [e, hn]⟩
section
attribute [local go_sem] Oper.semAt_some
theorem tall_tells (w : World) {base tb mb c most : Nat} {kv : Value} {m : List (KW × Value)} (I : List (KW × Value) → World → Prop) (hI0 : ∀ A, I [] A → TabAt TTI A base tb kv mb m most)
    (hI : ∀ s A, I s A → A.cell? ⟨c, 0, none⟩ = some (.pointer (some ⟨tb, 0, none⟩)) ∧ ∃ kv' m', TabAt TTI A base tb kv' mb m' most ∧ ∀ i p, s.length ≤ i → m[i]? = some p → getK m' p.1 = some p.2) :
    Tells2 Try.prog 67 #[.pointer (some ⟨c, 0, none⟩)] rowV I (RowG m) (fun xs => xs.length = m.length) w := by
  intro q J Jx W hg hJI hJ hJx hY h0
  obtain ⟨n, en⟩ : ∃ n, m.length = n := ⟨_, rfl⟩
  have ht := hI0 _ (hJI _ _ h0)
  obtain ⟨hc, -⟩ := hI _ _ (hJI _ _ h0)
  obtain ⟨a, cap, rfl⟩ := ht.len_n en
  have hn6 : n ≤ 65536 := by rw [← en]; exact Nat.le_trans ht.few ht.most
  have H0 := Lib.hid h0
  have HI := Lib.hid (fun s A h => hI s A (hJI s A h))
  have HC := Lib.hid (callsIn_wide (n := 8).2 (kclone_any (kown_has ht.own) (show (m.map (·.1)).length ≤ 100000 by rw [List.length_map, en]; exact Nat.le_trans hn6 (by decide))))
  have HY := Lib.hid hY
  have HJ := Lib.hid hJ
  have EN := Lib.hid en
  have HN6 := Lib.hid hn6
  have HSW := Lib.hid hg.size
  have z1 := ht.lt
  obtain ⟨d0, -⟩ := cell_in ht.ob 0 rfl
  clear hY hJ hJx hJI hI hI0 ht h0 en hg hn6
  refine callsIn_of_wp Try.func67 rfl trivial ?_ rfl
  simp only [Try.ntmps67, List.size_toArray, List.length_cons, List.length_nil, Nat.reduceAdd, Nat.reduceSub, Array.replicate_succ, Array.replicate_zero, List.push_toArray, List.append_toArray, List.nil_append, List.cons_append]
  gi_wp2_with fail
  refine ⟨trivial, (HC.out).mono ?_⟩
  rintro e w' ⟨v', rfl, hg2, ho⟩
  obtain ⟨a2, cap2, rfl⟩ := (kown_has ho).len (show (m.map (·.1)).length = n by rw [List.length_map]; exact EN.out)
  have HO := Lib.hid ho
  have HJ0 := Lib.hid (HJ.out _ _ _ H0.out hg2)
  clear hg2 ho hc d0 z1
  gi_wp2_with fail
  gi_loopw [15] (fun v15 wr => ∃ k : Nat, v15 = .int .i64 (k : Int) ∧ k ≤ n ∧ ∃ pre, pre.length = k ∧ J pre wr ∧ KOwn wr W.heap.size (.slice a2 n cap2) (m.map (·.1))) (fun v15 _ => n - (intOf v15).toNat)
  case atStart => exact ⟨0, rfl, Nat.zero_le _, [], rfl, HJ0.out, HO.out⟩
  case round =>
    obtain ⟨k, rfl, hk, pre, hpre, hj, ho⟩ := hrel
    have J1 := Lib.hid hj
    have HP := Lib.hid hpre
    have HO1 := Lib.hid ho
    by_cases hlt : k < n
    · have hk6 : k ≤ 1000000 := Nat.le_trans (Nat.le_of_lt hlt) (Nat.le_trans HN6.out (by decide))
      have HNF := Lib.hid (nat_facts k hk6)
      have HWS := Lib.hid (wrap_succ hk6)
      have HKK := Lib.hid hlt
      have hkl : k < (m.map (·.1)).length := by rw [List.length_map, EN.out]; exact hlt
      have hkm : k < m.length := by rw [EN.out]; exact hlt
      obtain ⟨hc1, kv1, m1, ht1, hrow⟩ := HI.out _ _ hj
      obtain ⟨g, o, c', he, hcap, hgl, hat⟩ := (kown_has ho).form (show (m.map (·.1)).length = n by rw [List.length_map]; exact EN.out) (Nat.lt_of_le_of_lt (Nat.zero_le _) hlt)
      simp only [Value.slice.injEq, true_and] at he
      obtain ⟨rfl, rfl⟩ := he
      obtain ⟨p0, p1, p2⟩ := kat_cells hat k hkl
      have hx : m[k]? = some m[k] := List.getElem?_eq_getElem hkm
      obtain ⟨x, ex⟩ : ∃ x, m[k] = x := ⟨_, rfl⟩
      rw [List.getElem_map, ex] at p0 p1 p2
      rw [ex] at hx
      have hlk := hrow k x (by rw [hpre]; exact Nat.le_refl _) hx
      have hgb : Grows wr (wr.alloc (.cells #[.int .i64 x.1.t, .int .i64 x.1.f, .int .u32 x.1.s] 29)) := bl_alloc (Below.refl _ _) _
      have hbx := heap_alloc_new wr (.cells #[.int .i64 x.1.t, .int .i64 x.1.f, .int .u32 x.1.s] 29)
      obtain ⟨Wb, eW⟩ : ∃ Wb, wr.alloc (.cells #[.int .i64 x.1.t, .int .i64 x.1.f, .int .u32 x.1.s] 29) = Wb := ⟨_, rfl⟩
      rw [eW] at hgb hbx
      have htb := ht1.grows hgb
      have hl : ∀ p, (Instr.lookup 105 (.map (some mb)) x.1.val true).run Try.prog (reg Wb p) = .ok (.tuple #[x.2, .bool true]) (reg Wb p) := fun p => by
        have := (htb.map.grows (below_reg Wb p)).look Try.underlying105 (zeroI _) x.1 true
        rw [this, hlk]
        rfl
      obtain ⟨d1, -⟩ := cell_in htb.ob 1 rfl
      obtain ⟨t0, -⟩ := cell_in hbx 0 rfl
      obtain ⟨t1, -⟩ := cell_in hbx 1 rfl
      obtain ⟨t2, -⟩ := cell_in hbx 2 rfl
      have hcb := box_cell_grows hc1 hgb
      have z1 := htb.lt
      have z3 : c < Wb.heap.size := by obtain ⟨o9, ho9, -⟩ := cells_of_cell hcb; exact (Array.getElem?_eq_some_iff.1 ho9).1
      have z2 := box_lt hbx
      have HX := Lib.hid hx
      have HG := Lib.hid hgb
      have HBX := Lib.hid hbx
      have hki : (k : Int) < (n : Int) := Int.ofNat_lt.2 hlt
      clear hx hlk hgb hbx htb ht1 hrow hat hcap hj ho hpre hk6 hkl hkm ex hk hlt
      obtain ⟨j1, j2, j3, j4, j6⟩ := HNF.out
      gi_wp2_with fail
      refine wpIn_wide.2 ?_
      refine wp_region_reg (by kernel_rfl) (by kernel_rfl) ?_
      repeat (first | go_big_quiet_step ((fail)) | quiet_step ((fail)))
      refine wpQuiet_nil ?_
      intro _ hcw1
      obtain ⟨pq, hcw2⟩ := hcw1
      subst hcw2
      obtain ⟨W2, eW2⟩ : ∃ W2, reg Wb pq = W2 := ⟨_, rfl⟩
      have hg2 : Grows Wb W2 := by rw [← eW2]; exact below_reg Wb pq
      rw [eW2]
      have hbx2 := box_grows HBX.out hg2
      have HG2 := Lib.hid (grows_trans _ _ _ HG.out hg2)
      obtain ⟨t0, -⟩ := cell_in hbx2 0 rfl
      obtain ⟨t1, -⟩ := cell_in hbx2 1 rfl
      obtain ⟨t2, -⟩ := cell_in hbx2 2 rfl
      have z2 := box_lt hbx2
      obtain ⟨fn, tmps, assign, body, hy, hR⟩ := HY.out pre x W2 (HJ.out _ _ _ J1.out HG2.out) (by show m[pre.length]? = some x; rw [HP.out]; exact HX.out)
      simp only [rowV, KW.val] at hy
      clear hbx2 hg2 eW2 eW hl
      gi_wp2_with fail
      refine hR.mono ?_
      rintro e w3 ⟨hkp, ⟨rfl, hj3⟩ | ⟨rfl, hj3⟩⟩
      · have ho3 := hkp.own HSW.out (own_grows HO1.out HG2.out)
        gi_wp2
        go_roundw
        case rel => exact ⟨k + 1, by rw [HWS.out]; rfl, HKK.out, _, by rw [List.length_append, HP.out]; rfl, hj3, ho3⟩
        case measure => rw [HWS.out]; exact meas_succ HKK.out
      · gi_wp2
        refine bodyPost_ret (results_none rfl _ _ _) rfl ?_
        exact ⟨⟨_, rfl⟩, .inr ⟨_, hj3⟩⟩
    · obtain rfl : k = n := Nat.le_antisymm hk (Nat.le_of_not_lt hlt)
      clear hk ho hj hpre
      gi_wp2
      go_end0
      exact ⟨⟨_, rfl⟩, .inl ⟨pre, by rw [HP.out, EN.out], J1.out⟩⟩
end
end Go.Proofs.Ytdmmceclohkkdaa
