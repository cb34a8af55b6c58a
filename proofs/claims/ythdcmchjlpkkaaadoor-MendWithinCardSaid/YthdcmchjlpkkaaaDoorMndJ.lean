/- Turns as the program's; several turns. -/
import Derived.Test.YthdcmchjlpkkaaaDoorMndI
namespace Go.Proofs.YthdcmchjlpkkaaaDoor.Tr
open Go.RowKit Go.Sort
set_option maxHeartbeats 4000000
set_option maxRecDepth 100000
theorem Tryd.infoTurn : (Tryd.prog.info? TTN).map (fun i => (i.zero, i.size, i.bytes)) = some (some (.agg #[.int .u64 0, .slice none 0 0, .slice none 0 0]), 3, 56) := by kernel_rfl
/-- A turn. -/
structure TN where
  s : Nat
  ea : Option Addr
  en : Nat
  ec : Nat
  da : Option Addr
  dn : Nat
  dc : Nat
  E : List SL
  D : List Int
abbrev TN.cells (t : TN) : Array Value := #[.int .u64 (t.s : Int), .slice t.ea t.en t.ec, .slice t.da t.dn t.dc]
abbrev tnv (t : TN) : List Value := [.int .u64 (t.s : Int), .slice t.ea t.en t.ec, .slice t.da t.dn t.dc]
def TNOk (w : World) (t : TN) : Prop := t.s < 18446744073709551616 ∧ EHas w (.slice t.ea t.en t.ec) t.E ∧ IHas w (.slice t.da t.dn t.dc) t.D
theorem TNOk.grows {w w' : World} {t : TN} (h : TNOk w t) (hg : Grows w w') : TNOk w' t := ⟨h.1, h.2.1.grows hg, h.2.2.grows hg⟩
theorem kindTurn : RowKind tnv 3 45 TTN (.agg #[.int .u64 0, .slice none 0 0, .slice none 0 0]) 56 :=
  ⟨fun _ => rfl, fun a u hu => by
    simp only [List.mem_cons, List.not_mem_nil, or_false] at hu
    rcases hu with rfl | rfl | rfl <;> rfl, Tryd.underlying45, Tryd.infoTurn, rfl, by decide, by decide⟩
theorem ours_any {w : World} {v : Value} {l : List TN} (h : GRows tnv 3 w v l) (hn : l.length ≤ 1000) :
    Calls Tryd.prog 13 #[v] w (fun e w' => ∃ v', e = .returned v' ∧ Grows w w' ∧ GOwn tnv 3 TTN w' w.heap.size v' l) := by
  obtain ⟨n, en⟩ : ∃ n, l.length = n := ⟨_, rfl⟩
  obtain ⟨a, cap, rfl⟩ := h.len en
  have H := Lib.hid h
  have EN := Lib.hid en
  rw [en] at hn
  clear h en
  go_enter Tryd.func13, Tryd.ntmps13
  go_wp2_with fail
  go_loopw [3, 8] (fun ov iv wr => ∃ i : Nat, iv = .int .i64 (i : Int) ∧ i ≤ n ∧ GOwn tnv 3 TTN wr w.heap.size ov (l.take i) ∧ Grows w wr) (fun _ iv _ => n - (intOf iv).toNat)
  case atStart => exact ⟨0, rfl, Nat.zero_le _, World.ownsRow_nil _ _ _ _, Below.refl _ _⟩
  case round =>
    obtain ⟨i, rfl, hi, ho, hg⟩ := hrel
    have D0 := Lib.hid (And.intro ho hg)
    clear ho hg
    by_cases hlt : i < n
    · have hil : i < l.length := by rw [EN.out]; exact hlt
      obtain ⟨g, o, cap', he, hml, hgl, hat⟩ := H.out.form EN.out (by omega)
      simp only [Value.slice.injEq] at he
      obtain ⟨rfl, -, rfl⟩ := he
      obtain ⟨t, et⟩ : ∃ t, l[i] = t := ⟨_, rfl⟩
      have gr := D0.out.2
      have q0 : wr.cell? ⟨g, o + i * 3, none⟩ = some (.int .u64 (t.s : Int)) := by have h1 := hat i hil 0 (by decide); rw [et] at h1; exact (gr.cell (p := ⟨g, o + i * 3 + 0, none⟩) hgl).trans h1
      have q1 : wr.cell? ⟨g, o + i * 3 + 1, none⟩ = some (.slice t.ea t.en t.ec) := by have h1 := hat i hil 1 (by decide); rw [et] at h1; exact (gr.cell (p := ⟨g, o + i * 3 + 1, none⟩) hgl).trans h1
      have q2 : wr.cell? ⟨g, o + i * 3 + 2, none⟩ = some (.slice t.da t.dn t.dc) := by have h1 := hat i hil 2 (by decide); rw [et] at h1; exact (gr.cell (p := ⟨g, o + i * 3 + 2, none⟩) hgl).trans h1
      have gz := Nat.lt_of_lt_of_le hgl gr.size
      obtain ⟨w2, e2⟩ : ∃ w2, wr.alloc (.cells t.cells 42) = w2 := ⟨_, rfl⟩
      have hg2 : Grows wr w2 := by rw [← e2]; exact bl_alloc (Below.refl _ _) _
      have hb2 : w2.heap[wr.heap.size]? = some (.cells t.cells 42 (0, 0)) := by rw [← e2]; exact heap_alloc_new wr _
      obtain ⟨b, eb⟩ : ∃ b, wr.heap.size = b := ⟨_, rfl⟩
      rw [eb] at hb2
      obtain ⟨v6, W6, hr6, ho6, hg6⟩ := gapp_one kindTurn t (own_grows D0.out.1 hg2) (by rw [List.length_take]; omega) (Nat.le_trans gr.size hg2.size)
      have hts : l.take i ++ [t] = l.take (i + 1) := by rw [List.take_succ_eq_append_getElem hil, et]
      rw [hts] at ho6
      have hg26 : Grows w W6 := grows_of_grownBy (grows_trans _ _ _ gr hg2) hg6 (fun k hk => by have := (D0.out.1.lt k hk).1; omega)
      have D6 := Lib.hid (And.intro ho6 hg26)
      obtain ⟨k0, -⟩ := cell_in hb2 0 rfl
      obtain ⟨k1, -⟩ := cell_in hb2 1 rfl
      obtain ⟨k2, -⟩ := cell_in hb2 2 rfl
      have zk := box_lt hb2
      have HIN := Lib.hid hlt
      have hd1 : decide ((i : Int) < (n : Int)) = true := decide_eq_true (by omega)
      have hq1 : (i < n) = True := eq_true hlt
      have hq3 : (i : Int) < (n : Int) := Int.ofNat_lt.2 hlt
      have hn6 : i ≤ 1000000 := by omega
      have HWS := Lib.hid (wrap_succ hn6)
      clear hat hil et gr hml hgl hg2 hb2 ho6 hg6 hts hg26 hlt hi hn6
      go_wp2_with (at_builtin; refine wpList_append_eq _ rfl _ _ 45 45 rfl _ _ rfl rfl (hr6 _) ?_)
      go_roundw
      case rel => exact ⟨i + 1, rfl, HIN.out, D6.out.1, D6.out.2⟩
      case measure => exact meas_succ HIN.out
    · obtain rfl : i = n := by omega
      have hd1 : decide ((i : Int) < (i : Int)) = false := decide_eq_false (by omega)
      have hq1 : (i < i) = False := eq_false (by omega)
      clear hlt hi
      go_wp2_with fail
      go_ret
      refine ⟨_, rfl, D0.out.2, ?_⟩
      have := D0.out.1
      rwa [List.take_of_length_le (Nat.le_of_eq EN.out)] at this
theorem own_src {w : World} {base : Nat} {v : Value} {l : List Int} (h : GOwn ic 1 2 w base v l) : GSrc ic w v l := by
  rcases h.2 with ⟨h1, h2⟩ | ⟨g, cap, cur, hv, hb, hg, h4, h5⟩
  · exact .inl ⟨List.eq_nil_of_length_eq_zero h2, h1⟩
  · subst hv
    refine .inr ⟨⟨g, 0, none⟩, cap, rfl, fun j x hj => ?_⟩
    have hjl : j < l.length := by have := (List.getElem?_eq_some_iff.1 hj).1; rw [rows_length (k := 1) (fun _ => rfl)] at this; omega
    have h6 := h.cellAt j (by omega)
    rw [addr_add, Nat.zero_add, h6]
    exact hj
/-- Several turns: some clocks. -/
theorem run_any {w : World} {base : Nat} {vc vl : Value} {c : List Int} {l : List TN} (f : Int) (hc : GOwn ic 1 2 w base vc c) (hm : c.length ≤ 1000) (h : GRows tnv 3 w vl l) (hok : ∀ t ∈ l, TNOk w t) (hn : l.length ≤ 1000) (hT : Laid w) (hf : -9223372036854775808 ≤ f ∧ f ≤ 9223372036854775807) :
    Calls Tryd.prog 12 #[vc, .int .i64 f, vl] w (fun e w' => (∃ v, e = .returned v) ∧ Grows w w') := by
  obtain ⟨n, en⟩ : ∃ n, l.length = n := ⟨_, rfl⟩
  obtain ⟨a, cap, rfl⟩ := h.len en
  have H := Lib.hid h
  have EN := Lib.hid en
  rw [en] at hn
  have HT := Lib.hid hT
  have HOK := Lib.hid hok
  have HM := Lib.hid (And.intro hm hf)
  have hgb : Grows w (w.alloc (.cells #[] 2)) := bl_alloc (Below.refl _ _) _
  obtain ⟨v1, W1, hr1, ho1, hg1⟩ := gapp_run kindI64 (gown_lit (E := 2) (f := ic) (k := 1) (by decide) w) ((own_src hc).grows hgb) (by simp; omega) hgb.size
  have hgg1 : Grows w W1 := grows_of_grownBy hgb hg1 (fun k hk => by simp [Value.ownBlock] at hk; omega)
  rw [List.nil_append] at ho1
  have D1 := Lib.hid (And.intro (gown_ihas ho1) hgg1)
  obtain ⟨ac, nc, cc, rfl⟩ : ∃ a n c, vc = .slice a n c := by obtain ⟨a, c', e⟩ := GOwn.len kindI64.len hc rfl; exact ⟨_, _, _, e⟩
  clear h en hT hok hm hf hgb ho1 hg1 hgg1 hc
  go_enter Tryd.func12, Tryd.ntmps12
  go_wp2_with (at_builtin; refine wpList_append_eq _ rfl _ _ 27 27 rfl _ _ rfl rfl (hr1 _) ?_)
  go_loopw [7, 15] (fun ov iv wr => ∃ i : Nat, iv = .int .i64 (i : Int) ∧ i ≤ n ∧ (∃ lo, IHas wr ov lo ∧ lo.length ≤ 1000) ∧ Grows w wr) (fun _ iv _ => n - (intOf iv).toNat)
  case atStart => exact ⟨0, rfl, Nat.zero_le _, ⟨c, D1.out.1, HM.out.1⟩, D1.out.2⟩
  case round =>
    obtain ⟨i, rfl, hi, ⟨lo, ho, hlo⟩, hg⟩ := hrel
    have D0 := Lib.hid (And.intro ho (And.intro hlo hg))
    clear ho hg hlo
    by_cases hlt : i < n
    · have hil : i < l.length := by rw [EN.out]; exact hlt
      obtain ⟨g, o, cap', he, hml, hgl, hat⟩ := H.out.form EN.out (by omega)
      simp only [Value.slice.injEq] at he
      obtain ⟨rfl, -, rfl⟩ := he
      obtain ⟨t, et⟩ : ∃ t, l[i] = t := ⟨_, rfl⟩
      have htk : TNOk w t := HOK.out _ (by rw [← et]; exact List.getElem_mem hil)
      have gr := D0.out.2.2
      have q0 : wr.cell? ⟨g, o + i * 3, none⟩ = some (.int .u64 (t.s : Int)) := by have h1 := hat i hil 0 (by decide); rw [et] at h1; exact (gr.cell (p := ⟨g, o + i * 3 + 0, none⟩) hgl).trans h1
      have q1 : wr.cell? ⟨g, o + i * 3 + 1, none⟩ = some (.slice t.ea t.en t.ec) := by have h1 := hat i hil 1 (by decide); rw [et] at h1; exact (gr.cell (p := ⟨g, o + i * 3 + 1, none⟩) hgl).trans h1
      have q2 : wr.cell? ⟨g, o + i * 3 + 2, none⟩ = some (.slice t.da t.dn t.dc) := by have h1 := hat i hil 2 (by decide); rw [et] at h1; exact (gr.cell (p := ⟨g, o + i * 3 + 2, none⟩) hgl).trans h1
      have gz := Nat.lt_of_lt_of_le hgl gr.size
      obtain ⟨w2, e2⟩ : ∃ w2, wr.alloc (.cells t.cells TTN) = w2 := ⟨_, rfl⟩
      have hg2 : Grows wr w2 := by rw [← e2]; exact bl_alloc (Below.refl _ _) _
      have hb2 : w2.heap[wr.heap.size]? = some (.cells t.cells TTN (0, 0)) := by rw [← e2]; exact heap_alloc_new wr _
      obtain ⟨b, eb⟩ : ∃ b, wr.heap.size = b := ⟨_, rfl⟩
      rw [eb] at hb2
      have htk2 := htk.grows (grows_trans _ _ _ gr hg2)
      have HONE := Lib.hid (one_any f (D0.out.1.grows hg2) htk2.2.1 htk2.2.2 htk2.1 (HT.out.grows (grows_trans _ _ _ gr hg2)) D0.out.2.1 HM.out.2)
      have G2 := Lib.hid (grows_trans _ _ _ gr hg2)
      obtain ⟨k0, -⟩ := cell_in hb2 0 rfl
      obtain ⟨k1, -⟩ := cell_in hb2 1 rfl
      obtain ⟨k2, -⟩ := cell_in hb2 2 rfl
      have zk := box_lt hb2
      have HIN := Lib.hid hlt
      have hd1 : decide ((i : Int) < (n : Int)) = true := decide_eq_true (by omega)
      have hq1 : (i < n) = True := eq_true hlt
      have hq3 : (i : Int) < (n : Int) := Int.ofNat_lt.2 hlt
      have hn6 : i ≤ 1000000 := by omega
      have HWS := Lib.hid (wrap_succ hn6)
      clear hat hil et gr hml hgl hg2 hb2 hlt hi hn6 htk htk2
      go_wp2_with fail
      refine HONE.out.mono ?_
      rintro e w3 ⟨v3, rfl, hg3, hh3⟩
      have D3 := Lib.hid (And.intro hh3 (grows_trans _ _ _ G2.out hg3))
      clear hh3 hg3
      go_wp2_with fail
      go_roundw
      case rel => exact ⟨i + 1, rfl, HIN.out, ⟨_, D3.out.1, by rw [oneI_length]; exact D0.out.2.1⟩, D3.out.2⟩
      case measure => exact meas_succ HIN.out
    · obtain rfl : i = n := by omega
      have hd1 : decide ((i : Int) < (i : Int)) = false := decide_eq_false (by omega)
      have hq1 : (i < i) = False := eq_false (by omega)
      clear hlt hi
      go_wp2_with fail
      go_ret
      exact ⟨⟨_, rfl⟩, D0.out.2.2⟩
end Go.Proofs.YthdcmchjlpkkaaaDoor.Tr
