/- The walk of RoundPlays. -/
import Derived.Test.YtihfcaconbcdjaaRoundK
import Derived.Test.YtihfcaconbcdjaaRoundD
import Derived.Test.YtihfcaconbcdjaaWideN
namespace Go.Proofs.Ytihfcaconbcdjaa
open Go.RowKit Go.Sort Go.Maps
set_option maxHeartbeats 2000000
set_option maxRecDepth 100000

theorem Try.infoInt : (Try.prog.info? 3).map (fun i => (i.zero, i.size, i.bytes)) = some (some (.int .i64 0), 1, 8) := by kernel_rfl
abbrev NOwn (w : World) (base : Nat) (v : Value) (l : List Int) : Prop := w.ownsRow base 3 1 v l.length (iv l)
theorem nown_has {w : World} {base : Nat} {v : Value} {l : List Int} (h : NOwn w base v l) : IHas w v l := by
  rcases h.2 with ⟨h1, h2⟩ | ⟨g, cap, cur, hv, hb, hg, h4, _⟩
  · exact .inl ⟨List.eq_nil_of_length_eq_zero h2, none, 0, h1⟩
  · refine .inr ⟨g, 0, cap, hv, h4, (Array.getElem?_eq_some_iff.1 hg).1, fun i hi => ?_⟩
    subst hv
    rw [Nat.zero_add, h.cellAt i (by omega)]
    simp [iv, hi]

/-- The keys of a round's readings. -/
abbrev ksOf (es : List (Int × Int)) : List Int := es.map (·.1)
theorem keys_note {es : List (Int × Int)} (h : Keys64 es) (x d : Int) : Keys64 (noteL es x d) := by
  unfold noteL
  split
  · rename_i h0
    have hx : 0 ≤ x ∧ x < 64 := by
      refine Decidable.byContradiction fun hc => ?_
      unfold noteF at h0
      rw [if_pos (by omega)] at h0
      cases h0
    intro p hp
    rw [List.mem_append] at hp
    rcases hp with hp | hp
    · exact h p hp
    · simp at hp; subst hp; exact hx
  · exact h
theorem apart_note {es : List (Int × Int)} (h : (ksOf es).Nodup) (x d : Int) : (ksOf (noteL es x d)).Nodup := by
  unfold noteL
  split
  · rename_i h0
    have hx : x ∉ es.map (·.1) := by
      intro hc
      unfold noteF at h0
      split at h0
      · cases h0
      · cases h0
    rw [ksOf, List.map_append, List.nodup_append]
    exact ⟨h, by simp, fun a ha b hb hab => by simp at hb; subst hb; subst hab; exact hx ha⟩
  · exact h
theorem length_note (es : List (Int × Int)) (x d : Int) : (noteL es x d).length ≤ es.length + 1 := by
  unfold noteL
  split
  · simp
  · omega
theorem rng_note {es : List (Int × Int)} (h : Rng (dsOf es)) (x d : Int) (hd : (Lit.int .i64 d).wf = true) : Rng (dsOf (noteL es x d)) := by
  unfold noteL
  split
  · intro y hy
    rw [dsOf, List.map_append, List.mem_append] at hy
    rcases hy with hy | hy
    · exact h y hy
    · simp at hy; subst hy; exact wf_i64 hd
  · exact h
theorem getL_at {es : List (Int × Int)} (h : (ksOf es).Nodup) (k : Nat) (hk : k < es.length) : getL es es[k].1 = es[k].2 := by
  unfold getL
  have hf : es.find? (fun p => p.1 == es[k].1) = some es[k] := by
    rw [List.find?_eq_some_iff_getElem]
    refine ⟨by simp, k, hk, rfl, fun j hj => ?_⟩
    have hne := (List.pairwise_iff_getElem.1 h) j k (by simp; omega) (by simpa using hk) hj
    simpa using hne
  rw [hf]
  rfl
theorem key_in {es : List (Int × Int)} (k : Nat) (hk : k < es.length) : decide (es[k].1 ∈ ksOf es) = true := decide_eq_true (List.mem_map_of_mem (f := (·.1)) (List.getElem_mem hk))
theorem no_key64 {es : List (Int × Int)} (h : Keys64 es) : decide ((64 : Int) ∈ ksOf es) = false := by
  refine decide_eq_false fun hc => ?_
  obtain ⟨p, hp, he⟩ := List.mem_map.1 hc
  have := h p hp
  omega

/-- How far the notes have come: the round and the document's list agree. -/
structure RSame (w : World) (b m : Nat) (no : Int) (v : Value) (es : List (Int × Int)) : Prop where
  rnd : RoundAt w b m no es
  lst : RL w v es
  keys : Keys64 es
  apart : (ksOf es).Nodup
  rng : Rng (dsOf es)
theorem RL.kept {w w' : World} {b m : Nat} {no : Int} {v : Value} {l es : List (Int × Int)} (h : RL w v l) (hr : RoundAt w b m no es) (hg : w.grownBy w' (some m)) : RL w' v l := by
  refine ⟨?_, h.2⟩
  by_cases h0 : l = []
  · rw [h.2 h0, h0]
    exact .inl ⟨rfl, none, 0, rfl⟩
  · rcases h.1 with ⟨h1, _⟩ | ⟨g, o, cap, rfl, h2, h3, hat⟩
    · exact absurd h1 h0
    · have hc := (rat_cells hat 0 (List.length_pos_iff.2 h0)).1
      have hne : g ≠ m := by
        rintro rfl
        obtain ⟨D, ⟨es', clock, hb, _⟩, _⟩ := hr.own
        simp [World.cell?, hb] at hc
      exact .inr ⟨g, o, cap, rfl, h2, Nat.lt_of_lt_of_le h3 hg.size, fun i hi j hj => (World.cell?_of_block (a := ⟨g, o + i * 2 + j, none⟩) (hg.block g h3 (by simpa using hne))).trans (hat i hi j hj)⟩

/-- A pair of a list of readings and a number. -/
def sgNote (es : List (Int × Int)) (c : Int) : SG Grows := ⟨fun v w => ∃ v', v = .tuple #[v', .int .i64 c] ∧ RL w v' es, fun _ _ _ ⟨v', h1, h2⟩ hg => ⟨v', h1, h2.grows hg⟩⟩
/-- A list of readings. -/
def sgRL (es : List (Int × Int)) : SG Grows := ⟨fun v w => RL w v es, fun _ _ _ h hg => h.grows hg⟩

theorem roundPlays_walk (no : Int) (v : Value) (l : List (Int × Int)) (f : Int) (w : World) (hl : RHas w v l) (hw : ∀ x ∈ l, (Lit.int .i64 x.1).wf = true ∧ (Lit.int .i64 x.2).wf = true) (hf : -9223372036854775808 ≤ f ∧ f ≤ 9223372036854775807) :
    Calls Try.prog 10 #[.int .i64 no, v, .int .i64 f] w (RetV w (.bool true)) := by
  obtain ⟨i0, hi, hz0, hz1, hz2⟩ := info_parts Try.infoInt
  obtain ⟨nl, en⟩ : ∃ n, l.length = n := ⟨_, rfl⟩
  obtain ⟨p, cap, rfl⟩ := hl.len en
  have HW := Lib.hid (fun W => roundWorks_any W)
  have HN := Lib.hid (fun W => round_new no W)
  have HL := Lib.hid hl
  have EN := Lib.hid en
  have WL := Lib.hid hw
  have HF := Lib.hid hf
  clear hl en hw hf
  go_enter Try.func10, Try.ntmps10
  go_wp2_with fail
  go_at_call 26
  refine (HN.out _).mono ?_
  rintro e w1 ⟨rfl, hr1, hg1⟩
  obtain ⟨m, em⟩ : ∃ m, w.heap.size = m := ⟨_, rfl⟩
  obtain ⟨b, eb⟩ : ∃ b, m + 1 = b := ⟨_, rfl⟩
  have hs1 : RSame w1 b m no (.slice none 0 0) [] := ⟨by rw [← eb, ← em]; exact hr1, ⟨.inl ⟨rfl, none, 0, rfl⟩, fun _ => rfl⟩, fun p hp => by simp at hp, List.nodup_nil, fun x hx => by simp at hx⟩
  have HS1 := Lib.hid hs1
  have HG1 := Lib.hid (show Below w.heap.size w w1 from hg1)
  have HM := Lib.hid (show w.heap.size ≤ m by omega)
  rw [em, eb]
  clear hr1 hg1 hs1 HN em eb
  go_wp2_with fail
  go_loopw [8, 9, 10, 11, 12] (fun vw vi _ _ _ wr => ∃ (k : Nat) (es : List (Int × Int)), vi = .int .i64 (k : Int) ∧ k ≤ nl ∧ k ≤ 70 ∧ es.length ≤ k ∧ RSame wr b m no vw es ∧ Below w.heap.size w wr) (fun _ vi _ _ _ _ => nl - (intOf vi).toNat)
  case atStart => exact ⟨0, [], rfl, by omega, by omega, Nat.le_refl _, HS1.out, HG1.out⟩
  case round =>
    obtain ⟨k, es, rfl, hk, hk70, hes, hs, hg⟩ := hrel
    have HS := Lib.hid hs
    have HG := Lib.hid hg
    clear hs hg HS1 HG1
    by_cases hkn : k < nl ∧ k < 70
    · obtain ⟨h1, h2⟩ := hkn
      obtain ⟨g, o, c', he1, hcap, hgw0, hat⟩ := HL.out.form EN.out (by omega)
      simp only [Value.slice.injEq, true_and] at he1
      obtain ⟨rfl, rfl⟩ := he1
      have hkl : k < l.length := by rw [EN.out]; exact h1
      obtain ⟨c1, c2⟩ := rat_cells hat k hkl
      have d1 := (HG.out.cell (p := ⟨g, o + k * 2, none⟩) hgw0).trans c1
      have d2 := (HG.out.cell (p := ⟨g, o + k * 2 + 1, none⟩) hgw0).trans c2
      have hgw : g < wr.heap.size := Nat.lt_of_lt_of_le hgw0 HG.out.size
      have hwf := WL.out _ (List.getElem_mem hkl)
      obtain ⟨q, eq⟩ : ∃ q, l[k] = q := ⟨_, rfl⟩
      obtain ⟨x, d⟩ := q
      rw [eq] at c1 c2 d1 d2 hwf
      simp only at c1 c2 d1 d2 hwf
      have hnt := fun W (h : RoundAt W b m no es) => round_note W h x d hwf.2 (by omega)
      have hrn := fun W (h : RL W u8 es) => rnote_any u8 es x d W h (by omega)
      have hk' := keys_note HS.out.keys x d
      have ha' := apart_note HS.out.apart x d
      have hl' := length_note es x d
      have hr' := rng_note HS.out.rng x d hwf.2
      unfold RNotes at hrn
      obtain ⟨c, ec⟩ : ∃ c, noteF es x = c := ⟨_, rfl⟩
      obtain ⟨es', ee⟩ : ∃ c, noteL es x d = c := ⟨_, rfl⟩
      rw [ec, ee] at hnt hrn
      rw [ee] at hk' ha' hl' hr'
      have HNT := Lib.hid hnt
      have HRN := Lib.hid hrn
      have HC := Lib.hid (And.intro c1 c2)
      have HK := Lib.hid (And.intro hk' (And.intro ha' hr'))
      have HLEN := Lib.hid (show es'.length ≤ k + 1 by omega)
      have HB := Lib.hid (And.intro h1 h2)
      clear hnt hrn c1 c2 hk' ha' hl' hr' ec ee eq hat hwf hkl hk hk70 hes
      go_wp2_with fail
      refine wp_region_tail_drewN 11 (by kernel_rfl) (by kernel_rfl) (by kernel_rfl) (by kernel_rfl) ?_
      simp only [List.take_succ_cons, List.take_zero, List.drop_succ_cons, List.drop_zero]
      repeat (first | go_big_quiet_step ((fail)) | quiet_step ((fail)))
      refine wpQuiet_nil ?_
      intro _ hcw1
      obtain ⟨nq, hcw2⟩ := hcw1
      subst hcw2
      have gq : Grows wr (wr.drewN nq) := bl_drewN (Below.refl _ _) _
      have RQ := Lib.hid (HS.out.rnd.grows gq)
      have LQ := Lib.hid (HS.out.lst.grows gq)
      have GQ := Lib.hid (grows_trans _ _ _ HG.out gq)
      clear gq
      go_wp2_with fail
      go_at_call 27
      refine (HNT.out _ RQ.out).mono ?_
      rintro e w2 ⟨rfl, hr2, hg2⟩
      have hG2 : Below w.heap.size w w2 := GQ.out.grown hg2 GQ.out.size (fun kk hkk => by cases hkk; exact HM.out)
      have d1 := (hG2.cell (p := ⟨g, o + k * 2, none⟩) hgw0).trans HC.out.1
      have d2 := (hG2.cell (p := ⟨g, o + k * 2 + 1, none⟩) hgw0).trans HC.out.2
      have hgw : g < w2.heap.size := Nat.lt_of_lt_of_le hgw0 hG2.size
      have L2 := Lib.hid (LQ.out.kept RQ.out hg2)
      have R2 := Lib.hid hr2
      have G2 := Lib.hid hG2
      clear hr2 hg2 hG2 LQ RQ GQ
      go_wp2_with fail
      refine WideN.wp_wide3 [.fix _ u8, .fix _ (.slice (some ⟨g, o, none⟩) nl cap), .fix _ (.int .i64 (k : Int)), .fix _ (.pointer (some ⟨g, o + k * 2, none⟩)), .fix _ (.pointer (some ⟨g, o + k * 2, none⟩)), .fix _ (.int .i64 x), .fix _ (.slice (some ⟨g, o, none⟩) nl cap), .fix _ (.int .i64 (k : Int)), .fix _ (.pointer (some ⟨g, o + k * 2, none⟩)), .fix _ (.pointer (some ⟨g, o + k * 2 + 1, none⟩)), .fix _ (.int .i64 d), sgNote es' c, sgNote es' c, sgRL es', .fix _ (.int .i64 c), sgRL es', .fix _ (.int .i64 c)] ?f1 (by kernel_rfl) (by kernel_rfl) rfl (fun vals => by simp [Act.over, dstsOf, overL]; rfl) ?_ ?_
      · refine ⟨?_, ?_, ?_, ?_, ?_, ?_, ?_, ?_, ?_, ?_, ?_, ?_, ?_, ?_, ?_, ?_, ?_, trivial⟩
        all_goals
          intro vals w' hE hn R hR
          simp [WideN.needsOf, Region.binds, dstAt, gOf, SG.fix, sgNote, sgRL] at hn hR
          have HR0 := Lib.hid hR
          try simp only [hn] at hR
          have HR := Lib.hid hR
          have HE := Lib.hid hE
          clear hR hE
        case refine_6 =>
          have c9 := (HE.out.cell (p := ⟨g, o + k * 2, none⟩) hgw).trans d1
          go_wp2_with fail
          exact HR.out _ _ rfl (grows_refl _)
        case refine_11 =>
          have c9 := (HE.out.cell (p := ⟨g, o + k * 2 + 1, none⟩) hgw).trans d2
          go_wp2_with fail
          exact HR.out _ _ rfl (grows_refl _)
        case refine_12 =>
          go_wp2_with (go_at_call 30; refine (HRN.out _ (L2.out.grows HE.out)).mono ?_; rintro e w3 ⟨v9, rfl, hg9, ho9⟩)
          exact HR.out _ _ _ rfl ho9 hg9
        case refine_13 =>
          obtain ⟨v9, e9, h9⟩ := hn
          have hR9 := HR0.out
          simp only [e9] at hR9
          have HR9 := Lib.hid hR9
          clear hR9
          go_wp2_with fail
          exact HR9.out _ _ _ rfl h9 (grows_refl _)
        case refine_14 =>
          obtain ⟨v9, e9, h9⟩ := hn
          have hR9 := HR0.out
          simp only [e9] at hR9
          have HR9 := Lib.hid hR9
          clear hR9
          go_wp2_with fail
          exact HR9.out _ _ h9 (grows_refl _)
        case refine_15 =>
          obtain ⟨v9, e9, h9⟩ := hn
          have hR9 := HR0.out
          simp only [e9] at hR9
          have HR9 := Lib.hid hR9
          clear hR9
          go_wp2_with fail
          exact HR9.out _ _ rfl (grows_refl _)
        case refine_16 =>
          go_wp2_with fail
          exact HR.out _ _ hn.1 (grows_refl _)
        all_goals
          go_wp2_with fail
          exact HR.out _ _ rfl (grows_refl _)
      intro vals w3 hE hn
      have n11 := hn 15 11 rfl
      have n12 := hn 16 12 rfl
      simp [gOf, SG.fix, sgRL] at n11 n12
      have R3 := Lib.hid (R2.out.grows hE)
      have L3 := Lib.hid n11
      have G3 := Lib.hid (grows_trans _ _ _ G2.out hE)
      simp only [n12]
      clear n11 hE hn
      go_wp2_with fail
      go_roundw
      case rel => exact ⟨k + 1, es', rfl, HB.out.1, HB.out.2, HLEN.out, ⟨R3.out, L3.out, HK.out.1, HK.out.2.1, HK.out.2.2⟩, G3.out⟩
      case measure => simp only [intOf]; omega
    · obtain ⟨n, eln⟩ : ∃ n, es.length = n := ⟨_, rfl⟩
      obtain ⟨a, c, rfl⟩ := HS.out.lst.1.len eln
      have hn1 : n ≤ 70 := by omega
      have hsp : ¬ k < nl ∨ (k < nl ∧ ¬ k < 70) := by omega
      have ELN := Lib.hid eln
      clear hkn hes eln
      rename World => W0
      rcases hsp with hk1 | ⟨hk1, hk2⟩
      all_goals (
        go_wp2_with fail
        go_loopw [13, 15, 16, 17, 69] (fun vo _ _ _ vi wl => ∃ j : Nat, vi = .int .i64 (j : Int) ∧ j ≤ n ∧ Grows W0 wl ∧ NOwn wl W0.heap.size vo ((ksOf es).take j)) (fun _ _ _ _ vi _ => n - (intOf vi).toNat)
        case atStart => exact ⟨0, rfl, by omega, grows_refl _, World.ownsRow_nil _ _ _ _⟩
        case round =>
          obtain ⟨j, rfl, hj, hgr, hown⟩ := hrel
          have GR := Lib.hid hgr
          have HO := Lib.hid hown
          clear hgr hown hk1 hk
          by_cases hjn : j < n
          · obtain ⟨g, o, c', he1, hcap, hgw0, hat⟩ := HS.out.lst.1.form ELN.out (by omega)
            simp only [Value.slice.injEq, true_and] at he1
            obtain ⟨rfl, rfl⟩ := he1
            have hjl : j < es.length := by rw [ELN.out]; exact hjn
            obtain ⟨c1, c2⟩ := rat_cells hat j hjl
            have d1 := (GR.out.cell (p := ⟨g, o + j * 2, none⟩) hgw0).trans c1
            have d2 := (GR.out.cell (p := ⟨g, o + j * 2 + 1, none⟩) hgw0).trans c2
            have hst : (ksOf es).take (j + 1) = (ksOf es).take j ++ [es[j].1] := by rw [List.take_succ_eq_append_getElem (by simpa using hjl)]; simp
            obtain ⟨x, ex⟩ : ∃ x, es[j].1 = x := ⟨_, rfl⟩
            obtain ⟨d, ed⟩ : ∃ x, es[j].2 = x := ⟨_, rfl⟩
            rw [ex] at d1 hst
            rw [ed] at d2
            have hlj : ((ksOf es).take j).length ≤ j := by simp; omega
            have HST := Lib.hid hst
            have HJN := Lib.hid hjn
            have hxk := HS.out.keys _ (List.getElem_mem hjl)
            have hge := fun W (h : RoundAt W b m no es) => round_get W h es[j].1 (by simp [Lit.wf, IntKind.min, IntKind.max, IntKind.signed, IntKind.bits]; omega)
            rw [getL_at HS.out.apart j hjl, key_in j hjl, ex, ed] at hge
            have HGE := Lib.hid hge
            clear hge hxk
            clear hat c1 c2 ex ed hst hjl
            go_wp2_with (at_builtin; refine wpList_append_own _ rfl _ _ 58 rfl W0.heap.size 3 i0 _ 1 8 Try.underlying58 hi hz0 hz1 hz2 rfl (by decide) _ ((ksOf es).take j).length (iv ((ksOf es).take j)) rfl ?_ ⟨wr.heap.size + 1, 0, none⟩ 1 1 [.int .i64 x] rfl rfl ?_ ?_ ?_ ?_ ?_ ?_)
            · exact (HO.out.alloc _).alloc _
            · exact World.news_of_block (cs := #[.int .i64 x]) (t := 3) (by have := heap_alloc_new (wr.alloc (.cells #[.int .i64 x, .int .i64 d] 55)) (.cells #[.int .i64 x] 3); simpa using this)
            · intro u hu; simp at hu; subst hu; rfl
            · unfold maxLen; omega
            · omega
            · have := GR.out.size; simp; omega
            intro v' w2 hown2 hgrow _
            rw [iv_snoc] at hown2
            have hg2 : Grows W0 w2 := grows_of_grownBy (bl_alloc (bl_alloc GR.out _) _) hgrow (fun kk hkk => (HO.out.lt kk hkk).1)
            have hxb : w2.heap[wr.heap.size]? = some (.cells #[.int .i64 x, .int .i64 d] 55) := by
              rw [hgrow.block wr.heap.size (by simp; omega) (fun hc => by have := (HO.out.lt _ hc.symm).2; omega)]
              have := ((bl_alloc (Below.refl _ _) _ : Below (wr.alloc (.cells #[.int .i64 x, .int .i64 d] 55)).heap.size (wr.alloc (.cells #[.int .i64 x, .int .i64 d] 55)) ((wr.alloc (.cells #[.int .i64 x, .int .i64 d] 55)).alloc (.cells #[.int .i64 x] 3))).block wr.heap.size (by simp))
              rw [this]
              exact heap_alloc_new wr _
            have hb0 : w2.cell? ⟨wr.heap.size, 0, none⟩ = some (.int .i64 x) := by unfold World.cell?; rw [hxb]; rfl
            have hb1 : w2.cell? ⟨wr.heap.size, 1, none⟩ = some (.int .i64 d) := by unfold World.cell?; rw [hxb]; rfl
            have HO2 := Lib.hid hown2
            have HG2 := Lib.hid hg2
            clear hown2 hgrow hg2 hxb
            go_wp2_with fail
            go_at_call 31
            refine (HGE.out _ (HS.out.rnd.grows HG2.out)).mono ?_
            rintro e w' ⟨rfl, rfl⟩
            go_wp2_with fail
            go_roundw
            case rel =>
              refine ⟨j + 1, rfl, HJN.out, HG2.out, ?_⟩
              rw [HST.out]
              have := HO2.out
              show World.ownsRow _ _ _ _ _ _ _
              rw [show ((ksOf es).take j ++ [x]).length = min j es.length + 1 by simp]
              exact this
            case measure => have := HJN.out; simp only [intOf]; omega
          · obtain rfl : j = n := by omega
            have hall : (ksOf es).take j = ksOf es := List.take_of_length_le (by simp; rw [ELN.out]; exact Nat.le_refl _)
            have hi2 := nown_has HO.out
            rw [hall] at hi2
            have HI2 := Lib.hid hi2
            have hme : es.length ≤ 1000 := by rw [ELN.out]; omega
            have hcl := fun W (h : RoundAt W b m no es) => round_close f W h hme HS.out.rng HF.out
            have hrc := fun W (h : RHas W (.slice a j c) es) => rclose_any _ es f W h hme HS.out.rng HF.out
            have hge := fun W (h : RoundAt W b m no es) => round_get W h 64 (by decide)
            rw [no_key64 HS.out.keys] at hge
            have hwh := fun W (h : RoundAt W b m no es) => round_who W h HS.out.keys
            rw [whoN_of HS.out.keys] at hwh
            have hln := fun W (h : RoundAt W b m no es) => round_len W h
            have hof := fun W (h : IHas W u13 (ksOf es)) => rof_any u13 (ksOf es) W h (by simp; omega)
            rw [ELN.out] at hcl hrc hln
            obtain ⟨M, eM⟩ : ∃ M, midI (trimI f (dsOf es)) = M := ⟨_, rfl⟩
            obtain ⟨S, eS⟩ : ∃ S, ofN (ksOf es) = S := ⟨_, rfl⟩
            obtain ⟨z, ez⟩ : ∃ z, getL es 64 = z := ⟨_, rfl⟩
            obtain ⟨B, eB⟩ : ∃ B, decide (0 < j) = B := ⟨_, rfl⟩
            rw [eM, eB] at hcl hrc
            rw [eS] at hwh hof
            rw [ez] at hge
            have HCL := Lib.hid hcl
            have HRC := Lib.hid hrc
            have HGE := Lib.hid hge
            have HWH := Lib.hid hwh
            have HLN := Lib.hid hln
            have HOF := Lib.hid hof
            have HNO := Lib.hid (fun W (h : RoundAt W b m no es) => round_no W h)
            clear hcl hrc hge hwh hln hof eM eS ez eB hall hi2 hme hn1 hk70
            go_wp2_with fail
            go_at_call 28
            refine (HCL.out _ (HS.out.rnd.grows GR.out)).mono ?_
            rintro e w3 ⟨rfl, hg3⟩
            have G3 := Lib.hid (grows_trans _ _ _ GR.out hg3)
            have I3 := Lib.hid (HI2.out.grows hg3)
            clear hg3
            go_wp2_with fail
            go_at_call 32
            refine (HRC.out _ (HS.out.lst.1.grows G3.out)).mono ?_
            rintro e w4 ⟨rfl, hg4⟩
            have G4 := Lib.hid (grows_trans _ _ _ G3.out hg4)
            have I4 := Lib.hid (I3.out.grows hg4)
            have R4 := Lib.hid (HS.out.rnd.grows G4.out)
            clear hg4
            go_wp2_with (first
              | (go_at_call 31; refine (HGE.out _ R4.out).mono ?_; rintro e w' ⟨rfl, rfl⟩)
              | (go_at_call 33; refine (HNO.out _ R4.out).mono ?_; rintro e w' ⟨rfl, rfl⟩)
              | (go_at_call 34; refine (HLN.out _ R4.out).mono ?_; rintro e w' ⟨rfl, rfl⟩))
            go_at_call 29
            refine (HWH.out _ R4.out).mono ?_
            rintro e w5 ⟨rfl, hg5⟩
            have G5 := Lib.hid hg5
            have I5 := Lib.hid (I4.out.grows hg5)
            clear hg5
            go_wp2_with fail
            go_at_call 35
            refine (HOF.out _ I5.out).mono ?_
            rintro e w' ⟨rfl, rfl⟩
            go_wp2_with fail
            go_at_call 25
            refine (HW.out _).mono ?_
            rintro e w6 ⟨rfl, hg6⟩
            have G6 := Lib.hid hg6
            clear hg6
            go_wp2_with fail
            go_ret
            exact ⟨rfl, grows_trans _ _ _ (grows_trans _ _ _ HG.out G4.out) (grows_trans _ _ _ G5.out G6.out)⟩)
end Go.Proofs.Ytihfcaconbcdjaa
