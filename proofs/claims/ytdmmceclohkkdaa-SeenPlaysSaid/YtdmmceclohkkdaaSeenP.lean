/- The walk of SeenPlays. -/
import Derived.Test.YtdmmceclohkkdaaSeenB
import Derived.Test.YtdmmceclohkkdaaDocExp
import Derived.Test.YtdmmceclohkkdaaActO
namespace Go.Proofs.Ytdmmceclohkkdaa
open Go.RowKit Go.Sort
set_option maxHeartbeats 0
set_option maxRecDepth 100000
/-- A statement shut: no tactic looks into it. -/
structure Shut (p : Prop) : Prop where
  out : p
/-- Names, and the document's table in the box p, side by side. -/
structure SDuo (w : World) (B sb tb mb : Nat) (kv : Value) (p : Nat) (vw : Value) (l : List DR) (M : Nat) : Prop where
  seen : SeenAt w B sb tb kv mb (l.map tv) M
  own : ROwn w B vw l
  box : w.heap[p]? = some (.cells #[vw, .int .i64 (M : Int)] TDT (0, 0))
section
variable {w w' : World} {B sb tb mb p M : Nat} {kv vw : Value} {l : List DR}
theorem SDuo.grows (h : SDuo w B sb tb mb kv p vw l M) (hg : Grows w w') : SDuo w' B sb tb mb kv p vw l M := ⟨h.seen.grows hg, own_grows h.own hg, box_grows h.box hg⟩
theorem seen_to {m m' : List (KW × Value)} {r : Value} {e : Ending} (h : SeenAt w B sb tb kv mb m M) (ht : SeenTo w B sb tb kv mb m' M r e w') :
    e = .returned r ∧ ∃ kv', SeenAt w' B sb tb kv' mb m' M ∧ ∀ (c : Nat) (cs : Array Value), w.heap[c]? = some (Obj.cells cs TDT (0, 0)) → w'.heap[c]? = some (Obj.cells cs TDT (0, 0)) := by
  obtain ⟨rfl, kv', k1, k2, k3⟩ := ht
  exact ⟨rfl, kv', k1, fun c cs hc => box_chg hc k2 (h.tab.notS hc (by decide) (by decide))⟩
theorem seen_box {m : List (KW × Value)} {cs : Array Value} (h : SeenAt w B sb tb kv mb m M) (hb : w.heap[p]? = some (.cells cs TDT (0, 0))) (hc : Chg (fun j => j = p) w w') : SeenAt w' B sb tb kv mb m M := by
  have hn := h.tab.notS hb (by decide) (by decide)
  refine ⟨box_chg h.ob hc (fun e => ?_), h.tab.chg hc (fun e => hn (.inl e.symm)) (fun e => hn (.inr (.inl e.symm))) (fun j hj e => hn (.inr (.inr (e ▸ hj)))), h.bs⟩
  have h3 := h.ob
  rw [e, hb] at h3
  injection h3 with h3
  injection h3 with _ h3
  exact absurd h3 (by decide)
theorem rown_box {b2 : Nat} {v : Value} {l2 : List DR} {cs : Array Value} (ho : ROwn w b2 v l2) (hb : w.heap[p]? = some (.cells cs TDT (0, 0))) (hc : Chg (fun j => j = p) w w') : ROwn w' b2 v l2 :=
  hc.own ho (fun j hj e => by
    obtain ⟨cur, hcur⟩ := ROwn.ty ho hj
    rw [e, hb] at hcur
    injection hcur with hcur
    injection hcur with _ hcur
    exact absurd hcur (by decide))
theorem SDuo.to {m' : List (KW × Value)} {r : Value} {e : Ending} (h : SDuo w B sb tb mb kv p vw l M) (ht : SeenTo w B sb tb kv mb m' M r e w') :
    e = .returned r ∧ ∃ kv', SeenAt w' B sb tb kv' mb m' M ∧ ∀ (c : Nat) (cs : Array Value), w.heap[c]? = some (Obj.cells cs TDT (0, 0)) → w'.heap[c]? = some (Obj.cells cs TDT (0, 0)) := by
  obtain ⟨rfl, kv', k1, k2, k3⟩ := ht
  exact ⟨rfl, kv', k1, fun c cs hc => box_chg hc k2 (h.seen.tab.notS hc (by decide) (by decide))⟩
theorem SeenTo.own {m m' : List (KW × Value)} {r : Value} {e : Ending} {b2 : Nat} {v : Value} {l2 : List DR} (h : SeenAt w B sb tb kv mb m M) (ho : ROwn w b2 v l2) (ht : SeenTo w B sb tb kv mb m' M r e w') : ROwn w' b2 v l2 :=
  ht.2.choose_spec.2.1.own ho (fun j hj hs => ROwn.tab ho h.tab (by decide) j hj hs)
theorem SDuo.next {v' : Value} {l' : List DR} (hs : SeenAt w B sb tb kv mb (l'.map tv) M) (ho : ROwn w B v' l') (hb : w.heap[p]? = some (.cells #[vw, .int .i64 (M : Int)] TDT (0, 0))) :
    SDuo ((w.setCell ⟨p, 0, none⟩ v').setCell ⟨p, 1, none⟩ (.int .i64 (M : Int))) B sb tb mb kv p v' l' M ∧ Chg (fun j => j = p) w ((w.setCell ⟨p, 0, none⟩ v').setCell ⟨p, 1, none⟩ (.int .i64 (M : Int))) := by
  obtain ⟨h1, h2⟩ := Duo.next hs.tab ho hb
  refine ⟨⟨⟨box_chg hs.ob h2 (fun e => ?_), h1.tab, hs.bs⟩, h1.own, h1.box⟩, h2⟩
  have h3 := hs.ob
  rw [e, hb] at h3
  injection h3 with h3
  injection h3 with _ h3
  exact absurd h3 (by decide)
end
theorem over_keep (e : Int) (l : List DR) : (l.map tv).filter (fun p => !overD e p) = (l.filter (keepE e)).map tv := by
  rw [List.filter_map]
  congr 1
  refine List.filter_congr fun p _ => ?_
  simp only [Function.comp, overD, keepE, tv, intOf]
  by_cases h : p.2 < e
  · simp [h, Int.not_le.2 h]
  · simp [h, Int.not_lt.1 h]
theorem over_count (e : Int) (l : List DR) : ((l.map tv).filter (overD e)).length + (l.filter (keepE e)).length = l.length := by
  have h1 := delT_length (m := l.map tv) (overD e)
  rw [over_keep, List.length_map, List.length_map] at h1
  exact h1
theorem tv_ints (l : List DR) : ∀ p ∈ l.map tv, ∃ x, p.2 = .int .i64 x := fun p hp => by
  obtain ⟨q, -, rfl⟩ := List.mem_map.1 hp
  exact ⟨_, rfl⟩
theorem has_at (l : List DR) (k : KW) : decide (0 ≤ atR l k) = (getK (l.map tv) k).isSome := by
  by_cases hk : k ∈ l.map (·.1)
  · obtain ⟨i, hi, -⟩ := atR_mem hk
    rw [hi]
    cases hg : getK (l.map tv) k with
    | none => exact absurd hk (getK_tv.1 hg)
    | some u => simp
  · rw [atR_none hk, getK_tv.2 hk]; rfl
theorem room_wrap29 {M n : Nat} (h : M ≤ 65536) (hn : n ≤ 100000) : wrap64 ((M : Int) - (n : Int)) = (M : Int) - (n : Int) := by unfold wrap64; omega
theorem sub_facts29 {c m n : Nat} (h : c + m = n) (hn : n ≤ 100000) : wrap64 ((n : Int) - (m : Int)) = (c : Int) ∧ IntKind.i64.wrap ((n : Int) - (m : Int)) = (c : Int) := by
  have h1 : (n : Int) - (m : Int) = (c : Int) := by omega
  rw [wrapEq, h1]
  exact ⟨(nat_facts c (by omega)).2.2.2.1, (nat_facts c (by omega)).2.2.2.1⟩
theorem new_drew (wr : World) {w5 : World} (hg : Grows (wr.drew.alloc (.cells #[.slice none 0 0, .int .i64 0] TDT)) w5) : w5.heap[wr.heap.size]? = some (.cells #[.slice none 0 0, .int .i64 0] TDT (0, 0)) := box_grows (heap_alloc_new wr.drew _) hg
section
attribute [-go_sem] run_eql_struct run_neq_struct
theorem seenPlays_walk (most : Int) {v : Value} {l : List AC} {w : World} (h : AHas w v l) (hk : ∀ x ∈ l, ABool x) : Calls Try.prog 9 #[.int .i64 most, v] w (RetV w (.bool true)) := by
  have HN := Lib.hid (fun W => snew_any most W)
  have HD := Lib.hid (fun W => rnew_any most W)
  have HW := Lib.hid (fun W => seenWorks_any W)
  obtain ⟨n, en⟩ : ∃ n, l.length = n := ⟨_, rfl⟩
  obtain ⟨a, cap, rfl⟩ := h.len en
  obtain ⟨M, eM⟩ : ∃ M, mostOfI most = M := ⟨_, rfl⟩
  have HM6 := Lib.hid (show M ≤ 65536 by rw [← eM]; unfold mostOfI; omega)
  rw [eM] at HN HD
  have HH := Lib.hid h
  have EN := Lib.hid en
  have HK := Lib.hid hk
  obtain ⟨B, eB⟩ : ∃ B, w.heap.size = B := ⟨_, rfl⟩
  have EB := Lib.hid eB
  clear h en hk eM
  go_enter Try.func9, Try.ntmps9
  go_wp2_with fail
  refine (HN.out _).mono ?_
  rintro e w1 ⟨sb, rfl, hg1, ht1⟩
  rw [eB] at ht1
  have HT1 := Lib.hid ht1
  have HG1 := Lib.hid hg1
  clear ht1 hg1
  go_wp2_with fail
  refine (HD.out _).mono ?_
  rintro e w2 ⟨rfl, hg2⟩
  have HG2 := Lib.hid hg2
  clear hg2
  obtain ⟨w3, e3⟩ : ∃ w3, w2.alloc (.cells #[.slice none 0 0, .int .i64 (M : Int)] TDT) = w3 := ⟨_, rfl⟩
  obtain ⟨p, ep⟩ : ∃ p, w2.heap.size = p := ⟨_, rfl⟩
  have g3 : Grows w2 w3 := by rw [← e3]; exact bl_alloc (Below.refl _ _) _
  have hd3 : SDuo w3 B sb (B + 1) B (.slice none 0 0) p (.slice none 0 0) [] M := by
    have h1 := HT1.out.grows HG2.out
    have h2 := heap_alloc_new w2 (.cells #[.slice none 0 0, .int .i64 (M : Int)] TDT)
    rw [e3, ep] at h2
    exact ⟨h1.grows g3, World.ownsRow_nil _ _ _ _, h2⟩
  have D3 := Lib.hid hd3
  have G3 := Lib.hid (grows_trans _ _ _ HG1.out (grows_trans _ _ _ HG2.out g3))
  have HBp := Lib.hid (show B ≤ p by rw [← ep, ← eB]; exact (grows_trans _ _ _ HG1.out HG2.out).size)
  have E3 := Lib.hid (And.intro e3 ep)
  clear e3 ep g3 hd3
  go_wp2_with fail
  rw [E3.out.1, E3.out.2]
  clear E3
  go_wp2_with fail
  go_loopw [7] (fun iv wr => Shut (∃ (i : Nat) (kv vw : Value) (l' : List DR), iv = .int .i64 (i : Int) ∧ i ≤ n ∧ i ≤ 60 ∧ l'.length ≤ i ∧ SDuo wr B sb (B + 1) B kv p vw l' M ∧ Grows w wr)) (fun iv _ => 60 - (intOf iv).toNat)
  case atStart => exact ⟨⟨0, _, _, _, rfl, Nat.zero_le _, Nat.zero_le _, Nat.le_refl _, D3.out, G3.out⟩⟩
  case round =>
    obtain ⟨i, kv, vw, l', rfl, hi, hi60, hli, hd, hg⟩ := hrel.out
    clear hrel
    have D := Lib.hid hd
    have GR := Lib.hid hg
    have HLI := Lib.hid hli
    clear hd hg hli
    by_cases hlt : i < n ∧ i < 60
    · obtain ⟨hin, h60⟩ := hlt
      have hnl : i < l.length := by rw [EN.out]; exact hin
      obtain ⟨g, o, c', he, hcap, hgl, hat⟩ := HH.out.form EN.out (Nat.lt_of_le_of_lt (Nat.zero_le _) hin)
      simp only [Value.slice.injEq, true_and] at he
      obtain ⟨rfl, rfl⟩ := he
      obtain ⟨q, eq⟩ := HK.out l[i] (List.getElem_mem _)
      obtain ⟨y, ey⟩ : ∃ y, l[i].2 = y := ⟨_, rfl⟩
      have hp := fun W' (hg : Grows w W') => aat_cells (hat.grows hg hgl) i hnl
      rw [eq, ey] at hp
      have HP := Lib.hid hp
      have HGL := Lib.hid (fun (W' : World) (hg : Grows w W') => Nat.lt_of_lt_of_le hgl hg.size)
      obtain ⟨p0, p1, p2, p3, p4⟩ := hp wr GR.out
      have z2 := HGL.out wr GR.out
      obtain ⟨a0, cap0, rfl⟩ := ROwn.len D.out.own rfl
      obtain ⟨N, eN⟩ : ∃ N, l'.length = N := ⟨_, rfl⟩
      have EN2 := Lib.hid eN
      rw [eN] at D
      have HN6 := Lib.hid (show N ≤ 60 by rw [← eN]; exact Nat.le_trans HLI.out hi60)
      have hn6 : i ≤ 1000000 := Nat.le_trans hi60 (by decide)
      have HNF := Lib.hid (nat_facts i hn6)
      have HWS := Lib.hid (wrap_succ hn6)
      have H60 := Lib.hid h60
      have HIN := Lib.hid hin
      have hd1 : decide ((i : Int) < (n : Int)) = true := decide_eq_true (by omega)
      have hd2 : decide ((i : Int) < 60) = true := decide_eq_true (by omega)
      have hq1 : (i < n) = True := eq_true hin
      have hq2 : (i < 60) = True := eq_true h60
      have hq3 : (i : Int) < (n : Int) := Int.ofNat_lt.2 hin
      have hq4 : (i : Int) < 60 := by omega
      have c0 := (cell_in D.out.box 0 rfl).1
      have c1 := (cell_in D.out.box 1 rfl).1
      have z1 := box_lt D.out.box
      have gd : Grows wr wr.drew := bl_drew (Below.refl _ _)
      have GD := Lib.hid gd
      have mixed : Try.prog.follows .mixedOrders = true := by kernel_rfl
      clear hp hnl hat eq ey hn6 hi hi60 h60 hcap hgl hin eN gd
      obtain ⟨j1, j2, j3, j4, j6⟩ := HNF.out
      cases q with
      | true =>
        obtain ⟨lp, elp⟩ : ∃ lp, l'.filter (keepE y.2) = lp := ⟨_, rfl⟩
        obtain ⟨np, enp⟩ : ∃ np, lp.length = np := ⟨_, rfl⟩
        obtain ⟨cn, ecn⟩ : ∃ cn, ((l'.map tv).filter (overD y.2)).length = cn := ⟨_, rfl⟩
        have hsum : cn + np = N := by have := over_count y.2 l'; rw [elp, ecn, EN2.out] at this; rw [← enp]; exact this
        have ENP := Lib.hid enp
        have HNP := Lib.hid (show np ≤ N by rw [← hsum]; exact Nat.le_add_left _ _)
        have HSUB := Lib.hid (sub_facts29 hsum (Nat.le_trans HN6.out (by decide)))
        have HRE := Lib.hid (fun W' (hg : Grows wr W') => by
          have h1 := rexpire_any (M := M) y.2 (own_grows D.out.own hg) (by rw [EN2.out]; exact Nat.le_trans HN6.out (by decide)) (by rw [← EB.out]; exact (grows_trans _ _ _ GR.out hg).size)
          rwa [elp] at h1)
        have HSE := Lib.hid (fun W' (hg : Grows wr W') => by
          have h1 := sexpire_any y.2 (D.out.seen.grows hg) (tv_ints l')
          rwa [over_keep, elp, ecn] at h1)
        clear elp ecn enp hsum
        go_wp2_with fail
        go_cut [8] (fun v8 wx => ∃ c a5 cap5, v8 = .pointer (some ⟨c, 0, none⟩) ∧ wx.heap[c]? = some (.cells #[.slice a5 np cap5, .int .i64 (M : Int)] TDT (0, 0)) ∧ ROwn wx B (.slice a5 np cap5) lp ∧ Grows wr wx)
        case first =>
          go_region_law (first
            | (refine step_call (by rfl) 40 #[.tmp 30, .tmp 35] #[TDT, 2] (by rfl) #[dval (.slice a0 N cap0) M, .int .i64 y.2] (by simp [Act.eval]) Try.f40 Try.func40 (by kernel_rfl) (by kernel_rfl) (HRE.out _ (bl_drew (Below.refl _ _))) ?_
               rintro e w5 ⟨v5, rfl, hg5, ho5⟩
               obtain ⟨a5, cap5, rfl⟩ := ROwn.len ho5 ENP.out
               refine ⟨_, rfl, ?_⟩
               have R := Lib.hid (And.intro (grows_trans _ _ _ (bl_drew (Below.refl _ _) : Grows wr wr.drew) hg5) ho5)
               clear hg5 ho5)
            | (refine step_call (by rfl) 40 #[.tmp 30, .tmp 35] #[TDT, 2] (by rfl) #[dval (.slice a0 N cap0) M, .int .i64 y.2] (by simp [Act.eval]) Try.f40 Try.func40 (by kernel_rfl) (by kernel_rfl) (HRE.out _ (bl_alloc (bl_drew (Below.refl _ _)) _)) ?_
               rintro e w5 ⟨v5, rfl, hg5, ho5⟩
               obtain ⟨a5, cap5, rfl⟩ := ROwn.len ho5 ENP.out
               refine ⟨_, rfl, ?_⟩
               have hb5 := new_drew wr hg5
               obtain ⟨d0, d0f⟩ := cell_in hb5 0 rfl
               obtain ⟨d1, d1f⟩ := cell_in hb5 1 rfl
               have d2 := box_lt hb5
               have R := Lib.hid (And.intro (grows_trans _ _ _ (bl_alloc (bl_drew (Below.refl _ _)) _ : Grows wr (wr.drew.alloc (.cells #[.slice none 0 0, .int .i64 0] TDT))) hg5) (And.intro ho5 hb5))
               clear hg5 ho5 hb5)
            | fail)
          all_goals (
            go_wp2_with fail
            go_meet
            first
              | exact ⟨_, a5, cap5, rfl, heap_alloc_new w5 _, own_grows R.out.2 (bl_alloc (Below.refl _ _) _), grows_trans _ _ _ R.out.1 (bl_alloc (Below.refl _ _) _)⟩
              | exact ⟨_, a5, cap5, rfl, box_setj (j := 1) (box_setj (j := 0) R.out.2.2), (rtab_end M R.out.1 rfl wr.heap.size (Nat.le_refl _) R.out.2.2 R.out.2.1).2.1, (rtab_end M R.out.1 rfl wr.heap.size (Nat.le_refl _) R.out.2.2 R.out.2.1).1⟩)
        case rest =>
          obtain ⟨c, a5, cap5, rfl, hc5, ho5, hg5⟩ := hcut
          have X5 := Lib.hid (And.intro hc5 (And.intro ho5 hg5))
          have D5 := Lib.hid (D.out.grows hg5)
          have GW5 := Lib.hid (grows_trans _ _ _ GR.out hg5)
          clear p0 p1 p2 p3 p4 z2 c0 c1 z1
          obtain ⟨p0, p1, p2, p3, p4⟩ := HP.out wc GW5.out
          have z2 := HGL.out wc GW5.out
          have c0 := (cell_in D5.out.box 0 rfl).1
          have c1 := (cell_in D5.out.box 1 rfl).1
          have z1 := box_lt D5.out.box
          have d0 := (cell_in hc5 0 rfl).1
          have d1 := (cell_in hc5 1 rfl).1
          have d2 := box_lt hc5
          have hsb := HSUB.out.1
          have hsb2 := HSUB.out.2
          clear hc5 ho5 hg5
          go_wp2_with fail
          go_cut [51] (fun v51 wx => v51 = .bool false ∧ ∃ kv6, SeenAt wx B sb (B + 1) kv6 B (lp.map tv) M ∧ ROwn wx B (.slice a5 np cap5) lp ∧ wx.heap[c]? = some (.cells #[.slice a5 np cap5, .int .i64 (M : Int)] TDT (0, 0)) ∧ wx.heap[p]? = some (.cells #[.slice a0 N cap0, .int .i64 (M : Int)] TDT (0, 0)) ∧ Grows w wx)
          case first =>
            go_region_law (first
              | (refine step_call (by rfl) 29 #[.tmp 37, .tmp 42] #[46, 2] (by rfl) #[.pointer (some ⟨sb, 0, none⟩), .int .i64 y.2] (by simp [Act.eval, Act.put]) Try.f29 Try.func29 (by kernel_rfl) (by kernel_rfl) (HSE.out _ (grows_trans _ _ _ X5.out.2.2 (bl_drew (Below.refl _ _)))) ?_
                 intro e w6 hto
                 have gdr : Grows wc wc.drew := bl_drew (Below.refl _ _)
                 have hg6 := SeenTo.behind (D5.out.seen.grows gdr) (by rw [EB.out]; exact Nat.le_refl _) (grows_trans _ _ _ GW5.out gdr) hto
                 have ho6 := SeenTo.own (D5.out.seen.grows gdr) (own_grows X5.out.2.1 gdr) hto
                 obtain ⟨rfl, kv6, hs6, hbx6⟩ := SDuo.to (D5.out.grows gdr) hto
                 have hb6 := hbx6 p _ (D5.out.grows gdr).box
                 have hc6 := hbx6 c _ (box_grows X5.out.1 gdr)
                 refine ⟨_, rfl, ?_⟩
                 have R := Lib.hid (And.intro hs6 (And.intro ho6 (And.intro hc6 (And.intro hb6 hg6))))
                 have c0 := (cell_in hb6 0 rfl).1
                 have c1 := (cell_in hb6 1 rfl).1
                 have z1 := box_lt hb6
                 have d0 := (cell_in hc6 0 rfl).1
                 have d1 := (cell_in hc6 1 rfl).1
                 have d2 := box_lt hc6
                 clear hto gdr hg6 ho6 hs6 hbx6 hb6 hc6)
              | fail)
            all_goals (
              go_wp2_with fail
              go_meet
              exact ⟨rfl, kv6, R.out⟩)
          case rest =>
            obtain ⟨rfl, kv6, hs6, ho6, hc6, hb6, hg6⟩ := hcut
            clear p0 p1 p2 p3 p4 z2 c0 c1 z1 d0 d1 d2
            have d0 := (cell_in hc6 0 rfl).1
            have d1 := (cell_in hc6 1 rfl).1
            have d2 := box_lt hc6
            obtain ⟨c0, c0f⟩ := cell_in hb6 0 rfl
            obtain ⟨c1, c1f⟩ := cell_in hb6 1 rfl
            have z1 := box_lt hb6
            obtain ⟨hd7, hc7⟩ := SDuo.next hs6 ho6 hb6
            obtain ⟨w7, e7⟩ : ∃ w7, (wc.setCell ⟨p, 0, none⟩ (.slice a5 np cap5)).setCell ⟨p, 1, none⟩ (.int .i64 (M : Int)) = w7 := ⟨_, rfl⟩
            rw [e7] at hd7 hc7
            have X7 := Lib.hid (And.intro hd7 (grows_chg hg6 hc7 (fun j hj => by rw [hj, EB.out]; exact HBp.out)))
            have NP7 := Lib.hid (show np ≤ 100000 from Nat.le_trans HNP.out (Nat.le_trans HN6.out (by decide)))
            have NL := Lib.hid (show lp.length ≤ i + 1 by rw [ENP.out]; exact Nat.le_trans HNP.out (by rw [← EN2.out]; exact Nat.le_trans HLI.out (Nat.le_succ _)))
            clear hs6 ho6 hc6 hb6 hg6 hd7 hc7
            go_wp2_with fail
            clear c0 c0f c1 c1f z1 d0 d1 d2 e7
            have hz := has_at lp y.1
            obtain ⟨at0, eat⟩ : ∃ at0, atR lp y.1 = at0 := ⟨_, rfl⟩
            obtain ⟨z, ez⟩ : ∃ z, (getK (lp.map tv) y.1).isSome = z := ⟨_, rfl⟩
            rw [eat, ez] at hz
            have HZL := Lib.hid (fun W' (hg : Grows w7 W') => slen_any (X7.out.1.seen.grows hg))
            have HZR := Lib.hid (fun W' (hg : Grows w7 W') => sroom_any (X7.out.1.seen.grows hg))
            have HZH := Lib.hid (fun W' (hg : Grows w7 W') => shas_any y.1 (X7.out.1.seen.grows hg))
            have HZA := Lib.hid (fun W' (hg : Grows w7 W') => rat_any (M := M) y.1 (own_grows X7.out.1.own hg) (by rw [ENP.out]; exact NP7.out))
            rw [List.length_map, ENP.out] at HZL HZR
            rw [eat] at HZA
            rw [ez] at HZH
            have k3 : wrap64 ((M : Int) - (np : Int)) = (M : Int) - (np : Int) := room_wrap29 HM6.out NP7.out
            have p := HP.out w7 X7.out.2
            obtain ⟨p0, p1, p2, p3, p4⟩ := p
            have c0 := (cell_in X7.out.1.box 0 rfl).1
            have c1 := (cell_in X7.out.1.box 1 rfl).1
            have z1 := box_lt X7.out.1.box
            have z2 := HGL.out w7 X7.out.2
            clear eat ez
            cases z
            all_goals (
              as_aux_lemma =>
              go_wp2_with fail
              refine wp_region_reg (by kernel_rfl) (by kernel_rfl) ?_
              repeat (first | go_big_quiet_step ((first | (go_at_call 26; refine class_same (HZL.out _ (below_reg _ _)) ⟨_, rfl⟩) | (go_at_call 27; exact class_reg (HZR.out _ (below_reg _ _))) | (go_at_call 30; exact class_reg (HZH.out _ (below_reg _ _))) | (go_at_call 41; exact class_reg (HZA.out _ (below_reg _ _))))) | quiet_step ((first | (go_at_call 26; refine class_same (HZL.out _ (below_reg _ _)) ⟨_, rfl⟩) | (go_at_call 27; exact class_reg (HZR.out _ (below_reg _ _))) | (go_at_call 30; exact class_reg (HZH.out _ (below_reg _ _))) | (go_at_call 41; exact class_reg (HZA.out _ (below_reg _ _))))))
              refine wpQuiet_nil ?_
              intro _ hcw1
              obtain ⟨pq, hcw2⟩ := hcw1
              subst hcw2
              have XE := Lib.hid (And.intro (X7.out.1.grows (below_reg _ pq)) (grows_trans _ _ _ X7.out.2 (below_reg _ pq)))
              clear p0 p1 p2 p3 p4 c0 c1 z1 z2
              go_wp2_with fail
              go_roundw
              case rel => exact ⟨⟨i + 1, kv6, _, lp, rfl, HIN.out, H60.out, NL.out, XE.out.1, XE.out.2⟩⟩
              case measure => exact meas_succ H60.out)
      | false =>
        obtain ⟨r, er⟩ : ∃ r, putE (l'.map tv) M y.1 = r := ⟨_, rfl⟩
        obtain ⟨lp, elp⟩ : ∃ lp, putR l' M y.1 y.2 = lp := ⟨_, rfl⟩
        obtain ⟨np, enp⟩ : ∃ np, lp.length = np := ⟨_, rfl⟩
        have ENP := Lib.hid enp
        have HNP := Lib.hid (show np ≤ N + 1 by rw [← enp, ← elp, ← EN2.out]; exact putR_length l' M y.1 y.2)
        have HRP := Lib.hid (fun W' (hg : Grows wr W') => by
          have h1 := rput_any (M := M) y.1 y.2 (own_grows D.out.own hg) (by rw [EN2.out]; exact Nat.le_trans HN6.out (by decide)) (by rw [← EB.out]; exact (grows_trans _ _ _ GR.out hg).size)
          rwa [elp, er] at h1)
        have HNO := Lib.hid (fun W' kv' (hB : B ≤ W'.heap.size) (hs : SeenAt W' B sb (B + 1) kv' B (l'.map tv) M) => by
          have h1 := snote_any y.1 y.2 hs hB
          rwa [← putR_tv, elp, er] at h1)
        clear elp enp er
        go_wp2_with fail
        go_cut [9, 10] (fun v9 v10 wx => ∃ c a5 cap5, v9 = .pointer (some ⟨c, 0, none⟩) ∧ v10 = .int .i64 r ∧ wx.heap[c]? = some (.cells #[.slice a5 np cap5, .int .i64 (M : Int)] TDT (0, 0)) ∧ ROwn wx B (.slice a5 np cap5) lp ∧ Grows wr wx)
        case first =>
          go_region_law (first
            | (refine step_call (by rfl) 21 #[.tmp 54, .tmp 59, .tmp 64] #[TDT, 29, 2] (by rfl) #[dval (.slice a0 N cap0) M, y.1.val, .int .i64 y.2] (by simp [Act.eval, Act.put, KW.val]) Try.f21 Try.func21 (by kernel_rfl) (by kernel_rfl) (HRP.out _ (bl_drew (Below.refl _ _))) ?_
               rintro e w5 ⟨v5, rfl, hg5, ho5⟩
               obtain ⟨a5, cap5, rfl⟩ := ROwn.len ho5 ENP.out
               refine ⟨_, rfl, ?_⟩
               have R := Lib.hid (And.intro (grows_trans _ _ _ (bl_drew (Below.refl _ _) : Grows wr wr.drew) hg5) ho5)
               clear hg5 ho5)
            | (refine step_call (by rfl) 21 #[.tmp 54, .tmp 59, .tmp 64] #[TDT, 29, 2] (by rfl) #[dval (.slice a0 N cap0) M, y.1.val, .int .i64 y.2] (by simp [Act.eval, Act.put, KW.val]) Try.f21 Try.func21 (by kernel_rfl) (by kernel_rfl) (HRP.out _ (bl_alloc (bl_drew (Below.refl _ _)) _)) ?_
               rintro e w5 ⟨v5, rfl, hg5, ho5⟩
               obtain ⟨a5, cap5, rfl⟩ := ROwn.len ho5 ENP.out
               refine ⟨_, rfl, ?_⟩
               have hb5 := new_drew wr hg5
               obtain ⟨d0, d0f⟩ := cell_in hb5 0 rfl
               obtain ⟨d1, d1f⟩ := cell_in hb5 1 rfl
               have d2 := box_lt hb5
               have R := Lib.hid (And.intro (grows_trans _ _ _ (bl_alloc (bl_drew (Below.refl _ _)) _ : Grows wr (wr.drew.alloc (.cells #[.slice none 0 0, .int .i64 0] TDT))) hg5) (And.intro ho5 hb5))
               clear hg5 ho5 hb5)
            | fail)
          all_goals (
            go_wp2_with fail
            go_meet
            first
              | exact ⟨_, a5, cap5, rfl, rfl, heap_alloc_new w5 _, own_grows R.out.2 (bl_alloc (Below.refl _ _) _), grows_trans _ _ _ R.out.1 (bl_alloc (Below.refl _ _) _)⟩
              | exact ⟨_, a5, cap5, rfl, rfl, box_setj (j := 1) (box_setj (j := 0) R.out.2.2), (rtab_end M R.out.1 rfl wr.heap.size (Nat.le_refl _) R.out.2.2 R.out.2.1).2.1, (rtab_end M R.out.1 rfl wr.heap.size (Nat.le_refl _) R.out.2.2 R.out.2.1).1⟩)
        case rest =>
          obtain ⟨c, a5, cap5, rfl, rfl, hc5, ho5, hg5⟩ := hcut
          have D5 := Lib.hid (D.out.grows hg5)
          have GW5 := Lib.hid (grows_trans _ _ _ GR.out hg5)
          clear p0 p1 p2 p3 p4 z2 c0 c1 z1
          have d0 := (cell_in hc5 0 rfl).1
          have d1 := (cell_in hc5 1 rfl).1
          have d2 := box_lt hc5
          obtain ⟨c0, c0f⟩ := cell_in D5.out.box 0 rfl
          obtain ⟨c1, c1f⟩ := cell_in D5.out.box 1 rfl
          have z1 := box_lt D5.out.box
          -- the box set: the document's rows are the new ones, the names' not yet
          obtain ⟨w6, e6⟩ : ∃ w6, (wc.setCell ⟨p, 0, none⟩ (.slice a5 np cap5)).setCell ⟨p, 1, none⟩ (.int .i64 (M : Int)) = w6 := ⟨_, rfl⟩
          have hc6 : Chg (fun j => j = p) wc w6 := by rw [← e6]; exact Chg.setCell (S := fun i => i = p) (Chg.setCell (S := fun i => i = p) (Chg.refl _ _) _ (.inr rfl)) _ (.inr rfl)
          have hb6 : w6.heap[p]? = some (.cells #[.slice a5 np cap5, .int .i64 (M : Int)] TDT (0, 0)) := by rw [← e6]; exact box_setj (j := 1) (box_setj (j := 0) D5.out.box)
          have hs6 := seen_box D5.out.seen D5.out.box hc6
          have ho6 := rown_box ho5 D5.out.box hc6
          have hg6 := grows_chg GW5.out hc6 (fun j hj => by rw [hj, EB.out]; exact HBp.out)
          have X6 := Lib.hid (And.intro hs6 (And.intro ho6 (And.intro hb6 hg6)))
          clear hc5 ho5 hg5 hc6 hb6 hs6 ho6 hg6
          go_wp2_with fail
          clear c0 c0f c1 c1f z1 d0 d1 d2 e6
          obtain ⟨p0, p1, p2, p3, p4⟩ := HP.out w6 X6.out.2.2.2
          have z2 := HGL.out w6 X6.out.2.2.2
          go_wp2_with fail
          go_cut [82] (fun v82 wx => v82 = .bool false ∧ ∃ kv7, SDuo wx B sb (B + 1) B kv7 p (.slice a5 np cap5) lp M ∧ Grows w wx)
          case first =>
            go_region_law (first
              | (refine step_call (by rfl) 25 #[.tmp 69, .tmp 74, .tmp 79] #[46, 29, 2] (by rfl) #[.pointer (some ⟨sb, 0, none⟩), y.1.val, .int .i64 y.2] (by simp [Act.eval, Act.put, KW.val]) Try.f25 Try.func25 (by kernel_rfl) (by kernel_rfl) (HNO.out _ _ (by rw [← EB.out]; exact (grows_trans _ _ _ X6.out.2.2.2 (bl_drew (Below.refl _ _))).size) (X6.out.1.grows (bl_drew (Below.refl _ _)))) ?_
                 intro e w7 hto
                 have gdr : Grows w6 w6.drew := bl_drew (Below.refl _ _)
                 have hs0 := X6.out.1.grows gdr
                 have hg7 := SeenTo.behind hs0 (by rw [EB.out]; exact Nat.le_refl _) (grows_trans _ _ _ X6.out.2.2.2 gdr) hto
                 have ho7 := SeenTo.own hs0 (own_grows X6.out.2.1 gdr) hto
                 obtain ⟨rfl, kv7, hs7, hbx7⟩ := seen_to hs0 hto
                 have hb7 := hbx7 p _ (box_grows X6.out.2.2.1 gdr)
                 refine ⟨_, rfl, ?_⟩
                 have R := Lib.hid (And.intro (show SDuo w7 B sb (B + 1) B kv7 p (.slice a5 np cap5) lp M from ⟨hs7, ho7, hb7⟩) hg7)
                 clear hto gdr hs0 hg7 ho7 hs7 hbx7 hb7)
              | fail)
            all_goals (
              go_wp2_with fail
              go_meet
              exact ⟨rfl, kv7, R.out⟩)
          case rest =>
            obtain ⟨rfl, kv7, hd7, hg7⟩ := hcut
            have X7 := Lib.hid (And.intro hd7 hg7)
            have NP7 := Lib.hid (show np ≤ 100000 from Nat.le_trans HNP.out (Nat.le_trans (Nat.succ_le_succ HN6.out) (by decide)))
            have NL := Lib.hid (show lp.length ≤ i + 1 by rw [ENP.out]; exact Nat.le_trans HNP.out (Nat.succ_le_succ (by rw [← EN2.out]; exact HLI.out)))
            clear hd7 hg7 p0 p1 p2 p3 p4 z2
            have hz := has_at lp y.1
            obtain ⟨at0, eat⟩ : ∃ at0, atR lp y.1 = at0 := ⟨_, rfl⟩
            obtain ⟨z, ez⟩ : ∃ z, (getK (lp.map tv) y.1).isSome = z := ⟨_, rfl⟩
            rw [eat, ez] at hz
            have HZL := Lib.hid (fun W' (hg : Grows wc W') => slen_any (X7.out.1.seen.grows hg))
            have HZR := Lib.hid (fun W' (hg : Grows wc W') => sroom_any (X7.out.1.seen.grows hg))
            have HZH := Lib.hid (fun W' (hg : Grows wc W') => shas_any y.1 (X7.out.1.seen.grows hg))
            have HZA := Lib.hid (fun W' (hg : Grows wc W') => rat_any (M := M) y.1 (own_grows X7.out.1.own hg) (by rw [ENP.out]; exact NP7.out))
            rw [List.length_map, ENP.out] at HZL HZR
            rw [eat] at HZA
            rw [ez] at HZH
            have k3 : wrap64 ((M : Int) - (np : Int)) = (M : Int) - (np : Int) := room_wrap29 HM6.out NP7.out
            have p := HP.out wc X7.out.2
            obtain ⟨p0, p1, p2, p3, p4⟩ := p
            have c0 := (cell_in X7.out.1.box 0 rfl).1
            have c1 := (cell_in X7.out.1.box 1 rfl).1
            have z1 := box_lt X7.out.1.box
            have z2 := HGL.out wc X7.out.2
            clear eat ez
            cases z
            all_goals (
              as_aux_lemma =>
              go_wp2_with fail
              refine wp_region_reg (by kernel_rfl) (by kernel_rfl) ?_
              repeat (first | go_big_quiet_step ((first | (go_at_call 26; refine class_same (HZL.out _ (below_reg _ _)) ⟨_, rfl⟩) | (go_at_call 27; exact class_reg (HZR.out _ (below_reg _ _))) | (go_at_call 30; exact class_reg (HZH.out _ (below_reg _ _))) | (go_at_call 41; exact class_reg (HZA.out _ (below_reg _ _))))) | quiet_step ((first | (go_at_call 26; refine class_same (HZL.out _ (below_reg _ _)) ⟨_, rfl⟩) | (go_at_call 27; exact class_reg (HZR.out _ (below_reg _ _))) | (go_at_call 30; exact class_reg (HZH.out _ (below_reg _ _))) | (go_at_call 41; exact class_reg (HZA.out _ (below_reg _ _))))))
              refine wpQuiet_nil ?_
              intro _ hcw1
              obtain ⟨pq, hcw2⟩ := hcw1
              subst hcw2
              have XE := Lib.hid (And.intro (X7.out.1.grows (below_reg _ pq)) (grows_trans _ _ _ X7.out.2 (below_reg _ pq)))
              clear p0 p1 p2 p3 p4 c0 c1 z1 z2
              go_wp2_with fail
              go_roundw
              case rel => exact ⟨⟨i + 1, kv7, _, lp, rfl, HIN.out, H60.out, NL.out, XE.out.1, XE.out.2⟩⟩
              case measure => exact meas_succ H60.out)
    · have hex : (decide ((i : Int) < (n : Int)) = false ∧ (i < n) = False) ∨ (decide ((i : Int) < (n : Int)) = true ∧ (i < n) = True ∧ decide ((i : Int) < 60) = false ∧ (i < 60) = False) := by
        by_cases h1 : i < n
        · exact .inr ⟨decide_eq_true (by omega), eq_true h1, decide_eq_false (by omega), eq_false (by omega)⟩
        · exact .inl ⟨decide_eq_false (by omega), eq_false h1⟩
      clear hlt hi hi60
      rcases hex with ⟨hd1, hq1⟩ | ⟨hd1, hq1, hd2, hq2⟩
      all_goals
        go_wp2_with fail
        refine (HW.out _).mono ?_
        rintro e w3 ⟨rfl, hg3⟩
        have HG3 := Lib.hid (grows_trans _ _ _ GR.out hg3)
        clear hg3
        go_wp2_with fail
        go_ret
        exact ⟨rfl, HG3.out⟩
end
end Go.Proofs.Ytdmmceclohkkdaa
