/- The document's lists of keys: Into. -/
import Derived.Test.YtdmmceclohkkdaaKeyIn
namespace Go.Proofs.Ytdmmceclohkkdaa
open Go.RowKit Go.Sort
set_option maxHeartbeats 4000000
set_option maxRecDepth 100000
theorem gen_world {W w' : World} {p : World → Prop} (hg : Grows W w') (h : ∀ W0, Grows W W0 → p W0) : p w' := h _ hg
theorem gen_world' {W w' : World} {base : Nat} {v : Value} {l : List KW} {p : World → Prop} (hg : Grows W w') (ho : KOwn w' base v l) (h : ∀ W0, Grows W W0 → KOwn W0 base v l → p W0) : p w' := h _ hg ho
/-- What goes out, of the keys so far. -/
def outK (k : KW) (q : List KW) : List KW := if q.any (lessK k) then q.takeWhile (fun y => !lessK k y) ++ k :: q.dropWhile (fun y => !lessK k y) else q
theorem any_not {k : KW} {q : List KW} (h : q.any (lessK k) = false) : q.takeWhile (fun y => !lessK k y) = q ∧ q.dropWhile (fun y => !lessK k y) = [] := by
  have h1 : ∀ y ∈ q, (!lessK k y) = true := fun y hy => by
    have := (List.any_eq_false.1 h) y hy
    simpa using this
  have h2 := List.takeWhile_append_of_pos (l₂ := []) h1
  have h3 := List.dropWhile_append_of_pos (l₂ := []) h1
  simp only [List.append_nil, List.takeWhile_nil, List.dropWhile_nil] at h2 h3
  exact ⟨h2, h3⟩
theorem outK_more {k y : KW} {q : List KW} (h : q.any (lessK k) = true) : outK k (q ++ [y]) = outK k q ++ [y] := by
  have h2 : (q ++ [y]).any (lessK k) = true := by rw [List.any_append, h]; rfl
  unfold outK
  rw [if_pos h2, if_pos h]
  have h3 : ∃ z ∈ q, ¬ (!lessK k z) = true := by
    obtain ⟨z, hz, hl⟩ := List.any_eq_true.1 h
    exact ⟨z, hz, by simp [hl]⟩
  clear h h2
  induction q with
  | nil => obtain ⟨z, hz, _⟩ := h3; cases hz
  | cons a q ih =>
    by_cases ha : (!lessK k a) = true
    · have h4 : ∃ z ∈ q, ¬ (!lessK k z) = true := by
        obtain ⟨z, hz, hl⟩ := h3
        rcases List.mem_cons.1 hz with rfl | hz
        · exact absurd ha hl
        · exact ⟨z, hz, hl⟩
      have := ih h4
      rw [List.cons_append, List.takeWhile_cons_of_pos (p := fun y => !lessK k y) ha, List.dropWhile_cons_of_pos (p := fun y => !lessK k y) ha, List.takeWhile_cons_of_pos (p := fun y => !lessK k y) ha, List.dropWhile_cons_of_pos (p := fun y => !lessK k y) ha, List.cons_append, this]
      simp
    · rw [List.cons_append, List.takeWhile_cons_of_neg (p := fun y => !lessK k y) ha, List.dropWhile_cons_of_neg (p := fun y => !lessK k y) ha, List.takeWhile_cons_of_neg (p := fun y => !lessK k y) ha, List.dropWhile_cons_of_neg (p := fun y => !lessK k y) ha]
      simp
theorem outK_here {k y : KW} {q : List KW} (h : q.any (lessK k) = false) (hy : lessK k y = true) : outK k (q ++ [y]) = q ++ [k] ++ [y] := by
  have h2 : (q ++ [y]).any (lessK k) = true := by rw [List.any_append, h]; simp [hy]
  have h1 : ∀ z ∈ q, (!lessK k z) = true := fun z hz => by
    have := (List.any_eq_false.1 h) z hz
    simpa using this
  unfold outK
  rw [if_pos h2, List.takeWhile_append_of_pos h1, List.dropWhile_append_of_pos h1, List.takeWhile_cons_of_neg (by simp [hy]), List.dropWhile_cons_of_neg (by simp [hy])]
  simp
theorem outK_not {k : KW} {q : List KW} (h : q.any (lessK k) = false) : outK k q = q := by unfold outK; rw [if_neg (by simp [h])]
theorem outK_len (k : KW) (q : List KW) : (outK k q).length ≤ q.length + 1 := by
  unfold outK
  split
  · have h := congrArg List.length (List.takeWhile_append_dropWhile (p := fun y => !lessK k y) (l := q))
    rw [List.length_append] at h
    simp only [List.length_append, List.length_cons]
    omega
  · omega
/-- What Into gives back. -/
def intoK (l : List KW) (k : KW) : List KW := if k ∈ l then l else l.takeWhile (fun y => !lessK k y) ++ k :: l.dropWhile (fun y => !lessK k y)
theorem intoK_end {l : List KW} {k : KW} (h : k ∉ l) : intoK l k = if l.any (lessK k) then outK k l else l ++ [k] := by
  unfold intoK
  rw [if_neg h]
  by_cases ha : l.any (lessK k) = true
  · rw [if_pos ha]; unfold outK; rw [if_pos ha]
  · rw [if_neg ha]
    obtain ⟨h1, h2⟩ := any_not (by simpa using ha)
    rw [h1, h2]
theorem takeWhile_cong {p q : KW → Bool} : ∀ l : List KW, (∀ y ∈ l, p y = q y) → l.takeWhile p = l.takeWhile q ∧ l.dropWhile p = l.dropWhile q
  | [], _ => ⟨rfl, rfl⟩
  | a :: l, h => by
    obtain ⟨h1, h2⟩ := takeWhile_cong l (fun y hy => h y (List.mem_cons_of_mem _ hy))
    have ha := h a List.mem_cons_self
    cases hp : p a
    · have hq := ha.symm.trans hp
      simp [hp, hq]
    · have hq := ha.symm.trans hp
      simp [hp, hq, h1, h2]
/-- A row's keys, and the document's list: alike. -/
theorem intoK_ins {m : List (KW × Value)} {k : KW} (hk : k ∉ m.map (·.1)) (v : Value) : intoK (m.map (·.1)) k = (insT m k v).map (·.1) := by
  unfold intoK
  rw [if_neg hk, insT_keys]
  have h : ∀ y ∈ m.map (·.1), (!lessK k y) = lessK y k := fun y hy => by
    cases h1 : lessK k y with
    | true =>
      cases h2 : lessK y k with
      | false => rfl
      | true => have := lessK_trans h1 h2; rw [lessK_irrefl] at this; cases this
    | false => rw [lessK_total h1 (fun e => hk (e ▸ hy))]; rfl
  obtain ⟨h1, h2⟩ := takeWhile_cong _ h
  rw [h1, h2]
/-- What a call leaves that gives back a list of keys of its own. -/
def KList (w : World) (l : List KW) (e : Ending) (w' : World) : Prop := ∃ v', e = .returned v' ∧ Grows w w' ∧ KOwn w' w.heap.size v' l
theorem snoc_own {w' : World} {base : Nat} {v' : Value} {lo : List KW} {y : KW} (h : w'.ownsRow base 29 3 v' (lo.length + 1) (kvs lo ++ kc y)) : KOwn w' base v' (lo ++ [y]) := by
  have e1 : (lo ++ [y]).length = lo.length + 1 := by simp
  have e2 : kvs (lo ++ [y]) = kvs lo ++ kc y := by rw [kvs_append, kvs_cons]; simp
  show w'.ownsRow base _ 3 _ (lo ++ [y]).length (kvs (lo ++ [y]))
  rw [e1, e2]
  exact h
theorem kinto_no {v : Value} {l : List KW} {w : World} (k : KW) (h : KHas w v l) (hm : l.length ≤ 1000) (hk : k ∉ l) :
    Calls Try.prog 17 #[v, k.val] w (KList w (intoK l k)) := by
  obtain ⟨i0, hii, hz⟩ : ∃ i, Try.prog.info? 29 = some i ∧ (i.zero, i.size, i.bytes) = (some (.agg #[.int .i64 0, .int .i64 0, .int .u32 0]), 3, 24) := Option.map_eq_some_iff.1 Try.infoKey
  simp only [Prod.mk.injEq] at hz
  obtain ⟨hz0, hz1, hz2⟩ := hz
  rw [intoK_end hk]
  obtain ⟨r, er⟩ : ∃ r, (if l.any (lessK k) then outK k l else l ++ [k]) = r := ⟨_, rfl⟩
  have ER := Lib.hid er
  rw [er]
  clear er
  obtain ⟨n, en⟩ : ∃ n, l.length = n := ⟨_, rfl⟩
  obtain ⟨a, cap, rfl⟩ := h.len en
  have hin := fun W (hg : Grows w W) => kin_any k (h.grows hg) (Nat.le_trans hm (by decide))
  rw [decide_eq_false hk] at hin
  have HIN := Lib.hid hin
  have hgb : Grows w (w.alloc (.cells #[.int .i64 k.t, .int .i64 k.f, .int .u32 k.s] 29)) := bl_alloc (Below.refl _ _) _
  have hbx := heap_alloc_new w (.cells #[.int .i64 k.t, .int .i64 k.f, .int .u32 k.s] 29)
  have HG := Lib.hid hgb
  have HBX := Lib.hid hbx
  have HH := Lib.hid h
  have EN := Lib.hid en
  have HM := Lib.hid hm
  clear h hm hk en hin hgb hbx
  go_enter Try.func17, Try.ntmps17
  go_wp2_with fail
  refine (HIN.out _ HG.out).mono ?_
  rintro e w1 ⟨rfl, hg1⟩
  have HG1 := Lib.hid (grows_trans _ _ _ HG.out hg1)
  have HB1 := Lib.hid (box_grows HBX.out hg1)
  clear hg1
  go_wp2_with fail
-- behind the start (intogen.py)
  obtain ⟨W, eW⟩ : ∃ W, w1.alloc (.cells #[] 29) = W := ⟨_, rfl⟩
  have hgW : Grows w1 W := by rw [← eW]; exact bl_alloc (Below.refl _ _) _
  have hoW : KOwn W w1.heap.size (.slice (some ⟨w1.heap.size, 0, none⟩) 0 0) [] := by
    rw [← eW]; exact World.ownsRow_lit w1 #[] 0 (Nat.le_refl _) (by decide) rfl
  rw [eW]
  have HGW := Lib.hid hgW
  have HOW := Lib.hid hoW
  clear hgW hoW eW
  go_loopw [5, 6, 7] (fun ov bv iv wr => ∃ i : Nat, iv = .int .i64 (i : Int) ∧ i ≤ n ∧ bv = .bool ((l.take i).any (lessK k)) ∧ KOwn wr w1.heap.size ov (outK k (l.take i)) ∧ Grows w1 wr) (fun _ _ iv _ => n - (intOf iv).toNat)
  case atStart => exact ⟨0, rfl, Nat.zero_le _, rfl, HOW.out, HGW.out⟩
  case round =>
    obtain ⟨i, rfl, hi, rfl, ho, hg⟩ := hrel
    have hhb := box_grows HB1.out hg
    have hha := HH.out.grows HG1.out
    have z1 : w.heap.size < wr.heap.size := box_lt hhb
    obtain ⟨t0, -⟩ := cell_in hhb 0 rfl
    obtain ⟨t1, -⟩ := cell_in hhb 1 rfl
    obtain ⟨t2, -⟩ := cell_in hhb 2 rfl
    have HGG := Lib.hid hg
    have HO := Lib.hid ho
    have HHB := Lib.hid hhb
    clear hg ho hhb
    by_cases hlt : i < n
    · have hn6 : i ≤ 1000000 := Nat.le_trans (Nat.le_of_lt hlt) (by rw [← EN.out]; exact Nat.le_trans HM.out (by decide))
      have HNF := Lib.hid (nat_facts i hn6)
      have HWS := Lib.hid (wrap_succ hn6)
      have HLT := Lib.hid hlt
      have hnl : i < l.length := by rw [EN.out]; exact hlt
      obtain ⟨g, o, c', he, hcap, hgl, hat⟩ := hha.form EN.out (Nat.lt_of_le_of_lt (Nat.zero_le _) hlt)
      simp only [Value.slice.injEq, true_and] at he
      obtain ⟨rfl, rfl⟩ := he
      have hp : ∀ W', Grows w1 W' → W'.cell? ⟨g, o + i * 3, none⟩ = some (.int .i64 l[i].t) ∧ W'.cell? ⟨g, o + i * 3 + 1, none⟩ = some (.int .i64 l[i].f) ∧ W'.cell? ⟨g, o + i * 3 + 2, none⟩ = some (.int .u32 l[i].s) := fun W' hg => kat_cells (hat.grows hg hgl) i hnl
      have ht : ∀ W', Grows w1 W' → W'.cell? ⟨w.heap.size, 0, none⟩ = some (.int .i64 k.t) ∧ W'.cell? ⟨w.heap.size, 1, none⟩ = some (.int .i64 k.f) ∧ W'.cell? ⟨w.heap.size, 2, none⟩ = some (.int .u32 k.s) := fun W' hg =>
        ⟨(cell_in (box_grows HB1.out hg) 0 rfl).1, (cell_in (box_grows HB1.out hg) 1 rfl).1, (cell_in (box_grows HB1.out hg) 2 rfl).1⟩
      have HT := Lib.hid ht
      obtain ⟨y, ey⟩ : ∃ y, l[i] = y := ⟨_, rfl⟩
      rw [ey] at hp
      have HP := Lib.hid hp
      obtain ⟨p0, p1, p2⟩ := hp wr HGG.out
      have htk : l.take (i + 1) = l.take i ++ [y] := by rw [List.take_succ_eq_append_getElem hnl, ey]
      have HTK := Lib.hid htk
      have hki : (i : Int) < (n : Int) := Int.ofNat_lt.2 hlt
      have hql : (l.take i).length ≤ 1000 := by rw [List.length_take]; exact Nat.le_trans (Nat.min_le_right _ _) HM.out
      obtain ⟨q, eq⟩ : ∃ q, l.take i = q := ⟨_, rfl⟩
      rw [eq] at hql HO HTK ⊢
      have HOL := Lib.hid (Nat.le_trans (outK_len k q) (Nat.succ_le_succ hql))
      have HLS := Lib.hid (fun W => rless_any k y W)
      have HSZ := Lib.hid HGG.out.size
      have z2 : g < wr.heap.size := Nat.lt_of_lt_of_le hgl HGG.out.size
      clear hp ht htk ey hat hha hnl hcap hlt hn6 hi hql eq
      obtain ⟨j1, j2, j3, j4, j6⟩ := HNF.out
      cases hany : q.any (lessK k)
      · have HAN := Lib.hid hany
        cases hly : lessK k y
        · have HLY := Lib.hid hly
          have EA := Lib.hid (show (q ++ [y]).any (lessK k) = false by rw [List.any_append, HAN.out]; simp [HLY.out])
          have EO := Lib.hid (show outK k (q ++ [y]) = outK k q ++ [y] by rw [outK_not EA.out, outK_not HAN.out])
          rw [hly] at HLS
          clear hany hly
          go_wp2_with fail
          refine wp_region_reg (by kernel_rfl) (by kernel_rfl) ?_
          repeat (first | go_big_quiet_step ((go_at_call 46; exact class_reg (HLS.out _))) | quiet_step ((go_at_call 46; exact class_reg (HLS.out _))))
          refine wpQuiet_nil ?_
          intro _ hcw1
          obtain ⟨pq, hcw2⟩ := hcw1
          subst hcw2
          have W0G := grows_trans _ _ _ HGG.out (below_reg wr pq)
          have HO0 := Lib.hid (own_grows HO.out (below_reg wr pq))
          refine gen_world' (p := fun w' => Exit.then _ _ _ _ w') W0G HO0.out ?_
          clear W0G HO0
          intro W0 W0G ho0
          have HO0 := Lib.hid ho0
          have HSZ := Lib.hid W0G.size
          obtain ⟨p0, p1, p2⟩ := HP.out W0 W0G
          obtain ⟨t0, t1, t2⟩ := HT.out W0 W0G
          clear ho0
          go_wp2_with (at_builtin; refine wpList_append_own _ rfl _ _ 22 rfl w1.heap.size 29 i0 _ 3 24 Try.underlying22 hii hz0 hz1 hz2 rfl (by decide) _ (outK k q).length (kvs (outK k q)) rfl (HO0.out.alloc _) ⟨W0.heap.size, 0, none⟩ 1 1 (kc y) rfl rfl ?_ ?_ ?_ ?_ ?_ ?_)
          all_goals first
            | exact World.news_of_block (heap_alloc_new _ _)
            | (intro j u hj; exact (cell_in (heap_alloc_new _ _) j (by simpa [kc] using hj)).1)
            | exact ⟨rfl, rfl, rfl⟩
            | exact kc_one _
            | (have h77 := HOL.out; unfold maxLen; omega)
            | (have h77 := HOL.out; omega)
            | (have h77 := HSZ.out; omega)
            | (have h77 := HSZ.out; simp only [World.size_alloc]; omega)
            | (have h77 := HSZ.out; simp; omega)
            | skip
          intro v4 w4 hown hgr _
          have HN := Lib.hid (snoc_own hown)
          have HGN := Lib.hid (grows_of_grownBy (bl_alloc W0G _) hgr (fun j hj => (HO0.out.lt j hj).1))
          clear hown hgr
          go_wp2_with fail
          go_roundw
          case rel => exact ⟨i + 1, by rw [HWS.out]; rfl, HLT.out, by rw [HTK.out, EA.out], by rw [HTK.out, EO.out]; exact HN.out, HGN.out⟩
          case measure => rw [HWS.out]; exact meas_succ HLT.out
        · have HLY := Lib.hid hly
          have EA := Lib.hid (show (q ++ [y]).any (lessK k) = true by rw [List.any_append, HAN.out]; simp [HLY.out])
          have EO := Lib.hid (show outK k (q ++ [y]) = outK k q ++ [k] ++ [y] by rw [outK_here HAN.out HLY.out, outK_not HAN.out])
          have HOL2 := Lib.hid (show (outK k q ++ [k]).length ≤ 1002 by have := HOL.out; simp at this ⊢; omega)
          rw [hly] at HLS
          clear hany hly
          go_wp2_with fail
          refine wp_region_reg (by kernel_rfl) (by kernel_rfl) ?_
          repeat (first | go_big_quiet_step ((go_at_call 46; exact class_reg (HLS.out _))) | quiet_step ((go_at_call 46; exact class_reg (HLS.out _))))
          refine wpQuiet_nil ?_
          intro _ hcw1
          obtain ⟨pq, hcw2⟩ := hcw1
          subst hcw2
          have W0G := grows_trans _ _ _ HGG.out (below_reg wr pq)
          have HO0 := Lib.hid (own_grows HO.out (below_reg wr pq))
          refine gen_world' (p := fun w' => Exit.then _ _ _ _ w') W0G HO0.out ?_
          clear W0G HO0
          intro W0 W0G ho0
          have HO0 := Lib.hid ho0
          have HSZ := Lib.hid W0G.size
          obtain ⟨p0, p1, p2⟩ := HP.out W0 W0G
          obtain ⟨t0, t1, t2⟩ := HT.out W0 W0G
          clear ho0
          go_wp2_with (at_builtin; refine wpList_append_own _ rfl _ _ 22 rfl w1.heap.size 29 i0 _ 3 24 Try.underlying22 hii hz0 hz1 hz2 rfl (by decide) _ (outK k q).length (kvs (outK k q)) rfl (HO0.out.alloc _) ⟨W0.heap.size, 0, none⟩ 1 1 (kc k) rfl rfl ?_ ?_ ?_ ?_ ?_ ?_)
          all_goals first
            | exact World.news_of_block (heap_alloc_new _ _)
            | (intro j u hj; exact (cell_in (heap_alloc_new _ _) j (by simpa [kc] using hj)).1)
            | exact ⟨rfl, rfl, rfl⟩
            | exact kc_one _
            | (have h77 := HOL.out; unfold maxLen; omega)
            | (have h77 := HOL.out; omega)
            | (have h77 := HSZ.out; omega)
            | (have h77 := HSZ.out; simp only [World.size_alloc]; omega)
            | (have h77 := HSZ.out; simp; omega)
            | skip
          intro v4 w4 hown hgr _
          have HN := Lib.hid (snoc_own hown)
          have HGN := Lib.hid (grows_of_grownBy (bl_alloc W0G _) hgr (fun j hj => (HO0.out.lt j hj).1))
          clear hown hgr
          have w4G := HGN.out
          have HSZ := Lib.hid w4G.size
          obtain ⟨p0, p1, p2⟩ := HP.out w4 w4G
          obtain ⟨lo, elo⟩ : ∃ lo, outK k q ++ [k] = lo := ⟨_, rfl⟩
          rw [elo] at HN HOL2 EO
          clear elo
          go_wp2_with (at_builtin; refine wpList_append_own _ rfl _ _ 22 rfl w1.heap.size 29 i0 _ 3 24 Try.underlying22 hii hz0 hz1 hz2 rfl (by decide) _ (lo).length (kvs (lo)) rfl (HN.out.alloc _) ⟨w4.heap.size, 0, none⟩ 1 1 (kc y) rfl rfl ?_ ?_ ?_ ?_ ?_ ?_)
          all_goals first
            | exact World.news_of_block (heap_alloc_new _ _)
            | (intro j u hj; exact (cell_in (heap_alloc_new _ _) j (by simpa [kc] using hj)).1)
            | exact ⟨rfl, rfl, rfl⟩
            | exact kc_one _
            | (have h77 := HOL2.out; unfold maxLen; omega)
            | (have h77 := HOL2.out; omega)
            | (have h77 := HSZ.out; omega)
            | (have h77 := HSZ.out; simp only [World.size_alloc]; omega)
            | (have h77 := HSZ.out; simp; omega)
            | skip
          intro v5 w5 hown hgr _
          have HN5 := Lib.hid (snoc_own hown)
          have HGN5 := Lib.hid (grows_of_grownBy (bl_alloc w4G _) hgr (fun j hj => (HN.out.lt j hj).1))
          clear hown hgr
          go_wp2_with fail
          go_roundw
          case rel => exact ⟨i + 1, by rw [HWS.out]; rfl, HLT.out, by rw [HTK.out, EA.out], by rw [HTK.out, EO.out]; exact HN5.out, HGN5.out⟩
          case measure => rw [HWS.out]; exact meas_succ HLT.out
      · have HAN := Lib.hid hany
        have EA := Lib.hid (show (q ++ [y]).any (lessK k) = true by rw [List.any_append, HAN.out]; rfl)
        have EO := Lib.hid (show outK k (q ++ [y]) = outK k q ++ [y] from outK_more HAN.out)
        clear hany
        go_wp2_with fail
        refine wp_region_reg (by kernel_rfl) (by kernel_rfl) ?_
        repeat (first | go_big_quiet_step ((fail)) | quiet_step ((fail)))
        refine wpQuiet_nil ?_
        intro _ hcw1
        obtain ⟨pq, hcw2⟩ := hcw1
        subst hcw2
        have W0G := grows_trans _ _ _ HGG.out (below_reg wr pq)
        have HO0 := Lib.hid (own_grows HO.out (below_reg wr pq))
        refine gen_world' (p := fun w' => Exit.then _ _ _ _ w') W0G HO0.out ?_
        clear W0G HO0
        intro W0 W0G ho0
        have HO0 := Lib.hid ho0
        have HSZ := Lib.hid W0G.size
        obtain ⟨p0, p1, p2⟩ := HP.out W0 W0G
        obtain ⟨t0, t1, t2⟩ := HT.out W0 W0G
        clear ho0
        go_wp2_with (at_builtin; refine wpList_append_own _ rfl _ _ 22 rfl w1.heap.size 29 i0 _ 3 24 Try.underlying22 hii hz0 hz1 hz2 rfl (by decide) _ (outK k q).length (kvs (outK k q)) rfl (HO0.out.alloc _) ⟨W0.heap.size, 0, none⟩ 1 1 (kc y) rfl rfl ?_ ?_ ?_ ?_ ?_ ?_)
        all_goals first
          | exact World.news_of_block (heap_alloc_new _ _)
          | (intro j u hj; exact (cell_in (heap_alloc_new _ _) j (by simpa [kc] using hj)).1)
          | exact ⟨rfl, rfl, rfl⟩
          | exact kc_one _
          | (have h77 := HOL.out; unfold maxLen; omega)
          | (have h77 := HOL.out; omega)
          | (have h77 := HSZ.out; omega)
          | (have h77 := HSZ.out; simp only [World.size_alloc]; omega)
          | (have h77 := HSZ.out; simp; omega)
          | skip
        intro v4 w4 hown hgr _
        have HN := Lib.hid (snoc_own hown)
        have HGN := Lib.hid (grows_of_grownBy (bl_alloc W0G _) hgr (fun j hj => (HO0.out.lt j hj).1))
        clear hown hgr
        go_wp2_with fail
        go_roundw
        case rel => exact ⟨i + 1, by rw [HWS.out]; rfl, HLT.out, by rw [HTK.out, EA.out], by rw [HTK.out, EO.out]; exact HN.out, HGN.out⟩
        case measure => rw [HWS.out]; exact meas_succ HLT.out
    · obtain rfl : i = n := Nat.le_antisymm hi (Nat.le_of_not_lt hlt)
      have htl : l.take i = l := List.take_of_length_le (by rw [EN.out]; exact Nat.le_refl _)
      rw [htl] at HO ⊢
      have HSZ := Lib.hid HGG.out.size
      have HOL := Lib.hid (Nat.le_trans (outK_len k l) (Nat.succ_le_succ HM.out))
      have HBW := Lib.hid HG1.out.size
      have wrG := HGG.out
      clear hha hlt hi htl
      cases hany : l.any (lessK k)
      · have hr : r = outK k l ++ [k] := by rw [← ER.out, if_neg (by simp [hany]), outK_not hany]
        have HR := Lib.hid hr
        clear hany hr
        go_wp2_with (at_builtin; refine wpList_append_own _ rfl _ _ 22 rfl w1.heap.size 29 i0 _ 3 24 Try.underlying22 hii hz0 hz1 hz2 rfl (by decide) _ (outK k l).length (kvs (outK k l)) rfl (HO.out.alloc _) ⟨wr.heap.size, 0, none⟩ 1 1 (kc k) rfl rfl ?_ ?_ ?_ ?_ ?_ ?_)
        all_goals first
          | exact World.news_of_block (heap_alloc_new _ _)
          | (intro j u hj; exact (cell_in (heap_alloc_new _ _) j (by simpa [kc] using hj)).1)
          | exact ⟨rfl, rfl, rfl⟩
          | exact kc_one _
          | (have h77 := HOL.out; unfold maxLen; omega)
          | (have h77 := HOL.out; omega)
          | (have h77 := HSZ.out; omega)
          | (have h77 := HSZ.out; simp only [World.size_alloc]; omega)
          | (have h77 := HSZ.out; simp; omega)
          | skip
        intro v4 w4 hown hgr _
        have HN := Lib.hid (snoc_own hown)
        have HGN := Lib.hid (grows_of_grownBy (bl_alloc wrG _) hgr (fun j hj => (HO.out.lt j hj).1))
        clear hown hgr
        go_wp2_with fail
        go_ret
        exact ⟨_, rfl, grows_trans _ _ _ HG1.out HGN.out, by rw [HR.out]; exact row_base HN.out HBW.out⟩
      · have hr : r = outK k l := by rw [← ER.out, if_pos hany]
        have HR := Lib.hid hr
        clear hany hr
        go_wp2_with fail
        go_ret
        exact ⟨_, rfl, grows_trans _ _ _ HG1.out HGG.out, by rw [HR.out]; exact row_base HO.out HBW.out⟩
end Go.Proofs.Ytdmmceclohkkdaa
