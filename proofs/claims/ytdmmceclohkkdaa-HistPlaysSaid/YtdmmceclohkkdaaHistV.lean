/- The walk of HistPlays. -/
import Derived.Test.YtdmmceclohkkdaaHistS
/- Put and Pop of a history and of the document's, side by side. -/
/- A history and the document's: alike but for where the bytes lie; the counts; the law's 'same'. -/
namespace Go.Proofs.Ytdmmceclohkkdaa
open Go.RowKit Go.Sort
set_option maxHeartbeats 4000000
set_option maxRecDepth 100000
abbrev bareP (x : PW) : PW := x.at' none 0 0
abbrev bareH (h : HW) : HW := (bareP h.1, h.2)
/-- The same packets, but for where the bytes lie. -/
def Twin (l l' : List HW) : Prop := l.map bareH = l'.map bareH
theorem Twin.len {l l' : List HW} (h : Twin l l') : l.length = l'.length := by
  have := congrArg List.length h
  rwa [List.length_map, List.length_map] at this
theorem Twin.keys {l l' : List HW} (h : Twin l l') : l.map (fun x => x.1.k) = l'.map (fun x => x.1.k) := by
  have := congrArg (List.map (fun x : HW => x.1.k)) h
  rwa [List.map_map, List.map_map] at this
theorem Twin.cnt {l l' : List HW} (h : Twin l l') (f kd : Int) : cntP (l.map (·.1)) f kd = cntP (l'.map (·.1)) f kd := by
  have e : ∀ m : List HW, cntP (m.map (·.1)) f kd = cntP ((m.map bareH).map (·.1)) f kd := by
    intro m
    induction m with
    | nil => rfl
    | cons x m ih =>
      unfold cntP at ih ⊢
      simp only [List.map_cons, List.filter_cons] at ih ⊢
      split
      · rw [List.length_cons, List.length_cons, ih]
      · exact ih
  rw [e l, e l', h]
theorem Twin.head {x y : HW} {l l' : List HW} (h : Twin (x :: l) (y :: l')) : y.1 = x.1.at' y.1.ba y.1.bl y.1.bc ∧ y.2 = x.2 ∧ Twin l l' := by
  unfold Twin at h
  rw [List.map_cons, List.map_cons] at h
  injection h with h1 h2
  injection h1 with h3 h4
  refine ⟨?_, h4.symm, h2⟩
  obtain ⟨⟨a0, a1, a2, a3, a4, a5, a6, a7, a8, a9, a10, a11⟩, a12⟩ := x
  obtain ⟨⟨c0, c1, c2, c3, c4, c5, c6, c7, c8, c9, c10, c11⟩, c12⟩ := y
  simp only [bareP, PW.at', PW.mk.injEq] at h3 ⊢
  obtain ⟨r0, r1, r2, r3, r4, r5, r6, r7, r8, -⟩ := h3
  refine ⟨r0.symm, r1.symm, r2.symm, r3.symm, r4.symm, r5.symm, r6.symm, r7.symm, r8.symm, ?_⟩
  simp
theorem pos_len (l : List HW) (k : KW) : posK (l.map fun x => x.1.k) k = (l.takeWhile fun x => lessK x.1.k k).length := by
  unfold posK
  rw [← map_takeWhile' (fun x : HW => x.1.k) (fun y => lessK y k) l, List.length_map]
theorem insH_at (l : List HW) (h : HW) : insH l h = l.take (posK (l.map fun x => x.1.k) h.1.k) ++ h :: l.drop (posK (l.map fun x => x.1.k) h.1.k) := by
  rw [pos_len]
  unfold insH
  have h2 := List.takeWhile_append_dropWhile (p := fun x : HW => lessK x.1.k h.1.k) (l := l)
  have h3 : l.take (l.takeWhile fun x => lessK x.1.k h.1.k).length = l.takeWhile fun x => lessK x.1.k h.1.k := by
    conv => lhs; arg 2; rw [← h2]
    rw [List.take_left]
  have h4 : l.drop (l.takeWhile fun x => lessK x.1.k h.1.k).length = l.dropWhile fun x => lessK x.1.k h.1.k := by
    conv => lhs; arg 2; rw [← h2]
    rw [List.drop_left]
  rw [h3, h4]
theorem Twin.ins {l l' : List HW} (h : Twin l l') {x y : HW} (e : bareH x = bareH y) : Twin (insH l x) (insH l' y) := by
  have hk0 : (bareH x).1.k = (bareH y).1.k := congrArg (fun u : HW => u.1.k) e
  have hk : x.1.k = y.1.k := hk0
  rw [insH_at, insH_at, h.keys, hk]
  unfold Twin at h ⊢
  rw [List.map_append, List.map_cons, List.map_append, List.map_cons, List.map_take, List.map_take, List.map_drop, List.map_drop, h, e]
theorem putE_twin {l l' : List HW} (h : Twin l l') (M : Nat) (k : KW) : putE (l.map hv) M k = putP (l'.map (·.1)) M k := by
  have hk : (l.map hv).map (·.1) = keysP (l'.map (·.1)) := by
    rw [List.map_map]
    show l.map (fun x => x.1.k) = _
    rw [h.keys, keysP, List.map_map]
    rfl
  unfold putE putP
  have h1 : getK (l.map hv) k ≠ none ↔ k ∈ keysP (l'.map (·.1)) := by
    rw [← hk, ne_eq, getK_none, Decidable.not_not]
  rw [List.length_map, List.length_map, h.len]
  by_cases h2 : k ∈ keysP (l'.map (·.1))
  · rw [if_pos (h1.2 h2), if_pos h2]
  · rw [if_neg (fun h3 => h2 (h1.1 h3)), if_neg h2]
/-- The counts are right. -/
def Cnt (g : Int × Int → Int) (l : List HW) : Prop := ∀ f kd, g (f, kd) = (cntP (l.map (·.1)) f kd : Nat)
theorem cntP_cons (x : PW) (l : List PW) (f kd : Int) : cntP (x :: l) f kd = (if x.k.f = f ∧ x.kd = kd then 1 else 0) + cntP l f kd := by
  unfold cntP
  rw [List.filter_cons]
  by_cases h1 : x.k.f = f <;> by_cases h2 : x.kd = kd <;> simp [h1, h2] <;> omega
theorem cntP_append (l m : List PW) (f kd : Int) : cntP (l ++ m) f kd = cntP l f kd + cntP m f kd := by
  unfold cntP
  rw [List.filter_append, List.length_append]
theorem cntP_ins (l : List HW) (x : HW) (f kd : Int) : cntP ((insH l x).map (·.1)) f kd = (if x.1.k.f = f ∧ x.1.kd = kd then 1 else 0) + cntP (l.map (·.1)) f kd := by
  have h2 := List.takeWhile_append_dropWhile (p := fun y : HW => lessK y.1.k x.1.k) (l := l)
  unfold insH
  conv => rhs; rw [← h2]
  rw [List.map_append, List.map_cons, cntP_append, cntP_cons, List.map_append, cntP_append]
  omega
theorem wrap_near {c d : Int} (h : -1000000 ≤ c ∧ c ≤ 1000000) (hd : d = 1 ∨ d = -1) : wrap64 (c + d) = c + d := by unfold wrap64; omega
theorem Cnt.ins {g : Int × Int → Int} {l : List HW} (h : Cnt g l) (hl : l.length ≤ 1000) (x : HW) : Cnt (bumpM g (x.1.k.f, x.1.kd) 1) (insH l x) := by
  intro f kd
  have hc := cntP_le (l.map (·.1)) f kd
  rw [List.length_map] at hc
  rw [cntP_ins]
  unfold bumpM
  by_cases e : x.1.k.f = f ∧ x.1.kd = kd
  · obtain ⟨rfl, rfl⟩ := e
    rw [if_pos rfl, if_pos ⟨rfl, rfl⟩, h, wrap_near (by omega) (.inl rfl)]
    omega
  · rw [if_neg (fun e2 => e (by injection e2 with a b; exact ⟨a.symm, b.symm⟩)), if_neg e, h, Nat.zero_add]
theorem Cnt.tail {g : Int × Int → Int} {l : List HW} {x : HW} (h : Cnt g (x :: l)) (hl : l.length ≤ 1000) : Cnt (bumpM g (x.1.k.f, x.1.kd) (-1)) l := by
  intro f kd
  have hc := cntP_le (l.map (·.1)) f kd
  rw [List.length_map] at hc
  have h1 := h f kd
  rw [List.map_cons, cntP_cons] at h1
  unfold bumpM
  by_cases e : x.1.k.f = f ∧ x.1.kd = kd
  · obtain ⟨rfl, rfl⟩ := e
    rw [if_pos ⟨rfl, rfl⟩] at h1
    rw [if_pos rfl, h1, wrap_near (by omega) (.inr rfl)]
    omega
  · rw [if_neg e, Nat.zero_add] at h1
    rw [if_neg (fun e2 => e (by injection e2 with a b; exact ⟨a.symm, b.symm⟩)), h1]
section
variable {w : World} {base hb tb mb wb M : Nat} {kv v : Value} {dl : Int} {last : KW} {sm : Bool} {l l' : List HW} {g : Int × Int → Int}
attribute [-go_sem] run_eql_struct run_neq_struct
/-- The law's 'same'. -/
theorem hsame_any (h : HistAt w base hb tb kv mb wb M dl last sm l g) (hd : DocH w base v l') (ht : Twin l l') (hm : l.length ≤ 1000) :
    Calls Try.prog 55 #[.pointer (some ⟨hb, 0, none⟩), DV v M dl last sm] w (RetV w (.bool true)) := by
  obtain ⟨n, en⟩ : ∃ n, l.length = n := ⟨_, rfl⟩
  have en' : l'.length = n := by rw [← ht.len, en]
  obtain ⟨a, cap, rfl⟩ := hd.len en'
  obtain ⟨b, eb⟩ : ∃ b, w.heap.size = b := ⟨_, rfl⟩
  obtain ⟨W, eW⟩ : ∃ W, w.alloc (.cells (dcs (.slice a n cap) M dl last sm) TRH) = W := ⟨_, rfl⟩
  have hb0 := heap_alloc_new w (.cells (dcs (.slice a n cap) M dl last sm) TRH)
  have hg : Grows w W := by rw [← eW]; exact bl_alloc (Below.refl _ _) _
  rw [eW, eb] at hb0
  have hM : M ≤ 65536 := h.tab.most
  have HM := Lib.hid (show wrap64 ((M : Int) - (n : Int)) = (M : Int) - (n : Int) by rw [en] at hm; unfold wrap64; omega)
  have HB := Lib.hid hb0
  have HG := Lib.hid hg
  have HLEN := Lib.hid (fun W' (hg : Grows w W') => by have := hlen_any (h.grows hg); rwa [en] at this)
  have HROOM := Lib.hid (fun W' (hg : Grows w W') => by have := hroom_any (h.grows hg); rwa [en] at this)
  have HFL := Lib.hid (fun W' (hg : Grows w W') => hfloor_any (h.grows hg))
  simp only [dcs] at eW
  cases l with
  | nil =>
    cases l' with
    | cons y l' => simp at en en'; omega
    | nil =>
      have HNX := Lib.hid (fun W' (hg : Grows w W') => hnext_none (h.grows hg))
      have HSA := Lib.hid (fun W' => rsame_any pz none 0 0 [] W' (bhas_nil W') (bhas_nil W'))
      have hn0 : ((n : Int) == 0) = true := by rw [← en]; rfl
      clear h hd ht hm hb0 hg hM en en'
      simp only [DV, dcs]
      go_enter Try.func55, Try.ntmps55
      go_wp2_with fail
      refine (HNX.out _ HG.out).mono ?_
      rintro e w2 ⟨rfl, hg2⟩
      have HG2 := Lib.hid (grows_trans _ _ _ HG.out hg2)
      have HB2 := Lib.hid (box_grows HB.out hg2)
      clear hg2 eW
      simp only [PW.val, PW.cells, PW.body]
      go_wp2_with fail
      obtain ⟨w3, e3⟩ : ∃ w3, w2.alloc (.cells pz.cells TPK) = w3 := ⟨_, rfl⟩
      obtain ⟨q, eq⟩ : ∃ q, w2.heap.size = q := ⟨_, rfl⟩
      have g3 : Grows w2 w3 := by rw [← e3]; exact bl_alloc (Below.refl _ _) _
      have hq3 : w3.heap[q]? = some (.cells pz.cells TPK (0, 0)) := by rw [← e3, ← eq]; exact heap_alloc_new w2 _
      have HG3 := Lib.hid (grows_trans _ _ _ HG2.out g3)
      have HB3 := Lib.hid (And.intro (box_grows HB2.out g3) hq3)
      simp only [PW.cells, PW.body] at e3
      clear g3 hq3
      rw [eq, e3]
      clear eq e3
      refine (HFL.out _ HG3.out).mono ?_
      rintro e w4 ⟨rfl, hg4⟩
      have HG4 := Lib.hid (grows_trans _ _ _ HG3.out hg4)
      have HB4 := Lib.hid (And.intro (box_grows HB3.out.1 hg4) (box_grows HB3.out.2 hg4))
      clear hg4
      simp only [KW.val]
      go_wp2_with fail
      obtain ⟨w5, e5⟩ : ∃ w5, w4.alloc (KC last) = w5 := ⟨_, rfl⟩
      obtain ⟨c, ec⟩ : ∃ c, w4.heap.size = c := ⟨_, rfl⟩
      have g5 : Grows w4 w5 := by rw [← e5]; exact bl_alloc (Below.refl _ _) _
      have hc5 : w5.heap[c]? = some (KC last) := by rw [← e5, ← ec]; exact heap_alloc_new w4 _
      have HG5 := Lib.hid (grows_trans _ _ _ HG4.out g5)
      have HB5 := Lib.hid (And.intro (box_grows HB4.out.1 g5) (And.intro (box_grows HB4.out.2 g5) hc5))
      simp only [KC] at e5
      rw [ec, e5]
      clear g5 hc5 ec e5
      obtain ⟨s0, s1, s2, s3, s4, s5, s6, s7⟩ := hat7_of HB5.out.1
      have c0 := (cell_in HB5.out.2.2 0 rfl).1
      have c1 := (cell_in HB5.out.2.2 1 rfl).1
      have c2 := (cell_in HB5.out.2.2 2 rfl).1
      have z3 := box_lt HB5.out.2.2
      have hkn := fun W => key_neq last last W
      simp only [decide_true, Bool.not_true] at hkn
      have hw3 := HM.out
      have hnn : ((n : Int) != (n : Int)) = false := bne_self_eq_false _
      have hwn : IntKind.i64.wrap ((M : Int) - (n : Int)) = (M : Int) - (n : Int) := by rw [wrapEq]; exact hw3
      have hss : (sm != sm) = false := bne_self_eq_false _
      refine wp_region_reg (by kernel_rfl) (by kernel_rfl) ?_
      repeat (first | go_big_quiet_step ((first | (go_at_call 58; refine class_same (HLEN.out _ (grows_trans _ _ _ HG5.out (below_reg _ _))) ⟨_, rfl⟩) | (go_at_call 59; exact class_reg (HROOM.out _ (grows_trans _ _ _ HG5.out (below_reg _ _)))))) | quiet_step ((first | (go_at_call 58; refine class_same (HLEN.out _ (grows_trans _ _ _ HG5.out (below_reg _ _))) ⟨_, rfl⟩) | (go_at_call 59; exact class_reg (HROOM.out _ (grows_trans _ _ _ HG5.out (below_reg _ _)))))))
      refine wpQuiet_nil ?_
      intro _ hcw1
      obtain ⟨pq, hcw2⟩ := hcw1
      subst hcw2
      obtain ⟨w6, e6, hg6⟩ : ∃ w6, reg w5 pq = w6 ∧ Grows w5 w6 := ⟨_, rfl, below_reg _ _⟩
      rw [e6]
      have HG6 := Lib.hid (grows_trans _ _ _ HG5.out hg6)
      have HB6 := Lib.hid (And.intro (box_grows HB5.out.1 hg6) (box_grows HB5.out.2.1 hg6))
      clear e6 hg6 s0 s1 s2 s3 s4 s5 s6 s7 c0 c1 c2 z3 hw3 hwn
      obtain ⟨s0, s1, s2, s3, s4, s5, s6, s7⟩ := hat7_of HB6.out.1
      obtain ⟨x0, x1, x2, x3, x4, x5, x6, x7, x8, x9, x10, x11, x12⟩ := pat_of HB6.out.2
      go_wp2_with fail
      refine (HSA.out _).mono ?_
      rintro e w7 ⟨rfl, hg7⟩
      have HG7 := Lib.hid (grows_trans _ _ _ HG6.out hg7)
      clear hg7
      go_wp2_with fail
      go_ret
      exact ⟨rfl, HG7.out⟩
  | cons x l =>
    cases l' with
    | nil => simp at en en'; omega
    | cons y l' =>
      obtain ⟨hy1, hy2, -⟩ := ht.head
      have HNX := Lib.hid (fun W' (hg : Grows w W') => hnext_some (h.grows hg))
      have hb1 : BRow w base y.1.body y.2 := hd.bod y (List.mem_cons_self ..)
      have hb2 : BRow w base x.1.body x.2 := h.bod x (List.mem_cons_self ..)
      rw [hy2] at hb1
      obtain ⟨y, by2⟩ := y
      obtain ⟨g', o, cap', he, hcap, hgl, hat⟩ := hd.rows.form (n := n) (by rw [List.length_map]; exact en') (by simp at en; omega)
      simp only [Value.slice.injEq, true_and] at he
      obtain ⟨rfl, rfl⟩ := he
      have HP := Lib.hid (fun W' (hg : Grows w W') => by have := pat_cells (hat.grows hg hgl) 0 (by simp); simpa only [Nat.zero_mul, Nat.add_zero, List.map_cons, List.getElem_cons_zero] using this)
      have HGL := Lib.hid (fun (W' : World) (hg : Grows w W') => Nat.lt_of_lt_of_le hgl hg.size)
      have hy1 : y = x.1.at' y.ba y.bl y.bc := hy1
      have hb1 : BRow w base (.slice y.ba y.bl y.bc) x.2 := hb1
      obtain ⟨ya, yl, yc, ey⟩ : ∃ ya yl yc, y = x.1.at' ya yl yc := ⟨_, _, _, hy1⟩
      subst ey
      have HSA := Lib.hid (fun W' (hg : Grows w W') => rsame_any x.1 ya yl yc x.2 W' ((brow_bhas hb2).1.grows hg) ((brow_bhas hb1).1.grows hg))
      have HN0 := Lib.hid (show 0 < n by simp at en; omega)
      clear hy1 hy2 hb1 hb2 hcap hgl hat
      clear h hd ht hm hb0 hg hM en en'
      simp only [DV, dcs]
      go_enter Try.func55, Try.ntmps55
      go_wp2_with fail
      refine (HNX.out _ HG.out).mono ?_
      rintro e w2 ⟨rfl, hg2⟩
      have HG2 := Lib.hid (grows_trans _ _ _ HG.out hg2)
      have HB2 := Lib.hid (box_grows HB.out hg2)
      clear hg2 eW
      simp only [PW.val, PW.cells, PW.body]
      go_wp2_with fail
      obtain ⟨w3, e3⟩ : ∃ w3, w2.alloc (.cells x.1.cells TPK) = w3 := ⟨_, rfl⟩
      obtain ⟨q, eq⟩ : ∃ q, w2.heap.size = q := ⟨_, rfl⟩
      have g3 : Grows w2 w3 := by rw [← e3]; exact bl_alloc (Below.refl _ _) _
      have hq3 : w3.heap[q]? = some (.cells x.1.cells TPK (0, 0)) := by rw [← e3, ← eq]; exact heap_alloc_new w2 _
      have HG3 := Lib.hid (grows_trans _ _ _ HG2.out g3)
      have HB3 := Lib.hid (And.intro (box_grows HB2.out g3) hq3)
      simp only [PW.cells, PW.body] at e3
      clear g3 hq3
      rw [eq, e3]
      clear eq e3
      refine (HFL.out _ HG3.out).mono ?_
      rintro e w4 ⟨rfl, hg4⟩
      have HG4 := Lib.hid (grows_trans _ _ _ HG3.out hg4)
      have HB4 := Lib.hid (And.intro (box_grows HB3.out.1 hg4) (box_grows HB3.out.2 hg4))
      clear hg4
      simp only [KW.val]
      go_wp2_with fail
      obtain ⟨w5, e5⟩ : ∃ w5, w4.alloc (KC last) = w5 := ⟨_, rfl⟩
      obtain ⟨c, ec⟩ : ∃ c, w4.heap.size = c := ⟨_, rfl⟩
      have g5 : Grows w4 w5 := by rw [← e5]; exact bl_alloc (Below.refl _ _) _
      have hc5 : w5.heap[c]? = some (KC last) := by rw [← e5, ← ec]; exact heap_alloc_new w4 _
      have HG5 := Lib.hid (grows_trans _ _ _ HG4.out g5)
      have HB5 := Lib.hid (And.intro (box_grows HB4.out.1 g5) (And.intro (box_grows HB4.out.2 g5) hc5))
      simp only [KC] at e5
      rw [ec, e5]
      clear g5 hc5 ec e5
      obtain ⟨s0, s1, s2, s3, s4, s5, s6, s7⟩ := hat7_of HB5.out.1
      have c0 := (cell_in HB5.out.2.2 0 rfl).1
      have c1 := (cell_in HB5.out.2.2 1 rfl).1
      have c2 := (cell_in HB5.out.2.2 2 rfl).1
      have z3 := box_lt HB5.out.2.2
      have hkn := fun W => key_neq last last W
      simp only [decide_true, Bool.not_true] at hkn
      have hw3 := HM.out
      have hnn : ((n : Int) != (n : Int)) = false := bne_self_eq_false _
      have hwn : IntKind.i64.wrap ((M : Int) - (n : Int)) = (M : Int) - (n : Int) := by rw [wrapEq]; exact hw3
      have hss : (sm != sm) = false := bne_self_eq_false _
      refine wp_region_reg (by kernel_rfl) (by kernel_rfl) ?_
      repeat (first | go_big_quiet_step ((first | (go_at_call 58; refine class_same (HLEN.out _ (grows_trans _ _ _ HG5.out (below_reg _ _))) ⟨_, rfl⟩) | (go_at_call 59; exact class_reg (HROOM.out _ (grows_trans _ _ _ HG5.out (below_reg _ _)))))) | quiet_step ((first | (go_at_call 58; refine class_same (HLEN.out _ (grows_trans _ _ _ HG5.out (below_reg _ _))) ⟨_, rfl⟩) | (go_at_call 59; exact class_reg (HROOM.out _ (grows_trans _ _ _ HG5.out (below_reg _ _)))))))
      refine wpQuiet_nil ?_
      intro _ hcw1
      obtain ⟨pq, hcw2⟩ := hcw1
      subst hcw2
      obtain ⟨w6, e6, hg6⟩ : ∃ w6, reg w5 pq = w6 ∧ Grows w5 w6 := ⟨_, rfl, below_reg _ _⟩
      rw [e6]
      have HG6 := Lib.hid (grows_trans _ _ _ HG5.out hg6)
      have HB6 := Lib.hid (And.intro (box_grows HB5.out.1 hg6) (box_grows HB5.out.2.1 hg6))
      clear e6 hg6 s0 s1 s2 s3 s4 s5 s6 s7 c0 c1 c2 z3 hw3 hwn
      obtain ⟨s0, s1, s2, s3, s4, s5, s6, s7⟩ := hat7_of HB6.out.1
      obtain ⟨x0, x1, x2, x3, x4, x5, x6, x7, x8, x9, x10, x11, x12⟩ := pat_of HB6.out.2
      obtain ⟨p0, p1, p2, p3, p4, p5, p6, p7, p8, p9, p10, p11⟩ := HP.out w6 HG6.out
      have hgl := HGL.out w6 HG6.out
      have hn0 : ((n : Int) == 0) = false := beq_false_of_ne (by have := HN0.out; omega)
      have hn1 : (0 : Int) < (n : Int) := by have := HN0.out; omega
      have hn2 : 0 < n := HN0.out
      obtain ⟨T, eT⟩ : ∃ T, wrap64 (x.1.k.t + dl) = T := ⟨_, rfl⟩
      have eT2 : IntKind.i64.wrap (x.1.k.t + dl) = T := by rw [wrapEq, eT]
      have hTT : (T == T) = true := beq_self_eq_true _
      rw [eT]
      go_wp2_with fail
      refine wp_region_reg (by kernel_rfl) (by kernel_rfl) ?_
      repeat (first | go_big_quiet_step ((go_at_call 52; exact class_reg (HSA.out _ (grows_trans _ _ _ HG6.out (below_reg _ _))))) | quiet_step ((go_at_call 52; exact class_reg (HSA.out _ (grows_trans _ _ _ HG6.out (below_reg _ _))))))
      refine wpQuiet_nil ?_
      intro _ hcw1
      obtain ⟨pq, hcw2⟩ := hcw1
      subst hcw2
      go_wp2_with fail
      go_ret
      exact ⟨rfl, grows_trans _ _ _ HG6.out (below_reg _ _)⟩
end
end Go.Proofs.Ytdmmceclohkkdaa
namespace Go.Proofs.Ytdmmceclohkkdaa
open Go.RowKit Go.Sort
set_option maxHeartbeats 4000000
set_option maxRecDepth 100000
theorem new_at {w : World} {p : Nat} (o : Obj) (h : w.heap.size = p) : (w.alloc o).heap[p]? = some o := by subst h; exact heap_alloc_new w o
theorem old_at {w : World} {p : Nat} {o : Obj} (o' : Obj) (h : w.heap[p]? = some o) : (w.alloc o').heap[p]? = some o := box_grows h (bl_alloc (Below.refl _ _) _)
theorem reg_at {w : World} {p : Nat} {o : Obj} (q : Regrown) (h : w.heap[p]? = some o) : (reg w q).heap[p]? = some o := box_grows h (below_reg _ _)
section
variable {w : World} {base hb tb mb wb M : Nat} {kv v : Value} {dl : Int} {last : KW} {sm : Bool} {l l' : List HW} {g : Int × Int → Int}
theorem hputE_bad {x : PW} (h : checkE x.kd x.k dl last sm ≠ 0) : hputE l M dl last sm x = checkE x.kd x.k dl last sm := by unfold hputE; rw [if_neg h]
theorem hputE_go {x : PW} (h : checkE x.kd x.k dl last sm = 0) : hputE l M dl last sm x = putE (l.map hv) M x.k := by unfold hputE; rw [if_pos h]
theorem map_insP (l' : List HW) (y : HW) : (insH l' y).map (·.1) = (l'.map (·.1)).take (posK (keysP (l'.map (·.1))) y.1.k) ++ y.1 :: (l'.map (·.1)).drop (posK (keysP (l'.map (·.1))) y.1.k) := by
  have hk : keysP (l'.map (·.1)) = l'.map fun x => x.1.k := by unfold keysP; rw [List.map_map]; rfl
  rw [insH_at, hk, List.map_append, List.map_cons, List.map_take, List.map_drop]
/-- The document's Put. -/
theorem rhput_any (x : PW) (b : List Int) (hd : DocH w base v l') (ht : Twin l l') (hr : Rises (l.map fun x => x.1.k)) (hl : l.length ≤ 1000) (h0 : 0 ≤ dl) (h1 : dl ≤ 1152921504606846976) (hB : base ≤ w.heap.size) (hx : BRow w base x.body b) :
    Calls Try.prog 50 #[DV v M dl last sm, x.val] w (fun e w' => ∃ a n c l2', e = .returned (.tuple #[DV (.slice a n c) M dl last sm, .int .i64 (hputE l M dl last sm x)]) ∧ Grows w w' ∧ DocH w' base (.slice a n c) l2' ∧ ∀ y, bareH y = bareH (x, b) → Twin (if hputE l M dl last sm x = 0 then insH l y else l) l2') := by
  obtain ⟨n, en⟩ : ∃ n, l'.length = n := ⟨_, rfl⟩
  obtain ⟨a, cap, rfl⟩ := hd.len en
  by_cases hE : checkE x.kd x.k dl last sm = 0
  · refine (rput_go x hd.rows (by rw [List.length_map]; exact en) (by rw [← en, ← ht.len]; omega) (by rw [keysP, List.map_map]; show Rises (l'.map fun x => x.1.k); rw [← ht.keys]; exact hr) h0 h1 hE).mono ?_
    rintro e w' ⟨v', r, rfl, er, hg, hor⟩
    rw [← putE_twin ht] at er
    rw [hputE_go hE, ← er]
    have hd' := hd.grows hg
    rcases hor with ⟨h3, rfl⟩ | ⟨h3, h4⟩
    · exact ⟨a, n, cap, l', rfl, hg, hd', fun y _ => by rw [if_neg h3]; exact ht⟩
    · have h5 := pown_has h4
      have h6 : (insH l' (x, b)).map (·.1) = _ := map_insP l' (x, b)
      simp only at h6
      rw [← h6] at h5
      obtain ⟨a8, c8, rfl⟩ := h5.len rfl
      refine ⟨a8, _, c8, insH l' (x, b), rfl, hg, ⟨h5, fun u hu => ?_⟩, fun y hy => ?_⟩
      · rcases insH_mem hu with rfl | hu
        · exact own_grows hx hg
        · exact hd'.bod u hu
      · rw [if_pos h3]; exact ht.ins hy
  · refine (rput_bad x h0 h1 hE).mono ?_
    rintro e w' ⟨rfl, hg⟩
    rw [hputE_bad hE]
    exact ⟨a, n, cap, l', rfl, hg, hd.grows hg, fun y _ => by rw [if_neg hE]; exact ht⟩
/-- The history's Put. -/
theorem hput_any (x : PW) (b : List Int) (h : HistAt w base hb tb kv mb wb M dl last sm l g) (hB : base ≤ w.heap.size) (hx : BHas w x.ba x.bl x.bc b) (hxl : x.bl ≤ 1000000) (hc : Cnt g l) (hl : l.length ≤ 1000) :
    Calls Try.prog 43 #[.pointer (some ⟨hb, 0, none⟩), x.val] w (fun e w' => ∃ y kv' g', e = .returned (.int .i64 (hputE l M dl last sm x)) ∧ HistAt w' base hb tb kv' mb wb M dl last sm (if hputE l M dl last sm x = 0 then insH l y else l) g' ∧
      Chg (HistS hb tb kv mb wb) w w' ∧ bareH y = bareH (x, b) ∧ Cnt g' (if hputE l M dl last sm x = 0 then insH l y else l)) := by
  by_cases hE : checkE x.kd x.k dl last sm = 0
  · refine (hput_go x b h hB hx hxl hE).mono ?_
    rintro e w' ⟨ba, bl, bc, rfl, kv', k1, k2, -⟩
    rw [hputE_go hE]
    refine ⟨_, kv', _, rfl, k1, k2, rfl, ?_⟩
    split
    · exact hc.ins hl (x.at' ba bl bc, b)
    · exact hc
  · refine (hput_bad x h hE).mono ?_
    rintro e w' ⟨rfl, hg⟩
    rw [hputE_bad hE]
    refine ⟨(x, b), kv, g, rfl, ?_, Chg.ofGrows hg, rfl, ?_⟩
    · rw [if_neg hE]; exact h.grows hg
    · rw [if_neg hE]; exact hc
/-- The document's rows stay through the history's changes. -/
theorem HistAt.doc {w' : World} (h : HistAt w base hb tb kv mb wb M dl last sm l g) (hd : DocH w base v l') (hc : Chg (HistS hb tb kv mb wb) w w') : DocH w' base v l' :=
  hd.chg hc (fun _ _ hg => h.notS hg (by decide) (by decide) (by decide)) (fun _ _ hg => h.notS hg (by decide) (by decide) (by decide))
theorem DocH.store {w' : World} {q : Nat} {cs : Array Value} (hd : DocH w base v l') (hq : w.heap[q]? = some (.cells cs TRH (0, 0))) (hc : Chg (fun j => j = q) w w') : DocH w' base v l' :=
  hd.chg hc (fun j cur hg e => by
    rw [e, hq] at hg
    injection hg with hg
    injection hg with _ hg
    exact absurd hg (by decide)) (fun j cur hg e => by
    rw [e, hq] at hg
    injection hg with hg
    injection hg with _ hg
    exact absurd hg (by decide))
/-- Both, side by side: the document's in the box q. -/
structure PlayS (W w : World) (B hb wb q M : Nat) (dl : Int) (n : Nat) (kv vL : Value) (l l' : List HW) (g : Int × Int → Int) (last : KW) (sm : Bool) : Prop where
  his : HistAt w B hb (B + 1) kv B wb M dl last sm l g
  doc : DocH w B vL l'
  twin : Twin l l'
  cnt : Cnt g l
  few : l.length ≤ n
  box : w.heap[q]? = some (.cells (dcs vL M dl last sm) TRH (0, 0))
  old : Grows W w
structure PlayC (W : World) (B hb wb q : Nat) : Prop where
  b : W.heap.size = B
  q : W.heap.size ≤ q
variable {W w' : World} {B q n : Nat} {vL : Value}
theorem PlayS.grows (h : PlayS W w B hb wb q M dl n kv vL l l' g last sm) (hg : Grows w w') : PlayS W w' B hb wb q M dl n kv vL l l' g last sm :=
  ⟨h.his.grows hg, h.doc.grows hg, h.twin, h.cnt, h.few, box_grows h.box hg, grows_trans _ _ _ h.old hg⟩
theorem PlayS.ge (h : PlayS W w B hb wb q M dl n kv vL l l' g last sm) (c : PlayC W B hb wb q) : B ≤ w.heap.size := by rw [← c.b]; exact h.old.size
theorem PlayS.rises (h : PlayS W w B hb wb q M dl n kv vL l l' g last sm) : Rises (l.map fun x => x.1.k) := by
  have := h.his.tab.rises
  rwa [List.map_map] at this
theorem PlayS.more {n' : Nat} (h : PlayS W w B hb wb q M dl n kv vL l l' g last sm) (hn : n ≤ n') : PlayS W w B hb wb q M dl n' kv vL l l' g last sm := ⟨h.his, h.doc, h.twin, h.cnt, Nat.le_trans h.few hn, h.box, h.old⟩
/-- The document's history is set anew. -/
theorem PlayS.set {vL2 : Value} {l2' : List HW} {last2 : KW} {sm2 : Bool} (h : PlayS W w B hb wb q M dl n kv vL l l' g last sm) (c : PlayC W B hb wb q) (hd : DocH w B vL2 l2') :
    ∃ w', st7 w q vL2 M dl last2 sm2 = w' ∧ HistAt w' B hb (B + 1) kv B wb M dl last sm l g ∧ DocH w' B vL2 l2' ∧ w'.heap[q]? = some (.cells (dcs vL2 M dl last2 sm2) TRH (0, 0)) ∧ Grows W w' ∧ Chg (fun j => j = q) w w' := by
  have hc := st7_chg w q vL2 M dl last2 sm2
  exact ⟨_, rfl, h.his.other h.box (by decide) (by decide) (by decide) (by decide) hc, hd.store h.box hc, st7_box h.box, grows_of_chg h.old hc (fun j hj => by rw [hj]; exact c.q), hc⟩
theorem insH_length (l : List HW) (h : HW) : (insH l h).length = l.length + 1 := by
  have h2 := congrArg List.length (List.takeWhile_append_dropWhile (p := fun x : HW => lessK x.1.k h.1.k) (l := l))
  rw [List.length_append] at h2
  unfold insH
  rw [List.length_append, List.length_cons]
  omega
/-- Both behind a call. -/
theorem PlayS.after {kv' vL2 : Value} {l2 l2' : List HW} {g' : Int × Int → Int} {last2 : KW} {sm2 : Bool} {n' : Nat} (c : PlayC W B hb wb q) (h : HistAt w B hb (B + 1) kv B wb M dl last sm l g) (old : Grows W w) (hd : DocH w B vL2 l2') (hbx : w.heap[q]? = some (.cells (dcs vL2 M dl last2 sm2) TRH (0, 0)))
    (h' : HistAt w' B hb (B + 1) kv' B wb M dl last2 sm2 l2 g') (hc : Chg (HistS hb (B + 1) kv B wb) w w') (tw : Twin l2 l2') (cn : Cnt g' l2) (few : l2.length ≤ n') : PlayS W w' B hb wb q M dl n' kv' vL2 l2 l2' g' last2 sm2 :=
  ⟨h', h.doc hd hc, tw, cn, few, box_chg hbx hc (h.notS hbx (by decide) (by decide) (by decide)), h.behind (Nat.le_of_eq c.b) old hc⟩
theorem DV_slice {v : Value} {l' : List HW} (hd : DocH w B v l') : ∃ a n' c, v = .slice a n' c := by
  obtain ⟨a, c, e⟩ := hd.len rfl
  exact ⟨a, _, c, e⟩
/-- Pop of both. -/
theorem PlayS.pop {av : Option Addr} {nv cv : Nat} (now : Int) (h : PlayS W w B hb wb q M dl n kv (.slice av nv cv) l l' g last sm) (hl : l.length ≤ 1000) :
    ∃ (av' : Option Addr) (nv' cv' : Nat) (last2 : KW) (sm2 : Bool) (x : PW) (zb : List Int) (ba : Option Addr) (bl bc : Nat) (is : Bool) (l2 l2' : List HW),
      (∀ W', Grows w W' → Calls Try.prog 51 #[DV (.slice av nv cv) M dl last sm, .int .i64 now] W' (RetV W' (.tuple #[DV (.slice av' nv' cv') M dl last2 sm2, (x.at' ba bl bc).val, .bool is]))) ∧
      DocH w B (.slice av' nv' cv') l2' ∧ Twin l2 l2' ∧ l2.length ≤ n ∧ BRow w B (.slice ba bl bc) zb ∧ BRow w B x.body zb ∧
      (∀ W', HistAt W' B hb (B + 1) kv B wb M dl last sm l g → Calls Try.prog 45 #[.pointer (some ⟨hb, 0, none⟩), .int .i64 now] W' (fun e w'' => ∃ kv' g', e = .returned (.tuple #[x.val, .bool is]) ∧ HistAt w'' B hb (B + 1) kv' B wb M dl last2 sm2 l2 g' ∧ Chg (HistS hb (B + 1) kv B wb) W' w'' ∧ Cnt g' l2)) := by
  have hrow0 : BRow w B (.slice none 0 0) [] := World.ownsRow_nil _ _ _ _
  by_cases hd : ∀ x ∈ l.head?, now < wrap64 (x.1.k.t + dl)
  · have hd' : ∀ x ∈ l'.head?, now < wrap64 (x.1.k.t + dl) := by
      intro y hy
      cases l' with
      | nil => cases hy
      | cons y' l' =>
        cases l with
        | nil => have := h.twin.len; simp at this
        | cons x l =>
          have h1 := hd x (by simp)
          obtain ⟨e1, -, -⟩ := h.twin.head
          simp only [List.head?_cons, Option.mem_some_iff] at hy
          rw [← hy, e1]
          exact h1
    refine ⟨av, nv, cv, last, sm, pz, [], none, 0, 0, false, l, l', fun W' hg => rpop_no now (h.doc.rows.grows hg) hd', h.doc, h.twin, h.few, hrow0, hrow0, fun W' hh => ?_⟩
    refine (hpop_no now hh hd).mono ?_
    rintro e w'' ⟨rfl, hg⟩
    exact ⟨kv, g, rfl, hh.grows hg, Chg.ofGrows hg, h.cnt⟩
  · cases l with
    | nil => exact absurd (fun x hx => by simp at hx) hd
    | cons x l =>
      cases l' with
      | nil => have := h.twin.len; simp at this
      | cons y l' =>
        obtain ⟨e1, e2, e3⟩ := h.twin.head
        have hdue : ¬ now < wrap64 (x.1.k.t + dl) := fun h1 => hd (fun y hy => by
          simp only [List.head?_cons, Option.mem_some_iff] at hy
          rw [← hy]; exact h1)
        have hdue' : ¬ now < wrap64 (y.1.k.t + dl) := by rw [e1]; exact hdue
        obtain ⟨v', k1, k2⟩ := rpop_yes (M := M) (last := last) (sm := sm) now h.doc.rows hdue'
        have hdoc : DocH w B v' l' := ⟨k1 w (grows_refl _), fun u hu => h.doc.bod u (List.mem_cons_of_mem _ hu)⟩
        obtain ⟨a', n', c', rfl⟩ := DV_slice hdoc
        have hb1 : BRow w B y.1.body y.2 := h.doc.bod y (List.mem_cons_self ..)
        rw [e2] at hb1
        have hfew : l.length ≤ n := by have := h.few; rw [List.length_cons] at this; omega
        rw [List.length_cons] at hl
        have hky : y.1.k = x.1.k := by rw [e1]
        refine ⟨a', n', c', x.1.k, true, x.1, x.2, y.1.ba, y.1.bl, y.1.bc, true, l, l', fun W' hg => ?_, hdoc, e3, hfew, hb1, h.his.bod x (List.mem_cons_self ..), fun W' hh => ?_⟩
        · have := k2 W' hg
          rw [hky] at this
          rw [← e1]
          exact this
        · refine (hpop_yes now hh hdue).mono ?_
          rintro e w'' ⟨rfl, kv', k3, k4, -⟩
          exact ⟨kv', _, rfl, k3, k4, h.cnt.tail (by omega)⟩
end
end Go.Proofs.Ytdmmceclohkkdaa
namespace Go.Proofs.Ytdmmceclohkkdaa
open Go.RowKit Go.Sort
set_option maxHeartbeats 4000000
set_option maxRecDepth 100000
theorem kind_four (q : Int) : ((q.tmod 4 == 0) = true) ∨ ((q.tmod 4 == 0) = false ∧ (q.tmod 4 == 1) = true) ∨ ((q.tmod 4 == 0) = false ∧ (q.tmod 4 == 1) = false ∧ (q.tmod 4 == 2) = true) ∨ ((q.tmod 4 == 0) = false ∧ (q.tmod 4 == 1) = false ∧ (q.tmod 4 == 2) = false) := by
  cases (q.tmod 4 == 0) <;> cases (q.tmod 4 == 1) <;> cases (q.tmod 4 == 2) <;> simp
theorem take80 (b : List Int) : (b.take 80).take 80 = b.take 80 := by rw [List.take_take, Nat.min_self]
section
attribute [-go_sem] run_eql_struct run_neq_struct
theorem histPlays_walk (most d : Int) {v : Value} {l : List HC} {w : World} (h : HAHas w v l) (hk : ∀ x ∈ l, HOk w x) : Calls Try.prog 13 #[.int .i64 most, .int .i64 d, v] w (RetV w (.bool true)) := by
  have HN := Lib.hid (fun W => hnew_any most d W)
  have HD := Lib.hid (fun W => rhnew_any most d W)
  have HWK := Lib.hid (fun W => histWorks_any W)
  obtain ⟨M, eM⟩ : ∃ M, mostOfP most = M := ⟨_, rfl⟩
  obtain ⟨D, eD⟩ : ∃ D, clampD d = D := ⟨_, rfl⟩
  rw [eM, eD] at HN HD
  obtain ⟨n, en⟩ : ∃ n, l.length = n := ⟨_, rfl⟩
  obtain ⟨a, cap, rfl⟩ := h.len en
  have HH := Lib.hid h
  have EN := Lib.hid en
  have HK := Lib.hid hk
  obtain ⟨B, eB⟩ : ∃ B, w.heap.size = B := ⟨_, rfl⟩
  have EB := Lib.hid eB
  clear h en hk eM eD
  go_enter Try.func13, Try.ntmps13
  go_wp2_with fail
  refine (HN.out _).mono ?_
  rintro e w1 ⟨hb, wb, rfl, hg1, ht1⟩
  rw [eB] at ht1
  have HT1 := Lib.hid ht1
  have HG1 := Lib.hid hg1
  clear ht1 hg1
  go_wp2_with fail
  refine (HD.out _).mono ?_
  rintro e w2 ⟨rfl, hg2⟩
  obtain ⟨w3, e3⟩ : ∃ w3, w2.alloc (.cells (dcs (.slice none 0 0) M D ⟨0, 0, 0⟩ false) TRH) = w3 := ⟨_, rfl⟩
  obtain ⟨q, eq⟩ : ∃ q, w2.heap.size = q := ⟨_, rfl⟩
  have g3 : Grows w2 w3 := by rw [← e3]; exact bl_alloc (Below.refl _ _) _
  have hq3 : w3.heap[q]? = some (.cells (dcs (.slice none 0 0) M D ⟨0, 0, 0⟩ false) TRH (0, 0)) := by rw [← e3, ← eq]; exact heap_alloc_new w2 _
  have hg13 := grows_trans _ _ _ hg2 g3
  have hc : PlayC w B hb wb q := ⟨eB, by rw [← eq]; exact (grows_trans _ _ _ HG1.out hg2).size⟩
  have hs3 : PlayS w w3 B hb wb q M D 0 (.slice none 0 0) (.slice none 0 0) [] [] (fun _ => 0) ⟨0, 0, 0⟩ false :=
    ⟨HT1.out.grows hg13, ⟨.inl ⟨rfl, _, _, rfl, fun _ => rfl, fun x e => by cases e⟩, fun u hu => by cases hu⟩, rfl, fun _ _ => rfl, Nat.le_refl _, hq3, grows_trans _ _ _ HG1.out hg13⟩
  have C := Lib.hid hc
  have S3 := Lib.hid hs3
  simp only [dcs] at e3
  have E3 := Lib.hid (And.intro e3 eq)
  clear g3 hq3 hg13 hc hs3 hg2 e3 eq
  simp only [DV, dcs]
  go_wp2_with fail
  rw [E3.out.1, E3.out.2]
  clear E3
  go_loopw [9] (fun iv wr => Shut33 (∃ (i : Nat) (kv vL : Value) (l1 l2 : List HW) (g : Int × Int → Int) (last : KW) (sm : Bool), iv = .int .i64 (i : Int) ∧ i ≤ n ∧ i ≤ 50 ∧ PlayS w wr B hb wb q M D i kv vL l1 l2 g last sm)) (fun iv _ => 50 - (intOf iv).toNat)
  case atStart => exact ⟨⟨0, _, _, _, _, _, _, _, rfl, Nat.zero_le _, Nat.zero_le _, S3.out⟩⟩
  case round =>
    obtain ⟨i, kv, vL, l1, l2, g, last, sm, rfl, hi, hi50, hs⟩ := hrel.out
    clear hrel
    have S := Lib.hid hs
    clear hs
    by_cases hlt : i < n ∧ i < 50
    · obtain ⟨hin, h50⟩ := hlt
      have hnl : i < l.length := by rw [EN.out]; exact hin
      obtain ⟨gg, o, c', he, hcap, hgl, hat⟩ := HH.out.form EN.out (Nat.lt_of_le_of_lt (Nat.zero_le _) hin)
      simp only [Value.slice.injEq, true_and] at he
      obtain ⟨rfl, rfl⟩ := he
      obtain ⟨⟨kk, ⟨x, b⟩, now⟩, ey⟩ : ∃ y, l[i] = y := ⟨_, rfl⟩
      obtain ⟨hkk, hbx, hba⟩ := HK.out l[i] (List.getElem_mem _)
      have hp := fun W' (hg : Grows w W') => hat_cells (hat.grows hg hgl) i hnl
      rw [ey] at hp hkk hbx hba
      have HP := Lib.hid hp
      have HBX := Lib.hid hbx
      have HBA := Lib.hid hba
      have HGL := Lib.hid (fun (W' : World) (hg : Grows w W') => Nat.lt_of_lt_of_le hgl hg.size)
      have GR := Lib.hid S.out.old
      obtain ⟨p0, p13, p1, p2, p3, p4, p5, p6, p7, p8, p9, p10, p11, p12⟩ := hp wr GR.out
      have z2 := HGL.out wr GR.out
      have hn6 : i ≤ 1000000 := Nat.le_trans hi50 (by decide)
      have HNF := Lib.hid (nat_facts i hn6)
      have HWS := Lib.hid (wrap_succ hn6)
      have H50 := Lib.hid h50
      have HIN := Lib.hid hin
      have HFEW := Lib.hid (show l1.length ≤ 1000 from Nat.le_trans S.out.few (Nat.le_trans hi50 (by decide)))
      have hd1 : decide ((i : Int) < (n : Int)) = true := decide_eq_true (by omega)
      have hd2 : decide ((i : Int) < 50) = true := decide_eq_true (by omega)
      have hq1 : (i < n) = True := eq_true hin
      have hq2 : (i < 50) = True := eq_true h50
      have hq3 : (i : Int) < (n : Int) := Int.ofNat_lt.2 hin
      have hq4 : (i : Int) < 50 := by omega
      have hk4 := kind_four kk
      have HX := Lib.hid (hcut_any x b wr (HBX.out.grows GR.out) HBA.out)
      clear hp hnl hat ey hn6 hi hi50 h50 hcap hgl hin hkk hbx hba
      obtain ⟨j1, j2, j3, j4, j6⟩ := HNF.out
      go_wp2_with fail
      refine (HX.out).mono ?_
      rintro e w5 ⟨pa, pl, pc, rfl, hg5, ho5⟩
      obtain ⟨y, ey⟩ : ∃ y, x.at' pa pl pc = y := ⟨_, rfl⟩
      have ho5 : BRow w5 B y.body (b.take 80) := by rw [← ey]; exact row_base ho5 (Nat.le_trans (S.out.ge C.out) (Nat.le_add_right _ 2))
      have hyl : y.bl ≤ 80 := by rw [← (brow_bhas ho5).1.1, List.length_take]; omega
      rw [ey]
      obtain ⟨w6, e6⟩ : ∃ w6, w5.alloc (.cells y.cells TPK) = w6 := ⟨_, rfl⟩
      obtain ⟨P, eP⟩ : ∃ P, w5.heap.size = P := ⟨_, rfl⟩
      have g6 : Grows w5 w6 := by rw [← e6]; exact bl_alloc (Below.refl _ _) _
      have hP6 : w6.heap[P]? = some (.cells y.cells TPK (0, 0)) := by rw [← e6, ← eP]; exact heap_alloc_new w5 _
      have hs6 := S.out.grows (grows_trans _ _ _ hg5 g6)
      have S6 := Lib.hid (And.intro hs6 (And.intro hP6 (own_grows ho5 g6)))
      have HYL := Lib.hid hyl
      have G6 := Lib.hid hs6.old
      clear S HX ho5 hyl hg5 g6 ey hs6 hP6 p0 p1 p2 p3 p4 p5 p6 p7 p8 p9 p10 p11 p12 p13 z2
      obtain ⟨p0, p13, -⟩ := HP.out w6 G6.out
      have z2 := HGL.out w6 G6.out
      simp only [PW.val, PW.cells, PW.body] at e6 ⊢
      obtain ⟨s0, s1, s2, s3, s4, s5, s6, s7⟩ := hat7_of S6.out.1.box
      obtain ⟨x0, x1, x2, x3, x4, x5, x6, x7, x8, x9, x10, x11, x12⟩ := pat_of S6.out.2.1
      rcases hk4 with k0 | ⟨k0, k1⟩ | ⟨k0, k1, k2⟩ | ⟨k0, k1, k2⟩
      · skip
        go_wp2_with fail
        obtain ⟨r, er⟩ : ∃ r, hputE l1 M D last sm y = r := ⟨_, rfl⟩
        have hrp := rhput_any (M := M) (v := vL) y (b.take 80) S6.out.1.doc S6.out.1.twin S6.out.1.rises HFEW.out S6.out.1.his.d0 S6.out.1.his.d1 (S6.out.1.ge C.out) S6.out.2.2 (sm := sm) (last := last)
        rw [er] at hrp
        have HRP := Lib.hid hrp
        have ER := Lib.hid er
        clear hrp er
        refine (HRP.out).mono ?_
        rintro e w7 ⟨a7, n7, c7, l7, rfl, hg7, hd7, htw7⟩
        obtain ⟨w8, e8⟩ : ∃ w8, w7.alloc (.cells (dcs (.slice a7 n7 c7) M D last sm) TRH) = w8 := ⟨_, rfl⟩
        obtain ⟨Q, eQ⟩ : ∃ Q, w7.heap.size = Q := ⟨_, rfl⟩
        have g8 : Grows w7 w8 := by rw [← e8]; exact bl_alloc (Below.refl _ _) _
        have hQ8 : w8.heap[Q]? = some (.cells (dcs (.slice a7 n7 c7) M D last sm) TRH (0, 0)) := by rw [← e8, ← eQ]; exact heap_alloc_new w7 _
        have hs8 := S6.out.1.grows (grows_trans _ _ _ hg7 g8)
        have hP8 := box_grows S6.out.2.1 (grows_trans _ _ _ hg7 g8)
        have ho8 := own_grows S6.out.2.2 (grows_trans _ _ _ hg7 g8)
        obtain ⟨w9, e9, hh9, hd9, hq9, ho9, hc9⟩ := hs8.set (last2 := last) (sm2 := sm) C.out (hd7.grows g8)
        have hP9 := box_chg hP8 hc9 (fun e => by rw [e, hs8.box] at hP8; injection hP8 with hP8; injection hP8 with _ hP8; exact absurd hP8 (by decide))
        have hb9 : BRow w9 B y.body (b.take 80) := hc9.own ho8 (fun j hj e => by
          obtain ⟨cur, hg⟩ := brow_ty ho8 hj
          rw [e, hs8.box] at hg; injection hg with hg; injection hg with _ hg; exact absurd hg (by decide))
        have X9 := Lib.hid (And.intro hh9 (And.intro hd9 (And.intro hq9 (And.intro ho9 (And.intro hP9 hb9)))))
        have HTW := Lib.hid htw7
        clear s0 s1 s2 s3 s4 s5 s6 s7 x0 x1 x2 x3 x4 x5 x6 x7 x8 x9 x10 x11 x12 p0 p13 z2 e6 eP
        obtain ⟨s0, s1, s2, s3, s4, s5, s6, s7⟩ := hat7_of hs8.box
        obtain ⟨f0, f1, f2, f3, f4, f5, f6⟩ := hfree7_of hs8.box
        obtain ⟨t0, t1, t2, t3, t4, t5, t6, t7⟩ := hat7_of hQ8
        obtain ⟨x0, x1, x2, x3, x4, x5, x6, x7, x8, x9, x10, x11, x12⟩ := pat_of hP9
        simp only [dcs] at e8
        simp only [st7] at e9
        have HX2 := Lib.hid (hcut_any y (b.take 80) w9 (brow_bhas hb9).1 (brow_bhas hb9).2)
        clear hg7 hd7 htw7 g8 hQ8 hs8 hP8 ho8 hh9 hd9 hq9 ho9 hc9 hP9 hb9
        simp only [DV, dcs]
        go_wp2_with fail
        refine (HX2.out).mono ?_
        rintro e w10 ⟨pa2, pl2, pc2, rfl, hg10, ho10⟩
        rw [take80] at ho10
        have hyl2 : pl2 ≤ 1000000 := by have h1 := (brow_bhas ho10).1.1; rw [List.length_take] at h1; omega
        have hhp := hput_any (y.at' pa2 pl2 pc2) (b.take 80) (X9.out.1.grows hg10) (Nat.le_trans (Nat.le_of_eq C.out.b.symm) (grows_trans _ _ _ X9.out.2.2.2.1 hg10).size) (brow_bhas ho10).1 hyl2 S6.out.1.cnt HFEW.out
        have er2 : hputE l1 M D last sm (y.at' pa2 pl2 pc2) = r := ER.out
        rw [er2] at hhp
        have HHP := Lib.hid hhp
        have X10 := Lib.hid hg10
        clear hg10 ho10 hyl2 hhp er2 x0 x1 x2 x3 x4 x5 x6 x7 x8 x9 x10 x11 x12 s0 s1 s2 s3 s4 s5 s6 s7 f0 f1 f2 f3 f4 f5 f6 t0 t1 t2 t3 t4 t5 t6 t7 e8 e9 eQ
        simp only [PW.val, PW.cells, PW.body]
        go_wp2_with fail
        refine (HHP.out).mono ?_
        rintro e w11 ⟨yy, kv2, g2, rfl, h11, hc11, hby, hcn⟩
        have hrr : (r != r) = false := bne_self_eq_false _
        have hlen : (if r = 0 then insH l1 yy else l1).length ≤ i + 1 := by
          have := S6.out.1.few
          split
          · rw [insH_length]; omega
          · omega
        have hs9 := PlayS.after C.out (X9.out.1.grows X10.out) (grows_trans _ _ _ X9.out.2.2.2.1 X10.out) (X9.out.2.1.grows X10.out) (box_grows X9.out.2.2.1 X10.out) h11 hc11 (HTW.out yy hby) hcn hlen
        have S9 := Lib.hid hs9
        have HFEW2 := Lib.hid (Nat.le_trans hlen (Nat.le_trans H50.out (by decide : 50 ≤ 1000)))
        clear h11 hc11 hby hcn hlen hs9

        obtain ⟨s0, s1, s2, s3, s4, s5, s6, s7⟩ := hat7_of S9.out.box
        have HSA := Lib.hid (hsame_any S9.out.his S9.out.doc S9.out.twin HFEW2.out)
        go_wp2_with fail
        refine (HSA.out).mono ?_
        rintro e w13 ⟨rfl, hg13⟩
        have S13 := Lib.hid (S9.out.grows hg13)
        clear hg13 s0 s1 s2 s3 s4 s5 s6 s7
        go_wp2_with fail
        go_roundw
        case rel => exact ⟨⟨i + 1, _, _, _, _, _, _, _, rfl, HIN.out, H50.out, S13.out⟩⟩
        case measure => exact meas_succ H50.out
      · skip
        go_wp2_with fail
        obtain ⟨r, er⟩ : ∃ r, hputE l1 M D last sm y = r := ⟨_, rfl⟩
        have hrp := rhput_any (M := M) (v := vL) y (b.take 80) S6.out.1.doc S6.out.1.twin S6.out.1.rises HFEW.out S6.out.1.his.d0 S6.out.1.his.d1 (S6.out.1.ge C.out) S6.out.2.2 (sm := sm) (last := last)
        rw [er] at hrp
        have HRP := Lib.hid hrp
        have ER := Lib.hid er
        clear hrp er
        refine (HRP.out).mono ?_
        rintro e w7 ⟨a7, n7, c7, l7, rfl, hg7, hd7, htw7⟩
        obtain ⟨w8, e8⟩ : ∃ w8, w7.alloc (.cells (dcs (.slice a7 n7 c7) M D last sm) TRH) = w8 := ⟨_, rfl⟩
        obtain ⟨Q, eQ⟩ : ∃ Q, w7.heap.size = Q := ⟨_, rfl⟩
        have g8 : Grows w7 w8 := by rw [← e8]; exact bl_alloc (Below.refl _ _) _
        have hQ8 : w8.heap[Q]? = some (.cells (dcs (.slice a7 n7 c7) M D last sm) TRH (0, 0)) := by rw [← e8, ← eQ]; exact heap_alloc_new w7 _
        have hs8 := S6.out.1.grows (grows_trans _ _ _ hg7 g8)
        have hP8 := box_grows S6.out.2.1 (grows_trans _ _ _ hg7 g8)
        have ho8 := own_grows S6.out.2.2 (grows_trans _ _ _ hg7 g8)
        obtain ⟨w9, e9, hh9, hd9, hq9, ho9, hc9⟩ := hs8.set (last2 := last) (sm2 := sm) C.out (hd7.grows g8)
        have hP9 := box_chg hP8 hc9 (fun e => by rw [e, hs8.box] at hP8; injection hP8 with hP8; injection hP8 with _ hP8; exact absurd hP8 (by decide))
        have hb9 : BRow w9 B y.body (b.take 80) := hc9.own ho8 (fun j hj e => by
          obtain ⟨cur, hg⟩ := brow_ty ho8 hj
          rw [e, hs8.box] at hg; injection hg with hg; injection hg with _ hg; exact absurd hg (by decide))
        have X9 := Lib.hid (And.intro hh9 (And.intro hd9 (And.intro hq9 (And.intro ho9 (And.intro hP9 hb9)))))
        have HTW := Lib.hid htw7
        clear s0 s1 s2 s3 s4 s5 s6 s7 x0 x1 x2 x3 x4 x5 x6 x7 x8 x9 x10 x11 x12 p0 p13 z2 e6 eP
        obtain ⟨s0, s1, s2, s3, s4, s5, s6, s7⟩ := hat7_of hs8.box
        obtain ⟨f0, f1, f2, f3, f4, f5, f6⟩ := hfree7_of hs8.box
        obtain ⟨t0, t1, t2, t3, t4, t5, t6, t7⟩ := hat7_of hQ8
        obtain ⟨x0, x1, x2, x3, x4, x5, x6, x7, x8, x9, x10, x11, x12⟩ := pat_of hP9
        simp only [dcs] at e8
        simp only [st7] at e9
        have HX2 := Lib.hid (hcut_any y (b.take 80) w9 (brow_bhas hb9).1 (brow_bhas hb9).2)
        clear hg7 hd7 htw7 g8 hQ8 hs8 hP8 ho8 hh9 hd9 hq9 ho9 hc9 hP9 hb9
        simp only [DV, dcs]
        go_wp2_with fail
        refine (HX2.out).mono ?_
        rintro e w10 ⟨pa2, pl2, pc2, rfl, hg10, ho10⟩
        rw [take80] at ho10
        have hyl2 : pl2 ≤ 1000000 := by have h1 := (brow_bhas ho10).1.1; rw [List.length_take] at h1; omega
        have hhp := hput_any (y.at' pa2 pl2 pc2) (b.take 80) (X9.out.1.grows hg10) (Nat.le_trans (Nat.le_of_eq C.out.b.symm) (grows_trans _ _ _ X9.out.2.2.2.1 hg10).size) (brow_bhas ho10).1 hyl2 S6.out.1.cnt HFEW.out
        have er2 : hputE l1 M D last sm (y.at' pa2 pl2 pc2) = r := ER.out
        rw [er2] at hhp
        have HHP := Lib.hid hhp
        have X10 := Lib.hid hg10
        clear hg10 ho10 hyl2 hhp er2 x0 x1 x2 x3 x4 x5 x6 x7 x8 x9 x10 x11 x12 s0 s1 s2 s3 s4 s5 s6 s7 f0 f1 f2 f3 f4 f5 f6 t0 t1 t2 t3 t4 t5 t6 t7 e8 e9 eQ
        simp only [PW.val, PW.cells, PW.body]
        go_wp2_with fail
        refine (HHP.out).mono ?_
        rintro e w11 ⟨yy, kv2, g2, rfl, h11, hc11, hby, hcn⟩
        have hrr : (r != r) = false := bne_self_eq_false _
        have hlen : (if r = 0 then insH l1 yy else l1).length ≤ i + 1 := by
          have := S6.out.1.few
          split
          · rw [insH_length]; omega
          · omega
        have hs9 := PlayS.after C.out (X9.out.1.grows X10.out) (grows_trans _ _ _ X9.out.2.2.2.1 X10.out) (X9.out.2.1.grows X10.out) (box_grows X9.out.2.2.1 X10.out) h11 hc11 (HTW.out yy hby) hcn hlen
        have S9 := Lib.hid hs9
        have HFEW2 := Lib.hid (Nat.le_trans hlen (Nat.le_trans H50.out (by decide : 50 ≤ 1000)))
        clear h11 hc11 hby hcn hlen hs9

        obtain ⟨s0, s1, s2, s3, s4, s5, s6, s7⟩ := hat7_of S9.out.box
        have HSA := Lib.hid (hsame_any S9.out.his S9.out.doc S9.out.twin HFEW2.out)
        go_wp2_with fail
        refine (HSA.out).mono ?_
        rintro e w13 ⟨rfl, hg13⟩
        have S13 := Lib.hid (S9.out.grows hg13)
        clear hg13 s0 s1 s2 s3 s4 s5 s6 s7
        go_wp2_with fail
        go_roundw
        case rel => exact ⟨⟨i + 1, _, _, _, _, _, _, _, rfl, HIN.out, H50.out, S13.out⟩⟩
        case measure => exact meas_succ H50.out
      · skip
        obtain ⟨av, nv, cv, rfl⟩ := DV_slice S6.out.1.doc
        obtain ⟨av2, nv2, cv2, last2, sm2, z, zb, ba, bl, bc, is, l1', l2', hrp, hdoc, htw, hfew, hbz, hbx2, hlp⟩ := S6.out.1.pop now HFEW.out
        have HRP := Lib.hid hrp
        have HLP := Lib.hid hlp
        have HD2 := Lib.hid (And.intro hdoc (And.intro htw (And.intro hfew (And.intro hbz hbx2))))
        clear hrp hdoc htw hfew hbz hbx2 hlp
        go_wp2_with fail
        go_cut [13, 14, 15] (fun v13 v14 v15 wx => Shut33 (∃ p13 p14 : Nat, v13 = .pointer (some ⟨p13, 0, none⟩) ∧ v14 = .pointer (some ⟨p14, 0, none⟩) ∧ v15 = .bool is ∧ wx.heap[p13]? = some (.cells (dcs (.slice av2 nv2 cv2) M D last2 sm2) TRH (0, 0)) ∧ wx.heap[p14]? = some (.cells (z.at' ba bl bc).cells TPK (0, 0)) ∧ Grows w6 wx))
        case first =>
          have KS := Lib.hid (fun W' (hg : Grows w6 W') => show Grows w6 W' ∧ W'.cell? ⟨q, 0, none⟩ = some (.slice av nv cv) ∧ W'.cell? ⟨q, 1, none⟩ = some (.int .i64 (M : Int)) ∧ W'.cell? ⟨q, 2, none⟩ = some (.int .i64 D) ∧ W'.cell? ⟨q, 3, none⟩ = some (.int .i64 last.t) ∧ W'.cell? ⟨q, 4, none⟩ = some (.int .i64 last.f) ∧ W'.cell? ⟨q, 5, none⟩ = some (.int .u32 last.s) ∧ W'.cell? ⟨q, 6, none⟩ = some (.bool sm) ∧ W'.cell? ⟨gg, o + i * 14 + 13, none⟩ = some (.int .i64 now) from by
            obtain ⟨h0, h1, h2, h3, h4, h5, h6, h7⟩ := hat7_of (S6.out.1.grows hg).box
            obtain ⟨-, h13, -⟩ := HP.out W' (grows_trans _ _ _ G6.out hg)
            exact ⟨hg, h0, h1, h2, h3, h4, h5, h6, h13⟩)
          clear s0 s1 s2 s3 s4 s5 s6 s7 x0 x1 x2 x3 x4 x5 x6 x7 x8 x9 x10 x11 x12 p0 p13 z2 e6 eP
          go_region_held3 (fun w' => Grows w6 w' ∧ w'.cell? ⟨q, 0, none⟩ = some (.slice av nv cv) ∧ w'.cell? ⟨q, 1, none⟩ = some (.int .i64 (M : Int)) ∧ w'.cell? ⟨q, 2, none⟩ = some (.int .i64 D) ∧ w'.cell? ⟨q, 3, none⟩ = some (.int .i64 last.t) ∧ w'.cell? ⟨q, 4, none⟩ = some (.int .i64 last.f) ∧ w'.cell? ⟨q, 5, none⟩ = some (.int .u32 last.s) ∧ w'.cell? ⟨q, 6, none⟩ = some (.bool sm) ∧ w'.cell? ⟨gg, o + i * 14 + 13, none⟩ = some (.int .i64 now))
            ((exact KS.out _ (by show Below w6.heap.size w6 _; (repeat (first | with_reducible exact Below.refl _ _ | with_reducible refine bl_alloc ?_ _ | ((with_reducible refine bl_set ?_ ?_ _); rotate_left; (first | exact Nat.le_refl _ | exact Nat.le_succ_of_le (Nat.le_refl _) | (simp only []; omega))) | with_reducible refine bl_drewN ?_ _ | with_reducible refine bl_drew ?_ | with_reducible refine bl_reg ?_ _)))))
            ((go_at_call 51; refine (HRP.out _ (by show Below w6.heap.size w6 _; (repeat (first | with_reducible exact Below.refl _ _ | with_reducible refine bl_alloc ?_ _ | ((with_reducible refine bl_set ?_ ?_ _); rotate_left; (first | exact Nat.le_refl _ | exact Nat.le_succ_of_le (Nat.le_refl _) | (simp only []; omega))) | with_reducible refine bl_drewN ?_ _ | with_reducible refine bl_drew ?_ | with_reducible refine bl_reg ?_ _)))).mono ?_; rintro e w7 ⟨rfl, hg7⟩; obtain ⟨p7, rfl⟩ := regr hg7))
          all_goals (
            go_wp2_with fail
            go_meet
            refine ⟨⟨_, _, rfl, rfl, rfl, ?_, ?_, ?_⟩⟩
            · first
                | exact new_at _ (by simp only [World.size_alloc, reg_size])
                | exact old_at _ (new_at _ (by simp only [World.size_alloc, reg_size]))
                | exact old_at _ (reg_at _ (new_at _ (by simp only [World.size_alloc, reg_size])))
                | exact reg_at _ (new_at _ (by simp only [World.size_alloc, reg_size]))
                | exact reg_at _ (old_at _ (new_at _ (by simp only [World.size_alloc, reg_size])))
            · first
                | exact new_at _ (by simp only [World.size_alloc, reg_size])
                | exact old_at _ (new_at _ (by simp only [World.size_alloc, reg_size]))
                | exact old_at _ (reg_at _ (new_at _ (by simp only [World.size_alloc, reg_size])))
                | exact reg_at _ (new_at _ (by simp only [World.size_alloc, reg_size]))
                | exact reg_at _ (old_at _ (new_at _ (by simp only [World.size_alloc, reg_size])))
            · show Below w6.heap.size w6 _
              (repeat (first | with_reducible exact Below.refl _ _ | with_reducible refine bl_alloc ?_ _ | ((with_reducible refine bl_set ?_ ?_ _); rotate_left; (first | exact Nat.le_refl _ | exact Nat.le_succ_of_le (Nat.le_refl _) | (simp only []; omega))) | with_reducible refine bl_drewN ?_ _ | with_reducible refine bl_drew ?_ | with_reducible refine bl_reg ?_ _)))
        case rest =>
          obtain ⟨b13, b14, rfl, rfl, rfl, h13, h14, hg9⟩ := hcut.out
          clear hcut s0 s1 s2 s3 s4 s5 s6 s7 x0 x1 x2 x3 x4 x5 x6 x7 x8 x9 x10 x11 x12 p0 p13 z2 e6 eP
          have hs8 := S6.out.1.grows hg9
          obtain ⟨w9, e9, hh9, hd9, hq9, ho9, hc9⟩ := hs8.set (last2 := last2) (sm2 := sm2) C.out (HD2.out.1.grows hg9)
          have hne : ∀ j cs, wc.heap[j]? = some (.cells cs TPK (0, 0)) → j ≠ q := fun j cs hj e => by rw [e, hs8.box] at hj; injection hj with hj; injection hj with _ hj; exact absurd hj (by decide)
          have hneb : ∀ (u : Value) (bs : List Int), BRow wc B u bs → ∀ j, u.ownBlock = some j → j ≠ q := fun u bs hu j hj e => by
            obtain ⟨cur, hg⟩ := brow_ty hu hj
            rw [e, hs8.box] at hg; injection hg with hg; injection hg with _ hg; exact absurd hg (by decide)
          have h149 := box_chg h14 hc9 (hne _ _ h14)
          have hb1 := own_grows HD2.out.2.2.2.1 hg9
          have hb2 := own_grows HD2.out.2.2.2.2 hg9
          have hb1 := hc9.own hb1 (hneb _ _ hb1)
          have hb2 := hc9.own hb2 (hneb _ _ hb2)
          have X9 := Lib.hid (And.intro hh9 (And.intro hd9 (And.intro hq9 (And.intro ho9 (And.intro h149 (And.intro hb1 hb2))))))
          have HLP9 := Lib.hid (HLP.out w9 hh9)
          obtain ⟨-, p13c, -⟩ := HP.out w9 ho9
          have z2 := HGL.out w9 ho9
          obtain ⟨s0, s1, s2, s3, s4, s5, s6, s7⟩ := hat7_of hs8.box
          obtain ⟨f0, f1, f2, f3, f4, f5, f6⟩ := hfree7_of hs8.box
          obtain ⟨t0, t1, t2, t3, t4, t5, t6, t7⟩ := hat7_of h13
          simp only [st7] at e9
          clear hs8 hh9 hd9 hq9 ho9 hc9 hne hneb h149 hb1 hb2 h13 h14 hg9
          go_wp2_with fail
          refine (HLP9.out).mono ?_
          rintro e w10 ⟨kv2, g2, rfl, h10, hc10, hcn⟩
          obtain ⟨w11, e11⟩ : ∃ w11, w10.alloc (.cells z.cells TPK) = w11 := ⟨_, rfl⟩
          obtain ⟨T, eT⟩ : ∃ T, w10.heap.size = T := ⟨_, rfl⟩
          have g11 : Grows w10 w11 := by rw [← e11]; exact bl_alloc (Below.refl _ _) _
          have hT11 : w11.heap[T]? = some (.cells z.cells TPK (0, 0)) := by rw [← e11, ← eT]; exact heap_alloc_new w10 _
          have h14' := box_grows (box_chg X9.out.2.2.2.2.1 hc10 (X9.out.1.notS X9.out.2.2.2.2.1 (by decide) (by decide) (by decide))) g11
          have hb1 := own_grows (X9.out.1.bytes X9.out.2.2.2.2.2.1 hc10) g11
          have hb2 := own_grows (X9.out.1.bytes X9.out.2.2.2.2.2.2 hc10) g11
          have hs9 := (PlayS.after C.out X9.out.1 X9.out.2.2.2.1 X9.out.2.1 X9.out.2.2.1 h10 hc10 HD2.out.2.1 hcn (Nat.le_trans HD2.out.2.2.1 (Nat.le_succ i))).grows g11
          have HSM := Lib.hid (rsame_any z ba bl bc zb w11 (brow_bhas hb2).1 (brow_bhas hb1).1)
          have S11 := Lib.hid hs9
          have hii : (is != is) = false := bne_self_eq_false _
          clear s0 s1 s2 s3 s4 s5 s6 s7 f0 f1 f2 f3 f4 f5 f6 t0 t1 t2 t3 t4 t5 t6 t7 p13c z2 e9 h10 hc10 hcn hb1 hb2 hs9 g11
          obtain ⟨x0, x1, x2, x3, x4, x5, x6, x7, x8, x9, x10, x11, x12⟩ := pat_of hT11
          obtain ⟨y0, y1, y2, y3, y4, y5, y6, y7, y8, y9, y10, y11, y12⟩ := pat_of h14'
          simp only [PW.cells, PW.body] at e11
          clear hT11 h14'
          simp only [PW.val, PW.cells, PW.body]
          go_wp2_with fail
          refine (HSM.out).mono ?_
          rintro e w12 ⟨rfl, hg12⟩
          have S9 := Lib.hid (S11.out.grows hg12)
          have HFEW2 := Lib.hid (show l1'.length ≤ 1000 from Nat.le_trans S11.out.few (Nat.le_trans H50.out (by decide : 50 ≤ 1000)))
          clear hg12 x0 x1 x2 x3 x4 x5 x6 x7 x8 x9 x10 x11 x12 y0 y1 y2 y3 y4 y5 y6 y7 y8 y9 y10 y11 y12 e11 eT
          obtain ⟨s0, s1, s2, s3, s4, s5, s6, s7⟩ := hat7_of S9.out.box
          have HSA := Lib.hid (hsame_any S9.out.his S9.out.doc S9.out.twin HFEW2.out)
          go_wp2_with fail
          refine (HSA.out).mono ?_
          rintro e w13 ⟨rfl, hg13⟩
          have S13 := Lib.hid (S9.out.grows hg13)
          clear hg13 s0 s1 s2 s3 s4 s5 s6 s7
          go_wp2_with fail
          go_roundw
          case rel => exact ⟨⟨i + 1, _, _, _, _, _, _, _, rfl, HIN.out, H50.out, S13.out⟩⟩
          case measure => exact meas_succ H50.out
      · skip
        obtain ⟨m, em⟩ : ∃ m, cntP (l2.map (·.1)) y.k.f y.kd = m := ⟨_, rfl⟩
        have HMI := Lib.hid (fun W' (hg : Grows w6 W') => by
          have h1 := hmine_any y.k.f y.kd (S6.out.1.grows hg).his
          rw [S6.out.1.cnt, S6.out.1.twin.cnt, em] at h1
          exact h1)
        have HRM := Lib.hid (fun W' (hg : Grows w6 W') => by
          have h1 := rmine_any (M := M) (dl := D) (last := last) (sm := sm) y.k.f y.kd (S6.out.1.grows hg).doc.rows (by rw [List.length_map, ← S6.out.1.twin.len]; exact Nat.le_trans HFEW.out (by decide))
          rw [em] at h1
          exact h1)
        have hmm : ((m : Int) != (m : Int)) = false := bne_self_eq_false _
        clear em
        go_wp2_with fail
        refine wp_region_reg (by kernel_rfl) (by kernel_rfl) ?_
        repeat (first | go_big_quiet_step ((first | (go_at_call 53; exact class_reg (HMI.out _ (below_reg _ _))) | (go_at_call 54; exact class_reg (HRM.out _ (below_reg _ _))))) | quiet_step ((first | (go_at_call 53; exact class_reg (HMI.out _ (below_reg _ _))) | (go_at_call 54; exact class_reg (HRM.out _ (below_reg _ _))))))
        refine wpQuiet_nil ?_
        intro _ hcw1
        obtain ⟨pq, hcw2⟩ := hcw1
        subst hcw2
        have S9 := Lib.hid ((S6.out.1.grows (below_reg w6 pq)).more (Nat.le_succ i))
        have HFEW2 := HFEW
        clear s0 s1 s2 s3 s4 s5 s6 s7 x0 x1 x2 x3 x4 x5 x6 x7 x8 x9 x10 x11 x12 p0 p13 z2 e6 eP

        obtain ⟨s0, s1, s2, s3, s4, s5, s6, s7⟩ := hat7_of S9.out.box
        have HSA := Lib.hid (hsame_any S9.out.his S9.out.doc S9.out.twin HFEW2.out)
        go_wp2_with fail
        refine (HSA.out).mono ?_
        rintro e w13 ⟨rfl, hg13⟩
        have S13 := Lib.hid (S9.out.grows hg13)
        clear hg13 s0 s1 s2 s3 s4 s5 s6 s7
        go_wp2_with fail
        go_roundw
        case rel => exact ⟨⟨i + 1, _, _, _, _, _, _, _, rfl, HIN.out, H50.out, S13.out⟩⟩
        case measure => exact meas_succ H50.out
    · have hex : (decide ((i : Int) < (n : Int)) = false ∧ (i < n) = False) ∨ (decide ((i : Int) < (n : Int)) = true ∧ (i < n) = True ∧ decide ((i : Int) < 50) = false ∧ (i < 50) = False) := by
        by_cases h1 : i < n
        · exact .inr ⟨decide_eq_true (by omega), eq_true h1, decide_eq_false (by omega), eq_false (by omega)⟩
        · exact .inl ⟨decide_eq_false (by omega), eq_false h1⟩
      have GR := Lib.hid S.out.old
      clear hlt hi hi50
      rcases hex with ⟨hd1, hq1⟩ | ⟨hd1, hq1, hd2, hq2⟩
      all_goals
        go_wp2_with fail
        refine (HWK.out _).mono ?_
        rintro e w3 ⟨rfl, hg3⟩
        have HG3 := Lib.hid (grows_trans _ _ _ GR.out hg3)
        clear hg3
        go_wp2_with fail
        go_ret
        exact ⟨rfl, HG3.out⟩
end
end Go.Proofs.Ytdmmceclohkkdaa
