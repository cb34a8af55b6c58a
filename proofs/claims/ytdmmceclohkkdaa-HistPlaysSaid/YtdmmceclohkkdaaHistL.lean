/- HistRises: Cut, the history beside a box, the calls opened, the walk (four texts joined: a claim holds at most 60 files). -/
import Derived.Test.YtdmmceclohkkdaaHistI
import Derived.Test.YtdmmceclohkkdaaActO
import Derived.Test.YtdmmceclohkkdaaBytO
import Derived.Test.YtdmmceclohkkdaaPkt
section
namespace Go.Proofs.Ytdmmceclohkkdaa
open Go.RowKit Go.Sort
set_option maxHeartbeats 4000000
set_option maxRecDepth 100000
theorem cut_min (bl : Nat) : (if (80 : Int) < (bl : Int) then (80 : Int) else (bl : Int)) = ((min bl 80 : Nat) : Int) := by split <;> omega
theorem bhas_take {w : World} {ba : Option Addr} {bl bc m : Nat} {b : List Int} (hm : m ≤ bl) (hb : BHas w ba bl bc b) : BHas w ba m bc (b.take m) := by
  obtain ⟨h1, h2⟩ := hb
  refine ⟨by rw [List.length_take, h1]; omega, ?_⟩
  rcases h2 with h2 | ⟨g, o, q1, q2, q3, q4⟩
  · exact .inl (by omega)
  · refine .inr ⟨g, o, q1, by omega, q3, fun i hi => ?_⟩
    rw [List.getElem_take]
    exact q4 i (by rw [List.length_take] at hi; omega)
theorem bhas_cap {w : World} {ba : Option Addr} {bl bc m : Nat} {b : List Int} (hm : m ≤ bl) (hb : BHas w ba bl bc b) : (m : Int) ≤ (bc : Int) := by
  rcases hb.2 with h | ⟨g, o, h1, h2, _⟩ <;> omega
theorem hcut_any (x : PW) (b : List Int) (w : World) (hb : BHas w x.ba x.bl x.bc b) (ha : x.ba = none → x.bc = 0) :
    Calls Try.prog 44 #[x.val] w (fun e w' => ∃ pa pl pc, e = .returned (x.at' pa pl pc).val ∧ Grows w w' ∧ BRow w' (w.heap.size + 2) (.slice pa pl pc) (b.take 80)) := by
  obtain ⟨m, em⟩ : ∃ m, min x.bl 80 = m := ⟨_, rfl⟩
  have hm : m ≤ x.bl := by omega
  have hm80 : m ≤ 80 := by omega
  have hk1 := cut_min x.bl
  rw [em] at hk1
  have hk2 : ((m : Int) ≤ (x.bc : Int)) = True := eq_true (bhas_cap hm hb)
  have htk : b.take 80 = b.take m := by
    have h1 := hb.1
    rw [← em]
    by_cases h : x.bl ≤ 80
    · rw [Nat.min_eq_left h, ← h1, List.take_length, List.take_of_length_le (by omega)]
    · rw [Nat.min_eq_right (by omega)]
  have hbm := bhas_take hm hb
  rw [← htk] at hbm
  have hml : (b.take 80).length ≤ 80 := by rw [List.length_take]; omega
  obtain ⟨p, ep⟩ : ∃ p, w.heap.size = p := ⟨_, rfl⟩
  obtain ⟨W1, eW1⟩ : ∃ W1, (w.alloc (.cells x.cells TPK)).alloc (.cells pz.cells TPK) = W1 := ⟨_, rfl⟩
  have g1 : Grows w W1 := by rw [← eW1]; exact bl_alloc (bl_alloc (Below.refl _ _) _) _
  have s1 : W1.heap.size = p + 2 := by rw [← eW1, World.size_alloc, World.size_alloc, ep]
  have hx1 : W1.heap[p]? = some (.cells x.cells TPK (0, 0)) := by
    have := box_grows (heap_alloc_new w (.cells x.cells TPK)) (bl_alloc (Below.refl _ _) _ : Grows _ ((w.alloc (.cells x.cells TPK)).alloc (.cells pz.cells TPK)))
    rwa [ep, eW1] at this
  have hr1 : W1.heap[p + 1]? = some (.cells pz.cells TPK (0, 0)) := by
    have := heap_alloc_new (w.alloc (.cells x.cells TPK)) (.cells pz.cells TPK)
    rwa [World.size_alloc, ep, eW1] at this
  obtain ⟨W2, eW2⟩ : ∃ W2, W1.alloc (.cells #[] 5) = W2 := ⟨_, rfl⟩
  have g2 : Grows W1 W2 := by rw [← eW2]; exact bl_alloc (Below.refl _ _) _
  have ho2 : BRow W2 (p + 2) (.slice (some ⟨p + 2, 0, none⟩) 0 0) [] := by
    have : BRow (W1.alloc (.cells #[] 5)) W1.heap.size (.slice (some ⟨W1.heap.size, 0, none⟩) 0 0) [] := World.ownsRow_lit _ #[] 0 (Nat.le_refl _) (by decide) rfl
    rw [eW2, s1] at this
    exact this
  have hbm2 : BHas W2 x.ba m x.bc (b.take 80) := hbm.grows (grows_trans _ _ _ g1 g2)
  obtain ⟨v3, W3, r3, o3, b3⟩ := bapp_run ho2 hbm2 ha (by simp only [List.length_nil]; omega) (by have := g2.size; omega)
  rw [List.nil_append] at o3
  have g3 : Grows W1 W3 := grows_of_grownBy g2 b3 (fun j hj => by rw [s1]; exact (ho2.lt j hj).1)
  obtain ⟨pa, pl, pc, rfl, -⟩ := brow_form o3
  have hx2 := box_grows hx1 g2
  have hx3 := box_grows hx1 g3
  have hr3 := box_grows hr1 g3
  have f11 := (cell_in hx3 11 rfl).2
  have d11 : W3.cell? ⟨p, 11, none⟩ = some (.slice x.ba x.bl x.bc) := (cell_in hx3 11 rfl).1
  have z11 := box_lt hx3
  have c11 : W2.cell? ⟨p, 11, none⟩ = some (.slice x.ba x.bl x.bc) := (cell_in hx2 11 rfl).1
  have zc := box_lt hx2
  obtain ⟨W4, e4⟩ : ∃ W4, W3.setCell ⟨p, 11, none⟩ (.slice pa pl pc) = W4 := ⟨_, rfl⟩
  have hc4 : Chg (fun j => j = p) W3 W4 := by rw [← e4]; exact Chg.setCell (Chg.refl _ _) _ (.inr rfl)
  have hx4 : W4.heap[p]? = some (.cells (x.at' pa pl pc).cells TPK (0, 0)) := by rw [← e4]; exact box_setj (j := 11) hx3
  have hr4 := box_chg hr3 hc4 (by omega)
  have o4 : BRow W4 (p + 2) (.slice pa pl pc) (b.take 80) := hc4.own o3 fun j hj hs => by have := (o3.lt j hj).1; omega
  obtain ⟨W5, e5⟩ : ∃ W5, st12 W4 (p + 1) (x.at' pa pl pc) = W5 := ⟨_, rfl⟩
  have hr5 : W5.heap[p + 1]? = some (.cells (x.at' pa pl pc).cells TPK (0, 0)) := by rw [← e5]; exact st12_box hr4
  have hc5 : Chg (fun j => j = p + 1) W4 W5 := by rw [← e5]; exact st12_chg _ _ _
  have o5 : BRow W5 (p + 2) (.slice pa pl pc) (b.take 80) := hc5.own o4 fun j hj hs => by have := (o4.lt j hj).1; omega
  have g5 : Grows w W5 := grows_of_chg (grows_of_chg (grows_trans _ _ _ g1 g3) hc4 (fun j hj => by rw [hj, ep]; exact Nat.le_refl _)) hc5 (fun j hj => by rw [hj, ep]; exact Nat.le_succ _)
  have H5 := Lib.hid (And.intro hr5 (And.intro o5 g5))
  obtain ⟨x0, x1, x2, x3, x4, x5, x6, x7, x8, x9, x10, x11, x12⟩ := pat_of hx4
  have x11 : W4.cell? ⟨p, 11, none⟩ = some (.slice pa pl pc) := x11
  obtain ⟨y0, y1, y2, y3, y4, y5, y6, y7, y8, y9, y10, y11⟩ := pfree_of hr4
  obtain ⟨n0, n1, n2, n3, n4, n5, n6, n7, n8, n9, n10, n11, n12⟩ := pat_of hr4
  have EP := Lib.hid ep
  simp only [st12, PW.body, PW.at'] at e5
  simp only [PW.cells, PW.body] at eW1
  clear hb ha hm hm80 em htk hbm hml g1 hx1 hr1 g2 ho2 hbm2 o3 b3 g3 hx2 hx3 hr3 hc4 hx4 hr4 o4 hr5 hc5 o5 g5
  simp only [PW.val, PW.cells, PW.body]
  go_enter Try.func44, Try.ntmps44
  go_wp2_with (at_builtin; refine wpList_append_run _ rfl _ _ 74 74 rfl _ _ rfl rfl (r3 _) ?_)
  obtain ⟨hr5, o5, g5⟩ := H5.out
  obtain ⟨i0, i1, i2, i3, i4, i5, i6, i7, i8, i9, i10, i11, i12⟩ := pat_of hr5
  exact bodyPost_ret (v := (x.at' pa pl pc).val) (by simp [results, Try.results44, go_sem, i0, i1, i2, i3, i4, i5, i6, i7, i8, i9, i10, i11, i12]) rfl ⟨pa, pl, pc, rfl, g5, o5⟩
end Go.Proofs.Ytdmmceclohkkdaa
end
section
namespace Go.Proofs.Ytdmmceclohkkdaa
open Go.RowKit Go.Sort
set_option maxHeartbeats 4000000
set_option maxRecDepth 100000
theorem check_less {kd : Int} {k : KW} {dl : Int} {last : KW} {sm : Bool} (h : checkE kd k dl last sm = 0) (hs : sm = true) : lessK last k = true := by
  unfold checkE at h
  split at h
  · cases h
  · split at h
    · cases h
    · split at h
      · cases h
      · rename_i h3
        cases e : lessK last k
        · exact absurd ⟨hs, e⟩ h3
        · rfl
/-- The history, beside the box at q. -/
structure RisH (W w : World) (B hb wb q : Nat) (dl : Int) (last : KW) (sm : Bool) : Prop where
  out : ∃ kv l g, HistAt w B hb (B + 1) kv B wb 100 dl last sm l g ∧ (∀ x ∈ l, sm = true → lessK last x.1.k = true) ∧ kv.ownBlock ≠ some q ∧ Grows W w
structure RisC (W : World) (B hb wb q : Nat) : Prop where
  b : W.heap.size ≤ B
  t : B + 1 < q
  h : hb < q
  m : wb < q
theorem RisH.grows {W w w' : World} {B hb wb q : Nat} {dl : Int} {last : KW} {sm : Bool} (h : RisH W w B hb wb q dl last sm) (hg : Grows w w') : RisH W w' B hb wb q dl last sm := by
  obtain ⟨kv, l, g, h1, h2, h3, h4⟩ := h.out
  exact ⟨kv, l, g, h1.grows hg, h2, h3, grows_trans _ _ _ h4 hg⟩
theorem RisC.not {W w : World} {B hb wb q : Nat} {kv : Value} (c : RisC W B hb wb q) (h3 : kv.ownBlock ≠ some q) : ¬ HistS hb (B + 1) kv B wb q := by
  rintro (hs | hs | hs | hs | hs)
  · have := c.h; omega
  · have := c.m; omega
  · have := c.t; omega
  · have := c.t; omega
  · exact h3 hs
theorem RisH.store {W w w' : World} {B hb wb q : Nat} {dl : Int} {last : KW} {sm : Bool} {cs : Array Value} {z : Nat × Nat} (c : RisC W B hb wb q) (h : RisH W w B hb wb q dl last sm) (hq : w.heap[q]? = some (.cells cs 29 z)) (hc : Chg (fun j => j = q) w w') : RisH W w' B hb wb q dl last sm := by
  obtain ⟨kv, l, g, h1, h2, h3, h4⟩ := h.out
  have c1 := c.h
  have c2 := c.m
  have c3 := c.t
  have c4 := c.b
  refine ⟨kv, l, g, ⟨box_chg h1.ob hc (by omega), h1.tab.chg hc (by omega) (by omega) (fun j hj hs => h3 (by rw [hj, hs])), h1.mine.chg hc (by omega), fun u hu => hc.own (h1.bod u hu) (fun j hj hs => ?_), h1.bh, h1.bw, h1.wm, h1.d0, h1.d1⟩, h2, h3, grows_of_chg h4 hc (fun j hj => by omega)⟩
  rcases (h1.bod u hu).2 with ⟨e, _⟩ | ⟨g', cap, cur, e, _, hg, _⟩
  · rw [e] at hj; cases hj
  · rw [e] at hj
    simp only [Value.ownBlock, Option.some.injEq] at hj
    rw [hj, hs, hq] at hg
    injection hg with hg
    injection hg with _ hg
    exact absurd hg (by decide)
section
variable {W w : World} {B hb wb q : Nat} {dl : Int} {last : KW} {sm : Bool}
theorem hput_ris (x : PW) (b : List Int) (c : RisC W B hb wb q) (h : RisH W w B hb wb q dl last sm) (hq : w.heap[q]? = some (KC last)) (hx : BHas w x.ba x.bl x.bc b) (hxl : x.bl ≤ 1000000) :
    Calls Try.prog 43 #[.pointer (some ⟨hb, 0, none⟩), x.val] w (fun e w' => ∃ r : Value, e = .returned r ∧ RisH W w' B hb wb q dl last sm ∧ w'.heap[q]? = some (KC last)) := by
  obtain ⟨kv, l, g, h1, h2, h3, h4⟩ := h.out
  by_cases hE : checkE x.kd x.k dl last sm = 0
  · have hB : B ≤ w.heap.size := by
      have := box_lt hq
      have := c.t
      omega
    refine (hput_go x b h1 hB hx hxl hE).mono ?_
    rintro e w' ⟨ba, bl, bc, ht⟩
    have hg' := HistTo.behind h1 c.b h4 ht
    obtain ⟨rfl, kv', k1, k2, k3⟩ := ht
    have hq' := box_chg hq k2 (c.not (w := w) h3)
    refine ⟨_, rfl, ⟨kv', _, _, k1, fun y hy hs => ?_, fun e => ?_, hg'⟩, hq'⟩
    · split at hy
      · rcases insH_mem hy with rfl | hy
        · exact check_less hE hs
        · exact h2 y hy hs
      · exact h2 y hy hs
    · rcases k3 q e with k | k
      · exact h3 k
      · have := box_lt hq; omega
  · refine (hput_bad x h1 hE).mono ?_
    rintro e w' ⟨rfl, hg⟩
    exact ⟨_, rfl, h.grows hg, box_grows hq hg⟩
theorem hpop_ris (now : Int) (c : RisC W B hb wb q) (h : RisH W w B hb wb q dl last sm) (hq : w.heap[q]? = some (KC last)) :
    Calls Try.prog 45 #[.pointer (some ⟨hb, 0, none⟩), .int .i64 now] w (fun e w' => (e = .returned (.tuple #[PZ, .bool false]) ∧ RisH W w' B hb wb q dl last sm ∧ w'.heap[q]? = some (KC last)) ∨
      ∃ x : PW, e = .returned (.tuple #[x.val, .bool true]) ∧ (sm = true → lessK last x.k = true) ∧ ¬ now < wrap64 (x.k.t + dl) ∧ RisH W w' B hb wb q dl x.k true ∧ w'.heap[q]? = some (KC last)) := by
  obtain ⟨kv, l, g, h1, h2, h3, h4⟩ := h.out
  by_cases hd : ∀ x ∈ l.head?, now < wrap64 (x.1.k.t + dl)
  · refine (hpop_no now h1 hd).mono ?_
    rintro e w' ⟨rfl, hg⟩
    exact .inl ⟨rfl, h.grows hg, box_grows hq hg⟩
  · cases l with
    | nil => exact absurd (fun x hx => by simp at hx) hd
    | cons x l =>
      have hdue : ¬ now < wrap64 (x.1.k.t + dl) := fun h => hd (fun y hy => by
        simp only [List.head?_cons, Option.mem_some_iff] at hy
        rw [← hy]; exact h)
      refine (hpop_yes now h1 hdue).mono ?_
      intro e w' ht
      have hg' := HistTo.behind h1 c.b h4 ht
      obtain ⟨rfl, kv', k1, k2, k3⟩ := ht
      have hq' := box_chg hq k2 (c.not (w := w) h3)
      have hr := h1.tab.rises
      refine .inr ⟨x.1, rfl, fun hs => h2 x (List.mem_cons_self ..) hs, hdue, ⟨kv', _, _, k1, fun y hy _ => ?_, fun e => ?_, hg'⟩, hq'⟩
      · rw [List.map_cons, List.map_cons] at hr
        exact (List.pairwise_cons.1 hr).1 _ (List.mem_map_of_mem (List.mem_map_of_mem hy))
      · rcases k3 q e with k | k
        · exact h3 k
        · have := box_lt hq; omega
end
end Go.Proofs.Ytdmmceclohkkdaa
end
section
namespace Go.Proofs.Ytdmmceclohkkdaa
open Go.ChangeShapes Go.WideShapes Go.ChangeAt Go.RowKit Go.Joins Go.Deep
set_option maxRecDepth 100000
theorem list14 {α : Type} {l : List α} (h : l.length = 14) : ∃ c0 c1 c2 c3 c4 c5 c6 c7 c8 c9 c10 c11 c12 c13, l = [c0, c1, c2, c3, c4, c5, c6, c7, c8, c9, c10, c11, c12, c13] := by
  match l, h with
  | [c0, c1, c2, c3, c4, c5, c6, c7, c8, c9, c10, c11, c12, c13], _ => exact ⟨_, _, _, _, _, _, _, _, _, _, _, _, _, _, rfl⟩
/-- A call: what says which, the packet with its bytes, the time. -/
abbrev HC := Int × (PW × List Int) × Int
abbrev hcv (a : HC) : List Value := [.int .u8 a.1, .int .i64 a.2.1.1.kd, .int .i64 a.2.1.1.k.t, .int .i64 a.2.1.1.k.f, .int .u32 a.2.1.1.k.s, .int .i64 a.2.1.1.hp, .int .i64 a.2.1.1.no, .int .i64 a.2.1.1.dt, .int .i64 a.2.1.1.ix, .int .i64 a.2.1.1.tt, .int .i64 a.2.1.1.st, .int .i64 a.2.1.1.vl, a.2.1.1.body, .int .i64 a.2.2]
/-- The slice v holds the calls l. -/
abbrev HAHas (w : World) (v : Value) (l : List HC) : Prop := GHas hcv 14 w v l
def HOk (w : World) (a : HC) : Prop := (0 ≤ a.1 ∧ a.1 ≤ 255) ∧ BHas w a.2.1.1.ba a.2.1.1.bl a.2.1.1.bc a.2.1.2 ∧ (a.2.1.1.ba = none → a.2.1.1.bc = 0)
section
variable {H : Type} {enc : TypeId × Value → H} {w : World} {base b0 : Nat} {spare : Nat → Bool} {held : Bool} {r : Reach} {v : Value} {d : DataW H} {p : List MemPlace}
theorem open_packet_cells {m : Nat} {cs : List Value} {y : DataW H × List MemPlace} (h : DataW.trod enc Try.prog w base spare held m 76 cs = some y) : ∃ (x : PW) (b : List Int), cs = [.int .i64 x.kd, .int .i64 x.k.t, .int .i64 x.k.f, .int .u32 x.k.s, .int .i64 x.hp, .int .i64 x.no, .int .i64 x.dt, .int .i64 x.ix, .int .i64 x.tt, .int .i64 x.st, .int .i64 x.vl, x.body] ∧ BHas w x.ba x.bl x.bc b ∧ (x.ba = none → x.bc = 0) := by
  have hs := Try.underlying76
  have hl : cs.length = 12 := (field_len hs h).trans (by kernel_rfl)
  obtain ⟨m1, y1, hy⟩ := field_at hs h 1 1 (tt := 29) rfl
  have hc3 : Try.prog.cellsOf 29 = 3 := by kernel_rfl
  simp only [hc3] at hy
  obtain ⟨a0, g0, _⟩ := field_int hs h 0 0 rfl Try.underlying3 (by kernel_rfl)
  obtain ⟨a2, g2, _⟩ := field_int hs h 2 4 rfl Try.underlying3 (by kernel_rfl)
  obtain ⟨a3, g3, _⟩ := field_int hs h 3 5 rfl Try.underlying2 (by kernel_rfl)
  obtain ⟨a4, g4, _⟩ := field_int hs h 4 6 rfl Try.underlying3 (by kernel_rfl)
  obtain ⟨a5, g5, _⟩ := field_int hs h 5 7 rfl Try.underlying3 (by kernel_rfl)
  obtain ⟨a6, g6, _⟩ := field_int hs h 6 8 rfl Try.underlying3 (by kernel_rfl)
  obtain ⟨a7, g7, _⟩ := field_int hs h 7 9 rfl Try.underlying2 (by kernel_rfl)
  obtain ⟨a8, g8, _⟩ := field_int hs h 8 10 rfl Try.underlying2 (by kernel_rfl)
  obtain ⟨m2, y2, hb⟩ := field_at hs h 9 11 (tt := 74) rfl
  have hc1 : Try.prog.cellsOf 74 = 1 := by kernel_rfl
  simp only [hc1] at hb
  obtain ⟨x, hx⟩ := open_key_cells hy
  obtain ⟨c0, c1, c2, c3, c4, c5, c6, c7, c8, c9, c10, c11, rfl⟩ := list12 hl
  simp only [List.drop_succ_cons, List.drop_zero, List.take_succ_cons, List.take_zero, List.getElem?_cons_zero, List.getElem?_cons_succ, Option.some.injEq, List.cons.injEq, and_true] at g0 g2 g3 g4 g5 g6 g7 g8 hx hb
  obtain ⟨ba, bl, bc, b, rfl, hbh, hba⟩ := open_bytes_cells hb
  obtain ⟨rfl, rfl, rfl⟩ := hx
  subst g0 g2 g3 g4 g5 g6 g7 g8
  exact ⟨⟨a0, x, a2, a3, a4, a5, a6, a7, a8, ba, bl, bc⟩, b, rfl, hbh, hba⟩
theorem open_hacts (hv : Value.okWide Try.prog w r b0 71 v) (h : DataW.Trod enc Try.prog w base spare held 71 v d p) : ∃ l, HAHas w v l ∧ ∀ x ∈ l, HOk w x := by
  refine open_rows (k := 13) Try.underlying71 (by kernel_rfl) (fun _ => rfl) (fun {m cs y} ht => ?_) hv h
  have hs := Try.underlying78
  have hl : cs.length = 14 := (field_len hs ht).trans (by kernel_rfl)
  obtain ⟨m1, y1, hy⟩ := field_at hs ht 1 1 (tt := 76) rfl
  have hc3 : Try.prog.cellsOf 76 = 12 := by kernel_rfl
  simp only [hc3] at hy
  obtain ⟨q, g0, hw⟩ := field_int hs ht 0 0 rfl Try.underlying5 (by kernel_rfl)
  obtain ⟨z, g4, _⟩ := field_int hs ht 2 13 rfl Try.underlying2 (by kernel_rfl)
  obtain ⟨x, b, hx, hbh, hba⟩ := open_packet_cells hy
  obtain ⟨c0, c1, c2, c3, c4, c5, c6, c7, c8, c9, c10, c11, c12, c13, rfl⟩ := list14 hl
  simp only [List.drop_succ_cons, List.drop_zero, List.take_succ_cons, List.take_zero, List.getElem?_cons_zero, List.getElem?_cons_succ, Option.some.injEq, List.cons.injEq, and_true] at g0 g4 hx
  obtain ⟨rfl, rfl, rfl, rfl, rfl, rfl, rfl, rfl, rfl, rfl, rfl, rfl⟩ := hx
  subst g0 g4
  exact ⟨(q, (x, b), z), rfl, ⟨(wf_u8 hw).1, (wf_u8 hw).2⟩, hbh, hba⟩
end
theorem hat_cells {w : World} {g o : Nat} {l : List HC} (h : RAt hcv 14 w g o l) (i : Nat) (hi : i < l.length) : w.cell? ⟨g, o + i * 14, none⟩ = some (.int .u8 l[i].1) ∧ w.cell? ⟨g, o + i * 14 + 13, none⟩ = some (.int .i64 l[i].2.2) ∧
    w.cell? ⟨g, o + i * 14 + 1, none⟩ = some (.int .i64 l[i].2.1.1.kd) ∧ w.cell? ⟨g, o + i * 14 + 2, none⟩ = some (.int .i64 l[i].2.1.1.k.t) ∧ w.cell? ⟨g, o + i * 14 + 3, none⟩ = some (.int .i64 l[i].2.1.1.k.f) ∧ w.cell? ⟨g, o + i * 14 + 4, none⟩ = some (.int .u32 l[i].2.1.1.k.s) ∧
    w.cell? ⟨g, o + i * 14 + 5, none⟩ = some (.int .i64 l[i].2.1.1.hp) ∧ w.cell? ⟨g, o + i * 14 + 6, none⟩ = some (.int .i64 l[i].2.1.1.no) ∧ w.cell? ⟨g, o + i * 14 + 7, none⟩ = some (.int .i64 l[i].2.1.1.dt) ∧ w.cell? ⟨g, o + i * 14 + 8, none⟩ = some (.int .i64 l[i].2.1.1.ix) ∧
    w.cell? ⟨g, o + i * 14 + 9, none⟩ = some (.int .i64 l[i].2.1.1.tt) ∧ w.cell? ⟨g, o + i * 14 + 10, none⟩ = some (.int .i64 l[i].2.1.1.st) ∧ w.cell? ⟨g, o + i * 14 + 11, none⟩ = some (.int .i64 l[i].2.1.1.vl) ∧ w.cell? ⟨g, o + i * 14 + 12, none⟩ = some (.slice l[i].2.1.1.ba l[i].2.1.1.bl l[i].2.1.1.bc) :=
  ⟨h i hi 0 (by omega), h i hi 13 (by omega), h i hi 1 (by omega), h i hi 2 (by omega), h i hi 3 (by omega), h i hi 4 (by omega), h i hi 5 (by omega), h i hi 6 (by omega), h i hi 7 (by omega), h i hi 8 (by omega), h i hi 9 (by omega), h i hi 10 (by omega), h i hi 11 (by omega), h i hi 12 (by omega)⟩
end Go.Proofs.Ytdmmceclohkkdaa
end
section
namespace Go.Proofs.Ytdmmceclohkkdaa
open Go.RowKit Go.Sort
set_option maxHeartbeats 4000000
set_option maxRecDepth 100000
structure Shut33 (p : Prop) : Prop where
  out : p
theorem u16_facts {d : Int} (h : 0 ≤ d ∧ d ≤ 65535) : wrap64 d = d ∧ clampD d = d := ⟨by unfold wrap64; omega, by unfold clampD; rw [if_neg (by omega), if_neg (by omega)]⟩
theorem kind_two (q : Int) : ((q.tmod 4 != 2) = false) ∨ ((q.tmod 4 != 2) = true) := by
  cases (q.tmod 4 != 2)
  · exact .inl rfl
  · exact .inr rfl
theorem RisH.old {W w : World} {B hb wb q : Nat} {dl : Int} {last : KW} {sm : Bool} (h : RisH W w B hb wb q dl last sm) : Grows W w := by obtain ⟨_, _, _, _, _, _, h4⟩ := h.out; exact h4
section
attribute [-go_sem] run_eql_struct run_neq_struct
theorem histRises_walk (d : Int) (hd : 0 ≤ d ∧ d ≤ 65535) {v : Value} {l : List HC} {w : World} (h : HAHas w v l) (hk : ∀ x ∈ l, HOk w x) : Calls Try.prog 11 #[.int .u16 d, v] w (RetV w (.bool true)) := by
  obtain ⟨u1, u2⟩ := u16_facts hd
  have HN := Lib.hid (fun W => hnew_any 100 d W)
  have HW := Lib.hid (fun W => histWorks_any W)
  obtain ⟨n, en⟩ : ∃ n, l.length = n := ⟨_, rfl⟩
  obtain ⟨a, cap, rfl⟩ := h.len en
  have HH := Lib.hid h
  have EN := Lib.hid en
  have HK := Lib.hid hk
  obtain ⟨B, eB⟩ : ∃ B, w.heap.size = B := ⟨_, rfl⟩
  have EB := Lib.hid eB
  have U2 := Lib.hid u2
  clear h en hk hd u2
  go_enter Try.func11, Try.ntmps11
  go_wp2_with fail
  refine (HN.out _).mono ?_
  rintro e w1 ⟨hb, wb, rfl, hg1, ht1⟩
  rw [show mostOfP 100 = 100 from rfl, U2.out, eB] at ht1
  obtain ⟨w2, e2⟩ : ∃ w2, w1.alloc (KC ⟨0, 0, 0⟩) = w2 := ⟨_, rfl⟩
  obtain ⟨q, eq⟩ : ∃ q, w1.heap.size = q := ⟨_, rfl⟩
  have g2 : Grows w1 w2 := by rw [← e2]; exact bl_alloc (Below.refl _ _) _
  have hq2 : w2.heap[q]? = some (KC ⟨0, 0, 0⟩) := by rw [← e2, ← eq]; exact heap_alloc_new w1 _
  have hc : RisC w B hb wb q := ⟨Nat.le_of_eq eB, by rw [← eq]; exact box_lt ht1.tab.ob, by rw [← eq]; exact box_lt ht1.ob, by rw [← eq]; exact ht1.mine.lt⟩
  have hr2 : RisH w w2 B hb wb q d ⟨0, 0, 0⟩ false := ⟨⟨_, [], _, ht1.grows g2, fun x hx => by simp at hx, fun e => by simp [Value.ownBlock] at e, grows_trans _ _ _ hg1 g2⟩⟩
  have C := Lib.hid hc
  have X2 := Lib.hid (And.intro hr2 hq2)
  simp only [KC] at e2
  clear ht1 hg1 g2 hq2 hc hr2 eB
  go_wp2_with fail
  clear eq e2
  go_loopw [7, 8] (fun v7 iv wr => Shut33 (∃ (i : Nat) (last : KW) (sm : Bool), iv = .int .i64 (i : Int) ∧ v7 = .bool sm ∧ i ≤ n ∧ i ≤ 60 ∧ RisH w wr B hb wb q d last sm ∧ wr.heap[q]? = some (KC last))) (fun _ iv _ => 60 - (intOf iv).toNat)
  case atStart => exact ⟨⟨0, _, _, rfl, rfl, Nat.zero_le _, Nat.zero_le _, X2.out.1, X2.out.2⟩⟩
  case round =>
    obtain ⟨i, last, sm, rfl, rfl, hi, hi60, hr, hq⟩ := hrel.out
    clear hrel
    have R := Lib.hid (And.intro hr hq)
    clear hr hq
    by_cases hlt : i < n ∧ i < 60
    · obtain ⟨hin, h60⟩ := hlt
      have hnl : i < l.length := by rw [EN.out]; exact hin
      obtain ⟨g, o, c', he, hcap, hgl, hat⟩ := HH.out.form EN.out (Nat.lt_of_le_of_lt (Nat.zero_le _) hin)
      simp only [Value.slice.injEq, true_and] at he
      obtain ⟨rfl, rfl⟩ := he
      obtain ⟨⟨kk, ⟨x, b⟩, now⟩, ey⟩ : ∃ y, l[i] = y := ⟨_, rfl⟩
      obtain ⟨hkk, hbx, hba⟩ := HK.out l[i] (List.getElem_mem _)
      have hp := fun W' (hg : Grows w W') => hat_cells (hat.grows hg hgl) i hnl
      rw [ey] at hp hkk hbx hba
      have HP := Lib.hid hp
      have HBX := Lib.hid hbx
      have HBA := Lib.hid hba
      have HGL := Lib.hid (fun (W' : World) (hg : Grows w W') => Nat.lt_of_lt_of_le hgl hg.size)
      have GR := Lib.hid (show Grows w wr by obtain ⟨_, _, _, _, _, _, h4⟩ := R.out.1.out; exact h4)
      obtain ⟨p0, p13, p1, p2, p3, p4, p5, p6, p7, p8, p9, p10, p11, p12⟩ := hp wr GR.out
      have z2 := HGL.out wr GR.out
      have hn6 : i ≤ 1000000 := Nat.le_trans hi60 (by decide)
      have HNF := Lib.hid (nat_facts i hn6)
      have HWS := Lib.hid (wrap_succ hn6)
      have H60 := Lib.hid h60
      have HIN := Lib.hid hin
      have hd1 : decide ((i : Int) < (n : Int)) = true := decide_eq_true (by omega)
      have hd2 : decide ((i : Int) < 60) = true := decide_eq_true (by omega)
      have hq1 : (i < n) = True := eq_true hin
      have hq2 : (i < 60) = True := eq_true h60
      have hq3 : (i : Int) < (n : Int) := Int.ofNat_lt.2 hin
      have hq4 : (i : Int) < 60 := by omega
      have hk2 := kind_two kk
      clear hp hnl hat ey hn6 hi hi60 h60 hcap hgl hin hkk hbx hba
      obtain ⟨j1, j2, j3, j4, j6⟩ := HNF.out
      rcases hk2 with hk2 | hk2
      · go_wp2_with fail
        go_loopw [7, 9] (fun v7 jv wx => Shut33 (∃ (j : Nat) (last : KW) (sm : Bool), jv = .int .i64 (j : Int) ∧ v7 = .bool sm ∧ j ≤ 99 ∧ RisH w wx B hb wb q d last sm ∧ wx.heap[q]? = some (KC last))) (fun _ jv _ => 99 - (intOf jv).toNat)
        case atStart => exact ⟨⟨0, _, _, rfl, rfl, Nat.zero_le _, R.out.1, R.out.2⟩⟩
        case round =>
          obtain ⟨j, last, sm, rfl, rfl, hj, hr, hq⟩ := hrel.out
          clear hrel p0 p13 p1 p2 p3 p4 p5 p6 p7 p8 p9 p10 p11 p12 z2
          have R := Lib.hid (And.intro hr hq)
          clear hr hq
          by_cases hj9 : j < 99
          · obtain ⟨p0, p13, p1, p2, p3, p4, p5, p6, p7, p8, p9, p10, p11, p12⟩ := HP.out wr R.out.1.old
            have z2 := HGL.out wr R.out.1.old
            have hj1 : decide ((j : Int) < 99) = true := decide_eq_true (by omega)
            have hj2 : (j < 99) = True := eq_true hj9
            have HJ := Lib.hid hj9
            have HJN := Lib.hid (nat_facts j (by omega))
            have HJS := Lib.hid (wrap_succ (k := j) (by omega))
            clear hj hj9
            have HPO := Lib.hid (hpop_ris now C.out R.out.1 R.out.2)
            go_wp2_with fail
            refine (HPO.out).mono ?_
            rintro e w5 (⟨rfl, hr5, hq5⟩ | ⟨y, rfl, hl5, hdue, hr5, hq5⟩)
            · have X5 := Lib.hid (And.intro (hr5.grows (bl_alloc (Below.refl _ _) (.cells pz.cells TPK) : Grows w5 _)) (box_grows hq5 (bl_alloc (Below.refl _ _) (.cells pz.cells TPK) : Grows w5 _)))
              simp only [PW.cells, PW.body] at X5
              clear hr5 hq5 HPO p0 p13 p1 p2 p3 p4 p5 p6 p7 p8 p9 p10 p11 p12 z2
              simp only [PW.val, PW.cells, PW.body]
              go_wp2_with fail
              go_roundw
              case rel => exact ⟨⟨i + 1, last, sm, rfl, rfl, HIN.out, H60.out, X5.out.1, X5.out.2⟩⟩
              case measure => exact meas_succ H60.out
            · obtain ⟨w6, e6⟩ : ∃ w6, w5.alloc (.cells y.cells TPK) = w6 := ⟨_, rfl⟩
              obtain ⟨f, ef⟩ : ∃ f, w5.heap.size = f := ⟨_, rfl⟩
              have g6 : Grows w5 w6 := by rw [← e6]; exact bl_alloc (Below.refl _ _) _
              have hb6 : w6.heap[f]? = some (.cells y.cells TPK (0, 0)) := by rw [← e6, ← ef]; exact heap_alloc_new w5 _
              have hr6 := hr5.grows g6
              have hq6 := box_grows hq5 g6
              obtain ⟨p0, p13, p1, p2, p3, p4, p5, p6, p7, p8, p9, p10, p11, p12⟩ := HP.out w6 hr6.old
              have z2 := HGL.out w6 hr6.old
              have c0 := (cell_in hq6 0 rfl).1
              have c1 := (cell_in hq6 1 rfl).1
              have c2 := (cell_in hq6 2 rfl).1
              have z3 := box_lt hq6
              have m1 := (cell_in hb6 1 rfl).1
              have m2 := (cell_in hb6 2 rfl).1
              have m3 := (cell_in hb6 3 rfl).1
              have z4 := box_lt hb6
              obtain ⟨T, eT⟩ : ∃ T, wrap64 (y.k.t + d) = T := ⟨_, rfl⟩
              have eT2 : IntKind.i64.wrap (y.k.t + d) = T := by rw [wrapEq, eT]
              rw [eT] at hdue
              have hx1 : (now < T) = False := eq_false (Int.not_lt.2 hdue)
              have hx2 : decide (now < T) = false := decide_eq_false (Int.not_lt.2 hdue)
              have X6 := Lib.hid (And.intro hr6 (And.intro hq6 hb6))
              have HL := Lib.hid (fun W => rless_any last y.k W)
              simp only [PW.cells, PW.body] at e6
              clear hr5 hq5 HPO g6 hb6 hr6 hq6 hdue p0 p1 p2 p3 p4 p5 p6 p7 p8 p9 p10 p11 p12
              simp only [PW.val, PW.cells, PW.body]
              go_wp2_with fail
              cases sm
              all_goals
                have hl : (lessK last y.k = true) ∨ True := .inr trivial
                first
                  | (have hl := hl5 rfl; rw [hl] at HL)
                  | skip
                clear hl hl5
                refine wp_region_reg (by kernel_rfl) (by kernel_rfl) ?_
                repeat (first | go_big_quiet_step ((go_at_call 46; exact class_reg (HL.out _))) | quiet_step ((go_at_call 46; exact class_reg (HL.out _))))
                refine wpQuiet_nil ?_
                intro _ hcw1
                obtain ⟨pq, hcw2⟩ := hcw1
                subst hcw2
                have X7 := Lib.hid (And.intro (X6.out.1.grows (below_reg _ pq)) (And.intro (box_grows X6.out.2.1 (below_reg _ pq)) (box_grows X6.out.2.2 (below_reg _ pq))))
                obtain ⟨WS, eS⟩ : ∃ WS, st3 (reg w6 pq) q y.k = WS := ⟨_, rfl⟩
                have hqS : WS.heap[q]? = some (KC y.k) := by rw [← eS]; exact st3_box X7.out.2.1
                have hcS : Chg (fun j => j = q) (reg w6 pq) WS := by rw [← eS]; exact st3_chg _ _ _
                have XS := Lib.hid (And.intro (RisH.store C.out X7.out.1 X7.out.2.1 hcS) hqS)
                have k1 := (cell_in X7.out.2.2 1 rfl).1
                have k2 := (cell_in X7.out.2.2 2 rfl).1
                have k3 := (cell_in X7.out.2.2 3 rfl).1
                have k4 := box_lt X7.out.2.2
                have f0 := cell_in X7.out.2.1 0 rfl
                have f1 := cell_in X7.out.2.1 1 rfl
                have f2 := cell_in X7.out.2.1 2 rfl
                have f3 := box_lt X7.out.2.1
                obtain ⟨f0, f0'⟩ := f0
                obtain ⟨f1, f1'⟩ := f1
                obtain ⟨f2, f2'⟩ := f2
                simp only [st3] at eS
                clear hqS hcS HL c0 c1 c2 z3 m1 m2 m3 z4 p13 z2 X6 e6 ef
                go_wp2_with fail
                go_roundw
                case rel => exact ⟨⟨j + 1, y.k, true, by rw [HJS.out]; rfl, rfl, HJ.out, XS.out.1, XS.out.2⟩⟩
                case measure => rw [HJS.out]; exact meas_succ HJ.out
          · have hj1 : decide ((j : Int) < 99) = false := decide_eq_false (by omega)
            have hj2 : (j < 99) = False := eq_false hj9
            clear hj hj9
            go_wp2_with fail
            go_roundw
            case rel => exact ⟨⟨i + 1, last, sm, rfl, rfl, HIN.out, H60.out, R.out.1, R.out.2⟩⟩
            case measure => exact meas_succ H60.out
      · have HX := Lib.hid (hcut_any x b wr (HBX.out.grows GR.out) HBA.out)
        go_wp2_with fail
        refine (HX.out).mono ?_
        rintro e w5 ⟨pa, pl, pc, rfl, hg5, ho5⟩
        have hpl : pl ≤ 80 := by rw [← (brow_bhas ho5).1.1, List.length_take]; omega
        have HPU := Lib.hid (hput_ris (x.at' pa pl pc) _ C.out (R.out.1.grows hg5) (box_grows R.out.2 hg5) (brow_bhas ho5).1 (Nat.le_trans hpl (by decide)))
        clear HX hg5 ho5 hpl p0 p13 p1 p2 p3 p4 p5 p6 p7 p8 p9 p10 p11 p12 z2
        simp only [PW.val, PW.cells, PW.body] at HPU
        simp only [PW.val, PW.cells, PW.body]
        go_wp2_with fail
        refine (HPU.out).mono ?_
        rintro e w6 ⟨rv, rfl, hr6, hq6⟩
        have X6 := Lib.hid (And.intro hr6 hq6)
        clear hr6 hq6 HPU
        go_wp2_with fail
        go_roundw
        case rel => exact ⟨⟨i + 1, last, sm, rfl, rfl, HIN.out, H60.out, X6.out.1, X6.out.2⟩⟩
        case measure => exact meas_succ H60.out
    · have hex : (decide ((i : Int) < (n : Int)) = false ∧ (i < n) = False) ∨ (decide ((i : Int) < (n : Int)) = true ∧ (i < n) = True ∧ decide ((i : Int) < 60) = false ∧ (i < 60) = False) := by
        by_cases h1 : i < n
        · exact .inr ⟨decide_eq_true (by omega), eq_true h1, decide_eq_false (by omega), eq_false (by omega)⟩
        · exact .inl ⟨decide_eq_false (by omega), eq_false h1⟩
      have GR := Lib.hid (show Grows w wr by obtain ⟨_, _, _, _, _, _, h4⟩ := R.out.1.out; exact h4)
      clear hlt hi hi60
      rcases hex with ⟨hd1, hq1⟩ | ⟨hd1, hq1, hd2, hq2⟩
      all_goals
        go_wp2_with fail
        refine (HW.out _).mono ?_
        rintro e w3 ⟨rfl, hg3⟩
        have HG3 := Lib.hid (grows_trans _ _ _ GR.out hg3)
        clear hg3
        go_wp2_with fail
        go_ret
        exact ⟨rfl, HG3.out⟩
end
end Go.Proofs.Ytdmmceclohkkdaa
end
