/- The chapter's example of a table; the document's Into of whatever list. -/
import Derived.Test.YtdmmceclohkkdaaKeyInto
import Derived.Test.YtdmmceclohkkdaaTabFN
namespace Go.Proofs.Ytdmmceclohkkdaa
open Go.RowKit Go.Sort
set_option maxHeartbeats 4000000
set_option maxRecDepth 100000
theorem kinto_any {v : Value} {l : List KW} {w : World} {base : Nat} (k : KW) (h : KOwn w base v l) (hb : base ≤ w.heap.size) (hm : l.length ≤ 1000) :
    Calls Try.prog 17 #[v, k.val] w (fun e w' => ∃ v', e = .returned v' ∧ Grows w w' ∧ KOwn w' base v' (intoK l k) ∧ ∀ j, v'.ownBlock = some j → v.ownBlock = some j ∨ w.heap.size ≤ j) := by
  by_cases hk : k ∈ l
  · have hr : intoK l k = l := by unfold intoK; rw [if_pos hk]
    rw [hr]
    have hin := fun W (hg : Grows w W) => kin_any k ((kown_has h).grows hg) (Nat.le_trans hm (by decide))
    rw [decide_eq_true hk] at hin
    have HIN := Lib.hid hin
    have hgb : Grows w (w.alloc (.cells #[.int .i64 k.t, .int .i64 k.f, .int .u32 k.s] 29)) := bl_alloc (Below.refl _ _) _
    have HG := Lib.hid hgb
    have HE := Lib.hid (fun w' (hg : Grows w w') => own_grows h hg)
    clear h hm hk hr hin hgb
    go_enter Try.func17, Try.ntmps17
    go_wp2_with fail
    refine (HIN.out _ HG.out).mono ?_
    rintro e w1 ⟨rfl, hg1⟩
    have HG1 := Lib.hid (grows_trans _ _ _ HG.out hg1)
    clear hg1
    go_wp2_with fail
    go_ret
    exact ⟨_, rfl, HG1.out, HE.out _ HG1.out, fun j hj => .inl hj⟩
  · refine (kinto_no k (kown_has h) hm hk).mono ?_
    rintro e w' ⟨v', rfl, hg, ho⟩
    exact ⟨v', rfl, hg, row_base ho hb, fun j hj => .inr (ho.lt j hj).1⟩
section
attribute [-go_sem] run_eql_struct run_neq_struct
abbrev k2 : KW := ⟨2, 0, 0⟩
abbrev k1 : KW := ⟨1, 0, 0⟩
/-- The example's table, and its two keys in boxes. -/
def Ex (w : World) (b2 : Nat) (Wx : World) (m : List (KW × Value)) : Prop :=
  ∃ kvx, TabAt TTN Wx w.heap.size (w.heap.size + 1) kvx w.heap.size m 1 ∧ Wx.heap[b2]? = some (.cells #[.int .i64 2, .int .i64 0, .int .u32 0] 29 (0, 0)) ∧ Wx.heap[b2 + 1]? = some (.cells #[.int .i64 1, .int .i64 0, .int .u32 0] 29 (0, 0)) ∧
    (∀ j, kvx.ownBlock = some j → b2 + 1 < j) ∧ Grows w Wx ∧ w.heap.size + 1 < b2
theorem Ex.grows {w Wx Wy : World} {b2 : Nat} {m : List (KW × Value)} (h : Ex w b2 Wx m) (hg : Grows Wx Wy) : Ex w b2 Wy m := by
  obtain ⟨kvx, h1, h2, h3, h4, h5, h6⟩ := h
  exact ⟨kvx, h1.grows hg, box_grows h2 hg, box_grows h3 hg, h4, grows_trans _ _ _ h5 hg, h6⟩
theorem Ex_not {n b2 j : Nat} {kvx : Value} (h4 : ∀ j, kvx.ownBlock = some j → b2 + 1 < j) (h6 : n + 1 < b2) (h7 : b2 ≤ j) (h8 : j ≤ b2 + 1) : ¬ TabS (n + 1) kvx n j := fun hs => by
  rcases hs with hs | hs | hs
  · omega
  · omega
  · have := h4 _ hs; omega
theorem Ex.to {w Wx Wy : World} {b2 : Nat} {m m' : List (KW × Value)} {kvx r : Value} {e : Ending} (h1 : TabAt TTN Wx w.heap.size (w.heap.size + 1) kvx w.heap.size m 1) (h2 : Wx.heap[b2]? = some (.cells #[.int .i64 2, .int .i64 0, .int .u32 0] 29 (0, 0))) (h3 : Wx.heap[b2 + 1]? = some (.cells #[.int .i64 1, .int .i64 0, .int .u32 0] 29 (0, 0)))
    (h4 : ∀ j, kvx.ownBlock = some j → b2 + 1 < j) (h5 : Grows w Wx) (h6 : w.heap.size + 1 < b2) (ht : TabTo TTN Wx w.heap.size (w.heap.size + 1) kvx w.heap.size m' 1 r e Wy) : e = .returned r ∧ Ex w b2 Wy m' := by
  obtain ⟨rfl, kv', k1, k2, k3⟩ := ht
  have hz := box_lt h3
  refine ⟨rfl, kv', k1, ?_, ?_, ?_, ?_, h6⟩
  · exact box_chg h2 k2 (Ex_not h4 h6 (by omega) (by omega))
  · exact box_chg h3 k2 (Ex_not h4 h6 (by omega) (by omega))
  · intro j hj
    rcases k3 j hj with h | h
    · exact h4 j h
    · omega
  · refine Below.trans h5 (k2.toBelow h5.size (fun j hj hs => ?_))
    rcases hs with hs | hs | hs
    · omega
    · omega
    · have := (h1.own.lt _ hs).1; omega
theorem Ex.put {w Wx : World} {b2 : Nat} {m m' : List (KW × Value)} (h : Ex w b2 Wx m) (k : KW) (v : Value) (r : Int) (hr : putE m 1 k = r) (hm : (if r = 0 then insT m k v else m) = m') :
    Calls Try.prog 64 #[.pointer (some ⟨w.heap.size + 1, 0, none⟩), k.val, v] Wx (fun e w' => e = .returned (.int .i64 r) ∧ Ex w b2 w' m') := by
  obtain ⟨kvx, h1, h2, h3, h4, h5, h6⟩ := h
  have := tputN k v h1 h5.size
  rw [hr, hm] at this
  exact this.mono fun e w' ht => Ex.to h1 h2 h3 h4 h5 h6 ht
theorem Ex.cells {w Wx : World} {b2 : Nat} {m : List (KW × Value)} (h : Ex w b2 Wx m) : (Wx.cell? ⟨b2, 0, none⟩ = some (.int .i64 2) ∧ Wx.cell? ⟨b2, 1, none⟩ = some (.int .i64 0) ∧ Wx.cell? ⟨b2, 2, none⟩ = some (.int .u32 0)) ∧ Wx.cell? ⟨b2 + 1, 0, none⟩ = some (.int .i64 1) ∧ Wx.cell? ⟨b2 + 1, 1, none⟩ = some (.int .i64 0) ∧ Wx.cell? ⟨b2 + 1, 2, none⟩ = some (.int .u32 0) := by
  obtain ⟨kvx, h1, h2, h3, h4, h5, h6⟩ := h
  exact ⟨⟨(cell_in h2 0 rfl).1, (cell_in h2 1 rfl).1, (cell_in h2 2 rfl).1⟩, (cell_in h3 0 rfl).1, (cell_in h3 1 rfl).1, (cell_in h3 2 rfl).1⟩
theorem tworks_any (w : World) : Calls Try.prog 19 #[] w (RetV w (.bool true)) := by
  have HN := Lib.hid (fun W => tnewN 1 W)
  go_enter Try.func19, Try.ntmps19
  go_wp2_with fail
  refine (HN.out _).mono ?_
  rintro e w1 ⟨rfl, hg1, ht1⟩
  have hx : Ex w w1.heap.size ((w1.alloc (.cells #[.int .i64 2, .int .i64 0, .int .u32 0] 29)).alloc (.cells #[.int .i64 1, .int .i64 0, .int .u32 0] 29)) [] := by
    have hg2 : Grows w1 ((w1.alloc (.cells #[.int .i64 2, .int .i64 0, .int .u32 0] 29)).alloc (.cells #[.int .i64 1, .int .i64 0, .int .u32 0] 29)) := bl_alloc (bl_alloc (Below.refl _ _) _) _
    obtain ⟨h1, h2⟩ := two_new w1 (.cells #[.int .i64 2, .int .i64 0, .int .u32 0] 29) (.cells #[.int .i64 1, .int .i64 0, .int .u32 0] 29)
    exact ⟨_, ht1.grows hg2, h1, h2, fun j hj => by simp [Value.ownBlock] at hj, grows_trans _ _ _ hg1 hg2, ht1.lt⟩
  have HX := Lib.hid hx
  clear hg1 ht1 hx
  go_wp2_with fail
  obtain ⟨b2, eb⟩ : ∃ b2, w1.heap.size = b2 := ⟨_, rfl⟩
  obtain ⟨W0, e0⟩ : ∃ W0, (w1.alloc (.cells #[.int .i64 2, .int .i64 0, .int .u32 0] 29)).alloc (.cells #[.int .i64 1, .int .i64 0, .int .u32 0] 29) = W0 := ⟨_, rfl⟩
  rw [e0, eb] at HX
  rw [e0, eb]
  clear e0 eb
  obtain ⟨⟨c0, c1, c2⟩, c3, c4, c5⟩ := HX.out.cells
  go_cut [5, 6, 7] (fun x y z wx => x = .int .i64 0 ∧ y = .int .i64 13 ∧ z = .int .i64 12 ∧ Ex w b2 wx [(k2, .int .i64 7)])
  case first =>
    have mixed : Try.prog.follows .mixedOrders = true := by kernel_rfl
    have hx0 := HX.out.grows (bl_drew (Below.refl _ _) : Grows W0 W0.drew)
    go_region_law (first
      | (refine step_call (by rfl) 64 #[.tmp 14, .tmp 15, .const (.int .i64 7)] #[111, 29, 3] (by rfl) #[.pointer (some ⟨w.heap.size + 1, 0, none⟩), k2.val, .int .i64 7] (by rfl) Try.f64 Try.func64 (by kernel_rfl) (by kernel_rfl) (hx0.put k2 (.int .i64 7) 0 rfl rfl) ?_; rintro e w2 ⟨rfl, hx2⟩; refine ⟨_, rfl, ?_⟩; obtain ⟨⟨c0, c1, c2⟩, c3, c4, c5⟩ := hx2.cells)
      | (refine step_call (by rfl) 64 #[.tmp 17, .tmp 18, .const (.int .i64 8)] #[111, 29, 3] (by rfl) #[.pointer (some ⟨w.heap.size + 1, 0, none⟩), k1.val, .int .i64 8] (by rfl) Try.f64 Try.func64 (by kernel_rfl) (by kernel_rfl) (hx2.put k1 (.int .i64 8) 13 rfl rfl) ?_; rintro e w3 ⟨rfl, hx3⟩; refine ⟨_, rfl, ?_⟩; obtain ⟨⟨c0, c1, c2⟩, c3, c4, c5⟩ := hx3.cells)
      | (refine step_call (by rfl) 64 #[.tmp 20, .tmp 21, .const (.int .i64 9)] #[111, 29, 3] (by rfl) #[.pointer (some ⟨w.heap.size + 1, 0, none⟩), k2.val, .int .i64 9] (by rfl) Try.f64 Try.func64 (by kernel_rfl) (by kernel_rfl) (hx3.put k2 (.int .i64 9) 12 rfl rfl) ?_; rintro e w4 ⟨rfl, hx4⟩; refine ⟨_, rfl, ?_⟩)
      | fail)
    all_goals
      go_wp2_with fail
      go_meet
      exact ⟨rfl, rfl, rfl, hx4⟩
  case rest =>
    obtain ⟨rfl, rfl, rfl, hx⟩ := hcut
    obtain ⟨kvx, h1, h2, h3, h4, h5, h6⟩ := hx
    have hpop := tpop_someN h1
    have HP := Lib.hid hpop
    have HK := Lib.hid (And.intro h1 (And.intro h2 (And.intro h3 (And.intro h4 (And.intro h5 h6)))))
    clear hpop h1 h2 h3 h4 h5 h6 c0 c1 c2 c3 c4 c5 HX
    go_wp2_with fail
    refine (HP.out).mono ?_
    intro e wy ht
    obtain ⟨h1, h2, h3, h4, h5, h6⟩ := HK.out
    obtain ⟨rfl, kv', j1, j2, j3, j4, j5, j6⟩ := Ex.to h1 h2 h3 h4 h5 h6 ht
    have hgb : Grows wy (wy.alloc (.cells #[.int .i64 2, .int .i64 0, .int .u32 0] 29)) := bl_alloc (Below.refl _ _) _
    have hln := tlenN (j1.grows hgb)
    have HL := Lib.hid hln
    have HG := Lib.hid (grows_trans _ _ _ j5 hgb)
    obtain ⟨c0, -⟩ := cell_in j2 0 rfl
    obtain ⟨c1, -⟩ := cell_in j2 1 rfl
    obtain ⟨c2, -⟩ := cell_in j2 2 rfl
    have z1 := box_lt j2
    have hq := fun W => key_eql k2 k2 W
    rw [decide_eq_true rfl] at hq
    clear h1 h2 h3 h4 h5 h6 ht j1 j2 j3 j4 j5 j6 hgb hln HK HP
    go_wp2_with fail
    refine (HL.out).mono ?_
    rintro e wz ⟨rfl, rfl⟩
    go_wp2_with fail
    go_ret
    exact ⟨rfl, HG.out⟩
end
end Go.Proofs.Ytdmmceclohkkdaa
