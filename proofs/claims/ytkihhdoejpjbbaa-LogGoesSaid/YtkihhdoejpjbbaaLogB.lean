/- Entries: what one holds; the walks of own and Same. -/
import Derived.Test.YtkihhdoejpjbbaaLogA
import Derived.Laws.BytesArg
import Derived.ArgAppend
import Derived.Lib.LazyBuf
namespace Go.Proofs.Ytkihhdoejpjbbaa
open Go.RowKit Go.Sort
set_option maxHeartbeats 1000000
set_option maxRecDepth 100000

theorem Try.infoEnt : (Try.prog.info? 56).map (fun i => (i.zero, i.size, i.bytes)) = some (some (.agg #[.int .i64 0, .int .i64 0, .int .i64 0, .int .u32 0, .slice none 0 0]), 5, 56) := by kernel_rfl
theorem Try.infoU8 : (Try.prog.info? 5).map (fun i => (i.zero, i.size, i.bytes)) = some (some (.int .u8 0), 1, 1) := by kernel_rfl

/-- An entry: its time, its key, where its body lies, its body. -/
structure EW where
  a : Int
  k : KW
  ba : Option Addr
  bl : Nat
  bc : Nat
  b : List Int
abbrev EW.bv (x : EW) : Value := .slice x.ba x.bl x.bc
abbrev EW.val (x : EW) : Value := .agg #[.int .i64 x.a, .int .i64 x.k.t, .int .i64 x.k.f, .int .u32 x.k.s, x.bv]
abbrev ev (x : EW) : List Value := [.int .i64 x.a, .int .i64 x.k.t, .int .i64 x.k.f, .int .u32 x.k.s, x.bv]
abbrev evs (l : List EW) : List Value := l.flatMap ev
abbrev bsv (b : List Int) : List Value := b.map (Value.int .u8)
theorem ev_one : ∀ (x : EW), ∀ u ∈ ev x, u.oneCell' = true := by
  intro x u hu
  simp at hu
  rcases hu with rfl | rfl | rfl | rfl | rfl <;> rfl
theorem bsv_one (b : List Int) : ∀ u ∈ bsv b, u.oneCell' = true := by
  intro u hu
  simp at hu
  obtain ⟨x, _, rfl⟩ := hu
  rfl
theorem evs_one (l : List EW) : ∀ u ∈ evs l, u.oneCell' = true := rows_one (f := ev) ev_one l
theorem evs_length (l : List EW) : (evs l).length = l.length * 5 := rows_length (f := ev) (k := 5) (fun _ => rfl) l

/-- The slice of bytes holds b. -/
def BHas (w : World) (ba : Option Addr) (bl bc : Nat) (b : List Int) : Prop := b.length = bl ∧ (bl = 0 ∨ ∃ g o, ba = some ⟨g, o, none⟩ ∧ bl ≤ bc ∧ g < w.heap.size ∧ ∀ i, (h : i < b.length) → w.cell? ⟨g, o + i, none⟩ = some (.int .u8 b[i]))
theorem BHas.grows {w w' : World} {ba : Option Addr} {bl bc : Nat} {b : List Int} (h : BHas w ba bl bc b) (hg : Grows w w') : BHas w' ba bl bc b := by
  refine ⟨h.1, ?_⟩
  rcases h.2 with h | ⟨g, o, h1, h0, h2, h3⟩
  · exact .inl h
  · exact .inr ⟨g, o, h1, h0, Nat.lt_of_lt_of_le h2 hg.size, fun i hi => (hg.cell (p := ⟨g, o + i, none⟩) h2).trans (h3 i hi)⟩
/-- .. in a row of its own. -/
abbrev BRow (w : World) (base : Nat) (v : Value) (b : List Int) : Prop := w.ownsRow base 5 1 v b.length (bsv b)
theorem brow_form {w : World} {base : Nat} {v : Value} {b : List Int} (h : BRow w base v b) : ∃ ba bl bc, v = .slice ba bl bc ∧ BHas w ba bl bc b := by
  rcases h.2 with ⟨h1, h2⟩ | ⟨g, cap, cur, hv, hb, hg, h4, _⟩
  · exact ⟨none, 0, 0, h1, h2, .inl rfl⟩
  · refine ⟨_, _, _, hv, rfl, .inr ⟨g, 0, rfl, h4, (Array.getElem?_eq_some_iff.1 hg).1, fun i hi => ?_⟩⟩
    subst hv
    rw [Nat.zero_add, h.cellAt i (by omega)]
    simp [hi]
theorem conv_bytes {w : World} {ba : Option Addr} {bl bc : Nat} {b : List Int} (h : BHas w ba bl bc b) : (convert 54 9 (.slice ba bl bc)).run Try.prog w = .ok (.string (strOfNums b)) w := by
  obtain ⟨h1, h2⟩ := h
  rcases h2 with h2 | ⟨g, o, rfl, -, hg, hc⟩
  · obtain rfl : b = [] := List.eq_nil_of_length_eq_zero (by omega)
    subst h2
    cases ba with
    | none => exact run_convert_bytes_nil w _ _ Try.underlying54 Try.underlying5 0 bc _ Try.underlying9
    | some a =>
      rw [run_convert_bytes_string w _ _ _ _ 0 bc Try.underlying54 Try.underlying5 Try.underlying9]
      have := run_bytesToString (P := Try.prog) w a 0 bc [] (by simp [loadCells, Sem.run_pure, loadCellsFrom])
      rw [this]
      rfl
  · exact run_convert_bytes_arg w _ _ Try.underlying54 Try.underlying5 g o bl bc b h1 (fun i hi => by
      rw [hc i (by omega), List.getD_eq_getElem?_getD, List.getElem?_eq_getElem (by omega)]
      rfl) _ Try.underlying9

/-- Are two bodies the same? -/
def sameB (b c : List Int) : Bool := (strOfNums b).toList == (strOfNums c).toList
theorem sameB_refl (b : List Int) : sameB b b = true := by unfold sameB; simp
/-- Are two entries the same? -/
def sameE (x y : EW) : Bool := if x.a = y.a ∧ x.k = y.k then sameB x.b y.b else false
theorem sameE_of {x y : EW} (h1 : x.a = y.a) (h2 : x.k = y.k) (h3 : x.b = y.b) : sameE x y = true := by unfold sameE; rw [if_pos ⟨h1, h2⟩, h3]; exact sameB_refl _

theorem bequal_any (ba : Option Addr) (bl bc : Nat) (b : List Int) (ca : Option Addr) (cl cc : Nat) (c : List Int) (w : World) (hx : BHas w ba bl bc b) (hy : BHas w ca cl cc c) :
    Calls Try.prog 66 #[.slice ba bl bc, .slice ca cl cc] w (fun e w' => e = .returned (.bool (sameB b c)) ∧ w = w') := by
  have c1 := conv_bytes hx
  have c2 := conv_bytes hy
  clear hx hy
  go_enter Try.func66, Try.ntmps66
  go_wp2
  go_ret
  exact ⟨rfl, rfl⟩

theorem rsame_any (x y : EW) (w : World) (hx : BHas w x.ba x.bl x.bc x.b) (hy : BHas w y.ba y.bl y.bc y.b) :
    Calls Try.prog 41 #[x.val, y.val] w (RetV w (.bool (sameE x y))) := by
  obtain ⟨xa, ⟨xt, xf, xs⟩, xba, xbl, xbc, xb⟩ := x
  obtain ⟨ya, ⟨yt, yf, ys⟩, yba, ybl, ybc, yb⟩ := y
  by_cases he : xa = ya ∧ xt = yt ∧ xf = yf ∧ xs = ys
  · obtain ⟨rfl, rfl, rfl, rfl⟩ := he
    have hr : sameE ⟨xa, ⟨xt, xf, xs⟩, xba, xbl, xbc, xb⟩ ⟨xa, ⟨xt, xf, xs⟩, yba, ybl, ybc, yb⟩ = sameB xb yb := by unfold sameE; rw [if_pos ⟨rfl, rfl⟩]
    rw [hr]
    have hG : Grows w ((w.alloc (.cells #[.int .i64 xa, .int .i64 xt, .int .i64 xf, .int .u32 xs, .slice xba xbl xbc] 56)).alloc (.cells #[.int .i64 xa, .int .i64 xt, .int .i64 xf, .int .u32 xs, .slice yba ybl ybc] 56)) := bl_alloc (bl_alloc (Below.refl _ _) _) _
    have c1 := conv_bytes (hx.grows hG)
    have c2 := conv_bytes (hy.grows hG)
    have HG := Lib.hid hG
    have HB : Hid (sameB xb yb = ((strOfNums xb).toList == (strOfNums yb).toList)) := Lib.hid rfl
    simp only at c1 c2
    clear hx hy hr hG
    go_enter Try.func41, Try.ntmps41
    go_wp2
    go_ret
    exact ⟨rfl, HG.out⟩
  · have hr : sameE ⟨xa, ⟨xt, xf, xs⟩, xba, xbl, xbc, xb⟩ ⟨ya, ⟨yt, yf, ys⟩, yba, ybl, ybc, yb⟩ = false := by
      unfold sameE
      rw [if_neg (fun hc => he ⟨hc.1, congrArg KW.t hc.2, congrArg KW.f hc.2, congrArg KW.s hc.2⟩)]
    rw [hr]
    clear hx hy hr
    by_cases ha : xa = ya
    · subst ha
      by_cases ht : xt = yt
      · subst ht
        by_cases hf : xf = yf
        · subst hf
          have hs : ¬ xs = ys := fun hs => he ⟨rfl, rfl, rfl, hs⟩
          have hs1 : (xs == ys) = false := by simp [hs]
          clear he
          go_enter Try.func41, Try.ntmps41
          go_wp2
          go_ret
          exact ⟨rfl, by (repeat (first | with_reducible exact Below.refl _ _ | with_reducible refine bl_alloc ?_ _ | ((with_reducible refine bl_set ?_ ?_ _); rotate_left; (first | exact Nat.le_refl _ | exact Nat.le_succ_of_le (Nat.le_refl _) | (simp only []; omega))) | with_reducible refine bl_drewN ?_ _ | with_reducible refine bl_drew ?_ | with_reducible refine bl_reg ?_ _))⟩
        · have hf1 : (xf == yf) = false := by simp [hf]
          clear he
          go_enter Try.func41, Try.ntmps41
          go_wp2
          go_ret
          exact ⟨rfl, by (repeat (first | with_reducible exact Below.refl _ _ | with_reducible refine bl_alloc ?_ _ | ((with_reducible refine bl_set ?_ ?_ _); rotate_left; (first | exact Nat.le_refl _ | exact Nat.le_succ_of_le (Nat.le_refl _) | (simp only []; omega))) | with_reducible refine bl_drewN ?_ _ | with_reducible refine bl_drew ?_ | with_reducible refine bl_reg ?_ _))⟩
      · have ht1 : (xt == yt) = false := by simp [ht]
        clear he
        go_enter Try.func41, Try.ntmps41
        go_wp2
        go_ret
        exact ⟨rfl, by (repeat (first | with_reducible exact Below.refl _ _ | with_reducible refine bl_alloc ?_ _ | ((with_reducible refine bl_set ?_ ?_ _); rotate_left; (first | exact Nat.le_refl _ | exact Nat.le_succ_of_le (Nat.le_refl _) | (simp only []; omega))) | with_reducible refine bl_drewN ?_ _ | with_reducible refine bl_drew ?_ | with_reducible refine bl_reg ?_ _))⟩
    · have ha1 : (xa == ya) = false := by simp [ha]
      clear he
      go_enter Try.func41, Try.ntmps41
      go_wp2
      go_ret
      exact ⟨rfl, by (repeat (first | with_reducible exact Below.refl _ _ | with_reducible refine bl_alloc ?_ _ | ((with_reducible refine bl_set ?_ ?_ _); rotate_left; (first | exact Nat.le_refl _ | exact Nat.le_succ_of_le (Nat.le_refl _) | (simp only []; omega))) | with_reducible refine bl_drewN ?_ _ | with_reducible refine bl_drew ?_ | with_reducible refine bl_reg ?_ _))⟩

theorem lsame_any (x y : EW) (w : World) (hx : BHas w x.ba x.bl x.bc x.b) (hy : BHas w y.ba y.bl y.bc y.b) :
    Calls Try.prog 45 #[x.val, y.val] w (RetV w (.bool (sameE x y))) := by
  obtain ⟨xa, ⟨xt, xf, xs⟩, xba, xbl, xbc, xb⟩ := x
  obtain ⟨ya, ⟨yt, yf, ys⟩, yba, ybl, ybc, yb⟩ := y
  by_cases he : xa = ya ∧ xt = yt ∧ xf = yf ∧ xs = ys
  · obtain ⟨rfl, rfl, rfl, rfl⟩ := he
    have hr : sameE ⟨xa, ⟨xt, xf, xs⟩, xba, xbl, xbc, xb⟩ ⟨xa, ⟨xt, xf, xs⟩, yba, ybl, ybc, yb⟩ = sameB xb yb := by unfold sameE; rw [if_pos ⟨rfl, rfl⟩]
    rw [hr]
    have hG : Grows w ((w.alloc (.cells #[.int .i64 xa, .int .i64 xt, .int .i64 xf, .int .u32 xs, .slice xba xbl xbc] 56)).alloc (.cells #[.int .i64 xa, .int .i64 xt, .int .i64 xf, .int .u32 xs, .slice yba ybl ybc] 56)) := bl_alloc (bl_alloc (Below.refl _ _) _) _
    have hb := bequal_any xba xbl xbc xb yba ybl ybc yb _ (hx.grows hG) (hy.grows hG)
    have HB := Lib.hid hb
    have HG := Lib.hid hG
    clear hx hy hr hG hb
    go_enter Try.func45, Try.ntmps45
    go_wp2_with fail
    refine (HB.out).mono ?_
    rintro e w' ⟨rfl, rfl⟩
    go_wp2_with fail
    go_ret
    exact ⟨rfl, HG.out⟩
  · have hr : sameE ⟨xa, ⟨xt, xf, xs⟩, xba, xbl, xbc, xb⟩ ⟨ya, ⟨yt, yf, ys⟩, yba, ybl, ybc, yb⟩ = false := by
      unfold sameE
      rw [if_neg (fun hc => he ⟨hc.1, congrArg KW.t hc.2, congrArg KW.f hc.2, congrArg KW.s hc.2⟩)]
    rw [hr]
    clear hx hy hr
    by_cases ha : xa = ya
    · subst ha
      by_cases ht : xt = yt
      · subst ht
        by_cases hf : xf = yf
        · subst hf
          have hs : ¬ xs = ys := fun hs => he ⟨rfl, rfl, rfl, hs⟩
          have hs1 : (xs == ys) = false := by simp [hs]
          clear he
          go_enter Try.func45, Try.ntmps45
          go_wp2
          go_ret
          exact ⟨rfl, by (repeat (first | with_reducible exact Below.refl _ _ | with_reducible refine bl_alloc ?_ _ | ((with_reducible refine bl_set ?_ ?_ _); rotate_left; (first | exact Nat.le_refl _ | exact Nat.le_succ_of_le (Nat.le_refl _) | (simp only []; omega))) | with_reducible refine bl_drewN ?_ _ | with_reducible refine bl_drew ?_ | with_reducible refine bl_reg ?_ _))⟩
        · have hf1 : (xf == yf) = false := by simp [hf]
          clear he
          go_enter Try.func45, Try.ntmps45
          go_wp2
          go_ret
          exact ⟨rfl, by (repeat (first | with_reducible exact Below.refl _ _ | with_reducible refine bl_alloc ?_ _ | ((with_reducible refine bl_set ?_ ?_ _); rotate_left; (first | exact Nat.le_refl _ | exact Nat.le_succ_of_le (Nat.le_refl _) | (simp only []; omega))) | with_reducible refine bl_drewN ?_ _ | with_reducible refine bl_drew ?_ | with_reducible refine bl_reg ?_ _))⟩
      · have ht1 : (xt == yt) = false := by simp [ht]
        clear he
        go_enter Try.func45, Try.ntmps45
        go_wp2
        go_ret
        exact ⟨rfl, by (repeat (first | with_reducible exact Below.refl _ _ | with_reducible refine bl_alloc ?_ _ | ((with_reducible refine bl_set ?_ ?_ _); rotate_left; (first | exact Nat.le_refl _ | exact Nat.le_succ_of_le (Nat.le_refl _) | (simp only []; omega))) | with_reducible refine bl_drewN ?_ _ | with_reducible refine bl_drew ?_ | with_reducible refine bl_reg ?_ _))⟩
    · have ha1 : (xa == ya) = false := by simp [ha]
      clear he
      go_enter Try.func45, Try.ntmps45
      go_wp2
      go_ret
      exact ⟨rfl, by (repeat (first | with_reducible exact Below.refl _ _ | with_reducible refine bl_alloc ?_ _ | ((with_reducible refine bl_set ?_ ?_ _); rotate_left; (first | exact Nat.le_refl _ | exact Nat.le_succ_of_le (Nat.le_refl _) | (simp only []; omega))) | with_reducible refine bl_drewN ?_ _ | with_reducible refine bl_drew ?_ | with_reducible refine bl_reg ?_ _))⟩

theorem clone_any (ba : Option Addr) (bl bc : Nat) (b : List Int) (w : World) (h : BHas w ba bl bc b) (hm : bl ≤ 1000000) :
    Calls Try.prog 76 #[.slice ba bl bc] w (fun e w' => ∃ v', e = .returned v' ∧ Grows w w' ∧ BRow w' w.heap.size v' b) := by
  obtain ⟨i0, hi, hz0, hz1, hz2⟩ := info_parts Try.infoU8
  have he := run_eql_slice_nil (P := Try.prog) w 54 5 ba bl bc Try.underlying54
  cases ba with
  | none =>
    have hb : b = [] := by
      rcases h.2 with h2 | ⟨g, o, h2, _⟩
      · exact List.eq_nil_of_length_eq_zero (by rw [h.1]; exact h2)
      · cases h2
    subst hb
    clear h
    go_enter Try.func76, Try.ntmps76
    go_wp2
    go_ret
    exact ⟨_, rfl, Below.refl _ _, World.ownsRow_nil _ _ _ _⟩
  | some a =>
    have hc : ∀ j u, (bsv b)[j]? = some u → w.cell? (a.add j) = some u ∧ a.block < w.heap.size := by
      intro j u hu
      rcases h.2 with h2 | ⟨g, o, h2, h3, h4, h5⟩
      · have hb : b = [] := List.eq_nil_of_length_eq_zero (by rw [h.1]; exact h2)
        subst hb
        simp at hu
      · cases h2
        have hj : j < b.length := by
          have := (List.getElem?_eq_some_iff.1 hu).1
          simpa using this
        rw [addr_add, h5 j hj, ← hu]
        simp [hj]
        exact h4
    have HC := Lib.hid hc
    have HL := Lib.hid h.1
    clear h hc
    go_enter Try.func76, Try.ntmps76
    go_wp2_with (first | (at_builtin; refine wpList_append_own _ rfl _ _ 54 rfl w.heap.size 5 i0 _ 1 1 Try.underlying54 hi hz0 hz1 hz2 rfl (by decide) _ 0 [] rfl ?c0 a bl bc (bsv b) rfl ?c1 ?c2 ?c3 ?c4 ?c5 ?c6 ?_))
    case c0 => exact World.ownsRow_lit w #[] 0 (Nat.le_refl _) (by decide) rfl
    case c1 => simp [HL.out]
    case c2 =>
      intro j u hu
      obtain ⟨h1, h2⟩ := HC.out j u hu
      exact ((bl_alloc (Below.refl _ _) _ : Below w.heap.size w _).cell (p := a.add j) (by rw [show (a.add j).block = a.block by unfold Addr.add; split <;> rfl]; exact h2)).trans h1
    case c3 => exact bsv_one b
    case c4 => unfold maxLen; omega
    case c5 => omega
    case c6 => simp
    intro v' w1 hown hgrow _
    have hg2 : Grows w w1 := grows_of_grownBy (bl_alloc (Below.refl _ _) _) hgrow (by rintro k hk; cases hk; exact Nat.le_refl _)
    have ho : BRow w1 w.heap.size v' b := by
      show World.ownsRow _ _ _ _ _ _ _
      rw [HL.out]
      simpa using hown
    have HO := Lib.hid ho
    clear hown hgrow ho
    go_wp2_with fail
    go_ret
    exact ⟨v', rfl, hg2, HO.out⟩

theorem row_base {w : World} {base base' : Nat} {e : TypeId} {size : Nat} {v : Value} {n : Nat} {xs : List Value} (h : w.ownsRow base e size v n xs) (hb : base' ≤ base) : w.ownsRow base' e size v n xs := by
  refine ⟨h.1, ?_⟩
  rcases h.2 with h2 | ⟨g, cap, cur, hv, hg, rest⟩
  · exact .inl h2
  · exact .inr ⟨g, cap, cur, hv, Nat.le_trans hb hg, rest⟩
/-- Two new objects. -/
theorem two_new (w : World) (A B : Obj) : ((w.alloc A).alloc B).heap[w.heap.size]? = some A ∧ ((w.alloc A).alloc B).heap[w.heap.size + 1]? = some B := by
  constructor
  · rw [((bl_alloc (Below.refl _ _) B : Below (w.alloc A).heap.size (w.alloc A) ((w.alloc A).alloc B)).block w.heap.size (by simp))]
    exact heap_alloc_new w A
  · have := heap_alloc_new (w.alloc A) B
    simpa using this
theorem cell_in {w : World} {b : Nat} {cs : Array Value} {T : TypeId} (h : w.heap[b]? = some (.cells cs T (0, 0))) (i : Nat) {v : Value} (hv : cs[i]? = some v) : w.cell? ⟨b, i, none⟩ = some v ∧ w.frozen? ⟨b, i, none⟩ = false := by
  constructor
  · simp [World.cell?, h, hv]
  · simp [World.frozen?, h]

/-- What own gives back: the same entry, its body anew. -/
def OwnOf (x : EW) (w : World) (e : Ending) (w' : World) : Prop := ∃ ca cl cc, e = .returned (.agg #[.int .i64 x.a, .int .i64 x.k.t, .int .i64 x.k.f, .int .u32 x.k.s, .slice ca cl cc]) ∧ BRow w' w.heap.size (.slice ca cl cc) x.b ∧ Grows w w'
theorem own_any (x : EW) (w : World) (h : BHas w x.ba x.bl x.bc x.b) (hm : x.bl ≤ 1000000) : Calls Try.prog 60 #[x.val] w (OwnOf x w) := by
  have hcl := fun W (hg : Grows w W) => clone_any x.ba x.bl x.bc x.b W (h.grows hg) hm
  have HC := Lib.hid hcl
  clear hcl h hm
  go_enter Try.func60, Try.ntmps60
  go_wp2_with fail
  refine (HC.out _ (bl_alloc (bl_alloc (Below.refl _ _) _) _)).mono ?_
  rintro e w2 ⟨v', rfl, hg, hb⟩
  obtain ⟨ca, cl, cc, rfl, -⟩ := brow_form hb
  have q := two_new w (.cells #[.int .i64 x.a, .int .i64 x.k.t, .int .i64 x.k.f, .int .u32 x.k.s, x.bv] 56) (.cells #[.int .i64 0, .int .i64 0, .int .i64 0, .int .u32 0, .slice none 0 0] 56)
  have q0 := (hg.block w.heap.size (by simp; omega)).trans q.1
  have q1 := (hg.block (w.heap.size + 1) (by simp)).trans q.2
  obtain ⟨a0, f0⟩ := cell_in q0 0 rfl
  obtain ⟨a1, f1⟩ := cell_in q0 1 rfl
  obtain ⟨a2, f2⟩ := cell_in q0 2 rfl
  obtain ⟨a3, f3⟩ := cell_in q0 3 rfl
  obtain ⟨a4, f4⟩ := cell_in q0 4 rfl
  obtain ⟨b0, e0⟩ := cell_in q1 0 rfl
  obtain ⟨b1, e1⟩ := cell_in q1 1 rfl
  obtain ⟨b2, e2⟩ := cell_in q1 2 rfl
  obtain ⟨b3, e3⟩ := cell_in q1 3 rfl
  obtain ⟨b4, e4⟩ := cell_in q1 4 rfl
  have HB := Lib.hid hb
  have HG := Lib.hid hg
  clear hg hb q q0 q1
  go_wp2_with fail
  have hch : Chg (fun k => k = w.heap.size ∨ k = w.heap.size + 1) w2 ((((((w2.setCell ⟨w.heap.size, 4, none⟩ (.slice ca cl cc)).setCell ⟨w.heap.size + 1, 0, none⟩ (.int .i64 x.a)).setCell ⟨w.heap.size + 1, 1, none⟩ (.int .i64 x.k.t)).setCell ⟨w.heap.size + 1, 2, none⟩ (.int .i64 x.k.f)).setCell ⟨w.heap.size + 1, 3, none⟩ (.int .u32 x.k.s)).setCell ⟨w.heap.size + 1, 4, none⟩ (.slice ca cl cc)) :=
    Chg.setCell (Chg.setCell (Chg.setCell (Chg.setCell (Chg.setCell (Chg.setCell (Chg.refl _ _) _ (.inr (.inl rfl))) _ (.inr (.inr rfl))) _ (.inr (.inr rfl))) _ (.inr (.inr rfl))) _ (.inr (.inr rfl))) _ (.inr (.inr rfl))
  have hgw : Grows w w2 := grows_trans _ _ _ (bl_alloc (bl_alloc (Below.refl _ _) _) _ : Below w.heap.size w _) HG.out
  refine bodyPost_ret (v := .agg #[.int .i64 x.a, .int .i64 x.k.t, .int .i64 x.k.f, .int .u32 x.k.s, .slice ca cl cc]) (by simp [results, Try.results60, go_sem, b0, b1, b2, b3, b4]) rfl ⟨ca, cl, cc, rfl, ?_, ((Chg.ofGrows hgw).trans hch).toGrows (fun k hk hs => by rcases hs with hs | hs <;> omega)⟩
  have hb2 := hch.own HB.out (fun k hk hs => by
    have := (HB.out.lt k hk).1
    simp at this
    rcases hs with hs | hs <;> omega)
  exact row_base hb2 (by simp; omega)
end Go.Proofs.Ytkihhdoejpjbbaa
