/- The walk of LogGoes: a log and the document's list side by side, the list in a box; then the log gone over. -/
import Derived.Test.YtkihhdoejpjbbaaLogJ
import Derived.Test.YtkihhdoejpjbbaaRangeL
import Derived.Test.YtkihhdoejpjbbaaQuietR
namespace Go.Proofs.Ytkihhdoejpjbbaa
open Go.RowKit Go.Sort
set_option maxHeartbeats 4000000
set_option maxRecDepth 100000
attribute [local go_sem] Oper.semAt_some

/-! A box of another type changes: entries, bodies, logs stay. -/
section
variable {w w' : World} {p : Nat} {cs : Array Value} {T : TypeId} (hp : w.heap[p]? = some (.cells cs T (0, 0))) (hc : Chg (fun k => k = p) w w')
include hp hc
theorem eown_box {base : Nat} {v : Value} {l : List EW} (h : EOwn w base v l) (hT : T ≠ 56) : EOwn w' base v l :=
  hc.own h fun k hk hs => by
    subst hs
    rcases h.2 with ⟨h1, _⟩ | ⟨g, cap, cur, hv, _, hg, _⟩
    · rw [h1] at hk; simp [Value.ownBlock] at hk
    · rw [hv] at hk
      simp only [Value.ownBlock, Option.some.injEq] at hk
      subst hk
      rw [hp] at hg
      injection hg with hg
      injection hg with _ hg
      exact hT hg
theorem noBytes_box (hT : T ≠ 5) : NoBytes w (fun k => k = p) := by
  rintro k rfl cur hk
  rw [hp] at hk
  injection hk with hk
  injection hk with _ hk
  exact hT hk
theorem log_box {B b : Nat} {v : Value} {l : List EW} (h : LogAt w B b v l) (h1 : T ≠ 56) (h2 : T ≠ 5) (h3 : T ≠ 100) : LogAt w' B b v l := by
  refine ⟨?_, eown_box hp hc h.own h1, h.bod.chg hc (noBytes_box hp hc h2)⟩
  rw [hc.block b h.lt (fun hs => ?_)]
  · exact h.ob
  · have h4 := h.ob
    rw [hs, hp] at h4
    injection h4 with h4
    injection h4 with _ h4
    exact h3 h4
theorem rlist_box {v : Value} {c : List EC} (h : RList w v c) (h1 : T ≠ 56) (h2 : T ≠ 5) : RList w' v c := by
  obtain ⟨⟨l, a, b, d⟩, e⟩ := h
  exact ⟨⟨l, eown_box hp hc a h1, b.chg hc (noBytes_box hp hc h2), d⟩, e⟩
theorem side_box {B b : Nat} {vl vw : Value} {ll : List EW} {c : List EC} (h : Side w B b vl ll vw c) (h1 : T ≠ 56) (h2 : T ≠ 5) (h3 : T ≠ 100) : Side w' B b vl ll vw c :=
  ⟨log_box hp hc h.log h1 h2 h3, h.eq, rlist_box hp hc h.lst h1 h2, h.sep, h.ord, h.sht⟩
end
/-- A box stays through a change of others. -/
theorem box_chg {S : Nat → Prop} {w w' : World} {p : Nat} {o : Obj} (hp : w.heap[p]? = some o) (hc : Chg S w w') (hs : ¬ S p) : w'.heap[p]? = some o := by
  rw [hc.block p (Array.getElem?_eq_some_iff.1 hp).1 hs]; exact hp
theorem box_grows {w w' : World} {p : Nat} {o : Obj} (hp : w.heap[p]? = some o) (hg : Grows w w') : w'.heap[p]? = some o := box_chg hp (Chg.ofGrows (S := fun _ => False) hg) (fun h => h)
/-- .. also through the log's. -/
theorem box_log {w w' : World} {B b p : Nat} {v : Value} {l : List EW} {cs : Array Value} {T : TypeId} (hp : w.heap[p]? = some (.cells cs T (0, 0))) (h : LogAt w B b v l) (h1 : T ≠ 56) (h3 : T ≠ 100) (hc : Chg (LogS b v) w w') : w'.heap[p]? = some (.cells cs T (0, 0)) := by
  refine box_chg hp hc fun hs => ?_
  rcases hs with rfl | hs
  · have h4 := h.ob
    rw [hp] at h4
    injection h4 with h4
    injection h4 with _ h4
    exact h3 h4
  · obtain ⟨cur, h4⟩ := h.tyOwn hs
    rw [hp] at h4
    injection h4 with h4
    injection h4 with _ h4
    exact h1 h4
/-- What lies in a box that is set. -/
theorem box_set {w : World} {p : Nat} {u v : Value} {T : TypeId} (hp : w.heap[p]? = some (.cells #[u] T (0, 0))) : (w.setCell ⟨p, 0, none⟩ v).heap[p]? = some (.cells #[v] T (0, 0)) := by
  have hlt := (Array.getElem?_eq_some_iff.1 hp).1
  have he := (Array.getElem?_eq_some_iff.1 hp).2
  simp only [World.setCell]
  rw [Array.getElem?_eq_getElem (by simpa using hlt), Array.getElem_modify_self, he]
  rfl

/-- A region in the midst, its orders all leading to one place. -/
theorem region_mid {F : Fence} {n : Nat} {P : Program} {c : Code} {Q : Exit → Act → World → Prop} {a A : Act} {w W0 : World} (hreg : c.wpIn F n P (fun e a' W' => e = .normal ∧ a' = A ∧ Grows W0 W') a w) (hrest : ∀ W', Grows W0 W' → Q .normal A W') : c.wpIn F n P Q a w :=
  wpIn_mono hreg fun e a' W' h => by obtain ⟨rfl, rfl, hg⟩ := h; exact hrest _ hg
theorem bl_set' {b : Nat} {w w' : World} (h : Below b w w') {p : Addr} (hp : b ≤ p.block) (u : Value) : Below b w (w'.setCell p u) := h.setCell hp u
/-- What the rounds leave alone, and the box of the document's list. -/
structure Fr (W : World) (b p : Nat) (far : Int) (vw : Value) : Prop where
  far : W.heap[b]? = some (.cells #[.int .u8 far] 5 (0, 0))
  res : W.heap[b + 1]? = some (.cells #[.bool false] 4 (0, 0))
  box : W.heap[p]? = some (.cells #[vw] 47 (0, 0))
theorem Fr.grows {W W' : World} {b p : Nat} {far : Int} {vw : Value} (h : Fr W b p far vw) (hg : Grows W W') : Fr W' b p far vw := ⟨box_grows h.far hg, box_grows h.res hg, box_grows h.box hg⟩
theorem Fr.log {W W' : World} {b p B L : Nat} {far : Int} {vw vl : Value} {l : List EW} (h : Fr W b p far vw) (hl : LogAt W B L vl l) (hc : Chg (LogS L vl) W W') : Fr W' b p far vw :=
  ⟨box_log h.far hl (by decide) (by decide) hc, box_log h.res hl (by decide) (by decide) hc, box_log h.box hl (by decide) (by decide) hc⟩
theorem Fr.set {W : World} {b p : Nat} {far : Int} {vw : Value} (h : Fr W b p far vw) (h1 : b ≠ p) (h2 : b + 1 ≠ p) (v : Value) : Fr (W.setCell ⟨p, 0, none⟩ v) b p far v :=
  have hc : Chg (fun k => k = p) W (W.setCell ⟨p, 0, none⟩ v) := Chg.setCell (Chg.refl _ _) v (.inr rfl)
  ⟨box_chg h.far hc h1, box_chg h.res hc h2, box_set h.box⟩
theorem Fr.other {W : World} {b p q : Nat} {far : Int} {vw : Value} (h : Fr W b p far vw) (h1 : b ≠ q) (h2 : b + 1 ≠ q) (h3 : p ≠ q) (v : Value) : Fr (W.setCell ⟨q, 0, none⟩ v) b p far vw :=
  have hc : Chg (fun k => k = q) W (W.setCell ⟨q, 0, none⟩ v) := Chg.setCell (Chg.refl _ _) v (.inr rfl)
  ⟨box_chg h.far hc h1, box_chg h.res hc h2, box_chg h.box hc h3⟩
theorem Fr.keep {n : Nat} {W W' : World} {b p : Nat} {far : Int} {vw : Value} (h : Fr W b p far vw) (hr : Rec n W W') : Fr W' b p far vw := ⟨hr.at h.far, hr.at h.res, hr.at h.box⟩
theorem Fr.lt {W : World} {b p : Nat} {far : Int} {vw : Value} (h : Fr W b p far vw) : b < W.heap.size ∧ b + 1 < W.heap.size ∧ p < W.heap.size := ⟨(Array.getElem?_eq_some_iff.1 h.far).1, (Array.getElem?_eq_some_iff.1 h.res).1, (Array.getElem?_eq_some_iff.1 h.box).1⟩
theorem Side.keep {n : Nat} {w w' : World} {B b : Nat} {vl vw : Value} {ll : List EW} {c : List EC} (h : Side w B b vl ll vw c) (hr : Rec n w w') : Side w' B b vl ll vw c := by
  obtain ⟨⟨l, h1, h2, h3⟩, h4⟩ := h.lst
  exact ⟨⟨hr.at h.log.ob, hr.own h.log.own, fun x hx => hr.own (h.log.bod x hx)⟩, h.eq, ⟨⟨l, hr.own h1, fun x hx => hr.own (h2 x hx), h3⟩, h4⟩, h.sep, h.ord, h.sht⟩
theorem box_cell_grows {w w' : World} {p : Addr} {v : Value} (h : w.cell? p = some v) (hg : Grows w w') : w'.cell? p = some v := (Chg.ofGrows (S := fun _ => False) hg).cellAt h (fun h => h)
theorem rlist_form {w : World} {v : Value} {c : List EC} (h : RList w v c) : ∃ a cap, v = .slice a c.length cap := by
  obtain ⟨⟨l, h1, h2, h3⟩, -⟩ := h
  obtain ⟨a, cap, rfl⟩ := (eown_has h1 h2).len rfl
  have h4 := congrArg List.length h3
  simp only [List.length_map] at h4
  exact ⟨a, cap, by rw [h4]⟩
theorem lall_any (u : Value) (hu : u = .pointer none ∨ ∃ b, u = .pointer (some ⟨b, 0, none⟩)) (w : World) : Calls Try.prog 43 #[u] w (fun e w' => e = .returned (.func (.func 65) #[] #[.pointer (some ⟨w.heap.size, 0, none⟩)]) ∧ Grows w w' ∧ w'.cell? ⟨w.heap.size, 0, none⟩ = some u) := by
  rcases hu with rfl | ⟨b, rfl⟩
  all_goals (
    go_enter Try.func43, Try.ntmps43
    go_wp2
    go_ret
    refine ⟨rfl, by show Below w.heap.size w _; (repeat (first | with_reducible exact Below.refl _ _ | with_reducible refine bl_alloc ?_ _ | ((with_reducible refine bl_set ?_ ?_ _); rotate_left; (first | exact Nat.le_refl _ | exact Nat.le_succ_of_le (Nat.le_refl _) | (simp only []; omega))) | with_reducible refine bl_drewN ?_ _ | with_reducible refine bl_drew ?_ | with_reducible refine bl_reg ?_ _)), ?_⟩
    simp [go_sem])

theorem far_or {i F : Nat} (h : i ≤ F) : (decide ((F : Int) < (i : Int) + 1) = true ∧ i + 1 = F + 1) ∨ (decide ((F : Int) < (i : Int) + 1) = false ∧ i + 1 ≤ F) := by
  by_cases hs : i = F
  · exact .inl ⟨decide_eq_true (by omega), by omega⟩
  · exact .inr ⟨decide_eq_false (by omega), by omega⟩
theorem logGoes_walk (v : Value) (l : List EW) (F : Nat) (hF : F ≤ 255) (w : World) (h : EHas w v l) (hm : l.length ≤ 9223372036854775807) :
    Calls Try.prog 10 #[v, .int .u8 (F : Int)] w (RetV w (.bool true)) := by
  have HC := Lib.hid (fun W (hg : Grows w W) => cut_any v l W (h.grows hg) hm)
  have HW := Lib.hid (fun W => logWorks_any W)
  clear h hm
  have HFF := Lib.hid hF
  clear hF
  refine calls_of_wp_marks Try.func10 rfl ?_
  simp only [Try.ntmps10, List.size_toArray, List.length_cons, List.length_nil, Nat.reduceAdd, Nat.reduceSub, Array.replicate_succ, Array.replicate_zero, List.push_toArray, List.append_toArray, List.nil_append, List.cons_append]
  go_wp2_with fail
  refine (lnew_any _).mono ?_
  rintro e w1 ⟨rfl, hg1, hl1⟩
  have q2 := two_new w (.cells #[.int .u8 (F : Int)] 5) (.cells #[.bool false] 4)
  have q0 := box_grows q2.1 hg1
  have q1 := box_grows q2.2 hg1
  simp only [World.size_alloc] at hl1 ⊢
  obtain ⟨b, eb⟩ : ∃ b, w.heap.size = b := ⟨_, rfl⟩
  have hB1 : Below w.heap.size w w1 := (bl_alloc (bl_alloc (Below.refl _ _) _) _).trans ((hg1 : Below _ _ _).mono (by simp; omega))
  have G1 := Lib.hid hg1
  rw [eb] at hl1 hB1 q0 q1 ⊢
  have hb3 : b + 1 + 1 < w1.heap.size := hl1.lt
  have hb1 : b ≤ w1.heap.size := by omega
  obtain ⟨p, ep⟩ : ∃ p, w1.heap.size = p := ⟨_, rfl⟩
  have hgb : Grows w1 (w1.alloc (.cells #[.slice none 0 0] 47)) := bl_alloc (Below.refl _ _) _
  have hnb := heap_alloc_new w1 (.cells #[.slice none 0 0] 47)
  rw [ep] at hnb hb3
  have hfr : Fr (w1.alloc (.cells #[.slice none 0 0] 47)) b p (F : Int) (.slice none 0 0) := ⟨box_grows q0 hgb, box_grows q1 hgb, hnb⟩
  have FR := Lib.hid hfr
  have H1 := Lib.hid (hl1.grows hgb)
  have B1 := Lib.hid (hB1.trans ((hgb : Below _ _ _).mono hb1))
  have EB := Lib.hid eb
  have GA := Lib.hid (grows_trans _ _ _ (bl_alloc (bl_alloc (Below.refl _ _) _) _ : Grows w _) (grows_trans _ _ _ G1.out hgb))
  have HBP := Lib.hid hb3
  clear hg1 hl1 hB1 eb q2 q0 q1 hnb hgb hfr hb3 hb1 G1
  go_wp2_with fail
  have EP := Lib.hid ep
  clear ep
  refine (HC.out _ GA.out).mono ?_
  rintro e w2 ⟨vc, rfl, hg2, lc, hoc, hbc, hcc⟩
  obtain ⟨n, en⟩ : ∃ n, lc.length = n := ⟨_, rfl⟩
  have hn40 : n ≤ 40 := by
    have h1 := congrArg List.length hcc
    have h2 := cutC_length (cores l)
    simp only [List.length_map] at h1
    omega
  obtain ⟨a, cap, rfl⟩ := (eown_has hoc hbc).len en
  have hsc : Short (cores lc) := by rw [hcc]; exact cutC_short _
  have HSC := Lib.hid hsc
  have hS2 := Side.start (H1.out.grows hg2)
  have S2 := Lib.hid hS2
  have FR2 := Lib.hid (FR.out.grows hg2)
  have B2 := Lib.hid (B1.out.trans ((hg2 : Below _ _ _).mono (Nat.le_trans (by rw [← EB.out]; exact Nat.le_refl _) B1.out.size)))
  have OC := Lib.hid hoc
  have BC := Lib.hid hbc
  have EN := Lib.hid en
  have hrow : ∀ k, (Value.slice a n cap).ownBlock = some k → k < w2.heap.size := fun k hk => (hoc.lt k hk).2
  have HROW := Lib.hid hrow
  clear hg2 hoc hbc hcc en hsc hS2 hrow
  go_wp2_with fail
  go_loopw [8, 16] (fun _ vi wr => ∃ (k : Nat) (vl vw : Value) (ll : List EW) (c : List EC), vi = .int .i64 (k : Int) ∧ k ≤ n ∧ c.length ≤ k ∧ Side wr (b + 1 + 1) (b + 1 + 1) vl ll vw c ∧ w2.heap.size ≤ wr.heap.size ∧ (∀ j, vl.ownBlock = some j → w2.heap.size ≤ j) ∧ EOwn wr (w1.heap.size + 1) (.slice a n cap) lc ∧ Bods wr lc ∧ Below b w wr ∧ Fr wr b p (F : Int) vw) (fun _ vi _ => n - (intOf vi).toNat)
  case atStart => exact ⟨0, _, _, _, _, rfl, Nat.zero_le _, Nat.le_refl _, S2.out, Nat.le_refl _, fun j hj => by simp [Value.ownBlock] at hj, by simpa using OC.out, BC.out, B2.out, FR2.out⟩
  case round =>
    obtain ⟨k, vl, vw, ll, c, rfl, hk, hck, hS, hsz, hnew, hoc, hbc, hB, hFr⟩ := hrel
    have S := Lib.hid hS
    have F0 := Lib.hid hFr
    have HN := Lib.hid hnew
    have OC := Lib.hid hoc
    have BC := Lib.hid hbc
    have BB := Lib.hid hB
    obtain ⟨hlb, hlr, hlp⟩ := hFr.lt
    have hwb : b ≤ wr.heap.size := Nat.le_of_lt hlb
    by_cases hlt : k < n
    · have hk6 : k ≤ 1000000 := Nat.le_trans (Nat.le_of_lt hlt) (Nat.le_trans hn40 (by decide))
      have HNF := Lib.hid (nat_facts k hk6)
      have HWS := Lib.hid (wrap_succ hk6)
      have HKK := Lib.hid hlt
      have hcl : c.length ≤ 100000 := Nat.le_trans hck (Nat.le_trans hk (Nat.le_trans hn40 (by decide)))
      obtain ⟨g, o, c', he, hcap, hg, hat⟩ := (eown_has hoc hbc).form EN.out (Nat.lt_of_le_of_lt (Nat.zero_le _) hlt)
      simp only [Value.slice.injEq, true_and] at he
      obtain ⟨rfl, rfl⟩ := he
      have hkl : k < lc.length := by rw [EN.out]; exact hlt
      obtain ⟨p0, p1, p2, p3, p4⟩ := eat_cells hat k hkl
      have hxm : lc[k] ∈ lc := List.getElem_mem _
      have hxs := HSC.out _ (List.mem_map_of_mem (f := EW.core) hxm)
      have hxb := hbc _ hxm
      obtain ⟨x, ex⟩ : ∃ x, lc[k] = x := ⟨_, rfl⟩
      rw [ex] at p0 p1 p2 p3 p4 hxs hxb
      have HX := Lib.hid hxb
      have HXS := Lib.hid hxs
      have hxl : x.bl ≤ 1000000 := by
        have h1 := (brow_has hxb).1
        simp only at hxs
        rw [← h1]
        exact Nat.le_trans hxs (by decide)
      have hgb : Grows wr (wr.alloc (.cells #[.int .i64 x.a, .int .i64 x.k.t, .int .i64 x.k.f, .int .u32 x.k.s, x.bv] 56)) := bl_alloc (Below.refl _ _) _
      have hwl : b + 1 + 1 ≤ wr.heap.size := hlr
      have hadd := ladd_any x _ (hS.log.grows hgb) (Nat.le_trans hwl hgb.size) (by have h1 := congrArg List.length hS.eq; simp only [List.length_map] at h1; rw [h1]; exact Nat.le_trans hcl (by decide)) (brow_has (own_grows hxb hgb)) hxl
      rw [show AddPost _ _ _ _ ll x = AddPost (wr.alloc (.cells #[.int .i64 x.a, .int .i64 x.k.t, .int .i64 x.k.f, .int .u32 x.k.s, x.bv] 56)) (b + 1 + 1) (b + 1 + 1) vl ll x from rfl] at hadd
      have HA := Lib.hid hadd
      have HCK := Lib.hid (Nat.succ_le_succ hck)
      have HCL := Lib.hid hcl
      have HGB := Lib.hid hgb
      have hbx := heap_alloc_new wr (.cells #[.int .i64 x.a, .int .i64 x.k.t, .int .i64 x.k.f, .int .u32 x.k.s, x.bv] 56)
      have HBX := Lib.hid hbx
      have hkn : (k : Int) < (n : Int) := Int.ofNat_lt.2 hlt
      clear hS hnew hoc hbc hB hat hkl hxm hxs hxb ex hadd hck hcl hbx hk6 hxl hk hn40 hgb hFr
      obtain ⟨j1, j2, j3, j4, j6⟩ := HNF.out
      go_wp2_with fail
      refine (HA.out).mono ?_
      rintro e w3 ⟨rfl, vl3, ll3, hl3, hc3, hch3, ho3⟩
      have hbl : b + 1 + 1 < wr.heap.size := S.out.log.lt
      have q0 : w3.heap[wr.heap.size]? = some (.cells #[.int .i64 x.a, .int .i64 x.k.t, .int .i64 x.k.f, .int .u32 x.k.s, x.bv] 56) := by
        have hob : ∀ j, vl.ownBlock = some j → j < wr.heap.size := fun j hj => (S.out.log.own.lt j hj).2
        rw [hch3.block wr.heap.size (by simp) (fun hs => by
          rcases hs with hs | hs
          · rw [hs] at hbl; exact Nat.lt_irrefl _ hbl
          · exact Nat.lt_irrefl _ (hob _ hs))]
        exact HBX.out
      have hsB := S.out.grows HGB.out
      have F3 := Lib.hid ((F0.out.grows HGB.out).log hsB.log hch3)
      obtain ⟨a0, -⟩ := cell_in q0 0 rfl
      obtain ⟨a1, -⟩ := cell_in q0 1 rfl
      obtain ⟨a2, -⟩ := cell_in q0 2 rfl
      obtain ⟨a3, -⟩ := cell_in q0 3 rfl
      obtain ⟨a4, -⟩ := cell_in q0 4 rfl
      obtain ⟨a5, -⟩ := cell_in F3.out.box 0 rfl
      have hrl := hsB.lst.add hsB.log hch3 hsB.sep
      have hbr := brow_chg (own_grows HX.out HGB.out) hch3 hsB.log.noBytes
      have hvc : ∀ j, (Value.slice (some ⟨g, o, none⟩) n cap).ownBlock = some j → vl.ownBlock ≠ some j := fun j hj hj2 => Nat.lt_irrefl _ (Nat.lt_of_lt_of_le (HROW.out j hj) (HN.out j hj2))
      obtain ⟨hoc3, hbc3⟩ := ents_kept (own_grows OC.out HGB.out) (BC.out.grows HGB.out) hsB.log hch3 hvc
      have hB3 := hsB.log.below (w0 := w) (B := b) (BB.out.trans ((HGB.out : Below _ _ _).mono hwb)) (Nat.le_add_right _ 2) (Nat.le_add_right _ 2) (by rw [← EB.out]; exact Nat.le_refl _) hch3
      have hs3 := hch3.size
      rw [S.out.eq] at hc3
      have HRA := Lib.hid (radd_any vw c x w3 hrl HCL.out hbr)
      have L3 := Lib.hid (And.intro hl3 (And.intro hc3 (And.intro hch3 ho3)))
      have OC3 := Lib.hid hoc3
      have BC3 := Lib.hid hbc3
      have B3 := Lib.hid hB3
      have hsz3 : w2.heap.size ≤ w3.heap.size := Nat.le_trans hsz (Nat.le_trans HGB.out.size hs3)
      have hnew3 : ∀ j, vl3.ownBlock = some j → w2.heap.size ≤ j := fun j hj => by
        rcases ho3 j hj with h | h
        · exact HN.out j h
        · exact Nat.le_trans hsz (Nat.le_trans HGB.out.size h)
      have HN3 := Lib.hid hnew3
      have HSZ3 := Lib.hid hsz3
      have SB := Lib.hid hsB
      have hlp3 : p < w3.heap.size := F3.out.lt.2.2
      clear hl3 hc3 hch3 ho3 q0 hsB hrl hbr hvc hoc3 hbc3 hB3 hs3 hsz3 hnew3 hsz hwb hwl hlb hlr
      go_wp2_with fail
      refine (HRA.out).mono ?_
      rintro e w4 ⟨vw4, rfl, hg4, hl4, ho4⟩
      obtain ⟨ra, rc, rfl⟩ := rlist_form hl4
      have hside := SB.out.next (x := x.core) HXS.out L3.out.1 L3.out.2.1 L3.out.2.2.1 L3.out.2.2.2 hg4 hl4 ho4
      have F4 := Lib.hid (F3.out.grows hg4)
      have hlp4 := F4.out.lt.2.2
      obtain ⟨a6, a7⟩ := cell_in F4.out.box 0 rfl
      have HS4 := Lib.hid hside
      have G4 := Lib.hid hg4
      clear hg4 hl4 ho4 hside a0 a1 a2 a3 a4 a5
      go_wp2_with fail
      go_roundw
      case rel =>
        have hc5 : Chg (fun k => k = p) w4 (w4.setCell ⟨p, 0, none⟩ (.slice ra (addC c x.core).length rc)) := Chg.setCell (Chg.refl _ _) _ (.inr rfl)
        have hb4 := F4.out.box
        have hbp := HBP.out
        exact ⟨k + 1, vl3, _, ll3, _, by rw [HWS.out]; rfl, HKK.out, Nat.le_trans (addC_length _ _) HCK.out, side_box hb4 hc5 HS4.out (by decide) (by decide) (by decide), Nat.le_trans (Nat.le_trans HSZ3.out G4.out.size) hc5.size, HN3.out,
          eown_box hb4 hc5 (own_grows OC3.out G4.out) (by decide), (BC3.out.grows G4.out).chg hc5 (noBytes_box hb4 hc5 (by decide)), bl_set' (B3.out.trans ((G4.out : Below _ _ _).mono (Nat.le_of_lt (Nat.lt_of_lt_of_le (F3.out.lt.1) (Nat.le_refl _))))) (show b ≤ p by omega) _, F4.out.set (by omega) (by omega) _⟩
      case measure => rw [HWS.out]; exact meas_succ HKK.out
    · obtain rfl : k = n := Nat.le_antisymm hk (Nat.le_of_not_lt hlt)
      have hlen : ll.length = c.length := by have h1 := congrArg List.length hS.eq; simpa using h1
      have hcl : c.length ≤ 1000 := Nat.le_trans hck (Nat.le_trans hn40 (by decide))
      have HCL := Lib.hid hcl
      have HLN := Lib.hid hlen
      clear hS hsz hnew hoc hbc hB hcl hlen hk hck hlt hn40 hFr OC BC HN HSC B2 S2 FR2 H1 B1 FR GA
      have qe := fun (W : World) f cs => run_eql_func_nil (P := Try.prog) W 75 f cs Try.underlying75
      have HAL := Lib.hid (fun W => lall_any (.pointer (some ⟨b + 1 + 1, 0, none⟩)) (.inr ⟨_, rfl⟩) W)
      go_wp2_with fail
      refine (HAL.out _).mono ?_
      rintro e w5 ⟨rfl, hg5, hc5⟩
      have F5 := Lib.hid (F0.out.grows hg5)
      have S5 := Lib.hid (S.out.grows hg5)
      have B5 := Lib.hid (BB.out.trans ((hg5 : Below _ _ _).mono hwb))
      have C5 := Lib.hid hc5
      have G5 := Lib.hid hg5
      clear hc5 hg5
      go_wp2_with fail
      obtain ⟨ra, rcap, rfl⟩ := rlist_form S5.out.lst
      obtain ⟨q, eq⟩ : ∃ q, w5.heap.size = q := ⟨_, rfl⟩
      have hpq : p < q := by rw [← eq]; exact F5.out.lt.2.2
      have hqn := heap_alloc_new w5 (.cells #[.int .i64 0] 3)
      have hg6 : Grows w5 (w5.alloc (.cells #[.int .i64 0] 3)) := bl_alloc (Below.refl _ _) _
      rw [eq] at hqn
      have hcc := box_cell_grows C5.out hg6
      have h60 := F5.out.grows hg6
      have h61 := S5.out.grows hg6
      have h62 := B5.out.trans ((hg6 : Below _ _ _).mono (Nat.le_of_lt F5.out.lt.1))
      have hz6 : (w5.alloc (.cells #[.int .i64 0] 3)).heap.size = q + 1 := by simp [eq]
      obtain ⟨w6, e6⟩ : ∃ w6, w5.alloc (.cells #[.int .i64 0] 3) = w6 := ⟨_, rfl⟩
      rw [e6] at hqn hcc h60 h61 h62 hz6
      have H6 := Lib.hid (And.intro h60 (And.intro hqn (And.intro hcc (And.intro h61 (And.intro (Nat.zero_le F) h62)))))
      have HPQ := Lib.hid hpq
      have HZ6 := Lib.hid hz6
      clear hpq hqn hg6 hcc h60 h61 h62 hz6
      rw [eq, e6]
      clear eq e6 
      refine wp_range (α := EW) rfl (enters_of Try.func65 (by kernel_rfl) rfl) EW.val rfl (fun j => j = q) ?hS
        (fun pre W => Fr W b p (F : Int) (.slice ra c.length rcap) ∧ W.heap[q]? = some (.cells #[.int .i64 (pre.length : Int)] 3 (0, 0)) ∧ W.cell? ⟨wr.heap.size, 0, none⟩ = some (.pointer (some ⟨b + 1 + 1, 0, none⟩)) ∧ Side W (b + 1 + 1) (b + 1 + 1) vl ll (.slice ra c.length rcap) c ∧ pre.length ≤ F ∧ Below b w W)
        (GoesG ll)
        (fun cd pre W => cd = .exit 2 ∧ Fr W b p (F : Int) (.slice ra c.length rcap) ∧ W.heap[q]? = some (.cells #[.int .i64 (pre.length : Int)] 3 (0, 0)) ∧ pre.length = F + 1 ∧ pre.length ≤ c.length ∧ Below b w W)
        (fun xs => xs.length = ll.length) ?hI ?hIx ?h0 ?it ?rd ?dn ?st
      case hS => rintro j rfl; rw [HZ6.out]; exact Nat.lt_succ_self _
      case hI =>
        rintro s X Y ⟨h1, h2, h3, h4, h5, h6⟩ hr
        exact ⟨h1.keep hr, hr.at h2, hr.cell1 h3, h4.keep hr, h5, hr.below h6 (by rw [EB.out]; exact Nat.le_refl _) (by rw [HZ6.out]; have := HPQ.out; have := HBP.out; omega)⟩
      case hIx =>
        rintro cd s X Y ⟨h0, h1, h2, h3, h4, h5⟩ hr
        exact ⟨h0, h1.keep hr, hr.at h2, h3, h4, hr.below h5 (by rw [EB.out]; exact Nat.le_refl _) (by rw [HZ6.out]; have := HPQ.out; have := HBP.out; omega)⟩
      case h0 => exact H6.out
      case it =>
        refine all_tells w6 _ (fun s X h => ⟨h.2.2.1, h.2.2.2.1.log⟩) ?_ ?_
        · rw [HLN.out]; exact Nat.le_trans HCL.out (by decide)
        · rw [S.out.eq]; exact S.out.sht
      case rd =>
        intro l0 pre y W hl0 hlt hI hG
        have HI := Lib.hid hI
        have HG := Lib.hid hG
        clear hI hG
        gi_wp2_with fail
        refine ⟨bl_alloc (Below.refl _ _) _, ?_⟩
        intro W2 hr2
        have hgw : Grows W (W.alloc (.cells #[.int .i64 y.a, .int .i64 y.k.t, .int .i64 y.k.f, .int .u32 y.k.s, .slice y.ba y.bl y.bc] 56)) := bl_alloc (Below.refl _ _) _
        obtain ⟨h1, h2, h3, h4, h5, h6⟩ := HI.out
        obtain ⟨x, hx, hxc, hyb⟩ := HG.out
        obtain ⟨i, ei⟩ : ∃ i, pre.length = i := ⟨_, rfl⟩
        rw [ei] at h2 h5 hx
        have f1 := (h1.grows hgw).keep hr2
        have f2 := hr2.at (box_grows h2 hgw)
        have f3 := hr2.cell1 (box_cell_grows h3 hgw)
        have f4 := (h4.grows hgw).keep hr2
        have f6 := hr2.below (h6.trans ((hgw : Below _ _ _).mono (Nat.le_of_lt h1.lt.1))) (by rw [EB.out]; exact Nat.le_refl _) (by rw [HZ6.out]; have := HPQ.out; have := HBP.out; omega)
        have f7 := hr2.at (heap_alloc_new W (.cells #[.int .i64 y.a, .int .i64 y.k.t, .int .i64 y.k.f, .int .u32 y.k.s, .slice y.ba y.bl y.bc] 56))
        have f8 := brow_has (hr2.own (own_grows hyb hgw))
        have hil : i < c.length := by
          have := (List.getElem?_eq_some_iff.1 hx).1
          rw [HLN.out] at this
          exact this
        obtain ⟨⟨lw, how, hbw, hcw⟩, -⟩ := f4.lst
        have hlw : lw.length = c.length := by have h1 := congrArg List.length hcw; simpa using h1
        obtain ⟨g2, o2, c2, he2, hcap2, hg2, hat2⟩ := (eown_has how hbw).form hlw (Nat.lt_of_le_of_lt (Nat.zero_le _) hil)
        simp only [Value.slice.injEq, true_and] at he2
        obtain ⟨rfl, rfl⟩ := he2
        obtain ⟨p0, p1, p2, p3, p4⟩ := eat_cells hat2 i (by rw [hlw]; exact hil)
        obtain ⟨z, ez⟩ : ∃ z, lw[i]'(by rw [hlw]; exact hil) = z := ⟨_, rfl⟩
        have hzb := brow_has (hbw z (by rw [← ez]; exact List.getElem_mem _))
        rw [ez] at p0 p1 p2 p3 p4
        have hzc : z.core = y.core := by
          have e1 : (cores lw)[i]? = some z.core := by rw [List.getElem?_map, List.getElem?_eq_getElem (by rw [hlw]; exact hil), ez]; rfl
          have e2 : (cores ll)[i]? = some x.core := by rw [List.getElem?_map, hx]; rfl
          rw [hcw, ← f4.eq, e2] at e1
          rw [hxc]
          exact (Option.some.inj e1).symm
        have hsame : sameE y z = true := by
          simp only [EW.core, Prod.mk.injEq] at hzc
          exact sameE_of hzc.1.symm hzc.2.1.symm hzc.2.2.symm
        have HRS := Lib.hid (fun W3 (hg : Grows W2 W3) => by have := rsame_any y z W3 (f8.grows hg) (hzb.grows hg); rwa [hsame] at this)
        have hic : decide ((i : Int) ≥ (c.length : Int)) = false := decide_eq_false (by omega)
        have hic2 : (c.length ≤ i) = False := eq_false (Nat.not_le_of_lt hil)
        have hic3 : decide (c.length ≤ i) = false := decide_eq_false (Nat.not_le_of_lt hil)
        have hi6 : i ≤ 1000000 := Nat.le_trans (Nat.le_of_lt hil) (Nat.le_trans HCL.out (by decide))
        have HWS := Lib.hid (wrap_succ hi6)
        have HNF := Lib.hid (nat_facts i hi6)
        have HK := Lib.hid (And.intro f1 (And.intro f2 (And.intro f3 (And.intro f4 (And.intro h5 f6)))))
        obtain ⟨b0, -⟩ := cell_in f1.far 0 rfl
        obtain ⟨b1, -⟩ := cell_in f1.box 0 rfl
        obtain ⟨b2, b2f⟩ := cell_in f2 0 rfl
        obtain ⟨r0, -⟩ := cell_in f7 0 rfl
        obtain ⟨r1, -⟩ := cell_in f7 1 rfl
        obtain ⟨r2, -⟩ := cell_in f7 2 rfl
        obtain ⟨r3, -⟩ := cell_in f7 3 rfl
        obtain ⟨r4, -⟩ := cell_in f7 4 rfl
        have z1 : b < W2.heap.size := f1.lt.1
        have z2 : p < W2.heap.size := f1.lt.2.2
        have z3 : q < W2.heap.size := (Array.getElem?_eq_some_iff.1 f2).1
        have z4 : W.heap.size < W2.heap.size := (Array.getElem?_eq_some_iff.1 f7).1
        have z5 : g2 < W2.heap.size := block_lt_of_cell p0
        have HIL := Lib.hid hil
        have HEI := Lib.hid ei
        clear hgw h1 h2 h3 h4 h5 h6 hx hxc hyb f1 f2 f3 f4 f6 f7 f8 how hbw hcw hlw hat2 ez hzb hzc hsame hi6 hr2 ei HG HI
        gi_wp2_with fail
        obtain ⟨j1, j2, j3, j4, j6⟩ := HNF.out
        refine wpIn_region_reg_round _ (by kernel_rfl) (by kernel_rfl) (by kernel_rfl) ?_
        repeat (refine wpQuietIn_step (fun _ _ _ _ => trivial) (fun K hK => ?_); go_simp; first | (refine hK _ ?_; clear hK K) | (apply Exists.intro; refine ⟨fun _ => ?_, hK _ ?_⟩; ((gi_at_call 41; exact callsIn_reg _ (HRS.out _ (below_reg _ _)))); clear hK K))
        refine wpQuietIn_nil ?_
        intro _ hcw1
        obtain ⟨pq, hcw2⟩ := hcw1
        subst hcw2
        have hg3 : Grows W2 (reg W2 pq) := below_reg _ _
        obtain ⟨W3, e3⟩ : ∃ W3, reg W2 pq = W3 := ⟨_, rfl⟩
        rw [e3] at hg3 ⊢
        clear e3
        obtain ⟨f1, f2, f3, f4, h5, f6⟩ := HK.out
        have f6 := f6.trans ((hg3 : Below _ _ _).mono (Nat.le_of_lt f1.lt.1))
        have f1 := f1.grows hg3
        have f2 := box_grows f2 hg3
        have f3 := box_cell_grows f3 hg3
        have f4 := f4.grows hg3
        have hc3 : Chg (fun j => j = q) W2 W3 := Chg.ofGrows hg3
        clear b0 b1 b2 b2f r0 r1 r2 r3 r4 p0 p1 p2 p3 p4 hg3 HK HRS z1 z2 z3 z4 z5
        obtain ⟨b0, -⟩ := cell_in f1.far 0 rfl
        obtain ⟨b2, b2f⟩ := cell_in f2 0 rfl
        have hne : wr.heap.size ≠ q := fun e => by rw [e, b2] at f3; cases f3
        have hbp := HBP.out
        have hpq := HPQ.out
        obtain ⟨W4, e4⟩ : ∃ W4, W3.setCell ⟨q, 0, none⟩ (.int .i64 ((i : Int) + 1)) = W4 := ⟨_, rfl⟩
        have c4 : Chg (fun j => j = q) W3 W4 := e4 ▸ Chg.setCell (Chg.refl (fun j => j = q) W3) (p := ⟨q, 0, none⟩) (.int .i64 ((i : Int) + 1)) (.inr rfl)
        have g1 : Fr W4 b p (F : Int) _ := e4 ▸ f1.other (q := q) (by omega) (by omega) (by omega) (.int .i64 ((i : Int) + 1))
        have g2 : W4.heap[q]? = _ := e4 ▸ box_set f2 (v := .int .i64 ((i : Int) + 1))
        have g6 : Below b w W4 := e4 ▸ bl_set' f6 (p := ⟨q, 0, none⟩) (show b ≤ q by omega) (.int .i64 ((i : Int) + 1))
        have HK := Lib.hid (And.intro g1 (And.intro g2 (And.intro (c4.cellAt f3 hne) (And.intro (side_box f2 c4 f4 (by decide) (by decide) (by decide)) g6))))
        have HC4 := Lib.hid (hc3.trans c4)
        obtain ⟨b4, -⟩ := cell_in g1.far 0 rfl
        obtain ⟨b5, -⟩ := cell_in g2 0 rfl
        have HI5 := Lib.hid h5
        have hwF := (nat_facts F (Nat.le_trans HFF.out (by decide))).2.2.2.1
        have hws := HWS.out
        have hlen : (pre ++ [y]).length = i + 1 := by simp [HEI.out]
        have HLE := Lib.hid hlen
        clear f1 f2 f3 f4 h5 f6 hc3 hne hbp hpq c4 hlen g1 g2 g6 b0
        have hor := far_or HI5.out
        obtain ⟨t, et⟩ : ∃ t, decide ((F : Int) < (i : Int) + 1) = t := ⟨_, rfl⟩
        rw [et] at hor
        rcases hor with ⟨rfl, hs⟩ | ⟨rfl, hs⟩
        · have HS := Lib.hid hs
          clear hs
          gi_wp2_with fail
          obtain ⟨k1, k2, k3, k4, k5⟩ := HK.out
          have hx2 : ((pre ++ [y]).length : Int) = (i : Int) + 1 := by rw [HLE.out]; rfl
          exact ⟨HC4.out, rfl, k1, by rw [hx2]; exact k2, by rw [HLE.out]; exact HS.out, by rw [HLE.out]; exact HIL.out, k5⟩
        · have HS := Lib.hid hs
          clear hs
          gi_wp2_with fail
          obtain ⟨k1, k2, k3, k4, k5⟩ := HK.out
          have hx2 : ((pre ++ [y]).length : Int) = (i : Int) + 1 := by rw [HLE.out]; rfl
          exact ⟨HC4.out, k1, by rw [hx2]; exact k2, k3, k4, by rw [HLE.out]; exact HS.out, k5⟩
      case dn =>
        rintro D xs W hD hT ⟨h1, h2, h3, h4, h5, h6⟩ hdf
        have hmc : xs.length = c.length := hT.trans HLN.out
        rw [hmc] at h2 h5
        have hmn : min (c.length : Int) ((F : Int) + 1) = (c.length : Int) := by omega
        have hmd : decide ((c.length : Int) < (F : Int) + 1) = true := decide_eq_true (by omega)
        clear h3 h4 h5 hT hmc
        have hb4 := H6.out.1.lt
        obtain ⟨b0, -⟩ := cell_in h1.far 0 rfl
        obtain ⟨b1, -⟩ := cell_in h1.box 0 rfl
        obtain ⟨b2, -⟩ := cell_in h2 0 rfl
        obtain ⟨b3, b3f⟩ := cell_in h1.res 0 rfl
        have hwF := (nat_facts F (Nat.le_trans HFF.out (by decide))).2.2.2.1
        have hws := wrap_succ (Nat.le_trans HFF.out (by decide : 255 ≤ 1000000))
        have HRES := Lib.hid (And.intro h1.res (And.intro hdf h6))
        have HD := Lib.hid hD
        have hbW : b + 1 < W.heap.size := (Array.getElem?_eq_some_iff.1 h1.res).1
        have HBW := Lib.hid hbW
        clear h1 h2 hdf h6 hD hb4 S F0 F5 S5 B5 C5 G5 H6 hbW BB
        go_wp2_with fail
        all_goals (
          refine (HW.out _).mono ?_
          rintro e w7 ⟨rfl, hg7⟩
          obtain ⟨h1, hdf, h6⟩ := HRES.out
          have h1 := box_grows h1 hg7
          have hdf := box_grows hdf hg7
          have h6 := h6.trans ((hg7 : Below _ _ _).mono (Nat.le_of_lt (Nat.lt_of_succ_lt HBW.out)))
          obtain ⟨p5, p6⟩ := cell_in h1 0 rfl
          have hl5 : b + 1 < w7.heap.size := (Array.getElem?_eq_some_iff.1 h1).1
          have H7 := Lib.hid (And.intro hdf h6)
          clear b0 b1 b2 b3 b3f h1 hg7 hdf h6
          go_wp2_with fail
          obtain ⟨hdf, h6⟩ := H7.out
          have hc5 := World.cell?_setCell_same' w7 ⟨b + 1, 0, none⟩ (.bool true) (by rw [p5]; rfl)
          have hD5 : (w7.setCell ⟨b + 1, 0, none⟩ (.bool true)).heap[D]? = some (.deferred (some [])) := (KeepsOthers.setCell w7 ⟨b + 1, 0, none⟩ (.bool true)).same D _ hdf rfl
          refine ⟨by simp, .inl ⟨_, _, rfl, run_takeDeferred hD5, ?_⟩⟩
          have hc6 := cell_kept hc5 (grownBy_putObj' _ D (.deferred none)) (fun r e => by cases e; exact ⟨_, hD5, rfl⟩)
          refine ⟨.bool true, by simp [results, Try.results10, go_sem, hc6], rfl, ?_⟩
          show Below w.heap.size w _
          have h8 := (Rec.put (.deferred none) HD.out hD5 rfl).below (bl_set' h6 (show b ≤ b + 1 from Nat.le_succ _) (.bool true)) (by rw [EB.out]; exact Nat.le_refl _) (by rw [HZ6.out]; have := HPQ.out; have := HBP.out; omega)
          rw [EB.out]
          exact h8)
      case st =>
        rintro D cd pre W hD ⟨rfl, h1, h2, h3, h4, h6⟩ hdf
        rw [h3] at h2 h4
        have hmn : min (c.length : Int) ((F : Int) + 1) = ((F : Int) + 1) := by omega
        have hpl : ((F + 1 : Nat) : Int) = (F : Int) + 1 := rfl
        rw [hpl] at h2
        clear h3 h4 hpl
        have hb4 := H6.out.1.lt
        obtain ⟨b0, -⟩ := cell_in h1.far 0 rfl
        obtain ⟨b1, -⟩ := cell_in h1.box 0 rfl
        obtain ⟨b2, -⟩ := cell_in h2 0 rfl
        obtain ⟨b3, b3f⟩ := cell_in h1.res 0 rfl
        have hwF := (nat_facts F (Nat.le_trans HFF.out (by decide))).2.2.2.1
        have hws := wrap_succ (Nat.le_trans HFF.out (by decide : 255 ≤ 1000000))
        have HRES := Lib.hid (And.intro h1.res (And.intro hdf h6))
        have HD := Lib.hid hD
        have hbW : b + 1 < W.heap.size := (Array.getElem?_eq_some_iff.1 h1.res).1
        have HBW := Lib.hid hbW
        clear h1 h2 hdf h6 hD hb4 S F0 F5 S5 B5 C5 G5 H6 hbW BB
        go_wp2_with fail
        all_goals (
          refine (HW.out _).mono ?_
          rintro e w7 ⟨rfl, hg7⟩
          obtain ⟨h1, hdf, h6⟩ := HRES.out
          have h1 := box_grows h1 hg7
          have hdf := box_grows hdf hg7
          have h6 := h6.trans ((hg7 : Below _ _ _).mono (Nat.le_of_lt (Nat.lt_of_succ_lt HBW.out)))
          obtain ⟨p5, p6⟩ := cell_in h1 0 rfl
          have hl5 : b + 1 < w7.heap.size := (Array.getElem?_eq_some_iff.1 h1).1
          have H7 := Lib.hid (And.intro hdf h6)
          clear b0 b1 b2 b3 b3f h1 hg7 hdf h6
          go_wp2_with fail
          obtain ⟨hdf, h6⟩ := H7.out
          have hc5 := World.cell?_setCell_same' w7 ⟨b + 1, 0, none⟩ (.bool true) (by rw [p5]; rfl)
          have hD5 : (w7.setCell ⟨b + 1, 0, none⟩ (.bool true)).heap[D]? = some (.deferred (some [])) := (KeepsOthers.setCell w7 ⟨b + 1, 0, none⟩ (.bool true)).same D _ hdf rfl
          refine ⟨by simp, .inl ⟨_, _, rfl, run_takeDeferred hD5, ?_⟩⟩
          have hc6 := cell_kept hc5 (grownBy_putObj' _ D (.deferred none)) (fun r e => by cases e; exact ⟨_, hD5, rfl⟩)
          refine ⟨.bool true, by simp [results, Try.results10, go_sem, hc6], rfl, ?_⟩
          show Below w.heap.size w _
          have h8 := (Rec.put (.deferred none) HD.out hD5 rfl).below (bl_set' h6 (show b ≤ b + 1 from Nat.le_succ _) (.bool true)) (by rw [EB.out]; exact Nat.le_refl _) (by rw [HZ6.out]; have := HPQ.out; have := HBP.out; omega)
          rw [EB.out]
          exact h8)
end Go.Proofs.Ytkihhdoejpjbbaa
