/- Logs: what an Add comes to in plain words; the walk of part. -/
import Derived.Test.YtkihhdoejpjbbaaLogC
namespace Go.Proofs.Ytkihhdoejpjbbaa
open Go.RowKit Go.Sort
set_option maxHeartbeats 2000000
set_option maxRecDepth 100000

/-- What an entry says. -/
abbrev EC := Int × KW × List Int
abbrev EW.core (x : EW) : EC := (x.a, x.k, x.b)
abbrev cores (l : List EW) : List EC := l.map EW.core
/-- What is wrong with a key behind these. -/
def addCE (l : List EC) (k : KW) : Int := match l.getLast? with | none => 0 | some y => if cmpK y.2.1 k = 0 then 12 else if 0 < cmpK y.2.1 k then 11 else 0
def addC (l : List EC) (x : EC) : List EC := if addCE l x.2.1 = 0 then l ++ [x] else l
theorem addE_core (l : List EW) (k : KW) : addE l k = addCE (cores l) k := by
  unfold addE addCE lastK
  rw [List.getLast?_map, List.getLastD_eq_getLast?]
  cases hl : l.getLast? with
  | none =>
    have : l = [] := List.getLast?_eq_none_iff.1 hl
    simp [this]
  | some y =>
    have : l ≠ [] := fun hc => by simp [hc] at hl
    simp [this, EW.core]

/-- What an Add leaves behind. -/
def AddPost (w : World) (base b : Nat) (v : Value) (l : List EW) (x : EW) (e : Ending) (w' : World) : Prop :=
  e = .returned (.int .i64 (addCE (cores l) x.k)) ∧ ∃ v' l', LogAt w' base b v' l' ∧ cores l' = addC (cores l) x.core ∧ Chg (LogS b v) w w' ∧ (∀ k, v'.ownBlock = some k → v.ownBlock = some k ∨ w.heap.size ≤ k)
theorem ladd_any (x : EW) (w : World) {base b : Nat} {v : Value} {l : List EW} (h : LogAt w base b v l) (hbase : base ≤ w.heap.size) (hm : l.length ≤ 1000000) (hx : BHas w x.ba x.bl x.bc x.b) (hxl : x.bl ≤ 1000000) :
    Calls Try.prog 31 #[.pointer (some ⟨b, 0, none⟩), x.val] w (AddPost w base b v l x) := by
  by_cases hE : addE l x.k = 0
  · have hok : Calls Try.prog 31 #[.pointer (some ⟨b, 0, none⟩), x.val] w (Added w base b v l x) := by
      by_cases h0 : l = []
      · exact ladd_ok x w h hbase hm hx hxl h0
      · exact ladd_next x w h hbase hm hx hxl h0 hE
    refine hok.mono ?_
    rintro e w' ⟨rfl, v', y, hl, hyb, ya, yk, yb, hc, hv⟩
    rw [addE_core] at hE
    refine ⟨by rw [hE], v', _, hl, ?_, hc, hv⟩
    unfold addC
    rw [if_pos hE]
    simp [EW.core, ya, yk, yb]
  · refine (ladd_no x w h hm hE).mono ?_
    rintro e w' ⟨rfl, hg⟩
    rw [addE_core] at hE ⊢
    refine ⟨rfl, v, l, h.grows hg, ?_, Chg.ofGrows hg, fun k hk => .inl hk⟩
    unfold addC
    rw [if_neg hE]

/-- Some entries in a slice of the call's own, their bodies in rows of their own. -/
def EList (w : World) (base : Nat) (v : Value) (c : List EC) : Prop := ∃ l, EOwn w base v l ∧ Bods w l ∧ cores l = c
/-- .. from some block on. -/
def EListB (w : World) (base : Nat) (v : Value) (c : List EC) : Prop := ∃ l, EOwn w base v l ∧ BodsB w base l ∧ cores l = c
theorem EListB.low {w : World} {base : Nat} {v : Value} {c : List EC} (h : EListB w base v c) : EList w base v c := by
  obtain ⟨l, h1, h2, h3⟩ := h
  exact ⟨l, h1, h2.low, h3⟩
theorem EList.grows {w w' : World} {base : Nat} {v : Value} {c : List EC} (h : EList w base v c) (hg : Grows w w') : EList w' base v c := by
  obtain ⟨l, h1, h2, h3⟩ := h
  exact ⟨l, own_grows h1 hg, h2.grows hg, h3⟩
theorem elist_nil (w : World) (base : Nat) : EList w base (.slice none 0 0) [] := ⟨[], World.ownsRow_nil _ _ _ _, fun x hx => by simp at hx, rfl⟩

theorem row_cells {w : World} {base b n cap : Nat} {a : Option Addr} {l : List EW} (h : LogAt w base b (.slice a n cap) l) (en : l.length = n) (k : Nat) (hk : k < n) : ∃ g o, a = some ⟨g, o, none⟩ ∧ n ≤ cap ∧ g < w.heap.size ∧ ∃ x : EW, l[k]? = some x ∧
    w.cell? ⟨g, o + k * 5, none⟩ = some (.int .i64 x.a) ∧ w.cell? ⟨g, o + k * 5 + 1, none⟩ = some (.int .i64 x.k.t) ∧ w.cell? ⟨g, o + k * 5 + 2, none⟩ = some (.int .i64 x.k.f) ∧ w.cell? ⟨g, o + k * 5 + 3, none⟩ = some (.int .u32 x.k.s) ∧ w.cell? ⟨g, o + k * 5 + 4, none⟩ = some (.slice x.ba x.bl x.bc) ∧ BHas w x.ba x.bl x.bc x.b := by
  have hh := eown_has h.own h.bod
  obtain ⟨g, o, c', he, h1, h2, hat⟩ := hh.form en (by omega)
  simp only [Value.slice.injEq, true_and] at he
  obtain ⟨rfl, rfl⟩ := he
  obtain ⟨q0, q1, q2, q3, q4⟩ := eat_cells hat k (by omega)
  exact ⟨g, o, rfl, h1, h2, l[k]'(by omega), List.getElem?_eq_getElem (by omega), q0, q1, q2, q3, q4, hh.2 _ (List.getElem_mem _)⟩

/-- The entries from one place on, ahead of another one. -/
def partC (c : List EC) (f t : Nat) : List EC := (c.take t).drop f
theorem partC_nil (c : List EC) (f : Nat) : partC c f f = [] := by
  unfold partC
  rw [List.drop_eq_nil_iff]
  simp
  omega
theorem partC_succ (c : List EC) (f k : Nat) (x : EC) (hf : f ≤ k) (hx : c[k]? = some x) : partC c f (k + 1) = partC c f k ++ [x] := by
  obtain ⟨hk, rfl⟩ := List.getElem?_eq_some_iff.1 hx
  unfold partC
  rw [List.take_succ_eq_append_getElem hk, List.drop_append]
  have : (c.take k).length = k := by simp; omega
  rw [this, show f - k = 0 by omega, List.drop_zero]
theorem partC_over (c : List EC) (f t : Nat) (h : t ≤ f) : partC c f t = [] := by
  unfold partC
  rw [List.drop_eq_nil_iff]
  simp
  omega

theorem own_noBytes {w : World} {base n : Nat} {v : Value} {xs : List Value} (h : w.ownsRow base 56 5 v n xs) : NoBytes w (fun k => v.ownBlock = some k) := by
  intro k hk cur hc
  rcases h.2 with ⟨h1, _⟩ | ⟨g, cap, cur', hv, _, hg, _⟩
  · rw [h1] at hk; simp [Value.ownBlock] at hk
  · rw [hv] at hk
    simp only [Value.ownBlock, Option.some.injEq] at hk
    subst hk
    rw [hg] at hc
    injection hc with hc
    injection hc with _ hc
    exact absurd hc (by decide)
/-- All bodies are short. -/
def Short (c : List EC) : Prop := ∀ x ∈ c, x.2.2.length ≤ 1000
theorem partB_any (w : World) {base b : Nat} {v : Value} {l : List EW} (h : LogAt w base b v l) (hm : l.length ≤ 100000) (hs : Short (cores l)) (f t : Nat) (ht : t ≤ l.length) :
    Calls Try.prog 62 #[.pointer (some ⟨b, 0, none⟩), .int .i64 (f : Int), .int .i64 (t : Int)] w (fun e w' => ∃ v', e = .returned v' ∧ Grows w w' ∧ EListB w' w.heap.size v' (partC (cores l) f t)) := by
  obtain ⟨i0, hi, hz0, hz1, hz2⟩ := info_parts Try.infoEnt
  obtain ⟨n, en⟩ : ∃ n, l.length = n := ⟨_, rfl⟩
  obtain ⟨a, cap, rfl⟩ := (eown_has h.own h.bod).len en
  rw [en] at ht hm
  have HH := Lib.hid h
  have EN := Lib.hid en
  have HS := Lib.hid hs
  have hbl := h.lt
  clear h en hs
  go_enter Try.func62, Try.ntmps62
  go_wp2_with fail
  go_loopw [7, 8] (fun vo vi wr => ∃ k : Nat, vi = .int .i64 (k : Int) ∧ f ≤ k ∧ (k ≤ t ∨ k = f) ∧ Grows w wr ∧ ∃ l2, EOwn wr w.heap.size vo l2 ∧ BodsB wr w.heap.size l2 ∧ cores l2 = partC (cores l) f k) (fun _ vi _ => t - (intOf vi).toNat)
  case atStart => exact ⟨f, rfl, Nat.le_refl _, .inr rfl, grows_refl _, [], World.ownsRow_nil _ _ _ _, fun x hx => by simp at hx, (partC_nil _ _).symm⟩
  case round =>
    obtain ⟨k, rfl, hfk, hk, hgr, l2, hown, hbod, hcor⟩ := hrel
    have HG := Lib.hid hgr
    have HO := Lib.hid hown
    have HB := Lib.hid hbod
    have HC := Lib.hid hcor
    clear hgr hown hbod hcor
    by_cases hlt : k < t
    · have hk6 : k ≤ 1000000 := Nat.le_trans (Nat.le_of_lt hlt) (Nat.le_trans ht (Nat.le_trans hm (by decide)))
      have HNF := Lib.hid (nat_facts k hk6)
      have HWS := Lib.hid (wrap_succ hk6)
      clear hk6
      have hlog := HH.out.grows HG.out
      obtain ⟨g, o, rfl, hcap, hg, x, hx, q0, q1, q2, q3, q4, hbx⟩ := row_cells hlog EN.out k (by omega)
      obtain ⟨c0, -⟩ := hlog.c0
      have hbl2 := hlog.lt
      have hxc : (cores l)[k]? = some x.core := by rw [List.getElem?_map, hx]; rfl
      have hxs : x.bl ≤ 1000000 := by
        have h1 := HS.out _ (List.mem_of_getElem? hxc)
        have h2 := hbx.1
        simp only at h1
        omega
      have hown2 := own_any x wr hbx hxs
      have hst := partC_succ (cores l) f k _ hfk hxc
      have hl2 : l2.length ≤ 100000 := by
        have := congrArg List.length HC.out
        simp [partC] at this
        omega
      have hgr0 := HG.out.size
      have HW := Lib.hid hown2
      have HST := Lib.hid hst
      have HL2 := Lib.hid hl2
      have hkn : k < n := by omega
      have HKK := Lib.hid (And.intro hfk hlt)
      clear hown2 hst hx hxc hxs hbx hlog hl2 hfk hk ht
      obtain ⟨j1, j2, j3, j4, j6⟩ := HNF.out
      clear hm
      go_wp2_with fail
      refine (HW.out).mono ?_
      rintro e w2 ⟨ca, cl, cc, rfl, hbr, hg2⟩
      have HO2 := Lib.hid (own_grows HO.out hg2)
      have HB2 := Lib.hid (HB.out.grows hg2)
      have HG2 := Lib.hid (grows_trans _ _ _ HG.out hg2)
      have HBR := Lib.hid hbr
      have hs2 := HG2.out.size
      clear hbr hg2
      go_wp2_with (at_builtin; refine wpList_append_own _ rfl _ _ 47 rfl w.heap.size 56 i0 _ 5 56 Try.underlying47 hi hz0 hz1 hz2 rfl (by decide) _ l2.length (evs l2) rfl (HO2.out.alloc _) ⟨w2.heap.size, 0, none⟩ 1 1 [.int .i64 x.a, .int .i64 x.k.t, .int .i64 x.k.f, .int .u32 x.k.s, .slice ca cl cc] rfl rfl ?aq1 ?aq2 ?aq3 ?aq4 ?aq5 ?_)
      case aq1 => exact World.news_of_block (heap_alloc_new w2 _)
      case aq2 => exact ev_one ⟨x.a, x.k, ca, cl, cc, x.b⟩
      case aq3 => have := HL2.out; unfold maxLen; omega
      case aq4 => have := HL2.out; omega
      case aq5 => simp; omega
      intro v' w3 hown3 hgrow _
      have hg3 : Grows w w3 := grows_of_grownBy (bl_alloc HG2.out _) hgrow (fun kk hkk => (HO2.out.lt kk hkk).1)
      have hch : Chg (fun k => u7.ownBlock = some k) w2 w3 := (Chg.alloc (Chg.refl _ _) _).trans (Chg.ofRow hgrow)
      have hnb : NoBytes w2 (fun k => u7.ownBlock = some k) := own_noBytes HO2.out
      have hl3 : ∃ l3, EOwn w3 w.heap.size v' l3 ∧ BodsB w3 w.heap.size l3 ∧ cores l3 = partC (cores l) f (k + 1) := by
        refine ⟨l2 ++ [⟨x.a, x.k, ca, cl, cc, x.b⟩], ?_, ?_, ?_⟩
        · show World.ownsRow _ _ _ _ _ _ _
          rw [List.length_append, evs, List.flatMap_append]
          simpa using hown3
        · intro z hz
          rw [List.mem_append] at hz
          rcases hz with hz | hz
          · exact brow_chg (HB2.out z hz) hch hnb
          · simp at hz
            subst hz
            exact brow_chg (row_base HBR.out hgr0) hch hnb
        · rw [HST.out, ← HC.out]
          simp
      have HL3 := Lib.hid hl3
      have HG3 := Lib.hid hg3
      clear hown3 hgrow hg3 hch hnb hl3
      go_wp2_with fail
      go_roundw
      case rel => exact ⟨k + 1, by rw [HWS.out]; rfl, Nat.le_succ_of_le HKK.out.1, .inl HKK.out.2, HG3.out, HL3.out⟩
      case measure => rw [HWS.out]; exact meas_succ HKK.out.2
    · have hcor2 : partC (cores l) f k = partC (cores l) f t := by
        rcases hk with hk | rfl
        · rw [show k = t by omega]
        · rw [partC_nil, partC_over _ _ _ (by omega)]
      have HC2 := Lib.hid (HC.out.trans hcor2)
      clear hcor2 hk ht hm hfk
      go_wp2_with fail
      go_ret
      exact ⟨_, rfl, HG.out, l2, HO.out, HB.out, HC2.out⟩
theorem part_any (w : World) {base b : Nat} {v : Value} {l : List EW} (h : LogAt w base b v l) (hm : l.length ≤ 100000) (hs : Short (cores l)) (f t : Nat) (ht : t ≤ l.length) :
    Calls Try.prog 62 #[.pointer (some ⟨b, 0, none⟩), .int .i64 (f : Int), .int .i64 (t : Int)] w (fun e w' => ∃ v', e = .returned v' ∧ Grows w w' ∧ EList w' w.heap.size v' (partC (cores l) f t)) :=
  (partB_any w h hm hs f t ht).mono fun _ _ ⟨v', h1, h2, h3⟩ => ⟨v', h1, h2, h3.low⟩
end Go.Proofs.Ytkihhdoejpjbbaa
