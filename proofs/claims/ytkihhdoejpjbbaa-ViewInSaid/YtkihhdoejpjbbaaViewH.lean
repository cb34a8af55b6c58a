/- Views of both, made of whatever views; lists compared. -/
import Derived.Test.YtkihhdoejpjbbaaViewG
namespace Go.Proofs.Ytkihhdoejpjbbaa
open Go.RowKit Go.Sort
set_option maxHeartbeats 2000000
set_option maxRecDepth 100000

/-- Is a view in time? -/
def inTime (l : List VW) (x : VW) : Bool := l.isEmpty || (decide ((lastV l).no < x.no) && decide ((lastV l).tm ≤ x.tm))
def instStep (l : List VW) (x : VW) : List VW := if inTime l x then l ++ [x] else l
def instAll (l : List VW) : List VW := l.foldl instStep []
theorem instAll_take (l : List VW) (k : Nat) (h : k < l.length) : instAll (l.take (k + 1)) = instStep (instAll (l.take k)) l[k] := by
  unfold instAll
  rw [List.take_succ_eq_append_getElem h, List.foldl_append]
  rfl
theorem instStep_length (l : List VW) (x : VW) : (instStep l x).length ≤ l.length + 1 := by
  unfold instStep
  split <;> simp
theorem instStep_ok {l : List VW} {x : VW} (h : AllOk l) (hx : x.ok) : AllOk (instStep l x) := by
  unfold instStep
  split
  · intro y hy
    rcases List.mem_append.1 hy with h1 | h1
    · exact h y h1
    · simp at h1; subst h1; exact hx
  · exact h
theorem inTime_iff (l : List VW) (x : VW) : inTime l x = true ↔ l = [] ∨ ((lastV l).no < x.no ∧ (lastV l).tm ≤ x.tm) := by
  unfold inTime
  cases l <;> simp
theorem late_of {l : List VW} {x : VW} (h : inTime l x = false) : l ≠ [] ∧ (x.no ≤ (lastV l).no ∨ x.tm < (lastV l).tm) := by
  have : ¬ (l = [] ∨ ((lastV l).no < x.no ∧ (lastV l).tm ≤ x.tm)) := fun hc => by rw [(inTime_iff l x).2 hc] at h; cases h
  refine ⟨fun h0 => this (.inl h0), ?_⟩
  by_cases h1 : (lastV l).no < x.no
  · by_cases h2 : (lastV l).tm ≤ x.tm
    · exact absurd (.inr ⟨h1, h2⟩) this
    · exact .inr (by omega)
  · exact .inl (by omega)
/-- The views that there are of the first forty. -/
def madeN (l : List VW) : List VW := instAll (l.take 40)

/-- The head of the loop of made. -/
def MdRel (w : World) (b : Nat) (l : List VW) (rv i : Value) (wr : World) : Prop :=
  ∃ (k : Nat) (v : Value), i = .int .i64 (k : Int) ∧ k ≤ l.length ∧ k ≤ 40 ∧ (instAll (l.take k)).length ≤ k ∧ AllOk (instAll (l.take k)) ∧ ViewsAt wr w.heap.size b v (instAll (l.take k)) ∧ RList wr w.heap.size rv (instAll (l.take k)) ∧
    Below w.heap.size w wr ∧ (∀ k, rv.ownBlock = some k → k ≠ b ∧ v.ownBlock ≠ some k)
/-- What made tells. -/
def Made (w : World) (l : List VW) (e : Ending) (w' : World) : Prop :=
  ∃ (b : Nat) (v rv : Value), e = .returned (.tuple #[.pointer (some ⟨b, 0, none⟩), rv, .bool true]) ∧ Below w.heap.size w w' ∧ ViewsAt w' w.heap.size b v (madeN l) ∧ RList w' w.heap.size rv (madeN l) ∧ AllOk (madeN l) ∧ (madeN l).length ≤ 40

theorem made_any (vl : Value) (l : List VW) (w : World) (h : VHas w vl l) (hm : l.length ≤ 9223372036854775807) (hok : AllOk l) :
    Calls Try.prog 14 #[vl] w (Made w l) := by
  rcases h with ⟨rfl, a, cap, rfl⟩ | ⟨g, o, cap, rfl, hgb, hat⟩
  · go_enter Try.func14, Try.ntmps14
    go_wp2_with fail
    refine (new_any w).mono ?_
    rintro e w1 ⟨rfl, hb1, hv1⟩
    have HB := Lib.hid hb1
    have HV := Lib.hid hv1
    clear hb1 hv1
    go_wp2_with fail
    go_loopw [6, 7] (fun rv i wr => rv = .slice none 0 0 ∧ i = .int .i64 0 ∧ wr = w1) (fun _ _ _ => 0)
    case atStart => exact ⟨rfl, rfl, rfl⟩
    case round =>
      obtain ⟨rfl, rfl, rfl⟩ := hrel
      go_wp2_with fail
      go_ret3
      exact ⟨_, _, _, rfl, HB.out, HV.out, ⟨World.ownsRow_nil _ _ _ _, fun _ => rfl⟩, fun x hx => by simp [madeN, instAll] at hx, by simp [madeN, instAll]⟩
  · obtain ⟨n, en⟩ : ∃ n, l.length = n := ⟨_, rfl⟩
    rw [en] at hm ⊢
    have HAT := Lib.hid hat
    have EN := Lib.hid en
    have HOK := Lib.hid hok
    clear hat en hok
    go_enter Try.func14, Try.ntmps14
    go_wp2_with fail
    refine (new_any w).mono ?_
    rintro e w1 ⟨rfl, hb1, hv1⟩
    have HB := Lib.hid hb1
    have HV := Lib.hid hv1
    clear hb1 hv1
    go_wp2_with fail
    go_loopw [6, 7] (fun rv i wr => MdRel w w.heap.size l rv i wr) (fun _ i _ => n - (intOf i).toNat)
    case atStart => exact ⟨0, _, rfl, Nat.zero_le _, Nat.zero_le _, by simp [instAll], fun x hx => by simp [instAll] at hx, HV.out, ⟨World.ownsRow_nil _ _ _ _, fun _ => rfl⟩, HB.out, fun k hk => by simp [Value.ownBlock] at hk⟩
    case round =>
      clear HV HB
      obtain ⟨k, v, rfl, hk, hk40, hlen, haok, hva, hrl, hbl, hdis⟩ := hrel
      rw [EN.out] at hk
      by_cases hlt : k < n ∧ k < 40
      · obtain ⟨hlt, hlt4⟩ := hlt
        have hkl : k < l.length := by rw [EN.out]; exact hlt
        obtain ⟨c0, c1, c2⟩ := vat_cells HAT.out k hkl
        have d0 := (hbl.cell (p := ⟨g, o + k * 3, none⟩) hgb).trans c0
        have d1 := (hbl.cell (p := ⟨g, o + k * 3 + 1, none⟩) hgb).trans c1
        have d2 := (hbl.cell (p := ⟨g, o + k * 3 + 2, none⟩) hgb).trans c2
        have hx := HOK.out _ (List.getElem_mem hkl)
        have hst := instAll_take l k hkl
        obtain ⟨x, ex⟩ : ∃ x, l[k] = x := ⟨_, rfl⟩
        rw [ex] at d0 d1 d2 hx hst
        have hgr : g < wr.heap.size := Nat.lt_of_lt_of_le hgb hbl.size
        obtain ⟨acc, eacc⟩ : ∃ acc, instAll (l.take k) = acc := ⟨_, rfl⟩
        rw [eacc] at hst hlen haok hva hrl
        have hok2 := instStep_ok haok hx
        have hlen2 := instStep_length acc x
        have HVA := Lib.hid hva
        have HRL := Lib.hid hrl
        have HBL := Lib.hid hbl
        have HDIS := Lib.hid hdis
        have HOK2 := Lib.hid hok2
        have i1 : (0 : Int) ≤ (k : Int) := by omega
        have i2 : (k : Int) < (n : Int) := by omega
        clear c0 c1 c2 ex eacc hva hrl hbl hdis hok2 hx haok
        cases hit : inTime acc x
        · have hacc : instStep acc x = acc := by unfold instStep; rw [hit]; rfl
          rw [hacc] at hst hlen2 HOK2
          have HST := Lib.hid hst
          obtain ⟨l1, l2⟩ := late_of hit
          clear hst hacc hit
          go_wp2_with fail
          refine (rinstall_late wr HRL.out (by omega) x l1 l2).mono ?_
          rintro e w2 ⟨rfl, hg2⟩
          have HG2 := Lib.hid hg2
          have HV2 := Lib.hid (HVA.out.grows hg2)
          have HR2 := Lib.hid (HRL.out.chg (Chg.ofGrows (S := fun _ => False) hg2) (fun _ _ h => h))
          have HB2 := Lib.hid (HBL.out.trans (hg2.mono HBL.out.size))
          have f0 := (hg2.cell (p := ⟨g, o + k * 3, none⟩) hgr).trans d0
          have f1 := (hg2.cell (p := ⟨g, o + k * 3 + 1, none⟩) hgr).trans d1
          have f2 := (hg2.cell (p := ⟨g, o + k * 3 + 2, none⟩) hgr).trans d2
          clear hg2 HVA HRL HBL d0 d1 d2
          go_wp2_with fail
          refine (install_late w2 HV2.out (by omega) x ⟨l1, l2⟩).mono ?_
          rintro e w3 ⟨rfl, hg3⟩
          have HV3 := Lib.hid (HV2.out.grows hg3)
          have HR3 := Lib.hid (HR2.out.chg (Chg.ofGrows (S := fun _ => False) hg3) (fun _ _ h => h))
          have HB3 := Lib.hid (HB2.out.trans (hg3.mono HB2.out.size))
          clear hg3 HV2 HR2 HB2 f0 f1 f2 l1 l2
          go_wp2_with fail
          go_roundw
          case rel =>
            refine ⟨k + 1, v, by go_num, by rw [EN.out]; omega, by omega, ?_, ?_, ?_, ?_, HB3.out, HDIS.out⟩
            · rw [HST.out]; omega
            · rw [HST.out]; exact HOK2.out
            · rw [HST.out]; exact HV3.out
            · rw [HST.out]; exact HR3.out
          case measure => simp [intOf]; omega
        · have hacc : instStep acc x = acc ++ [x] := by unfold instStep; rw [hit]; rfl
          rw [hacc] at hst hlen2 HOK2
          have HST := Lib.hid hst
          have HIT := Lib.hid ((inTime_iff acc x).1 hit)
          clear hst hacc hit
          go_wp2_with fail
          refine (rinstall_ok wr HRL.out (by omega) x HIT.out).mono ?_
          rintro e w2 ⟨rv2, rfl, hg2, hr2⟩
          have HG2 := Lib.hid hg2
          have HV2 := Lib.hid (HVA.out.grows hg2)
          have HR2 := Lib.hid hr2
          have HB2 := Lib.hid (HBL.out.trans (hg2.mono HBL.out.size))
          have f0 := (hg2.cell (p := ⟨g, o + k * 3, none⟩) hgr).trans d0
          have f1 := (hg2.cell (p := ⟨g, o + k * 3 + 1, none⟩) hgr).trans d1
          have f2 := (hg2.cell (p := ⟨g, o + k * 3 + 2, none⟩) hgr).trans d2
          clear hg2 hr2 HRL d0 d1 d2
          go_wp2_with fail
          refine (install_ok w2 HV2.out (by omega) x HIT.out HB2.out.size).mono ?_
          intro e w3 hi3
          have hb3 := HV2.out.below hi3 HB2.out.size
          obtain ⟨rfl, v3, hv3, hc3, hblk3⟩ := hi3
          have hrd : ∀ q, rv2.ownBlock = some q → wr.heap.size ≤ q ∧ q < w2.heap.size := fun q hq => HR2.out.1.lt q hq
          have hvd : ∀ q, v.ownBlock = some q → q < wr.heap.size := fun q hq => (HVA.out.own.lt q hq).2
          have hbd : w.heap.size < wr.heap.size := block_lt_of_cell HVA.out.c0
          have HR3 := Lib.hid (HR2.out.chg hc3 (fun q hq hS => by
            have h1 := hrd q hq
            rcases hS with h2 | h2
            · omega
            · have := hvd q h2; omega))
          have HV3 := Lib.hid hv3
          have HB3 := Lib.hid (HB2.out.trans hb3)
          have HD3 : Hid (∀ q, rv2.ownBlock = some q → q ≠ w.heap.size ∧ v3.ownBlock ≠ some q) := Lib.hid (fun q hq => ⟨by have := hrd q hq; omega, fun hc => by
            have h1 := hrd q hq
            rcases hblk3 q hc with h2 | h2
            · have := hvd q h2; omega
            · omega⟩)
          clear hv3 hc3 hblk3 hrd hvd hb3 HV2 HR2 HB2 f0 f1 f2
          go_wp2_with fail
          go_roundw
          case rel =>
            refine ⟨k + 1, v3, by go_num, by rw [EN.out]; omega, by omega, ?_, ?_, ?_, ?_, HB3.out, HD3.out⟩
            · rw [HST.out]; simp; omega
            · rw [HST.out]; exact HOK2.out
            · rw [HST.out]; exact HV3.out
            · rw [HST.out]; exact ⟨ownsRow_base' HR3.out.1 HBL.out.size, HR3.out.2⟩
          case measure => simp [intOf]; omega
      · have hmd : madeN l = instAll (l.take k) := by
          unfold madeN
          rcases Nat.lt_or_ge k 40 with h1 | h1
          · have : k = n := by omega
            rw [List.take_of_length_le (by rw [EN.out]; omega), List.take_of_length_le (by rw [EN.out]; omega)]
          · have : k = 40 := by omega
            rw [this]
        have hfin : Made w l (.returned (.tuple #[.pointer (some ⟨w.heap.size, 0, none⟩), u6, .bool true])) wr := ⟨_, v, _, rfl, hbl, by rw [hmd]; exact hva, by rw [hmd]; exact hrl, by rw [hmd]; exact haok, by rw [hmd]; omega⟩
        have HF := Lib.hid hfin
        clear hfin hmd hva hrl haok hbl hdis hlen
        by_cases hlt1 : k < n
        · have hlt2 : ¬ k < 40 := fun h => hlt ⟨hlt1, h⟩
          clear hlt
          go_wp2_with fail
          go_ret3
          exact HF.out
        · clear hlt
          go_wp2_with fail
          go_ret3
          exact HF.out
end Go.Proofs.Ytkihhdoejpjbbaa
