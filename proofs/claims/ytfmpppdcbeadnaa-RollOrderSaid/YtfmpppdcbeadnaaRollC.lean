/- The walk of RollMost. -/
import Derived.Test.YtfmpppdcbeadnaaRollB
import Derived.Test.YtfmpppdcbeadnaaRollO
namespace Go.Proofs.Ytfmpppdcbeadnaa
open Go.RowKit Go.Sort Go.Maps
set_option maxHeartbeats 1000000
set_option maxRecDepth 100000

theorem noteD_size (D : DataW Unit) (hT : Maps.Tidy D) (most no f : Int) (hs : (Maps.size D : Int) ≤ most) : (Maps.size (noteD D most no f) : Int) ≤ most := by
  unfold noteD
  split
  · rename_i h0
    rw [Maps.size_put hT]
    split
    · exact hs
    · rename_i hh
      have : ¬ (most ≤ Maps.size D) := by
        intro hf
        unfold noteE at h0
        rw [if_pos (show Maps.has D (keyL no) = false ∧ most ≤ Maps.size D from ⟨by simpa using hh, hf⟩)] at h0
        split at h0
        · cases h0
        · split at h0 <;> cases h0
      omega
  · exact hs

/-- What holds at the head of RollMost's loop. -/
def MostRel (w : World) (n : Nat) (q : Int) (i : Value) (wr : World) : Prop := ∃ (k : Nat) (D : DataW Unit), k ≤ n ∧ k ≤ 50 ∧ i = .int .i64 k ∧ RollAt wr (w.heap.size + 1) w.heap.size D q ∧ (Maps.size D : Int) ≤ q ∧ Below w.heap.size w wr

theorem rollMost_walk (q : Int) (l : List (Int × Int × Int)) (v : Value) (w : World) (hq : 0 ≤ q ∧ q ≤ 255) (hl : ActsAt w v l) :
    Calls Try.prog 8 #[.int .u8 q, v] w (RetV w (.bool true)) := by
  obtain ⟨hq1, hq2⟩ := hq
  have r0 : 0 ≤ q % 5 := by omega
  have r1 : q % 5 ≤ 4 := by omega
  rcases hl with ⟨rfl, a, cap, rfl⟩ | ⟨b, o, cap, rfl, hlen, hb, hc⟩
  · go_enter Try.func8, Try.ntmps8
    go_wp2_with fail
    refine (new_any (q % 5) _ r0 (by omega)).mono ?_
    rintro e w1 ⟨rfl, hr, hbl⟩
    go_wp2_with fail
    go_loopw [6] (fun i wr => MostRel w 0 (q % 5) i wr) (fun _ _ => 0)
    case atStart => exact ⟨0, .map [], Nat.zero_le _, Nat.zero_le _, rfl, hr, by simpa [Maps.size] using r0, hbl⟩
    case round =>
      clear hr hbl
      obtain ⟨k, D, hk, _, rfl, _, _, hbl⟩ := hrel
      obtain rfl : k = 0 := by omega
      have HB := Lib.hid hbl
      clear hbl
      go_wp2_with (first | (go_at_call 22; refine (rollWorks_any _).mono ?_; rintro e w2 ⟨rfl, hb2⟩))
      go_ret
      exact ⟨rfl, bl_trans HB.out hb2⟩
  · unfold maxLen at hlen
    have HC := Lib.hid hc
    clear hc
    go_enter Try.func8, Try.ntmps8
    go_wp2_with fail
    refine (new_any (q % 5) _ r0 (by omega)).mono ?_
    rintro e w1 ⟨rfl, hr, hbl⟩
    go_wp2_with fail
    go_loopw [6] (fun i wr => MostRel w l.length (q % 5) i wr) (fun i _ => l.length - (intOf i).toNat)
    case atStart => exact ⟨0, .map [], Nat.zero_le _, Nat.zero_le _, rfl, hr, by simpa [Maps.size] using r0, hbl⟩
    case round =>
      clear hr hbl
      obtain ⟨k, D, hk, hk5, rfl, hr, hsz, hbl⟩ := hrel
      by_cases hlt : k < l.length ∧ k < 50
      · obtain ⟨hlt, hlt5⟩ := hlt
        obtain ⟨_, x1, x2, _, hno, _⟩ := HC.out k hlt
        have y1 := (hbl.cell (p := ⟨b, o + k * 3 + 1, none⟩) hb).trans x1
        have y2 := (hbl.cell (p := ⟨b, o + k * 3 + 2, none⟩) hb).trans x2
        obtain ⟨no, eno⟩ : ∃ no, l[k].2.1 = no := ⟨_, rfl⟩
        obtain ⟨f, ef⟩ : ∃ f, l[k].2.2 = f := ⟨_, rfl⟩
        rw [eno] at y1 hno
        rw [ef] at y2
        have hT := hr.own.tidy setLaw
        have hs2 := noteD_size D hT (q % 5) no f hsz
        have hs1 : Maps.size D < maxLen := by unfold maxLen; omega
        have hb' : b < wr.heap.size := Nat.lt_of_lt_of_le hb hbl.size
        have i1 : (0 : Int) ≤ (k : Int) := by omega
        have i2 : (k : Int) < (l.length : Int) := by omega
        have i3 : (k : Int) < 50 := by omega
        have HR := Lib.hid hr
        have HB := Lib.hid hbl
        clear x1 x2 eno ef hr hbl hT
        go_wp2_with fail
        refine wp_region_tail_reg 11 (by kernel_rfl) (by kernel_rfl) (by kernel_rfl) (by kernel_rfl) ?_
        simp only [List.take_succ_cons, List.take_zero, List.drop_succ_cons, List.drop_zero]
        repeat (first | go_big_quiet_step ((fail)) | quiet_step ((fail)))
        refine wpQuiet_nil ?_
        intro _ hcw1
        obtain ⟨pq, hcw2⟩ := hcw1
        subst hcw2
        go_wp2_with fail
        refine (note_any _ (HR.out.reg pq) no f hno hs1).mono ?_
        rintro e w2 ⟨rfl, hr2, hg2⟩
        have HB2 := Lib.hid (bl_grown (bl_reg HB.out pq) hg2 (Nat.le_refl _))
        have HR2 := Lib.hid hr2
        clear hr2 hg2 HR HB y1 y2
        go_wp2_with (first | (go_at_call 21; refine (len_any _ HR2.out).mono ?_; rintro e w' ⟨rfl, rfl⟩))
        go_roundw
        case rel => exact ⟨k + 1, _, by omega, by omega, by go_num, HR2.out, hs2, HB2.out⟩
        case measure => simp [intOf]; omega
      · have HB := Lib.hid hbl
        clear hr hbl
        by_cases hlt1 : k < l.length
        · have hlt2 : ¬ k < 50 := fun h => hlt ⟨hlt1, h⟩
          clear hlt
          go_wp2_with (first | (go_at_call 22; refine (rollWorks_any _).mono ?_; rintro e w2 ⟨rfl, hb2⟩))
          go_ret
          exact ⟨rfl, bl_trans HB.out hb2⟩
        · clear hlt
          go_wp2_with (first | (go_at_call 22; refine (rollWorks_any _).mono ?_; rintro e w2 ⟨rfl, hb2⟩))
          go_ret
          exact ⟨rfl, bl_trans HB.out hb2⟩
end Go.Proofs.Ytfmpppdcbeadnaa
