/- Bytes of which bits are turned: the document's walk. -/
import Derived.Test.YtfmpppdcbeadnaaDoorBurstT
namespace Go.Proofs.YtfmpppdcbeadnaaDoor
open Go.RowKit Go.Sort

theorem turnN_zero (l : List Nat) (p : Nat) : turnN l p 0 = l := by
  apply List.ext_getElem (turnN_length _ _ _)
  intro m h1 h2
  rw [turnN_get _ _ _ _ h2]
  simp [byteAt]

set_option maxHeartbeats 1000000 in
theorem rturn_some (b o cap : Nat) (l : List Nat) (p x : Nat) (w : World) (hb : b < w.heap.size) (hl : okB l) (hc : bytesAt w b o l) (h0 : 0 < l.length) (h1 : l.length ≤ 1000) (hx : x < 4294967296) (hp1 : p < 8 * l.length) :
    Calls Tryd.prog 16 #[.slice (some ⟨b, o, none⟩) l.length cap, .int .i64 (p : Int), .int .u32 (x : Int)] w (fun e w' => ∃ v, e = .returned v ∧ Grows w w' ∧ BA w' v (turnN l p x)) := by
  obtain ⟨i0, hi, hz0, hz1, hz2⟩ := info_parts Tryd.infoByte
  obtain ⟨n, hn⟩ : ∃ n, l.length = n := ⟨_, rfl⟩
  have hst := fun k => turnN_on (l := l) (p := p) (x := x) (i := k)
  have hof := fun k => turnN_off (l := l) (p := p) (x := x) (i := k)
  rw [hn] at h0 h1 hp1 ⊢
  have HC := Lib.hid hc
  have HST := Lib.hid hst
  have HOF := Lib.hid hof
  clear hc hst hof
  go_enter Tryd.func16, Tryd.ntmps16
  go_wp2_with (first | (at_builtin; refine wpList_append_own _ rfl _ _ 22 rfl w.heap.size 5 i0 (.int .u8 0) 1 1 Tryd.underlying22 hi hz0 hz1 hz2 rfl (by decide) _ 0 [] rfl ?c0 ⟨b, o, none⟩ n cap (bv l) rfl ?c1 ?c2 ?c3 ?c4 ?c5 ?c6 ?_))
  case c0 => exact World.ownsRow_lit w #[] 0 (Nat.le_refl _) (by decide) rfl
  case c1 => simp [bv]; omega
  case c2 =>
    intro j u hu
    obtain ⟨hj, rfl⟩ := bv_get _ _ _ hu
    rw [← HC.out j hj, addr_add]
    exact (bl_alloc (Below.refl _ _) _ : Below w.heap.size w _).cell (p := ⟨b, o + j, none⟩) hb
  case c3 => exact bv_one _
  case c4 => unfold maxLen; omega
  case c5 => omega
  case c6 => simp
  intro v' w1 hown hgrow _
  have hg : Grows w w1 := grows_of_grownBy (bl_alloc (Below.refl _ _) _) hgrow (by rintro k hk; cases hk; exact Nat.le_refl _)
  try simp only [Nat.zero_add, List.nil_append] at hown
  obtain ⟨g, c2, rfl, hg1, hg2⟩ := ba_own hown h0
  clear hgrow
  go_wp2_with fail
  go_loopw [8] (fun i wr => ∃ k : Nat, i = .int .i64 (k : Int) ∧ k ≤ 32 ∧ Grows w wr ∧
    wr.ownsRow w.heap.size 5 1 (.slice (some ⟨g, 0, none⟩) n c2) n (bv (turnN l p (x % 2 ^ k)))) (fun i _ => 32 - (intOf i).toNat)
  case atStart =>
    refine ⟨0, rfl, by omega, hg, ?_⟩
    rw [Nat.pow_zero, Nat.mod_one, turnN_zero]
    exact hown
  case round =>
    obtain ⟨k, rfl, hk, hgr, hor⟩ := hrel
    have HO := Lib.hid hor
    have HG := Lib.hid hgr
    clear hor hgr
    by_cases hlt : k < 32
    · have hst := HST.out k
      have hof := HOF.out k
      have hbi := bit_eq x k
      have hj : ((p : Int) + (k : Int)) / 8 = (((p + k) / 8 : Nat) : Int) := by omega
      have ht : ((p : Int) + (k : Int)) % 8 = (((p + k) % 8 : Nat) : Int) := by omega
      have ht8 : (p + k) % 8 < 8 := Nat.mod_lt _ (by omega)
      obtain ⟨j, ej⟩ : ∃ j, (p + k) / 8 = j := ⟨_, rfl⟩
      obtain ⟨t, et⟩ : ∃ t, (p + k) % 8 = t := ⟨_, rfl⟩
      rw [ej] at hst hof hj
      rw [et] at hst ht ht8
      by_cases hb1 : bitAt x k
      · rw [decide_eq_true hb1] at hbi
        by_cases hjn : j < n
        · have hlj : j < (turnN l p (x % 2 ^ k)).length := by rw [turnN_length]; omega
          have hu : 2 ^ t < 256 := by
            have : 2 ^ t < 2 ^ 8 := Nat.pow_lt_pow_right (by omega) ht8
            simpa using this
          have hst2 := hst hb1 (by omega)
          obtain ⟨q, hq⟩ : ∃ q, (turnN l p (x % 2 ^ k))[j] = q := ⟨_, rfl⟩
          have hq256 : q < 256 := by rw [← hq]; exact okB_turnN hl _ _ _ (List.getElem_mem hlj)
          have hcell : wr.cell? ⟨g, j, none⟩ = some (.int .u8 (q : Int)) := by
            rw [(HO.out).cellAt j (by omega)]
            unfold bv
            rw [List.getElem?_map, List.getElem?_eq_getElem hlj, hq]
            rfl
          have hfz : wr.frozen? ⟨g, j, none⟩ = false := (HO.out).frozenAt j
          have hxor := u8_xor_nat q (2 ^ t) hq256 hu
          rw [hq] at hst2
          obtain ⟨u, hu2⟩ : ∃ u, 2 ^ t = u := ⟨_, rfl⟩
          have hsh : IntKind.u8.wrap (2 ^ t) = (u : Int) := by
            have e : (2 : Int) ^ t = ((2 ^ t : Nat) : Int) := by simp
            rw [e, hu2]
            simp only [IntKind.wrap, IntKind.signed, IntKind.bits]
            simp
            omega
          rw [hu2] at hxor hst2 hu
          obtain ⟨r, hr⟩ : ∃ r, q ^^^ u = r := ⟨_, rfl⟩
          rw [hr] at hxor hst2
          have hown2 := (HO.out).stored j (.int .u8 (r : Int))
          rw [bv_set, ← hst2] at hown2
          have HO2 := Lib.hid hown2
          clear hst hof hst2 hq hu2 hr hown2 hown
          go_wp2_with fail
          go_roundw
          case rel => exact ⟨k + 1, by go_num, by omega, bl_set HG.out hg1 _, (HO2.out).1⟩
          case measure => simp [intOf]; omega
        · have hof2 := hof (.inr (by omega))
          have hown2 := HO.out
          rw [← hof2] at hown2
          have HO2 := Lib.hid hown2
          clear hst hof hof2 hown2 hown
          go_wp2_with fail
          go_roundw
          case rel => exact ⟨k + 1, by go_num, by omega, HG.out, HO2.out⟩
          case measure => simp [intOf]; omega
      · rw [decide_eq_false hb1] at hbi
        have hof2 := hof (.inl hb1)
        have hown2 := HO.out
        rw [← hof2] at hown2
        have HO2 := Lib.hid hown2
        clear hst hof hof2 hown2 hown
        go_wp2_with fail
        go_roundw
        case rel => exact ⟨k + 1, by go_num, by omega, HG.out, HO2.out⟩
        case measure => simp [intOf]; omega
    · have hk32 : k = 32 := by omega
      subst hk32
      have hba : BA wr (.slice (some ⟨g, 0, none⟩) n c2) (turnN l p x) := by
        have := HO.out
        rw [Nat.mod_eq_of_lt (by simpa using hx)] at this
        exact ba_of_owns (base := w.heap.size) (n := n) (okB_turnN hl p x) (by rw [turnN_length]; exact hn.symm) this
      have HBA := Lib.hid hba
      clear hba hown
      go_wp2_with fail
      go_ret
      exact ⟨_, rfl, HG.out, HBA.out⟩

theorem rturn_nil (b : Option Addr) (cap pos x : Nat) (w : World) :
    Calls Tryd.prog 9 #[.slice b 0 cap, .int .u32 (pos : Int), .int .u32 (x : Int)] w (fun e w' => e = .returned (.slice none 0 0) ∧ w = w') := by
  go_enter Tryd.func9, Tryd.ntmps9
  go_wp2
  go_ret
  exact ⟨rfl, rfl⟩
set_option maxHeartbeats 1000000 in
theorem rturn_more (b o cap : Nat) (l : List Nat) (pos x : Nat) (w : World) (hb : b < w.heap.size) (hl : okB l) (hc : bytesAt w b o l) (h0 : 0 < l.length) (h1 : l.length ≤ 1000) (hx : x < 4294967296) (hpos : pos < 4294967296) :
    Calls Tryd.prog 9 #[.slice (some ⟨b, o, none⟩) l.length cap, .int .u32 (pos : Int), .int .u32 (x : Int)] w (fun e w' => ∃ v, e = .returned v ∧ Grows w w' ∧ BA w' v (turnN l (pos % (8 * l.length)) x)) := by
  have hp1 : pos % (8 * l.length) < 8 * l.length := Nat.mod_lt _ (by omega)
  have hcall := rturn_some b o cap l (pos % (8 * l.length)) x w hb hl hc h0 h1 hx hp1
  obtain ⟨n, hn⟩ : ∃ n, l.length = n := ⟨_, rfl⟩
  rw [hn] at h0 h1 hp1 hcall ⊢
  obtain ⟨p, hp⟩ : ∃ p, pos % (8 * n) = p := ⟨_, rfl⟩
  rw [hp] at hp1 hcall ⊢
  have hpi : (pos : Int).tmod (8 * (n : Int)) = (p : Int) := by
    rw [Int.tmod_eq_emod_of_nonneg (by omega), ← hp]
    simp
  have hn0 : ((n : Int) == 0) = false := by simp; omega
  have HCALL := Lib.hid hcall
  clear hcall hc hp
  go_enter Tryd.func9, Tryd.ntmps9
  go_wp2_with (go_at_call 16; refine (HCALL.out).mono ?_; rintro e w' ⟨v, rfl, hg, hba⟩)
  go_ret
  exact ⟨_, rfl, hg, hba⟩
/-- The document's: any bytes of which any bits are turned. -/
theorem rturn_any (v : Value) (l : List Nat) (pos x : Nat) (w : World) (h : BA w v l) (h1 : l.length ≤ 1000) (hx : x < 4294967296) (hpos : pos < 4294967296) :
    Calls Tryd.prog 9 #[v, .int .u32 (pos : Int), .int .u32 (x : Int)] w (fun e w' => ∃ v, e = .returned v ∧ Grows w w' ∧ BA w' v (turnN l (pos % (8 * l.length)) x)) := by
  obtain ⟨h2, ⟨b, o, cap, rfl, h3, h4, h5⟩ | ⟨rfl, rfl⟩⟩ := h
  · by_cases h0 : l = []
    · subst h0
      exact (rturn_nil _ cap pos x w).mono (by rintro e w' ⟨rfl, rfl⟩; exact ⟨_, rfl, Below.refl _ _, ba_nil _⟩)
    · exact rturn_more b o cap l pos x w h4 h2 h5 (List.length_pos_iff.2 h0) h1 hx hpos
  · exact (rturn_nil _ 0 pos x w).mono (by rintro e w' ⟨rfl, rfl⟩; exact ⟨_, rfl, Below.refl _ _, ba_nil _⟩)
end Go.Proofs.YtfmpppdcbeadnaaDoor
