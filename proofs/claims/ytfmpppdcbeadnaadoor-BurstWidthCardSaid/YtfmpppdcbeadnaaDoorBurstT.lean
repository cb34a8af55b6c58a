/- Bytes of which bits are turned: the program's walk. -/
import Derived.Test.YtfmpppdcbeadnaaDoorBurstP
import Derived.Laws.OwnMore
namespace Go.Proofs.YtfmpppdcbeadnaaDoor
open Go.RowKit Go.Sort

theorem bv_set (l : List Nat) (j y : Nat) : (bv l).set j (.int .u8 (y : Int)) = bv (l.set j y) := by
  unfold bv
  rw [List.map_set]
theorem ba_own {w : World} {base n : Nat} {v : Value} {l : List Nat} (h : w.ownsRow base 5 1 v n (bv l)) (hn : 0 < n) :
    ∃ g cap, v = .slice (some ⟨g, 0, none⟩) n cap ∧ base ≤ g ∧ g < w.heap.size := by
  rcases h.2 with ⟨_, h2⟩ | ⟨g, cap, cur, hv, hb, hg, _⟩
  · omega
  · exact ⟨g, cap, hv, hb, (Array.getElem?_eq_some_iff.1 hg).1⟩

theorem u8_xor_nat (a b : Nat) (ha : a < 256) (hb : b < 256) : bits .xor .u8 (a : Int) (b : Int) = ((a ^^^ b : Nat) : Int) := by
  have hx : a ^^^ b < 2 ^ 8 := Nat.xor_lt_two_pow (n := 8) ha hb
  have h1 : (BitVec.ofInt 8 (a : Int)).toNat = a := by
    rw [BitVec.ofInt_natCast, BitVec.toNat_ofNat]; exact Nat.mod_eq_of_lt (by omega)
  have h2 : (BitVec.ofInt 8 (b : Int)).toNat = b := by
    rw [BitVec.ofInt_natCast, BitVec.toNat_ofNat]; exact Nat.mod_eq_of_lt (by omega)
  show IntKind.u8.wrap ((BitVec.ofInt 8 (a : Int) ^^^ BitVec.ofInt 8 (b : Int)).toNat : Int) = _
  rw [BitVec.toNat_xor, h1, h2]
  simp only [IntKind.wrap, IntKind.signed, IntKind.bits]
  simp
  omega

set_option maxHeartbeats 1000000 in
theorem turn_some (b o cap : Nat) (l : List Nat) (pos x : Nat) (w : World) (hb : b < w.heap.size) (hl : okB l) (hc : bytesAt w b o l) (hcap : l.length ≤ cap) (h0 : 0 < l.length) (h1 : l.length ≤ 1000) (hx : x < 4294967296) (hpos : pos < 4294967296) :
    Calls Tryd.prog 8 #[.slice (some ⟨b, o, none⟩) l.length cap, .int .u32 (pos : Int), .int .u32 (x : Int)] w (fun e w' => ∃ v, e = .returned v ∧ Grows w w' ∧ BA w' v (turnN l (pos % (8 * l.length)) x)) := by
  obtain ⟨i0, hi, hz0, hz1, hz2⟩ := info_parts Tryd.infoByte
  obtain ⟨n, hn⟩ : ∃ n, l.length = n := ⟨_, rfl⟩
  rw [hn] at h0 h1 ⊢
  have HC := Lib.hid hc
  clear hc
  have hn0 : ((n : Int) == 0) = false := by simp; omega
  obtain ⟨p, hp⟩ : ∃ p, pos % (8 * n) = p := ⟨_, rfl⟩
  have hp1 : p < 8 * n := by rw [← hp]; exact Nat.mod_lt _ (by omega)
  rw [hp]
  have hpi : (pos : Int).tmod (8 * (n : Int)) = (p : Int) := by
    rw [Int.tmod_eq_emod_of_nonneg (by omega), ← hp]
    simp
  have hy : x * 2 ^ (p % 8) < 1099511627776 := by
    have h2 : 2 ^ (p % 8) ≤ 2 ^ 7 := Nat.pow_le_pow_right (by omega) (by omega)
    have h3 : x * 2 ^ (p % 8) ≤ x * 2 ^ 7 := Nat.mul_le_mul_left _ h2
    omega
  have hs := partN_start l p x
  have hst := fun k => partN_step (l := l) (p := p) (x := x) (k := k)
  have hen := fun k => partN_end (l := l) (p := p) (x := x) (k := k)
  have hxy : (x : Int) * 2 ^ (p % 8) = ((x * 2 ^ (p % 8) : Nat) : Int) := by simp
  obtain ⟨y, ey⟩ : ∃ y, x * 2 ^ (p % 8) = y := ⟨_, rfl⟩
  rw [ey] at hy hxy
  simp only [ey] at hst hen
  have hsh : IntKind.u64.wrap ((x : Int) * 2 ^ (p % 8)) = (y : Int) := by
    rw [hxy, IntKind.wrap_u64]
    omega
  have HS := Lib.hid hs
  have HST := Lib.hid hst
  have HEN := Lib.hid hen
  clear hp hs hst hen hxy ey
  go_enter Tryd.func8, Tryd.ntmps8
  go_wp2_with (first | (at_builtin; refine wpList_append_own _ rfl _ _ 22 rfl w.heap.size 5 i0 (.int .u8 0) 1 1 Tryd.underlying22 hi hz0 hz1 hz2 rfl (by decide) _ 0 [] rfl ?c0 ⟨b, o, none⟩ n cap (bv l) rfl ?c1 ?c2 ?c3 ?c4 ?c5 ?c6 ?_))
  case c0 => exact World.ownsRow_lit w #[] 0 (Nat.le_refl _) (by decide) rfl
  case c1 => simp [bv]; omega
  case c2 =>
    intro j u hu
    obtain ⟨hj, rfl⟩ := bv_get _ _ _ hu
    rw [← HC.out j hj, addr_add]
    exact (bl_alloc (Below.refl _ _) _ : Below w.heap.size w _).cell (p := ⟨b, o + j, none⟩) hb
  case c3 => exact bv_one _
  case c4 => unfold maxLen; omega
  case c5 => omega
  case c6 => simp
  intro v' w1 hown hgrow _
  have hg : Grows w w1 := grows_of_grownBy (bl_alloc (Below.refl _ _) _) hgrow (by rintro k hk; cases hk; exact Nat.le_refl _)
  try simp only [Nat.zero_add, List.nil_append] at hown
  obtain ⟨g, c2, rfl, hg1, hg2⟩ := ba_own hown h0
  clear hgrow
  go_wp2_with fail
  go_loopw [9, 10] (fun v i wr => ∃ k : Nat, v = .int .u64 ((y / 2 ^ (8 * k) : Nat) : Int) ∧ i = .int .i64 ((p / 8 + k : Nat) : Int) ∧ p / 8 + k ≤ n ∧ Grows w wr ∧
    wr.ownsRow w.heap.size 5 1 (.slice (some ⟨g, 0, none⟩) n c2) n (bv (partN l p x (p / 8 + k)))) (fun _ i _ => n - (intOf i).toNat)
  case atStart =>
    refine ⟨0, by simp [hsh], by simp, by omega, hg, ?_⟩
    rw [Nat.add_zero, HS.out]
    exact hown
  case round =>
    obtain ⟨k, rfl, rfl, hk, hgr, hor⟩ := hrel
    have hz : y / 2 ^ (8 * (k + 1)) = y / 2 ^ (8 * k) / 256 := by
      rw [Nat.mul_add, Nat.pow_add, ← Nat.div_div_eq_div_mul]
    have hen := HEN.out k
    have hst := HST.out k
    have hz1 : y / 2 ^ (8 * k) < 1099511627776 := Nat.lt_of_le_of_lt (Nat.div_le_self _ _) hy
    obtain ⟨z, ez⟩ : ∃ z, y / 2 ^ (8 * k) = z := ⟨_, rfl⟩
    rw [ez] at hz hen hst hz1 ⊢
    obtain ⟨j, ej⟩ : ∃ j, p / 8 + k = j := ⟨_, rfl⟩
    rw [ej] at hen hst hk hor ⊢
    have HEN2 := Lib.hid hen
    have HST2 := Lib.hid hst
    have HZ := Lib.hid hz
    have HO := Lib.hid hor
    have HG := Lib.hid hgr
    have EJ := Lib.hid ej
    clear hen hst hz hor hgr ez ej
    by_cases hlt : j < n
    · by_cases hzz : z = 0
      · have hz0 : ((z : Int) == 0) = true := by simp [hzz]
        have hba : BA wr (.slice (some ⟨g, 0, none⟩) n c2) (turnN l p x) := ba_of_owns (base := w.heap.size) (n := n) (okB_turnN hl p x) (by rw [turnN_length]; exact hn.symm) (by rw [← HEN2.out (.inr hzz)]; exact HO.out)
        have HBA := Lib.hid hba
        clear hba
        subst hzz
        go_wp2_with fail
        go_ret
        exact ⟨_, rfl, HG.out, HBA.out⟩
      · have hz0 : ((z : Int) == 0) = false := by simp; omega
        have hlj : j < l.length := by omega
        obtain ⟨q, hq⟩ : ∃ q, l[j] = q := ⟨_, rfl⟩
        have hq256 : q < 256 := by rw [← hq]; exact hl _ (List.getElem_mem hlj)
        have hcell : wr.cell? ⟨g, j, none⟩ = some (.int .u8 (q : Int)) := by
          rw [(HO.out).cellAt j (by omega)]
          unfold bv
          rw [List.getElem?_map, List.getElem?_eq_getElem (by rw [partN_length]; exact hlj), partN_get _ _ _ _ _ hlj, if_neg (Nat.lt_irrefl _), hq]
          rfl
        have hfz : wr.frozen? ⟨g, j, none⟩ = false := (HO.out).frozenAt j
        obtain ⟨c, hc⟩ : ∃ c, z % 256 = c := ⟨_, rfl⟩
        have hc256 : c < 256 := by rw [← hc]; exact Nat.mod_lt _ (by omega)
        have hcv : IntKind.u8.wrap (z : Int) = (c : Int) := by
          rw [← hc]
          simp [IntKind.wrap, IntKind.signed, IntKind.bits]
        have hxor := u8_xor_nat q c hq256 hc256
        obtain ⟨r, hr⟩ : ∃ r, q ^^^ c = r := ⟨_, rfl⟩
        rw [hr] at hxor
        have hst2 : (bv (partN l p x j)).set j (.int .u8 (r : Int)) = bv (partN l p x (p / 8 + (k + 1))) := by
          rw [bv_set, HST2.out hlj, hq, hc, hr]
        have hown2 := (HO.out).stored j (.int .u8 (r : Int))
        have HST3 := Lib.hid hst2
        have HO2 := Lib.hid hown2
        clear hst2 hown2
        clear hq hc hr
        go_wp2_with fail
        go_roundw
        case rel =>
          refine ⟨k + 1, by rw [HZ.out]; simp, by have := EJ.out; go_num, by have := EJ.out; omega, ?_, ?_⟩
          · exact bl_set HG.out hg1 _
          · rw [← HST3.out]
            exact (HO2.out).1
        case measure => simp [intOf]; omega
    · have hba : BA wr (.slice (some ⟨g, 0, none⟩) n c2) (turnN l p x) := ba_of_owns (base := w.heap.size) (n := n) (okB_turnN hl p x) (by rw [turnN_length]; exact hn.symm) (by rw [← HEN2.out (.inl (by omega))]; exact HO.out)
      have HBA := Lib.hid hba
      clear hba
      go_wp2_with fail
      go_ret
      exact ⟨_, rfl, HG.out, HBA.out⟩

theorem turn_nil (b : Option Addr) (cap pos x : Nat) (w : World) :
    Calls Tryd.prog 8 #[.slice b 0 cap, .int .u32 (pos : Int), .int .u32 (x : Int)] w (fun e w' => e = .returned (.slice none 0 0) ∧ w = w') := by
  go_enter Tryd.func8, Tryd.ntmps8
  go_wp2
  go_ret
  exact ⟨rfl, rfl⟩
theorem ba_nil (w : World) : BA w (.slice none 0 0) [] := ⟨fun x hx => by simp at hx, .inr ⟨rfl, rfl⟩⟩

/-- Any bytes of which any bits are turned. -/
theorem turn_any (v : Value) (l : List Nat) (pos x : Nat) (w : World) (h : BA w v l) (h1 : l.length ≤ 1000) (hx : x < 4294967296) (hpos : pos < 4294967296) :
    Calls Tryd.prog 8 #[v, .int .u32 (pos : Int), .int .u32 (x : Int)] w (fun e w' => ∃ v, e = .returned v ∧ Grows w w' ∧ BA w' v (turnN l (pos % (8 * l.length)) x)) := by
  obtain ⟨h2, ⟨b, o, cap, rfl, h3, h4, h5⟩ | ⟨rfl, rfl⟩⟩ := h
  · by_cases h0 : l = []
    · subst h0
      exact (turn_nil _ cap pos x w).mono (by rintro e w' ⟨rfl, rfl⟩; exact ⟨_, rfl, Below.refl _ _, ba_nil _⟩)
    · exact turn_some b o cap l pos x w h4 h2 h5 h3 (List.length_pos_iff.2 h0) h1 hx hpos
  · exact (turn_nil _ 0 pos x w).mono (by rintro e w' ⟨rfl, rfl⟩; exact ⟨_, rfl, Below.refl _ _, ba_nil _⟩)
end Go.Proofs.YtfmpppdcbeadnaaDoor
