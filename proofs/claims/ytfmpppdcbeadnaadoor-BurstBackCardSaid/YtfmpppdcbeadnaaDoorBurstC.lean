/- Bytes: a slice that bears them; copies. -/
import Derived.Test.YtfmpppdcbeadnaaDoorBurstB
import Derived.Test.YtfmpppdcbeadnaaDoorWide
import Derived.Laws.AppendOwnNone
namespace Go.Proofs.YtfmpppdcbeadnaaDoor
open Go.RowKit Go.Sort

def okB (l : List Nat) : Prop := ∀ x ∈ l, x < 256
def bytesAt (w : World) (b o : Nat) (l : List Nat) : Prop := ∀ i, (h : i < l.length) → w.cell? ⟨b, o + i, none⟩ = some (.int .u8 (l[i] : Int))
/-- The slice v bears the bytes l. -/
def BA (w : World) (v : Value) (l : List Nat) : Prop :=
  okB l ∧ ((∃ b o cap, v = .slice (some ⟨b, o, none⟩) l.length cap ∧ l.length ≤ cap ∧ b < w.heap.size ∧ bytesAt w b o l) ∨ (l = [] ∧ v = .slice none 0 0))
theorem BA.stays {v : Value} {l : List Nat} {w1 w2 : World} (h : BA w1 v l) (hg : Grows w1 w2) : BA w2 v l := by
  obtain ⟨h1, ⟨b, o, cap, rfl, h2, h3, h4⟩ | ⟨rfl, rfl⟩⟩ := h
  · refine ⟨h1, .inl ⟨b, o, cap, rfl, h2, Nat.lt_of_lt_of_le h3 hg.size, fun i hi => ?_⟩⟩
    rw [hg.cell (p := ⟨b, o + i, none⟩) h3]
    exact h4 i hi
  · exact ⟨h1, .inr ⟨rfl, rfl⟩⟩

theorem Tryd.infoByte : (Tryd.prog.info? 5).map (fun i => (i.zero, i.size, i.bytes)) = some (some (.int .u8 0), 1, 1) := by kernel_rfl
def bv (l : List Nat) : List Value := l.map fun (x : Nat) => Value.int .u8 (x : Int)
theorem bv_get (l : List Nat) (j : Nat) (u : Value) (h : (bv l)[j]? = some u) : ∃ hj : j < l.length, u = .int .u8 (l[j] : Int) := by
  unfold bv at h
  rw [List.getElem?_map] at h
  cases hl : l[j]? with
  | none => simp [hl] at h
  | some x =>
    obtain ⟨hj, hx⟩ := List.getElem?_eq_some_iff.1 hl
    simp [hl] at h
    exact ⟨hj, by rw [← h, hx]⟩
theorem bv_one (l : List Nat) : ∀ u ∈ bv l, u.oneCell' = true := by
  intro u hu
  unfold bv at hu
  rw [List.mem_map] at hu
  obtain ⟨x, _, rfl⟩ := hu
  rfl

theorem grows_of_grownBy {w w0 w1 : World} {r : Option Nat} (h0 : Grows w w0) (h : w0.grownBy w1 r) (hr : ∀ k, r = some k → w.heap.size ≤ k) : Grows w w1 := by
  refine ⟨h.os.trans h0.os, h.tape.trans h0.tape, h.output.trans h0.output, Nat.le_trans h0.size h.size, fun k hk => ?_⟩
  rw [h.block k (Nat.lt_of_lt_of_le hk h0.size) (fun hc => Nat.lt_irrefl _ (Nat.lt_of_lt_of_le hk (hr k hc.symm))), h0.block k hk]
theorem addr_add (b o j : Nat) : (⟨b, o, none⟩ : Addr).add j = ⟨b, o + j, none⟩ := by
  by_cases h : j = 0
  · subst h; simp [Addr.add]
  · simp [Addr.add, h]
theorem ba_of_owns {w : World} {base n : Nat} {v : Value} {l : List Nat} (hl : okB l) (hn : n = l.length) (h : w.ownsRow base 5 1 v n (bv l)) : BA w v l := by
  subst hn
  refine ⟨hl, ?_⟩
  rcases h.2 with ⟨h1, h2⟩ | ⟨g, cap, cur, hv, hb, hg, h4, h5, h6, h7⟩
  · exact .inr ⟨List.eq_nil_of_length_eq_zero h2, h1⟩
  · refine .inl ⟨g, 0, cap, hv, h4, (Array.getElem?_eq_some_iff.1 hg).1, fun i hi => ?_⟩
    subst hv
    have := h.cells (g := g) rfl i (.int .u8 (l[i] : Int)) (by simp [bv, hi])
    rw [addr_add] at this
    exact this
theorem okB_take {l : List Nat} (h : okB l) (n : Nat) : okB (l.take n) := fun x hx => h x (List.mem_of_mem_take hx)

set_option maxHeartbeats 1000000 in
theorem cut_some (b o cap : Nat) (l : List Nat) (w : World) (hb : b < w.heap.size) (hl : okB l) (hc : bytesAt w b o l) (hcap : l.length ≤ cap) :
    Calls Tryd.prog 7 #[.slice (some ⟨b, o, none⟩) l.length cap] w (fun e w' => ∃ v, e = .returned v ∧ Grows w w' ∧ BA w' v (l.take 200)) := by
  obtain ⟨m, hm⟩ : ∃ m : Nat, min (l.length : Int) 200 = (m : Int) := ⟨min l.length 200, by omega⟩
  have hm1 : m ≤ l.length := by omega
  have hm2 : m ≤ 200 := by omega
  have hm3 : (m : Int) ≤ cap := by omega
  obtain ⟨i0, hi, hz0, hz1, hz2⟩ := info_parts Tryd.infoByte
  obtain ⟨n, hn⟩ : ∃ n, l.length = n := ⟨_, rfl⟩
  rw [hn] at hm ⊢
  have HC := Lib.hid hc
  have HCAP := Lib.hid hcap
  clear hc hcap
  go_enter Tryd.func7, Tryd.ntmps7
  go_wp2_with (first | (at_builtin; refine wpList_append_own _ rfl _ _ 22 rfl w.heap.size 5 i0 (.int .u8 0) 1 1 Tryd.underlying22 hi hz0 hz1 hz2 rfl (by decide) _ 0 [] rfl ?c0 ⟨b, o, none⟩ m cap (bv (l.take m)) rfl ?c1 ?c2 ?c3 ?c4 ?c5 ?c6 ?_))
  case c0 => exact World.ownsRow_lit w #[] 0 (Nat.le_refl _) (by decide) rfl
  case c1 => simp [bv]; omega
  case c2 =>
    intro j u hu
    obtain ⟨hj, rfl⟩ := bv_get _ _ _ hu
    have hj2 : j < l.length := by rw [List.length_take] at hj; omega
    rw [List.getElem_take]
    rw [← HC.out j hj2, addr_add]
    exact (bl_alloc (Below.refl _ _) _ : Below w.heap.size w _).cell (p := ⟨b, o + j, none⟩) hb
  case c3 => exact bv_one _
  case c4 => unfold maxLen; omega
  case c5 => omega
  case c6 => simp
  · intro v' w1 hown hgrow _
    have hg : Grows w w1 := grows_of_grownBy (bl_alloc (Below.refl _ _) _) hgrow (by rintro k hk; cases hk; exact Nat.le_refl _)
    have ht : l.take 200 = l.take m := by
      rw [List.take_eq_take_iff]; omega
    have hba : BA w1 v' (l.take 200) := by
      rw [ht]
      refine ba_of_owns (base := w.heap.size) (okB_take hl m) (n := 0 + m) (by simp; omega) ?_
      simpa using hown
    clear hown hgrow
    go_wp2_with fail
    go_ret
    exact ⟨v', rfl, hg, hba⟩

theorem ba_empty (w : World) (b cap : Nat) (h : b < w.heap.size) : BA w (.slice (some ⟨b, 0, none⟩) 0 cap) [] :=
  ⟨fun x hx => by simp at hx, .inl ⟨b, 0, cap, rfl, Nat.zero_le _, h, fun i hi => by simp at hi⟩⟩

set_option maxHeartbeats 1000000 in
theorem cut_nil (w : World) : Calls Tryd.prog 7 #[.slice none 0 0] w (fun e w' => ∃ v, e = .returned v ∧ Grows w w' ∧ BA w' v []) := by
  obtain ⟨i0, hi, hz0, hz1, hz2⟩ := info_parts Tryd.infoByte
  go_enter Tryd.func7, Tryd.ntmps7
  go_wp2_with (first | (at_builtin; refine wpList_append_own_none rfl _ _ 22 rfl w.heap.size 5 i0 1 Tryd.underlying22 hi _ 0 [] rfl ?c0 rfl ?_))
  case c0 => exact World.ownsRow_lit w #[] 0 (Nat.le_refl _) (by decide) rfl
  · go_wp2_with fail
    go_ret
    exact ⟨.slice (some ⟨w.heap.size, 0, none⟩) 0 0, rfl, bl_alloc (Below.refl _ _) _, ba_empty _ _ _ (by simp)⟩

/-- Any bytes are cut. -/
theorem cut_any (v : Value) (l : List Nat) (w : World) (h : BA w v l) :
    Calls Tryd.prog 7 #[v] w (fun e w' => ∃ v, e = .returned v ∧ Grows w w' ∧ BA w' v (l.take 200)) := by
  obtain ⟨h1, ⟨b, o, cap, rfl, h2, h3, h4⟩ | ⟨rfl, rfl⟩⟩ := h
  · exact cut_some b o cap l w h3 h1 h4 h2
  · exact cut_nil w

/-- The slice v bears the bytes l; of an empty one nothing is asked. -/
def BA0 (w : World) (v : Value) (l : List Nat) : Prop := BA w v l ∨ (l = [] ∧ ∃ a cap, v = .slice (some a) 0 cap)
theorem BA0.stays {v : Value} {l : List Nat} {w1 w2 : World} (h : BA0 w1 v l) (hg : Grows w1 w2) : BA0 w2 v l := by
  rcases h with h | h
  · exact .inl (h.stays hg)
  · exact .inr h
set_option maxHeartbeats 1000000 in
theorem cut_empty (a : Addr) (cap : Nat) (w : World) : Calls Tryd.prog 7 #[.slice (some a) 0 cap] w (fun e w' => ∃ v, e = .returned v ∧ Grows w w' ∧ BA w' v []) := by
  obtain ⟨i0, hi, hz0, hz1, hz2⟩ := info_parts Tryd.infoByte
  go_enter Tryd.func7, Tryd.ntmps7
  go_wp2_with (first | (at_builtin; refine wpList_append_own _ rfl _ _ 22 rfl w.heap.size 5 i0 (.int .u8 0) 1 1 Tryd.underlying22 hi hz0 hz1 hz2 rfl (by decide) _ 0 [] rfl ?c0 a 0 cap [] rfl ?c1 ?c2 ?c3 ?c4 ?c5 ?c6 ?_))
  case c0 => exact World.ownsRow_lit w #[] 0 (Nat.le_refl _) (by decide) rfl
  case c1 => rfl
  case c2 => intro j u hu; simp at hu
  case c3 => intro u hu; simp at hu
  case c4 => unfold maxLen; omega
  case c5 => omega
  case c6 => simp
  intro v' w1 hown hgrow _
  have hg : Grows w w1 := grows_of_grownBy (bl_alloc (Below.refl _ _) _) hgrow (by rintro k hk; cases hk; exact Nat.le_refl _)
  have hba : BA w1 v' [] := ba_of_owns (base := w.heap.size) (n := 0) (fun x hx => by simp at hx) rfl (by simpa [bv] using hown)
  clear hown hgrow
  go_wp2_with fail
  go_ret
  exact ⟨v', rfl, hg, hba⟩
/-- Any bytes that came in are cut. -/
theorem cut_came (v : Value) (l : List Nat) (w : World) (h : BA0 w v l) :
    Calls Tryd.prog 7 #[v] w (fun e w' => ∃ v, e = .returned v ∧ Grows w w' ∧ BA w' v (l.take 200)) := by
  rcases h with h | ⟨rfl, a, cap, rfl⟩
  · exact cut_any v l w h
  · exact cut_empty a cap w
end Go.Proofs.YtfmpppdcbeadnaaDoor
