/- A round in memory, and the walks of its methods New, No, Len, Get, Note. -/
import Derived.Test.YtihfcaconbcdjaaRoundA
import Derived.Test.YtihfcaconbcdjaaTrimS
namespace Go.Proofs.Ytihfcaconbcdjaa
open Go.RowKit Go.Sort Go.Maps
set_option maxHeartbeats 1000000
set_option maxRecDepth 100000

theorem readLaw : Keyed Try.prog 3 := int_keyed Try.underlying3
theorem readZero (w : World) : (zeroValue 2).run Try.prog w = .ok (.int .i64 0) w := by kernel_rfl

/-- A round lies at block b, its map at block m; it has the number no and the readings es. -/
structure RoundAt (w : World) (b m : Nat) (no : Int) (es : List (Int × Int)) : Prop where
  c0 : w.cell? ⟨b, 0, none⟩ = some (.int .i64 no)
  c1 : w.cell? ⟨b, 1, none⟩ = some (.map (some m))
  own : ∃ D, w.ownsMap Try.prog 3 (plainElem Try.prog 2) m (Maps.size D) D ∧ Rep D es
  ne : b ≠ m

theorem own_exact {w : World} {P : Program} {k : TypeId} {R : Value → Option (DataW Unit × List MemPlace)} {b n : Nat} {D : DataW Unit} (h : w.ownsMap P k R b n D) : w.ownsMap P k R b (Maps.size D) D := by
  obtain ⟨es, clock, hb, F, _, rfl⟩ := h
  exact ⟨es, clock, hb, F, by simp [Maps.size, length_sorted], rfl⟩
theorem cell_lt {w : World} {b o : Nat} {v : Value} (h : w.cell? ⟨b, o, none⟩ = some v) : b < w.heap.size := block_lt_of_cell (a := ⟨b, o, none⟩) h
theorem RoundAt.kept {w w' : World} {b m : Nat} {no : Int} {es : List (Int × Int)} {row : Option Nat} (h : RoundAt w b m no es) (hg : w.grownBy w' row) (hb : some b ≠ row) (hm : some m ≠ row) : RoundAt w' b m no es := by
  obtain ⟨D, ho, hR⟩ := h.own
  exact ⟨(World.cell?_of_block (a := ⟨b, 0, none⟩) (hg.block b (cell_lt h.c0) hb)).trans h.c0, (World.cell?_of_block (a := ⟨b, 1, none⟩) (hg.block b (cell_lt h.c0) hb)).trans h.c1, ⟨D, ho.kept hg hm, hR⟩, h.ne⟩
theorem grown_same (w : World) (r : Option Nat) : w.grownBy w r := ⟨rfl, rfl, rfl, Nat.le_refl _, fun _ _ _ => rfl⟩
theorem grown_trans {a b c : World} {r : Option Nat} (h : a.grownBy b r) (h' : b.grownBy c r) : a.grownBy c r :=
  ⟨h'.os.trans h.os, h'.tape.trans h.tape, h'.output.trans h.output, Nat.le_trans h.size h'.size, fun k hk hne => (h'.block k (Nat.lt_of_lt_of_le hk h.size) hne).trans (h.block k hk hne)⟩
theorem grown_of_grows {w w' : World} (h : Grows w w') (r : Option Nat) : w.grownBy w' r := ⟨h.os, h.tape, h.output, h.size, fun k hk _ => h.block k hk⟩
theorem RoundAt.grows {w w' : World} {b m : Nat} {no : Int} {es : List (Int × Int)} (h : RoundAt w b m no es) (hg : Grows w w') : RoundAt w' b m no es := h.kept (grown_of_grows hg none) (by simp) (by simp)
/-- Where it lies. -/
theorem RoundAt.lt {w : World} {b m : Nat} {no : Int} {es : List (Int × Int)} (h : RoundAt w b m no es) : b < w.heap.size ∧ m < w.heap.size := by
  obtain ⟨D, ho, _⟩ := h.own
  exact ⟨cell_lt h.c0, ho.lt⟩

theorem round_new (no : Int) (w : World) :
    Calls Try.prog 26 #[.int .i64 no] w (fun e w' => e = .returned (.pointer (some ⟨w.heap.size + 1, 0, none⟩)) ∧ RoundAt w' (w.heap.size + 1) w.heap.size no [] ∧ Below w.heap.size w w') := by
  have hmm := @run_makeMap Try.prog
  go_enter Try.func26, Try.ntmps26
  go_wp2
  go_ret
  refine ⟨rfl, ⟨?_, ?_, ⟨.map [], ?_, Rep.nil⟩, by omega⟩, by (repeat (first | with_reducible exact Below.refl _ _ | with_reducible refine bl_alloc ?_ _ | ((with_reducible refine bl_set ?_ ?_ _); rotate_left; (first | exact Nat.le_refl _ | exact Nat.le_succ_of_le (Nat.le_refl _) | (simp only []; omega))) | with_reducible refine bl_drewN ?_ _ | with_reducible refine bl_drew ?_ | with_reducible refine bl_reg ?_ _))⟩
  · simp [go_sem]
  · simp [go_sem]
  · exact ((World.ownsMap_made _ _ _ _).alloc _)

theorem round_no (w : World) {b m : Nat} {no : Int} {es : List (Int × Int)} (h : RoundAt w b m no es) :
    Calls Try.prog 33 #[.pointer (some ⟨b, 0, none⟩)] w (fun e w' => e = .returned (.int .i64 no) ∧ w = w') := by
  have c0 := h.c0
  go_enter Try.func33, Try.ntmps33
  go_wp2
  go_ret
  exact ⟨rfl, rfl⟩

theorem round_len (w : World) {b m : Nat} {no : Int} {es : List (Int × Int)} (h : RoundAt w b m no es) :
    Calls Try.prog 34 #[.pointer (some ⟨b, 0, none⟩)] w (fun e w' => e = .returned (.int .i64 es.length) ∧ w = w') := by
  obtain ⟨D, ho, hR⟩ := h.own
  have hl := fun ty => ho.len Try.underlying72 ty
  rw [hR.size] at hl
  have c1 := h.c1
  go_enter Try.func34, Try.ntmps34
  go_wp2
  go_ret
  exact ⟨rfl, rfl⟩

/-- What a round has of a node. -/
def getL (es : List (Int × Int)) (x : Int) : Int := ((es.find? fun p => p.1 == x).map (·.2)).getD 0
theorem getL_of {es : List (Int × Int)} {x : Int} {D : DataW Unit} (hR : Rep D es) {c : Int} (hat : D.atKey (keyF x) (.lit (.int .i64 0)) = .lit (.int .i64 c)) : c = getL es x := by
  unfold getL
  cases hf : es.find? fun p => p.1 == x with
  | none =>
    have hx : x ∉ es.map (·.1) := fun hc => by
      obtain ⟨p, hp, rfl⟩ := List.mem_map.1 hc
      have := List.find?_eq_none.1 hf p hp
      simp at this
    have hh : Maps.has D (keyF x) = false := by rw [hR.has x]; simpa using hx
    rw [Maps.atKey_of_not_has hh] at hat
    injection hat with hat
    injection hat with _ hat
    simp [← hat]
  | some p =>
    have hm := List.mem_of_find?_eq_some hf
    have hp : p.1 = x := by have := List.find?_some hf; simpa using this
    subst hp
    have := (hR.at_ p hm _).symm.trans hat
    injection this with this
    injection this with _ this
    simp [this]

theorem round_get (w : World) {b m : Nat} {no : Int} {es : List (Int × Int)} (h : RoundAt w b m no es) (x : Int) (hx : (Lit.int .i64 x).wf = true) :
    Calls Try.prog 31 #[.pointer (some ⟨b, 0, none⟩), .int .i64 x] w (fun e w' => e = .returned (.tuple #[.int .i64 (getL es x), .bool (decide (x ∈ es.map (·.1)))]) ∧ w = w') := by
  obtain ⟨D, ho, hR⟩ := h.own
  have hkey := keyOf_int_mk Try.underlying3 hx
  have c1 := h.c1
  have HR := Lib.hid hR
  go_enter Try.func31, Try.ntmps31
  go_wp2_with (first | (at_lookup; refine wpList_lookup_own_ok_int _ rfl _ _ 72 rfl 3 2 .i64 readLaw Try.underlying72 Try.underlying2 (readZero _) m (Maps.size D) D rfl ho _ _ rfl hkey ?_; intro c hat hwc; obtain rfl := getL_of HR.out hat; clear hat hwc; rw [HR.out.has x]))
  go_ret2
  exact ⟨rfl, rfl⟩

def noteF (es : List (Int × Int)) (x : Int) : Int := if x < 0 ∨ 64 ≤ x then 8 else if x ∈ es.map (·.1) then 12 else 0
def noteL (es : List (Int × Int)) (x d : Int) : List (Int × Int) := if noteF es x = 0 then es ++ [(x, d)] else es
/-- What a Note leaves behind. -/
def RNoted (w : World) (b m : Nat) (no : Int) (es : List (Int × Int)) (v : Int) (e : Ending) (w' : World) : Prop := e = .returned (.int .i64 v) ∧ RoundAt w' b m no es ∧ w.grownBy w' (some m)

theorem round_note_bad (w : World) (b : Nat) (x d : Int) (hf : x < 0 ∨ 64 ≤ x) :
    Calls Try.prog 27 #[.pointer (some ⟨b, 0, none⟩), .int .i64 x, .int .i64 d] w (fun e w' => e = .returned (.int .i64 8) ∧ w = w') := by
  rcases hf with hf | hf
  · go_enter Try.func27, Try.ntmps27
    go_wp2
    go_ret
    exact ⟨rfl, rfl⟩
  · go_enter Try.func27, Try.ntmps27
    go_wp2
    go_ret
    exact ⟨rfl, rfl⟩

theorem round_note (w : World) {b m : Nat} {no : Int} {es : List (Int × Int)} (h : RoundAt w b m no es) (x d : Int) (hd : (Lit.int .i64 d).wf = true) (hs : es.length ≤ 1000) :
    Calls Try.prog 27 #[.pointer (some ⟨b, 0, none⟩), .int .i64 x, .int .i64 d] w (RNoted w b m no (noteL es x d) (noteF es x)) := by
  by_cases hf : x < 0 ∨ 64 ≤ x
  · have hE : noteF es x = 8 := by unfold noteF; rw [if_pos hf]
    refine (round_note_bad w b x d hf).mono ?_
    rintro e w' ⟨rfl, rfl⟩
    exact ⟨by rw [hE], by unfold noteL; rw [hE]; exact h, grown_same w _⟩
  · have hf1 : 0 ≤ x := by omega
    have hf2 : x < 64 := by omega
    have hx : (Lit.int .i64 x).wf = true := by simp [Lit.wf, IntKind.min, IntKind.max, IntKind.signed, IntKind.bits]; omega
    obtain ⟨D, ho, hR⟩ := h.own
    have hkey := keyOf_int_mk Try.underlying3 hx
    have c1 := h.c1
    have HR := Lib.hid hR
    have HH := Lib.hid h
    have hval := plainElem_int (H := Unit) Try.underlying2 hd
    have hsz : Maps.size D < maxLen := by rw [hR.size]; unfold maxLen; omega
    clear h hR
    by_cases hi : x ∈ es.map (·.1)
    · have hh : Maps.has D (keyF x) = true := by rw [HR.out.has x]; simpa using hi
      have hE : noteF es x = 12 := by unfold noteF; rw [if_neg hf, if_pos hi]
      have HE := Lib.hid hE
      clear hE hi hf
      go_enter Try.func27, Try.ntmps27
      go_wp2_with (first | (at_lookup; refine wpList_lookup_own_ok_int _ rfl _ _ 72 rfl 3 2 .i64 readLaw Try.underlying72 Try.underlying2 (readZero _) m (Maps.size D) D rfl ho _ _ rfl hkey ?_; intro c hat hwc; clear hat hwc; rw [hh]))
      go_ret
      exact ⟨by rw [HE.out]; rfl, by unfold noteL; rw [HE.out]; exact HH.out, grown_same w _⟩
    · have hh : Maps.has D (keyF x) = false := by rw [HR.out.has x]; simpa using hi
      have hE : noteF es x = 0 := by unfold noteF; rw [if_neg hf, if_neg hi]
      have HE := Lib.hid hE
      have HI := Lib.hid hi
      clear hE hi hf
      go_enter Try.func27, Try.ntmps27
      go_wp2_with (first
        | (at_lookup; refine wpList_lookup_own_ok_int _ rfl _ _ 72 rfl 3 2 .i64 readLaw Try.underlying72 Try.underlying2 (readZero _) m (Maps.size D) D rfl ho _ _ rfl hkey ?_; intro c hat hwc; clear hat hwc; rw [hh])
        | (at_mapUpdate; refine wpList_mapUpdate_in _ rfl _ _ _ 72 rfl 3 2 readLaw Try.underlying72 _ m (Maps.size D) D rfl ho hsz _ _ _ rfl rfl hkey _ _ hval ?_; intro w1 hown1 hturn1))
      go_ret
      have hg := hturn1.grown
      have hbm := HH.out.ne
      refine ⟨by rw [HE.out]; rfl, ?_, hg⟩
      unfold noteL
      rw [HE.out, if_pos rfl]
      exact ⟨(World.cell?_of_block (a := ⟨b, 0, none⟩) (hg.block b (cell_lt HH.out.c0) (by simpa using hbm))).trans HH.out.c0, (World.cell?_of_block (a := ⟨b, 1, none⟩) (hg.block b (cell_lt HH.out.c0) (by simpa using hbm))).trans HH.out.c1, ⟨_, own_exact hown1, HR.out.put x d HI.out⟩, hbm⟩
end Go.Proofs.Ytihfcaconbcdjaa
