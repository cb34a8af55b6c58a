/- The document's readings: what a slice of them holds; one that came in, opened; the walk of At. -/
import Derived.Test.YtihfcaconbcdjaaRoundS
import Derived.Test.YtihfcaconbcdjaaTrimO
namespace Go.Proofs.Ytihfcaconbcdjaa
open Go.RowKit Go.Sort Go.ChangeShapes Go.WideShapes Go.ChangeAt Go.Joins Go.Deep
set_option maxHeartbeats 1000000
set_option maxRecDepth 100000

theorem Try.infoRd : (Try.prog.info? 55).map (fun i => (i.zero, i.size, i.bytes)) = some (some (.agg #[.int .i64 0, .int .i64 0]), 2, 16) := by kernel_rfl
/-- A reading's cells. -/
abbrev rv (p : Int × Int) : List Value := [.int .i64 p.1, .int .i64 p.2]
abbrev rvs (l : List (Int × Int)) : List Value := l.flatMap rv
theorem rv_one : ∀ (a : Int × Int), ∀ u ∈ rv a, u.oneCell' = true := by
  intro a u hu
  simp at hu
  rcases hu with rfl | rfl <;> rfl
theorem rvs_one (l : List (Int × Int)) : ∀ u ∈ rvs l, u.oneCell' = true := rows_one (f := rv) rv_one l
theorem rvs_length (l : List (Int × Int)) : (rvs l).length = l.length * 2 := rows_length (f := rv) (k := 2) (fun _ => rfl) l
abbrev ROwn (w : World) (base : Nat) (v : Value) (l : List (Int × Int)) : Prop := w.ownsRow base 55 2 v l.length (rvs l)
/-- The slice v holds the readings l. -/
def RHas (w : World) (v : Value) (l : List (Int × Int)) : Prop := (l = [] ∧ ∃ a cap, v = .slice a 0 cap) ∨ ∃ g o cap, v = .slice (some ⟨g, o, none⟩) l.length cap ∧ l.length ≤ cap ∧ g < w.heap.size ∧ RAt rv 2 w g o l
theorem RHas.grows {w w' : World} {v : Value} {l : List (Int × Int)} (h : RHas w v l) (hg : Grows w w') : RHas w' v l := by
  rcases h with h | ⟨g, o, cap, h1, h0, h2, h3⟩
  · exact .inl h
  · exact .inr ⟨g, o, cap, h1, h0, Nat.lt_of_lt_of_le h2 hg.size, h3.grows hg h2⟩
theorem rown_has {w : World} {base : Nat} {v : Value} {l : List (Int × Int)} (h : ROwn w base v l) : RHas w v l := by
  rcases own_rows (f := rv) (k := 2) (fun _ => rfl) rfl h with ⟨rfl, rfl⟩ | ⟨g, cap, rfl, hc, _, hg, hat⟩
  · exact .inl ⟨rfl, none, 0, rfl⟩
  · exact .inr ⟨g, 0, cap, rfl, hc, hg, hat⟩
theorem RHas.form {w : World} {v : Value} {l : List (Int × Int)} {n : Nat} (h : RHas w v l) (hn : l.length = n) (h0 : 0 < n) : ∃ g o cap, v = .slice (some ⟨g, o, none⟩) n cap ∧ n ≤ cap ∧ g < w.heap.size ∧ RAt rv 2 w g o l := by
  rcases h with ⟨rfl, _⟩ | ⟨g, o, cap, h1, h0, h2, h3⟩
  · simp at hn; omega
  · exact ⟨g, o, cap, by rw [h1, hn], by omega, h2, h3⟩
theorem RHas.len {w : World} {v : Value} {l : List (Int × Int)} {n : Nat} (h : RHas w v l) (hn : l.length = n) : ∃ a cap, v = .slice a n cap := by
  rcases h with ⟨rfl, a, cap, rfl⟩ | ⟨g, o, cap, rfl, _, _⟩
  · exact ⟨a, cap, by rw [← hn]; rfl⟩
  · exact ⟨_, cap, by rw [hn]⟩
theorem rat_cells {w : World} {g o : Nat} {l : List (Int × Int)} (h : RAt rv 2 w g o l) (i : Nat) (hi : i < l.length) : w.cell? ⟨g, o + i * 2, none⟩ = some (.int .i64 l[i].1) ∧ w.cell? ⟨g, o + i * 2 + 1, none⟩ = some (.int .i64 l[i].2) :=
  ⟨h i hi 0 (by omega), h i hi 1 (by omega)⟩

section
variable {H : Type} {enc : TypeId × Value → H} {w : World} {base b0 : Nat} {spare : Nat → Bool} {held : Bool} {r : Reach} {v : Value} {d : DataW H} {p : List MemPlace}
theorem open_readings (hv : Value.okWide Try.prog w r b0 53 v) (h : DataW.Trod enc Try.prog w base spare held 53 v d p) : ∃ l, RHas w v l ∧ ∀ x ∈ l, (Lit.int .i64 x.1).wf = true ∧ (Lit.int .i64 x.2).wf = true := by
  have hs := Try.underlying53
  have he := Try.underlying55
  have hC : Try.prog.cellsOf 55 = 2 := by kernel_rfl
  obtain ⟨a, len, cap, rfl⟩ := okWide_slice hs hv
  obtain ⟨fuel, hf⟩ := h
  rcases open_slice hs hf with ⟨hcs, _⟩ | ⟨a', len', cap', m, n, D, Pl, hcs, _, hl, hm, hmm, _, hi⟩
  · simp [Value.cells] at hcs
    obtain ⟨rfl, rfl, rfl⟩ := hcs
    exact ⟨[], .inl ⟨rfl, _, _, rfl⟩, fun x hx => by simp at hx⟩
  · simp [Value.cells] at hcs
    obtain ⟨rfl, rfl, rfl⟩ := hcs
    by_cases h0 : len = 0
    · subst h0
      exact ⟨[], .inl ⟨rfl, _, _, rfl⟩, fun x hx => by simp at hx⟩
    · have hlm : len ≤ m := by rw [hmm]; split <;> omega
      have key : ∀ i, i < len → ∃ x : Int × Int, w.cell? (a'.add (i * 2)) = some (.int .i64 x.1) ∧ w.cell? (a'.add (i * 2 + 1)) = some (.int .i64 x.2) ∧ (Lit.int .i64 x.1).wf = true ∧ (Lit.int .i64 x.2).wf = true := by
        intro i hil
        obtain ⟨cs', hc, ht⟩ := hi i (by omega)
        rw [hC] at hc
        obtain ⟨_, hcl, hat⟩ := World.cells?_some hc
        obtain ⟨x, g0, w0⟩ := field_int he ht 0 0 rfl Try.underlying3 (by kernel_rfl)
        obtain ⟨y, g1, w1⟩ := field_int he ht 1 1 rfl Try.underlying2 (by kernel_rfl)
        have a0 := hat 0 (by omega)
        have a1 := hat 1 (by omega)
        rw [g0] at a0; rw [g1] at a1
        refine ⟨(x, y), ?_, ?_, w0, w1⟩
        · rw [Go.Deep.add_add] at a0; exact a0
        · rw [Go.Deep.add_add] at a1; exact a1
      obtain ⟨F, hF⟩ := choose_lt key
      obtain ⟨b, o, spot⟩ := a'
      have hsp : spot = none := by
        have := World.cell?_spot (hF 0 (by omega)).1
        simpa [Addr.add] using this
      subst hsp
      refine ⟨(List.range len).map F, .inr ⟨b, o, cap, by simp, by simp; omega, ?_, ?_⟩, ?_⟩
      · have := (hF 0 (by omega)).1
        exact block_lt_of_cell (a := (⟨b, o, none⟩ : Addr).add (0 * 2)) this
      · intro i hil j hj
        have hil' : i < len := by simpa using hil
        have := hF i hil'
        simp only [List.getElem_map, List.getElem_range]
        rw [addr_add, addr_add, ← Nat.add_assoc] at this
        obtain rfl | rfl : j = 0 ∨ j = 1 := by omega
        · exact this.1
        · exact this.2.1
      · intro x hx
        rw [List.mem_map] at hx
        obtain ⟨i, hi2, rfl⟩ := hx
        exact (hF i (List.mem_range.1 hi2)).2.2
end

/-- The place i tells whether x is among the nodes. -/
def AtIs (l : List (Int × Int)) (x i : Int) : Prop := decide (0 ≤ i) = decide (x ∈ l.map (·.1))
theorem rat25_any (v : Value) (l : List (Int × Int)) (x : Int) (w : World) (h : RHas w v l) (hm : l.length ≤ 1000000) :
    Calls Try.prog 45 #[v, .int .i64 x] w (fun e w' => ∃ i : Int, e = .returned (.int .i64 i) ∧ AtIs l x i ∧ w = w') := by
  rcases h with ⟨rfl, a, cap, rfl⟩ | ⟨g, o, cap, rfl, hcap, hg, hc⟩
  · go_enter Try.func45, Try.ntmps45
    go_wp2_with fail
    go_loop [5] (fun k => k = .int .i64 0) (fun _ => 0)
    case atStart => rfl
    case round =>
      subst hrel
      go_wp2_with fail
      go_ret
      exact ⟨_, rfl, by unfold AtIs; simp, rfl⟩
  · obtain ⟨n, en⟩ : ∃ n, l.length = n := ⟨_, rfl⟩
    rw [en] at hm hcap ⊢
    have HC := Lib.hid hc
    have EN := Lib.hid en
    clear hc en
    go_enter Try.func45, Try.ntmps45
    go_wp2_with fail
    go_loop [5] (fun kv => ∃ k : Nat, kv = .int .i64 (k : Int) ∧ k ≤ n ∧ x ∉ (l.take k).map (·.1)) (fun kv => n - (intOf kv).toNat)
    case atStart => exact ⟨0, rfl, Nat.zero_le _, by simp⟩
    case round =>
      obtain ⟨k, rfl, hk, hno⟩ := hrel
      have HNO := Lib.hid hno
      clear hno
      by_cases hlt : k < n
      · have hkl : k < l.length := by rw [EN.out]; exact hlt
        obtain ⟨c, -⟩ := rat_cells HC.out k hkl
        have ht := List.take_succ_eq_append_getElem hkl
        have hmem : l[k] ∈ l := List.getElem_mem hkl
        obtain ⟨q, eq⟩ : ∃ q, l[k] = q := ⟨_, rfl⟩
        rw [eq] at c ht hmem
        have HM := Lib.hid hmem
        have HT := Lib.hid ht
        clear ht eq hmem
        by_cases hx : q.1 = x
        · have hb : (q.1 == x) = true := by simp [hx]
          have hin : x ∈ l.map (·.1) := by rw [← hx]; exact List.mem_map_of_mem (f := (·.1)) HM.out
          have HI := Lib.hid hin
          clear hx hin
          go_wp2_with fail
          go_ret
          exact ⟨_, rfl, by unfold AtIs; rw [decide_eq_true HI.out]; simp, rfl⟩
        · have hb : (q.1 == x) = false := by simp [hx]
          have hno2 : x ∉ (l.take (k + 1)).map (·.1) := by
            rw [HT.out, List.map_append, List.mem_append]
            rintro (h1 | h1)
            · exact HNO.out h1
            · simp at h1; exact hx h1.symm
          have HN2 := Lib.hid hno2
          clear hx hno2
          go_wp2_with fail
          go_round
          case rel => exact ⟨k + 1, by go_num, by omega, HN2.out⟩
          case measure => simp [intOf]; omega
      · have hkn : k = n := by omega
        subst hkn
        have hno2 : x ∉ l.map (·.1) := by
          have := HNO.out
          rwa [List.take_of_length_le (by rw [EN.out]; exact Nat.le_refl _)] at this
        have HN2 := Lib.hid hno2
        clear hno2
        go_wp2_with fail
        go_ret
        exact ⟨_, rfl, by unfold AtIs; rw [decide_eq_false HN2.out]; simp, rfl⟩
end Go.Proofs.Ytihfcaconbcdjaa
