/- RelT: texts laid one behind the other. -/
import Derived.Test.YtgjieoljfcfacaaDoorRelK
import Derived.Test.YtgjieoljfcfacaaDoorStep
import Derived.Carry
import Derived.Test.YtgjieoljfcfacaaDoorWideT
import Derived.Test.YtgjieoljfcfacaaDoorRange
/- The table's methods that only tell, at rows of int64. -/
namespace Go.Proofs.YtgjieoljfcfacaaDoor
open Go.RowKit Go.Sort
set_option maxHeartbeats 4000000
set_option maxRecDepth 100000
abbrev TTI : TypeId := 122
theorem zinfoI : (Tryd.prog.info? 2).map (fun i => i.zero) = some (some (.int .i64 0)) := by kernel_rfl
theorem zeroI (w : World) : (zeroValue 2).run Tryd.prog w = .ok (.int .i64 0) w := by
  obtain ⟨i0, hii, hz⟩ : ∃ i, Tryd.prog.info? 2 = some i ∧ i.zero = some (.int .i64 0) := Option.map_eq_some_iff.1 zinfoI
  simp [zeroValue, typeInfo, hii, hz]
theorem tlenI {w : World} {base tb mb : Nat} {kv : Value} {m : List (KW × Value)} {most : Nat} (h : TabAt TTI w base tb kv mb m most) :
    Calls Tryd.prog 52 #[.pointer (some ⟨tb, 0, none⟩)] w (fun e w' => e = .returned (.int .i64 (m.length : Int)) ∧ w = w') := by
  obtain ⟨a, cap, rfl⟩ := h.len
  obtain ⟨n, en⟩ : ∃ n, m.length = n := ⟨_, rfl⟩
  obtain ⟨c0, -⟩ := cell_in h.ob 0 rfl
  rw [en] at c0 ⊢
  clear h en
  go_enter Tryd.func52, Tryd.ntmps52
  go_wp2
  go_ret
  exact ⟨rfl, rfl⟩
theorem tplaceI {w : World} {base tb mb : Nat} {kv : Value} {m : List (KW × Value)} {most : Nat} (k : KW) (h : TabAt TTI w base tb kv mb m most) :
    Calls Tryd.prog 71 #[.pointer (some ⟨tb, 0, none⟩), k.val] w (RetV w (.int .i64 (posK (m.map (·.1)) k : Int))) := by
  obtain ⟨p, ep⟩ : ∃ p, posK (m.map (·.1)) k = p := ⟨_, rfl⟩
  obtain ⟨b, eb⟩ : ∃ b, hitK (m.map (·.1)) k p = b := ⟨_, rfl⟩
  have hml : (m.map (·.1)).length ≤ 100000 := by rw [List.length_map]; exact Nat.le_trans h.few (Nat.le_trans h.most (by decide))
  have hs := fun W (hg : Grows w W) => ksearch_rises k ((kown_has h.own).grows hg) hml h.rises
  rw [ep, eb] at hs
  rw [ep]
  have hgb : Grows w (w.alloc (.cells #[.int .i64 k.t, .int .i64 k.f, .int .u32 k.s] 29)) := bl_alloc (Below.refl _ _) _
  have hbx := heap_alloc_new w (.cells #[.int .i64 k.t, .int .i64 k.f, .int .u32 k.s] 29)
  obtain ⟨W, eW⟩ : ∃ W, w.alloc (.cells #[.int .i64 k.t, .int .i64 k.f, .int .u32 k.s] 29) = W := ⟨_, rfl⟩
  rw [eW] at hgb hbx
  have hW := h.grows hgb
  obtain ⟨c0, -⟩ := cell_in hW.ob 0 rfl
  obtain ⟨t0, -⟩ := cell_in hbx 0 rfl
  obtain ⟨t1, -⟩ := cell_in hbx 1 rfl
  obtain ⟨t2, -⟩ := cell_in hbx 2 rfl
  have z1 := hW.lt
  have z2 := box_lt hbx
  have HG := Lib.hid hgb
  have HS := Lib.hid hs
  clear hgb hbx h hW hs hml ep eb
  go_enter Tryd.func71, Tryd.ntmps71
  go_wp2_with fail
  refine wp_region_reg (by kernel_rfl) (by kernel_rfl) ?_
  repeat (first | go_big_quiet_step ((go_at_call 84; exact class_reg (HS.out _ (grows_trans _ _ _ HG.out (below_reg _ _))))) | quiet_step ((go_at_call 84; exact class_reg (HS.out _ (grows_trans _ _ _ HG.out (below_reg _ _))))))
  refine wpQuiet_nil ?_
  intro _ hcw1
  obtain ⟨pq, hcw2⟩ := hcw1
  subst hcw2
  go_wp2_with fail
  go_ret
  exact ⟨rfl, grows_trans _ _ _ HG.out (below_reg _ _)⟩
end Go.Proofs.YtgjieoljfcfacaaDoor
/- A table's New and Put, at rows of int64. -/
namespace Go.Proofs.YtgjieoljfcfacaaDoor
open Go.RowKit Go.Sort
set_option maxHeartbeats 4000000
set_option maxRecDepth 100000
/-- How many rows there may be, of those asked for. -/
def mostOfI (n : Int) : Nat := (min (max n 0) 65536).toNat
theorem tnewI (n : Int) (w : World) : Calls Tryd.prog 69 #[.int .i64 n] w (fun e w' => e = .returned (.pointer (some ⟨w.heap.size + 1, 0, none⟩)) ∧ Grows w w' ∧ TabAt TTI w' w.heap.size (w.heap.size + 1) (.slice none 0 0) w.heap.size [] (mostOfI n)) := by
  obtain ⟨k, ek⟩ : ∃ k, mostOfI n = k := ⟨_, rfl⟩
  have hk : k ≤ 65536 := by rw [← ek]; unfold mostOfI; omega
  have hend : ∀ w', w' = (w.alloc (.map #[] 0)).alloc (.cells #[.slice none 0 0, .map (some w.heap.size), .int .i64 (k : Int)] TTI) → Grows w w' ∧ TabAt TTI w' w.heap.size (w.heap.size + 1) (.slice none 0 0) w.heap.size [] k := by
    rintro w' rfl
    have hg : Grows w ((w.alloc (.map #[] 0)).alloc (.cells #[.slice none 0 0, .map (some w.heap.size), .int .i64 (k : Int)] TTI)) := bl_alloc (bl_alloc (Below.refl _ _) _) _
    exact ⟨hg, (two_new w _ _).2, World.ownsRow_nil _ _ _ _, (MapAt.made w).grows (bl_alloc (Below.refl _ _) _), Nat.le_succ _, Nat.le_refl _, Nat.zero_le _, hk, List.Pairwise.nil⟩
  have HE := Lib.hid hend
  rw [ek]
  clear hend hk
  have h3 : (n < 0 ∧ k = 0) ∨ (0 ≤ n ∧ n ≤ 65536 ∧ n = (k : Int)) ∨ (65536 < n ∧ k = 65536) := by rw [← ek]; unfold mostOfI; omega
  clear ek
  have hmm := @run_makeMap Tryd.prog
  rcases h3 with ⟨h1, rfl⟩ | ⟨h1, h2, rfl⟩ | ⟨h1, rfl⟩
  · go_enter Tryd.func69, Tryd.ntmps69
    go_wp2
    go_ret
    exact ⟨rfl, HE.out _ rfl⟩
  · go_enter Tryd.func69, Tryd.ntmps69
    go_wp2
    all_goals (go_ret; exact ⟨rfl, HE.out _ rfl⟩)
  · go_enter Tryd.func69, Tryd.ntmps69
    go_wp2
    go_ret
    exact ⟨rfl, HE.out _ rfl⟩
theorem tput_noI {w : World} {base tb mb : Nat} {kv : Value} {m : List (KW × Value)} {most : Nat} (k : KW) (v : Value) (h : TabAt TTI w base tb kv mb m most) (hE : putE m most k ≠ 0) :
    Calls Tryd.prog 47 #[.pointer (some ⟨tb, 0, none⟩), k.val, v] w (TabTo TTI w base tb kv mb m most (.int .i64 (putE m most k))) := by
  obtain ⟨b, eb⟩ : ∃ b, (getK m k).isSome = b := ⟨_, rfl⟩
  obtain ⟨z, ez⟩ : ∃ z, (getK m k).getD (.int .i64 0) = z := ⟨_, rfl⟩
  have hor : (b = true ∧ putE m most k = 12) ∨ (b = false ∧ most ≤ m.length ∧ putE m most k = 13) := by
    unfold putE at hE ⊢
    rw [← eb]
    cases hg : getK m k with
    | none =>
      rw [hg] at hE
      by_cases hm : most ≤ m.length
      · exact .inr ⟨rfl, hm, by simp [hm]⟩
      · simp [hm] at hE
    | some u => exact .inl ⟨rfl, by simp⟩
  have hend : ∀ w', Grows w w' → TabTo TTI w base tb kv mb m most (.int .i64 (putE m most k)) (.returned (.int .i64 (putE m most k))) w' := fun w' hg => TabTo.same h hg
  have HE := Lib.hid hend
  obtain ⟨q, eq⟩ : ∃ q, putE m most k = q := ⟨_, rfl⟩
  rw [eq] at hor HE ⊢
  have hgb : Grows w (w.alloc (.cells #[.int .i64 k.t, .int .i64 k.f, .int .u32 k.s] 29)) := bl_alloc (Below.refl _ _) _
  have hbx := heap_alloc_new w (.cells #[.int .i64 k.t, .int .i64 k.f, .int .u32 k.s] 29)
  obtain ⟨W, eW⟩ : ∃ W, w.alloc (.cells #[.int .i64 k.t, .int .i64 k.f, .int .u32 k.s] 29) = W := ⟨_, rfl⟩
  rw [eW] at hgb hbx
  have hW := h.grows hgb
  have hl : ∀ p, (Instr.lookup 120 (.map (some mb)) k.val true).run Tryd.prog (reg W p) = .ok (.tuple #[z, .bool b]) (reg W p) := fun p => by
    have := (hW.map.grows (below_reg W p)).look Tryd.underlying120 (zeroI _) k true
    rw [this, ez, eb]
    rfl
  obtain ⟨a, cap, rfl⟩ := h.len
  obtain ⟨n, en⟩ : ∃ n, m.length = n := ⟨_, rfl⟩
  obtain ⟨c0, -⟩ := cell_in hW.ob 0 rfl
  obtain ⟨c1, -⟩ := cell_in hW.ob 1 rfl
  obtain ⟨c2, -⟩ := cell_in hW.ob 2 rfl
  rw [en] at c0 hor
  obtain ⟨t0, -⟩ := cell_in hbx 0 rfl
  obtain ⟨t1, -⟩ := cell_in hbx 1 rfl
  obtain ⟨t2, -⟩ := cell_in hbx 2 rfl
  have z1 := hW.lt
  have z2 := box_lt hbx
  have HG := Lib.hid hgb
  clear hend hgb hbx h hE eb hW en eq ez
  rcases hor with ⟨rfl, rfl⟩ | ⟨rfl, hm, rfl⟩
  · go_enter Tryd.func47, Tryd.ntmps47
    go_wp2_with fail
    refine wp_region_reg (by kernel_rfl) (by kernel_rfl) ?_
    repeat (first | go_big_quiet_step ((fail)) | quiet_step ((fail)))
    refine wpQuiet_nil ?_
    intro _ hcw1
    obtain ⟨pq, hcw2⟩ := hcw1
    subst hcw2
    go_wp2_with fail
    go_ret
    exact HE.out _ (grows_trans _ _ _ HG.out (below_reg _ _))
  · have hd : decide ((n : Int) ≥ (most : Int)) = true := decide_eq_true (by omega)
    have hd2 : (most ≤ n) = True := eq_true hm
    clear hm
    go_enter Tryd.func47, Tryd.ntmps47
    go_wp2_with fail
    refine wp_region_reg (by kernel_rfl) (by kernel_rfl) ?_
    repeat (first | go_big_quiet_step ((fail)) | quiet_step ((fail)))
    refine wpQuiet_nil ?_
    intro _ hcw1
    obtain ⟨pq, hcw2⟩ := hcw1
    subst hcw2
    go_wp2_with fail
    refine wp_region_reg (by kernel_rfl) (by kernel_rfl) ?_
    repeat (first | go_big_quiet_step ((fail)) | quiet_step ((fail)))
    refine wpQuiet_nil ?_
    intro _ hcw1
    obtain ⟨pq, hcw2⟩ := hcw1
    subst hcw2
    go_wp2_with fail
    go_ret
    exact HE.out _ (grows_trans _ _ _ HG.out (grows_trans _ _ _ (below_reg _ _) (below_reg _ _)))
end Go.Proofs.YtgjieoljfcfacaaDoor
/- A table's Put that puts in, at rows of int64. -/
namespace Go.Proofs.YtgjieoljfcfacaaDoor
open Go.RowKit Go.Sort
set_option maxHeartbeats 4000000
set_option maxRecDepth 100000
theorem gen_worldI {W w' : World} {p : World → Prop} (hg : Grows W w') (h : ∀ W0, Grows W W0 → p W0) : p w' := h _ hg
/-- A slice of one key, in a block made behind B. -/
def sgKeyI (B : Nat) (k : KW) : SG Grows := ⟨fun v w => ∃ g, v = .slice (some ⟨g, 0, none⟩) 1 1 ∧ B ≤ g ∧ w.heap[g]? = some (.cells #[.int .i64 k.t, .int .i64 k.f, .int .u32 k.s] 29 (0, 0)), fun _ _ _ h hg => by
  obtain ⟨g, h1, h2, h3⟩ := h
  exact ⟨g, h1, h2, box_grows h3 hg⟩⟩
theorem tput_okI {w : World} {base tb mb : Nat} {kv : Value} {m : List (KW × Value)} {most : Nat} (k : KW) (v : Value) (h : TabAt TTI w base tb kv mb m most) (hbase : base ≤ w.heap.size) (hE : putE m most k = 0) :
    Calls Tryd.prog 47 #[.pointer (some ⟨tb, 0, none⟩), k.val, v] w (TabTo TTI w base tb kv mb (insT m k v) most (.int .i64 0)) := by
  have hno : getK m k = none := by
    unfold putE at hE
    cases hg : getK m k with
    | none => rfl
    | some u => rw [hg] at hE; simp at hE
  have hroom : m.length < most := by
    unfold putE at hE
    rw [hno] at hE
    by_cases hm : most ≤ m.length
    · simp [hm] at hE
    · omega
  have hgb : Grows w (w.alloc (.cells #[.int .i64 k.t, .int .i64 k.f, .int .u32 k.s] 29)) := bl_alloc (Below.refl _ _) _
  have hbx := heap_alloc_new w (.cells #[.int .i64 k.t, .int .i64 k.f, .int .u32 k.s] 29)
  obtain ⟨W, eW⟩ : ∃ W, w.alloc (.cells #[.int .i64 k.t, .int .i64 k.f, .int .u32 k.s] 29) = W := ⟨_, rfl⟩
  rw [eW] at hgb hbx
  have hW := h.grows hgb
  have hl : ∀ p, (Instr.lookup 120 (.map (some mb)) k.val true).run Tryd.prog (reg W p) = .ok (.tuple #[.int .i64 0, .bool false]) (reg W p) := fun p => by
    have := (hW.map.grows (below_reg W p)).look Tryd.underlying120 (zeroI _) k true
    rw [this, hno]
    rfl
  obtain ⟨a, cap, rfl⟩ := h.len
  obtain ⟨n, en⟩ : ∃ n, m.length = n := ⟨_, rfl⟩
  obtain ⟨c0, -⟩ := cell_in hW.ob 0 rfl
  obtain ⟨c1, -⟩ := cell_in hW.ob 1 rfl
  obtain ⟨c2, -⟩ := cell_in hW.ob 2 rfl
  rw [en] at c0 hroom
  obtain ⟨t0, -⟩ := cell_in hbx 0 rfl
  obtain ⟨t1, -⟩ := cell_in hbx 1 rfl
  obtain ⟨t2, -⟩ := cell_in hbx 2 rfl
  have z1 := hW.lt
  have z2 := box_lt hbx
  have HG := Lib.hid hgb
  have HH := Lib.hid h
  have HBX := Lib.hid hbx
  have EN := Lib.hid en
  have HNO := Lib.hid hno
  have HRM := Lib.hid hroom
  have HBS := Lib.hid hbase
  have hd : decide ((n : Int) ≥ (most : Int)) = false := decide_eq_false (by omega)
  have hd2 : (most ≤ n) = False := eq_false (Nat.not_le_of_lt hroom)
  clear hgb hbx h hE hW en hno hroom hbase
  go_enter Tryd.func47, Tryd.ntmps47
  go_wp2_with fail
  refine wp_region_reg (by kernel_rfl) (by kernel_rfl) ?_
  repeat (first | go_big_quiet_step ((fail)) | quiet_step ((fail)))
  refine wpQuiet_nil ?_
  intro _ hcw1
  obtain ⟨pq, hcw2⟩ := hcw1
  subst hcw2
  have hg1 : Grows W (reg W pq) := below_reg _ _
  go_wp2_with fail
  refine wp_region_reg (by kernel_rfl) (by kernel_rfl) ?_
  repeat (first | go_big_quiet_step ((fail)) | quiet_step ((fail)))
  refine wpQuiet_nil ?_
  intro _ hcw1
  obtain ⟨pq, hcw2⟩ := hcw1
  subst hcw2
  have hg2 := grows_trans _ _ _ hg1 (below_reg _ pq : Grows (reg W _) _)
  go_wp2_with fail
  refine gen_worldI (p := fun w' => Code.wp _ _ _ _ w') hg2 ?_
  intro W0 hg0
  clear hg1 hg2 eW hl c0 c1 c2 t0 t1 t2 z1 z2 hd hd2
  have hgw := grows_trans _ _ _ HG.out hg0
  have h0 := HH.out.grows hgw
  have hbx0 := box_grows HBX.out hg0
  rw [EN.out] at h0 ⊢
  obtain ⟨pos, epos⟩ : ∃ pos, posK (m.map (·.1)) k = pos := ⟨_, rfl⟩
  have hplace := fun W' (hg : Grows W0 W') => by have := tplaceI k (h0.grows hg); rw [epos] at this; exact this
  have HPL := Lib.hid hplace
  have H0 := Lib.hid h0
  have HX0 := Lib.hid hbx0
  have HGW := Lib.hid hgw
  have EP := Lib.hid epos
  have hml : (m.map (·.1)).length ≤ 100000 := by rw [List.length_map, EN.out]; exact Nat.le_trans (Nat.le_of_lt HRM.out) (Nat.le_trans HH.out.most (by decide))
  have hins := fun W' vb (hg : Grows W0 W') (hvb : W'.heap[vb]? = some (.cells #[.int .i64 k.t, .int .i64 k.f, .int .u32 k.s] 29 (0, 0))) (hge : W0.heap.size ≤ vb) => by
    have := kins_any k (h0.grows hg).own (posK_le _ k) hml hvb (fun hj => Nat.lt_irrefl _ (Nat.lt_of_lt_of_le (h0.own.lt _ hj).2 hge)) (Nat.le_trans HBS.out (Nat.le_trans hgw.size hg.size))
    rw [epos] at this
    exact this
  have HINS := Lib.hid hins
  have hlen : ((m.map (·.1)).take pos ++ k :: (m.map (·.1)).drop pos).length = n + 1 := by
    have := posK_le (m.map (·.1)) k
    rw [epos] at this
    have h9 := EN.out
    simp at this ⊢; omega
  have HLN := Lib.hid hlen
  clear hlen
  have hs : ∀ w', Grows W0 w' → w'.cell? ⟨tb, 0, none⟩ = some (.slice a n cap) ∧ w'.cell? ⟨w.heap.size, 0, none⟩ = some (.int .i64 k.t) ∧ w'.cell? ⟨w.heap.size, 1, none⟩ = some (.int .i64 k.f) ∧ w'.cell? ⟨w.heap.size, 2, none⟩ = some (.int .u32 k.s) ∧ tb < w'.heap.size ∧ w.heap.size < w'.heap.size := fun w' hg =>
    ⟨(cell_in (h0.grows hg).ob 0 rfl).1, (cell_in (box_grows hbx0 hg) 0 rfl).1, (cell_in (box_grows hbx0 hg) 1 rfl).1, (cell_in (box_grows hbx0 hg) 2 rfl).1, (h0.grows hg).lt, box_lt (box_grows hbx0 hg)⟩
  have HS := Lib.hid hs
  have hst : ∀ w1 w3, Grows W0 w1 → Chg (fun j => (Value.slice a n cap).ownBlock = some j) w1 w3 → w3.cell? ⟨tb, 0, none⟩ = some (.slice a n cap) ∧ w3.frozen? ⟨tb, 0, none⟩ = false := fun w1 w3 hg hc =>
    cell_in (box_chg (h0.grows hg).ob hc (h0.kne (by decide))) 0 rfl
  have HST := Lib.hid hst
  clear hplace h0 hbx0 hgw epos hg0 hml hins
  obtain ⟨c0, t0, t1, t2, z1, z2⟩ := hs W0 (grows_refl _)
  clear hs hst
  go_cut [] (fun wx => TabMid W0 base tb (.slice a n cap) ((m.map (·.1)).take pos ++ k :: (m.map (·.1)).drop pos) wx)
  case first =>
    have mixed : Tryd.prog.follows .mixedOrders = true := by kernel_rfl
    go_region_law (first
      | (refine step_call (by rfl) 71 #[.tmp 36, .tmp 37] #[97, 29] (by rfl) #[.pointer (some ⟨tb, 0, none⟩), k.val] (by rfl) Tryd.f71 Tryd.func71 (by kernel_rfl) (by kernel_rfl) (HPL.out _ ?_) ?_; (· (repeat (first | exact grows_refl _ | refine bl_drew ?_ | refine bl_alloc ?_ _))); rintro e w2 ⟨rfl, hg2⟩; refine ⟨_, rfl, ?_⟩; have hg3 : Grows W0 w2 := grows_trans _ _ _ (by (repeat (first | exact grows_refl _ | refine bl_drew ?_ | refine bl_alloc ?_ _))) hg2; obtain ⟨c0, t0, t1, t2, z1, z2⟩ := HS.out w2 hg3)
      | (refine step_call (by rfl) 70 #[.tmp 35, .tmp 38, .tmp 40] #[119, 3, 119] (by rfl) #[.slice a n cap, .int .i64 (pos : Int), .slice (some ⟨w2.heap.size, 0, none⟩) 1 1] (by rfl) Tryd.f70 Tryd.func70 (by kernel_rfl) (by kernel_rfl) (HINS.out _ _ ?_ ?_ ?_) ?_; (· exact bl_alloc hg3 _); (· exact heap_alloc_new w2 _); (· exact hg3.size); rintro e w3 ⟨kv', rfl, ho, hc, hf⟩; obtain ⟨a2, cap2, rfl⟩ := (kown_has ho).len HLN.out; refine ⟨_, rfl, ?_⟩; obtain ⟨c3, f3⟩ := HST.out _ _ (bl_alloc hg3 _) hc; have hz := hc.size)
      | (refine step_call (by rfl) 70 #[.tmp 35, .tmp 38, .tmp 40] #[119, 3, 119] (by rfl) #[.slice a n cap, .int .i64 (pos : Int), .slice (some ⟨W0.heap.size, 0, none⟩) 1 1] (by rfl) Tryd.f70 Tryd.func70 (by kernel_rfl) (by kernel_rfl) (HINS.out _ _ ?_ ?_ ?_) ?_; (· exact hg3); (· exact box_grows (heap_alloc_new W0.drew _) hg2); (· exact Nat.le_refl _); rintro e w3 ⟨kv', rfl, ho, hc, hf⟩; obtain ⟨a2, cap2, rfl⟩ := (kown_has ho).len HLN.out; refine ⟨_, rfl, ?_⟩; obtain ⟨c3, f3⟩ := HST.out _ _ hg3 hc; have hz := hc.size)
      | fail)
    all_goals
      go_wp2_with fail
      go_meet
      rw [← HLN.out] at ho hf ⊢
      first
        | exact ⟨_, _, _, _, bl_alloc hg3 _, ho, hc, hf, rfl⟩
        | exact ⟨_, _, _, _, hg3, ho, hc, hf, rfl⟩
  case rest =>
    obtain ⟨w1, w3, a2, cap2, r1, r2, r3, r4, rfl⟩ := hcut
    have hkeys : ((m.map (·.1)).take pos ++ k :: (m.map (·.1)).drop pos) = (insT m k v).map (·.1) := by
      rw [insT_keys, ← EP.out, take_pos, drop_pos]
    have hri : Rises ((insT m k v).map (·.1)) := insT_rises HH.out.rises (getK_none.1 HNO.out) v
    rw [hkeys] at r2 r4 ⊢
    have hg1 := grows_trans _ _ _ HGW.out r1
    have h1 := HH.out.grows hg1
    rw [EN.out] at h1
    have hob3 := box_chg h1.ob r3 (h1.kne (by decide))
    have hmp3 := h1.map.chg r3 h1.kmne
    have hbx3 := box_chg (box_grows HX0.out r1) r3 (fun hj => by have := (HH.out.own.lt w.heap.size (by rw [EN.out]; exact hj)).2; exact Nat.lt_irrefl _ this)
    have hlt := HH.out.lt
    obtain ⟨kv', ekv⟩ : ∃ kv', Value.slice a2 (List.map (·.1) (insT m k v)).length cap2 = kv' := ⟨_, rfl⟩
    rw [ekv] at r2 r4 ⊢
    obtain ⟨w4, e4⟩ : ∃ w4, w3.setCell ⟨tb, 0, none⟩ kv' = w4 := ⟨_, rfl⟩
    have hc4 : Chg (fun j => j = tb) w3 w4 := e4 ▸ Chg.setCell (Chg.refl _ _) _ (.inr rfl)
    have hob4 : w4.heap[tb]? = some (.cells #[kv', .map (some mb), .int .i64 (most : Int)] TTI (0, 0)) := e4 ▸ box_setj hob3
    have hbx4 := box_chg hbx3 hc4 (fun e => by rw [e] at hlt; exact Nat.lt_irrefl _ hlt)
    have hmp4 := hmp3.chg hc4 h1.ne
    have hend := fun q o hm => tab_end (r := .int .i64 0) (m' := insT m k v) (o := o) q (show TTI ≠ 29 by decide) HH.out hg1 r2 (by rw [EN.out]; exact r3) (fun j hj => by rw [EN.out]; exact r4 j hj) hm hri (by rw [insT_length, EN.out]; exact HRM.out)
    rw [e4, EN.out] at hend
    have HEND := Lib.hid hend
    have HM4 := Lib.hid hmp4
    have HRI := Lib.hid hri.nodup
    obtain ⟨d1, -⟩ := cell_in hob4 1 rfl
    obtain ⟨t0, -⟩ := cell_in hbx4 0 rfl
    obtain ⟨t1, -⟩ := cell_in hbx4 1 rfl
    obtain ⟨t2, -⟩ := cell_in hbx4 2 rfl
    have z1 := box_lt hob4
    have z2 := box_lt hbx4
    rw [e4]
    clear e4 ekv hend hmp4 hbx4 hob4 hc4 hlt hbx3 hmp3 hob3 h1 hg1 r1 r2 r3 r4 hri hkeys HS HST HINS HPL H0 HX0
    go_wp2_with fail
    refine wp_region_tail_drewN 6 (by kernel_rfl) (by kernel_rfl) (by kernel_rfl) (by kernel_rfl) ?_
    simp only [List.take_succ_cons, List.take_zero, List.drop_succ_cons, List.drop_zero]
    repeat (first | go_big_quiet_step ((fail)) | quiet_step ((fail)))
    refine wpQuiet_nil ?_
    intro _ hcw1
    obtain ⟨nq, hcw2⟩ := hcw1
    subst hcw2
    obtain ⟨o, hrun, hoc, hm⟩ := (HM4.out.of_block (w' := w4.drewN nq) rfl).put Tryd.underlying120 k HNO.out v
    have hm2 := hm.congr (getK_insT HRI.out)
    have HM := Lib.hid hm2
    clear hm hm2
    go_wp2_with fail
    go_ret
    have h9 := HEND.out _ _ HM.out
    rw [← EN.out] at h9
    exact h9
/-- Put. -/
theorem tputI {w : World} {base tb mb : Nat} {kv : Value} {m : List (KW × Value)} {most : Nat} (k : KW) (v : Value) (h : TabAt TTI w base tb kv mb m most) (hbase : base ≤ w.heap.size) :
    Calls Tryd.prog 47 #[.pointer (some ⟨tb, 0, none⟩), k.val, v] w (TabTo TTI w base tb kv mb (if putE m most k = 0 then insT m k v else m) most (.int .i64 (putE m most k))) := by
  by_cases hE : putE m most k = 0
  · rw [if_pos hE, hE]; exact tput_okI k v h hbase hE
  · rw [if_neg hE]; exact tput_noI k v h hE
end Go.Proofs.YtgjieoljfcfacaaDoor
/- A table's Del, at rows of int64. -/
namespace Go.Proofs.YtgjieoljfcfacaaDoor
open Go.RowKit Go.Sort
set_option maxHeartbeats 4000000
set_option maxRecDepth 100000
theorem tdel_noI {w : World} {base tb mb : Nat} {kv : Value} {m : List (KW × Value)} {most : Nat} (k : KW) (h : TabAt TTI w base tb kv mb m most) (hno : getK m k = none) :
    Calls Tryd.prog 73 #[.pointer (some ⟨tb, 0, none⟩), k.val] w (TabTo TTI w base tb kv mb m most (.bool false)) := by
  have HE := Lib.hid (fun w' hg => TabTo.same (r := .bool false) h (w' := w') hg)
  have hgb : Grows w (w.alloc (.cells #[.int .i64 k.t, .int .i64 k.f, .int .u32 k.s] 29)) := bl_alloc (Below.refl _ _) _
  have hbx := heap_alloc_new w (.cells #[.int .i64 k.t, .int .i64 k.f, .int .u32 k.s] 29)
  obtain ⟨W, eW⟩ : ∃ W, w.alloc (.cells #[.int .i64 k.t, .int .i64 k.f, .int .u32 k.s] 29) = W := ⟨_, rfl⟩
  rw [eW] at hgb hbx
  have hW := h.grows hgb
  have hl : ∀ p, (Instr.lookup 120 (.map (some mb)) k.val true).run Tryd.prog (reg W p) = .ok (.tuple #[.int .i64 0, .bool false]) (reg W p) := fun p => by
    have := (hW.map.grows (below_reg W p)).look Tryd.underlying120 (zeroI _) k true
    rw [this, hno]
    rfl
  obtain ⟨c1, -⟩ := cell_in hW.ob 1 rfl
  obtain ⟨t0, -⟩ := cell_in hbx 0 rfl
  obtain ⟨t1, -⟩ := cell_in hbx 1 rfl
  obtain ⟨t2, -⟩ := cell_in hbx 2 rfl
  have z1 := hW.lt
  have z2 := box_lt hbx
  have HG := Lib.hid hgb
  clear hgb hbx h hW hno
  go_enter Tryd.func73, Tryd.ntmps73
  go_wp2_with fail
  refine wp_region_reg (by kernel_rfl) (by kernel_rfl) ?_
  repeat (first | go_big_quiet_step ((fail)) | quiet_step ((fail)))
  refine wpQuiet_nil ?_
  intro _ hcw1
  obtain ⟨pq, hcw2⟩ := hcw1
  subst hcw2
  go_wp2_with fail
  go_ret
  exact HE.out _ (grows_trans _ _ _ HG.out (below_reg _ _))
theorem tdel_inI {w : World} {base tb mb : Nat} {kv : Value} {m : List (KW × Value)} {most : Nat} (k : KW) (u : Value) (h : TabAt TTI w base tb kv mb m most) (hyes : getK m k = some u) :
    Calls Tryd.prog 73 #[.pointer (some ⟨tb, 0, none⟩), k.val] w (TabDel TTI w base tb kv mb (delT m k) most (.bool true)) := by
  have hmem : k ∈ m.map (·.1) := by
    rw [← Classical.not_not (a := k ∈ m.map (·.1)), ← getK_none, hyes]; simp
  obtain ⟨hdk, hdp⟩ := del_keys h.rises hmem
  have hgb : Grows w (w.alloc (.cells #[.int .i64 k.t, .int .i64 k.f, .int .u32 k.s] 29)) := bl_alloc (Below.refl _ _) _
  have hbx := heap_alloc_new w (.cells #[.int .i64 k.t, .int .i64 k.f, .int .u32 k.s] 29)
  obtain ⟨W, eW⟩ : ∃ W, w.alloc (.cells #[.int .i64 k.t, .int .i64 k.f, .int .u32 k.s] 29) = W := ⟨_, rfl⟩
  rw [eW] at hgb hbx
  have hW := h.grows hgb
  have hl : ∀ p, (Instr.lookup 120 (.map (some mb)) k.val true).run Tryd.prog (reg W p) = .ok (.tuple #[u, .bool true]) (reg W p) := fun p => by
    have := (hW.map.grows (below_reg W p)).look Tryd.underlying120 (zeroI _) k true
    rw [this, hyes]
    rfl
  obtain ⟨c1, -⟩ := cell_in hW.ob 1 rfl
  obtain ⟨t0, -⟩ := cell_in hbx 0 rfl
  obtain ⟨t1, -⟩ := cell_in hbx 1 rfl
  obtain ⟨t2, -⟩ := cell_in hbx 2 rfl
  have z1 := hW.lt
  have z2 := box_lt hbx
  have HG := Lib.hid hgb
  have HH := Lib.hid h
  have HBX := Lib.hid hbx
  have HDK := Lib.hid hdk
  have HDP := Lib.hid hdp
  clear hgb hbx h hW hyes hmem hdk hdp
  go_enter Tryd.func73, Tryd.ntmps73
  go_wp2_with fail
  refine wp_region_reg (by kernel_rfl) (by kernel_rfl) ?_
  repeat (first | go_big_quiet_step ((fail)) | quiet_step ((fail)))
  refine wpQuiet_nil ?_
  intro _ hcw1
  obtain ⟨pq, hcw2⟩ := hcw1
  subst hcw2
  have hg1 : Grows W (reg W pq) := below_reg _ _
  refine gen_worldI (p := fun w' => Exit.then _ _ _ _ w') hg1 ?_
  intro W0 hg0
  clear hg1 hl c1 t0 t1 t2 z1 z2
  have h0 := HH.out.grows (grows_trans _ _ _ HG.out hg0)
  have hbx0 := box_grows HBX.out hg0
  have hpl := tplaceI k h0
  have hml : (m.map (·.1)).length ≤ 100000 := by rw [List.length_map]; exact Nat.le_trans HH.out.few (Nat.le_trans HH.out.most (by decide))
  obtain ⟨pos, epos⟩ : ∃ pos, posK (m.map (·.1)) k = pos := ⟨_, rfl⟩
  rw [epos] at hpl HDK HDP
  have hws : wrap64 ((pos : Int) + 1) = (pos : Int) + 1 := wrap_succ (Nat.le_trans (Nat.le_of_lt HDP.out) (Nat.le_trans hml (by decide)))
  have HPL := Lib.hid hpl
  have HML := Lib.hid hml
  have HG0 := Lib.hid hg0
  have H0 := Lib.hid h0
  have HX0 := Lib.hid hbx0
  obtain ⟨t0, -⟩ := cell_in hbx0 0 rfl
  obtain ⟨t1, -⟩ := cell_in hbx0 1 rfl
  obtain ⟨t2, -⟩ := cell_in hbx0 2 rfl
  have HWS := Lib.hid hws
  clear hpl hml hg0 h0 hbx0 epos hws eW
  go_wp2_with fail
  refine (HPL.out).mono ?_
  rintro e w2 ⟨rfl, hg2⟩
  have h2 := H0.out.grows hg2
  obtain ⟨c0, -⟩ := cell_in h2.ob 0 rfl
  have HG2 := Lib.hid hg2
  have H2 := Lib.hid h2
  have hws := HWS.out
  clear hg2 h2 t0 t1 t2
  go_wp2_with fail
  refine (kdel_any H2.out.own HDP.out HML.out).mono ?_
  rintro e w3 ⟨kv', rfl, ho, hc, hob⟩
  rw [HDK.out] at ho
  obtain ⟨a2, cap2, rfl⟩ := (kown_has ho).len (List.length_map ..)
  have hg1 := grows_trans _ _ _ HG.out (grows_trans _ _ _ HG0.out HG2.out)
  have hob3 := box_chg H2.out.ob hc (H2.out.kne (by decide))
  have hmp3 := H2.out.map.chg hc H2.out.kmne
  have hbx3 := box_chg (box_grows HX0.out HG2.out) hc (fun hj => Nat.lt_irrefl _ (HH.out.own.lt w.heap.size hj).2)
  have hlt := HH.out.lt
  obtain ⟨c3, f3⟩ := cell_in hob3 0 rfl
  obtain ⟨kv', ekv⟩ : ∃ kv', Value.slice a2 (delT m k).length cap2 = kv' := ⟨_, rfl⟩
  obtain ⟨w4, e4⟩ : ∃ w4, w3.setCell ⟨tb, 0, none⟩ (Value.slice a2 (delT m k).length cap2) = w4 := ⟨_, rfl⟩
  have hc4 : Chg (fun j => j = tb) w3 w4 := e4 ▸ Chg.setCell (Chg.refl _ _) _ (.inr rfl)
  have hob4 : w4.heap[tb]? = some (.cells #[kv', .map (some mb), .int .i64 (most : Int)] TTI (0, 0)) := by rw [← e4, ekv]; exact box_setj hob3
  have hbx4 := box_chg hbx3 hc4 (fun e => by rw [e] at hlt; exact Nat.lt_irrefl _ hlt)
  have hmp4 := hmp3.chg hc4 H2.out.ne
  rw [ekv] at ho hob
  have hend := fun q o hm => tab_end2 (r := .bool true) (m' := delT m k) (o := o) q (show TTI ≠ 29 by decide) HH.out hg1 ho hc hob hm (delT_rises HH.out.rises k) (Nat.le_trans (delT_few m k) HH.out.few)
  rw [← ekv, e4] at hend
  have HEND := Lib.hid hend
  have HM4 := Lib.hid hmp4
  obtain ⟨d1, -⟩ := cell_in hob4 1 rfl
  obtain ⟨t0, -⟩ := cell_in hbx4 0 rfl
  obtain ⟨t1, -⟩ := cell_in hbx4 1 rfl
  obtain ⟨t2, -⟩ := cell_in hbx4 2 rfl
  have z1 := box_lt hob4
  have z2 := box_lt hbx4
  clear hend hmp4 hbx4 hob4 hc4 hlt hbx3 hmp3 hob3 hg1 ho hc hob ekv c0 H2 HX0 H0 HPL
  go_wp2_with fail
  refine wp_region_tail_drewN 5 (by kernel_rfl) (by kernel_rfl) (by kernel_rfl) (by kernel_rfl) ?_
  simp only [List.take_succ_cons, List.take_zero, List.drop_succ_cons, List.drop_zero]
  repeat (first | go_big_quiet_step ((fail)) | quiet_step ((fail)))
  refine wpQuiet_nil ?_
  intro _ hcw1
  obtain ⟨nq, hcw2⟩ := hcw1
  subst hcw2
  obtain ⟨o, hrun, hoc, hm⟩ := (HM4.out.of_block (w' := w4.drewN nq) rfl).del Tryd.underlying120 k 29 0
  have hm2 := hm.congr (getK_delT m k)
  have HM := Lib.hid hm2
  clear hm hm2
  go_wp2_with fail
  go_ret
  exact HEND.out _ _ HM.out
theorem tdel_okI {w : World} {base tb mb : Nat} {kv : Value} {m : List (KW × Value)} {most : Nat} (k : KW) (u : Value) (h : TabAt TTI w base tb kv mb m most) (hyes : getK m k = some u) :
    Calls Tryd.prog 73 #[.pointer (some ⟨tb, 0, none⟩), k.val] w (TabTo TTI w base tb kv mb (delT m k) most (.bool true)) := (tdel_inI k u h hyes).mono fun _ _ h => h.to
end Go.Proofs.YtgjieoljfcfacaaDoor
/- The table's methods that the rows of int64 alone reach. -/
namespace Go.Proofs.YtgjieoljfcfacaaDoor
open Go.RowKit Go.Sort
set_option maxHeartbeats 4000000
set_option maxRecDepth 100000
theorem tgetI {w : World} {base tb mb : Nat} {kv : Value} {m : List (KW × Value)} {most : Nat} (k : KW) (h : TabAt TTI w base tb kv mb m most) :
    Calls Tryd.prog 59 #[.pointer (some ⟨tb, 0, none⟩), k.val] w (RetV w (.tuple #[(getK m k).getD (.int .i64 0), .bool (getK m k).isSome])) := by
  obtain ⟨v, ev⟩ : ∃ v, (getK m k).getD (.int .i64 0) = v := ⟨_, rfl⟩
  obtain ⟨b, eb⟩ : ∃ b, (getK m k).isSome = b := ⟨_, rfl⟩
  rw [ev, eb]
  have hgb : Grows w (w.alloc (.cells #[.int .i64 k.t, .int .i64 k.f, .int .u32 k.s] 29)) := bl_alloc (Below.refl _ _) _
  have hbx := heap_alloc_new w (.cells #[.int .i64 k.t, .int .i64 k.f, .int .u32 k.s] 29)
  obtain ⟨W, eW⟩ : ∃ W, w.alloc (.cells #[.int .i64 k.t, .int .i64 k.f, .int .u32 k.s] 29) = W := ⟨_, rfl⟩
  rw [eW] at hgb hbx
  have hW := h.grows hgb
  have hl : ∀ p, (Instr.lookup 120 (.map (some mb)) k.val true).run Tryd.prog (reg W p) = .ok (.tuple #[v, .bool b]) (reg W p) := fun p => by
    have := (hW.map.grows (below_reg W p)).look Tryd.underlying120 (zeroI _) k true
    rw [this, ev, eb]
    rfl
  obtain ⟨c1, -⟩ := cell_in hW.ob 1 rfl
  obtain ⟨t0, -⟩ := cell_in hbx 0 rfl
  obtain ⟨t1, -⟩ := cell_in hbx 1 rfl
  obtain ⟨t2, -⟩ := cell_in hbx 2 rfl
  have z1 := hW.lt
  have z2 := box_lt hbx
  have HG := Lib.hid hgb
  clear hgb hbx h ev eb hW
  go_enter Tryd.func59, Tryd.ntmps59
  go_wp2_with fail
  refine wp_region_reg (by kernel_rfl) (by kernel_rfl) ?_
  repeat (first | go_big_quiet_step ((fail)) | quiet_step ((fail)))
  refine wpQuiet_nil ?_
  intro _ hcw1
  obtain ⟨pq, hcw2⟩ := hcw1
  subst hcw2
  go_wp2_with fail
  go_ret2
  exact ⟨rfl, grows_trans _ _ _ HG.out (below_reg _ _)⟩
theorem room_wrap {n most : Nat} (h1 : n ≤ most) (h2 : most ≤ 65536) : wrap64 ((most : Int) - (n : Int)) = (most : Int) - (n : Int) := by unfold wrap64; omega
theorem troomI {w : World} {base tb mb : Nat} {kv : Value} {m : List (KW × Value)} {most : Nat} (h : TabAt TTI w base tb kv mb m most) :
    Calls Tryd.prog 60 #[.pointer (some ⟨tb, 0, none⟩)] w (RetV w (.int .i64 ((most : Int) - (m.length : Int)))) := by
  obtain ⟨a, cap, rfl⟩ := h.len
  obtain ⟨n, en⟩ : ∃ n, m.length = n := ⟨_, rfl⟩
  obtain ⟨c0, -⟩ := cell_in h.ob 0 rfl
  obtain ⟨c2, -⟩ := cell_in h.ob 2 rfl
  have z1 := h.lt
  have hw := room_wrap h.few h.most
  rw [en] at c0 hw ⊢
  clear h en
  go_enter Tryd.func60, Tryd.ntmps60
  go_wp2_with fail
  refine wp_region_reg (by kernel_rfl) (by kernel_rfl) ?_
  repeat (first | go_big_quiet_step ((fail)) | quiet_step ((fail)))
  refine wpQuiet_nil ?_
  intro _ hcw1
  obtain ⟨pq, hcw2⟩ := hcw1
  subst hcw2
  go_wp2_with fail
  go_ret
  exact ⟨by first | rfl | (rw [hw]; rfl), below_reg _ _⟩
end Go.Proofs.YtgjieoljfcfacaaDoor
/- A range over a function that hands over more than one value at a time: XRange's law, the values as an array. -/
namespace Go.Proofs.YtgjieoljfcfacaaDoor
open Go.RowKit Go.Sort
/-- The cells from block n on stay. -/
def Kept (n : Nat) (A B : World) : Prop := ∀ k cs t m, n ≤ k → A.heap[k]? = some (.cells cs t m) → B.heap[k]? = some (.cells cs t m)
theorem Kept.ofRec {n n' : Nat} {A B : World} (h : Rec n' A B) : Kept n A B := fun _ _ _ _ _ hk => h.at hk
theorem Kept.ofGrows {n : Nat} {A B : World} (h : Grows A B) : Kept n A B := Kept.ofRec (n' := 0) (Rec.grows h)
theorem Kept.ofChg {n : Nat} {A B : World} {S : Nat → Prop} (h : Chg S A B) (hS : ∀ k, S k → k < n) : Kept n A B := fun k cs t m hk h1 => by
  rw [h.block k (Array.getElem?_eq_some_iff.1 h1).1 (fun hs => Nat.lt_irrefl _ (Nat.lt_of_lt_of_le (hS k hs) hk))]
  exact h1
theorem Kept.trans {n : Nat} {A B C : World} (h : Kept n A B) (k : Kept n B C) : Kept n A C := fun j cs t m hj h1 => k j cs t m hj (h j cs t m hj h1)
theorem Kept.own {n : Nat} {A B : World} (h : Kept n A B) {base : Nat} (hb : n ≤ base) {e : TypeId} {size : Nat} {v : Value} {m : Nat} {xs : List Value} (ho : A.ownsRow base e size v m xs) : B.ownsRow base e size v m xs := by
  refine ⟨ho.1, ?_⟩
  rcases ho.2 with hn | ⟨g, cap, cur, rfl, hg, hgg, rest⟩
  · exact .inl hn
  · exact .inr ⟨g, cap, cur, rfl, hg, h _ _ _ _ (Nat.le_trans hb hg) hgg, rest⟩

/-- What is asked of the function that is ranged over: with each round it may know what holds between two rounds, and that its own cells stay; of each thing that it hands over it says G; the rounds done, T holds of all. -/
def Tells2 {α : Type} (P : Program) (gf : FuncId) (lb : Array Value) (enc : α → Array Value) (I : List α → World → Prop) (G : List α → α → World → Prop) (T : List α → Prop) (w : World) : Prop :=
  ∀ (l : Nat) (J Jx : List α → World → Prop) (W : World), Grows w W → (∀ s A, J s A → I s A) → (∀ s A B, J s A → Grows A B → J s B) → (∀ s A B, Jx s A → Grows A B → Jx s B) →
    (∀ pre x W1, J pre W1 → G pre x W1 → YieldAt Fence.wide 8 P l (enc x) W1 fun e W' => Kept w.heap.size W1 W' ∧ ((e = .returned (.bool true) ∧ J (pre ++ [x]) W') ∨ (e = .returned (.bool false) ∧ Jx (pre ++ [x]) W'))) →
    J [] W → CallsIn Fence.wide 9 P gf (#[.func (.yield l) #[] #[]] ++ lb) W fun e W' => (∃ v, e = .returned v) ∧ ((∃ xs, T xs ∧ J xs W') ∨ ∃ pre, Jx pre W')

theorem wp_range2 {α : Type} {P : Program} {g : Operand} {ps : Array Tmp} {assign body : Code} {Q : Exit → Act → World → Prop} {a : Act} {w : World} {gf : Nat} {lb : Array Value}
    (hg : a.eval g = .func (.func gf) #[] lb) (eg : ∀ args w, (callFunc gf args).run P w = .ok (.enter gf args) w) (enc : α → Array Value) (hps : ∀ x, (enc x).size = ps.size)
    (S : Nat → Prop) (hS : ∀ k, S k → k < w.heap.size) (I : List α → World → Prop) (G : List α → α → World → Prop) (Ix : Code → List α → World → Prop) (T : List α → Prop)
    (hI : ∀ s A B, I s A → Rec w.heap.size A B → I s B) (hIx : ∀ c s A B, Ix c s A → Rec w.heap.size A B → Ix c s B) (h0 : I [] w) (hiter : Tells2 P gf lb enc I G T w)
    (hround : ∀ l pre x W, w.heap.size ≤ l → l < W.heap.size → I pre W → G pre x W → assign.wpIn (Fence.wide.inRound l) 8 P
      (Exit.then (fun a1 W1 => Grows W W1 ∧ ∀ W2, Rec w.heap.size W1 W2 → body.wpIn (Fence.wide.inRound l) 8 P (roundLeft S I Ix (pre ++ [x]) W2) a1 W2) (fun _ _ _ => False))
      { tmps := (ps.zip (enc x)).foldl (fun t (p, v) => t.setIfInBounds p v) a.tmps, defers := [] } W)
    (hdone : ∀ D xs W, w.heap.size ≤ D → T xs → I xs W → W.heap[D]? = some (.deferred (some [])) → Q .normal { a with defers := { target := .collected D, args := #[] } :: a.defers } W)
    (hstop : ∀ D c pre W, w.heap.size ≤ D → Ix c pre W → W.heap[D]? = some (.deferred (some [])) → c.wp P Q { a with defers := { target := .collected D, args := #[] } :: a.defers } W) :
    (Code.rangeFunc g ps assign body).wp P Q a w := by
  refine (wpIn_wide (n := 9)).1 (wpIn_rangeFunc fun fn hfn => ?_)
  have hro : Fence.wide.round = none := rfl
  rw [hro]
  -- the loop's record, by its state and the jump that waits
  obtain ⟨rc, hrc⟩ : ∃ rc : LoopState → Option Code → Loop, rc = fun st pe => { state := st, pending := pe, fn, tmps := a.tmps, params := ps, assign, body, defers := w.heap.size } := ⟨_, rfl⟩
  obtain ⟨W1, hW1⟩ : ∃ W1, (w.alloc (.deferred (some []))).alloc (.loop (rc .ready none)) = W1 := ⟨_, rfl⟩
  have hg1 : Grows w W1 := by rw [← hW1]; exact bl_alloc (bl_alloc (Below.refl _ _) _) _
  have hL1 : W1.heap[w.heap.size + 1]? = some (.loop (rc .ready none)) := by
    rw [← hW1]; have := World.alloc_heap_new (w.alloc (.deferred (some []))) (.loop (rc .ready none)); rwa [World.size_alloc] at this
  have hD1 : W1.heap[w.heap.size]? = some (.deferred (some [])) := by
    rw [← hW1]; exact (Below.heap_alloc _ _ _ (by simp)).trans (World.alloc_heap_new w _)
  obtain ⟨L, eL⟩ : ∃ L, w.heap.size + 1 = L := ⟨_, rfl⟩
  have hwL : w.heap.size ≤ L := by omega
  have hDL : w.heap.size ≠ L := by omega
  rw [eL] at hL1
  have hSL : ¬ S L := fun h => by have := hS _ h; omega
  have hSD : ¬ S w.heap.size := fun h => by have := hS _ h; omega
  -- both blocks stay where nothing of the sort is turned
  have keep : ∀ {A B : World} {k : Nat} {o : Obj} {U : Nat → Prop}, Chg U A B → ¬ U k → A.heap[k]? = some o → B.heap[k]? = some o := fun hc hu hk => by
    rw [hc.block _ (Array.getElem?_eq_some_iff.1 hk).1 hu]; exact hk
  have keepg : ∀ {A B : World} {k : Nat} {o : Obj}, Grows A B → A.heap[k]? = some o → B.heap[k]? = some o := fun hc hk => keep (Chg.ofGrows (S := fun _ => False) hc) (fun h => h) hk
  refine ⟨L, [{ target := .collected w.heap.size, args := #[] }], W1, { target := .fn (.func gf) lb, args := #[.func (.yield L) #[] #[]] }, W1, gf, #[.func (.yield L) #[] #[]] ++ lb, W1, ?_, ?_, ?_, ?_, fun _ => by decide, ?_⟩
  · rw [← eL, ← hW1, hrc]; exact run_enterLoop_outer _ _ _ _ _
  · simp only [resolve, hg]
    simp [go_sem]
  · intro f' _; trivial
  · simp [invoke, go_sem, eg]
  · refine callsIn_wide.2 (callsIn_wide.1 ((hiter L
      (fun s W => I s W ∧ W.heap[L]? = some (.loop (rc .ready none)) ∧ W.heap[w.heap.size]? = some (.deferred (some [])))
      (fun s W => ∃ c, Ix c s W ∧ W.heap[L]? = some (.loop (rc .done (some c))) ∧ W.heap[w.heap.size]? = some (.deferred (some [])))
      W1 hg1 (fun s A h => h.1) (fun s A B h hAB => ⟨hI s A B h.1 (Rec.grows hAB), keepg hAB h.2.1, keepg hAB h.2.2⟩)
      (fun s A B h hAB => by obtain ⟨c, h1, h2, h3⟩ := h; exact ⟨c, hIx c s A B h1 (Rec.grows hAB), keepg hAB h2, keepg hAB h3⟩)
      ?_ ⟨hI _ _ _ h0 (Rec.grows hg1), hL1, hD1⟩).mono ?_))
    · rintro pre x W ⟨hi, hl, hd⟩ hGx
      have hy := run_yield (P := P) (args := enc x) hl (by rw [hrc]; simp [hps x])
      rw [hrc] at hy
      refine ⟨fn, _, assign, body, hy, roundIn_of_wpIn hfn (wpIn_mono (hround L pre x W hwL (Array.getElem?_eq_some_iff.1 hl).1 hi hGx) ?_)⟩
      intro e a1 W2 hp
      cases e with
      | normal =>
        obtain ⟨hgr, hb⟩ := hp
        have hl2 := keepg hgr hl
        have hd2 := keepg hgr hd
        refine ⟨_, run_beginRound hl2 (by rw [hrc]), ?_⟩
        obtain ⟨r2, er2⟩ : ∃ r2 : Loop, { rc .ready none with state := .busy } = r2 := ⟨_, rfl⟩
        rw [er2]
        have hl3 : (W2.putObj L (.loop r2)).heap[L]? = some (.loop r2) := World.putObj_heap_same (Array.getElem?_eq_some_iff.1 hl2).1
        have hd3 : (W2.putObj L (.loop r2)).heap[w.heap.size]? = some (.deferred (some [])) := (World.putObj_heap_other hDL).trans hd2
        refine wpIn_mono (hb _ (Rec.put _ hwL hl2 rfl)) ?_
        have fin : ∀ (jump : Option Code) (W3 : World), Chg S (W2.putObj L (.loop r2)) W3 →
            ∃ W4, (Instr.endRound L jump).run P W3 = .ok (.bool jump.isNone) W4 ∧ Rec w.heap.size W3 W4 ∧ W4.heap[L]? = some (.loop (rc (if jump.isNone then .ready else .done) jump)) ∧ W4.heap[w.heap.size]? = some (.deferred (some [])) ∧ Kept w.heap.size W W4 := fun jump W3 hc => by
          have hl4 := keep hc hSL hl3
          have hd4 := keep hc hSD hd3
          refine ⟨_, run_endRound (P := P) jump hl4, Rec.put _ hwL hl4 rfl, ?_, (World.putObj_heap_other hDL).trans hd4, (((Kept.ofGrows hgr).trans (Kept.ofRec (Rec.put _ hwL hl2 rfl))).trans (Kept.ofChg hc hS)).trans (Kept.ofRec (Rec.put _ hwL hl4 rfl))⟩
          rw [World.putObj_heap_same (Array.getElem?_eq_some_iff.1 hl4).1, ← er2, hrc]
        intro e2 a2 W3 hq
        cases e2 with
        | normal =>
          obtain ⟨W4, hr, hR, h1, h2, h3⟩ := fin none W3 hq.1
          exact ⟨_, W4, hr, h3, .inl ⟨rfl, hI _ _ _ hq.2 hR, h1, h2⟩⟩
        | ret =>
          obtain ⟨W4, hr, hR, h1, h2, h3⟩ := fin (some .ret) W3 hq.1
          exact ⟨_, W4, hr, h3, .inr ⟨rfl, _, hIx _ _ _ _ hq.2 hR, h1, h2⟩⟩
        | exit id =>
          obtain ⟨W4, hr, hR, h1, h2, h3⟩ := fin (some (.exit id)) W3 hq.1
          exact ⟨_, W4, hr, h3, .inr ⟨rfl, _, hIx _ _ _ _ hq.2 hR, h1, h2⟩⟩
        | goto t =>
          obtain ⟨W4, hr, hR, h1, h2, h3⟩ := fin (some (.goto t)) W3 hq.1
          exact ⟨_, W4, hr, h3, .inr ⟨rfl, _, hIx _ _ _ _ hq.2 hR, h1, h2⟩⟩
        | panic ch => exact hq.elim
        | outgrown => exact hq.elim
      | exit id => exact hp.elim
      | goto t => exact hp.elim
      | ret => exact hp.elim
      | panic ch => exact hp.elim
      | outgrown => exact hp.elim
    · rintro e W2 ⟨⟨v, rfl⟩, ⟨xs, hT, hi, hl, hd⟩ | ⟨pre, c, hi, hl, hd⟩⟩
      · refine ⟨none, _, by have := run_endLoop (P := P) hl (by rw [hrc]; simp); rw [hrc] at this; exact this, ?_⟩
        exact hdone _ xs _ (Nat.le_refl _) hT (hI _ _ _ hi (Rec.put _ hwL hl rfl)) ((World.putObj_heap_other hDL).trans hd)
      · refine ⟨some c, _, by have := run_endLoop (P := P) hl (by rw [hrc]; simp); rw [hrc] at this; exact this, ?_⟩
        exact wpIn_wide.2 (hstop _ c pre _ (Nat.le_refl _) (hIx _ _ _ _ hi (Rec.put _ hwL hl rfl)) ((World.putObj_heap_other hDL).trans hd))

end Go.Proofs.YtgjieoljfcfacaaDoor
/- A table's All: the closure that goes over it. -/
namespace Go.Proofs.YtgjieoljfcfacaaDoor
open Go.RowKit Go.Sort
set_option maxHeartbeats 4000000
set_option maxRecDepth 100000
theorem tall_any (u : Value) (hu : u = .pointer none ∨ ∃ b, u = .pointer (some ⟨b, 0, none⟩)) (w : World) : Calls Tryd.prog 72 #[u] w (fun e w' => e = .returned (.func (.func 86) #[] #[.pointer (some ⟨w.heap.size, 0, none⟩)]) ∧ Grows w w' ∧ w'.cell? ⟨w.heap.size, 0, none⟩ = some u) := by
  rcases hu with rfl | ⟨b, rfl⟩
  all_goals (
    go_enter Tryd.func72, Tryd.ntmps72
    go_wp2
    go_ret
    refine ⟨rfl, by show Below w.heap.size w _; (repeat (first | with_reducible exact Below.refl _ _ | with_reducible refine bl_alloc ?_ _ | ((with_reducible refine bl_set ?_ ?_ _); rotate_left; (first | exact Nat.le_refl _ | exact Nat.le_succ_of_le (Nat.le_refl _) | (simp only []; omega))) | with_reducible refine bl_drewN ?_ _ | with_reducible refine bl_drew ?_ | with_reducible refine bl_reg ?_ _)), ?_⟩
    simp [go_sem])
section
attribute [local go_sem] Oper.semAt_some
end
end Go.Proofs.YtgjieoljfcfacaaDoor
/- A table's All, gone over: each row that is there, in order. -/
namespace Go.Proofs.YtgjieoljfcfacaaDoor
open Go.RowKit Go.Sort
set_option maxHeartbeats 4000000
set_option maxRecDepth 100000
/-- A row, as it is handed over. -/
def rowV (p : KW × Value) : Array Value := #[p.1.val, p.2]
/-- What All says of each row that it hands over. -/
def RowG (m pre : List (KW × Value)) (x : KW × Value) (_ : World) : Prop := m[pre.length]? = some x
theorem TabAt.len_n {T : TypeId} {w : World} {base tb mb most n : Nat} {kv : Value} {m : List (KW × Value)} (h : TabAt T w base tb kv mb m most) (hn : m.length = n) : ∃ a cap, kv = .slice a n cap := by
  obtain ⟨a, cap, e⟩ := h.len
  exact ⟨a, cap, by rw [e, hn]⟩
section
attribute [local go_sem] Oper.semAt_some
theorem tall_tells (w : World) {base tb mb c most : Nat} {kv : Value} {m : List (KW × Value)} (I : List (KW × Value) → World → Prop) (hI0 : ∀ A, I [] A → TabAt TTI A base tb kv mb m most)
    (hI : ∀ s A, I s A → A.cell? ⟨c, 0, none⟩ = some (.pointer (some ⟨tb, 0, none⟩)) ∧ ∃ kv' m', TabAt TTI A base tb kv' mb m' most ∧ ∀ i p, s.length ≤ i → m[i]? = some p → getK m' p.1 = some p.2) :
    Tells2 Tryd.prog 86 #[.pointer (some ⟨c, 0, none⟩)] rowV I (RowG m) (fun xs => xs.length = m.length) w := by
  intro q J Jx W hg hJI hJ hJx hY h0
  obtain ⟨n, en⟩ : ∃ n, m.length = n := ⟨_, rfl⟩
  have ht := hI0 _ (hJI _ _ h0)
  obtain ⟨hc, -⟩ := hI _ _ (hJI _ _ h0)
  obtain ⟨a, cap, rfl⟩ := ht.len_n en
  have hn6 : n ≤ 65536 := by rw [← en]; exact Nat.le_trans ht.few ht.most
  have H0 := Lib.hid h0
  have HI := Lib.hid (fun s A h => hI s A (hJI s A h))
  have HC := Lib.hid (callsIn_wide (n := 8).2 (kclone_any (kown_has ht.own) (show (m.map (·.1)).length ≤ 100000 by rw [List.length_map, en]; exact Nat.le_trans hn6 (by decide))))
  have HY := Lib.hid hY
  have HJ := Lib.hid hJ
  have EN := Lib.hid en
  have HN6 := Lib.hid hn6
  have HSW := Lib.hid hg.size
  have z1 := ht.lt
  obtain ⟨d0, -⟩ := cell_in ht.ob 0 rfl
  clear hY hJ hJx hJI hI hI0 ht h0 en hg hn6
  refine callsIn_of_wp Tryd.func86 rfl trivial ?_ rfl
  simp only [Tryd.ntmps86, List.size_toArray, List.length_cons, List.length_nil, Nat.reduceAdd, Nat.reduceSub, Array.replicate_succ, Array.replicate_zero, List.push_toArray, List.append_toArray, List.nil_append, List.cons_append]
  gi_wp2_with fail
  refine ⟨trivial, (HC.out).mono ?_⟩
  rintro e w' ⟨v', rfl, hg2, ho⟩
  obtain ⟨a2, cap2, rfl⟩ := (kown_has ho).len (show (m.map (·.1)).length = n by rw [List.length_map]; exact EN.out)
  have HO := Lib.hid ho
  have HJ0 := Lib.hid (HJ.out _ _ _ H0.out hg2)
  clear hg2 ho hc d0 z1
  gi_wp2_with fail
  gi_loopw [15] (fun v15 wr => ∃ k : Nat, v15 = .int .i64 (k : Int) ∧ k ≤ n ∧ ∃ pre, pre.length = k ∧ J pre wr ∧ KOwn wr W.heap.size (.slice a2 n cap2) (m.map (·.1))) (fun v15 _ => n - (intOf v15).toNat)
  case atStart => exact ⟨0, rfl, Nat.zero_le _, [], rfl, HJ0.out, HO.out⟩
  case round =>
    obtain ⟨k, rfl, hk, pre, hpre, hj, ho⟩ := hrel
    have J1 := Lib.hid hj
    have HP := Lib.hid hpre
    have HO1 := Lib.hid ho
    by_cases hlt : k < n
    · have hk6 : k ≤ 1000000 := Nat.le_trans (Nat.le_of_lt hlt) (Nat.le_trans HN6.out (by decide))
      have HNF := Lib.hid (nat_facts k hk6)
      have HWS := Lib.hid (wrap_succ hk6)
      have HKK := Lib.hid hlt
      have hkl : k < (m.map (·.1)).length := by rw [List.length_map, EN.out]; exact hlt
      have hkm : k < m.length := by rw [EN.out]; exact hlt
      obtain ⟨hc1, kv1, m1, ht1, hrow⟩ := HI.out _ _ hj
      obtain ⟨g, o, c', he, hcap, hgl, hat⟩ := (kown_has ho).form (show (m.map (·.1)).length = n by rw [List.length_map]; exact EN.out) (Nat.lt_of_le_of_lt (Nat.zero_le _) hlt)
      simp only [Value.slice.injEq, true_and] at he
      obtain ⟨rfl, rfl⟩ := he
      obtain ⟨p0, p1, p2⟩ := kat_cells hat k hkl
      have hx : m[k]? = some m[k] := List.getElem?_eq_getElem hkm
      obtain ⟨x, ex⟩ : ∃ x, m[k] = x := ⟨_, rfl⟩
      rw [List.getElem_map, ex] at p0 p1 p2
      rw [ex] at hx
      have hlk := hrow k x (by rw [hpre]; exact Nat.le_refl _) hx
      have hgb : Grows wr (wr.alloc (.cells #[.int .i64 x.1.t, .int .i64 x.1.f, .int .u32 x.1.s] 29)) := bl_alloc (Below.refl _ _) _
      have hbx := heap_alloc_new wr (.cells #[.int .i64 x.1.t, .int .i64 x.1.f, .int .u32 x.1.s] 29)
      obtain ⟨Wb, eW⟩ : ∃ Wb, wr.alloc (.cells #[.int .i64 x.1.t, .int .i64 x.1.f, .int .u32 x.1.s] 29) = Wb := ⟨_, rfl⟩
      rw [eW] at hgb hbx
      have htb := ht1.grows hgb
      have hl : ∀ p, (Instr.lookup 120 (.map (some mb)) x.1.val true).run Tryd.prog (reg Wb p) = .ok (.tuple #[x.2, .bool true]) (reg Wb p) := fun p => by
        have := (htb.map.grows (below_reg Wb p)).look Tryd.underlying120 (zeroI _) x.1 true
        rw [this, hlk]
        rfl
      obtain ⟨d1, -⟩ := cell_in htb.ob 1 rfl
      obtain ⟨t0, -⟩ := cell_in hbx 0 rfl
      obtain ⟨t1, -⟩ := cell_in hbx 1 rfl
      obtain ⟨t2, -⟩ := cell_in hbx 2 rfl
      have hcb := box_cell_grows hc1 hgb
      have z1 := htb.lt
      have z3 : c < Wb.heap.size := by obtain ⟨o9, ho9, -⟩ := cells_of_cell hcb; exact (Array.getElem?_eq_some_iff.1 ho9).1
      have z2 := box_lt hbx
      have HX := Lib.hid hx
      have HG := Lib.hid hgb
      have HBX := Lib.hid hbx
      have hki : (k : Int) < (n : Int) := Int.ofNat_lt.2 hlt
      clear hx hlk hgb hbx htb ht1 hrow hat hcap hj ho hpre hk6 hkl hkm ex hk hlt
      obtain ⟨j1, j2, j3, j4, j6⟩ := HNF.out
      gi_wp2_with fail
      refine wpIn_wide.2 ?_
      refine wp_region_reg (by kernel_rfl) (by kernel_rfl) ?_
      repeat (first | go_big_quiet_step ((fail)) | quiet_step ((fail)))
      refine wpQuiet_nil ?_
      intro _ hcw1
      obtain ⟨pq, hcw2⟩ := hcw1
      subst hcw2
      obtain ⟨W2, eW2⟩ : ∃ W2, reg Wb pq = W2 := ⟨_, rfl⟩
      have hg2 : Grows Wb W2 := by rw [← eW2]; exact below_reg Wb pq
      rw [eW2]
      have hbx2 := box_grows HBX.out hg2
      have HG2 := Lib.hid (grows_trans _ _ _ HG.out hg2)
      obtain ⟨t0, -⟩ := cell_in hbx2 0 rfl
      obtain ⟨t1, -⟩ := cell_in hbx2 1 rfl
      obtain ⟨t2, -⟩ := cell_in hbx2 2 rfl
      have z2 := box_lt hbx2
      obtain ⟨fn, tmps, assign, body, hy, hR⟩ := HY.out pre x W2 (HJ.out _ _ _ J1.out HG2.out) (by show m[pre.length]? = some x; rw [HP.out]; exact HX.out)
      simp only [rowV, KW.val] at hy
      clear hbx2 hg2 eW2 eW hl
      gi_wp2_with fail
      refine hR.mono ?_
      rintro e w3 ⟨hkp, ⟨rfl, hj3⟩ | ⟨rfl, hj3⟩⟩
      · have ho3 := hkp.own HSW.out (own_grows HO1.out HG2.out)
        gi_wp2
        go_roundw
        case rel => exact ⟨k + 1, by rw [HWS.out]; rfl, HKK.out, _, by rw [List.length_append, HP.out]; rfl, hj3, ho3⟩
        case measure => rw [HWS.out]; exact meas_succ HKK.out
      · gi_wp2
        refine bodyPost_ret (results_none rfl _ _ _) rfl ?_
        exact ⟨⟨_, rfl⟩, .inr ⟨_, hj3⟩⟩
    · obtain rfl : k = n := Nat.le_antisymm hk (Nat.le_of_not_lt hlt)
      clear hk ho hj hpre
      gi_wp2
      go_end0
      exact ⟨⟨_, rfl⟩, .inl ⟨pre, by rw [HP.out, EN.out], J1.out⟩⟩
end
end Go.Proofs.YtgjieoljfcfacaaDoor
/- A table's Drop: each row that the given function says is taken out. -/
namespace Go.Proofs.YtgjieoljfcfacaaDoor
open Go.RowKit Go.Sort
set_option maxHeartbeats 4000000
set_option maxRecDepth 100000
theorem Rec.chg {n : Nat} {A B : World} {U : Nat → Prop} (h : Rec n A B) (hU : ∀ k, n ≤ k → U k) : Chg U A B := Chg.mono h fun k _ hs => hU k hs.1
theorem TabAt.keep {T : TypeId} {n : Nat} {A B : World} {base tb mb most : Nat} {kv : Value} {m : List (KW × Value)} (h : TabAt T A base tb kv mb m most) (hr : Rec n A B) (hm : mb < n) : TabAt T B base tb kv mb m most := by
  have hk : ∀ {k : Nat} {cs : Array Value} {t : TypeId} {z : Nat × Nat}, A.heap[k]? = some (.cells cs t z) → ¬ (n ≤ k ∧ ∃ o : Obj, A.heap[k]? = some o ∧ o.isCells = false) := by
    rintro k cs t z h1 ⟨_, o, h2, h3⟩
    rw [h1] at h2
    cases h2
    cases h3
  refine h.chg hr (hk h.ob) (fun hs => by omega) (fun j hj => ?_)
  obtain ⟨cur, hg⟩ := h.own.ty hj
  exact hk hg
/-- The rows left behind so many rounds. -/
def leftT (D : KW × Value → Bool) (m s : List (KW × Value)) : List (KW × Value) := s.filter (fun p => !D p) ++ m.drop s.length
theorem leftT_nil (D : KW × Value → Bool) (m : List (KW × Value)) : leftT D m [] = m := by simp [leftT]
theorem leftT_all {D : KW × Value → Bool} {m s : List (KW × Value)} (h : s = m.take s.length) (hl : s.length = m.length) : leftT D m s = m.filter (fun p => !D p) := by
  have : s = m := by rw [h, hl, List.take_length]
  subst this
  simp [leftT]
theorem take_next {α : Type} {m s : List α} {x : α} (h : s = m.take s.length) (hx : m[s.length]? = some x) : s ++ [x] = m.take (s ++ [x]).length ∧ m = s ++ x :: m.drop (s ++ [x]).length := by
  obtain ⟨hl, e⟩ := List.getElem?_eq_some_iff.1 hx
  constructor
  · rw [List.length_append, List.length_singleton, List.take_add_one, hx, ← h]
    rfl
  · conv => lhs; rw [← List.take_append_drop s.length m, ← h]
    rw [List.length_append, List.length_singleton, ← e, ← List.drop_eq_getElem_cons hl]
theorem leftT_keep {D : KW × Value → Bool} {m s : List (KW × Value)} {x : KW × Value} (h : s = m.take s.length) (hx : m[s.length]? = some x) (hd : D x = false) : leftT D m (s ++ [x]) = leftT D m s := by
  obtain ⟨hl, e⟩ := List.getElem?_eq_some_iff.1 hx
  unfold leftT
  rw [List.filter_append, List.length_append, List.length_singleton, List.drop_eq_getElem_cons hl, e]
  simp [hd]
theorem leftT_del {D : KW × Value → Bool} {m s : List (KW × Value)} {x : KW × Value} (hn : (m.map (·.1)).Nodup) (h : s = m.take s.length) (hx : m[s.length]? = some x) (hd : D x = true) : leftT D m (s ++ [x]) = delT (leftT D m s) x.1 := by
  obtain ⟨hl, e⟩ := List.getElem?_eq_some_iff.1 hx
  have hm := (take_next h hx).2
  rw [hm, List.map_append, List.map_cons] at hn
  have hn2 := List.nodup_append.1 hn
  have hA : ∀ p ∈ s, p.1 ≠ x.1 := fun p hp => hn2.2.2 p.1 (List.mem_map_of_mem hp) x.1 (by simp)
  have hB : ∀ p ∈ m.drop (s ++ [x]).length, p.1 ≠ x.1 := fun p hp e => (List.nodup_cons.1 hn2.2.1).1 (e ▸ List.mem_map_of_mem hp)
  unfold leftT delT
  rw [List.filter_append, List.filter_append, List.drop_eq_getElem_cons hl, e, List.filter_cons]
  rw [List.length_append, List.length_singleton] at hB ⊢
  simp only [ne_eq, not_true_eq_false, decide_false, Bool.false_eq_true, if_false, hd, Bool.not_true, List.filter_cons, List.filter_nil, List.append_nil]
  congr 1
  · exact (List.filter_eq_self.2 fun p hp => by simpa using hA p (List.mem_filter.1 hp).1).symm
  · exact (List.filter_eq_self.2 fun p hp => by simpa using hB p hp).symm
theorem leftT_row {D : KW × Value → Bool} {m s : List (KW × Value)} {n : Nat} {p : KW × Value} (hl : s.length ≤ n) (hp : m[n]? = some p) : p ∈ leftT D m s := by
  unfold leftT
  refine List.mem_append.2 (.inr ?_)
  obtain ⟨h1, e⟩ := List.getElem?_eq_some_iff.1 hp
  rw [← e]
  have : m[n] = (m.drop s.length)[n - s.length]'(by rw [List.length_drop]; omega) := by
    rw [List.getElem_drop]; congr 1; omega
  rw [this]
  exact List.getElem_mem _
theorem getK_mem {m : List (KW × Value)} (hn : (m.map (·.1)).Nodup) {p : KW × Value} (hp : p ∈ m) : getK m p.1 = some p.2 := by
  induction m with
  | nil => cases hp
  | cons q m ih =>
    rw [getK_cons]
    rcases List.mem_cons.1 hp with rfl | hp
    · simp
    · rw [List.map_cons, List.nodup_cons] at hn
      have : p.1 ≠ q.1 := fun e => hn.1 (e ▸ List.mem_map_of_mem hp)
      rw [if_neg this]
      exact ih hn.2 hp
theorem delT_length {m : List (KW × Value)} (D : KW × Value → Bool) : (m.filter D).length + (m.filter fun p => !D p).length = m.length := by
  induction m with
  | nil => rfl
  | cons p m ih => cases h : D p <;> simp [h] <;> omega
section
attribute [local go_sem] Oper.semAt_some
theorem tdrop_any {w : World} {base tb mb most : Nat} {kv : Value} {m : List (KW × Value)} (h : TabAt TTI w base tb kv mb m most) (f : Nat) (cs : Array Value)
    (ef : ∀ args W, (callFunc f args).run Tryd.prog W = .ok (.enter f args) W) (P : World → Prop) (D : KW × Value → Bool)
    (hP : ∀ A B, P A → Chg (fun j => TabS tb kv mb j ∨ w.heap.size ≤ j) A B → P B) (h0 : P w)
    (hf : ∀ x W, x ∈ m → P W → Calls Tryd.prog f (rowV x ++ cs) W (RetV W (.bool (D x)))) :
    Calls Tryd.prog 50 #[.pointer (some ⟨tb, 0, none⟩), .func (.func f) #[] cs] w (TabTo TTI w base tb kv mb (m.filter fun p => !D p) most (.int .i64 ((m.filter D).length : Int))) := by
  have HAL := Lib.hid (fun W => tall_any (.pointer (some ⟨tb, 0, none⟩)) (.inr ⟨_, rfl⟩) W)
  have HF := Lib.hid hf
  have HP := Lib.hid hP
  have P0 := Lib.hid h0
  have HT := Lib.hid h
  have z1 := h.lt
  clear hf hP h0 h
  refine calls_of_wp_marks Tryd.func50 rfl ?_
  simp only [Tryd.ntmps50, List.size_toArray, List.length_cons, List.length_nil, Nat.reduceAdd, Nat.reduceSub, Array.replicate_succ, Array.replicate_zero, List.push_toArray, List.append_toArray, List.nil_append, List.cons_append]
  go_wp2_with fail
  refine (HAL.out _).mono ?_
  rintro e w1 ⟨rfl, hg1, hc1⟩
  obtain ⟨b, eb⟩ : ∃ b, w.heap.size = b := ⟨_, rfl⟩
  have q2 := two_new w (.cells #[.pointer (some ⟨tb, 0, none⟩)] 97) (.cells #[.func (.func f) #[] cs] 103)
  have q3 := heap_alloc_new ((w.alloc (.cells #[.pointer (some ⟨tb, 0, none⟩)] 97)).alloc (.cells #[.func (.func f) #[] cs] 103)) (.cells #[.int .i64 0] 3)
  have g3 : Grows _ (World.alloc ((w.alloc (.cells #[.pointer (some ⟨tb, 0, none⟩)] 97)).alloc (.cells #[.func (.func f) #[] cs] 103)) (.cells #[.int .i64 0] 3)) := bl_alloc (Below.refl _ _) _
  have q0 := box_grows (box_grows q2.1 g3) hg1
  have q1 := box_grows (box_grows q2.2 g3) hg1
  have q3 := box_grows q3 hg1
  have g0 : Grows w w1 := grows_trans _ _ _ (bl_alloc (bl_alloc (Below.refl _ _) _) _) (grows_trans _ _ _ g3 hg1)
  simp only [World.size_alloc] at hc1 q3 ⊢
  rw [eb] at q0 q1 q3 hc1 z1 ⊢
  have EB := Lib.hid eb
  have G0 := Lib.hid g0
  have hS1 : b + 2 < w1.heap.size := box_lt q3
  have H1 := Lib.hid (And.intro q0 (And.intro q1 (And.intro q3 hc1)))
  have HS1 := Lib.hid hS1
  have hbS : ∀ j, b ≤ j → ¬ TabS tb kv mb j := fun j hj hs => by
    rcases hs with rfl | rfl | hs
    · omega
    · have := HT.out.mlt; omega
    · have := (HT.out.own.lt j hs).2; omega
  have HBS := Lib.hid hbS
  clear hg1 hc1 q2 q0 q1 q3 g3 g0 eb hbS
  go_wp2_with fail
  refine wp_range2 (α := KW × Value) rfl (enters_of Tryd.func86 (by kernel_rfl) rfl) rowV (fun _ => rfl) (fun j => TabS tb kv mb j ∨ j = b + 2) ?hS
    (fun s W => s = m.take s.length ∧ (∃ kv', TabAt TTI W base tb kv' mb (leftT D m s) most ∧ kv'.ownBlock = kv.ownBlock ∧ (s = [] → kv' = kv)) ∧ W.heap[b]? = some (.cells #[.pointer (some ⟨tb, 0, none⟩)] 97 (0, 0)) ∧
      W.heap[b + 1]? = some (.cells #[.func (.func f) #[] cs] 103 (0, 0)) ∧ W.heap[b + 2]? = some (.cells #[.int .i64 ((s.filter D).length : Int)] 3 (0, 0)) ∧
      W.cell? ⟨b + 3, 0, none⟩ = some (.pointer (some ⟨tb, 0, none⟩)) ∧ P W ∧ Chg (fun j => TabS tb kv mb j ∨ b ≤ j) w W)
    (RowG m) (fun _ _ _ => False) (fun xs => xs.length = m.length) ?hI ?hIx ?h0 ?it ?rd ?dn ?st
  case hS =>
    rintro j (hs | rfl)
    · refine Nat.lt_of_not_le fun hj => HBS.out j (Nat.le_trans ?_ hj) hs
      rw [← EB.out]; exact G0.out.size
    · exact HS1.out
  case hI =>
    rintro s X Y ⟨h1, ⟨kv', h2, h2o⟩, h3, h4, h5, h6, h7, h8⟩ hr
    have hw : b ≤ w1.heap.size := by rw [← EB.out]; exact G0.out.size
    have hc : Chg (fun j => TabS tb kv mb j ∨ b ≤ j) X Y := hr.chg fun k hk => .inr (Nat.le_trans hw hk)
    exact ⟨h1, ⟨kv', h2.keep hr (Nat.lt_of_lt_of_le (HT.out.mlt) G0.out.size), h2o⟩, hr.at h3, hr.at h4, hr.at h5, hr.cell1 h6, HP.out X Y h7 (by rw [EB.out]; exact hc), h8.trans hc⟩
  case hIx => exact fun _ _ _ _ h _ => h.elim
  case h0 =>
    obtain ⟨q0, q1, q3, hc1⟩ := H1.out
    refine ⟨by simp, ⟨kv, ?_, rfl, fun _ => rfl⟩, q0, q1, q3, hc1, HP.out w w1 P0.out (Chg.ofGrows G0.out), Chg.ofGrows G0.out⟩
    rw [leftT_nil]
    exact HT.out.grows G0.out
  case it =>
    refine tall_tells (base := base) (kv := kv) (mb := mb) (most := most) w1 _ (fun A h => ?_) (fun s A h => ⟨h.2.2.2.2.2.1, ?_⟩)
    · obtain ⟨_, ⟨kv', h2, -, h2o⟩, _⟩ := h
      rw [leftT_nil, h2o rfl] at h2
      exact h2
    · obtain ⟨h1, ⟨kv', h2, h2o⟩, _⟩ := h
      exact ⟨kv', _, h2, fun i p hi hp => getK_mem h2.rises.nodup (leftT_row hi hp)⟩
  case st => exact fun _ _ _ _ _ h => h.elim
  case dn =>
    rintro d xs W hD hx ⟨h1, ⟨kv', h2, h2o, -⟩, h3, h4, h5, h6, h7, h8⟩ hdf
    rw [leftT_all h1 hx] at h2
    have hxm : xs = m := by rw [h1, hx, List.take_length]
    subst hxm
    have HD := Lib.hid (And.intro h2 (And.intro h2o (And.intro h8 (And.intro hdf hD))))
    obtain ⟨b2, -⟩ := cell_in h5 0 rfl
    clear h2 h2o h3 h4 h5 h6 h7 h8 hdf hD h1 hx
    go_wp2_with fail
    obtain ⟨h2, h2o, h8, hdf, hD⟩ := HD.out
    refine ⟨by simp, .inl ⟨_, _, rfl, run_takeDeferred hdf, ?_⟩⟩
    refine ⟨.int .i64 ((xs.filter D).length : Int), by simp [results, Tryd.results50, go_sem], rfl, ?_⟩
    have hr : Rec w1.heap.size W (W.putObj d (.deferred none)) := Rec.put _ hD hdf rfl
    have hw : b ≤ w1.heap.size := by rw [← EB.out]; exact G0.out.size
    refine ⟨kv', h2.keep hr (Nat.lt_of_lt_of_le (HT.out.mlt) G0.out.size), ?_, fun j hj => .inl (h2o ▸ hj)⟩
    refine (h8.trans (hr.chg fun k hk => .inr (Nat.le_trans hw hk))).mono fun j hj hs => ?_
    rcases hs with hs | hs
    · exact hs
    · rw [EB.out] at hj; exact absurd hs (Nat.not_le_of_lt hj)
  case rd =>
    intro l0 s x W hl0 hlt hI hG
    have HI := Lib.hid hI
    have HG := Lib.hid hG
    clear hI hG
    obtain ⟨⟨kt, kf, ks⟩, v⟩ := x
    simp only [rowV, KW.val]
    gi_wp2_with fail
    refine ⟨bl_alloc (Below.refl _ _) _, ?_⟩
    intro W2 hr2
    have hgb : Grows W (W.alloc (.cells #[.int .i64 kt, .int .i64 kf, .int .u32 ks] 29)) := bl_alloc (Below.refl _ _) _
    have hbx := heap_alloc_new W (.cells #[.int .i64 kt, .int .i64 kf, .int .u32 ks] 29)
    have hw : b ≤ w1.heap.size := by rw [← EB.out]; exact G0.out.size
    have hmb : mb < w1.heap.size := Nat.lt_of_lt_of_le (HT.out.mlt) G0.out.size
    have hc2 : Chg (fun j => TabS tb kv mb j ∨ b ≤ j) W W2 := (Chg.ofGrows hgb).trans (hr2.chg fun k hk => .inr (Nat.le_trans hw hk))
    obtain ⟨h1, ⟨kv', h2, h2o, -⟩, h3, h4, h5, h6, h7, h8⟩ := HI.out
    have f2 := (h2.grows hgb).keep hr2 hmb
    have f3 := hr2.at (box_grows h3 hgb)
    have f4 := hr2.at (box_grows h4 hgb)
    have f5 := hr2.at (box_grows h5 hgb)
    have f6 := hr2.cell1 (box_cell_grows h6 hgb)
    have f7 := HP.out W W2 h7 (by rw [EB.out]; exact hc2)
    have f8 := h8.trans hc2
    have f9 := hr2.at hbx
    have hx : (⟨⟨kt, kf, ks⟩, v⟩ : KW × Value) ∈ m := List.mem_of_getElem? HG.out
    have HC := Lib.hid (callsIn_wide (n := 7).2 (HF.out _ W2 hx f7))
    obtain ⟨b0, -⟩ := cell_in f3 0 rfl
    obtain ⟨b1, -⟩ := cell_in f4 0 rfl
    obtain ⟨b2, -⟩ := cell_in f5 0 rfl
    obtain ⟨t0, -⟩ := cell_in f9 0 rfl
    obtain ⟨t1, -⟩ := cell_in f9 1 rfl
    obtain ⟨t2, -⟩ := cell_in f9 2 rfl
    obtain ⟨q, eq⟩ : ∃ q, W.heap.size = q := ⟨_, rfl⟩
    have z2 : b + 1 < W2.heap.size := box_lt f4
    have z3 : b + 2 < W2.heap.size := box_lt f5
    have z4 : W.heap.size < W2.heap.size := box_lt f9
    rw [eq] at f9 t0 t1 t2 z4 ⊢
    clear hgb hbx hr2 h1 h2 h3 h4 h5 h6 h7 h8 hmb hx eq
    have F := Lib.hid (And.intro f2 (And.intro f3 (And.intro f4 (And.intro f5 (And.intro f6 (And.intro f7 (And.intro f8 f9)))))))
    clear f2 f3 f4 f5 f6 f7 f8 f9
    gi_wp2_with fail
    refine ⟨trivial, (CallsIn.inRound l0 HC.out).mono ?_⟩
    rintro e w3 ⟨rfl, hg3⟩
    obtain ⟨f2, f3, f4, f5, f6, f7, f8, f9⟩ := F.out
    have f2 := f2.grows hg3
    have f3 := box_grows f3 hg3
    have f4 := box_grows f4 hg3
    have f5 := box_grows f5 hg3
    have f6 := box_cell_grows f6 hg3
    have f7 := HP.out W2 w3 f7 (Chg.ofGrows hg3)
    have f8 := f8.trans (Chg.ofGrows hg3)
    have f9 := box_grows f9 hg3
    have g3 : Chg (fun j => TabS tb kv mb j ∨ j = b + 2) W2 w3 := Chg.ofGrows hg3
    have hx := HG.out
    have hs := HI.out.1
    have hs' := HI.out.1
    clear b0 b1 b2 t0 t1 t2 z2 z3 z4 F HC hg3
    obtain ⟨b0, -⟩ := cell_in f3 0 rfl
    obtain ⟨b2, -⟩ := cell_in f5 0 rfl
    obtain ⟨t0, -⟩ := cell_in f9 0 rfl
    obtain ⟨t1, -⟩ := cell_in f9 1 rfl
    obtain ⟨t2, -⟩ := cell_in f9 2 rfl
    cases hd : D (⟨kt, kf, ks⟩, v)
    · have HE := Lib.hid (And.intro g3 (And.intro (take_next hs hx).1 (And.intro (leftT_keep (D := D) hs hx hd) (And.intro f2 (And.intro f3 (And.intro f4 (And.intro f5 (And.intro f6 (And.intro f7 f8)))))))))
      clear f2 f3 f4 f5 f6 f7 f8 f9 hx hs g3 b0 b2 t0 t1 t2
      gi_wp2_with fail
      obtain ⟨g3, hs, hk, f2, f3, f4, f5, f6, f7, f8⟩ := HE.out
      refine ⟨g3, hs, ⟨kv', by rw [hk]; exact f2, h2o, fun e => by simp at e⟩, f3, f4, ?_, f6, f7, f8⟩
      rw [List.filter_append, List.filter_cons, hd]
      simpa using f5
    · have hyes : getK (leftT D m s) ⟨kt, kf, ks⟩ = some v := getK_mem f2.rises.nodup (p := (⟨kt, kf, ks⟩, v)) (leftT_row (Nat.le_refl _) hx)
      have HE := Lib.hid (And.intro g3 (And.intro (take_next hs hx).1 (And.intro (leftT_del (D := D) HT.out.rises.nodup hs hx hd) (And.intro f2 (And.intro f3 (And.intro f4 (And.intro f5 (And.intro f6 (And.intro f7 (And.intro f8 f9))))))))))
      have HD := Lib.hid (callsIn_wide (n := 7).2 (tdel_inI _ v f2 hyes))
      clear f2 f3 f4 f5 f6 f7 f8 f9 hx hs g3 hyes
      gi_wp2_with fail
      refine ⟨trivial, (CallsIn.inRound l0 HD.out).mono ?_⟩
      rintro e w4 ⟨rfl, kv4, ht4, hc4, ho4⟩
      obtain ⟨g3, hs, hk, f2, f3, f4, f5, f6, f7, f8, f9⟩ := HE.out
      have hc4 : Chg (TabS tb kv mb) w3 w4 := hc4.mono fun j _ hj => by unfold TabS at hj ⊢; rw [← h2o]; exact hj
      obtain ⟨cn, ecn⟩ : ∃ cn, (s.filter D).length = cn := ⟨_, rfl⟩
      have hcn : cn ≤ 1000000 := by
        rw [← ecn, hs']
        exact Nat.le_trans (List.length_filter_le _ _) (Nat.le_trans (List.length_take_le' _ _) (Nat.le_trans HT.out.few (Nat.le_trans HT.out.most (by decide))))
      have hb0 : ¬ TabS tb kv mb b := HBS.out _ (Nat.le_refl _)
      have hb1 : ¬ TabS tb kv mb (b + 1) := HBS.out _ (Nat.le_succ _)
      have hb2 : ¬ TabS tb kv mb (b + 2) := HBS.out _ (Nat.le_add_right _ 2)
      have hb3 : ¬ TabS tb kv mb (b + 3) := HBS.out _ (Nat.le_add_right _ 3)
      have f3 := box_chg f3 hc4 hb0
      have f4 := box_chg f4 hc4 hb1
      have f5 := box_chg f5 hc4 hb2
      have f6 := hc4.cellAt f6 hb3
      have f7 := HP.out _ _ f7 (hc4.mono fun j _ hj => .inl hj)
      have f8 := f8.trans (hc4.mono fun j _ hj => .inl hj)
      have g4 := g3.trans (hc4.mono fun j _ hj => .inl hj)
      rw [ecn] at f5
      have hwc := wrap_succ hcn
      have HE := Lib.hid (And.intro g4 (And.intro hs (And.intro hk (And.intro ht4 (And.intro f3 (And.intro f4 (And.intro f5 (And.intro f6 (And.intro f7 f8)))))))))
      have HO := Lib.hid (ho4.trans h2o)
      clear b0 b2 t0 t1 t2
      obtain ⟨b2, b2f⟩ := cell_in f5 0 rfl
      have b2f : w4.frozen? ⟨b + 1 + 1, 0, none⟩ = false := b2f
      have z3 : b + 2 < w4.heap.size := box_lt f5
      clear g3 hs hk f2 f3 f4 f5 f6 f7 f8 f9 hcn hb0 hb1 hb2 hb3 g4 ht4 hc4 ho4
      gi_wp2_with fail
      obtain ⟨g4, hs, hk, ht4, f3, f4, f5, f6, f7, f8⟩ := HE.out
      have hc5 : Chg (fun j => j = b + 2) w4 (w4.setCell ⟨b + 2, 0, none⟩ (.int .i64 ((cn : Int) + 1))) := Chg.setCell (Chg.refl _ _) _ (.inr rfl)
      have hb2 : ¬ TabS tb kv mb (b + 2) := HBS.out _ (Nat.le_add_right _ 2)
      have hbw : b ≤ b + 2 := Nat.le_add_right _ 2
      refine ⟨g4.trans (hc5.mono fun j _ hj => .inr hj), hs, ⟨kv4, ?_, HO.out, fun e => by simp at e⟩, box_chg f3 hc5 (by omega), box_chg f4 hc5 (by omega), ?_, hc5.cellAt f6 (by show b + 3 ≠ b + 2; omega), HP.out _ _ f7 ?_, f8.trans ?_⟩
      · rw [hk]
        refine ht4.chg hc5 (fun e => hb2 (.inl e.symm)) (fun e => hb2 (.inr (.inl e.symm))) (fun j hj e => hb2 (.inr (.inr ?_)))
        rw [← HO.out, hj, e]
      · have := box_setj (j := 0) (v := .int .i64 ((cn : Int) + 1)) f5
        rw [List.filter_append, List.filter_cons, hd, List.length_append, ecn]
        exact this
      · exact hc5.mono fun j _ hj => .inr (by rw [EB.out, hj]; exact hbw)
      · exact hc5.mono fun j _ hj => .inr (by rw [hj]; exact hbw)
end
end Go.Proofs.YtgjieoljfcfacaaDoor
/- A table of names (seen): its methods, by those of the table that it has. -/
namespace Go.Proofs.YtgjieoljfcfacaaDoor
open Go.RowKit Go.Sort
set_option maxHeartbeats 4000000
set_option maxRecDepth 100000
abbrev TSE : TypeId := 99
/-- Names lie at block sb: their table at block tb. -/
structure SeenAt (w : World) (base sb tb : Nat) (kv : Value) (mb : Nat) (m : List (KW × Value)) (most : Nat) : Prop where
  ob : w.heap[sb]? = some (.cells #[.pointer (some ⟨tb, 0, none⟩)] TSE (0, 0))
  tab : TabAt TTI w base tb kv mb m most
  bs : base ≤ sb
theorem SeenAt.grows {w w' : World} {base sb tb mb most : Nat} {kv : Value} {m : List (KW × Value)} (h : SeenAt w base sb tb kv mb m most) (hg : Grows w w') : SeenAt w' base sb tb kv mb m most :=
  ⟨box_grows h.ob hg, h.tab.grows hg, h.bs⟩
theorem SeenAt.nS {w : World} {base sb tb mb most : Nat} {kv : Value} {m : List (KW × Value)} (h : SeenAt w base sb tb kv mb m most) : ¬ TabS tb kv mb sb := fun hs => by
  rcases hs with hs | hs | hs
  · have h1 := h.ob
    rw [hs, h.tab.ob] at h1
    injection h1 with h1
    injection h1 with _ h1
    exact absurd h1 (by decide)
  · exact map_ne_cells h.tab.map (hs ▸ h.ob)
  · obtain ⟨cur, hg⟩ := h.tab.own.ty hs
    rw [h.ob] at hg
    injection hg with hg
    injection hg with _ hg
    exact absurd hg (by decide)
/-- What a call leaves that changes names. -/
def SeenTo (w : World) (base sb tb : Nat) (kv : Value) (mb : Nat) (m' : List (KW × Value)) (most : Nat) (r : Value) (e : Ending) (w' : World) : Prop :=
  e = .returned r ∧ ∃ kv', SeenAt w' base sb tb kv' mb m' most ∧ Chg (TabS tb kv mb) w w' ∧ ∀ j, kv'.ownBlock = some j → kv.ownBlock = some j ∨ w.heap.size ≤ j
theorem SeenTo.ofTab {w w1 w' : World} {base sb tb mb most : Nat} {kv r : Value} {m m' : List (KW × Value)} {e : Ending} (h : SeenAt w base sb tb kv mb m most) (hg : Grows w w1) (ht : TabTo TTI w1 base tb kv mb m' most r e w') : SeenTo w base sb tb kv mb m' most r e w' := by
  obtain ⟨rfl, kv', k1, k2, k3⟩ := ht
  refine ⟨rfl, kv', ⟨box_chg (box_grows h.ob hg) k2 h.nS, k1, h.bs⟩, (Chg.ofGrows hg).trans k2, fun j hj => ?_⟩
  rcases k3 j hj with h1 | h1
  · exact .inl h1
  · exact .inr (Nat.le_trans hg.size h1)
theorem SeenTo.behind {w Wx Wy : World} {base sb tb mb most : Nat} {kv r : Value} {m m' : List (KW × Value)} {e : Ending} (h : SeenAt Wx base sb tb kv mb m most) (hb : w.heap.size ≤ base) (hg : Grows w Wx) (ht : SeenTo Wx base sb tb kv mb m' most r e Wy) : Grows w Wy := by
  obtain ⟨-, kv', k1, k2, k3⟩ := ht
  refine Below.trans hg (k2.toBelow hg.size (fun j hj hs => ?_))
  rcases hs with hs | hs | hs
  · have := h.tab.bt; omega
  · have := h.tab.bm; omega
  · have := (h.tab.own.lt _ hs).1; omega
theorem snew_any (n : Int) (w : World) : Calls Tryd.prog 46 #[.int .i64 n] w (fun e w' => ∃ sb, e = .returned (.pointer (some ⟨sb, 0, none⟩)) ∧ Grows w w' ∧ SeenAt w' w.heap.size sb (w.heap.size + 1) (.slice none 0 0) w.heap.size [] (mostOfI n)) := by
  have HN := Lib.hid (tnewI n w)
  go_enter Tryd.func46, Tryd.ntmps46
  go_wp2_with fail
  refine (HN.out).mono ?_
  rintro e w1 ⟨rfl, hg1, ht1⟩
  have HT := Lib.hid ht1
  have HG := Lib.hid hg1
  clear ht1 hg1
  go_wp2_with fail
  go_ret
  have g2 : Grows w1 (w1.alloc (.cells #[.pointer (some ⟨w.heap.size + 1, 0, none⟩)] TSE)) := bl_alloc (Below.refl _ _) _
  exact ⟨_, rfl, grows_trans _ _ _ HG.out g2, heap_alloc_new w1 _, HT.out.grows g2, HG.out.size⟩
section
variable {w : World} {base sb tb mb most : Nat} {kv : Value} {m : List (KW × Value)}
theorem snote_any (k : KW) (t : Int) (h : SeenAt w base sb tb kv mb m most) (hb : base ≤ w.heap.size) :
    Calls Tryd.prog 23 #[.pointer (some ⟨sb, 0, none⟩), k.val, .int .i64 t] w (SeenTo w base sb tb kv mb (if putE m most k = 0 then insT m k (.int .i64 t) else m) most (.int .i64 (putE m most k))) := by
  obtain ⟨W, eW⟩ : ∃ W, w.alloc (.cells #[.int .i64 k.t, .int .i64 k.f, .int .u32 k.s] 29) = W := ⟨_, rfl⟩
  have hgb : Grows w W := by rw [← eW]; exact bl_alloc (Below.refl _ _) _
  have hbx := heap_alloc_new w (.cells #[.int .i64 k.t, .int .i64 k.f, .int .u32 k.s] 29)
  rw [eW] at hbx
  have HP := Lib.hid (fun W' (hg : Grows w W') => (tputI k (.int .i64 t) (h.tab.grows hg) (Nat.le_trans hb hg.size)).mono fun e w' ht => SeenTo.ofTab h hg ht)
  have HG := Lib.hid hgb
  obtain ⟨c0, -⟩ := cell_in (box_grows h.ob hgb) 0 rfl
  have z1 := box_lt (box_grows h.ob hgb)
  have z2 := box_lt hbx
  obtain ⟨t0, -⟩ := cell_in hbx 0 rfl
  obtain ⟨t1, -⟩ := cell_in hbx 1 rfl
  obtain ⟨t2, -⟩ := cell_in hbx 2 rfl
  obtain ⟨r, er⟩ : ∃ r, putE m most k = r := ⟨_, rfl⟩
  obtain ⟨mr, emr⟩ : ∃ mr, (if putE m most k = 0 then insT m k (.int .i64 t) else m) = mr := ⟨_, rfl⟩
  rw [emr, er] at HP
  rw [emr, er]
  clear h hb hgb hbx er emr
  go_enter Tryd.func23, Tryd.ntmps23
  go_wp2_with fail
  refine wp_region_tail_reg 6 (by kernel_rfl) (by kernel_rfl) (by kernel_rfl) (by kernel_rfl) ?_
  simp only [List.take_succ_cons, List.take_zero, List.drop_succ_cons, List.drop_zero]
  repeat (first | go_big_quiet_step ((fail)) | quiet_step ((fail)))
  refine wpQuiet_nil ?_
  intro _ hcw1
  obtain ⟨pq, hcw2⟩ := hcw1
  subst hcw2
  go_wp2_with fail
  refine (HP.out _ (grows_trans _ _ _ HG.out (below_reg _ _))).mono ?_
  intro e w1 hs
  have HS := Lib.hid hs
  obtain ⟨rfl, -⟩ := hs
  go_wp2_with fail
  go_ret
  exact HS.out
theorem shas_any (k : KW) (h : SeenAt w base sb tb kv mb m most) :
    Calls Tryd.prog 39 #[.pointer (some ⟨sb, 0, none⟩), k.val] w (RetV w (.bool (getK m k).isSome)) := by
  obtain ⟨W, eW⟩ : ∃ W, w.alloc (.cells #[.int .i64 k.t, .int .i64 k.f, .int .u32 k.s] 29) = W := ⟨_, rfl⟩
  have hgb : Grows w W := by rw [← eW]; exact bl_alloc (Below.refl _ _) _
  have hbx := heap_alloc_new w (.cells #[.int .i64 k.t, .int .i64 k.f, .int .u32 k.s] 29)
  rw [eW] at hbx
  have HP := Lib.hid (fun W' (hg : Grows w W') => (tgetI k (h.tab.grows hg)))
  have HG := Lib.hid hgb
  obtain ⟨c0, -⟩ := cell_in (box_grows h.ob hgb) 0 rfl
  have z1 := box_lt (box_grows h.ob hgb)
  have z2 := box_lt hbx
  obtain ⟨t0, -⟩ := cell_in hbx 0 rfl
  obtain ⟨t1, -⟩ := cell_in hbx 1 rfl
  obtain ⟨t2, -⟩ := cell_in hbx 2 rfl
  clear h hgb hbx
  go_enter Tryd.func39, Tryd.ntmps39
  go_wp2_with fail
  refine wp_region_reg (by kernel_rfl) (by kernel_rfl) ?_
  repeat (first | go_big_quiet_step ((go_at_call 59; exact class_reg (HP.out _ (grows_trans _ _ _ HG.out (below_reg _ _))))) | quiet_step ((go_at_call 59; exact class_reg (HP.out _ (grows_trans _ _ _ HG.out (below_reg _ _))))))
  refine wpQuiet_nil ?_
  intro _ hcw1
  obtain ⟨pq, hcw2⟩ := hcw1
  subst hcw2
  go_wp2_with fail
  go_ret
  exact ⟨rfl, grows_trans _ _ _ HG.out (below_reg _ _)⟩
theorem slen_any (h : SeenAt w base sb tb kv mb m most) : Calls Tryd.prog 26 #[.pointer (some ⟨sb, 0, none⟩)] w (fun e w' => e = .returned (.int .i64 (m.length : Int)) ∧ w = w') := by
  have HP := Lib.hid (tlenI h.tab)
  obtain ⟨c0, -⟩ := cell_in h.ob 0 rfl
  have z1 := box_lt h.ob
  clear h
  go_enter Tryd.func26, Tryd.ntmps26
  go_wp2_with fail
  refine (HP.out).mono ?_
  rintro e w1 ⟨rfl, rfl⟩
  go_wp2_with fail
  go_ret
  exact ⟨rfl, rfl⟩
theorem sroom_any (h : SeenAt w base sb tb kv mb m most) : Calls Tryd.prog 40 #[.pointer (some ⟨sb, 0, none⟩)] w (RetV w (.int .i64 ((most : Int) - (m.length : Int)))) := by
  have HP := Lib.hid (troomI h.tab)
  obtain ⟨c0, -⟩ := cell_in h.ob 0 rfl
  have z1 := box_lt h.ob
  clear h
  go_enter Tryd.func40, Tryd.ntmps40
  go_wp2_with fail
  refine (HP.out).mono ?_
  rintro e w1 ⟨rfl, hg1⟩
  have HG := Lib.hid hg1
  clear hg1
  go_wp2_with fail
  go_ret
  exact ⟨rfl, HG.out⟩
/-- A row whose end is over. -/
def overD (now : Int) (p : KW × Value) : Bool := decide (intOf p.2 < now)
theorem sexp1_any {w : World} (x : KW) (e now : Int) {c : Nat} (hc : w.heap[c]? = some (.cells #[.int .i64 now] 2 (0, 0))) :
    Calls Tryd.prog 51 (rowV (x, .int .i64 e) ++ #[.pointer (some ⟨c, 0, none⟩)]) w (RetV w (.bool (decide (e < now)))) := by
  obtain ⟨W, eW⟩ : ∃ W, w.alloc (.cells #[.int .i64 x.t, .int .i64 x.f, .int .u32 x.s] 29) = W := ⟨_, rfl⟩
  have hgb : Grows w W := by rw [← eW]; exact bl_alloc (Below.refl _ _) _
  obtain ⟨c0, -⟩ := cell_in (box_grows hc hgb) 0 rfl
  have z1 := box_lt (box_grows hc hgb)
  have HG := Lib.hid hgb
  clear hc hgb
  show Calls Tryd.prog 51 #[x.val, .int .i64 e, .pointer (some ⟨c, 0, none⟩)] w _
  go_enter Tryd.func51, Tryd.ntmps51
  go_wp2_with fail
  go_ret
  exact ⟨rfl, HG.out⟩
theorem sexpire_any (now : Int) (h : SeenAt w base sb tb kv mb m most) (hm : ∀ p ∈ m, ∃ x, p.2 = .int .i64 x) :
    Calls Tryd.prog 25 #[.pointer (some ⟨sb, 0, none⟩), .int .i64 now] w (SeenTo w base sb tb kv mb (m.filter fun p => !overD now p) most (.int .i64 ((m.filter (overD now)).length : Int))) := by
  obtain ⟨W, eW⟩ : ∃ W, w.alloc (.cells #[.int .i64 now] 2) = W := ⟨_, rfl⟩
  have hgb : Grows w W := by rw [← eW]; exact bl_alloc (Below.refl _ _) _
  have hbx := heap_alloc_new w (.cells #[.int .i64 now] 2)
  rw [eW] at hbx
  have hS : ¬ TabS tb kv mb w.heap.size := by
    rintro (hs | hs | hs)
    · have := h.tab.lt; omega
    · have := h.tab.mlt; omega
    · have := (h.tab.own.lt _ hs).2; omega
  have HP := Lib.hid ((tdrop_any (h.tab.grows hgb) 51 #[.pointer (some ⟨w.heap.size, 0, none⟩)] (enters_of Tryd.func51 (by kernel_rfl) rfl)
    (fun A => A.heap[w.heap.size]? = some (.cells #[.int .i64 now] 2 (0, 0))) (overD now) (fun A B hA hc => box_chg hA hc (fun hs => by
      rcases hs with hs | hs
      · exact hS hs
      · have := box_lt hbx; omega)) hbx (fun x W' hx hW => by
      obtain ⟨⟨kt, kf, ks⟩, v⟩ := x
      obtain ⟨e, rfl⟩ := hm _ hx
      exact sexp1_any ⟨kt, kf, ks⟩ e now hW)).mono fun e w' ht => SeenTo.ofTab h hgb ht)
  have HG := Lib.hid hgb
  obtain ⟨c0, -⟩ := cell_in (box_grows h.ob hgb) 0 rfl
  have z1 := box_lt (box_grows h.ob hgb)
  have z2 := box_lt hbx
  clear h hgb hbx hS hm
  go_enter Tryd.func25, Tryd.ntmps25
  go_wp2_with fail
  refine (HP.out).mono ?_
  intro e w1 hs
  have HS := Lib.hid hs
  obtain ⟨rfl, -⟩ := hs
  go_wp2_with fail
  go_ret
  exact HS.out
end
end Go.Proofs.YtgjieoljfcfacaaDoor
