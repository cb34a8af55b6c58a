/- A table's Put that puts in, at rows of int64. -/
import Derived.Test.YtdmmceclohkkdaaTabBI
import Derived.Test.YtdmmceclohkkdaaWideT
namespace Go.Proofs.Ytdmmceclohkkdaa
open Go.RowKit Go.Sort
set_option maxHeartbeats 4000000
set_option maxRecDepth 100000
theorem gen_worldI {W w' : World} {p : World → Prop} (hg : Grows W w') (h : ∀ W0, Grows W W0 → p W0) : p w' := h _ hg
/-- A slice of one key, in a block made behind B. -/
def sgKeyI (B : Nat) (k : KW) : SG Grows := ⟨fun v w => ∃ g, v = .slice (some ⟨g, 0, none⟩) 1 1 ∧ B ≤ g ∧ w.heap[g]? = some (.cells #[.int .i64 k.t, .int .i64 k.f, .int .u32 k.s] 29 (0, 0)), fun _ _ _ h hg => by
  obtain ⟨g, h1, h2, h3⟩ := h
  exact ⟨g, h1, h2, box_grows h3 hg⟩⟩
theorem tput_okI {w : World} {base tb mb : Nat} {kv : Value} {m : List (KW × Value)} {most : Nat} (k : KW) (v : Value) (h : TabAt TTI w base tb kv mb m most) (hbase : base ≤ w.heap.size) (hE : putE m most k = 0) :
    Calls Try.prog 16 #[.pointer (some ⟨tb, 0, none⟩), k.val, v] w (TabTo TTI w base tb kv mb (insT m k v) most (.int .i64 0)) := by
  have hno : getK m k = none := by
    unfold putE at hE
    cases hg : getK m k with
    | none => rfl
    | some u => rw [hg] at hE; simp at hE
  have hroom : m.length < most := by
    unfold putE at hE
    rw [hno] at hE
    by_cases hm : most ≤ m.length
    · simp [hm] at hE
    · omega
  have hgb : Grows w (w.alloc (.cells #[.int .i64 k.t, .int .i64 k.f, .int .u32 k.s] 29)) := bl_alloc (Below.refl _ _) _
  have hbx := heap_alloc_new w (.cells #[.int .i64 k.t, .int .i64 k.f, .int .u32 k.s] 29)
  obtain ⟨W, eW⟩ : ∃ W, w.alloc (.cells #[.int .i64 k.t, .int .i64 k.f, .int .u32 k.s] 29) = W := ⟨_, rfl⟩
  rw [eW] at hgb hbx
  have hW := h.grows hgb
  have hl : ∀ p, (Instr.lookup 105 (.map (some mb)) k.val true).run Try.prog (reg W p) = .ok (.tuple #[.int .i64 0, .bool false]) (reg W p) := fun p => by
    have := (hW.map.grows (below_reg W p)).look Try.underlying105 (zeroI _) k true
    rw [this, hno]
    rfl
  obtain ⟨a, cap, rfl⟩ := h.len
  obtain ⟨n, en⟩ : ∃ n, m.length = n := ⟨_, rfl⟩
  obtain ⟨c0, -⟩ := cell_in hW.ob 0 rfl
  obtain ⟨c1, -⟩ := cell_in hW.ob 1 rfl
  obtain ⟨c2, -⟩ := cell_in hW.ob 2 rfl
  rw [en] at c0 hroom
  obtain ⟨t0, -⟩ := cell_in hbx 0 rfl
  obtain ⟨t1, -⟩ := cell_in hbx 1 rfl
  obtain ⟨t2, -⟩ := cell_in hbx 2 rfl
  have z1 := hW.lt
  have z2 := box_lt hbx
  have HG := Lib.hid hgb
  have HH := Lib.hid h
  have HBX := Lib.hid hbx
  have EN := Lib.hid en
  have HNO := Lib.hid hno
  have HRM := Lib.hid hroom
  have HBS := Lib.hid hbase
  have hd : decide ((n : Int) ≥ (most : Int)) = false := decide_eq_false (by omega)
  have hd2 : (most ≤ n) = False := eq_false (Nat.not_le_of_lt hroom)
  clear hgb hbx h hE hW en hno hroom hbase
  go_enter Try.func16, Try.ntmps16
  go_wp2_with fail
  refine wp_region_reg (by kernel_rfl) (by kernel_rfl) ?_
  repeat (first | go_big_quiet_step ((fail)) | quiet_step ((fail)))
  refine wpQuiet_nil ?_
  intro _ hcw1
  obtain ⟨pq, hcw2⟩ := hcw1
  subst hcw2
  have hg1 : Grows W (reg W pq) := below_reg _ _
  go_wp2_with fail
  refine wp_region_reg (by kernel_rfl) (by kernel_rfl) ?_
  repeat (first | go_big_quiet_step ((fail)) | quiet_step ((fail)))
  refine wpQuiet_nil ?_
  intro _ hcw1
  obtain ⟨pq, hcw2⟩ := hcw1
  subst hcw2
  have hg2 := grows_trans _ _ _ hg1 (below_reg _ pq : Grows (reg W _) _)
  go_wp2_with fail
  refine gen_worldI (p := fun w' => Code.wp _ _ _ _ w') hg2 ?_
  intro W0 hg0
  clear hg1 hg2 eW hl c0 c1 c2 t0 t1 t2 z1 z2 hd hd2
  have hgw := grows_trans _ _ _ HG.out hg0
  have h0 := HH.out.grows hgw
  have hbx0 := box_grows HBX.out hg0
  rw [EN.out] at h0 ⊢
  obtain ⟨pos, epos⟩ : ∃ pos, posK (m.map (·.1)) k = pos := ⟨_, rfl⟩
  have hplace := fun W' (hg : Grows W0 W') => by have := tplaceI k (h0.grows hg); rw [epos] at this; exact this
  have HPL := Lib.hid hplace
  have H0 := Lib.hid h0
  have HX0 := Lib.hid hbx0
  have HGW := Lib.hid hgw
  have EP := Lib.hid epos
  have hml : (m.map (·.1)).length ≤ 100000 := by rw [List.length_map, EN.out]; exact Nat.le_trans (Nat.le_of_lt HRM.out) (Nat.le_trans HH.out.most (by decide))
  have hins := fun W' vb (hg : Grows W0 W') (hvb : W'.heap[vb]? = some (.cells #[.int .i64 k.t, .int .i64 k.f, .int .u32 k.s] 29 (0, 0))) (hge : W0.heap.size ≤ vb) => by
    have := kins_any k (h0.grows hg).own (posK_le _ k) hml hvb (fun hj => Nat.lt_irrefl _ (Nat.lt_of_lt_of_le (h0.own.lt _ hj).2 hge)) (Nat.le_trans HBS.out (Nat.le_trans hgw.size hg.size))
    rw [epos] at this
    exact this
  have HINS := Lib.hid hins
  have hlen : ((m.map (·.1)).take pos ++ k :: (m.map (·.1)).drop pos).length = n + 1 := by
    have := posK_le (m.map (·.1)) k
    rw [epos] at this
    have h9 := EN.out
    simp at this ⊢; omega
  have HLN := Lib.hid hlen
  clear hlen
  have hs : ∀ w', Grows W0 w' → w'.cell? ⟨tb, 0, none⟩ = some (.slice a n cap) ∧ w'.cell? ⟨w.heap.size, 0, none⟩ = some (.int .i64 k.t) ∧ w'.cell? ⟨w.heap.size, 1, none⟩ = some (.int .i64 k.f) ∧ w'.cell? ⟨w.heap.size, 2, none⟩ = some (.int .u32 k.s) ∧ tb < w'.heap.size ∧ w.heap.size < w'.heap.size := fun w' hg =>
    ⟨(cell_in (h0.grows hg).ob 0 rfl).1, (cell_in (box_grows hbx0 hg) 0 rfl).1, (cell_in (box_grows hbx0 hg) 1 rfl).1, (cell_in (box_grows hbx0 hg) 2 rfl).1, (h0.grows hg).lt, box_lt (box_grows hbx0 hg)⟩
  have HS := Lib.hid hs
  have hst : ∀ w1 w3, Grows W0 w1 → Chg (fun j => (Value.slice a n cap).ownBlock = some j) w1 w3 → w3.cell? ⟨tb, 0, none⟩ = some (.slice a n cap) ∧ w3.frozen? ⟨tb, 0, none⟩ = false := fun w1 w3 hg hc =>
    cell_in (box_chg (h0.grows hg).ob hc (h0.kne (by decide))) 0 rfl
  have HST := Lib.hid hst
  clear hplace h0 hbx0 hgw epos hg0 hml hins
  obtain ⟨c0, t0, t1, t2, z1, z2⟩ := hs W0 (grows_refl _)
  clear hs hst
  go_cut [] (fun wx => TabMid W0 base tb (.slice a n cap) ((m.map (·.1)).take pos ++ k :: (m.map (·.1)).drop pos) wx)
  case first =>
    have mixed : Try.prog.follows .mixedOrders = true := by kernel_rfl
    go_region_law (first
      | (refine step_call (by rfl) 61 #[.tmp 36, .tmp 37] #[23, 29] (by rfl) #[.pointer (some ⟨tb, 0, none⟩), k.val] (by rfl) Try.f61 Try.func61 (by kernel_rfl) (by kernel_rfl) (HPL.out _ ?_) ?_; (· (repeat (first | exact grows_refl _ | refine bl_drew ?_ | refine bl_alloc ?_ _))); rintro e w2 ⟨rfl, hg2⟩; refine ⟨_, rfl, ?_⟩; have hg3 : Grows W0 w2 := grows_trans _ _ _ (by (repeat (first | exact grows_refl _ | refine bl_drew ?_ | refine bl_alloc ?_ _))) hg2; obtain ⟨c0, t0, t1, t2, z1, z2⟩ := HS.out w2 hg3)
      | (refine step_call (by rfl) 60 #[.tmp 35, .tmp 38, .tmp 40] #[22, 3, 22] (by rfl) #[.slice a n cap, .int .i64 (pos : Int), .slice (some ⟨w2.heap.size, 0, none⟩) 1 1] (by rfl) Try.f60 Try.func60 (by kernel_rfl) (by kernel_rfl) (HINS.out _ _ ?_ ?_ ?_) ?_; (· exact bl_alloc hg3 _); (· exact heap_alloc_new w2 _); (· exact hg3.size); rintro e w3 ⟨kv', rfl, ho, hc, hf⟩; obtain ⟨a2, cap2, rfl⟩ := (kown_has ho).len HLN.out; refine ⟨_, rfl, ?_⟩; obtain ⟨c3, f3⟩ := HST.out _ _ (bl_alloc hg3 _) hc; have hz := hc.size)
      | (refine step_call (by rfl) 60 #[.tmp 35, .tmp 38, .tmp 40] #[22, 3, 22] (by rfl) #[.slice a n cap, .int .i64 (pos : Int), .slice (some ⟨W0.heap.size, 0, none⟩) 1 1] (by rfl) Try.f60 Try.func60 (by kernel_rfl) (by kernel_rfl) (HINS.out _ _ ?_ ?_ ?_) ?_; (· exact hg3); (· exact box_grows (heap_alloc_new W0.drew _) hg2); (· exact Nat.le_refl _); rintro e w3 ⟨kv', rfl, ho, hc, hf⟩; obtain ⟨a2, cap2, rfl⟩ := (kown_has ho).len HLN.out; refine ⟨_, rfl, ?_⟩; obtain ⟨c3, f3⟩ := HST.out _ _ hg3 hc; have hz := hc.size)
      | fail)
    all_goals
      go_wp2_with fail
      go_meet
      rw [← HLN.out] at ho hf ⊢
      first
        | exact ⟨_, _, _, _, bl_alloc hg3 _, ho, hc, hf, rfl⟩
        | exact ⟨_, _, _, _, hg3, ho, hc, hf, rfl⟩
  case rest =>
    obtain ⟨w1, w3, a2, cap2, r1, r2, r3, r4, rfl⟩ := hcut
    have hkeys : ((m.map (·.1)).take pos ++ k :: (m.map (·.1)).drop pos) = (insT m k v).map (·.1) := by
      rw [insT_keys, ← EP.out, take_pos, drop_pos]
    have hri : Rises ((insT m k v).map (·.1)) := insT_rises HH.out.rises (getK_none.1 HNO.out) v
    rw [hkeys] at r2 r4 ⊢
    have hg1 := grows_trans _ _ _ HGW.out r1
    have h1 := HH.out.grows hg1
    rw [EN.out] at h1
    have hob3 := box_chg h1.ob r3 (h1.kne (by decide))
    have hmp3 := h1.map.chg r3 h1.kmne
    have hbx3 := box_chg (box_grows HX0.out r1) r3 (fun hj => by have := (HH.out.own.lt w.heap.size (by rw [EN.out]; exact hj)).2; exact Nat.lt_irrefl _ this)
    have hlt := HH.out.lt
    obtain ⟨kv', ekv⟩ : ∃ kv', Value.slice a2 (List.map (·.1) (insT m k v)).length cap2 = kv' := ⟨_, rfl⟩
    rw [ekv] at r2 r4 ⊢
    obtain ⟨w4, e4⟩ : ∃ w4, w3.setCell ⟨tb, 0, none⟩ kv' = w4 := ⟨_, rfl⟩
    have hc4 : Chg (fun j => j = tb) w3 w4 := e4 ▸ Chg.setCell (Chg.refl _ _) _ (.inr rfl)
    have hob4 : w4.heap[tb]? = some (.cells #[kv', .map (some mb), .int .i64 (most : Int)] TTI (0, 0)) := e4 ▸ box_setj hob3
    have hbx4 := box_chg hbx3 hc4 (fun e => by rw [e] at hlt; exact Nat.lt_irrefl _ hlt)
    have hmp4 := hmp3.chg hc4 h1.ne
    have hend := fun q o hm => tab_end (r := .int .i64 0) (m' := insT m k v) (o := o) q (show TTI ≠ 29 by decide) HH.out hg1 r2 (by rw [EN.out]; exact r3) (fun j hj => by rw [EN.out]; exact r4 j hj) hm hri (by rw [insT_length, EN.out]; exact HRM.out)
    rw [e4, EN.out] at hend
    have HEND := Lib.hid hend
    have HM4 := Lib.hid hmp4
    have HRI := Lib.hid hri.nodup
    obtain ⟨d1, -⟩ := cell_in hob4 1 rfl
    obtain ⟨t0, -⟩ := cell_in hbx4 0 rfl
    obtain ⟨t1, -⟩ := cell_in hbx4 1 rfl
    obtain ⟨t2, -⟩ := cell_in hbx4 2 rfl
    have z1 := box_lt hob4
    have z2 := box_lt hbx4
    rw [e4]
    clear e4 ekv hend hmp4 hbx4 hob4 hc4 hlt hbx3 hmp3 hob3 h1 hg1 r1 r2 r3 r4 hri hkeys HS HST HINS HPL H0 HX0
    go_wp2_with fail
    refine wp_region_tail_drewN 6 (by kernel_rfl) (by kernel_rfl) (by kernel_rfl) (by kernel_rfl) ?_
    simp only [List.take_succ_cons, List.take_zero, List.drop_succ_cons, List.drop_zero]
    repeat (first | go_big_quiet_step ((fail)) | quiet_step ((fail)))
    refine wpQuiet_nil ?_
    intro _ hcw1
    obtain ⟨nq, hcw2⟩ := hcw1
    subst hcw2
    obtain ⟨o, hrun, hoc, hm⟩ := (HM4.out.of_block (w' := w4.drewN nq) rfl).put Try.underlying105 k HNO.out v
    have hm2 := hm.congr (getK_insT HRI.out)
    have HM := Lib.hid hm2
    clear hm hm2
    go_wp2_with fail
    go_ret
    have h9 := HEND.out _ _ HM.out
    rw [← EN.out] at h9
    exact h9
/-- Put. -/
theorem tputI {w : World} {base tb mb : Nat} {kv : Value} {m : List (KW × Value)} {most : Nat} (k : KW) (v : Value) (h : TabAt TTI w base tb kv mb m most) (hbase : base ≤ w.heap.size) :
    Calls Try.prog 16 #[.pointer (some ⟨tb, 0, none⟩), k.val, v] w (TabTo TTI w base tb kv mb (if putE m most k = 0 then insT m k v else m) most (.int .i64 (putE m most k))) := by
  by_cases hE : putE m most k = 0
  · rw [if_pos hE, hE]; exact tput_okI k v h hbase hE
  · rw [if_neg hE]; exact tput_noI k v h hE
end Go.Proofs.Ytdmmceclohkkdaa
