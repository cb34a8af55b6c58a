/- The table's methods that the rows of int64 alone reach. -/
import Derived.Test.YtdmmceclohkkdaaTabAI
import Derived.Test.YtdmmceclohkkdaaTabP
namespace Go.Proofs.Ytdmmceclohkkdaa
open Go.RowKit Go.Sort
set_option maxHeartbeats 4000000
set_option maxRecDepth 100000
theorem tgetI {w : World} {base tb mb : Nat} {kv : Value} {m : List (KW × Value)} {most : Nat} (k : KW) (h : TabAt TTI w base tb kv mb m most) :
    Calls Try.prog 33 #[.pointer (some ⟨tb, 0, none⟩), k.val] w (RetV w (.tuple #[(getK m k).getD (.int .i64 0), .bool (getK m k).isSome])) := by
  obtain ⟨v, ev⟩ : ∃ v, (getK m k).getD (.int .i64 0) = v := ⟨_, rfl⟩
  obtain ⟨b, eb⟩ : ∃ b, (getK m k).isSome = b := ⟨_, rfl⟩
  rw [ev, eb]
  have hgb : Grows w (w.alloc (.cells #[.int .i64 k.t, .int .i64 k.f, .int .u32 k.s] 29)) := bl_alloc (Below.refl _ _) _
  have hbx := heap_alloc_new w (.cells #[.int .i64 k.t, .int .i64 k.f, .int .u32 k.s] 29)
  obtain ⟨W, eW⟩ : ∃ W, w.alloc (.cells #[.int .i64 k.t, .int .i64 k.f, .int .u32 k.s] 29) = W := ⟨_, rfl⟩
  rw [eW] at hgb hbx
  have hW := h.grows hgb
  have hl : ∀ p, (Instr.lookup 105 (.map (some mb)) k.val true).run Try.prog (reg W p) = .ok (.tuple #[v, .bool b]) (reg W p) := fun p => by
    have := (hW.map.grows (below_reg W p)).look Try.underlying105 (zeroI _) k true
    rw [this, ev, eb]
    rfl
  obtain ⟨c1, -⟩ := cell_in hW.ob 1 rfl
  obtain ⟨t0, -⟩ := cell_in hbx 0 rfl
  obtain ⟨t1, -⟩ := cell_in hbx 1 rfl
  obtain ⟨t2, -⟩ := cell_in hbx 2 rfl
  have z1 := hW.lt
  have z2 := box_lt hbx
  have HG := Lib.hid hgb
  clear hgb hbx h ev eb hW
  go_enter Try.func33, Try.ntmps33
  go_wp2_with fail
  refine wp_region_reg (by kernel_rfl) (by kernel_rfl) ?_
  repeat (first | go_big_quiet_step ((fail)) | quiet_step ((fail)))
  refine wpQuiet_nil ?_
  intro _ hcw1
  obtain ⟨pq, hcw2⟩ := hcw1
  subst hcw2
  go_wp2_with fail
  go_ret2
  exact ⟨rfl, grows_trans _ _ _ HG.out (below_reg _ _)⟩
theorem room_wrap {n most : Nat} (h1 : n ≤ most) (h2 : most ≤ 65536) : wrap64 ((most : Int) - (n : Int)) = (most : Int) - (n : Int) := by unfold wrap64; omega
theorem troomI {w : World} {base tb mb : Nat} {kv : Value} {m : List (KW × Value)} {most : Nat} (h : TabAt TTI w base tb kv mb m most) :
    Calls Try.prog 37 #[.pointer (some ⟨tb, 0, none⟩)] w (RetV w (.int .i64 ((most : Int) - (m.length : Int)))) := by
  obtain ⟨a, cap, rfl⟩ := h.len
  obtain ⟨n, en⟩ : ∃ n, m.length = n := ⟨_, rfl⟩
  obtain ⟨c0, -⟩ := cell_in h.ob 0 rfl
  obtain ⟨c2, -⟩ := cell_in h.ob 2 rfl
  have z1 := h.lt
  have hw := room_wrap h.few h.most
  rw [en] at c0 hw ⊢
  clear h en
  go_enter Try.func37, Try.ntmps37
  go_wp2_with fail
  refine wp_region_reg (by kernel_rfl) (by kernel_rfl) ?_
  repeat (first | go_big_quiet_step ((fail)) | quiet_step ((fail)))
  refine wpQuiet_nil ?_
  intro _ hcw1
  obtain ⟨pq, hcw2⟩ := hcw1
  subst hcw2
  go_wp2_with fail
  go_ret
  exact ⟨by first | rfl | (rw [hw]; rfl), below_reg _ _⟩
theorem tclearI {w : World} {base tb mb : Nat} {kv : Value} {m : List (KW × Value)} {most : Nat} (h : TabAt TTI w base tb kv mb m most) :
    Calls Try.prog 32 #[.pointer (some ⟨tb, 0, none⟩)] w (TabTo TTI w base tb kv mb [] most (.tuple #[])) := by
  obtain ⟨w4, e4⟩ : ∃ w4, w.setCell ⟨tb, 0, none⟩ (.slice none 0 0) = w4 := ⟨_, rfl⟩
  have hc4 : Chg (fun j => j = tb) w w4 := by rw [← e4]; exact Chg.setCell (S := fun j => j = tb) (Chg.refl _ _) _ (.inr rfl)
  have hob4 : w4.heap[tb]? = some (.cells #[.slice none 0 0, .map (some mb), .int .i64 (most : Int)] TTI (0, 0)) := by rw [← e4]; exact box_setj h.ob
  have hmp4 := h.map.chg hc4 h.ne
  obtain ⟨o, hrun, hoc, hm⟩ := hmp4.clear Try.underlying105 0
  have hc5 : Chg (fun j => j = mb) w4 (w4.putObj mb o) := Chg.putObj (Chg.refl _ _) o (.inr rfl)
  have hne := h.ne
  have hend : TabTo TTI w base tb kv mb [] most (.tuple #[]) (.returned (.tuple #[])) (w4.putObj mb o) :=
    ⟨rfl, .slice none 0 0, ⟨box_chg hob4 hc5 (fun e => hne e.symm), World.ownsRow_nil _ _ _ _, hm.congr (fun x => rfl), h.bt, h.bm, Nat.zero_le _, h.most, List.Pairwise.nil⟩,
      Chg.trans (hc4.mono fun j _ hj => .inl hj) (hc5.mono fun j _ hj => .inr (.inl hj)), fun j hj => by simp [Value.ownBlock] at hj⟩
  have HEND := Lib.hid hend
  obtain ⟨c0, f0⟩ := cell_in h.ob 0 rfl
  obtain ⟨d1, -⟩ := cell_in hob4 1 rfl
  clear hend hc5 hm hmp4 hob4 hc4 h hne hoc
  go_enter Try.func32, Try.ntmps32
  go_wp2_with fail
  first
    | exact bodyPost_end (results_none rfl _ _ _) rfl HEND.out
    | exact bodyPost_ret (v := .tuple #[]) (by simp [results, Try.results32, go_sem]) rfl HEND.out
end Go.Proofs.Ytdmmceclohkkdaa
