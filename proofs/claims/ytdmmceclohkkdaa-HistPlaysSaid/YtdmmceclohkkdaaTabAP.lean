/- The table's methods that only tell, at rows of api.Packet. -/
import Derived.Test.YtdmmceclohkkdaaPkt
namespace Go.Proofs.Ytdmmceclohkkdaa
open Go.RowKit Go.Sort
set_option maxHeartbeats 4000000
set_option maxRecDepth 100000
abbrev TTP : TypeId := 146
theorem zinfoP : (Try.prog.info? 76).map (fun i => i.zero) = some (some PZ) := by kernel_rfl
theorem zeroP (w : World) : (zeroValue 76).run Try.prog w = .ok PZ w := by
  obtain ⟨i0, hii, hz⟩ : ∃ i, Try.prog.info? 76 = some i ∧ i.zero = some PZ := Option.map_eq_some_iff.1 zinfoP
  simp [zeroValue, typeInfo, hii, hz]
theorem tlenP {w : World} {base tb mb : Nat} {kv : Value} {m : List (KW × Value)} {most : Nat} (h : TabAt TTP w base tb kv mb m most) :
    Calls Try.prog 84 #[.pointer (some ⟨tb, 0, none⟩)] w (fun e w' => e = .returned (.int .i64 (m.length : Int)) ∧ w = w') := by
  obtain ⟨a, cap, rfl⟩ := h.len
  obtain ⟨n, en⟩ : ∃ n, m.length = n := ⟨_, rfl⟩
  obtain ⟨c0, -⟩ := cell_in h.ob 0 rfl
  rw [en] at c0 ⊢
  clear h en
  go_enter Try.func84, Try.ntmps84
  go_wp2
  go_ret
  exact ⟨rfl, rfl⟩
theorem tplaceP {w : World} {base tb mb : Nat} {kv : Value} {m : List (KW × Value)} {most : Nat} (k : KW) (h : TabAt TTP w base tb kv mb m most) :
    Calls Try.prog 95 #[.pointer (some ⟨tb, 0, none⟩), k.val] w (RetV w (.int .i64 (posK (m.map (·.1)) k : Int))) := by
  obtain ⟨p, ep⟩ : ∃ p, posK (m.map (·.1)) k = p := ⟨_, rfl⟩
  obtain ⟨b, eb⟩ : ∃ b, hitK (m.map (·.1)) k p = b := ⟨_, rfl⟩
  have hml : (m.map (·.1)).length ≤ 100000 := by rw [List.length_map]; exact Nat.le_trans h.few (Nat.le_trans h.most (by decide))
  have hs := fun W (hg : Grows w W) => ksearch_rises k ((kown_has h.own).grows hg) hml h.rises
  rw [ep, eb] at hs
  rw [ep]
  have hgb : Grows w (w.alloc (.cells #[.int .i64 k.t, .int .i64 k.f, .int .u32 k.s] 29)) := bl_alloc (Below.refl _ _) _
  have hbx := heap_alloc_new w (.cells #[.int .i64 k.t, .int .i64 k.f, .int .u32 k.s] 29)
  obtain ⟨W, eW⟩ : ∃ W, w.alloc (.cells #[.int .i64 k.t, .int .i64 k.f, .int .u32 k.s] 29) = W := ⟨_, rfl⟩
  rw [eW] at hgb hbx
  have hW := h.grows hgb
  obtain ⟨c0, -⟩ := cell_in hW.ob 0 rfl
  obtain ⟨t0, -⟩ := cell_in hbx 0 rfl
  obtain ⟨t1, -⟩ := cell_in hbx 1 rfl
  obtain ⟨t2, -⟩ := cell_in hbx 2 rfl
  have z1 := hW.lt
  have z2 := box_lt hbx
  have HG := Lib.hid hgb
  have HS := Lib.hid hs
  clear hgb hbx h hW hs hml ep eb
  go_enter Try.func95, Try.ntmps95
  go_wp2_with fail
  refine wp_region_reg (by kernel_rfl) (by kernel_rfl) ?_
  repeat (first | go_big_quiet_step ((go_at_call 88; exact class_reg (HS.out _ (grows_trans _ _ _ HG.out (below_reg _ _))))) | quiet_step ((go_at_call 88; exact class_reg (HS.out _ (grows_trans _ _ _ HG.out (below_reg _ _))))))
  refine wpQuiet_nil ?_
  intro _ hcw1
  obtain ⟨pq, hcw2⟩ := hcw1
  subst hcw2
  go_wp2_with fail
  go_ret
  exact ⟨rfl, grows_trans _ _ _ HG.out (below_reg _ _)⟩
end Go.Proofs.Ytdmmceclohkkdaa
