/- The chapter's example of a roll; the walk of RollMost. -/
import Derived.Test.YtgjieoljfcfacaaRollA
namespace Go.Proofs.Ytgjieoljfcfacaa
open Go.RowKit Go.Sort Go.Maps
set_option maxHeartbeats 1000000
set_option maxRecDepth 100000

theorem bl_grown {w w1 w2 : World} {m : Nat} (h : Below w.heap.size w w1) (hg : w1.grownBy w2 (some m)) (hm : w.heap.size ≤ m) : Below w.heap.size w w2 :=
  h.grown hg h.size (fun k hk => by cases hk; exact hm)

theorem rollWorks_any (w : World) : Calls Try.prog 9 #[] w (RetV w (.bool true)) := by
  have k1 : noteE (.map []) 1 5 2 = 0 := by decide +kernel
  have e1 : noteD (.map []) 1 5 2 = .map [(.int .i64 5, .lit (.int .u64 4))] := by kernel_rfl
  have k2 : noteE (.map [(.int .i64 5, .lit (.int .u64 4))]) 1 6 2 = 13 := by decide +kernel
  have e2 : noteD (.map [(.int .i64 5, .lit (.int .u64 4))]) 1 6 2 = .map [(.int .i64 5, .lit (.int .u64 4))] := by kernel_rfl
  have k3 : valN (.map [(.int .i64 5, .lit (.int .u64 4))]) 5 = 4 := by decide +kernel
  have e3 : DataW.del (.map [(.int .i64 5, .lit (.int .u64 4))] : DataW Unit) (keyL 5) = .map [] := by kernel_rfl
  have k4 : noteE (.map []) 1 6 2 = 0 := by decide +kernel
  have e4 : noteD (.map []) 1 6 2 = .map [(.int .i64 6, .lit (.int .u64 4))] := by kernel_rfl
  go_enter Try.func9, Try.ntmps9
  go_wp2_with fail
  refine (new_any 1 _ (by decide) (by decide)).mono ?_
  rintro e w1 ⟨rfl, hr, hb⟩
  go_wp2_with fail
  refine (note_any w1 hr 5 2 (by decide) (by decide)).mono ?_
  rintro e w2 ⟨rfl, hr2, hg2⟩
  rw [e1] at hr2
  rw [k1]
  have hb2 := bl_grown hb hg2 (Nat.le_refl _)
  clear hb hg2 hr k1 e1
  go_wp2_with fail
  refine (note_any w2 hr2 6 2 (by decide) (by decide)).mono ?_
  rintro e w3 ⟨rfl, hr3, hg3⟩
  rw [e2] at hr3
  rw [k2]
  have hb3 := bl_grown hb2 hg3 (Nat.le_refl _)
  clear hb2 hg3 hr2 k2 e2
  go_wp2_with fail
  refine (take_any w3 hr3 5 (by decide)).mono ?_
  rintro e w4 ⟨rfl, hr4, hg4⟩
  rw [e3] at hr4
  rw [k3]
  have hb4 := bl_grown hb3 hg4 (Nat.le_refl _)
  clear hb3 hg4 hr3 k3 e3
  go_wp2_with fail
  refine (note_any w4 hr4 6 2 (by decide) (by decide)).mono ?_
  rintro e w5 ⟨rfl, hr5, hg5⟩
  rw [e4] at hr5
  rw [k4]
  have hb5 := bl_grown hb4 hg5 (Nat.le_refl _)
  clear hb4 hg5 hr4 k4 e4
  go_wp2_with fail
  refine (len_any w5 hr5).mono ?_
  rintro e w6 ⟨rfl, rfl⟩
  have k6 : Maps.size (.map [(.int .i64 6, .lit (.int .u64 4))] : DataW Unit) = 1 := rfl
  rw [k6]
  go_wp2
  go_ret
  exact ⟨rfl, hb5⟩
end Go.Proofs.Ytgjieoljfcfacaa
