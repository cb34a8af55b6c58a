/- The walk of RollNil. -/
import Derived.Test.YtgjieoljfcfacaaRollB
namespace Go.Proofs.Ytgjieoljfcfacaa
open Go.RowKit Go.Sort Go.Maps
set_option maxHeartbeats 1000000
set_option maxRecDepth 100000

theorem noteNil (w : World) (no f : Int) : Calls Try.prog 10 #[.pointer none, .int .i64 no, .int .i64 f] w (fun e w' => e = .returned (.int .i64 1) ∧ w = w') := by
  go_enter Try.func10, Try.ntmps10
  go_wp2
  go_ret
  exact ⟨rfl, rfl⟩
theorem setNil (w : World) (no : Int) : Calls Try.prog 11 #[.pointer none, .int .i64 no] w (fun e w' => e = .returned (.int .u64 0) ∧ w = w') := by
  go_enter Try.func11, Try.ntmps11
  go_wp2
  go_ret
  exact ⟨rfl, rfl⟩
theorem takeNil (w : World) (no : Int) : Calls Try.prog 12 #[.pointer none, .int .i64 no] w (fun e w' => e = .returned (.int .u64 0) ∧ w = w') := by
  go_enter Try.func12, Try.ntmps12
  go_wp2_with (go_at_call 11; refine (setNil _ no).mono ?_; rintro e w' ⟨rfl, rfl⟩)
  go_ret
  exact ⟨rfl, rfl⟩
theorem dropNil (w : World) (no : Int) : Calls Try.prog 13 #[.pointer none, .int .i64 no] w (fun e w' => e = .returned (.int .i64 0) ∧ w = w') := by
  go_enter Try.func13, Try.ntmps13
  go_wp2
  go_ret
  exact ⟨rfl, rfl⟩
theorem numbersNil (w : World) : Calls Try.prog 14 #[.pointer none] w (fun e w' => e = .returned (.slice none 0 0) ∧ w = w') := by
  go_enter Try.func14, Try.ntmps14
  go_wp2
  go_ret
  exact ⟨rfl, rfl⟩
theorem lenNil (w : World) : Calls Try.prog 15 #[.pointer none] w (fun e w' => e = .returned (.int .i64 0) ∧ w = w') := by
  go_enter Try.func15, Try.ntmps15
  go_wp2
  go_ret
  exact ⟨rfl, rfl⟩
theorem rollNil_walk (no : Int) (w : World) : Calls Try.prog 4 #[.int .i64 no] w (RetV w (.bool true)) := by
  go_enter Try.func4, Try.ntmps4
  go_wp2_with (first | (go_at_call 10; refine (noteNil _ _ _).mono ?_; rintro e w' ⟨rfl, rfl⟩) | (go_at_call 11; refine (setNil _ _).mono ?_; rintro e w' ⟨rfl, rfl⟩) | (go_at_call 12; refine (takeNil _ _).mono ?_; rintro e w' ⟨rfl, rfl⟩) | (go_at_call 13; refine (dropNil _ _).mono ?_; rintro e w' ⟨rfl, rfl⟩) | (go_at_call 14; refine (numbersNil _).mono ?_; rintro e w' ⟨rfl, rfl⟩) | (go_at_call 15; refine (lenNil _).mono ?_; rintro e w' ⟨rfl, rfl⟩) | (go_at_call 9; refine (rollWorks_any _).mono ?_; rintro e w' ⟨rfl, hb⟩))
  go_ret
  exact ⟨rfl, hb⟩
end Go.Proofs.Ytgjieoljfcfacaa
