/- The statement's choice of a configuration. -/
import Derived.Test.YtgjieoljfcfacaaDoorLateC
import Derived.Test.YtgjieoljfcfacaaDoorTail2
namespace Go.Proofs.YtgjieoljfcfacaaDoor
open Go.RowKit Go.Sort
set_option maxHeartbeats 4000000
set_option maxRecDepth 100000

/-- The numbers of a configuration, twice the same ones. -/
def IsBB (v : Value) : Prop := ∃ b0 b1 b2 b3 b4 b5 b6 b7 b8 b9 b10 b11 b12 b13 : Int, v = .tuple #[bnd b0 b1 b2 b3 b4 b5 b6 b7 b8 b9 b10 b11 b12 b13, bnd b0 b1 b2 b3 b4 b5 b6 b7 b8 b9 b10 b11 b12 b13] ∧ BOk b0 b1 b3 b7 b10 b11
/-- The world when the configuration has been chosen: it lies in the first new block. -/
def Chosen (w wx : World) : Prop := ∃ (n' f' dmin' dmax' rho' slew' rnd' win' att' seen' hist' fly' quota' body' : Int) (la' : Option Addr) (ll' lc' : Nat) (p : Regrown), GOk n' dmin' dmax' rho' slew' rnd' win' att' true ∧
  wx = reg (((w.alloc (.cells #[.int .i64 n', .slice la' ll' lc', .int .i64 f', .int .i64 dmin', .int .i64 dmax', .int .i64 rho', .int .i64 slew', .int .i64 rnd', .int .i64 win', .int .i64 att', .int .i64 seen', .int .i64 hist', .int .i64 fly', .int .i64 quota', .int .i64 body'] 24)).alloc (.cells #[.int .i64 0, .int .i64 0, .int .i64 0, .int .i64 0, .int .i64 0, .int .i64 0, .int .i64 0, .int .i64 0, .int .i64 0, .int .i64 0, .int .i64 0, .int .i64 0, .int .i64 0, .int .i64 0] 68)).alloc (.cells #[.int .i64 0, .int .i64 0, .int .i64 0, .int .i64 0, .int .i64 0, .int .i64 0, .int .i64 0, .int .i64 0, .int .i64 0, .int .i64 0, .int .i64 0, .int .i64 0, .int .i64 0, .int .i64 0] 36)) p

theorem ours_any (n f dmin dmax rho slew rnd win att seen hist fly quota body : Int) (la : Option Addr) (ll lc : Nat) (w : World) :
   Calls Tryd.prog 20 #[cfg n f dmin dmax rho slew rnd win att seen hist fly quota body la ll lc] w (RetP w IsBB) := by
  go_enter Tryd.func20, Tryd.ntmps20
  go_wp2_with fail
  refine (good_any _ _ _ _ _ _ _ _ _ _ _ _ _ _ _ _ _ _).mono ?_
  rintro e w1 ⟨b, hb, rfl, hbl⟩
  obtain ⟨p, rfl⟩ := regr hbl
  clear hbl
  go_upto_if 7 with fail
  go_cut [] (fun wx => Chosen w wx)
  case first =>
    cases b
    · go_wp2_with fail
      go_meet
      exact ⟨_, _, _, _, _, _, _, _, _, _, _, _, _, _, _, _, _, _, (fun _ => by omega), rfl⟩
    · go_wp2_with fail
      go_meet
      exact ⟨_, _, _, _, _, _, _, _, _, _, _, _, _, _, _, _, _, _, hb, rfl⟩
  case rest =>
    obtain ⟨n', f', dmin', dmax', rho', slew', rnd', win', att', seen', hist', fly', quota', body', la', ll', lc', p', hg, rfl⟩ := hcut
    clear hb
    go_wp2_with fail
    refine (of_any _ _ _ _ _ _ _ _ _ _ _ _ _ _ _ _ _ _ hg).mono ?_
    rintro e w2 ⟨v, ⟨b0, b1, b2, b3, b4, b5, b6, b7, b8, b9, b10, b11, b12, b13, rfl, hB⟩, rfl, hbl⟩
    obtain ⟨p2, rfl⟩ := regr hbl
    clear hbl hg
    go_wp2_with fail
    go_region_held3 (fun w' => ∀ i : Nat, w'.cell? ⟨w.heap.size + 1 + 1 + 1 + (rgApp p' p2).os.size, i, none⟩ = (#[.int .i64 b0, .int .i64 b1, .int .i64 b2, .int .i64 b3, .int .i64 b4, .int .i64 b5, .int .i64 b6, .int .i64 b7, .int .i64 b8, .int .i64 b9, .int .i64 b10, .int .i64 b11, .int .i64 b12, .int .i64 b13] : Array Value)[i]?) ((intro i; simp [go_sem])) (fail)
    go_wp2
    refine bodyPost_ret (v := .tuple #[bnd b0 b1 b2 b3 b4 b5 b6 b7 b8 b9 b10 b11 b12 b13, bnd b0 b1 b2 b3 b4 b5 b6 b7 b8 b9 b10 b11 b12 b13]) ?_ rfl ?_
    · simp [results, Tryd.results20, go_sem]
    · exact ⟨_, ⟨_, _, _, _, _, _, _, _, _, _, _, _, _, _, rfl, hB⟩, rfl, by (repeat (first | with_reducible exact Below.refl _ _ | with_reducible refine bl_alloc ?_ _ | ((with_reducible refine bl_set ?_ ?_ _); rotate_left; (first | exact Nat.le_refl _ | exact Nat.le_succ_of_le (Nat.le_refl _) | (simp only []; omega))) | with_reducible refine bl_drewN ?_ _ | with_reducible refine bl_drew ?_ | with_reducible refine bl_reg ?_ _))⟩
end Go.Proofs.YtgjieoljfcfacaaDoor
