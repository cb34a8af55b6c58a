/- The chapter's example of a history; a history that is nil. -/
import Derived.Test.YtdmmceclohkkdaaHistE
namespace Go.Proofs.Ytdmmceclohkkdaa
open Go.RowKit Go.Sort
set_option maxHeartbeats 4000000
set_option maxRecDepth 100000
theorem HistTo.behind {W w w' : World} {base hb tb mb wb most : Nat} {kv : Value} {dl dl' : Int} {last last' : KW} {sm sm' : Bool} {l l' : List HW} {g g' : Int × Int → Int} {r : Value} {e : Ending} (h : HistAt w base hb tb kv mb wb most dl last sm l g) (hb' : W.heap.size ≤ base) (hg : Grows W w) (ht : HistTo w base hb tb kv mb wb most dl' last' sm' l' g' r e w') : Grows W w' := by
  obtain ⟨-, kv', k1, k2, -⟩ := ht
  exact h.behind hb' hg k2
/-- A message with a timestamp. -/
abbrev atP (t : Int) : PW := ⟨4, ⟨t, 0, 0⟩, 1, 0, 0, 0, 0, 0, 0, none, 0, 0⟩
theorem hat_any (t : Int) (w : World) : Calls Try.prog 48 #[.int .i64 t] w (RetV w (atP t).val) := by
  go_enter Try.func48, Try.ntmps48
  go_wp2_with fail
  exact bodyPost_ret (v := (atP t).val) (by simp [results, Try.results48, go_sem]) rfl ⟨rfl, by (repeat (first | with_reducible exact Below.refl _ _ | with_reducible refine bl_alloc ?_ _ | ((with_reducible refine bl_set ?_ ?_ _); rotate_left; (first | exact Nat.le_refl _ | exact Nat.le_succ_of_le (Nat.le_refl _) | (simp only []; omega))) | with_reducible refine bl_drewN ?_ _ | with_reducible refine bl_drew ?_ | with_reducible refine bl_reg ?_ _))⟩
theorem bhas_nil (w : World) : BHas w none 0 0 [] := ⟨rfl, .inl rfl⟩
theorem hput_at {w : World} {base hb tb mb wb most : Nat} {kv : Value} {dl : Int} {last : KW} {sm : Bool} {l : List HW} {g : Int × Int → Int} (t : Int) (h : HistAt w base hb tb kv mb wb most dl last sm l g) (hbase : base ≤ w.heap.size) (hE : checkE 4 ⟨t, 0, 0⟩ dl last sm = 0) (hP : putE (l.map hv) most ⟨t, 0, 0⟩ = 0) :
    Calls Try.prog 43 #[.pointer (some ⟨hb, 0, none⟩), (atP t).val] w (fun e w' => ∃ ba bl bc, HistTo w base hb tb kv mb wb most dl last sm (insH l ((atP t).at' ba bl bc, [])) (bumpM g (0, 4) 1) (.int .i64 0) e w') := by
  have := hput_go (atP t) [] h hbase (bhas_nil w) (Nat.zero_le _) hE
  simpa only [hP, if_true] using this
section
attribute [-go_sem] run_eql_struct run_neq_struct
theorem histWorks_any (w : World) : Calls Try.prog 47 #[] w (RetV w (.bool true)) := by
  have HN := Lib.hid (fun W => hnew_any 9 10 W)
  have HA := Lib.hid (fun t W => hat_any t W)
  go_enter Try.func47, Try.ntmps47
  go_wp2_with fail
  refine (HN.out _).mono ?_
  rintro e w1 ⟨hb, wb, rfl, hg1, h1⟩
  rw [show mostOfP 9 = 9 from rfl, show clampD 10 = 10 from rfl] at h1
  have X1 := Lib.hid (And.intro h1 hg1)
  clear h1 hg1
  go_wp2_with fail
  refine (HA.out 5 _).mono ?_
  rintro e w2 ⟨rfl, hg2⟩
  have X2 := Lib.hid (And.intro (X1.out.1.grows hg2) (grows_trans _ _ _ X1.out.2 hg2))
  have HP := Lib.hid (hput_at 5 X2.out.1 X2.out.2.size rfl rfl)
  clear hg2
  simp only [PW.val, PW.cells, PW.body]
  go_wp2_with fail
  refine (HP.out).mono ?_
  rintro e w3 ⟨ba, bl, bc, ht⟩
  have hg3 := HistTo.behind X2.out.1 (Nat.le_refl _) X2.out.2 ht
  obtain ⟨rfl, kv3, h3, -, -⟩ := ht
  rw [show insH [] ((atP 5).at' ba bl bc, ([] : List Int)) = [((atP 5).at' ba bl bc, [])] from rfl] at h3
  have X3 := Lib.hid (And.intro h3 hg3)
  clear h3 hg3 HP
  go_wp2_with fail
  refine (HA.out 3 _).mono ?_
  rintro e w4 ⟨rfl, hg4⟩
  have X4 := Lib.hid (And.intro (X3.out.1.grows hg4) (grows_trans _ _ _ X3.out.2 hg4))
  have HP := Lib.hid (hput_at 3 X4.out.1 X4.out.2.size rfl rfl)
  clear hg4
  simp only [PW.val, PW.cells, PW.body]
  go_wp2_with fail
  refine (HP.out).mono ?_
  rintro e w5 ⟨ba2, bl2, bc2, ht⟩
  have hg5 := HistTo.behind X4.out.1 (Nat.le_refl _) X4.out.2 ht
  obtain ⟨rfl, kv5, h5, -, -⟩ := ht
  rw [show insH [((atP 5).at' ba bl bc, ([] : List Int))] ((atP 3).at' ba2 bl2 bc2, []) = [((atP 3).at' ba2 bl2 bc2, []), ((atP 5).at' ba bl bc, [])] from rfl] at h5
  have X5 := Lib.hid (And.intro h5 hg5)
  have HQ := Lib.hid (hpop_no 12 h5 (fun x hx => by simp only [List.head?_cons, Option.mem_some_iff] at hx; rw [← hx]; show (12 : Int) < wrap64 (3 + 10); unfold wrap64; omega))
  clear h5 hg5 HP
  go_wp2_with fail
  refine (HQ.out).mono ?_
  rintro e w6 ⟨rfl, hg6⟩
  have g6 : Grows w6 (w6.alloc (.cells pz.cells TPK)) := bl_alloc (Below.refl _ _) _
  have X6 := Lib.hid (And.intro ((X5.out.1.grows hg6).grows g6) (grows_trans _ _ _ X5.out.2 (grows_trans _ _ _ hg6 g6)))
  have HQ := Lib.hid (hpop_yes 13 X6.out.1 (show ¬ (13 : Int) < wrap64 (3 + 10) by unfold wrap64; omega))
  simp only [PW.cells, PW.body] at HQ
  clear hg6 g6
  simp only [PW.val, PW.cells, PW.body]
  go_wp2_with fail
  refine (HQ.out).mono ?_
  intro e w7 ht
  have hg7 := HistTo.behind X6.out.1 (Nat.le_refl _) X6.out.2 ht
  obtain ⟨rfl, kv7, h7, -, -⟩ := ht
  have g7 : Grows w7 (w7.alloc (.cells ((atP 3).at' ba2 bl2 bc2).cells TPK)) := bl_alloc (Below.refl _ _) _
  have X7 := Lib.hid (And.intro (h7.grows g7) (grows_trans _ _ _ hg7 g7))
  clear h7 hg7 g7
  simp only [PW.val, PW.cells, PW.body]
  go_wp2_with fail
  refine (HA.out 2 _).mono ?_
  rintro e w8 ⟨rfl, hg8⟩
  simp only [PW.cells, PW.body] at X7
  have X8 := Lib.hid (And.intro (X7.out.1.grows hg8) (grows_trans _ _ _ X7.out.2 hg8))
  have hbad := hput_bad (atP 2) X8.out.1 (by decide)
  rw [show checkE (atP 2).kd (atP 2).k 10 (atP 3).k true = 11 from rfl] at hbad
  have HP := Lib.hid hbad
  clear hg8 hbad
  simp only [PW.val, PW.cells, PW.body]
  go_wp2_with fail
  refine (HP.out).mono ?_
  rintro e w9 ⟨rfl, hg9⟩
  have X9 := Lib.hid (And.intro (X8.out.1.grows hg9) (grows_trans _ _ _ X8.out.2 hg9))
  have HL := Lib.hid (hlen_any X9.out.1)
  clear hg9
  go_wp2_with fail
  refine (HL.out).mono ?_
  rintro e w10 ⟨rfl, rfl⟩
  go_wp2_with fail
  go_ret
  exact ⟨rfl, X9.out.2⟩
end
end Go.Proofs.Ytdmmceclohkkdaa
