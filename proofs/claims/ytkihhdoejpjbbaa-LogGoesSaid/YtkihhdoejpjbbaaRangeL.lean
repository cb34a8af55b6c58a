/- The log's All, gone over: each entry, its body anew. -/
import Derived.Test.YtkihhdoejpjbbaaLogK
import Derived.Test.YtkihhdoejpjbbaaRange
namespace Go.Proofs.Ytkihhdoejpjbbaa
open Go.RowKit Go.Sort
set_option maxHeartbeats 2000000
set_option maxRecDepth 100000
attribute [local go_sem] Oper.semAt_some

/-- What All says of each entry that it hands over. -/
def GoesG (l : List EW) (pre : List EW) (y : EW) (W : World) : Prop := ∃ x, l[pre.length]? = some x ∧ y.core = x.core ∧ BRow W 0 y.bv y.b

theorem all_nil_tells (w : World) {α : Type} (enc : α → Value) (I : List α → World → Prop) (G : List α → α → World → Prop) {c : Nat} (hI : ∀ s A, I s A → A.cell? ⟨c, 0, none⟩ = some (.pointer none)) :
    Tells Try.prog 65 #[.pointer (some ⟨c, 0, none⟩)] enc I G (fun xs => xs = []) w := by
  intro l J Jx W hg hJI hJ hJx hY h0
  have hc := hI _ _ (hJI _ _ h0)
  have H0 := Lib.hid h0
  have HL := Lib.hid (fun W => callsIn_wide (n := 8).2 (llen_nil W))
  clear hY hJ hJx hJI hI
  refine callsIn_of_wp Try.func65 rfl trivial ?_ rfl
  simp only [Try.ntmps65, List.size_toArray, List.length_cons, List.length_nil, Nat.reduceAdd, Nat.reduceSub, Array.replicate_succ, Array.replicate_zero, List.push_toArray, List.append_toArray, List.nil_append, List.cons_append]
  gi_wp2_with fail
  refine ⟨trivial, (HL.out _).mono ?_⟩
  rintro e w' ⟨rfl, rfl⟩
  gi_wp2_with fail
  gi_loopw [3, 6] (fun _ v6 wr => v6 = .int .i64 0 ∧ J [] wr) (fun _ _ _ => 0)
  case atStart => exact ⟨rfl, H0.out⟩
  case round =>
    obtain ⟨rfl, hj⟩ := hrel
    gi_wp2
    go_end0
    exact ⟨⟨_, rfl⟩, .inl ⟨[], rfl, hj⟩⟩

theorem allC_bound {l : List EW} (hs : Short (cores l)) {x : EW} (hx : x ∈ l) (hb : x.b.length = x.bl) : x.bl ≤ 1000000 := by
  have h1 := hs _ (List.mem_map_of_mem (f := EW.core) hx)
  simp only at h1
  omega

theorem all_tells (w : World) {base b c : Nat} {v : Value} {l : List EW} (I : List EW → World → Prop) (hI : ∀ s A, I s A → A.cell? ⟨c, 0, none⟩ = some (.pointer (some ⟨b, 0, none⟩)) ∧ LogAt A base b v l)
    (hm : l.length ≤ 100000) (hs : Short (cores l)) :
    Tells Try.prog 65 #[.pointer (some ⟨c, 0, none⟩)] EW.val I (GoesG l) (fun xs => xs.length = l.length) w := by
  intro q J Jx W hg hJI hJ hJx hY h0
  obtain ⟨n, en⟩ : ∃ n, l.length = n := ⟨_, rfl⟩
  obtain ⟨hc, hl⟩ := hI _ _ (hJI _ _ h0)
  obtain ⟨a, cap, rfl⟩ := (eown_has hl.own hl.bod).len en
  have H0 := Lib.hid h0
  have HI := Lib.hid (fun s A h => hI s A (hJI s A h))
  have HL := Lib.hid (fun W h => callsIn_wide (n := 8).2 (llen_any (base := base) (b := b) (v := .slice a n cap) (l := l) W h))
  have LG := Lib.hid hl
  have HY := Lib.hid hY
  have HJ := Lib.hid hJ
  have HS := Lib.hid hs
  have EN := Lib.hid en
  rw [en] at hm
  clear hY hJ hJx hJI hI hl h0 hs en hg
  refine callsIn_of_wp Try.func65 rfl trivial ?_ rfl
  simp only [Try.ntmps65, List.size_toArray, List.length_cons, List.length_nil, Nat.reduceAdd, Nat.reduceSub, Array.replicate_succ, Array.replicate_zero, List.push_toArray, List.append_toArray, List.nil_append, List.cons_append]
  gi_wp2_with fail
  refine ⟨trivial, (HL.out _ LG.out).mono ?_⟩
  rintro e w' ⟨rfl, rfl⟩
  rw [EN.out]
  gi_wp2_with fail
  gi_loopw [3, 6] (fun _ v6 wr => ∃ k : Nat, v6 = .int .i64 (k : Int) ∧ k ≤ n ∧ ∃ pre, pre.length = k ∧ J pre wr) (fun _ v6 _ => n - (intOf v6).toNat)
  case atStart => exact ⟨0, rfl, Nat.zero_le _, [], rfl, H0.out⟩
  case round =>
    obtain ⟨k, rfl, hk, pre, hpre, hj⟩ := hrel
    have J1 := Lib.hid hj
    have HP := Lib.hid hpre
    by_cases hlt : k < n
    · have hk6 : k ≤ 1000000 := Nat.le_trans (Nat.le_of_lt hlt) (Nat.le_trans hm (by decide))
      have HNF := Lib.hid (nat_facts k hk6)
      have HWS := Lib.hid (wrap_succ hk6)
      obtain ⟨hc1, hlog⟩ := HI.out _ _ hj
      obtain ⟨g, o, rfl, hcap, hgl, x, hx, q0, q1, q2, q3, q4, hbx⟩ := row_cells hlog EN.out k hlt
      obtain ⟨c0, -⟩ := hlog.c0
      have hxs := allC_bound HS.out (List.mem_of_getElem? hx) hbx.1
      have hown2 := callsIn_wide (n := 8).2 (own_any x wr hbx hxs)
      have HW := Lib.hid hown2
      have HX := Lib.hid hx
      have HKK := Lib.hid hlt
      have hbl2 := hlog.lt
      clear hx hown2 hxs hbx hlog hj hpre hk6
      obtain ⟨j1, j2, j3, j4, j6⟩ := HNF.out
      clear hm hk
      gi_wp2_with fail
      refine ⟨trivial, (HW.out).mono ?_⟩
      rintro e w2 ⟨ca, cl, cc, rfl, hbr, hg2⟩
      obtain ⟨fn, tmps, assign, body, hy, hR⟩ := HY.out pre ⟨x.a, x.k, ca, cl, cc, x.b⟩ w2 (HJ.out _ _ _ J1.out hg2) ⟨x, by rw [HP.out]; exact HX.out, rfl, row_base hbr (Nat.zero_le _)⟩
      simp only [EW.val, EW.bv] at hy
      gi_wp2_with fail
      refine hR.mono ?_
      rintro e w3 (⟨rfl, hj3⟩ | ⟨rfl, hj3⟩)
      · gi_wp2
        go_roundw
        case rel => exact ⟨k + 1, by rw [HWS.out]; rfl, HKK.out, _, by rw [List.length_append, HP.out]; rfl, hj3⟩
        case measure => rw [HWS.out]; exact meas_succ HKK.out
      · gi_wp2
        refine bodyPost_ret (results_none rfl _ _ _) rfl ?_
        exact ⟨⟨_, rfl⟩, .inr ⟨_, hj3⟩⟩
    · obtain rfl : k = n := Nat.le_antisymm hk (Nat.le_of_not_lt hlt)
      clear hk hm
      gi_wp2
      go_end0
      exact ⟨⟨_, rfl⟩, .inl ⟨pre, by rw [HP.out, EN.out], J1.out⟩⟩
end Go.Proofs.Ytkihhdoejpjbbaa
