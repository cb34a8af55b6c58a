/- A table of rows by keys: what lies in memory of it; the plain laws of keys in order. -/
import Derived.Test.YtdmmceclohkkdaaKeyFind
namespace Go.Proofs.Ytdmmceclohkkdaa
open Go.RowKit Go.Sort
set_option maxHeartbeats 1000000
set_option maxRecDepth 100000

theorem cmpI_neg {x y : Int} : cmpI x y < 0 ↔ x < y := by unfold cmpI; split; simp_all; split <;> simp_all
theorem cmpI_zero {x y : Int} : cmpI x y = 0 ↔ x = y := by unfold cmpI; split; omega; split <;> omega
theorem lessK_iff {a b : KW} : lessK a b = true ↔ a.t < b.t ∨ a.t = b.t ∧ (a.f < b.f ∨ a.f = b.f ∧ a.s < b.s) := by
  unfold lessK cmpK orI
  rw [decide_eq_true_iff]
  have h1 := @cmpI_neg a.t b.t
  have h2 := @cmpI_zero a.t b.t
  have h3 := @cmpI_neg a.f b.f
  have h4 := @cmpI_zero a.f b.f
  have h5 := @cmpI_neg a.s b.s
  by_cases e1 : cmpI a.t b.t = 0
  · have := h2.1 e1
    by_cases e2 : cmpI a.f b.f = 0
    · have := h4.1 e2
      simp [e1, e2]; omega
    · simp [e1, e2]; omega
  · simp [e1]; omega
theorem lessK_trans {a b c : KW} (h : lessK a b = true) (k : lessK b c = true) : lessK a c = true := by
  rw [lessK_iff] at *; omega
theorem lessK_irrefl (a : KW) : lessK a a = false := by
  cases h : lessK a a with
  | false => rfl
  | true => rw [lessK_iff] at h; omega
theorem kw_ext {a b : KW} (h1 : a.t = b.t) (h2 : a.f = b.f) (h3 : a.s = b.s) : a = b := by cases a; cases b; simp_all
theorem lessK_total {a b : KW} (h : lessK a b = false) (hne : a ≠ b) : lessK b a = true := by
  cases k : lessK b a with
  | true => rfl
  | false =>
    exfalso
    apply hne
    have h1 : ¬ lessK a b = true := by simp [h]
    have h2 : ¬ lessK b a = true := by simp [k]
    rw [lessK_iff] at h1 h2
    exact kw_ext (by omega) (by omega) (by omega)
/-- Keys that rise. -/
abbrev Rises (l : List KW) : Prop := l.Pairwise fun a b => lessK a b = true
theorem Rises.nodup {l : List KW} (h : Rises l) : l.Nodup := h.imp fun {a b} hab e => by subst e; rw [lessK_irrefl] at hab; cases hab
theorem take_found {α : Type} (p : α → Bool) : ∀ (l : List α) (n : Nat), n ≤ l.length → (∀ j, j < n → (h : j < l.length) → p l[j] = true) → (∀ h : n < l.length, p l[n] = false) → l.takeWhile p = l.take n ∧ l.dropWhile p = l.drop n
  | [], n, _, _, _ => by simp
  | a :: l, 0, _, _, h => by have := h (by simp); simp at this; simp [this]
  | a :: l, n + 1, hn, h1, h2 => by
    have h0 := h1 0 (by omega) (by simp)
    simp at h0
    obtain ⟨e1, e2⟩ := take_found p l n (by simpa using hn) (fun j hj hl => by have := h1 (j + 1) (by omega) (by simpa using hl); simpa using this) (fun h => by have := h2 (by simpa using h); simpa using this)
    simp [h0, e1, e2]
/-- What the search finds in keys that rise: where those end that are ahead. -/
theorem found_at {l : List KW} (hr : Rises l) {k : KW} {n : Nat} (h : Found (behind l k) l.length n) : l.takeWhile (fun y => lessK y k) = l.take n ∧ l.dropWhile (fun y => lessK y k) = l.drop n := by
  obtain ⟨h1, h2, h3⟩ := h
  refine take_found _ l n h1 (fun j hj hl => ?_) (fun hl => ?_)
  · have h4 := h2 (by omega)
    unfold behind at h4
    have hn1 : n - 1 < l.length := by omega
    rw [List.getElem?_eq_getElem hn1] at h4
    simp only [Bool.not_eq_false'] at h4
    by_cases he : j = n - 1
    · subst he; exact h4
    · exact lessK_trans (List.pairwise_iff_getElem.1 hr j (n - 1) hl hn1 (by omega)) h4
  · have h4 := h3 hl
    unfold behind at h4
    rw [List.getElem?_eq_getElem hl] at h4
    simpa using h4
/-- Where a key stands, or would stand. -/
def posK (l : List KW) (k : KW) : Nat := (l.takeWhile fun y => lessK y k).length
theorem posK_le (l : List KW) (k : KW) : posK l k ≤ l.length := (List.takeWhile_sublist _).length_le
theorem take_pos (l : List KW) (k : KW) : l.take (posK l k) = l.takeWhile fun y => lessK y k := by
  conv => lhs; rw [← List.takeWhile_append_dropWhile (p := fun y => lessK y k) (l := l)]
  unfold posK
  rw [List.takeWhile_append_dropWhile]
  conv => lhs; arg 2; rw [← List.takeWhile_append_dropWhile (p := fun y => lessK y k) (l := l)]
  rw [List.take_left]
theorem drop_pos (l : List KW) (k : KW) : l.drop (posK l k) = l.dropWhile fun y => lessK y k := by
  have h := List.take_append_drop (posK l k) l
  rw [take_pos] at h
  conv at h => rhs; rw [← List.takeWhile_append_dropWhile (p := fun y => lessK y k) (l := l)]
  exact List.append_cancel_left h
theorem ksearch_rises {v : Value} {l : List KW} {w : World} (k : KW) (h : KHas w v l) (hm : l.length ≤ 100000) (hr : Rises l) :
    Calls Try.prog 88 #[v, k.val, .func (.func 89) #[] #[]] w (RetV w (.tuple #[.int .i64 (posK l k : Int), .bool (hitK l k (posK l k))])) := by
  refine (ksearch_any k h hm).mono ?_
  rintro e w' ⟨n, rfl, hf, hg⟩
  have h1 := (found_at hr hf).1
  have : n = posK l k := by
    unfold posK
    rw [h1, List.length_take, Nat.min_eq_left hf.1]
  subst this
  exact ⟨rfl, hg⟩
/-- A row put in where it belongs. -/
def insT {β : Type} (m : List (KW × β)) (k : KW) (v : β) : List (KW × β) := m.takeWhile (fun p => lessK p.1 k) ++ (k, v) :: m.dropWhile (fun p => lessK p.1 k)
theorem map_takeWhile' {α β : Type} (f : α → β) (p : β → Bool) : ∀ l : List α, (l.takeWhile fun x => p (f x)).map f = (l.map f).takeWhile p
  | [] => rfl
  | a :: l => by by_cases h : p (f a) <;> simp [h, map_takeWhile' f p l]
theorem map_dropWhile' {α β : Type} (f : α → β) (p : β → Bool) : ∀ l : List α, (l.dropWhile fun x => p (f x)).map f = (l.map f).dropWhile p
  | [] => rfl
  | a :: l => by by_cases h : p (f a) <;> simp [h, map_dropWhile' f p l]
theorem insT_keys {β : Type} (m : List (KW × β)) (k : KW) (v : β) : (insT m k v).map (·.1) = (m.map (·.1)).takeWhile (fun y => lessK y k) ++ k :: (m.map (·.1)).dropWhile (fun y => lessK y k) := by
  unfold insT
  have h1 := map_takeWhile' (fun p : KW × β => p.1) (fun y => lessK y k) m
  have h2 := map_dropWhile' (fun p : KW × β => p.1) (fun y => lessK y k) m
  rw [List.map_append, List.map_cons, h1, h2]
theorem insT_perm {β : Type} (m : List (KW × β)) (k : KW) (v : β) : (insT m k v).Perm ((k, v) :: m) := by
  unfold insT
  refine List.perm_middle.trans ?_
  rw [List.takeWhile_append_dropWhile]
theorem insT_length {β : Type} (m : List (KW × β)) (k : KW) (v : β) : (insT m k v).length = m.length + 1 := by rw [(insT_perm m k v).length_eq]; rfl
theorem dropWhile_not {l : List KW} (hr : Rises l) {k : KW} : ∀ y ∈ l.dropWhile (fun y => lessK y k), lessK y k = false := by
  induction l with
  | nil => simp
  | cons a l ih =>
    have hr' := List.pairwise_cons.1 hr
    by_cases h : lessK a k = true
    · rw [List.dropWhile_cons_of_pos (p := fun y => lessK y k) h]; exact ih hr'.2
    · rw [List.dropWhile_cons_of_neg (p := fun y => lessK y k) h]
      intro y hy
      rcases List.mem_cons.1 hy with rfl | hy
      · simpa using h
      · cases e : lessK y k with
        | false => rfl
        | true => exact absurd (lessK_trans (hr'.1 y hy) e) h
theorem insT_rises {β : Type} {m : List (KW × β)} (hr : Rises (m.map (·.1))) {k : KW} (hk : k ∉ m.map (·.1)) (v : β) : Rises ((insT m k v).map (·.1)) := by
  rw [insT_keys]
  have h0 := hr
  rw [← List.takeWhile_append_dropWhile (p := fun y => lessK y k) (l := m.map (·.1))] at h0
  obtain ⟨h1, h2, h3⟩ := List.pairwise_append.1 h0
  have hlt : ∀ y ∈ (m.map (·.1)).takeWhile (fun y => lessK y k), lessK y k = true := fun y hy => by
    have := List.all_takeWhile (p := fun y => lessK y k) (l := m.map (·.1))
    exact (List.all_eq_true.1 this) y hy
  have hge := dropWhile_not hr (k := k)
  refine List.pairwise_append.2 ⟨h1, List.pairwise_cons.2 ⟨fun y hy => ?_, h2⟩, fun a ha b hb => ?_⟩
  · exact lessK_total (hge y hy) (fun e => hk (by rw [← e]; exact (List.dropWhile_sublist _).subset hy))
  · rcases List.mem_cons.1 hb with rfl | hb
    · exact hlt a ha
    · exact h3 a ha b hb

/-- A table lies at block tb: its rows are m, in order; at most so many. -/
structure TabAt (T : TypeId) (w : World) (base tb : Nat) (kv : Value) (mb : Nat) (m : List (KW × Value)) (most : Nat) : Prop where
  ob : w.heap[tb]? = some (.cells #[kv, .map (some mb), .int .i64 (most : Int)] T (0, 0))
  own : KOwn w base kv (m.map (·.1))
  map : MapAt w mb (getK m)
  bt : base ≤ tb
  bm : base ≤ mb
  few : m.length ≤ most
  most : most ≤ 65536
  rises : Rises (m.map (·.1))
/-- The blocks of a table. -/
def TabS (tb : Nat) (kv : Value) (mb : Nat) (j : Nat) : Prop := j = tb ∨ j = mb ∨ kv.ownBlock = some j
variable {T : TypeId} {w w' : World} {base tb mb : Nat} {kv : Value} {m : List (KW × Value)} {most : Nat}
theorem TabAt.grows (h : TabAt T w base tb kv mb m most) (hg : Grows w w') : TabAt T w' base tb kv mb m most :=
  ⟨box_grows h.ob hg, own_grows h.own hg, h.map.grows hg, h.bt, h.bm, h.few, h.most, h.rises⟩
theorem TabAt.chg {S : Nat → Prop} (h : TabAt T w base tb kv mb m most) (hc : Chg S w w') (h1 : ¬ S tb) (h2 : ¬ S mb) (h3 : ∀ j, kv.ownBlock = some j → ¬ S j) : TabAt T w' base tb kv mb m most :=
  ⟨box_chg h.ob hc h1, hc.own h.own h3, h.map.chg hc h2, h.bt, h.bm, h.few, h.most, h.rises⟩
theorem TabAt.len (h : TabAt T w base tb kv mb m most) : ∃ a cap, kv = .slice a m.length cap := by
  obtain ⟨a, cap, e⟩ := (kown_has h.own).len (List.length_map ..)
  exact ⟨a, cap, e⟩
theorem TabAt.lt (h : TabAt T w base tb kv mb m most) : tb < w.heap.size := box_lt h.ob
theorem TabAt.mlt (h : TabAt T w base tb kv mb m most) : mb < w.heap.size := h.map.lt
theorem map_ne_cells {w : World} {b : Nat} {g : KW → Option Value} (h : MapAt w b g) {cs : Array Value} {T : TypeId} {z : Nat × Nat} (hc : w.heap[b]? = some (.cells cs T z)) : False := by
  obtain ⟨es, cl, m, h1, _⟩ := h
  rw [h1] at hc
  cases hc
theorem TabAt.ne (h : TabAt T w base tb kv mb m most) : mb ≠ tb := fun e => by have h1 := h.ob; rw [← e] at h1; exact map_ne_cells h.map h1
theorem KOwn.ty {w : World} {base : Nat} {v : Value} {l : List KW} (h : KOwn w base v l) {j : Nat} (hj : v.ownBlock = some j) : ∃ cur, w.heap[j]? = some (.cells cur 29 (0, 0)) := by
  rcases h.2 with ⟨h1, _⟩ | ⟨g, cap, cur, hv, _, hg, _⟩
  · rw [h1] at hj; simp [Value.ownBlock] at hj
  · rw [hv] at hj
    simp only [Value.ownBlock, Option.some.injEq] at hj
    subst hj
    exact ⟨cur, hg⟩
theorem TabAt.kne (h : TabAt T w base tb kv mb m most) (hT : T ≠ 29) : kv.ownBlock ≠ some tb := fun hj => by
  obtain ⟨cur, hg⟩ := h.own.ty hj
  rw [h.ob] at hg
  injection hg with hg
  injection hg with _ hg
  exact hT hg
theorem TabAt.kmne (h : TabAt T w base tb kv mb m most) : kv.ownBlock ≠ some mb := fun hj => by
  obtain ⟨cur, hg⟩ := h.own.ty hj
  exact map_ne_cells h.map hg
theorem TabAt.getK_eq (h : TabAt T w base tb kv mb m most) {k : KW} : getK m k = none ↔ k ∉ m.map (·.1) := getK_none
end Go.Proofs.Ytdmmceclohkkdaa
