/- The program's distances to one. -/
import Derived.Test.YtofkaccoofafmaaCircA
set_option linter.unusedVariables false
set_option linter.unusedSimpArgs false
set_option linter.unusedSectionVars false
namespace Go.Proofs.Ytofkaccoofafmaa.Wk
open Go Go.Cn

theorem contains_eq (s : List Int) (v : Int) (h : s.length < 9223372036854775807) : slices_Contains_int_int s v = some (s.contains v) := by
  rw [slices_Contains_int_int, slices_Index_int_int_2, slices_Index_int_int_2_w0 _ _ h]
  have := walk_find (fun a => v == a) (fun a => some (v == a)) s (fun a _ => rfl)
  rw [show walkN (slices_Index_int_int_2_b0 s v) slices_Index_int_int_2_e0 s.length 0 () = _ from this, Option.bind_some, find_any]
  congr 1
  rw [Bool.eq_iff_iff]
  simp only [List.any_eq_true, beq_iff_eq, List.contains_iff_mem]
  exact ⟨fun ⟨a, h, e⟩ => e ▸ h, fun h => ⟨v, h, rfl⟩⟩
section
variable (n : Nat) (E : Nat → Nat → Bool)
theorem row_len (i : Nat) : (rowB n E i).length ≤ n := by
  rw [rowB, List.length_map]
  have := List.length_filter_le (E i) (List.range n)
  simpa using this
theorem row_mem {i k : Nat} : (k : Int) ∈ rowB n E i ↔ k < n ∧ E i k = true := by
  rw [rowB, List.mem_map]
  constructor
  · rintro ⟨a, ha, e⟩
    obtain ⟨h1, h2⟩ := List.mem_filter.1 ha
    have : a = k := by omega
    subst this
    exact ⟨List.mem_range.1 h1, h2⟩
  · rintro ⟨h1, h2⟩
    exact ⟨k, List.mem_filter.2 ⟨List.mem_range.2 h1, h2⟩, rfl⟩
theorem gr_len : (grB n E).length = n := by simp [grB]
theorem func_eq (hn : n ≤ 64) (row : List Int) (h : row.length < 9223372036854775807) {x : Nat} (hx : x < n) : slices_ContainsFunc_int_int row (grB n E) (x : Int) = some (row.any fun k => (rowB n E x).contains k) := by
  rw [slices_ContainsFunc_int_int, slices_IndexFunc_int_int, slices_IndexFunc_int_int_w0 _ _ _ h]
  have := walk_find (fun k => (rowB n E x).contains k) (fun k => hist_back_L1 k (grB n E) (x : Int)) row (fun a _ => by
    rw [hist_back_L1, gr_len, if_pos (by omega), Int.toNat_natCast, grB, getD_rm _ hx, contains_eq _ _ (by have := row_len n E x; omega)]; rfl)
  rw [show walkN (slices_IndexFunc_int_int_b0 row (grB n E) (x : Int)) slices_IndexFunc_int_int_e0 row.length 0 () = _ from this, Option.bind_some, find_any]
/-- The distances that are below m. -/
noncomputable def dm (t m j : Nat) : Int := if t ≤ j then (match dst n E t t j with | some q => if q < m then (q : Int) else -1 | none => -1) else -1
/-- All distances. -/
noncomputable def da (t j : Nat) : Int := if t ≤ j then (match dst n E t t j with | some q => (q : Int) | none => -1) else -1
/-- Those at m. -/
noncomputable def atB (t m j : Nat) : Bool := decide (t ≤ j) && decide (dst n E t t j = some m)
noncomputable def atL (t m x : Nat) : List Int := ((List.range x).filter (atB n E t m)).map fun (k : Nat) => (k : Int)
end
section
variable {n : Nat} {E : Nat → Nat → Bool} {t : Nat}
theorem dst_pos {lo a q : Nat} (h : dst n E lo t a = some q) : 1 ≤ q := (dst_some.1 h).1
theorem dm_neg {m j : Nat} (h : t ≤ j) : dm n E t m j < 0 ↔ ∀ q, 1 ≤ q → q < m → ¬ Wk' n E t t q j := by
  rw [dm, if_pos h]
  cases hd : dst n E t t j with
  | none => exact ⟨fun _ q h1 _ => dst_none.1 hd q h1, fun _ => by show (-1 : Int) < 0; omega⟩
  | some q =>
    obtain ⟨h1, h2, h3⟩ := dst_some.1 hd
    simp only
    by_cases hq : q < m
    · rw [if_pos hq]
      exact ⟨fun hh => by omega, fun hh => absurd h2 (hh q h1 hq)⟩
    · rw [if_neg hq]
      exact ⟨fun _ r r1 r2 => h3 r r1 (by omega), fun _ => by omega⟩
theorem dm_hit {m j : Nat} (h : t ≤ j) (hd : dst n E t t j = some m) : dm n E t (m + 1) j = (m : Int) := by
  rw [dm, if_pos h, hd]; simp only; rw [if_pos (by omega)]
theorem dm_miss {m j : Nat} (hd : ¬ (t ≤ j ∧ dst n E t t j = some m)) : dm n E t (m + 1) j = dm n E t m j := by
  rw [dm, dm]
  by_cases h : t ≤ j
  · rw [if_pos h, if_pos h]
    cases hq : dst n E t t j with
    | none => rfl
    | some q =>
      have hne : q ≠ m := fun e => hd ⟨h, by rw [hq, e]⟩
      simp only
      by_cases hlt : q < m
      · rw [if_pos hlt, if_pos (by omega)]
      · rw [if_neg hlt, if_neg (by omega)]
  · rw [if_neg h, if_neg h]
theorem dm_all {m : Nat} (h : ∀ j, j < n → t ≤ j → ∀ q, dst n E t t j = some q → q < m) : (List.range n).map (dm n E t m) = (List.range n).map (da n E t) := by
  apply List.map_congr_left
  intro j hj
  rw [dm, da]
  by_cases hl : t ≤ j
  · rw [if_pos hl, if_pos hl]
    cases hq : dst n E t t j with
    | none => rfl
    | some q => simp only; rw [if_pos (h j (List.mem_range.1 hj) hl q hq)]
  · rw [if_neg hl, if_neg hl]
theorem at_iff {m j : Nat} : atB n E t m j = true ↔ t ≤ j ∧ dst n E t t j = some m := by
  rw [atB, Bool.and_eq_true, decide_eq_true_eq, decide_eq_true_eq]
theorem at_len {m x : Nat} : (atL n E t m x).length ≤ x := by
  rw [atL, List.length_map]
  have := List.length_filter_le (atB n E t m) (List.range x)
  simpa using this
theorem at_mem {m : Nat} {a : Int} : a ∈ atL n E t m n ↔ ∃ k : Nat, a = (k : Int) ∧ k < n ∧ t ≤ k ∧ dst n E t t k = some m := by
  rw [atL, List.mem_map]
  constructor
  · rintro ⟨k, hk, e⟩
    obtain ⟨h1, h2⟩ := List.mem_filter.1 hk
    exact ⟨k, e.symm, List.mem_range.1 h1, at_iff.1 h2⟩
  · rintro ⟨k, e, h1, h2⟩
    exact ⟨k, List.mem_filter.2 ⟨List.mem_range.2 h1, at_iff.2 h2⟩, e.symm⟩
theorem back_in (hn : n ≤ 64) (m : Nat) (hm : m ≤ 100) (row : List Int) (hrl : row.length < 9223372036854775807)
    (hrow : ∀ x, t ≤ x → x < n → (∀ q, 1 ≤ q → q < m → ¬ Wk' n E t t q x) → ((row.any fun k => (rowB n E x).contains k) = true ↔ dst n E t t x = some m)) (k1 : List Int → Int → List Int → Option (List Int)) :
    ∀ (c x : Nat), x + c = n → t ≤ x → walkN (hist_back_b2 (grB n E) row (m : Int) k1) (hist_back_e2 (m : Int) k1) c x ((List.range n).map (fun j => if j < x then dm n E t (m + 1) j else dm n E t m j), atL n E t m x)
      = k1 (atL n E t m n) ((m + 1 : Nat) : Int) ((List.range n).map (dm n E t (m + 1))) := by
  intro c
  induction c with
  | zero =>
    intro x hx _
    have hx' : x = n := by omega
    subst hx'
    rw [walkN, hist_back_e2, w64 (by omega) (by omega)]
    have : ((List.range x).map fun j => if j < x then dm x E t (m + 1) j else dm x E t m j) = (List.range x).map (dm x E t (m + 1)) := by
      apply List.map_congr_left
      intro j hj
      rw [if_pos (List.mem_range.1 hj)]
    rw [this]; rfl
  | succ c ih =>
    intro x hx ht
    have hxn : x < n := by omega
    rw [walkN, hist_back_b2, gr_len, Int.toNat_natCast, if_pos (by omega), if_pos (by simp; omega), Nat.zero_add]
    simp only
    rw [getD_rm _ hxn, if_neg (Nat.lt_irrefl x)]
    have step := ih (x + 1) (by omega) (by omega)
    have eat : atL n E t m (x + 1) = atL n E t m x ++ if atB n E t m x = true then [(x : Int)] else [] := by
      rw [atL, range_filter_succ, List.map_append, atL]
      cases atB n E t m x <;> rfl
    have same : ¬ (t ≤ x ∧ dst n E t t x = some m) → k1 (atL n E t m n) ((m + 1 : Nat) : Int) ((List.range n).map (dm n E t (m + 1))) = walkN (hist_back_b2 (grB n E) row (m : Int) k1) (hist_back_e2 (m : Int) k1) c (x + 1) ((List.range n).map (fun j => if j < x then dm n E t (m + 1) j else dm n E t m j), atL n E t m x) := by
      intro hno
      rw [← step, eat, if_neg (fun h => hno (at_iff.1 h)), List.append_nil]
      congr 2
      apply List.map_congr_left
      intro j _
      by_cases e : j = x
      · subst e; rw [if_pos (by omega), if_neg (by omega), dm_miss hno]
      · by_cases hj : j < x
        · rw [if_pos hj, if_pos (by omega)]
        · rw [if_neg hj, if_neg (by omega)]
    by_cases hneg : dm n E t m x < 0
    · rw [if_pos (decide_eq_true hneg), func_eq n E hn row hrl hxn, Option.bind_some]
      have hr := hrow x ht hxn ((dm_neg ht).1 hneg)
      by_cases hd : dst n E t t x = some m
      · have hl := at_len (n := n) (E := E) (t := t) (m := m) (x := x)
        rw [if_pos (hr.2 hd), if_pos (by simp only [List.length_cons, List.length_nil]; omega), set_rm, ← step, eat, if_pos (at_iff.2 ⟨ht, hd⟩)]
        congr 2
        apply List.map_congr_left
        intro j _
        by_cases e : j = x
        · subst e; rw [if_pos rfl, if_pos (by omega), dm_hit ht hd]
        · rw [if_neg e]
          by_cases hj : j < x
          · rw [if_pos hj, if_pos (by omega)]
          · rw [if_neg hj, if_neg (by omega)]
      · rw [if_neg (fun h => hd (hr.1 h)), same (fun h => hd h.2)]
    · rw [if_neg (by rw [decide_eq_true_eq]; exact hneg), same (fun h => hneg ((dm_neg ht).2 (dst_some.1 h.2).2.2))]
theorem back_out (hn : n ≤ 64) (ht : t < n) : ∀ (f m fuel : Nat) (row : List Int), n + 3 < f + m → f ≤ fuel → 1 ≤ m → m ≤ n + 2 → row.length ≤ 64 → (row = [] → ∀ j, j < n → t ≤ j → ∀ q, dst n E t t j = some q → q < m) →
    (∀ x, t ≤ x → x < n → (∀ q, 1 ≤ q → q < m → ¬ Wk' n E t t q x) → ((row.any fun k => (rowB n E x).contains k) = true ↔ dst n E t t x = some m)) →
    (m = n + 2 → row = []) →
    hist_back_l1 (grB n E) (t : Int) fuel row (m : Int) ((List.range n).map (dm n E t m)) = some ((List.range n).map (da n E t)) := by
  intro f
  induction f with
  | zero => intro m fuel row h1 _ _ h2; omega
  | succ f ih =>
    intro m fuel row h1 h2 h3 h4 h5 h6 h7 h8
    obtain ⟨g, rfl⟩ : ∃ g, fuel = g + 1 := ⟨fuel - 1, by omega⟩
    rw [hist_back_l1]
    cases hr : row with
    | nil =>
      rw [if_neg (by simp), gr_len, Int.toNat_natCast, if_pos (by simp), dm_all (h6 hr)]
    | cons a r =>
      rw [← hr, if_pos (by rw [hr]; simp only [List.length_cons, decide_eq_true_eq]; omega)]
      have hmn : m ≤ n + 1 := by
        rcases Nat.lt_or_ge m (n + 2) with h | h
        · omega
        · have := h8 (by omega); rw [hr] at this; cases this
      rw [hist_back_ws2 _ _ _ _ _ _ _ t (by rw [gr_len]; omega) (by rw [gr_len]; omega), gr_len]
      have e0 : ((List.range n).map (dm n E t m), ([] : List Int)) = ((List.range n).map (fun j => if j < t then dm n E t (m + 1) j else dm n E t m j), atL n E t m t) := by
        congr 1
        · apply List.map_congr_left
          intro j _
          by_cases hj : j < t
          · rw [if_pos hj, dm_miss (fun h => by omega)]
          · rw [if_neg hj]
        · symm
          rw [atL, List.map_eq_nil_iff, List.filter_eq_nil_iff]
          intro a ha hat
          have := (at_iff.1 hat).1
          have := List.mem_range.1 ha
          omega
      rw [e0, back_in hn m (by omega) row (by omega) h7 _ (n - t) t (by omega) (Nat.le_refl _)]
      refine ih (m + 1) g (atL n E t m n) (by omega) (by omega) (by omega) (by omega) (by have := at_len (n := n) (E := E) (t := t) (m := m) (x := n); omega) (fun hnil j hj htj q hq => ?_) (fun x hx hxn hw => ?_) (fun hmm => ?_)
      · rcases Nat.lt_or_ge q (m + 1) with h | h
        · exact h
        · obtain ⟨b, hb1, hb2, hb3⟩ := dst_chain (q - m) m j hj (by rw [show m + (q - m) = q by omega]; exact hq) h3
          have : (b : Int) ∈ atL n E t m n := at_mem.2 ⟨b, rfl, hb1, by omega, hb3⟩
          rw [hnil] at this; cases this
      · rw [List.any_eq_true, dst_succ h3]
        constructor
        · rintro ⟨a, ha, hc⟩
          obtain ⟨k, rfl, k1, k2, k3⟩ := at_mem.1 ha
          have hc' := (row_mem n E).1 (List.contains_iff_mem.1 hc)
          exact ⟨fun q q1 q2 => hw q q1 (by omega), k, k1, k2, hc'.2, k3⟩
        · rintro ⟨_, k, k1, k2, k3, k4⟩
          exact ⟨(k : Int), at_mem.2 ⟨k, rfl, k1, k2, k4⟩, List.contains_iff_mem.2 ((row_mem n E).2 ⟨k1, k3⟩)⟩
      · rw [List.eq_nil_iff_forall_not_mem]
        intro a ha
        obtain ⟨k, rfl, k1, k2, k3⟩ := at_mem.1 ha
        have := dst_bound k1 k3
        omega
theorem back_eq (hn : n ≤ 64) (ht : t < n) : hist_back (grB n E) (t : Int) = some ((List.range n).map (da n E t)) := by
  rw [hist_back, gr_len, if_pos (by omega), hist_back_w0 _ _ _ (by rw [gr_len, Int.toNat_natCast]; omega), gr_len, Int.toNat_natCast]
  have start : ∀ (c q : Nat), q + c = n → walkN hist_back_b0 (hist_back_e0 (grB n E) (t : Int)) c q ((List.range n).map fun j => if j < q then (-1 : Int) else 0) = some ((List.range n).map (da n E t)) := by
    intro c
    induction c with
    | zero =>
      intro q hq
      rw [walkN, hist_back_e0]
      have : ((List.range n).map fun j => if j < q then (-1 : Int) else 0) = (List.range n).map (dm n E t 1) := by
        apply List.map_congr_left
        intro j hj
        have := List.mem_range.1 hj
        rw [if_pos (by omega), dm]
        by_cases hl : t ≤ j
        · rw [if_pos hl]
          cases hd : dst n E t t j with
          | none => rfl
          | some q => have := dst_pos hd; simp only; rw [if_neg (by omega)]
        · rw [if_neg hl]
      rw [this]
      have := back_out (E := E) hn ht (n + 4) 1 big [(t : Int)] (by omega) (Nat.le_of_lt (big_lt (by omega))) (Nat.le_refl _) (by omega) (by simp) (fun h => by cases h) (fun x hx hxn _ => by
        rw [dst_one ht (Nat.le_refl _), List.any_cons, List.any_nil, Bool.or_false, List.contains_iff_mem, row_mem]
        exact ⟨fun h => h.2, fun h => ⟨ht, h⟩⟩) (fun h => by omega)
      exact this
    | succ c ih =>
      intro q hq
      rw [walkN, hist_back_b0, if_pos (by simp; omega), Nat.zero_add, set_rm, ← ih (q + 1) (by omega)]
      congr 1
      apply List.map_congr_left
      intro j _
      by_cases e : j = q
      · subst e; rw [if_pos rfl, if_pos (by omega)]
      · rw [if_neg e]
        by_cases hj : j < q
        · rw [if_pos hj, if_pos (by omega)]
        · rw [if_neg hj, if_neg (by omega)]
  rw [← start n 0 (by omega)]
  congr 1
  apply List.ext_getElem?
  intro j
  rw [List.getElem?_replicate, List.getElem?_map]
  by_cases hj : j < n
  · rw [if_pos hj, List.getElem?_range hj]; rfl
  · rw [if_neg hj, List.getElem?_eq_none (by simp; omega)]; rfl
end
end Go.Proofs.Ytofkaccoofafmaa.Wk
