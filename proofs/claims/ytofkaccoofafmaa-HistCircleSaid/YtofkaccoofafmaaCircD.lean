/- The two circles are one. -/
import Derived.Test.YtofkaccoofafmaaCircC
set_option linter.unusedVariables false
set_option linter.unusedSimpArgs false
set_option linter.unusedSectionVars false
namespace Go.Proofs.Ytofkaccoofafmaa.Wk
open Go Go.Cn

theorem find_idx {α : Type} [Inhabited α] (p : α → Bool) : ∀ (l : List α) (a : α), l.find? p = some a → ∃ j, l.findIdx? p = some j ∧ j < l.length ∧ l.getD j default = a
  | [], a, h => by cases h
  | b :: l, a, h => by
    rw [List.find?_cons] at h
    cases hp : p b with
    | true => rw [hp] at h; cases h; exact ⟨0, by rw [List.findIdx?_cons, hp]; rfl, by simp, rfl⟩
    | false =>
      rw [hp] at h
      obtain ⟨j, h1, h2, h3⟩ := find_idx p l a h
      exact ⟨j + 1, by rw [List.findIdx?_cons, hp, h1]; rfl, by simp; omega, by rw [← h3]; rfl⟩
theorem find_congr {α : Type} {p q : α → Bool} : ∀ (l : List α), (∀ a ∈ l, p a = q a) → l.find? p = l.find? q
  | [], _ => rfl
  | a :: l, h => by rw [List.find?_cons, List.find?_cons, h a List.mem_cons_self, find_congr l fun b hb => h b (List.mem_cons_of_mem _ hb)]
theorem find_above (p : Nat → Bool) {i n : Nat} (h : i < n) : (List.range' (i + 1) (n - (i + 1))).find? p = (List.range n).find? fun k => decide (i < k) && p k := by
  have e : List.range n = List.range' 0 (i + 1) ++ List.range' (i + 1) (n - (i + 1)) := by
    rw [List.range_eq_range']
    have := List.range'_append (s := 0) (m := i + 1) (n := n - (i + 1)) (step := 1)
    rw [Nat.one_mul, Nat.zero_add] at this
    rw [this]
    congr 1
    omega
  rw [e, List.find?_append]
  have : (List.range' 0 (i + 1)).find? (fun k => decide (i < k) && p k) = none := by
    rw [List.find?_eq_none]
    intro k hk
    have := List.mem_range'_1.1 hk
    rw [decide_eq_false (by omega)]; simp
  rw [this, Option.none_or]
  have : ∀ (c s : Nat), i < s → (List.range' s c).find? p = (List.range' s c).find? fun k => decide (i < k) && p k := by
    intro c
    induction c with
    | zero => intros; rfl
    | succ c ih =>
      intro s hs
      rw [List.range'_succ, List.find?_cons, List.find?_cons, decide_eq_true hs, Bool.true_and, ih (s + 1) (by omega)]
  exact this _ _ (by omega)
section
variable (n : Nat) (E : Nat → Nat → Bool)
noncomputable def goB (i a x k : Nat) : Bool := decide (i < k) && (E a k && decide (dst n E i i k = some x))
noncomputable def pathB (i : Nat) : Nat → List Nat → List Nat
  | 0, out => out
  | x + 1, out => match (List.range n).find? (goB n E i (out.getD (out.length - 1) default) (x + 1)) with
    | some k => pathB i x (out ++ [k])
    | none => out
noncomputable def bst : Nat → Option (Nat × Nat)
  | 0 => none
  | i + 1 => match dst n E i i i with
    | none => bst i
    | some d => match bst i with
      | none => some (d, i)
      | some (d', i') => if d < d' then some (d, i) else some (d', i')
end
section
variable {n : Nat} {E : Nat → Nat → Bool}
theorem last_snoc (out : List Nat) (k : Nat) : (out ++ [k]).getD ((out ++ [k]).length - 1) default = k := by
  rw [List.getD_eq_getElem?_getD]; simp
/-- Where a way is so long, a next one is there. -/
theorem go_some {i a x d : Nat} (hd : dst n E i i i = some d) (hx : x + 1 < d) (ha : dst n E i i a = some (x + 2)) : ∃ k, (List.range n).find? (goB n E i a (x + 1)) = some k ∧ k < n ∧ i < k ∧ E a k = true ∧ dst n E i i k = some (x + 1) := by
  obtain ⟨_, k, k1, k2, k3, k4⟩ := (dst_succ (m := x + 1) (by omega)).1 ha
  have hne : i ≠ k := fun e => by
    subst e
    rw [hd] at k4
    have := Option.some.inj k4
    omega
  cases hf : (List.range n).find? (goB n E i a (x + 1)) with
  | none =>
    rw [List.find?_eq_none] at hf
    exact absurd (by rw [goB, decide_eq_true (by omega), k3, decide_eq_true k4]; rfl) (hf k (List.mem_range.2 k1))
  | some j =>
    have hj := List.find?_some hf
    rw [goB, Bool.and_eq_true, Bool.and_eq_true, decide_eq_true_eq, decide_eq_true_eq] at hj
    exact ⟨j, rfl, List.mem_range.1 (List.mem_of_find?_eq_some hf), hj.1, hj.2.1, hj.2.2⟩
theorem path_len {i d : Nat} (hd : dst n E i i i = some d) : ∀ (x : Nat) (out : List Nat), x < d → dst n E i i (out.getD (out.length - 1) default) = some (x + 1) → (pathB n E i x out).length = out.length + x
  | 0, out, _, _ => rfl
  | x + 1, out, hx, ho => by
    obtain ⟨k, h1, h2, h3, h4, h5⟩ := go_some hd hx ho
    rw [pathB, h1]
    simp only
    rw [path_len hd x (out ++ [k]) (by omega) (by rw [last_snoc]; exact h5)]
    simp only [List.length_append, List.length_cons, List.length_nil]; omega
theorem da_some {i k x : Nat} (hk : i < k) : (da n E i k == ((x : Nat) : Int)) = decide (dst n E i i k = some x) := by
  rw [da, if_pos (by omega), Bool.eq_iff_iff, beq_iff_eq, decide_eq_true_eq]
  cases hd : dst n E i i k with
  | none => exact ⟨fun h => by have h' : (-1 : Int) = (x : Int) := h; omega, fun h => by cases h⟩
  | some q => exact ⟨fun h => by have h' : (q : Int) = (x : Int) := h; congr 1; omega, fun h => by cases h; rfl⟩
theorem path_hist (hn : n ≤ 64) {i d : Nat} (hi : i < n) (hd : dst n E i i i = some d) (k0 : Int → List Int → Option (List Int)) : ∀ (x fuel : Nat) (out : List Nat), x < d → x < fuel → dst n E i i (out.getD (out.length - 1) default) = some (x + 1) → 0 < out.length → out.length + x ≤ 1000 → out.getD (out.length - 1) default < n →
    hist_Circle_l1 (i : Int) (grB n E) ((List.range n).map (da n E i)) k0 fuel (ic out) (x : Int) = k0 (IntKind.wrap .i64 ((i : Int) + 1)) (ic (pathB n E i x out))
  | 0, fuel, out, _, hf, _, _, _, _ => by
    obtain ⟨g, rfl⟩ : ∃ g, fuel = g + 1 := ⟨fuel - 1, by omega⟩
    rw [hist_Circle_l1, if_neg (by simp)]; rfl
  | x + 1, fuel, out, hx, hf, ho, hp, hlen, hlast => by
    obtain ⟨g, rfl⟩ : ∃ g, fuel = g + 1 := ⟨fuel - 1, by omega⟩
    obtain ⟨k, h1, h2, h3, h4, h5⟩ := go_some hd hx ho
    generalize hla : out.getD (out.length - 1) default = a at h1 h4 ho hlast
    have el : (ic out).length = out.length := by simp
    have ew : IntKind.wrap .i64 (((ic out).length : Int) - 1) = ((out.length - 1 : Nat) : Int) := by rw [el, w64 (by omega) (by omega)]; omega
    have ea : (ic out).getD (out.length - 1) default = (a : Int) := by
      rw [← hla]; exact getD_map (fun (k : Nat) => (k : Int)) (by omega)
    rw [hist_Circle_l1, if_pos (by rw [decide_eq_true_eq]; omega), ew, if_pos (by rw [el]; omega), Int.toNat_natCast, ea, gr_len, if_pos (by omega), Int.toNat_natCast, grB, getD_rm _ hlast]
    have hrl := row_len n E a
    have hfind : slices_IndexFunc_int_int_2 (rowB n E a) (i : Int) ((List.range n).map (da n E i)) ((x + 1 : Nat) : Int) = some (match (rowB n E a).findIdx? (fun b => decide ((i : Int) < b) && ((((List.range n).map (da n E i)).getD b.toNat default) == ((x + 1 : Nat) : Int))) with | some j => (j : Int) | none => -1) := by
      rw [slices_IndexFunc_int_int_2, slices_IndexFunc_int_int_2_w0 _ _ _ _ (by omega)]
      have := walk_find (fun b => decide ((i : Int) < b) && ((((List.range n).map (da n E i)).getD b.toNat default) == ((x + 1 : Nat) : Int))) (fun b => hist_Circle_L1 b (i : Int) ((List.range n).map (da n E i)) ((x + 1 : Nat) : Int)) (rowB n E a) (fun b hb => by
        obtain ⟨b', hb', rfl⟩ := List.mem_map.1 hb
        have hbn := List.mem_range.1 (List.mem_filter.1 hb').1
        rw [hist_Circle_L1]
        by_cases hib : (i : Int) < (b' : Int)
        · rw [if_pos (decide_eq_true hib), if_pos (by simp; omega), decide_eq_true hib, Bool.true_and]
        · rw [if_neg (by rw [decide_eq_true_eq]; exact hib), decide_eq_false hib, Bool.false_and])
      exact this
    have hf2 : (rowB n E a).find? (fun b => decide ((i : Int) < b) && ((((List.range n).map (da n E i)).getD b.toNat default) == ((x + 1 : Nat) : Int))) = some (k : Int) := by
      rw [rowB, List.find?_map, List.find?_filter]
      have : (List.range n).find? (fun b => decide (E a b = true ∧ ((fun b => decide ((i : Int) < b) && ((((List.range n).map (da n E i)).getD b.toNat default) == ((x + 1 : Nat) : Int))) ∘ fun (k : Nat) => (k : Int)) b = true)) = some k := by
        rw [← h1]
        refine find_congr _ fun b hb => ?_
        have hbn := List.mem_range.1 hb
        rw [goB, Bool.eq_iff_iff, decide_eq_true_eq, Function.comp_apply, Int.toNat_natCast, getD_rm _ hbn, Bool.and_eq_true, Bool.and_eq_true, Bool.and_eq_true, decide_eq_true_eq, decide_eq_true_eq]
        constructor
        · rintro ⟨q1, q2, q3⟩
          have q4 : i < b := by omega
          rw [da_some q4] at q3
          exact ⟨q4, q1, q3⟩
        · rintro ⟨q1, q2, q3⟩
          exact ⟨q2, by omega, by rw [da_some q1]; exact q3⟩
      rw [this]; rfl
    obtain ⟨j, hj1, hj2, hj3⟩ := find_idx _ _ _ hf2
    rw [hfind, hj1, Option.bind_some]
    simp only
    rw [if_pos (by omega), Int.toNat_natCast, hj3, if_pos (by rw [el]; simp only [List.length_cons, List.length_nil]; omega)]
    have e2 : IntKind.wrap .i64 (((x + 1 : Nat) : Int) - 1) = (x : Int) := by rw [w64 (by omega) (by omega)]; omega
    have step := path_hist hn hi hd k0 x g (out ++ [k]) (by omega) (by omega) (by rw [last_snoc]; exact h5) (by simp) (by simp only [List.length_append, List.length_cons, List.length_nil]; omega) (by rw [last_snoc]; exact h2)
    rw [e2, show ic out ++ [(k : Int)] = ic (out ++ [k]) by simp [ic], ← grB, step, pathB, hla, h1]
end
end Go.Proofs.Ytofkaccoofafmaa.Wk
