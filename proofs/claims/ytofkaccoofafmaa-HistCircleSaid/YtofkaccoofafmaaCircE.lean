/- The two circles are one: the programs. -/
import Derived.Test.YtofkaccoofafmaaCircD
set_option linter.unusedVariables false
set_option linter.unusedSimpArgs false
set_option linter.unusedSectionVars false
namespace Go.Proofs.Ytofkaccoofafmaa.Wk
open Go Go.Cn

section
variable {n : Nat} {E : Nat → Nat → Bool}
theorem bst_some : ∀ {i d j : Nat}, bst n E i = some (d, j) → j < i ∧ dst n E j j j = some d
  | 0, _, _, h => by cases h
  | i + 1, d, j, h => by
    rw [bst] at h
    cases hd : dst n E i i i with
    | none =>
      rw [hd] at h
      have := bst_some (i := i) h
      exact ⟨by omega, this.2⟩
    | some q =>
      rw [hd] at h
      cases hb : bst n E i with
      | none =>
        rw [hb] at h
        simp only [Option.some.injEq, Prod.mk.injEq] at h
        obtain ⟨rfl, rfl⟩ := h
        exact ⟨by omega, hd⟩
      | some c =>
        obtain ⟨d', j'⟩ := c
        rw [hb] at h
        have := bst_some hb
        simp only at h
        split at h
        · simp only [Option.some.injEq, Prod.mk.injEq] at h
          obtain ⟨rfl, rfl⟩ := h
          exact ⟨by omega, hd⟩
        · simp only [Option.some.injEq, Prod.mk.injEq] at h
          obtain ⟨rfl, rfl⟩ := h
          exact ⟨by omega, this.2⟩
theorem bst_least : ∀ {i q r : Nat}, q < i → dst n E q q q = some r → ∃ d j, bst n E i = some (d, j) ∧ d ≤ r
  | 0, _, _, h, _ => by omega
  | i + 1, q, r, h, hr => by
    rw [bst]
    by_cases e : q = i
    · subst e
      rw [hr]
      cases hb : bst n E q with
      | none => exact ⟨r, q, rfl, Nat.le_refl _⟩
      | some c =>
        obtain ⟨d', j'⟩ := c
        simp only
        split
        · exact ⟨_, _, rfl, Nat.le_refl _⟩
        · exact ⟨_, _, rfl, by omega⟩
    · obtain ⟨d, j, h1, h2⟩ := bst_least (i := i) (by omega) hr
      rw [h1]
      cases hd : dst n E i i i with
      | none => exact ⟨d, j, rfl, h2⟩
      | some x =>
        simp only
        split
        · exact ⟨_, _, rfl, by omega⟩
        · exact ⟨_, _, rfl, h2⟩
noncomputable def wayB (n : Nat) (E : Nat → Nat → Bool) (c : Option (Nat × Nat)) : List Nat := match c with | none => [] | some (d, j) => pathB n E j (d - 1) [j]
theorem one_last (j : Nat) : ([j] : List Nat).getD (([j] : List Nat).length - 1) default = j := rfl
theorem way_len {j d : Nat} (hd : dst n E j j j = some d) : (pathB n E j (d - 1) [j]).length = d := by
  have := dst_pos hd
  rw [path_len hd (d - 1) [j] (by omega) (by rw [one_last, hd]; congr 1; omega)]
  simp only [List.length_cons, List.length_nil]; omega
theorem hist_loop (hn : n ≤ 64) : ∀ (c i : Nat), i + c = n → walkN (hist_Circle_b0 (grB n E)) hist_Circle_e0 c i (ic (wayB n E (bst n E i))) = some (ic (wayB n E (bst n E n)))
  | 0, i, h => by rw [show i = n by omega]; rfl
  | c + 1, i, h => by
    have hi : i < n := by omega
    have step := hist_loop hn c (i + 1) (by omega)
    rw [walkN, hist_Circle_b0, back_eq hn hi, Option.bind_some, if_pos (by simp; omega), getD_rm _ hi]
    have ed : da n E i i = match dst n E i i i with | some q => (q : Int) | none => -1 := by rw [da, if_pos (Nat.le_refl _)]; cases dst n E i i i <;> rfl
    rw [ed]
    cases hd : dst n E i i i with
    | none =>
      have eb : bst n E (i + 1) = bst n E i := by rw [bst, hd]
      rw [if_pos (by rw [decide_eq_true_eq]; show (-1 : Int) < 0; omega), ← eb]
      exact step
    | some d =>
      have hp := dst_pos hd
      have hb := dst_bound hi hd
      have take := path_hist (E := E) hn hi hd (fun _ l2_ => walkN (hist_Circle_b0 (grB n E)) hist_Circle_e0 c (i + 1) l2_) (d - 1) big [i] (by omega) (big_lt (by omega)) (by rw [one_last, hd]; congr 1; omega) (by simp) (by simp only [List.length_cons, List.length_nil]; omega) (by rw [one_last]; exact hi)
      have e1 : IntKind.wrap .i64 ((d : Int) - 1) = ((d - 1 : Nat) : Int) := by rw [w64 (by omega) (by omega)]; omega
      simp only
      rw [if_neg (by rw [decide_eq_true_eq]; omega), e1]
      have take' := take
      rw [show ic [i] = [(i : Int)] from rfl] at take'
      rw [take']
      cases hbs : bst n E i with
      | none =>
        have eb : bst n E (i + 1) = some (d, i) := by rw [bst, hd, hbs]
        rw [eb] at step
        rw [if_neg (by simp [wayB])]
        exact step
      | some q =>
        obtain ⟨d', j'⟩ := q
        have h' := bst_some hbs
        have hl := way_len h'.2
        have hp' := dst_pos h'.2
        rw [show wayB n E (some (d', j')) = pathB n E j' (d' - 1) [j'] from rfl, if_pos (by simp only [List.length_map, hl]; simp; omega)]
        by_cases hlt : d < d'
        · have eb : bst n E (i + 1) = some (d, i) := by rw [bst, hd, hbs]; simp only; rw [if_pos hlt]
          rw [eb] at step
          rw [if_neg (by simp only [List.length_map, hl, decide_eq_true_eq]; omega)]
          exact step
        · have eb : bst n E (i + 1) = some (d', j') := by rw [bst, hd, hbs]; simp only; rw [if_neg hlt]
          rw [eb] at step
          rw [if_pos (by simp only [List.length_map, hl, decide_eq_true_eq]; omega)]
          exact step
end
section
variable {l : List RT} (h : ∀ x ∈ l, ndT x) (hl : l.length ≤ 64)
include h hl in
theorem path_ref {i d : Nat} (hi : i < l.length) (hd : dst l.length (Eg l) i i i = some d) : ∀ (x fuel : Nat) (out : List Nat), x < d → x < fuel → dst l.length (Eg l) i i (out.getD (out.length - 1) default) = some (x + 1) → 0 < out.length → out.length + x ≤ 1000 → out.getD (out.length - 1) default < l.length →
    parrelref26_Circle_l1 l (i : Int) fuel (x : Int) (ic out) = some (ic (pathB l.length (Eg l) i x out))
  | 0, fuel, out, _, hf, _, _, _, _ => by
    obtain ⟨g, rfl⟩ : ∃ g, fuel = g + 1 := ⟨fuel - 1, by omega⟩
    rw [parrelref26_Circle_l1, if_neg (by simp)]; rfl
  | x + 1, fuel, out, hx, hf, ho, hp, hlen, hlast => by
    obtain ⟨g, rfl⟩ : ∃ g, fuel = g + 1 := ⟨fuel - 1, by omega⟩
    obtain ⟨k, h1, h2, h3, h4, h5⟩ := go_some hd hx ho
    generalize hla : out.getD (out.length - 1) default = a at h1 h4 ho hlast
    have el : (ic out).length = out.length := by simp
    have ew : IntKind.wrap .i64 (((ic out).length : Int) - 1) = ((out.length - 1 : Nat) : Int) := by rw [el, w64 (by omega) (by omega)]; omega
    have ea : (ic out).getD (out.length - 1) default = (a : Int) := by
      rw [← hla]; exact getD_map (fun (k : Nat) => (k : Int)) (by omega)
    have e0 : IntKind.wrap .i64 ((i : Int) + 1) = ((i + 1 : Nat) : Int) := by rw [w64 (by omega) (by omega)]; omega
    have e2 : IntKind.wrap .i64 (((x + 1 : Nat) : Int) - 1) = (x : Int) := by rw [w64 (by omega) (by omega)]; omega
    rw [parrelref26_Circle_l1, if_pos (by rw [decide_eq_true_eq]; omega), ew, if_pos (by rw [el]; omega), e0, parrelref26_Circle_ws2 _ _ _ _ _ (i + 1) (by omega) (by omega),
      findN (fun j => Eg l a j && decide (dst l.length (Eg l) i i j = some (x + 1))) (fun j => parrelref26_Circle_l1 l (i : Int) g (x : Int) (ic (out ++ [j])))]
    · rw [find_above _ hi]
      have : (List.range l.length).find? (fun k => decide (i < k) && (Eg l a k && decide (dst l.length (Eg l) i i k = some (x + 1)))) = some k := h1
      rw [this]
      simp only
      rw [path_ref hi hd x g (out ++ [k]) (by omega) (by omega) (by rw [last_snoc]; exact h5) (by simp) (by simp only [List.length_append, List.length_cons, List.length_nil]; omega) (by rw [last_snoc]; exact h2), pathB, hla, h1]
    · intro j hj1 hj2 kk
      rw [parrelref26_Circle_b2, ew, Int.toNat_natCast, ea]
      by_cases e : j = a
      · subst e
        rw [if_neg (by simp), Eg_irr, Bool.false_and, if_neg Bool.false_ne_true]
      · rw [if_pos (by rw [bne_iff_ne]; omega), if_pos (by omega), Int.toNat_natCast, ahead_eq _ _ (h _ (getD_mem hlast)) (h _ (getD_mem (by omega))), Option.bind_some, ← Eg_ne (fun q => e q.symm)]
        cases hE : Eg l a j with
        | false => rw [if_neg Bool.false_ne_true, Bool.false_and, if_neg Bool.false_ne_true]
        | true =>
          rw [if_pos rfl, far_eq2 h hl hi j (by omega), Option.bind_some, Bool.true_and]
          cases hq : dst l.length (Eg l) i i j with
          | none =>
            rw [if_neg (fun hh => by have h' : ((0 : Int) == ((x + 1 : Nat) : Int)) = true := hh; rw [beq_iff_eq] at h'; omega), if_neg (by simp)]
          | some q =>
            simp only
            by_cases eq : q = x + 1
            · subst eq
              rw [if_pos (by rw [beq_iff_eq]), if_pos (by rw [el]; simp only [List.length_cons, List.length_nil]; omega), if_pos (by simp), e2, show ic out ++ [(j : Int)] = ic (out ++ [j]) by simp [ic]]
            · rw [if_neg (by rw [beq_iff_eq]; omega), if_neg (by simpa using eq)]
def stR (c : Option (Nat × Nat)) : Int × Int := match c with | none => (0, 0) | some (d, j) => ((d : Int), (j : Int))
include h hl in
theorem ref_loop : ∀ (c i : Nat), i + c = l.length → walkN (parrelref26_Circle_b0 l) (parrelref26_Circle_e0 l) c i (stR (bst l.length (Eg l) i)) = parrelref26_Circle_e0 l (stR (bst l.length (Eg l) l.length))
  | 0, i, hi => by rw [show i = l.length by omega]; rfl
  | c + 1, i, hic => by
    have hi : i < l.length := by omega
    have step := ref_loop c (i + 1) (by omega)
    rw [walkN, parrelref26_Circle_b0, far_eq2 h hl hi i hi, Option.bind_some]
    cases hd : dst l.length (Eg l) i i i with
    | none =>
      have eb : bst l.length (Eg l) (i + 1) = bst l.length (Eg l) i := by rw [bst, hd]
      rw [if_neg (by simp), ← eb]
      exact step
    | some d =>
      have hp := dst_pos hd
      simp only
      rw [if_pos (by rw [decide_eq_true_eq]; omega)]
      cases hbs : bst l.length (Eg l) i with
      | none =>
        have eb : bst l.length (Eg l) (i + 1) = some (d, i) := by rw [bst, hd, hbs]
        rw [eb] at step
        rw [if_pos (by rfl)]
        exact step
      | some q =>
        obtain ⟨d', j'⟩ := q
        have h' := bst_some hbs
        have hp' := dst_pos h'.2
        rw [show stR (some (d', j')) = ((d' : Int), (j' : Int)) from rfl]
        simp only
        rw [if_neg (by rw [beq_iff_eq]; omega)]
        by_cases hlt : d < d'
        · have eb : bst l.length (Eg l) (i + 1) = some (d, i) := by rw [bst, hd, hbs]; simp only; rw [if_pos hlt]
          rw [eb] at step
          rw [if_pos (by rw [decide_eq_true_eq]; omega)]
          exact step
        · have eb : bst l.length (Eg l) (i + 1) = some (d', j') := by rw [bst, hd, hbs]; simp only; rw [if_neg hlt]
          rw [eb] at step
          rw [if_neg (by rw [decide_eq_true_eq]; omega)]
          exact step
end
theorem rdC_vals (look : RI → Option (List UInt8)) : ∀ (l : List RI) (bad : Int), bad = 0 ∨ bad = 8 → rdC look l bad = 0 ∨ rdC look l bad = 8 ∨ rdC look l bad = 6
  | [], bad, h => by rw [rdC]; omega
  | r :: l, bad, h => by
    rw [rdC]
    split
    · exact .inr (.inr rfl)
    · exact rdC_vals look l _ (by split <;> omega)
theorem check_vals (l : List RT) : checkB l = 0 ∨ checkB l = 1 ∨ checkB l = 6 ∨ checkB l = 7 ∨ checkB l = 8 := by
  rw [checkB]
  split
  · split
    · rcases rdC_vals (findV (allW l)) (allR l) 0 (.inl rfl) with h | h | h <;> rw [h] <;> simp
    · simp
  · simp
theorem order_11 {l : List RT} (h : (orderB l).2 = 11) : checkB l = 0 ∧ (orderN l).length < l.length := by
  rw [orderB] at h
  have hv := check_vals l
  split at h
  · simp only at h; omega
  · rename_i hc
    split at h
    · rename_i hlt; exact ⟨by omega, hlt⟩
    · cases h
/-- The circle. -/
noncomputable def circN (l : List RT) : List Nat := if (orderB l).2 = 11 then wayB l.length (Eg l) (bst l.length (Eg l) l.length) else []
theorem histCircle_eq (l : List RT) (h : l.length < 9223372036854775807) : hist_Circle (l.map tt) = some (ic (circN l)) := by
  by_cases hc : (orderB l).2 = 11
  · obtain ⟨h1, h2⟩ := order_11 hc
    obtain ⟨h3, h4⟩ := check_nd h1
    rw [hist_Circle, histOrder_eq l h, Option.bind_some, if_neg (by simpa using hc), graph_eq l h4 h3, Option.bind_some, hist_Circle_w0 _ _ (by rw [gr_len]; omega), gr_len, circN, if_pos hc]
    exact hist_loop h3 l.length 0 (by omega)
  · rw [histCircle_nil h hc, circN, if_neg hc]; rfl
theorem circ_some {l : List RT} (hc : (orderB l).2 = 11) : ∃ d j, bst l.length (Eg l) l.length = some (d, j) := by
  obtain ⟨h1, h2⟩ := order_11 hc
  obtain ⟨i, m, h3, h4, h5⟩ := stuck_circle h2
  obtain ⟨q, h6, _⟩ := dst_le h4 h5
  obtain ⟨d, j, h7, _⟩ := bst_least h3 h6
  exact ⟨d, j, h7⟩
theorem refCircle_eq (l : List RT) (h : l.length < 9223372036854775807) (hw : ∀ a ∈ l, a.f_Writes.length < 9223372036854775807) : parrelref26_Circle l = some (ic (circN l)) := by
  rw [parrelref26_Circle, refOrder_eq l h hw, Option.bind_some]
  by_cases hc : (orderB l).2 = 11
  · obtain ⟨h1, h2⟩ := order_11 hc
    obtain ⟨h3, h4⟩ := check_nd h1
    obtain ⟨d, j, hb⟩ := circ_some hc
    obtain ⟨hj, hd⟩ := bst_some hb
    have hp := dst_pos hd
    have hbd := dst_bound hj hd
    have := ref_loop h4 h3 l.length 0 (by omega)
    rw [show stR (bst l.length (Eg l) 0) = (0, 0) from rfl, hb] at this
    rw [if_neg (by simpa using hc), parrelref26_Circle_w0 _ _ _ (by omega), this, circN, if_pos hc, hb]
    have e1 : IntKind.wrap .i64 ((d : Int) - 1) = ((d - 1 : Nat) : Int) := by rw [w64 (by omega) (by omega)]; omega
    show parrelref26_Circle_l1 l (j : Int) big (IntKind.wrap .i64 ((d : Int) - 1)) [(j : Int)] = _
    rw [e1]
    exact path_ref h4 h3 hj hd (d - 1) big [j] (by omega) (big_lt (by omega)) (by rw [one_last, hd]; congr 1; omega) (by simp) (by simp only [List.length_cons, List.length_nil]; omega) (by rw [one_last]; exact hj)
  · rw [if_pos (by simpa using hc), circN, if_neg hc]; rfl
end Go.Proofs.Ytofkaccoofafmaa.Wk
