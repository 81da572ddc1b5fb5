/- Least circles (plain). -/
import Derived.Test.YtofkaccoofafmaaCircF
set_option linter.unusedVariables false
set_option linter.unusedSimpArgs false
set_option linter.unusedSectionVars false
namespace Go.Proofs.Ytofkaccoofafmaa.Wk
open Go Go.Cn

section
variable {n : Nat} {E : Nat → Nat → Bool}
theorem stuck_set (h : (kahn n E (n + 1) []).length < n) : ∃ P : Nat → Prop, (∃ p, P p) ∧ ∀ p, P p → p < n ∧ ∃ q, P q ∧ E q p = true := by
  have hI := kahn_inv (n := n) (E := E) (n + 1) [] (Inv.nil _ _)
  have hs := kahn_stuck (n := n) (E := E) (n + 1) [] (Inv.nil _ _) (by simp) h
  generalize kahn n E (n + 1) [] = out at h hI hs
  refine ⟨fun a => a < n ∧ a ∉ out, ?_, fun a ha => ⟨ha.1, ?_⟩⟩
  · by_cases hx : ∃ a, a < n ∧ a ∉ out
    · exact hx
    · exfalso
      have : (List.range n).length ≤ out.length := List.nodup_range.length_le_of_subset fun p hp => by
        by_cases hpo : p ∈ out
        · exact hpo
        · exact absurd ⟨p, List.mem_range.1 hp, hpo⟩ hx
      rw [List.length_range] at this
      omega
  · by_cases hx : ∃ p, (p < n ∧ p ∉ out) ∧ E p a = true
    · exact hx
    · exfalso
      have hfree : freeB n E out a = true := freeB_iff.2 ⟨ha.2, fun k hk he => by
        by_cases hko : k ∈ out
        · exact hko
        · exact absurd ⟨k, ⟨hk, hko⟩, he⟩ hx⟩
      unfold nextB at hs
      rw [List.find?_eq_none] at hs
      exact hs a (List.mem_range.2 ha.1) hfree
/-- Where each has one ahead of it, no order takes all. -/
theorem all_stuck (hn : 0 < n) (h : ∀ p, p < n → ∃ q, q < n ∧ q ≠ p ∧ E q p = true) : (kahn n E (n + 1) []).length < n := by
  have hA := kahn_invA (n := n) (E := E) (n + 1) [] (InvA.nil n E)
  have hI := kahn_inv (n := n) (E := E) (n + 1) [] (Inv.nil _ _)
  generalize kahn n E (n + 1) [] = out at hA hI
  rcases Nat.lt_or_ge out.length n with h' | h'
  · exact h'
  · exfalso
    cases out with
    | nil => simp only [List.length_nil] at h'; omega
    | cons a r =>
      have h1 := hA 1
      rw [List.take_succ_cons, List.take_zero] at h1
      have ha := hI.lt a List.mem_cons_self
      obtain ⟨q, q1, q2, q3⟩ := h a ha
      have := h1.cl a List.mem_cons_self q q1 q3
      simp only [List.mem_singleton] at this
      exact q2 this
theorem wk_mono {E' : Nat → Nat → Bool} (h : ∀ a b, E' a b = true → E a b = true) {lo t : Nat} : ∀ {m a : Nat}, Wk' n E' lo t m a → Wk' n E lo t m a
  | 0, _, h1 => h1
  | m + 1, _, ⟨k, h1, h2, h3, h4⟩ => ⟨k, h1, h2, h _ _ h3, wk_mono h h4⟩
/-- A distance is no more than there are that have a step. -/
theorem dst_bound2 {lo t a m : Nat} {R : List Nat} (ha : a < n) (hR : ∀ b k, E b k = true → b ∈ R) (h : dst n E lo t a = some m) : m ≤ R.length := by
  have key : ∀ q, q ≤ m → ∃ l : List Nat, l.length = q ∧ l.Nodup ∧ ∀ b ∈ l, b ∈ R ∧ ∃ r, 1 ≤ r ∧ r ≤ q ∧ dst n E lo t b = some r := by
    intro q
    induction q with
    | zero => intro _; exact ⟨[], rfl, List.nodup_nil, fun _ h => by cases h⟩
    | succ q ih =>
      intro hq
      obtain ⟨l, h1, h2, h3⟩ := ih (by omega)
      obtain ⟨b, hb, _, hb2⟩ := dst_chain (m - (q + 1)) (q + 1) a ha (by rw [show q + 1 + (m - (q + 1)) = m by omega]; exact h) (by omega)
      have hbR : b ∈ R := by
        obtain ⟨_, ⟨k, _, _, he, _⟩, _⟩ := dst_some.1 hb2
        exact hR b k he
      refine ⟨b :: l, by simp [h1], List.nodup_cons.2 ⟨fun hbl => ?_, h2⟩, fun c hc => ?_⟩
      · obtain ⟨_, r, _, r2, r3⟩ := h3 b hbl
        rw [hb2] at r3
        have := Option.some.inj r3
        omega
      · rcases List.mem_cons.1 hc with rfl | hc
        · exact ⟨hbR, q + 1, by omega, Nat.le_refl _, hb2⟩
        · obtain ⟨g1, r, g2, g3, g4⟩ := h3 c hc
          exact ⟨g1, r, g2, by omega, g4⟩
  obtain ⟨l, h1, h2, h3⟩ := key m (Nat.le_refl _)
  have := h2.length_le_of_subset (l₂ := R) (fun b hb => (h3 b hb).1)
  rw [h1] at this
  exact this
/-- Where some of some are stuck, there is a circle that is no longer than they are. -/
theorem part_circle (R : List Nat) (S : Nat → Prop) (hS : ∀ a, S a → a < n ∧ a ∈ R) (hne : ∃ a, S a) (hp : ∀ a, S a → ∃ p, S p ∧ E p a = true) : ∃ i q, i < n ∧ dst n E i i i = some q ∧ q ≤ R.length := by
  let E' : Nat → Nat → Bool := fun a b => E a b && R.contains a
  have hE : ∀ a b, E' a b = true → E a b = true := fun a b h => (Bool.and_eq_true _ _ ▸ h).1
  obtain ⟨i, m, h1, h2, h3⟩ := circle_of (n := n) (E := E') n 0 S (by omega) (fun a ha => ⟨(hS a ha).1, Nat.zero_le _⟩) hne (fun a ha => by
    obtain ⟨p, p1, p2⟩ := hp a ha
    exact ⟨p, p1, by show (E p a && R.contains p) = true; rw [p2, List.contains_iff_mem.2 (hS p p1).2]; rfl⟩)
  obtain ⟨q, q1, _⟩ := dst_le h2 h3
  have hq := dst_bound2 (R := R) h1 (fun b k h => by
    have h' : (E b k && R.contains b) = true := h
    rw [Bool.and_eq_true] at h'
    exact List.contains_iff_mem.1 h'.2) q1
  obtain ⟨g1, g2, _⟩ := dst_some.1 q1
  obtain ⟨r, r1, r2⟩ := dst_le g1 (wk_mono hE g2)
  exact ⟨i, r, h1, r1, by omega⟩
/-- What a way is. -/
structure WayOf (n : Nat) (E : Nat → Nat → Bool) (j d : Nat) (o : List Nat) : Prop where
  pos : 0 < o.length
  lt : ∀ i, i < o.length → o.getD i default < n
  fst : o.getD 0 default = j
  gt : ∀ i, 0 < i → i < o.length → j < o.getD i default
  dst : ∀ i, i < o.length → dst n E j j (o.getD i default) = some (d - i)
  step : ∀ i, i + 1 < o.length → E (o.getD i default) (o.getD (i + 1) default) = true
theorem getD_app {o : List Nat} {k i : Nat} : (o ++ [k]).getD i default = if i < o.length then o.getD i default else if i = o.length then k else default := by
  rw [List.getD_eq_getElem?_getD, List.getD_eq_getElem?_getD, List.getElem?_append]
  split
  · rfl
  · rename_i h
    split
    · rename_i h2; subst h2; simp
    · rw [List.getElem?_eq_none (by simp; omega)]; rfl
theorem way_inv {j d : Nat} (hd : dst n E j j j = some d) : ∀ (x : Nat) (o : List Nat), o.length + x = d → WayOf n E j d o → WayOf n E j d (pathB n E j x o)
  | 0, o, _, h => h
  | x + 1, o, hx, h => by
    have hp := h.pos
    have hlast := h.dst (o.length - 1) (by omega)
    obtain ⟨k, h1, h2, h3, h4, h5⟩ := go_some (x := x) hd (by omega) (by rw [hlast]; congr 1; omega)
    rw [pathB, h1]
    simp only
    refine way_inv hd x (o ++ [k]) (by simp only [List.length_append, List.length_cons, List.length_nil]; omega) ?_
    have hl : (o ++ [k]).length = o.length + 1 := by simp
    refine ⟨by omega, fun i hi => ?_, ?_, fun i h0 hi => ?_, fun i hi => ?_, fun i hi => ?_⟩
    · rw [getD_app]; split
      · exact h.lt i ‹_›
      · rw [if_pos (by omega)]; exact h2
    · rw [getD_app, if_pos hp]; exact h.fst
    · rw [getD_app]; split
      · exact h.gt i h0 ‹_›
      · rw [if_pos (by omega)]; exact h3
    · rw [getD_app]; split
      · exact h.dst i ‹_›
      · rw [if_pos (by omega), h5]; congr 1; omega
    · rw [getD_app, getD_app, if_pos (by omega)]
      split
      · exact h.step i ‹_›
      · rw [if_pos (by omega)]
        have : i = o.length - 1 := by omega
        rw [this]; exact h4
theorem way_of {j d : Nat} (hj : j < n) (hd : dst n E j j j = some d) : WayOf n E j d (pathB n E j (d - 1) [j]) := by
  have hp := dst_pos hd
  refine way_inv hd (d - 1) [j] (by simp only [List.length_cons, List.length_nil]; omega) ⟨by simp, fun i hi => ?_, rfl, fun i h0 hi => ?_, fun i hi => ?_, fun i hi => ?_⟩
  · simp only [List.length_cons, List.length_nil] at hi
    have : i = 0 := by omega
    subst this; exact hj
  · simp only [List.length_cons, List.length_nil] at hi; omega
  · simp only [List.length_cons, List.length_nil] at hi
    have : i = 0 := by omega
    subst this; exact hd
  · simp only [List.length_cons, List.length_nil] at hi; omega
theorem WayOf.inj {j d : Nat} {o : List Nat} (h : WayOf n E j d o) (hl : o.length = d) {a b : Nat} (ha : a < o.length) (hb : b < o.length) (e : o.getD a default = o.getD b default) : a = b := by
  have h1 := h.dst a ha
  rw [e, h.dst b hb] at h1
  have := Option.some.inj h1
  omega
theorem nodup_getD {o : List Nat} (h : ∀ a b, a < o.length → b < o.length → o.getD a default = o.getD b default → a = b) : o.Nodup := by
  rw [List.Nodup, List.pairwise_iff_getElem]
  intro i k hi hk hlt e
  have := h i k hi hk (by rw [List.getD_eq_getElem?_getD, List.getD_eq_getElem?_getD, List.getElem?_eq_getElem hi, List.getElem?_eq_getElem hk, e])
  omega
theorem WayOf.last {j d : Nat} {o : List Nat} (h : WayOf n E j d o) (hl : o.length = d) (hj : j < n) : E (o.getD (o.length - 1) default) j = true := by
  have hp := h.pos
  refine (dst_one hj (Nat.le_refl _)).1 ?_
  rw [h.dst _ (by omega)]; congr 1; omega
end
end Go.Proofs.Ytofkaccoofafmaa.Wk
