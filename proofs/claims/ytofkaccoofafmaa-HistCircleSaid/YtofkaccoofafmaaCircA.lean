/- Walks in a graph, distances, circles (plain). -/
import Derived.Test.YtofkaccoofafmaaHistS
set_option linter.unusedVariables false
set_option linter.unusedSimpArgs false
set_option linter.unusedSectionVars false
namespace Go.Proofs.Ytofkaccoofafmaa.Wk
open Go Go.Cn

section
variable (n : Nat) (E : Nat → Nat → Bool)
/-- A walk of so many steps, by numbers from lo on. -/
def Wk' (lo t : Nat) : Nat → Nat → Prop
  | 0, a => a = t
  | m + 1, a => ∃ k, k < n ∧ lo ≤ k ∧ E a k = true ∧ Wk' lo t m k
theorem least {p : Nat → Prop} (h : ∃ m, p m) : ∃ m, p m ∧ ∀ q, q < m → ¬ p q := by
  obtain ⟨m, hm⟩ := h
  induction m using Nat.strongRecOn with
  | ind m ih =>
    by_cases hx : ∃ q, q < m ∧ p q
    · obtain ⟨q, h1, h2⟩ := hx
      exact ih q h1 h2
    · exact ⟨m, hm, fun q h1 h2 => hx ⟨q, h1, h2⟩⟩
open Classical in
/-- The fewest steps, at least one. -/
noncomputable def dst (lo t a : Nat) : Option Nat := if h : ∃ m, 1 ≤ m ∧ Wk' n E lo t m a then some (Classical.choose (least h)) else none
end
section
variable {n : Nat} {E : Nat → Nat → Bool} {lo t : Nat}
theorem dst_some {a m : Nat} : dst n E lo t a = some m ↔ 1 ≤ m ∧ Wk' n E lo t m a ∧ ∀ q, 1 ≤ q → q < m → ¬ Wk' n E lo t q a := by
  classical
  unfold dst
  constructor
  · intro h
    split at h
    · rename_i hx
      cases h
      obtain ⟨⟨h1, h2⟩, h3⟩ := Classical.choose_spec (least hx)
      exact ⟨h1, h2, fun q hq1 hq2 hw => h3 q hq2 ⟨hq1, hw⟩⟩
    · cases h
  · rintro ⟨h1, h2, h3⟩
    have hx : ∃ m, 1 ≤ m ∧ Wk' n E lo t m a := ⟨m, h1, h2⟩
    rw [dif_pos hx]
    congr 1
    obtain ⟨⟨g1, g2⟩, g3⟩ := Classical.choose_spec (least hx)
    generalize Classical.choose (least hx) = q at g1 g2 g3
    rcases Nat.lt_trichotomy q m with h | h | h
    · exact absurd g2 (h3 _ g1 h)
    · exact h
    · exact absurd ⟨h1, h2⟩ (g3 m h)
theorem dst_none {a : Nat} : dst n E lo t a = none ↔ ∀ m, 1 ≤ m → ¬ Wk' n E lo t m a := by
  classical
  unfold dst
  constructor
  · intro h
    split at h
    · cases h
    · rename_i hx
      exact fun m h1 h2 => hx ⟨m, h1, h2⟩
  · intro h
    rw [dif_neg]
    rintro ⟨m, h1, h2⟩
    exact h m h1 h2
theorem dst_le {a m : Nat} (h1 : 1 ≤ m) (h : Wk' n E lo t m a) : ∃ q, dst n E lo t a = some q ∧ q ≤ m := by
  cases hd : dst n E lo t a with
  | none => exact absurd h (dst_none.1 hd m h1)
  | some q =>
    refine ⟨q, rfl, ?_⟩
    obtain ⟨_, _, h3⟩ := dst_some.1 hd
    rcases Nat.lt_or_ge m q with h4 | h4
    · exact absurd h (h3 m h1 h4)
    · exact h4
theorem dst_one {a : Nat} (ht : t < n) (hlo : lo ≤ t) : dst n E lo t a = some 1 ↔ E a t = true := by
  rw [dst_some]
  constructor
  · rintro ⟨_, ⟨k, _, _, he, hk⟩, _⟩
    have hk' : k = t := hk
    rw [← hk']; exact he
  · intro h
    exact ⟨Nat.le_refl _, ⟨t, ht, hlo, h, rfl⟩, fun q h1 h2 => by omega⟩
theorem dst_succ {a m : Nat} (hm : 1 ≤ m) : dst n E lo t a = some (m + 1) ↔ (∀ q, 1 ≤ q → q ≤ m → ¬ Wk' n E lo t q a) ∧ ∃ k, k < n ∧ lo ≤ k ∧ E a k = true ∧ dst n E lo t k = some m := by
  rw [dst_some]
  constructor
  · rintro ⟨_, ⟨k, h1, h2, h3, h4⟩, h5⟩
    refine ⟨fun q q1 q2 => h5 q q1 (by omega), k, h1, h2, h3, dst_some.2 ⟨hm, h4, fun q q1 q2 hw => h5 (q + 1) (by omega) (by omega) ⟨k, h1, h2, h3, hw⟩⟩⟩
  · rintro ⟨h1, k, h2, h3, h4, h5⟩
    exact ⟨by omega, ⟨k, h2, h3, h4, (dst_some.1 h5).2.1⟩, fun q q1 q2 => h1 q q1 (by omega)⟩
/-- Every distance below is somewhere. -/
theorem dst_chain : ∀ (d m a : Nat), a < n → dst n E lo t a = some (m + d) → 1 ≤ m → ∃ b, b < n ∧ (d = 0 ∨ lo ≤ b) ∧ dst n E lo t b = some m
  | 0, m, a, ha, h, _ => ⟨a, ha, .inl rfl, h⟩
  | d + 1, m, a, ha, h, hm => by
    have h' : dst n E lo t a = some (m + d + 1) := h
    obtain ⟨_, k, h2, h3, _, h5⟩ := (dst_succ (by omega)).1 h'
    obtain ⟨b, hb, _, hb2⟩ := dst_chain d m k h2 h5 hm
    by_cases hd : d = 0
    · subst hd
      exact ⟨k, h2, .inr h3, h5⟩
    · obtain ⟨b, hb, hl, hb2⟩ := dst_chain d m k h2 h5 hm
      exact ⟨b, hb, .inr (hl.resolve_left hd), hb2⟩
theorem dst_bound {a m : Nat} (ha : a < n) (h : dst n E lo t a = some m) : m ≤ n := by
  have key : ∀ q, q ≤ m → ∃ l : List Nat, l.length = q ∧ l.Nodup ∧ ∀ b ∈ l, b < n ∧ ∃ r, 1 ≤ r ∧ r ≤ q ∧ dst n E lo t b = some r := by
    intro q
    induction q with
    | zero => intro _; exact ⟨[], rfl, List.nodup_nil, fun _ h => by cases h⟩
    | succ q ih =>
      intro hq
      obtain ⟨l, h1, h2, h3⟩ := ih (by omega)
      obtain ⟨b, hb, _, hb2⟩ := dst_chain (m - (q + 1)) (q + 1) a ha (by rw [show q + 1 + (m - (q + 1)) = m by omega]; exact h) (by omega)
      refine ⟨b :: l, by simp [h1], List.nodup_cons.2 ⟨fun hbl => ?_, h2⟩, fun c hc => ?_⟩
      · obtain ⟨_, r, _, r2, r3⟩ := h3 b hbl
        rw [hb2] at r3
        have := Option.some.inj r3
        omega
      · rcases List.mem_cons.1 hc with rfl | hc
        · exact ⟨hb, q + 1, by omega, Nat.le_refl _, hb2⟩
        · obtain ⟨g1, r, g2, g3, g4⟩ := h3 c hc
          exact ⟨g1, r, g2, by omega, g4⟩
  obtain ⟨l, h1, h2, h3⟩ := key m (Nat.le_refl _)
  have := h2.length_le_of_subset (l₂ := List.range n) (fun b hb => List.mem_range.2 (h3 b hb).1)
  rw [h1, List.length_range] at this
  exact this
/-- The last step of a walk. -/
theorem wk_snoc {b m : Nat} (hb : b < n) (hlo : lo ≤ b) : ∀ {a}, Wk' n E lo t m a → E t b = true → Wk' n E lo b (m + 1) a := by
  induction m with
  | zero => intro a h he; have h' : a = t := h; subst h'; exact ⟨b, hb, hlo, he, rfl⟩
  | succ m ih =>
    intro a h he
    obtain ⟨k, h1, h2, h3, h4⟩ := h
    exact ⟨k, h1, h2, h3, ih h4 he⟩
theorem wk_last {b m : Nat} : ∀ {a}, Wk' n E lo b (m + 1) a → ∃ k, Wk' n E lo k m a ∧ E k b = true ∧ (m = 0 ∨ (k < n ∧ lo ≤ k)) ∧ b < n ∧ lo ≤ b := by
  induction m with
  | zero =>
    intro a h
    obtain ⟨k, h1, h2, h3, h4⟩ := h
    have h4' : k = b := h4
    subst h4'
    exact ⟨a, rfl, h3, .inl rfl, h1, h2⟩
  | succ m ih =>
    intro a h
    obtain ⟨k, h1, h2, h3, h4⟩ := h
    obtain ⟨c, g1, g2, g3, g4⟩ := ih h4
    refine ⟨c, ⟨k, h1, h2, h3, g1⟩, g2, .inr ?_, g4⟩
    rcases g3 with rfl | g3
    · have : k = c := g1
      subst this; exact ⟨h1, h2⟩
    · exact g3
/-- Where every one of some has one of them ahead of it, there is a circle. -/
theorem circle_of : ∀ (d lo : Nat) (S : Nat → Prop), lo + d = n → (∀ a, S a → a < n ∧ lo ≤ a) → (∃ a, S a) → (∀ a, S a → ∃ p, S p ∧ E p a = true) → ∃ i m, i < n ∧ 1 ≤ m ∧ Wk' n E i i m i
  | 0, lo, S, hd, hS, ⟨a, ha⟩, _ => by have := hS a ha; omega
  | d + 1, lo, S, hd, hS, hne, hp => by
    by_cases hlo : S lo
    · by_cases hc : ∃ m, 1 ≤ m ∧ Wk' n E lo lo m lo
      · obtain ⟨m, h1, h2⟩ := hc
        exact ⟨lo, m, by omega, h1, h2⟩
      · have hA := circle_of d (lo + 1) (fun a => S a ∧ ∃ m, 1 ≤ m ∧ Wk' n E lo lo m a) (by omega)
          (fun a ha => by
            obtain ⟨h1, h2⟩ := ha
            have h3 := hS a h1
            by_cases e : a = lo
            · subst e; exact absurd h2 hc
            · exact ⟨h3.1, by omega⟩)
          (by
            obtain ⟨p, hp1, hp2⟩ := hp lo hlo
            exact ⟨p, hp1, 1, Nat.le_refl _, lo, by omega, Nat.le_refl _, hp2, rfl⟩)
          (fun a ha => by
            obtain ⟨h1, m, h2, h3⟩ := ha
            obtain ⟨p, hp1, hp2⟩ := hp a h1
            have h4 := hS a h1
            exact ⟨p, ⟨hp1, m + 1, by omega, a, h4.1, h4.2, hp2, h3⟩, hp2⟩)
        exact hA
    · exact circle_of d (lo + 1) S (by omega) (fun a ha => by
        have h3 := hS a ha
        by_cases e : a = lo
        · subst e; exact absurd ha hlo
        · exact ⟨h3.1, by omega⟩) hne hp
theorem kahn_stuck : ∀ (f : Nat) (out : List Nat), Inv n E out → n < f + out.length → (kahn n E f out).length < n → nextB n E (kahn n E f out) = none
  | 0, out, hI, hf, hl => by have := hI.len; omega
  | f + 1, out, hI, hf, hl => by
    rw [kahn] at hl ⊢
    cases hn : nextB n E out with
    | none => exact hn
    | some i =>
      rw [hn] at hl
      exact kahn_stuck f (out ++ [i]) (hI.step hn) (by rw [List.length_append, List.length_singleton]; omega) hl
/-- An order that stops early leaves a circle. -/
theorem stuck_circle (h : (kahn n E (n + 1) []).length < n) : ∃ i m, i < n ∧ 1 ≤ m ∧ Wk' n E i i m i := by
  have hI := kahn_inv (n := n) (E := E) (n + 1) [] (Inv.nil _ _)
  have hs := kahn_stuck (n := n) (E := E) (n + 1) [] (Inv.nil _ _) (by simp) h
  generalize kahn n E (n + 1) [] = out at h hI hs
  refine circle_of n 0 (fun a => a < n ∧ a ∉ out) (by omega) (fun a ha => ⟨ha.1, Nat.zero_le _⟩) ?_ (fun a ha => ?_)
  · by_cases hx : ∃ a, a < n ∧ a ∉ out
    · exact hx
    · exfalso
      have : (List.range n).length ≤ out.length := List.nodup_range.length_le_of_subset fun p hp => by
        by_cases hpo : p ∈ out
        · exact hpo
        · exact absurd ⟨p, List.mem_range.1 hp, hpo⟩ hx
      rw [List.length_range] at this
      omega
  · by_cases hx : ∃ p, (p < n ∧ p ∉ out) ∧ E p a = true
    · exact hx
    · exfalso
      have hfree : freeB n E out a = true := freeB_iff.2 ⟨ha.2, fun k hk he => by
        by_cases hko : k ∈ out
        · exact hko
        · exact absurd ⟨k, ⟨hk, hko⟩, he⟩ hx⟩
      unfold nextB at hs
      rw [List.find?_eq_none] at hs
      exact hs a (List.mem_range.2 ha.1) hfree
end
end Go.Proofs.Ytofkaccoofafmaa.Wk
