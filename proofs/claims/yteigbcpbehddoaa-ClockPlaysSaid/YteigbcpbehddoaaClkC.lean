/- Plain facts of the clock: what holds of it; New, Until, Stop, Set. -/
import Derived.Test.YteigbcpbehddoaaClkK
set_option linter.unusedVariables false
set_option linter.unusedSimpArgs false
set_option linter.unusedSectionVars false
namespace Go.Proofs.Yteigbcpbehddoaa.Wk
open Go Go.Cn

abbrev Wh := Nat → Option (List (Nm × Int))
abbrev Mp := List (Nm × Int)
/-- The wheel has, in the slot of its time, just what the clock has. -/
structure Cor (at_ : Mp) (wheel : Wh) : Prop where
  uk : Uk at_
  nn : ∀ n v, mget at_ n = some v → 0 ≤ v
  wh : ∀ q, q < 64 → ∃ es, wheel q = some es ∧ Uk es ∧ ∀ n v, mget es n = some v ↔ (mget at_ n = some v ∧ (Int.tmod v 64).toNat = q)

theorem tm64 {v : Int} (h : 0 ≤ v) : 0 ≤ Int.tmod v 64 ∧ Int.tmod v 64 < 64 := ⟨Int.tmod_nonneg _ h, Int.tmod_lt_of_pos _ (by decide)⟩

theorem new_loop : ∀ (fuel k : Nat) (wheel : Wh), 64 - k < fuel → k ≤ 64 → (∀ q, q < k → wheel q = some []) → ∃ w', clock_New_l0 fuel (k : Int) wheel = some (w', []) ∧ ∀ q, q < 64 → w' q = some []
  | 0, k, wheel, h, _, _ => by omega
  | fuel + 1, k, wheel, h, hk, hw => by
    rw [clock_New_l0]
    by_cases hlt : k < 64
    · rw [if_pos (by simp only [decide_eq_true_eq]; omega), if_pos (by omega), w64 (by omega) (by omega)]
      exact new_loop fuel (k + 1) _ (by omega) (by omega) (fun q hq => by
        show (if q = (k : Int).toNat then _ else _) = _
        split
        · rfl
        · exact hw q (by omega))
    · rw [if_neg (by simp only [decide_eq_true_eq]; omega)]
      exact ⟨wheel, rfl, fun q hq => hw q (by omega)⟩
theorem new_eq : ∃ w', clock_New = some (w', []) ∧ Cor [] w' := by
  obtain ⟨w', h1, h2⟩ := new_loop big 0 (fun _ => none) (big_lt (by omega)) (by omega) (fun q hq => by omega)
  refine ⟨w', h1, by simp [Uk], fun n v h => by simp [mget] at h, fun q hq => ⟨[], h2 q hq, by simp [Uk], fun n v => by simp [mget]⟩⟩

theorem until_eq (now : Int) (at_ : Mp) (wheel : Wh) (n : Nm) : clock_Clock_Until now at_ wheel n = some ((mget at_ n).getD default, (mget at_ n).isSome) := by
  simp [clock_Clock_Until, clock_Clock_ok]
theorem slot_eq (es : Mp) {v : Int} (h : 0 ≤ v) : clock_Clock_slot (Int.tmod v 64) es v = some () := by
  unfold clock_Clock_slot
  rw [if_pos (tm64 h), if_pos rfl]

theorem stop_eq {now : Int} {at_ : Mp} {wheel : Wh} (hc : Cor at_ wheel) (n : Nm) : ∃ w', clock_Clock_Stop now at_ wheel n = some ((mget at_ n).isSome, now, w', mdel at_ n) ∧ Cor (mdel at_ n) w' := by
  unfold clock_Clock_Stop
  rw [until_eq]
  simp only [Option.bind_some]
  cases hg : mget at_ n with
  | none => exact ⟨wheel, by simp [mdel_none hg], by rw [mdel_none hg]; exact hc⟩
  | some v =>
    have hv := hc.nn n v hg
    obtain ⟨es, h1, h2, h3⟩ := hc.wh (Int.tmod v 64).toNat (by have := tm64 hv; omega)
    simp only [Option.isSome_some, if_true, Option.getD_some]
    rw [if_pos (tm64 hv), h1]
    simp only [Option.bind_some, slot_eq es hv]
    refine ⟨_, rfl, mdel_uk hc.uk n, fun j x h => ?_, fun q hq => ?_⟩
    · rw [mdel_get hc.uk] at h
      split at h
      · cases h
      · exact hc.nn j x h
    · by_cases hqv : q = (Int.tmod v 64).toNat
      · refine ⟨mdel es n, by simp [hqv], mdel_uk h2 n, fun j x => ?_⟩
        rw [mdel_get h2, mdel_get hc.uk]
        by_cases hj : j = n
        · simp [hj]
        · simp only [if_neg hj]; rw [h3]; rw [hqv]
      · obtain ⟨fs, g1, g2, g3⟩ := hc.wh q hq
        refine ⟨fs, by simp [hqv, g1], g2, fun j x => ?_⟩
        rw [g3, mdel_get hc.uk]
        by_cases hj : j = n
        · subst hj
          simp only [if_true, reduceCtorEq, false_and, iff_false]
          rintro ⟨k1, k2⟩
          rw [hg] at k1; cases k1
          exact hqv k2.symm
        · simp [hj]

/-- What a set does to a wheel that stands. -/
theorem cor_set {at_ : Mp} {wheel : Wh} (hc : Cor at_ wheel) {n : Nm} (hn : mget at_ n = none) {t : Int} (ht : 0 ≤ t) : ∃ es, wheel (Int.tmod t 64).toNat = some es ∧ Cor (mset at_ n t) (fun q => if q = (Int.tmod t 64).toNat then some (mset es n t) else wheel q) := by
  obtain ⟨es, h1, h2, h3⟩ := hc.wh (Int.tmod t 64).toNat (by have := tm64 ht; omega)
  refine ⟨es, h1, mset_uk hc.uk n t, fun j x h => ?_, fun q hq => ?_⟩
  · rw [mset_get] at h
    split at h
    · cases h; exact ht
    · exact hc.nn j x h
  · by_cases hqv : q = (Int.tmod t 64).toNat
    · refine ⟨mset es n t, by simp [hqv], mset_uk h2 n t, fun j x => ?_⟩
      rw [mset_get, mset_get]
      by_cases hj : j = n
      · subst hj
        simp only [if_true, Option.some.injEq]
        constructor
        · rintro rfl; exact ⟨rfl, hqv.symm⟩
        · rintro ⟨h, _⟩; exact h
      · simp only [if_neg hj]; rw [h3, hqv]
    · obtain ⟨fs, g1, g2, g3⟩ := hc.wh q hq
      refine ⟨fs, by simp [hqv, g1], g2, fun j x => ?_⟩
      rw [g3, mset_get]
      by_cases hj : j = n
      · subst hj
        simp only [if_true, Option.some.injEq, hn, reduceCtorEq, false_and, false_iff]
        rintro ⟨rfl, k2⟩
        exact hqv k2.symm
      · simp [hj]

theorem wu32' {x : Int} (h1 : 0 ≤ x) (h2 : x < 4294967296) : IntKind.wrap .u32 x = x := by
  simp [IntKind.wrap, IntKind.bits, IntKind.signed]; omega
/-- A set that is done. -/
theorem set_ok {now : Int} {at_ : Mp} {wheel : Wh} (hc : Cor at_ wheel) {n : Nm} {after : Int} (h0 : 0 ≤ now ∧ now ≤ 2147483647) (ha : 0 < after) (hb : after ≤ 2147483647 - now) (hm : (mget at_ n).isSome = true ∨ at_.length ≠ 1024) :
    ∃ w', clock_Clock_Set now at_ wheel n after = some (0, now, w', mset (mdel at_ n) n (now + after)) ∧ Cor (mset (mdel at_ n) n (now + after)) w' := by
  obtain ⟨w1, g1, g2⟩ := stop_eq (now := now) hc n
  have hn : mget (mdel at_ n) n = none := by rw [mdel_get hc.uk]; simp
  have ht : 0 ≤ now + after := by omega
  obtain ⟨es, k1, k2⟩ := cor_set g2 hn ht
  have e1 : IntKind.wrap .u32 (2147483647 - now) = 2147483647 - now := wu32' (by omega) (by omega)
  have e2 : IntKind.wrap .u32 (now + after) = now + after := wu32' (by omega) (by omega)
  refine ⟨_, ?_, k2⟩
  unfold clock_Clock_Set
  rw [until_eq]
  simp only [Option.bind_some, clock_Clock_ok, e1]
  rw [if_neg (by simp; omega), if_neg (by simp; omega)]
  cases hs : (mget at_ n).isSome with
  | true =>
    simp only [Bool.not_true, Bool.false_eq_true, if_false]
    rw [g1]
    simp only [Option.bind_some, e2]
    rw [if_pos (tm64 ht), k1]
    simp only [Option.bind_some, slot_eq es ht]
  | false =>
    have hl : at_.length ≠ 1024 := hm.resolve_left (by rw [hs]; decide)
    simp only [Bool.not_false, if_true]
    rw [if_neg (by simp; omega), g1]
    simp only [Option.bind_some, e2]
    rw [if_pos (tm64 ht), k1]
    simp only [Option.bind_some, slot_eq es ht]
/-- A set that is refused. -/
theorem set_no {now : Int} {at_ : Mp} {wheel : Wh} {n : Nm} {after : Int} (h0 : 0 ≤ now ∧ now ≤ 2147483647) (ha : 0 ≤ after) (h : after = 0 ∨ 2147483647 - now < after ∨ ((mget at_ n) = none ∧ at_.length = 1024)) :
    ∃ e, e ≠ 0 ∧ clock_Clock_Set now at_ wheel n after = some (e, now, wheel, at_) := by
  have e1 : IntKind.wrap .u32 (2147483647 - now) = 2147483647 - now := wu32' (by omega) (by omega)
  unfold clock_Clock_Set
  rw [until_eq]
  simp only [Option.bind_some, clock_Clock_ok, e1]
  by_cases h1 : after = 0
  · exact ⟨1, by decide, by rw [if_pos (by simp [h1])]⟩
  rw [if_neg (by simpa using h1)]
  by_cases h2 : 2147483647 - now < after
  · exact ⟨17, by decide, by rw [if_pos (by simpa using h2)]⟩
  rw [if_neg (by simpa using h2)]
  obtain ⟨h3, h4⟩ := (h.resolve_left h1).resolve_left h2
  exact ⟨5, by decide, by rw [h3]; simp [h4]⟩
end Go.Proofs.Yteigbcpbehddoaa.Wk
