import Derived.Test.YtdchgoaokceomaaGreatDoorCnW
set_option linter.unusedVariables false
set_option linter.unusedSimpArgs false
namespace Go.Cn
open Go
theorem w64 {x : Int} (h1 : -9223372036854775808 ≤ x) (h2 : x < 9223372036854775808) : IntKind.wrap .i64 x = x := by
 have e : IntKind.wrap .i64 x = if 9223372036854775808 ≤ x % 18446744073709551616 then x % 18446744073709551616 - 18446744073709551616 else x % 18446744073709551616 := by
  simp [IntKind.wrap, IntKind.bits, IntKind.signed]
 rw [e]
 split <;> omega
theorem wu64 {x : Int} (h1 : 0 ≤ x) (h2 : x < 18446744073709551616) : IntKind.wrap .u64 x = x := by
 simp only [IntKind.wrap, IntKind.bits, IntKind.signed, Bool.false_and, Bool.false_eq_true, if_false]
 omega
theorem wu32 {x : Int} (h1 : 0 ≤ x) (h2 : x < 4294967296) : IntKind.wrap .u32 x = x := by
 simp only [IntKind.wrap, IntKind.bits, IntKind.signed, Bool.false_and, Bool.false_eq_true, if_false]
 omega
theorem wu8 {x : Int} (h1 : 0 ≤ x) (h2 : x < 256) : IntKind.wrap .u8 x = x := by
 simp only [IntKind.wrap, IntKind.bits, IntKind.signed, Bool.false_and, Bool.false_eq_true, if_false]
 omega
def cmp3 (a b : Int) : Int := if a < b then -1 else if b < a then 1 else 0
def lexI : List Int → List Int → Int
 | a :: l, b :: m => if a < b then -1 else if b < a then 1 else lexI l m
 | _, _ => 0
theorem big_lt {n : Nat} (h : n < 1180591620717411303424) : n < big := by rw [big_eq]; exact h
def wfC : LV → Prop
 | .int k n => (Lit.int k n).wf = true
 | .str l => l.length ≤ maxLen
 | _ => True
def wfL (l : List LV) : Prop := ∀ x ∈ l, wfC x
theorem wf_u8 {n : Int} (h : wfC (.int .u8 n)) : 0 ≤ n ∧ n < 256 := by
 simp [wfC, Lit.wf, IntKind.min, IntKind.max, IntKind.signed, IntKind.bits] at h
 omega
theorem wf_u32 {n : Int} (h : wfC (.int .u32 n)) : 0 ≤ n ∧ n < 4294967296 := by
 simp [wfC, Lit.wf, IntKind.min, IntKind.max, IntKind.signed, IntKind.bits] at h
 omega
section
variable {α S R : Type}
def walkL (f : α → S → (S → Option R) → Option R) (e : S → Option R) : List α → S → Option R
 | [], s => e s
 | a :: l, s => f a s (walkL f e l)
def walkN (f : Nat → S → (S → Option R) → Option R) (e : S → Option R) : Nat → Nat → S → Option R
 | 0, _, s => e s
 | n + 1, i, s => f i s (walkN f e n (i + 1))
end
section
variable {α S R : Type}
end
section
variable {α β : Type} [DecidableEq α]
end
end Go.Cn
