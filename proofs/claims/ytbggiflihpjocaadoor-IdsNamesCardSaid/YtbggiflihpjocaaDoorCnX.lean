/- Canon, part X: plain facts for the functions that are printed: numbers that are in bounds, rounds that are enough. -/
import Derived.Test.YtbggiflihpjocaaDoorCnW
set_option linter.unusedVariables false
set_option linter.unusedSimpArgs false
namespace Go.Cn
open Go

theorem w64 {x : Int} (h1 : -9223372036854775808 ≤ x) (h2 : x < 9223372036854775808) : IntKind.wrap .i64 x = x := by
  have e : IntKind.wrap .i64 x = if 9223372036854775808 ≤ x % 18446744073709551616 then x % 18446744073709551616 - 18446744073709551616 else x % 18446744073709551616 := by
    simp [IntKind.wrap, IntKind.bits, IntKind.signed]
  rw [e]
  split <;> omega
theorem wu64 {x : Int} (h1 : 0 ≤ x) (h2 : x < 18446744073709551616) : IntKind.wrap .u64 x = x := by
  simp only [IntKind.wrap, IntKind.bits, IntKind.signed, Bool.false_and, Bool.false_eq_true, if_false]
  omega
theorem wu32 {x : Int} (h1 : 0 ≤ x) (h2 : x < 4294967296) : IntKind.wrap .u32 x = x := by
  simp only [IntKind.wrap, IntKind.bits, IntKind.signed, Bool.false_and, Bool.false_eq_true, if_false]
  omega
theorem wu8 {x : Int} (h1 : 0 ≤ x) (h2 : x < 256) : IntKind.wrap .u8 x = x := by
  simp only [IntKind.wrap, IntKind.bits, IntKind.signed, Bool.false_and, Bool.false_eq_true, if_false]
  omega

/-- Less, alike, more. -/
def cmp3 (a b : Int) : Int := if a < b then -1 else if b < a then 1 else 0
/-- The first unlike ones count. -/
def lexI : List Int → List Int → Int
  | a :: l, b :: m => if a < b then -1 else if b < a then 1 else lexI l m
  | _, _ => 0

theorem big_lt {n : Nat} (h : n < 1180591620717411303424) : n < big := by rw [big_eq]; exact h
/-- A cell in bounds. -/
def wfC : LV → Prop
  | .int k n => (Lit.int k n).wf = true
  | .str l => l.length ≤ maxLen
  | _ => True
def wfL (l : List LV) : Prop := ∀ x ∈ l, wfC x

theorem wf_u8 {n : Int} (h : wfC (.int .u8 n)) : 0 ≤ n ∧ n < 256 := by
  simp [wfC, Lit.wf, IntKind.min, IntKind.max, IntKind.signed, IntKind.bits] at h
  omega
theorem wf_u32 {n : Int} (h : wfC (.int .u32 n)) : 0 ≤ n ∧ n < 4294967296 := by
  simp [wfC, Lit.wf, IntKind.min, IntKind.max, IntKind.signed, IntKind.bits] at h
  omega
theorem wf_u64 {n : Int} (h : wfC (.int .u64 n)) : 0 ≤ n ∧ n < 18446744073709551616 := by
  simp [wfC, Lit.wf, IntKind.min, IntKind.max, IntKind.signed, IntKind.bits] at h
  omega
theorem wf_i64 {n : Int} (h : wfC (.int .i64 n)) : -9223372036854775808 ≤ n ∧ n < 9223372036854775808 := by
  simp [wfC, Lit.wf, IntKind.min, IntKind.max, IntKind.signed, IntKind.bits] at h
  omega
end Go.Cn
