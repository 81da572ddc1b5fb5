import Derived.Test.YtljjdeanilgloaaGreatDoorCnW
set_option linter.unusedVariables false
set_option linter.unusedSimpArgs false
namespace Go.Cn
open Go
theorem w64 {x : Int} (h1 : -9223372036854775808 ≤ x) (h2 : x < 9223372036854775808) : IntKind.wrap .i64 x = x := by
 have e : IntKind.wrap .i64 x = if 9223372036854775808 ≤ x % 18446744073709551616 then x % 18446744073709551616 - 18446744073709551616 else x % 18446744073709551616 := by
  simp [IntKind.wrap, IntKind.bits, IntKind.signed]
 rw [e]
 split <;> omega
def cmp3 (a b : Int) : Int := if a < b then -1 else if b < a then 1 else 0
def lexI : List Int → List Int → Int
 | a :: l, b :: m => if a < b then -1 else if b < a then 1 else lexI l m
 | _, _ => 0
theorem big_lt {n : Nat} (h : n < 1180591620717411303424) : n < big := by rw [big_eq]; exact h
def wfC : LV → Prop
 | .int k n => (Lit.int k n).wf = true
 | .str l => l.length ≤ maxLen
 | _ => True
def wfL (l : List LV) : Prop := ∀ x ∈ l, wfC x
section
variable {α S R : Type}
end
section
variable {α S R : Type}
end
section
variable {α β : Type} [DecidableEq α]
end
end Go.Cn
