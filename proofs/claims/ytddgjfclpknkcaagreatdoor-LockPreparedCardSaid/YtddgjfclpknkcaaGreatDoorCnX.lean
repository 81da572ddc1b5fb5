import Derived.Test.YtddgjfclpknkcaaGreatDoorCnW
namespace Go.Cn
open Go
theorem w64 {x : Int} (h1 : -9223372036854775808 ≤ x) (h2 : x < 9223372036854775808) : IntKind.wrap .i64 x = x := by
 have e : IntKind.wrap .i64 x = if 9223372036854775808 ≤ x % 18446744073709551616 then x % 18446744073709551616 - 18446744073709551616 else x % 18446744073709551616 := by
  simp [IntKind.wrap, IntKind.bits, IntKind.signed]
 rw [e]
 split <;> omega
theorem wu64 {x : Int} (h1 : 0 ≤ x) (h2 : x < 18446744073709551616) : IntKind.wrap .u64 x = x := by
 simp only [IntKind.wrap, IntKind.bits, IntKind.signed, Bool.false_and, Bool.false_eq_true, if_false]
 omega
def cmp3 (a b : Int) : Int := if a < b then -1 else if b < a then 1 else 0
def lexI : List Int → List Int → Int
 | a :: l, b :: m => if a < b then -1 else if b < a then 1 else lexI l m
 | _, _ => 0
theorem big_lt {n : Nat} (h : n < 1180591620717411303424) : n < big := by rw [big_eq]; exact h
def wfC : LV → Prop
 | .int k n => (Lit.int k n).wf = true
 | .str l => l.length ≤ maxLen
 | _ => True
def wfL (l : List LV) : Prop := ∀ x ∈ l, wfC x
section
variable {α S R : Type}
end
section
variable {α S R : Type}
end
section
variable {α β : Type} [DecidableEq α]
theorem mset_len (m : List (α × β)) (k : α) (v : β) : (mset m k v).length = if (mget m k).isSome then m.length else m.length + 1 := by
 induction m with
 | nil => rfl
 | cons e m ih =>
  obtain ⟨a, b⟩ := e
  simp only [mset, mget]
  by_cases h : k = a
  ·simp [h]
  ·simp only [if_neg h, List.length_cons, ih]; split <;> rfl
end
end Go.Cn
