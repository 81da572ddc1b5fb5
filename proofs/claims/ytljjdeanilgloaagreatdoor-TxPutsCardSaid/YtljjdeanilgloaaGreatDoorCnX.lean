import Derived.Test.YtljjdeanilgloaaGreatDoorCnW
set_option linter.unusedVariables false
set_option linter.unusedSimpArgs false
namespace Go.Cn
open Go
theorem w64 {x : Int} (h1 : -9223372036854775808 ≤ x) (h2 : x < 9223372036854775808) : IntKind.wrap .i64 x = x := by
 have e : IntKind.wrap .i64 x = if 9223372036854775808 ≤ x % 18446744073709551616 then x % 18446744073709551616 - 18446744073709551616 else x % 18446744073709551616 := by
  simp [IntKind.wrap, IntKind.bits, IntKind.signed]
 rw [e]
 split <;> omega
theorem wu64 {x : Int} (h1 : 0 ≤ x) (h2 : x < 18446744073709551616) : IntKind.wrap .u64 x = x := by
 simp only [IntKind.wrap, IntKind.bits, IntKind.signed, Bool.false_and, Bool.false_eq_true, if_false]
 omega
def cmp3 (a b : Int) : Int := if a < b then -1 else if b < a then 1 else 0
def lexI : List Int → List Int → Int
 | a :: l, b :: m => if a < b then -1 else if b < a then 1 else lexI l m
 | _, _ => 0
theorem big_lt {n : Nat} (h : n < 1180591620717411303424) : n < big := by rw [big_eq]; exact h
def wfC : LV → Prop
 | .int k n => (Lit.int k n).wf = true
 | .str l => l.length ≤ maxLen
 | _ => True
def wfL (l : List LV) : Prop := ∀ x ∈ l, wfC x
theorem wf_u8 {n : Int} (h : wfC (.int .u8 n)) : 0 ≤ n ∧ n < 256 := by
 simp [wfC, Lit.wf, IntKind.min, IntKind.max, IntKind.signed, IntKind.bits] at h
 omega
section
variable {α S R : Type}
end
section
variable {α S R : Type}
end
section
variable {α β : Type} [DecidableEq α]
theorem mget_mset (m : List (α × β)) (k j : α) (v : β) : mget (mset m k v) j = if j = k then some v else mget m j := by
 induction m with
 | nil => simp only [mset, mget]
 | cons e m ih =>
  obtain ⟨a, b⟩ := e
  simp only [mset]
  by_cases h : k = a
  ·rw [if_pos h]; subst h; simp only [mget]; split <;> rfl
  ·rw [if_neg h]; simp only [mget, ih]
   by_cases h2 : j = a
   ·rw [if_pos h2, if_neg (fun e => h (by rw [← e, h2])), if_pos h2]
   ·rw [if_neg h2]; simp only [if_neg h2]
theorem mset_len (m : List (α × β)) (k : α) (v : β) : (mset m k v).length = if (mget m k).isSome then m.length else m.length + 1 := by
 induction m with
 | nil => rfl
 | cons e m ih =>
  obtain ⟨a, b⟩ := e
  simp only [mset, mget]
  by_cases h : k = a
  ·simp [h]
  ·simp only [if_neg h, List.length_cons, ih]; split <;> rfl
end
end Go.Cn
