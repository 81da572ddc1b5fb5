/- Canon, part X: plain facts for the functions that are printed: numbers that are in bounds, rounds that are enough. -/
import Derived.Test.YteigbcpbehddoaaCnW
set_option linter.unusedVariables false
set_option linter.unusedSimpArgs false
namespace Go.Cn
open Go

theorem w64 {x : Int} (h1 : -9223372036854775808 ≤ x) (h2 : x < 9223372036854775808) : IntKind.wrap .i64 x = x := by
  have e : IntKind.wrap .i64 x = if 9223372036854775808 ≤ x % 18446744073709551616 then x % 18446744073709551616 - 18446744073709551616 else x % 18446744073709551616 := by
    simp [IntKind.wrap, IntKind.bits, IntKind.signed]
  rw [e]
  split <;> omega
theorem wu64 {x : Int} (h1 : 0 ≤ x) (h2 : x < 18446744073709551616) : IntKind.wrap .u64 x = x := by
  simp only [IntKind.wrap, IntKind.bits, IntKind.signed, Bool.false_and, Bool.false_eq_true, if_false]
  omega
theorem wu32 {x : Int} (h1 : 0 ≤ x) (h2 : x < 4294967296) : IntKind.wrap .u32 x = x := by
  simp only [IntKind.wrap, IntKind.bits, IntKind.signed, Bool.false_and, Bool.false_eq_true, if_false]
  omega
theorem wu8 {x : Int} (h1 : 0 ≤ x) (h2 : x < 256) : IntKind.wrap .u8 x = x := by
  simp only [IntKind.wrap, IntKind.bits, IntKind.signed, Bool.false_and, Bool.false_eq_true, if_false]
  omega

/-- Less, alike, more. -/
def cmp3 (a b : Int) : Int := if a < b then -1 else if b < a then 1 else 0
/-- The first unlike ones count. -/
def lexI : List Int → List Int → Int
  | a :: l, b :: m => if a < b then -1 else if b < a then 1 else lexI l m
  | _, _ => 0

theorem big_lt {n : Nat} (h : n < 1180591620717411303424) : n < big := by rw [big_eq]; exact h
/-- A cell in bounds. -/
def wfC : LV → Prop
  | .int k n => (Lit.int k n).wf = true
  | .str l => l.length ≤ maxLen
  | _ => True
def wfL (l : List LV) : Prop := ∀ x ∈ l, wfC x

theorem wf_u8 {n : Int} (h : wfC (.int .u8 n)) : 0 ≤ n ∧ n < 256 := by
  simp [wfC, Lit.wf, IntKind.min, IntKind.max, IntKind.signed, IntKind.bits] at h
  omega
theorem wf_u32 {n : Int} (h : wfC (.int .u32 n)) : 0 ≤ n ∧ n < 4294967296 := by
  simp [wfC, Lit.wf, IntKind.min, IntKind.max, IntKind.signed, IntKind.bits] at h
  omega
theorem wf_u64 {n : Int} (h : wfC (.int .u64 n)) : 0 ≤ n ∧ n < 18446744073709551616 := by
  simp [wfC, Lit.wf, IntKind.min, IntKind.max, IntKind.signed, IntKind.bits] at h
  omega
theorem wf_i64 {n : Int} (h : wfC (.int .i64 n)) : -9223372036854775808 ≤ n ∧ n < 9223372036854775808 := by
  simp [wfC, Lit.wf, IntKind.min, IntKind.max, IntKind.signed, IntKind.bits] at h
  omega

/-! Counting loops as walks over a list, and over numbers -/
section
variable {α S R : Type}
/-- A walk over a list: at each element, `f` goes on, or ends. -/
def walkL (f : α → S → (S → Option R) → Option R) (e : S → Option R) : List α → S → Option R
  | [], s => e s
  | a :: l, s => f a s (walkL f e l)
/-- A walk over numbers: so many rounds, from that number on. -/
def walkN (f : Nat → S → (S → Option R) → Option R) (e : S → Option R) : Nat → Nat → S → Option R
  | 0, _, s => e s
  | n + 1, i, s => f i s (walkN f e n (i + 1))

theorem loopN (N : Nat) (F : Nat → Int → S → Option R) (f : Nat → S → (S → Option R) → Option R) (e : S → Option R) (hN : N < 9223372036854775807)
    (h1 : ∀ fuel (i : Nat) s, i < N → F (fuel + 1) (i : Int) s = f i s (F fuel ((i + 1 : Nat) : Int))) (h2 : ∀ fuel s, F (fuel + 1) ((N : Nat) : Int) s = e s) (s : S) : F big 0 s = walkN f e N 0 s := by
  have key : ∀ (n i fuel : Nat), n + i = N → n < fuel → F fuel (i : Int) = walkN f e n i := by
    intro n
    induction n with
    | zero =>
      intro i fuel h hf
      obtain ⟨g, rfl⟩ : ∃ g, fuel = g + 1 := ⟨fuel - 1, by omega⟩
      funext s
      rw [show i = N by omega, h2]; rfl
    | succ n ih =>
      intro i fuel h hf
      obtain ⟨g, rfl⟩ : ∃ g, fuel = g + 1 := ⟨fuel - 1, by omega⟩
      funext s
      rw [h1 g i s (by omega), ih (i + 1) g (by omega) (by omega)]; rfl
  have := congrFun (key N 0 big (by omega) (big_lt (by omega))) s
  exact this

theorem loopNs (N st : Nat) (hst : st ≤ N) (F : Nat → Int → S → Option R) (f : Nat → S → (S → Option R) → Option R) (e : S → Option R) (hN : N < 9223372036854775807)
    (h1 : ∀ fuel (i : Nat) s, i < N → F (fuel + 1) (i : Int) s = f i s (F fuel ((i + 1 : Nat) : Int))) (h2 : ∀ fuel s, F (fuel + 1) ((N : Nat) : Int) s = e s) (s : S) : F big (st : Int) s = walkN f e (N - st) st s := by
  have key : ∀ (n i fuel : Nat), n + i = N → n < fuel → F fuel (i : Int) = walkN f e n i := by
    intro n
    induction n with
    | zero =>
      intro i fuel h hf
      obtain ⟨g, rfl⟩ : ∃ g, fuel = g + 1 := ⟨fuel - 1, by omega⟩
      funext s
      rw [show i = N by omega, h2]; rfl
    | succ n ih =>
      intro i fuel h hf
      obtain ⟨g, rfl⟩ : ∃ g, fuel = g + 1 := ⟨fuel - 1, by omega⟩
      funext s
      rw [h1 g i s (by omega), ih (i + 1) g (by omega) (by omega)]; rfl
  exact congrFun (key (N - st) st big (by omega) (big_lt (by omega))) s

theorem walkN_L [Inhabited α] (l : List α) (f : Nat → S → (S → Option R) → Option R) (g : α → S → (S → Option R) → Option R) (e : S → Option R) (h : ∀ (i : Nat) s k, i < l.length → f i s k = g (l.getD i default) s k) (s : S) :
    walkN f e l.length 0 s = walkL g e l s := by
  have key : ∀ (m : List α) (i : Nat), l.drop i = m → walkN f e m.length i = walkL g e m := by
    intro m
    induction m with
    | nil => intros; rfl
    | cons a m ih =>
      intro i hi
      funext s
      have hlt : i < l.length := by
        rcases Nat.lt_or_ge i l.length with h | h
        · exact h
        · rw [List.drop_eq_nil_of_le h] at hi; cases hi
      have h1 : l.drop (i + 1) = m := by rw [← List.tail_drop, hi]; rfl
      have h2 : l.getD i default = a := by
        rw [List.drop_eq_getElem_cons hlt] at hi
        rw [List.getD_eq_getElem?_getD, List.getElem?_eq_getElem hlt]
        exact (List.cons.inj hi).1
      show f i s (walkN f e m.length (i + 1)) = g a s (walkL g e m)
      rw [ih (i + 1) h1, h i s _ hlt, h2]
  exact congrFun (key l 0 (by simp)) s

theorem loopL [Inhabited α] (l : List α) (F : Nat → Int → S → Option R) (f : α → S → (S → Option R) → Option R) (e : S → Option R) (hN : l.length < 9223372036854775807)
    (h1 : ∀ fuel (i : Nat) s, i < l.length → F (fuel + 1) (i : Int) s = f (l.getD i default) s (F fuel ((i + 1 : Nat) : Int))) (h2 : ∀ fuel s, F (fuel + 1) ((l.length : Nat) : Int) s = e s) (s : S) : F big 0 s = walkL f e l s := by
  rw [loopN l.length F (fun i s k => f (l.getD i default) s k) e hN h1 h2 s]
  exact walkN_L l _ f e (fun i s k hi => rfl) s

theorem walkL_congr {f g : α → S → (S → Option R) → Option R} {e e' : S → Option R} {l : List α} (h : ∀ a ∈ l, ∀ s k, f a s k = g a s k) (he : ∀ s, e s = e' s) (s : S) : walkL f e l s = walkL g e' l s := by
  have : ∀ (m : List α), (∀ a ∈ m, a ∈ l) → walkL f e m = walkL g e' m := by
    intro m
    induction m with
    | nil => intro _; funext s; exact he s
    | cons a m ih =>
      intro hm
      funext s
      show f a s (walkL f e m) = g a s (walkL g e' m)
      rw [ih (fun b hb => hm b (List.mem_cons_of_mem _ hb)), h a (hm a List.mem_cons_self)]
  exact congrFun (this l (fun _ h => h)) s
theorem walkN_congr {f g : Nat → S → (S → Option R) → Option R} {e e' : S → Option R} (n i : Nat) (h : ∀ j, i ≤ j → j < i + n → ∀ s k, f j s k = g j s k) (he : ∀ s, e s = e' s) (s : S) : walkN f e n i s = walkN g e' n i s := by
  have : ∀ (m j : Nat), i ≤ j → j + m = i + n → walkN f e m j = walkN g e' m j := by
    intro m
    induction m with
    | zero => intro j _ _; funext s; exact he s
    | succ m ih =>
      intro j h1 h2
      funext s
      show f j s (walkN f e m (j + 1)) = g j s (walkN g e' m (j + 1))
      rw [ih (j + 1) (by omega) (by omega), h j h1 (by omega)]
  exact congrFun (this n i (Nat.le_refl _) rfl) s

/-- A walk that never ends early folds. -/
theorem walkL_fold (g : S → α → S) (e : S → Option R) : ∀ (l : List α) (s : S), walkL (fun a s k => k (g s a)) e l s = e (l.foldl g s)
  | [], _ => rfl
  | a :: l, s => walkL_fold g e l (g s a)

/-- The first one that is so. -/
theorem walk_find [Inhabited α] (p : α → Bool) (q : α → Option Bool) (l : List α) (h : ∀ a ∈ l, q a = some (p a)) :
    walkN (fun t (_ : Unit) k => (q (l.getD t default)).bind fun y => if (y : Bool) then some (t : Int) else k ()) (fun _ => some (-1)) l.length 0 () = some (match l.findIdx? p with | some i => (i : Int) | none => -1) := by
  have key : ∀ (m : List α) (i : Nat), l.drop i = m → walkN (fun t (_ : Unit) k => (q (l.getD t default)).bind fun y => if (y : Bool) then some (t : Int) else k ()) (fun _ => some (-1)) m.length i () = some (match m.findIdx? p with | some j => ((i + j : Nat) : Int) | none => -1) := by
    intro m
    induction m with
    | nil => intros; rfl
    | cons a m ih =>
      intro i hi
      have hlt : i < l.length := by
        rcases Nat.lt_or_ge i l.length with h | h
        · exact h
        · rw [List.drop_eq_nil_of_le h] at hi; cases hi
      have h1 : l.drop (i + 1) = m := by rw [← List.tail_drop, hi]; rfl
      have h2 : l.getD i default = a := by
        rw [List.drop_eq_getElem_cons hlt] at hi
        rw [List.getD_eq_getElem?_getD, List.getElem?_eq_getElem hlt]
        exact (List.cons.inj hi).1
      have hm : a ∈ l := by rw [← h2, List.getD_eq_getElem?_getD, List.getElem?_eq_getElem hlt]; exact List.getElem_mem hlt
      show ((q (l.getD i default)).bind fun y => if (y : Bool) then some (i : Int) else walkN _ _ m.length (i + 1) ()) = _
      rw [h2, h a hm, Option.bind_some, List.findIdx?_cons]
      cases p a with
      | true => rfl
      | false =>
        rw [if_neg (by simp), ih (i + 1) h1]
        simp only [Bool.false_eq_true, if_false]
        cases m.findIdx? p with
        | none => rfl
        | some j =>
          show some (((i + 1 + j : Nat)) : Int) = some (((i + (j + 1) : Nat)) : Int)
          rw [show i + 1 + j = i + (j + 1) by omega]
  have := key l 0 (by simp)
  simp only [Nat.zero_add] at this
  exact this
theorem find_any {p : α → Bool} {l : List α} : decide (0 ≤ (match l.findIdx? p with | some i => (i : Int) | none => -1)) = l.any p := by
  rw [Bool.eq_iff_iff, decide_eq_true_eq, List.any_eq_true]
  cases h : l.findIdx? p with
  | none =>
    rw [List.findIdx?_eq_none_iff] at h
    constructor
    · intro h1; exact absurd h1 (by decide)
    · rintro ⟨a, ha, hp⟩; rw [h a ha] at hp; cases hp
  | some i =>
    obtain ⟨h1, h2, _⟩ := List.findIdx?_eq_some_iff_getElem.1 h
    exact ⟨fun _ => ⟨_, List.getElem_mem h1, h2⟩, fun _ => Int.natCast_nonneg i⟩
end

/-! Searches, and parts of lists -/
section
variable {α S R : Type}
theorem walkL_any (p : α → Bool) (r : Option R) (e : Unit → Option R) (f : α → Unit → (Unit → Option R) → Option R) : ∀ (l : List α), (∀ a ∈ l, ∀ k, f a () k = if p a = true then r else k ()) → walkL f e l () = if l.any p = true then r else e ()
  | [], _ => rfl
  | a :: l, h => by
    show f a () (walkL f e l) = _
    rw [h a List.mem_cons_self, List.any_cons]
    cases hp : p a with
    | true => rfl
    | false => rw [if_neg Bool.false_ne_true, walkL_any p r e f l (fun b hb => h b (List.mem_cons_of_mem _ hb)), Bool.false_or]
theorem walkN_any (p : Nat → Bool) (r : Option R) (e : Unit → Option R) (f : Nat → Unit → (Unit → Option R) → Option R) : ∀ (n i : Nat), (∀ j, i ≤ j → j < i + n → ∀ k, f j () k = if p j = true then r else k ()) → walkN f e n i () = if (List.range' i n).any p = true then r else e ()
  | 0, _, _ => rfl
  | n + 1, i, h => by
    show f i () (walkN f e n (i + 1)) = _
    rw [h i (Nat.le_refl _) (by omega), List.range'_succ, List.any_cons]
    cases hp : p i with
    | true => rfl
    | false => rw [if_neg Bool.false_ne_true, walkN_any p r e f n (i + 1) (fun j h1 h2 => h j (by omega) (by omega)), Bool.false_or]
theorem drop_cons [Inhabited α] {l r : List α} {i : Nat} {a : α} (h : l.drop i = a :: r) : i < l.length ∧ l.getD i default = a ∧ l.drop (i + 1) = r ∧ l.take (i + 1) = l.take i ++ [a] ∧ a ∈ l := by
  have hlt : i < l.length := by
    rcases Nat.lt_or_ge i l.length with h' | h'
    · exact h'
    · rw [List.drop_eq_nil_of_le h'] at h; cases h
  have h1 := h
  rw [List.drop_eq_getElem_cons hlt] at h1
  have h2 : l.getD i default = a := by
    rw [List.getD_eq_getElem?_getD, List.getElem?_eq_getElem hlt]
    exact (List.cons.inj h1).1
  refine ⟨hlt, h2, (List.cons.inj h1).2, ?_, ?_⟩
  · rw [List.take_succ_eq_append_getElem hlt, (List.cons.inj h1).1]
  · rw [← (List.cons.inj h1).1]; exact List.getElem_mem hlt
theorem getD_mem [Inhabited α] {l : List α} {i : Nat} (h : i < l.length) : l.getD i default ∈ l := by
  rw [List.getD_eq_getElem?_getD, List.getElem?_eq_getElem h]; exact List.getElem_mem h
theorem getD_map {β : Type} [Inhabited α] [Inhabited β] (f : α → β) {l : List α} {i : Nat} (h : i < l.length) : (l.map f).getD i default = f (l.getD i default) := by
  simp only [List.getD_eq_getElem?_getD, List.getElem?_map, List.getElem?_eq_getElem h]; rfl
end
section
variable {α β : Type} [DecidableEq α]
theorem mget_mset (m : List (α × β)) (k j : α) (v : β) : mget (mset m k v) j = if j = k then some v else mget m j := by
  induction m with
  | nil => simp only [mset, mget]
  | cons e m ih =>
    obtain ⟨a, b⟩ := e
    simp only [mset]
    by_cases h : k = a
    · rw [if_pos h]; subst h; simp only [mget]; split <;> rfl
    · rw [if_neg h]; simp only [mget, ih]
      by_cases h2 : j = a
      · rw [if_pos h2, if_neg (fun e => h (by rw [← e, h2])), if_pos h2]
      · rw [if_neg h2]; simp only [if_neg h2]
theorem mset_len (m : List (α × β)) (k : α) (v : β) : (mset m k v).length = if (mget m k).isSome then m.length else m.length + 1 := by
  induction m with
  | nil => rfl
  | cons e m ih =>
    obtain ⟨a, b⟩ := e
    simp only [mset, mget]
    by_cases h : k = a
    · simp [h]
    · simp only [if_neg h, List.length_cons, ih]; split <;> rfl
end
theorem bnil (b : Bool) : (if b = true then some true else some false : Option Bool) = some b := by cases b <;> rfl
end Go.Cn
