/- Plain facts of the clock: names in order, maps of unlike keys. -/
import Derived.Test.YteigbcpbehddoaaClkW
import Derived.Test.YteigbcpbehddoaaCnX
import Derived.Test.YteigbcpbehddoaaCnZ
set_option linter.unusedVariables false
set_option linter.unusedSimpArgs false
set_option linter.unusedSectionVars false
namespace Go.Proofs.Yteigbcpbehddoaa.Wk
open Go Go.Cn
theorem lex_anti : ∀ (l m : List Int), lexI l m = - lexI m l
  | [], [] => rfl
  | [], _ :: _ => rfl
  | _ :: _, [] => rfl
  | a :: l, b :: m => by
    have ih := lex_anti l m
    simp only [lexI]
    split <;> split <;> first | omega | (try split) <;> first | omega | exact ih
theorem lex_zero : ∀ (l m : List Int), l.length = m.length → (lexI l m = 0 ↔ l = m)
  | [], [], _ => by simp [lexI]
  | [], _ :: _, h => by simp at h
  | _ :: _, [], h => by simp at h
  | a :: l, b :: m, h => by
    have ih := lex_zero l m (by simpa using h)
    simp only [lexI, List.cons.injEq]
    split
    · constructor <;> intro h <;> omega
    · split
      · constructor <;> intro h <;> omega
      · rw [ih]
        constructor
        · intro h; exact ⟨by omega, h⟩
        · intro h; exact h.2
theorem lex_trans : ∀ (l m p : List Int), l.length = m.length → m.length = p.length → lexI l m ≤ 0 → lexI m p ≤ 0 → lexI l p ≤ 0
  | [], _, _, _, _, _, _ => by simp [lexI]
  | _ :: _, [], _, h, _, _, _ => by simp at h
  | _ :: _, _ :: _, [], _, h, _, _ => by simp at h
  | a :: l, b :: m, c :: p, h1, h2, h3, h4 => by
    have ih := lex_trans l m p (by simpa using h1) (by simpa using h2)
    simp only [lexI] at h3 h4 ⊢
    split at h3
    · split at h4
      · rw [if_pos (by omega)]; decide
      · split at h4
        · omega
        · rw [if_pos (by omega)]; decide
    · split at h3
      · omega
      · split at h4
        · rw [if_pos (by omega)]; decide
        · split at h4
          · omega
          · rw [if_neg (by omega), if_neg (by omega)]
            exact ih h3 h4
theorem getD_drop {α : Type} (l : List α) (k : Nat) (d : α) (h : k < l.length) : l.drop k = l.getD k d :: l.drop (k + 1) := by
  rw [List.drop_eq_getElem_cons h, List.getD_eq_getElem?_getD, List.getElem?_eq_getElem h]; rfl
theorem cmp8_eq (x y : Int) : cmp_Compare_uint8 x y = some (cmp3 x y) := by
  simp only [cmp_Compare_uint8, cmp_isNaN_uint8, Option.bind_some, bne_self_eq_false, Bool.false_eq_true, if_false, decide_eq_true_eq, cmp3]
  split <;> (try split) <;> rfl
theorem cmp32_eq (x y : Int) : cmp_Compare_uint32 x y = some (cmp3 x y) := by
  simp only [cmp_Compare_uint32, cmp_isNaN_uint32, Option.bind_some, bne_self_eq_false, Bool.false_eq_true, if_false, decide_eq_true_eq, cmp3]
  split <;> (try split) <;> rfl
def firstNZ : List Int → Int
  | [] => 0
  | x :: r => if x = 0 then firstNZ r else x
theorem or_loop (a : List Int) (hb : a.length < 4611686018427387904) : ∀ (fuel k : Nat), a.length - k < fuel → k ≤ a.length → cmp_Or_int_l0 a fuel (k : Int) = some (firstNZ (a.drop k))
  | 0, k, h, _ => by omega
  | fuel + 1, k, h, hk => by
    rw [cmp_Or_int_l0]
    by_cases hlt : k < a.length
    · rw [if_pos (by simp only [decide_eq_true_eq]; omega), if_pos (by omega)]
      rw [getD_drop a k default hlt]
      simp only [Int.toNat_natCast, firstNZ, bne_iff_ne, ne_eq, ite_not]
      split
      · rw [w64 (by omega) (by omega)]
        exact or_loop a hb fuel (k + 1) (by omega) (by omega)
      · rfl
    · rw [if_neg (by simp only [decide_eq_true_eq]; omega)]
      have : k = a.length := by omega
      subst this
      rw [List.drop_length]
      rfl
theorem or_eq (a : List Int) (hb : a.length < 4611686018427387904) : cmp_Or_int a = some (firstNZ a) := by
  have := or_loop a hb big 0 (big_lt (by omega)) (by omega)
  simpa [cmp_Or_int] using this
def txL (t : T_api_Tx) : List Int := [t.f_Node, t.f_Boot, t.f_Num]
theorem nz3 (a b a' b' a'' b'' : Int) : firstNZ [cmp3 a b, cmp3 a' b', cmp3 a'' b''] = lexI [a, a', a''] [b, b', b''] := by
  simp only [firstNZ, lexI, cmp3]
  repeat' split
  all_goals first | rfl | omega
theorem txs_eq (a b : T_api_Tx) : ids_Txs a b = some (lexI (txL a) (txL b)) := by
  simp only [ids_Txs, cmp8_eq, cmp32_eq, Option.bind_some, txL]
  rw [or_eq _ (by simp), nz3]; rfl

/-! Names -/
abbrev Nm := T_clock_Name
def nmL (n : Nm) : List Int := n.f_Kind :: txL n.f_Tx
def cfN (a b : Nm) : Int := lexI (nmL a) (nmL b)
theorem names_eq (a b : Nm) : clock_names a b = some (cfN a b) := by
  simp only [clock_names, cmp8_eq, txs_eq, Option.bind_some]
  rw [or_eq _ (by simp)]
  simp only [Option.bind_some, cfN, nmL, firstNZ]
  rw [lexI]
  unfold cmp3
  congr 1
  by_cases h1 : a.f_Kind < b.f_Kind
  · simp [h1]
  · by_cases h2 : b.f_Kind < a.f_Kind
    · simp [h1, h2]
    · simp only [h1, h2, if_false, if_true]
      split <;> simp_all
theorem cfN_zero (a b : Nm) : cfN a b = 0 ↔ a = b := by
  unfold cfN; rw [lex_zero (nmL a) (nmL b) rfl]
  obtain ⟨k, ⟨x, y, z⟩⟩ := a
  obtain ⟨k', ⟨x', y', z'⟩⟩ := b
  simp [nmL, txL]
theorem cfN_total : TotCmp cfN := by
  have an : ∀ a b, cfN a b = - cfN b a := fun a b => lex_anti _ _
  have tr : ∀ a b c, cfN a b ≤ 0 → cfN b c ≤ 0 → cfN a c ≤ 0 := fun a b c => lex_trans _ _ _ rfl rfl
  refine ⟨⟨fun x => ?_, fun x y z h1 h2 => ?_, fun x y z h1 h2 => ?_⟩, fun x y h1 h2 => ?_⟩
  · have := (cfN_zero x x).2 rfl
    simp [Go.Proofs.ltOf, this]
  · simp only [Go.Proofs.ltOf, decide_eq_true_eq] at h1 h2 ⊢
    have h3 := tr x y z (by omega) (by omega)
    have : cfN x z ≠ 0 := fun h => by
      have e := (cfN_zero x z).1 h; subst e
      have := an x y; omega
    omega
  · simp only [Go.Proofs.ltOf, decide_eq_false_iff_not] at h1 h2 ⊢
    have a1 := an x y; have a2 := an y z; have a3 := an x z
    have := tr z y x (by omega) (by omega)
    omega
  · simp only [Go.Proofs.ltOf, decide_eq_false_iff_not] at h1 h2
    have a1 := an x y
    exact (cfN_zero x y).1 (by omega)
theorem sortN {l : List Nm} (h : l.length ≤ 8796093022208) : sortO clock_names 16 l = some (sortL cfN l) :=
  sortO_eq cfN_total names_eq (by unfold maxLen; omega) (by omega)

/-! Maps of unlike keys -/
section
variable {α β : Type} [DecidableEq α]
def Uk (m : List (α × β)) : Prop := (m.map (·.1)).Nodup
theorem mget_mem {m : List (α × β)} {k : α} {v : β} (h : mget m k = some v) : (k, v) ∈ m := by
  induction m with
  | nil => simp [mget] at h
  | cons e r ih =>
    obtain ⟨a, b⟩ := e
    simp only [mget] at h
    split at h
    · rename_i e; subst e; cases h; exact List.mem_cons_self
    · exact List.mem_cons_of_mem _ (ih h)
theorem mem_mget {m : List (α × β)} (hu : Uk m) {k : α} {v : β} (h : (k, v) ∈ m) : mget m k = some v := by
  induction m with
  | nil => cases h
  | cons e r ih =>
    obtain ⟨a, b⟩ := e
    simp only [Uk, List.map_cons, List.nodup_cons] at hu
    simp only [mget]
    rcases List.mem_cons.1 h with e | h
    · cases e; simp
    · rw [if_neg]
      · exact ih hu.2 h
      · intro e; exact hu.1 (List.mem_map.2 ⟨(k, v), h, e⟩)
theorem mset_get (m : List (α × β)) (k : α) (v : β) (j : α) : mget (mset m k v) j = if j = k then some v else mget m j := by
  induction m with
  | nil => simp [mset, mget]
  | cons e r ih =>
    obtain ⟨a, b⟩ := e
    simp only [mset]
    by_cases h : k = a
    · subst h
      simp only [if_true, mget]
      by_cases h2 : j = k <;> simp [h2]
    · simp only [if_neg h, mget, ih]
      by_cases h2 : j = a
      · subst h2; simp [Ne.symm h]
      · simp [h2]
theorem mdel_get {m : List (α × β)} (hu : Uk m) (k j : α) : mget (mdel m k) j = if j = k then none else mget m j := by
  induction m with
  | nil => simp [mdel, mget]
  | cons e r ih =>
    obtain ⟨a, b⟩ := e
    simp only [Uk, List.map_cons, List.nodup_cons] at hu
    simp only [mdel]
    by_cases h : k = a
    · subst h
      simp only [if_true, mget]
      by_cases h2 : j = k
      · subst h2
        simp only [if_true]
        cases hg : mget r j with
        | none => rfl
        | some v => exact absurd (List.mem_map.2 ⟨(j, v), mget_mem hg, rfl⟩) hu.1
      · simp [h2]
    · simp only [if_neg h, mget, ih hu.2]
      by_cases h2 : j = a
      · subst h2; simp [Ne.symm h]
      · simp [h2]
theorem mset_keys (m : List (α × β)) (k : α) (v : β) : ∀ x, x ∈ (mset m k v).map (·.1) ↔ x = k ∨ x ∈ m.map (·.1) := by
  induction m with
  | nil => simp [mset]
  | cons e r ih =>
    obtain ⟨a, b⟩ := e
    intro x
    simp only [mset]
    by_cases h : k = a
    · subst h; simp
    · simp only [if_neg h, List.map_cons, List.mem_cons, ih]
      constructor
      · rintro (h | h | h)
        · exact .inr (.inl h)
        · exact .inl h
        · exact .inr (.inr h)
      · rintro (h | h | h)
        · exact .inr (.inl h)
        · exact .inl h
        · exact .inr (.inr h)
theorem mset_uk {m : List (α × β)} (hu : Uk m) (k : α) (v : β) : Uk (mset m k v) := by
  induction m with
  | nil => simp [mset, Uk]
  | cons e r ih =>
    obtain ⟨a, b⟩ := e
    simp only [Uk, List.map_cons, List.nodup_cons] at hu
    simp only [mset]
    by_cases h : k = a
    · subst h; simpa [Uk] using hu
    · simp only [if_neg h, Uk, List.map_cons, List.nodup_cons]
      refine ⟨fun hm => ?_, ih hu.2⟩
      rcases (mset_keys r k v a).1 hm with e | h'
      · exact h e.symm
      · exact hu.1 h'
theorem mdel_sub (m : List (α × β)) (k : α) : (mdel m k).Sublist m := by
  induction m with
  | nil => simp [mdel]
  | cons e r ih =>
    simp only [mdel]
    split
    · exact List.sublist_cons_self _ _
    · exact ih.cons_cons _
theorem mdel_uk {m : List (α × β)} (hu : Uk m) (k : α) : Uk (mdel m k) := ((mdel_sub m k).map _).nodup hu
theorem mdel_none {m : List (α × β)} {k : α} (h : mget m k = none) : mdel m k = m := by
  induction m with
  | nil => rfl
  | cons e r ih =>
    obtain ⟨a, b⟩ := e
    simp only [mget] at h
    split at h
    · cases h
    · rename_i hne
      simp only [mdel, if_neg hne, ih h]
end
end Go.Proofs.Yteigbcpbehddoaa.Wk
