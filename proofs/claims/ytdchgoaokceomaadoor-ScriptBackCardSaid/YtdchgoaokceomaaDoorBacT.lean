/- Plain facts: the steps of a text, the text of steps. -/
import Derived.Test.YtdchgoaokceomaaDoorBacP
set_option linter.unusedVariables false
set_option linter.unusedSimpArgs false
set_option linter.unusedSectionVars false
namespace Go.Proofs.YtdchgoaokceomaaDoor.Wk
open Go Go.Cn
set_option maxRecDepth 10000
theorem ibn (s : List UInt8) (h : (10 : UInt8) ∉ s) : Lib.indexByte s 10 = -1 := by
  have hge := Lib.indexByte_ge s 10
  rcases Int.lt_or_le (Lib.indexByte s 10) 0 with hl | hl
  · omega
  · obtain ⟨o, ho⟩ := Int.eq_ofNat_of_zero_le hl
    exact absurd (List.mem_of_getElem? (Lib.indexByte_some ho).1) h
theorem ixn (s : List UInt8) : internal_stringslite_Index_3 s = some (Lib.indexByte s 10) := by
  unfold internal_stringslite_Index_3
  by_cases h : s = [10]
  · subst h; rfl
  · rw [if_neg (by rw [beq_iff_eq]; exact fun e => h e.symm)]; rfl
theorem cut_no (s : List UInt8) (h : (10 : UInt8) ∉ s) : strings_Cut s = some (s, [], false) := by
  unfold strings_Cut internal_stringslite_Cut
  rw [ixn, ibn s h]; rfl
theorem cut_at (a r : List UInt8) (h : (10 : UInt8) ∉ a) (hl : (a ++ 10 :: r).length < 1000000) : strings_Cut (a ++ 10 :: r) = some (a, r, true) := by
  obtain ⟨a', r', e1, e2, e3⟩ := idx_split 10 (a ++ 10 :: r) (by simp)
  have ha : a' = a ∧ r' = r := by
    have : ∀ (a a' : List UInt8), (10 : UInt8) ∉ a → (10 : UInt8) ∉ a' → a ++ 10 :: r = a' ++ 10 :: r' → a' = a ∧ r' = r := by
      intro a
      induction a with
      | nil =>
        intro a' _ h' e
        cases a' with
        | nil => simp at e; exact ⟨rfl, e.symm⟩
        | cons x a' => simp only [List.nil_append, List.cons_append, List.cons.injEq] at e; exact absurd (by rw [e.1]; exact List.mem_cons_self ..) h'
      | cons y a ih =>
        intro a' h1 h' e
        cases a' with
        | nil => simp only [List.nil_append, List.cons_append, List.cons.injEq] at e; exact absurd (by rw [← e.1]; exact List.mem_cons_self ..) h1
        | cons x a' =>
          simp only [List.cons_append, List.cons.injEq] at e
          obtain ⟨i1, i2⟩ := ih a' (fun hm => h1 (List.mem_cons_of_mem _ hm)) (fun hm => h' (List.mem_cons_of_mem _ hm)) e.2
          exact ⟨by rw [i1, e.1], i2⟩
    exact this a a' h e2 e1
  obtain ⟨rfl, rfl⟩ := ha
  have hlen : (a' ++ 10 :: r').length = a'.length + (r'.length + 1) := by simp
  unfold strings_Cut internal_stringslite_Cut
  rw [ixn, e3, Option.bind_some, if_pos (by rw [decide_eq_true_eq]; omega), if_pos (by omega), w64 (by omega) (by omega), if_pos (by omega)]
  have d1 : ((a' ++ 10 :: r').drop 0).take ((a'.length : Int).toNat - 0) = a' := by simp
  have d2 : ((a' ++ 10 :: r').drop ((a'.length : Int) + 1).toNat).take ((a' ++ 10 :: r').length - ((a'.length : Int) + 1).toNat) = r' := by
    have : ((a'.length : Int) + 1).toNat = (a' ++ [10]).length := by simp
    rw [this, show a' ++ 10 :: r' = (a' ++ [10]) ++ r' from by simp, List.drop_left, List.take_of_length_le (by simp only [List.length_append, List.length_cons, List.length_nil]; omega)]
  rw [d1, d2]; rfl
/-- A text of good steps. -/
inductive Tx : List T_script_Step → List UInt8 → Prop where
  | nil : Tx [] []
  | cons {l t} (g : T_parrelref27_Step) : Good g → Tx l t → Tx (toP g :: l) (J (TW g) ++ 10 :: t)
theorem all_tot : ∀ (fuel : Nat) (t : List UInt8) (acc : List T_script_Step), t.length < fuel → t.length ≤ 20000 → acc.length ≤ 4096 →
    ∃ l f, script_All_l0 fuel t acc = some (l, f) ∧ ((f = ⟨0, 0⟩ ∧ ∃ r, l = acc ++ r ∧ Tx r t ∧ l.length ≤ 4096) ∨ (f ≠ ⟨0, 0⟩ ∧ l = [] ∧ 0 ≤ f.f_At))
  | 0, t, _, h, _, _ => by omega
  | fuel + 1, t, acc, h, hl, ha => by
    rw [script_All_l0]
    by_cases h0 : t = []
    · subst h0
      rw [if_neg (by simp)]
      exact ⟨_, _, rfl, .inl ⟨rfl, [], by simp, .nil, ha⟩⟩
    rw [if_pos (by simpa using h0)]
    by_cases h1 : acc.length = 4096
    · rw [if_pos (by rw [beq_iff_eq]; omega)]
      refine ⟨_, _, rfl, .inr ⟨?_, rfl, by show (0 : Int) ≤ (acc.length : Int); omega⟩⟩
      intro e; cases e
    rw [if_neg (by rw [beq_iff_eq]; omega)]
    by_cases hn : (10 : UInt8) ∈ t
    · obtain ⟨a, r, rfl, e2, e3⟩ := idx_split 10 t hn
      have hlen : (a ++ 10 :: r).length = a.length + (r.length + 1) := by simp
      rw [cut_at a r e2 (by omega), Option.bind_some]
      dsimp only
      obtain ⟨s, e, p1, p2⟩ := parse_tot a (by omega)
      rw [p1, Option.bind_some]
      dsimp only
      by_cases he : e = 0
      · subst he
        obtain ⟨g, hg, rfl, rfl⟩ := p2 rfl
        rw [if_pos (by rfl), if_neg (by decide), if_neg (by decide), if_pos (by simp; omega)]
        obtain ⟨l, f, i1, i2⟩ := all_tot fuel r (acc ++ [toP g]) (by omega) (by omega) (by simp; omega)
        refine ⟨l, f, i1, i2.imp ?_ id⟩
        rintro ⟨j1, r', j2, j3, j4⟩
        exact ⟨j1, toP g :: r', by rw [j2, List.append_assoc]; rfl, .cons g hg j3, j4⟩
      · rw [if_neg (by simpa using he), if_pos (by simpa using he)]
        refine ⟨_, _, rfl, .inr ⟨?_, rfl, by show (0 : Int) ≤ (acc.length : Int); omega⟩⟩
        intro e'
        exact he (congrArg T_api_Fault.f_Why e')
    · rw [cut_no t hn, Option.bind_some]
      dsimp only
      obtain ⟨s, e, p1, p2⟩ := parse_tot t (by omega)
      rw [p1, Option.bind_some]
      dsimp only
      by_cases he : e = 0
      · subst he
        rw [if_pos (by rfl), if_pos (by decide)]
        refine ⟨_, _, rfl, .inr ⟨?_, rfl, by show (0 : Int) ≤ (acc.length : Int); omega⟩⟩
        intro e'; cases e'
      · rw [if_neg (by simpa using he), if_pos (by simpa using he)]
        refine ⟨_, _, rfl, .inr ⟨?_, rfl, by show (0 : Int) ≤ (acc.length : Int); omega⟩⟩
        intro e'
        exact he (congrArg T_api_Fault.f_Why e')
theorem text_loop (l : List T_script_Step) (hl : l.length ≤ 4096) : ∀ (fuel i : Nat) (acc t : List UInt8), l.length < fuel + i → i ≤ l.length → Tx (l.drop i) t → acc.length + t.length ≤ 100000000 →
    script_Text_l0 l fuel (i : Int) acc = some (acc ++ t, 0)
  | 0, i, _, _, h, hi, _, _ => by omega
  | fuel + 1, i, acc, t, h, hi, ht, hs => by
    rw [script_Text_l0]
    by_cases hlt : i < l.length
    · rw [if_pos (by simpa using hlt), if_pos (by omega), Int.toNat_natCast]
      rw [getD_drop l i default hlt] at ht
      generalize hd : l.getD i default = x at *
      cases ht with
      | cons g hg htt =>
        rename_i t'
        have hlen : (J (TW g) ++ 10 :: t').length = (J (TW g)).length + (t'.length + 1) := by simp
        rw [line_good g hg, Option.bind_some]
        dsimp only
        rw [if_neg (by decide), if_pos (by omega), if_pos (by simp only [List.length_append]; omega), w64 (by omega) (by omega)]
        have := text_loop l hl fuel (i + 1) (acc ++ J (TW g) ++ [10]) t' (by omega) (by omega) htt (by simp only [List.length_append, List.length_cons, List.length_nil]; omega)
        rw [show ((i : Nat) : Int) + 1 = ((i + 1 : Nat) : Int) from rfl, this]
        simp
    · rw [if_neg (by simpa using hlt), if_neg (by rw [decide_eq_true_eq]; omega)]
      rw [List.drop_eq_nil_of_le (by omega)] at ht
      cases ht; simp
theorem text_eq (l : List T_script_Step) (t : List UInt8) (hl : l.length ≤ 4096) (ht : Tx l t) (hs : t.length ≤ 100000000) : script_Text l = some (t, 0) :=
  text_loop l hl big 0 [] t (by have := big_lt (n := 1000000) (by omega); omega) (by omega) (by simpa using ht) (by simpa using hs)
theorem all_back (t : List UInt8) (l : List T_script_Step) (ht : Tx l t) : ∀ (fuel : Nat) (acc : List T_script_Step), l.length < fuel → acc.length + l.length ≤ 4096 → t.length < 1000000 → script_All_l0 fuel t acc = some (acc ++ l, ⟨0, 0⟩) := by
  induction ht with
  | nil =>
    intro fuel acc h _ _
    cases fuel with
    | zero => simp at h
    | succ fuel => rw [script_All_l0, if_neg (by simp)]; simp
  | cons g hg ht ih =>
    rename_i l t
    intro fuel acc h h1 h2
    cases fuel with
    | zero => simp at h
    | succ fuel =>
      simp only [List.length_cons] at h h1
      have hlen : (J (TW g) ++ 10 :: t).length = (J (TW g)).length + (t.length + 1) := by simp
      rw [script_All_l0, if_pos (by simp), if_neg (by rw [beq_iff_eq]; omega), cut_at _ _ (nl_good g hg) h2, Option.bind_some]
      dsimp only
      rw [parse_good g hg, Option.bind_some]
      dsimp only
      rw [if_pos (by rfl), if_neg (by decide), if_neg (by decide), if_pos (by simp; omega), ih fuel (acc ++ [toP g]) (by omega) (by simp; omega) (by omega)]
      simp
end Go.Proofs.YtdchgoaokceomaaDoor.Wk
