/- Plain facts: keys, names and stamps are orders. -/
import Derived.Test.YtbggiflihpjocaaOrderP
namespace Go.Proofs.Ytbggiflihpjocaa.Wk
open Go Go.Cn

theorem lex_anti : ∀ (l m : List Int), lexI l m = - lexI m l
  | [], [] => rfl
  | [], _ :: _ => rfl
  | _ :: _, [] => rfl
  | a :: l, b :: m => by
    have ih := lex_anti l m
    simp only [lexI]
    split <;> split <;> first | omega | (try split) <;> first | omega | exact ih
theorem lex_range : ∀ (l m : List Int), lexI l m = -1 ∨ lexI l m = 0 ∨ lexI l m = 1
  | [], [] => .inr (.inl rfl)
  | [], _ :: _ => .inr (.inl rfl)
  | _ :: _, [] => .inr (.inl rfl)
  | a :: l, b :: m => by
    have ih := lex_range l m
    simp only [lexI]
    split
    · exact .inl rfl
    · split
      · exact .inr (.inr rfl)
      · exact ih
theorem lex_zero : ∀ (l m : List Int), l.length = m.length → (lexI l m = 0 ↔ l = m)
  | [], [], _ => by simp [lexI]
  | [], _ :: _, h => by simp at h
  | _ :: _, [], h => by simp at h
  | a :: l, b :: m, h => by
    have ih := lex_zero l m (by simpa using h)
    simp only [lexI, List.cons.injEq]
    split
    · constructor <;> intro h <;> omega
    · split
      · constructor <;> intro h <;> omega
      · rw [ih]
        constructor
        · intro h; exact ⟨by omega, h⟩
        · intro h; exact h.2
theorem lex_trans : ∀ (l m p : List Int), l.length = m.length → m.length = p.length → lexI l m ≤ 0 → lexI m p ≤ 0 → lexI l p ≤ 0
  | [], _, _, _, _, _, _ => by simp [lexI]
  | _ :: _, [], _, h, _, _, _ => by simp at h
  | _ :: _, _ :: _, [], _, h, _, _ => by simp at h
  | a :: l, b :: m, c :: p, h1, h2, h3, h4 => by
    have ih := lex_trans l m p (by simpa using h1) (by simpa using h2)
    simp only [lexI] at h3 h4 ⊢
    split at h3
    · split at h4
      · rw [if_pos (by omega)]; decide
      · split at h4
        · omega
        · rw [if_pos (by omega)]; decide
    · split at h3
      · omega
      · split at h4
        · rw [if_pos (by omega)]; decide
        · split at h4
          · omega
          · rw [if_neg (by omega), if_neg (by omega)]
            exact ih h3 h4
theorem three_eq (l m p : List Int) (same : Bool) (h1 : l.length = m.length) (h2 : m.length = p.length) (hs : same = decide (l = m)) :
    parrellaw05_IdsOrders_L1 (lexI l m) (lexI m p) (lexI l p) (lexI m l) same = some true := by
  have a1 := lex_anti l m
  have r1 := lex_range m l
  have z1 := lex_zero l m h1
  have t1 := lex_trans l m p h1 h2
  have t2 := lex_trans p m l h2.symm h1.symm
  rw [lex_anti p m, lex_anti m l, lex_anti p l] at t2
  have e1 : ((lexI l m == 0) == same) = true := by
    rw [hs, beq_iff_eq, Bool.eq_iff_iff, beq_iff_eq, decide_eq_true_eq]; exact z1
  unfold parrellaw05_IdsOrders_L1
  rw [w64 (by omega) (by omega), if_pos (by rw [beq_iff_eq]; omega), if_pos e1]
  simp only [decide_eq_true_eq]
  repeat' split
  all_goals first | rfl | omega | (congr 1; rw [decide_eq_true_eq]; omega)

theorem txL_inj (a b : T_api_Tx) : txL a = txL b ↔ a = b := by
  rw [x_T_api_Tx]; simp [txL]
theorem stL_inj (a b : T_api_Stamp) : stL a = stL b ↔ a = b := by
  rw [x_T_api_Stamp]; simp only [stL, List.cons.injEq, txL_inj]
theorem list8_inj (a b : A8 Int) : a.list = b.list ↔ a = b := by
  rw [A8.x]; simp [A8.list]

theorem three8 (x y z : A8 Int) : parrellaw05_IdsOrders_L1 (lexI x.list y.list) (lexI y.list z.list) (lexI x.list z.list) (lexI y.list x.list) (decide (x = y)) = some true :=
  three_eq x.list y.list z.list _ rfl rfl (by rw [decide_eq_decide]; exact (list8_inj _ _).symm)
theorem orders_eq (a b c : T_api_Stamp) : parrellaw05_IdsOrders a b c = some true := by
  simp only [parrellaw05_IdsOrders, stamps_eq, txs_eq, keys_eq, parrellaw05_IdsOrders_L2, Option.bind_some]
  rw [three_eq (stL a) (stL b) (stL c) _ rfl rfl (by rw [decide_eq_decide]; exact (stL_inj a b).symm)]
  simp only [Option.bind_some, if_true]
  rw [three_eq (txL a.f_Tx) (txL b.f_Tx) (txL c.f_Tx) _ rfl rfl (by rw [decide_eq_decide]; exact (txL_inj _ _).symm)]
  simp only [Option.bind_some, if_true]
  rw [three8]
  simp only [Option.bind_some, if_true, alive_eq]

theorem orders_law (a b c : T_api_Stamp) (_ : wfL (c_T_api_Stamp a)) (_ : wfL (c_T_api_Stamp b)) (_ : wfL (c_T_api_Stamp c)) : parrellaw05_IdsOrders a b c = some true := orders_eq a b c
end Go.Proofs.Ytbggiflihpjocaa.Wk
