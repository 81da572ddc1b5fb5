/- Check, Order and Circle are the document's. -/
import Derived.Test.YtofkaccoofafmaaCircE
set_option linter.unusedVariables false
set_option linter.unusedSimpArgs false
set_option linter.unusedSectionVars false
namespace Go.Proofs.Ytofkaccoofafmaa.Wk
open Go Go.Cn

theorem ints2_self (a : List Int) (h : a.length < 9223372036854775807) : parrelref01_Ints_2 a a = some true := by
  rw [parrelref01_Ints_2, if_neg (by simp), parrelref01_Ints_2_w0 _ _ h]
  have key : ∀ (c i : Nat), i + c = a.length → walkN (parrelref01_Ints_2_b0 a a) parrelref01_Ints_2_e0 c i () = some true := by
    intro c
    induction c with
    | zero => intros; rfl
    | succ c ih =>
      intro i hi
      rw [walkN, parrelref01_Ints_2_b0, if_pos (by omega), if_neg (by simp)]
      exact ih (i + 1) (by omega)
  exact key _ 0 (by omega)
theorem order_len (l : List RT) : (orderB l).1.length ≤ 64 := by
  rw [orderB]
  split
  · simp
  · rename_i hc
    obtain ⟨h64, _⟩ := check_nd (l := l) (by simpa using hc)
    split
    · simp
    · have := (kahn_inv (n := l.length) (E := Eg l) (l.length + 1) [] (Inv.nil _ _)).len
      simp only [List.length_map]
      exact Nat.le_trans this h64
theorem circ_len (l : List RT) : (ic (circN l)).length ≤ 64 := by
  rw [List.length_map, circN]
  split
  · rename_i hc
    obtain ⟨h1, _⟩ := order_11 hc
    obtain ⟨h3, _⟩ := check_nd h1
    obtain ⟨d, j, hb⟩ := circ_some hc
    obtain ⟨hj, hd⟩ := bst_some hb
    have := dst_bound hj hd
    rw [hb]
    show (pathB _ _ _ _ _).length ≤ 64
    rw [way_len hd]; omega
  · simp
theorem orders_eq (l : List RT) (hs : Sz l) : parrellaw26_HistOrders l = some true := by
  have hl := hs.2
  have hlt : l.length < 9223372036854775807 := by omega
  have hw : ∀ a ∈ l, a.f_Writes.length < 9223372036854775807 := fun a ha => by have := (hs.1 a ha).2; omega
  have hal : (parrellaw26_alive.bind fun y => some y) = some true := by rw [alive_eq]; rfl
  have ho := order_len l
  have hc := circ_len l
  unfold parrellaw26_HistOrders
  rw [far_eq, Option.bind_some]
  cases farB l with
  | true => exact hal
  | false =>
    rw [if_neg Bool.false_ne_true, theirs_eq l hs, Option.bind_some, histOrder_eq l hlt, Option.bind_some, refOrder_eq l hlt hw, Option.bind_some, Option.bind_some, histCheck_eq l hlt, Option.bind_some, refCheck_eq l hlt hw, Option.bind_some, if_pos (by simp), ints2_self _ (by omega), Option.bind_some, if_pos rfl, if_pos (by simp), Option.bind_some, histCircle_eq l hlt, Option.bind_some, refCircle_eq l hlt hw, Option.bind_some, ints2_self _ (by omega), Option.bind_some, if_pos rfl]
    exact hal
theorem orders_law (l : List RT) (h1 : (∀ a ∈ l, wsTx a) ∧ l.length * 64 ≤ 140737488351232) : parrellaw26_HistOrders l = some true := orders_eq l (sz_of h1)
end Go.Proofs.Ytofkaccoofafmaa.Wk
