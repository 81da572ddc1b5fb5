/- Plain facts: the order of names. -/
import Derived.Test.YtbggiflihpjocaaOrderW
import Derived.Test.YtbggiflihpjocaaCnX
namespace Go.Proofs.Ytbggiflihpjocaa.Wk
open Go Go.Cn

theorem cmp8_eq (x y : Int) : cmp_Compare_uint8 x y = some (cmp3 x y) := by
  simp only [cmp_Compare_uint8, cmp_isNaN_uint8, Option.bind_some, bne_self_eq_false, Bool.false_eq_true, if_false, decide_eq_true_eq, cmp3]
  split <;> (try split) <;> rfl
theorem cmp32_eq (x y : Int) : cmp_Compare_uint32 x y = some (cmp3 x y) := by
  simp only [cmp_Compare_uint32, cmp_isNaN_uint32, Option.bind_some, bne_self_eq_false, Bool.false_eq_true, if_false, decide_eq_true_eq, cmp3]
  split <;> (try split) <;> rfl

theorem getD_drop {α : Type} (l : List α) (k : Nat) (d : α) (h : k < l.length) : l.drop k = l.getD k d :: l.drop (k + 1) := by
  rw [List.drop_eq_getElem_cons h, List.getD_eq_getElem?_getD, List.getElem?_eq_getElem h]; rfl

theorem first_loop (a b : List Int) (hl : a.length = b.length) (hb : a.length < 4611686018427387904) : ∀ (fuel k : Nat), a.length - k < fuel → k ≤ a.length → parrelref05_first_l0 a b fuel (k : Int) = some (lexI (a.drop k) (b.drop k))
  | 0, k, h, _ => by omega
  | fuel + 1, k, h, hk => by
    rw [parrelref05_first_l0]
    by_cases hlt : k < a.length
    · rw [if_pos (by simp only [decide_eq_true_eq]; omega), if_pos (by omega), if_pos (by omega)]
      have h2 : k < b.length := by omega
      rw [getD_drop a k default hlt, getD_drop b k default h2]
      simp only [Int.toNat_natCast, lexI, decide_eq_true_eq]
      split
      · rfl
      · split
        · rfl
        · rw [w64 (by omega) (by omega)]
          exact first_loop a b hl hb fuel (k + 1) (by omega) (by omega)
    · rw [if_neg (by simp only [decide_eq_true_eq]; omega)]
      have : k = a.length := by omega
      subst this
      rw [List.drop_length]
      rfl
theorem first_eq (a b : List Int) (hl : a.length = b.length) (hb : a.length < 4611686018427387904) : parrelref05_first a b = some (lexI a b) := by
  have := first_loop a b hl hb big 0 (big_lt (by omega)) (by omega)
  simpa [parrelref05_first] using this

/-- The first that is not zero. -/
def firstNZ : List Int → Int
  | [] => 0
  | x :: r => if x = 0 then firstNZ r else x
theorem or_loop (a : List Int) (hb : a.length < 4611686018427387904) : ∀ (fuel k : Nat), a.length - k < fuel → k ≤ a.length → cmp_Or_int_l0 a fuel (k : Int) = some (firstNZ (a.drop k))
  | 0, k, h, _ => by omega
  | fuel + 1, k, h, hk => by
    rw [cmp_Or_int_l0]
    by_cases hlt : k < a.length
    · rw [if_pos (by simp only [decide_eq_true_eq]; omega), if_pos (by omega)]
      rw [getD_drop a k default hlt]
      simp only [Int.toNat_natCast, firstNZ, bne_iff_ne, ne_eq, ite_not]
      split
      · rw [w64 (by omega) (by omega)]
        exact or_loop a hb fuel (k + 1) (by omega) (by omega)
      · rfl
    · rw [if_neg (by simp only [decide_eq_true_eq]; omega)]
      have : k = a.length := by omega
      subst this
      rw [List.drop_length]
      rfl
theorem or_eq (a : List Int) (hb : a.length < 4611686018427387904) : cmp_Or_int a = some (firstNZ a) := by
  have := or_loop a hb big 0 (big_lt (by omega)) (by omega)
  simpa [cmp_Or_int] using this

/-! Names -/
def TxB (t : T_api_Tx) : Prop := 0 ≤ t.f_Node ∧ t.f_Node < 256
def txL (t : T_api_Tx) : List Int := [t.f_Node, t.f_Boot, t.f_Num]
def stL (s : T_api_Stamp) : List Int := s.f_Time :: txL s.f_Tx

theorem cmp3_zero {a b : Int} : cmp3 a b = 0 ↔ ¬ a < b ∧ ¬ b < a := by
  unfold cmp3; split
  · omega
  · split <;> omega
theorem nz3 (a b a' b' a'' b'' : Int) : firstNZ [cmp3 a b, cmp3 a' b', cmp3 a'' b''] = lexI [a, a', a''] [b, b', b''] := by
  simp only [firstNZ, lexI, cmp3]
  repeat' split
  all_goals first | rfl | omega
theorem txs_eq (a b : T_api_Tx) : ids_Txs a b = some (lexI (txL a) (txL b)) := by
  simp only [ids_Txs, cmp8_eq, cmp32_eq, Option.bind_some, txL]
  rw [or_eq _ (by simp), nz3]; rfl
theorem rtxs_eq (a b : T_api_Tx) (ha : TxB a) (hb : TxB b) : parrelref05_Txs a b = some (lexI (txL a) (txL b)) := by
  simp only [parrelref05_Txs, parrelref05_numbers, Option.bind_some]
  rw [wu32 ha.1 (by have := ha.2; omega), wu32 hb.1 (by have := hb.2; omega), first_eq [a.f_Node, a.f_Boot, a.f_Num] [b.f_Node, b.f_Boot, b.f_Num] rfl (by simp)]
  rfl
theorem nz2 (a b x : Int) (l m : List Int) (h : x = lexI l m) : firstNZ [cmp3 a b, x] = lexI (a :: l) (b :: m) := by
  subst h
  simp only [firstNZ, lexI, cmp3]
  repeat' split
  all_goals first | rfl | omega
theorem stamps_eq (a b : T_api_Stamp) : ids_Stamps a b = some (lexI (stL a) (stL b)) := by
  simp only [ids_Stamps, cmp32_eq, txs_eq, Option.bind_some]
  rw [or_eq _ (by simp), nz2 _ _ _ _ _ rfl]; rfl
theorem rstamps_eq (a b : T_api_Stamp) (ha : TxB a.f_Tx) (hb : TxB b.f_Tx) : parrelref05_Stamps a b = some (lexI (stL a) (stL b)) := by
  simp only [parrelref05_Stamps, parrelref05_numbers, Option.bind_some]
  rw [if_pos (by simp), if_pos (by simp), wu32 ha.1 (by have := ha.2; omega), wu32 hb.1 (by have := hb.2; omega), first_eq ([a.f_Time] ++ [a.f_Tx.f_Node, a.f_Tx.f_Boot, a.f_Tx.f_Num]) ([b.f_Time] ++ [b.f_Tx.f_Node, b.f_Tx.f_Boot, b.f_Tx.f_Num]) rfl (by simp)]
  rfl

/-! Keys -/
theorem keys_loop (a b : A8 Int) : ∀ (fuel k : Nat), 8 - k < fuel → k ≤ 8 → slices_Compare_byte_byte_l0 a b fuel (k : Int) = some (lexI (a.list.drop k) (b.list.drop k))
  | 0, k, h, _ => by omega
  | fuel + 1, k, h, hk => by
    rw [slices_Compare_byte_byte_l0]
    by_cases hlt : k < 8
    · rw [if_pos (by simp only [decide_eq_true_eq]; omega), if_pos (by omega), if_neg (by simp only [decide_eq_true_eq]; omega)]
      rw [getD_drop a.list k default (by simpa [A8.list] using hlt), getD_drop b.list k default (by simpa [A8.list] using hlt), A8.list_get a default hlt, A8.list_get b default hlt]
      simp only [Int.toNat_natCast, cmp8_eq, Option.bind_some, bne_iff_ne, ne_eq]
      rw [w64 (by omega) (by omega)]
      have ih := keys_loop a b fuel (k + 1) (by omega) (by omega)
      simp only [lexI]
      by_cases h1 : a.get k < b.get k
      · rw [if_pos (by unfold cmp3; rw [if_pos h1]; decide), if_pos h1]; simp [cmp3, h1]
      · by_cases h2 : b.get k < a.get k
        · rw [if_pos (by unfold cmp3; rw [if_neg h1, if_pos h2]; decide), if_neg h1, if_pos h2]; simp [cmp3, h1, h2]
        · rw [if_neg (by simp [cmp3_zero, h1, h2]), if_neg h1, if_neg h2]; exact ih
    · rw [if_neg (by simp only [decide_eq_true_eq]; omega)]
      have : k = 8 := by omega
      subst this
      rfl
theorem keys_eq (a b : A8 Int) : ids_Keys a b = some (lexI a.list b.list) := by
  have := keys_loop a b big 0 (big_lt (by omega)) (by omega)
  simp only [ids_Keys, slices_Compare_byte_byte]
  rw [show (0 : Int) = ((0 : Nat) : Int) from rfl, this]
  rfl
def KeyB (k : A8 Int) : Prop := ∀ i, i < 8 → 0 ≤ k.get i ∧ k.get i < 256
theorem take_succ' {α : Type} (l : List α) (k : Nat) (d : α) (h : k < l.length) : l.take (k + 1) = l.take k ++ [l.getD k d] := by
  rw [List.take_add_one, List.getD_eq_getElem?_getD, List.getElem?_eq_getElem h]; rfl
theorem rkeys_loop (a b : A8 Int) (ha : KeyB a) (hb : KeyB b) : ∀ (fuel k : Nat), 8 - k < fuel → k ≤ 8 → parrelref05_Keys_l0 a b fuel (k : Int) (a.list.take k) (b.list.take k) = some (lexI a.list b.list)
  | 0, k, h, _ => by omega
  | fuel + 1, k, h, hk => by
    rw [parrelref05_Keys_l0]
    by_cases hlt : k < 8
    · have hla : (a.list.take k).length = k := by simp [A8.list]; omega
      have hlb : (b.list.take k).length = k := by simp [A8.list]; omega
      rw [if_pos (by simp only [decide_eq_true_eq]; omega), if_pos (by omega), if_pos (by rw [hla]; simp; omega), if_pos (by rw [hlb]; simp; omega)]
      have h1 := ha k hlt
      have h2 := hb k hlt
      rw [w64 (by omega) (by omega)]
      simp only [Int.toNat_natCast]
      rw [wu32 h1.1 (by omega), wu32 h2.1 (by omega), ← A8.list_get a default hlt, ← A8.list_get b default hlt,
        ← take_succ' a.list k default (by simpa [A8.list] using hlt), ← take_succ' b.list k default (by simpa [A8.list] using hlt)]
      exact rkeys_loop a b ha hb fuel (k + 1) (by omega) (by omega)
    · rw [if_neg (by simp only [decide_eq_true_eq]; omega)]
      have : k = 8 := by omega
      subst this
      rw [show a.list.take 8 = a.list from rfl, show b.list.take 8 = b.list from rfl, first_eq a.list b.list rfl (by simp [A8.list])]
      rfl
theorem rkeys_eq (a b : A8 Int) (ha : KeyB a) (hb : KeyB b) : parrelref05_Keys a b = some (lexI a.list b.list) := by
  have := rkeys_loop a b ha hb big 0 (big_lt (by omega)) (by omega)
  exact this

theorem alive_eq : parrellaw05_alive = some true := by kernel_rfl

theorem order_eq (a b : T_api_Stamp) (k : A2 (A8 Int)) (ha : TxB a.f_Tx) (hb : TxB b.f_Tx) (h0 : KeyB k.a0) (h1 : KeyB k.a1) : parrellaw05_IdsOrder a b k = some true := by
  simp only [parrellaw05_IdsOrder, keys_eq, rkeys_eq _ _ h0 h1, txs_eq, rtxs_eq _ _ ha hb, stamps_eq, rstamps_eq _ _ ha hb, alive_eq, Option.bind_some, beq_self_eq_true, if_true]
end Go.Proofs.Ytbggiflihpjocaa.Wk
