/- Plain facts: items, names of transactions. -/
import Derived.Test.YtfjdnnoflmpdeaaDoorStagWF
import Derived.Test.YtfjdnnoflmpdeaaDoorStaK
import Derived.Test.YtfjdnnoflmpdeaaDoorStaV
import Derived.Test.YtfjdnnoflmpdeaaDoorRiseP
set_option linter.unusedVariables false
set_option linter.unusedSimpArgs false
set_option linter.unusedSectionVars false
namespace Go.Proofs.YtfjdnnoflmpdeaaDoor.Wk
open Go Go.Cn

structure WfI (i : T_api_Item) : Prop where
  v : 0 ≤ i.f_Version ∧ i.f_Version < 4294967296
  c : WfV i.f_Conf
structure WfW (w : T_api_Write) : Prop where
  k : wfK w.f_Key
  i : WfI w.f_Item
def mayI (i : T_api_Item) : Bool := decide (i.f_Version ≤ 2147483647) && (decide (i.f_Value.length ≤ 64) && mayV i.f_Conf)
theorem itemMay_eq {i : T_api_Item} (h : WfI i) : msg_ItemMay i = some (mayI i) := by
  unfold msg_ItemMay mayI
  rw [votesMay_eq h.c]
  by_cases h1 : i.f_Version ≤ 2147483647 <;> by_cases h2 : i.f_Value.length ≤ 64 <;> simp [h1, h2] <;> omega
theorem refItemMay_eq {i : T_api_Item} (h : WfI i) : parrelref10_ItemMay i = some (mayI i) := by
  unfold parrelref10_ItemMay mayI
  rw [refMay_eq h.c]
  by_cases h1 : i.f_Version ≤ 2147483647 <;> by_cases h2 : i.f_Value.length ≤ 64 <;> simp [h1, h2] <;> omega
theorem keyMay_eq {k : A8 Int} (hk : wfK k) : parrelref10_KeyMay k = some (mayK k) := by
  obtain ⟨s, _, h2⟩ := mayK_eq k hk
  unfold parrelref10_KeyMay
  rw [h2]; rfl

theorem cmp32_eq (x y : Int) : cmp_Compare_uint32 x y = some (cmp3 x y) := by
  simp only [cmp_Compare_uint32, cmp_isNaN_uint32, Option.bind_some, bne_self_eq_false, Bool.false_eq_true, if_false, decide_eq_true_eq, cmp3]
  split <;> (try split) <;> rfl
def firstNZ : List Int → Int
  | [] => 0
  | x :: r => if x = 0 then firstNZ r else x
theorem or_loop (a : List Int) (hb : a.length < 4611686018427387904) : ∀ (fuel k : Nat), a.length - k < fuel → k ≤ a.length → cmp_Or_int_l0 a fuel (k : Int) = some (firstNZ (a.drop k))
  | 0, k, h, _ => by omega
  | fuel + 1, k, h, hk => by
    rw [cmp_Or_int_l0]
    by_cases hlt : k < a.length
    · rw [if_pos (by simp only [decide_eq_true_eq]; omega), if_pos (by omega)]
      rw [getD_drop a k default hlt]
      simp only [Int.toNat_natCast, firstNZ, bne_iff_ne, ne_eq, ite_not]
      split
      · rw [w64 (by omega) (by omega)]
        exact or_loop a hb fuel (k + 1) (by omega) (by omega)
      · rfl
    · rw [if_neg (by simp only [decide_eq_true_eq]; omega)]
      have : k = a.length := by omega
      subst this
      rw [List.drop_length]
      rfl
theorem or_eq (a : List Int) (hb : a.length < 4611686018427387904) : cmp_Or_int a = some (firstNZ a) := by
  have := or_loop a hb big 0 (big_lt (by omega)) (by omega)
  simpa [cmp_Or_int] using this
def TxB (t : T_api_Tx) : Prop := 0 ≤ t.f_Node ∧ t.f_Node < 256
def txL (t : T_api_Tx) : List Int := [t.f_Node, t.f_Boot, t.f_Num]
theorem nz3 (a b a' b' a'' b'' : Int) : firstNZ [cmp3 a b, cmp3 a' b', cmp3 a'' b''] = lexI [a, a', a''] [b, b', b''] := by
  simp only [firstNZ, lexI, cmp3]
  repeat' split
  all_goals first | rfl | omega
def cfT (a b : T_api_Tx) : Int := lexI (txL a) (txL b)
theorem txs_eq (a b : T_api_Tx) : ids_Txs a b = some (cfT a b) := by
  simp only [ids_Txs, cmp8_eq, cmp32_eq, Option.bind_some, txL, cfT]
  rw [or_eq _ (by simp), nz3]; rfl
theorem rtxs_eq (a b : T_api_Tx) (ha : TxB a) (hb : TxB b) : parrelref05_Txs a b = some (cfT a b) := by
  obtain ⟨a1, a2⟩ := ha; obtain ⟨b1, b2⟩ := hb
  simp only [parrelref05_Txs, parrelref05_numbers, Option.bind_some]
  rw [wu32 a1 (by omega), wu32 b1 (by omega), first_eq [a.f_Node, a.f_Boot, a.f_Num] [b.f_Node, b.f_Boot, b.f_Num] rfl (by simp)]; rfl

theorem cfT_anti (a b : T_api_Tx) : cfT a b = - cfT b a := lex_anti _ _
theorem cfT_zero (a b : T_api_Tx) : cfT a b = 0 ↔ a = b := by
  unfold cfT; rw [lex_zero (txL a) (txL b) rfl]; cases a; cases b; simp [txL]
theorem cfT_trans (a b c : T_api_Tx) : cfT a b ≤ 0 → cfT b c ≤ 0 → cfT a c ≤ 0 := lex_trans _ _ _ rfl rfl
theorem cfT_lt_trans {a b c : T_api_Tx} (h1 : cfT a b < 0) (h2 : cfT b c < 0) : cfT a c < 0 := by
  have h3 := cfT_trans a b c (by omega) (by omega)
  have : cfT a c ≠ 0 := fun h => by
    have e := (cfT_zero a c).1 h; subst e
    have := cfT_anti a b; omega
  omega
theorem cfT_total : TotCmp cfT := by
  refine ⟨⟨fun x => ?_, fun x y z h1 h2 => ?_, fun x y z h1 h2 => ?_⟩, fun x y h1 h2 => ?_⟩
  · have := (cfT_zero x x).2 rfl
    simp [Go.Proofs.ltOf, this]
  · simp only [Go.Proofs.ltOf, decide_eq_true_eq] at h1 h2 ⊢
    exact cfT_lt_trans h1 h2
  · simp only [Go.Proofs.ltOf, decide_eq_false_iff_not] at h1 h2 ⊢
    have a1 := cfT_anti x y; have a2 := cfT_anti y z; have a3 := cfT_anti x z
    have := cfT_trans z y x (by omega) (by omega)
    omega
  · simp only [Go.Proofs.ltOf, decide_eq_false_iff_not] at h1 h2
    have a1 := cfT_anti x y
    exact (cfT_zero x y).1 (by omega)


end Go.Proofs.YtfjdnnoflmpdeaaDoor.Wk
