import Derived.Test.YtljjdeanilgloaaGreatDoorTxK
set_option linter.unusedVariables false
set_option linter.unusedSimpArgs false
set_option linter.unusedSectionVars false
namespace Go.Proofs.YtljjdeanilgloaaGreatDoor.Wk
open Go Go.Cn
def slL (s : Bh) : List Int := s.f_key.list ++ [s.f_mode]
def cfS (a b : Bh) : Int := lexI (slL a) (slL b)
theorem lex_snoc (m n : Int) : ∀ (l r : List Int), l.length = r.length → lexI (l ++ [m]) (r ++ [n]) = if lexI l r != 0 then lexI l r else cmp3 m n
 | [], [], _ => by simp [lexI, cmp3]
 | a :: l, b :: r, h => by
  have ih := lex_snoc m n l r (by simpa using h)
  simp only [List.cons_append, lexI]
  by_cases h1 : a < b
  ·simp [h1]
  ·by_cases h2 : b < a
   ·simp [h1, h2]
   ·simp only [h1, h2, if_false]; exact ih
 | [], _ :: _, h => by simp at h
 | _ :: _, [], h => by simp at h
theorem or2 (p q : Int) : BC [p, q] = some (if p != 0 then p else q) := by
 unfold BC
 obtain ⟨n, hn⟩ : ∃ n, big = n + 3 := ⟨1180591620717411303421, by rw [big_eq]⟩
 rw [hn]
 have e1 : IntKind.wrap .i64 1 = 1 := rfl
 have e2 : IntKind.wrap .i64 2 = 2 := rfl
 by_cases hp : p = 0
 ·by_cases hq : q = 0
  ·subst hp; subst hq; simp [BC_l0, e1, e2]
  ·subst hp; simp [BC_l0, e1, hq]
 ·simp [BC_l0, hp]
theorem order_eq (a b : Bh) : Bd a b = some (cfS a b) := by
 unfold Bd cfS slL
 rw [key_total, cmp8_eq]
 simp only [Option.bind_some, or2]
 rw [lex_snoc a.f_mode b.f_mode a.f_key.list b.f_key.list rfl]
 rfl
theorem slL_inj (a b : Bh) : slL a = slL b ↔ a = b := by
 constructor
 ·intro h
  obtain ⟨h1, h2⟩ := List.append_inj' h rfl
  rw [list8_inj] at h1
  cases a; cases b
  simp at h1 h2
  rw [h1, h2]
 ·rintro rfl; rfl
theorem cfS_total : TotCmp cfS := by
 have an : ∀ a b, cfS a b = - cfS b a := fun a b => lex_anti _ _
 have ze : ∀ a b, cfS a b = 0 ↔ a = b := fun a b => by unfold cfS; rw [lex_zero (slL a) (slL b) rfl, slL_inj]
 have tr : ∀ a b c, cfS a b ≤ 0 → cfS b c ≤ 0 → cfS a c ≤ 0 := fun a b c => lex_trans _ _ _ rfl rfl
 refine ⟨⟨fun x => ?_, fun x y z h1 h2 => ?_, fun x y z h1 h2 => ?_⟩, fun x y h1 h2 => ?_⟩
 ·have := (ze x x).2 rfl
  simp [Go.Proofs.ltOf, this]
 ·simp only [Go.Proofs.ltOf, decide_eq_true_eq] at h1 h2 ⊢
  have h3 := tr x y z (by omega) (by omega)
  have : cfS x z ≠ 0 := fun h => by
   have e := (ze x z).1 h; subst e
   have := an x y; omega
  omega
 ·simp only [Go.Proofs.ltOf, decide_eq_false_iff_not] at h1 h2 ⊢
  have a1 := an x y; have a2 := an y z; have a3 := an x z
  have := tr z y x (by omega) (by omega)
  omega
 ·simp only [Go.Proofs.ltOf, decide_eq_false_iff_not] at h1 h2
  have a1 := an x y
  exact (ze x y).1 (by omega)
theorem sort1 (x : Bh × Bf) : sortO Bd 9 ([x].map (·.1)) = some [x.1] := by
 rw [sortO_eq cfS_total order_eq (by simp [maxLen]) (by simp)]
 simp [sortL]
theorem final1 (s : Bi) (x : Bh × Bf) (o : Bh) (r : A8 Bj) (p : List (A8 Int × List UInt8)) (c : List (A8 Int × Bg)) :
  Ab s [x] o r p c = Ab_l0 s [x] o r p c [x.1] big 0 [] [] := by
 unfold Ab
 rw [sort1]
 rfl
noncomputable section
def aY2 := (BL (Bi.mk 0 (Br.mk 0 1 1))).getD default
def aY5 := (Au).getD default
def aY7 := (AF aY2.2.2.1 aY2.2.2.2.2.2.1 aY2.2.2.2.1 aY2.2.2.2.2.2.2.1 aY2.2.2.2.2.1 aY2.2.2.2.2.2.2.2.1 aY2.2.2.2.2.2.2.2.2 (A8.mk 97 0 0 0 0 0 0 0) 2 aY5 ([] : List (Bg))).getD default
def aG (n : Int) := (AV n).getD default
def aY4 := (AH aY7.2.1 aY7.2.2.2.2.1 aY7.2.2.1 aY7.2.2.2.2.2 aY7.2.2.2.1 aY2.2.2.2.2.2.2.2.1 aY2.2.2.2.2.2.2.2.2 (A8.mk 97 0 0 0 0 0 0 0) 2 (aG 0)).getD default
def aY8 := (AH aY4.2.2.1 aY4.2.2.2.2.2.1 aY4.2.2.2.1 aY4.2.2.2.2.2.2 aY4.2.2.2.2.1 aY2.2.2.2.2.2.2.2.1 aY2.2.2.2.2.2.2.2.2 (A8.mk 97 0 0 0 0 0 0 0) 2 (aG 1)).getD default
def aY17 := (Al aY8.2.2.1 aY8.2.2.2.2.2.1 aY8.2.2.2.1 aY8.2.2.2.2.1 aY2.2.2.2.2.2.2.2.1 aY2.2.2.2.2.2.2.2.2 (A8.mk 97 0 0 0 0 0 0 0) ([120] : List UInt8)).getD default
end
theorem alive1 : AI = AI_c9 aY2 aY8 aY17 := by kernel_rfl
theorem slots1 : aY8.2.2.2.2.2.1 = [aY8.2.2.2.2.2.1.headD default] := by kernel_rfl
theorem alive2 : (Ab_l0 aY8.2.2.1 [aY8.2.2.2.2.2.1.headD default] aY8.2.2.2.1 aY8.2.2.2.2.1 aY17.2 aY2.2.2.2.2.2.2.2.2 [(aY8.2.2.2.2.2.1.headD default).1] big 0 [] []).bind (fun yC9_2 =>
  (AY aY8.2.2.1 [aY8.2.2.2.2.2.1.headD default] aY8.2.2.2.1 aY8.2.2.2.2.1 aY17.2 aY2.2.2.2.2.2.2.2.2 (A8.mk 97 0 0 0 0 0 0 0)).bind fun yC9_4 =>
  if ((((yC9_2.2).length : Int) == 1) : Bool) then
  if 0 ≤ (0 : Int) ∧ (0 : Int) < (((yC9_2.2).length : Nat) : Int) then
  if (((yC9_2.2.getD 0 default).f_Item.f_Version == 5) : Bool) then
   if (((yC9_2.2.getD 0 default).f_Item.f_Value == ([120] : List UInt8)) : Bool) then
    if ((yC9_4.1 == ([120] : List UInt8)) : Bool) then
     some yC9_4.2
    else
     some false
   else
    some false
  else
   some false
  else none
  else
   some false) = some true := by kernel_rfl
theorem alive_eq : AI = some true := by
 rw [alive1]
 unfold AI_c9
 have h : ∀ r p c, Ab aY8.2.2.1 aY8.2.2.2.2.2.1 aY8.2.2.2.1 r p c = Ab_l0 aY8.2.2.1 [aY8.2.2.2.2.2.1.headD default] aY8.2.2.2.1 r p c [(aY8.2.2.2.2.2.1.headD default).1] big 0 [] [] := by
  intro r p c
  have := final1 aY8.2.2.1 (aY8.2.2.2.2.2.1.headD default) aY8.2.2.2.1 r p c
  rw [← slots1] at this
  rw [this, ← slots1]
 rw [h]
 have h2 : ∀ r p c k, AY aY8.2.2.1 aY8.2.2.2.2.2.1 aY8.2.2.2.1 r p c k = AY aY8.2.2.1 [aY8.2.2.2.2.2.1.headD default] aY8.2.2.2.1 r p c k := by
  intro r p c k; rw [← slots1]
 rw [h2]
 exact alive2
end Go.Proofs.YtljjdeanilgloaaGreatDoor.Wk
