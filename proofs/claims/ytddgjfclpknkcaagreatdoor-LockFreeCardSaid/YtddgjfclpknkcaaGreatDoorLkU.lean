import Derived.Test.YtddgjfclpknkcaaGreatDoorLkK
set_option linter.unusedVariables false
set_option linter.unusedSimpArgs false
namespace Go.Proofs.YtddgjfclpknkcaaGreatDoor.Wk
open Go Go.Cn
theorem txL_zero (a b : TX) : lexI (txL a) (txL b) = 0 ↔ a = b := by
 rw [lex_zero (txL a) (txL b) rfl]
 obtain ⟨x, y, z⟩ := a
 obtain ⟨x', y', z'⟩ := b
 simp [txL]
theorem tx_total : TotCmp (fun a b => lexI (txL a) (txL b)) := by
 have hs := swo_lex txL (fun _ _ => rfl)
 refine ⟨⟨hs.irrefl, hs.trans, hs.ntrans⟩, fun x y h1 h2 => ?_⟩
 simp only [Go.Proofs.ltOf, decide_eq_false_iff_not] at h1 h2
 have a1 := lex_anti (txL x) (txL y)
 exact (txL_zero x y).1 (by omega)
theorem users_eq (us : Us) (hd wt : Ps) (h : us.length ≤ 1000) : lT_Users us hd wt = some (sortL (fun a b => lexI (txL a) (txL b)) (us.map (·.1))) := by
 simp only [lT_Users, lT_ok, mKU, Option.bind_some]
 rw [sortO_eq tx_total txs_eq (by simp; unfold maxLen; omega) (by simp; omega)]
 rfl
end Go.Proofs.YtddgjfclpknkcaaGreatDoor.Wk
