/- Plain facts: ScriptOne. -/
import Derived.Test.YtdchgoaokceomaaDoorOneT
set_option linter.unusedVariables false
set_option linter.unusedSimpArgs false
set_option linter.unusedSectionVars false
namespace Go.Proofs.YtdchgoaokceomaaDoor.Wk
open Go Go.Cn
theorem alive_eq : parrellaw27_alive = some true := by kernel_rfl
theorem one_law0 (text : List UInt8) : parrellaw27_ScriptOne text = some true := by
  unfold parrellaw27_ScriptOne
  by_cases h : 20000 < text.length
  · rw [if_pos (by rw [decide_eq_true_eq]; omega), alive_eq]; rfl
  rw [if_neg (by rw [decide_eq_true_eq]; omega)]
  obtain ⟨s, e, p1, p2⟩ := parse_tot text (by omega)
  obtain ⟨l, f, a1, a2⟩ := all_tot big text [] (by have := big_lt (n := 1000000) (by omega); omega) (by omega) (by simp)
  have a1 : script_All text = some (l, f) := a1
  have fin : parrellaw27_ScriptOne_c9 text (l, f) = some true := by
    unfold parrellaw27_ScriptOne_c9
    rcases a2 with ⟨rfl, r, rfl, ht, hl⟩ | ⟨hf, rfl, ha⟩
    · dsimp only
      rw [if_neg (by simp), text_eq _ text (by simpa using hl) ht (by omega), Option.bind_some]
      dsimp only
      rw [if_pos (by simp), if_pos (by rfl), alive_eq]; rfl
    · dsimp only
      rw [if_pos (by simpa using hf), if_pos (by rfl), if_pos (by simpa using ha), alive_eq]; rfl
  rw [p1, Option.bind_some]
  dsimp only
  by_cases he : e = 0
  · subst he
    obtain ⟨g, hg, rfl, hJ⟩ := p2 rfl
    rw [if_pos (by rfl), line_good g hg, Option.bind_some]
    dsimp only
    rw [if_neg (by simp [← hJ]), if_neg (by decide), a1, Option.bind_some, fin]
  · rw [if_neg (by simpa using he), a1, Option.bind_some]
    exact fin
theorem one_law (text : List UInt8) (_ : text.length ≤ maxLen) : parrellaw27_ScriptOne text = some true := one_law0 text
end Go.Proofs.YtdchgoaokceomaaDoor.Wk
