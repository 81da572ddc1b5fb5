/- Plain facts: a stage's other calls; the document's stage. -/
import Derived.Test.YtfjdnnoflmpdeaaDoorStaP
set_option linter.unusedVariables false
set_option linter.unusedSimpArgs false
set_option linter.unusedSectionVars false
namespace Go.Proofs.YtfjdnnoflmpdeaaDoor.Wk
open Go Go.Cn
open Go.Proofs.YtfjdnnoflmpdeaaDoor.Ri (Rises pre suf at_ Pair)
variable {L : List T_parrelref14_One} {all : List (T_api_Tx × T_stage_prepared)} {own : List (A8 Int × T_api_Tx)}

theorem allT_eq (h : St L all own) : stage_Stage_All all own = some (L.map kfO) := by
  have hl := h.len
  have hml : (all.map (·.1)).length = L.length := by rw [List.length_map]; exact h.al.len
  have h1 : stage_Stage_ok all own = some () := rfl
  have h2 : maps_Keys_map_api_Tx_stage_prepared_api_Tx_stage_prepared all = some () := rfl
  unfold stage_Stage_All
  rw [h1, Option.bind_some, h2, Option.bind_some, sortO_eq cfT_total txs_eq (by show _ ≤ maxLen; unfold maxLen; omega) (by omega), Option.bind_some, h.al.sorted cfT_total]
end Go.Proofs.YtfjdnnoflmpdeaaDoor.Wk
