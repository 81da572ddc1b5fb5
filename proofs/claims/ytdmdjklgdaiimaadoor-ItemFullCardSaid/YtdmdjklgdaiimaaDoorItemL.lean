/- The laws of tables of items, with the arguments' bounds as the rows have them. -/
import Derived.Test.YtdmdjklgdaiimaaDoorItemP
set_option linter.unusedVariables false
set_option linter.unusedSimpArgs false
set_option linter.unusedSectionVars false
namespace Go.Proofs.YtdmdjklgdaiimaaDoor.Wk
open Go Go.Cn
theorem wfV_of {c : T_api_Config} (h : wfL (c_T_api_Config c)) : WfV c := by
  have m : ∀ {x}, x ∈ c_T_api_Config c → wfC x := fun hx => h _ hx
  refine ⟨wf_u32 (m (x := .int .u32 c.f_Epoch) (by simp [c_T_api_Config])), wf_u8 (m (x := .int .u8 c.f_R) (by simp [c_T_api_Config])), wf_u8 (m (x := .int .u8 c.f_W) (by simp [c_T_api_Config])), fun i hi => wf_u8 (m (x := .int .u8 (A8.get c.f_Votes i)) ?_)⟩
  rcases (by omega : i = 0 ∨ i = 1 ∨ i = 2 ∨ i = 3 ∨ i = 4 ∨ i = 5 ∨ i = 6 ∨ i = 7) with rfl | rfl | rfl | rfl | rfl | rfl | rfl | rfl <;> simp [c_T_api_Config, A8.get]
theorem wfI_of {i : T_api_Item} (h : wfL (c_T_api_Item i)) : WfI i :=
  ⟨wf_u32 (h (.int .u32 i.f_Version) List.mem_cons_self), wfV_of (fun x hx => h x (List.mem_cons_of_mem _ (List.mem_cons_of_mem _ hx)))⟩
theorem wfW_of {w : T_api_Write} (h : wfL (c_T_api_Write w)) : WfW w := by
  have e : c_T_api_Write w = kc w.f_Key ++ c_T_api_Item w.f_Item := rfl
  rw [e] at h
  exact ⟨wfK_of _ fun x hx => h x (List.mem_append_left _ hx), wfI_of fun x hx => h x (List.mem_append_right _ hx)⟩
theorem plays_law (l : List T_api_Write) (h : (∀ a ∈ l, wfL (c_T_api_Write a)) ∧ l.length * 48 ≤ 140737488351232) : parrellaw13_ItemPlays l = some true := plays_eq l fun w hw => wfW_of (h.1 w hw)
theorem rise_law (l : List T_api_Write) (h : (∀ a ∈ l, wfL (c_T_api_Write a)) ∧ l.length * 48 ≤ 140737488351232) : parrellaw13_ItemRise l = some true := rise_eq l fun w hw => wfW_of (h.1 w hw)
theorem merges_law (a b : List T_api_Write) (h1 : (∀ x ∈ a, wfL (c_T_api_Write x)) ∧ a.length * 48 ≤ 140737488351232) (h2 : (∀ x ∈ b, wfL (c_T_api_Write x)) ∧ b.length * 48 ≤ 140737488351232) : parrellaw13_ItemMerges a b = some true :=
  merges_eq a b (fun w hw => wfW_of (h1.1 w hw)) (fun w hw => wfW_of (h2.1 w hw))
end Go.Proofs.YtdmdjklgdaiimaaDoor.Wk
