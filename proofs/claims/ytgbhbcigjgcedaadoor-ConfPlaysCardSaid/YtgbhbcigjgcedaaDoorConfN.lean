/- Plain facts: ConfPlays, the next one and the law. -/
import Derived.Test.YtgbhbcigjgcedaaDoorConfR
set_option linter.unusedVariables false
set_option linter.unusedSimpArgs false
set_option linter.unusedSectionVars false
namespace Go.Proofs.YtgbhbcigjgcedaaDoor.Wk
open Go Go.Cn
open Go.Proofs.YtgbhbcigjgcedaaDoor.Ri (Rises pre suf at_ Pair)
def cfgN (v : List Int) : A8 Int := A8.mk (if 0 < v.length then (v.getD 0 default) else 0) (if 1 < v.length then (v.getD 1 default) else 0) (if 2 < v.length then (v.getD 2 default) else 0) (if 3 < v.length then (v.getD 3 default) else 0) (if 4 < v.length then (v.getD 4 default) else 0) (if 5 < v.length then (v.getD 5 default) else 0) (if 6 < v.length then (v.getD 6 default) else 0) (if 7 < v.length then (v.getD 7 default) else 0)
theorem cfg_walk (e : A8 Int → Option (T_api_Config × Int)) (v : List Int) (h : v.length ≤ 8) : walkN (parrelref06_Make_b0 v) e v.length 0 (A8.mk 0 0 0 0 0 0 0 0) = e (cfgN v) := by
  rcases v with _ | ⟨a0, _ | ⟨a1, _ | ⟨a2, _ | ⟨a3, _ | ⟨a4, _ | ⟨a5, _ | ⟨a6, _ | ⟨a7, _ | ⟨a8, v⟩⟩⟩⟩⟩⟩⟩⟩⟩
  all_goals first
    | (simp only [List.length_cons] at h; omega)
    | simp [walkN, parrelref06_Make_b0, A8.set, cfgN]
theorem cfg_wf {e r w : Int} (he : 0 ≤ e ∧ e < 4294967296) (hr : 0 ≤ r ∧ r < 256) (hw : 0 ≤ w ∧ w < 256) {v : List Int} (hv : ∀ x ∈ v, 0 ≤ x ∧ x < 256) : WfV ⟨e, r, w, cfgN v⟩ := by
  refine ⟨he, hr, hw, fun i hi => ?_⟩
  have g : ∀ j, 0 ≤ (if j < v.length then v.getD j default else 0) ∧ (if j < v.length then v.getD j default else 0) < 256 := fun j => by
    split
    · exact hv _ (getD_mem ‹_›)
    · omega
  rcases (by omega : i = 0 ∨ i = 1 ∨ i = 2 ∨ i = 3 ∨ i = 4 ∨ i = 5 ∨ i = 6 ∨ i = 7) with rfl | rfl | rfl | rfl | rfl | rfl | rfl | rfl
  · exact g 0
  · exact g 1
  · exact g 2
  · exact g 3
  · exact g 4
  · exact g 5
  · exact g 6
  · exact g 7
theorem make_both {e r w : Int} (he : 0 ≤ e ∧ e < 4294967296) (hr : 0 ≤ r ∧ r < 256) (hw : 0 ≤ w ∧ w < 256) {v : List Int} (hv : ∀ x ∈ v, 0 ≤ x ∧ x < 256) (hl : v.length ≤ 100) : ∃ q, votes_Make e r w v = some q ∧ parrelref06_Make e r w v = some q := by
  have vm : votes_Make e r w v = if decide (((min v.length 8 : Nat) : Int) < (v.length : Int)) = true then some (⟨0, 0, 0, A8.mk 0 0 0 0 0 0 0 0⟩, 16) else (votes_May ⟨e, r, w, cfgN v⟩).bind fun y3 => if (!y3) = true then some (⟨0, 0, 0, A8.mk 0 0 0 0 0 0 0 0⟩, 16) else some (⟨e, r, w, cfgN v⟩, 0) := rfl
  rw [vm, parrelref06_Make]
  by_cases h8 : v.length ≤ 8
  · have hm := cfg_wf he hr hw hv
    rw [if_neg (by rw [decide_eq_true_eq]; omega), if_neg (by rw [decide_eq_true_eq]; omega), parrelref06_Make_w0 _ _ _ _ _ (by omega), cfg_walk _ _ h8, parrelref06_Make_e0, refMay_eq hm, votesMay_eq hm]
    cases mayV ⟨e, r, w, cfgN v⟩ <;> exact ⟨_, rfl, rfl⟩
  · rw [if_pos (by rw [decide_eq_true_eq]; omega), if_pos (by rw [decide_eq_true_eq]; omega)]
    exact ⟨_, rfl, rfl⟩
theorem next_both {L : List Kn} {m : Bk} (h : Both L m) (k : A8 Int) {r w : Int} (hr : 0 ≤ r ∧ r < 256) (hw : 0 ≤ w ∧ w < 256) {v : List Int} (hv : ∀ x ∈ v, 0 ≤ x ∧ x < 256) (hl : v.length ≤ 100) :
    ∃ q, conf_Book_Next m k r w v = some q ∧ parrelref21_Book_Next ⟨L⟩ k r w v = some q := by
  have hg : mget m k = (at_ cfK kfN L k).map fun e => (prN e).2 := h.al.get cfK_total k
  unfold conf_Book_Next parrelref21_Book_Next
  rw [find_eq, rfind_eq h.inv, hg, Option.bind_some, Option.bind_some]
  cases ha : at_ cfK kfN L k with
  | none => exact ⟨_, rfl, rfl⟩
  | some e =>
    obtain ⟨h1, h2⟩ := Ri.getD_pre (cf := cfK) (kf := kfN) ha
    have hwf := (h.inv.wf _ (Ri.at_mem ha).1).2.1.e
    have hb : (0 : Int) ≤ ((pre cfK kfN L k).length : Int) ∧ ((pre cfK kfN L k).length : Int) < (((T_parrelref21_Book.mk L).f_L.length : Nat) : Int) := by show _ ∧ _ < ((L.length : Nat) : Int); omega
    have e2 : (T_parrelref21_Book.mk L).f_L.getD (pre cfK kfN L k).length default = e := h2
    rw [if_pos (show (some e).isSome = true from rfl), if_neg (show ¬ decide (((pre cfK kfN L k).length : Int) < 0) = true by rw [decide_eq_true_eq]; omega), if_pos hb, Int.toNat_natCast, e2]
    simp only [Option.map_some]
    unfold bits_Next
    by_cases hE : 2147483647 ≤ e.f_Conf.f_Epoch
    · refine ⟨_, ?_, if_pos (decide_eq_true hE)⟩
      show (if (0 : Int) != 0 then _ else _) = _
      rw [if_neg (by simp)]
      show ((if decide (2147483647 ≤ e.f_Conf.f_Epoch) = true then some (e.f_Conf.f_Epoch, 17) else some (IntKind.wrap .u32 (e.f_Conf.f_Epoch + 1), 0)).bind _) = _
      rw [if_pos (decide_eq_true hE)]; rfl
    · have he1 : IntKind.wrap .u32 (e.f_Conf.f_Epoch + 1) = e.f_Conf.f_Epoch + 1 := wu32 (by omega) (by omega)
      obtain ⟨q, q1, q2⟩ := make_both (e := e.f_Conf.f_Epoch + 1) (by omega) hr hw hv hl
      refine ⟨q, ?_, ?_⟩
      · show (if (0 : Int) != 0 then _ else _) = _
        rw [if_neg (by simp)]
        show ((if decide (2147483647 ≤ e.f_Conf.f_Epoch) = true then some (e.f_Conf.f_Epoch, 17) else some (IntKind.wrap .u32 (e.f_Conf.f_Epoch + 1), 0)).bind _) = _
        rw [if_neg (by rw [decide_eq_true_eq]; exact hE), he1, Option.bind_some]
        show (votes_Make (e.f_Conf.f_Epoch + 1) r w v).bind _ = _
        rw [q1]; rfl
      · rw [if_neg (by rw [decide_eq_true_eq]; exact hE), he1, q2]; rfl
end Go.Proofs.YtgbhbcigjgcedaaDoor.Wk
