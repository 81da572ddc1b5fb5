/- What Next gives may follow. -/
import Derived.Test.YtgbhbcigjgcedaaDoorConfP
set_option linter.unusedVariables false
set_option linter.unusedSimpArgs false
set_option linter.unusedSectionVars false
namespace Go.Proofs.YtgbhbcigjgcedaaDoor.Wk
open Go Go.Cn
def restV (c : T_api_Config) : Bool := low c && (decide (1 ≤ c.f_R ∧ c.f_R ≤ tot c) && (decide (1 ≤ c.f_W ∧ c.f_W ≤ tot c) && (decide (tot c < c.f_R + c.f_W) && decide (tot c < 2 * c.f_W))))
theorem mayV_rest (c : T_api_Config) : mayV c = (decide (1 ≤ c.f_Epoch ∧ c.f_Epoch ≤ 2147483647) && restV c) := rfl
theorem wfEp {c : T_api_Config} (h : WfV c) {e : Int} (he : 0 ≤ e ∧ e < 4294967296) : WfV ⟨e, c.f_R, c.f_W, c.f_Votes⟩ := ⟨he, h.r, h.w, h.v⟩
theorem new_one {e : Int} (he : 0 ≤ e ∧ e < 4294967296) : conf_New [T_api_Write.mk k97 (T_api_Item.mk 0 [] (one e))] = some (if mayV (one e) = true then (false, (), [(k97, one e)]) else (true, (), default)) := by
  have hn : (ids_Name k97).map (·.2) = some true := by kernel_rfl
  obtain ⟨r, hr, hr2⟩ := Option.map_eq_some_iff.1 hn
  have hi : msg_ItemMay (T_api_Item.mk 0 [] (one e)) = some (mayV (one e)) := by
    rw [itemMay_eq ⟨by simp, wfOne he⟩]
    rfl
  unfold conf_New
  rw [conf_New_w0 _ [] (by show 1 < 9223372036854775807; decide)]
  show conf_New_b0 (T_api_Write.mk k97 (T_api_Item.mk 0 [] (one e))) [] conf_New_e0 = _
  unfold conf_New_b0
  simp only [hr, hi, Option.bind_some, hr2, Bool.not_true, Bool.false_eq_true, if_false, mget, Option.isSome_none]
  cases mayV (one e) <;> rfl
theorem next_eq (e : Int) (c : T_api_Config) (he : 0 ≤ e ∧ e < 4294967296) (hc : WfV c) : parrellaw21_ConfNext e c = some true := by
  have g1 : ∀ e, parrellaw21_one e = some (one e) := fun _ => rfl
  unfold parrellaw21_ConfNext
  rw [first_eq, Option.bind_some, new_one he, Option.bind_some]
  cases hm : mayV (one e) with
  | false =>
    rw [if_neg Bool.false_ne_true, if_pos rfl, g1, Option.bind_some, refMay_eq (wfOne he), hm]
    exact alive_tail
  | true =>
    have hb : 1 ≤ e ∧ e ≤ 2147483647 := by
      rw [mayV_rest] at hm; simp only [Bool.and_eq_true, decide_eq_true_eq] at hm; exact hm.1
    rw [if_pos rfl, if_neg Bool.false_ne_true]
    have hg : mget [(k97, one e)] k97 = some (one e) := by simp [mget]
    have ho : conf_Book_Of [(k97, one e)] k97 = some (one e, true) := by rw [of_eq, hg]
    have hf : conf_Book_find [(k97, one e)] k97 = some (one e, 0) := by rw [find_eq, hg]
    by_cases hx : 2147483647 ≤ e
    · have hN : conf_Book_Next_3 [(k97, one e)] k97 c.f_R c.f_W c = some (T_api_Config.mk 0 0 0 (A8.mk 0 0 0 0 0 0 0 0), 17) := by
        unfold conf_Book_Next_3 bits_Next
        rw [hf, Option.bind_some]
        simp only [bne_self_eq_false, Bool.false_eq_true, if_false]
        rw [show (one e).f_Epoch = e from rfl, if_pos (by simpa using hx)]
        rfl
      show (conf_Book_Next_3 [(k97, one e)] k97 c.f_R c.f_W c).bind _ = _
      rw [hN, Option.bind_some]
      show (conf_Book_Of [(k97, one e)] k97).bind _ = _
      rw [ho, Option.bind_some, g1, Option.bind_some, if_neg (by simp), if_pos (by decide), if_pos (by simp), if_pos (by simpa using hx)]
      exact alive_tail
    · have hw := wfEp hc (e := e + 1) (by omega)
      have hbn : bits_Next e = some (e + 1, 0) := by
        unfold bits_Next
        rw [if_neg (by simpa using hx), wu32 (by omega) (by omega)]
      have hN : conf_Book_Next_3 [(k97, one e)] k97 c.f_R c.f_W c = some (if mayV ⟨e + 1, c.f_R, c.f_W, c.f_Votes⟩ = true then (⟨e + 1, c.f_R, c.f_W, c.f_Votes⟩, 0) else (T_api_Config.mk 0 0 0 (A8.mk 0 0 0 0 0 0 0 0), 16)) := by
        unfold conf_Book_Next_3
        rw [hf, Option.bind_some]
        simp only [bne_self_eq_false, Bool.false_eq_true, if_false]
        rw [show (one e).f_Epoch = e from rfl, hbn, Option.bind_some]
        simp only [bne_self_eq_false, Bool.false_eq_true, if_false]
        unfold votes_Make
        rw [votesMay_eq hw]
        cases mayV (⟨e + 1, c.f_R, c.f_W, c.f_Votes⟩ : T_api_Config) <;> rfl
      have hd : decide (1 ≤ e + 1 ∧ e + 1 ≤ 2147483647) = true := decide_eq_true (by omega)
      show (conf_Book_Next_3 [(k97, one e)] k97 c.f_R c.f_W c).bind _ = _
      rw [hN, Option.bind_some]
      show (conf_Book_Of [(k97, one e)] k97).bind _ = _
      rw [ho, Option.bind_some, g1, Option.bind_some, if_neg (by simp)]
      have hrest : mayV (⟨e + 1, c.f_R, c.f_W, c.f_Votes⟩ : T_api_Config) = restV c := by
        rw [mayV_rest]
        show (decide (1 ≤ e + 1 ∧ e + 1 ≤ 2147483647) && restV c) = restV c
        rw [hd, Bool.true_and]
      have hrest1 : mayV (⟨1, c.f_R, c.f_W, c.f_Votes⟩ : T_api_Config) = restV c := by
        rw [mayV_rest]
        show (decide ((1 : Int) ≤ 1 ∧ (1 : Int) ≤ 2147483647) && restV c) = restV c
        rw [show decide ((1 : Int) ≤ 1 ∧ (1 : Int) ≤ 2147483647) = true by decide, Bool.true_and]
      cases hv : restV c with
      | false =>
        rw [hrest, hv, if_neg Bool.false_ne_true, if_pos (by decide), if_pos (by simp), if_neg (by simpa using hx), refMay_eq (wfEp hc (e := 1) (by decide)), hrest1, hv]
        exact alive_tail
      | true =>
        have hmay : mayV (⟨e + 1, c.f_R, c.f_W, c.f_Votes⟩ : T_api_Config) = true := hrest.trans hv
        have hA : votes_After (one e) ⟨e + 1, c.f_R, c.f_W, c.f_Votes⟩ = some 0 := by
          unfold votes_After
          rw [show (one e).f_Epoch = e from rfl, hbn, Option.bind_some]
          simp only [bne_self_eq_false, Bool.false_eq_true, if_false]
          rw [votesMay_eq hw, hmay]; rfl
        have hL : conf_Book_Learn [(k97, one e)] k97 ⟨e + 1, c.f_R, c.f_W, c.f_Votes⟩ = some (0, mset [(k97, one e)] k97 ⟨e + 1, c.f_R, c.f_W, c.f_Votes⟩) := by
          rw [learn_eq _ _ hw]
          unfold learnC
          rw [hg]
          simp only [hmay, Bool.true_eq_false, if_false, show (one e).f_Epoch = e from rfl]
          rw [if_neg (by omega), if_neg (fun hh => by omega)]
        rw [hmay, if_pos rfl, if_neg (by simp), wu32 (x := e + 1) (by omega) (by omega)]
        simp only [beq_self_eq_true, if_true, decide_true, hA, Option.bind_some]
        show (conf_Book_Learn [(k97, one e)] k97 _).bind _ = _
        rw [hL, Option.bind_some, if_pos (by simp)]
        exact alive_tail
theorem next_law (e : Int) (c : T_api_Config) (h1 : (Lit.int .u32 e).wf = true) (h2 : wfL (c_T_api_Config c)) : parrellaw21_ConfNext e c = some true := next_eq e c (wf_u32 (n := e) h1) (wfV_of h2)
end Go.Proofs.YtgbhbcigjgcedaaDoor.Wk
