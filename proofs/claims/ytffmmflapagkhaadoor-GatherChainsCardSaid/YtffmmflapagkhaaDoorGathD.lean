/- Plain facts: GatherChains. -/
import Derived.Test.YtffmmflapagkhaaDoorGathC
set_option linter.unusedVariables false
set_option linter.unusedSimpArgs false
set_option linter.unusedSectionVars false
namespace Go.Proofs.YtffmmflapagkhaaDoor.Wk
open Go Go.Cn

def itC (w : Nat) (young old : T_api_Config) (i : Nat) : T_api_Item := if w.testBit i = true then T_api_Item.mk 2 [] young else T_api_Item.mk 1 [] old
theorem itC_ok {w : Nat} {young old : T_api_Config} (hy : WfV young) (ho : WfV old) (my : mayV young = true) (mo : mayV old = true) (i : Nat) : OkIt (itC w young old i) := by
  unfold itC
  split
  · exact ⟨(show (2 : Int) ≤ 2147483647 by decide), rfl, hy, my⟩
  · exact ⟨(show (1 : Int) ≤ 2147483647 by decide), rfl, ho, mo⟩
theorem itC_eq {w : Nat} (hw : w < 18446744073709551616) (young old : T_api_Config) {i : Nat} (hi : i < 8) : parrellaw19_GatherChains_L1 (i : Int) (w : Int) young old = some (itC w young old i) := by
  unfold parrellaw19_GatherChains_L1 itC
  rw [if_pos (by omega), bitU w i hw hi]
  cases w.testBit i <;> rfl
theorem gathered3_eq {old young : T_api_Config} (ho : WfV old) (hy : WfV young) (mo : mayV old = true) (my : mayV young = true) {w s : Nat} (hw : w < 18446744073709551616) (hs : s < 18446744073709551616) :
    parrellaw19_gathered 1 old (s : Int) (w : Int) young old = some (outG 1 (foldG (itC w young old) s old 8)) := by
  unfold parrellaw19_gathered
  rw [show (A8.mk 97 0 0 0 0 0 0 0 : A8 Int) = key97 from rfl, new_eq ho mo (.inl rfl), Option.bind_some, if_neg Bool.false_ne_true]
  refine gath_loop (.inl rfl) (itC w young old) (fun i _ => itC_ok hy ho my mo i) hs old (fun f i m' e mo nd no => parrellaw19_gathered_l0 1 old (s : Int) (w : Int) young old f i m' e mo nd no) (fun f m' e mo nd no => ?_) (fun f i m' e mo nd no hi => ?_)
  · show parrellaw19_gathered_l0 _ _ _ _ _ _ (f + 1) 8 _ _ _ _ _ = _
    rw [parrellaw19_gathered_l0, if_neg (by decide)]
  · show parrellaw19_gathered_l0 _ _ _ _ _ _ (f + 1) (i : Int) _ _ _ _ _ = _
    rw [parrellaw19_gathered_l0, if_pos (by simp only [decide_eq_true_eq]; omega), if_pos (by omega), bitU s i hs hi, u8_succ hi, itC_eq hw young old hi]; rfl
/-- The configuration that a gathering ends with. -/
theorem conf_fold {old young : T_api_Config} (he : old.f_Epoch < young.f_Epoch) (w s : Nat) : ∀ i, ((foldG (itC w young old) s old i).conf = young ∧ ∃ j, j < i ∧ s.testBit j = true ∧ w.testBit j = true) ∨ ((foldG (itC w young old) s old i).conf = old ∧ ∀ j, j < i → ¬ (s.testBit j = true ∧ w.testBit j = true))
  | 0 => .inr ⟨rfl, fun j h => by omega⟩
  | i + 1 => by
    rw [foldG_succ]
    unfold stepG
    by_cases hb : s.testBit i = true
    · rw [if_pos hb]
      have ic : (itC w young old i).f_Conf = if w.testBit i = true then young else old := by unfold itC; split <;> rfl
      dsimp only
      rw [ic]
      rcases conf_fold he w s i with ⟨h1, j, h2, h3⟩ | ⟨h1, h2⟩
      · refine .inl ⟨?_, j, by omega, h3⟩
        rw [h1]
        by_cases hw : w.testBit i = true
        · rw [if_pos hw, if_neg (by omega)]
        · rw [if_neg hw, if_neg (by omega)]
      · rw [h1]
        by_cases hw : w.testBit i = true
        · rw [if_pos hw, if_pos he]
          exact .inl ⟨rfl, i, by omega, hb, hw⟩
        · rw [if_neg hw, if_neg (by omega)]
          refine .inr ⟨rfl, fun j hj => ?_⟩
          rcases (by omega : j < i ∨ j = i) with h | rfl
          · exact h2 j h
          · exact fun h => hw h.2
    · rw [if_neg hb]
      rcases conf_fold he w s i with ⟨h1, j, h2, h3⟩ | ⟨h1, h2⟩
      · exact .inl ⟨h1, j, by omega, h3⟩
      · refine .inr ⟨h1, fun j hj => ?_⟩
        rcases (by omega : j < i ∨ j = i) with h | rfl
        · exact h2 j h
        · exact fun h => hb h.1
theorem conf_eq {mode : Int} (ho : mode = 1 ∨ mode = 2) (c : T_api_Config) (gr : A8 T_gather_Got) (n : Int) : gather_Gather_Conf (T_gather_Gather.mk mode c [] gr n) = some c := by
  have hok : gather_Gather_ok (T_gather_Gather.mk mode c [] gr n) = some true := by
    unfold gather_Gather_ok; rcases ho with rfl | rfl <;> rfl
  unfold gather_Gather_Conf
  rw [hok]; rfl
theorem chains_eq {old young : T_api_Config} (ho : WfV old) (hy : WfV young) {sets : A2 Int} (h0 : 0 ≤ sets.a0 ∧ sets.a0 < 18446744073709551616) (h1 : 0 ≤ sets.a1 ∧ sets.a1 < 18446744073709551616) : parrellaw19_GatherChains old young sets = some true := by
  obtain ⟨a0, a1⟩ := sets
  simp only at h0 h1
  obtain ⟨w, rfl⟩ : ∃ n : Nat, a0 = (n : Int) := ⟨a0.toNat, by omega⟩
  obtain ⟨s, rfl⟩ : ∃ n : Nat, a1 = (n : Int) := ⟨a1.toNat, by omega⟩
  have hw : w < 18446744073709551616 := by omega
  have hs : s < 18446744073709551616 := by omega
  unfold parrellaw19_GatherChains
  rw [refMay_eq ho, Option.bind_some]
  cases mo : mayV old with
  | false => exact alive_tail
  | true =>
    rw [if_neg (by simp), refMay_eq hy, Option.bind_some]
    cases my : mayV young with
    | false => exact alive_tail
    | true =>
      rw [if_neg (by simp)]
      by_cases he : young.f_Epoch ≤ old.f_Epoch
      · rw [if_pos (by simpa using he)]; exact alive_tail
      · rw [if_neg (by simpa using he)]
        show ((parrelref06_Of old (w : Int)).bind _) = _
        rw [rof_eq ho hw, Option.bind_some, w64 (by have := ho.w; omega) (by have := ho.w; omega)]
        by_cases hW : sumV old w < old.f_W
        · rw [if_pos (by simpa using hW)]; exact alive_tail
        · rw [if_neg (by simpa using hW)]
          show ((parrellaw19_gathered 1 old (s : Int) (w : Int) young old).bind _) = _
          rw [gathered3_eq ho hy mo my hw hs, Option.bind_some]
          have hc := conf_fold (old := old) (young := young) (by omega) w s 8
          obtain ⟨n1, n2⟩ := foldG_nodes (itC w young old) s old 8 (by omega)
          generalize foldG (itC w young old) s old 8 = X at hc n1 n2
          rw [if_neg (show ¬ (outG 1 X).1 = true from Bool.false_ne_true)]
          simp only [outG]
          rcases hc with ⟨hX, _⟩ | ⟨hX, hd⟩
          · rw [hX, enough_eq (.inl rfl) hy X.gr n1, Option.bind_some]
            simp only [conf_eq (.inl rfl), Option.bind_some]
            have e12 : (if (1 : Int) = 2 then canW young X.nodes else canR young X.nodes) = canR young X.nodes := if_neg (by decide)
            rw [e12]
            cases canR young X.nodes with
            | false => rw [if_pos (by simp), if_pos (by simp)]; exact alive_tail
            | true => rw [if_neg (by simp), if_pos (by simp), if_pos (by simp)]; exact alive_tail
          · have hno : canR old X.nodes = false := by
              have hdj := sumV_disj ho (a := X.nodes) (b := w) (fun i hi hh => by
                have h3 := hh.1
                rw [n2, Bool.and_eq_true] at h3
                exact hd i hi ⟨h3.2, hh.2⟩)
              have := mayV_rw mo
              unfold canR
              exact decide_eq_false (by omega)
            have e12 : (if (1 : Int) = 2 then canW old X.nodes else canR old X.nodes) = canR old X.nodes := if_neg (by decide)
            rw [hX, enough_eq (.inl rfl) ho X.gr n1, Option.bind_some, e12, hno, if_pos (by simp)]
            simp only [conf_eq (.inl rfl), Option.bind_some]
            by_cases hyo : old = young
            · rw [if_pos (by simpa using hyo)]; exact alive_tail
            · rw [if_neg (by simpa using hyo), if_pos (by simp)]; exact alive_tail
theorem chains_law (old young : T_api_Config) (sets : A2 Int) (h : wfL (c_T_api_Config old)) (h' : wfL (c_T_api_Config young)) (h1 : wfL [.int .u64 sets.a0, .int .u64 sets.a1]) : parrellaw19_GatherChains old young sets = some true :=
  chains_eq (wfV_of h) (wfV_of h') (wf_u64 (h1 _ List.mem_cons_self)) (wf_u64 (h1 _ (List.mem_cons_of_mem _ List.mem_cons_self)))
end Go.Proofs.YtffmmflapagkhaaDoor.Wk
