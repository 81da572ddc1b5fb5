/- Plain facts: GatherMeets. -/
import Derived.Test.YtffmmflapagkhaaDoorGathC
set_option linter.unusedVariables false
set_option linter.unusedSimpArgs false
set_option linter.unusedSectionVars false
namespace Go.Proofs.YtffmmflapagkhaaDoor.Wk
open Go Go.Cn

theorem gathered_eq {c : T_api_Config} (h : WfV c) (hm : mayV c = true) {mode : Int} (ho : mode = 1 ∨ mode = 2) {s : Nat} (hs : s < 18446744073709551616) : parrellaw19_gathered mode c (s : Int) c = some (outG mode (foldG (fun _ => T_api_Item.mk 0 [] c) s c 8)) := by
  unfold parrellaw19_gathered
  rw [show (A8.mk 97 0 0 0 0 0 0 0 : A8 Int) = key97 from rfl, new_eq h hm ho, Option.bind_some, if_neg Bool.false_ne_true]
  refine gath_loop ho (fun _ => T_api_Item.mk 0 [] c) (fun i _ => ⟨(show (0 : Int) ≤ 2147483647 by decide), rfl, h, hm⟩) hs c (fun f i m' e mo nd no => parrellaw19_gathered_l0 mode c (s : Int) c f i m' e mo nd no) (fun f m' e mo nd no => ?_) (fun f i m' e mo nd no hi => ?_)
  · show parrellaw19_gathered_l0 _ _ _ _ (f + 1) 8 _ _ _ _ _ = _
    rw [parrellaw19_gathered_l0, if_neg (by decide)]
  · show parrellaw19_gathered_l0 _ _ _ _ (f + 1) (i : Int) _ _ _ _ _ = _
    rw [parrellaw19_gathered_l0, if_pos (by simp only [decide_eq_true_eq]; omega), if_pos (by omega), bitU s i hs hi, u8_succ hi]; rfl
theorem meets_round {c : T_api_Config} (h : WfV c) (hm : mayV c = true) {a b : Nat} (ha : a < 18446744073709551616) (hb : b < 18446744073709551616) {mode : Int} (ho : mode = 1 ∨ mode = 2) (f : Nat) :
    parrellaw19_GatherMeets_l0 c (a : Int) (b : Int) (f + 1) mode = parrellaw19_GatherMeets_l0 c (a : Int) (b : Int) f (IntKind.wrap .u8 (mode + 1)) := by
  have n1 := (foldG_nodes (fun _ => T_api_Item.mk 0 [] c) a c 8 (by omega)).1
  have n2 := (foldG_nodes (fun _ => T_api_Item.mk 0 [] c) b c 8 (by omega)).1
  have b1 := (foldG_nodes (fun _ => T_api_Item.mk 0 [] c) a c 8 (by omega)).2
  have b2 := (foldG_nodes (fun _ => T_api_Item.mk 0 [] c) b c 8 (by omega)).2
  have c1 := foldG_same (fun _ => T_api_Item.mk 0 [] c) a c (fun _ => rfl) 8
  have c2 := foldG_same (fun _ => T_api_Item.mk 0 [] c) b c (fun _ => rfl) 8
  have m1 := mask8 (s := a) (fun _ => T_api_Item.mk 0 [] c) c
  rw [parrellaw19_GatherMeets_l0, if_pos (by rcases ho with rfl | rfl <;> decide), gathered_eq h hm ho ha, Option.bind_some]
  generalize foldG (fun _ => T_api_Item.mk 0 [] c) a c 8 = X at n1 b1 c1 m1
  rw [if_neg (show ¬ (outG mode X).1 = true from Bool.false_ne_true), gathered_eq h hm (.inr rfl) hb, Option.bind_some]
  generalize foldG (fun _ => T_api_Item.mk 0 [] c) b c 8 = Y at n2 b2 c2
  rw [if_neg (show ¬ (outG 2 Y).1 = true from Bool.false_ne_true)]
  simp only [outG]
  have e1 : Int.tmod (a : Int) 256 = ((a % 256 : Nat) : Int) := by rw [show (256 : Int) = ((256 : Nat) : Int) from rfl, ← Int.ofNat_tmod]
  simp only [nodes_eq ho, nodes_eq (.inr rfl), Option.bind_some, e1, m1, c1, c2]
  rw [if_neg (by simp), ← m1, enough_eq ho h X.gr n1, Option.bind_some, enough_eq (.inr rfl) h Y.gr n2, Option.bind_some, if_pos rfl, and_u _ _ n1 n2]
  have hne : ((if mode = 2 then canW c X.nodes else canR c X.nodes) = true) → canW c Y.nodes = true → ¬ ((((X.nodes &&& Y.nodes : Nat) : Int) == 0) = true) := by
    intro h1 h2 h3
    have h4 : X.nodes &&& Y.nodes = 0 := by rw [beq_iff_eq] at h3; omega
    have hd := sumV_disj h (a := X.nodes) (b := Y.nodes) (fun i _ hh => by
      have : (X.nodes &&& Y.nodes).testBit i = true := by rw [Nat.testBit_and, hh.1, hh.2]; rfl
      rw [h4, Nat.zero_testBit] at this; cases this)
    have hrw := mayV_rw hm
    have w2 : c.f_W ≤ sumV c Y.nodes := by simpa [canW] using h2
    split at h1
    · have : c.f_W ≤ sumV c X.nodes := by simpa [canW] using h1
      omega
    · have : c.f_R ≤ sumV c X.nodes := by simpa [canR] using h1
      omega
  cases h1 : (if mode = 2 then canW c X.nodes else canR c X.nodes) with
  | false => rfl
  | true =>
    rw [if_pos rfl]
    cases h2 : canW c Y.nodes with
    | false => rfl
    | true => rw [if_pos rfl, if_neg (hne h1 h2)]
theorem meets_eq {c : T_api_Config} (h : WfV c) {a b : Int} (ha : 0 ≤ a ∧ a < 18446744073709551616) (hb : 0 ≤ b ∧ b < 18446744073709551616) : parrellaw19_GatherMeets c a b = some true := by
  obtain ⟨a, rfl⟩ : ∃ n : Nat, a = (n : Int) := ⟨a.toNat, by omega⟩
  obtain ⟨b, rfl⟩ : ∃ n : Nat, b = (n : Int) := ⟨b.toNat, by omega⟩
  unfold parrellaw19_GatherMeets
  rw [refMay_eq h, Option.bind_some]
  cases hm : mayV c with
  | false => exact alive_tail
  | true =>
    rw [if_neg (by simp)]
    obtain ⟨f, hf⟩ : ∃ f, big = f + 1 + 1 + 1 := ⟨big - 3, by have := big_lt (n := 3) (by omega); omega⟩
    rw [hf, meets_round h hm (by omega) (by omega) (.inl rfl), show IntKind.wrap .u8 ((1 : Int) + 1) = 2 from rfl, meets_round h hm (by omega) (by omega) (.inr rfl), show IntKind.wrap .u8 ((2 : Int) + 1) = 3 from rfl, parrellaw19_GatherMeets_l0, if_neg (by decide)]
    exact alive_tail
theorem meets_law (c : T_api_Config) (a b : Int) (h : wfL (c_T_api_Config c)) (h1 : (Lit.int .u64 a).wf = true) (h2 : (Lit.int .u64 b).wf = true) : parrellaw19_GatherMeets c a b = some true := meets_eq (wfV_of h) (wf_u64 h1) (wf_u64 h2)
end Go.Proofs.YtffmmflapagkhaaDoor.Wk
