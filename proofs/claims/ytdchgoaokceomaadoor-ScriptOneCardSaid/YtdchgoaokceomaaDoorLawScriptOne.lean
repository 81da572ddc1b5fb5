/- The law ScriptOne holds for every input. -/
import Derived.Test.YtdchgoaokceomaaDoorRows
import Derived.Test.YtdchgoaokceomaaDoorOneZ
import Derived.Test.YtdchgoaokceomaaDoorCnS
import Derived.Test.YtdchgoaokceomaaDoorCards
import Derived.Test.YtdchgoaokceomaaDoorTie
import Derived.WalkKit
import Derived.ProofKit
import Derived.OpenShut
import Derived.ShutString
import Derived.ChangeOld
import Derived.Below
import Derived.SizedLaws
import Derived.LaidMore
import Derived.Lay
import Derived.SevenTiedAt
import Derived.Stop.Joined
import Derived.ChangeMaps5
namespace Go.Proofs.YtdchgoaokceomaaDoor.scriptOne
open Go.ChangeShapes Go.WideShapes Go.ChangeAt Go.RowKit Go.Cn
open Go.ChangeMaps (open_string shut_string)
open Go.Proofs.YtdchgoaokceomaaDoor.Wk
set_option linter.unusedVariables false
set_option linter.unusedSimpArgs false
theorem own : ownKnob Tryd.prog.godebug = none := by kernel_rfl
theorem laidOut : laidOutB Tryd.prog = true := by kernel_rfl
def laidL : List (String × DataW Unit) := [("unicode/utf8.acceptRanges", Rows.laid_unicode_utf8_acceptRanges), ("unicode/utf8.first", Rows.laid_unicode_utf8_first)]
set_option maxRecDepth 100000 in
theorem lifted (os : Os) (started : os.Started) (H : Type) (enc : TypeId × Value → H) :
    ReturnsInHanded {} Tryd.checked os 6 .any (fun w args => (Rows.scriptOneSpec.pre enc Tryd.prog Tryd.f6 Rows.scriptOneRow.domain false w args ∧ laidMetH Tryd.prog laidL w) ∧ sizedMet enc Tryd.prog Tryd.f6 (OpenSpec.ofChange Rows.scriptOneSpec) false w args) (Rows.scriptOneSpec.post enc Tryd.prog Tryd.f6 false true false false) := by
  refine returnsInHanded_of_change_and (C := Tryd.checked) (X := fun w _ => laidMetH Tryd.prog laidL w) (fun _ _ _ hh h => h.of_heap hh) own started (by kernel_rfl) Tryd.func6
    (ChangeSpec.witness_shaped (enc := enc) (C := Tryd.checked) (os := os) (X := fun w _ => laidMetH Tryd.prog laidL w) false (World.laidAll Tryd.prog os laidL) #[.string ⟨#[]⟩] 8 (World.laidAll_os _ _ _)
      (World.shaped_of_ZipB (by kernel_rfl) (by kernel_rfl)) (by kernel_rfl) (by kernel_rfl) (by kernel_rfl)
      (by rw [MakeChecks.laidMetH_plain _ _ _ (by kernel_rfl)]; exact laidMet_laidAll _ (by kernel_rfl) (by kernel_rfl))) ?_
  intro W base args ds gs before hval0 hW hcnd hsz0 hx_ hy_
  have hval : ∀ (j : Nat) t v, Tryd.f6.params[j]? = some t → args[j]? = some v → Value.okWide Tryd.prog W .any base t v := hval0
  have hW' := hW
  obtain ⟨p, q, hA0, hV, rfl, hfz, hnd⟩ := hW
  have hA : DataW.TrodAll enc Tryd.prog W 0 (fun _ => true) true Tryd.f6.params.toList args.toList ds p := hA0
  rw [Tryd.params6] at hA hval
  obtain ⟨v0, vs0, d0, ds0, p0, q0, hargs, rfl, rfl, h0, r0⟩ := trodAll_cons hA
  obtain ⟨rfl, rfl, rfl⟩ := trodAll_nil r0
  obtain rfl : args = #[v0] := by cases args; simp_all
  obtain ⟨rfl, rfl⟩ := trodVars_none hV
  have lt0 : ∀ x ∈ p0, x.block < W.heap.size := by obtain ⟨m, hm⟩ := h0; exact DataW.trod_lt m _ _ _ hm
  obtain ⟨s0, rfl, rfl, rfl, hs0⟩ := open_string Tryd.underlying9 (hval 0 _ v0 rfl rfl) h0
  obtain ⟨x0, hx0⟩ : ∃ x : List UInt8, x = s0.data.toList := ⟨_, rfl⟩
  have e0 : ∀ μ : Emb, Rel μ (.str x0) (.string s0) := fun _ => by rw [hx0]; simp [Rel]
  have g0 : x0.length ≤ maxLen := by rw [hx0]; exact hs0
  have tri := Wk.parrellaw27_ScriptOne_tri x0 true (Wk.one_law x0 g0)
  clear hA0 hval0 hsz0
  refine (below_of_tri tri (vals := [.string s0]) (w := W) (TabOK.no rfl) ⟨_, _, rfl, e0 _, rfl⟩).mono fun e W' he => ?_
  obtain ⟨⟨x, μ', rfl, hx⟩, bel⟩ := he
  simp only [Wk.parrellaw27_ScriptOne_v, Rel] at hx
  subst hx
  exact ⟨_, rfl, _, _, _, [], _, [], hW', trodAll_mk1 (shut_bool Tryd.underlying4 _), (trodAll_cons_mk (Below.trod laidOut (by kernel_rfl) (of_decide_eq_true (by kernel_rfl)) h0 bel lt0) trodAll_mk0), rfl, bel.frame _, fun h => by cases h⟩
theorem over : Rows.scriptOneRow.holds Tryd.pinned (OpenSpec.ofChange Rows.scriptOneSpec) :=
  OpenClaim.holds_of_wide 6 Tryd.f6 rfl rfl rfl rfl rfl rfl rfl ⟨rfl, rfl, rfl, rfl, rfl⟩ rfl rfl rfl rfl rfl (by kernel_rfl) Tryd.func6 (by kernel_rfl)
    (of_decide_eq_true (by kernel_rfl)) (by unfold Func.isWrapper; first | (rw [if_pos (by decide +kernel)]; kernel_rfl) | (rw [if_neg (by decide +kernel)]; exact ⟨rfl, rfl⟩))
    (fun os started H enc _ => lifted os started H enc)
theorem card : Rows.ScriptOneCardSaid :=
  Claim7.holds_tied_plain_at .later [] [.data, .pinned] true (true, "5797703564596e7e2c619766b76e901c163f9744701d0996ed8d1935937ebe79") false over (fun _ h => by cases h) (by kernel_rfl) (fun _ h => by cases h) scriptOne_row_tie rfl ⟨rfl, rfl⟩ (by kernel_rfl) rfl
    (fun f fn hf hfn => by
      obtain rfl : f = 6 := Option.some.inj ((show Tryd.prog.funcNamed "parrel/parrellaw27.ScriptOne" = some 6 by kernel_rfl).symm.trans hf) |>.symm
      obtain rfl : fn = Tryd.f6 := (Option.some.inj (Tryd.func6.symm.trans hfn)).symm
      exact ⟨by kernel_rfl, fun j t ht => by
        rw [Tryd.params6] at ht
        have hm : t ∈ [9] := by simpa using Array.mem_of_getElem? ht
        have hall : ([9].all fun u => !Tryd.prog.wantsStandIn u) = true := by kernel_rfl
        exact (show Tryd.prog.wantsStandIn t = false by simpa using List.all_eq_true.1 hall t hm)⟩)
    (by kernel_rfl)
theorem proved : Rows.ScriptOneCardSaid := card
#print axioms proved
end Go.Proofs.YtdchgoaokceomaaDoor.scriptOne
namespace Go.Proofs.YtdchgoaokceomaaDoor
/-- The card, under a short name, for the claim. -/
theorem scriptOne_holds : Rows.ScriptOneCardSaid := scriptOne.proved
end Go.Proofs.YtdchgoaokceomaaDoor
