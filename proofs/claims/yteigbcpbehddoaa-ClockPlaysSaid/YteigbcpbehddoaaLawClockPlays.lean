/- The law ClockPlays holds for every input. -/
import Derived.Test.YteigbcpbehddoaaRows
import Derived.Test.YteigbcpbehddoaaClkY
import Derived.Test.YteigbcpbehddoaaCnY
import Derived.WalkKit
import Derived.ProofKit
import Derived.OpenShut
import Derived.ShutString
import Derived.ChangeOld
import Derived.Below
import Derived.SizedLaws
import Derived.ChangeMaps5
namespace Go.Proofs.Yteigbcpbehddoaa.clockPlays
open Go.ChangeShapes Go.WideShapes Go.ChangeAt Go.RowKit Go.Cn
open Go.ChangeMaps (open_string shut_string)
open Go.Proofs.Yteigbcpbehddoaa.Wk
set_option linter.unusedVariables false
set_option linter.unusedSimpArgs false
theorem own : ownKnob Try.prog.godebug = none := by kernel_rfl
theorem laidOut : laidOutB Try.prog = true := by kernel_rfl
def cs32 (s : Wk.T_parrellaw09_Act) : List LV := [.int .u8 s.f_Kind, .int .u8 s.f_Name.f_Kind, .int .u8 s.f_Name.f_Tx.f_Node, .int .u32 s.f_Name.f_Tx.f_Boot, .int .u32 s.f_Name.f_Tx.f_Num, .int .u32 s.f_After]
theorem as32 {l : List LV} (h : fitsL [.int .u8, .int .u8, .int .u8, .int .u32, .int .u32, .int .u32] l = true) : ∃ s : Wk.T_parrellaw09_Act, l = cs32 s := by
  obtain ⟨a0, r0, e0, h⟩ := fits_int h
  obtain ⟨a1, r1, e1, h⟩ := fits_int h
  obtain ⟨a2, r2, e2, h⟩ := fits_int h
  obtain ⟨a3, r3, e3, h⟩ := fits_int h
  obtain ⟨a4, r4, e4, h⟩ := fits_int h
  obtain ⟨a5, r5, e5, h⟩ := fits_int h
  exact ⟨(Wk.T_parrellaw09_Act.mk a0 (Wk.T_parrelref09_Name.mk a1 (Wk.T_api_Tx.mk a2 a3 a4)) a5), by rw [e0, e1, e2, e3, e4, e5, fits_nil h]; rfl⟩
set_option maxRecDepth 100000 in
theorem lifted (os : Os) (started : os.Started) (H : Type) (enc : TypeId × Value → H) :
    ReturnsInHanded {} Try.checked os 5 .any (Rows.clockPlaysSpec.pre6 enc Try.prog Try.f5 Rows.clockPlaysRow.domain false) (Rows.clockPlaysSpec.post enc Try.prog Try.f5 false true false false) := by
  refine returnsInHanded_of_change_sized (C := Try.checked) own started (by kernel_rfl) Try.func5
    (ChangeSpec.witness6 (enc := enc) (C := Try.checked) false ⟨#[], #[.slice none 0 0], []⟩ 8 (by kernel_rfl) (by kernel_rfl) (by kernel_rfl) (by kernel_rfl)) ?_
  intro W base args ds gs before hval0 hW hcnd hsz0 _
  have hval : ∀ (j : Nat) t v, Try.f5.params[j]? = some t → args[j]? = some v → Value.okWide Try.prog W .any base t v := hval0
  have hW' := hW
  obtain ⟨p, q, hA0, hV, rfl, hfz, hnd⟩ := hW
  have hA : DataW.TrodAll enc Try.prog W 0 (fun _ => true) true Try.f5.params.toList args.toList ds p := hA0
  rw [Try.params5] at hA hval
  obtain ⟨v0, vs0, d0, ds0, p0, q0, hargs, rfl, rfl, h0, r0⟩ := trodAll_cons hA
  obtain ⟨rfl, rfl, rfl⟩ := trodAll_nil r0
  obtain rfl : args = #[v0] := by cases args; simp_all
  obtain ⟨rfl, rfl⟩ := trodVars_none hV
  have lt0 : ∀ x ∈ p0, x.block < W.heap.size := by obtain ⟨m, hm⟩ := h0; exact DataW.trod_lt m _ _ _ hm
  obtain ⟨x0, g0, e0⟩ := open_slice Try.underlying22 (hval 0 _ v0 rfl rfl) h0 (sz_at hsz0 0 (t := 22) (by rw [Try.params5]; rfl) rfl) (enc := (fun z_ : List (Wk.T_parrellaw09_Act) => [.ds 6 z_.length (rowF cs32 default z_)])) (W := fun x => ((∀ a ∈ x, (wfL (cs32 a))) ∧ x.length * 24 ≤ 140737488351232)) (Rd.slice (e := 32) (z := 6) (b := 24) (α := Wk.T_parrellaw09_Act) (enc := cs32) (by kernel_rfl) (by kernel_rfl) (by kernel_rfl) (of_decide_eq_true (by kernel_rfl)) (fun _ => rfl) (fun _ => rfl) (Rd.cells (d := 12) (ks := [.int .u8, .int .u8, .int .u8, .int .u32, .int .u32, .int .u32]) (enc := cs32) (by kernel_rfl) (fun _ h => as32 h)))
  have e0 := rel1 e0
  have tri := Wk.parrellaw09_ClockPlays_tri x0 true (Wk.plays_law x0 g0)
  clear hA0 hval0 hsz0
  refine (below_of_tri tri (vals := [v0]) (w := W) (TabOK.no rfl) ⟨_, _, rfl, e0, rfl⟩).mono fun e W' he => ?_
  obtain ⟨⟨x, μ', rfl, hx⟩, bel⟩ := he
  simp only [Wk.parrellaw09_ClockPlays_v, Rel] at hx
  subst hx
  exact ⟨_, rfl, _, _, _, [], _, [], hW', trodAll_mk1 (shut_bool Try.underlying4 _), (trodAll_cons_mk (Below.trod laidOut (by kernel_rfl) (of_decide_eq_true (by kernel_rfl)) h0 bel lt0) trodAll_mk0), rfl, bel.frame _, fun h => by cases h⟩
theorem over : Rows.clockPlaysRow.holds Try.pinned (OpenSpec.ofChange Rows.clockPlaysSpec) :=
  OpenClaim.holds_of_wide 5 Try.f5 rfl rfl rfl rfl rfl rfl rfl ⟨rfl, rfl, rfl, rfl, rfl⟩ rfl rfl rfl rfl rfl (by kernel_rfl) Try.func5 (by kernel_rfl)
    (of_decide_eq_true (by kernel_rfl)) (by unfold Func.isWrapper; first | (rw [if_pos (by decide +kernel)]; kernel_rfl) | (rw [if_neg (by decide +kernel)]; exact ⟨rfl, rfl⟩))
    (fun os started H enc _ => lifted os started H enc)
theorem proved : Rows.ClockPlaysSaid := over
#print axioms proved
end Go.Proofs.Yteigbcpbehddoaa.clockPlays
namespace Go.Proofs.Yteigbcpbehddoaa
/-- The row, under a short name, for the claim. -/
theorem clockPlays_holds : Rows.ClockPlaysSaid := clockPlays.proved
end Go.Proofs.Yteigbcpbehddoaa
