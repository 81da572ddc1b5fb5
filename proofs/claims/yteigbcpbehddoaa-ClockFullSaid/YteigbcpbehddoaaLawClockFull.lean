/- The law ClockFull holds for every input. -/
import Derived.Test.YteigbcpbehddoaaRows
import Derived.Test.YteigbcpbehddoaaClkF
import Derived.Test.YteigbcpbehddoaaCnS
import Derived.WalkKit
import Derived.ProofKit
import Derived.OpenShut
import Derived.ShutString
import Derived.ChangeOld
import Derived.Below
import Derived.SizedLaws
import Derived.ChangeMaps5
namespace Go.Proofs.Yteigbcpbehddoaa.clockFull
open Go.ChangeShapes Go.WideShapes Go.ChangeAt Go.RowKit Go.Cn
open Go.ChangeMaps (open_string shut_string)
open Go.Proofs.Yteigbcpbehddoaa.Wk
set_option linter.unusedVariables false
set_option linter.unusedSimpArgs false
theorem own : ownKnob Try.prog.godebug = none := by kernel_rfl
theorem laidOut : laidOutB Try.prog = true := by kernel_rfl
def cs27 (s : Wk.T_parrelref09_Name) : List LV := [.int .u8 s.f_Kind, .int .u8 s.f_Tx.f_Node, .int .u32 s.f_Tx.f_Boot, .int .u32 s.f_Tx.f_Num]
theorem as27 {l : List LV} (h : fitsL [.int .u8, .int .u8, .int .u32, .int .u32] l = true) : ∃ s : Wk.T_parrelref09_Name, l = cs27 s := by
  obtain ⟨a0, r0, e0, h⟩ := fits_int h
  obtain ⟨a1, r1, e1, h⟩ := fits_int h
  obtain ⟨a2, r2, e2, h⟩ := fits_int h
  obtain ⟨a3, r3, e3, h⟩ := fits_int h
  exact ⟨(Wk.T_parrelref09_Name.mk a0 (Wk.T_api_Tx.mk a1 a2 a3)), by rw [e0, e1, e2, e3, fits_nil h]; rfl⟩
set_option maxRecDepth 100000 in
theorem lifted (os : Os) (started : os.Started) (H : Type) (enc : TypeId × Value → H) :
    ReturnsInHanded {} Try.checked os 7 .any (Rows.clockFullSpec.pre6 enc Try.prog Try.f7 Rows.clockFullRow.domain false) (Rows.clockFullSpec.post enc Try.prog Try.f7 false true false false) := by
  refine returnsInHanded_of_change_sized (C := Try.checked) own started (by kernel_rfl) Try.func7
    (ChangeSpec.witness6 (enc := enc) (C := Try.checked) false ⟨#[], #[.int .u16 0, .agg #[.int .u8 0, .int .u8 0, .int .u32 0, .int .u32 0]], []⟩ 8 (by kernel_rfl) (by kernel_rfl) (by kernel_rfl) (by kernel_rfl)) ?_
  intro W base args ds gs before hval0 hW hcnd hsz0 _
  have hval : ∀ (j : Nat) t v, Try.f7.params[j]? = some t → args[j]? = some v → Value.okWide Try.prog W .any base t v := hval0
  have hW' := hW
  obtain ⟨p, q, hA0, hV, rfl, hfz, hnd⟩ := hW
  have hA : DataW.TrodAll enc Try.prog W 0 (fun _ => true) true Try.f7.params.toList args.toList ds p := hA0
  rw [Try.params7] at hA hval
  obtain ⟨v0, vs0, d0, ds0, p0, q0, hargs, rfl, rfl, h0, r0⟩ := trodAll_cons hA
  obtain ⟨v1, vs1, d1, ds1, p1, q1, rfl, rfl, rfl, h1, r1⟩ := trodAll_cons r0
  obtain ⟨rfl, rfl, rfl⟩ := trodAll_nil r1
  obtain rfl : args = #[v0, v1] := by cases args; simp_all
  obtain ⟨rfl, rfl⟩ := trodVars_none hV
  have lt0 : ∀ x ∈ p0, x.block < W.heap.size := by obtain ⟨m, hm⟩ := h0; exact DataW.trod_lt m _ _ _ hm
  have lt1 : ∀ x ∈ p1, x.block < W.heap.size := by obtain ⟨m, hm⟩ := h1; exact DataW.trod_lt m _ _ _ hm
  obtain ⟨x0, rfl, rfl, rfl, g0⟩ := open_int Try.underlying64 (hval 0 _ v0 rfl rfl) h0
  have e0 : ∀ μ : Emb, Rel μ (.int .u16 x0) (.int .u16 x0) := fun _ => rfl
  obtain ⟨l1, f1, g1, e1⟩ := open_cells (d := 12) (ks := [.int .u8, .int .u8, .int .u32, .int .u32]) (by kernel_rfl) (by kernel_rfl) (hval 1 _ v1 rfl rfl) h1
  obtain ⟨x1, rfl⟩ := as27 f1
  have tri := Wk.parrellaw09_ClockFull_tri x0 x1 true (Wk.full_law x0 x1 g0 g1)
  clear hA0 hval0 hsz0
  refine (below_of_tri tri (vals := [.int .u16 x0, v1]) (w := W) (TabOK.no rfl) ⟨_, _, rfl, e0 _, _, _, rfl, e1 _, rfl⟩).mono fun e W' he => ?_
  obtain ⟨⟨x, μ', rfl, hx⟩, bel⟩ := he
  simp only [Wk.parrellaw09_ClockFull_v, Rel] at hx
  subst hx
  exact ⟨_, rfl, _, _, _, [], _, [], hW', trodAll_mk1 (shut_bool Try.underlying4 _), (trodAll_cons_mk (Below.trod laidOut (by kernel_rfl) (of_decide_eq_true (by kernel_rfl)) h0 bel lt0) (trodAll_cons_mk (Below.trod laidOut (by kernel_rfl) (of_decide_eq_true (by kernel_rfl)) h1 bel lt1) trodAll_mk0)), rfl, bel.frame _, fun h => by cases h⟩
theorem over : Rows.clockFullRow.holds Try.pinned (OpenSpec.ofChange Rows.clockFullSpec) :=
  OpenClaim.holds_of_wide 7 Try.f7 rfl rfl rfl rfl rfl rfl rfl ⟨rfl, rfl, rfl, rfl, rfl⟩ rfl rfl rfl rfl rfl (by kernel_rfl) Try.func7 (by kernel_rfl)
    (of_decide_eq_true (by kernel_rfl)) (by unfold Func.isWrapper; first | (rw [if_pos (by decide +kernel)]; kernel_rfl) | (rw [if_neg (by decide +kernel)]; exact ⟨rfl, rfl⟩))
    (fun os started H enc _ => lifted os started H enc)
theorem proved : Rows.ClockFullSaid := over
#print axioms proved
end Go.Proofs.Yteigbcpbehddoaa.clockFull
namespace Go.Proofs.Yteigbcpbehddoaa
/-- The row, under a short name, for the claim. -/
theorem clockFull_holds : Rows.ClockFullSaid := clockFull.proved
end Go.Proofs.Yteigbcpbehddoaa
