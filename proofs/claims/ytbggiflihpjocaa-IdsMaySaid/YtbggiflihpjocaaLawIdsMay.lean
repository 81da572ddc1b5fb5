/- The law IdsMay holds for every stamp and every register. -/
import Derived.Test.YtbggiflihpjocaaRows
import Derived.Test.YtbggiflihpjocaaMayW
import Derived.Test.YtbggiflihpjocaaCnS
import Derived.WalkKit
import Derived.ProofKit
import Derived.OpenShut
import Derived.ShutString
import Derived.ChangeOld
import Derived.Below
import Derived.SizedLaws
namespace Go.Proofs.Ytbggiflihpjocaa.idsMay
open Go.ChangeShapes Go.WideShapes Go.ChangeAt Go.RowKit Go.Cn
open Go.ChangeMaps (open_string shut_string)
set_option linter.unusedVariables false
set_option linter.unusedSimpArgs false
theorem own : ownKnob Try.prog.godebug = none := by kernel_rfl
theorem laidOut : laidOutB Try.prog = true := by kernel_rfl
theorem bound32 {n : Int} (h : (Lit.int .u32 n).wf = true) : 0 ≤ n ∧ n < 4294967296 := by
  simp [Lit.wf, IntKind.min, IntKind.max, IntKind.signed, IntKind.bits] at h
  omega
theorem cells4 {l : List LV} (h : fitsL [.int .u32, .int .u8, .int .u32, .int .u32] l = true) : ∃ t a b c, l = [.int .u32 t, .int .u8 a, .int .u32 b, .int .u32 c] := by
  obtain ⟨t, r1, e1, h1⟩ := fits_int h
  obtain ⟨a, r2, e2, h2⟩ := fits_int h1
  obtain ⟨b, r3, e3, h3⟩ := fits_int h2
  obtain ⟨c, r4, e4, h4⟩ := fits_int h3
  exact ⟨t, a, b, c, by rw [e1, e2, e3, e4, fits_nil h4]⟩
theorem cells2 {l : List LV} (h : fitsL [.int .u32, .int .u32] l = true) : ∃ b c, l = [.int .u32 b, .int .u32 c] := by
  obtain ⟨b, r3, e3, h3⟩ := fits_int h
  obtain ⟨c, r4, e4, h4⟩ := fits_int h3
  exact ⟨b, c, by rw [e3, e4, fits_nil h4]⟩
set_option maxRecDepth 100000 in
theorem lifted (os : Os) (started : os.Started) (H : Type) (enc : TypeId × Value → H) :
    ReturnsInHanded {} Try.checked os 3 .any (Rows.idsMaySpec.pre6 enc Try.prog Try.f3 Rows.idsMayRow.domain false) (Rows.idsMaySpec.post enc Try.prog Try.f3 false true false false) := by
  refine returnsInHanded_of_change_sized (C := Try.checked) own started (by kernel_rfl) Try.func3
    (ChangeSpec.witness6 (enc := enc) (C := Try.checked) false ⟨#[], #[.agg #[.int .u32 0, .int .u8 0, .int .u32 0, .int .u32 0], .agg #[.int .u32 0, .int .u32 0]], []⟩ 8 (by kernel_rfl) (by kernel_rfl) (by kernel_rfl) (by kernel_rfl)) ?_
  intro W base args ds gs before hval0 hW hcnd hsz0 _
  have hval : ∀ (j : Nat) t v, Try.f3.params[j]? = some t → args[j]? = some v → Value.okWide Try.prog W .any base t v := hval0
  have hW' := hW
  obtain ⟨p, q, hA0, hV, rfl, hfz, hnd⟩ := hW
  have hA : DataW.TrodAll enc Try.prog W 0 (fun _ => true) true Try.f3.params.toList args.toList ds p := hA0
  rw [Try.params3] at hA hval
  obtain ⟨v0, vs0, d0, ds0, p0, q0, hargs, rfl, rfl, h0, r0⟩ := trodAll_cons hA
  obtain ⟨v1, vs1, d1, ds1, p1, q1, rfl, rfl, rfl, h1, r1⟩ := trodAll_cons r0
  obtain ⟨rfl, rfl, rfl⟩ := trodAll_nil r1
  obtain rfl : args = #[v0, v1] := by cases args; simp_all
  obtain ⟨rfl, rfl⟩ := trodVars_none hV
  have lt0 : ∀ x ∈ p0, x.block < W.heap.size := by obtain ⟨m, hm⟩ := h0; exact DataW.trod_lt m _ _ _ hm
  have lt1 : ∀ x ∈ p1, x.block < W.heap.size := by obtain ⟨m, hm⟩ := h1; exact DataW.trod_lt m _ _ _ hm
  obtain ⟨l0, f0, g0, e0⟩ := open_cells (d := 12) (ks := [.int .u32, .int .u8, .int .u32, .int .u32]) (by kernel_rfl) (by kernel_rfl) (hval 0 26 v0 rfl rfl) h0
  obtain ⟨l1, f1, g1, e1⟩ := open_cells (d := 12) (ks := [.int .u32, .int .u32]) (by kernel_rfl) (by kernel_rfl) (hval 1 28 v1 rfl rfl) h1
  obtain ⟨t, a, b, c, rfl⟩ := cells4 f0
  obtain ⟨u, v, rfl⟩ := cells2 f1
  have tri := MayW.t3 t a b c u v (bound32 (g0 (.int .u32 b) (by simp))) (bound32 (g0 (.int .u32 c) (by simp))) (bound32 (g1 (.int .u32 u) (by simp))) (bound32 (g1 (.int .u32 v) (by simp)))
  clear hA0 hval0 hsz0
  refine (below_of_tri tri rfl (μ := fun _ => none) (vals := [v0, v1]) (w := W) ⟨_, _, rfl, e0 _, _, _, rfl, e1 _, rfl⟩ (fun c o h => by cases h)).mono fun e W' he => ?_
  obtain ⟨⟨x, μ', rfl, hx⟩, bel⟩ := he
  simp only [Rel] at hx
  subst hx
  exact ⟨_, rfl, _, _, _, [], _, [], hW', trodAll_mk1 (shut_bool Try.underlying4 _), (trodAll_cons_mk (Below.trod laidOut (by kernel_rfl) (of_decide_eq_true (by kernel_rfl)) h0 bel lt0) (trodAll_cons_mk (Below.trod laidOut (by kernel_rfl) (of_decide_eq_true (by kernel_rfl)) h1 bel lt1) trodAll_mk0)), rfl, bel.frame _, fun h => by cases h⟩
theorem over : Rows.idsMayRow.holds Try.pinned (OpenSpec.ofChange Rows.idsMaySpec) :=
  OpenClaim.holds_of_wide 3 Try.f3 rfl rfl rfl rfl rfl rfl rfl ⟨rfl, rfl, rfl, rfl, rfl⟩ rfl rfl rfl rfl rfl (by kernel_rfl) Try.func3 (by kernel_rfl)
    (of_decide_eq_true (by kernel_rfl)) (by unfold Func.isWrapper; first | (rw [if_pos (by decide +kernel)]; kernel_rfl) | (rw [if_neg (by decide +kernel)]; exact ⟨rfl, rfl⟩))
    (fun os started H enc _ => lifted os started H enc)
theorem proved : Rows.IdsMaySaid := over
#print axioms proved
end Go.Proofs.Ytbggiflihpjocaa.idsMay
namespace Go.Proofs.Ytbggiflihpjocaa
/-- The row, under a short name, for the claim. -/
theorem idsMay_holds : Rows.IdsMaySaid := idsMay.proved
end Go.Proofs.Ytbggiflihpjocaa
