/- The law HistSerial holds for every input. -/
import Derived.Test.YtofkaccoofafmaaRows
import Derived.Test.YtofkaccoofafmaaHistU
import Derived.Test.YtofkaccoofafmaaCnY
import Derived.WalkKit
import Derived.ProofKit
import Derived.OpenShut
import Derived.ShutString
import Derived.ChangeOld
import Derived.Below
import Derived.SizedLaws
import Derived.ChangeMaps5
namespace Go.Proofs.Ytofkaccoofafmaa.histSerial
open Go.ChangeShapes Go.WideShapes Go.ChangeAt Go.RowKit Go.Cn
open Go.ChangeMaps (open_string shut_string)
open Go.Proofs.Ytofkaccoofafmaa.Wk
set_option linter.unusedVariables false
set_option linter.unusedSimpArgs false
theorem own : ownKnob Try.prog.godebug = none := by kernel_rfl
theorem laidOut : laidOutB Try.prog = true := by kernel_rfl
def cs49 (s : Wk.T_parrellaw26_Do) : List LV := [.int .u8 s.f_Reads, .int .u8 s.f_Writes, .str s.f_Value]
theorem as49 {l : List LV} (h : fitsL [.int .u8, .int .u8, .str] l = true) : ∃ s : Wk.T_parrellaw26_Do, l = cs49 s := by
  obtain ⟨a0, r0, e0, h⟩ := fits_int h
  obtain ⟨a1, r1, e1, h⟩ := fits_int h
  obtain ⟨a2, r2, e2, h⟩ := fits_str h
  exact ⟨(Wk.T_parrellaw26_Do.mk a0 a1 a2), by rw [e0, e1, e2, fits_nil h]; rfl⟩
set_option maxRecDepth 100000 in
theorem lifted (os : Os) (started : os.Started) (H : Type) (enc : TypeId × Value → H) :
    ReturnsInHanded {} Try.checked os 6 .any (Rows.histSerialSpec.pre6 enc Try.prog Try.f6 Rows.histSerialRow.domain false) (Rows.histSerialSpec.post enc Try.prog Try.f6 false true false false) := by
  refine returnsInHanded_of_change_sized (C := Try.checked) own started (by kernel_rfl) Try.func6
    (ChangeSpec.witness6 (enc := enc) (C := Try.checked) false ⟨#[], #[.slice none 0 0, .int .u8 0, .bool false], []⟩ 8 (by kernel_rfl) (by kernel_rfl) (by kernel_rfl) (by kernel_rfl)) ?_
  intro W base args ds gs before hval0 hW hcnd hsz0 _
  have hval : ∀ (j : Nat) t v, Try.f6.params[j]? = some t → args[j]? = some v → Value.okWide Try.prog W .any base t v := hval0
  have hW' := hW
  obtain ⟨p, q, hA0, hV, rfl, hfz, hnd⟩ := hW
  have hA : DataW.TrodAll enc Try.prog W 0 (fun _ => true) true Try.f6.params.toList args.toList ds p := hA0
  rw [Try.params6] at hA hval
  obtain ⟨v0, vs0, d0, ds0, p0, q0, hargs, rfl, rfl, h0, r0⟩ := trodAll_cons hA
  obtain ⟨v1, vs1, d1, ds1, p1, q1, rfl, rfl, rfl, h1, r1⟩ := trodAll_cons r0
  obtain ⟨v2, vs2, d2, ds2, p2, q2, rfl, rfl, rfl, h2, r2⟩ := trodAll_cons r1
  obtain ⟨rfl, rfl, rfl⟩ := trodAll_nil r2
  obtain rfl : args = #[v0, v1, v2] := by cases args; simp_all
  obtain ⟨rfl, rfl⟩ := trodVars_none hV
  have lt0 : ∀ x ∈ p0, x.block < W.heap.size := by obtain ⟨m, hm⟩ := h0; exact DataW.trod_lt m _ _ _ hm
  have lt1 : ∀ x ∈ p1, x.block < W.heap.size := by obtain ⟨m, hm⟩ := h1; exact DataW.trod_lt m _ _ _ hm
  have lt2 : ∀ x ∈ p2, x.block < W.heap.size := by obtain ⟨m, hm⟩ := h2; exact DataW.trod_lt m _ _ _ hm
  obtain ⟨x0, g0, e0⟩ := open_slice Try.underlying43 (hval 0 _ v0 rfl rfl) h0 (sz_at hsz0 0 (t := 43) (by rw [Try.params6]; rfl) rfl) (enc := (fun z_ : List (Wk.T_parrellaw26_Do) => [.ds 3 z_.length (rowF cs49 default z_)])) (W := fun x => ((∀ a ∈ x, (wfL (cs49 a))) ∧ x.length * 24 ≤ 140737488351232)) (Rd.slice (e := 49) (z := 3) (b := 24) (α := Wk.T_parrellaw26_Do) (enc := cs49) (by kernel_rfl) (by kernel_rfl) (by kernel_rfl) (of_decide_eq_true (by kernel_rfl)) (fun _ => rfl) (fun _ => rfl) (Rd.cells (d := 12) (ks := [.int .u8, .int .u8, .str]) (enc := cs49) (by kernel_rfl) (fun _ h => as49 h)))
  have e0 := rel1 e0
  obtain ⟨x1, rfl, rfl, rfl, g1⟩ := open_int Try.underlying5 (hval 1 _ v1 rfl rfl) h1
  have e1 : ∀ μ : Emb, Rel μ (.int .u8 x1) (.int .u8 x1) := fun _ => rfl
  obtain ⟨x2, rfl, rfl, rfl⟩ := open_bool Try.underlying4 (hval 2 _ v2 rfl rfl) h2
  have e2 : ∀ μ : Emb, Rel μ (.bool x2) (.bool x2) := fun _ => rfl
  have g2 : True := trivial
  have tri := Wk.parrellaw26_HistSerial_tri x0 x1 x2 true (Wk.serial_law x0 x1 x2 g0 g1 g2)
  clear hA0 hval0 hsz0
  refine (below_of_tri tri (vals := [v0, .int .u8 x1, .bool x2]) (w := W) ⟨_, _, rfl, e0, _, _, rfl, e1 _, _, _, rfl, e2 _, rfl⟩).mono fun e W' he => ?_
  obtain ⟨⟨x, μ', rfl, hx⟩, bel⟩ := he
  simp only [Wk.parrellaw26_HistSerial_v, Rel] at hx
  subst hx
  exact ⟨_, rfl, _, _, _, [], _, [], hW', trodAll_mk1 (shut_bool Try.underlying4 _), (trodAll_cons_mk (Below.trod laidOut (by kernel_rfl) (of_decide_eq_true (by kernel_rfl)) h0 bel lt0) (trodAll_cons_mk (Below.trod laidOut (by kernel_rfl) (of_decide_eq_true (by kernel_rfl)) h1 bel lt1) (trodAll_cons_mk (Below.trod laidOut (by kernel_rfl) (of_decide_eq_true (by kernel_rfl)) h2 bel lt2) trodAll_mk0))), rfl, bel.frame _, fun h => by cases h⟩
theorem over : Rows.histSerialRow.holds Try.pinned (OpenSpec.ofChange Rows.histSerialSpec) :=
  OpenClaim.holds_of_wide 6 Try.f6 rfl rfl rfl rfl rfl rfl rfl ⟨rfl, rfl, rfl, rfl, rfl⟩ rfl rfl rfl rfl rfl (by kernel_rfl) Try.func6 (by kernel_rfl)
    (of_decide_eq_true (by kernel_rfl)) (by unfold Func.isWrapper; first | (rw [if_pos (by decide +kernel)]; kernel_rfl) | (rw [if_neg (by decide +kernel)]; exact ⟨rfl, rfl⟩))
    (fun os started H enc _ => lifted os started H enc)
theorem proved : Rows.HistSerialSaid := over
#print axioms proved
end Go.Proofs.Ytofkaccoofafmaa.histSerial
namespace Go.Proofs.Ytofkaccoofafmaa
/-- The row, under a short name, for the claim. -/
theorem histSerial_holds : Rows.HistSerialSaid := histSerial.proved
end Go.Proofs.Ytofkaccoofafmaa
