/- The law HistCircle holds for every input. -/
import Derived.Test.YtofkaccoofafmaaRows
import Derived.Test.YtofkaccoofafmaaCircI
import Derived.Test.YtofkaccoofafmaaCnY
import Derived.WalkKit
import Derived.ProofKit
import Derived.OpenShut
import Derived.ShutString
import Derived.ChangeOld
import Derived.Below
import Derived.SizedLaws
import Derived.ChangeMaps5
namespace Go.Proofs.Ytofkaccoofafmaa.histCircle
open Go.ChangeShapes Go.WideShapes Go.ChangeAt Go.RowKit Go.Cn
open Go.ChangeMaps (open_string shut_string)
open Go.Proofs.Ytofkaccoofafmaa.Wk
set_option linter.unusedVariables false
set_option linter.unusedSimpArgs false
theorem own : ownKnob Try.prog.godebug = none := by kernel_rfl
theorem laidOut : laidOutB Try.prog = true := by kernel_rfl
def cs75 (s : Wk.T_parrelref26_Item) : List LV := [.int .u8 s.f_Key.a0, .int .u8 s.f_Key.a1, .int .u8 s.f_Key.a2, .int .u8 s.f_Key.a3, .int .u8 s.f_Key.a4, .int .u8 s.f_Key.a5, .int .u8 s.f_Key.a6, .int .u8 s.f_Key.a7, .int .u32 s.f_Version, .str s.f_Value]
theorem as75 {l : List LV} (h : fitsL [.int .u8, .int .u8, .int .u8, .int .u8, .int .u8, .int .u8, .int .u8, .int .u8, .int .u32, .str] l = true) : ∃ s : Wk.T_parrelref26_Item, l = cs75 s := by
  obtain ⟨a0, r0, e0, h⟩ := fits_int h
  obtain ⟨a1, r1, e1, h⟩ := fits_int h
  obtain ⟨a2, r2, e2, h⟩ := fits_int h
  obtain ⟨a3, r3, e3, h⟩ := fits_int h
  obtain ⟨a4, r4, e4, h⟩ := fits_int h
  obtain ⟨a5, r5, e5, h⟩ := fits_int h
  obtain ⟨a6, r6, e6, h⟩ := fits_int h
  obtain ⟨a7, r7, e7, h⟩ := fits_int h
  obtain ⟨a8, r8, e8, h⟩ := fits_int h
  obtain ⟨a9, r9, e9, h⟩ := fits_str h
  exact ⟨(Wk.T_parrelref26_Item.mk (A8.mk a0 a1 a2 a3 a4 a5 a6 a7) a8 a9), by rw [e0, e1, e2, e3, e4, e5, e6, e7, e8, e9, fits_nil h]; rfl⟩
def cs42 (s : Wk.T_parrelref26_Tx) : List LV := [.ds 10 (s.f_Reads).length (rowF c_T_parrelref26_Item default s.f_Reads), .ds 10 (s.f_Writes).length (rowF c_T_parrelref26_Item default s.f_Writes), .int .i64 s.f_Begin, .int .i64 s.f_End]
def ws42 (s : Wk.T_parrelref26_Tx) : Prop := ((∀ a ∈ s.f_Reads, (wfL (cs75 a))) ∧ s.f_Reads.length * 32 ≤ 140737488351232) ∧ ((∀ a ∈ s.f_Writes, (wfL (cs75 a))) ∧ s.f_Writes.length * 32 ≤ 140737488351232) ∧ (wfL ((cInt .i64) s.f_Begin)) ∧ (wfL ((cInt .i64) s.f_End)) ∧ True
set_option maxRecDepth 100000 in
theorem lifted (os : Os) (started : os.Started) (H : Type) (enc : TypeId × Value → H) :
    ReturnsInHanded {} Try.checked os 7 .any (Rows.histCircleSpec.pre6 enc Try.prog Try.f7 Rows.histCircleRow.domain false) (Rows.histCircleSpec.post enc Try.prog Try.f7 false true false false) := by
  refine returnsInHanded_of_change_sized (C := Try.checked) own started (by kernel_rfl) Try.func7
    (ChangeSpec.witness6 (enc := enc) (C := Try.checked) false ⟨#[], #[.slice none 0 0], []⟩ 8 (by kernel_rfl) (by kernel_rfl) (by kernel_rfl) (by kernel_rfl)) ?_
  intro W base args ds gs before hval0 hW hcnd hsz0 _
  have hval : ∀ (j : Nat) t v, Try.f7.params[j]? = some t → args[j]? = some v → Value.okWide Try.prog W .any base t v := hval0
  have hW' := hW
  obtain ⟨p, q, hA0, hV, rfl, hfz, hnd⟩ := hW
  have hA : DataW.TrodAll enc Try.prog W 0 (fun _ => true) true Try.f7.params.toList args.toList ds p := hA0
  rw [Try.params7] at hA hval
  obtain ⟨v0, vs0, d0, ds0, p0, q0, hargs, rfl, rfl, h0, r0⟩ := trodAll_cons hA
  obtain ⟨rfl, rfl, rfl⟩ := trodAll_nil r0
  obtain rfl : args = #[v0] := by cases args; simp_all
  obtain ⟨rfl, rfl⟩ := trodVars_none hV
  have lt0 : ∀ x ∈ p0, x.block < W.heap.size := by obtain ⟨m, hm⟩ := h0; exact DataW.trod_lt m _ _ _ hm
  obtain ⟨x0, g0, e0⟩ := open_slice Try.underlying22 (hval 0 _ v0 rfl rfl) h0 (sz_at hsz0 0 (t := 22) (by rw [Try.params7]; rfl) rfl) (enc := (fun z_ : List (Wk.T_parrelref26_Tx) => [.ds 4 z_.length (rowF cs42 default z_)])) (W := fun x => ((∀ a ∈ x, (ws42 a)) ∧ x.length * 64 ≤ 140737488351232)) (Rd.slice (e := 42) (z := 4) (b := 64) (α := Wk.T_parrelref26_Tx) (enc := cs42) (by kernel_rfl) (by kernel_rfl) (by kernel_rfl) (of_decide_eq_true (by kernel_rfl)) (fun _ => rfl) (fun _ => rfl) (Rd.map (enc2 := cs42) (W2 := ws42) (Rd.struct (N := 4) (fs := [(40, 0), (40, 1), (3, 2), (3, 3)]) (by kernel_rfl) (by kernel_rfl) (RdF.cons (z := 1) (α := (List (T_parrelref26_Item))) (by kernel_rfl) (Rd.slice (e := 75) (z := 10) (b := 32) (α := Wk.T_parrelref26_Item) (enc := cs75) (by kernel_rfl) (by kernel_rfl) (by kernel_rfl) (of_decide_eq_true (by kernel_rfl)) (fun _ => rfl) (fun _ => rfl) (Rd.cells (d := 12) (ks := [.int .u8, .int .u8, .int .u8, .int .u8, .int .u8, .int .u8, .int .u8, .int .u8, .int .u32, .str]) (enc := cs75) (by kernel_rfl) (fun _ h => as75 h))) (RdF.cons (z := 1) (α := (List (T_parrelref26_Item))) (by kernel_rfl) (Rd.slice (e := 75) (z := 10) (b := 32) (α := Wk.T_parrelref26_Item) (enc := cs75) (by kernel_rfl) (by kernel_rfl) (by kernel_rfl) (of_decide_eq_true (by kernel_rfl)) (fun _ => rfl) (fun _ => rfl) (Rd.cells (d := 12) (ks := [.int .u8, .int .u8, .int .u8, .int .u8, .int .u8, .int .u8, .int .u8, .int .u8, .int .u32, .str]) (enc := cs75) (by kernel_rfl) (fun _ h => as75 h))) (RdF.cons (z := 1) (α := (Int)) (by kernel_rfl) (Rd.cells (d := 12) (ks := [.int .i64]) (enc := cInt .i64) (by kernel_rfl) dec1_int) (RdF.cons (z := 1) (α := (Int)) (by kernel_rfl) (Rd.cells (d := 12) (ks := [.int .i64]) (enc := cInt .i64) (by kernel_rfl) dec1_int) RdF.nil))))) (fun (p : ((List (T_parrelref26_Item))) × ((List (T_parrelref26_Item))) × ((Int)) × ((Int)) × Unit) => Wk.T_parrelref26_Tx.mk p.1 p.2.1 p.2.2.1 p.2.2.2.1) (fun _ => rfl) (fun _ h => h)))
  have e0 := rel1 e0
  have tri := Wk.parrellaw26_HistCircle_tri x0 true (Wk.circle_law x0 g0)
  clear hA0 hval0 hsz0
  refine (below_of_tri tri (vals := [v0]) (w := W) ⟨_, _, rfl, e0, rfl⟩).mono fun e W' he => ?_
  obtain ⟨⟨x, μ', rfl, hx⟩, bel⟩ := he
  simp only [Wk.parrellaw26_HistCircle_v, Rel] at hx
  subst hx
  exact ⟨_, rfl, _, _, _, [], _, [], hW', trodAll_mk1 (shut_bool Try.underlying4 _), (trodAll_cons_mk (Below.trod laidOut (by kernel_rfl) (of_decide_eq_true (by kernel_rfl)) h0 bel lt0) trodAll_mk0), rfl, bel.frame _, fun h => by cases h⟩
theorem over : Rows.histCircleRow.holds Try.pinned (OpenSpec.ofChange Rows.histCircleSpec) :=
  OpenClaim.holds_of_wide 7 Try.f7 rfl rfl rfl rfl rfl rfl rfl ⟨rfl, rfl, rfl, rfl, rfl⟩ rfl rfl rfl rfl rfl (by kernel_rfl) Try.func7 (by kernel_rfl)
    (of_decide_eq_true (by kernel_rfl)) (by unfold Func.isWrapper; first | (rw [if_pos (by decide +kernel)]; kernel_rfl) | (rw [if_neg (by decide +kernel)]; exact ⟨rfl, rfl⟩))
    (fun os started H enc _ => lifted os started H enc)
theorem proved : Rows.HistCircleSaid := over
#print axioms proved
end Go.Proofs.Ytofkaccoofafmaa.histCircle
namespace Go.Proofs.Ytofkaccoofafmaa
/-- The row, under a short name, for the claim. -/
theorem histCircle_holds : Rows.HistCircleSaid := histCircle.proved
end Go.Proofs.Ytofkaccoofafmaa
