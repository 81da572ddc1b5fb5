/- The law IdsOrder holds for every two stamps and every two keys. -/
import Derived.Test.YtbggiflihpjocaaRows
import Derived.Test.YtbggiflihpjocaaOrderP
import Derived.Test.YtbggiflihpjocaaCnS
import Derived.WalkKit
import Derived.ProofKit
import Derived.OpenShut
import Derived.ShutString
import Derived.ChangeOld
import Derived.Below
import Derived.SizedLaws
namespace Go.Proofs.Ytbggiflihpjocaa.idsOrder
open Go.ChangeShapes Go.WideShapes Go.ChangeAt Go.RowKit Go.Cn
open Go.ChangeMaps (open_string shut_string)
set_option linter.unusedVariables false
set_option linter.unusedSimpArgs false
theorem own : ownKnob Try.prog.godebug = none := by kernel_rfl
theorem laidOut : laidOutB Try.prog = true := by kernel_rfl
theorem bound8 {n : Int} (h : (Lit.int .u8 n).wf = true) : 0 ≤ n ∧ n < 256 := by
  simp [Lit.wf, IntKind.min, IntKind.max, IntKind.signed, IntKind.bits] at h
  omega
theorem cells4 {l : List LV} (h : fitsL [.int .u32, .int .u8, .int .u32, .int .u32] l = true) : ∃ s : Wk.T_api_Stamp, l = Wk.c_T_api_Stamp s := by
  obtain ⟨t, r1, e1, h1⟩ := fits_int h
  obtain ⟨a, r2, e2, h2⟩ := fits_int h1
  obtain ⟨b, r3, e3, h3⟩ := fits_int h2
  obtain ⟨c, r4, e4, h4⟩ := fits_int h3
  exact ⟨⟨t, ⟨a, b, c⟩⟩, by rw [e1, e2, e3, e4, fits_nil h4]; rfl⟩
def c8 (k : A8 Int) : List LV := [.int .u8 k.a0, .int .u8 k.a1, .int .u8 k.a2, .int .u8 k.a3, .int .u8 k.a4, .int .u8 k.a5, .int .u8 k.a6, .int .u8 k.a7]
theorem cells8 {ks : List CK} {l : List LV} (h : fitsL (.int .u8 :: .int .u8 :: .int .u8 :: .int .u8 :: .int .u8 :: .int .u8 :: .int .u8 :: .int .u8 :: ks) l = true) : ∃ (k : A8 Int) (r : List LV), l = c8 k ++ r ∧ fitsL ks r = true := by
  obtain ⟨a0, r0, e0, h⟩ := fits_int h
  obtain ⟨a1, r1, e1, h⟩ := fits_int h
  obtain ⟨a2, r2, e2, h⟩ := fits_int h
  obtain ⟨a3, r3, e3, h⟩ := fits_int h
  obtain ⟨a4, r4, e4, h⟩ := fits_int h
  obtain ⟨a5, r5, e5, h⟩ := fits_int h
  obtain ⟨a6, r6, e6, h⟩ := fits_int h
  obtain ⟨a7, r7, e7, h⟩ := fits_int h
  exact ⟨⟨a0, a1, a2, a3, a4, a5, a6, a7⟩, r7, by rw [e0, e1, e2, e3, e4, e5, e6, e7]; rfl, h⟩
theorem keyB {k : A8 Int} (h : ∀ x ∈ c8 k, wfC x) : Wk.KeyB k := by
  intro i hi
  have : LV.int .u8 (k.get i) ∈ c8 k := by
    rcases lt8 hi with rfl | rfl | rfl | rfl | rfl | rfl | rfl | rfl <;> simp [c8, A8.get]
  exact bound8 (h _ this)
set_option maxRecDepth 100000 in
theorem lifted (os : Os) (started : os.Started) (H : Type) (enc : TypeId × Value → H) :
    ReturnsInHanded {} Try.checked os 4 .any (Rows.idsOrderSpec.pre6 enc Try.prog Try.f4 Rows.idsOrderRow.domain false) (Rows.idsOrderSpec.post enc Try.prog Try.f4 false true false false) := by
  refine returnsInHanded_of_change_sized (C := Try.checked) own started (by kernel_rfl) Try.func4
    (ChangeSpec.witness6 (enc := enc) (C := Try.checked) false ⟨#[], #[.agg #[.int .u32 0, .int .u8 0, .int .u32 0, .int .u32 0], .agg #[.int .u32 0, .int .u8 0, .int .u32 0, .int .u32 0], .agg (Array.replicate 16 (.int .u8 0))], []⟩ 8 (by kernel_rfl) (by kernel_rfl) (by kernel_rfl) (by kernel_rfl)) ?_
  intro W base args ds gs before hval0 hW hcnd hsz0 _
  have hval : ∀ (j : Nat) t v, Try.f4.params[j]? = some t → args[j]? = some v → Value.okWide Try.prog W .any base t v := hval0
  have hW' := hW
  obtain ⟨p, q, hA0, hV, rfl, hfz, hnd⟩ := hW
  have hA : DataW.TrodAll enc Try.prog W 0 (fun _ => true) true Try.f4.params.toList args.toList ds p := hA0
  rw [Try.params4] at hA hval
  obtain ⟨v0, vs0, d0, ds0, p0, q0, hargs, rfl, rfl, h0, r0⟩ := trodAll_cons hA
  obtain ⟨v1, vs1, d1, ds1, p1, q1, rfl, rfl, rfl, h1, r1⟩ := trodAll_cons r0
  obtain ⟨v2, vs2, d2, ds2, p2, q2, rfl, rfl, rfl, h2, r2⟩ := trodAll_cons r1
  obtain ⟨rfl, rfl, rfl⟩ := trodAll_nil r2
  obtain rfl : args = #[v0, v1, v2] := by cases args; simp_all
  obtain ⟨rfl, rfl⟩ := trodVars_none hV
  have lt0 : ∀ x ∈ p0, x.block < W.heap.size := by obtain ⟨m, hm⟩ := h0; exact DataW.trod_lt m _ _ _ hm
  have lt1 : ∀ x ∈ p1, x.block < W.heap.size := by obtain ⟨m, hm⟩ := h1; exact DataW.trod_lt m _ _ _ hm
  have lt2 : ∀ x ∈ p2, x.block < W.heap.size := by obtain ⟨m, hm⟩ := h2; exact DataW.trod_lt m _ _ _ hm
  obtain ⟨l0, f0, g0, e0⟩ := open_cells (d := 12) (ks := [.int .u32, .int .u8, .int .u32, .int .u32]) (by kernel_rfl) (by kernel_rfl) (hval 0 _ v0 rfl rfl) h0
  obtain ⟨l1, f1, g1, e1⟩ := open_cells (d := 12) (ks := [.int .u32, .int .u8, .int .u32, .int .u32]) (by kernel_rfl) (by kernel_rfl) (hval 1 _ v1 rfl rfl) h1
  obtain ⟨l2, f2, g2, e2⟩ := open_cells (d := 12) (ks := [.int .u8, .int .u8, .int .u8, .int .u8, .int .u8, .int .u8, .int .u8, .int .u8, .int .u8, .int .u8, .int .u8, .int .u8, .int .u8, .int .u8, .int .u8, .int .u8]) (by kernel_rfl) (by kernel_rfl) (hval 2 _ v2 rfl rfl) h2
  obtain ⟨a, rfl⟩ := cells4 f0
  obtain ⟨b, rfl⟩ := cells4 f1
  obtain ⟨k0, r, rfl, f3⟩ := cells8 f2
  obtain ⟨k1, r', rfl, f4⟩ := cells8 f3
  obtain rfl := fits_nil f4
  have tri := Wk.parrellaw05_IdsOrder_tri a b ⟨k0, k1⟩ true (Wk.order_eq a b ⟨k0, k1⟩ (bound8 (g0 (.int .u8 a.f_Tx.f_Node) (by simp [Wk.c_T_api_Stamp]))) (bound8 (g1 (.int .u8 b.f_Tx.f_Node) (by simp [Wk.c_T_api_Stamp])))
    (keyB fun x hx => g2 x (List.mem_append.2 (.inl hx))) (keyB fun x hx => g2 x (List.mem_append.2 (.inr (List.mem_append.2 (.inl hx))))))
  clear hA0 hval0 hsz0
  refine (below_of_tri tri (vals := [v0, v1, v2]) (w := W) ⟨_, _, rfl, e0 _, _, _, rfl, e1 _, _, _, rfl, e2 _, rfl⟩).mono fun e W' he => ?_
  obtain ⟨⟨x, μ', rfl, hx⟩, bel⟩ := he
  simp only [Wk.parrellaw05_IdsOrder_v, Rel] at hx
  subst hx
  exact ⟨_, rfl, _, _, _, [], _, [], hW', trodAll_mk1 (shut_bool Try.underlying4 _), (trodAll_cons_mk (Below.trod laidOut (by kernel_rfl) (of_decide_eq_true (by kernel_rfl)) h0 bel lt0) (trodAll_cons_mk (Below.trod laidOut (by kernel_rfl) (of_decide_eq_true (by kernel_rfl)) h1 bel lt1) (trodAll_cons_mk (Below.trod laidOut (by kernel_rfl) (of_decide_eq_true (by kernel_rfl)) h2 bel lt2) trodAll_mk0))), rfl, bel.frame _, fun h => by cases h⟩
theorem over : Rows.idsOrderRow.holds Try.pinned (OpenSpec.ofChange Rows.idsOrderSpec) :=
  OpenClaim.holds_of_wide 4 Try.f4 rfl rfl rfl rfl rfl rfl rfl ⟨rfl, rfl, rfl, rfl, rfl⟩ rfl rfl rfl rfl rfl (by kernel_rfl) Try.func4 (by kernel_rfl)
    (of_decide_eq_true (by kernel_rfl)) (by unfold Func.isWrapper; first | (rw [if_pos (by decide +kernel)]; kernel_rfl) | (rw [if_neg (by decide +kernel)]; exact ⟨rfl, rfl⟩))
    (fun os started H enc _ => lifted os started H enc)
theorem proved : Rows.IdsOrderSaid := over
#print axioms proved
end Go.Proofs.Ytbggiflihpjocaa.idsOrder
namespace Go.Proofs.Ytbggiflihpjocaa
/-- The row, under a short name, for the claim. -/
theorem idsOrder_holds : Rows.IdsOrderSaid := idsOrder.proved
end Go.Proofs.Ytbggiflihpjocaa
