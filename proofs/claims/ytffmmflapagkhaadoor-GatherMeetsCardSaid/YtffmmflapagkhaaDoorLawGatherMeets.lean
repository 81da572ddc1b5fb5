/- The law GatherMeets holds for every input. -/
import Derived.Test.YtffmmflapagkhaaDoorRows
import Derived.Test.YtffmmflapagkhaaDoorGathM
import Derived.Test.YtffmmflapagkhaaDoorCnS
import Derived.Test.YtffmmflapagkhaaDoorCards
import Derived.Test.YtffmmflapagkhaaDoorTie
import Derived.WalkKit
import Derived.ProofKit
import Derived.OpenShut
import Derived.ShutString
import Derived.ChangeOld
import Derived.Below
import Derived.SizedLaws
import Derived.LaidMore
import Derived.Lay
import Derived.SevenTiedAt
import Derived.Stop.Joined
import Derived.ChangeMaps5
namespace Go.Proofs.YtffmmflapagkhaaDoor.gatherMeets
open Go.ChangeShapes Go.WideShapes Go.ChangeAt Go.RowKit Go.Cn
open Go.ChangeMaps (open_string shut_string)
open Go.Proofs.YtffmmflapagkhaaDoor.Wk
set_option linter.unusedVariables false
set_option linter.unusedSimpArgs false
theorem own : ownKnob Tryd.prog.godebug = none := by kernel_rfl
theorem laidOut : laidOutB Tryd.prog = true := by kernel_rfl
def cs25 (s : Wk.T_api_Config) : List LV := [.int .u32 s.f_Epoch, .int .u8 s.f_R, .int .u8 s.f_W, .int .u8 s.f_Votes.a0, .int .u8 s.f_Votes.a1, .int .u8 s.f_Votes.a2, .int .u8 s.f_Votes.a3, .int .u8 s.f_Votes.a4, .int .u8 s.f_Votes.a5, .int .u8 s.f_Votes.a6, .int .u8 s.f_Votes.a7]
theorem as25 {l : List LV} (h : fitsL [.int .u32, .int .u8, .int .u8, .int .u8, .int .u8, .int .u8, .int .u8, .int .u8, .int .u8, .int .u8, .int .u8] l = true) : ∃ s : Wk.T_api_Config, l = cs25 s := by
  obtain ⟨a0, r0, e0, h⟩ := fits_int h
  obtain ⟨a1, r1, e1, h⟩ := fits_int h
  obtain ⟨a2, r2, e2, h⟩ := fits_int h
  obtain ⟨a3, r3, e3, h⟩ := fits_int h
  obtain ⟨a4, r4, e4, h⟩ := fits_int h
  obtain ⟨a5, r5, e5, h⟩ := fits_int h
  obtain ⟨a6, r6, e6, h⟩ := fits_int h
  obtain ⟨a7, r7, e7, h⟩ := fits_int h
  obtain ⟨a8, r8, e8, h⟩ := fits_int h
  obtain ⟨a9, r9, e9, h⟩ := fits_int h
  obtain ⟨a10, r10, e10, h⟩ := fits_int h
  exact ⟨(Wk.T_api_Config.mk a0 a1 a2 (A8.mk a3 a4 a5 a6 a7 a8 a9 a10)), by rw [e0, e1, e2, e3, e4, e5, e6, e7, e8, e9, e10, fits_nil h]; rfl⟩
def laidL : List (String × DataW Unit) := [("math/bits.deBruijn64tab", Rows.laid_math_bits_deBruijn64tab), ("unicode/utf8.acceptRanges", Rows.laid_unicode_utf8_acceptRanges), ("unicode/utf8.first", Rows.laid_unicode_utf8_first)]
set_option maxRecDepth 100000 in
theorem lifted (os : Os) (started : os.Started) (H : Type) (enc : TypeId × Value → H) :
    ReturnsInHanded {} Tryd.checked os 3 .any (fun w args => (Rows.gatherMeetsSpec.pre enc Tryd.prog Tryd.f3 Rows.gatherMeetsRow.domain false w args ∧ laidMetH Tryd.prog laidL w) ∧ sizedMet enc Tryd.prog Tryd.f3 (OpenSpec.ofChange Rows.gatherMeetsSpec) false w args) (Rows.gatherMeetsSpec.post enc Tryd.prog Tryd.f3 false true false false) := by
  refine returnsInHanded_of_change_and (C := Tryd.checked) (X := fun w _ => laidMetH Tryd.prog laidL w) (fun _ _ _ hh h => h.of_heap hh) own started (by kernel_rfl) Tryd.func3
    (ChangeSpec.witness_shaped (enc := enc) (C := Tryd.checked) (os := os) (X := fun w _ => laidMetH Tryd.prog laidL w) false (World.laidAll Tryd.prog os laidL) #[.agg #[.int .u32 0, .int .u8 0, .int .u8 0, .int .u8 0, .int .u8 0, .int .u8 0, .int .u8 0, .int .u8 0, .int .u8 0, .int .u8 0, .int .u8 0], .int .u64 0, .int .u64 0] 8 (World.laidAll_os _ _ _)
      (World.shaped_of_ZipB (by kernel_rfl) (by kernel_rfl)) (by kernel_rfl) (by kernel_rfl) (by kernel_rfl)
      (by rw [MakeChecks.laidMetH_plain _ _ _ (by kernel_rfl)]; exact laidMet_laidAll _ (by kernel_rfl) (by kernel_rfl))) ?_
  intro W base args ds gs before hval0 hW hcnd hsz0 hx_ hy_
  have hval : ∀ (j : Nat) t v, Tryd.f3.params[j]? = some t → args[j]? = some v → Value.okWide Tryd.prog W .any base t v := hval0
  have hW' := hW
  obtain ⟨p, q, hA0, hV, rfl, hfz, hnd⟩ := hW
  have hA : DataW.TrodAll enc Tryd.prog W 0 (fun _ => true) true Tryd.f3.params.toList args.toList ds p := hA0
  rw [Tryd.params3] at hA hval
  obtain ⟨v0, vs0, d0, ds0, p0, q0, hargs, rfl, rfl, h0, r0⟩ := trodAll_cons hA
  obtain ⟨v1, vs1, d1, ds1, p1, q1, rfl, rfl, rfl, h1, r1⟩ := trodAll_cons r0
  obtain ⟨v2, vs2, d2, ds2, p2, q2, rfl, rfl, rfl, h2, r2⟩ := trodAll_cons r1
  obtain ⟨rfl, rfl, rfl⟩ := trodAll_nil r2
  obtain rfl : args = #[v0, v1, v2] := by cases args; simp_all
  obtain ⟨rfl, rfl⟩ := trodVars_none hV
  have lt0 : ∀ x ∈ p0, x.block < W.heap.size := by obtain ⟨m, hm⟩ := h0; exact DataW.trod_lt m _ _ _ hm
  have lt1 : ∀ x ∈ p1, x.block < W.heap.size := by obtain ⟨m, hm⟩ := h1; exact DataW.trod_lt m _ _ _ hm
  have lt2 : ∀ x ∈ p2, x.block < W.heap.size := by obtain ⟨m, hm⟩ := h2; exact DataW.trod_lt m _ _ _ hm
  obtain ⟨l0, f0, g0, e0⟩ := open_cells (d := 12) (ks := [.int .u32, .int .u8, .int .u8, .int .u8, .int .u8, .int .u8, .int .u8, .int .u8, .int .u8, .int .u8, .int .u8]) (by kernel_rfl) (by kernel_rfl) (hval 0 _ v0 rfl rfl) h0
  obtain ⟨x0, rfl⟩ := as25 f0
  obtain ⟨x1, rfl, rfl, rfl, g1⟩ := open_int Tryd.underlying26 (hval 1 _ v1 rfl rfl) h1
  have e1 : ∀ μ : Emb, Rel μ (.int .u64 x1) (.int .u64 x1) := fun _ => rfl
  obtain ⟨x2, rfl, rfl, rfl, g2⟩ := open_int Tryd.underlying26 (hval 2 _ v2 rfl rfl) h2
  have e2 : ∀ μ : Emb, Rel μ (.int .u64 x2) (.int .u64 x2) := fun _ => rfl
  have tri := Wk.parrellaw19_GatherMeets_tri x0 x1 x2 true (Wk.meets_law x0 x1 x2 g0 g1 g2)
  clear hA0 hval0 hsz0
  have htab : TabOK (froOf W) := by first | exact (tabOK_of (g := 0) (t := 122) (e := 5) (by rw [MakeChecks.laidMetH_plain _ _ _ (by kernel_rfl)] at hx_; exact hx_) rfl (by kernel_rfl) (by kernel_rfl) (by kernel_rfl) (by kernel_rfl) (by kernel_rfl) (fun b h => by cases h; rfl))
  refine (below_of_tri tri (vals := [v0, .int .u64 x1, .int .u64 x2]) (w := W) htab ⟨_, _, rfl, e0 _, _, _, rfl, e1 _, _, _, rfl, e2 _, rfl⟩).mono fun e W' he => ?_
  obtain ⟨⟨x, μ', rfl, hx⟩, bel⟩ := he
  simp only [Wk.parrellaw19_GatherMeets_v, Rel] at hx
  subst hx
  exact ⟨_, rfl, _, _, _, [], _, [], hW', trodAll_mk1 (shut_bool Tryd.underlying4 _), (trodAll_cons_mk (Below.trod laidOut (by kernel_rfl) (of_decide_eq_true (by kernel_rfl)) h0 bel lt0) (trodAll_cons_mk (Below.trod laidOut (by kernel_rfl) (of_decide_eq_true (by kernel_rfl)) h1 bel lt1) (trodAll_cons_mk (Below.trod laidOut (by kernel_rfl) (of_decide_eq_true (by kernel_rfl)) h2 bel lt2) trodAll_mk0))), rfl, bel.frame _, fun h => by cases h⟩
theorem over : Rows.gatherMeetsRow.holds Tryd.pinned (OpenSpec.ofChange Rows.gatherMeetsSpec) :=
  OpenClaim.holds_of_wide 3 Tryd.f3 rfl rfl rfl rfl rfl rfl rfl ⟨rfl, rfl, rfl, rfl, rfl⟩ rfl rfl rfl rfl rfl (by kernel_rfl) Tryd.func3 (by kernel_rfl)
    (of_decide_eq_true (by kernel_rfl)) (by unfold Func.isWrapper; first | (rw [if_pos (by decide +kernel)]; kernel_rfl) | (rw [if_neg (by decide +kernel)]; exact ⟨rfl, rfl⟩))
    (fun os started H enc _ => lifted os started H enc)
theorem card : Rows.GatherMeetsCardSaid :=
  Claim7.holds_tied_plain_at .later [] [.data, .data, .pinned] true (true, "1f0ae0980e682807b9939e5ea12f447ff300fadde112fd19951de0a5a86f9e2d") false over (fun _ h => by cases h) (by kernel_rfl) (fun _ h => by cases h) gatherMeets_row_tie rfl ⟨rfl, rfl⟩ (by kernel_rfl) rfl
    (fun f fn hf hfn => by
      obtain rfl : f = 3 := Option.some.inj ((show Tryd.prog.funcNamed "parrel/parrellaw19.GatherMeets" = some 3 by kernel_rfl).symm.trans hf) |>.symm
      obtain rfl : fn = Tryd.f3 := (Option.some.inj (Tryd.func3.symm.trans hfn)).symm
      exact ⟨by kernel_rfl, fun j t ht => by
        rw [Tryd.params3] at ht
        have hm : t ∈ [25, 26, 26] := by simpa using Array.mem_of_getElem? ht
        have hall : ([25, 26, 26].all fun u => !Tryd.prog.wantsStandIn u) = true := by kernel_rfl
        exact (show Tryd.prog.wantsStandIn t = false by simpa using List.all_eq_true.1 hall t hm)⟩)
    (by kernel_rfl)
theorem proved : Rows.GatherMeetsCardSaid := card
#print axioms proved
end Go.Proofs.YtffmmflapagkhaaDoor.gatherMeets
namespace Go.Proofs.YtffmmflapagkhaaDoor
/-- The card, under a short name, for the claim. -/
theorem gatherMeets_holds : Rows.GatherMeetsCardSaid := gatherMeets.proved
end Go.Proofs.YtffmmflapagkhaaDoor
