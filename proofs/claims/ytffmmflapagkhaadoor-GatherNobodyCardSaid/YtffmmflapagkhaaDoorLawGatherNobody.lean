/- The law GatherNobody holds for every input. -/
import Derived.Test.YtffmmflapagkhaaDoorRows
import Derived.Test.YtffmmflapagkhaaDoorGathO
import Derived.Test.YtffmmflapagkhaaDoorCnS
import Derived.Test.YtffmmflapagkhaaDoorCards
import Derived.Test.YtffmmflapagkhaaDoorTie
import Derived.WalkKit
import Derived.ProofKit
import Derived.OpenShut
import Derived.ShutString
import Derived.ChangeOld
import Derived.Below
import Derived.SizedLaws
import Derived.LaidMore
import Derived.Lay
import Derived.SevenTiedAt
import Derived.Stop.Joined
import Derived.ChangeMaps5
namespace Go.Proofs.YtffmmflapagkhaaDoor.gatherNobody
open Go.ChangeShapes Go.WideShapes Go.ChangeAt Go.RowKit Go.Cn
open Go.ChangeMaps (open_string shut_string)
open Go.Proofs.YtffmmflapagkhaaDoor.Wk
set_option linter.unusedVariables false
set_option linter.unusedSimpArgs false
theorem own : ownKnob Tryd.prog.godebug = none := by kernel_rfl
theorem laidOut : laidOutB Tryd.prog = true := by kernel_rfl
def cs64 (s : Wk.T_parrelref19_Got) : List LV := [.int .u8 s.f_Node, .int .u32 s.f_Reg.f_Boot, .int .u32 s.f_Reg.f_N, .int .u32 s.f_Item.f_Version, .str s.f_Item.f_Value, .int .u32 s.f_Item.f_Conf.f_Epoch, .int .u8 s.f_Item.f_Conf.f_R, .int .u8 s.f_Item.f_Conf.f_W, .int .u8 s.f_Item.f_Conf.f_Votes.a0, .int .u8 s.f_Item.f_Conf.f_Votes.a1, .int .u8 s.f_Item.f_Conf.f_Votes.a2, .int .u8 s.f_Item.f_Conf.f_Votes.a3, .int .u8 s.f_Item.f_Conf.f_Votes.a4, .int .u8 s.f_Item.f_Conf.f_Votes.a5, .int .u8 s.f_Item.f_Conf.f_Votes.a6, .int .u8 s.f_Item.f_Conf.f_Votes.a7]
theorem as64 {l : List LV} (h : fitsL [.int .u8, .int .u32, .int .u32, .int .u32, .str, .int .u32, .int .u8, .int .u8, .int .u8, .int .u8, .int .u8, .int .u8, .int .u8, .int .u8, .int .u8, .int .u8] l = true) : ∃ s : Wk.T_parrelref19_Got, l = cs64 s := by
  obtain ⟨a0, r0, e0, h⟩ := fits_int h
  obtain ⟨a1, r1, e1, h⟩ := fits_int h
  obtain ⟨a2, r2, e2, h⟩ := fits_int h
  obtain ⟨a3, r3, e3, h⟩ := fits_int h
  obtain ⟨a4, r4, e4, h⟩ := fits_str h
  obtain ⟨a5, r5, e5, h⟩ := fits_int h
  obtain ⟨a6, r6, e6, h⟩ := fits_int h
  obtain ⟨a7, r7, e7, h⟩ := fits_int h
  obtain ⟨a8, r8, e8, h⟩ := fits_int h
  obtain ⟨a9, r9, e9, h⟩ := fits_int h
  obtain ⟨a10, r10, e10, h⟩ := fits_int h
  obtain ⟨a11, r11, e11, h⟩ := fits_int h
  obtain ⟨a12, r12, e12, h⟩ := fits_int h
  obtain ⟨a13, r13, e13, h⟩ := fits_int h
  obtain ⟨a14, r14, e14, h⟩ := fits_int h
  obtain ⟨a15, r15, e15, h⟩ := fits_int h
  exact ⟨(Wk.T_parrelref19_Got.mk a0 (Wk.T_api_Reg.mk a1 a2) (Wk.T_api_Item.mk a3 a4 (Wk.T_api_Config.mk a5 a6 a7 (A8.mk a8 a9 a10 a11 a12 a13 a14 a15)))), by rw [e0, e1, e2, e3, e4, e5, e6, e7, e8, e9, e10, e11, e12, e13, e14, e15, fits_nil h]; rfl⟩
def laidL : List (String × DataW Unit) := [("math/bits.deBruijn64tab", Rows.laid_math_bits_deBruijn64tab), ("unicode/utf8.acceptRanges", Rows.laid_unicode_utf8_acceptRanges), ("unicode/utf8.first", Rows.laid_unicode_utf8_first)]
set_option maxRecDepth 100000 in
theorem lifted (os : Os) (started : os.Started) (H : Type) (enc : TypeId × Value → H) :
    ReturnsInHanded {} Tryd.checked os 8 .any (fun w args => (Rows.gatherNobodySpec.pre enc Tryd.prog Tryd.f8 Rows.gatherNobodyRow.domain false w args ∧ laidMetH Tryd.prog laidL w) ∧ sizedMet enc Tryd.prog Tryd.f8 (OpenSpec.ofChange Rows.gatherNobodySpec) false w args) (Rows.gatherNobodySpec.post enc Tryd.prog Tryd.f8 false true false false) := by
  refine returnsInHanded_of_change_and (C := Tryd.checked) (X := fun w _ => laidMetH Tryd.prog laidL w) (fun _ _ _ hh h => h.of_heap hh) own started (by kernel_rfl) Tryd.func8
    (ChangeSpec.witness_shaped (enc := enc) (C := Tryd.checked) (os := os) (X := fun w _ => laidMetH Tryd.prog laidL w) false (World.laidAll Tryd.prog os laidL) #[.agg #[.int .u8 0, .int .u32 0, .int .u32 0, .int .u32 0, .string ⟨#[]⟩, .int .u32 0, .int .u8 0, .int .u8 0, .int .u8 0, .int .u8 0, .int .u8 0, .int .u8 0, .int .u8 0, .int .u8 0, .int .u8 0, .int .u8 0]] 8 (World.laidAll_os _ _ _)
      (World.shaped_of_ZipB (by kernel_rfl) (by kernel_rfl)) (by kernel_rfl) (by kernel_rfl) (by kernel_rfl)
      (by rw [MakeChecks.laidMetH_plain _ _ _ (by kernel_rfl)]; exact laidMet_laidAll _ (by kernel_rfl) (by kernel_rfl))) ?_
  intro W base args ds gs before hval0 hW hcnd hsz0 hx_ hy_
  have hval : ∀ (j : Nat) t v, Tryd.f8.params[j]? = some t → args[j]? = some v → Value.okWide Tryd.prog W .any base t v := hval0
  have hW' := hW
  obtain ⟨p, q, hA0, hV, rfl, hfz, hnd⟩ := hW
  have hA : DataW.TrodAll enc Tryd.prog W 0 (fun _ => true) true Tryd.f8.params.toList args.toList ds p := hA0
  rw [Tryd.params8] at hA hval
  obtain ⟨v0, vs0, d0, ds0, p0, q0, hargs, rfl, rfl, h0, r0⟩ := trodAll_cons hA
  obtain ⟨rfl, rfl, rfl⟩ := trodAll_nil r0
  obtain rfl : args = #[v0] := by cases args; simp_all
  obtain ⟨rfl, rfl⟩ := trodVars_none hV
  have lt0 : ∀ x ∈ p0, x.block < W.heap.size := by obtain ⟨m, hm⟩ := h0; exact DataW.trod_lt m _ _ _ hm
  obtain ⟨l0, f0, g0, e0⟩ := open_cells (d := 12) (ks := [.int .u8, .int .u32, .int .u32, .int .u32, .str, .int .u32, .int .u8, .int .u8, .int .u8, .int .u8, .int .u8, .int .u8, .int .u8, .int .u8, .int .u8, .int .u8]) (by kernel_rfl) (by kernel_rfl) (hval 0 _ v0 rfl rfl) h0
  obtain ⟨x0, rfl⟩ := as64 f0
  have tri := Wk.parrellaw19_GatherNobody_tri x0 true (Wk.nobody_law x0 g0)
  clear hA0 hval0 hsz0
  have htab : TabOK (froOf W) := by first | exact (tabOK_of (g := 0) (t := 122) (e := 5) (by rw [MakeChecks.laidMetH_plain _ _ _ (by kernel_rfl)] at hx_; exact hx_) rfl (by kernel_rfl) (by kernel_rfl) (by kernel_rfl) (by kernel_rfl) (by kernel_rfl) (fun b h => by cases h; rfl))
  refine (below_of_tri tri (vals := [v0]) (w := W) htab ⟨_, _, rfl, e0 _, rfl⟩).mono fun e W' he => ?_
  obtain ⟨⟨x, μ', rfl, hx⟩, bel⟩ := he
  simp only [Wk.parrellaw19_GatherNobody_v, Rel] at hx
  subst hx
  exact ⟨_, rfl, _, _, _, [], _, [], hW', trodAll_mk1 (shut_bool Tryd.underlying4 _), (trodAll_cons_mk (Below.trod laidOut (by kernel_rfl) (of_decide_eq_true (by kernel_rfl)) h0 bel lt0) trodAll_mk0), rfl, bel.frame _, fun h => by cases h⟩
theorem over : Rows.gatherNobodyRow.holds Tryd.pinned (OpenSpec.ofChange Rows.gatherNobodySpec) :=
  OpenClaim.holds_of_wide 8 Tryd.f8 rfl rfl rfl rfl rfl rfl rfl ⟨rfl, rfl, rfl, rfl, rfl⟩ rfl rfl rfl rfl rfl (by kernel_rfl) Tryd.func8 (by kernel_rfl)
    (of_decide_eq_true (by kernel_rfl)) (by unfold Func.isWrapper; first | (rw [if_pos (by decide +kernel)]; kernel_rfl) | (rw [if_neg (by decide +kernel)]; exact ⟨rfl, rfl⟩))
    (fun os started H enc _ => lifted os started H enc)
theorem card : Rows.GatherNobodyCardSaid :=
  Claim7.holds_tied_plain_at .later [] [.data, .data, .pinned] true (true, "1f0ae0980e682807b9939e5ea12f447ff300fadde112fd19951de0a5a86f9e2d") false over (fun _ h => by cases h) (by kernel_rfl) (fun _ h => by cases h) gatherNobody_row_tie rfl ⟨rfl, rfl⟩ (by kernel_rfl) rfl
    (fun f fn hf hfn => by
      obtain rfl : f = 8 := Option.some.inj ((show Tryd.prog.funcNamed "parrel/parrellaw19.GatherNobody" = some 8 by kernel_rfl).symm.trans hf) |>.symm
      obtain rfl : fn = Tryd.f8 := (Option.some.inj (Tryd.func8.symm.trans hfn)).symm
      exact ⟨by kernel_rfl, fun j t ht => by
        rw [Tryd.params8] at ht
        have hm : t ∈ [64] := by simpa using Array.mem_of_getElem? ht
        have hall : ([64].all fun u => !Tryd.prog.wantsStandIn u) = true := by kernel_rfl
        exact (show Tryd.prog.wantsStandIn t = false by simpa using List.all_eq_true.1 hall t hm)⟩)
    (by kernel_rfl)
theorem proved : Rows.GatherNobodyCardSaid := card
#print axioms proved
end Go.Proofs.YtffmmflapagkhaaDoor.gatherNobody
namespace Go.Proofs.YtffmmflapagkhaaDoor
/-- The card, under a short name, for the claim. -/
theorem gatherNobody_holds : Rows.GatherNobodyCardSaid := gatherNobody.proved
end Go.Proofs.YtffmmflapagkhaaDoor
