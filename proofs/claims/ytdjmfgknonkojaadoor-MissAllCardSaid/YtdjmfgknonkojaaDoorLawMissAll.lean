/- The law MissAll holds for every input. -/
import Derived.Test.YtdjmfgknonkojaaDoorRows
import Derived.Test.YtdjmfgknonkojaaDoorMissAl
import Derived.Test.YtdjmfgknonkojaaDoorCnY
import Derived.Test.YtdjmfgknonkojaaDoorCards
import Derived.Test.YtdjmfgknonkojaaDoorTie
import Derived.WalkKit
import Derived.ProofKit
import Derived.OpenShut
import Derived.ShutString
import Derived.ChangeOld
import Derived.Below
import Derived.SizedLaws
import Derived.LaidMore
import Derived.Lay
import Derived.SevenTiedAt
import Derived.Stop.Joined
import Derived.ChangeMaps5
namespace Go.Proofs.YtdjmfgknonkojaaDoor.missAll
open Go.ChangeShapes Go.WideShapes Go.ChangeAt Go.RowKit Go.Cn
open Go.ChangeMaps (open_string shut_string)
open Go.Proofs.YtdjmfgknonkojaaDoor.Wk
set_option linter.unusedVariables false
set_option linter.unusedSimpArgs false
theorem own : ownKnob Tryd.prog.godebug = none := by kernel_rfl
theorem laidOut : laidOutB Tryd.prog = true := by kernel_rfl
def cs42 (s : (A8 (Int))) : List LV := [.int .u8 s.a0, .int .u8 s.a1, .int .u8 s.a2, .int .u8 s.a3, .int .u8 s.a4, .int .u8 s.a5, .int .u8 s.a6, .int .u8 s.a7]
theorem as42 {l : List LV} (h : fitsL [.int .u8, .int .u8, .int .u8, .int .u8, .int .u8, .int .u8, .int .u8, .int .u8] l = true) : ∃ s : (A8 (Int)), l = cs42 s := by
  obtain ⟨a0, r0, e0, h⟩ := fits_int h
  obtain ⟨a1, r1, e1, h⟩ := fits_int h
  obtain ⟨a2, r2, e2, h⟩ := fits_int h
  obtain ⟨a3, r3, e3, h⟩ := fits_int h
  obtain ⟨a4, r4, e4, h⟩ := fits_int h
  obtain ⟨a5, r5, e5, h⟩ := fits_int h
  obtain ⟨a6, r6, e6, h⟩ := fits_int h
  obtain ⟨a7, r7, e7, h⟩ := fits_int h
  exact ⟨(A8.mk a0 a1 a2 a3 a4 a5 a6 a7), by rw [e0, e1, e2, e3, e4, e5, e6, e7, fits_nil h]; rfl⟩
def cs82 (s : Wk.T_parrelref19_Got) : List LV := [.int .u8 s.f_Node, .int .u32 s.f_Reg.f_Boot, .int .u32 s.f_Reg.f_N, .int .u32 s.f_Item.f_Version, .str s.f_Item.f_Value, .int .u32 s.f_Item.f_Conf.f_Epoch, .int .u8 s.f_Item.f_Conf.f_R, .int .u8 s.f_Item.f_Conf.f_W, .int .u8 s.f_Item.f_Conf.f_Votes.a0, .int .u8 s.f_Item.f_Conf.f_Votes.a1, .int .u8 s.f_Item.f_Conf.f_Votes.a2, .int .u8 s.f_Item.f_Conf.f_Votes.a3, .int .u8 s.f_Item.f_Conf.f_Votes.a4, .int .u8 s.f_Item.f_Conf.f_Votes.a5, .int .u8 s.f_Item.f_Conf.f_Votes.a6, .int .u8 s.f_Item.f_Conf.f_Votes.a7]
theorem as82 {l : List LV} (h : fitsL [.int .u8, .int .u32, .int .u32, .int .u32, .str, .int .u32, .int .u8, .int .u8, .int .u8, .int .u8, .int .u8, .int .u8, .int .u8, .int .u8, .int .u8, .int .u8] l = true) : ∃ s : Wk.T_parrelref19_Got, l = cs82 s := by
  obtain ⟨a0, r0, e0, h⟩ := fits_int h
  obtain ⟨a1, r1, e1, h⟩ := fits_int h
  obtain ⟨a2, r2, e2, h⟩ := fits_int h
  obtain ⟨a3, r3, e3, h⟩ := fits_int h
  obtain ⟨a4, r4, e4, h⟩ := fits_str h
  obtain ⟨a5, r5, e5, h⟩ := fits_int h
  obtain ⟨a6, r6, e6, h⟩ := fits_int h
  obtain ⟨a7, r7, e7, h⟩ := fits_int h
  obtain ⟨a8, r8, e8, h⟩ := fits_int h
  obtain ⟨a9, r9, e9, h⟩ := fits_int h
  obtain ⟨a10, r10, e10, h⟩ := fits_int h
  obtain ⟨a11, r11, e11, h⟩ := fits_int h
  obtain ⟨a12, r12, e12, h⟩ := fits_int h
  obtain ⟨a13, r13, e13, h⟩ := fits_int h
  obtain ⟨a14, r14, e14, h⟩ := fits_int h
  obtain ⟨a15, r15, e15, h⟩ := fits_int h
  exact ⟨(Wk.T_parrelref19_Got.mk a0 (Wk.T_api_Reg.mk a1 a2) (Wk.T_api_Item.mk a3 a4 (Wk.T_api_Config.mk a5 a6 a7 (A8.mk a8 a9 a10 a11 a12 a13 a14 a15)))), by rw [e0, e1, e2, e3, e4, e5, e6, e7, e8, e9, e10, e11, e12, e13, e14, e15, fits_nil h]; rfl⟩
def cs58 (s : Wk.T_parrelref20_Lock) : List LV := [.int .u8 s.f_Key.a0, .int .u8 s.f_Key.a1, .int .u8 s.f_Key.a2, .int .u8 s.f_Key.a3, .int .u8 s.f_Key.a4, .int .u8 s.f_Key.a5, .int .u8 s.f_Key.a6, .int .u8 s.f_Key.a7, .int .u8 s.f_Mode, .ds 16 (s.f_Got).length (rowF c_T_parrelref19_Got default s.f_Got)]
def ws58 (s : Wk.T_parrelref20_Lock) : Prop := (wfL (cs42 s.f_Key)) ∧ (wfL ((cInt .u8) s.f_Mode)) ∧ ((∀ a ∈ s.f_Got, (wfL (cs82 a))) ∧ s.f_Got.length * 56 ≤ 140737488351232) ∧ True
def cs49 (s : Wk.T_api_Write) : List LV := [.int .u8 s.f_Key.a0, .int .u8 s.f_Key.a1, .int .u8 s.f_Key.a2, .int .u8 s.f_Key.a3, .int .u8 s.f_Key.a4, .int .u8 s.f_Key.a5, .int .u8 s.f_Key.a6, .int .u8 s.f_Key.a7, .int .u32 s.f_Item.f_Version, .str s.f_Item.f_Value, .int .u32 s.f_Item.f_Conf.f_Epoch, .int .u8 s.f_Item.f_Conf.f_R, .int .u8 s.f_Item.f_Conf.f_W, .int .u8 s.f_Item.f_Conf.f_Votes.a0, .int .u8 s.f_Item.f_Conf.f_Votes.a1, .int .u8 s.f_Item.f_Conf.f_Votes.a2, .int .u8 s.f_Item.f_Conf.f_Votes.a3, .int .u8 s.f_Item.f_Conf.f_Votes.a4, .int .u8 s.f_Item.f_Conf.f_Votes.a5, .int .u8 s.f_Item.f_Conf.f_Votes.a6, .int .u8 s.f_Item.f_Conf.f_Votes.a7]
theorem as49 {l : List LV} (h : fitsL [.int .u8, .int .u8, .int .u8, .int .u8, .int .u8, .int .u8, .int .u8, .int .u8, .int .u32, .str, .int .u32, .int .u8, .int .u8, .int .u8, .int .u8, .int .u8, .int .u8, .int .u8, .int .u8, .int .u8, .int .u8] l = true) : ∃ s : Wk.T_api_Write, l = cs49 s := by
  obtain ⟨a0, r0, e0, h⟩ := fits_int h
  obtain ⟨a1, r1, e1, h⟩ := fits_int h
  obtain ⟨a2, r2, e2, h⟩ := fits_int h
  obtain ⟨a3, r3, e3, h⟩ := fits_int h
  obtain ⟨a4, r4, e4, h⟩ := fits_int h
  obtain ⟨a5, r5, e5, h⟩ := fits_int h
  obtain ⟨a6, r6, e6, h⟩ := fits_int h
  obtain ⟨a7, r7, e7, h⟩ := fits_int h
  obtain ⟨a8, r8, e8, h⟩ := fits_int h
  obtain ⟨a9, r9, e9, h⟩ := fits_str h
  obtain ⟨a10, r10, e10, h⟩ := fits_int h
  obtain ⟨a11, r11, e11, h⟩ := fits_int h
  obtain ⟨a12, r12, e12, h⟩ := fits_int h
  obtain ⟨a13, r13, e13, h⟩ := fits_int h
  obtain ⟨a14, r14, e14, h⟩ := fits_int h
  obtain ⟨a15, r15, e15, h⟩ := fits_int h
  obtain ⟨a16, r16, e16, h⟩ := fits_int h
  obtain ⟨a17, r17, e17, h⟩ := fits_int h
  obtain ⟨a18, r18, e18, h⟩ := fits_int h
  obtain ⟨a19, r19, e19, h⟩ := fits_int h
  obtain ⟨a20, r20, e20, h⟩ := fits_int h
  exact ⟨(Wk.T_api_Write.mk (A8.mk a0 a1 a2 a3 a4 a5 a6 a7) (Wk.T_api_Item.mk a8 a9 (Wk.T_api_Config.mk a10 a11 a12 (A8.mk a13 a14 a15 a16 a17 a18 a19 a20)))), by rw [e0, e1, e2, e3, e4, e5, e6, e7, e8, e9, e10, e11, e12, e13, e14, e15, e16, e17, e18, e19, e20, fits_nil h]; rfl⟩
def laidL : List (String × DataW Unit) := [("math/bits.deBruijn64tab", Rows.laid_math_bits_deBruijn64tab), ("unicode/utf8.acceptRanges", Rows.laid_unicode_utf8_acceptRanges), ("unicode/utf8.first", Rows.laid_unicode_utf8_first)]
set_option maxRecDepth 100000 in
theorem lifted (os : Os) (started : os.Started) (H : Type) (enc : TypeId × Value → H) :
    ReturnsInHanded {} Tryd.checked os 4 .any (fun w args => (Rows.missAllSpec.pre enc Tryd.prog Tryd.f4 Rows.missAllRow.domain false w args ∧ laidMetH Tryd.prog laidL w) ∧ sizedMet enc Tryd.prog Tryd.f4 (OpenSpec.ofChange Rows.missAllSpec) false w args) (Rows.missAllSpec.post enc Tryd.prog Tryd.f4 false true false false) := by
  refine returnsInHanded_of_change_and (C := Tryd.checked) (X := fun w _ => laidMetH Tryd.prog laidL w) (fun _ _ _ hh h => h.of_heap hh) own started (by kernel_rfl) Tryd.func4
    (ChangeSpec.witness_shaped (enc := enc) (C := Tryd.checked) (os := os) (X := fun w _ => laidMetH Tryd.prog laidL w) false (World.laidAll Tryd.prog os laidL) #[.slice none 0 0, .slice none 0 0] 8 (World.laidAll_os _ _ _)
      (World.shaped_of_ZipB (by kernel_rfl) (by kernel_rfl)) (by kernel_rfl) (by kernel_rfl) (by kernel_rfl)
      (by rw [MakeChecks.laidMetH_plain _ _ _ (by kernel_rfl)]; exact laidMet_laidAll _ (by kernel_rfl) (by kernel_rfl))) ?_
  intro W base args ds gs before hval0 hW hcnd hsz0 hx_ hy_
  have hval : ∀ (j : Nat) t v, Tryd.f4.params[j]? = some t → args[j]? = some v → Value.okWide Tryd.prog W .any base t v := hval0
  have hW' := hW
  obtain ⟨p, q, hA0, hV, rfl, hfz, hnd⟩ := hW
  have hA : DataW.TrodAll enc Tryd.prog W 0 (fun _ => true) true Tryd.f4.params.toList args.toList ds p := hA0
  rw [Tryd.params4] at hA hval
  obtain ⟨v0, vs0, d0, ds0, p0, q0, hargs, rfl, rfl, h0, r0⟩ := trodAll_cons hA
  obtain ⟨v1, vs1, d1, ds1, p1, q1, rfl, rfl, rfl, h1, r1⟩ := trodAll_cons r0
  obtain ⟨rfl, rfl, rfl⟩ := trodAll_nil r1
  obtain rfl : args = #[v0, v1] := by cases args; simp_all
  obtain ⟨rfl, rfl⟩ := trodVars_none hV
  have lt0 : ∀ x ∈ p0, x.block < W.heap.size := by obtain ⟨m, hm⟩ := h0; exact DataW.trod_lt m _ _ _ hm
  have lt1 : ∀ x ∈ p1, x.block < W.heap.size := by obtain ⟨m, hm⟩ := h1; exact DataW.trod_lt m _ _ _ hm
  obtain ⟨x0, g0, e0⟩ := open_slice Tryd.underlying22 (hval 0 _ v0 rfl rfl) h0 (sz_at hsz0 0 (t := 22) (by rw [Tryd.params4]; rfl) rfl) (enc := (fun z_ : List (Wk.T_parrelref20_Lock) => [.ds 10 z_.length (rowF cs58 default z_)])) (W := fun x => ((∀ a ∈ x, (ws58 a)) ∧ x.length * 40 ≤ 140737488351232)) (Rd.slice (e := 58) (z := 10) (b := 40) (α := Wk.T_parrelref20_Lock) (enc := cs58) (by kernel_rfl) (by kernel_rfl) (by kernel_rfl) (of_decide_eq_true (by kernel_rfl)) (fun _ => rfl) (fun _ => rfl) (Rd.map (enc2 := cs58) (W2 := ws58) (Rd.struct (N := 10) (fs := [(42, 0), (5, 8), (56, 9)]) (by kernel_rfl) (by kernel_rfl) (RdF.cons (z := 8) (α := (A8 (Int))) (by kernel_rfl) (Rd.cells (d := 12) (ks := [.int .u8, .int .u8, .int .u8, .int .u8, .int .u8, .int .u8, .int .u8, .int .u8]) (enc := cs42) (by kernel_rfl) (fun _ h => as42 h)) (RdF.cons (z := 1) (α := (Int)) (by kernel_rfl) (Rd.cells (d := 12) (ks := [.int .u8]) (enc := cInt .u8) (by kernel_rfl) dec1_int) (RdF.cons (z := 1) (α := (List (T_parrelref19_Got))) (by kernel_rfl) (Rd.slice (e := 82) (z := 16) (b := 56) (α := Wk.T_parrelref19_Got) (enc := cs82) (by kernel_rfl) (by kernel_rfl) (by kernel_rfl) (of_decide_eq_true (by kernel_rfl)) (fun _ => rfl) (fun _ => rfl) (Rd.cells (d := 12) (ks := [.int .u8, .int .u32, .int .u32, .int .u32, .str, .int .u32, .int .u8, .int .u8, .int .u8, .int .u8, .int .u8, .int .u8, .int .u8, .int .u8, .int .u8, .int .u8]) (enc := cs82) (by kernel_rfl) (fun _ h => as82 h))) RdF.nil)))) (fun (p : ((A8 (Int))) × ((Int)) × ((List (T_parrelref19_Got))) × Unit) => Wk.T_parrelref20_Lock.mk p.1 p.2.1 p.2.2.1) (fun _ => rfl) (fun _ h => h)))
  have e0 := rel1 e0
  obtain ⟨x1, g1, e1⟩ := open_slice Tryd.underlying23 (hval 1 _ v1 rfl rfl) h1 (sz_at hsz0 1 (t := 23) (by rw [Tryd.params4]; rfl) rfl) (enc := (fun z_ : List (Wk.T_api_Write) => [.ds 21 z_.length (rowF cs49 default z_)])) (W := fun x => ((∀ a ∈ x, (wfL (cs49 a))) ∧ x.length * 48 ≤ 140737488351232)) (Rd.slice (e := 49) (z := 21) (b := 48) (α := Wk.T_api_Write) (enc := cs49) (by kernel_rfl) (by kernel_rfl) (by kernel_rfl) (of_decide_eq_true (by kernel_rfl)) (fun _ => rfl) (fun _ => rfl) (Rd.cells (d := 12) (ks := [.int .u8, .int .u8, .int .u8, .int .u8, .int .u8, .int .u8, .int .u8, .int .u8, .int .u32, .str, .int .u32, .int .u8, .int .u8, .int .u8, .int .u8, .int .u8, .int .u8, .int .u8, .int .u8, .int .u8, .int .u8]) (enc := cs49) (by kernel_rfl) (fun _ h => as49 h)))
  have e1 := rel1 e1
  have tri := Wk.parrellaw20_MissAll_tri x0 x1 true (Wk.all_law x0 x1 g0 g1)
  clear hA0 hval0 hsz0
  have htab : TabOK (froOf W) := by first | exact (tabOK_of (g := 0) (t := 131) (e := 5) (by rw [MakeChecks.laidMetH_plain _ _ _ (by kernel_rfl)] at hx_; exact hx_) rfl (by kernel_rfl) (by kernel_rfl) (by kernel_rfl) (by kernel_rfl) (by kernel_rfl) (fun b h => by cases h; rfl))
  refine (below_of_tri tri (vals := [v0, v1]) (w := W) htab ⟨_, _, rfl, e0, _, _, rfl, e1, rfl⟩).mono fun e W' he => ?_
  obtain ⟨⟨x, μ', rfl, hx⟩, bel⟩ := he
  simp only [Wk.parrellaw20_MissAll_v, Rel] at hx
  subst hx
  exact ⟨_, rfl, _, _, _, [], _, [], hW', trodAll_mk1 (shut_bool Tryd.underlying4 _), (trodAll_cons_mk (Below.trod laidOut (by kernel_rfl) (of_decide_eq_true (by kernel_rfl)) h0 bel lt0) (trodAll_cons_mk (Below.trod laidOut (by kernel_rfl) (of_decide_eq_true (by kernel_rfl)) h1 bel lt1) trodAll_mk0)), rfl, bel.frame _, fun h => by cases h⟩
theorem over : Rows.missAllRow.holds Tryd.pinned (OpenSpec.ofChange Rows.missAllSpec) :=
  OpenClaim.holds_of_wide 4 Tryd.f4 rfl rfl rfl rfl rfl rfl rfl ⟨rfl, rfl, rfl, rfl, rfl⟩ rfl rfl rfl rfl rfl (by kernel_rfl) Tryd.func4 (by kernel_rfl)
    (of_decide_eq_true (by kernel_rfl)) (by unfold Func.isWrapper; first | (rw [if_pos (by decide +kernel)]; kernel_rfl) | (rw [if_neg (by decide +kernel)]; exact ⟨rfl, rfl⟩))
    (fun os started H enc _ => lifted os started H enc)
theorem card : Rows.MissAllCardSaid :=
  Claim7.holds_tied_plain_at .later [] [.data, .data, .pinned] true (true, "8ec7c90ab23bc1abc79006ec2b630e2b51ba25dcc8aba8df5e0e552ee4618f67") false over (fun _ h => by cases h) (by kernel_rfl) (fun _ h => by cases h) missAll_row_tie rfl ⟨rfl, rfl⟩ (by kernel_rfl) rfl
    (fun f fn hf hfn => by
      obtain rfl : f = 4 := Option.some.inj ((show Tryd.prog.funcNamed "parrel/parrellaw20.MissAll" = some 4 by kernel_rfl).symm.trans hf) |>.symm
      obtain rfl : fn = Tryd.f4 := (Option.some.inj (Tryd.func4.symm.trans hfn)).symm
      exact ⟨by kernel_rfl, fun j t ht => by
        rw [Tryd.params4] at ht
        have hm : t ∈ [22, 23] := by simpa using Array.mem_of_getElem? ht
        have hall : ([22, 23].all fun u => !Tryd.prog.wantsStandIn u) = true := by kernel_rfl
        exact (show Tryd.prog.wantsStandIn t = false by simpa using List.all_eq_true.1 hall t hm)⟩)
    (by kernel_rfl)
theorem proved : Rows.MissAllCardSaid := card
#print axioms proved
end Go.Proofs.YtdjmfgknonkojaaDoor.missAll
namespace Go.Proofs.YtdjmfgknonkojaaDoor
/-- The card, under a short name, for the claim. -/
theorem missAll_holds : Rows.MissAllCardSaid := missAll.proved
end Go.Proofs.YtdjmfgknonkojaaDoor
