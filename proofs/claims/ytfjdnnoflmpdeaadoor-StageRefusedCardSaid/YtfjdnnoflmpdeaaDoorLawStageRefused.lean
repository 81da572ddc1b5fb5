/- The law StageRefused holds for every input. -/
import Derived.Test.YtfjdnnoflmpdeaaDoorRows
import Derived.Test.YtfjdnnoflmpdeaaDoorStaS
import Derived.Test.YtfjdnnoflmpdeaaDoorCnY
import Derived.Test.YtfjdnnoflmpdeaaDoorCards
import Derived.Test.YtfjdnnoflmpdeaaDoorTie
import Derived.WalkKit
import Derived.ProofKit
import Derived.OpenShut
import Derived.ShutString
import Derived.ChangeOld
import Derived.Below
import Derived.SizedLaws
import Derived.LaidMore
import Derived.Lay
import Derived.SevenTiedAt
import Derived.Stop.Joined
import Derived.ChangeMaps5
namespace Go.Proofs.YtfjdnnoflmpdeaaDoor.stageRefused
open Go.ChangeShapes Go.WideShapes Go.ChangeAt Go.RowKit Go.Cn
open Go.ChangeMaps (open_string shut_string)
open Go.Proofs.YtfjdnnoflmpdeaaDoor.Wk
set_option linter.unusedVariables false
set_option linter.unusedSimpArgs false
theorem own : ownKnob Tryd.prog.godebug = none := by kernel_rfl
theorem laidOut : laidOutB Tryd.prog = true := by kernel_rfl
def cs24 (s : Wk.T_api_Tx) : List LV := [.int .u8 s.f_Node, .int .u32 s.f_Boot, .int .u32 s.f_Num]
theorem as24 {l : List LV} (h : fitsL [.int .u8, .int .u32, .int .u32] l = true) : ∃ s : Wk.T_api_Tx, l = cs24 s := by
  obtain ⟨a0, r0, e0, h⟩ := fits_int h
  obtain ⟨a1, r1, e1, h⟩ := fits_int h
  obtain ⟨a2, r2, e2, h⟩ := fits_int h
  exact ⟨(Wk.T_api_Tx.mk a0 a1 a2), by rw [e0, e1, e2, fits_nil h]; rfl⟩
def cs26 (s : Wk.T_api_Reg) : List LV := [.int .u32 s.f_Boot, .int .u32 s.f_N]
theorem as26 {l : List LV} (h : fitsL [.int .u32, .int .u32] l = true) : ∃ s : Wk.T_api_Reg, l = cs26 s := by
  obtain ⟨a0, r0, e0, h⟩ := fits_int h
  obtain ⟨a1, r1, e1, h⟩ := fits_int h
  exact ⟨(Wk.T_api_Reg.mk a0 a1), by rw [e0, e1, fits_nil h]; rfl⟩
def cs49 (s : Wk.T_api_Write) : List LV := [.int .u8 s.f_Key.a0, .int .u8 s.f_Key.a1, .int .u8 s.f_Key.a2, .int .u8 s.f_Key.a3, .int .u8 s.f_Key.a4, .int .u8 s.f_Key.a5, .int .u8 s.f_Key.a6, .int .u8 s.f_Key.a7, .int .u32 s.f_Item.f_Version, .str s.f_Item.f_Value, .int .u32 s.f_Item.f_Conf.f_Epoch, .int .u8 s.f_Item.f_Conf.f_R, .int .u8 s.f_Item.f_Conf.f_W, .int .u8 s.f_Item.f_Conf.f_Votes.a0, .int .u8 s.f_Item.f_Conf.f_Votes.a1, .int .u8 s.f_Item.f_Conf.f_Votes.a2, .int .u8 s.f_Item.f_Conf.f_Votes.a3, .int .u8 s.f_Item.f_Conf.f_Votes.a4, .int .u8 s.f_Item.f_Conf.f_Votes.a5, .int .u8 s.f_Item.f_Conf.f_Votes.a6, .int .u8 s.f_Item.f_Conf.f_Votes.a7]
theorem as49 {l : List LV} (h : fitsL [.int .u8, .int .u8, .int .u8, .int .u8, .int .u8, .int .u8, .int .u8, .int .u8, .int .u32, .str, .int .u32, .int .u8, .int .u8, .int .u8, .int .u8, .int .u8, .int .u8, .int .u8, .int .u8, .int .u8, .int .u8] l = true) : ∃ s : Wk.T_api_Write, l = cs49 s := by
  obtain ⟨a0, r0, e0, h⟩ := fits_int h
  obtain ⟨a1, r1, e1, h⟩ := fits_int h
  obtain ⟨a2, r2, e2, h⟩ := fits_int h
  obtain ⟨a3, r3, e3, h⟩ := fits_int h
  obtain ⟨a4, r4, e4, h⟩ := fits_int h
  obtain ⟨a5, r5, e5, h⟩ := fits_int h
  obtain ⟨a6, r6, e6, h⟩ := fits_int h
  obtain ⟨a7, r7, e7, h⟩ := fits_int h
  obtain ⟨a8, r8, e8, h⟩ := fits_int h
  obtain ⟨a9, r9, e9, h⟩ := fits_str h
  obtain ⟨a10, r10, e10, h⟩ := fits_int h
  obtain ⟨a11, r11, e11, h⟩ := fits_int h
  obtain ⟨a12, r12, e12, h⟩ := fits_int h
  obtain ⟨a13, r13, e13, h⟩ := fits_int h
  obtain ⟨a14, r14, e14, h⟩ := fits_int h
  obtain ⟨a15, r15, e15, h⟩ := fits_int h
  obtain ⟨a16, r16, e16, h⟩ := fits_int h
  obtain ⟨a17, r17, e17, h⟩ := fits_int h
  obtain ⟨a18, r18, e18, h⟩ := fits_int h
  obtain ⟨a19, r19, e19, h⟩ := fits_int h
  obtain ⟨a20, r20, e20, h⟩ := fits_int h
  exact ⟨(Wk.T_api_Write.mk (A8.mk a0 a1 a2 a3 a4 a5 a6 a7) (Wk.T_api_Item.mk a8 a9 (Wk.T_api_Config.mk a10 a11 a12 (A8.mk a13 a14 a15 a16 a17 a18 a19 a20)))), by rw [e0, e1, e2, e3, e4, e5, e6, e7, e8, e9, e10, e11, e12, e13, e14, e15, e16, e17, e18, e19, e20, fits_nil h]; rfl⟩
def cs29 (s : Wk.T_parrellaw14_Act) : List LV := [.bool s.f_Take, .int .u8 s.f_Tx.f_Node, .int .u32 s.f_Tx.f_Boot, .int .u32 s.f_Tx.f_Num, .int .u32 s.f_Reg.f_Boot, .int .u32 s.f_Reg.f_N, .ds 21 (s.f_Writes).length (rowF c_T_api_Write default s.f_Writes)]
def ws29 (s : Wk.T_parrellaw14_Act) : Prop := (wfL ((fun z_ : Bool => [LV.bool z_]) s.f_Take)) ∧ (wfL (cs24 s.f_Tx)) ∧ (wfL (cs26 s.f_Reg)) ∧ ((∀ a ∈ s.f_Writes, (wfL (cs49 a))) ∧ s.f_Writes.length * 48 ≤ 140737488351232) ∧ True
def laidL : List (String × DataW Unit) := [("unicode/utf8.acceptRanges", Rows.laid_unicode_utf8_acceptRanges), ("unicode/utf8.first", Rows.laid_unicode_utf8_first)]
set_option maxRecDepth 100000 in
theorem lifted (os : Os) (started : os.Started) (H : Type) (enc : TypeId × Value → H) :
    ReturnsInHanded {} Tryd.checked os 6 .any (fun w args => (Rows.stageRefusedSpec.pre enc Tryd.prog Tryd.f6 Rows.stageRefusedRow.domain false w args ∧ laidMetH Tryd.prog laidL w) ∧ sizedMet enc Tryd.prog Tryd.f6 (OpenSpec.ofChange Rows.stageRefusedSpec) false w args) (Rows.stageRefusedSpec.post enc Tryd.prog Tryd.f6 false true false false) := by
  refine returnsInHanded_of_change_and (C := Tryd.checked) (X := fun w _ => laidMetH Tryd.prog laidL w) (fun _ _ _ hh h => h.of_heap hh) own started (by kernel_rfl) Tryd.func6
    (ChangeSpec.witness_shaped (enc := enc) (C := Tryd.checked) (os := os) (X := fun w _ => laidMetH Tryd.prog laidL w) false (World.laidAll Tryd.prog os laidL) #[.slice none 0 0, .agg #[.bool false, .int .u8 0, .int .u32 0, .int .u32 0, .int .u32 0, .int .u32 0, .slice none 0 0]] 8 (World.laidAll_os _ _ _)
      (World.shaped_of_ZipB (by kernel_rfl) (by kernel_rfl)) (by kernel_rfl) (by kernel_rfl) (by kernel_rfl)
      (by rw [MakeChecks.laidMetH_plain _ _ _ (by kernel_rfl)]; exact laidMet_laidAll _ (by kernel_rfl) (by kernel_rfl))) ?_
  intro W base args ds gs before hval0 hW hcnd hsz0 hx_ hy_
  have hval : ∀ (j : Nat) t v, Tryd.f6.params[j]? = some t → args[j]? = some v → Value.okWide Tryd.prog W .any base t v := hval0
  have hW' := hW
  obtain ⟨p, q, hA0, hV, rfl, hfz, hnd⟩ := hW
  have hA : DataW.TrodAll enc Tryd.prog W 0 (fun _ => true) true Tryd.f6.params.toList args.toList ds p := hA0
  rw [Tryd.params6] at hA hval
  obtain ⟨v0, vs0, d0, ds0, p0, q0, hargs, rfl, rfl, h0, r0⟩ := trodAll_cons hA
  obtain ⟨v1, vs1, d1, ds1, p1, q1, rfl, rfl, rfl, h1, r1⟩ := trodAll_cons r0
  obtain ⟨rfl, rfl, rfl⟩ := trodAll_nil r1
  obtain rfl : args = #[v0, v1] := by cases args; simp_all
  obtain ⟨rfl, rfl⟩ := trodVars_none hV
  have lt0 : ∀ x ∈ p0, x.block < W.heap.size := by obtain ⟨m, hm⟩ := h0; exact DataW.trod_lt m _ _ _ hm
  have lt1 : ∀ x ∈ p1, x.block < W.heap.size := by obtain ⟨m, hm⟩ := h1; exact DataW.trod_lt m _ _ _ hm
  obtain ⟨x0, g0, e0⟩ := open_slice Tryd.underlying30 (hval 0 _ v0 rfl rfl) h0 (sz_at hsz0 0 (t := 30) (by rw [Tryd.params6]; rfl) rfl) (enc := (fun z_ : List (Wk.T_parrellaw14_Act) => [.ds 7 z_.length (rowF cs29 default z_)])) (W := fun x => ((∀ a ∈ x, (ws29 a)) ∧ x.length * 48 ≤ 140737488351232)) (Rd.slice (e := 29) (z := 7) (b := 48) (α := Wk.T_parrellaw14_Act) (enc := cs29) (by kernel_rfl) (by kernel_rfl) (by kernel_rfl) (of_decide_eq_true (by kernel_rfl)) (fun _ => rfl) (fun _ => rfl) (Rd.map (enc2 := cs29) (W2 := ws29) (Rd.struct (N := 7) (fs := [(4, 0), (24, 1), (26, 4), (27, 6)]) (by kernel_rfl) (by kernel_rfl) (RdF.cons (z := 1) (α := (Bool)) (by kernel_rfl) (Rd.cells (d := 12) (ks := [.bool]) (by kernel_rfl) dec1_bool) (RdF.cons (z := 3) (α := Wk.T_api_Tx) (by kernel_rfl) (Rd.cells (d := 12) (ks := [.int .u8, .int .u32, .int .u32]) (enc := cs24) (by kernel_rfl) (fun _ h => as24 h)) (RdF.cons (z := 2) (α := Wk.T_api_Reg) (by kernel_rfl) (Rd.cells (d := 12) (ks := [.int .u32, .int .u32]) (enc := cs26) (by kernel_rfl) (fun _ h => as26 h)) (RdF.cons (z := 1) (α := (List (T_api_Write))) (by kernel_rfl) (Rd.slice (e := 49) (z := 21) (b := 48) (α := Wk.T_api_Write) (enc := cs49) (by kernel_rfl) (by kernel_rfl) (by kernel_rfl) (of_decide_eq_true (by kernel_rfl)) (fun _ => rfl) (fun _ => rfl) (Rd.cells (d := 12) (ks := [.int .u8, .int .u8, .int .u8, .int .u8, .int .u8, .int .u8, .int .u8, .int .u8, .int .u32, .str, .int .u32, .int .u8, .int .u8, .int .u8, .int .u8, .int .u8, .int .u8, .int .u8, .int .u8, .int .u8, .int .u8]) (enc := cs49) (by kernel_rfl) (fun _ h => as49 h))) RdF.nil))))) (fun (p : ((Bool)) × (Wk.T_api_Tx) × (Wk.T_api_Reg) × ((List (T_api_Write))) × Unit) => Wk.T_parrellaw14_Act.mk p.1 p.2.1 p.2.2.1 p.2.2.2.1) (fun _ => rfl) (fun _ h => h)))
  have e0 := rel1 e0
  obtain ⟨x1, g1, e1⟩ := open_struct Tryd.underlying29 (hval 1 _ v1 rfl rfl) h1 (sz_at hsz0 1 (t := 29) (by rw [Tryd.params6]; rfl) rfl) (enc := cs29) (W := ws29) (Rd.map (enc2 := cs29) (W2 := ws29) (Rd.struct (N := 7) (fs := [(4, 0), (24, 1), (26, 4), (27, 6)]) (by kernel_rfl) (by kernel_rfl) (RdF.cons (z := 1) (α := (Bool)) (by kernel_rfl) (Rd.cells (d := 12) (ks := [.bool]) (by kernel_rfl) dec1_bool) (RdF.cons (z := 3) (α := Wk.T_api_Tx) (by kernel_rfl) (Rd.cells (d := 12) (ks := [.int .u8, .int .u32, .int .u32]) (enc := cs24) (by kernel_rfl) (fun _ h => as24 h)) (RdF.cons (z := 2) (α := Wk.T_api_Reg) (by kernel_rfl) (Rd.cells (d := 12) (ks := [.int .u32, .int .u32]) (enc := cs26) (by kernel_rfl) (fun _ h => as26 h)) (RdF.cons (z := 1) (α := (List (T_api_Write))) (by kernel_rfl) (Rd.slice (e := 49) (z := 21) (b := 48) (α := Wk.T_api_Write) (enc := cs49) (by kernel_rfl) (by kernel_rfl) (by kernel_rfl) (of_decide_eq_true (by kernel_rfl)) (fun _ => rfl) (fun _ => rfl) (Rd.cells (d := 12) (ks := [.int .u8, .int .u8, .int .u8, .int .u8, .int .u8, .int .u8, .int .u8, .int .u8, .int .u32, .str, .int .u32, .int .u8, .int .u8, .int .u8, .int .u8, .int .u8, .int .u8, .int .u8, .int .u8, .int .u8, .int .u8]) (enc := cs49) (by kernel_rfl) (fun _ h => as49 h))) RdF.nil))))) (fun (p : ((Bool)) × (Wk.T_api_Tx) × (Wk.T_api_Reg) × ((List (T_api_Write))) × Unit) => Wk.T_parrellaw14_Act.mk p.1 p.2.1 p.2.2.1 p.2.2.2.1) (fun _ => rfl) (fun _ h => h))
  have tri := Wk.parrellaw14_StageRefused_tri x0 x1 true (Wk.refused_law x0 x1 g0 g1)
  clear hA0 hval0 hsz0
  refine (below_of_tri tri (vals := [v0, v1]) (w := W) (TabOK.no rfl) ⟨_, _, rfl, e0, _, _, rfl, e1, rfl⟩).mono fun e W' he => ?_
  obtain ⟨⟨x, μ', rfl, hx⟩, bel⟩ := he
  simp only [Wk.parrellaw14_StageRefused_v, Rel] at hx
  subst hx
  exact ⟨_, rfl, _, _, _, [], _, [], hW', trodAll_mk1 (shut_bool Tryd.underlying4 _), (trodAll_cons_mk (Below.trod laidOut (by kernel_rfl) (of_decide_eq_true (by kernel_rfl)) h0 bel lt0) (trodAll_cons_mk (Below.trod laidOut (by kernel_rfl) (of_decide_eq_true (by kernel_rfl)) h1 bel lt1) trodAll_mk0)), rfl, bel.frame _, fun h => by cases h⟩
theorem over : Rows.stageRefusedRow.holds Tryd.pinned (OpenSpec.ofChange Rows.stageRefusedSpec) :=
  OpenClaim.holds_of_wide 6 Tryd.f6 rfl rfl rfl rfl rfl rfl rfl ⟨rfl, rfl, rfl, rfl, rfl⟩ rfl rfl rfl rfl rfl (by kernel_rfl) Tryd.func6 (by kernel_rfl)
    (of_decide_eq_true (by kernel_rfl)) (by unfold Func.isWrapper; first | (rw [if_pos (by decide +kernel)]; kernel_rfl) | (rw [if_neg (by decide +kernel)]; exact ⟨rfl, rfl⟩))
    (fun os started H enc _ => lifted os started H enc)
theorem card : Rows.StageRefusedCardSaid :=
  Claim7.holds_tied_plain_at .later [] [.data, .pinned] true (true, "409217584c03a1d1f92a63494b6b410164455f109648bc36f1e152cbab16eae2") false over (fun _ h => by cases h) (by kernel_rfl) (fun _ h => by cases h) stageRefused_row_tie rfl ⟨rfl, rfl⟩ (by kernel_rfl) rfl
    (fun f fn hf hfn => by
      obtain rfl : f = 6 := Option.some.inj ((show Tryd.prog.funcNamed "parrel/parrellaw14.StageRefused" = some 6 by kernel_rfl).symm.trans hf) |>.symm
      obtain rfl : fn = Tryd.f6 := (Option.some.inj (Tryd.func6.symm.trans hfn)).symm
      exact ⟨by kernel_rfl, fun j t ht => by
        rw [Tryd.params6] at ht
        have hm : t ∈ [30, 29] := by simpa using Array.mem_of_getElem? ht
        have hall : ([30, 29].all fun u => !Tryd.prog.wantsStandIn u) = true := by kernel_rfl
        exact (show Tryd.prog.wantsStandIn t = false by simpa using List.all_eq_true.1 hall t hm)⟩)
    (by kernel_rfl)
theorem proved : Rows.StageRefusedCardSaid := card
#print axioms proved
end Go.Proofs.YtfjdnnoflmpdeaaDoor.stageRefused
namespace Go.Proofs.YtfjdnnoflmpdeaaDoor
/-- The card, under a short name, for the claim. -/
theorem stageRefused_holds : Rows.StageRefusedCardSaid := stageRefused.proved
end Go.Proofs.YtfjdnnoflmpdeaaDoor
