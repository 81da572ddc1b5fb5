import Derived.Test.YtdchgoaokceomaaGreatDoorRows
import Derived.Test.YtdchgoaokceomaaGreatDoorTexP
import Derived.Test.YtdchgoaokceomaaGreatDoorCnY
import Derived.Test.YtdchgoaokceomaaGreatDoorCards
import Derived.Test.YtdchgoaokceomaaGreatDoorTie
import Derived.WalkKit
import Derived.ProofKit
import Derived.OpenShut
import Derived.ShutString
import Derived.ChangeOld
import Derived.Below
import Derived.SizedLaws
import Derived.LaidMore
import Derived.Lay
import Derived.SevenTiedAt
import Derived.Stop.Joined
import Derived.ChangeMaps5
namespace Go.Proofs.YtdchgoaokceomaaGreatDoor.scriptTexts
open Go.ChangeShapes Go.WideShapes Go.ChangeAt Go.RowKit Go.Cn
open Go.ChangeMaps (open_string shut_string)
open Go.Proofs.YtdchgoaokceomaaGreatDoor.Wk
set_option linter.unusedVariables false
set_option linter.unusedSimpArgs false
theorem own : ownKnob Tryz.prog.godebug = none := by kernel_rfl
theorem laidOut : laidOutB Tryz.prog = true := by kernel_rfl
def cs27 (s : Wk.TX) : List LV := [.int .u8 s.f_Node, .int .u32 s.f_Boot, .int .u32 s.f_Num]
theorem as27 {l : List LV} (h : fitsL [.int .u8, .int .u32, .int .u32] l = true) : ∃ s : Wk.TX, l = cs27 s := by
 obtain ⟨a0, r0, e0, h⟩ := fits_int h
 obtain ⟨a1, r1, e1, h⟩ := fits_int h
 obtain ⟨a2, r2, e2, h⟩ := fits_int h
 exact ⟨(Wk.TX.mk a0 a1 a2), by rw [e0, e1, e2, fits_nil h]; rfl⟩
def cs29 (s : (A8 (Int))) : List LV := [.int .u8 s.a0, .int .u8 s.a1, .int .u8 s.a2, .int .u8 s.a3, .int .u8 s.a4, .int .u8 s.a5, .int .u8 s.a6, .int .u8 s.a7]
theorem as29 {l : List LV} (h : fitsL [.int .u8, .int .u8, .int .u8, .int .u8, .int .u8, .int .u8, .int .u8, .int .u8] l = true) : ∃ s : (A8 (Int)), l = cs29 s := by
 obtain ⟨a0, r0, e0, h⟩ := fits_int h
 obtain ⟨a1, r1, e1, h⟩ := fits_int h
 obtain ⟨a2, r2, e2, h⟩ := fits_int h
 obtain ⟨a3, r3, e3, h⟩ := fits_int h
 obtain ⟨a4, r4, e4, h⟩ := fits_int h
 obtain ⟨a5, r5, e5, h⟩ := fits_int h
 obtain ⟨a6, r6, e6, h⟩ := fits_int h
 obtain ⟨a7, r7, e7, h⟩ := fits_int h
 exact ⟨(A8.mk a0 a1 a2 a3 a4 a5 a6 a7), by rw [e0, e1, e2, e3, e4, e5, e6, e7, fits_nil h]; rfl⟩
def cs39 (s : Wk.T_r27_Call) : List LV := [.int .u8 s.f_Client, .int .u32 s.f_Seq, .int .u8 s.f_Kind, .int .u8 s.f_Tx.f_Node, .int .u32 s.f_Tx.f_Boot, .int .u32 s.f_Tx.f_Num, .int .u8 s.f_Key.a0, .int .u8 s.f_Key.a1, .int .u8 s.f_Key.a2, .int .u8 s.f_Key.a3, .int .u8 s.f_Key.a4, .int .u8 s.f_Key.a5, .int .u8 s.f_Key.a6, .int .u8 s.f_Key.a7, .str s.f_Value, .int .u8 s.f_R, .int .u8 s.f_W, .ds 1 (s.f_Votes).length (rowF (cInt .u8) default s.f_Votes)]
def ws39 (s : Wk.T_r27_Call) : Prop := (wfL ((cInt .u8) s.f_Client)) ∧ (wfL ((cInt .u32) s.f_Seq)) ∧ (wfL ((cInt .u8) s.f_Kind)) ∧ (wfL (cs27 s.f_Tx)) ∧ (wfL (cs29 s.f_Key)) ∧ (wfL ((fun z_ : List UInt8 => [LV.str z_]) s.f_Value)) ∧ (wfL ((cInt .u8) s.f_R)) ∧ (wfL ((cInt .u8) s.f_W)) ∧ ((∀ a ∈ s.f_Votes, (wfL ((cInt .u8) a))) ∧ s.f_Votes.length * 1 ≤ 140737488351232) ∧ True
def cs41 (s : Wk.T_r27_Step) : List LV := [.int .u8 s.f_Kind, .int .i64 s.f_Node, .int .i64 s.f_Wire, .int .i64 s.f_N, .bool s.f_Cut, .int .u8 s.f_Call.f_Client, .int .u32 s.f_Call.f_Seq, .int .u8 s.f_Call.f_Kind, .int .u8 s.f_Call.f_Tx.f_Node, .int .u32 s.f_Call.f_Tx.f_Boot, .int .u32 s.f_Call.f_Tx.f_Num, .int .u8 s.f_Call.f_Key.a0, .int .u8 s.f_Call.f_Key.a1, .int .u8 s.f_Call.f_Key.a2, .int .u8 s.f_Call.f_Key.a3, .int .u8 s.f_Call.f_Key.a4, .int .u8 s.f_Call.f_Key.a5, .int .u8 s.f_Call.f_Key.a6, .int .u8 s.f_Call.f_Key.a7, .str s.f_Call.f_Value, .int .u8 s.f_Call.f_R, .int .u8 s.f_Call.f_W, .ds 1 (s.f_Call.f_Votes).length (rowF (cInt .u8) default s.f_Call.f_Votes), .int .i64 s.f_To, .ds 1 (s.f_Bytes).length (rowF (cInt .u8) default s.f_Bytes)]
def ws41 (s : Wk.T_r27_Step) : Prop := (wfL ((cInt .u8) s.f_Kind)) ∧ (wfL ((cInt .i64) s.f_Node)) ∧ (wfL ((cInt .i64) s.f_Wire)) ∧ (wfL ((cInt .i64) s.f_N)) ∧ (wfL ((fun z_ : Bool => [LV.bool z_]) s.f_Cut)) ∧ (ws39 s.f_Call) ∧ (wfL ((cInt .i64) s.f_To)) ∧ ((∀ a ∈ s.f_Bytes, (wfL ((cInt .u8) a))) ∧ s.f_Bytes.length * 1 ≤ 140737488351232) ∧ True
def laidL : List (String × DataW Unit) := [("unicode/utf8.acceptRanges", Rows.laid_unicode_utf8_acceptRanges), ("unicode/utf8.first", Rows.laid_unicode_utf8_first)]
set_option maxRecDepth 100000 in
theorem lifted (os : Os) (started : os.Started) (H : Type) (enc : TypeId × Value → H) :
  ReturnsInHanded {} Tryz.checked os 4 .any (fun w args => (Rows.scriptTextsSpec.pre enc Tryz.prog Tryz.f4 Rows.scriptTextsRow.domain false w args ∧ laidMetH Tryz.prog laidL w) ∧ sizedMet enc Tryz.prog Tryz.f4 (OpenSpec.ofChange Rows.scriptTextsSpec) false w args) (Rows.scriptTextsSpec.post enc Tryz.prog Tryz.f4 false true false false) := by
 refine returnsInHanded_of_change_and (C := Tryz.checked) (X := fun w _ => laidMetH Tryz.prog laidL w) (fun _ _ _ hh h => h.of_heap hh) own started (by kernel_rfl) Tryz.func4
  (ChangeSpec.witness_shaped (enc := enc) (C := Tryz.checked) (os := os) (X := fun w _ => laidMetH Tryz.prog laidL w) false (World.laidAll Tryz.prog os laidL) #[.string ⟨#[]⟩, .slice none 0 0] 8 (World.laidAll_os _ _ _)
   (World.shaped_of_ZipB (by kernel_rfl) (by kernel_rfl)) (by kernel_rfl) (by kernel_rfl) (by kernel_rfl)
   (by rw [MakeChecks.laidMetH_plain _ _ _ (by kernel_rfl)]; exact laidMet_laidAll _ (by kernel_rfl) (by kernel_rfl))) ?_
 intro W base args ds gs before hval0 hW hcnd hsz0 hx_ hy_
 have hval : ∀ (j : Nat) t v, Tryz.f4.params[j]? = some t → args[j]? = some v → Value.okWide Tryz.prog W .any base t v := hval0
 have hW' := hW
 obtain ⟨p, q, hA0, hV, rfl, hfz, hnd⟩ := hW
 have hA : DataW.TrodAll enc Tryz.prog W 0 (fun _ => true) true Tryz.f4.params.toList args.toList ds p := hA0
 rw [Tryz.params4] at hA hval
 obtain ⟨v0, vs0, d0, ds0, p0, q0, hargs, rfl, rfl, h0, r0⟩ := trodAll_cons hA
 obtain ⟨v1, vs1, d1, ds1, p1, q1, rfl, rfl, rfl, h1, r1⟩ := trodAll_cons r0
 obtain ⟨rfl, rfl, rfl⟩ := trodAll_nil r1
 obtain rfl : args = #[v0, v1] := by cases args; simp_all
 obtain ⟨rfl, rfl⟩ := trodVars_none hV
 have lt0 : ∀ x ∈ p0, x.block < W.heap.size := by obtain ⟨m, hm⟩ := h0; exact DataW.trod_lt m _ _ _ hm
 have lt1 : ∀ x ∈ p1, x.block < W.heap.size := by obtain ⟨m, hm⟩ := h1; exact DataW.trod_lt m _ _ _ hm
 obtain ⟨s0, rfl, rfl, rfl, hs0⟩ := open_string Tryz.underlying9 (hval 0 _ v0 rfl rfl) h0
 obtain ⟨x0, hx0⟩ : ∃ x : List UInt8, x = s0.data.toList := ⟨_, rfl⟩
 have e0 : ∀ μ : Emb, Rel μ (.str x0) (.string s0) := fun _ => by rw [hx0]; simp [Rel]
 have g0 : x0.length ≤ maxLen := by rw [hx0]; exact hs0
 obtain ⟨x1, g1, e1⟩ := open_slice Tryz.underlying47 (hval 1 _ v1 rfl rfl) h1 (sz_at hsz0 1 (t := 47) (by rw [Tryz.params4]; rfl) rfl) (enc := (fun z_ : List (Wk.T_r27_Step) => [.ds 25 z_.length (rowF cs41 default z_)])) (W := fun x => ((∀ a ∈ x, (ws41 a)) ∧ x.length * 152 ≤ 140737488351232)) (Rd.slice (e := 41) (z := 25) (b := 152) (α := Wk.T_r27_Step) (enc := cs41) (by kernel_rfl) (by kernel_rfl) (by kernel_rfl) (of_decide_eq_true (by kernel_rfl)) (fun _ => rfl) (fun _ => rfl) (Rd.map (enc2 := cs41) (W2 := ws41) (Rd.struct (N := 25) (fs := [(5, 0), (3, 1), (3, 2), (3, 3), (4, 4), (39, 5), (3, 23), (30, 24)]) (by kernel_rfl) (by kernel_rfl) (RdF.cons (z := 1) (α := (Int)) (by kernel_rfl) (Rd.cells (d := 12) (ks := [.int .u8]) (enc := cInt .u8) (by kernel_rfl) dec1_int) (RdF.cons (z := 1) (α := (Int)) (by kernel_rfl) (Rd.cells (d := 12) (ks := [.int .i64]) (enc := cInt .i64) (by kernel_rfl) dec1_int) (RdF.cons (z := 1) (α := (Int)) (by kernel_rfl) (Rd.cells (d := 12) (ks := [.int .i64]) (enc := cInt .i64) (by kernel_rfl) dec1_int) (RdF.cons (z := 1) (α := (Int)) (by kernel_rfl) (Rd.cells (d := 12) (ks := [.int .i64]) (enc := cInt .i64) (by kernel_rfl) dec1_int) (RdF.cons (z := 1) (α := (Bool)) (by kernel_rfl) (Rd.cells (d := 12) (ks := [.bool]) (by kernel_rfl) dec1_bool) (RdF.cons (z := 18) (α := Wk.T_r27_Call) (by kernel_rfl) (Rd.map (enc2 := cs39) (W2 := ws39) (Rd.struct (N := 18) (fs := [(5, 0), (23, 1), (5, 2), (27, 3), (29, 6), (9, 14), (5, 15), (5, 16), (30, 17)]) (by kernel_rfl) (by kernel_rfl) (RdF.cons (z := 1) (α := (Int)) (by kernel_rfl) (Rd.cells (d := 12) (ks := [.int .u8]) (enc := cInt .u8) (by kernel_rfl) dec1_int) (RdF.cons (z := 1) (α := (Int)) (by kernel_rfl) (Rd.cells (d := 12) (ks := [.int .u32]) (enc := cInt .u32) (by kernel_rfl) dec1_int) (RdF.cons (z := 1) (α := (Int)) (by kernel_rfl) (Rd.cells (d := 12) (ks := [.int .u8]) (enc := cInt .u8) (by kernel_rfl) dec1_int) (RdF.cons (z := 3) (α := Wk.TX) (by kernel_rfl) (Rd.cells (d := 12) (ks := [.int .u8, .int .u32, .int .u32]) (enc := cs27) (by kernel_rfl) (fun _ h => as27 h)) (RdF.cons (z := 8) (α := (A8 (Int))) (by kernel_rfl) (Rd.cells (d := 12) (ks := [.int .u8, .int .u8, .int .u8, .int .u8, .int .u8, .int .u8, .int .u8, .int .u8]) (enc := cs29) (by kernel_rfl) (fun _ h => as29 h)) (RdF.cons (z := 1) (α := (List UInt8)) (by kernel_rfl) (Rd.cells (d := 12) (ks := [.str]) (by kernel_rfl) dec1_str) (RdF.cons (z := 1) (α := (Int)) (by kernel_rfl) (Rd.cells (d := 12) (ks := [.int .u8]) (enc := cInt .u8) (by kernel_rfl) dec1_int) (RdF.cons (z := 1) (α := (Int)) (by kernel_rfl) (Rd.cells (d := 12) (ks := [.int .u8]) (enc := cInt .u8) (by kernel_rfl) dec1_int) (RdF.cons (z := 1) (α := (List (Int))) (by kernel_rfl) (Rd.slice (e := 5) (z := 1) (b := 1) (α := (Int)) (enc := (cInt .u8)) (by kernel_rfl) (by kernel_rfl) (by kernel_rfl) (of_decide_eq_true (by kernel_rfl)) (fun _ => rfl) (fun _ => rfl) (Rd.cells (d := 12) (ks := [.int .u8]) (enc := cInt .u8) (by kernel_rfl) dec1_int)) RdF.nil)))))))))) (fun (p : ((Int)) × ((Int)) × ((Int)) × (Wk.TX) × ((A8 (Int))) × ((List UInt8)) × ((Int)) × ((Int)) × ((List (Int))) × Unit) => Wk.T_r27_Call.mk p.1 p.2.1 p.2.2.1 p.2.2.2.1 p.2.2.2.2.1 p.2.2.2.2.2.1 p.2.2.2.2.2.2.1 p.2.2.2.2.2.2.2.1 p.2.2.2.2.2.2.2.2.1) (fun _ => rfl) (fun _ h => h)) (RdF.cons (z := 1) (α := (Int)) (by kernel_rfl) (Rd.cells (d := 12) (ks := [.int .i64]) (enc := cInt .i64) (by kernel_rfl) dec1_int) (RdF.cons (z := 1) (α := (List (Int))) (by kernel_rfl) (Rd.slice (e := 5) (z := 1) (b := 1) (α := (Int)) (enc := (cInt .u8)) (by kernel_rfl) (by kernel_rfl) (by kernel_rfl) (of_decide_eq_true (by kernel_rfl)) (fun _ => rfl) (fun _ => rfl) (Rd.cells (d := 12) (ks := [.int .u8]) (enc := cInt .u8) (by kernel_rfl) dec1_int)) RdF.nil))))))))) (fun (p : ((Int)) × ((Int)) × ((Int)) × ((Int)) × ((Bool)) × (Wk.T_r27_Call) × ((Int)) × ((List (Int))) × Unit) => Wk.T_r27_Step.mk p.1 p.2.1 p.2.2.1 p.2.2.2.1 p.2.2.2.2.1 p.2.2.2.2.2.1 p.2.2.2.2.2.2.1 p.2.2.2.2.2.2.2.1) (fun _ => rfl) (fun _ h => h)))
 have e1 := rel1 e1
 have tri := Wk.l27_ScriptTexts_tri x0 x1 true (Wk.texts_law x0 x1 g0 g1)
 clear hA0 hval0 hsz0
 refine (below_of_tri tri (vals := [.string s0, v1]) (w := W) (TabOK.no rfl) ⟨_, _, rfl, e0 _, _, _, rfl, e1, rfl⟩).mono fun e W' he => ?_
 obtain ⟨⟨x, μ', rfl, hx⟩, bel⟩ := he
 simp only [Wk.l27_ScriptTexts_v, Rel] at hx
 subst hx
 exact ⟨_, rfl, _, _, _, [], _, [], hW', trodAll_mk1 (shut_bool Tryz.underlying4 _), (trodAll_cons_mk (Below.trod laidOut (by kernel_rfl) (of_decide_eq_true (by kernel_rfl)) h0 bel lt0) (trodAll_cons_mk (Below.trod laidOut (by kernel_rfl) (of_decide_eq_true (by kernel_rfl)) h1 bel lt1) trodAll_mk0)), rfl, bel.frame _, fun h => by cases h⟩
theorem over : Rows.scriptTextsRow.holds Tryz.pinned (OpenSpec.ofChange Rows.scriptTextsSpec) :=
 OpenClaim.holds_of_wide 4 Tryz.f4 rfl rfl rfl rfl rfl rfl rfl ⟨rfl, rfl, rfl, rfl, rfl⟩ rfl rfl rfl rfl rfl (by kernel_rfl) Tryz.func4 (by kernel_rfl)
  (of_decide_eq_true (by kernel_rfl)) (by unfold Func.isWrapper; first | (rw [if_pos (by decide +kernel)]; kernel_rfl) | (rw [if_neg (by decide +kernel)]; exact ⟨rfl, rfl⟩))
  (fun os started H enc _ => lifted os started H enc)
theorem card : Rows.ScriptTextsCardSaid :=
 Claim7.holds_tied_plain_at .later [] [.data, .pinned] true (true, "eb41fddffe95e97224b3114f68a59c3546de1f4151eeb33d463407e429d6758e") false over (fun _ h => by cases h) (by kernel_rfl) (fun _ h => by cases h) scriptTexts_row_tie rfl ⟨rfl, rfl⟩ (by kernel_rfl) rfl
  (fun f fn hf hfn => by
   obtain rfl : f = 4 := Option.some.inj ((show Tryz.prog.funcNamed "parrel/parrellaw27.ScriptTexts" = some 4 by kernel_rfl).symm.trans hf) |>.symm
   obtain rfl : fn = Tryz.f4 := (Option.some.inj (Tryz.func4.symm.trans hfn)).symm
   exact ⟨by kernel_rfl, fun j t ht => by
    rw [Tryz.params4] at ht
    have hm : t ∈ [9, 47] := by simpa using Array.mem_of_getElem? ht
    have hall : ([9, 47].all fun u => !Tryz.prog.wantsStandIn u) = true := by kernel_rfl
    exact (show Tryz.prog.wantsStandIn t = false by simpa using List.all_eq_true.1 hall t hm)⟩)
  (by kernel_rfl)
theorem proved : Rows.ScriptTextsCardSaid := card
#print axioms proved
end Go.Proofs.YtdchgoaokceomaaGreatDoor.scriptTexts
namespace Go.Proofs.YtdchgoaokceomaaGreatDoor
theorem scriptTexts_holds : Rows.ScriptTextsCardSaid := scriptTexts.proved
end Go.Proofs.YtdchgoaokceomaaGreatDoor
