/- The law ScriptBack holds for every input. -/
import Derived.Test.YtdchgoaokceomaaDoorRows
import Derived.Test.YtdchgoaokceomaaDoorBacZ
import Derived.Test.YtdchgoaokceomaaDoorCnY
import Derived.Test.YtdchgoaokceomaaDoorCards
import Derived.Test.YtdchgoaokceomaaDoorTie
import Derived.WalkKit
import Derived.ProofKit
import Derived.OpenShut
import Derived.ShutString
import Derived.ChangeOld
import Derived.Below
import Derived.SizedLaws
import Derived.LaidMore
import Derived.Lay
import Derived.SevenTiedAt
import Derived.Stop.Joined
import Derived.ChangeMaps5
namespace Go.Proofs.YtdchgoaokceomaaDoor.scriptBack
open Go.ChangeShapes Go.WideShapes Go.ChangeAt Go.RowKit Go.Cn
open Go.ChangeMaps (open_string shut_string)
open Go.Proofs.YtdchgoaokceomaaDoor.Wk
set_option linter.unusedVariables false
set_option linter.unusedSimpArgs false
theorem own : ownKnob Tryd.prog.godebug = none := by kernel_rfl
theorem laidOut : laidOutB Tryd.prog = true := by kernel_rfl
def cs24 (s : Wk.T_api_Tx) : List LV := [.int .u8 s.f_Node, .int .u32 s.f_Boot, .int .u32 s.f_Num]
theorem as24 {l : List LV} (h : fitsL [.int .u8, .int .u32, .int .u32] l = true) : ∃ s : Wk.T_api_Tx, l = cs24 s := by
  obtain ⟨a0, r0, e0, h⟩ := fits_int h
  obtain ⟨a1, r1, e1, h⟩ := fits_int h
  obtain ⟨a2, r2, e2, h⟩ := fits_int h
  exact ⟨(Wk.T_api_Tx.mk a0 a1 a2), by rw [e0, e1, e2, fits_nil h]; rfl⟩
def cs26 (s : (A8 (Int))) : List LV := [.int .u8 s.a0, .int .u8 s.a1, .int .u8 s.a2, .int .u8 s.a3, .int .u8 s.a4, .int .u8 s.a5, .int .u8 s.a6, .int .u8 s.a7]
theorem as26 {l : List LV} (h : fitsL [.int .u8, .int .u8, .int .u8, .int .u8, .int .u8, .int .u8, .int .u8, .int .u8] l = true) : ∃ s : (A8 (Int)), l = cs26 s := by
  obtain ⟨a0, r0, e0, h⟩ := fits_int h
  obtain ⟨a1, r1, e1, h⟩ := fits_int h
  obtain ⟨a2, r2, e2, h⟩ := fits_int h
  obtain ⟨a3, r3, e3, h⟩ := fits_int h
  obtain ⟨a4, r4, e4, h⟩ := fits_int h
  obtain ⟨a5, r5, e5, h⟩ := fits_int h
  obtain ⟨a6, r6, e6, h⟩ := fits_int h
  obtain ⟨a7, r7, e7, h⟩ := fits_int h
  exact ⟨(A8.mk a0 a1 a2 a3 a4 a5 a6 a7), by rw [e0, e1, e2, e3, e4, e5, e6, e7, fits_nil h]; rfl⟩
def cs29 (s : Wk.T_parrelref27_Call) : List LV := [.int .u8 s.f_Client, .int .u32 s.f_Seq, .int .u8 s.f_Kind, .int .u8 s.f_Tx.f_Node, .int .u32 s.f_Tx.f_Boot, .int .u32 s.f_Tx.f_Num, .int .u8 s.f_Key.a0, .int .u8 s.f_Key.a1, .int .u8 s.f_Key.a2, .int .u8 s.f_Key.a3, .int .u8 s.f_Key.a4, .int .u8 s.f_Key.a5, .int .u8 s.f_Key.a6, .int .u8 s.f_Key.a7, .str s.f_Value, .int .u8 s.f_R, .int .u8 s.f_W, .ds 1 (s.f_Votes).length (rowF (cInt .u8) default s.f_Votes)]
def ws29 (s : Wk.T_parrelref27_Call) : Prop := (wfL ((cInt .u8) s.f_Client)) ∧ (wfL ((cInt .u32) s.f_Seq)) ∧ (wfL ((cInt .u8) s.f_Kind)) ∧ (wfL (cs24 s.f_Tx)) ∧ (wfL (cs26 s.f_Key)) ∧ (wfL ((fun z_ : List UInt8 => [LV.str z_]) s.f_Value)) ∧ (wfL ((cInt .u8) s.f_R)) ∧ (wfL ((cInt .u8) s.f_W)) ∧ ((∀ a ∈ s.f_Votes, (wfL ((cInt .u8) a))) ∧ s.f_Votes.length * 1 ≤ 140737488351232) ∧ True
def cs31 (s : Wk.T_parrelref27_Step) : List LV := [.int .u8 s.f_Kind, .int .i64 s.f_Node, .int .i64 s.f_Wire, .int .i64 s.f_N, .bool s.f_Cut, .int .u8 s.f_Call.f_Client, .int .u32 s.f_Call.f_Seq, .int .u8 s.f_Call.f_Kind, .int .u8 s.f_Call.f_Tx.f_Node, .int .u32 s.f_Call.f_Tx.f_Boot, .int .u32 s.f_Call.f_Tx.f_Num, .int .u8 s.f_Call.f_Key.a0, .int .u8 s.f_Call.f_Key.a1, .int .u8 s.f_Call.f_Key.a2, .int .u8 s.f_Call.f_Key.a3, .int .u8 s.f_Call.f_Key.a4, .int .u8 s.f_Call.f_Key.a5, .int .u8 s.f_Call.f_Key.a6, .int .u8 s.f_Call.f_Key.a7, .str s.f_Call.f_Value, .int .u8 s.f_Call.f_R, .int .u8 s.f_Call.f_W, .ds 1 (s.f_Call.f_Votes).length (rowF (cInt .u8) default s.f_Call.f_Votes), .int .i64 s.f_To, .ds 1 (s.f_Bytes).length (rowF (cInt .u8) default s.f_Bytes)]
def ws31 (s : Wk.T_parrelref27_Step) : Prop := (wfL ((cInt .u8) s.f_Kind)) ∧ (wfL ((cInt .i64) s.f_Node)) ∧ (wfL ((cInt .i64) s.f_Wire)) ∧ (wfL ((cInt .i64) s.f_N)) ∧ (wfL ((fun z_ : Bool => [LV.bool z_]) s.f_Cut)) ∧ (ws29 s.f_Call) ∧ (wfL ((cInt .i64) s.f_To)) ∧ ((∀ a ∈ s.f_Bytes, (wfL ((cInt .u8) a))) ∧ s.f_Bytes.length * 1 ≤ 140737488351232) ∧ True
def laidL : List (String × DataW Unit) := [("unicode/utf8.acceptRanges", Rows.laid_unicode_utf8_acceptRanges), ("unicode/utf8.first", Rows.laid_unicode_utf8_first)]
set_option maxRecDepth 100000 in
theorem lifted (os : Os) (started : os.Started) (H : Type) (enc : TypeId × Value → H) :
    ReturnsInHanded {} Tryd.checked os 5 .any (fun w args => (Rows.scriptBackSpec.pre enc Tryd.prog Tryd.f5 Rows.scriptBackRow.domain false w args ∧ laidMetH Tryd.prog laidL w) ∧ sizedMet enc Tryd.prog Tryd.f5 (OpenSpec.ofChange Rows.scriptBackSpec) false w args) (Rows.scriptBackSpec.post enc Tryd.prog Tryd.f5 false true false false) := by
  refine returnsInHanded_of_change_and (C := Tryd.checked) (X := fun w _ => laidMetH Tryd.prog laidL w) (fun _ _ _ hh h => h.of_heap hh) own started (by kernel_rfl) Tryd.func5
    (ChangeSpec.witness_shaped (enc := enc) (C := Tryd.checked) (os := os) (X := fun w _ => laidMetH Tryd.prog laidL w) false (World.laidAll Tryd.prog os laidL) #[.slice none 0 0] 8 (World.laidAll_os _ _ _)
      (World.shaped_of_ZipB (by kernel_rfl) (by kernel_rfl)) (by kernel_rfl) (by kernel_rfl) (by kernel_rfl)
      (by rw [MakeChecks.laidMetH_plain _ _ _ (by kernel_rfl)]; exact laidMet_laidAll _ (by kernel_rfl) (by kernel_rfl))) ?_
  intro W base args ds gs before hval0 hW hcnd hsz0 hx_ hy_
  have hval : ∀ (j : Nat) t v, Tryd.f5.params[j]? = some t → args[j]? = some v → Value.okWide Tryd.prog W .any base t v := hval0
  have hW' := hW
  obtain ⟨p, q, hA0, hV, rfl, hfz, hnd⟩ := hW
  have hA : DataW.TrodAll enc Tryd.prog W 0 (fun _ => true) true Tryd.f5.params.toList args.toList ds p := hA0
  rw [Tryd.params5] at hA hval
  obtain ⟨v0, vs0, d0, ds0, p0, q0, hargs, rfl, rfl, h0, r0⟩ := trodAll_cons hA
  obtain ⟨rfl, rfl, rfl⟩ := trodAll_nil r0
  obtain rfl : args = #[v0] := by cases args; simp_all
  obtain ⟨rfl, rfl⟩ := trodVars_none hV
  have lt0 : ∀ x ∈ p0, x.block < W.heap.size := by obtain ⟨m, hm⟩ := h0; exact DataW.trod_lt m _ _ _ hm
  obtain ⟨x0, g0, e0⟩ := open_slice Tryd.underlying58 (hval 0 _ v0 rfl rfl) h0 (sz_at hsz0 0 (t := 58) (by rw [Tryd.params5]; rfl) rfl) (enc := (fun z_ : List (Wk.T_parrelref27_Step) => [.ds 25 z_.length (rowF cs31 default z_)])) (W := fun x => ((∀ a ∈ x, (ws31 a)) ∧ x.length * 152 ≤ 140737488351232)) (Rd.slice (e := 31) (z := 25) (b := 152) (α := Wk.T_parrelref27_Step) (enc := cs31) (by kernel_rfl) (by kernel_rfl) (by kernel_rfl) (of_decide_eq_true (by kernel_rfl)) (fun _ => rfl) (fun _ => rfl) (Rd.map (enc2 := cs31) (W2 := ws31) (Rd.struct (N := 25) (fs := [(5, 0), (3, 1), (3, 2), (3, 3), (4, 4), (29, 5), (3, 23), (27, 24)]) (by kernel_rfl) (by kernel_rfl) (RdF.cons (z := 1) (α := (Int)) (by kernel_rfl) (Rd.cells (d := 12) (ks := [.int .u8]) (enc := cInt .u8) (by kernel_rfl) dec1_int) (RdF.cons (z := 1) (α := (Int)) (by kernel_rfl) (Rd.cells (d := 12) (ks := [.int .i64]) (enc := cInt .i64) (by kernel_rfl) dec1_int) (RdF.cons (z := 1) (α := (Int)) (by kernel_rfl) (Rd.cells (d := 12) (ks := [.int .i64]) (enc := cInt .i64) (by kernel_rfl) dec1_int) (RdF.cons (z := 1) (α := (Int)) (by kernel_rfl) (Rd.cells (d := 12) (ks := [.int .i64]) (enc := cInt .i64) (by kernel_rfl) dec1_int) (RdF.cons (z := 1) (α := (Bool)) (by kernel_rfl) (Rd.cells (d := 12) (ks := [.bool]) (by kernel_rfl) dec1_bool) (RdF.cons (z := 18) (α := Wk.T_parrelref27_Call) (by kernel_rfl) (Rd.map (enc2 := cs29) (W2 := ws29) (Rd.struct (N := 18) (fs := [(5, 0), (22, 1), (5, 2), (24, 3), (26, 6), (9, 14), (5, 15), (5, 16), (27, 17)]) (by kernel_rfl) (by kernel_rfl) (RdF.cons (z := 1) (α := (Int)) (by kernel_rfl) (Rd.cells (d := 12) (ks := [.int .u8]) (enc := cInt .u8) (by kernel_rfl) dec1_int) (RdF.cons (z := 1) (α := (Int)) (by kernel_rfl) (Rd.cells (d := 12) (ks := [.int .u32]) (enc := cInt .u32) (by kernel_rfl) dec1_int) (RdF.cons (z := 1) (α := (Int)) (by kernel_rfl) (Rd.cells (d := 12) (ks := [.int .u8]) (enc := cInt .u8) (by kernel_rfl) dec1_int) (RdF.cons (z := 3) (α := Wk.T_api_Tx) (by kernel_rfl) (Rd.cells (d := 12) (ks := [.int .u8, .int .u32, .int .u32]) (enc := cs24) (by kernel_rfl) (fun _ h => as24 h)) (RdF.cons (z := 8) (α := (A8 (Int))) (by kernel_rfl) (Rd.cells (d := 12) (ks := [.int .u8, .int .u8, .int .u8, .int .u8, .int .u8, .int .u8, .int .u8, .int .u8]) (enc := cs26) (by kernel_rfl) (fun _ h => as26 h)) (RdF.cons (z := 1) (α := (List UInt8)) (by kernel_rfl) (Rd.cells (d := 12) (ks := [.str]) (by kernel_rfl) dec1_str) (RdF.cons (z := 1) (α := (Int)) (by kernel_rfl) (Rd.cells (d := 12) (ks := [.int .u8]) (enc := cInt .u8) (by kernel_rfl) dec1_int) (RdF.cons (z := 1) (α := (Int)) (by kernel_rfl) (Rd.cells (d := 12) (ks := [.int .u8]) (enc := cInt .u8) (by kernel_rfl) dec1_int) (RdF.cons (z := 1) (α := (List (Int))) (by kernel_rfl) (Rd.slice (e := 5) (z := 1) (b := 1) (α := (Int)) (enc := (cInt .u8)) (by kernel_rfl) (by kernel_rfl) (by kernel_rfl) (of_decide_eq_true (by kernel_rfl)) (fun _ => rfl) (fun _ => rfl) (Rd.cells (d := 12) (ks := [.int .u8]) (enc := cInt .u8) (by kernel_rfl) dec1_int)) RdF.nil)))))))))) (fun (p : ((Int)) × ((Int)) × ((Int)) × (Wk.T_api_Tx) × ((A8 (Int))) × ((List UInt8)) × ((Int)) × ((Int)) × ((List (Int))) × Unit) => Wk.T_parrelref27_Call.mk p.1 p.2.1 p.2.2.1 p.2.2.2.1 p.2.2.2.2.1 p.2.2.2.2.2.1 p.2.2.2.2.2.2.1 p.2.2.2.2.2.2.2.1 p.2.2.2.2.2.2.2.2.1) (fun _ => rfl) (fun _ h => h)) (RdF.cons (z := 1) (α := (Int)) (by kernel_rfl) (Rd.cells (d := 12) (ks := [.int .i64]) (enc := cInt .i64) (by kernel_rfl) dec1_int) (RdF.cons (z := 1) (α := (List (Int))) (by kernel_rfl) (Rd.slice (e := 5) (z := 1) (b := 1) (α := (Int)) (enc := (cInt .u8)) (by kernel_rfl) (by kernel_rfl) (by kernel_rfl) (of_decide_eq_true (by kernel_rfl)) (fun _ => rfl) (fun _ => rfl) (Rd.cells (d := 12) (ks := [.int .u8]) (enc := cInt .u8) (by kernel_rfl) dec1_int)) RdF.nil))))))))) (fun (p : ((Int)) × ((Int)) × ((Int)) × ((Int)) × ((Bool)) × (Wk.T_parrelref27_Call) × ((Int)) × ((List (Int))) × Unit) => Wk.T_parrelref27_Step.mk p.1 p.2.1 p.2.2.1 p.2.2.2.1 p.2.2.2.2.1 p.2.2.2.2.2.1 p.2.2.2.2.2.2.1 p.2.2.2.2.2.2.2.1) (fun _ => rfl) (fun _ h => h)))
  have e0 := rel1 e0
  have tri := Wk.parrellaw27_ScriptBack_tri x0 true (Wk.back_law x0 g0)
  clear hA0 hval0 hsz0
  refine (below_of_tri tri (vals := [v0]) (w := W) (TabOK.no rfl) ⟨_, _, rfl, e0, rfl⟩).mono fun e W' he => ?_
  obtain ⟨⟨x, μ', rfl, hx⟩, bel⟩ := he
  simp only [Wk.parrellaw27_ScriptBack_v, Rel] at hx
  subst hx
  exact ⟨_, rfl, _, _, _, [], _, [], hW', trodAll_mk1 (shut_bool Tryd.underlying4 _), (trodAll_cons_mk (Below.trod laidOut (by kernel_rfl) (of_decide_eq_true (by kernel_rfl)) h0 bel lt0) trodAll_mk0), rfl, bel.frame _, fun h => by cases h⟩
theorem over : Rows.scriptBackRow.holds Tryd.pinned (OpenSpec.ofChange Rows.scriptBackSpec) :=
  OpenClaim.holds_of_wide 5 Tryd.f5 rfl rfl rfl rfl rfl rfl rfl ⟨rfl, rfl, rfl, rfl, rfl⟩ rfl rfl rfl rfl rfl (by kernel_rfl) Tryd.func5 (by kernel_rfl)
    (of_decide_eq_true (by kernel_rfl)) (by unfold Func.isWrapper; first | (rw [if_pos (by decide +kernel)]; kernel_rfl) | (rw [if_neg (by decide +kernel)]; exact ⟨rfl, rfl⟩))
    (fun os started H enc _ => lifted os started H enc)
theorem card : Rows.ScriptBackCardSaid :=
  Claim7.holds_tied_plain_at .later [] [.data, .pinned] true (true, "5797703564596e7e2c619766b76e901c163f9744701d0996ed8d1935937ebe79") false over (fun _ h => by cases h) (by kernel_rfl) (fun _ h => by cases h) scriptBack_row_tie rfl ⟨rfl, rfl⟩ (by kernel_rfl) rfl
    (fun f fn hf hfn => by
      obtain rfl : f = 5 := Option.some.inj ((show Tryd.prog.funcNamed "parrel/parrellaw27.ScriptBack" = some 5 by kernel_rfl).symm.trans hf) |>.symm
      obtain rfl : fn = Tryd.f5 := (Option.some.inj (Tryd.func5.symm.trans hfn)).symm
      exact ⟨by kernel_rfl, fun j t ht => by
        rw [Tryd.params5] at ht
        have hm : t ∈ [58] := by simpa using Array.mem_of_getElem? ht
        have hall : ([58].all fun u => !Tryd.prog.wantsStandIn u) = true := by kernel_rfl
        exact (show Tryd.prog.wantsStandIn t = false by simpa using List.all_eq_true.1 hall t hm)⟩)
    (by kernel_rfl)
theorem proved : Rows.ScriptBackCardSaid := card
#print axioms proved
end Go.Proofs.YtdchgoaokceomaaDoor.scriptBack
namespace Go.Proofs.YtdchgoaokceomaaDoor
/-- The card, under a short name, for the claim. -/
theorem scriptBack_holds : Rows.ScriptBackCardSaid := scriptBack.proved
end Go.Proofs.YtdchgoaokceomaaDoor
