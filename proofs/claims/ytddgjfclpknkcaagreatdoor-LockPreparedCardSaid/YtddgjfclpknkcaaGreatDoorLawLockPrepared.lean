import Derived.Test.YtddgjfclpknkcaaGreatDoorRows
import Derived.Test.YtddgjfclpknkcaaGreatDoorLkM
import Derived.Test.YtddgjfclpknkcaaGreatDoorCnY
import Derived.Test.YtddgjfclpknkcaaGreatDoorCards
import Derived.Test.YtddgjfclpknkcaaGreatDoorTie
import Derived.WalkKit
import Derived.ProofKit
import Derived.OpenShut
import Derived.ShutString
import Derived.ChangeOld
import Derived.Below
import Derived.SizedLaws
import Derived.LaidMore
import Derived.Lay
import Derived.SevenTiedAt
import Derived.Stop.Joined
import Derived.ChangeMaps5
namespace Go.Proofs.YtddgjfclpknkcaaGreatDoor.lockPrepared
open Go.ChangeShapes Go.WideShapes Go.ChangeAt Go.RowKit Go.Cn
open Go.ChangeMaps (open_string shut_string)
open Go.Proofs.YtddgjfclpknkcaaGreatDoor.Wk
set_option linter.unusedVariables false
set_option linter.unusedSimpArgs false
theorem own : ownKnob Tryz.prog.godebug = none := by kernel_rfl
theorem laidOut : laidOutB Tryz.prog = true := by kernel_rfl
def cs32 (s : Wk.TS) : List LV := [.int .u32 s.f_Time, .int .u8 s.f_Tx.f_Node, .int .u32 s.f_Tx.f_Boot, .int .u32 s.f_Tx.f_Num]
theorem as32 {l : List LV} (h : fitsL [.int .u32, .int .u8, .int .u32, .int .u32] l = true) : ∃ s : Wk.TS, l = cs32 s := by
 obtain ⟨a0, r0, e0, h⟩ := fits_int h
 obtain ⟨a1, r1, e1, h⟩ := fits_int h
 obtain ⟨a2, r2, e2, h⟩ := fits_int h
 obtain ⟨a3, r3, e3, h⟩ := fits_int h
 exact ⟨(Wk.TS.mk a0 (Wk.TX.mk a1 a2 a3)), by rw [e0, e1, e2, e3, fits_nil h]; rfl⟩
def cs34 (s : (A8 (Int))) : List LV := [.int .u8 s.a0, .int .u8 s.a1, .int .u8 s.a2, .int .u8 s.a3, .int .u8 s.a4, .int .u8 s.a5, .int .u8 s.a6, .int .u8 s.a7]
theorem as34 {l : List LV} (h : fitsL [.int .u8, .int .u8, .int .u8, .int .u8, .int .u8, .int .u8, .int .u8, .int .u8] l = true) : ∃ s : (A8 (Int)), l = cs34 s := by
 obtain ⟨a0, r0, e0, h⟩ := fits_int h
 obtain ⟨a1, r1, e1, h⟩ := fits_int h
 obtain ⟨a2, r2, e2, h⟩ := fits_int h
 obtain ⟨a3, r3, e3, h⟩ := fits_int h
 obtain ⟨a4, r4, e4, h⟩ := fits_int h
 obtain ⟨a5, r5, e5, h⟩ := fits_int h
 obtain ⟨a6, r6, e6, h⟩ := fits_int h
 obtain ⟨a7, r7, e7, h⟩ := fits_int h
 exact ⟨(A8.mk a0 a1 a2 a3 a4 a5 a6 a7), by rw [e0, e1, e2, e3, e4, e5, e6, e7, fits_nil h]; rfl⟩
def cs37 (s : Wk.TA) : List LV := [.int .u8 s.f_Kind, .int .u32 s.f_Stamp.f_Time, .int .u8 s.f_Stamp.f_Tx.f_Node, .int .u32 s.f_Stamp.f_Tx.f_Boot, .int .u32 s.f_Stamp.f_Tx.f_Num, .int .u8 s.f_Key.a0, .int .u8 s.f_Key.a1, .int .u8 s.f_Key.a2, .int .u8 s.f_Key.a3, .int .u8 s.f_Key.a4, .int .u8 s.f_Key.a5, .int .u8 s.f_Key.a6, .int .u8 s.f_Key.a7, .int .u8 s.f_Mode, .ds 8 (s.f_Keys).length (rowF (fun z_ : A8 (Int) => [.int .u8 z_.a0, .int .u8 z_.a1, .int .u8 z_.a2, .int .u8 z_.a3, .int .u8 z_.a4, .int .u8 z_.a5, .int .u8 z_.a6, .int .u8 z_.a7]) default s.f_Keys)]
def ws37 (s : Wk.TA) : Prop := (wfL ((cInt .u8) s.f_Kind)) ∧ (wfL (cs32 s.f_Stamp)) ∧ (wfL (cs34 s.f_Key)) ∧ (wfL ((cInt .u8) s.f_Mode)) ∧ ((∀ a ∈ s.f_Keys, (wfL (cs34 a))) ∧ s.f_Keys.length * 8 ≤ 140737488351232) ∧ True
def cs25 (s : Wk.TX) : List LV := [.int .u8 s.f_Node, .int .u32 s.f_Boot, .int .u32 s.f_Num]
theorem as25 {l : List LV} (h : fitsL [.int .u8, .int .u32, .int .u32] l = true) : ∃ s : Wk.TX, l = cs25 s := by
 obtain ⟨a0, r0, e0, h⟩ := fits_int h
 obtain ⟨a1, r1, e1, h⟩ := fits_int h
 obtain ⟨a2, r2, e2, h⟩ := fits_int h
 exact ⟨(Wk.TX.mk a0 a1 a2), by rw [e0, e1, e2, fits_nil h]; rfl⟩
def laidL : List (String × DataW Unit) := [("unicode/utf8.acceptRanges", Rows.laid_unicode_utf8_acceptRanges), ("unicode/utf8.first", Rows.laid_unicode_utf8_first)]
set_option maxRecDepth 100000 in
theorem lifted (os : Os) (started : os.Started) (H : Type) (enc : TypeId × Value → H) :
  ReturnsInHanded {} Tryz.checked os 3 .any (fun w args => (Rows.lockPreparedSpec.pre enc Tryz.prog Tryz.f3 Rows.lockPreparedRow.domain false w args ∧ laidMetH Tryz.prog laidL w) ∧ sizedMet enc Tryz.prog Tryz.f3 (OpenSpec.ofChange Rows.lockPreparedSpec) false w args) (Rows.lockPreparedSpec.post enc Tryz.prog Tryz.f3 false true false false) := by
 refine returnsInHanded_of_change_and (C := Tryz.checked) (X := fun w _ => laidMetH Tryz.prog laidL w) (fun _ _ _ hh h => h.of_heap hh) own started (by kernel_rfl) Tryz.func3
  (ChangeSpec.witness_shaped (enc := enc) (C := Tryz.checked) (os := os) (X := fun w _ => laidMetH Tryz.prog laidL w) false (World.laidAll Tryz.prog os laidL) #[.slice none 0 0, .slice none 0 0, .agg #[.int .u8 0, .int .u32 0, .int .u32 0]] 8 (World.laidAll_os _ _ _)
   (World.shaped_of_ZipB (by kernel_rfl) (by kernel_rfl)) (by kernel_rfl) (by kernel_rfl) (by kernel_rfl)
   (by rw [MakeChecks.laidMetH_plain _ _ _ (by kernel_rfl)]; exact laidMet_laidAll _ (by kernel_rfl) (by kernel_rfl))) ?_
 intro W base args ds gs before hval0 hW hcnd hsz0 hx_ hy_
 have hval : ∀ (j : Nat) t v, Tryz.f3.params[j]? = some t → args[j]? = some v → Value.okWide Tryz.prog W .any base t v := hval0
 have hW' := hW
 obtain ⟨p, q, hA0, hV, rfl, hfz, hnd⟩ := hW
 have hA : DataW.TrodAll enc Tryz.prog W 0 (fun _ => true) true Tryz.f3.params.toList args.toList ds p := hA0
 rw [Tryz.params3] at hA hval
 obtain ⟨v0, vs0, d0, ds0, p0, q0, hargs, rfl, rfl, h0, r0⟩ := trodAll_cons hA
 obtain ⟨v1, vs1, d1, ds1, p1, q1, rfl, rfl, rfl, h1, r1⟩ := trodAll_cons r0
 obtain ⟨v2, vs2, d2, ds2, p2, q2, rfl, rfl, rfl, h2, r2⟩ := trodAll_cons r1
 obtain ⟨rfl, rfl, rfl⟩ := trodAll_nil r2
 obtain rfl : args = #[v0, v1, v2] := by cases args; simp_all
 obtain ⟨rfl, rfl⟩ := trodVars_none hV
 have lt0 : ∀ x ∈ p0, x.block < W.heap.size := by obtain ⟨m, hm⟩ := h0; exact DataW.trod_lt m _ _ _ hm
 have lt1 : ∀ x ∈ p1, x.block < W.heap.size := by obtain ⟨m, hm⟩ := h1; exact DataW.trod_lt m _ _ _ hm
 have lt2 : ∀ x ∈ p2, x.block < W.heap.size := by obtain ⟨m, hm⟩ := h2; exact DataW.trod_lt m _ _ _ hm
 obtain ⟨x0, g0, e0⟩ := open_slice Tryz.underlying22 (hval 0 _ v0 rfl rfl) h0 (sz_at hsz0 0 (t := 22) (by rw [Tryz.params3]; rfl) rfl) (enc := (fun z_ : List (Wk.TA) => [.ds 15 z_.length (rowF cs37 default z_)])) (W := fun x => ((∀ a ∈ x, (ws37 a)) ∧ x.length * 56 ≤ 140737488351232)) (Rd.slice (e := 37) (z := 15) (b := 56) (α := Wk.TA) (enc := cs37) (by kernel_rfl) (by kernel_rfl) (by kernel_rfl) (of_decide_eq_true (by kernel_rfl)) (fun _ => rfl) (fun _ => rfl) (Rd.map (enc2 := cs37) (W2 := ws37) (Rd.struct (N := 15) (fs := [(5, 0), (32, 1), (34, 5), (5, 13), (35, 14)]) (by kernel_rfl) (by kernel_rfl) (RdF.cons (z := 1) (α := (Int)) (by kernel_rfl) (Rd.cells (d := 12) (ks := [.int .u8]) (enc := cInt .u8) (by kernel_rfl) dec1_int) (RdF.cons (z := 4) (α := Wk.TS) (by kernel_rfl) (Rd.cells (d := 12) (ks := [.int .u32, .int .u8, .int .u32, .int .u32]) (enc := cs32) (by kernel_rfl) (fun _ h => as32 h)) (RdF.cons (z := 8) (α := (A8 (Int))) (by kernel_rfl) (Rd.cells (d := 12) (ks := [.int .u8, .int .u8, .int .u8, .int .u8, .int .u8, .int .u8, .int .u8, .int .u8]) (enc := cs34) (by kernel_rfl) (fun _ h => as34 h)) (RdF.cons (z := 1) (α := (Int)) (by kernel_rfl) (Rd.cells (d := 12) (ks := [.int .u8]) (enc := cInt .u8) (by kernel_rfl) dec1_int) (RdF.cons (z := 1) (α := (List (A8 (Int)))) (by kernel_rfl) (Rd.slice (e := 34) (z := 8) (b := 8) (α := (A8 (Int))) (enc := cs34) (by kernel_rfl) (by kernel_rfl) (by kernel_rfl) (of_decide_eq_true (by kernel_rfl)) (fun _ => rfl) (fun _ => rfl) (Rd.cells (d := 12) (ks := [.int .u8, .int .u8, .int .u8, .int .u8, .int .u8, .int .u8, .int .u8, .int .u8]) (enc := cs34) (by kernel_rfl) (fun _ h => as34 h))) RdF.nil)))))) (fun (p : ((Int)) × (Wk.TS) × ((A8 (Int))) × ((Int)) × ((List (A8 (Int)))) × Unit) => Wk.TA.mk p.1 p.2.1 p.2.2.1 p.2.2.2.1 p.2.2.2.2.1) (fun _ => rfl) (fun _ h => h)))
 have e0 := rel1 e0
 obtain ⟨x1, g1, e1⟩ := open_slice Tryz.underlying22 (hval 1 _ v1 rfl rfl) h1 (sz_at hsz0 1 (t := 22) (by rw [Tryz.params3]; rfl) rfl) (enc := (fun z_ : List (Wk.TA) => [.ds 15 z_.length (rowF cs37 default z_)])) (W := fun x => ((∀ a ∈ x, (ws37 a)) ∧ x.length * 56 ≤ 140737488351232)) (Rd.slice (e := 37) (z := 15) (b := 56) (α := Wk.TA) (enc := cs37) (by kernel_rfl) (by kernel_rfl) (by kernel_rfl) (of_decide_eq_true (by kernel_rfl)) (fun _ => rfl) (fun _ => rfl) (Rd.map (enc2 := cs37) (W2 := ws37) (Rd.struct (N := 15) (fs := [(5, 0), (32, 1), (34, 5), (5, 13), (35, 14)]) (by kernel_rfl) (by kernel_rfl) (RdF.cons (z := 1) (α := (Int)) (by kernel_rfl) (Rd.cells (d := 12) (ks := [.int .u8]) (enc := cInt .u8) (by kernel_rfl) dec1_int) (RdF.cons (z := 4) (α := Wk.TS) (by kernel_rfl) (Rd.cells (d := 12) (ks := [.int .u32, .int .u8, .int .u32, .int .u32]) (enc := cs32) (by kernel_rfl) (fun _ h => as32 h)) (RdF.cons (z := 8) (α := (A8 (Int))) (by kernel_rfl) (Rd.cells (d := 12) (ks := [.int .u8, .int .u8, .int .u8, .int .u8, .int .u8, .int .u8, .int .u8, .int .u8]) (enc := cs34) (by kernel_rfl) (fun _ h => as34 h)) (RdF.cons (z := 1) (α := (Int)) (by kernel_rfl) (Rd.cells (d := 12) (ks := [.int .u8]) (enc := cInt .u8) (by kernel_rfl) dec1_int) (RdF.cons (z := 1) (α := (List (A8 (Int)))) (by kernel_rfl) (Rd.slice (e := 34) (z := 8) (b := 8) (α := (A8 (Int))) (enc := cs34) (by kernel_rfl) (by kernel_rfl) (by kernel_rfl) (of_decide_eq_true (by kernel_rfl)) (fun _ => rfl) (fun _ => rfl) (Rd.cells (d := 12) (ks := [.int .u8, .int .u8, .int .u8, .int .u8, .int .u8, .int .u8, .int .u8, .int .u8]) (enc := cs34) (by kernel_rfl) (fun _ h => as34 h))) RdF.nil)))))) (fun (p : ((Int)) × (Wk.TS) × ((A8 (Int))) × ((Int)) × ((List (A8 (Int)))) × Unit) => Wk.TA.mk p.1 p.2.1 p.2.2.1 p.2.2.2.1 p.2.2.2.2.1) (fun _ => rfl) (fun _ h => h)))
 have e1 := rel1 e1
 obtain ⟨l2, f2, g2, e2⟩ := open_cells (d := 12) (ks := [.int .u8, .int .u32, .int .u32]) (by kernel_rfl) (by kernel_rfl) (hval 2 _ v2 rfl rfl) h2
 obtain ⟨x2, rfl⟩ := as25 f2
 have tri := Wk.pl_LockPrepared_tri x0 x1 x2 true (Wk.prepared_law x0 x1 x2 g0 g1 g2)
 clear hA0 hval0 hsz0
 refine (below_of_tri tri (vals := [v0, v1, v2]) (w := W) (TabOK.no rfl) ⟨_, _, rfl, e0, _, _, rfl, e1, _, _, rfl, e2 _, rfl⟩).mono fun e W' he => ?_
 obtain ⟨⟨x, μ', rfl, hx⟩, bel⟩ := he
 simp only [Wk.pl_LockPrepared_v, Rel] at hx
 subst hx
 exact ⟨_, rfl, _, _, _, [], _, [], hW', trodAll_mk1 (shut_bool Tryz.underlying4 _), (trodAll_cons_mk (Below.trod laidOut (by kernel_rfl) (of_decide_eq_true (by kernel_rfl)) h0 bel lt0) (trodAll_cons_mk (Below.trod laidOut (by kernel_rfl) (of_decide_eq_true (by kernel_rfl)) h1 bel lt1) (trodAll_cons_mk (Below.trod laidOut (by kernel_rfl) (of_decide_eq_true (by kernel_rfl)) h2 bel lt2) trodAll_mk0))), rfl, bel.frame _, fun h => by cases h⟩
theorem over : Rows.lockPreparedRow.holds Tryz.pinned (OpenSpec.ofChange Rows.lockPreparedSpec) :=
 OpenClaim.holds_of_wide 3 Tryz.f3 rfl rfl rfl rfl rfl rfl rfl ⟨rfl, rfl, rfl, rfl, rfl⟩ rfl rfl rfl rfl rfl (by kernel_rfl) Tryz.func3 (by kernel_rfl)
  (of_decide_eq_true (by kernel_rfl)) (by unfold Func.isWrapper; first | (rw [if_pos (by decide +kernel)]; kernel_rfl) | (rw [if_neg (by decide +kernel)]; exact ⟨rfl, rfl⟩))
  (fun os started H enc _ => lifted os started H enc)
theorem card : Rows.LockPreparedCardSaid :=
 Claim7.holds_tied_plain_at .later [] [.data, .pinned] true (true, "c2506ba0eb6fad4187667338e383c662457c67c92586dcb847127be322503243") false over (fun _ h => by cases h) (by kernel_rfl) (fun _ h => by cases h) lockPrepared_row_tie rfl ⟨rfl, rfl⟩ (by kernel_rfl) rfl
  (fun f fn hf hfn => by
   obtain rfl : f = 3 := Option.some.inj ((show Tryz.prog.funcNamed "parrel/parrellaw15.LockPrepared" = some 3 by kernel_rfl).symm.trans hf) |>.symm
   obtain rfl : fn = Tryz.f3 := (Option.some.inj (Tryz.func3.symm.trans hfn)).symm
   exact ⟨by kernel_rfl, fun j t ht => by
    rw [Tryz.params3] at ht
    have hm : t ∈ [22, 22, 25] := by simpa using Array.mem_of_getElem? ht
    have hall : ([22, 22, 25].all fun u => !Tryz.prog.wantsStandIn u) = true := by kernel_rfl
    exact (show Tryz.prog.wantsStandIn t = false by simpa using List.all_eq_true.1 hall t hm)⟩)
  (by kernel_rfl)
theorem proved : Rows.LockPreparedCardSaid := card
#print axioms proved
end Go.Proofs.YtddgjfclpknkcaaGreatDoor.lockPrepared
namespace Go.Proofs.YtddgjfclpknkcaaGreatDoor
theorem lockPrepared_holds : Rows.LockPreparedCardSaid := lockPrepared.proved
end Go.Proofs.YtddgjfclpknkcaaGreatDoor
