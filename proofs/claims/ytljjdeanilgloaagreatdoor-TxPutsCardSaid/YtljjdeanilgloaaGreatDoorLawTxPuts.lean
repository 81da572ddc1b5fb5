import Derived.Test.YtljjdeanilgloaaGreatDoorRows
import Derived.Test.YtljjdeanilgloaaGreatDoorTpP
import Derived.Test.YtljjdeanilgloaaGreatDoorCnY
import Derived.Test.YtljjdeanilgloaaGreatDoorCards
import Derived.Test.YtljjdeanilgloaaGreatDoorTie
import Derived.WalkKit
import Derived.ProofKit
import Derived.OpenShut
import Derived.ShutString
import Derived.ChangeOld
import Derived.Below
import Derived.SizedLaws
import Derived.LaidMore
import Derived.Lay
import Derived.SevenTiedAt
import Derived.Stop.Joined
import Derived.ChangeMaps5
namespace Go.Proofs.YtljjdeanilgloaaGreatDoor.txPuts
open Go.ChangeShapes Go.WideShapes Go.ChangeAt Go.RowKit Go.Cn
open Go.ChangeMaps (open_string shut_string)
open Go.Proofs.YtljjdeanilgloaaGreatDoor.Wk
set_option linter.unusedVariables false
set_option linter.unusedSimpArgs false
theorem own : ownKnob Tryz.prog.godebug = none := by kernel_rfl
theorem laidOut : laidOutB Tryz.prog = true := by kernel_rfl
def cs46 (s : Wk.Bl) : List LV := [.int .u8 s.f_Kind, .int .u8 s.f_Key.a0, .int .u8 s.f_Key.a1, .int .u8 s.f_Key.a2, .int .u8 s.f_Key.a3, .int .u8 s.f_Key.a4, .int .u8 s.f_Key.a5, .int .u8 s.f_Key.a6, .int .u8 s.f_Key.a7, .int .u8 s.f_Mode, .int .u32 s.f_Conf.f_Epoch, .int .u8 s.f_Conf.f_R, .int .u8 s.f_Conf.f_W, .int .u8 s.f_Conf.f_Votes.a0, .int .u8 s.f_Conf.f_Votes.a1, .int .u8 s.f_Conf.f_Votes.a2, .int .u8 s.f_Conf.f_Votes.a3, .int .u8 s.f_Conf.f_Votes.a4, .int .u8 s.f_Conf.f_Votes.a5, .int .u8 s.f_Conf.f_Votes.a6, .int .u8 s.f_Conf.f_Votes.a7, .int .u32 s.f_More.f_Epoch, .int .u8 s.f_More.f_R, .int .u8 s.f_More.f_W, .int .u8 s.f_More.f_Votes.a0, .int .u8 s.f_More.f_Votes.a1, .int .u8 s.f_More.f_Votes.a2, .int .u8 s.f_More.f_Votes.a3, .int .u8 s.f_More.f_Votes.a4, .int .u8 s.f_More.f_Votes.a5, .int .u8 s.f_More.f_Votes.a6, .int .u8 s.f_More.f_Votes.a7, .int .u8 s.f_Got.f_Node, .int .u32 s.f_Got.f_Reg.f_Boot, .int .u32 s.f_Got.f_Reg.f_N, .int .u32 s.f_Got.f_Item.f_Version, .str s.f_Got.f_Item.f_Value, .int .u32 s.f_Got.f_Item.f_Conf.f_Epoch, .int .u8 s.f_Got.f_Item.f_Conf.f_R, .int .u8 s.f_Got.f_Item.f_Conf.f_W, .int .u8 s.f_Got.f_Item.f_Conf.f_Votes.a0, .int .u8 s.f_Got.f_Item.f_Conf.f_Votes.a1, .int .u8 s.f_Got.f_Item.f_Conf.f_Votes.a2, .int .u8 s.f_Got.f_Item.f_Conf.f_Votes.a3, .int .u8 s.f_Got.f_Item.f_Conf.f_Votes.a4, .int .u8 s.f_Got.f_Item.f_Conf.f_Votes.a5, .int .u8 s.f_Got.f_Item.f_Conf.f_Votes.a6, .int .u8 s.f_Got.f_Item.f_Conf.f_Votes.a7, .str s.f_Text]
theorem as46 {l : List LV} (h : fitsL [.int .u8, .int .u8, .int .u8, .int .u8, .int .u8, .int .u8, .int .u8, .int .u8, .int .u8, .int .u8, .int .u32, .int .u8, .int .u8, .int .u8, .int .u8, .int .u8, .int .u8, .int .u8, .int .u8, .int .u8, .int .u8, .int .u32, .int .u8, .int .u8, .int .u8, .int .u8, .int .u8, .int .u8, .int .u8, .int .u8, .int .u8, .int .u8, .int .u8, .int .u32, .int .u32, .int .u32, .str, .int .u32, .int .u8, .int .u8, .int .u8, .int .u8, .int .u8, .int .u8, .int .u8, .int .u8, .int .u8, .int .u8, .str] l = true) : ∃ s : Wk.Bl, l = cs46 s := by
 obtain ⟨a0, r0, e0, h⟩ := fits_int h
 obtain ⟨a1, r1, e1, h⟩ := fits_int h
 obtain ⟨a2, r2, e2, h⟩ := fits_int h
 obtain ⟨a3, r3, e3, h⟩ := fits_int h
 obtain ⟨a4, r4, e4, h⟩ := fits_int h
 obtain ⟨a5, r5, e5, h⟩ := fits_int h
 obtain ⟨a6, r6, e6, h⟩ := fits_int h
 obtain ⟨a7, r7, e7, h⟩ := fits_int h
 obtain ⟨a8, r8, e8, h⟩ := fits_int h
 obtain ⟨a9, r9, e9, h⟩ := fits_int h
 obtain ⟨a10, r10, e10, h⟩ := fits_int h
 obtain ⟨a11, r11, e11, h⟩ := fits_int h
 obtain ⟨a12, r12, e12, h⟩ := fits_int h
 obtain ⟨a13, r13, e13, h⟩ := fits_int h
 obtain ⟨a14, r14, e14, h⟩ := fits_int h
 obtain ⟨a15, r15, e15, h⟩ := fits_int h
 obtain ⟨a16, r16, e16, h⟩ := fits_int h
 obtain ⟨a17, r17, e17, h⟩ := fits_int h
 obtain ⟨a18, r18, e18, h⟩ := fits_int h
 obtain ⟨a19, r19, e19, h⟩ := fits_int h
 obtain ⟨a20, r20, e20, h⟩ := fits_int h
 obtain ⟨a21, r21, e21, h⟩ := fits_int h
 obtain ⟨a22, r22, e22, h⟩ := fits_int h
 obtain ⟨a23, r23, e23, h⟩ := fits_int h
 obtain ⟨a24, r24, e24, h⟩ := fits_int h
 obtain ⟨a25, r25, e25, h⟩ := fits_int h
 obtain ⟨a26, r26, e26, h⟩ := fits_int h
 obtain ⟨a27, r27, e27, h⟩ := fits_int h
 obtain ⟨a28, r28, e28, h⟩ := fits_int h
 obtain ⟨a29, r29, e29, h⟩ := fits_int h
 obtain ⟨a30, r30, e30, h⟩ := fits_int h
 obtain ⟨a31, r31, e31, h⟩ := fits_int h
 obtain ⟨a32, r32, e32, h⟩ := fits_int h
 obtain ⟨a33, r33, e33, h⟩ := fits_int h
 obtain ⟨a34, r34, e34, h⟩ := fits_int h
 obtain ⟨a35, r35, e35, h⟩ := fits_int h
 obtain ⟨a36, r36, e36, h⟩ := fits_str h
 obtain ⟨a37, r37, e37, h⟩ := fits_int h
 obtain ⟨a38, r38, e38, h⟩ := fits_int h
 obtain ⟨a39, r39, e39, h⟩ := fits_int h
 obtain ⟨a40, r40, e40, h⟩ := fits_int h
 obtain ⟨a41, r41, e41, h⟩ := fits_int h
 obtain ⟨a42, r42, e42, h⟩ := fits_int h
 obtain ⟨a43, r43, e43, h⟩ := fits_int h
 obtain ⟨a44, r44, e44, h⟩ := fits_int h
 obtain ⟨a45, r45, e45, h⟩ := fits_int h
 obtain ⟨a46, r46, e46, h⟩ := fits_int h
 obtain ⟨a47, r47, e47, h⟩ := fits_int h
 obtain ⟨a48, r48, e48, h⟩ := fits_str h
 exact ⟨(Wk.Bl.mk a0 (A8.mk a1 a2 a3 a4 a5 a6 a7 a8) a9 (Wk.Bg.mk a10 a11 a12 (A8.mk a13 a14 a15 a16 a17 a18 a19 a20)) (Wk.Bg.mk a21 a22 a23 (A8.mk a24 a25 a26 a27 a28 a29 a30 a31)) (Wk.Bq.mk a32 (Wk.Bj.mk a33 a34) (Wk.Bn.mk a35 a36 (Wk.Bg.mk a37 a38 a39 (A8.mk a40 a41 a42 a43 a44 a45 a46 a47)))) a48), by rw [e0, e1, e2, e3, e4, e5, e6, e7, e8, e9, e10, e11, e12, e13, e14, e15, e16, e17, e18, e19, e20, e21, e22, e23, e24, e25, e26, e27, e28, e29, e30, e31, e32, e33, e34, e35, e36, e37, e38, e39, e40, e41, e42, e43, e44, e45, e46, e47, e48, fits_nil h]; rfl⟩
def laidL : List (String × DataW Unit) := [("math/bits.deBruijn64tab", Rows.laid_math_bits_deBruijn64tab), ("unicode/utf8.acceptRanges", Rows.laid_unicode_utf8_acceptRanges), ("unicode/utf8.first", Rows.laid_unicode_utf8_first)]
set_option maxRecDepth 100000 in
theorem lifted (os : Os) (started : os.Started) (H : Type) (enc : TypeId × Value → H) :
  ReturnsInHanded {} Tryz.checked os 3 .any (fun w args => (Rows.txPutsSpec.pre enc Tryz.prog Tryz.f3 Rows.txPutsRow.domain false w args ∧ laidMetH Tryz.prog laidL w) ∧ sizedMet enc Tryz.prog Tryz.f3 (OpenSpec.ofChange Rows.txPutsSpec) false w args) (Rows.txPutsSpec.post enc Tryz.prog Tryz.f3 false true false false) := by
 refine returnsInHanded_of_change_and (C := Tryz.checked) (X := fun w _ => laidMetH Tryz.prog laidL w) (fun _ _ _ hh h => h.of_heap hh) own started (by kernel_rfl) Tryz.func3
  (ChangeSpec.witness_shaped (enc := enc) (C := Tryz.checked) (os := os) (X := fun w _ => laidMetH Tryz.prog laidL w) false (World.laidAll Tryz.prog os laidL) #[.slice none 0 0] 8 (World.laidAll_os _ _ _)
   (World.shaped_of_ZipB (by kernel_rfl) (by kernel_rfl)) (by kernel_rfl) (by kernel_rfl) (by kernel_rfl)
   (by rw [MakeChecks.laidMetH_plain _ _ _ (by kernel_rfl)]; exact laidMet_laidAll _ (by kernel_rfl) (by kernel_rfl))) ?_
 intro W base args ds gs before hval0 hW hcnd hsz0 hx_ hy_
 have hval : ∀ (j : Nat) t v, Tryz.f3.params[j]? = some t → args[j]? = some v → Value.okWide Tryz.prog W .any base t v := hval0
 have hW' := hW
 obtain ⟨p, q, hA0, hV, rfl, hfz, hnd⟩ := hW
 have hA : DataW.TrodAll enc Tryz.prog W 0 (fun _ => true) true Tryz.f3.params.toList args.toList ds p := hA0
 rw [Tryz.params3] at hA hval
 obtain ⟨v0, vs0, d0, ds0, p0, q0, hargs, rfl, rfl, h0, r0⟩ := trodAll_cons hA
 obtain ⟨rfl, rfl, rfl⟩ := trodAll_nil r0
 obtain rfl : args = #[v0] := by cases args; simp_all
 obtain ⟨rfl, rfl⟩ := trodVars_none hV
 have lt0 : ∀ x ∈ p0, x.block < W.heap.size := by obtain ⟨m, hm⟩ := h0; exact DataW.trod_lt m _ _ _ hm
 obtain ⟨x0, g0, e0⟩ := open_slice Tryz.underlying22 (hval 0 _ v0 rfl rfl) h0 (sz_at hsz0 0 (t := 22) (by rw [Tryz.params3]; rfl) rfl) (enc := (fun z_ : List (Wk.Bl) => [.ds 49 z_.length (rowF cs46 default z_)])) (W := fun x => ((∀ a ∈ x, (wfL (cs46 a))) ∧ x.length * 120 ≤ 140737488351232)) (Rd.slice (e := 46) (z := 49) (b := 120) (α := Wk.Bl) (enc := cs46) (by kernel_rfl) (by kernel_rfl) (by kernel_rfl) (of_decide_eq_true (by kernel_rfl)) (fun _ => rfl) (fun _ => rfl) (Rd.cells (d := 12) (ks := [.int .u8, .int .u8, .int .u8, .int .u8, .int .u8, .int .u8, .int .u8, .int .u8, .int .u8, .int .u8, .int .u32, .int .u8, .int .u8, .int .u8, .int .u8, .int .u8, .int .u8, .int .u8, .int .u8, .int .u8, .int .u8, .int .u32, .int .u8, .int .u8, .int .u8, .int .u8, .int .u8, .int .u8, .int .u8, .int .u8, .int .u8, .int .u8, .int .u8, .int .u32, .int .u32, .int .u32, .str, .int .u32, .int .u8, .int .u8, .int .u8, .int .u8, .int .u8, .int .u8, .int .u8, .int .u8, .int .u8, .int .u8, .str]) (enc := cs46) (by kernel_rfl) (fun _ h => as46 h)))
 have e0 := rel1 e0
 have tri := Wk.AB_tri x0 true (Wk.puts_law x0 g0)
 clear hA0 hval0 hsz0
 have htab : TabOK (froOf W) := by first | exact (tabOK_of (g := 0) (t := 196) (e := 5) (by rw [MakeChecks.laidMetH_plain _ _ _ (by kernel_rfl)] at hx_; exact hx_) rfl (by kernel_rfl) (by kernel_rfl) (by kernel_rfl) (by kernel_rfl) (by kernel_rfl) (fun b h => by cases h; rfl))
 refine (below_of_tri tri (vals := [v0]) (w := W) htab ⟨_, _, rfl, e0, rfl⟩).mono fun e W' he => ?_
 obtain ⟨⟨x, μ', rfl, hx⟩, bel⟩ := he
 simp only [Wk.AB_v, Rel] at hx
 subst hx
 exact ⟨_, rfl, _, _, _, [], _, [], hW', trodAll_mk1 (shut_bool Tryz.underlying4 _), (trodAll_cons_mk (Below.trod laidOut (by kernel_rfl) (of_decide_eq_true (by kernel_rfl)) h0 bel lt0) trodAll_mk0), rfl, bel.frame _, fun h => by cases h⟩
theorem over : Rows.txPutsRow.holds Tryz.pinned (OpenSpec.ofChange Rows.txPutsSpec) :=
 OpenClaim.holds_of_wide 3 Tryz.f3 rfl rfl rfl rfl rfl rfl rfl ⟨rfl, rfl, rfl, rfl, rfl⟩ rfl rfl rfl rfl rfl (by kernel_rfl) Tryz.func3 (by kernel_rfl)
  (of_decide_eq_true (by kernel_rfl)) (by unfold Func.isWrapper; first | (rw [if_pos (by decide +kernel)]; kernel_rfl) | (rw [if_neg (by decide +kernel)]; exact ⟨rfl, rfl⟩))
  (fun os started H enc _ => lifted os started H enc)
theorem card : Rows.TxPutsCardSaid :=
 Claim7.holds_tied_plain_at .later [] [.data, .data, .pinned] true (true, "1c99a4ec44b4b6458d081297f3f3244019842182f84bac77574e865773b25316") false over (fun _ h => by cases h) (by kernel_rfl) (fun _ h => by cases h) txPuts_row_tie rfl ⟨rfl, rfl⟩ (by kernel_rfl) rfl
  (fun f fn hf hfn => by
   obtain rfl : f = 3 := Option.some.inj ((show Tryz.prog.funcNamed "parrel/parrellaw23.TxPuts" = some 3 by kernel_rfl).symm.trans hf) |>.symm
   obtain rfl : fn = Tryz.f3 := (Option.some.inj (Tryz.func3.symm.trans hfn)).symm
   exact ⟨by kernel_rfl, fun j t ht => by
    rw [Tryz.params3] at ht
    have hm : t ∈ [22] := by simpa using Array.mem_of_getElem? ht
    have hall : ([22].all fun u => !Tryz.prog.wantsStandIn u) = true := by kernel_rfl
    exact (show Tryz.prog.wantsStandIn t = false by simpa using List.all_eq_true.1 hall t hm)⟩)
  (by kernel_rfl)
theorem proved : Rows.TxPutsCardSaid := card
#print axioms proved
end Go.Proofs.YtljjdeanilgloaaGreatDoor.txPuts
namespace Go.Proofs.YtljjdeanilgloaaGreatDoor
theorem txPuts_holds : Rows.TxPutsCardSaid := txPuts.proved
end Go.Proofs.YtljjdeanilgloaaGreatDoor
