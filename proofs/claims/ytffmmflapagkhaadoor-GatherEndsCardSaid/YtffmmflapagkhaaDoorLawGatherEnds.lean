/- The law GatherEnds holds for every input. -/
import Derived.Test.YtffmmflapagkhaaDoorRows
import Derived.Test.YtffmmflapagkhaaDoorGathE
import Derived.Test.YtffmmflapagkhaaDoorCnS
import Derived.Test.YtffmmflapagkhaaDoorCards
import Derived.Test.YtffmmflapagkhaaDoorTie
import Derived.WalkKit
import Derived.ProofKit
import Derived.OpenShut
import Derived.ShutString
import Derived.ChangeOld
import Derived.Below
import Derived.SizedLaws
import Derived.LaidMore
import Derived.Lay
import Derived.SevenTiedAt
import Derived.Stop.Joined
import Derived.ChangeMaps5
namespace Go.Proofs.YtffmmflapagkhaaDoor.gatherEnds
open Go.ChangeShapes Go.WideShapes Go.ChangeAt Go.RowKit Go.Cn
open Go.ChangeMaps (open_string shut_string)
open Go.Proofs.YtffmmflapagkhaaDoor.Wk
set_option linter.unusedVariables false
set_option linter.unusedSimpArgs false
theorem own : ownKnob Tryd.prog.godebug = none := by kernel_rfl
theorem laidOut : laidOutB Tryd.prog = true := by kernel_rfl
def cs42 (s : (A2 Wk.T_api_Config)) : List LV := [.int .u32 s.a0.f_Epoch, .int .u8 s.a0.f_R, .int .u8 s.a0.f_W, .int .u8 s.a0.f_Votes.a0, .int .u8 s.a0.f_Votes.a1, .int .u8 s.a0.f_Votes.a2, .int .u8 s.a0.f_Votes.a3, .int .u8 s.a0.f_Votes.a4, .int .u8 s.a0.f_Votes.a5, .int .u8 s.a0.f_Votes.a6, .int .u8 s.a0.f_Votes.a7, .int .u32 s.a1.f_Epoch, .int .u8 s.a1.f_R, .int .u8 s.a1.f_W, .int .u8 s.a1.f_Votes.a0, .int .u8 s.a1.f_Votes.a1, .int .u8 s.a1.f_Votes.a2, .int .u8 s.a1.f_Votes.a3, .int .u8 s.a1.f_Votes.a4, .int .u8 s.a1.f_Votes.a5, .int .u8 s.a1.f_Votes.a6, .int .u8 s.a1.f_Votes.a7]
theorem as42 {l : List LV} (h : fitsL [.int .u32, .int .u8, .int .u8, .int .u8, .int .u8, .int .u8, .int .u8, .int .u8, .int .u8, .int .u8, .int .u8, .int .u32, .int .u8, .int .u8, .int .u8, .int .u8, .int .u8, .int .u8, .int .u8, .int .u8, .int .u8, .int .u8] l = true) : ∃ s : (A2 Wk.T_api_Config), l = cs42 s := by
  obtain ⟨a0, r0, e0, h⟩ := fits_int h
  obtain ⟨a1, r1, e1, h⟩ := fits_int h
  obtain ⟨a2, r2, e2, h⟩ := fits_int h
  obtain ⟨a3, r3, e3, h⟩ := fits_int h
  obtain ⟨a4, r4, e4, h⟩ := fits_int h
  obtain ⟨a5, r5, e5, h⟩ := fits_int h
  obtain ⟨a6, r6, e6, h⟩ := fits_int h
  obtain ⟨a7, r7, e7, h⟩ := fits_int h
  obtain ⟨a8, r8, e8, h⟩ := fits_int h
  obtain ⟨a9, r9, e9, h⟩ := fits_int h
  obtain ⟨a10, r10, e10, h⟩ := fits_int h
  obtain ⟨a11, r11, e11, h⟩ := fits_int h
  obtain ⟨a12, r12, e12, h⟩ := fits_int h
  obtain ⟨a13, r13, e13, h⟩ := fits_int h
  obtain ⟨a14, r14, e14, h⟩ := fits_int h
  obtain ⟨a15, r15, e15, h⟩ := fits_int h
  obtain ⟨a16, r16, e16, h⟩ := fits_int h
  obtain ⟨a17, r17, e17, h⟩ := fits_int h
  obtain ⟨a18, r18, e18, h⟩ := fits_int h
  obtain ⟨a19, r19, e19, h⟩ := fits_int h
  obtain ⟨a20, r20, e20, h⟩ := fits_int h
  obtain ⟨a21, r21, e21, h⟩ := fits_int h
  exact ⟨(A2.mk (Wk.T_api_Config.mk a0 a1 a2 (A8.mk a3 a4 a5 a6 a7 a8 a9 a10)) (Wk.T_api_Config.mk a11 a12 a13 (A8.mk a14 a15 a16 a17 a18 a19 a20 a21))), by rw [e0, e1, e2, e3, e4, e5, e6, e7, e8, e9, e10, e11, e12, e13, e14, e15, e16, e17, e18, e19, e20, e21, fits_nil h]; rfl⟩
def cs43 (s : (A8 Wk.T_api_Config)) : List LV := [.int .u32 s.a0.f_Epoch, .int .u8 s.a0.f_R, .int .u8 s.a0.f_W, .int .u8 s.a0.f_Votes.a0, .int .u8 s.a0.f_Votes.a1, .int .u8 s.a0.f_Votes.a2, .int .u8 s.a0.f_Votes.a3, .int .u8 s.a0.f_Votes.a4, .int .u8 s.a0.f_Votes.a5, .int .u8 s.a0.f_Votes.a6, .int .u8 s.a0.f_Votes.a7, .int .u32 s.a1.f_Epoch, .int .u8 s.a1.f_R, .int .u8 s.a1.f_W, .int .u8 s.a1.f_Votes.a0, .int .u8 s.a1.f_Votes.a1, .int .u8 s.a1.f_Votes.a2, .int .u8 s.a1.f_Votes.a3, .int .u8 s.a1.f_Votes.a4, .int .u8 s.a1.f_Votes.a5, .int .u8 s.a1.f_Votes.a6, .int .u8 s.a1.f_Votes.a7, .int .u32 s.a2.f_Epoch, .int .u8 s.a2.f_R, .int .u8 s.a2.f_W, .int .u8 s.a2.f_Votes.a0, .int .u8 s.a2.f_Votes.a1, .int .u8 s.a2.f_Votes.a2, .int .u8 s.a2.f_Votes.a3, .int .u8 s.a2.f_Votes.a4, .int .u8 s.a2.f_Votes.a5, .int .u8 s.a2.f_Votes.a6, .int .u8 s.a2.f_Votes.a7, .int .u32 s.a3.f_Epoch, .int .u8 s.a3.f_R, .int .u8 s.a3.f_W, .int .u8 s.a3.f_Votes.a0, .int .u8 s.a3.f_Votes.a1, .int .u8 s.a3.f_Votes.a2, .int .u8 s.a3.f_Votes.a3, .int .u8 s.a3.f_Votes.a4, .int .u8 s.a3.f_Votes.a5, .int .u8 s.a3.f_Votes.a6, .int .u8 s.a3.f_Votes.a7, .int .u32 s.a4.f_Epoch, .int .u8 s.a4.f_R, .int .u8 s.a4.f_W, .int .u8 s.a4.f_Votes.a0, .int .u8 s.a4.f_Votes.a1, .int .u8 s.a4.f_Votes.a2, .int .u8 s.a4.f_Votes.a3, .int .u8 s.a4.f_Votes.a4, .int .u8 s.a4.f_Votes.a5, .int .u8 s.a4.f_Votes.a6, .int .u8 s.a4.f_Votes.a7, .int .u32 s.a5.f_Epoch, .int .u8 s.a5.f_R, .int .u8 s.a5.f_W, .int .u8 s.a5.f_Votes.a0, .int .u8 s.a5.f_Votes.a1, .int .u8 s.a5.f_Votes.a2, .int .u8 s.a5.f_Votes.a3, .int .u8 s.a5.f_Votes.a4, .int .u8 s.a5.f_Votes.a5, .int .u8 s.a5.f_Votes.a6, .int .u8 s.a5.f_Votes.a7, .int .u32 s.a6.f_Epoch, .int .u8 s.a6.f_R, .int .u8 s.a6.f_W, .int .u8 s.a6.f_Votes.a0, .int .u8 s.a6.f_Votes.a1, .int .u8 s.a6.f_Votes.a2, .int .u8 s.a6.f_Votes.a3, .int .u8 s.a6.f_Votes.a4, .int .u8 s.a6.f_Votes.a5, .int .u8 s.a6.f_Votes.a6, .int .u8 s.a6.f_Votes.a7, .int .u32 s.a7.f_Epoch, .int .u8 s.a7.f_R, .int .u8 s.a7.f_W, .int .u8 s.a7.f_Votes.a0, .int .u8 s.a7.f_Votes.a1, .int .u8 s.a7.f_Votes.a2, .int .u8 s.a7.f_Votes.a3, .int .u8 s.a7.f_Votes.a4, .int .u8 s.a7.f_Votes.a5, .int .u8 s.a7.f_Votes.a6, .int .u8 s.a7.f_Votes.a7]
theorem as43 {l : List LV} (h : fitsL [.int .u32, .int .u8, .int .u8, .int .u8, .int .u8, .int .u8, .int .u8, .int .u8, .int .u8, .int .u8, .int .u8, .int .u32, .int .u8, .int .u8, .int .u8, .int .u8, .int .u8, .int .u8, .int .u8, .int .u8, .int .u8, .int .u8, .int .u32, .int .u8, .int .u8, .int .u8, .int .u8, .int .u8, .int .u8, .int .u8, .int .u8, .int .u8, .int .u8, .int .u32, .int .u8, .int .u8, .int .u8, .int .u8, .int .u8, .int .u8, .int .u8, .int .u8, .int .u8, .int .u8, .int .u32, .int .u8, .int .u8, .int .u8, .int .u8, .int .u8, .int .u8, .int .u8, .int .u8, .int .u8, .int .u8, .int .u32, .int .u8, .int .u8, .int .u8, .int .u8, .int .u8, .int .u8, .int .u8, .int .u8, .int .u8, .int .u8, .int .u32, .int .u8, .int .u8, .int .u8, .int .u8, .int .u8, .int .u8, .int .u8, .int .u8, .int .u8, .int .u8, .int .u32, .int .u8, .int .u8, .int .u8, .int .u8, .int .u8, .int .u8, .int .u8, .int .u8, .int .u8, .int .u8] l = true) : ∃ s : (A8 Wk.T_api_Config), l = cs43 s := by
  obtain ⟨a0, r0, e0, h⟩ := fits_int h
  obtain ⟨a1, r1, e1, h⟩ := fits_int h
  obtain ⟨a2, r2, e2, h⟩ := fits_int h
  obtain ⟨a3, r3, e3, h⟩ := fits_int h
  obtain ⟨a4, r4, e4, h⟩ := fits_int h
  obtain ⟨a5, r5, e5, h⟩ := fits_int h
  obtain ⟨a6, r6, e6, h⟩ := fits_int h
  obtain ⟨a7, r7, e7, h⟩ := fits_int h
  obtain ⟨a8, r8, e8, h⟩ := fits_int h
  obtain ⟨a9, r9, e9, h⟩ := fits_int h
  obtain ⟨a10, r10, e10, h⟩ := fits_int h
  obtain ⟨a11, r11, e11, h⟩ := fits_int h
  obtain ⟨a12, r12, e12, h⟩ := fits_int h
  obtain ⟨a13, r13, e13, h⟩ := fits_int h
  obtain ⟨a14, r14, e14, h⟩ := fits_int h
  obtain ⟨a15, r15, e15, h⟩ := fits_int h
  obtain ⟨a16, r16, e16, h⟩ := fits_int h
  obtain ⟨a17, r17, e17, h⟩ := fits_int h
  obtain ⟨a18, r18, e18, h⟩ := fits_int h
  obtain ⟨a19, r19, e19, h⟩ := fits_int h
  obtain ⟨a20, r20, e20, h⟩ := fits_int h
  obtain ⟨a21, r21, e21, h⟩ := fits_int h
  obtain ⟨a22, r22, e22, h⟩ := fits_int h
  obtain ⟨a23, r23, e23, h⟩ := fits_int h
  obtain ⟨a24, r24, e24, h⟩ := fits_int h
  obtain ⟨a25, r25, e25, h⟩ := fits_int h
  obtain ⟨a26, r26, e26, h⟩ := fits_int h
  obtain ⟨a27, r27, e27, h⟩ := fits_int h
  obtain ⟨a28, r28, e28, h⟩ := fits_int h
  obtain ⟨a29, r29, e29, h⟩ := fits_int h
  obtain ⟨a30, r30, e30, h⟩ := fits_int h
  obtain ⟨a31, r31, e31, h⟩ := fits_int h
  obtain ⟨a32, r32, e32, h⟩ := fits_int h
  obtain ⟨a33, r33, e33, h⟩ := fits_int h
  obtain ⟨a34, r34, e34, h⟩ := fits_int h
  obtain ⟨a35, r35, e35, h⟩ := fits_int h
  obtain ⟨a36, r36, e36, h⟩ := fits_int h
  obtain ⟨a37, r37, e37, h⟩ := fits_int h
  obtain ⟨a38, r38, e38, h⟩ := fits_int h
  obtain ⟨a39, r39, e39, h⟩ := fits_int h
  obtain ⟨a40, r40, e40, h⟩ := fits_int h
  obtain ⟨a41, r41, e41, h⟩ := fits_int h
  obtain ⟨a42, r42, e42, h⟩ := fits_int h
  obtain ⟨a43, r43, e43, h⟩ := fits_int h
  obtain ⟨a44, r44, e44, h⟩ := fits_int h
  obtain ⟨a45, r45, e45, h⟩ := fits_int h
  obtain ⟨a46, r46, e46, h⟩ := fits_int h
  obtain ⟨a47, r47, e47, h⟩ := fits_int h
  obtain ⟨a48, r48, e48, h⟩ := fits_int h
  obtain ⟨a49, r49, e49, h⟩ := fits_int h
  obtain ⟨a50, r50, e50, h⟩ := fits_int h
  obtain ⟨a51, r51, e51, h⟩ := fits_int h
  obtain ⟨a52, r52, e52, h⟩ := fits_int h
  obtain ⟨a53, r53, e53, h⟩ := fits_int h
  obtain ⟨a54, r54, e54, h⟩ := fits_int h
  obtain ⟨a55, r55, e55, h⟩ := fits_int h
  obtain ⟨a56, r56, e56, h⟩ := fits_int h
  obtain ⟨a57, r57, e57, h⟩ := fits_int h
  obtain ⟨a58, r58, e58, h⟩ := fits_int h
  obtain ⟨a59, r59, e59, h⟩ := fits_int h
  obtain ⟨a60, r60, e60, h⟩ := fits_int h
  obtain ⟨a61, r61, e61, h⟩ := fits_int h
  obtain ⟨a62, r62, e62, h⟩ := fits_int h
  obtain ⟨a63, r63, e63, h⟩ := fits_int h
  obtain ⟨a64, r64, e64, h⟩ := fits_int h
  obtain ⟨a65, r65, e65, h⟩ := fits_int h
  obtain ⟨a66, r66, e66, h⟩ := fits_int h
  obtain ⟨a67, r67, e67, h⟩ := fits_int h
  obtain ⟨a68, r68, e68, h⟩ := fits_int h
  obtain ⟨a69, r69, e69, h⟩ := fits_int h
  obtain ⟨a70, r70, e70, h⟩ := fits_int h
  obtain ⟨a71, r71, e71, h⟩ := fits_int h
  obtain ⟨a72, r72, e72, h⟩ := fits_int h
  obtain ⟨a73, r73, e73, h⟩ := fits_int h
  obtain ⟨a74, r74, e74, h⟩ := fits_int h
  obtain ⟨a75, r75, e75, h⟩ := fits_int h
  obtain ⟨a76, r76, e76, h⟩ := fits_int h
  obtain ⟨a77, r77, e77, h⟩ := fits_int h
  obtain ⟨a78, r78, e78, h⟩ := fits_int h
  obtain ⟨a79, r79, e79, h⟩ := fits_int h
  obtain ⟨a80, r80, e80, h⟩ := fits_int h
  obtain ⟨a81, r81, e81, h⟩ := fits_int h
  obtain ⟨a82, r82, e82, h⟩ := fits_int h
  obtain ⟨a83, r83, e83, h⟩ := fits_int h
  obtain ⟨a84, r84, e84, h⟩ := fits_int h
  obtain ⟨a85, r85, e85, h⟩ := fits_int h
  obtain ⟨a86, r86, e86, h⟩ := fits_int h
  obtain ⟨a87, r87, e87, h⟩ := fits_int h
  exact ⟨(A8.mk (Wk.T_api_Config.mk a0 a1 a2 (A8.mk a3 a4 a5 a6 a7 a8 a9 a10)) (Wk.T_api_Config.mk a11 a12 a13 (A8.mk a14 a15 a16 a17 a18 a19 a20 a21)) (Wk.T_api_Config.mk a22 a23 a24 (A8.mk a25 a26 a27 a28 a29 a30 a31 a32)) (Wk.T_api_Config.mk a33 a34 a35 (A8.mk a36 a37 a38 a39 a40 a41 a42 a43)) (Wk.T_api_Config.mk a44 a45 a46 (A8.mk a47 a48 a49 a50 a51 a52 a53 a54)) (Wk.T_api_Config.mk a55 a56 a57 (A8.mk a58 a59 a60 a61 a62 a63 a64 a65)) (Wk.T_api_Config.mk a66 a67 a68 (A8.mk a69 a70 a71 a72 a73 a74 a75 a76)) (Wk.T_api_Config.mk a77 a78 a79 (A8.mk a80 a81 a82 a83 a84 a85 a86 a87))), by rw [e0, e1, e2, e3, e4, e5, e6, e7, e8, e9, e10, e11, e12, e13, e14, e15, e16, e17, e18, e19, e20, e21, e22, e23, e24, e25, e26, e27, e28, e29, e30, e31, e32, e33, e34, e35, e36, e37, e38, e39, e40, e41, e42, e43, e44, e45, e46, e47, e48, e49, e50, e51, e52, e53, e54, e55, e56, e57, e58, e59, e60, e61, e62, e63, e64, e65, e66, e67, e68, e69, e70, e71, e72, e73, e74, e75, e76, e77, e78, e79, e80, e81, e82, e83, e84, e85, e86, e87, fits_nil h]; rfl⟩
def laidL : List (String × DataW Unit) := [("math/bits.deBruijn64tab", Rows.laid_math_bits_deBruijn64tab), ("unicode/utf8.acceptRanges", Rows.laid_unicode_utf8_acceptRanges), ("unicode/utf8.first", Rows.laid_unicode_utf8_first)]
set_option maxRecDepth 100000 in
theorem lifted (os : Os) (started : os.Started) (H : Type) (enc : TypeId × Value → H) :
    ReturnsInHanded {} Tryd.checked os 5 .any (fun w args => (Rows.gatherEndsSpec.pre enc Tryd.prog Tryd.f5 Rows.gatherEndsRow.domain false w args ∧ laidMetH Tryd.prog laidL w) ∧ sizedMet enc Tryd.prog Tryd.f5 (OpenSpec.ofChange Rows.gatherEndsSpec) false w args) (Rows.gatherEndsSpec.post enc Tryd.prog Tryd.f5 false true false false) := by
  refine returnsInHanded_of_change_and (C := Tryd.checked) (X := fun w _ => laidMetH Tryd.prog laidL w) (fun _ _ _ hh h => h.of_heap hh) own started (by kernel_rfl) Tryd.func5
    (ChangeSpec.witness_shaped (enc := enc) (C := Tryd.checked) (os := os) (X := fun w _ => laidMetH Tryd.prog laidL w) false (World.laidAll Tryd.prog os laidL) #[.int .u8 0, .agg #[.int .u32 0, .int .u8 0, .int .u8 0, .int .u8 0, .int .u8 0, .int .u8 0, .int .u8 0, .int .u8 0, .int .u8 0, .int .u8 0, .int .u8 0, .int .u32 0, .int .u8 0, .int .u8 0, .int .u8 0, .int .u8 0, .int .u8 0, .int .u8 0, .int .u8 0, .int .u8 0, .int .u8 0, .int .u8 0], .agg #[.int .u32 0, .int .u8 0, .int .u8 0, .int .u8 0, .int .u8 0, .int .u8 0, .int .u8 0, .int .u8 0, .int .u8 0, .int .u8 0, .int .u8 0, .int .u32 0, .int .u8 0, .int .u8 0, .int .u8 0, .int .u8 0, .int .u8 0, .int .u8 0, .int .u8 0, .int .u8 0, .int .u8 0, .int .u8 0, .int .u32 0, .int .u8 0, .int .u8 0, .int .u8 0, .int .u8 0, .int .u8 0, .int .u8 0, .int .u8 0, .int .u8 0, .int .u8 0, .int .u8 0, .int .u32 0, .int .u8 0, .int .u8 0, .int .u8 0, .int .u8 0, .int .u8 0, .int .u8 0, .int .u8 0, .int .u8 0, .int .u8 0, .int .u8 0, .int .u32 0, .int .u8 0, .int .u8 0, .int .u8 0, .int .u8 0, .int .u8 0, .int .u8 0, .int .u8 0, .int .u8 0, .int .u8 0, .int .u8 0, .int .u32 0, .int .u8 0, .int .u8 0, .int .u8 0, .int .u8 0, .int .u8 0, .int .u8 0, .int .u8 0, .int .u8 0, .int .u8 0, .int .u8 0, .int .u32 0, .int .u8 0, .int .u8 0, .int .u8 0, .int .u8 0, .int .u8 0, .int .u8 0, .int .u8 0, .int .u8 0, .int .u8 0, .int .u8 0, .int .u32 0, .int .u8 0, .int .u8 0, .int .u8 0, .int .u8 0, .int .u8 0, .int .u8 0, .int .u8 0, .int .u8 0, .int .u8 0, .int .u8 0]] 8 (World.laidAll_os _ _ _)
      (World.shaped_of_ZipB (by kernel_rfl) (by kernel_rfl)) (by kernel_rfl) (by kernel_rfl) (by kernel_rfl)
      (by rw [MakeChecks.laidMetH_plain _ _ _ (by kernel_rfl)]; exact laidMet_laidAll _ (by kernel_rfl) (by kernel_rfl))) ?_
  intro W base args ds gs before hval0 hW hcnd hsz0 hx_ hy_
  have hval : ∀ (j : Nat) t v, Tryd.f5.params[j]? = some t → args[j]? = some v → Value.okWide Tryd.prog W .any base t v := hval0
  have hW' := hW
  obtain ⟨p, q, hA0, hV, rfl, hfz, hnd⟩ := hW
  have hA : DataW.TrodAll enc Tryd.prog W 0 (fun _ => true) true Tryd.f5.params.toList args.toList ds p := hA0
  rw [Tryd.params5] at hA hval
  obtain ⟨v0, vs0, d0, ds0, p0, q0, hargs, rfl, rfl, h0, r0⟩ := trodAll_cons hA
  obtain ⟨v1, vs1, d1, ds1, p1, q1, rfl, rfl, rfl, h1, r1⟩ := trodAll_cons r0
  obtain ⟨v2, vs2, d2, ds2, p2, q2, rfl, rfl, rfl, h2, r2⟩ := trodAll_cons r1
  obtain ⟨rfl, rfl, rfl⟩ := trodAll_nil r2
  obtain rfl : args = #[v0, v1, v2] := by cases args; simp_all
  obtain ⟨rfl, rfl⟩ := trodVars_none hV
  have lt0 : ∀ x ∈ p0, x.block < W.heap.size := by obtain ⟨m, hm⟩ := h0; exact DataW.trod_lt m _ _ _ hm
  have lt1 : ∀ x ∈ p1, x.block < W.heap.size := by obtain ⟨m, hm⟩ := h1; exact DataW.trod_lt m _ _ _ hm
  have lt2 : ∀ x ∈ p2, x.block < W.heap.size := by obtain ⟨m, hm⟩ := h2; exact DataW.trod_lt m _ _ _ hm
  obtain ⟨x0, rfl, rfl, rfl, g0⟩ := open_int Tryd.underlying5 (hval 0 _ v0 rfl rfl) h0
  have e0 : ∀ μ : Emb, Rel μ (.int .u8 x0) (.int .u8 x0) := fun _ => rfl
  obtain ⟨l1, f1, g1, e1⟩ := open_cells (d := 12) (ks := [.int .u32, .int .u8, .int .u8, .int .u8, .int .u8, .int .u8, .int .u8, .int .u8, .int .u8, .int .u8, .int .u8, .int .u32, .int .u8, .int .u8, .int .u8, .int .u8, .int .u8, .int .u8, .int .u8, .int .u8, .int .u8, .int .u8]) (by kernel_rfl) (by kernel_rfl) (hval 1 _ v1 rfl rfl) h1
  obtain ⟨x1, rfl⟩ := as42 f1
  obtain ⟨l2, f2, g2, e2⟩ := open_cells (d := 12) (ks := [.int .u32, .int .u8, .int .u8, .int .u8, .int .u8, .int .u8, .int .u8, .int .u8, .int .u8, .int .u8, .int .u8, .int .u32, .int .u8, .int .u8, .int .u8, .int .u8, .int .u8, .int .u8, .int .u8, .int .u8, .int .u8, .int .u8, .int .u32, .int .u8, .int .u8, .int .u8, .int .u8, .int .u8, .int .u8, .int .u8, .int .u8, .int .u8, .int .u8, .int .u32, .int .u8, .int .u8, .int .u8, .int .u8, .int .u8, .int .u8, .int .u8, .int .u8, .int .u8, .int .u8, .int .u32, .int .u8, .int .u8, .int .u8, .int .u8, .int .u8, .int .u8, .int .u8, .int .u8, .int .u8, .int .u8, .int .u32, .int .u8, .int .u8, .int .u8, .int .u8, .int .u8, .int .u8, .int .u8, .int .u8, .int .u8, .int .u8, .int .u32, .int .u8, .int .u8, .int .u8, .int .u8, .int .u8, .int .u8, .int .u8, .int .u8, .int .u8, .int .u8, .int .u32, .int .u8, .int .u8, .int .u8, .int .u8, .int .u8, .int .u8, .int .u8, .int .u8, .int .u8, .int .u8]) (by kernel_rfl) (by kernel_rfl) (hval 2 _ v2 rfl rfl) h2
  obtain ⟨x2, rfl⟩ := as43 f2
  have tri := Wk.parrellaw19_GatherEnds_tri x0 x1 x2 true (Wk.ends_law x0 x1 x2 g0 g1 g2)
  clear hA0 hval0 hsz0
  have htab : TabOK (froOf W) := by first | exact (tabOK_of (g := 0) (t := 122) (e := 5) (by rw [MakeChecks.laidMetH_plain _ _ _ (by kernel_rfl)] at hx_; exact hx_) rfl (by kernel_rfl) (by kernel_rfl) (by kernel_rfl) (by kernel_rfl) (by kernel_rfl) (fun b h => by cases h; rfl))
  refine (below_of_tri tri (vals := [.int .u8 x0, v1, v2]) (w := W) htab ⟨_, _, rfl, e0 _, _, _, rfl, e1 _, _, _, rfl, e2 _, rfl⟩).mono fun e W' he => ?_
  obtain ⟨⟨x, μ', rfl, hx⟩, bel⟩ := he
  simp only [Wk.parrellaw19_GatherEnds_v, Rel] at hx
  subst hx
  exact ⟨_, rfl, _, _, _, [], _, [], hW', trodAll_mk1 (shut_bool Tryd.underlying4 _), (trodAll_cons_mk (Below.trod laidOut (by kernel_rfl) (of_decide_eq_true (by kernel_rfl)) h0 bel lt0) (trodAll_cons_mk (Below.trod laidOut (by kernel_rfl) (of_decide_eq_true (by kernel_rfl)) h1 bel lt1) (trodAll_cons_mk (Below.trod laidOut (by kernel_rfl) (of_decide_eq_true (by kernel_rfl)) h2 bel lt2) trodAll_mk0))), rfl, bel.frame _, fun h => by cases h⟩
theorem over : Rows.gatherEndsRow.holds Tryd.pinned (OpenSpec.ofChange Rows.gatherEndsSpec) :=
  OpenClaim.holds_of_wide 5 Tryd.f5 rfl rfl rfl rfl rfl rfl rfl ⟨rfl, rfl, rfl, rfl, rfl⟩ rfl rfl rfl rfl rfl (by kernel_rfl) Tryd.func5 (by kernel_rfl)
    (of_decide_eq_true (by kernel_rfl)) (by unfold Func.isWrapper; first | (rw [if_pos (by decide +kernel)]; kernel_rfl) | (rw [if_neg (by decide +kernel)]; exact ⟨rfl, rfl⟩))
    (fun os started H enc _ => lifted os started H enc)
theorem card : Rows.GatherEndsCardSaid :=
  Claim7.holds_tied_plain_at .later [] [.data, .data, .pinned] true (true, "1f0ae0980e682807b9939e5ea12f447ff300fadde112fd19951de0a5a86f9e2d") false over (fun _ h => by cases h) (by kernel_rfl) (fun _ h => by cases h) gatherEnds_row_tie rfl ⟨rfl, rfl⟩ (by kernel_rfl) rfl
    (fun f fn hf hfn => by
      obtain rfl : f = 5 := Option.some.inj ((show Tryd.prog.funcNamed "parrel/parrellaw19.GatherEnds" = some 5 by kernel_rfl).symm.trans hf) |>.symm
      obtain rfl : fn = Tryd.f5 := (Option.some.inj (Tryd.func5.symm.trans hfn)).symm
      exact ⟨by kernel_rfl, fun j t ht => by
        rw [Tryd.params5] at ht
        have hm : t ∈ [5, 42, 43] := by simpa using Array.mem_of_getElem? ht
        have hall : ([5, 42, 43].all fun u => !Tryd.prog.wantsStandIn u) = true := by kernel_rfl
        exact (show Tryd.prog.wantsStandIn t = false by simpa using List.all_eq_true.1 hall t hm)⟩)
    (by kernel_rfl)
theorem proved : Rows.GatherEndsCardSaid := card
#print axioms proved
end Go.Proofs.YtffmmflapagkhaaDoor.gatherEnds
namespace Go.Proofs.YtffmmflapagkhaaDoor
/-- The card, under a short name, for the claim. -/
theorem gatherEnds_holds : Rows.GatherEndsCardSaid := gatherEnds.proved
end Go.Proofs.YtffmmflapagkhaaDoor
