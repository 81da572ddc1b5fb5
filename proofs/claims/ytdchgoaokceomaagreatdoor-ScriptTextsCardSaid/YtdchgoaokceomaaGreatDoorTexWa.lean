/- Printed by tr.py: Go functions as Lean functions, with the proofs that they walk so. -/
import Derived.Test.YtdchgoaokceomaaGreatDoorProg
import Derived.Test.YtdchgoaokceomaaGreatDoorCnW
import Derived.Shelf.Strings.OnBuilder
import Derived.WalkKit
import Derived.TacticsInMore
import Derived.RegionIn
import Derived.LoopNIn
import Derived.LoopIn
import Derived.ControlIn
import Derived.Shelf.Strings.OnBuilder
import Derived.Deep.LoopGhost
import Derived.Lib.AppendZeros
namespace Go.Proofs.YtdchgoaokceomaaGreatDoor.Wk
open Go Go.Cn Go.RowKit
def n_ : Nat → List LV → List LV
 | 0, r => r
 | n + 1, r => .any :: n_ n r
theorem si_ {α : Type} {a b : α} (h : some a = some b) : a = b := Option.some.inj h
abbrev Z1_ : LV := .int .u8 0
abbrev Z4_ : LV := .int .u32 0
abbrev Z8_ : LV := .int .i64 0
abbrev zn_ : LV := .ds 1 (([] : List (Int))).length (rowF (cInt .u8) default ([] : List (Int)))
abbrev sg_ : List UInt8 := ([48, 49, 50, 51, 52, 53, 54, 55, 56, 57, 97, 98, 99, 100, 101, 102] : List UInt8)
set_option maxRecDepth 100000
set_option maxHeartbeats 4000000
set_option linter.unusedVariables false
set_option linter.unusedSimpArgs false
noncomputable section
theorem mixed : Tryz.prog.follows .mixedOrders = true := by kernel_rfl
theorem rr_ {w0 : World} {W : Nat → Prop} {μ0 : Emb} {fn : Func} {m : Nat} {v : LV} {up : Upd} {k : List It} {T : List LV} {H : Heap} {q : Prop} {nn : Nat} (L : List Nat) (n : Nat) (s : List Tok) (hq : q) (h : runRet Tryz.prog fn m L up n s k T H = some (q, v.ren (tau m L), renUp (tau m L) up) := by kernel_rfl) (hn : nn = m + L.length := by rfl) : kont Tryz.prog w0 W μ0 (FnPost Tryz.prog fn m nn v up) k none T H := run_ret mixed (L := L) (n := n) (s := s) hq h hn
theorem rt_ {w0 : World} {W : Nat → Prop} {μ0 : Emb} {Post : List LV → Heap → Prop} {m : Nat} {T' : List LV} {H' : Heap} {k k' : List It} {T : List LV} {H : Heap} {q : Prop} (hμ0 : ∀ c p, μ0 c = some p → c < m) (L : List Nat) (n : Nat) (s : List Tok) (hq : q) (hk : kont Tryz.prog w0 W μ0 Post k' none T' H') (hu : underH H'.length H') (h : runTo Tryz.prog m L T' H' n s k T H = some (q, k', renL (tau m L) T', renH (tau m L) H') := by kernel_rfl) : kont Tryz.prog w0 W μ0 Post k none T H := run_to mixed hμ0 (L := L) (n := n) (s := s) hq hk h hu
theorem fo_ {f : FuncId} {fn : Func} {args : List LV} {objs : List LO} {n : Nat} {v : LV} {up : Upd} (hf : Tryz.prog.funcs[f]? = some fn) (h2 : objsUnder objs.length objs) (h4 : upUnder n up) (h : ∀ w0 W μ0, (∀ c p, μ0 c = some p → c < objs.length) → kont Tryz.prog w0 W μ0 (FnPost Tryz.prog fn objs.length n v up) [.code (bodyOf fn)] none (startOf fn args) (objs.map some)) (hn : (fn.name == "runtime.NumGoroutine") = false := by kernel_rfl) (hb : fn.body = some (bodyOf fn) := by kernel_rfl) (h1 : underL objs.length args = true := by kernel_rfl) (h3 : v.under n = true := by kernel_rfl) (h5 : sigB objs n up = true := by kernel_rfl) : ∀ σ, Inj n σ → FnTri Tryz.prog f (renL σ args) (preOf σ 0 objs) (v.ren σ) (upOf σ up) := fn_of hf hn hb h1 h2 h3 h4 h5 h
structure TX where
 f_Node : Int
 f_Boot : Int
 f_Num : Int
 deriving DecidableEq, Inhabited
def c_TX (x : TX) : List LV := [.int .u8 x.f_Node, .int .u32 x.f_Boot, .int .u32 x.f_Num]
def v_TX (x : TX) : LV := .agg (c_TX x)
theorem x_TX (a b : TX) : a = b ↔ a.f_Node = b.f_Node ∧ a.f_Boot = b.f_Boot ∧ a.f_Num = b.f_Num := by
 cases a; cases b; simp
theorem k_TX (a b : TX) : eqK (v_TX a) (v_TX b) = decide (a = b) := by
 rw [Bool.eq_iff_iff, decide_eq_true_eq]
 simp only [x_TX, v_TX, c_TX, eqK, eqCs, eqC, Bool.and_eq_true, beq_iff_eq, and_assoc, and_true]
structure T_r27_Call where
 f_Client : Int
 f_Seq : Int
 f_Kind : Int
 f_Tx : TX
 f_Key : A8 (Int)
 f_Value : List UInt8
 f_R : Int
 f_W : Int
 f_Votes : List (Int)
 deriving DecidableEq, Inhabited
def c_T_r27_Call (x : T_r27_Call) : List LV := [.int .u8 x.f_Client, .int .u32 x.f_Seq, .int .u8 x.f_Kind, .int .u8 x.f_Tx.f_Node, .int .u32 x.f_Tx.f_Boot, .int .u32 x.f_Tx.f_Num, .int .u8 x.f_Key.a0, .int .u8 x.f_Key.a1, .int .u8 x.f_Key.a2, .int .u8 x.f_Key.a3, .int .u8 x.f_Key.a4, .int .u8 x.f_Key.a5, .int .u8 x.f_Key.a6, .int .u8 x.f_Key.a7, .str x.f_Value, .int .u8 x.f_R, .int .u8 x.f_W, .ds 1 (x.f_Votes).length (rowF (cInt .u8) default x.f_Votes)]
def v_T_r27_Call (x : T_r27_Call) : LV := .agg (c_T_r27_Call x)
structure T_r27_Step where
 f_Kind : Int
 f_Node : Int
 f_Wire : Int
 f_N : Int
 f_Cut : Bool
 f_Call : T_r27_Call
 f_To : Int
 f_Bytes : List (Int)
 deriving DecidableEq, Inhabited
def c_T_r27_Step (x : T_r27_Step) : List LV := [.int .u8 x.f_Kind, .int .i64 x.f_Node, .int .i64 x.f_Wire, .int .i64 x.f_N, .bool x.f_Cut, .int .u8 x.f_Call.f_Client, .int .u32 x.f_Call.f_Seq, .int .u8 x.f_Call.f_Kind, .int .u8 x.f_Call.f_Tx.f_Node, .int .u32 x.f_Call.f_Tx.f_Boot, .int .u32 x.f_Call.f_Tx.f_Num, .int .u8 x.f_Call.f_Key.a0, .int .u8 x.f_Call.f_Key.a1, .int .u8 x.f_Call.f_Key.a2, .int .u8 x.f_Call.f_Key.a3, .int .u8 x.f_Call.f_Key.a4, .int .u8 x.f_Call.f_Key.a5, .int .u8 x.f_Call.f_Key.a6, .int .u8 x.f_Call.f_Key.a7, .str x.f_Call.f_Value, .int .u8 x.f_Call.f_R, .int .u8 x.f_Call.f_W, .ds 1 (x.f_Call.f_Votes).length (rowF (cInt .u8) default x.f_Call.f_Votes), .int .i64 x.f_To, .ds 1 (x.f_Bytes).length (rowF (cInt .u8) default x.f_Bytes)]
def v_T_r27_Step (x : T_r27_Step) : LV := .agg (c_T_r27_Step x)
structure TE where
 f_Client : Int
 f_Seq : Int
 deriving DecidableEq, Inhabited
def c_TE (x : TE) : List LV := [.int .u8 x.f_Client, .int .u32 x.f_Seq]
def v_TE (x : TE) : LV := .agg (c_TE x)
theorem x_TE (a b : TE) : a = b ↔ a.f_Client = b.f_Client ∧ a.f_Seq = b.f_Seq := by
 cases a; cases b; simp
theorem k_TE (a b : TE) : eqK (v_TE a) (v_TE b) = decide (a = b) := by
 rw [Bool.eq_iff_iff, decide_eq_true_eq]
 simp only [x_TE, v_TE, c_TE, eqK, eqCs, eqC, Bool.and_eq_true, beq_iff_eq, and_assoc, and_true]
structure TN where
 f_Call : TE
 f_Kind : Int
 f_Tx : TX
 f_Key : A8 (Int)
 f_Value : List UInt8
 f_R : Int
 f_W : Int
 f_Votes : List (Int)
 deriving DecidableEq, Inhabited
def c_TN (x : TN) : List LV := [.int .u8 x.f_Call.f_Client, .int .u32 x.f_Call.f_Seq, .int .u8 x.f_Kind, .int .u8 x.f_Tx.f_Node, .int .u32 x.f_Tx.f_Boot, .int .u32 x.f_Tx.f_Num, .int .u8 x.f_Key.a0, .int .u8 x.f_Key.a1, .int .u8 x.f_Key.a2, .int .u8 x.f_Key.a3, .int .u8 x.f_Key.a4, .int .u8 x.f_Key.a5, .int .u8 x.f_Key.a6, .int .u8 x.f_Key.a7, .str x.f_Value, .int .u8 x.f_R, .int .u8 x.f_W, .ds 1 (x.f_Votes).length (rowF (cInt .u8) default x.f_Votes)]
def v_TN (x : TN) : LV := .agg (c_TN x)
structure TS where
 f_Kind : Int
 f_Node : Int
 f_Wire : Int
 f_N : Int
 f_Cut : Bool
 f_Call : TN
 f_To : Int
 f_Bytes : List (Int)
 deriving DecidableEq, Inhabited
def c_TS (x : TS) : List LV := [.int .u8 x.f_Kind, .int .i64 x.f_Node, .int .i64 x.f_Wire, .int .i64 x.f_N, .bool x.f_Cut, .int .u8 x.f_Call.f_Call.f_Client, .int .u32 x.f_Call.f_Call.f_Seq, .int .u8 x.f_Call.f_Kind, .int .u8 x.f_Call.f_Tx.f_Node, .int .u32 x.f_Call.f_Tx.f_Boot, .int .u32 x.f_Call.f_Tx.f_Num, .int .u8 x.f_Call.f_Key.a0, .int .u8 x.f_Call.f_Key.a1, .int .u8 x.f_Call.f_Key.a2, .int .u8 x.f_Call.f_Key.a3, .int .u8 x.f_Call.f_Key.a4, .int .u8 x.f_Call.f_Key.a5, .int .u8 x.f_Call.f_Key.a6, .int .u8 x.f_Call.f_Key.a7, .str x.f_Call.f_Value, .int .u8 x.f_Call.f_R, .int .u8 x.f_Call.f_W, .ds 1 (x.f_Call.f_Votes).length (rowF (cInt .u8) default x.f_Call.f_Votes), .int .i64 x.f_To, .ds 1 (x.f_Bytes).length (rowF (cInt .u8) default x.f_Bytes)]
def v_TS (x : TS) : LV := .agg (c_TS x)
structure TQ where
 f_l : List (List UInt8)
 f_bad : Bool
 deriving DecidableEq, Inhabited
def c_TQ (x : TQ) : List LV := [.ds 1 (x.f_l).length (rowF cStr default x.f_l), .bool x.f_bad]
def v_TQ (x : TQ) : LV := .agg (c_TQ x)
structure TF where
 f_Why : Int
 f_At : Int
 deriving DecidableEq, Inhabited
def c_TF (x : TF) : List LV := [.int .i64 x.f_Why, .int .i64 x.f_At]
def v_TF (x : TF) : LV := .agg (c_TF x)
theorem x_TF (a b : TF) : a = b ↔ a.f_Why = b.f_Why ∧ a.f_At = b.f_At := by
 cases a; cases b; simp
theorem k_TF (a b : TF) : eqK (v_TF a) (v_TF b) = decide (a = b) := by
 rw [Bool.eq_iff_iff, decide_eq_true_eq]
 simp only [x_TF, v_TF, c_TF, eqK, eqCs, eqC, Bool.and_eq_true, beq_iff_eq, and_assoc, and_true]
theorem ext89 (l : List UInt8) (c : Int) : ExtTri Tryz.prog 89 [.str l, .int .u8 c] (.int .i64 (Lib.countByte l c.toNat.toUInt8 : Nat)) := ext_countByte Tryz.func89 (by kernel_rfl) (by kernel_rfl) (by kernel_rfl) (by kernel_rfl) l c
theorem ext103 (l : List UInt8) (c : Int) : ExtTri Tryz.prog 103 [.str l, .int .u8 c] (.int .i64 (Lib.indexByte l c.toNat.toUInt8)) := ext_indexByte Tryz.func103 (by kernel_rfl) (by kernel_rfl) (by kernel_rfl) (by kernel_rfl) l c
/-- strings.Count -/
def strings_Count_v (r : (Int)) : LV := .int .i64 r
def strings_Count (s : List UInt8) : Option ((Int)) :=
 some ((Lib.countByte s ((32 : Int)).toNat.toUInt8 : Nat) : Int)
theorem strings_Count_ok (s : List UInt8) (r : (Int)) (h : strings_Count s = some r) : ∀ σ, Inj 0 σ → FnTri Tryz.prog 62 (renL σ [.str s, .str ([32] : List UInt8)]) (preOf σ 0 []) ((strings_Count_v r).ren σ) (upOf σ []) := by
 refine fo_ Tryz.func62 trivial trivial ?_
 intro w0 W μ0 hμ
 unfold strings_Count at h
 obtain rfl := si_ h
 exact rr_ [] 26 [.reg [], .reg [], .reg [], .reg [(3, { ext := some (.int .i64 ((Lib.countByte s ((32 : Int)).toNat.toUInt8 : Nat) : Int)) })]]
  (a_ (a_ (r1_ tr) (a_ (r1_ (r2_ tr)) (a_ (r1_ (r2_ tr)) (a_ (r2_ (a_ (a_ (a_ (lei_ 0 0 rfl) (lti_ 0 1 rfl)) tr) (a_ (a_ (ext89 s (32 : Int)) tr) (r1_ tr)))) tr)))) tr)
theorem strings_Count_tri (s : List UInt8) (r : (Int)) (h : strings_Count s = some r) : FnTri Tryz.prog 62 [.str s, .str ([32] : List UInt8)] [] (strings_Count_v r) [] := FnTri.none (strings_Count_ok s r h) rfl rfl
/-- internal/stringslite.IndexByte -/
def sl_IndexByte_v (r : (Int)) : LV := .int .i64 r
def sl_IndexByte (s : List UInt8) (c : Int) : Option ((Int)) :=
 some (Lib.indexByte s (c).toNat.toUInt8)
theorem sl_IndexByte_ok (s : List UInt8) (c : Int) (r : (Int)) (h : sl_IndexByte s c = some r) : ∀ σ, Inj 0 σ → FnTri Tryz.prog 90 (renL σ [.str s, .int .u8 c]) (preOf σ 0 []) ((sl_IndexByte_v r).ren σ) (upOf σ []) := by
 refine fo_ Tryz.func90 trivial trivial ?_
 intro w0 W μ0 hμ
 unfold sl_IndexByte at h
 obtain rfl := si_ h
 exact rr_ [] 15 [.reg [], .reg [(2, { ext := some (.int .i64 (Lib.indexByte s (c).toNat.toUInt8)) })]]
  (a_ (a_ (r1_ tr) (a_ (r2_ (a_ (a_ (ext103 s c) tr) (r1_ tr))) tr)) tr)
theorem sl_IndexByte_tri (s : List UInt8) (c : Int) (r : (Int)) (h : sl_IndexByte s c = some r) : FnTri Tryz.prog 90 [.str s, .int .u8 c] [] (sl_IndexByte_v r) [] := FnTri.none (sl_IndexByte_ok s c r h) rfl rfl
/-- internal/stringslite.Index -/
def sl_Index_v (r : (Int)) : LV := .int .i64 r
def sl_Index (s : List UInt8) : Option ((Int)) :=
 if ((([32] : List UInt8) == s) : Bool) then
  some 0
 else
  (sl_IndexByte s 32).bind fun y3 =>
  some y3
theorem sl_Index_ok (s : List UInt8) (r : (Int)) (h : sl_Index s = some r) : ∀ σ, Inj 0 σ → FnTri Tryz.prog 82 (renL σ [.str s, .str ([32] : List UInt8)]) (preOf σ 0 []) ((sl_Index_v r).ren σ) (upOf σ []) := by
 refine fo_ Tryz.func82 trivial trivial ?_
 intro w0 W μ0 hμ
 unfold sl_Index at h
 rcases itb_some h with ⟨c1, h⟩ | ⟨c1, h⟩
 ·obtain rfl := si_ h
  exact rr_ [] 24 [.reg [], .reg [], .reg [(7, hT)], .reg []]
   (a_ (a_ (r1_ tr) (a_ (r1_ (r2_ tr)) (a_ (r1_ (r2_ (r4_ (f_ c1 tr)))) (a_ (r1_ tr) tr)))) tr)
 ·obtain ⟨y3, e2, h⟩ := bind_some h
  obtain rfl := si_ h
  exact rr_ [] 28 [.reg [], .reg [], .reg [(7, hF)], .reg [], .reg [(3, hC (sl_IndexByte_v y3))]]
   (a_ (a_ (r1_ tr) (a_ (r1_ (r2_ tr)) (a_ (r1_ (r2_ (r4_ (f_ c1 tr)))) (a_ (r1_ (r2_ tr)) (a_ (r2_ (a_ (a_ (a_ (lei_ 0 0 rfl) (lti_ 0 1 rfl)) tr) (c_ (sl_IndexByte_tri s 32 y3 e2) (r1_ tr)))) tr))))) tr)
theorem sl_Index_tri (s : List UInt8) (r : (Int)) (h : sl_Index s = some r) : FnTri Tryz.prog 82 [.str s, .str ([32] : List UInt8)] [] (sl_Index_v r) [] := FnTri.none (sl_Index_ok s r h) rfl rfl
/-- strings.Index -/
def strings_Index_v (r : (Int)) : LV := .int .i64 r
def strings_Index (s : List UInt8) : Option ((Int)) :=
 (sl_Index s).bind fun y2 =>
 some y2
theorem strings_Index_ok (s : List UInt8) (r : (Int)) (h : strings_Index s = some r) : ∀ σ, Inj 0 σ → FnTri Tryz.prog 63 (renL σ [.str s, .str ([32] : List UInt8)]) (preOf σ 0 []) ((strings_Index_v r).ren σ) (upOf σ []) := by
 refine fo_ Tryz.func63 trivial trivial ?_
 intro w0 W μ0 hμ
 unfold strings_Index at h
 obtain ⟨y2, e1, h⟩ := bind_some h
 obtain rfl := si_ h
 exact rr_ [] 15 [.reg [], .reg [(2, hC (sl_Index_v y2))]]
  (a_ (a_ (r1_ tr) (a_ (r2_ (c_ (sl_Index_tri s y2 e1) (r1_ tr))) tr)) tr)
theorem strings_Index_tri (s : List UInt8) (r : (Int)) (h : strings_Index s = some r) : FnTri Tryz.prog 63 [.str s, .str ([32] : List UInt8)] [] (strings_Index_v r) [] := FnTri.none (strings_Index_ok s r h) rfl rfl
/-- strings.genSplit -/
def strings_genSplit_v (r : (List (List UInt8))) : LV := .ds 1 (r).length (rowF cStr default r)
def strings_genSplit_T1000018 (s : List UInt8) (s2 : List UInt8) (i : Int) (l : List (List UInt8)) (y2 : (Int))  : List LV := n_ 9 ((.sl 0 0 0 false (((if (IntKind.wrap .i64 (((s).length : Int) + 1)) < (IntKind.wrap .i64 (y2 + 1)) then (IntKind.wrap .i64 (((s).length : Int) + 1)) else (IntKind.wrap .i64 (y2 + 1)))).toNat) none) :: (.int .i64 i) :: n_ 55 [])
def strings_genSplit_H1000018 (s : List UInt8) (s2 : List UInt8) (i : Int) (l : List (List UInt8)) (y2 : (Int))  : Heap := [some (.row 1 ((l.set (0 + i.toNat) s2)).length (rowF cStr default (l.set (0 + i.toNat) s2)) true)]
def strings_genSplit_T0 (s : List UInt8) (y2 : (Int)) (s2 : List UInt8) (i : Int) (l : List (List UInt8)) : List LV := (.str s2) :: (.str ([32] : List UInt8)) :: Z8_ :: (.int .i64 (IntKind.wrap .i64 ((if (IntKind.wrap .i64 (((s).length : Int) + 1)) < (IntKind.wrap .i64 (y2 + 1)) then (IntKind.wrap .i64 (((s).length : Int) + 1)) else (IntKind.wrap .i64 (y2 + 1))) - 1))) :: n_ 5 ((.sl 0 0 0 false (((if (IntKind.wrap .i64 (((s).length : Int) + 1)) < (IntKind.wrap .i64 (y2 + 1)) then (IntKind.wrap .i64 (((s).length : Int) + 1)) else (IntKind.wrap .i64 (y2 + 1)))).toNat) none) :: (.int .i64 i) :: n_ 55 [])
def strings_genSplit_H0 (s : List UInt8) (y2 : (Int)) (s2 : List UInt8) (i : Int) (l : List (List UInt8)) : Heap := [some (.row 1 (l).length (rowF cStr default l) true)]
def strings_genSplit_c18 (s : List UInt8) (s2 : List UInt8) (i : Int) (l : List (List UInt8)) (y2 : (Int))   : Option ((List (List UInt8))) :=
 if (((if (IntKind.wrap .i64 (((s).length : Int) + 1)) < (IntKind.wrap .i64 (y2 + 1)) then (IntKind.wrap .i64 (((s).length : Int) + 1)) else (IntKind.wrap .i64 (y2 + 1)))).toNat) = ((l.set (0 + i.toNat) s2)).length then
 if 0 ≤ (0 : Int) ∧ 0 ≤ (IntKind.wrap .i64 (i + 1)) ∧ (IntKind.wrap .i64 (i + 1)) ≤ ((((l.set (0 + i.toNat) s2)).length : Nat) : Int) then
 some ((l.set (0 + i.toNat) s2).take ((IntKind.wrap .i64 (i + 1))).toNat)
 else none
 else none
def strings_genSplit_l0 (s : List UInt8) (y2 : (Int))  : Nat → (List UInt8) → (Int) → (List (List UInt8)) → Option ((List (List UInt8)))
 | 0, _, _, _ => none
 | fuel + 1, s2, i, l =>
  if ((decide (i < (IntKind.wrap .i64 ((if (IntKind.wrap .i64 (((s).length : Int) + 1)) < (IntKind.wrap .i64 (y2 + 1)) then (IntKind.wrap .i64 (((s).length : Int) + 1)) else (IntKind.wrap .i64 (y2 + 1))) - 1)))) : Bool) then
   (strings_Index s2).bind fun yL0_3 =>
   if ((decide (yL0_3 < 0)) : Bool) then
    if 0 ≤ i ∧ i < (((((if (IntKind.wrap .i64 (((s).length : Int) + 1)) < (IntKind.wrap .i64 (y2 + 1)) then (IntKind.wrap .i64 (((s).length : Int) + 1)) else (IntKind.wrap .i64 (y2 + 1)))).toNat) : Nat) : Int) then
    if (0 + i.toNat) < (l).length then
    strings_genSplit_c18 s s2 i l y2  
    else none
    else none
   else
    if 0 ≤ (0 : Int) ∧ (0 : Int) ≤ (IntKind.wrap .i64 (yL0_3 + 0)) ∧ (IntKind.wrap .i64 (yL0_3 + 0)) ≤ (((s2).length : Nat) : Int) then
    if 0 ≤ i ∧ i < (((((if (IntKind.wrap .i64 (((s).length : Int) + 1)) < (IntKind.wrap .i64 (y2 + 1)) then (IntKind.wrap .i64 (((s).length : Int) + 1)) else (IntKind.wrap .i64 (y2 + 1)))).toNat) : Nat) : Int) then
    if (0 + i.toNat) < (l).length then
    if 0 ≤ (IntKind.wrap .i64 (yL0_3 + 1)) ∧ (IntKind.wrap .i64 (yL0_3 + 1)) ≤ (((s2).length : Nat) : Int) ∧ (((s2).length : Nat) : Int) ≤ (((s2).length : Nat) : Int) then
    strings_genSplit_l0 s y2  fuel ((s2.drop ((IntKind.wrap .i64 (yL0_3 + 1))).toNat).take (((s2).length) - ((IntKind.wrap .i64 (yL0_3 + 1))).toNat)) (IntKind.wrap .i64 (i + 1)) (l.set (0 + i.toNat) ((s2.drop 0).take (((IntKind.wrap .i64 (yL0_3 + 0))).toNat - 0)))
    else none
    else none
    else none
    else none
  else
   if 0 ≤ i ∧ i < (((((if (IntKind.wrap .i64 (((s).length : Int) + 1)) < (IntKind.wrap .i64 (y2 + 1)) then (IntKind.wrap .i64 (((s).length : Int) + 1)) else (IntKind.wrap .i64 (y2 + 1)))).toNat) : Nat) : Int) then
   if (0 + i.toNat) < (l).length then
   if (((if (IntKind.wrap .i64 (((s).length : Int) + 1)) < (IntKind.wrap .i64 (y2 + 1)) then (IntKind.wrap .i64 (((s).length : Int) + 1)) else (IntKind.wrap .i64 (y2 + 1)))).toNat) = ((l.set (0 + i.toNat) s2)).length then
   if 0 ≤ (0 : Int) ∧ 0 ≤ (IntKind.wrap .i64 (i + 1)) ∧ (IntKind.wrap .i64 (i + 1)) ≤ ((((l.set (0 + i.toNat) s2)).length : Nat) : Int) then
   some ((l.set (0 + i.toNat) s2).take ((IntKind.wrap .i64 (i + 1))).toNat)
   else none
   else none
   else none
   else none
def strings_genSplit (s : List UInt8) : Option ((List (List UInt8))) :=
 (strings_Count s).bind fun y2 =>
 if 0 ≤ (if (IntKind.wrap .i64 (((s).length : Int) + 1)) < (IntKind.wrap .i64 (y2 + 1)) then (IntKind.wrap .i64 (((s).length : Int) + 1)) else (IntKind.wrap .i64 (y2 + 1))) ∧ (if (IntKind.wrap .i64 (((s).length : Int) + 1)) < (IntKind.wrap .i64 (y2 + 1)) then (IntKind.wrap .i64 (((s).length : Int) + 1)) else (IntKind.wrap .i64 (y2 + 1))) ≤ (if (IntKind.wrap .i64 (((s).length : Int) + 1)) < (IntKind.wrap .i64 (y2 + 1)) then (IntKind.wrap .i64 (((s).length : Int) + 1)) else (IntKind.wrap .i64 (y2 + 1))) ∧ (if (IntKind.wrap .i64 (((s).length : Int) + 1)) < (IntKind.wrap .i64 (y2 + 1)) then (IntKind.wrap .i64 (((s).length : Int) + 1)) else (IntKind.wrap .i64 (y2 + 1))) * 16 ≤ 140737488351232 ∧ (if (IntKind.wrap .i64 (((s).length : Int) + 1)) < (IntKind.wrap .i64 (y2 + 1)) then (IntKind.wrap .i64 (((s).length : Int) + 1)) else (IntKind.wrap .i64 (y2 + 1))) ≤ 9223372036854775807 then
 strings_genSplit_l0 s y2  big s 0 (List.replicate (((if (IntKind.wrap .i64 (((s).length : Int) + 1)) < (IntKind.wrap .i64 (y2 + 1)) then (IntKind.wrap .i64 (((s).length : Int) + 1)) else (IntKind.wrap .i64 (y2 + 1)))).toNat) ([]) : List (List UInt8))
 else none
theorem strings_genSplit_c18_ok {w0 : World} {W : Nat → Prop} {μ0 : Emb} (hμ : ∀ c p, μ0 c = some p → c < 0) (s : List UInt8) (s2 : List UInt8) (i : Int) (l : List (List UInt8)) (y2 : (Int))   (r : (List (List UInt8))) (h : strings_genSplit_c18 s s2 i l y2   = some r) : kont Tryz.prog w0 W μ0 (FnPost Tryz.prog Tryz.f32 0 0 (strings_genSplit_v r) []) (kAtR (bodyOf Tryz.f32) 18) none (strings_genSplit_T1000018 s s2 i l y2 ) (strings_genSplit_H1000018 s s2 i l y2 ) := by
 unfold strings_genSplit_c18 at h
 obtain ⟨G1, h⟩ := guard_some h
 obtain ⟨G2, h⟩ := guard_some h
 obtain rfl := si_ h
 exact rr_ [] 13 [.frz 0, .wk [(9, .ds 1 ((l.set (0 + i.toNat) s2)).length (rowF cStr default (l.set (0 + i.toNat) s2)))] [], .reg [(3, { v := some (.ds 1 (((l.set (0 + i.toNat) s2).take ((IntKind.wrap .i64 (i + 1))).toNat)).length (rowF cStr default ((l.set (0 + i.toNat) s2).take ((IntKind.wrap .i64 (i + 1))).toNat))) })]]
  (a_ (a_ (a_ (fz_row (enc := cStr) (d := default) (fun _ => rfl) (l.set (0 + i.toNat) s2)) (a_ (fz_sl G1) (a_ (ob_row cStr default (l.set (0 + i.toNat) s2) 0 1 ((l.set (0 + i.toNat) s2)).length (rowF cStr default (l.set (0 + i.toNat) s2)) ((l.set (0 + i.toNat) s2)).length (fun _ => rfl)) tr))) (a_ (a_ (a_ (le_fz_sl cStr 1 (d := default) (l := (l.set (0 + i.toNat) s2)) G1) tr) tr) (a_ (r1_ (r2_ (a_ (a_ (a_ (Eq.refl 1) G2) (a_ (le_take cStr default 1 (l.set (0 + i.toNat) s2) ((IntKind.wrap .i64 (i + 1))).toNat (toN_le G2.2.2)) tr)) (r1_ tr)))) tr))) tr)
theorem strings_genSplit_l0_ok {w0 : World} {W : Nat → Prop} {μ0 : Emb} (hμ : ∀ c p, μ0 c = some p → c < 0) (s : List UInt8) (y2 : (Int)) : ∀ (fuel : Nat) (s2 : List UInt8) (i : Int) (l : List (List UInt8)) (r : (List (List UInt8))), strings_genSplit_l0 s y2  fuel s2 i l = some r → kont Tryz.prog w0 W μ0 (FnPost Tryz.prog Tryz.f32 0 0 (strings_genSplit_v r) []) (kAt (bodyOf Tryz.f32) 0) none (strings_genSplit_T0 s y2 s2 i l) (strings_genSplit_H0 s y2 s2 i l) := by
 intro fuel
 induction fuel with
 | zero => intro s2 i l r h; rw [strings_genSplit_l0] at h; cases h
 | succ fuel ih =>
  intro s2 i l r h
  rw [strings_genSplit_l0] at h
  rcases itb_some h with ⟨C1, h⟩ | ⟨C1, h⟩
  ·obtain ⟨yL0_3, E2, h⟩ := bind_some h
   rcases itb_some h with ⟨C4, h⟩ | ⟨C4, h⟩
   ·obtain ⟨G5, h⟩ := guard_some h
    obtain ⟨G6, h⟩ := guard_some h
    exact rt_ hμ [0] 30 [.go, .reg [(2, hT)], .reg [(2, hC (strings_Index_v yL0_3))], .reg [(1, hT)], .reg [(4, { os := [(0, .row 1 ((l.set (0 + i.toNat) s2)).length (rowF cStr default (l.set (0 + i.toNat) s2)) true)] })]]
     (a_ (r2_ (f_ C1 tr)) (a_ (r2_ (c_ (strings_Index_tri s2 yL0_3 E2) (r1_ tr))) (a_ (r1_ (f_ C4 tr)) (a_ (r1_ (r2_ (a_ (a_ (a_ (Eq.refl 1) G5) tr) (a_ (a_ (a_ (Eq.refl 1) (a_ (le_ 1 1 rfl) G6)) (a_ (sub_set_row cStr default 1 l (0 + i.toNat) s2 G6 (splL (rowF cStr default l (0 + i.toNat)) 0 [.str s2]) (by kernel_rfl)) tr)) tr)))) tr)))) (strings_genSplit_c18_ok hμ s s2 i l y2   r h) ⟨fun _ _ => rfl, trivial⟩
   ·obtain ⟨G5, h⟩ := guard_some h
    obtain ⟨G6, h⟩ := guard_some h
    obtain ⟨G7, h⟩ := guard_some h
    obtain ⟨G8, h⟩ := guard_some h
    exact rt_ hμ [0] 35 [.go, .reg [(2, hT)], .reg [(2, hC (strings_Index_v yL0_3))], .reg [(1, hF)], .reg [(8, { os := [(0, .row 1 ((l.set (0 + i.toNat) ((s2.drop 0).take (((IntKind.wrap .i64 (yL0_3 + 0))).toNat - 0)))).length (rowF cStr default (l.set (0 + i.toNat) ((s2.drop 0).take (((IntKind.wrap .i64 (yL0_3 + 0))).toNat - 0)))) true)] })], .reg [], .reg []]
     (a_ (r2_ (f_ C1 tr)) (a_ (r2_ (c_ (strings_Index_tri s2 yL0_3 E2) (r1_ tr))) (a_ (r1_ (f_ C4 tr)) (a_ (r2_ (r4_ (a_ (a_ G5 tr) (a_ (a_ (a_ (Eq.refl 1) G6) tr) (a_ (a_ (a_ (Eq.refl 1) (a_ (le_ 1 1 rfl) G7)) (a_ (sub_set_row cStr default 1 l (0 + i.toNat) ((s2.drop 0).take (((IntKind.wrap .i64 (yL0_3 + 0))).toNat - 0)) G7 (splL (rowF cStr default l (0 + i.toNat)) 0 [.str ((s2.drop 0).take (((IntKind.wrap .i64 (yL0_3 + 0))).toNat - 0))]) (by kernel_rfl)) tr)) tr))))) (a_ (r1_ (r4_ (a_ (a_ G8 tr) (r1_ tr)))) (a_ (r1_ (r2_ tr)) tr)))))) (ih _ _ _ r h) ⟨fun _ _ => rfl, trivial⟩
  ·obtain ⟨G2, h⟩ := guard_some h
   obtain ⟨G3, h⟩ := guard_some h
   obtain ⟨G4, h⟩ := guard_some h
   obtain ⟨G5, h⟩ := guard_some h
   obtain rfl := si_ h
   exact rr_ [] 24 [.go, .reg [(2, hF)], .reg [(4, { os := [(0, .row 1 ((l.set (0 + i.toNat) s2)).length (rowF cStr default (l.set (0 + i.toNat) s2)) true)] })], .frz 0, .wk [(9, .ds 1 ((l.set (0 + i.toNat) s2)).length (rowF cStr default (l.set (0 + i.toNat) s2))), (58, .ds 1 ((l.set (0 + i.toNat) s2)).length (rowF cStr default (l.set (0 + i.toNat) s2)))] [], .reg [(3, { v := some (.ds 1 (((l.set (0 + i.toNat) s2).take ((IntKind.wrap .i64 (i + 1))).toNat)).length (rowF cStr default ((l.set (0 + i.toNat) s2).take ((IntKind.wrap .i64 (i + 1))).toNat))) })]]
    (a_ (a_ (r2_ (f_ C1 tr)) (a_ (r1_ (r2_ (a_ (a_ (a_ (Eq.refl 1) G2) tr) (a_ (a_ (a_ (Eq.refl 1) (a_ (le_ 1 1 rfl) G3)) (a_ (sub_set_row cStr default 1 l (0 + i.toNat) s2 G3 (splL (rowF cStr default l (0 + i.toNat)) 0 [.str s2]) (by kernel_rfl)) tr)) tr)))) (a_ (a_ (fz_row (enc := cStr) (d := default) (fun _ => rfl) (l.set (0 + i.toNat) s2)) (a_ (fz_sl G4) (a_ (fz_sl G4) (a_ (ob_row cStr default (l.set (0 + i.toNat) s2) 0 1 ((l.set (0 + i.toNat) s2)).length (rowF cStr default (l.set (0 + i.toNat) s2)) ((l.set (0 + i.toNat) s2)).length (fun _ => rfl)) tr)))) (a_ (a_ (a_ (le_fz_sl cStr 1 (d := default) (l := (l.set (0 + i.toNat) s2)) G4) (a_ (le_fz_sl cStr 1 (d := default) (l := (l.set (0 + i.toNat) s2)) G4) tr)) tr) (a_ (r1_ (r2_ (a_ (a_ (a_ (Eq.refl 1) G5) (a_ (le_take cStr default 1 (l.set (0 + i.toNat) s2) ((IntKind.wrap .i64 (i + 1))).toNat (toN_le G5.2.2)) tr)) (r1_ tr)))) tr))))) tr)
theorem strings_genSplit_ok (s : List UInt8) (r : (List (List UInt8))) (h : strings_genSplit s = some r) : ∀ σ, Inj 0 σ → FnTri Tryz.prog 32 (renL σ [.str s, .str ([32] : List UInt8), Z8_, .int .i64 (-1)]) (preOf σ 0 []) ((strings_genSplit_v r).ren σ) (upOf σ []) := by
 refine fo_ Tryz.func32 trivial trivial ?_
 intro w0 W μ0 hμ
 unfold strings_genSplit at h
 obtain ⟨y2, e1, h⟩ := bind_some h
 obtain ⟨g3, h⟩ := guard_some h
 exact rt_ hμ [0] 46 [.reg [(0, { v := some (.ds 1 (([] : List (List UInt8))).length (rowF cStr default ([] : List (List UInt8)))) })], .reg [], .reg [], .reg [], .reg [(2, hC (strings_Count_v y2))], .reg [], .reg [(1, { os := [(0, .row 1 ((List.replicate (((if (IntKind.wrap .i64 (((s).length : Int) + 1)) < (IntKind.wrap .i64 (y2 + 1)) then (IntKind.wrap .i64 (((s).length : Int) + 1)) else (IntKind.wrap .i64 (y2 + 1)))).toNat) ([]) : List (List UInt8))).length (rowF cStr default (List.replicate (((if (IntKind.wrap .i64 (((s).length : Int) + 1)) < (IntKind.wrap .i64 (y2 + 1)) then (IntKind.wrap .i64 (((s).length : Int) + 1)) else (IntKind.wrap .i64 (y2 + 1)))).toNat) ([]) : List (List UInt8))) true)], v := some (.sl 0 0 0 false (((if (IntKind.wrap .i64 (((s).length : Int) + 1)) < (IntKind.wrap .i64 (y2 + 1)) then (IntKind.wrap .i64 (((s).length : Int) + 1)) else (IntKind.wrap .i64 (y2 + 1)))).toNat) none) })], .reg [], .reg []]
  (a_ (a_ (a_ tr (a_ (le_nil_ds 1 (rowF cStr default [])) tr)) tr) (a_ (r2_ tr) (a_ (r2_ tr) (a_ (r2_ tr) (a_ (r2_ (c_ (strings_Count_tri s y2 e1) (r2_ tr))) (a_ (r2_ (r4_ tr)) (a_ (r1_ (a_ (a_ (a_ g3.1 (a_ g3.2.1 (a_ g3.2.2.1 (a_ g3.2.2.2 (a_ (Eq.refl true) (a_ (Eq.refl 1) (lt_ 0 1 rfl))))))) (a_ (le_cap 0 0 0 false (((if (IntKind.wrap .i64 (((s).length : Int) + 1)) < (IntKind.wrap .i64 (y2 + 1)) then (IntKind.wrap .i64 (((s).length : Int) + 1)) else (IntKind.wrap .i64 (y2 + 1)))).toNat) (((if (IntKind.wrap .i64 (((s).length : Int) + 1)) < (IntKind.wrap .i64 (y2 + 1)) then (IntKind.wrap .i64 (((s).length : Int) + 1)) else (IntKind.wrap .i64 (y2 + 1)))).toNat)) (a_ (sub_made cStr default 1 (((if (IntKind.wrap .i64 (((s).length : Int) + 1)) < (IntKind.wrap .i64 (y2 + 1)) then (IntKind.wrap .i64 (((s).length : Int) + 1)) else (IntKind.wrap .i64 (y2 + 1)))).toNat) ([])) tr))) (r1_ tr))) (a_ (r1_ (r2_ tr)) (a_ (r1_ tr) tr))))))))) (strings_genSplit_l0_ok hμ s y2  big _ _ _ r h) ⟨fun _ _ => rfl, trivial⟩
theorem strings_genSplit_tri (s : List UInt8) (r : (List (List UInt8))) (h : strings_genSplit s = some r) : FnTri Tryz.prog 32 [.str s, .str ([32] : List UInt8), .int .i64 0, .int .i64 (-1)] [] (strings_genSplit_v r) [] := FnTri.none (strings_genSplit_ok s r h) rfl rfl
/-- strings.Split -/
def strings_Split_v (r : (List (List UInt8))) : LV := .ds 1 (r).length (rowF cStr default r)
def strings_Split (s : List UInt8) : Option ((List (List UInt8))) :=
 (strings_genSplit s).bind fun y2 =>
 some y2
theorem strings_Split_ok (s : List UInt8) (r : (List (List UInt8))) (h : strings_Split s = some r) : ∀ σ, Inj 0 σ → FnTri Tryz.prog 16 (renL σ [.str s, .str ([32] : List UInt8)]) (preOf σ 0 []) ((strings_Split_v r).ren σ) (upOf σ []) := by
 refine fo_ Tryz.func16 trivial trivial ?_
 intro w0 W μ0 hμ
 unfold strings_Split at h
 obtain ⟨y2, e1, h⟩ := bind_some h
 obtain rfl := si_ h
 exact rr_ [] 15 [.reg [(0, { v := some (.ds 1 (([] : List (List UInt8))).length (rowF cStr default ([] : List (List UInt8)))) })], .reg [(2, hC (strings_genSplit_v y2))]]
  (a_ (a_ (a_ (a_ tr (a_ (le_nil_ds 1 (rowF cStr default [])) tr)) tr) (a_ (r2_ (c_ (strings_genSplit_tri s y2 e1) (r1_ tr))) tr)) tr)
theorem strings_Split_tri (s : List UInt8) (r : (List (List UInt8))) (h : strings_Split s = some r) : FnTri Tryz.prog 16 [.str s, .str ([32] : List UInt8)] [] (strings_Split_v r) [] := FnTri.none (strings_Split_ok s r h) rfl rfl
/-- parrel/script.verbs -/
def script_verbs_v (r : (List (List UInt8))) : LV := .ds 1 (r).length (rowF cStr default r)
def script_verbs  : Option ((List (List UInt8))) :=
 some ([[], ([100, 111] : List UInt8), ([100, 101, 108, 105, 118, 101, 114] : List UInt8), ([100, 114, 111, 112] : List UInt8), ([116, 119, 105, 99, 101] : List UInt8), ([108, 97, 116, 101] : List UInt8), ([116, 105, 99, 107] : List UInt8), ([99, 114, 97, 115, 104] : List UInt8), ([115, 116, 97, 114, 116] : List UInt8), ([97, 114, 109] : List UInt8), ([105, 110, 106, 101, 99, 116] : List UInt8)] : List (List UInt8))
theorem script_verbs_ok  (r : (List (List UInt8))) (h : script_verbs  = some r) : ∀ σ, Inj 0 σ → FnTri Tryz.prog 27 (renL σ []) (preOf σ 0 []) ((script_verbs_v r).ren σ) (upOf σ []) := by
 refine fo_ Tryz.func27 trivial trivial ?_
 intro w0 W μ0 hμ
 unfold script_verbs at h
 obtain rfl := si_ h
 exact rr_ [] 16 [.reg [(0, { v := some (.ds 1 (([] : List (List UInt8))).length (rowF cStr default ([] : List (List UInt8)))) })], .reg [(0, { os := [(0, .gr 1 (([[], ([100, 111] : List UInt8), ([100, 101, 108, 105, 118, 101, 114] : List UInt8), ([100, 114, 111, 112] : List UInt8), ([116, 119, 105, 99, 101] : List UInt8), ([108, 97, 116, 101] : List UInt8), ([116, 105, 99, 107] : List UInt8), ([99, 114, 97, 115, 104] : List UInt8), ([115, 116, 97, 114, 116] : List UInt8), ([97, 114, 109] : List UInt8), ([105, 110, 106, 101, 99, 116] : List UInt8)] : List (List UInt8))).length (rowF cStr default ([[], ([100, 111] : List UInt8), ([100, 101, 108, 105, 118, 101, 114] : List UInt8), ([100, 114, 111, 112] : List UInt8), ([116, 119, 105, 99, 101] : List UInt8), ([108, 97, 116, 101] : List UInt8), ([116, 105, 99, 107] : List UInt8), ([99, 114, 97, 115, 104] : List UInt8), ([115, 116, 97, 114, 116] : List UInt8), ([97, 114, 109] : List UInt8), ([105, 110, 106, 101, 99, 116] : List UInt8)] : List (List UInt8))))], v := some (.gs 0 (([[], ([100, 111] : List UInt8), ([100, 101, 108, 105, 118, 101, 114] : List UInt8), ([100, 114, 111, 112] : List UInt8), ([116, 119, 105, 99, 101] : List UInt8), ([108, 97, 116, 101] : List UInt8), ([116, 105, 99, 107] : List UInt8), ([99, 114, 97, 115, 104] : List UInt8), ([115, 116, 97, 114, 116] : List UInt8), ([97, 114, 109] : List UInt8), ([105, 110, 106, 101, 99, 116] : List UInt8)] : List (List UInt8))).length) })], .frz 0]
  (a_ (a_ (a_ (a_ tr (a_ (le_nil_ds 1 (rowF cStr default [])) tr)) tr) (a_ (a_ (a_ (a_ (Eq.refl true) (a_ (Eq.refl 1) (a_ (lt_ 0 1 rfl) (le_ 11 16777216 rfl)))) (a_ (le_sl_gs 0 11 (some 11) rfl) (a_ (sub_lit cStr default 1 (fun _ => rfl) ([[], ([100, 111] : List UInt8), ([100, 101, 108, 105, 118, 101, 114] : List UInt8), ([100, 114, 111, 112] : List UInt8), ([116, 119, 105, 99, 101] : List UInt8), ([108, 97, 116, 101] : List UInt8), ([116, 105, 99, 107] : List UInt8), ([99, 114, 97, 115, 104] : List UInt8), ([115, 116, 97, 114, 116] : List UInt8), ([97, 114, 109] : List UInt8), ([105, 110, 106, 101, 99, 116] : List UInt8)] : List (List UInt8))) tr))) (r1_ tr)) (a_ (a_ (fz_row (enc := cStr) (d := default) (fun _ => rfl) ([[], ([100, 111] : List UInt8), ([100, 101, 108, 105, 118, 101, 114] : List UInt8), ([100, 114, 111, 112] : List UInt8), ([116, 119, 105, 99, 101] : List UInt8), ([108, 97, 116, 101] : List UInt8), ([116, 105, 99, 107] : List UInt8), ([99, 114, 97, 115, 104] : List UInt8), ([115, 116, 97, 114, 116] : List UInt8), ([97, 114, 109] : List UInt8), ([105, 110, 106, 101, 99, 116] : List UInt8)] : List (List UInt8))) (a_ (Nat.le_refl (([[], ([100, 111] : List UInt8), ([100, 101, 108, 105, 118, 101, 114] : List UInt8), ([100, 114, 111, 112] : List UInt8), ([116, 119, 105, 99, 101] : List UInt8), ([108, 97, 116, 101] : List UInt8), ([116, 105, 99, 107] : List UInt8), ([99, 114, 97, 115, 104] : List UInt8), ([115, 116, 97, 114, 116] : List UInt8), ([97, 114, 109] : List UInt8), ([105, 110, 106, 101, 99, 116] : List UInt8)] : List (List UInt8))).length) (a_ (Nat.le_refl (([[], ([100, 111] : List UInt8), ([100, 101, 108, 105, 118, 101, 114] : List UInt8), ([100, 114, 111, 112] : List UInt8), ([116, 119, 105, 99, 101] : List UInt8), ([108, 97, 116, 101] : List UInt8), ([116, 105, 99, 107] : List UInt8), ([99, 114, 97, 115, 104] : List UInt8), ([115, 116, 97, 114, 116] : List UInt8), ([97, 114, 109] : List UInt8), ([105, 110, 106, 101, 99, 116] : List UInt8)] : List (List UInt8))).length) tr))) tr))) tr)
theorem script_verbs_tri  (r : (List (List UInt8))) (h : script_verbs  = some r) : FnTri Tryz.prog 27 [] [] (script_verbs_v r) [] := FnTri.none (script_verbs_ok  r h) rfl rfl
/-- (*parrel/script.reader).word -/
def sr_word_v (r : (List UInt8) × (List (List UInt8)) × (Bool)) : LV := .str r.1
def sr_word_up (x_r : TQ) (r : (List UInt8) × (List (List UInt8)) × (Bool)) : Upd := [(0, some (.var (c_TQ (TQ.mk r.2.1 r.2.2))))]
def sr_word_objs (x_r : TQ) : List LO := [.var (c_TQ x_r)]
def sr_word (x_r : TQ) : Option ((List UInt8) × (List (List UInt8)) × (Bool)) :=
 if ((((x_r.f_l).length : Int) == 0) : Bool) then
  some ([], x_r.f_l, true)
 else
  if 0 ≤ (0 : Int) ∧ (0 : Int) < (((x_r.f_l).length : Nat) : Int) then
  if 0 ≤ (1 : Int) ∧ (1 : Int) ≤ (((x_r.f_l).length : Nat) : Int) ∧ (((x_r.f_l).length : Nat) : Int) ≤ (((x_r.f_l).length : Nat) : Int) then
  some ((x_r.f_l.getD 0 default), (x_r.f_l.drop 1), x_r.f_bad)
  else none
  else none
theorem sr_word_ok (x_r : TQ) (r : (List UInt8) × (List (List UInt8)) × (Bool)) (h : sr_word x_r = some r) : ∀ σ, Inj 1 σ → FnTri Tryz.prog 65 (renL σ [.ptr 0 0 0]) (preOf σ 0 (sr_word_objs x_r)) ((sr_word_v r).ren σ) (upOf σ (sr_word_up x_r r)) := by
 refine fo_ Tryz.func65 ⟨rfl, trivial⟩ ⟨rfl, trivial⟩ ?_
 intro w0 W μ0 hμ
 unfold sr_word at h
 rcases itb_some h with ⟨c1, h⟩ | ⟨c1, h⟩
 ·obtain rfl := si_ h
  exact rr_ [] 23 [.reg [], .reg [(5, hT)], .reg [], .reg []]
   (a_ (a_ (r1_ tr) (a_ (r1_ (r2_ (l_ 0 2 rfl (r1_ (f_ c1 tr))))) (a_ (r1_ (r2_ (a_ (a_ (a_ (Eq.refl 1) (a_ (le_ 2 2 rfl) (Eq.refl 0))) tr) tr))) (a_ (r1_ tr) tr)))) tr)
 ·obtain ⟨g2, h⟩ := guard_some h
  obtain ⟨g3, h⟩ := guard_some h
  obtain rfl := si_ h
  exact rr_ [] 27 [.reg [], .reg [(5, hF)], .reg [], .reg [(5, { v := some (.ds 1 ((x_r.f_l.drop 1)).length (rowF cStr default (x_r.f_l.drop 1))) })], .reg []]
   (a_ (a_ (r1_ tr) (a_ (r1_ (r2_ (l_ 0 2 rfl (r1_ (f_ c1 tr))))) (a_ (r1_ (r2_ (l_ 0 2 rfl (a_ (a_ (a_ (Eq.refl 1) g2) tr) (a_ (a_ (lt_ 0 1 rfl) tr) (r1_ tr)))))) (a_ (r4_ (l_ 0 2 rfl (a_ (a_ (a_ (Eq.refl 1) g3) (a_ (le_drop cStr default 1 x_r.f_l 1 (toN_le g3.2.1)) tr)) (r2_ (a_ (a_ (a_ (Eq.refl 1) (a_ (le_ 1 2 rfl) (Eq.refl 0))) tr) tr))))) (a_ (r2_ tr) tr))))) tr)
/-- slices.Index[[]string,string] -/
def slices_Index_string_string_v (r : (Int)) : LV := .int .i64 r
def slices_Index_string_string_T0 (s : List (List UInt8)) (v : List UInt8) (t8 : Int) : List LV := (.ds 1 (s).length (rowF cStr default s)) :: (.str v) :: n_ 5 ((.int .i64 ((s).length : Int)) :: (.int .i64 t8) :: n_ 10 [])
def slices_Index_string_string_H0 (s : List (List UInt8)) (v : List UInt8) (t8 : Int) : Heap := []
def slices_Index_string_string_l0 (s : List (List UInt8)) (v : List UInt8)  : Nat → (Int) → Option ((Int))
 | 0, _ => none
 | fuel + 1, t8 =>
  if ((decide (t8 < ((s).length : Int))) : Bool) then
   if 0 ≤ t8 ∧ t8 < (((s).length : Nat) : Int) then
   if ((v == (s.getD t8.toNat default)) : Bool) then
    some t8
   else
    slices_Index_string_string_l0 s v  fuel (IntKind.wrap .i64 (t8 + 1))
   else none
  else
   some (-1)
def slices_Index_string_string (s : List (List UInt8)) (v : List UInt8) : Option ((Int)) :=
 slices_Index_string_string_l0 s v  big 0
theorem slices_Index_string_string_l0_ok {w0 : World} {W : Nat → Prop} {μ0 : Emb} (hμ : ∀ c p, μ0 c = some p → c < 0) (s : List (List UInt8)) (v : List UInt8) : ∀ (fuel : Nat) (t8 : Int) (r : (Int)), slices_Index_string_string_l0 s v  fuel t8 = some r → kont Tryz.prog w0 W μ0 (FnPost Tryz.prog Tryz.f64 0 0 (slices_Index_string_string_v r) []) (kAt (bodyOf Tryz.f64) 0) none (slices_Index_string_string_T0 s v t8) (slices_Index_string_string_H0 s v t8) := by
 intro fuel
 induction fuel with
 | zero => intro t8 r h; rw [slices_Index_string_string_l0] at h; cases h
 | succ fuel ih =>
  intro t8 r h
  rw [slices_Index_string_string_l0] at h
  rcases itb_some h with ⟨C1, h⟩ | ⟨C1, h⟩
  ·obtain ⟨G2, h⟩ := guard_some h
   rcases itb_some h with ⟨C3, h⟩ | ⟨C3, h⟩
   ·obtain rfl := si_ h
    exact rr_ [] 28 [.go, .reg [(0, hT)], .reg [], .reg [(5, hT)], .reg []]
     (a_ (a_ (f_ C1 tr) (a_ (r2_ tr) (a_ (r1_ (r2_ (a_ (a_ (a_ (Eq.refl 1) G2) tr) (a_ (a_ (lt_ 0 1 rfl) tr) (f_ C3 tr))))) (a_ (r2_ tr) tr)))) tr)
   ·exact rt_ hμ [] 29 [.go, .reg [(0, hT)], .reg [], .reg [(5, hF)], .reg []]
     (a_ (f_ C1 tr) (a_ (r2_ tr) (a_ (r1_ (r2_ (a_ (a_ (a_ (Eq.refl 1) G2) tr) (a_ (a_ (lt_ 0 1 rfl) tr) (f_ C3 tr))))) (a_ (r2_ tr) tr)))) (ih _ r h) trivial
  ·obtain rfl := si_ h
   exact rr_ [] 19 [.go, .reg [(0, hF)], .reg []]
    (a_ (a_ (f_ C1 tr) (a_ (r1_ tr) tr)) tr)
theorem slices_Index_string_string_ok (s : List (List UInt8)) (v : List UInt8) (r : (Int)) (h : slices_Index_string_string s v = some r) : ∀ σ, Inj 0 σ → FnTri Tryz.prog 64 (renL σ [.ds 1 (s).length (rowF cStr default s), .str v]) (preOf σ 0 []) ((slices_Index_string_string_v r).ren σ) (upOf σ []) := by
 refine fo_ Tryz.func64 trivial trivial ?_
 intro w0 W μ0 hμ
 unfold slices_Index_string_string at h
 exact rt_ hμ [] 18 [.reg [], .reg []]
  (a_ (r1_ tr) (a_ (r1_ (r2_ tr)) tr)) (slices_Index_string_string_l0_ok hμ s v  big _ r h) trivial
theorem slices_Index_string_string_tri (s : List (List UInt8)) (v : List UInt8) (r : (Int)) (h : slices_Index_string_string s v = some r) : FnTri Tryz.prog 64 [.ds 1 (s).length (rowF cStr default s), .str v] [] (slices_Index_string_string_v r) [] := FnTri.none (slices_Index_string_string_ok s v r h) rfl rfl
/-- (*parrel/script.reader).of -/
def sr_of_v (r : (Int) × (List (List UInt8)) × (Bool)) : LV := .int .i64 r.1
def sr_of_up (x_r : TQ) (l : List (List UInt8)) (r : (Int) × (List (List UInt8)) × (Bool)) : Upd := [(0, some (.var (c_TQ (TQ.mk r.2.1 r.2.2))))]
def sr_of_objs (x_r : TQ) (l : List (List UInt8)) : List LO := [.var (c_TQ x_r)]
def sr_of (x_r : TQ) (l : List (List UInt8)) : Option ((Int) × (List (List UInt8)) × (Bool)) :=
 (sr_word x_r).bind fun y2 =>
 (slices_Index_string_string l y2.1).bind fun y4 =>
 if ((decide (y4 < 1)) : Bool) then
  some (0, y2.2.1, true)
 else
  some (y4, y2.2.1, y2.2.2)
theorem sr_of_ok (x_r : TQ) (l : List (List UInt8)) (r : (Int) × (List (List UInt8)) × (Bool)) (h : sr_of x_r l = some r) : ∀ σ, Inj 1 σ → FnTri Tryz.prog 33 (renL σ [.ptr 0 0 0, .ds 1 (l).length (rowF cStr default l)]) (preOf σ 0 (sr_of_objs x_r l)) ((sr_of_v r).ren σ) (upOf σ (sr_of_up x_r l r)) := by
 refine fo_ Tryz.func33 ⟨rfl, trivial⟩ ⟨rfl, trivial⟩ ?_
 intro w0 W μ0 hμ
 unfold sr_of at h
 obtain ⟨y2, e1, h⟩ := bind_some h
 obtain ⟨y4, e3, h⟩ := bind_some h
 rcases itb_some h with ⟨c5, h⟩ | ⟨c5, h⟩
 ·obtain rfl := si_ h
  exact rr_ [] 26 [.reg [], .reg [(2, { call := some ((sr_word_v y2).ren (sel [0]), preOf (sel [0]) 0 (sr_word_objs x_r), upOf (sel [0]) (sr_word_up x_r y2)) }), (3, hC (slices_Index_string_string_v y4))], .reg [(1, hT)], .reg [], .reg []]
   (a_ (a_ (r1_ tr) (a_ (r2_ (a_ (a_ (a_ (sr_word_ok x_r y2 e1 (sel [0]) (sel_inj rfl rfl)) (a_ (LO.Le.refl (.var (c_TQ x_r))) tr)) tr) (c_ (slices_Index_string_string_tri l y2.1 y4 e3) (r1_ tr)))) (a_ (r1_ (f_ c5 tr)) (a_ (r1_ (r2_ (a_ (a_ (a_ (Eq.refl 1) (a_ (le_ 2 2 rfl) (Eq.refl 0))) tr) tr))) (a_ (r1_ tr) tr))))) tr)
 ·obtain rfl := si_ h
  exact rr_ [] 24 [.reg [], .reg [(2, { call := some ((sr_word_v y2).ren (sel [0]), preOf (sel [0]) 0 (sr_word_objs x_r), upOf (sel [0]) (sr_word_up x_r y2)) }), (3, hC (slices_Index_string_string_v y4))], .reg [(1, hF)], .reg []]
   (a_ (a_ (r1_ tr) (a_ (r2_ (a_ (a_ (a_ (sr_word_ok x_r y2 e1 (sel [0]) (sel_inj rfl rfl)) (a_ (LO.Le.refl (.var (c_TQ x_r))) tr)) tr) (c_ (slices_Index_string_string_tri l y2.1 y4 e3) (r1_ tr)))) (a_ (r1_ (f_ c5 tr)) (a_ (r2_ tr) tr)))) tr)
/-- (*parrel/script.reader).number -/
def sr_number_v (r : (Int) × (List (List UInt8)) × (Bool)) : LV := .int .i64 r.1
def sr_number_up (x_r : TQ) (s : List UInt8) (most : Int) (r : (Int) × (List (List UInt8)) × (Bool)) : Upd := [(0, some (.var (c_TQ (TQ.mk r.2.1 r.2.2))))]
def sr_number_objs (x_r : TQ) (s : List UInt8) (most : Int) : List LO := [.var (c_TQ x_r)]
def sr_number_T0 (x_r : TQ) (s : List UInt8) (most : Int) (x_n : Int) (pos : Nat) : List LV := (.ptr 0 0 0) :: (.str s) :: (.int .i64 most) :: n_ 4 ((.int .i64 x_n) :: .any :: .any :: .any :: (.ptr 1 0 0) :: n_ 43 [])
def sr_number_H0 (x_r : TQ) (s : List UInt8) (most : Int) (x_n : Int) (pos : Nat) : Heap := [some (.var (c_TQ x_r)), some (.sit s pos)]
def sr_number_l0 (x_r : TQ) (s : List UInt8) (most : Int)  : Nat → (Int) → (Nat) → Option ((Int) × (List (List UInt8)) × (Bool))
 | 0, _, _ => none
 | fuel + 1, x_n, pos =>
  if ((decide (pos < (s).length)) : Bool) then
   if ((decide (((runeAt s pos : Nat) : Int) < 48)) : Bool) then
    some (0, x_r.f_l, true)
   else
    if ((decide (57 < ((runeAt s pos : Nat) : Int))) : Bool) then
     some (0, x_r.f_l, true)
    else
     if ((decide (2147483647 < x_n)) : Bool) then
      some (0, x_r.f_l, true)
     else
      sr_number_l0 x_r s most  fuel (IntKind.wrap .i64 ((IntKind.wrap .i64 (x_n * 10)) + (IntKind.wrap .i64 (IntKind.wrap .i32 (((runeAt s pos : Nat) : Int) - 48))))) (pos + widAt s pos)
  else
   if ((s == []) : Bool) then
    some (0, x_r.f_l, true)
   else
    if ((decide (1 < ((s).length : Int))) : Bool) then
     if 0 ≤ (0 : Int) ∧ (0 : Int) < (((s).length : Nat) : Int) then
     if ((((s.getD 0 0).toNat : Int) == 48) : Bool) then
      some (0, x_r.f_l, true)
     else
      if ((decide (most < x_n)) : Bool) then
       some (0, x_r.f_l, true)
      else
       some (x_n, x_r.f_l, x_r.f_bad)
     else none
    else
     if ((decide (most < x_n)) : Bool) then
      some (0, x_r.f_l, true)
     else
      some (x_n, x_r.f_l, x_r.f_bad)
def sr_number (x_r : TQ) (s : List UInt8) (most : Int) : Option ((Int) × (List (List UInt8)) × (Bool)) :=
 sr_number_l0 x_r s most  big 0 0
theorem sr_number_l0_ok {w0 : World} {W : Nat → Prop} {μ0 : Emb} (hμ : ∀ c p, μ0 c = some p → c < 1) (x_r : TQ) (s : List UInt8) (most : Int) : ∀ (fuel : Nat) (x_n : Int) (pos : Nat) (r : (Int) × (List (List UInt8)) × (Bool)), sr_number_l0 x_r s most  fuel x_n pos = some r → kont Tryz.prog w0 W μ0 (FnPost Tryz.prog Tryz.f66 1 1 (sr_number_v r) (sr_number_up x_r s most r)) (kAt (bodyOf Tryz.f66) 0) none (sr_number_T0 x_r s most x_n pos) (sr_number_H0 x_r s most x_n pos) := by
 intro fuel
 induction fuel with
 | zero => intro x_n pos r h; rw [sr_number_l0] at h; cases h
 | succ fuel ih =>
  intro x_n pos r h
  rw [sr_number_l0] at h
  rcases itb_some h with ⟨C1, h⟩ | ⟨C1, h⟩
  ·rcases itb_some h with ⟨C2, h⟩ | ⟨C2, h⟩
   ·obtain rfl := si_ h
    exact rr_ [] 31 [.go, .reg [(0, { app := 6 })], .reg [], .reg [(2, hT)], .reg [], .reg []]
     (a_ (a_ (a_ (a_ (of_decide_eq_true C1) tr) (r1_ tr)) (a_ (r2_ tr) (a_ (r2_ (f_ C2 (t2_ (r2_ (t2_ (r1_ tr)))))) (a_ (r1_ (r2_ (a_ (a_ (a_ (Eq.refl 1) (a_ (le_ 2 2 rfl) (Eq.refl 0))) tr) tr))) (a_ (r1_ tr) tr))))) tr)
   ·rcases itb_some h with ⟨C3, h⟩ | ⟨C3, h⟩
    ·obtain rfl := si_ h
     exact rr_ [] 31 [.go, .reg [(0, { app := 6 })], .reg [], .reg [(2, hF), (6, hT)], .reg [], .reg []]
      (a_ (a_ (a_ (a_ (of_decide_eq_true C1) tr) (r1_ tr)) (a_ (r2_ tr) (a_ (r2_ (f_ C2 (r1_ (r2_ (f_ C3 (t2_ (r1_ tr))))))) (a_ (r1_ (r2_ (a_ (a_ (a_ (Eq.refl 1) (a_ (le_ 2 2 rfl) (Eq.refl 0))) tr) tr))) (a_ (r1_ tr) tr))))) tr)
    ·rcases itb_some h with ⟨C4, h⟩ | ⟨C4, h⟩
     ·obtain rfl := si_ h
      exact rr_ [] 31 [.go, .reg [(0, { app := 6 })], .reg [], .reg [(2, hF), (6, hF), (9, hT)], .reg [], .reg []]
       (a_ (a_ (a_ (a_ (of_decide_eq_true C1) tr) (r1_ tr)) (a_ (r2_ tr) (a_ (r2_ (f_ C2 (r1_ (r2_ (f_ C3 (r2_ (f_ C4 tr))))))) (a_ (r1_ (r2_ (a_ (a_ (a_ (Eq.refl 1) (a_ (le_ 2 2 rfl) (Eq.refl 0))) tr) tr))) (a_ (r1_ tr) tr))))) tr)
     ·exact rt_ hμ [1] 29 [.go, .reg [(0, { app := 6 })], .reg [], .reg [(2, hF), (6, hF), (9, hF)], .reg []]
       (a_ (a_ (a_ (of_decide_eq_true C1) tr) (r1_ tr)) (a_ (r2_ tr) (a_ (r2_ (f_ C2 (r1_ (r2_ (f_ C3 (r2_ (f_ C4 tr))))))) (a_ (r1_ (r2_ (r4_ tr))) tr)))) (ih _ _ r h) ⟨rfl, trivial, trivial⟩
  ·rcases itb_some h with ⟨C2, h⟩ | ⟨C2, h⟩
   ·obtain rfl := si_ h
    exact rr_ [] 27 [.go, .reg [(0, { app := 7 })], .reg [(2, hT)], .reg [], .reg []]
     (a_ (a_ (a_ (a_ (of_decide_eq_false C1) tr) (r1_ tr)) (a_ (r2_ (f_ C2 (t8_ (r2_ (a_ tr (t2_ (r1_ tr))))))) (a_ (r1_ (r2_ (a_ (a_ (a_ (Eq.refl 1) (a_ (le_ 2 2 rfl) (Eq.refl 0))) tr) tr))) (a_ (r1_ tr) tr)))) tr)
   ·rcases itb_some h with ⟨C3, h⟩ | ⟨C3, h⟩
    ·obtain ⟨G4, h⟩ := guard_some h
     rcases itb_some h with ⟨C5, h⟩ | ⟨C5, h⟩
     ·obtain rfl := si_ h
      exact rr_ [] 27 [.go, .reg [(0, { app := 7 })], .reg [(2, hF), (6, hT), (12, hT)], .reg [], .reg []]
       (a_ (a_ (a_ (a_ (of_decide_eq_false C1) tr) (r1_ tr)) (a_ (r2_ (f_ C2 (r1_ (r2_ (f_ C3 (r1_ (a_ (a_ G4 tr) (r1_ (r2_ (f_ C5 (a_ tr (t2_ (r1_ tr))))))))))))) (a_ (r1_ (r2_ (a_ (a_ (a_ (Eq.refl 1) (a_ (le_ 2 2 rfl) (Eq.refl 0))) tr) tr))) (a_ (r1_ tr) tr)))) tr)
     ·rcases itb_some h with ⟨C6, h⟩ | ⟨C6, h⟩
      ·obtain rfl := si_ h
       exact rr_ [] 27 [.go, .reg [(0, { app := 7 })], .reg [(2, hF), (6, hT), (12, hF), (16, hT)], .reg [], .reg []]
        (a_ (a_ (a_ (a_ (of_decide_eq_false C1) tr) (r1_ tr)) (a_ (r2_ (f_ C2 (r1_ (r2_ (f_ C3 (r1_ (a_ (a_ G4 tr) (r1_ (r2_ (f_ C5 (r1_ (r2_ (f_ C6 tr))))))))))))) (a_ (r1_ (r2_ (a_ (a_ (a_ (Eq.refl 1) (a_ (le_ 2 2 rfl) (Eq.refl 0))) tr) tr))) (a_ (r1_ tr) tr)))) tr)
      ·obtain rfl := si_ h
       exact rr_ [] 25 [.go, .reg [(0, { app := 7 })], .reg [(2, hF), (6, hT), (12, hF), (16, hF)], .reg []]
        (a_ (a_ (a_ (a_ (of_decide_eq_false C1) tr) (r1_ tr)) (a_ (r2_ (f_ C2 (r1_ (r2_ (f_ C3 (r1_ (a_ (a_ G4 tr) (r1_ (r2_ (f_ C5 (r1_ (r2_ (f_ C6 tr))))))))))))) (a_ (r2_ tr) tr))) tr)
    ·rcases itb_some h with ⟨C4, h⟩ | ⟨C4, h⟩
     ·obtain rfl := si_ h
      exact rr_ [] 27 [.go, .reg [(0, { app := 7 })], .reg [(2, hF), (6, hF), (16, hT)], .reg [], .reg []]
       (a_ (a_ (a_ (a_ (of_decide_eq_false C1) tr) (r1_ tr)) (a_ (r2_ (f_ C2 (r1_ (r2_ (f_ C3 (a_ tr (t2_ (r2_ (r4_ (f_ C4 tr)))))))))) (a_ (r1_ (r2_ (a_ (a_ (a_ (Eq.refl 1) (a_ (le_ 2 2 rfl) (Eq.refl 0))) tr) tr))) (a_ (r1_ tr) tr)))) tr)
     ·obtain rfl := si_ h
      exact rr_ [] 25 [.go, .reg [(0, { app := 7 })], .reg [(2, hF), (6, hF), (16, hF)], .reg []]
       (a_ (a_ (a_ (a_ (of_decide_eq_false C1) tr) (r1_ tr)) (a_ (r2_ (f_ C2 (r1_ (r2_ (f_ C3 (a_ tr (t2_ (r2_ (r4_ (f_ C4 tr)))))))))) (a_ (r2_ tr) tr))) tr)
theorem sr_number_ok (x_r : TQ) (s : List UInt8) (most : Int) (r : (Int) × (List (List UInt8)) × (Bool)) (h : sr_number x_r s most = some r) : ∀ σ, Inj 1 σ → FnTri Tryz.prog 66 (renL σ [.ptr 0 0 0, .str s, .int .i64 most]) (preOf σ 0 (sr_number_objs x_r s most)) ((sr_number_v r).ren σ) (upOf σ (sr_number_up x_r s most r)) := by
 refine fo_ Tryz.func66 ⟨rfl, trivial⟩ ⟨rfl, trivial⟩ ?_
 intro w0 W μ0 hμ
 unfold sr_number at h
 exact rt_ hμ [1] 21 [.reg [], .reg [], .reg []]
  (a_ (r1_ tr) (a_ (r1_ tr) (a_ (r2_ tr) tr))) (sr_number_l0_ok hμ x_r s most  big _ _ r h) ⟨rfl, trivial, trivial⟩
/-- (*parrel/script.reader).num -/
def sr_num_v (r : (Int) × (List (List UInt8)) × (Bool)) : LV := .int .i64 r.1
def sr_num_up (x_r : TQ) (r : (Int) × (List (List UInt8)) × (Bool)) : Upd := [(0, some (.var (c_TQ (TQ.mk r.2.1 r.2.2))))]
def sr_num_objs (x_r : TQ) : List LO := [.var (c_TQ x_r)]
def sr_num (x_r : TQ) : Option ((Int) × (List (List UInt8)) × (Bool)) :=
 (sr_word x_r).bind fun y2 =>
 (sr_number (TQ.mk y2.2.1 y2.2.2) y2.1 2147483647).bind fun y4 =>
 some (y4.1, y4.2.1, y4.2.2)
theorem sr_num_ok (x_r : TQ) (r : (Int) × (List (List UInt8)) × (Bool)) (h : sr_num x_r = some r) : ∀ σ, Inj 1 σ → FnTri Tryz.prog 34 (renL σ [.ptr 0 0 0]) (preOf σ 0 (sr_num_objs x_r)) ((sr_num_v r).ren σ) (upOf σ (sr_num_up x_r r)) := by
 refine fo_ Tryz.func34 ⟨rfl, trivial⟩ ⟨rfl, trivial⟩ ?_
 intro w0 W μ0 hμ
 unfold sr_num at h
 obtain ⟨y2, e1, h⟩ := bind_some h
 obtain ⟨y4, e3, h⟩ := bind_some h
 obtain rfl := si_ h
 exact rr_ [] 15 [.reg [], .reg [(2, { call := some ((sr_word_v y2).ren (sel [0]), preOf (sel [0]) 0 (sr_word_objs x_r), upOf (sel [0]) (sr_word_up x_r y2)) }), (3, { call := some ((sr_number_v y4).ren (sel [0]), preOf (sel [0]) 0 (sr_number_objs (TQ.mk y2.2.1 y2.2.2) y2.1 2147483647), upOf (sel [0]) (sr_number_up (TQ.mk y2.2.1 y2.2.2) y2.1 2147483647 y4)) })]]
  (a_ (a_ (r1_ tr) (a_ (r2_ (a_ (a_ (a_ (sr_word_ok x_r y2 e1 (sel [0]) (sel_inj rfl rfl)) (a_ (LO.Le.refl (.var (c_TQ x_r))) tr)) tr) (a_ (a_ (a_ (sr_number_ok (TQ.mk y2.2.1 y2.2.2) y2.1 2147483647 y4 e3 (sel [0]) (sel_inj rfl rfl)) (a_ (LO.Le.refl (.var (c_TQ (TQ.mk y2.2.1 y2.2.2)))) tr)) tr) (r1_ tr)))) tr)) tr)
/-- (*parrel/script.reader).small -/
def sr_small_v (r : (Int) × (List (List UInt8)) × (Bool)) : LV := .int .u8 r.1
def sr_small_up (x_r : TQ) (r : (Int) × (List (List UInt8)) × (Bool)) : Upd := [(0, some (.var (c_TQ (TQ.mk r.2.1 r.2.2))))]
def sr_small_objs (x_r : TQ) : List LO := [.var (c_TQ x_r)]
def sr_small (x_r : TQ) : Option ((Int) × (List (List UInt8)) × (Bool)) :=
 (sr_word x_r).bind fun y2 =>
 (sr_number (TQ.mk y2.2.1 y2.2.2) y2.1 255).bind fun y4 =>
 some ((IntKind.wrap .u8 y4.1), y4.2.1, y4.2.2)
theorem sr_small_ok (x_r : TQ) (r : (Int) × (List (List UInt8)) × (Bool)) (h : sr_small x_r = some r) : ∀ σ, Inj 1 σ → FnTri Tryz.prog 67 (renL σ [.ptr 0 0 0]) (preOf σ 0 (sr_small_objs x_r)) ((sr_small_v r).ren σ) (upOf σ (sr_small_up x_r r)) := by
 refine fo_ Tryz.func67 ⟨rfl, trivial⟩ ⟨rfl, trivial⟩ ?_
 intro w0 W μ0 hμ
 unfold sr_small at h
 obtain ⟨y2, e1, h⟩ := bind_some h
 obtain ⟨y4, e3, h⟩ := bind_some h
 obtain rfl := si_ h
 exact rr_ [] 15 [.reg [], .reg [(2, { call := some ((sr_word_v y2).ren (sel [0]), preOf (sel [0]) 0 (sr_word_objs x_r), upOf (sel [0]) (sr_word_up x_r y2)) }), (3, { call := some ((sr_number_v y4).ren (sel [0]), preOf (sel [0]) 0 (sr_number_objs (TQ.mk y2.2.1 y2.2.2) y2.1 255), upOf (sel [0]) (sr_number_up (TQ.mk y2.2.1 y2.2.2) y2.1 255 y4)) })]]
  (a_ (a_ (r1_ tr) (a_ (r2_ (a_ (a_ (a_ (sr_word_ok x_r y2 e1 (sel [0]) (sel_inj rfl rfl)) (a_ (LO.Le.refl (.var (c_TQ x_r))) tr)) tr) (a_ (a_ (a_ (sr_number_ok (TQ.mk y2.2.1 y2.2.2) y2.1 255 y4 e3 (sel [0]) (sel_inj rfl rfl)) (a_ (LO.Le.refl (.var (c_TQ (TQ.mk y2.2.1 y2.2.2)))) tr)) tr) (r2_ tr)))) tr)) tr)
/-- parrel/script.calls -/
def script_calls_v (r : (List (List UInt8))) : LV := .ds 1 (r).length (rowF cStr default r)
def script_calls  : Option ((List (List UInt8))) :=
 some ([[], ([98, 101, 103, 105, 110] : List UInt8), ([114, 101, 97, 100] : List UInt8), ([119, 114, 105, 116, 101] : List UInt8), ([99, 111, 109, 109, 105, 116] : List UInt8), ([97, 98, 111, 114, 116] : List UInt8), ([99, 104, 97, 110, 103, 101] : List UInt8)] : List (List UInt8))
theorem script_calls_ok  (r : (List (List UInt8))) (h : script_calls  = some r) : ∀ σ, Inj 0 σ → FnTri Tryz.prog 55 (renL σ []) (preOf σ 0 []) ((script_calls_v r).ren σ) (upOf σ []) := by
 refine fo_ Tryz.func55 trivial trivial ?_
 intro w0 W μ0 hμ
 unfold script_calls at h
 obtain rfl := si_ h
 exact rr_ [] 16 [.reg [(0, { v := some (.ds 1 (([] : List (List UInt8))).length (rowF cStr default ([] : List (List UInt8)))) })], .reg [(0, { os := [(0, .gr 1 (([[], ([98, 101, 103, 105, 110] : List UInt8), ([114, 101, 97, 100] : List UInt8), ([119, 114, 105, 116, 101] : List UInt8), ([99, 111, 109, 109, 105, 116] : List UInt8), ([97, 98, 111, 114, 116] : List UInt8), ([99, 104, 97, 110, 103, 101] : List UInt8)] : List (List UInt8))).length (rowF cStr default ([[], ([98, 101, 103, 105, 110] : List UInt8), ([114, 101, 97, 100] : List UInt8), ([119, 114, 105, 116, 101] : List UInt8), ([99, 111, 109, 109, 105, 116] : List UInt8), ([97, 98, 111, 114, 116] : List UInt8), ([99, 104, 97, 110, 103, 101] : List UInt8)] : List (List UInt8))))], v := some (.gs 0 (([[], ([98, 101, 103, 105, 110] : List UInt8), ([114, 101, 97, 100] : List UInt8), ([119, 114, 105, 116, 101] : List UInt8), ([99, 111, 109, 109, 105, 116] : List UInt8), ([97, 98, 111, 114, 116] : List UInt8), ([99, 104, 97, 110, 103, 101] : List UInt8)] : List (List UInt8))).length) })], .frz 0]
  (a_ (a_ (a_ (a_ tr (a_ (le_nil_ds 1 (rowF cStr default [])) tr)) tr) (a_ (a_ (a_ (a_ (Eq.refl true) (a_ (Eq.refl 1) (a_ (lt_ 0 1 rfl) (le_ 7 16777216 rfl)))) (a_ (le_sl_gs 0 7 (some 7) rfl) (a_ (sub_lit cStr default 1 (fun _ => rfl) ([[], ([98, 101, 103, 105, 110] : List UInt8), ([114, 101, 97, 100] : List UInt8), ([119, 114, 105, 116, 101] : List UInt8), ([99, 111, 109, 109, 105, 116] : List UInt8), ([97, 98, 111, 114, 116] : List UInt8), ([99, 104, 97, 110, 103, 101] : List UInt8)] : List (List UInt8))) tr))) (r1_ tr)) (a_ (a_ (fz_row (enc := cStr) (d := default) (fun _ => rfl) ([[], ([98, 101, 103, 105, 110] : List UInt8), ([114, 101, 97, 100] : List UInt8), ([119, 114, 105, 116, 101] : List UInt8), ([99, 111, 109, 109, 105, 116] : List UInt8), ([97, 98, 111, 114, 116] : List UInt8), ([99, 104, 97, 110, 103, 101] : List UInt8)] : List (List UInt8))) (a_ (Nat.le_refl (([[], ([98, 101, 103, 105, 110] : List UInt8), ([114, 101, 97, 100] : List UInt8), ([119, 114, 105, 116, 101] : List UInt8), ([99, 111, 109, 109, 105, 116] : List UInt8), ([97, 98, 111, 114, 116] : List UInt8), ([99, 104, 97, 110, 103, 101] : List UInt8)] : List (List UInt8))).length) (a_ (Nat.le_refl (([[], ([98, 101, 103, 105, 110] : List UInt8), ([114, 101, 97, 100] : List UInt8), ([119, 114, 105, 116, 101] : List UInt8), ([99, 111, 109, 109, 105, 116] : List UInt8), ([97, 98, 111, 114, 116] : List UInt8), ([99, 104, 97, 110, 103, 101] : List UInt8)] : List (List UInt8))).length) tr))) tr))) tr)
theorem script_calls_tri  (r : (List (List UInt8))) (h : script_calls  = some r) : FnTri Tryz.prog 55 [] [] (script_calls_v r) [] := FnTri.none (script_calls_ok  r h) rfl rfl
/-- strings.Count -/
def strings_Count_2_v (r : (Int)) : LV := .int .i64 r
def strings_Count_2 (s : List UInt8) : Option ((Int)) :=
 some ((Lib.countByte s ((46 : Int)).toNat.toUInt8 : Nat) : Int)
theorem strings_Count_2_ok (s : List UInt8) (r : (Int)) (h : strings_Count_2 s = some r) : ∀ σ, Inj 0 σ → FnTri Tryz.prog 62 (renL σ [.str s, .str ([46] : List UInt8)]) (preOf σ 0 []) ((strings_Count_2_v r).ren σ) (upOf σ []) := by
 refine fo_ Tryz.func62 trivial trivial ?_
 intro w0 W μ0 hμ
 unfold strings_Count_2 at h
 obtain rfl := si_ h
 exact rr_ [] 26 [.reg [], .reg [], .reg [], .reg [(3, { ext := some (.int .i64 ((Lib.countByte s ((46 : Int)).toNat.toUInt8 : Nat) : Int)) })]]
  (a_ (a_ (r1_ tr) (a_ (r1_ (r2_ tr)) (a_ (r1_ (r2_ tr)) (a_ (r2_ (a_ (a_ (a_ (lei_ 0 0 rfl) (lti_ 0 1 rfl)) tr) (a_ (a_ (ext89 s (46 : Int)) tr) (r1_ tr)))) tr)))) tr)
theorem strings_Count_2_tri (s : List UInt8) (r : (Int)) (h : strings_Count_2 s = some r) : FnTri Tryz.prog 62 [.str s, .str ([46] : List UInt8)] [] (strings_Count_2_v r) [] := FnTri.none (strings_Count_2_ok s r h) rfl rfl
/-- internal/stringslite.Index -/
def sl_Index_2_v (r : (Int)) : LV := .int .i64 r
def sl_Index_2 (s : List UInt8) : Option ((Int)) :=
 if ((([46] : List UInt8) == s) : Bool) then
  some 0
 else
  (sl_IndexByte s 46).bind fun y3 =>
  some y3
theorem sl_Index_2_ok (s : List UInt8) (r : (Int)) (h : sl_Index_2 s = some r) : ∀ σ, Inj 0 σ → FnTri Tryz.prog 82 (renL σ [.str s, .str ([46] : List UInt8)]) (preOf σ 0 []) ((sl_Index_2_v r).ren σ) (upOf σ []) := by
 refine fo_ Tryz.func82 trivial trivial ?_
 intro w0 W μ0 hμ
 unfold sl_Index_2 at h
 rcases itb_some h with ⟨c1, h⟩ | ⟨c1, h⟩
 ·obtain rfl := si_ h
  exact rr_ [] 24 [.reg [], .reg [], .reg [(7, hT)], .reg []]
   (a_ (a_ (r1_ tr) (a_ (r1_ (r2_ tr)) (a_ (r1_ (r2_ (r4_ (f_ c1 tr)))) (a_ (r1_ tr) tr)))) tr)
 ·obtain ⟨y3, e2, h⟩ := bind_some h
  obtain rfl := si_ h
  exact rr_ [] 28 [.reg [], .reg [], .reg [(7, hF)], .reg [], .reg [(3, hC (sl_IndexByte_v y3))]]
   (a_ (a_ (r1_ tr) (a_ (r1_ (r2_ tr)) (a_ (r1_ (r2_ (r4_ (f_ c1 tr)))) (a_ (r1_ (r2_ tr)) (a_ (r2_ (a_ (a_ (a_ (lei_ 0 0 rfl) (lti_ 0 1 rfl)) tr) (c_ (sl_IndexByte_tri s 46 y3 e2) (r1_ tr)))) tr))))) tr)
theorem sl_Index_2_tri (s : List UInt8) (r : (Int)) (h : sl_Index_2 s = some r) : FnTri Tryz.prog 82 [.str s, .str ([46] : List UInt8)] [] (sl_Index_2_v r) [] := FnTri.none (sl_Index_2_ok s r h) rfl rfl
/-- strings.Index -/
def strings_Index_2_v (r : (Int)) : LV := .int .i64 r
def strings_Index_2 (s : List UInt8) : Option ((Int)) :=
 (sl_Index_2 s).bind fun y2 =>
 some y2
theorem strings_Index_2_ok (s : List UInt8) (r : (Int)) (h : strings_Index_2 s = some r) : ∀ σ, Inj 0 σ → FnTri Tryz.prog 63 (renL σ [.str s, .str ([46] : List UInt8)]) (preOf σ 0 []) ((strings_Index_2_v r).ren σ) (upOf σ []) := by
 refine fo_ Tryz.func63 trivial trivial ?_
 intro w0 W μ0 hμ
 unfold strings_Index_2 at h
 obtain ⟨y2, e1, h⟩ := bind_some h
 obtain rfl := si_ h
 exact rr_ [] 15 [.reg [], .reg [(2, hC (sl_Index_2_v y2))]]
  (a_ (a_ (r1_ tr) (a_ (r2_ (c_ (sl_Index_2_tri s y2 e1) (r1_ tr))) tr)) tr)
theorem strings_Index_2_tri (s : List UInt8) (r : (Int)) (h : strings_Index_2 s = some r) : FnTri Tryz.prog 63 [.str s, .str ([46] : List UInt8)] [] (strings_Index_2_v r) [] := FnTri.none (strings_Index_2_ok s r h) rfl rfl
/-- strings.genSplit -/
def strings_genSplit_2_v (r : (List (List UInt8))) : LV := .ds 1 (r).length (rowF cStr default r)
def strings_genSplit_2_T1000018 (s : List UInt8) (s2 : List UInt8) (i : Int) (l : List (List UInt8)) (y2 : (Int))  : List LV := n_ 9 ((.sl 0 0 0 false (((if (IntKind.wrap .i64 (((s).length : Int) + 1)) < (IntKind.wrap .i64 (y2 + 1)) then (IntKind.wrap .i64 (((s).length : Int) + 1)) else (IntKind.wrap .i64 (y2 + 1)))).toNat) none) :: (.int .i64 i) :: n_ 55 [])
def strings_genSplit_2_H1000018 (s : List UInt8) (s2 : List UInt8) (i : Int) (l : List (List UInt8)) (y2 : (Int))  : Heap := [some (.row 1 ((l.set (0 + i.toNat) s2)).length (rowF cStr default (l.set (0 + i.toNat) s2)) true)]
def strings_genSplit_2_T0 (s : List UInt8) (y2 : (Int)) (s2 : List UInt8) (i : Int) (l : List (List UInt8)) : List LV := (.str s2) :: (.str ([46] : List UInt8)) :: Z8_ :: (.int .i64 (IntKind.wrap .i64 ((if (IntKind.wrap .i64 (((s).length : Int) + 1)) < (IntKind.wrap .i64 (y2 + 1)) then (IntKind.wrap .i64 (((s).length : Int) + 1)) else (IntKind.wrap .i64 (y2 + 1))) - 1))) :: n_ 5 ((.sl 0 0 0 false (((if (IntKind.wrap .i64 (((s).length : Int) + 1)) < (IntKind.wrap .i64 (y2 + 1)) then (IntKind.wrap .i64 (((s).length : Int) + 1)) else (IntKind.wrap .i64 (y2 + 1)))).toNat) none) :: (.int .i64 i) :: n_ 55 [])
def strings_genSplit_2_H0 (s : List UInt8) (y2 : (Int)) (s2 : List UInt8) (i : Int) (l : List (List UInt8)) : Heap := [some (.row 1 (l).length (rowF cStr default l) true)]
def strings_genSplit_2_c18 (s : List UInt8) (s2 : List UInt8) (i : Int) (l : List (List UInt8)) (y2 : (Int))   : Option ((List (List UInt8))) :=
 if (((if (IntKind.wrap .i64 (((s).length : Int) + 1)) < (IntKind.wrap .i64 (y2 + 1)) then (IntKind.wrap .i64 (((s).length : Int) + 1)) else (IntKind.wrap .i64 (y2 + 1)))).toNat) = ((l.set (0 + i.toNat) s2)).length then
 if 0 ≤ (0 : Int) ∧ 0 ≤ (IntKind.wrap .i64 (i + 1)) ∧ (IntKind.wrap .i64 (i + 1)) ≤ ((((l.set (0 + i.toNat) s2)).length : Nat) : Int) then
 some ((l.set (0 + i.toNat) s2).take ((IntKind.wrap .i64 (i + 1))).toNat)
 else none
 else none
def strings_genSplit_2_l0 (s : List UInt8) (y2 : (Int))  : Nat → (List UInt8) → (Int) → (List (List UInt8)) → Option ((List (List UInt8)))
 | 0, _, _, _ => none
 | fuel + 1, s2, i, l =>
  if ((decide (i < (IntKind.wrap .i64 ((if (IntKind.wrap .i64 (((s).length : Int) + 1)) < (IntKind.wrap .i64 (y2 + 1)) then (IntKind.wrap .i64 (((s).length : Int) + 1)) else (IntKind.wrap .i64 (y2 + 1))) - 1)))) : Bool) then
   (strings_Index_2 s2).bind fun yL0_3 =>
   if ((decide (yL0_3 < 0)) : Bool) then
    if 0 ≤ i ∧ i < (((((if (IntKind.wrap .i64 (((s).length : Int) + 1)) < (IntKind.wrap .i64 (y2 + 1)) then (IntKind.wrap .i64 (((s).length : Int) + 1)) else (IntKind.wrap .i64 (y2 + 1)))).toNat) : Nat) : Int) then
    if (0 + i.toNat) < (l).length then
    strings_genSplit_2_c18 s s2 i l y2  
    else none
    else none
   else
    if 0 ≤ (0 : Int) ∧ (0 : Int) ≤ (IntKind.wrap .i64 (yL0_3 + 0)) ∧ (IntKind.wrap .i64 (yL0_3 + 0)) ≤ (((s2).length : Nat) : Int) then
    if 0 ≤ i ∧ i < (((((if (IntKind.wrap .i64 (((s).length : Int) + 1)) < (IntKind.wrap .i64 (y2 + 1)) then (IntKind.wrap .i64 (((s).length : Int) + 1)) else (IntKind.wrap .i64 (y2 + 1)))).toNat) : Nat) : Int) then
    if (0 + i.toNat) < (l).length then
    if 0 ≤ (IntKind.wrap .i64 (yL0_3 + 1)) ∧ (IntKind.wrap .i64 (yL0_3 + 1)) ≤ (((s2).length : Nat) : Int) ∧ (((s2).length : Nat) : Int) ≤ (((s2).length : Nat) : Int) then
    strings_genSplit_2_l0 s y2  fuel ((s2.drop ((IntKind.wrap .i64 (yL0_3 + 1))).toNat).take (((s2).length) - ((IntKind.wrap .i64 (yL0_3 + 1))).toNat)) (IntKind.wrap .i64 (i + 1)) (l.set (0 + i.toNat) ((s2.drop 0).take (((IntKind.wrap .i64 (yL0_3 + 0))).toNat - 0)))
    else none
    else none
    else none
    else none
  else
   if 0 ≤ i ∧ i < (((((if (IntKind.wrap .i64 (((s).length : Int) + 1)) < (IntKind.wrap .i64 (y2 + 1)) then (IntKind.wrap .i64 (((s).length : Int) + 1)) else (IntKind.wrap .i64 (y2 + 1)))).toNat) : Nat) : Int) then
   if (0 + i.toNat) < (l).length then
   if (((if (IntKind.wrap .i64 (((s).length : Int) + 1)) < (IntKind.wrap .i64 (y2 + 1)) then (IntKind.wrap .i64 (((s).length : Int) + 1)) else (IntKind.wrap .i64 (y2 + 1)))).toNat) = ((l.set (0 + i.toNat) s2)).length then
   if 0 ≤ (0 : Int) ∧ 0 ≤ (IntKind.wrap .i64 (i + 1)) ∧ (IntKind.wrap .i64 (i + 1)) ≤ ((((l.set (0 + i.toNat) s2)).length : Nat) : Int) then
   some ((l.set (0 + i.toNat) s2).take ((IntKind.wrap .i64 (i + 1))).toNat)
   else none
   else none
   else none
   else none
def strings_genSplit_2 (s : List UInt8) : Option ((List (List UInt8))) :=
 (strings_Count_2 s).bind fun y2 =>
 if 0 ≤ (if (IntKind.wrap .i64 (((s).length : Int) + 1)) < (IntKind.wrap .i64 (y2 + 1)) then (IntKind.wrap .i64 (((s).length : Int) + 1)) else (IntKind.wrap .i64 (y2 + 1))) ∧ (if (IntKind.wrap .i64 (((s).length : Int) + 1)) < (IntKind.wrap .i64 (y2 + 1)) then (IntKind.wrap .i64 (((s).length : Int) + 1)) else (IntKind.wrap .i64 (y2 + 1))) ≤ (if (IntKind.wrap .i64 (((s).length : Int) + 1)) < (IntKind.wrap .i64 (y2 + 1)) then (IntKind.wrap .i64 (((s).length : Int) + 1)) else (IntKind.wrap .i64 (y2 + 1))) ∧ (if (IntKind.wrap .i64 (((s).length : Int) + 1)) < (IntKind.wrap .i64 (y2 + 1)) then (IntKind.wrap .i64 (((s).length : Int) + 1)) else (IntKind.wrap .i64 (y2 + 1))) * 16 ≤ 140737488351232 ∧ (if (IntKind.wrap .i64 (((s).length : Int) + 1)) < (IntKind.wrap .i64 (y2 + 1)) then (IntKind.wrap .i64 (((s).length : Int) + 1)) else (IntKind.wrap .i64 (y2 + 1))) ≤ 9223372036854775807 then
 strings_genSplit_2_l0 s y2  big s 0 (List.replicate (((if (IntKind.wrap .i64 (((s).length : Int) + 1)) < (IntKind.wrap .i64 (y2 + 1)) then (IntKind.wrap .i64 (((s).length : Int) + 1)) else (IntKind.wrap .i64 (y2 + 1)))).toNat) ([]) : List (List UInt8))
 else none
theorem strings_genSplit_2_c18_ok {w0 : World} {W : Nat → Prop} {μ0 : Emb} (hμ : ∀ c p, μ0 c = some p → c < 0) (s : List UInt8) (s2 : List UInt8) (i : Int) (l : List (List UInt8)) (y2 : (Int))   (r : (List (List UInt8))) (h : strings_genSplit_2_c18 s s2 i l y2   = some r) : kont Tryz.prog w0 W μ0 (FnPost Tryz.prog Tryz.f32 0 0 (strings_genSplit_2_v r) []) (kAtR (bodyOf Tryz.f32) 18) none (strings_genSplit_2_T1000018 s s2 i l y2 ) (strings_genSplit_2_H1000018 s s2 i l y2 ) := by
 unfold strings_genSplit_2_c18 at h
 obtain ⟨G1, h⟩ := guard_some h
 obtain ⟨G2, h⟩ := guard_some h
 obtain rfl := si_ h
 exact rr_ [] 13 [.frz 0, .wk [(9, .ds 1 ((l.set (0 + i.toNat) s2)).length (rowF cStr default (l.set (0 + i.toNat) s2)))] [], .reg [(3, { v := some (.ds 1 (((l.set (0 + i.toNat) s2).take ((IntKind.wrap .i64 (i + 1))).toNat)).length (rowF cStr default ((l.set (0 + i.toNat) s2).take ((IntKind.wrap .i64 (i + 1))).toNat))) })]]
  (a_ (a_ (a_ (fz_row (enc := cStr) (d := default) (fun _ => rfl) (l.set (0 + i.toNat) s2)) (a_ (fz_sl G1) (a_ (ob_row cStr default (l.set (0 + i.toNat) s2) 0 1 ((l.set (0 + i.toNat) s2)).length (rowF cStr default (l.set (0 + i.toNat) s2)) ((l.set (0 + i.toNat) s2)).length (fun _ => rfl)) tr))) (a_ (a_ (a_ (le_fz_sl cStr 1 (d := default) (l := (l.set (0 + i.toNat) s2)) G1) tr) tr) (a_ (r1_ (r2_ (a_ (a_ (a_ (Eq.refl 1) G2) (a_ (le_take cStr default 1 (l.set (0 + i.toNat) s2) ((IntKind.wrap .i64 (i + 1))).toNat (toN_le G2.2.2)) tr)) (r1_ tr)))) tr))) tr)
theorem strings_genSplit_2_l0_ok {w0 : World} {W : Nat → Prop} {μ0 : Emb} (hμ : ∀ c p, μ0 c = some p → c < 0) (s : List UInt8) (y2 : (Int)) : ∀ (fuel : Nat) (s2 : List UInt8) (i : Int) (l : List (List UInt8)) (r : (List (List UInt8))), strings_genSplit_2_l0 s y2  fuel s2 i l = some r → kont Tryz.prog w0 W μ0 (FnPost Tryz.prog Tryz.f32 0 0 (strings_genSplit_2_v r) []) (kAt (bodyOf Tryz.f32) 0) none (strings_genSplit_2_T0 s y2 s2 i l) (strings_genSplit_2_H0 s y2 s2 i l) := by
 intro fuel
 induction fuel with
 | zero => intro s2 i l r h; rw [strings_genSplit_2_l0] at h; cases h
 | succ fuel ih =>
  intro s2 i l r h
  rw [strings_genSplit_2_l0] at h
  rcases itb_some h with ⟨C1, h⟩ | ⟨C1, h⟩
  ·obtain ⟨yL0_3, E2, h⟩ := bind_some h
   rcases itb_some h with ⟨C4, h⟩ | ⟨C4, h⟩
   ·obtain ⟨G5, h⟩ := guard_some h
    obtain ⟨G6, h⟩ := guard_some h
    exact rt_ hμ [0] 30 [.go, .reg [(2, hT)], .reg [(2, hC (strings_Index_2_v yL0_3))], .reg [(1, hT)], .reg [(4, { os := [(0, .row 1 ((l.set (0 + i.toNat) s2)).length (rowF cStr default (l.set (0 + i.toNat) s2)) true)] })]]
     (a_ (r2_ (f_ C1 tr)) (a_ (r2_ (c_ (strings_Index_2_tri s2 yL0_3 E2) (r1_ tr))) (a_ (r1_ (f_ C4 tr)) (a_ (r1_ (r2_ (a_ (a_ (a_ (Eq.refl 1) G5) tr) (a_ (a_ (a_ (Eq.refl 1) (a_ (le_ 1 1 rfl) G6)) (a_ (sub_set_row cStr default 1 l (0 + i.toNat) s2 G6 (splL (rowF cStr default l (0 + i.toNat)) 0 [.str s2]) (by kernel_rfl)) tr)) tr)))) tr)))) (strings_genSplit_2_c18_ok hμ s s2 i l y2   r h) ⟨fun _ _ => rfl, trivial⟩
   ·obtain ⟨G5, h⟩ := guard_some h
    obtain ⟨G6, h⟩ := guard_some h
    obtain ⟨G7, h⟩ := guard_some h
    obtain ⟨G8, h⟩ := guard_some h
    exact rt_ hμ [0] 35 [.go, .reg [(2, hT)], .reg [(2, hC (strings_Index_2_v yL0_3))], .reg [(1, hF)], .reg [(8, { os := [(0, .row 1 ((l.set (0 + i.toNat) ((s2.drop 0).take (((IntKind.wrap .i64 (yL0_3 + 0))).toNat - 0)))).length (rowF cStr default (l.set (0 + i.toNat) ((s2.drop 0).take (((IntKind.wrap .i64 (yL0_3 + 0))).toNat - 0)))) true)] })], .reg [], .reg []]
     (a_ (r2_ (f_ C1 tr)) (a_ (r2_ (c_ (strings_Index_2_tri s2 yL0_3 E2) (r1_ tr))) (a_ (r1_ (f_ C4 tr)) (a_ (r2_ (r4_ (a_ (a_ G5 tr) (a_ (a_ (a_ (Eq.refl 1) G6) tr) (a_ (a_ (a_ (Eq.refl 1) (a_ (le_ 1 1 rfl) G7)) (a_ (sub_set_row cStr default 1 l (0 + i.toNat) ((s2.drop 0).take (((IntKind.wrap .i64 (yL0_3 + 0))).toNat - 0)) G7 (splL (rowF cStr default l (0 + i.toNat)) 0 [.str ((s2.drop 0).take (((IntKind.wrap .i64 (yL0_3 + 0))).toNat - 0))]) (by kernel_rfl)) tr)) tr))))) (a_ (r1_ (r4_ (a_ (a_ G8 tr) (r1_ tr)))) (a_ (r1_ (r2_ tr)) tr)))))) (ih _ _ _ r h) ⟨fun _ _ => rfl, trivial⟩
  ·obtain ⟨G2, h⟩ := guard_some h
   obtain ⟨G3, h⟩ := guard_some h
   obtain ⟨G4, h⟩ := guard_some h
   obtain ⟨G5, h⟩ := guard_some h
   obtain rfl := si_ h
   exact rr_ [] 24 [.go, .reg [(2, hF)], .reg [(4, { os := [(0, .row 1 ((l.set (0 + i.toNat) s2)).length (rowF cStr default (l.set (0 + i.toNat) s2)) true)] })], .frz 0, .wk [(9, .ds 1 ((l.set (0 + i.toNat) s2)).length (rowF cStr default (l.set (0 + i.toNat) s2))), (58, .ds 1 ((l.set (0 + i.toNat) s2)).length (rowF cStr default (l.set (0 + i.toNat) s2)))] [], .reg [(3, { v := some (.ds 1 (((l.set (0 + i.toNat) s2).take ((IntKind.wrap .i64 (i + 1))).toNat)).length (rowF cStr default ((l.set (0 + i.toNat) s2).take ((IntKind.wrap .i64 (i + 1))).toNat))) })]]
    (a_ (a_ (r2_ (f_ C1 tr)) (a_ (r1_ (r2_ (a_ (a_ (a_ (Eq.refl 1) G2) tr) (a_ (a_ (a_ (Eq.refl 1) (a_ (le_ 1 1 rfl) G3)) (a_ (sub_set_row cStr default 1 l (0 + i.toNat) s2 G3 (splL (rowF cStr default l (0 + i.toNat)) 0 [.str s2]) (by kernel_rfl)) tr)) tr)))) (a_ (a_ (fz_row (enc := cStr) (d := default) (fun _ => rfl) (l.set (0 + i.toNat) s2)) (a_ (fz_sl G4) (a_ (fz_sl G4) (a_ (ob_row cStr default (l.set (0 + i.toNat) s2) 0 1 ((l.set (0 + i.toNat) s2)).length (rowF cStr default (l.set (0 + i.toNat) s2)) ((l.set (0 + i.toNat) s2)).length (fun _ => rfl)) tr)))) (a_ (a_ (a_ (le_fz_sl cStr 1 (d := default) (l := (l.set (0 + i.toNat) s2)) G4) (a_ (le_fz_sl cStr 1 (d := default) (l := (l.set (0 + i.toNat) s2)) G4) tr)) tr) (a_ (r1_ (r2_ (a_ (a_ (a_ (Eq.refl 1) G5) (a_ (le_take cStr default 1 (l.set (0 + i.toNat) s2) ((IntKind.wrap .i64 (i + 1))).toNat (toN_le G5.2.2)) tr)) (r1_ tr)))) tr))))) tr)
theorem strings_genSplit_2_ok (s : List UInt8) (r : (List (List UInt8))) (h : strings_genSplit_2 s = some r) : ∀ σ, Inj 0 σ → FnTri Tryz.prog 32 (renL σ [.str s, .str ([46] : List UInt8), Z8_, .int .i64 (-1)]) (preOf σ 0 []) ((strings_genSplit_2_v r).ren σ) (upOf σ []) := by
 refine fo_ Tryz.func32 trivial trivial ?_
 intro w0 W μ0 hμ
 unfold strings_genSplit_2 at h
 obtain ⟨y2, e1, h⟩ := bind_some h
 obtain ⟨g3, h⟩ := guard_some h
 exact rt_ hμ [0] 46 [.reg [(0, { v := some (.ds 1 (([] : List (List UInt8))).length (rowF cStr default ([] : List (List UInt8)))) })], .reg [], .reg [], .reg [], .reg [(2, hC (strings_Count_2_v y2))], .reg [], .reg [(1, { os := [(0, .row 1 ((List.replicate (((if (IntKind.wrap .i64 (((s).length : Int) + 1)) < (IntKind.wrap .i64 (y2 + 1)) then (IntKind.wrap .i64 (((s).length : Int) + 1)) else (IntKind.wrap .i64 (y2 + 1)))).toNat) ([]) : List (List UInt8))).length (rowF cStr default (List.replicate (((if (IntKind.wrap .i64 (((s).length : Int) + 1)) < (IntKind.wrap .i64 (y2 + 1)) then (IntKind.wrap .i64 (((s).length : Int) + 1)) else (IntKind.wrap .i64 (y2 + 1)))).toNat) ([]) : List (List UInt8))) true)], v := some (.sl 0 0 0 false (((if (IntKind.wrap .i64 (((s).length : Int) + 1)) < (IntKind.wrap .i64 (y2 + 1)) then (IntKind.wrap .i64 (((s).length : Int) + 1)) else (IntKind.wrap .i64 (y2 + 1)))).toNat) none) })], .reg [], .reg []]
  (a_ (a_ (a_ tr (a_ (le_nil_ds 1 (rowF cStr default [])) tr)) tr) (a_ (r2_ tr) (a_ (r2_ tr) (a_ (r2_ tr) (a_ (r2_ (c_ (strings_Count_2_tri s y2 e1) (r2_ tr))) (a_ (r2_ (r4_ tr)) (a_ (r1_ (a_ (a_ (a_ g3.1 (a_ g3.2.1 (a_ g3.2.2.1 (a_ g3.2.2.2 (a_ (Eq.refl true) (a_ (Eq.refl 1) (lt_ 0 1 rfl))))))) (a_ (le_cap 0 0 0 false (((if (IntKind.wrap .i64 (((s).length : Int) + 1)) < (IntKind.wrap .i64 (y2 + 1)) then (IntKind.wrap .i64 (((s).length : Int) + 1)) else (IntKind.wrap .i64 (y2 + 1)))).toNat) (((if (IntKind.wrap .i64 (((s).length : Int) + 1)) < (IntKind.wrap .i64 (y2 + 1)) then (IntKind.wrap .i64 (((s).length : Int) + 1)) else (IntKind.wrap .i64 (y2 + 1)))).toNat)) (a_ (sub_made cStr default 1 (((if (IntKind.wrap .i64 (((s).length : Int) + 1)) < (IntKind.wrap .i64 (y2 + 1)) then (IntKind.wrap .i64 (((s).length : Int) + 1)) else (IntKind.wrap .i64 (y2 + 1)))).toNat) ([])) tr))) (r1_ tr))) (a_ (r1_ (r2_ tr)) (a_ (r1_ tr) tr))))))))) (strings_genSplit_2_l0_ok hμ s y2  big _ _ _ r h) ⟨fun _ _ => rfl, trivial⟩
theorem strings_genSplit_2_tri (s : List UInt8) (r : (List (List UInt8))) (h : strings_genSplit_2 s = some r) : FnTri Tryz.prog 32 [.str s, .str ([46] : List UInt8), .int .i64 0, .int .i64 (-1)] [] (strings_genSplit_2_v r) [] := FnTri.none (strings_genSplit_2_ok s r h) rfl rfl
/-- strings.Split -/
def strings_Split_2_v (r : (List (List UInt8))) : LV := .ds 1 (r).length (rowF cStr default r)
def strings_Split_2 (s : List UInt8) : Option ((List (List UInt8))) :=
 (strings_genSplit_2 s).bind fun y2 =>
 some y2
theorem strings_Split_2_ok (s : List UInt8) (r : (List (List UInt8))) (h : strings_Split_2 s = some r) : ∀ σ, Inj 0 σ → FnTri Tryz.prog 16 (renL σ [.str s, .str ([46] : List UInt8)]) (preOf σ 0 []) ((strings_Split_2_v r).ren σ) (upOf σ []) := by
 refine fo_ Tryz.func16 trivial trivial ?_
 intro w0 W μ0 hμ
 unfold strings_Split_2 at h
 obtain ⟨y2, e1, h⟩ := bind_some h
 obtain rfl := si_ h
 exact rr_ [] 15 [.reg [(0, { v := some (.ds 1 (([] : List (List UInt8))).length (rowF cStr default ([] : List (List UInt8)))) })], .reg [(2, hC (strings_genSplit_2_v y2))]]
  (a_ (a_ (a_ (a_ tr (a_ (le_nil_ds 1 (rowF cStr default [])) tr)) tr) (a_ (r2_ (c_ (strings_genSplit_2_tri s y2 e1) (r1_ tr))) tr)) tr)
theorem strings_Split_2_tri (s : List UInt8) (r : (List (List UInt8))) (h : strings_Split_2 s = some r) : FnTri Tryz.prog 16 [.str s, .str ([46] : List UInt8)] [] (strings_Split_2_v r) [] := FnTri.none (strings_Split_2_ok s r h) rfl rfl
/-- (*parrel/script.reader).tx -/
def sr_tx_v (r : (TX) × (List (List UInt8)) × (Bool)) : LV := v_TX r.1
def sr_tx_up (x_r : TQ) (r : (TX) × (List (List UInt8)) × (Bool)) : Upd := [(0, some (.var (c_TQ (TQ.mk r.2.1 r.2.2))))]
def sr_tx_objs (x_r : TQ) : List LO := [.var (c_TQ x_r)]
def sr_tx (x_r : TQ) : Option ((TX) × (List (List UInt8)) × (Bool)) :=
 (sr_word x_r).bind fun y2 =>
 (strings_Split_2 y2.1).bind fun y4 =>
 if ((((y4).length : Int) != 3) : Bool) then
  some ((TX.mk 0 0 0), y2.2.1, true)
 else
  if 0 ≤ (0 : Int) ∧ (0 : Int) < (((y4).length : Nat) : Int) then
  (sr_number (TQ.mk y2.2.1 y2.2.2) (y4.getD 0 default) 255).bind fun y8 =>
  if 0 ≤ (1 : Int) ∧ (1 : Int) < (((y4).length : Nat) : Int) then
  (sr_number (TQ.mk y8.2.1 y8.2.2) (y4.getD 1 default) 2147483647).bind fun y11 =>
  if 0 ≤ (2 : Int) ∧ (2 : Int) < (((y4).length : Nat) : Int) then
  (sr_number (TQ.mk y11.2.1 y11.2.2) (y4.getD 2 default) 2147483647).bind fun y14 =>
  some ((TX.mk (IntKind.wrap .u8 y8.1) (IntKind.wrap .u32 y11.1) (IntKind.wrap .u32 y14.1)), y14.2.1, y14.2.2)
  else none
  else none
  else none
theorem sr_tx_ok (x_r : TQ) (r : (TX) × (List (List UInt8)) × (Bool)) (h : sr_tx x_r = some r) : ∀ σ, Inj 1 σ → FnTri Tryz.prog 68 (renL σ [.ptr 0 0 0]) (preOf σ 0 (sr_tx_objs x_r)) ((sr_tx_v r).ren σ) (upOf σ (sr_tx_up x_r r)) := by
 refine fo_ Tryz.func68 ⟨rfl, trivial⟩ ⟨rfl, trivial⟩ ?_
 intro w0 W μ0 hμ
 unfold sr_tx at h
 obtain ⟨y2, e1, h⟩ := bind_some h
 obtain ⟨y4, e3, h⟩ := bind_some h
 rcases itb_some h with ⟨c5, h⟩ | ⟨c5, h⟩
 ·obtain rfl := si_ h
  exact rr_ [] 26 [.reg [], .reg [(1, { call := some ((sr_word_v y2).ren (sel [0]), preOf (sel [0]) 0 (sr_word_objs x_r), upOf (sel [0]) (sr_word_up x_r y2)) }), (2, hC (strings_Split_2_v y4))], .reg [(2, hT)], .reg [], .reg []]
   (a_ (a_ (r1_ tr) (a_ (r1_ (a_ (a_ (a_ (sr_word_ok x_r y2 e1 (sel [0]) (sel_inj rfl rfl)) (a_ (LO.Le.refl (.var (c_TQ x_r))) tr)) tr) (c_ (strings_Split_2_tri y2.1 y4 e3) (r1_ tr)))) (a_ (r2_ (f_ c5 tr)) (a_ (r1_ (r2_ (a_ (a_ (a_ (Eq.refl 1) (a_ (le_ 2 2 rfl) (Eq.refl 0))) tr) tr))) (a_ (a_ (a_ (Eq.refl true) tr) (a_ (a_ (a_ (Eq.refl 3) (a_ (le_ 3 3 rfl) (Eq.refl 0))) tr) tr)) tr))))) (a_ (a_ tr (le_ 3 3 rfl)) tr))
 ·obtain ⟨g6, h⟩ := guard_some h
  obtain ⟨y8, e7, h⟩ := bind_some h
  obtain ⟨g9, h⟩ := guard_some h
  obtain ⟨y11, e10, h⟩ := bind_some h
  obtain ⟨g12, h⟩ := guard_some h
  obtain ⟨y14, e13, h⟩ := bind_some h
  obtain rfl := si_ h
  exact rr_ [] 24 [.reg [], .reg [(1, { call := some ((sr_word_v y2).ren (sel [0]), preOf (sel [0]) 0 (sr_word_objs x_r), upOf (sel [0]) (sr_word_up x_r y2)) }), (2, hC (strings_Split_2_v y4))], .reg [(2, hF)], .reg [(4, { call := some ((sr_number_v y8).ren (sel [0]), preOf (sel [0]) 0 (sr_number_objs (TQ.mk y2.2.1 y2.2.2) (y4.getD 0 default) 255), upOf (sel [0]) (sr_number_up (TQ.mk y2.2.1 y2.2.2) (y4.getD 0 default) 255 y8)) }), (10, { call := some ((sr_number_v y11).ren (sel [0]), preOf (sel [0]) 0 (sr_number_objs (TQ.mk y8.2.1 y8.2.2) (y4.getD 1 default) 2147483647), upOf (sel [0]) (sr_number_up (TQ.mk y8.2.1 y8.2.2) (y4.getD 1 default) 2147483647 y11)) }), (16, { call := some ((sr_number_v y14).ren (sel [0]), preOf (sel [0]) 0 (sr_number_objs (TQ.mk y11.2.1 y11.2.2) (y4.getD 2 default) 2147483647), upOf (sel [0]) (sr_number_up (TQ.mk y11.2.1 y11.2.2) (y4.getD 2 default) 2147483647 y14)) })]]
   (a_ (a_ (r1_ tr) (a_ (r1_ (a_ (a_ (a_ (sr_word_ok x_r y2 e1 (sel [0]) (sel_inj rfl rfl)) (a_ (LO.Le.refl (.var (c_TQ x_r))) tr)) tr) (c_ (strings_Split_2_tri y2.1 y4 e3) (r1_ tr)))) (a_ (r2_ (f_ c5 tr)) (a_ (r2_ (a_ (a_ (a_ (Eq.refl 1) g6) tr) (a_ (a_ (lt_ 0 1 rfl) tr) (a_ (a_ (a_ (sr_number_ok (TQ.mk y2.2.1 y2.2.2) (y4.getD 0 default) 255 y8 e7 (sel [0]) (sel_inj rfl rfl)) (a_ (LO.Le.refl (.var (c_TQ (TQ.mk y2.2.1 y2.2.2)))) tr)) tr) (r1_ (r2_ (a_ (a_ (a_ (Eq.refl 1) g9) tr) (a_ (a_ (lt_ 0 1 rfl) tr) (a_ (a_ (a_ (sr_number_ok (TQ.mk y8.2.1 y8.2.2) (y4.getD 1 default) 2147483647 y11 e10 (sel [0]) (sel_inj rfl rfl)) (a_ (LO.Le.refl (.var (c_TQ (TQ.mk y8.2.1 y8.2.2)))) tr)) tr) (r1_ (r2_ (a_ (a_ (a_ (Eq.refl 1) g12) tr) (a_ (a_ (lt_ 0 1 rfl) tr) (a_ (a_ (a_ (sr_number_ok (TQ.mk y11.2.1 y11.2.2) (y4.getD 2 default) 2147483647 y14 e13 (sel [0]) (sel_inj rfl rfl)) (a_ (LO.Le.refl (.var (c_TQ (TQ.mk y11.2.1 y11.2.2)))) tr)) tr) (r1_ (a_ (a_ (Eq.refl true) tr) (a_ (a_ (a_ (Eq.refl 3) (a_ (le_ 3 3 rfl) (Eq.refl 0))) tr) tr))))))))))))))))) tr)))) (a_ (a_ tr (le_ 3 3 rfl)) tr))
/-- parrel/script.hasKey -/
def script_hasKey_v (r : (Bool)) : LV := .bool r
def script_hasKey (kind : Int) : Option ((Bool)) :=
 if ((kind == 2) : Bool) then
  some true
 else
  if ((kind == 3) : Bool) then
   some true
  else
   some (kind == 6)
theorem script_hasKey_ok (kind : Int) (r : (Bool)) (h : script_hasKey kind = some r) : ∀ σ, Inj 0 σ → FnTri Tryz.prog 57 (renL σ [.int .u8 kind]) (preOf σ 0 []) ((script_hasKey_v r).ren σ) (upOf σ []) := by
 refine fo_ Tryz.func57 trivial trivial ?_
 intro w0 W μ0 hμ
 unfold script_hasKey at h
 rcases itb_some h with ⟨c1, h⟩ | ⟨c1, h⟩
 ·obtain rfl := si_ h
  exact rr_ [] 15 [.reg [], .reg [(2, hT)]]
   (a_ (a_ (r1_ tr) (a_ (r2_ (f_ c1 (t2_ (r2_ (t2_ (r2_ tr)))))) tr)) tr)
 ·rcases itb_some h with ⟨c2, h⟩ | ⟨c2, h⟩
  ·obtain rfl := si_ h
   exact rr_ [] 15 [.reg [], .reg [(2, hF), (6, hT)]]
    (a_ (a_ (r1_ tr) (a_ (r2_ (f_ c1 (r1_ (r2_ (f_ c2 (t2_ (r2_ tr))))))) tr)) tr)
  ·obtain rfl := si_ h
   exact rr_ [] 15 [.reg [], .reg [(2, hF), (6, hF)]]
    (a_ (a_ (r1_ tr) (a_ (r2_ (f_ c1 (r1_ (r2_ (f_ c2 (r4_ tr)))))) tr)) tr)
theorem script_hasKey_tri (kind : Int) (r : (Bool)) (h : script_hasKey kind = some r) : FnTri Tryz.prog 57 [.int .u8 kind] [] (script_hasKey_v r) [] := FnTri.none (script_hasKey_ok kind r h) rfl rfl
/-- strings.IndexByte -/
def strings_IndexByte_v (r : (Int)) : LV := .int .i64 r
def strings_IndexByte (s : List UInt8) (c : Int) : Option ((Int)) :=
 (sl_IndexByte s c).bind fun y2 =>
 some y2
theorem strings_IndexByte_ok (s : List UInt8) (c : Int) (r : (Int)) (h : strings_IndexByte s c = some r) : ∀ σ, Inj 0 σ → FnTri Tryz.prog 70 (renL σ [.str s, .int .u8 c]) (preOf σ 0 []) ((strings_IndexByte_v r).ren σ) (upOf σ []) := by
 refine fo_ Tryz.func70 trivial trivial ?_
 intro w0 W μ0 hμ
 unfold strings_IndexByte at h
 obtain ⟨y2, e1, h⟩ := bind_some h
 obtain rfl := si_ h
 exact rr_ [] 15 [.reg [], .reg [(2, hC (sl_IndexByte_v y2))]]
  (a_ (a_ (r1_ tr) (a_ (r2_ (c_ (sl_IndexByte_tri s c y2 e1) (r1_ tr))) tr)) tr)
theorem strings_IndexByte_tri (s : List UInt8) (c : Int) (r : (Int)) (h : strings_IndexByte s c = some r) : FnTri Tryz.prog 70 [.str s, .int .u8 c] [] (strings_IndexByte_v r) [] := FnTri.none (strings_IndexByte_ok s c r h) rfl rfl
/-- (*parrel/script.reader).bytes -/
def sr_bytes_v (r : (List (Int)) × (List (List UInt8)) × (Bool)) : LV := .ds 1 (r.1).length (rowF (cInt .u8) default r.1)
def sr_bytes_up (x_r : TQ) (r : (List (Int)) × (List (List UInt8)) × (Bool)) : Upd := [(0, some (.var (c_TQ (TQ.mk r.2.1 r.2.2))))]
def sr_bytes_objs (x_r : TQ) : List LO := [.var (c_TQ x_r)]
def sr_bytes_T0 (y2 : (List UInt8) × (List (List UInt8)) × (Bool)) (i : Int) (bad2 : Bool) (l : List (Int)) : List LV := (.ptr 0 0 0) :: .any :: .any :: (.str y2.1) :: (.gs 1 (l).length) :: (.int .i64 i) :: n_ 64 []
def sr_bytes_H0 (y2 : (List UInt8) × (List (List UInt8)) × (Bool)) (i : Int) (bad2 : Bool) (l : List (Int)) : Heap := [some (.var (c_TQ (TQ.mk y2.2.1 bad2))), some (.gr 1 (l).length (rowF (cInt .u8) default l))]
def sr_bytes_T1000005 (y2 : (List UInt8) × (List (List UInt8)) × (Bool)) (bad : Bool) : List LV := (.ptr 0 0 0) :: .any :: .any :: (.str y2.1) :: n_ 66 []
def sr_bytes_H1000005 (y2 : (List UInt8) × (List (List UInt8)) × (Bool)) (bad : Bool) : Heap := [some (.var (c_TQ (TQ.mk y2.2.1 bad)))]
def sr_bytes_l0 (x_r : TQ) (y2 : (List UInt8) × (List (List UInt8)) × (Bool))  : Nat → (Int) → (Bool) → (List (Int)) → Option ((List (Int)) × (List (List UInt8)) × (Bool))
 | 0, _, _, _ => none
 | fuel + 1, i, bad2, l =>
  if ((decide ((IntKind.wrap .i64 (i + 1)) < ((y2.1).length : Int))) : Bool) then
   if ((!bad2) : Bool) then
    if 0 ≤ i ∧ i < (((y2.1).length : Nat) : Int) then
    (strings_IndexByte ([48, 49, 50, 51, 52, 53, 54, 55, 56, 57, 97, 98, 99, 100, 101, 102] : List UInt8) ((y2.1.getD i.toNat 0).toNat : Int)).bind fun yL0_5 =>
    if 0 ≤ (IntKind.wrap .i64 (i + 1)) ∧ (IntKind.wrap .i64 (i + 1)) < (((y2.1).length : Nat) : Int) then
    (strings_IndexByte ([48, 49, 50, 51, 52, 53, 54, 55, 56, 57, 97, 98, 99, 100, 101, 102] : List UInt8) ((y2.1.getD ((IntKind.wrap .i64 (i + 1))).toNat 0).toNat : Int)).bind fun yL0_8 =>
    if ((decide (yL0_5 < 0)) : Bool) then
     some (([] : List (Int)), y2.2.1, true)
    else
     if ((decide (yL0_8 < 0)) : Bool) then
      some (([] : List (Int)), y2.2.1, true)
     else
      if ((l).length + (([(IntKind.wrap .u8 (IntKind.wrap .i64 ((BitVec.ofInt (IntKind.bits .i64) (IntKind.wrap .i64 (yL0_5 * 2 ^ (min (Int.toNat 4) (IntKind.bits .i64)))) ||| BitVec.ofInt (IntKind.bits .i64) yL0_8).toNat : Int)))] : List (Int))).length) * 1 ≤ 140737488351232 then
      sr_bytes_l0 x_r y2  fuel (IntKind.wrap .i64 (i + 2)) bad2 (l ++ ([(IntKind.wrap .u8 (IntKind.wrap .i64 ((BitVec.ofInt (IntKind.bits .i64) (IntKind.wrap .i64 (yL0_5 * 2 ^ (min (Int.toNat 4) (IntKind.bits .i64)))) ||| BitVec.ofInt (IntKind.bits .i64) yL0_8).toNat : Int)))] : List (Int)))
      else none
    else none
    else none
   else
    some (l, y2.2.1, bad2)
  else
   some (l, y2.2.1, bad2)
def sr_bytes_c5 (x_r : TQ) (y2 : (List UInt8) × (List (List UInt8)) × (Bool))  (bad : Bool) : Option ((List (Int)) × (List (List UInt8)) × (Bool)) :=
 sr_bytes_l0 x_r y2  big 0 bad ([] : List (Int))
def sr_bytes (x_r : TQ) : Option ((List (Int)) × (List (List UInt8)) × (Bool)) :=
 (sr_word x_r).bind fun y2 =>
 if ((y2.1 == ([45] : List UInt8)) : Bool) then
  some (([] : List (Int)), y2.2.1, y2.2.2)
 else
  if (y2.2.2 : Bool) then
   sr_bytes_c5 x_r y2  true
  else
   if ((y2.1 == []) : Bool) then
    sr_bytes_c5 x_r y2  true
   else
    sr_bytes_c5 x_r y2  ((Int.tmod ((y2.1).length : Int) 2) != 0)
theorem sr_bytes_l0_ok {w0 : World} {W : Nat → Prop} {μ0 : Emb} (hμ : ∀ c p, μ0 c = some p → c < 1) (x_r : TQ) (y2 : (List UInt8) × (List (List UInt8)) × (Bool)) : ∀ (fuel : Nat) (i : Int) (bad2 : Bool) (l : List (Int)) (r : (List (Int)) × (List (List UInt8)) × (Bool)), sr_bytes_l0 x_r y2  fuel i bad2 l = some r → kont Tryz.prog w0 W μ0 (FnPost Tryz.prog Tryz.f37 1 1 (sr_bytes_v r) (sr_bytes_up x_r r)) (kAt (bodyOf Tryz.f37) 0) none (sr_bytes_T0 y2 i bad2 l) (sr_bytes_H0 y2 i bad2 l) := by
 intro fuel
 induction fuel with
 | zero => intro i bad2 l r h; rw [sr_bytes_l0] at h; cases h
 | succ fuel ih =>
  intro i bad2 l r h
  rw [sr_bytes_l0] at h
  rcases itb_some h with ⟨C1, h⟩ | ⟨C1, h⟩
  ·rcases itb_some h with ⟨C2, h⟩ | ⟨C2, h⟩
   ·obtain ⟨G3, h⟩ := guard_some h
    obtain ⟨yL0_5, E4, h⟩ := bind_some h
    obtain ⟨G6, h⟩ := guard_some h
    obtain ⟨yL0_8, E7, h⟩ := bind_some h
    rcases itb_some h with ⟨C9, h⟩ | ⟨C9, h⟩
    ·obtain rfl := si_ h
     exact rr_ [] 32 [.go, .reg [(5, hT), (11, hT)], .reg [(3, hC (strings_IndexByte_v yL0_5)), (8, hC (strings_IndexByte_v yL0_8))], .reg [(2, hT)], .reg [], .reg [(0, { v := some zn_ })]]
      (a_ (a_ (r1_ (r4_ (f_ C1 (r1_ (r2_ (l_ 1 2 rfl (r1_ (f_ C2 tr)))))))) (a_ (r2_ (a_ (a_ G3 tr) (a_ (a_ (a_ (strings_IndexByte_tri sg_ ((y2.1.getD i.toNat 0).toNat : Int) yL0_5 E4) tr) tr) (r1_ (r2_ (a_ (a_ G6 tr) (a_ (a_ (a_ (strings_IndexByte_tri sg_ ((y2.1.getD ((IntKind.wrap .i64 (i + 1))).toNat 0).toNat : Int) yL0_8 E7) tr) tr) (r2_ tr)))))))) (a_ (r2_ (f_ C9 (t2_ (r1_ tr)))) (a_ (r1_ (r2_ (a_ (a_ (a_ (Eq.refl 1) (a_ (le_ 2 2 rfl) (Eq.refl 0))) tr) tr))) (a_ (a_ (a_ tr (a_ (le_nil_ds 1 (rowF (cInt .u8) default [])) tr)) tr) tr))))) tr)
    ·rcases itb_some h with ⟨C10, h⟩ | ⟨C10, h⟩
     ·obtain rfl := si_ h
      exact rr_ [] 32 [.go, .reg [(5, hT), (11, hT)], .reg [(3, hC (strings_IndexByte_v yL0_5)), (8, hC (strings_IndexByte_v yL0_8))], .reg [(2, hF), (5, hT)], .reg [], .reg [(0, { v := some zn_ })]]
       (a_ (a_ (r1_ (r4_ (f_ C1 (r1_ (r2_ (l_ 1 2 rfl (r1_ (f_ C2 tr)))))))) (a_ (r2_ (a_ (a_ G3 tr) (a_ (a_ (a_ (strings_IndexByte_tri sg_ ((y2.1.getD i.toNat 0).toNat : Int) yL0_5 E4) tr) tr) (r1_ (r2_ (a_ (a_ G6 tr) (a_ (a_ (a_ (strings_IndexByte_tri sg_ ((y2.1.getD ((IntKind.wrap .i64 (i + 1))).toNat 0).toNat : Int) yL0_8 E7) tr) tr) (r2_ tr)))))))) (a_ (r2_ (f_ C9 (r2_ (f_ C10 tr)))) (a_ (r1_ (r2_ (a_ (a_ (a_ (Eq.refl 1) (a_ (le_ 2 2 rfl) (Eq.refl 0))) tr) tr))) (a_ (a_ (a_ tr (a_ (le_nil_ds 1 (rowF (cInt .u8) default [])) tr)) tr) tr))))) tr)
     ·obtain ⟨G11, h⟩ := guard_some h
      exact rt_ hμ [3] 32 [.go, .reg [(5, hT), (11, hT)], .reg [(3, hC (strings_IndexByte_v yL0_5)), (8, hC (strings_IndexByte_v yL0_8))], .reg [(2, hF), (5, hF)], .reg [(6, { os := [(2, .gr 1 (([(IntKind.wrap .u8 (IntKind.wrap .i64 ((BitVec.ofInt (IntKind.bits .i64) (IntKind.wrap .i64 (yL0_5 * 2 ^ (min (Int.toNat 4) (IntKind.bits .i64)))) ||| BitVec.ofInt (IntKind.bits .i64) yL0_8).toNat : Int)))] : List (Int))).length (rowF (cInt .u8) default ([(IntKind.wrap .u8 (IntKind.wrap .i64 ((BitVec.ofInt (IntKind.bits .i64) (IntKind.wrap .i64 (yL0_5 * 2 ^ (min (Int.toNat 4) (IntKind.bits .i64)))) ||| BitVec.ofInt (IntKind.bits .i64) yL0_8).toNat : Int)))] : List (Int))))], v := some (.gs 2 (([(IntKind.wrap .u8 (IntKind.wrap .i64 ((BitVec.ofInt (IntKind.bits .i64) (IntKind.wrap .i64 (yL0_5 * 2 ^ (min (Int.toNat 4) (IntKind.bits .i64)))) ||| BitVec.ofInt (IntKind.bits .i64) yL0_8).toNat : Int)))] : List (Int))).length) }), (7, { app := 3, os := [(3, .gr 1 ((l ++ ([(IntKind.wrap .u8 (IntKind.wrap .i64 ((BitVec.ofInt (IntKind.bits .i64) (IntKind.wrap .i64 (yL0_5 * 2 ^ (min (Int.toNat 4) (IntKind.bits .i64)))) ||| BitVec.ofInt (IntKind.bits .i64) yL0_8).toNat : Int)))] : List (Int)))).length (rowF (cInt .u8) default (l ++ ([(IntKind.wrap .u8 (IntKind.wrap .i64 ((BitVec.ofInt (IntKind.bits .i64) (IntKind.wrap .i64 (yL0_5 * 2 ^ (min (Int.toNat 4) (IntKind.bits .i64)))) ||| BitVec.ofInt (IntKind.bits .i64) yL0_8).toNat : Int)))] : List (Int)))))], v := some (.gs 3 ((l ++ ([(IntKind.wrap .u8 (IntKind.wrap .i64 ((BitVec.ofInt (IntKind.bits .i64) (IntKind.wrap .i64 (yL0_5 * 2 ^ (min (Int.toNat 4) (IntKind.bits .i64)))) ||| BitVec.ofInt (IntKind.bits .i64) yL0_8).toNat : Int)))] : List (Int)))).length) })], .reg []]
       (a_ (r1_ (r4_ (f_ C1 (r1_ (r2_ (l_ 1 2 rfl (r1_ (f_ C2 tr)))))))) (a_ (r2_ (a_ (a_ G3 tr) (a_ (a_ (a_ (strings_IndexByte_tri sg_ ((y2.1.getD i.toNat 0).toNat : Int) yL0_5 E4) tr) tr) (r1_ (r2_ (a_ (a_ G6 tr) (a_ (a_ (a_ (strings_IndexByte_tri sg_ ((y2.1.getD ((IntKind.wrap .i64 (i + 1))).toNat 0).toNat : Int) yL0_8 E7) tr) tr) (r2_ tr)))))))) (a_ (r2_ (f_ C9 (r2_ (f_ C10 tr)))) (a_ (r2_ (a_ (a_ (lei_ 0 4 rfl) tr) (r1_ (r2_ (a_ (a_ (a_ (Eq.refl true) (a_ (Eq.refl 1) (a_ (lt_ 0 1 rfl) (le_ 1 16777216 rfl)))) (a_ (le_sl_gs 2 1 (some 1) rfl) (a_ (sub_lit (cInt .u8) default 1 (fun _ => rfl) ([(IntKind.wrap .u8 (IntKind.wrap .i64 ((BitVec.ofInt (IntKind.bits .i64) (IntKind.wrap .i64 (yL0_5 * 2 ^ (min (Int.toNat 4) (IntKind.bits .i64)))) ||| BitVec.ofInt (IntKind.bits .i64) yL0_8).toNat : Int)))] : List (Int))) tr))) (a_ (a_ (a_ (a_ (Eq.refl 1) (Nat.le_refl (([(IntKind.wrap .u8 (IntKind.wrap .i64 ((BitVec.ofInt (IntKind.bits .i64) (IntKind.wrap .i64 (yL0_5 * 2 ^ (min (Int.toNat 4) (IntKind.bits .i64)))) ||| BitVec.ofInt (IntKind.bits .i64) yL0_8).toNat : Int)))] : List (Int))).length)) (a_ (a_ (lt_ 0 1 rfl) (a_ (lt_ 0 1 rfl) (a_ G11 (a_ (Eq.refl 1) (Eq.refl true))))) (a_ (Eq.refl 1) (Nat.le_refl (l).length)))) (a_ (le_gs_app 3 l ([(IntKind.wrap .u8 (IntKind.wrap .i64 ((BitVec.ofInt (IntKind.bits .i64) (IntKind.wrap .i64 (yL0_5 * 2 ^ (min (Int.toNat 4) (IntKind.bits .i64)))) ||| BitVec.ofInt (IntKind.bits .i64) yL0_8).toNat : Int)))] : List (Int))) (a_ (sub_app (cInt .u8) default 1 l ([(IntKind.wrap .u8 (IntKind.wrap .i64 ((BitVec.ofInt (IntKind.bits .i64) (IntKind.wrap .i64 (yL0_5 * 2 ^ (min (Int.toNat 4) (IntKind.bits .i64)))) ||| BitVec.ofInt (IntKind.bits .i64) yL0_8).toNat : Int)))] : List (Int))) tr))) (r1_ tr))))))) (a_ (r1_ (r2_ tr)) tr))))) (ih _ _ _ r h) ⟨rfl, fun _ _ => rfl, trivial⟩
   ·obtain rfl := si_ h
    exact rr_ [] 20 [.go, .reg [(5, hT), (11, hF)], .reg [], .frz 1]
     (a_ (a_ (r1_ (r4_ (f_ C1 (r1_ (r2_ (l_ 1 2 rfl (r1_ (f_ C2 tr)))))))) (a_ (r2_ tr) (a_ (a_ (fz_row (enc := (cInt .u8)) (d := default) (fun _ => rfl) l) (a_ (Nat.le_refl (l).length) (a_ (Nat.le_refl (l).length) (a_ (Nat.le_refl (l).length) tr)))) tr))) tr)
  ·obtain rfl := si_ h
   exact rr_ [] 20 [.go, .reg [(5, hF)], .reg [], .frz 1]
    (a_ (a_ (r1_ (r4_ (f_ C1 (a_ tr (t4_ (r1_ tr)))))) (a_ (r2_ tr) (a_ (a_ (fz_row (enc := (cInt .u8)) (d := default) (fun _ => rfl) l) (a_ (Nat.le_refl (l).length) (a_ (Nat.le_refl (l).length) (a_ (Nat.le_refl (l).length) tr)))) tr))) tr)
theorem sr_bytes_c5_ok {w0 : World} {W : Nat → Prop} {μ0 : Emb} (hμ : ∀ c p, μ0 c = some p → c < 1) (x_r : TQ) (y2 : (List UInt8) × (List (List UInt8)) × (Bool))  (bad : Bool) (r : (List (Int)) × (List (List UInt8)) × (Bool)) (h : sr_bytes_c5 x_r y2  bad = some r) : kont Tryz.prog w0 W μ0 (FnPost Tryz.prog Tryz.f37 1 1 (sr_bytes_v r) (sr_bytes_up x_r r)) (kAtR (bodyOf Tryz.f37) 5) none (sr_bytes_T1000005 y2 bad) (sr_bytes_H1000005 y2 bad) := by
 unfold sr_bytes_c5 at h
 exact rt_ hμ [1] 18 [.void (.gr 1 (([] : List (Int))).length (rowF (cInt .u8) default ([] : List (Int)))), .reg [(0, { v := some (.gs 1 (([] : List (Int))).length) })], .reg []]
  (a_ (Eq.refl 0) (a_ (a_ (a_ tr (a_ (le_nil_gs 1) tr)) tr) (a_ (r1_ tr) tr))) (sr_bytes_l0_ok hμ x_r y2  big _ _ _ r h) ⟨rfl, fun _ _ => rfl, trivial⟩
theorem sr_bytes_ok (x_r : TQ) (r : (List (Int)) × (List (List UInt8)) × (Bool)) (h : sr_bytes x_r = some r) : ∀ σ, Inj 1 σ → FnTri Tryz.prog 37 (renL σ [.ptr 0 0 0]) (preOf σ 0 (sr_bytes_objs x_r)) ((sr_bytes_v r).ren σ) (upOf σ (sr_bytes_up x_r r)) := by
 refine fo_ Tryz.func37 ⟨rfl, trivial⟩ ⟨rfl, trivial⟩ ?_
 intro w0 W μ0 hμ
 unfold sr_bytes at h
 obtain ⟨y2, e1, h⟩ := bind_some h
 rcases itb_some h with ⟨c3, h⟩ | ⟨c3, h⟩
 ·obtain rfl := si_ h
  exact rr_ [] 23 [.reg [(0, { v := some zn_ })], .reg [(1, { call := some ((sr_word_v y2).ren (sel [0]), preOf (sel [0]) 0 (sr_word_objs x_r), upOf (sel [0]) (sr_word_up x_r y2)) })], .reg [(1, hT)], .reg [(0, { v := some zn_ })]]
   (a_ (a_ (a_ (a_ tr (a_ (le_nil_ds 1 (rowF (cInt .u8) default [])) tr)) tr) (a_ (r1_ (a_ (a_ (a_ (sr_word_ok x_r y2 e1 (sel [0]) (sel_inj rfl rfl)) (a_ (LO.Le.refl (.var (c_TQ x_r))) tr)) tr) (r1_ tr))) (a_ (r1_ (f_ c3 tr)) (a_ (a_ (a_ tr (a_ (le_nil_ds 1 (rowF (cInt .u8) default [])) tr)) tr) tr)))) tr)
 ·rcases itb_some h with ⟨c4, h⟩ | ⟨c4, h⟩
  ·exact rt_ hμ [] 25 [.reg [(0, { v := some zn_ })], .reg [(1, { call := some ((sr_word_v y2).ren (sel [0]), preOf (sel [0]) 0 (sr_word_objs x_r), upOf (sel [0]) (sr_word_up x_r y2)) })], .reg [(1, hF)], .reg [(5, hT)]]
    (a_ (a_ (a_ tr (a_ (le_nil_ds 1 (rowF (cInt .u8) default [])) tr)) tr) (a_ (r1_ (a_ (a_ (a_ (sr_word_ok x_r y2 e1 (sel [0]) (sel_inj rfl rfl)) (a_ (LO.Le.refl (.var (c_TQ x_r))) tr)) tr) (r1_ tr))) (a_ (r1_ (f_ c3 tr)) (a_ (r4_ (l_ 1 2 rfl (f_ c4 (t2_ (r2_ (t4_ (r1_ (r2_ (a_ (a_ (a_ (Eq.refl 1) (a_ (le_ 2 2 rfl) (Eq.refl 0))) tr) tr))))))))) tr)))) (sr_bytes_c5_ok hμ x_r y2  _ r h) ⟨rfl, trivial⟩
  ·rcases itb_some h with ⟨c5, h⟩ | ⟨c5, h⟩
   ·exact rt_ hμ [] 25 [.reg [(0, { v := some zn_ })], .reg [(1, { call := some ((sr_word_v y2).ren (sel [0]), preOf (sel [0]) 0 (sr_word_objs x_r), upOf (sel [0]) (sr_word_up x_r y2)) })], .reg [(1, hF)], .reg [(5, hF), (9, hT)]]
     (a_ (a_ (a_ tr (a_ (le_nil_ds 1 (rowF (cInt .u8) default [])) tr)) tr) (a_ (r1_ (a_ (a_ (a_ (sr_word_ok x_r y2 e1 (sel [0]) (sel_inj rfl rfl)) (a_ (LO.Le.refl (.var (c_TQ x_r))) tr)) tr) (r1_ tr))) (a_ (r1_ (f_ c3 tr)) (a_ (r4_ (l_ 1 2 rfl (f_ c4 (r1_ (r2_ (f_ c5 (t4_ (r1_ (r2_ (a_ (a_ (a_ (Eq.refl 1) (a_ (le_ 2 2 rfl) (Eq.refl 0))) tr) tr)))))))))) tr)))) (sr_bytes_c5_ok hμ x_r y2  _ r h) ⟨rfl, trivial⟩
   ·exact rt_ hμ [] 25 [.reg [(0, { v := some zn_ })], .reg [(1, { call := some ((sr_word_v y2).ren (sel [0]), preOf (sel [0]) 0 (sr_word_objs x_r), upOf (sel [0]) (sr_word_up x_r y2)) })], .reg [(1, hF)], .reg [(5, hF), (9, hF)]]
     (a_ (a_ (a_ tr (a_ (le_nil_ds 1 (rowF (cInt .u8) default [])) tr)) tr) (a_ (r1_ (a_ (a_ (a_ (sr_word_ok x_r y2 e1 (sel [0]) (sel_inj rfl rfl)) (a_ (LO.Le.refl (.var (c_TQ x_r))) tr)) tr) (r1_ tr))) (a_ (r1_ (f_ c3 tr)) (a_ (r4_ (l_ 1 2 rfl (f_ c4 (r1_ (r2_ (f_ c5 (r2_ (a_ (a_ (ne0 2 rfl) tr) (r4_ (a_ (a_ (a_ (Eq.refl 1) (a_ (le_ 2 2 rfl) (Eq.refl 0))) tr) tr)))))))))) tr)))) (sr_bytes_c5_ok hμ x_r y2  _ r h) ⟨rfl, trivial⟩
/-- parrel/ids.KeyOf -/
def ids_KeyOf_v (r : (A8 (Int)) × (Int)) : LV := .tup [.agg [.int .u8 r.1.a0, .int .u8 r.1.a1, .int .u8 r.1.a2, .int .u8 r.1.a3, .int .u8 r.1.a4, .int .u8 r.1.a5, .int .u8 r.1.a6, .int .u8 r.1.a7], .int .i64 r.2]
def ids_KeyOf (s : List UInt8) : Option ((A8 (Int)) × (Int)) :=
 if ((s == []) : Bool) then
  some ((A8.mk 0 0 0 0 0 0 0 0), 1)
 else
  if ((decide (8 < ((s).length : Int))) : Bool) then
   some ((A8.mk 0 0 0 0 0 0 0 0), 1)
  else
   (strings_IndexByte s 0).bind fun y4 =>
   if ((decide (0 ≤ y4)) : Bool) then
    some ((A8.mk 0 0 0 0 0 0 0 0), 1)
   else
    some ((A8.mk (if 0 < (s).length then ((s.getD 0 0).toNat : Int) else 0) (if 1 < (s).length then ((s.getD 1 0).toNat : Int) else 0) (if 2 < (s).length then ((s.getD 2 0).toNat : Int) else 0) (if 3 < (s).length then ((s.getD 3 0).toNat : Int) else 0) (if 4 < (s).length then ((s.getD 4 0).toNat : Int) else 0) (if 5 < (s).length then ((s.getD 5 0).toNat : Int) else 0) (if 6 < (s).length then ((s.getD 6 0).toNat : Int) else 0) (if 7 < (s).length then ((s.getD 7 0).toNat : Int) else 0)), 0)
theorem ids_KeyOf_ok (s : List UInt8) (r : (A8 (Int)) × (Int)) (h : ids_KeyOf s = some r) : ∀ σ, Inj 0 σ → FnTri Tryz.prog 85 (renL σ [.str s]) (preOf σ 0 []) ((ids_KeyOf_v r).ren σ) (upOf σ []) := by
 refine fo_ Tryz.func85 trivial trivial ?_
 intro w0 W μ0 hμ
 unfold ids_KeyOf at h
 rcases itb_some h with ⟨c1, h⟩ | ⟨c1, h⟩
 ·obtain rfl := si_ h
  exact rr_ [] 23 [.reg [], .reg [], .reg [(2, hT)], .reg []]
   (a_ (a_ (r2_ tr) (a_ (r1_ tr) (a_ (r2_ (f_ c1 (a_ tr (t2_ (r2_ (a_ tr (t2_ (r1_ tr)))))))) (a_ (m_ 8 8 rfl (a_ (a_ (a_ (Eq.refl 8) (a_ (le_ 8 8 rfl) (Eq.refl 0))) tr) (r1_ tr))) tr)))) (a_ (a_ tr (le_ 8 8 rfl)) tr))
 ·rcases itb_some h with ⟨c2, h⟩ | ⟨c2, h⟩
  ·obtain rfl := si_ h
   exact rr_ [] 23 [.reg [], .reg [], .reg [(2, hF), (7, hT)], .reg []]
    (a_ (a_ (r2_ tr) (a_ (r1_ tr) (a_ (r2_ (f_ c1 (r4_ (f_ c2 (a_ tr (t2_ (r1_ tr))))))) (a_ (m_ 8 8 rfl (a_ (a_ (a_ (Eq.refl 8) (a_ (le_ 8 8 rfl) (Eq.refl 0))) tr) (r1_ tr))) tr)))) (a_ (a_ tr (le_ 8 8 rfl)) tr))
  ·obtain ⟨y4, e3, h⟩ := bind_some h
   rcases itb_some h with ⟨c5, h⟩ | ⟨c5, h⟩
   ·obtain rfl := si_ h
    exact rr_ [] 23 [.reg [], .reg [], .reg [(2, hF), (7, hF), (9, hC (strings_IndexByte_v y4)), (11, hT)], .reg []]
     (a_ (a_ (r2_ tr) (a_ (r1_ tr) (a_ (r2_ (f_ c1 (r4_ (f_ c2 (r1_ (c_ (strings_IndexByte_tri s 0 y4 e3) (r1_ (f_ c5 tr)))))))) (a_ (m_ 8 8 rfl (a_ (a_ (a_ (Eq.refl 8) (a_ (le_ 8 8 rfl) (Eq.refl 0))) tr) (r1_ tr))) tr)))) (a_ (a_ tr (le_ 8 8 rfl)) tr))
   ·obtain rfl := si_ h
    exact rr_ [] 27 [.reg [], .reg [], .reg [(2, hF), (7, hF), (9, hC (strings_IndexByte_v y4)), (11, hF)], .reg [], .reg []]
     (a_ (a_ (r2_ tr) (a_ (r1_ tr) (a_ (r2_ (f_ c1 (r4_ (f_ c2 (r1_ (c_ (strings_IndexByte_tri s 0 y4 e3) (r1_ (f_ c5 tr)))))))) (a_ (a_ (a_ (a_ (lei_ 0 0 rfl) (a_ (lei_ 0 8 rfl) (lei_ 8 8 rfl))) tr) (r1_ (a_ (a_ (a_ (Eq.refl 1) (a_ (Eq.refl 0) (a_ (le_ 8 8 rfl) (Eq.refl true)))) tr) tr))) (a_ (m_ 8 8 rfl (a_ (a_ (a_ (Eq.refl 8) (a_ (le_ 8 8 rfl) (Eq.refl 0))) tr) (r1_ tr))) tr))))) (a_ (a_ tr (le_ 8 8 rfl)) tr))
theorem ids_KeyOf_tri (s : List UInt8) (r : (A8 (Int)) × (Int)) (h : ids_KeyOf s = some r) : FnTri Tryz.prog 85 [.str s] [] (ids_KeyOf_v r) [] := FnTri.none (ids_KeyOf_ok s r h) rfl rfl
/-- (*parrel/script.reader).key -/
def sr_key_v (r : (A8 (Int)) × (List (List UInt8)) × (Bool)) : LV := .agg [.int .u8 r.1.a0, .int .u8 r.1.a1, .int .u8 r.1.a2, .int .u8 r.1.a3, .int .u8 r.1.a4, .int .u8 r.1.a5, .int .u8 r.1.a6, .int .u8 r.1.a7]
def sr_key_up (x_r : TQ) (r : (A8 (Int)) × (List (List UInt8)) × (Bool)) : Upd := [(0, some (.var (c_TQ (TQ.mk r.2.1 r.2.2))))]
def sr_key_objs (x_r : TQ) : List LO := [.var (c_TQ x_r)]
def sr_key (x_r : TQ) : Option ((A8 (Int)) × (List (List UInt8)) × (Bool)) :=
 (sr_bytes x_r).bind fun y2 =>
 (ids_KeyOf (strI y2.1)).bind fun y4 =>
 if (y2.2.2 : Bool) then
  some (y4.1, y2.2.1, true)
 else
  some (y4.1, y2.2.1, (y4.2 != 0))
theorem sr_key_ok (x_r : TQ) (r : (A8 (Int)) × (List (List UInt8)) × (Bool)) (h : sr_key x_r = some r) : ∀ σ, Inj 1 σ → FnTri Tryz.prog 69 (renL σ [.ptr 0 0 0]) (preOf σ 0 (sr_key_objs x_r)) ((sr_key_v r).ren σ) (upOf σ (sr_key_up x_r r)) := by
 refine fo_ Tryz.func69 ⟨rfl, trivial⟩ ⟨rfl, trivial⟩ ?_
 intro w0 W μ0 hμ
 unfold sr_key at h
 obtain ⟨y2, e1, h⟩ := bind_some h
 obtain ⟨y4, e3, h⟩ := bind_some h
 rcases itb_some h with ⟨c5, h⟩ | ⟨c5, h⟩
 ·obtain rfl := si_ h
  exact rr_ [] 21 [.reg [], .reg [(1, { call := some ((sr_bytes_v y2).ren (sel [0]), preOf (sel [0]) 0 (sr_bytes_objs x_r), upOf (sel [0]) (sr_bytes_up x_r y2)) }), (2, { v := some (.str (strI y2.1)) }), (3, hC (ids_KeyOf_v y4))], .reg [(5, hT)], .reg []]
   (a_ (a_ (r1_ tr) (a_ (r1_ (a_ (a_ (a_ (sr_bytes_ok x_r y2 e1 (sel [0]) (sel_inj rfl rfl)) (a_ (LO.Le.refl (.var (c_TQ x_r))) tr)) tr) (a_ (a_ (a_ (Eq.refl 1) (str_ob y2.1)) (a_ (le_str y2.1) tr)) (a_ (a_ (a_ (ids_KeyOf_tri (strI y2.1) y4 e3) tr) tr) (r4_ (a_ (a_ (a_ (Eq.refl 8) (a_ (le_ 8 8 rfl) (Eq.refl 0))) tr) (r1_ tr))))))) (a_ (r4_ (l_ 1 2 rfl (f_ c5 (t2_ (r1_ (r2_ (a_ (a_ (a_ (Eq.refl 1) (a_ (le_ 2 2 rfl) (Eq.refl 0))) tr) tr))))))) (a_ (m_ 8 8 rfl (a_ (a_ (a_ (Eq.refl 8) (a_ (le_ 8 8 rfl) (Eq.refl 0))) tr) tr)) tr)))) (a_ (a_ tr (le_ 8 8 rfl)) tr))
 ·obtain rfl := si_ h
  exact rr_ [] 21 [.reg [], .reg [(1, { call := some ((sr_bytes_v y2).ren (sel [0]), preOf (sel [0]) 0 (sr_bytes_objs x_r), upOf (sel [0]) (sr_bytes_up x_r y2)) }), (2, { v := some (.str (strI y2.1)) }), (3, hC (ids_KeyOf_v y4))], .reg [(5, hF)], .reg []]
   (a_ (a_ (r1_ tr) (a_ (r1_ (a_ (a_ (a_ (sr_bytes_ok x_r y2 e1 (sel [0]) (sel_inj rfl rfl)) (a_ (LO.Le.refl (.var (c_TQ x_r))) tr)) tr) (a_ (a_ (a_ (Eq.refl 1) (str_ob y2.1)) (a_ (le_str y2.1) tr)) (a_ (a_ (a_ (ids_KeyOf_tri (strI y2.1) y4 e3) tr) tr) (r4_ (a_ (a_ (a_ (Eq.refl 8) (a_ (le_ 8 8 rfl) (Eq.refl 0))) tr) (r1_ tr))))))) (a_ (r4_ (l_ 1 2 rfl (f_ c5 (r1_ (r4_ (a_ (a_ (a_ (Eq.refl 1) (a_ (le_ 2 2 rfl) (Eq.refl 0))) tr) tr)))))) (a_ (m_ 8 8 rfl (a_ (a_ (a_ (Eq.refl 8) (a_ (le_ 8 8 rfl) (Eq.refl 0))) tr) tr)) tr)))) (a_ (a_ tr (le_ 8 8 rfl)) tr))
/-- (*parrel/script.reader).call -/
def sr_call_v (r : (TN) × (List (List UInt8)) × (Bool)) : LV := v_TN r.1
def sr_call_up (x_r : TQ) (r : (TN) × (List (List UInt8)) × (Bool)) : Upd := [(0, some (.var (c_TQ (TQ.mk r.2.1 r.2.2))))]
def sr_call_objs (x_r : TQ) : List LO := [.var (c_TQ x_r)]
def sr_call_T1000017 (y2 : (Int) × (List (List UInt8)) × (Bool)) (y4 : (Int) × (List (List UInt8)) × (Bool)) (y8 : (Int) × (List (List UInt8)) × (Bool)) (l4 : List (List UInt8)) (bad4 : Bool) (Node4 : TX) (Key2 : A8 (Int)) : List LV := .any :: .any :: (.ptr 1 0 0) :: (.ptr 2 0 0) :: n_ 62 []
def sr_call_H1000017 (y2 : (Int) × (List (List UInt8)) × (Bool)) (y4 : (Int) × (List (List UInt8)) × (Bool)) (y8 : (Int) × (List (List UInt8)) × (Bool)) (l4 : List (List UInt8)) (bad4 : Bool) (Node4 : TX) (Key2 : A8 (Int)) : Heap := [some (.var (c_TQ (TQ.mk l4 bad4))), some (.var [Z1_, Z4_, Z1_, Z1_, Z4_, Z4_, Z1_, Z1_, Z1_, Z1_, Z1_, Z1_, Z1_, Z1_, .str [], Z1_, Z1_, .nilsl]), some (.var [.int .u8 y2.1, .int .u32 (IntKind.wrap .u32 y4.1), .int .u8 (IntKind.wrap .u8 y8.1), .int .u8 Node4.f_Node, .int .u32 Node4.f_Boot, .int .u32 Node4.f_Num, .int .u8 Key2.a0, .int .u8 Key2.a1, .int .u8 Key2.a2, .int .u8 Key2.a3, .int .u8 Key2.a4, .int .u8 Key2.a5, .int .u8 Key2.a6, .int .u8 Key2.a7, .str [], Z1_, Z1_, .gs 3 (([] : List (Int))).length]), some (.gr 1 (([] : List (Int))).length (rowF (cInt .u8) default ([] : List (Int))))]
def sr_call_T0 (y2 : (Int) × (List (List UInt8)) × (Bool)) (y4 : (Int) × (List (List UInt8)) × (Bool)) (y8 : (Int) × (List (List UInt8)) × (Bool)) (l6 : List (List UInt8)) (bad6 : Bool) (Node6 : TX) (Key3 : A8 (Int)) (R2 : Int) (x_W : Int) (l7 : List (Int)) : List LV := (.ptr 0 0 0) :: .any :: (.ptr 1 0 0) :: (.ptr 2 0 0) :: n_ 62 []
def sr_call_H0 (y2 : (Int) × (List (List UInt8)) × (Bool)) (y4 : (Int) × (List (List UInt8)) × (Bool)) (y8 : (Int) × (List (List UInt8)) × (Bool)) (l6 : List (List UInt8)) (bad6 : Bool) (Node6 : TX) (Key3 : A8 (Int)) (R2 : Int) (x_W : Int) (l7 : List (Int)) : Heap := [some (.var (c_TQ (TQ.mk l6 bad6))), some (.var [Z1_, Z4_, Z1_, Z1_, Z4_, Z4_, Z1_, Z1_, Z1_, Z1_, Z1_, Z1_, Z1_, Z1_, .str [], Z1_, Z1_, .nilsl]), some (.var [.int .u8 y2.1, .int .u32 (IntKind.wrap .u32 y4.1), .int .u8 (IntKind.wrap .u8 y8.1), .int .u8 Node6.f_Node, .int .u32 Node6.f_Boot, .int .u32 Node6.f_Num, .int .u8 Key3.a0, .int .u8 Key3.a1, .int .u8 Key3.a2, .int .u8 Key3.a3, .int .u8 Key3.a4, .int .u8 Key3.a5, .int .u8 Key3.a6, .int .u8 Key3.a7, .str [], .int .u8 R2, .int .u8 x_W, .gs 3 (l7).length]), some (.gr 1 (l7).length (rowF (cInt .u8) default l7))]
def sr_call_T1000013 (y2 : (Int) × (List (List UInt8)) × (Bool)) (y4 : (Int) × (List (List UInt8)) × (Bool)) (y8 : (Int) × (List (List UInt8)) × (Bool)) (l3 : List (List UInt8)) (bad3 : Bool) (Node3 : TX) (Key : A8 (Int)) : List LV := (.ptr 0 0 0) :: .any :: (.ptr 1 0 0) :: (.ptr 2 0 0) :: n_ 62 []
def sr_call_H1000013 (y2 : (Int) × (List (List UInt8)) × (Bool)) (y4 : (Int) × (List (List UInt8)) × (Bool)) (y8 : (Int) × (List (List UInt8)) × (Bool)) (l3 : List (List UInt8)) (bad3 : Bool) (Node3 : TX) (Key : A8 (Int)) : Heap := [some (.var (c_TQ (TQ.mk l3 bad3))), some (.var [Z1_, Z4_, Z1_, Z1_, Z4_, Z4_, Z1_, Z1_, Z1_, Z1_, Z1_, Z1_, Z1_, Z1_, .str [], Z1_, Z1_, .nilsl]), some (.var [.int .u8 y2.1, .int .u32 (IntKind.wrap .u32 y4.1), .int .u8 (IntKind.wrap .u8 y8.1), .int .u8 Node3.f_Node, .int .u32 Node3.f_Boot, .int .u32 Node3.f_Num, .int .u8 Key.a0, .int .u8 Key.a1, .int .u8 Key.a2, .int .u8 Key.a3, .int .u8 Key.a4, .int .u8 Key.a5, .int .u8 Key.a6, .int .u8 Key.a7, .str [], Z1_, Z1_, .gs 3 (([] : List (Int))).length]), some (.gr 1 (([] : List (Int))).length (rowF (cInt .u8) default ([] : List (Int))))]
def sr_call_T1000008 (y2 : (Int) × (List (List UInt8)) × (Bool)) (y4 : (Int) × (List (List UInt8)) × (Bool)) (y8 : (Int) × (List (List UInt8)) × (Bool)) (l : List (List UInt8)) (bad : Bool) (Node : TX) : List LV := (.ptr 0 0 0) :: .any :: (.ptr 1 0 0) :: (.ptr 2 0 0) :: n_ 62 []
def sr_call_H1000008 (y2 : (Int) × (List (List UInt8)) × (Bool)) (y4 : (Int) × (List (List UInt8)) × (Bool)) (y8 : (Int) × (List (List UInt8)) × (Bool)) (l : List (List UInt8)) (bad : Bool) (Node : TX) : Heap := [some (.var (c_TQ (TQ.mk l bad))), some (.var [Z1_, Z4_, Z1_, Z1_, Z4_, Z4_, Z1_, Z1_, Z1_, Z1_, Z1_, Z1_, Z1_, Z1_, .str [], Z1_, Z1_, .nilsl]), some (.var [.int .u8 y2.1, .int .u32 (IntKind.wrap .u32 y4.1), .int .u8 (IntKind.wrap .u8 y8.1), .int .u8 Node.f_Node, .int .u32 Node.f_Boot, .int .u32 Node.f_Num, Z1_, Z1_, Z1_, Z1_, Z1_, Z1_, Z1_, Z1_, .str [], Z1_, Z1_, .gs 3 (([] : List (Int))).length]), some (.gr 1 (([] : List (Int))).length (rowF (cInt .u8) default ([] : List (Int))))]
def sr_call_T1000014 (y2 : (Int) × (List (List UInt8)) × (Bool)) (y4 : (Int) × (List (List UInt8)) × (Bool)) (y8 : (Int) × (List (List UInt8)) × (Bool)) (l5 : List (List UInt8)) (bad5 : Bool) (Node5 : TX) (R : Int) : List LV := (.ptr 0 0 0) :: .any :: (.ptr 1 0 0) :: (.ptr 2 0 0) :: n_ 62 []
def sr_call_H1000014 (y2 : (Int) × (List (List UInt8)) × (Bool)) (y4 : (Int) × (List (List UInt8)) × (Bool)) (y8 : (Int) × (List (List UInt8)) × (Bool)) (l5 : List (List UInt8)) (bad5 : Bool) (Node5 : TX) (R : Int) : Heap := [some (.var (c_TQ (TQ.mk l5 bad5))), some (.var [Z1_, Z4_, Z1_, Z1_, Z4_, Z4_, Z1_, Z1_, Z1_, Z1_, Z1_, Z1_, Z1_, Z1_, .str [], Z1_, Z1_, .nilsl]), some (.var [.int .u8 y2.1, .int .u32 (IntKind.wrap .u32 y4.1), .int .u8 (IntKind.wrap .u8 y8.1), .int .u8 Node5.f_Node, .int .u32 Node5.f_Boot, .int .u32 Node5.f_Num, Z1_, Z1_, Z1_, Z1_, Z1_, Z1_, Z1_, Z1_, .str [], .int .u8 R, Z1_, .gs 3 (([] : List (Int))).length]), some (.gr 1 (([] : List (Int))).length (rowF (cInt .u8) default ([] : List (Int))))]
def sr_call_T1000009 (y2 : (Int) × (List (List UInt8)) × (Bool)) (y4 : (Int) × (List (List UInt8)) × (Bool)) (y8 : (Int) × (List (List UInt8)) × (Bool)) (l2 : List (List UInt8)) (bad2 : Bool) (Node2 : TX) : List LV := (.ptr 0 0 0) :: .any :: (.ptr 1 0 0) :: (.ptr 2 0 0) :: n_ 62 []
def sr_call_H1000009 (y2 : (Int) × (List (List UInt8)) × (Bool)) (y4 : (Int) × (List (List UInt8)) × (Bool)) (y8 : (Int) × (List (List UInt8)) × (Bool)) (l2 : List (List UInt8)) (bad2 : Bool) (Node2 : TX) : Heap := [some (.var (c_TQ (TQ.mk l2 bad2))), some (.var [Z1_, Z4_, Z1_, Z1_, Z4_, Z4_, Z1_, Z1_, Z1_, Z1_, Z1_, Z1_, Z1_, Z1_, .str [], Z1_, Z1_, .nilsl]), some (.var [.int .u8 y2.1, .int .u32 (IntKind.wrap .u32 y4.1), .int .u8 (IntKind.wrap .u8 y8.1), .int .u8 Node2.f_Node, .int .u32 Node2.f_Boot, .int .u32 Node2.f_Num, Z1_, Z1_, Z1_, Z1_, Z1_, Z1_, Z1_, Z1_, .str [], Z1_, Z1_, .gs 3 (([] : List (Int))).length]), some (.gr 1 (([] : List (Int))).length (rowF (cInt .u8) default ([] : List (Int))))]
def sr_call_c17 (x_r : TQ) (y2 : (Int) × (List (List UInt8)) × (Bool)) (y4 : (Int) × (List (List UInt8)) × (Bool)) (y8 : (Int) × (List (List UInt8)) × (Bool))  (l4 : List (List UInt8)) (bad4 : Bool) (Node4 : TX) (Key2 : A8 (Int)) : Option ((TN) × (List (List UInt8)) × (Bool)) :=
 some ((TN.mk (TE.mk y2.1 (IntKind.wrap .u32 y4.1)) (IntKind.wrap .u8 y8.1) Node4 Key2 [] 0 0 ([] : List (Int))), l4, bad4)
def sr_call_l0 (x_r : TQ) (y2 : (Int) × (List (List UInt8)) × (Bool)) (y4 : (Int) × (List (List UInt8)) × (Bool)) (y8 : (Int) × (List (List UInt8)) × (Bool))  : Nat → (List (List UInt8)) → (Bool) → (TX) → (A8 (Int)) → (Int) → (Int) → (List (Int)) → Option ((TN) × (List (List UInt8)) × (Bool))
 | 0, _, _, _, _, _, _, _ => none
 | fuel + 1, l6, bad6, Node6, Key3, R2, x_W, l7 =>
  if ((decide (0 < ((l6).length : Int))) : Bool) then
   if ((decide (((l7).length : Int) ≤ 8)) : Bool) then
    (sr_small (TQ.mk l6 bad6)).bind fun yL0_4 =>
    if ((l7).length + (([yL0_4.1] : List (Int))).length) * 1 ≤ 140737488351232 then
    sr_call_l0 x_r y2 y4 y8  fuel yL0_4.2.1 yL0_4.2.2 Node6 Key3 R2 x_W (l7 ++ ([yL0_4.1] : List (Int)))
    else none
   else
    some ((TN.mk (TE.mk y2.1 (IntKind.wrap .u32 y4.1)) (IntKind.wrap .u8 y8.1) Node6 Key3 [] R2 x_W l7), l6, bad6)
  else
   some ((TN.mk (TE.mk y2.1 (IntKind.wrap .u32 y4.1)) (IntKind.wrap .u8 y8.1) Node6 Key3 [] R2 x_W l7), l6, bad6)
def sr_call_c13 (x_r : TQ) (y2 : (Int) × (List (List UInt8)) × (Bool)) (y4 : (Int) × (List (List UInt8)) × (Bool)) (y8 : (Int) × (List (List UInt8)) × (Bool))  (l3 : List (List UInt8)) (bad3 : Bool) (Node3 : TX) (Key : A8 (Int)) : Option ((TN) × (List (List UInt8)) × (Bool)) :=
 (sr_small (TQ.mk l3 bad3)).bind fun yC13_2 =>
 (sr_small (TQ.mk yC13_2.2.1 yC13_2.2.2)).bind fun yC13_4 =>
 sr_call_l0 x_r y2 y4 y8  big yC13_4.2.1 yC13_4.2.2 Node3 Key yC13_2.1 yC13_4.1 ([] : List (Int))
def sr_call_c8 (x_r : TQ) (y2 : (Int) × (List (List UInt8)) × (Bool)) (y4 : (Int) × (List (List UInt8)) × (Bool)) (y8 : (Int) × (List (List UInt8)) × (Bool))  (l : List (List UInt8)) (bad : Bool) (Node : TX) : Option ((TN) × (List (List UInt8)) × (Bool)) :=
 (sr_key (TQ.mk l bad)).bind fun yC8_2 =>
 if (((IntKind.wrap .u8 y8.1) == 3) : Bool) then
  (sr_bytes (TQ.mk yC8_2.2.1 yC8_2.2.2)).bind fun yC8_5 =>
  some ((TN.mk (TE.mk y2.1 (IntKind.wrap .u32 y4.1)) (IntKind.wrap .u8 y8.1) Node yC8_2.1 (strI yC8_5.1) 0 0 ([] : List (Int))), yC8_5.2.1, yC8_5.2.2)
 else
  if (((IntKind.wrap .u8 y8.1) == 6) : Bool) then
   sr_call_c13 x_r y2 y4 y8  yC8_2.2.1 yC8_2.2.2 Node yC8_2.1
  else
   sr_call_c17 x_r y2 y4 y8  yC8_2.2.1 yC8_2.2.2 Node yC8_2.1
def sr_call_c14 (x_r : TQ) (y2 : (Int) × (List (List UInt8)) × (Bool)) (y4 : (Int) × (List (List UInt8)) × (Bool)) (y8 : (Int) × (List (List UInt8)) × (Bool))  (l5 : List (List UInt8)) (bad5 : Bool) (Node5 : TX) (R : Int) : Option ((TN) × (List (List UInt8)) × (Bool)) :=
 (sr_small (TQ.mk l5 bad5)).bind fun yC14_2 =>
 sr_call_l0 x_r y2 y4 y8  big yC14_2.2.1 yC14_2.2.2 Node5 (A8.mk 0 0 0 0 0 0 0 0) R yC14_2.1 ([] : List (Int))
def sr_call_c9 (x_r : TQ) (y2 : (Int) × (List (List UInt8)) × (Bool)) (y4 : (Int) × (List (List UInt8)) × (Bool)) (y8 : (Int) × (List (List UInt8)) × (Bool))  (l2 : List (List UInt8)) (bad2 : Bool) (Node2 : TX) : Option ((TN) × (List (List UInt8)) × (Bool)) :=
 if (((IntKind.wrap .u8 y8.1) == 3) : Bool) then
  (sr_bytes (TQ.mk l2 bad2)).bind fun yC9_3 =>
  some ((TN.mk (TE.mk y2.1 (IntKind.wrap .u32 y4.1)) (IntKind.wrap .u8 y8.1) Node2 (A8.mk 0 0 0 0 0 0 0 0) (strI yC9_3.1) 0 0 ([] : List (Int))), yC9_3.2.1, yC9_3.2.2)
 else
  if (((IntKind.wrap .u8 y8.1) == 6) : Bool) then
   (sr_small (TQ.mk l2 bad2)).bind fun yC9_4 =>
   sr_call_c14 x_r y2 y4 y8  yC9_4.2.1 yC9_4.2.2 Node2 yC9_4.1
  else
   some ((TN.mk (TE.mk y2.1 (IntKind.wrap .u32 y4.1)) (IntKind.wrap .u8 y8.1) Node2 (A8.mk 0 0 0 0 0 0 0 0) [] 0 0 ([] : List (Int))), l2, bad2)
def sr_call (x_r : TQ) : Option ((TN) × (List (List UInt8)) × (Bool)) :=
 (sr_small x_r).bind fun y2 =>
 (sr_num (TQ.mk y2.2.1 y2.2.2)).bind fun y4 =>
 (script_calls).bind fun y6 =>
 (sr_of (TQ.mk y4.2.1 y4.2.2) y6).bind fun y8 =>
 if ((decide (1 < (IntKind.wrap .u8 y8.1))) : Bool) then
  (sr_tx (TQ.mk y8.2.1 y8.2.2)).bind fun y11 =>
  (script_hasKey (IntKind.wrap .u8 y8.1)).bind fun y13 =>
  if (y13 : Bool) then
   sr_call_c8 x_r y2 y4 y8  y11.2.1 y11.2.2 y11.1
  else
   sr_call_c9 x_r y2 y4 y8  y11.2.1 y11.2.2 y11.1
 else
  (script_hasKey (IntKind.wrap .u8 y8.1)).bind fun y12 =>
  if (y12 : Bool) then
   sr_call_c8 x_r y2 y4 y8  y8.2.1 y8.2.2 (TX.mk 0 0 0)
  else
   sr_call_c9 x_r y2 y4 y8  y8.2.1 y8.2.2 (TX.mk 0 0 0)
theorem sr_call_c17_ok {w0 : World} {W : Nat → Prop} {μ0 : Emb} (hμ : ∀ c p, μ0 c = some p → c < 1) (x_r : TQ) (y2 : (Int) × (List (List UInt8)) × (Bool)) (y4 : (Int) × (List (List UInt8)) × (Bool)) (y8 : (Int) × (List (List UInt8)) × (Bool))  (l4 : List (List UInt8)) (bad4 : Bool) (Node4 : TX) (Key2 : A8 (Int)) (r : (TN) × (List (List UInt8)) × (Bool)) (h : sr_call_c17 x_r y2 y4 y8  l4 bad4 Node4 Key2 = some r) : kont Tryz.prog w0 W μ0 (FnPost Tryz.prog Tryz.f35 1 1 (sr_call_v r) (sr_call_up x_r r)) (kAtR (bodyOf Tryz.f35) 17) none (sr_call_T1000017 y2 y4 y8 l4 bad4 Node4 Key2) (sr_call_H1000017 y2 y4 y8 l4 bad4 Node4 Key2) := by
 unfold sr_call_c17 at h
 obtain rfl := si_ h
 exact rr_ [] 12 [.reg [], .frz 3]
  (a_ (a_ (m_ 18 18 rfl (a_ (a_ (a_ (Eq.refl 18) (a_ (le_ 18 18 rfl) (Eq.refl 0))) tr) tr)) (a_ (a_ (fz_row (enc := (cInt .u8)) (d := default) (fun _ => rfl) ([] : List (Int))) (a_ (Nat.le_refl (([] : List (Int))).length) (a_ (Nat.le_refl (([] : List (Int))).length) (a_ (Nat.le_refl (([] : List (Int))).length) tr)))) tr)) (a_ (a_ tr (le_ 18 18 rfl)) tr))
theorem sr_call_l0_ok {w0 : World} {W : Nat → Prop} {μ0 : Emb} (hμ : ∀ c p, μ0 c = some p → c < 1) (x_r : TQ) (y2 : (Int) × (List (List UInt8)) × (Bool)) (y4 : (Int) × (List (List UInt8)) × (Bool)) (y8 : (Int) × (List (List UInt8)) × (Bool)) : ∀ (fuel : Nat) (l6 : List (List UInt8)) (bad6 : Bool) (Node6 : TX) (Key3 : A8 (Int)) (R2 : Int) (x_W : Int) (l7 : List (Int)) (r : (TN) × (List (List UInt8)) × (Bool)), sr_call_l0 x_r y2 y4 y8  fuel l6 bad6 Node6 Key3 R2 x_W l7 = some r → kont Tryz.prog w0 W μ0 (FnPost Tryz.prog Tryz.f35 1 1 (sr_call_v r) (sr_call_up x_r r)) (kAt (bodyOf Tryz.f35) 0) none (sr_call_T0 y2 y4 y8 l6 bad6 Node6 Key3 R2 x_W l7) (sr_call_H0 y2 y4 y8 l6 bad6 Node6 Key3 R2 x_W l7) := by
 intro fuel
 induction fuel with
 | zero => intro l6 bad6 Node6 Key3 R2 x_W l7 r h; rw [sr_call_l0] at h; cases h
 | succ fuel ih =>
  intro l6 bad6 Node6 Key3 R2 x_W l7 r h
  rw [sr_call_l0] at h
  rcases itb_some h with ⟨C1, h⟩ | ⟨C1, h⟩
  ·rcases itb_some h with ⟨C2, h⟩ | ⟨C2, h⟩
   ·obtain ⟨yL0_4, E3, h⟩ := bind_some h
    obtain ⟨G5, h⟩ := guard_some h
    exact rt_ hμ [1, 2, 5] 20 [.go, .reg [(6, hT), (11, hT)], .reg [(3, { call := some ((sr_small_v yL0_4).ren (sel [0]), preOf (sel [0]) 0 (sr_small_objs (TQ.mk l6 bad6)), upOf (sel [0]) (sr_small_up (TQ.mk l6 bad6) yL0_4)) }), (4, { os := [(4, .gr 1 (([yL0_4.1] : List (Int))).length (rowF (cInt .u8) default ([yL0_4.1] : List (Int))))], v := some (.gs 4 (([yL0_4.1] : List (Int))).length) }), (5, { app := 3, os := [(5, .gr 1 ((l7 ++ ([yL0_4.1] : List (Int)))).length (rowF (cInt .u8) default (l7 ++ ([yL0_4.1] : List (Int)))))], v := some (.gs 5 ((l7 ++ ([yL0_4.1] : List (Int)))).length) })]]
     (a_ (r1_ (r2_ (l_ 0 2 rfl (r2_ (f_ C1 (r1_ (l_ 17 18 rfl (r2_ (f_ C2 tr))))))))) (a_ (r1_ (l_ 17 18 rfl (r1_ (a_ (a_ (a_ (sr_small_ok (TQ.mk l6 bad6) yL0_4 E3 (sel [0]) (sel_inj rfl rfl)) (a_ (LO.Le.refl (.var (c_TQ (TQ.mk l6 bad6)))) tr)) tr) (a_ (a_ (a_ (Eq.refl true) (a_ (Eq.refl 1) (a_ (lt_ 0 1 rfl) (le_ 1 16777216 rfl)))) (a_ (le_sl_gs 4 1 (some 1) rfl) (a_ (sub_lit (cInt .u8) default 1 (fun _ => rfl) ([yL0_4.1] : List (Int))) tr))) (a_ (a_ (a_ (a_ (Eq.refl 1) (Nat.le_refl (([yL0_4.1] : List (Int))).length)) (a_ (a_ (lt_ 0 1 rfl) (a_ (lt_ 0 1 rfl) (a_ G5 (a_ (Eq.refl 1) (Eq.refl true))))) (a_ (Eq.refl 1) (Nat.le_refl (l7).length)))) (a_ (le_gs_app 5 l7 ([yL0_4.1] : List (Int))) (a_ (sub_app (cInt .u8) default 1 l7 ([yL0_4.1] : List (Int))) tr))) (r1_ (a_ (a_ (a_ (Eq.refl 1) (a_ (le_ 18 18 rfl) (Eq.refl 0))) tr) tr)))))))) tr)) (ih _ _ _ _ _ _ _ r h) ⟨rfl, rfl, rfl, fun _ _ => rfl, trivial⟩
   ·obtain rfl := si_ h
    exact rr_ [] 21 [.go, .reg [(6, hT), (11, hF)], .reg [], .frz 3]
     (a_ (a_ (r1_ (r2_ (l_ 0 2 rfl (r2_ (f_ C1 (r1_ (l_ 17 18 rfl (r2_ (f_ C2 tr))))))))) (a_ (m_ 18 18 rfl (a_ (a_ (a_ (Eq.refl 18) (a_ (le_ 18 18 rfl) (Eq.refl 0))) tr) tr)) (a_ (a_ (fz_row (enc := (cInt .u8)) (d := default) (fun _ => rfl) l7) (a_ (Nat.le_refl (l7).length) (a_ (Nat.le_refl (l7).length) (a_ (Nat.le_refl (l7).length) (a_ (Nat.le_refl (l7).length) tr))))) tr))) (a_ (a_ tr (le_ 18 18 rfl)) tr))
  ·obtain rfl := si_ h
   exact rr_ [] 21 [.go, .reg [(6, hF)], .reg [], .frz 3]
    (a_ (a_ (r1_ (r2_ (l_ 0 2 rfl (r2_ (f_ C1 (t4_ (r1_ tr))))))) (a_ (m_ 18 18 rfl (a_ (a_ (a_ (Eq.refl 18) (a_ (le_ 18 18 rfl) (Eq.refl 0))) tr) tr)) (a_ (a_ (fz_row (enc := (cInt .u8)) (d := default) (fun _ => rfl) l7) (a_ (Nat.le_refl (l7).length) (a_ (Nat.le_refl (l7).length) (a_ (Nat.le_refl (l7).length) tr)))) tr))) (a_ (a_ tr (le_ 18 18 rfl)) tr))
theorem sr_call_c13_ok {w0 : World} {W : Nat → Prop} {μ0 : Emb} (hμ : ∀ c p, μ0 c = some p → c < 1) (x_r : TQ) (y2 : (Int) × (List (List UInt8)) × (Bool)) (y4 : (Int) × (List (List UInt8)) × (Bool)) (y8 : (Int) × (List (List UInt8)) × (Bool))  (l3 : List (List UInt8)) (bad3 : Bool) (Node3 : TX) (Key : A8 (Int)) (r : (TN) × (List (List UInt8)) × (Bool)) (h : sr_call_c13 x_r y2 y4 y8  l3 bad3 Node3 Key = some r) : kont Tryz.prog w0 W μ0 (FnPost Tryz.prog Tryz.f35 1 1 (sr_call_v r) (sr_call_up x_r r)) (kAtR (bodyOf Tryz.f35) 13) none (sr_call_T1000013 y2 y4 y8 l3 bad3 Node3 Key) (sr_call_H1000013 y2 y4 y8 l3 bad3 Node3 Key) := by
 unfold sr_call_c13 at h
 obtain ⟨yC13_2, E1, h⟩ := bind_some h
 obtain ⟨yC13_4, E3, h⟩ := bind_some h
 exact rt_ hμ [1, 2, 3] 16 [.reg [(1, { call := some ((sr_small_v yC13_2).ren (sel [0]), preOf (sel [0]) 0 (sr_small_objs (TQ.mk l3 bad3)), upOf (sel [0]) (sr_small_up (TQ.mk l3 bad3) yC13_2)) })], .reg [(1, { call := some ((sr_small_v yC13_4).ren (sel [0]), preOf (sel [0]) 0 (sr_small_objs (TQ.mk yC13_2.2.1 yC13_2.2.2)), upOf (sel [0]) (sr_small_up (TQ.mk yC13_2.2.1 yC13_2.2.2) yC13_4)) })]]
  (a_ (r1_ (a_ (a_ (a_ (sr_small_ok (TQ.mk l3 bad3) yC13_2 E1 (sel [0]) (sel_inj rfl rfl)) (a_ (LO.Le.refl (.var (c_TQ (TQ.mk l3 bad3)))) tr)) tr) (r1_ (a_ (a_ (a_ (Eq.refl 1) (a_ (le_ 16 18 rfl) (Eq.refl 0))) tr) tr)))) (a_ (r1_ (a_ (a_ (a_ (sr_small_ok (TQ.mk yC13_2.2.1 yC13_2.2.2) yC13_4 E3 (sel [0]) (sel_inj rfl rfl)) (a_ (LO.Le.refl (.var (c_TQ (TQ.mk yC13_2.2.1 yC13_2.2.2)))) tr)) tr) (r1_ (a_ (a_ (a_ (Eq.refl 1) (a_ (le_ 17 18 rfl) (Eq.refl 0))) tr) tr)))) tr)) (sr_call_l0_ok hμ x_r y2 y4 y8  big _ _ _ _ _ _ _ r h) ⟨rfl, rfl, rfl, fun _ _ => rfl, trivial⟩
theorem sr_call_c8_ok {w0 : World} {W : Nat → Prop} {μ0 : Emb} (hμ : ∀ c p, μ0 c = some p → c < 1) (x_r : TQ) (y2 : (Int) × (List (List UInt8)) × (Bool)) (y4 : (Int) × (List (List UInt8)) × (Bool)) (y8 : (Int) × (List (List UInt8)) × (Bool))  (l : List (List UInt8)) (bad : Bool) (Node : TX) (r : (TN) × (List (List UInt8)) × (Bool)) (h : sr_call_c8 x_r y2 y4 y8  l bad Node = some r) : kont Tryz.prog w0 W μ0 (FnPost Tryz.prog Tryz.f35 1 1 (sr_call_v r) (sr_call_up x_r r)) (kAtR (bodyOf Tryz.f35) 8) none (sr_call_T1000008 y2 y4 y8 l bad Node) (sr_call_H1000008 y2 y4 y8 l bad Node) := by
 unfold sr_call_c8 at h
 obtain ⟨yC8_2, E1, h⟩ := bind_some h
 rcases itb_some h with ⟨C3, h⟩ | ⟨C3, h⟩
 ·obtain ⟨yC8_5, E4, h⟩ := bind_some h
  obtain rfl := si_ h
  exact rr_ [] 27 [.reg [(1, { call := some ((sr_key_v yC8_2).ren (sel [0]), preOf (sel [0]) 0 (sr_key_objs (TQ.mk l bad)), upOf (sel [0]) (sr_key_up (TQ.mk l bad) yC8_2)) })], .reg [], .reg [(1, hT)], .reg [(1, { call := some ((sr_bytes_v yC8_5).ren (sel [0]), preOf (sel [0]) 0 (sr_bytes_objs (TQ.mk yC8_2.2.1 yC8_2.2.2)), upOf (sel [0]) (sr_bytes_up (TQ.mk yC8_2.2.1 yC8_2.2.2) yC8_5)) }), (2, { v := some (.str (strI yC8_5.1)) })], .reg [], .frz 3]
   (a_ (a_ (r1_ (a_ (a_ (a_ (sr_key_ok (TQ.mk l bad) yC8_2 E1 (sel [0]) (sel_inj rfl rfl)) (a_ (LO.Le.refl (.var (c_TQ (TQ.mk l bad)))) tr)) tr) (r1_ (a_ (a_ (a_ (Eq.refl 8) (a_ (le_ 14 18 rfl) (Eq.refl 0))) tr) tr)))) (a_ (r1_ (l_ 2 18 rfl tr)) (a_ (r1_ (f_ C3 tr)) (a_ (r1_ (a_ (a_ (a_ (sr_bytes_ok (TQ.mk yC8_2.2.1 yC8_2.2.2) yC8_5 E4 (sel [0]) (sel_inj rfl rfl)) (a_ (LO.Le.refl (.var (c_TQ (TQ.mk yC8_2.2.1 yC8_2.2.2)))) tr)) tr) (a_ (a_ (a_ (Eq.refl 1) (str_ob yC8_5.1)) (a_ (le_str yC8_5.1) tr)) (r1_ (a_ (a_ (a_ (Eq.refl 1) (a_ (le_ 15 18 rfl) (Eq.refl 0))) tr) tr))))) (a_ (m_ 18 18 rfl (a_ (a_ (a_ (Eq.refl 18) (a_ (le_ 18 18 rfl) (Eq.refl 0))) tr) tr)) (a_ (a_ (fz_row (enc := (cInt .u8)) (d := default) (fun _ => rfl) ([] : List (Int))) (a_ (Nat.le_refl (([] : List (Int))).length) (a_ (Nat.le_refl (([] : List (Int))).length) (a_ (Nat.le_refl (([] : List (Int))).length) tr)))) tr)))))) (a_ (a_ tr (le_ 18 18 rfl)) tr))
 ·rcases itb_some h with ⟨C4, h⟩ | ⟨C4, h⟩
  ·exact rt_ hμ [1, 2, 3] 25 [.reg [(1, { call := some ((sr_key_v yC8_2).ren (sel [0]), preOf (sel [0]) 0 (sr_key_objs (TQ.mk l bad)), upOf (sel [0]) (sr_key_up (TQ.mk l bad) yC8_2)) })], .reg [], .reg [(1, hF)], .reg [(1, hT)]]
    (a_ (r1_ (a_ (a_ (a_ (sr_key_ok (TQ.mk l bad) yC8_2 E1 (sel [0]) (sel_inj rfl rfl)) (a_ (LO.Le.refl (.var (c_TQ (TQ.mk l bad)))) tr)) tr) (r1_ (a_ (a_ (a_ (Eq.refl 8) (a_ (le_ 14 18 rfl) (Eq.refl 0))) tr) tr)))) (a_ (r1_ (l_ 2 18 rfl tr)) (a_ (r1_ (f_ C3 tr)) (a_ (r1_ (f_ C4 tr)) tr)))) (sr_call_c13_ok hμ x_r y2 y4 y8  _ _ _ _ r h) ⟨rfl, rfl, rfl, fun _ _ => rfl, trivial⟩
  ·exact rt_ hμ [1, 2, 3] 27 [.reg [(1, { call := some ((sr_key_v yC8_2).ren (sel [0]), preOf (sel [0]) 0 (sr_key_objs (TQ.mk l bad)), upOf (sel [0]) (sr_key_up (TQ.mk l bad) yC8_2)) })], .reg [], .reg [(1, hF)], .reg [(1, hF)]]
    (a_ (r1_ (a_ (a_ (a_ (sr_key_ok (TQ.mk l bad) yC8_2 E1 (sel [0]) (sel_inj rfl rfl)) (a_ (LO.Le.refl (.var (c_TQ (TQ.mk l bad)))) tr)) tr) (r1_ (a_ (a_ (a_ (Eq.refl 8) (a_ (le_ 14 18 rfl) (Eq.refl 0))) tr) tr)))) (a_ (r1_ (l_ 2 18 rfl tr)) (a_ (r1_ (f_ C3 tr)) (a_ (r1_ (f_ C4 tr)) tr)))) (sr_call_c17_ok hμ x_r y2 y4 y8  _ _ _ _ r h) ⟨rfl, rfl, rfl, fun _ _ => rfl, trivial⟩
theorem sr_call_c14_ok {w0 : World} {W : Nat → Prop} {μ0 : Emb} (hμ : ∀ c p, μ0 c = some p → c < 1) (x_r : TQ) (y2 : (Int) × (List (List UInt8)) × (Bool)) (y4 : (Int) × (List (List UInt8)) × (Bool)) (y8 : (Int) × (List (List UInt8)) × (Bool))  (l5 : List (List UInt8)) (bad5 : Bool) (Node5 : TX) (R : Int) (r : (TN) × (List (List UInt8)) × (Bool)) (h : sr_call_c14 x_r y2 y4 y8  l5 bad5 Node5 R = some r) : kont Tryz.prog w0 W μ0 (FnPost Tryz.prog Tryz.f35 1 1 (sr_call_v r) (sr_call_up x_r r)) (kAtR (bodyOf Tryz.f35) 14) none (sr_call_T1000014 y2 y4 y8 l5 bad5 Node5 R) (sr_call_H1000014 y2 y4 y8 l5 bad5 Node5 R) := by
 unfold sr_call_c14 at h
 obtain ⟨yC14_2, E1, h⟩ := bind_some h
 exact rt_ hμ [1, 2, 3] 13 [.reg [(1, { call := some ((sr_small_v yC14_2).ren (sel [0]), preOf (sel [0]) 0 (sr_small_objs (TQ.mk l5 bad5)), upOf (sel [0]) (sr_small_up (TQ.mk l5 bad5) yC14_2)) })]]
  (a_ (r1_ (a_ (a_ (a_ (sr_small_ok (TQ.mk l5 bad5) yC14_2 E1 (sel [0]) (sel_inj rfl rfl)) (a_ (LO.Le.refl (.var (c_TQ (TQ.mk l5 bad5)))) tr)) tr) (r1_ (a_ (a_ (a_ (Eq.refl 1) (a_ (le_ 17 18 rfl) (Eq.refl 0))) tr) tr)))) tr) (sr_call_l0_ok hμ x_r y2 y4 y8  big _ _ _ _ _ _ _ r h) ⟨rfl, rfl, rfl, fun _ _ => rfl, trivial⟩
theorem sr_call_c9_ok {w0 : World} {W : Nat → Prop} {μ0 : Emb} (hμ : ∀ c p, μ0 c = some p → c < 1) (x_r : TQ) (y2 : (Int) × (List (List UInt8)) × (Bool)) (y4 : (Int) × (List (List UInt8)) × (Bool)) (y8 : (Int) × (List (List UInt8)) × (Bool))  (l2 : List (List UInt8)) (bad2 : Bool) (Node2 : TX) (r : (TN) × (List (List UInt8)) × (Bool)) (h : sr_call_c9 x_r y2 y4 y8  l2 bad2 Node2 = some r) : kont Tryz.prog w0 W μ0 (FnPost Tryz.prog Tryz.f35 1 1 (sr_call_v r) (sr_call_up x_r r)) (kAtR (bodyOf Tryz.f35) 9) none (sr_call_T1000009 y2 y4 y8 l2 bad2 Node2) (sr_call_H1000009 y2 y4 y8 l2 bad2 Node2) := by
 unfold sr_call_c9 at h
 rcases itb_some h with ⟨C1, h⟩ | ⟨C1, h⟩
 ·obtain ⟨yC9_3, E2, h⟩ := bind_some h
  obtain rfl := si_ h
  exact rr_ [] 23 [.reg [], .reg [(1, hT)], .reg [(1, { call := some ((sr_bytes_v yC9_3).ren (sel [0]), preOf (sel [0]) 0 (sr_bytes_objs (TQ.mk l2 bad2)), upOf (sel [0]) (sr_bytes_up (TQ.mk l2 bad2) yC9_3)) }), (2, { v := some (.str (strI yC9_3.1)) })], .reg [], .frz 3]
   (a_ (a_ (r1_ (l_ 2 18 rfl tr)) (a_ (r1_ (f_ C1 tr)) (a_ (r1_ (a_ (a_ (a_ (sr_bytes_ok (TQ.mk l2 bad2) yC9_3 E2 (sel [0]) (sel_inj rfl rfl)) (a_ (LO.Le.refl (.var (c_TQ (TQ.mk l2 bad2)))) tr)) tr) (a_ (a_ (a_ (Eq.refl 1) (str_ob yC9_3.1)) (a_ (le_str yC9_3.1) tr)) (r1_ (a_ (a_ (a_ (Eq.refl 1) (a_ (le_ 15 18 rfl) (Eq.refl 0))) tr) tr))))) (a_ (m_ 18 18 rfl (a_ (a_ (a_ (Eq.refl 18) (a_ (le_ 18 18 rfl) (Eq.refl 0))) tr) tr)) (a_ (a_ (fz_row (enc := (cInt .u8)) (d := default) (fun _ => rfl) ([] : List (Int))) (a_ (Nat.le_refl (([] : List (Int))).length) (a_ (Nat.le_refl (([] : List (Int))).length) (a_ (Nat.le_refl (([] : List (Int))).length) tr)))) tr))))) (a_ (a_ tr (le_ 18 18 rfl)) tr))
 ·rcases itb_some h with ⟨C2, h⟩ | ⟨C2, h⟩
  ·obtain ⟨yC9_4, E3, h⟩ := bind_some h
   exact rt_ hμ [1, 2, 3] 24 [.reg [], .reg [(1, hF)], .reg [(1, hT)], .reg [(1, { call := some ((sr_small_v yC9_4).ren (sel [0]), preOf (sel [0]) 0 (sr_small_objs (TQ.mk l2 bad2)), upOf (sel [0]) (sr_small_up (TQ.mk l2 bad2) yC9_4)) })]]
    (a_ (r1_ (l_ 2 18 rfl tr)) (a_ (r1_ (f_ C1 tr)) (a_ (r1_ (f_ C2 tr)) (a_ (r1_ (a_ (a_ (a_ (sr_small_ok (TQ.mk l2 bad2) yC9_4 E3 (sel [0]) (sel_inj rfl rfl)) (a_ (LO.Le.refl (.var (c_TQ (TQ.mk l2 bad2)))) tr)) tr) (r1_ (a_ (a_ (a_ (Eq.refl 1) (a_ (le_ 16 18 rfl) (Eq.refl 0))) tr) tr)))) tr)))) (sr_call_c14_ok hμ x_r y2 y4 y8  _ _ _ _ r h) ⟨rfl, rfl, rfl, fun _ _ => rfl, trivial⟩
  ·obtain rfl := si_ h
   exact rr_ [] 26 [.reg [], .reg [(1, hF)], .reg [(1, hF)], .reg [], .frz 3]
    (a_ (a_ (r1_ (l_ 2 18 rfl tr)) (a_ (r1_ (f_ C1 tr)) (a_ (r1_ (f_ C2 tr)) (a_ (m_ 18 18 rfl (a_ (a_ (a_ (Eq.refl 18) (a_ (le_ 18 18 rfl) (Eq.refl 0))) tr) tr)) (a_ (a_ (fz_row (enc := (cInt .u8)) (d := default) (fun _ => rfl) ([] : List (Int))) (a_ (Nat.le_refl (([] : List (Int))).length) (a_ (Nat.le_refl (([] : List (Int))).length) (a_ (Nat.le_refl (([] : List (Int))).length) tr)))) tr))))) (a_ (a_ tr (le_ 18 18 rfl)) tr))
theorem sr_call_ok (x_r : TQ) (r : (TN) × (List (List UInt8)) × (Bool)) (h : sr_call x_r = some r) : ∀ σ, Inj 1 σ → FnTri Tryz.prog 35 (renL σ [.ptr 0 0 0]) (preOf σ 0 (sr_call_objs x_r)) ((sr_call_v r).ren σ) (upOf σ (sr_call_up x_r r)) := by
 refine fo_ Tryz.func35 ⟨rfl, trivial⟩ ⟨rfl, trivial⟩ ?_
 intro w0 W μ0 hμ
 unfold sr_call at h
 obtain ⟨y2, e1, h⟩ := bind_some h
 obtain ⟨y4, e3, h⟩ := bind_some h
 obtain ⟨y6, e5, h⟩ := bind_some h
 obtain ⟨y8, e7, h⟩ := bind_some h
 rcases itb_some h with ⟨c9, h⟩ | ⟨c9, h⟩
 ·obtain ⟨y11, e10, h⟩ := bind_some h
  obtain ⟨y13, e12, h⟩ := bind_some h
  rcases itb_some h with ⟨c14, h⟩ | ⟨c14, h⟩
  ·exact rt_ hμ [1, 3, 2] 37 [.reg [], .void (.gr 1 (([] : List (Int))).length (rowF (cInt .u8) default ([] : List (Int)))), .reg [(0, { os := [(3, .var [Z1_, Z4_, Z1_, Z1_, Z4_, Z4_, Z1_, Z1_, Z1_, Z1_, Z1_, Z1_, Z1_, Z1_, .str [], Z1_, Z1_, .gs 2 (([] : List (Int))).length])] })], .reg [(1, { call := some ((sr_small_v y2).ren (sel [0]), preOf (sel [0]) 0 (sr_small_objs x_r), upOf (sel [0]) (sr_small_up x_r y2)) })], .reg [(1, { call := some ((sr_num_v y4).ren (sel [0]), preOf (sel [0]) 0 (sr_num_objs (TQ.mk y2.2.1 y2.2.2)), upOf (sel [0]) (sr_num_up (TQ.mk y2.2.1 y2.2.2) y4)) })], .reg [(1, hC (script_calls_v y6)), (2, { call := some ((sr_of_v y8).ren (sel [0]), preOf (sel [0]) 0 (sr_of_objs (TQ.mk y4.2.1 y4.2.2) y6), upOf (sel [0]) (sr_of_up (TQ.mk y4.2.1 y4.2.2) y6 y8)) })], .reg [(2, hT)], .reg [(1, { call := some ((sr_tx_v y11).ren (sel [0]), preOf (sel [0]) 0 (sr_tx_objs (TQ.mk y8.2.1 y8.2.2)), upOf (sel [0]) (sr_tx_up (TQ.mk y8.2.1 y8.2.2) y11)) })], .reg [(2, { call := some (script_hasKey_v y13, [], []), v := some (.bool true) })]]
    (a_ (r1_ tr) (a_ (Eq.refl 0) (a_ (a_ (a_ tr (a_ (LO.Sub.var (a := [Z1_, Z4_, Z1_, Z1_, Z4_, Z4_, Z1_, Z1_, Z1_, Z1_, Z1_, Z1_, Z1_, Z1_, .str [], Z1_, Z1_, .nilsl]) (b := [Z1_, Z4_, Z1_, Z1_, Z4_, Z4_, Z1_, Z1_, Z1_, Z1_, Z1_, Z1_, Z1_, Z1_, .str [], Z1_, Z1_, .gs 2 (([] : List (Int))).length]) (a_ (LV.Le.refl (.int .u8 0)) (a_ (LV.Le.refl (.int .u32 0)) (a_ (LV.Le.refl (.int .u8 0)) (a_ (LV.Le.refl (.int .u8 0)) (a_ (LV.Le.refl (.int .u32 0)) (a_ (LV.Le.refl (.int .u32 0)) (a_ (LV.Le.refl (.int .u8 0)) (a_ (LV.Le.refl (.int .u8 0)) (a_ (LV.Le.refl (.int .u8 0)) (a_ (LV.Le.refl (.int .u8 0)) (a_ (LV.Le.refl (.int .u8 0)) (a_ (LV.Le.refl (.int .u8 0)) (a_ (LV.Le.refl (.int .u8 0)) (a_ (LV.Le.refl (.int .u8 0)) (a_ (LV.Le.refl (.str [])) (a_ (LV.Le.refl (.int .u8 0)) (a_ (LV.Le.refl (.int .u8 0)) (a_ (le_nil_gs 2) tr))))))))))))))))))) tr)) tr) (a_ (r1_ (a_ (a_ (a_ (sr_small_ok x_r y2 e1 (sel [0]) (sel_inj rfl rfl)) (a_ (LO.Le.refl (.var (c_TQ x_r))) tr)) tr) (a_ (a_ (Eq.refl true) tr) (r1_ (a_ (a_ (a_ (Eq.refl 2) (a_ (le_ 2 18 rfl) (Eq.refl 0))) tr) tr))))) (a_ (r1_ (a_ (a_ (a_ (sr_num_ok (TQ.mk y2.2.1 y2.2.2) y4 e3 (sel [0]) (sel_inj rfl rfl)) (a_ (LO.Le.refl (.var (c_TQ (TQ.mk y2.2.1 y2.2.2)))) tr)) tr) (r1_ (r2_ (a_ (a_ (a_ (Eq.refl 1) (a_ (le_ 2 18 rfl) (Eq.refl 0))) tr) tr))))) (a_ (r1_ (c_ (script_calls_tri  y6 e5) (a_ (a_ (a_ (sr_of_ok (TQ.mk y4.2.1 y4.2.2) y6 y8 e7 (sel [0]) (sel_inj rfl rfl)) (a_ (LO.Le.refl (.var (c_TQ (TQ.mk y4.2.1 y4.2.2)))) tr)) tr) (r2_ (a_ (a_ (a_ (Eq.refl 1) (a_ (le_ 3 18 rfl) (Eq.refl 0))) tr) tr))))) (a_ (r1_ (l_ 2 18 rfl (f_ c9 tr))) (a_ (r1_ (a_ (a_ (a_ (sr_tx_ok (TQ.mk y8.2.1 y8.2.2) y11 e10 (sel [0]) (sel_inj rfl rfl)) (a_ (LO.Le.refl (.var (c_TQ (TQ.mk y8.2.1 y8.2.2)))) tr)) tr) (r1_ (a_ (a_ (a_ (Eq.refl 3) (a_ (le_ 6 18 rfl) (Eq.refl 0))) tr) tr)))) (a_ (r1_ (l_ 2 18 rfl (a_ (a_ (a_ (script_hasKey_tri (IntKind.wrap .u8 y8.1) y13 e12) tr) (a_ (leB c14) tr)) tr))) tr))))))))) (sr_call_c8_ok hμ x_r y2 y4 y8  _ _ _ r h) ⟨rfl, rfl, rfl, fun _ _ => rfl, trivial⟩
  ·exact rt_ hμ [1, 3, 2] 40 [.reg [], .void (.gr 1 (([] : List (Int))).length (rowF (cInt .u8) default ([] : List (Int)))), .reg [(0, { os := [(3, .var [Z1_, Z4_, Z1_, Z1_, Z4_, Z4_, Z1_, Z1_, Z1_, Z1_, Z1_, Z1_, Z1_, Z1_, .str [], Z1_, Z1_, .gs 2 (([] : List (Int))).length])] })], .reg [(1, { call := some ((sr_small_v y2).ren (sel [0]), preOf (sel [0]) 0 (sr_small_objs x_r), upOf (sel [0]) (sr_small_up x_r y2)) })], .reg [(1, { call := some ((sr_num_v y4).ren (sel [0]), preOf (sel [0]) 0 (sr_num_objs (TQ.mk y2.2.1 y2.2.2)), upOf (sel [0]) (sr_num_up (TQ.mk y2.2.1 y2.2.2) y4)) })], .reg [(1, hC (script_calls_v y6)), (2, { call := some ((sr_of_v y8).ren (sel [0]), preOf (sel [0]) 0 (sr_of_objs (TQ.mk y4.2.1 y4.2.2) y6), upOf (sel [0]) (sr_of_up (TQ.mk y4.2.1 y4.2.2) y6 y8)) })], .reg [(2, hT)], .reg [(1, { call := some ((sr_tx_v y11).ren (sel [0]), preOf (sel [0]) 0 (sr_tx_objs (TQ.mk y8.2.1 y8.2.2)), upOf (sel [0]) (sr_tx_up (TQ.mk y8.2.1 y8.2.2) y11)) })], .reg [(2, { call := some (script_hasKey_v y13, [], []), v := some (.bool false) })]]
    (a_ (r1_ tr) (a_ (Eq.refl 0) (a_ (a_ (a_ tr (a_ (LO.Sub.var (a := [Z1_, Z4_, Z1_, Z1_, Z4_, Z4_, Z1_, Z1_, Z1_, Z1_, Z1_, Z1_, Z1_, Z1_, .str [], Z1_, Z1_, .nilsl]) (b := [Z1_, Z4_, Z1_, Z1_, Z4_, Z4_, Z1_, Z1_, Z1_, Z1_, Z1_, Z1_, Z1_, Z1_, .str [], Z1_, Z1_, .gs 2 (([] : List (Int))).length]) (a_ (LV.Le.refl (.int .u8 0)) (a_ (LV.Le.refl (.int .u32 0)) (a_ (LV.Le.refl (.int .u8 0)) (a_ (LV.Le.refl (.int .u8 0)) (a_ (LV.Le.refl (.int .u32 0)) (a_ (LV.Le.refl (.int .u32 0)) (a_ (LV.Le.refl (.int .u8 0)) (a_ (LV.Le.refl (.int .u8 0)) (a_ (LV.Le.refl (.int .u8 0)) (a_ (LV.Le.refl (.int .u8 0)) (a_ (LV.Le.refl (.int .u8 0)) (a_ (LV.Le.refl (.int .u8 0)) (a_ (LV.Le.refl (.int .u8 0)) (a_ (LV.Le.refl (.int .u8 0)) (a_ (LV.Le.refl (.str [])) (a_ (LV.Le.refl (.int .u8 0)) (a_ (LV.Le.refl (.int .u8 0)) (a_ (le_nil_gs 2) tr))))))))))))))))))) tr)) tr) (a_ (r1_ (a_ (a_ (a_ (sr_small_ok x_r y2 e1 (sel [0]) (sel_inj rfl rfl)) (a_ (LO.Le.refl (.var (c_TQ x_r))) tr)) tr) (a_ (a_ (Eq.refl true) tr) (r1_ (a_ (a_ (a_ (Eq.refl 2) (a_ (le_ 2 18 rfl) (Eq.refl 0))) tr) tr))))) (a_ (r1_ (a_ (a_ (a_ (sr_num_ok (TQ.mk y2.2.1 y2.2.2) y4 e3 (sel [0]) (sel_inj rfl rfl)) (a_ (LO.Le.refl (.var (c_TQ (TQ.mk y2.2.1 y2.2.2)))) tr)) tr) (r1_ (r2_ (a_ (a_ (a_ (Eq.refl 1) (a_ (le_ 2 18 rfl) (Eq.refl 0))) tr) tr))))) (a_ (r1_ (c_ (script_calls_tri  y6 e5) (a_ (a_ (a_ (sr_of_ok (TQ.mk y4.2.1 y4.2.2) y6 y8 e7 (sel [0]) (sel_inj rfl rfl)) (a_ (LO.Le.refl (.var (c_TQ (TQ.mk y4.2.1 y4.2.2)))) tr)) tr) (r2_ (a_ (a_ (a_ (Eq.refl 1) (a_ (le_ 3 18 rfl) (Eq.refl 0))) tr) tr))))) (a_ (r1_ (l_ 2 18 rfl (f_ c9 tr))) (a_ (r1_ (a_ (a_ (a_ (sr_tx_ok (TQ.mk y8.2.1 y8.2.2) y11 e10 (sel [0]) (sel_inj rfl rfl)) (a_ (LO.Le.refl (.var (c_TQ (TQ.mk y8.2.1 y8.2.2)))) tr)) tr) (r1_ (a_ (a_ (a_ (Eq.refl 3) (a_ (le_ 6 18 rfl) (Eq.refl 0))) tr) tr)))) (a_ (r1_ (l_ 2 18 rfl (a_ (a_ (a_ (script_hasKey_tri (IntKind.wrap .u8 y8.1) y13 e12) tr) (a_ (leB c14) tr)) tr))) tr))))))))) (sr_call_c9_ok hμ x_r y2 y4 y8  _ _ _ r h) ⟨rfl, rfl, rfl, fun _ _ => rfl, trivial⟩
 ·obtain ⟨y12, e10, h⟩ := bind_some h
  rcases itb_some h with ⟨c13, h⟩ | ⟨c13, h⟩
  ·exact rt_ hμ [1, 3, 2] 36 [.reg [], .void (.gr 1 (([] : List (Int))).length (rowF (cInt .u8) default ([] : List (Int)))), .reg [(0, { os := [(3, .var [Z1_, Z4_, Z1_, Z1_, Z4_, Z4_, Z1_, Z1_, Z1_, Z1_, Z1_, Z1_, Z1_, Z1_, .str [], Z1_, Z1_, .gs 2 (([] : List (Int))).length])] })], .reg [(1, { call := some ((sr_small_v y2).ren (sel [0]), preOf (sel [0]) 0 (sr_small_objs x_r), upOf (sel [0]) (sr_small_up x_r y2)) })], .reg [(1, { call := some ((sr_num_v y4).ren (sel [0]), preOf (sel [0]) 0 (sr_num_objs (TQ.mk y2.2.1 y2.2.2)), upOf (sel [0]) (sr_num_up (TQ.mk y2.2.1 y2.2.2) y4)) })], .reg [(1, hC (script_calls_v y6)), (2, { call := some ((sr_of_v y8).ren (sel [0]), preOf (sel [0]) 0 (sr_of_objs (TQ.mk y4.2.1 y4.2.2) y6), upOf (sel [0]) (sr_of_up (TQ.mk y4.2.1 y4.2.2) y6 y8)) })], .reg [(2, hF)], .reg [(2, { call := some (script_hasKey_v y12, [], []), v := some (.bool true) })]]
    (a_ (r1_ tr) (a_ (Eq.refl 0) (a_ (a_ (a_ tr (a_ (LO.Sub.var (a := [Z1_, Z4_, Z1_, Z1_, Z4_, Z4_, Z1_, Z1_, Z1_, Z1_, Z1_, Z1_, Z1_, Z1_, .str [], Z1_, Z1_, .nilsl]) (b := [Z1_, Z4_, Z1_, Z1_, Z4_, Z4_, Z1_, Z1_, Z1_, Z1_, Z1_, Z1_, Z1_, Z1_, .str [], Z1_, Z1_, .gs 2 (([] : List (Int))).length]) (a_ (LV.Le.refl (.int .u8 0)) (a_ (LV.Le.refl (.int .u32 0)) (a_ (LV.Le.refl (.int .u8 0)) (a_ (LV.Le.refl (.int .u8 0)) (a_ (LV.Le.refl (.int .u32 0)) (a_ (LV.Le.refl (.int .u32 0)) (a_ (LV.Le.refl (.int .u8 0)) (a_ (LV.Le.refl (.int .u8 0)) (a_ (LV.Le.refl (.int .u8 0)) (a_ (LV.Le.refl (.int .u8 0)) (a_ (LV.Le.refl (.int .u8 0)) (a_ (LV.Le.refl (.int .u8 0)) (a_ (LV.Le.refl (.int .u8 0)) (a_ (LV.Le.refl (.int .u8 0)) (a_ (LV.Le.refl (.str [])) (a_ (LV.Le.refl (.int .u8 0)) (a_ (LV.Le.refl (.int .u8 0)) (a_ (le_nil_gs 2) tr))))))))))))))))))) tr)) tr) (a_ (r1_ (a_ (a_ (a_ (sr_small_ok x_r y2 e1 (sel [0]) (sel_inj rfl rfl)) (a_ (LO.Le.refl (.var (c_TQ x_r))) tr)) tr) (a_ (a_ (Eq.refl true) tr) (r1_ (a_ (a_ (a_ (Eq.refl 2) (a_ (le_ 2 18 rfl) (Eq.refl 0))) tr) tr))))) (a_ (r1_ (a_ (a_ (a_ (sr_num_ok (TQ.mk y2.2.1 y2.2.2) y4 e3 (sel [0]) (sel_inj rfl rfl)) (a_ (LO.Le.refl (.var (c_TQ (TQ.mk y2.2.1 y2.2.2)))) tr)) tr) (r1_ (r2_ (a_ (a_ (a_ (Eq.refl 1) (a_ (le_ 2 18 rfl) (Eq.refl 0))) tr) tr))))) (a_ (r1_ (c_ (script_calls_tri  y6 e5) (a_ (a_ (a_ (sr_of_ok (TQ.mk y4.2.1 y4.2.2) y6 y8 e7 (sel [0]) (sel_inj rfl rfl)) (a_ (LO.Le.refl (.var (c_TQ (TQ.mk y4.2.1 y4.2.2)))) tr)) tr) (r2_ (a_ (a_ (a_ (Eq.refl 1) (a_ (le_ 3 18 rfl) (Eq.refl 0))) tr) tr))))) (a_ (r1_ (l_ 2 18 rfl (f_ c9 tr))) (a_ (r1_ (l_ 2 18 rfl (a_ (a_ (a_ (script_hasKey_tri (IntKind.wrap .u8 y8.1) y12 e10) tr) (a_ (leB c13) tr)) tr))) tr)))))))) (sr_call_c8_ok hμ x_r y2 y4 y8  _ _ _ r h) ⟨rfl, rfl, rfl, fun _ _ => rfl, trivial⟩
  ·exact rt_ hμ [1, 3, 2] 39 [.reg [], .void (.gr 1 (([] : List (Int))).length (rowF (cInt .u8) default ([] : List (Int)))), .reg [(0, { os := [(3, .var [Z1_, Z4_, Z1_, Z1_, Z4_, Z4_, Z1_, Z1_, Z1_, Z1_, Z1_, Z1_, Z1_, Z1_, .str [], Z1_, Z1_, .gs 2 (([] : List (Int))).length])] })], .reg [(1, { call := some ((sr_small_v y2).ren (sel [0]), preOf (sel [0]) 0 (sr_small_objs x_r), upOf (sel [0]) (sr_small_up x_r y2)) })], .reg [(1, { call := some ((sr_num_v y4).ren (sel [0]), preOf (sel [0]) 0 (sr_num_objs (TQ.mk y2.2.1 y2.2.2)), upOf (sel [0]) (sr_num_up (TQ.mk y2.2.1 y2.2.2) y4)) })], .reg [(1, hC (script_calls_v y6)), (2, { call := some ((sr_of_v y8).ren (sel [0]), preOf (sel [0]) 0 (sr_of_objs (TQ.mk y4.2.1 y4.2.2) y6), upOf (sel [0]) (sr_of_up (TQ.mk y4.2.1 y4.2.2) y6 y8)) })], .reg [(2, hF)], .reg [(2, { call := some (script_hasKey_v y12, [], []), v := some (.bool false) })]]
    (a_ (r1_ tr) (a_ (Eq.refl 0) (a_ (a_ (a_ tr (a_ (LO.Sub.var (a := [Z1_, Z4_, Z1_, Z1_, Z4_, Z4_, Z1_, Z1_, Z1_, Z1_, Z1_, Z1_, Z1_, Z1_, .str [], Z1_, Z1_, .nilsl]) (b := [Z1_, Z4_, Z1_, Z1_, Z4_, Z4_, Z1_, Z1_, Z1_, Z1_, Z1_, Z1_, Z1_, Z1_, .str [], Z1_, Z1_, .gs 2 (([] : List (Int))).length]) (a_ (LV.Le.refl (.int .u8 0)) (a_ (LV.Le.refl (.int .u32 0)) (a_ (LV.Le.refl (.int .u8 0)) (a_ (LV.Le.refl (.int .u8 0)) (a_ (LV.Le.refl (.int .u32 0)) (a_ (LV.Le.refl (.int .u32 0)) (a_ (LV.Le.refl (.int .u8 0)) (a_ (LV.Le.refl (.int .u8 0)) (a_ (LV.Le.refl (.int .u8 0)) (a_ (LV.Le.refl (.int .u8 0)) (a_ (LV.Le.refl (.int .u8 0)) (a_ (LV.Le.refl (.int .u8 0)) (a_ (LV.Le.refl (.int .u8 0)) (a_ (LV.Le.refl (.int .u8 0)) (a_ (LV.Le.refl (.str [])) (a_ (LV.Le.refl (.int .u8 0)) (a_ (LV.Le.refl (.int .u8 0)) (a_ (le_nil_gs 2) tr))))))))))))))))))) tr)) tr) (a_ (r1_ (a_ (a_ (a_ (sr_small_ok x_r y2 e1 (sel [0]) (sel_inj rfl rfl)) (a_ (LO.Le.refl (.var (c_TQ x_r))) tr)) tr) (a_ (a_ (Eq.refl true) tr) (r1_ (a_ (a_ (a_ (Eq.refl 2) (a_ (le_ 2 18 rfl) (Eq.refl 0))) tr) tr))))) (a_ (r1_ (a_ (a_ (a_ (sr_num_ok (TQ.mk y2.2.1 y2.2.2) y4 e3 (sel [0]) (sel_inj rfl rfl)) (a_ (LO.Le.refl (.var (c_TQ (TQ.mk y2.2.1 y2.2.2)))) tr)) tr) (r1_ (r2_ (a_ (a_ (a_ (Eq.refl 1) (a_ (le_ 2 18 rfl) (Eq.refl 0))) tr) tr))))) (a_ (r1_ (c_ (script_calls_tri  y6 e5) (a_ (a_ (a_ (sr_of_ok (TQ.mk y4.2.1 y4.2.2) y6 y8 e7 (sel [0]) (sel_inj rfl rfl)) (a_ (LO.Le.refl (.var (c_TQ (TQ.mk y4.2.1 y4.2.2)))) tr)) tr) (r2_ (a_ (a_ (a_ (Eq.refl 1) (a_ (le_ 3 18 rfl) (Eq.refl 0))) tr) tr))))) (a_ (r1_ (l_ 2 18 rfl (f_ c9 tr))) (a_ (r1_ (l_ 2 18 rfl (a_ (a_ (a_ (script_hasKey_tri (IntKind.wrap .u8 y8.1) y12 e10) tr) (a_ (leB c13) tr)) tr))) tr)))))))) (sr_call_c9_ok hμ x_r y2 y4 y8  _ _ _ r h) ⟨rfl, rfl, rfl, fun _ _ => rfl, trivial⟩
/-- (*parrel/script.reader).keep -/
def sr_keep_v (r : (Int) × (List (List UInt8)) × (Bool)) : LV := .int .i64 r.1
def sr_keep_up (x_r : TQ) (r : (Int) × (List (List UInt8)) × (Bool)) : Upd := [(0, some (.var (c_TQ (TQ.mk r.2.1 r.2.2))))]
def sr_keep_objs (x_r : TQ) : List LO := [.var (c_TQ x_r)]
def sr_keep (x_r : TQ) : Option ((Int) × (List (List UInt8)) × (Bool)) :=
 (sr_word x_r).bind fun y2 =>
 if ((y2.1 == ([45, 49] : List UInt8)) : Bool) then
  some ((-1), y2.2.1, y2.2.2)
 else
  (sr_number (TQ.mk y2.2.1 y2.2.2) y2.1 2147483647).bind fun y5 =>
  some (y5.1, y5.2.1, y5.2.2)
theorem sr_keep_ok (x_r : TQ) (r : (Int) × (List (List UInt8)) × (Bool)) (h : sr_keep x_r = some r) : ∀ σ, Inj 1 σ → FnTri Tryz.prog 36 (renL σ [.ptr 0 0 0]) (preOf σ 0 (sr_keep_objs x_r)) ((sr_keep_v r).ren σ) (upOf σ (sr_keep_up x_r r)) := by
 refine fo_ Tryz.func36 ⟨rfl, trivial⟩ ⟨rfl, trivial⟩ ?_
 intro w0 W μ0 hμ
 unfold sr_keep at h
 obtain ⟨y2, e1, h⟩ := bind_some h
 rcases itb_some h with ⟨c3, h⟩ | ⟨c3, h⟩
 ·obtain rfl := si_ h
  exact rr_ [] 23 [.reg [], .reg [(1, { call := some ((sr_word_v y2).ren (sel [0]), preOf (sel [0]) 0 (sr_word_objs x_r), upOf (sel [0]) (sr_word_up x_r y2)) })], .reg [(1, hT)], .reg []]
   (a_ (a_ (r1_ tr) (a_ (r1_ (a_ (a_ (a_ (sr_word_ok x_r y2 e1 (sel [0]) (sel_inj rfl rfl)) (a_ (LO.Le.refl (.var (c_TQ x_r))) tr)) tr) (r1_ tr))) (a_ (r1_ (f_ c3 tr)) (a_ (r1_ tr) tr)))) tr)
 ·obtain ⟨y5, e4, h⟩ := bind_some h
  obtain rfl := si_ h
  exact rr_ [] 24 [.reg [], .reg [(1, { call := some ((sr_word_v y2).ren (sel [0]), preOf (sel [0]) 0 (sr_word_objs x_r), upOf (sel [0]) (sr_word_up x_r y2)) })], .reg [(1, hF)], .reg [(2, { call := some ((sr_number_v y5).ren (sel [0]), preOf (sel [0]) 0 (sr_number_objs (TQ.mk y2.2.1 y2.2.2) y2.1 2147483647), upOf (sel [0]) (sr_number_up (TQ.mk y2.2.1 y2.2.2) y2.1 2147483647 y5)) })]]
   (a_ (a_ (r1_ tr) (a_ (r1_ (a_ (a_ (a_ (sr_word_ok x_r y2 e1 (sel [0]) (sel_inj rfl rfl)) (a_ (LO.Le.refl (.var (c_TQ x_r))) tr)) tr) (r1_ tr))) (a_ (r1_ (f_ c3 tr)) (a_ (r2_ (a_ (a_ (a_ (sr_number_ok (TQ.mk y2.2.1 y2.2.2) y2.1 2147483647 y5 e4 (sel [0]) (sel_inj rfl rfl)) (a_ (LO.Le.refl (.var (c_TQ (TQ.mk y2.2.1 y2.2.2)))) tr)) tr) (r1_ tr))) tr)))) tr)
/-- (*parrel/script.reader).step -/
def sr_step_v (r : (TS) × (List (List UInt8)) × (Bool)) : LV := v_TS r.1
def sr_step_up (x_r : TQ) (r : (TS) × (List (List UInt8)) × (Bool)) : Upd := [(0, some (.var (c_TQ (TQ.mk r.2.1 r.2.2))))]
def sr_step_objs (x_r : TQ) : List LO := [.var (c_TQ x_r)]
def sr_step_T1000007 (y4 : (Int) × (List (List UInt8)) × (Bool))  : List LV := (.ptr 0 0 0) :: .any :: (.ptr 1 0 0) :: (.ptr 2 0 0) :: n_ 53 []
def sr_step_H1000007 (y4 : (Int) × (List (List UInt8)) × (Bool))  : Heap := [some (.var (c_TQ (TQ.mk y4.2.1 y4.2.2))), some (.var [Z1_, Z8_, Z8_, Z8_, .bool false, Z1_, Z4_, Z1_, Z1_, Z4_, Z4_, Z1_, Z1_, Z1_, Z1_, Z1_, Z1_, Z1_, Z1_, .str [], Z1_, Z1_, .nilsl, Z8_, .nilsl]), some (.var [.int .u8 (IntKind.wrap .u8 y4.1), Z8_, Z8_, Z8_, .bool false, Z1_, Z4_, Z1_, Z1_, Z4_, Z4_, Z1_, Z1_, Z1_, Z1_, Z1_, Z1_, Z1_, Z1_, .str [], Z1_, Z1_, .nilsl, Z8_, .nilsl])]
def sr_step_T1000008 (y4 : (Int) × (List (List UInt8)) × (Bool)) (yC5_4 : (Int) × (List (List UInt8)) × (Bool))  : List LV := .any :: .any :: (.ptr 1 0 0) :: (.ptr 2 0 0) :: n_ 53 []
def sr_step_H1000008 (y4 : (Int) × (List (List UInt8)) × (Bool)) (yC5_4 : (Int) × (List (List UInt8)) × (Bool))  : Heap := [some (.var (c_TQ (TQ.mk yC5_4.2.1 yC5_4.2.2))), some (.var [Z1_, Z8_, Z8_, Z8_, .bool false, Z1_, Z4_, Z1_, Z1_, Z4_, Z4_, Z1_, Z1_, Z1_, Z1_, Z1_, Z1_, Z1_, Z1_, .str [], Z1_, Z1_, .nilsl, Z8_, .nilsl]), some (.var [.int .u8 (IntKind.wrap .u8 y4.1), Z8_, .int .i64 yC5_4.1, Z8_, .bool false, Z1_, Z4_, Z1_, Z1_, Z4_, Z4_, Z1_, Z1_, Z1_, Z1_, Z1_, Z1_, Z1_, Z1_, .str [], Z1_, Z1_, .nilsl, Z8_, .nilsl])]
def sr_step_T1000021 (y4 : (Int) × (List (List UInt8)) × (Bool)) (yC5_4 : (Int) × (List (List UInt8)) × (Bool)) (yC10_6 : (Int) × (List (List UInt8)) × (Bool))  : List LV := (.ptr 0 0 0) :: .any :: (.ptr 1 0 0) :: (.ptr 2 0 0) :: n_ 53 []
def sr_step_H1000021 (y4 : (Int) × (List (List UInt8)) × (Bool)) (yC5_4 : (Int) × (List (List UInt8)) × (Bool)) (yC10_6 : (Int) × (List (List UInt8)) × (Bool))  : Heap := [some (.var (c_TQ (TQ.mk yC10_6.2.1 yC10_6.2.2))), some (.var [Z1_, Z8_, Z8_, Z8_, .bool false, Z1_, Z4_, Z1_, Z1_, Z4_, Z4_, Z1_, Z1_, Z1_, Z1_, Z1_, Z1_, Z1_, Z1_, .str [], Z1_, Z1_, .nilsl, Z8_, .nilsl]), some (.var [.int .u8 (IntKind.wrap .u8 y4.1), .int .i64 yC5_4.1, Z8_, Z8_, .bool false, Z1_, Z4_, Z1_, Z1_, Z4_, Z4_, Z1_, Z1_, Z1_, Z1_, Z1_, Z1_, Z1_, Z1_, .str [], Z1_, Z1_, .nilsl, .int .i64 yC10_6.1, .nilsl])]
def sr_step_T1000022 (y4 : (Int) × (List (List UInt8)) × (Bool)) (yC5_4 : (Int) × (List (List UInt8)) × (Bool)) (yC10_5 : (Int) × (List (List UInt8)) × (Bool))  : List LV := .any :: .any :: (.ptr 1 0 0) :: (.ptr 2 0 0) :: n_ 53 []
def sr_step_H1000022 (y4 : (Int) × (List (List UInt8)) × (Bool)) (yC5_4 : (Int) × (List (List UInt8)) × (Bool)) (yC10_5 : (Int) × (List (List UInt8)) × (Bool))  : Heap := [some (.var (c_TQ (TQ.mk yC10_5.2.1 yC10_5.2.2))), some (.var [Z1_, Z8_, Z8_, Z8_, .bool false, Z1_, Z4_, Z1_, Z1_, Z4_, Z4_, Z1_, Z1_, Z1_, Z1_, Z1_, Z1_, Z1_, Z1_, .str [], Z1_, Z1_, .nilsl, Z8_, .nilsl]), some (.var [.int .u8 (IntKind.wrap .u8 y4.1), .int .i64 yC5_4.1, Z8_, .int .i64 yC10_5.1, .bool false, Z1_, Z4_, Z1_, Z1_, Z4_, Z4_, Z1_, Z1_, Z1_, Z1_, Z1_, Z1_, Z1_, Z1_, .str [], Z1_, Z1_, .nilsl, Z8_, .nilsl])]
def sr_step_T1000015 (y4 : (Int) × (List (List UInt8)) × (Bool)) (yC5_4 : (Int) × (List (List UInt8)) × (Bool)) (yC10_4 : (Int) × (List (List UInt8)) × (Bool))  : List LV := (.ptr 0 0 0) :: .any :: (.ptr 1 0 0) :: (.ptr 2 0 0) :: n_ 53 []
def sr_step_H1000015 (y4 : (Int) × (List (List UInt8)) × (Bool)) (yC5_4 : (Int) × (List (List UInt8)) × (Bool)) (yC10_4 : (Int) × (List (List UInt8)) × (Bool))  : Heap := [some (.var (c_TQ (TQ.mk yC10_4.2.1 yC10_4.2.2))), some (.var [Z1_, Z8_, Z8_, Z8_, .bool false, Z1_, Z4_, Z1_, Z1_, Z4_, Z4_, Z1_, Z1_, Z1_, Z1_, Z1_, Z1_, Z1_, Z1_, .str [], Z1_, Z1_, .nilsl, Z8_, .nilsl]), some (.var [.int .u8 (IntKind.wrap .u8 y4.1), .int .i64 yC5_4.1, Z8_, .int .i64 yC10_4.1, .bool false, Z1_, Z4_, Z1_, Z1_, Z4_, Z4_, Z1_, Z1_, Z1_, Z1_, Z1_, Z1_, Z1_, Z1_, .str [], Z1_, Z1_, .nilsl, Z8_, .nilsl])]
def sr_step_T1000010 (y4 : (Int) × (List (List UInt8)) × (Bool)) (yC5_4 : (Int) × (List (List UInt8)) × (Bool))  : List LV := (.ptr 0 0 0) :: .any :: (.ptr 1 0 0) :: (.ptr 2 0 0) :: n_ 53 []
def sr_step_H1000010 (y4 : (Int) × (List (List UInt8)) × (Bool)) (yC5_4 : (Int) × (List (List UInt8)) × (Bool))  : Heap := [some (.var (c_TQ (TQ.mk yC5_4.2.1 yC5_4.2.2))), some (.var [Z1_, Z8_, Z8_, Z8_, .bool false, Z1_, Z4_, Z1_, Z1_, Z4_, Z4_, Z1_, Z1_, Z1_, Z1_, Z1_, Z1_, Z1_, Z1_, .str [], Z1_, Z1_, .nilsl, Z8_, .nilsl]), some (.var [.int .u8 (IntKind.wrap .u8 y4.1), .int .i64 yC5_4.1, Z8_, Z8_, .bool false, Z1_, Z4_, Z1_, Z1_, Z4_, Z4_, Z1_, Z1_, Z1_, Z1_, Z1_, Z1_, Z1_, Z1_, .str [], Z1_, Z1_, .nilsl, Z8_, .nilsl])]
def sr_step_T1000005 (y4 : (Int) × (List (List UInt8)) × (Bool))  : List LV := (.ptr 0 0 0) :: .any :: (.ptr 1 0 0) :: (.ptr 2 0 0) :: n_ 6 ((.int .u8 (IntKind.wrap .u8 y4.1)) :: n_ 46 [])
def sr_step_H1000005 (y4 : (Int) × (List (List UInt8)) × (Bool))  : Heap := [some (.var (c_TQ (TQ.mk y4.2.1 y4.2.2))), some (.var [Z1_, Z8_, Z8_, Z8_, .bool false, Z1_, Z4_, Z1_, Z1_, Z4_, Z4_, Z1_, Z1_, Z1_, Z1_, Z1_, Z1_, Z1_, Z1_, .str [], Z1_, Z1_, .nilsl, Z8_, .nilsl]), some (.var [.int .u8 (IntKind.wrap .u8 y4.1), Z8_, Z8_, Z8_, .bool false, Z1_, Z4_, Z1_, Z1_, Z4_, Z4_, Z1_, Z1_, Z1_, Z1_, Z1_, Z1_, Z1_, Z1_, .str [], Z1_, Z1_, .nilsl, Z8_, .nilsl])]
def sr_step_c7 (x_r : TQ) (y4 : (Int) × (List (List UInt8)) × (Bool))   : Option ((TS) × (List (List UInt8)) × (Bool)) :=
 (sr_num (TQ.mk y4.2.1 y4.2.2)).bind fun yC7_2 =>
 some ((TS.mk (IntKind.wrap .u8 y4.1) 0 yC7_2.1 0 false (TN.mk (TE.mk 0 0) 0 (TX.mk 0 0 0) (A8.mk 0 0 0 0 0 0 0 0) [] 0 0 ([] : List (Int))) 0 ([] : List (Int))), yC7_2.2.1, yC7_2.2.2)
def sr_step_c8 (x_r : TQ) (y4 : (Int) × (List (List UInt8)) × (Bool)) (yC5_4 : (Int) × (List (List UInt8)) × (Bool))   : Option ((TS) × (List (List UInt8)) × (Bool)) :=
 some ((TS.mk (IntKind.wrap .u8 y4.1) 0 yC5_4.1 0 false (TN.mk (TE.mk 0 0) 0 (TX.mk 0 0 0) (A8.mk 0 0 0 0 0 0 0 0) [] 0 0 ([] : List (Int))) 0 ([] : List (Int))), yC5_4.2.1, yC5_4.2.2)
def sr_step_c21 (x_r : TQ) (y4 : (Int) × (List (List UInt8)) × (Bool)) (yC5_4 : (Int) × (List (List UInt8)) × (Bool)) (yC10_6 : (Int) × (List (List UInt8)) × (Bool))   : Option ((TS) × (List (List UInt8)) × (Bool)) :=
 (sr_bytes (TQ.mk yC10_6.2.1 yC10_6.2.2)).bind fun yC21_2 =>
 some ((TS.mk (IntKind.wrap .u8 y4.1) yC5_4.1 0 0 false (TN.mk (TE.mk 0 0) 0 (TX.mk 0 0 0) (A8.mk 0 0 0 0 0 0 0 0) [] 0 0 ([] : List (Int))) yC10_6.1 yC21_2.1), yC21_2.2.1, yC21_2.2.2)
def sr_step_c22 (x_r : TQ) (y4 : (Int) × (List (List UInt8)) × (Bool)) (yC5_4 : (Int) × (List (List UInt8)) × (Bool)) (yC10_5 : (Int) × (List (List UInt8)) × (Bool))   : Option ((TS) × (List (List UInt8)) × (Bool)) :=
 some ((TS.mk (IntKind.wrap .u8 y4.1) yC5_4.1 0 yC10_5.1 false (TN.mk (TE.mk 0 0) 0 (TX.mk 0 0 0) (A8.mk 0 0 0 0 0 0 0 0) [] 0 0 ([] : List (Int))) 0 ([] : List (Int))), yC10_5.2.1, yC10_5.2.2)
def sr_step_c15 (x_r : TQ) (y4 : (Int) × (List (List UInt8)) × (Bool)) (yC5_4 : (Int) × (List (List UInt8)) × (Bool)) (yC10_4 : (Int) × (List (List UInt8)) × (Bool))   : Option ((TS) × (List (List UInt8)) × (Bool)) :=
 (sr_of (TQ.mk yC10_4.2.1 yC10_4.2.2) ([[], ([119, 104, 111, 108, 101] : List UInt8), ([99, 117, 116] : List UInt8)] : List (List UInt8))).bind fun yC15_2 =>
 (sr_bytes (TQ.mk yC15_2.2.1 yC15_2.2.2)).bind fun yC15_4 =>
 some ((TS.mk (IntKind.wrap .u8 y4.1) yC5_4.1 0 yC10_4.1 (yC15_2.1 == 2) (TN.mk (TE.mk 0 0) 0 (TX.mk 0 0 0) (A8.mk 0 0 0 0 0 0 0 0) [] 0 0 ([] : List (Int))) 0 yC15_4.1), yC15_4.2.1, yC15_4.2.2)
def sr_step_c10 (x_r : TQ) (y4 : (Int) × (List (List UInt8)) × (Bool)) (yC5_4 : (Int) × (List (List UInt8)) × (Bool))   : Option ((TS) × (List (List UInt8)) × (Bool)) :=
 if (((IntKind.wrap .u8 y4.1) == 1) : Bool) then
  (sr_call (TQ.mk yC5_4.2.1 yC5_4.2.2)).bind fun yC10_3 =>
  some ((TS.mk (IntKind.wrap .u8 y4.1) yC5_4.1 0 0 false yC10_3.1 0 ([] : List (Int))), yC10_3.2.1, yC10_3.2.2)
 else
  if (((IntKind.wrap .u8 y4.1) == 8) : Bool) then
   (sr_keep (TQ.mk yC5_4.2.1 yC5_4.2.2)).bind fun yC10_4 =>
   sr_step_c15 x_r y4 yC5_4 yC10_4  
  else
   if (((IntKind.wrap .u8 y4.1) == 9) : Bool) then
    (sr_keep (TQ.mk yC5_4.2.1 yC5_4.2.2)).bind fun yC10_5 =>
    sr_step_c22 x_r y4 yC5_4 yC10_5  
   else
    if (((IntKind.wrap .u8 y4.1) == 10) : Bool) then
     (sr_num (TQ.mk yC5_4.2.1 yC5_4.2.2)).bind fun yC10_6 =>
     sr_step_c21 x_r y4 yC5_4 yC10_6  
    else
     some ((TS.mk (IntKind.wrap .u8 y4.1) yC5_4.1 0 0 false (TN.mk (TE.mk 0 0) 0 (TX.mk 0 0 0) (A8.mk 0 0 0 0 0 0 0 0) [] 0 0 ([] : List (Int))) 0 ([] : List (Int))), yC5_4.2.1, yC5_4.2.2)
def sr_step_c5 (x_r : TQ) (y4 : (Int) × (List (List UInt8)) × (Bool))   : Option ((TS) × (List (List UInt8)) × (Bool)) :=
 if (((IntKind.wrap .u8 y4.1) == 4) : Bool) then
  (sr_num (TQ.mk y4.2.1 y4.2.2)).bind fun yC5_3 =>
  some ((TS.mk (IntKind.wrap .u8 y4.1) 0 yC5_3.1 0 false (TN.mk (TE.mk 0 0) 0 (TX.mk 0 0 0) (A8.mk 0 0 0 0 0 0 0 0) [] 0 0 ([] : List (Int))) 0 ([] : List (Int))), yC5_3.2.1, yC5_3.2.2)
 else
  if (((IntKind.wrap .u8 y4.1) == 5) : Bool) then
   (sr_num (TQ.mk y4.2.1 y4.2.2)).bind fun yC5_4 =>
   sr_step_c8 x_r y4 yC5_4  
  else
   (sr_num (TQ.mk y4.2.1 y4.2.2)).bind fun yC5_4 =>
   sr_step_c10 x_r y4 yC5_4  
def sr_step (x_r : TQ) : Option ((TS) × (List (List UInt8)) × (Bool)) :=
 (script_verbs).bind fun y2 =>
 (sr_of x_r y2).bind fun y4 =>
 if (((IntKind.wrap .u8 y4.1) == 2) : Bool) then
  (sr_num (TQ.mk y4.2.1 y4.2.2)).bind fun y7 =>
  some ((TS.mk (IntKind.wrap .u8 y4.1) 0 y7.1 0 false (TN.mk (TE.mk 0 0) 0 (TX.mk 0 0 0) (A8.mk 0 0 0 0 0 0 0 0) [] 0 0 ([] : List (Int))) 0 ([] : List (Int))), y7.2.1, y7.2.2)
 else
  if (((IntKind.wrap .u8 y4.1) == 3) : Bool) then
   sr_step_c7 x_r y4  
  else
   sr_step_c5 x_r y4  
theorem sr_step_c7_ok {w0 : World} {W : Nat → Prop} {μ0 : Emb} (hμ : ∀ c p, μ0 c = some p → c < 1) (x_r : TQ) (y4 : (Int) × (List (List UInt8)) × (Bool))   (r : (TS) × (List (List UInt8)) × (Bool)) (h : sr_step_c7 x_r y4   = some r) : kont Tryz.prog w0 W μ0 (FnPost Tryz.prog Tryz.f17 1 1 (sr_step_v r) (sr_step_up x_r r)) (kAtR (bodyOf Tryz.f17) 7) none (sr_step_T1000007 y4 ) (sr_step_H1000007 y4 ) := by
 unfold sr_step_c7 at h
 obtain ⟨yC7_2, E1, h⟩ := bind_some h
 obtain rfl := si_ h
 exact rr_ [] 16 [.reg [(1, { call := some ((sr_num_v yC7_2).ren (sel [0]), preOf (sel [0]) 0 (sr_num_objs (TQ.mk y4.2.1 y4.2.2)), upOf (sel [0]) (sr_num_up (TQ.mk y4.2.1 y4.2.2) yC7_2)) })], .reg [], .wk [] [(1, .var [.int .u8 (IntKind.wrap .u8 y4.1), Z8_, .int .i64 yC7_2.1, Z8_, .bool false, Z1_, Z4_, Z1_, Z1_, Z4_, Z4_, Z1_, Z1_, Z1_, Z1_, Z1_, Z1_, Z1_, Z1_, .str [], Z1_, Z1_, zn_, Z8_, .nilsl])], .wk [] [(1, .var (c_TS (TS.mk (IntKind.wrap .u8 y4.1) 0 yC7_2.1 0 false (TN.mk (TE.mk 0 0) 0 (TX.mk 0 0 0) (A8.mk 0 0 0 0 0 0 0 0) [] 0 0 ([] : List (Int))) 0 ([] : List (Int)))))]]
  (a_ (a_ (r1_ (a_ (a_ (a_ (sr_num_ok (TQ.mk y4.2.1 y4.2.2) yC7_2 E1 (sel [0]) (sel_inj rfl rfl)) (a_ (LO.Le.refl (.var (c_TQ (TQ.mk y4.2.1 y4.2.2)))) tr)) tr) (r1_ (a_ (a_ (a_ (Eq.refl 1) (a_ (le_ 3 25 rfl) (Eq.refl 0))) tr) tr)))) (a_ (m_ 25 25 rfl (a_ (a_ (a_ (Eq.refl 25) (a_ (le_ 25 25 rfl) (Eq.refl 0))) tr) tr)) (a_ (a_ tr (a_ (LO.Sub.var (lel_set [.int .u8 (IntKind.wrap .u8 y4.1), Z8_, .int .i64 yC7_2.1, Z8_, .bool false, Z1_, Z4_, Z1_, Z1_, Z4_, Z4_, Z1_, Z1_, Z1_, Z1_, Z1_, Z1_, Z1_, Z1_, .str [], Z1_, Z1_, .nilsl, Z8_, .nilsl] 22 .nilsl zn_ rfl (le_nil_ds 1 (rowF (cInt .u8) default [])))) tr)) (a_ (a_ tr (a_ (LO.Sub.var (lel_set [.int .u8 (IntKind.wrap .u8 y4.1), Z8_, .int .i64 yC7_2.1, Z8_, .bool false, Z1_, Z4_, Z1_, Z1_, Z4_, Z4_, Z1_, Z1_, Z1_, Z1_, Z1_, Z1_, Z1_, Z1_, .str [], Z1_, Z1_, zn_, Z8_, .nilsl] 24 .nilsl zn_ rfl (le_nil_ds 1 (rowF (cInt .u8) default [])))) tr)) tr)))) (a_ (a_ tr (le_ 25 25 rfl)) tr))
theorem sr_step_c8_ok {w0 : World} {W : Nat → Prop} {μ0 : Emb} (hμ : ∀ c p, μ0 c = some p → c < 1) (x_r : TQ) (y4 : (Int) × (List (List UInt8)) × (Bool)) (yC5_4 : (Int) × (List (List UInt8)) × (Bool))   (r : (TS) × (List (List UInt8)) × (Bool)) (h : sr_step_c8 x_r y4 yC5_4   = some r) : kont Tryz.prog w0 W μ0 (FnPost Tryz.prog Tryz.f17 1 1 (sr_step_v r) (sr_step_up x_r r)) (kAtR (bodyOf Tryz.f17) 8) none (sr_step_T1000008 y4 yC5_4 ) (sr_step_H1000008 y4 yC5_4 ) := by
 unfold sr_step_c8 at h
 obtain rfl := si_ h
 exact rr_ [] 13 [.reg [], .wk [] [(1, .var [.int .u8 (IntKind.wrap .u8 y4.1), Z8_, .int .i64 yC5_4.1, Z8_, .bool false, Z1_, Z4_, Z1_, Z1_, Z4_, Z4_, Z1_, Z1_, Z1_, Z1_, Z1_, Z1_, Z1_, Z1_, .str [], Z1_, Z1_, zn_, Z8_, .nilsl])], .wk [] [(1, .var (c_TS (TS.mk (IntKind.wrap .u8 y4.1) 0 yC5_4.1 0 false (TN.mk (TE.mk 0 0) 0 (TX.mk 0 0 0) (A8.mk 0 0 0 0 0 0 0 0) [] 0 0 ([] : List (Int))) 0 ([] : List (Int)))))]]
  (a_ (a_ (m_ 25 25 rfl (a_ (a_ (a_ (Eq.refl 25) (a_ (le_ 25 25 rfl) (Eq.refl 0))) tr) tr)) (a_ (a_ tr (a_ (LO.Sub.var (lel_set [.int .u8 (IntKind.wrap .u8 y4.1), Z8_, .int .i64 yC5_4.1, Z8_, .bool false, Z1_, Z4_, Z1_, Z1_, Z4_, Z4_, Z1_, Z1_, Z1_, Z1_, Z1_, Z1_, Z1_, Z1_, .str [], Z1_, Z1_, .nilsl, Z8_, .nilsl] 22 .nilsl zn_ rfl (le_nil_ds 1 (rowF (cInt .u8) default [])))) tr)) (a_ (a_ tr (a_ (LO.Sub.var (lel_set [.int .u8 (IntKind.wrap .u8 y4.1), Z8_, .int .i64 yC5_4.1, Z8_, .bool false, Z1_, Z4_, Z1_, Z1_, Z4_, Z4_, Z1_, Z1_, Z1_, Z1_, Z1_, Z1_, Z1_, Z1_, .str [], Z1_, Z1_, zn_, Z8_, .nilsl] 24 .nilsl zn_ rfl (le_nil_ds 1 (rowF (cInt .u8) default [])))) tr)) tr))) (a_ (a_ tr (le_ 25 25 rfl)) tr))
theorem sr_step_c21_ok {w0 : World} {W : Nat → Prop} {μ0 : Emb} (hμ : ∀ c p, μ0 c = some p → c < 1) (x_r : TQ) (y4 : (Int) × (List (List UInt8)) × (Bool)) (yC5_4 : (Int) × (List (List UInt8)) × (Bool)) (yC10_6 : (Int) × (List (List UInt8)) × (Bool))   (r : (TS) × (List (List UInt8)) × (Bool)) (h : sr_step_c21 x_r y4 yC5_4 yC10_6   = some r) : kont Tryz.prog w0 W μ0 (FnPost Tryz.prog Tryz.f17 1 1 (sr_step_v r) (sr_step_up x_r r)) (kAtR (bodyOf Tryz.f17) 21) none (sr_step_T1000021 y4 yC5_4 yC10_6 ) (sr_step_H1000021 y4 yC5_4 yC10_6 ) := by
 unfold sr_step_c21 at h
 obtain ⟨yC21_2, E1, h⟩ := bind_some h
 obtain rfl := si_ h
 exact rr_ [] 16 [.reg [(1, { call := some ((sr_bytes_v yC21_2).ren (sel [0]), preOf (sel [0]) 0 (sr_bytes_objs (TQ.mk yC10_6.2.1 yC10_6.2.2)), upOf (sel [0]) (sr_bytes_up (TQ.mk yC10_6.2.1 yC10_6.2.2) yC21_2)) })], .reg [], .wk [] [(1, .var (c_TS (TS.mk (IntKind.wrap .u8 y4.1) yC5_4.1 0 0 false (TN.mk (TE.mk 0 0) 0 (TX.mk 0 0 0) (A8.mk 0 0 0 0 0 0 0 0) [] 0 0 ([] : List (Int))) yC10_6.1 yC21_2.1)))]]
  (a_ (a_ (r1_ (a_ (a_ (a_ (sr_bytes_ok (TQ.mk yC10_6.2.1 yC10_6.2.2) yC21_2 E1 (sel [0]) (sel_inj rfl rfl)) (a_ (LO.Le.refl (.var (c_TQ (TQ.mk yC10_6.2.1 yC10_6.2.2)))) tr)) tr) (r1_ (a_ (a_ (a_ (Eq.refl 1) (a_ (le_ 25 25 rfl) (Eq.refl 0))) tr) tr)))) (a_ (m_ 25 25 rfl (a_ (a_ (a_ (Eq.refl 25) (a_ (le_ 25 25 rfl) (Eq.refl 0))) tr) tr)) (a_ (a_ tr (a_ (LO.Sub.var (lel_set [.int .u8 (IntKind.wrap .u8 y4.1), .int .i64 yC5_4.1, Z8_, Z8_, .bool false, Z1_, Z4_, Z1_, Z1_, Z4_, Z4_, Z1_, Z1_, Z1_, Z1_, Z1_, Z1_, Z1_, Z1_, .str [], Z1_, Z1_, .nilsl, .int .i64 yC10_6.1, .ds 1 (yC21_2.1).length (rowF (cInt .u8) default yC21_2.1)] 22 .nilsl zn_ rfl (le_nil_ds 1 (rowF (cInt .u8) default [])))) tr)) tr))) (a_ (a_ tr (le_ 25 25 rfl)) tr))
theorem sr_step_c22_ok {w0 : World} {W : Nat → Prop} {μ0 : Emb} (hμ : ∀ c p, μ0 c = some p → c < 1) (x_r : TQ) (y4 : (Int) × (List (List UInt8)) × (Bool)) (yC5_4 : (Int) × (List (List UInt8)) × (Bool)) (yC10_5 : (Int) × (List (List UInt8)) × (Bool))   (r : (TS) × (List (List UInt8)) × (Bool)) (h : sr_step_c22 x_r y4 yC5_4 yC10_5   = some r) : kont Tryz.prog w0 W μ0 (FnPost Tryz.prog Tryz.f17 1 1 (sr_step_v r) (sr_step_up x_r r)) (kAtR (bodyOf Tryz.f17) 22) none (sr_step_T1000022 y4 yC5_4 yC10_5 ) (sr_step_H1000022 y4 yC5_4 yC10_5 ) := by
 unfold sr_step_c22 at h
 obtain rfl := si_ h
 exact rr_ [] 13 [.reg [], .wk [] [(1, .var [.int .u8 (IntKind.wrap .u8 y4.1), .int .i64 yC5_4.1, Z8_, .int .i64 yC10_5.1, .bool false, Z1_, Z4_, Z1_, Z1_, Z4_, Z4_, Z1_, Z1_, Z1_, Z1_, Z1_, Z1_, Z1_, Z1_, .str [], Z1_, Z1_, zn_, Z8_, .nilsl])], .wk [] [(1, .var (c_TS (TS.mk (IntKind.wrap .u8 y4.1) yC5_4.1 0 yC10_5.1 false (TN.mk (TE.mk 0 0) 0 (TX.mk 0 0 0) (A8.mk 0 0 0 0 0 0 0 0) [] 0 0 ([] : List (Int))) 0 ([] : List (Int)))))]]
  (a_ (a_ (m_ 25 25 rfl (a_ (a_ (a_ (Eq.refl 25) (a_ (le_ 25 25 rfl) (Eq.refl 0))) tr) tr)) (a_ (a_ tr (a_ (LO.Sub.var (lel_set [.int .u8 (IntKind.wrap .u8 y4.1), .int .i64 yC5_4.1, Z8_, .int .i64 yC10_5.1, .bool false, Z1_, Z4_, Z1_, Z1_, Z4_, Z4_, Z1_, Z1_, Z1_, Z1_, Z1_, Z1_, Z1_, Z1_, .str [], Z1_, Z1_, .nilsl, Z8_, .nilsl] 22 .nilsl zn_ rfl (le_nil_ds 1 (rowF (cInt .u8) default [])))) tr)) (a_ (a_ tr (a_ (LO.Sub.var (lel_set [.int .u8 (IntKind.wrap .u8 y4.1), .int .i64 yC5_4.1, Z8_, .int .i64 yC10_5.1, .bool false, Z1_, Z4_, Z1_, Z1_, Z4_, Z4_, Z1_, Z1_, Z1_, Z1_, Z1_, Z1_, Z1_, Z1_, .str [], Z1_, Z1_, zn_, Z8_, .nilsl] 24 .nilsl zn_ rfl (le_nil_ds 1 (rowF (cInt .u8) default [])))) tr)) tr))) (a_ (a_ tr (le_ 25 25 rfl)) tr))
theorem sr_step_c15_ok {w0 : World} {W : Nat → Prop} {μ0 : Emb} (hμ : ∀ c p, μ0 c = some p → c < 1) (x_r : TQ) (y4 : (Int) × (List (List UInt8)) × (Bool)) (yC5_4 : (Int) × (List (List UInt8)) × (Bool)) (yC10_4 : (Int) × (List (List UInt8)) × (Bool))   (r : (TS) × (List (List UInt8)) × (Bool)) (h : sr_step_c15 x_r y4 yC5_4 yC10_4   = some r) : kont Tryz.prog w0 W μ0 (FnPost Tryz.prog Tryz.f17 1 1 (sr_step_v r) (sr_step_up x_r r)) (kAtR (bodyOf Tryz.f17) 15) none (sr_step_T1000015 y4 yC5_4 yC10_4 ) (sr_step_H1000015 y4 yC5_4 yC10_4 ) := by
 unfold sr_step_c15 at h
 obtain ⟨yC15_2, E1, h⟩ := bind_some h
 obtain ⟨yC15_4, E3, h⟩ := bind_some h
 obtain rfl := si_ h
 exact rr_ [] 18 [.reg [(1, { os := [(3, .gr 1 (([[], ([119, 104, 111, 108, 101] : List UInt8), ([99, 117, 116] : List UInt8)] : List (List UInt8))).length (rowF cStr default ([[], ([119, 104, 111, 108, 101] : List UInt8), ([99, 117, 116] : List UInt8)] : List (List UInt8))))], v := some (.gs 3 (([[], ([119, 104, 111, 108, 101] : List UInt8), ([99, 117, 116] : List UInt8)] : List (List UInt8))).length), fz := true }), (2, { call := some ((sr_of_v yC15_2).ren (sel [0]), preOf (sel [0]) 0 (sr_of_objs (TQ.mk yC10_4.2.1 yC10_4.2.2) ([[], ([119, 104, 111, 108, 101] : List UInt8), ([99, 117, 116] : List UInt8)] : List (List UInt8))), upOf (sel [0]) (sr_of_up (TQ.mk yC10_4.2.1 yC10_4.2.2) ([[], ([119, 104, 111, 108, 101] : List UInt8), ([99, 117, 116] : List UInt8)] : List (List UInt8)) yC15_2)) })], .reg [(1, { call := some ((sr_bytes_v yC15_4).ren (sel [0]), preOf (sel [0]) 0 (sr_bytes_objs (TQ.mk yC15_2.2.1 yC15_2.2.2)), upOf (sel [0]) (sr_bytes_up (TQ.mk yC15_2.2.1 yC15_2.2.2) yC15_4)) })], .reg [], .wk [] [(1, .var (c_TS (TS.mk (IntKind.wrap .u8 y4.1) yC5_4.1 0 yC10_4.1 (yC15_2.1 == 2) (TN.mk (TE.mk 0 0) 0 (TX.mk 0 0 0) (A8.mk 0 0 0 0 0 0 0 0) [] 0 0 ([] : List (Int))) 0 yC15_4.1)))]]
  (a_ (a_ (r1_ (a_ (a_ (a_ (a_ (Eq.refl true) (a_ (Eq.refl 1) (a_ (lt_ 0 1 rfl) (le_ 3 16777216 rfl)))) (a_ (le_sl_gs 3 3 (some 3) rfl) (a_ (sub_lit cStr default 1 (fun _ => rfl) ([[], ([119, 104, 111, 108, 101] : List UInt8), ([99, 117, 116] : List UInt8)] : List (List UInt8))) tr))) (a_ (Nat.le_refl (([[], ([119, 104, 111, 108, 101] : List UInt8), ([99, 117, 116] : List UInt8)] : List (List UInt8))).length) (fz_row (enc := cStr) (d := default) (fun _ => rfl) ([[], ([119, 104, 111, 108, 101] : List UInt8), ([99, 117, 116] : List UInt8)] : List (List UInt8))))) (a_ (a_ (a_ (sr_of_ok (TQ.mk yC10_4.2.1 yC10_4.2.2) ([[], ([119, 104, 111, 108, 101] : List UInt8), ([99, 117, 116] : List UInt8)] : List (List UInt8)) yC15_2 E1 (sel [0]) (sel_inj rfl rfl)) (a_ (LO.Le.refl (.var (c_TQ (TQ.mk yC10_4.2.1 yC10_4.2.2)))) tr)) tr) (r2_ (a_ (a_ (a_ (Eq.refl 1) (a_ (le_ 5 25 rfl) (Eq.refl 0))) tr) tr))))) (a_ (r1_ (a_ (a_ (a_ (sr_bytes_ok (TQ.mk yC15_2.2.1 yC15_2.2.2) yC15_4 E3 (sel [0]) (sel_inj rfl rfl)) (a_ (LO.Le.refl (.var (c_TQ (TQ.mk yC15_2.2.1 yC15_2.2.2)))) tr)) tr) (r1_ (a_ (a_ (a_ (Eq.refl 1) (a_ (le_ 25 25 rfl) (Eq.refl 0))) tr) tr)))) (a_ (m_ 25 25 rfl (a_ (a_ (a_ (Eq.refl 25) (a_ (le_ 25 25 rfl) (Eq.refl 0))) tr) tr)) (a_ (a_ tr (a_ (LO.Sub.var (lel_set [.int .u8 (IntKind.wrap .u8 y4.1), .int .i64 yC5_4.1, Z8_, .int .i64 yC10_4.1, .bool (yC15_2.1 == 2), Z1_, Z4_, Z1_, Z1_, Z4_, Z4_, Z1_, Z1_, Z1_, Z1_, Z1_, Z1_, Z1_, Z1_, .str [], Z1_, Z1_, .nilsl, Z8_, .ds 1 (yC15_4.1).length (rowF (cInt .u8) default yC15_4.1)] 22 .nilsl zn_ rfl (le_nil_ds 1 (rowF (cInt .u8) default [])))) tr)) tr)))) (a_ (a_ tr (le_ 25 25 rfl)) tr))
theorem sr_step_c10_ok {w0 : World} {W : Nat → Prop} {μ0 : Emb} (hμ : ∀ c p, μ0 c = some p → c < 1) (x_r : TQ) (y4 : (Int) × (List (List UInt8)) × (Bool)) (yC5_4 : (Int) × (List (List UInt8)) × (Bool))   (r : (TS) × (List (List UInt8)) × (Bool)) (h : sr_step_c10 x_r y4 yC5_4   = some r) : kont Tryz.prog w0 W μ0 (FnPost Tryz.prog Tryz.f17 1 1 (sr_step_v r) (sr_step_up x_r r)) (kAtR (bodyOf Tryz.f17) 10) none (sr_step_T1000010 y4 yC5_4 ) (sr_step_H1000010 y4 yC5_4 ) := by
 unfold sr_step_c10 at h
 rcases itb_some h with ⟨C1, h⟩ | ⟨C1, h⟩
 ·obtain ⟨yC10_3, E2, h⟩ := bind_some h
  obtain rfl := si_ h
  exact rr_ [] 23 [.reg [], .reg [(1, hT)], .reg [(1, { call := some ((sr_call_v yC10_3).ren (sel [0]), preOf (sel [0]) 0 (sr_call_objs (TQ.mk yC5_4.2.1 yC5_4.2.2)), upOf (sel [0]) (sr_call_up (TQ.mk yC5_4.2.1 yC5_4.2.2) yC10_3)) })], .reg [], .wk [] [(1, .var (c_TS (TS.mk (IntKind.wrap .u8 y4.1) yC5_4.1 0 0 false yC10_3.1 0 ([] : List (Int)))))]]
   (a_ (a_ (r1_ (l_ 0 25 rfl tr)) (a_ (r1_ (f_ C1 tr)) (a_ (r1_ (a_ (a_ (a_ (sr_call_ok (TQ.mk yC5_4.2.1 yC5_4.2.2) yC10_3 E2 (sel [0]) (sel_inj rfl rfl)) (a_ (LO.Le.refl (.var (c_TQ (TQ.mk yC5_4.2.1 yC5_4.2.2)))) tr)) tr) (r1_ (a_ (a_ (a_ (Eq.refl 18) (a_ (le_ 23 25 rfl) (Eq.refl 0))) tr) tr)))) (a_ (m_ 25 25 rfl (a_ (a_ (a_ (Eq.refl 25) (a_ (le_ 25 25 rfl) (Eq.refl 0))) tr) tr)) (a_ (a_ tr (a_ (LO.Sub.var (lel_set [.int .u8 (IntKind.wrap .u8 y4.1), .int .i64 yC5_4.1, Z8_, Z8_, .bool false, .int .u8 yC10_3.1.f_Call.f_Client, .int .u32 yC10_3.1.f_Call.f_Seq, .int .u8 yC10_3.1.f_Kind, .int .u8 yC10_3.1.f_Tx.f_Node, .int .u32 yC10_3.1.f_Tx.f_Boot, .int .u32 yC10_3.1.f_Tx.f_Num, .int .u8 yC10_3.1.f_Key.a0, .int .u8 yC10_3.1.f_Key.a1, .int .u8 yC10_3.1.f_Key.a2, .int .u8 yC10_3.1.f_Key.a3, .int .u8 yC10_3.1.f_Key.a4, .int .u8 yC10_3.1.f_Key.a5, .int .u8 yC10_3.1.f_Key.a6, .int .u8 yC10_3.1.f_Key.a7, .str yC10_3.1.f_Value, .int .u8 yC10_3.1.f_R, .int .u8 yC10_3.1.f_W, .ds 1 (yC10_3.1.f_Votes).length (rowF (cInt .u8) default yC10_3.1.f_Votes), Z8_, .nilsl] 24 .nilsl zn_ rfl (le_nil_ds 1 (rowF (cInt .u8) default [])))) tr)) tr))))) (a_ (a_ tr (le_ 25 25 rfl)) tr))
 ·rcases itb_some h with ⟨C2, h⟩ | ⟨C2, h⟩
  ·obtain ⟨yC10_4, E3, h⟩ := bind_some h
   exact rt_ hμ [1, 2] 24 [.reg [], .reg [(1, hF)], .reg [(1, hT)], .reg [(1, { call := some ((sr_keep_v yC10_4).ren (sel [0]), preOf (sel [0]) 0 (sr_keep_objs (TQ.mk yC5_4.2.1 yC5_4.2.2)), upOf (sel [0]) (sr_keep_up (TQ.mk yC5_4.2.1 yC5_4.2.2) yC10_4)) })]]
    (a_ (r1_ (l_ 0 25 rfl tr)) (a_ (r1_ (f_ C1 tr)) (a_ (r1_ (f_ C2 tr)) (a_ (r1_ (a_ (a_ (a_ (sr_keep_ok (TQ.mk yC5_4.2.1 yC5_4.2.2) yC10_4 E3 (sel [0]) (sel_inj rfl rfl)) (a_ (LO.Le.refl (.var (c_TQ (TQ.mk yC5_4.2.1 yC5_4.2.2)))) tr)) tr) (r1_ (a_ (a_ (a_ (Eq.refl 1) (a_ (le_ 4 25 rfl) (Eq.refl 0))) tr) tr)))) tr)))) (sr_step_c15_ok hμ x_r y4 yC5_4 yC10_4   r h) ⟨rfl, rfl, rfl, trivial⟩
  ·rcases itb_some h with ⟨C3, h⟩ | ⟨C3, h⟩
   ·obtain ⟨yC10_5, E4, h⟩ := bind_some h
    exact rt_ hμ [1, 2] 28 [.reg [], .reg [(1, hF)], .reg [(1, hF)], .reg [(1, hT)], .reg [(1, { call := some ((sr_keep_v yC10_5).ren (sel [0]), preOf (sel [0]) 0 (sr_keep_objs (TQ.mk yC5_4.2.1 yC5_4.2.2)), upOf (sel [0]) (sr_keep_up (TQ.mk yC5_4.2.1 yC5_4.2.2) yC10_5)) })]]
     (a_ (r1_ (l_ 0 25 rfl tr)) (a_ (r1_ (f_ C1 tr)) (a_ (r1_ (f_ C2 tr)) (a_ (r1_ (f_ C3 tr)) (a_ (r1_ (a_ (a_ (a_ (sr_keep_ok (TQ.mk yC5_4.2.1 yC5_4.2.2) yC10_5 E4 (sel [0]) (sel_inj rfl rfl)) (a_ (LO.Le.refl (.var (c_TQ (TQ.mk yC5_4.2.1 yC5_4.2.2)))) tr)) tr) (r1_ (a_ (a_ (a_ (Eq.refl 1) (a_ (le_ 4 25 rfl) (Eq.refl 0))) tr) tr)))) tr))))) (sr_step_c22_ok hμ x_r y4 yC5_4 yC10_5   r h) ⟨rfl, rfl, rfl, trivial⟩
   ·rcases itb_some h with ⟨C4, h⟩ | ⟨C4, h⟩
    ·obtain ⟨yC10_6, E5, h⟩ := bind_some h
     exact rt_ hμ [1, 2] 31 [.reg [], .reg [(1, hF)], .reg [(1, hF)], .reg [(1, hF)], .reg [(1, hT)], .reg [(1, { call := some ((sr_num_v yC10_6).ren (sel [0]), preOf (sel [0]) 0 (sr_num_objs (TQ.mk yC5_4.2.1 yC5_4.2.2)), upOf (sel [0]) (sr_num_up (TQ.mk yC5_4.2.1 yC5_4.2.2) yC10_6)) })]]
      (a_ (r1_ (l_ 0 25 rfl tr)) (a_ (r1_ (f_ C1 tr)) (a_ (r1_ (f_ C2 tr)) (a_ (r1_ (f_ C3 tr)) (a_ (r1_ (f_ C4 tr)) (a_ (r1_ (a_ (a_ (a_ (sr_num_ok (TQ.mk yC5_4.2.1 yC5_4.2.2) yC10_6 E5 (sel [0]) (sel_inj rfl rfl)) (a_ (LO.Le.refl (.var (c_TQ (TQ.mk yC5_4.2.1 yC5_4.2.2)))) tr)) tr) (r1_ (a_ (a_ (a_ (Eq.refl 1) (a_ (le_ 24 25 rfl) (Eq.refl 0))) tr) tr)))) tr)))))) (sr_step_c21_ok hμ x_r y4 yC5_4 yC10_6   r h) ⟨rfl, rfl, rfl, trivial⟩
    ·obtain rfl := si_ h
     exact rr_ [] 35 [.reg [], .reg [(1, hF)], .reg [(1, hF)], .reg [(1, hF)], .reg [(1, hF)], .reg [], .wk [] [(1, .var [.int .u8 (IntKind.wrap .u8 y4.1), .int .i64 yC5_4.1, Z8_, Z8_, .bool false, Z1_, Z4_, Z1_, Z1_, Z4_, Z4_, Z1_, Z1_, Z1_, Z1_, Z1_, Z1_, Z1_, Z1_, .str [], Z1_, Z1_, zn_, Z8_, .nilsl])], .wk [] [(1, .var (c_TS (TS.mk (IntKind.wrap .u8 y4.1) yC5_4.1 0 0 false (TN.mk (TE.mk 0 0) 0 (TX.mk 0 0 0) (A8.mk 0 0 0 0 0 0 0 0) [] 0 0 ([] : List (Int))) 0 ([] : List (Int)))))]]
      (a_ (a_ (r1_ (l_ 0 25 rfl tr)) (a_ (r1_ (f_ C1 tr)) (a_ (r1_ (f_ C2 tr)) (a_ (r1_ (f_ C3 tr)) (a_ (r1_ (f_ C4 tr)) (a_ (m_ 25 25 rfl (a_ (a_ (a_ (Eq.refl 25) (a_ (le_ 25 25 rfl) (Eq.refl 0))) tr) tr)) (a_ (a_ tr (a_ (LO.Sub.var (lel_set [.int .u8 (IntKind.wrap .u8 y4.1), .int .i64 yC5_4.1, Z8_, Z8_, .bool false, Z1_, Z4_, Z1_, Z1_, Z4_, Z4_, Z1_, Z1_, Z1_, Z1_, Z1_, Z1_, Z1_, Z1_, .str [], Z1_, Z1_, .nilsl, Z8_, .nilsl] 22 .nilsl zn_ rfl (le_nil_ds 1 (rowF (cInt .u8) default [])))) tr)) (a_ (a_ tr (a_ (LO.Sub.var (lel_set [.int .u8 (IntKind.wrap .u8 y4.1), .int .i64 yC5_4.1, Z8_, Z8_, .bool false, Z1_, Z4_, Z1_, Z1_, Z4_, Z4_, Z1_, Z1_, Z1_, Z1_, Z1_, Z1_, Z1_, Z1_, .str [], Z1_, Z1_, zn_, Z8_, .nilsl] 24 .nilsl zn_ rfl (le_nil_ds 1 (rowF (cInt .u8) default [])))) tr)) tr)))))))) (a_ (a_ tr (le_ 25 25 rfl)) tr))
theorem sr_step_c5_ok {w0 : World} {W : Nat → Prop} {μ0 : Emb} (hμ : ∀ c p, μ0 c = some p → c < 1) (x_r : TQ) (y4 : (Int) × (List (List UInt8)) × (Bool))   (r : (TS) × (List (List UInt8)) × (Bool)) (h : sr_step_c5 x_r y4   = some r) : kont Tryz.prog w0 W μ0 (FnPost Tryz.prog Tryz.f17 1 1 (sr_step_v r) (sr_step_up x_r r)) (kAtR (bodyOf Tryz.f17) 5) none (sr_step_T1000005 y4 ) (sr_step_H1000005 y4 ) := by
 unfold sr_step_c5 at h
 rcases itb_some h with ⟨C1, h⟩ | ⟨C1, h⟩
 ·obtain ⟨yC5_3, E2, h⟩ := bind_some h
  obtain rfl := si_ h
  exact rr_ [] 22 [.reg [(1, hT)], .reg [(1, { call := some ((sr_num_v yC5_3).ren (sel [0]), preOf (sel [0]) 0 (sr_num_objs (TQ.mk y4.2.1 y4.2.2)), upOf (sel [0]) (sr_num_up (TQ.mk y4.2.1 y4.2.2) yC5_3)) })], .reg [], .wk [] [(1, .var [.int .u8 (IntKind.wrap .u8 y4.1), Z8_, .int .i64 yC5_3.1, Z8_, .bool false, Z1_, Z4_, Z1_, Z1_, Z4_, Z4_, Z1_, Z1_, Z1_, Z1_, Z1_, Z1_, Z1_, Z1_, .str [], Z1_, Z1_, zn_, Z8_, .nilsl])], .wk [] [(1, .var (c_TS (TS.mk (IntKind.wrap .u8 y4.1) 0 yC5_3.1 0 false (TN.mk (TE.mk 0 0) 0 (TX.mk 0 0 0) (A8.mk 0 0 0 0 0 0 0 0) [] 0 0 ([] : List (Int))) 0 ([] : List (Int)))))]]
   (a_ (a_ (r1_ (f_ C1 tr)) (a_ (r1_ (a_ (a_ (a_ (sr_num_ok (TQ.mk y4.2.1 y4.2.2) yC5_3 E2 (sel [0]) (sel_inj rfl rfl)) (a_ (LO.Le.refl (.var (c_TQ (TQ.mk y4.2.1 y4.2.2)))) tr)) tr) (r1_ (a_ (a_ (a_ (Eq.refl 1) (a_ (le_ 3 25 rfl) (Eq.refl 0))) tr) tr)))) (a_ (m_ 25 25 rfl (a_ (a_ (a_ (Eq.refl 25) (a_ (le_ 25 25 rfl) (Eq.refl 0))) tr) tr)) (a_ (a_ tr (a_ (LO.Sub.var (lel_set [.int .u8 (IntKind.wrap .u8 y4.1), Z8_, .int .i64 yC5_3.1, Z8_, .bool false, Z1_, Z4_, Z1_, Z1_, Z4_, Z4_, Z1_, Z1_, Z1_, Z1_, Z1_, Z1_, Z1_, Z1_, .str [], Z1_, Z1_, .nilsl, Z8_, .nilsl] 22 .nilsl zn_ rfl (le_nil_ds 1 (rowF (cInt .u8) default [])))) tr)) (a_ (a_ tr (a_ (LO.Sub.var (lel_set [.int .u8 (IntKind.wrap .u8 y4.1), Z8_, .int .i64 yC5_3.1, Z8_, .bool false, Z1_, Z4_, Z1_, Z1_, Z4_, Z4_, Z1_, Z1_, Z1_, Z1_, Z1_, Z1_, Z1_, Z1_, .str [], Z1_, Z1_, zn_, Z8_, .nilsl] 24 .nilsl zn_ rfl (le_nil_ds 1 (rowF (cInt .u8) default [])))) tr)) tr))))) (a_ (a_ tr (le_ 25 25 rfl)) tr))
 ·rcases itb_some h with ⟨C2, h⟩ | ⟨C2, h⟩
  ·obtain ⟨yC5_4, E3, h⟩ := bind_some h
   exact rt_ hμ [1, 2] 19 [.reg [(1, hF)], .reg [(1, hT)], .reg [(1, { call := some ((sr_num_v yC5_4).ren (sel [0]), preOf (sel [0]) 0 (sr_num_objs (TQ.mk y4.2.1 y4.2.2)), upOf (sel [0]) (sr_num_up (TQ.mk y4.2.1 y4.2.2) yC5_4)) })]]
    (a_ (r1_ (f_ C1 tr)) (a_ (r1_ (f_ C2 tr)) (a_ (r1_ (a_ (a_ (a_ (sr_num_ok (TQ.mk y4.2.1 y4.2.2) yC5_4 E3 (sel [0]) (sel_inj rfl rfl)) (a_ (LO.Le.refl (.var (c_TQ (TQ.mk y4.2.1 y4.2.2)))) tr)) tr) (r1_ (a_ (a_ (a_ (Eq.refl 1) (a_ (le_ 3 25 rfl) (Eq.refl 0))) tr) tr)))) tr))) (sr_step_c8_ok hμ x_r y4 yC5_4   r h) ⟨rfl, rfl, rfl, trivial⟩
  ·obtain ⟨yC5_4, E3, h⟩ := bind_some h
   exact rt_ hμ [1, 2] 22 [.reg [(1, hF)], .reg [(1, hF)], .reg [(1, { call := some ((sr_num_v yC5_4).ren (sel [0]), preOf (sel [0]) 0 (sr_num_objs (TQ.mk y4.2.1 y4.2.2)), upOf (sel [0]) (sr_num_up (TQ.mk y4.2.1 y4.2.2) yC5_4)) })]]
    (a_ (r1_ (f_ C1 tr)) (a_ (r1_ (f_ C2 tr)) (a_ (r1_ (a_ (a_ (a_ (sr_num_ok (TQ.mk y4.2.1 y4.2.2) yC5_4 E3 (sel [0]) (sel_inj rfl rfl)) (a_ (LO.Le.refl (.var (c_TQ (TQ.mk y4.2.1 y4.2.2)))) tr)) tr) (r1_ (a_ (a_ (a_ (Eq.refl 1) (a_ (le_ 2 25 rfl) (Eq.refl 0))) tr) tr)))) tr))) (sr_step_c10_ok hμ x_r y4 yC5_4   r h) ⟨rfl, rfl, rfl, trivial⟩
theorem sr_step_ok (x_r : TQ) (r : (TS) × (List (List UInt8)) × (Bool)) (h : sr_step x_r = some r) : ∀ σ, Inj 1 σ → FnTri Tryz.prog 17 (renL σ [.ptr 0 0 0]) (preOf σ 0 (sr_step_objs x_r)) ((sr_step_v r).ren σ) (upOf σ (sr_step_up x_r r)) := by
 refine fo_ Tryz.func17 ⟨rfl, trivial⟩ ⟨rfl, trivial⟩ ?_
 intro w0 W μ0 hμ
 unfold sr_step at h
 obtain ⟨y2, e1, h⟩ := bind_some h
 obtain ⟨y4, e3, h⟩ := bind_some h
 rcases itb_some h with ⟨c5, h⟩ | ⟨c5, h⟩
 ·obtain ⟨y7, e6, h⟩ := bind_some h
  obtain rfl := si_ h
  exact rr_ [] 35 [.reg [], .reg [(1, hC (script_verbs_v y2)), (2, { call := some ((sr_of_v y4).ren (sel [0]), preOf (sel [0]) 0 (sr_of_objs x_r y2), upOf (sel [0]) (sr_of_up x_r y2 y4)) })], .reg [], .reg [(1, hT)], .reg [(1, { call := some ((sr_num_v y7).ren (sel [0]), preOf (sel [0]) 0 (sr_num_objs (TQ.mk y4.2.1 y4.2.2)), upOf (sel [0]) (sr_num_up (TQ.mk y4.2.1 y4.2.2) y7)) })], .reg [], .wk [] [(1, .var [.int .u8 (IntKind.wrap .u8 y4.1), Z8_, .int .i64 y7.1, Z8_, .bool false, Z1_, Z4_, Z1_, Z1_, Z4_, Z4_, Z1_, Z1_, Z1_, Z1_, Z1_, Z1_, Z1_, Z1_, .str [], Z1_, Z1_, zn_, Z8_, .nilsl])], .wk [] [(1, .var (c_TS (TS.mk (IntKind.wrap .u8 y4.1) 0 y7.1 0 false (TN.mk (TE.mk 0 0) 0 (TX.mk 0 0 0) (A8.mk 0 0 0 0 0 0 0 0) [] 0 0 ([] : List (Int))) 0 ([] : List (Int)))))]]
   (a_ (a_ (r1_ tr) (a_ (r1_ (c_ (script_verbs_tri  y2 e1) (a_ (a_ (a_ (sr_of_ok x_r y2 y4 e3 (sel [0]) (sel_inj rfl rfl)) (a_ (LO.Le.refl (.var (c_TQ x_r))) tr)) tr) (r1_ (a_ (a_ (Eq.refl true) tr) (r1_ (a_ (a_ (a_ (Eq.refl 25) (a_ (le_ 25 25 rfl) (Eq.refl 0))) tr) tr))))))) (a_ (r1_ (l_ 0 25 rfl tr)) (a_ (r1_ (f_ c5 tr)) (a_ (r1_ (a_ (a_ (a_ (sr_num_ok (TQ.mk y4.2.1 y4.2.2) y7 e6 (sel [0]) (sel_inj rfl rfl)) (a_ (LO.Le.refl (.var (c_TQ (TQ.mk y4.2.1 y4.2.2)))) tr)) tr) (r1_ (a_ (a_ (a_ (Eq.refl 1) (a_ (le_ 3 25 rfl) (Eq.refl 0))) tr) tr)))) (a_ (m_ 25 25 rfl (a_ (a_ (a_ (Eq.refl 25) (a_ (le_ 25 25 rfl) (Eq.refl 0))) tr) tr)) (a_ (a_ tr (a_ (LO.Sub.var (lel_set [.int .u8 (IntKind.wrap .u8 y4.1), Z8_, .int .i64 y7.1, Z8_, .bool false, Z1_, Z4_, Z1_, Z1_, Z4_, Z4_, Z1_, Z1_, Z1_, Z1_, Z1_, Z1_, Z1_, Z1_, .str [], Z1_, Z1_, .nilsl, Z8_, .nilsl] 22 .nilsl zn_ rfl (le_nil_ds 1 (rowF (cInt .u8) default [])))) tr)) (a_ (a_ tr (a_ (LO.Sub.var (lel_set [.int .u8 (IntKind.wrap .u8 y4.1), Z8_, .int .i64 y7.1, Z8_, .bool false, Z1_, Z4_, Z1_, Z1_, Z4_, Z4_, Z1_, Z1_, Z1_, Z1_, Z1_, Z1_, Z1_, Z1_, .str [], Z1_, Z1_, zn_, Z8_, .nilsl] 24 .nilsl zn_ rfl (le_nil_ds 1 (rowF (cInt .u8) default [])))) tr)) tr)))))))) (a_ (a_ tr (le_ 25 25 rfl)) tr))
 ·rcases itb_some h with ⟨c6, h⟩ | ⟨c6, h⟩
  ·exact rt_ hμ [1, 2] 32 [.reg [], .reg [(1, hC (script_verbs_v y2)), (2, { call := some ((sr_of_v y4).ren (sel [0]), preOf (sel [0]) 0 (sr_of_objs x_r y2), upOf (sel [0]) (sr_of_up x_r y2 y4)) })], .reg [], .reg [(1, hF)], .reg [(1, hT)]]
    (a_ (r1_ tr) (a_ (r1_ (c_ (script_verbs_tri  y2 e1) (a_ (a_ (a_ (sr_of_ok x_r y2 y4 e3 (sel [0]) (sel_inj rfl rfl)) (a_ (LO.Le.refl (.var (c_TQ x_r))) tr)) tr) (r1_ (a_ (a_ (Eq.refl true) tr) (r1_ (a_ (a_ (a_ (Eq.refl 25) (a_ (le_ 25 25 rfl) (Eq.refl 0))) tr) tr))))))) (a_ (r1_ (l_ 0 25 rfl tr)) (a_ (r1_ (f_ c5 tr)) (a_ (r1_ (f_ c6 tr)) tr))))) (sr_step_c7_ok hμ x_r y4   r h) ⟨rfl, rfl, rfl, trivial⟩
  ·exact rt_ hμ [1, 2] 30 [.reg [], .reg [(1, hC (script_verbs_v y2)), (2, { call := some ((sr_of_v y4).ren (sel [0]), preOf (sel [0]) 0 (sr_of_objs x_r y2), upOf (sel [0]) (sr_of_up x_r y2 y4)) })], .reg [], .reg [(1, hF)], .reg [(1, hF)]]
    (a_ (r1_ tr) (a_ (r1_ (c_ (script_verbs_tri  y2 e1) (a_ (a_ (a_ (sr_of_ok x_r y2 y4 e3 (sel [0]) (sel_inj rfl rfl)) (a_ (LO.Le.refl (.var (c_TQ x_r))) tr)) tr) (r1_ (a_ (a_ (Eq.refl true) tr) (r1_ (a_ (a_ (a_ (Eq.refl 25) (a_ (le_ 25 25 rfl) (Eq.refl 0))) tr) tr))))))) (a_ (r1_ (l_ 0 25 rfl tr)) (a_ (r1_ (f_ c5 tr)) (a_ (r1_ (f_ c6 tr)) tr))))) (sr_step_c5_ok hμ x_r y4   r h) ⟨rfl, rfl, rfl, trivial⟩
/-- parrel/script.pure -/
def script_pure_v (r : (TN)) : LV := v_TN r
def script_pure_T1000011 (c : TN)  : List LV := .any :: .any :: (.ptr 0 0 0) :: (.ptr 1 0 0) :: n_ 36 []
def script_pure_H1000011 (c : TN)  : Heap := [some (.var [Z1_, Z4_, Z1_, Z1_, Z4_, Z4_, Z1_, Z1_, Z1_, Z1_, Z1_, Z1_, Z1_, Z1_, .str [], Z1_, Z1_, .nilsl]), some (.var (c_TN (TN.mk c.f_Call c.f_Kind c.f_Tx c.f_Key [] c.f_R c.f_W c.f_Votes)))]
def script_pure_T1000005 (c : TN)  : List LV := .any :: (.ptr 0 0 0) :: (.ptr 1 0 0) :: (.ptr 2 0 0) :: n_ 36 []
def script_pure_H1000005 (c : TN)  : Heap := [some (.var (c_TN c)), some (.var [Z1_, Z4_, Z1_, Z1_, Z4_, Z4_, Z1_, Z1_, Z1_, Z1_, Z1_, Z1_, Z1_, Z1_, .str [], Z1_, Z1_, .nilsl]), some (.var [.int .u8 c.f_Call.f_Client, .int .u32 c.f_Call.f_Seq, .int .u8 c.f_Kind, .int .u8 c.f_Tx.f_Node, .int .u32 c.f_Tx.f_Boot, .int .u32 c.f_Tx.f_Num, Z1_, Z1_, Z1_, Z1_, Z1_, Z1_, Z1_, Z1_, .str [], Z1_, Z1_, .nilsl])]
def script_pure_T1000006 (c : TN)  : List LV := .any :: (.ptr 0 0 0) :: (.ptr 1 0 0) :: (.ptr 2 0 0) :: n_ 36 []
def script_pure_H1000006 (c : TN)  : Heap := [some (.var (c_TN c)), some (.var [Z1_, Z4_, Z1_, Z1_, Z4_, Z4_, Z1_, Z1_, Z1_, Z1_, Z1_, Z1_, Z1_, Z1_, .str [], Z1_, Z1_, .nilsl]), some (.var [.int .u8 c.f_Call.f_Client, .int .u32 c.f_Call.f_Seq, .int .u8 c.f_Kind, .int .u8 c.f_Tx.f_Node, .int .u32 c.f_Tx.f_Boot, .int .u32 c.f_Tx.f_Num, Z1_, Z1_, Z1_, Z1_, Z1_, Z1_, Z1_, Z1_, .str [], Z1_, Z1_, .nilsl])]
def script_pure_T1001006 (c : TN)  : List LV := .any :: (.ptr 0 0 0) :: (.ptr 1 0 0) :: (.ptr 2 0 0) :: n_ 36 []
def script_pure_H1001006 (c : TN)  : Heap := [some (.var (c_TN c)), some (.var [Z1_, Z4_, Z1_, Z1_, Z4_, Z4_, Z1_, Z1_, Z1_, Z1_, Z1_, Z1_, Z1_, Z1_, .str [], Z1_, Z1_, .nilsl]), some (.var [.int .u8 c.f_Call.f_Client, .int .u32 c.f_Call.f_Seq, .int .u8 c.f_Kind, Z1_, Z4_, Z4_, .int .u8 c.f_Key.a0, .int .u8 c.f_Key.a1, .int .u8 c.f_Key.a2, .int .u8 c.f_Key.a3, .int .u8 c.f_Key.a4, .int .u8 c.f_Key.a5, .int .u8 c.f_Key.a6, .int .u8 c.f_Key.a7, .str [], Z1_, Z1_, .nilsl])]
def script_pure_T1000007 (c : TN)  : List LV := .any :: (.ptr 0 0 0) :: (.ptr 1 0 0) :: (.ptr 2 0 0) :: n_ 18 ((.int .u8 c.f_Kind) :: n_ 17 [])
def script_pure_H1000007 (c : TN)  : Heap := [some (.var (c_TN c)), some (.var [Z1_, Z4_, Z1_, Z1_, Z4_, Z4_, Z1_, Z1_, Z1_, Z1_, Z1_, Z1_, Z1_, Z1_, .str [], Z1_, Z1_, .nilsl]), some (.var [.int .u8 c.f_Call.f_Client, .int .u32 c.f_Call.f_Seq, .int .u8 c.f_Kind, Z1_, Z4_, Z4_, Z1_, Z1_, Z1_, Z1_, Z1_, Z1_, Z1_, Z1_, .str [], Z1_, Z1_, .nilsl])]
def script_pure_c11 (c : TN)   : Option ((TN)) :=
 some (TN.mk c.f_Call c.f_Kind c.f_Tx c.f_Key [] c.f_R c.f_W c.f_Votes)
def script_pure_c5 (c : TN)   : Option ((TN)) :=
 if ((c.f_Kind == 3) : Bool) then
  some (TN.mk c.f_Call c.f_Kind c.f_Tx c.f_Key c.f_Value 0 0 ([] : List (Int)))
 else
  if ((c.f_Kind == 6) : Bool) then
   script_pure_c11 c  
  else
   some (TN.mk c.f_Call c.f_Kind c.f_Tx c.f_Key [] 0 0 ([] : List (Int)))
def script_pure_c6 (c : TN)   : Option ((TN)) :=
 if ((c.f_Kind == 3) : Bool) then
  some (TN.mk c.f_Call c.f_Kind c.f_Tx (A8.mk 0 0 0 0 0 0 0 0) c.f_Value 0 0 ([] : List (Int)))
 else
  if ((c.f_Kind == 6) : Bool) then
   some (TN.mk c.f_Call c.f_Kind c.f_Tx (A8.mk 0 0 0 0 0 0 0 0) [] c.f_R c.f_W c.f_Votes)
  else
   some (TN.mk c.f_Call c.f_Kind c.f_Tx (A8.mk 0 0 0 0 0 0 0 0) [] 0 0 ([] : List (Int)))
def script_pure_c1006 (c : TN)   : Option ((TN)) :=
 if ((c.f_Kind == 3) : Bool) then
  some (TN.mk c.f_Call c.f_Kind (TX.mk 0 0 0) c.f_Key c.f_Value 0 0 ([] : List (Int)))
 else
  if ((c.f_Kind == 6) : Bool) then
   some (TN.mk c.f_Call c.f_Kind (TX.mk 0 0 0) c.f_Key [] c.f_R c.f_W c.f_Votes)
  else
   some (TN.mk c.f_Call c.f_Kind (TX.mk 0 0 0) c.f_Key [] 0 0 ([] : List (Int)))
def script_pure_c7 (c : TN)   : Option ((TN)) :=
 if ((c.f_Kind == 3) : Bool) then
  some (TN.mk c.f_Call c.f_Kind (TX.mk 0 0 0) (A8.mk 0 0 0 0 0 0 0 0) c.f_Value 0 0 ([] : List (Int)))
 else
  if ((c.f_Kind == 6) : Bool) then
   some (TN.mk c.f_Call c.f_Kind (TX.mk 0 0 0) (A8.mk 0 0 0 0 0 0 0 0) [] c.f_R c.f_W c.f_Votes)
  else
   some (TN.mk c.f_Call c.f_Kind (TX.mk 0 0 0) (A8.mk 0 0 0 0 0 0 0 0) [] 0 0 ([] : List (Int)))
def script_pure (c : TN) : Option ((TN)) :=
 if ((decide (1 < c.f_Kind)) : Bool) then
  (script_hasKey c.f_Kind).bind fun y3 =>
  if (y3 : Bool) then
   script_pure_c5 c  
  else
   script_pure_c6 c  
 else
  (script_hasKey c.f_Kind).bind fun y3 =>
  if (y3 : Bool) then
   script_pure_c1006 c  
  else
   script_pure_c7 c  
theorem script_pure_c11_ok {w0 : World} {W : Nat → Prop} {μ0 : Emb} (hμ : ∀ c p, μ0 c = some p → c < 0) (c : TN)   (r : (TN)) (h : script_pure_c11 c   = some r) : kont Tryz.prog w0 W μ0 (FnPost Tryz.prog Tryz.f73 0 0 (script_pure_v r) []) (kAtR (bodyOf Tryz.f73) 11) none (script_pure_T1000011 c ) (script_pure_H1000011 c ) := by
 unfold script_pure_c11 at h
 obtain rfl := si_ h
 exact rr_ [] 11 [.reg []]
  (a_ (a_ (m_ 18 18 rfl (a_ (a_ (a_ (Eq.refl 18) (a_ (le_ 18 18 rfl) (Eq.refl 0))) tr) tr)) tr) (a_ (a_ tr (le_ 18 18 rfl)) tr))
theorem script_pure_c5_ok {w0 : World} {W : Nat → Prop} {μ0 : Emb} (hμ : ∀ c p, μ0 c = some p → c < 0) (c : TN)   (r : (TN)) (h : script_pure_c5 c   = some r) : kont Tryz.prog w0 W μ0 (FnPost Tryz.prog Tryz.f73 0 0 (script_pure_v r) []) (kAtR (bodyOf Tryz.f73) 5) none (script_pure_T1000005 c ) (script_pure_H1000005 c ) := by
 unfold script_pure_c5 at h
 rcases itb_some h with ⟨C1, h⟩ | ⟨C1, h⟩
 ·obtain rfl := si_ h
  exact rr_ [] 27 [.reg [], .reg [], .reg [(1, hT)], .reg [], .reg [], .wk [] [(1, .var (c_TN (TN.mk c.f_Call c.f_Kind c.f_Tx c.f_Key c.f_Value 0 0 ([] : List (Int)))))]]
   (a_ (a_ (r1_ (m_ 14 18 rfl (r1_ (a_ (a_ (a_ (Eq.refl 8) (a_ (le_ 14 18 rfl) (Eq.refl 0))) tr) tr)))) (a_ (r1_ (l_ 2 18 rfl tr)) (a_ (r1_ (f_ C1 tr)) (a_ (r1_ (l_ 14 18 rfl (r1_ (a_ (a_ (a_ (Eq.refl 1) (a_ (le_ 15 18 rfl) (Eq.refl 0))) tr) tr)))) (a_ (m_ 18 18 rfl (a_ (a_ (a_ (Eq.refl 18) (a_ (le_ 18 18 rfl) (Eq.refl 0))) tr) tr)) (a_ (a_ tr (a_ (LO.Sub.var (lel_set [.int .u8 c.f_Call.f_Client, .int .u32 c.f_Call.f_Seq, .int .u8 c.f_Kind, .int .u8 c.f_Tx.f_Node, .int .u32 c.f_Tx.f_Boot, .int .u32 c.f_Tx.f_Num, .int .u8 c.f_Key.a0, .int .u8 c.f_Key.a1, .int .u8 c.f_Key.a2, .int .u8 c.f_Key.a3, .int .u8 c.f_Key.a4, .int .u8 c.f_Key.a5, .int .u8 c.f_Key.a6, .int .u8 c.f_Key.a7, .str c.f_Value, Z1_, Z1_, .nilsl] 17 .nilsl zn_ rfl (le_nil_ds 1 (rowF (cInt .u8) default [])))) tr)) tr)))))) (a_ (a_ tr (le_ 18 18 rfl)) tr))
 ·rcases itb_some h with ⟨C2, h⟩ | ⟨C2, h⟩
  ·exact rt_ hμ [1, 2] 28 [.reg [], .reg [], .reg [(1, hF)], .reg [(1, hT)], .reg []]
    (a_ (r1_ (m_ 14 18 rfl (r1_ (a_ (a_ (a_ (Eq.refl 8) (a_ (le_ 14 18 rfl) (Eq.refl 0))) tr) tr)))) (a_ (r1_ (l_ 2 18 rfl tr)) (a_ (r1_ (f_ C1 tr)) (a_ (r1_ (f_ C2 tr)) (a_ (r1_ (l_ 15 18 rfl (r1_ (l_ 16 18 rfl (r1_ (l_ 17 18 rfl (r1_ (a_ (a_ (a_ (Eq.refl 1) (a_ (le_ 16 18 rfl) (Eq.refl 0))) tr) (r1_ (a_ (a_ (a_ (Eq.refl 1) (a_ (le_ 17 18 rfl) (Eq.refl 0))) tr) (r1_ (a_ (a_ (a_ (Eq.refl 1) (a_ (le_ 18 18 rfl) (Eq.refl 0))) tr) tr)))))))))))) tr))))) (script_pure_c11_ok hμ c   r h) ⟨rfl, rfl, trivial⟩
  ·obtain rfl := si_ h
   exact rr_ [] 30 [.reg [], .reg [], .reg [(1, hF)], .reg [(1, hF)], .reg [], .wk [] [(1, .var (c_TN (TN.mk c.f_Call c.f_Kind c.f_Tx c.f_Key [] 0 0 ([] : List (Int)))))]]
    (a_ (a_ (r1_ (m_ 14 18 rfl (r1_ (a_ (a_ (a_ (Eq.refl 8) (a_ (le_ 14 18 rfl) (Eq.refl 0))) tr) tr)))) (a_ (r1_ (l_ 2 18 rfl tr)) (a_ (r1_ (f_ C1 tr)) (a_ (r1_ (f_ C2 tr)) (a_ (m_ 18 18 rfl (a_ (a_ (a_ (Eq.refl 18) (a_ (le_ 18 18 rfl) (Eq.refl 0))) tr) tr)) (a_ (a_ tr (a_ (LO.Sub.var (lel_set [.int .u8 c.f_Call.f_Client, .int .u32 c.f_Call.f_Seq, .int .u8 c.f_Kind, .int .u8 c.f_Tx.f_Node, .int .u32 c.f_Tx.f_Boot, .int .u32 c.f_Tx.f_Num, .int .u8 c.f_Key.a0, .int .u8 c.f_Key.a1, .int .u8 c.f_Key.a2, .int .u8 c.f_Key.a3, .int .u8 c.f_Key.a4, .int .u8 c.f_Key.a5, .int .u8 c.f_Key.a6, .int .u8 c.f_Key.a7, .str [], Z1_, Z1_, .nilsl] 17 .nilsl zn_ rfl (le_nil_ds 1 (rowF (cInt .u8) default [])))) tr)) tr)))))) (a_ (a_ tr (le_ 18 18 rfl)) tr))
theorem script_pure_c6_ok {w0 : World} {W : Nat → Prop} {μ0 : Emb} (hμ : ∀ c p, μ0 c = some p → c < 0) (c : TN)   (r : (TN)) (h : script_pure_c6 c   = some r) : kont Tryz.prog w0 W μ0 (FnPost Tryz.prog Tryz.f73 0 0 (script_pure_v r) []) (kAtR (bodyOf Tryz.f73) 6) none (script_pure_T1000006 c ) (script_pure_H1000006 c ) := by
 unfold script_pure_c6 at h
 rcases itb_some h with ⟨C1, h⟩ | ⟨C1, h⟩
 ·obtain rfl := si_ h
  exact rr_ [] 23 [.reg [], .reg [(1, hT)], .reg [], .reg [], .wk [] [(1, .var (c_TN (TN.mk c.f_Call c.f_Kind c.f_Tx (A8.mk 0 0 0 0 0 0 0 0) c.f_Value 0 0 ([] : List (Int)))))]]
   (a_ (a_ (r1_ (l_ 2 18 rfl tr)) (a_ (r1_ (f_ C1 tr)) (a_ (r1_ (l_ 14 18 rfl (r1_ (a_ (a_ (a_ (Eq.refl 1) (a_ (le_ 15 18 rfl) (Eq.refl 0))) tr) tr)))) (a_ (m_ 18 18 rfl (a_ (a_ (a_ (Eq.refl 18) (a_ (le_ 18 18 rfl) (Eq.refl 0))) tr) tr)) (a_ (a_ tr (a_ (LO.Sub.var (lel_set [.int .u8 c.f_Call.f_Client, .int .u32 c.f_Call.f_Seq, .int .u8 c.f_Kind, .int .u8 c.f_Tx.f_Node, .int .u32 c.f_Tx.f_Boot, .int .u32 c.f_Tx.f_Num, Z1_, Z1_, Z1_, Z1_, Z1_, Z1_, Z1_, Z1_, .str c.f_Value, Z1_, Z1_, .nilsl] 17 .nilsl zn_ rfl (le_nil_ds 1 (rowF (cInt .u8) default [])))) tr)) tr))))) (a_ (a_ tr (le_ 18 18 rfl)) tr))
 ·rcases itb_some h with ⟨C2, h⟩ | ⟨C2, h⟩
  ·obtain rfl := si_ h
   exact rr_ [] 26 [.reg [], .reg [(1, hF)], .reg [(1, hT)], .reg [], .reg []]
    (a_ (a_ (r1_ (l_ 2 18 rfl tr)) (a_ (r1_ (f_ C1 tr)) (a_ (r1_ (f_ C2 tr)) (a_ (r1_ (l_ 15 18 rfl (r1_ (l_ 16 18 rfl (r1_ (l_ 17 18 rfl (r1_ (a_ (a_ (a_ (Eq.refl 1) (a_ (le_ 16 18 rfl) (Eq.refl 0))) tr) (r1_ (a_ (a_ (a_ (Eq.refl 1) (a_ (le_ 17 18 rfl) (Eq.refl 0))) tr) (r1_ (a_ (a_ (a_ (Eq.refl 1) (a_ (le_ 18 18 rfl) (Eq.refl 0))) tr) tr)))))))))))) (a_ (m_ 18 18 rfl (a_ (a_ (a_ (Eq.refl 18) (a_ (le_ 18 18 rfl) (Eq.refl 0))) tr) tr)) tr))))) (a_ (a_ tr (le_ 18 18 rfl)) tr))
  ·obtain rfl := si_ h
   exact rr_ [] 26 [.reg [], .reg [(1, hF)], .reg [(1, hF)], .reg [], .wk [] [(1, .var (c_TN (TN.mk c.f_Call c.f_Kind c.f_Tx (A8.mk 0 0 0 0 0 0 0 0) [] 0 0 ([] : List (Int)))))]]
    (a_ (a_ (r1_ (l_ 2 18 rfl tr)) (a_ (r1_ (f_ C1 tr)) (a_ (r1_ (f_ C2 tr)) (a_ (m_ 18 18 rfl (a_ (a_ (a_ (Eq.refl 18) (a_ (le_ 18 18 rfl) (Eq.refl 0))) tr) tr)) (a_ (a_ tr (a_ (LO.Sub.var (lel_set [.int .u8 c.f_Call.f_Client, .int .u32 c.f_Call.f_Seq, .int .u8 c.f_Kind, .int .u8 c.f_Tx.f_Node, .int .u32 c.f_Tx.f_Boot, .int .u32 c.f_Tx.f_Num, Z1_, Z1_, Z1_, Z1_, Z1_, Z1_, Z1_, Z1_, .str [], Z1_, Z1_, .nilsl] 17 .nilsl zn_ rfl (le_nil_ds 1 (rowF (cInt .u8) default [])))) tr)) tr))))) (a_ (a_ tr (le_ 18 18 rfl)) tr))
theorem script_pure_c1006_ok {w0 : World} {W : Nat → Prop} {μ0 : Emb} (hμ : ∀ c p, μ0 c = some p → c < 0) (c : TN)   (r : (TN)) (h : script_pure_c1006 c   = some r) : kont Tryz.prog w0 W μ0 (FnPost Tryz.prog Tryz.f73 0 0 (script_pure_v r) []) (kAtR (bodyOf Tryz.f73) 6) none (script_pure_T1001006 c ) (script_pure_H1001006 c ) := by
 unfold script_pure_c1006 at h
 rcases itb_some h with ⟨C1, h⟩ | ⟨C1, h⟩
 ·obtain rfl := si_ h
  exact rr_ [] 23 [.reg [], .reg [(1, hT)], .reg [], .reg [], .wk [] [(1, .var (c_TN (TN.mk c.f_Call c.f_Kind (TX.mk 0 0 0) c.f_Key c.f_Value 0 0 ([] : List (Int)))))]]
   (a_ (a_ (r1_ (l_ 2 18 rfl tr)) (a_ (r1_ (f_ C1 tr)) (a_ (r1_ (l_ 14 18 rfl (r1_ (a_ (a_ (a_ (Eq.refl 1) (a_ (le_ 15 18 rfl) (Eq.refl 0))) tr) tr)))) (a_ (m_ 18 18 rfl (a_ (a_ (a_ (Eq.refl 18) (a_ (le_ 18 18 rfl) (Eq.refl 0))) tr) tr)) (a_ (a_ tr (a_ (LO.Sub.var (lel_set [.int .u8 c.f_Call.f_Client, .int .u32 c.f_Call.f_Seq, .int .u8 c.f_Kind, Z1_, Z4_, Z4_, .int .u8 c.f_Key.a0, .int .u8 c.f_Key.a1, .int .u8 c.f_Key.a2, .int .u8 c.f_Key.a3, .int .u8 c.f_Key.a4, .int .u8 c.f_Key.a5, .int .u8 c.f_Key.a6, .int .u8 c.f_Key.a7, .str c.f_Value, Z1_, Z1_, .nilsl] 17 .nilsl zn_ rfl (le_nil_ds 1 (rowF (cInt .u8) default [])))) tr)) tr))))) (a_ (a_ tr (le_ 18 18 rfl)) tr))
 ·rcases itb_some h with ⟨C2, h⟩ | ⟨C2, h⟩
  ·obtain rfl := si_ h
   exact rr_ [] 26 [.reg [], .reg [(1, hF)], .reg [(1, hT)], .reg [], .reg []]
    (a_ (a_ (r1_ (l_ 2 18 rfl tr)) (a_ (r1_ (f_ C1 tr)) (a_ (r1_ (f_ C2 tr)) (a_ (r1_ (l_ 15 18 rfl (r1_ (l_ 16 18 rfl (r1_ (l_ 17 18 rfl (r1_ (a_ (a_ (a_ (Eq.refl 1) (a_ (le_ 16 18 rfl) (Eq.refl 0))) tr) (r1_ (a_ (a_ (a_ (Eq.refl 1) (a_ (le_ 17 18 rfl) (Eq.refl 0))) tr) (r1_ (a_ (a_ (a_ (Eq.refl 1) (a_ (le_ 18 18 rfl) (Eq.refl 0))) tr) tr)))))))))))) (a_ (m_ 18 18 rfl (a_ (a_ (a_ (Eq.refl 18) (a_ (le_ 18 18 rfl) (Eq.refl 0))) tr) tr)) tr))))) (a_ (a_ tr (le_ 18 18 rfl)) tr))
  ·obtain rfl := si_ h
   exact rr_ [] 26 [.reg [], .reg [(1, hF)], .reg [(1, hF)], .reg [], .wk [] [(1, .var (c_TN (TN.mk c.f_Call c.f_Kind (TX.mk 0 0 0) c.f_Key [] 0 0 ([] : List (Int)))))]]
    (a_ (a_ (r1_ (l_ 2 18 rfl tr)) (a_ (r1_ (f_ C1 tr)) (a_ (r1_ (f_ C2 tr)) (a_ (m_ 18 18 rfl (a_ (a_ (a_ (Eq.refl 18) (a_ (le_ 18 18 rfl) (Eq.refl 0))) tr) tr)) (a_ (a_ tr (a_ (LO.Sub.var (lel_set [.int .u8 c.f_Call.f_Client, .int .u32 c.f_Call.f_Seq, .int .u8 c.f_Kind, Z1_, Z4_, Z4_, .int .u8 c.f_Key.a0, .int .u8 c.f_Key.a1, .int .u8 c.f_Key.a2, .int .u8 c.f_Key.a3, .int .u8 c.f_Key.a4, .int .u8 c.f_Key.a5, .int .u8 c.f_Key.a6, .int .u8 c.f_Key.a7, .str [], Z1_, Z1_, .nilsl] 17 .nilsl zn_ rfl (le_nil_ds 1 (rowF (cInt .u8) default [])))) tr)) tr))))) (a_ (a_ tr (le_ 18 18 rfl)) tr))
theorem script_pure_c7_ok {w0 : World} {W : Nat → Prop} {μ0 : Emb} (hμ : ∀ c p, μ0 c = some p → c < 0) (c : TN)   (r : (TN)) (h : script_pure_c7 c   = some r) : kont Tryz.prog w0 W μ0 (FnPost Tryz.prog Tryz.f73 0 0 (script_pure_v r) []) (kAtR (bodyOf Tryz.f73) 7) none (script_pure_T1000007 c ) (script_pure_H1000007 c ) := by
 unfold script_pure_c7 at h
 rcases itb_some h with ⟨C1, h⟩ | ⟨C1, h⟩
 ·obtain rfl := si_ h
  exact rr_ [] 19 [.reg [(1, hT)], .reg [], .reg [], .wk [] [(1, .var (c_TN (TN.mk c.f_Call c.f_Kind (TX.mk 0 0 0) (A8.mk 0 0 0 0 0 0 0 0) c.f_Value 0 0 ([] : List (Int)))))]]
   (a_ (a_ (r1_ (f_ C1 tr)) (a_ (r1_ (l_ 14 18 rfl (r1_ (a_ (a_ (a_ (Eq.refl 1) (a_ (le_ 15 18 rfl) (Eq.refl 0))) tr) tr)))) (a_ (m_ 18 18 rfl (a_ (a_ (a_ (Eq.refl 18) (a_ (le_ 18 18 rfl) (Eq.refl 0))) tr) tr)) (a_ (a_ tr (a_ (LO.Sub.var (lel_set [.int .u8 c.f_Call.f_Client, .int .u32 c.f_Call.f_Seq, .int .u8 c.f_Kind, Z1_, Z4_, Z4_, Z1_, Z1_, Z1_, Z1_, Z1_, Z1_, Z1_, Z1_, .str c.f_Value, Z1_, Z1_, .nilsl] 17 .nilsl zn_ rfl (le_nil_ds 1 (rowF (cInt .u8) default [])))) tr)) tr)))) (a_ (a_ tr (le_ 18 18 rfl)) tr))
 ·rcases itb_some h with ⟨C2, h⟩ | ⟨C2, h⟩
  ·obtain rfl := si_ h
   exact rr_ [] 22 [.reg [(1, hF)], .reg [(1, hT)], .reg [], .reg []]
    (a_ (a_ (r1_ (f_ C1 tr)) (a_ (r1_ (f_ C2 tr)) (a_ (r1_ (l_ 15 18 rfl (r1_ (l_ 16 18 rfl (r1_ (l_ 17 18 rfl (r1_ (a_ (a_ (a_ (Eq.refl 1) (a_ (le_ 16 18 rfl) (Eq.refl 0))) tr) (r1_ (a_ (a_ (a_ (Eq.refl 1) (a_ (le_ 17 18 rfl) (Eq.refl 0))) tr) (r1_ (a_ (a_ (a_ (Eq.refl 1) (a_ (le_ 18 18 rfl) (Eq.refl 0))) tr) tr)))))))))))) (a_ (m_ 18 18 rfl (a_ (a_ (a_ (Eq.refl 18) (a_ (le_ 18 18 rfl) (Eq.refl 0))) tr) tr)) tr)))) (a_ (a_ tr (le_ 18 18 rfl)) tr))
  ·obtain rfl := si_ h
   exact rr_ [] 22 [.reg [(1, hF)], .reg [(1, hF)], .reg [], .wk [] [(1, .var (c_TN (TN.mk c.f_Call c.f_Kind (TX.mk 0 0 0) (A8.mk 0 0 0 0 0 0 0 0) [] 0 0 ([] : List (Int)))))]]
    (a_ (a_ (r1_ (f_ C1 tr)) (a_ (r1_ (f_ C2 tr)) (a_ (m_ 18 18 rfl (a_ (a_ (a_ (Eq.refl 18) (a_ (le_ 18 18 rfl) (Eq.refl 0))) tr) tr)) (a_ (a_ tr (a_ (LO.Sub.var (lel_set [.int .u8 c.f_Call.f_Client, .int .u32 c.f_Call.f_Seq, .int .u8 c.f_Kind, Z1_, Z4_, Z4_, Z1_, Z1_, Z1_, Z1_, Z1_, Z1_, Z1_, Z1_, .str [], Z1_, Z1_, .nilsl] 17 .nilsl zn_ rfl (le_nil_ds 1 (rowF (cInt .u8) default [])))) tr)) tr)))) (a_ (a_ tr (le_ 18 18 rfl)) tr))
theorem script_pure_ok (c : TN) (r : (TN)) (h : script_pure c = some r) : ∀ σ, Inj 0 σ → FnTri Tryz.prog 73 (renL σ [v_TN c]) (preOf σ 0 []) ((script_pure_v r).ren σ) (upOf σ []) := by
 refine fo_ Tryz.func73 trivial trivial ?_
 intro w0 W μ0 hμ
 unfold script_pure at h
 rcases itb_some h with ⟨c1, h⟩ | ⟨c1, h⟩
 ·obtain ⟨y3, e2, h⟩ := bind_some h
  rcases itb_some h with ⟨c4, h⟩ | ⟨c4, h⟩
  ·exact rt_ hμ [0, 1, 2] 27 [.reg [], .reg [], .reg [(2, hT)], .reg [], .reg [(2, { call := some (script_hasKey_v y3, [], []), v := some (.bool true) })]]
    (a_ (r2_ tr) (a_ (r1_ (m_ 2 18 rfl (r1_ (l_ 2 18 rfl (a_ (a_ (Eq.refl true) tr) (r1_ (a_ (a_ (a_ (Eq.refl 18) (a_ (le_ 18 18 rfl) (Eq.refl 0))) tr) tr))))))) (a_ (r1_ (l_ 2 18 rfl (f_ c1 tr))) (a_ (r1_ (m_ 6 18 rfl (r1_ (a_ (a_ (a_ (Eq.refl 3) (a_ (le_ 6 18 rfl) (Eq.refl 0))) tr) tr)))) (a_ (r1_ (l_ 2 18 rfl (a_ (a_ (a_ (script_hasKey_tri c.f_Kind y3 e2) tr) (a_ (leB c4) tr)) tr))) tr))))) (script_pure_c5_ok hμ c   r h) ⟨rfl, rfl, rfl, trivial⟩
  ·exact rt_ hμ [0, 1, 2] 30 [.reg [], .reg [], .reg [(2, hT)], .reg [], .reg [(2, { call := some (script_hasKey_v y3, [], []), v := some (.bool false) })]]
    (a_ (r2_ tr) (a_ (r1_ (m_ 2 18 rfl (r1_ (l_ 2 18 rfl (a_ (a_ (Eq.refl true) tr) (r1_ (a_ (a_ (a_ (Eq.refl 18) (a_ (le_ 18 18 rfl) (Eq.refl 0))) tr) tr))))))) (a_ (r1_ (l_ 2 18 rfl (f_ c1 tr))) (a_ (r1_ (m_ 6 18 rfl (r1_ (a_ (a_ (a_ (Eq.refl 3) (a_ (le_ 6 18 rfl) (Eq.refl 0))) tr) tr)))) (a_ (r1_ (l_ 2 18 rfl (a_ (a_ (a_ (script_hasKey_tri c.f_Kind y3 e2) tr) (a_ (leB c4) tr)) tr))) tr))))) (script_pure_c6_ok hμ c   r h) ⟨rfl, rfl, rfl, trivial⟩
 ·obtain ⟨y3, e2, h⟩ := bind_some h
  rcases itb_some h with ⟨c4, h⟩ | ⟨c4, h⟩
  ·exact rt_ hμ [0, 1, 2] 30 [.reg [], .reg [], .reg [(2, hF)], .reg [(2, { call := some (script_hasKey_v y3, [], []), v := some (.bool true) })], .reg []]
    (a_ (r2_ tr) (a_ (r1_ (m_ 2 18 rfl (r1_ (l_ 2 18 rfl (a_ (a_ (Eq.refl true) tr) (r1_ (a_ (a_ (a_ (Eq.refl 18) (a_ (le_ 18 18 rfl) (Eq.refl 0))) tr) tr))))))) (a_ (r1_ (l_ 2 18 rfl (f_ c1 tr))) (a_ (r1_ (l_ 2 18 rfl (a_ (a_ (a_ (script_hasKey_tri c.f_Kind y3 e2) tr) (a_ (leB c4) tr)) tr))) (a_ (r1_ (m_ 14 18 rfl (r1_ (a_ (a_ (a_ (Eq.refl 8) (a_ (le_ 14 18 rfl) (Eq.refl 0))) tr) tr)))) tr))))) (script_pure_c1006_ok hμ c   r h) ⟨rfl, rfl, rfl, trivial⟩
  ·exact rt_ hμ [0, 1, 2] 33 [.reg [], .reg [], .reg [(2, hF)], .reg [(2, { call := some (script_hasKey_v y3, [], []), v := some (.bool false) })], .reg []]
    (a_ (r2_ tr) (a_ (r1_ (m_ 2 18 rfl (r1_ (l_ 2 18 rfl (a_ (a_ (Eq.refl true) tr) (r1_ (a_ (a_ (a_ (Eq.refl 18) (a_ (le_ 18 18 rfl) (Eq.refl 0))) tr) tr))))))) (a_ (r1_ (l_ 2 18 rfl (f_ c1 tr))) (a_ (r1_ (l_ 2 18 rfl (a_ (a_ (a_ (script_hasKey_tri c.f_Kind y3 e2) tr) (a_ (leB c4) tr)) tr))) (a_ (r1_ (l_ 2 18 rfl tr)) tr))))) (script_pure_c7_ok hμ c   r h) ⟨rfl, rfl, rfl, trivial⟩
theorem script_pure_tri (c : TN) (r : (TN)) (h : script_pure c = some r) : FnTri Tryz.prog 73 [v_TN c] [] (script_pure_v r) [] := FnTri.none (script_pure_ok c r h) rfl rfl
/-- parrel/script.clean -/
def script_clean_v (r : (TS)) : LV := v_TS r
def script_clean_T1000011 (s : TS)  : List LV := .any :: (.ptr 0 0 0) :: (.ptr 1 0 0) :: (.ptr 2 0 0) :: n_ 18 ((.int .u8 s.f_Kind) :: n_ 31 [])
def script_clean_H1000011 (s : TS)  : Heap := [some (.var (c_TS s)), some (.var [Z1_, Z8_, Z8_, Z8_, .bool false, Z1_, Z4_, Z1_, Z1_, Z4_, Z4_, Z1_, Z1_, Z1_, Z1_, Z1_, Z1_, Z1_, Z1_, .str [], Z1_, Z1_, .nilsl, Z8_, .nilsl]), some (.var [.int .u8 s.f_Kind, .int .i64 s.f_Node, Z8_, Z8_, .bool false, Z1_, Z4_, Z1_, Z1_, Z4_, Z4_, Z1_, Z1_, Z1_, Z1_, Z1_, Z1_, Z1_, Z1_, .str [], Z1_, Z1_, .nilsl, Z8_, .nilsl])]
def script_clean_c11 (s : TS)   : Option ((TS)) :=
 if ((s.f_Kind == 1) : Bool) then
  (script_pure s.f_Call).bind fun yC11_3 =>
  some (TS.mk s.f_Kind s.f_Node 0 0 false yC11_3 0 ([] : List (Int)))
 else
  if ((s.f_Kind == 8) : Bool) then
   some (TS.mk s.f_Kind s.f_Node 0 s.f_N s.f_Cut (TN.mk (TE.mk 0 0) 0 (TX.mk 0 0 0) (A8.mk 0 0 0 0 0 0 0 0) [] 0 0 ([] : List (Int))) 0 s.f_Bytes)
  else
   if ((s.f_Kind == 9) : Bool) then
    some (TS.mk s.f_Kind s.f_Node 0 s.f_N false (TN.mk (TE.mk 0 0) 0 (TX.mk 0 0 0) (A8.mk 0 0 0 0 0 0 0 0) [] 0 0 ([] : List (Int))) 0 ([] : List (Int)))
   else
    if ((s.f_Kind == 10) : Bool) then
     some (TS.mk s.f_Kind s.f_Node 0 0 false (TN.mk (TE.mk 0 0) 0 (TX.mk 0 0 0) (A8.mk 0 0 0 0 0 0 0 0) [] 0 0 ([] : List (Int))) s.f_To s.f_Bytes)
    else
     some (TS.mk s.f_Kind s.f_Node 0 0 false (TN.mk (TE.mk 0 0) 0 (TX.mk 0 0 0) (A8.mk 0 0 0 0 0 0 0 0) [] 0 0 ([] : List (Int))) 0 ([] : List (Int)))
def script_clean (s : TS) : Option ((TS)) :=
 if ((s.f_Kind == 2) : Bool) then
  some (TS.mk s.f_Kind 0 s.f_Wire 0 false (TN.mk (TE.mk 0 0) 0 (TX.mk 0 0 0) (A8.mk 0 0 0 0 0 0 0 0) [] 0 0 ([] : List (Int))) 0 ([] : List (Int)))
 else
  if ((s.f_Kind == 3) : Bool) then
   some (TS.mk s.f_Kind 0 s.f_Wire 0 false (TN.mk (TE.mk 0 0) 0 (TX.mk 0 0 0) (A8.mk 0 0 0 0 0 0 0 0) [] 0 0 ([] : List (Int))) 0 ([] : List (Int)))
  else
   if ((s.f_Kind == 4) : Bool) then
    some (TS.mk s.f_Kind 0 s.f_Wire 0 false (TN.mk (TE.mk 0 0) 0 (TX.mk 0 0 0) (A8.mk 0 0 0 0 0 0 0 0) [] 0 0 ([] : List (Int))) 0 ([] : List (Int)))
   else
    if ((s.f_Kind == 5) : Bool) then
     some (TS.mk s.f_Kind 0 s.f_Wire 0 false (TN.mk (TE.mk 0 0) 0 (TX.mk 0 0 0) (A8.mk 0 0 0 0 0 0 0 0) [] 0 0 ([] : List (Int))) 0 ([] : List (Int)))
    else
     script_clean_c11 s  
theorem script_clean_c11_ok {w0 : World} {W : Nat → Prop} {μ0 : Emb} (hμ : ∀ c p, μ0 c = some p → c < 0) (s : TS)   (r : (TS)) (h : script_clean_c11 s   = some r) : kont Tryz.prog w0 W μ0 (FnPost Tryz.prog Tryz.f39 0 0 (script_clean_v r) []) (kAtR (bodyOf Tryz.f39) 11) none (script_clean_T1000011 s ) (script_clean_H1000011 s ) := by
 unfold script_clean_c11 at h
 rcases itb_some h with ⟨C1, h⟩ | ⟨C1, h⟩
 ·obtain ⟨yC11_3, E2, h⟩ := bind_some h
  obtain rfl := si_ h
  exact rr_ [] 19 [.reg [(1, hT)], .reg [(2, hC (script_pure_v yC11_3))], .reg [], .wk [] [(1, .var (c_TS (TS.mk s.f_Kind s.f_Node 0 0 false yC11_3 0 ([] : List (Int)))))]]
   (a_ (a_ (r1_ (f_ C1 tr)) (a_ (r1_ (m_ 23 25 rfl (c_ (script_pure_tri s.f_Call yC11_3 E2) (r1_ (a_ (a_ (a_ (Eq.refl 18) (a_ (le_ 23 25 rfl) (Eq.refl 0))) tr) tr))))) (a_ (m_ 25 25 rfl (a_ (a_ (a_ (Eq.refl 25) (a_ (le_ 25 25 rfl) (Eq.refl 0))) tr) tr)) (a_ (a_ tr (a_ (LO.Sub.var (lel_set [.int .u8 s.f_Kind, .int .i64 s.f_Node, Z8_, Z8_, .bool false, .int .u8 yC11_3.f_Call.f_Client, .int .u32 yC11_3.f_Call.f_Seq, .int .u8 yC11_3.f_Kind, .int .u8 yC11_3.f_Tx.f_Node, .int .u32 yC11_3.f_Tx.f_Boot, .int .u32 yC11_3.f_Tx.f_Num, .int .u8 yC11_3.f_Key.a0, .int .u8 yC11_3.f_Key.a1, .int .u8 yC11_3.f_Key.a2, .int .u8 yC11_3.f_Key.a3, .int .u8 yC11_3.f_Key.a4, .int .u8 yC11_3.f_Key.a5, .int .u8 yC11_3.f_Key.a6, .int .u8 yC11_3.f_Key.a7, .str yC11_3.f_Value, .int .u8 yC11_3.f_R, .int .u8 yC11_3.f_W, .ds 1 (yC11_3.f_Votes).length (rowF (cInt .u8) default yC11_3.f_Votes), Z8_, .nilsl] 24 .nilsl zn_ rfl (le_nil_ds 1 (rowF (cInt .u8) default [])))) tr)) tr)))) (a_ (a_ tr (le_ 25 25 rfl)) tr))
 ·rcases itb_some h with ⟨C2, h⟩ | ⟨C2, h⟩
  ·obtain rfl := si_ h
   exact rr_ [] 23 [.reg [(1, hF)], .reg [(1, hT)], .reg [], .reg [], .wk [] [(1, .var (c_TS (TS.mk s.f_Kind s.f_Node 0 s.f_N s.f_Cut (TN.mk (TE.mk 0 0) 0 (TX.mk 0 0 0) (A8.mk 0 0 0 0 0 0 0 0) [] 0 0 ([] : List (Int))) 0 s.f_Bytes)))]]
    (a_ (a_ (r1_ (f_ C1 tr)) (a_ (r1_ (f_ C2 tr)) (a_ (r1_ (l_ 3 25 rfl (r1_ (l_ 4 25 rfl (r1_ (l_ 24 25 rfl (r1_ (a_ (a_ (a_ (Eq.refl 1) (a_ (le_ 4 25 rfl) (Eq.refl 0))) tr) (r1_ (a_ (a_ (a_ (Eq.refl 1) (a_ (le_ 5 25 rfl) (Eq.refl 0))) tr) (r1_ (a_ (a_ (a_ (Eq.refl 1) (a_ (le_ 25 25 rfl) (Eq.refl 0))) tr) tr)))))))))))) (a_ (m_ 25 25 rfl (a_ (a_ (a_ (Eq.refl 25) (a_ (le_ 25 25 rfl) (Eq.refl 0))) tr) tr)) (a_ (a_ tr (a_ (LO.Sub.var (lel_set [.int .u8 s.f_Kind, .int .i64 s.f_Node, Z8_, .int .i64 s.f_N, .bool s.f_Cut, Z1_, Z4_, Z1_, Z1_, Z4_, Z4_, Z1_, Z1_, Z1_, Z1_, Z1_, Z1_, Z1_, Z1_, .str [], Z1_, Z1_, .nilsl, Z8_, .ds 1 (s.f_Bytes).length (rowF (cInt .u8) default s.f_Bytes)] 22 .nilsl zn_ rfl (le_nil_ds 1 (rowF (cInt .u8) default [])))) tr)) tr))))) (a_ (a_ tr (le_ 25 25 rfl)) tr))
  ·rcases itb_some h with ⟨C3, h⟩ | ⟨C3, h⟩
   ·obtain rfl := si_ h
    exact rr_ [] 28 [.reg [(1, hF)], .reg [(1, hF)], .reg [(1, hT)], .reg [], .reg [], .wk [] [(1, .var [.int .u8 s.f_Kind, .int .i64 s.f_Node, Z8_, .int .i64 s.f_N, .bool false, Z1_, Z4_, Z1_, Z1_, Z4_, Z4_, Z1_, Z1_, Z1_, Z1_, Z1_, Z1_, Z1_, Z1_, .str [], Z1_, Z1_, zn_, Z8_, .nilsl])], .wk [] [(1, .var (c_TS (TS.mk s.f_Kind s.f_Node 0 s.f_N false (TN.mk (TE.mk 0 0) 0 (TX.mk 0 0 0) (A8.mk 0 0 0 0 0 0 0 0) [] 0 0 ([] : List (Int))) 0 ([] : List (Int)))))]]
     (a_ (a_ (r1_ (f_ C1 tr)) (a_ (r1_ (f_ C2 tr)) (a_ (r1_ (f_ C3 tr)) (a_ (r1_ (l_ 3 25 rfl (r1_ (a_ (a_ (a_ (Eq.refl 1) (a_ (le_ 4 25 rfl) (Eq.refl 0))) tr) tr)))) (a_ (m_ 25 25 rfl (a_ (a_ (a_ (Eq.refl 25) (a_ (le_ 25 25 rfl) (Eq.refl 0))) tr) tr)) (a_ (a_ tr (a_ (LO.Sub.var (lel_set [.int .u8 s.f_Kind, .int .i64 s.f_Node, Z8_, .int .i64 s.f_N, .bool false, Z1_, Z4_, Z1_, Z1_, Z4_, Z4_, Z1_, Z1_, Z1_, Z1_, Z1_, Z1_, Z1_, Z1_, .str [], Z1_, Z1_, .nilsl, Z8_, .nilsl] 22 .nilsl zn_ rfl (le_nil_ds 1 (rowF (cInt .u8) default [])))) tr)) (a_ (a_ tr (a_ (LO.Sub.var (lel_set [.int .u8 s.f_Kind, .int .i64 s.f_Node, Z8_, .int .i64 s.f_N, .bool false, Z1_, Z4_, Z1_, Z1_, Z4_, Z4_, Z1_, Z1_, Z1_, Z1_, Z1_, Z1_, Z1_, Z1_, .str [], Z1_, Z1_, zn_, Z8_, .nilsl] 24 .nilsl zn_ rfl (le_nil_ds 1 (rowF (cInt .u8) default [])))) tr)) tr))))))) (a_ (a_ tr (le_ 25 25 rfl)) tr))
   ·rcases itb_some h with ⟨C4, h⟩ | ⟨C4, h⟩
    ·obtain rfl := si_ h
     exact rr_ [] 31 [.reg [(1, hF)], .reg [(1, hF)], .reg [(1, hF)], .reg [(1, hT)], .reg [], .reg [], .wk [] [(1, .var (c_TS (TS.mk s.f_Kind s.f_Node 0 0 false (TN.mk (TE.mk 0 0) 0 (TX.mk 0 0 0) (A8.mk 0 0 0 0 0 0 0 0) [] 0 0 ([] : List (Int))) s.f_To s.f_Bytes)))]]
      (a_ (a_ (r1_ (f_ C1 tr)) (a_ (r1_ (f_ C2 tr)) (a_ (r1_ (f_ C3 tr)) (a_ (r1_ (f_ C4 tr)) (a_ (r1_ (l_ 23 25 rfl (r1_ (l_ 24 25 rfl (r1_ (a_ (a_ (a_ (Eq.refl 1) (a_ (le_ 24 25 rfl) (Eq.refl 0))) tr) (r1_ (a_ (a_ (a_ (Eq.refl 1) (a_ (le_ 25 25 rfl) (Eq.refl 0))) tr) tr)))))))) (a_ (m_ 25 25 rfl (a_ (a_ (a_ (Eq.refl 25) (a_ (le_ 25 25 rfl) (Eq.refl 0))) tr) tr)) (a_ (a_ tr (a_ (LO.Sub.var (lel_set [.int .u8 s.f_Kind, .int .i64 s.f_Node, Z8_, Z8_, .bool false, Z1_, Z4_, Z1_, Z1_, Z4_, Z4_, Z1_, Z1_, Z1_, Z1_, Z1_, Z1_, Z1_, Z1_, .str [], Z1_, Z1_, .nilsl, .int .i64 s.f_To, .ds 1 (s.f_Bytes).length (rowF (cInt .u8) default s.f_Bytes)] 22 .nilsl zn_ rfl (le_nil_ds 1 (rowF (cInt .u8) default [])))) tr)) tr))))))) (a_ (a_ tr (le_ 25 25 rfl)) tr))
    ·obtain rfl := si_ h
     exact rr_ [] 31 [.reg [(1, hF)], .reg [(1, hF)], .reg [(1, hF)], .reg [(1, hF)], .reg [], .wk [] [(1, .var [.int .u8 s.f_Kind, .int .i64 s.f_Node, Z8_, Z8_, .bool false, Z1_, Z4_, Z1_, Z1_, Z4_, Z4_, Z1_, Z1_, Z1_, Z1_, Z1_, Z1_, Z1_, Z1_, .str [], Z1_, Z1_, zn_, Z8_, .nilsl])], .wk [] [(1, .var (c_TS (TS.mk s.f_Kind s.f_Node 0 0 false (TN.mk (TE.mk 0 0) 0 (TX.mk 0 0 0) (A8.mk 0 0 0 0 0 0 0 0) [] 0 0 ([] : List (Int))) 0 ([] : List (Int)))))]]
      (a_ (a_ (r1_ (f_ C1 tr)) (a_ (r1_ (f_ C2 tr)) (a_ (r1_ (f_ C3 tr)) (a_ (r1_ (f_ C4 tr)) (a_ (m_ 25 25 rfl (a_ (a_ (a_ (Eq.refl 25) (a_ (le_ 25 25 rfl) (Eq.refl 0))) tr) tr)) (a_ (a_ tr (a_ (LO.Sub.var (lel_set [.int .u8 s.f_Kind, .int .i64 s.f_Node, Z8_, Z8_, .bool false, Z1_, Z4_, Z1_, Z1_, Z4_, Z4_, Z1_, Z1_, Z1_, Z1_, Z1_, Z1_, Z1_, Z1_, .str [], Z1_, Z1_, .nilsl, Z8_, .nilsl] 22 .nilsl zn_ rfl (le_nil_ds 1 (rowF (cInt .u8) default [])))) tr)) (a_ (a_ tr (a_ (LO.Sub.var (lel_set [.int .u8 s.f_Kind, .int .i64 s.f_Node, Z8_, Z8_, .bool false, Z1_, Z4_, Z1_, Z1_, Z4_, Z4_, Z1_, Z1_, Z1_, Z1_, Z1_, Z1_, Z1_, Z1_, .str [], Z1_, Z1_, zn_, Z8_, .nilsl] 24 .nilsl zn_ rfl (le_nil_ds 1 (rowF (cInt .u8) default [])))) tr)) tr))))))) (a_ (a_ tr (le_ 25 25 rfl)) tr))
theorem script_clean_ok (s : TS) (r : (TS)) (h : script_clean s = some r) : ∀ σ, Inj 0 σ → FnTri Tryz.prog 39 (renL σ [v_TS s]) (preOf σ 0 []) ((script_clean_v r).ren σ) (upOf σ []) := by
 refine fo_ Tryz.func39 trivial trivial ?_
 intro w0 W μ0 hμ
 unfold script_clean at h
 rcases itb_some h with ⟨c1, h⟩ | ⟨c1, h⟩
 ·obtain rfl := si_ h
  exact rr_ [] 35 [.reg [], .reg [], .reg [], .reg [(1, hT)], .reg [], .reg [], .wk [] [(1, .var [.int .u8 s.f_Kind, Z8_, .int .i64 s.f_Wire, Z8_, .bool false, Z1_, Z4_, Z1_, Z1_, Z4_, Z4_, Z1_, Z1_, Z1_, Z1_, Z1_, Z1_, Z1_, Z1_, .str [], Z1_, Z1_, zn_, Z8_, .nilsl])], .wk [] [(1, .var (c_TS (TS.mk s.f_Kind 0 s.f_Wire 0 false (TN.mk (TE.mk 0 0) 0 (TX.mk 0 0 0) (A8.mk 0 0 0 0 0 0 0 0) [] 0 0 ([] : List (Int))) 0 ([] : List (Int)))))]]
   (a_ (a_ (r2_ tr) (a_ (r1_ (l_ 0 25 rfl (a_ (a_ (Eq.refl true) tr) (r1_ (a_ (a_ (a_ (Eq.refl 25) (a_ (le_ 25 25 rfl) (Eq.refl 0))) tr) tr))))) (a_ (r1_ (l_ 0 25 rfl tr)) (a_ (r1_ (f_ c1 tr)) (a_ (r1_ (l_ 2 25 rfl (r1_ (a_ (a_ (a_ (Eq.refl 1) (a_ (le_ 3 25 rfl) (Eq.refl 0))) tr) tr)))) (a_ (m_ 25 25 rfl (a_ (a_ (a_ (Eq.refl 25) (a_ (le_ 25 25 rfl) (Eq.refl 0))) tr) tr)) (a_ (a_ tr (a_ (LO.Sub.var (lel_set [.int .u8 s.f_Kind, Z8_, .int .i64 s.f_Wire, Z8_, .bool false, Z1_, Z4_, Z1_, Z1_, Z4_, Z4_, Z1_, Z1_, Z1_, Z1_, Z1_, Z1_, Z1_, Z1_, .str [], Z1_, Z1_, .nilsl, Z8_, .nilsl] 22 .nilsl zn_ rfl (le_nil_ds 1 (rowF (cInt .u8) default [])))) tr)) (a_ (a_ tr (a_ (LO.Sub.var (lel_set [.int .u8 s.f_Kind, Z8_, .int .i64 s.f_Wire, Z8_, .bool false, Z1_, Z4_, Z1_, Z1_, Z4_, Z4_, Z1_, Z1_, Z1_, Z1_, Z1_, Z1_, Z1_, Z1_, .str [], Z1_, Z1_, zn_, Z8_, .nilsl] 24 .nilsl zn_ rfl (le_nil_ds 1 (rowF (cInt .u8) default [])))) tr)) tr)))))))) (a_ (a_ tr (le_ 25 25 rfl)) tr))
 ·rcases itb_some h with ⟨c2, h⟩ | ⟨c2, h⟩
  ·obtain rfl := si_ h
   exact rr_ [] 39 [.reg [], .reg [], .reg [], .reg [(1, hF)], .reg [(1, hT)], .reg [], .reg [], .wk [] [(1, .var [.int .u8 s.f_Kind, Z8_, .int .i64 s.f_Wire, Z8_, .bool false, Z1_, Z4_, Z1_, Z1_, Z4_, Z4_, Z1_, Z1_, Z1_, Z1_, Z1_, Z1_, Z1_, Z1_, .str [], Z1_, Z1_, zn_, Z8_, .nilsl])], .wk [] [(1, .var (c_TS (TS.mk s.f_Kind 0 s.f_Wire 0 false (TN.mk (TE.mk 0 0) 0 (TX.mk 0 0 0) (A8.mk 0 0 0 0 0 0 0 0) [] 0 0 ([] : List (Int))) 0 ([] : List (Int)))))]]
    (a_ (a_ (r2_ tr) (a_ (r1_ (l_ 0 25 rfl (a_ (a_ (Eq.refl true) tr) (r1_ (a_ (a_ (a_ (Eq.refl 25) (a_ (le_ 25 25 rfl) (Eq.refl 0))) tr) tr))))) (a_ (r1_ (l_ 0 25 rfl tr)) (a_ (r1_ (f_ c1 tr)) (a_ (r1_ (f_ c2 tr)) (a_ (r1_ (l_ 2 25 rfl (r1_ (a_ (a_ (a_ (Eq.refl 1) (a_ (le_ 3 25 rfl) (Eq.refl 0))) tr) tr)))) (a_ (m_ 25 25 rfl (a_ (a_ (a_ (Eq.refl 25) (a_ (le_ 25 25 rfl) (Eq.refl 0))) tr) tr)) (a_ (a_ tr (a_ (LO.Sub.var (lel_set [.int .u8 s.f_Kind, Z8_, .int .i64 s.f_Wire, Z8_, .bool false, Z1_, Z4_, Z1_, Z1_, Z4_, Z4_, Z1_, Z1_, Z1_, Z1_, Z1_, Z1_, Z1_, Z1_, .str [], Z1_, Z1_, .nilsl, Z8_, .nilsl] 22 .nilsl zn_ rfl (le_nil_ds 1 (rowF (cInt .u8) default [])))) tr)) (a_ (a_ tr (a_ (LO.Sub.var (lel_set [.int .u8 s.f_Kind, Z8_, .int .i64 s.f_Wire, Z8_, .bool false, Z1_, Z4_, Z1_, Z1_, Z4_, Z4_, Z1_, Z1_, Z1_, Z1_, Z1_, Z1_, Z1_, Z1_, .str [], Z1_, Z1_, zn_, Z8_, .nilsl] 24 .nilsl zn_ rfl (le_nil_ds 1 (rowF (cInt .u8) default [])))) tr)) tr))))))))) (a_ (a_ tr (le_ 25 25 rfl)) tr))
  ·rcases itb_some h with ⟨c3, h⟩ | ⟨c3, h⟩
   ·obtain rfl := si_ h
    exact rr_ [] 43 [.reg [], .reg [], .reg [], .reg [(1, hF)], .reg [(1, hF)], .reg [(1, hT)], .reg [], .reg [], .wk [] [(1, .var [.int .u8 s.f_Kind, Z8_, .int .i64 s.f_Wire, Z8_, .bool false, Z1_, Z4_, Z1_, Z1_, Z4_, Z4_, Z1_, Z1_, Z1_, Z1_, Z1_, Z1_, Z1_, Z1_, .str [], Z1_, Z1_, zn_, Z8_, .nilsl])], .wk [] [(1, .var (c_TS (TS.mk s.f_Kind 0 s.f_Wire 0 false (TN.mk (TE.mk 0 0) 0 (TX.mk 0 0 0) (A8.mk 0 0 0 0 0 0 0 0) [] 0 0 ([] : List (Int))) 0 ([] : List (Int)))))]]
     (a_ (a_ (r2_ tr) (a_ (r1_ (l_ 0 25 rfl (a_ (a_ (Eq.refl true) tr) (r1_ (a_ (a_ (a_ (Eq.refl 25) (a_ (le_ 25 25 rfl) (Eq.refl 0))) tr) tr))))) (a_ (r1_ (l_ 0 25 rfl tr)) (a_ (r1_ (f_ c1 tr)) (a_ (r1_ (f_ c2 tr)) (a_ (r1_ (f_ c3 tr)) (a_ (r1_ (l_ 2 25 rfl (r1_ (a_ (a_ (a_ (Eq.refl 1) (a_ (le_ 3 25 rfl) (Eq.refl 0))) tr) tr)))) (a_ (m_ 25 25 rfl (a_ (a_ (a_ (Eq.refl 25) (a_ (le_ 25 25 rfl) (Eq.refl 0))) tr) tr)) (a_ (a_ tr (a_ (LO.Sub.var (lel_set [.int .u8 s.f_Kind, Z8_, .int .i64 s.f_Wire, Z8_, .bool false, Z1_, Z4_, Z1_, Z1_, Z4_, Z4_, Z1_, Z1_, Z1_, Z1_, Z1_, Z1_, Z1_, Z1_, .str [], Z1_, Z1_, .nilsl, Z8_, .nilsl] 22 .nilsl zn_ rfl (le_nil_ds 1 (rowF (cInt .u8) default [])))) tr)) (a_ (a_ tr (a_ (LO.Sub.var (lel_set [.int .u8 s.f_Kind, Z8_, .int .i64 s.f_Wire, Z8_, .bool false, Z1_, Z4_, Z1_, Z1_, Z4_, Z4_, Z1_, Z1_, Z1_, Z1_, Z1_, Z1_, Z1_, Z1_, .str [], Z1_, Z1_, zn_, Z8_, .nilsl] 24 .nilsl zn_ rfl (le_nil_ds 1 (rowF (cInt .u8) default [])))) tr)) tr)))))))))) (a_ (a_ tr (le_ 25 25 rfl)) tr))
   ·rcases itb_some h with ⟨c4, h⟩ | ⟨c4, h⟩
    ·obtain rfl := si_ h
     exact rr_ [] 44 [.reg [], .reg [], .reg [], .reg [(1, hF)], .reg [(1, hF)], .reg [(1, hF)], .reg [(1, hT)], .reg [], .reg [], .wk [] [(1, .var [.int .u8 s.f_Kind, Z8_, .int .i64 s.f_Wire, Z8_, .bool false, Z1_, Z4_, Z1_, Z1_, Z4_, Z4_, Z1_, Z1_, Z1_, Z1_, Z1_, Z1_, Z1_, Z1_, .str [], Z1_, Z1_, zn_, Z8_, .nilsl])], .wk [] [(1, .var (c_TS (TS.mk s.f_Kind 0 s.f_Wire 0 false (TN.mk (TE.mk 0 0) 0 (TX.mk 0 0 0) (A8.mk 0 0 0 0 0 0 0 0) [] 0 0 ([] : List (Int))) 0 ([] : List (Int)))))]]
      (a_ (a_ (r2_ tr) (a_ (r1_ (l_ 0 25 rfl (a_ (a_ (Eq.refl true) tr) (r1_ (a_ (a_ (a_ (Eq.refl 25) (a_ (le_ 25 25 rfl) (Eq.refl 0))) tr) tr))))) (a_ (r1_ (l_ 0 25 rfl tr)) (a_ (r1_ (f_ c1 tr)) (a_ (r1_ (f_ c2 tr)) (a_ (r1_ (f_ c3 tr)) (a_ (r1_ (f_ c4 tr)) (a_ (r1_ (l_ 2 25 rfl (r1_ (a_ (a_ (a_ (Eq.refl 1) (a_ (le_ 3 25 rfl) (Eq.refl 0))) tr) tr)))) (a_ (m_ 25 25 rfl (a_ (a_ (a_ (Eq.refl 25) (a_ (le_ 25 25 rfl) (Eq.refl 0))) tr) tr)) (a_ (a_ tr (a_ (LO.Sub.var (lel_set [.int .u8 s.f_Kind, Z8_, .int .i64 s.f_Wire, Z8_, .bool false, Z1_, Z4_, Z1_, Z1_, Z4_, Z4_, Z1_, Z1_, Z1_, Z1_, Z1_, Z1_, Z1_, Z1_, .str [], Z1_, Z1_, .nilsl, Z8_, .nilsl] 22 .nilsl zn_ rfl (le_nil_ds 1 (rowF (cInt .u8) default [])))) tr)) (a_ (a_ tr (a_ (LO.Sub.var (lel_set [.int .u8 s.f_Kind, Z8_, .int .i64 s.f_Wire, Z8_, .bool false, Z1_, Z4_, Z1_, Z1_, Z4_, Z4_, Z1_, Z1_, Z1_, Z1_, Z1_, Z1_, Z1_, Z1_, .str [], Z1_, Z1_, zn_, Z8_, .nilsl] 24 .nilsl zn_ rfl (le_nil_ds 1 (rowF (cInt .u8) default [])))) tr)) tr))))))))))) (a_ (a_ tr (le_ 25 25 rfl)) tr))
    ·exact rt_ hμ [0, 1, 2] 47 [.reg [], .reg [], .reg [], .reg [(1, hF)], .reg [(1, hF)], .reg [(1, hF)], .reg [(1, hF)], .reg [], .reg []]
      (a_ (r2_ tr) (a_ (r1_ (l_ 0 25 rfl (a_ (a_ (Eq.refl true) tr) (r1_ (a_ (a_ (a_ (Eq.refl 25) (a_ (le_ 25 25 rfl) (Eq.refl 0))) tr) tr))))) (a_ (r1_ (l_ 0 25 rfl tr)) (a_ (r1_ (f_ c1 tr)) (a_ (r1_ (f_ c2 tr)) (a_ (r1_ (f_ c3 tr)) (a_ (r1_ (f_ c4 tr)) (a_ (r1_ (l_ 1 25 rfl (r1_ (a_ (a_ (a_ (Eq.refl 1) (a_ (le_ 2 25 rfl) (Eq.refl 0))) tr) tr)))) (a_ (r1_ (l_ 0 25 rfl tr)) tr))))))))) (script_clean_c11_ok hμ s   r h) ⟨rfl, rfl, rfl, trivial⟩
theorem script_clean_tri (s : TS) (r : (TS)) (h : script_clean s = some r) : FnTri Tryz.prog 39 [v_TS s] [] (script_clean_v r) [] := FnTri.none (script_clean_ok s r h) rfl rfl
/-- slices.Equal[[]uint8,uint8] -/
def slices_Equal_uint8_uint8_v (r : (Bool)) : LV := .bool r
def slices_Equal_uint8_uint8_T0 (s1 : List (Int)) (s2 : List (Int)) (t13 : Int) : List LV := (.ds 1 (s1).length (rowF (cInt .u8) default s1)) :: (.ds 1 (s2).length (rowF (cInt .u8) default s2)) :: n_ 10 ((.int .i64 ((s1).length : Int)) :: (.int .i64 t13) :: n_ 12 [])
def slices_Equal_uint8_uint8_H0 (s1 : List (Int)) (s2 : List (Int)) (t13 : Int) : Heap := []
def slices_Equal_uint8_uint8_l0 (s1 : List (Int)) (s2 : List (Int))  : Nat → (Int) → Option ((Bool))
 | 0, _ => none
 | fuel + 1, t13 =>
  if ((decide (t13 < ((s1).length : Int))) : Bool) then
   if 0 ≤ t13 ∧ t13 < (((s1).length : Nat) : Int) then
   if 0 ≤ t13 ∧ t13 < (((s2).length : Nat) : Int) then
   if (((s1.getD t13.toNat default) != (s2.getD t13.toNat default)) : Bool) then
    some false
   else
    slices_Equal_uint8_uint8_l0 s1 s2  fuel (IntKind.wrap .i64 (t13 + 1))
   else none
   else none
  else
   some true
def slices_Equal_uint8_uint8 (s1 : List (Int)) (s2 : List (Int)) : Option ((Bool)) :=
 if ((((s1).length : Int) != ((s2).length : Int)) : Bool) then
  some false
 else
  slices_Equal_uint8_uint8_l0 s1 s2  big 0
theorem slices_Equal_uint8_uint8_l0_ok {w0 : World} {W : Nat → Prop} {μ0 : Emb} (hμ : ∀ c p, μ0 c = some p → c < 0) (s1 : List (Int)) (s2 : List (Int)) : ∀ (fuel : Nat) (t13 : Int) (r : (Bool)), slices_Equal_uint8_uint8_l0 s1 s2  fuel t13 = some r → kont Tryz.prog w0 W μ0 (FnPost Tryz.prog Tryz.f91 0 0 (slices_Equal_uint8_uint8_v r) []) (kAt (bodyOf Tryz.f91) 0) none (slices_Equal_uint8_uint8_T0 s1 s2 t13) (slices_Equal_uint8_uint8_H0 s1 s2 t13) := by
 intro fuel
 induction fuel with
 | zero => intro t13 r h; rw [slices_Equal_uint8_uint8_l0] at h; cases h
 | succ fuel ih =>
  intro t13 r h
  rw [slices_Equal_uint8_uint8_l0] at h
  rcases itb_some h with ⟨C1, h⟩ | ⟨C1, h⟩
  ·obtain ⟨G2, h⟩ := guard_some h
   obtain ⟨G3, h⟩ := guard_some h
   rcases itb_some h with ⟨C4, h⟩ | ⟨C4, h⟩
   ·obtain rfl := si_ h
    exact rr_ [] 28 [.go, .reg [(0, hT)], .reg [], .reg [(8, hT)], .reg []]
     (a_ (a_ (f_ C1 tr) (a_ (r2_ tr) (a_ (r2_ (a_ (a_ (a_ (Eq.refl 1) G2) tr) (a_ (a_ (lt_ 0 1 rfl) tr) (r2_ (a_ (a_ (a_ (Eq.refl 1) G3) tr) (a_ (a_ (lt_ 0 1 rfl) tr) (f_ C4 tr))))))) (a_ (r1_ tr) tr)))) tr)
   ·exact rt_ hμ [] 29 [.go, .reg [(0, hT)], .reg [], .reg [(8, hF)], .reg []]
     (a_ (f_ C1 tr) (a_ (r2_ tr) (a_ (r2_ (a_ (a_ (a_ (Eq.refl 1) G2) tr) (a_ (a_ (lt_ 0 1 rfl) tr) (r2_ (a_ (a_ (a_ (Eq.refl 1) G3) tr) (a_ (a_ (lt_ 0 1 rfl) tr) (f_ C4 tr))))))) (a_ (r2_ tr) tr)))) (ih _ r h) trivial
  ·obtain rfl := si_ h
   exact rr_ [] 19 [.go, .reg [(0, hF)], .reg []]
    (a_ (a_ (f_ C1 tr) (a_ (r1_ tr) tr)) tr)
theorem slices_Equal_uint8_uint8_ok (s1 : List (Int)) (s2 : List (Int)) (r : (Bool)) (h : slices_Equal_uint8_uint8 s1 s2 = some r) : ∀ σ, Inj 0 σ → FnTri Tryz.prog 91 (renL σ [.ds 1 (s1).length (rowF (cInt .u8) default s1), .ds 1 (s2).length (rowF (cInt .u8) default s2)]) (preOf σ 0 []) ((slices_Equal_uint8_uint8_v r).ren σ) (upOf σ []) := by
 refine fo_ Tryz.func91 trivial trivial ?_
 intro w0 W μ0 hμ
 unfold slices_Equal_uint8_uint8 at h
 rcases itb_some h with ⟨c1, h⟩ | ⟨c1, h⟩
 ·obtain rfl := si_ h
  exact rr_ [] 20 [.reg [], .reg [(4, hT)], .reg []]
   (a_ (a_ (r1_ tr) (a_ (r4_ (f_ c1 tr)) (a_ (r1_ tr) tr))) tr)
 ·exact rt_ hμ [] 24 [.reg [], .reg [(4, hF)], .reg []]
   (a_ (r1_ tr) (a_ (r4_ (f_ c1 tr)) (a_ (r1_ (r2_ tr)) tr))) (slices_Equal_uint8_uint8_l0_ok hμ s1 s2  big _ r h) trivial
theorem slices_Equal_uint8_uint8_tri (s1 : List (Int)) (s2 : List (Int)) (r : (Bool)) (h : slices_Equal_uint8_uint8 s1 s2 = some r) : FnTri Tryz.prog 91 [.ds 1 (s1).length (rowF (cInt .u8) default s1), .ds 1 (s2).length (rowF (cInt .u8) default s2)] [] (slices_Equal_uint8_uint8_v r) [] := FnTri.none (slices_Equal_uint8_uint8_ok s1 s2 r h) rfl rfl
end
end Go.Proofs.YtdchgoaokceomaaGreatDoor.Wk
