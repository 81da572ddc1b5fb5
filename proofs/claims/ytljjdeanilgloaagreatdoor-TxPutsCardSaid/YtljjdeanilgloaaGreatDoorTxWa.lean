import Derived.Test.YtljjdeanilgloaaGreatDoorProg
import Derived.Test.YtljjdeanilgloaaGreatDoorCnW
import Derived.Test.YtljjdeanilgloaaGreatDoorCnXb
import Derived.WalkKit
import Derived.TacticsInMore
import Derived.RegionIn
import Derived.LoopNIn
import Derived.LoopIn
import Derived.ControlIn
import Derived.Test.YtljjdeanilgloaaGreatDoorCnZa
import Derived.Lib.AppendZeros
import Derived.WalkKit
import Derived.Deep.LoopGhost
import Derived.Deep.Draws
import Derived.Shelf.Spec.TrailingZeros
namespace Go.Proofs.YtljjdeanilgloaaGreatDoor.Wk
open Go Go.Cn Go.RowKit
set_option maxRecDepth 100000
set_option maxHeartbeats 4000000
set_option linter.unusedVariables false
set_option linter.unusedSimpArgs false
noncomputable section
theorem mixed : Tryz.prog.follows .mixedOrders = true := by kernel_rfl
theorem si_ {α : Type} {a b : α} (h : some a = some b) : a = b := Option.some.inj h
theorem sj_ {l : List Nat} {n : Nat} (h : nodupB l = true := by rfl) (hn : n = l.length := by rfl) : Inj n (sel l) := sel_inj h hn
theorem rl_ (o : LO) : LO.Le o o := LO.Le.refl o
abbrev hv_ (v : LV) : Hint := { v := some v }
theorem rr_ {w0 : World} {W : Nat → Prop} {μ0 : Emb} {fn : Func} {m : Nat} {v : LV} {up : Upd} {k : List It} {T : List LV} {H : Heap} {q : Prop} {nn : Nat} (L : List Nat) (n : Nat) (s : List Tok) (hq : q) (h : runRet Tryz.prog fn m L up n s k T H = some (q, v.ren (tau m L), renUp (tau m L) up) := by kernel_rfl) (hn : nn = m + L.length := by rfl) : kont Tryz.prog w0 W μ0 (FnPost Tryz.prog fn m nn v up) k none T H := run_ret mixed (L := L) (n := n) (s := s) hq h hn
theorem rt_ {w0 : World} {W : Nat → Prop} {μ0 : Emb} {Post : List LV → Heap → Prop} {m : Nat} {T' : List LV} {H' : Heap} {k k' : List It} {T : List LV} {H : Heap} {q : Prop} (hμ0 : ∀ c p, μ0 c = some p → c < m) (L : List Nat) (n : Nat) (s : List Tok) (hq : q) (hk : kont Tryz.prog w0 W μ0 Post k' none T' H') (hu : underH H'.length H') (h : runTo Tryz.prog m L T' H' n s k T H = some (q, k', renL (tau m L) T', renH (tau m L) H') := by kernel_rfl) : kont Tryz.prog w0 W μ0 Post k none T H := run_to mixed hμ0 (L := L) (n := n) (s := s) hq hk h hu
theorem fo_ {f : FuncId} {fn : Func} {args : List LV} {objs : List LO} {n : Nat} {v : LV} {up : Upd} (hf : Tryz.prog.funcs[f]? = some fn) (h2 : objsUnder objs.length objs) (h4 : upUnder n up) (h : ∀ w0 W μ0, (∀ c p, μ0 c = some p → c < objs.length) → kont Tryz.prog w0 W μ0 (FnPost Tryz.prog fn objs.length n v up) [.code (bodyOf fn)] none (startOf fn args) (objs.map some)) (hn : (fn.name == "runtime.NumGoroutine") = false := by kernel_rfl) (hb : fn.body = some (bodyOf fn) := by kernel_rfl) (h1 : underL objs.length args = true := by kernel_rfl) (h3 : v.under n = true := by kernel_rfl) (h5 : sigB objs n up = true := by kernel_rfl) : ∀ σ, Inj n σ → FnTri Tryz.prog f (renL σ args) (preOf σ 0 objs) (v.ren σ) (upOf σ up) := fn_of hf hn hb h1 h2 h3 h4 h5 h
theorem uP {n : Nat} : ∀ x ∈ ([] : List (LV × Nat)), x.2 < n := fun x hx => by simp at hx
theorem vl_ (o : LV) : LV.Le o o := LV.Le.refl o
abbrev hk_ (x : LV × Pre × Upd) : Hint := { call := some x }
def hK_ (l : List Nat) (v : LV) (o : List LO) (u : Upd) := (v.ren (sel l), preOf (sel l) 0 o, upOf (sel l) u)
def n_ : Nat → List LV → List LV
 | 0, r => r
 | n + 1, r => .any :: n_ n r
def Lt_ (μ0 : Emb) (m : Nat) : Prop := ∀ c p, μ0 c = some p → c < m
abbrev Kt_ (w0 : World) (W : Nat → Prop) (μ0 : Emb) (F : Func) (m n : Nat) (v : LV) (u : Upd) (k : List It) (T : List LV) (H : Heap) : Prop := kont Tryz.prog w0 W μ0 (FnPost Tryz.prog F m n v u) k none T H
structure Bg where
 f_Epoch : Int
 f_R : Int
 f_W : Int
 f_Votes : A8 (Int)
 deriving DecidableEq, Inhabited
def c_Bg (x : Bg) : List LV := [.int .u32 x.f_Epoch, .int .u8 x.f_R, .int .u8 x.f_W, .int .u8 x.f_Votes.a0, .int .u8 x.f_Votes.a1, .int .u8 x.f_Votes.a2, .int .u8 x.f_Votes.a3, .int .u8 x.f_Votes.a4, .int .u8 x.f_Votes.a5, .int .u8 x.f_Votes.a6, .int .u8 x.f_Votes.a7]
def v_Bg (x : Bg) : LV := .agg (c_Bg x)
structure Bj where
 f_Boot : Int
 f_N : Int
 deriving DecidableEq, Inhabited
def c_Bj (x : Bj) : List LV := [.int .u32 x.f_Boot, .int .u32 x.f_N]
def v_Bj (x : Bj) : LV := .agg (c_Bj x)
theorem x_Bj (a b : Bj) : a = b ↔ a.f_Boot = b.f_Boot ∧ a.f_N = b.f_N := by
 cases a; cases b; simp
theorem k_Bj (a b : Bj) : eqK (v_Bj a) (v_Bj b) = decide (a = b) := by
 rw [Bool.eq_iff_iff, decide_eq_true_eq]
 simp only [x_Bj, v_Bj, c_Bj, eqK, eqCs, eqC, Bool.and_eq_true, beq_iff_eq, and_assoc, and_true]
structure Bn where
 f_Version : Int
 f_Value : List UInt8
 f_Conf : Bg
 deriving DecidableEq, Inhabited
def c_Bn (x : Bn) : List LV := [.int .u32 x.f_Version, .str x.f_Value, .int .u32 x.f_Conf.f_Epoch, .int .u8 x.f_Conf.f_R, .int .u8 x.f_Conf.f_W, .int .u8 x.f_Conf.f_Votes.a0, .int .u8 x.f_Conf.f_Votes.a1, .int .u8 x.f_Conf.f_Votes.a2, .int .u8 x.f_Conf.f_Votes.a3, .int .u8 x.f_Conf.f_Votes.a4, .int .u8 x.f_Conf.f_Votes.a5, .int .u8 x.f_Conf.f_Votes.a6, .int .u8 x.f_Conf.f_Votes.a7]
def v_Bn (x : Bn) : LV := .agg (c_Bn x)
structure Bq where
 f_Node : Int
 f_Reg : Bj
 f_Item : Bn
 deriving DecidableEq, Inhabited
def c_Bq (x : Bq) : List LV := [.int .u8 x.f_Node, .int .u32 x.f_Reg.f_Boot, .int .u32 x.f_Reg.f_N, .int .u32 x.f_Item.f_Version, .str x.f_Item.f_Value, .int .u32 x.f_Item.f_Conf.f_Epoch, .int .u8 x.f_Item.f_Conf.f_R, .int .u8 x.f_Item.f_Conf.f_W, .int .u8 x.f_Item.f_Conf.f_Votes.a0, .int .u8 x.f_Item.f_Conf.f_Votes.a1, .int .u8 x.f_Item.f_Conf.f_Votes.a2, .int .u8 x.f_Item.f_Conf.f_Votes.a3, .int .u8 x.f_Item.f_Conf.f_Votes.a4, .int .u8 x.f_Item.f_Conf.f_Votes.a5, .int .u8 x.f_Item.f_Conf.f_Votes.a6, .int .u8 x.f_Item.f_Conf.f_Votes.a7]
def v_Bq (x : Bq) : LV := .agg (c_Bq x)
structure Bl where
 f_Kind : Int
 f_Key : A8 (Int)
 f_Mode : Int
 f_Conf : Bg
 f_More : Bg
 f_Got : Bq
 f_Text : List UInt8
 deriving DecidableEq, Inhabited
def c_Bl (x : Bl) : List LV := [.int .u8 x.f_Kind, .int .u8 x.f_Key.a0, .int .u8 x.f_Key.a1, .int .u8 x.f_Key.a2, .int .u8 x.f_Key.a3, .int .u8 x.f_Key.a4, .int .u8 x.f_Key.a5, .int .u8 x.f_Key.a6, .int .u8 x.f_Key.a7, .int .u8 x.f_Mode, .int .u32 x.f_Conf.f_Epoch, .int .u8 x.f_Conf.f_R, .int .u8 x.f_Conf.f_W, .int .u8 x.f_Conf.f_Votes.a0, .int .u8 x.f_Conf.f_Votes.a1, .int .u8 x.f_Conf.f_Votes.a2, .int .u8 x.f_Conf.f_Votes.a3, .int .u8 x.f_Conf.f_Votes.a4, .int .u8 x.f_Conf.f_Votes.a5, .int .u8 x.f_Conf.f_Votes.a6, .int .u8 x.f_Conf.f_Votes.a7, .int .u32 x.f_More.f_Epoch, .int .u8 x.f_More.f_R, .int .u8 x.f_More.f_W, .int .u8 x.f_More.f_Votes.a0, .int .u8 x.f_More.f_Votes.a1, .int .u8 x.f_More.f_Votes.a2, .int .u8 x.f_More.f_Votes.a3, .int .u8 x.f_More.f_Votes.a4, .int .u8 x.f_More.f_Votes.a5, .int .u8 x.f_More.f_Votes.a6, .int .u8 x.f_More.f_Votes.a7, .int .u8 x.f_Got.f_Node, .int .u32 x.f_Got.f_Reg.f_Boot, .int .u32 x.f_Got.f_Reg.f_N, .int .u32 x.f_Got.f_Item.f_Version, .str x.f_Got.f_Item.f_Value, .int .u32 x.f_Got.f_Item.f_Conf.f_Epoch, .int .u8 x.f_Got.f_Item.f_Conf.f_R, .int .u8 x.f_Got.f_Item.f_Conf.f_W, .int .u8 x.f_Got.f_Item.f_Conf.f_Votes.a0, .int .u8 x.f_Got.f_Item.f_Conf.f_Votes.a1, .int .u8 x.f_Got.f_Item.f_Conf.f_Votes.a2, .int .u8 x.f_Got.f_Item.f_Conf.f_Votes.a3, .int .u8 x.f_Got.f_Item.f_Conf.f_Votes.a4, .int .u8 x.f_Got.f_Item.f_Conf.f_Votes.a5, .int .u8 x.f_Got.f_Item.f_Conf.f_Votes.a6, .int .u8 x.f_Got.f_Item.f_Conf.f_Votes.a7, .str x.f_Text]
def v_Bl (x : Bl) : LV := .agg (c_Bl x)
structure Br where
 f_Node : Int
 f_Boot : Int
 f_Num : Int
 deriving DecidableEq, Inhabited
def c_Br (x : Br) : List LV := [.int .u8 x.f_Node, .int .u32 x.f_Boot, .int .u32 x.f_Num]
def v_Br (x : Br) : LV := .agg (c_Br x)
structure Bi where
 f_Time : Int
 f_Tx : Br
 deriving DecidableEq, Inhabited
def c_Bi (x : Bi) : List LV := [.int .u32 x.f_Time, .int .u8 x.f_Tx.f_Node, .int .u32 x.f_Tx.f_Boot, .int .u32 x.f_Tx.f_Num]
def v_Bi (x : Bi) : LV := .agg (c_Bi x)
structure Bh where
 f_key : A8 (Int)
 f_mode : Int
 deriving DecidableEq, Inhabited
def c_Bh (x : Bh) : List LV := [.int .u8 x.f_key.a0, .int .u8 x.f_key.a1, .int .u8 x.f_key.a2, .int .u8 x.f_key.a3, .int .u8 x.f_key.a4, .int .u8 x.f_key.a5, .int .u8 x.f_key.a6, .int .u8 x.f_key.a7, .int .u8 x.f_mode]
def v_Bh (x : Bh) : LV := .agg (c_Bh x)
theorem x_Bh (a b : Bh) : a = b ↔ a.f_key = b.f_key ∧ a.f_mode = b.f_mode := by
 cases a; cases b; simp
theorem k_Bh (a b : Bh) : eqK (v_Bh a) (v_Bh b) = decide (a = b) := by
 rw [Bool.eq_iff_iff, decide_eq_true_eq]
 simp only [x_Bh, A8.x, v_Bh, c_Bh, eqK, eqCs, eqC, Bool.and_eq_true, beq_iff_eq, and_assoc, and_true]
structure Bk where
 f_Node : Int
 f_Reg : Bj
 f_Item : Bn
 deriving DecidableEq, Inhabited
def c_Bk (x : Bk) : List LV := [.int .u8 x.f_Node, .int .u32 x.f_Reg.f_Boot, .int .u32 x.f_Reg.f_N, .int .u32 x.f_Item.f_Version, .str x.f_Item.f_Value, .int .u32 x.f_Item.f_Conf.f_Epoch, .int .u8 x.f_Item.f_Conf.f_R, .int .u8 x.f_Item.f_Conf.f_W, .int .u8 x.f_Item.f_Conf.f_Votes.a0, .int .u8 x.f_Item.f_Conf.f_Votes.a1, .int .u8 x.f_Item.f_Conf.f_Votes.a2, .int .u8 x.f_Item.f_Conf.f_Votes.a3, .int .u8 x.f_Item.f_Conf.f_Votes.a4, .int .u8 x.f_Item.f_Conf.f_Votes.a5, .int .u8 x.f_Item.f_Conf.f_Votes.a6, .int .u8 x.f_Item.f_Conf.f_Votes.a7]
def v_Bk (x : Bk) : LV := .agg (c_Bk x)
structure Bf where
 f_mode : Int
 f_conf : Bg
 f_more : List (Bg)
 f_grants : A8 (Bk)
 f_nodes : Int
 deriving DecidableEq, Inhabited
abbrev A_ := List (Bh × Bf)
abbrev B_ := List (A8 (Int) × List UInt8)
abbrev C_ := List (A8 (Int) × Bg)
abbrev D_ := A8 (Bj)
abbrev E_ := Option (Bf)
abbrev F_ := List (Bk)
abbrev G_ := A8 (Bk)
abbrev H_ := List (Bg)
abbrev I_ := A8 (Int)
abbrev J_ := List UInt8
def c_Bf (x : Bf) : List LV := [.int .u8 x.f_mode, .int .u32 x.f_conf.f_Epoch, .int .u8 x.f_conf.f_R, .int .u8 x.f_conf.f_W, .int .u8 x.f_conf.f_Votes.a0, .int .u8 x.f_conf.f_Votes.a1, .int .u8 x.f_conf.f_Votes.a2, .int .u8 x.f_conf.f_Votes.a3, .int .u8 x.f_conf.f_Votes.a4, .int .u8 x.f_conf.f_Votes.a5, .int .u8 x.f_conf.f_Votes.a6, .int .u8 x.f_conf.f_Votes.a7, .ds 11 (x.f_more).length (rowF c_Bg default x.f_more), .int .u8 x.f_grants.a0.f_Node, .int .u32 x.f_grants.a0.f_Reg.f_Boot, .int .u32 x.f_grants.a0.f_Reg.f_N, .int .u32 x.f_grants.a0.f_Item.f_Version, .str x.f_grants.a0.f_Item.f_Value, .int .u32 x.f_grants.a0.f_Item.f_Conf.f_Epoch, .int .u8 x.f_grants.a0.f_Item.f_Conf.f_R, .int .u8 x.f_grants.a0.f_Item.f_Conf.f_W, .int .u8 x.f_grants.a0.f_Item.f_Conf.f_Votes.a0, .int .u8 x.f_grants.a0.f_Item.f_Conf.f_Votes.a1, .int .u8 x.f_grants.a0.f_Item.f_Conf.f_Votes.a2, .int .u8 x.f_grants.a0.f_Item.f_Conf.f_Votes.a3, .int .u8 x.f_grants.a0.f_Item.f_Conf.f_Votes.a4, .int .u8 x.f_grants.a0.f_Item.f_Conf.f_Votes.a5, .int .u8 x.f_grants.a0.f_Item.f_Conf.f_Votes.a6, .int .u8 x.f_grants.a0.f_Item.f_Conf.f_Votes.a7, .int .u8 x.f_grants.a1.f_Node, .int .u32 x.f_grants.a1.f_Reg.f_Boot, .int .u32 x.f_grants.a1.f_Reg.f_N, .int .u32 x.f_grants.a1.f_Item.f_Version, .str x.f_grants.a1.f_Item.f_Value, .int .u32 x.f_grants.a1.f_Item.f_Conf.f_Epoch, .int .u8 x.f_grants.a1.f_Item.f_Conf.f_R, .int .u8 x.f_grants.a1.f_Item.f_Conf.f_W, .int .u8 x.f_grants.a1.f_Item.f_Conf.f_Votes.a0, .int .u8 x.f_grants.a1.f_Item.f_Conf.f_Votes.a1, .int .u8 x.f_grants.a1.f_Item.f_Conf.f_Votes.a2, .int .u8 x.f_grants.a1.f_Item.f_Conf.f_Votes.a3, .int .u8 x.f_grants.a1.f_Item.f_Conf.f_Votes.a4, .int .u8 x.f_grants.a1.f_Item.f_Conf.f_Votes.a5, .int .u8 x.f_grants.a1.f_Item.f_Conf.f_Votes.a6, .int .u8 x.f_grants.a1.f_Item.f_Conf.f_Votes.a7, .int .u8 x.f_grants.a2.f_Node, .int .u32 x.f_grants.a2.f_Reg.f_Boot, .int .u32 x.f_grants.a2.f_Reg.f_N, .int .u32 x.f_grants.a2.f_Item.f_Version, .str x.f_grants.a2.f_Item.f_Value, .int .u32 x.f_grants.a2.f_Item.f_Conf.f_Epoch, .int .u8 x.f_grants.a2.f_Item.f_Conf.f_R, .int .u8 x.f_grants.a2.f_Item.f_Conf.f_W, .int .u8 x.f_grants.a2.f_Item.f_Conf.f_Votes.a0, .int .u8 x.f_grants.a2.f_Item.f_Conf.f_Votes.a1, .int .u8 x.f_grants.a2.f_Item.f_Conf.f_Votes.a2, .int .u8 x.f_grants.a2.f_Item.f_Conf.f_Votes.a3, .int .u8 x.f_grants.a2.f_Item.f_Conf.f_Votes.a4, .int .u8 x.f_grants.a2.f_Item.f_Conf.f_Votes.a5, .int .u8 x.f_grants.a2.f_Item.f_Conf.f_Votes.a6, .int .u8 x.f_grants.a2.f_Item.f_Conf.f_Votes.a7, .int .u8 x.f_grants.a3.f_Node, .int .u32 x.f_grants.a3.f_Reg.f_Boot, .int .u32 x.f_grants.a3.f_Reg.f_N, .int .u32 x.f_grants.a3.f_Item.f_Version, .str x.f_grants.a3.f_Item.f_Value, .int .u32 x.f_grants.a3.f_Item.f_Conf.f_Epoch, .int .u8 x.f_grants.a3.f_Item.f_Conf.f_R, .int .u8 x.f_grants.a3.f_Item.f_Conf.f_W, .int .u8 x.f_grants.a3.f_Item.f_Conf.f_Votes.a0, .int .u8 x.f_grants.a3.f_Item.f_Conf.f_Votes.a1, .int .u8 x.f_grants.a3.f_Item.f_Conf.f_Votes.a2, .int .u8 x.f_grants.a3.f_Item.f_Conf.f_Votes.a3, .int .u8 x.f_grants.a3.f_Item.f_Conf.f_Votes.a4, .int .u8 x.f_grants.a3.f_Item.f_Conf.f_Votes.a5, .int .u8 x.f_grants.a3.f_Item.f_Conf.f_Votes.a6, .int .u8 x.f_grants.a3.f_Item.f_Conf.f_Votes.a7, .int .u8 x.f_grants.a4.f_Node, .int .u32 x.f_grants.a4.f_Reg.f_Boot, .int .u32 x.f_grants.a4.f_Reg.f_N, .int .u32 x.f_grants.a4.f_Item.f_Version, .str x.f_grants.a4.f_Item.f_Value, .int .u32 x.f_grants.a4.f_Item.f_Conf.f_Epoch, .int .u8 x.f_grants.a4.f_Item.f_Conf.f_R, .int .u8 x.f_grants.a4.f_Item.f_Conf.f_W, .int .u8 x.f_grants.a4.f_Item.f_Conf.f_Votes.a0, .int .u8 x.f_grants.a4.f_Item.f_Conf.f_Votes.a1, .int .u8 x.f_grants.a4.f_Item.f_Conf.f_Votes.a2, .int .u8 x.f_grants.a4.f_Item.f_Conf.f_Votes.a3, .int .u8 x.f_grants.a4.f_Item.f_Conf.f_Votes.a4, .int .u8 x.f_grants.a4.f_Item.f_Conf.f_Votes.a5, .int .u8 x.f_grants.a4.f_Item.f_Conf.f_Votes.a6, .int .u8 x.f_grants.a4.f_Item.f_Conf.f_Votes.a7, .int .u8 x.f_grants.a5.f_Node, .int .u32 x.f_grants.a5.f_Reg.f_Boot, .int .u32 x.f_grants.a5.f_Reg.f_N, .int .u32 x.f_grants.a5.f_Item.f_Version, .str x.f_grants.a5.f_Item.f_Value, .int .u32 x.f_grants.a5.f_Item.f_Conf.f_Epoch, .int .u8 x.f_grants.a5.f_Item.f_Conf.f_R, .int .u8 x.f_grants.a5.f_Item.f_Conf.f_W, .int .u8 x.f_grants.a5.f_Item.f_Conf.f_Votes.a0, .int .u8 x.f_grants.a5.f_Item.f_Conf.f_Votes.a1, .int .u8 x.f_grants.a5.f_Item.f_Conf.f_Votes.a2, .int .u8 x.f_grants.a5.f_Item.f_Conf.f_Votes.a3, .int .u8 x.f_grants.a5.f_Item.f_Conf.f_Votes.a4, .int .u8 x.f_grants.a5.f_Item.f_Conf.f_Votes.a5, .int .u8 x.f_grants.a5.f_Item.f_Conf.f_Votes.a6, .int .u8 x.f_grants.a5.f_Item.f_Conf.f_Votes.a7, .int .u8 x.f_grants.a6.f_Node, .int .u32 x.f_grants.a6.f_Reg.f_Boot, .int .u32 x.f_grants.a6.f_Reg.f_N, .int .u32 x.f_grants.a6.f_Item.f_Version, .str x.f_grants.a6.f_Item.f_Value, .int .u32 x.f_grants.a6.f_Item.f_Conf.f_Epoch, .int .u8 x.f_grants.a6.f_Item.f_Conf.f_R, .int .u8 x.f_grants.a6.f_Item.f_Conf.f_W, .int .u8 x.f_grants.a6.f_Item.f_Conf.f_Votes.a0, .int .u8 x.f_grants.a6.f_Item.f_Conf.f_Votes.a1, .int .u8 x.f_grants.a6.f_Item.f_Conf.f_Votes.a2, .int .u8 x.f_grants.a6.f_Item.f_Conf.f_Votes.a3, .int .u8 x.f_grants.a6.f_Item.f_Conf.f_Votes.a4, .int .u8 x.f_grants.a6.f_Item.f_Conf.f_Votes.a5, .int .u8 x.f_grants.a6.f_Item.f_Conf.f_Votes.a6, .int .u8 x.f_grants.a6.f_Item.f_Conf.f_Votes.a7, .int .u8 x.f_grants.a7.f_Node, .int .u32 x.f_grants.a7.f_Reg.f_Boot, .int .u32 x.f_grants.a7.f_Reg.f_N, .int .u32 x.f_grants.a7.f_Item.f_Version, .str x.f_grants.a7.f_Item.f_Value, .int .u32 x.f_grants.a7.f_Item.f_Conf.f_Epoch, .int .u8 x.f_grants.a7.f_Item.f_Conf.f_R, .int .u8 x.f_grants.a7.f_Item.f_Conf.f_W, .int .u8 x.f_grants.a7.f_Item.f_Conf.f_Votes.a0, .int .u8 x.f_grants.a7.f_Item.f_Conf.f_Votes.a1, .int .u8 x.f_grants.a7.f_Item.f_Conf.f_Votes.a2, .int .u8 x.f_grants.a7.f_Item.f_Conf.f_Votes.a3, .int .u8 x.f_grants.a7.f_Item.f_Conf.f_Votes.a4, .int .u8 x.f_grants.a7.f_Item.f_Conf.f_Votes.a5, .int .u8 x.f_grants.a7.f_Item.f_Conf.f_Votes.a6, .int .u8 x.f_grants.a7.f_Item.f_Conf.f_Votes.a7, .int .u64 x.f_nodes]
abbrev z0_ := (Bh.mk (A8.mk (0 : Int) (0 : Int) (0 : Int) (0 : Int) (0 : Int) (0 : Int) (0 : Int) (0 : Int)) (0 : Int))
abbrev z1_ := (A8.mk (Bj.mk (0 : Int) (0 : Int)) (Bj.mk (0 : Int) (0 : Int)) (Bj.mk (0 : Int) (0 : Int)) (Bj.mk (0 : Int) (0 : Int)) (Bj.mk (0 : Int) (0 : Int)) (Bj.mk (0 : Int) (0 : Int)) (Bj.mk (0 : Int) (0 : Int)) (Bj.mk (0 : Int) (0 : Int)))
def cT_60 (a0 : Bi) (a1 : LV) (a2 : Bh) (a3 : LV) (a4 : D_) (a5 a6 : LV) : List LV := [.int .u32 a0.f_Time, .int .u8 a0.f_Tx.f_Node, .int .u32 a0.f_Tx.f_Boot, .int .u32 a0.f_Tx.f_Num, a1, .int .u8 a2.f_key.a0, .int .u8 a2.f_key.a1, .int .u8 a2.f_key.a2, .int .u8 a2.f_key.a3, .int .u8 a2.f_key.a4, .int .u8 a2.f_key.a5, .int .u8 a2.f_key.a6, .int .u8 a2.f_key.a7, .int .u8 a2.f_mode, a3, .int .u32 a4.a0.f_Boot, .int .u32 a4.a0.f_N, .int .u32 a4.a1.f_Boot, .int .u32 a4.a1.f_N, .int .u32 a4.a2.f_Boot, .int .u32 a4.a2.f_N, .int .u32 a4.a3.f_Boot, .int .u32 a4.a3.f_N, .int .u32 a4.a4.f_Boot, .int .u32 a4.a4.f_N, .int .u32 a4.a5.f_Boot, .int .u32 a4.a5.f_N, .int .u32 a4.a6.f_Boot, .int .u32 a4.a6.f_N, .int .u32 a4.a7.f_Boot, .int .u32 a4.a7.f_N, a5, a6]
abbrev ks1 : List CK := [.int .u8, .int .u8, .int .u8, .int .u8, .int .u8, .int .u8, .int .u8, .int .u8, .int .u8]
def oP2 (x : A_) (o : List (LV × Nat)) : LO := .pm true ks1 (encP v_Bh c_Bf x) o
abbrev ks3 : List CK := [.int .u8, .int .u8, .int .u8, .int .u8, .int .u8, .int .u8, .int .u8, .int .u8]
def oM4 (x : B_) : LO := .map true ks3 (encM (fun z_ : I_ => LV.agg [.int .u8 z_.a0, .int .u8 z_.a1, .int .u8 z_.a2, .int .u8 z_.a3, .int .u8 z_.a4, .int .u8 z_.a5, .int .u8 z_.a6, .int .u8 z_.a7]) LV.str x)
def oM5 (x : C_) : LO := .map true ks3 (encM (fun z_ : I_ => LV.agg [.int .u8 z_.a0, .int .u8 z_.a1, .int .u8 z_.a2, .int .u8 z_.a3, .int .u8 z_.a4, .int .u8 z_.a5, .int .u8 z_.a6, .int .u8 z_.a7]) v_Bg x)
abbrev z2_ := (Bg.mk (0 : Int) (0 : Int) (0 : Int) (A8.mk (0 : Int) (0 : Int) (0 : Int) (0 : Int) (0 : Int) (0 : Int) (0 : Int) (0 : Int)))
abbrev z4_ := (A8.mk (Bk.mk (0 : Int) (Bj.mk (0 : Int) (0 : Int)) (Bn.mk (0 : Int) [] (Bg.mk (0 : Int) (0 : Int) (0 : Int) (A8.mk (0 : Int) (0 : Int) (0 : Int) (0 : Int) (0 : Int) (0 : Int) (0 : Int) (0 : Int))))) (Bk.mk (0 : Int) (Bj.mk (0 : Int) (0 : Int)) (Bn.mk (0 : Int) [] (Bg.mk (0 : Int) (0 : Int) (0 : Int) (A8.mk (0 : Int) (0 : Int) (0 : Int) (0 : Int) (0 : Int) (0 : Int) (0 : Int) (0 : Int))))) (Bk.mk (0 : Int) (Bj.mk (0 : Int) (0 : Int)) (Bn.mk (0 : Int) [] (Bg.mk (0 : Int) (0 : Int) (0 : Int) (A8.mk (0 : Int) (0 : Int) (0 : Int) (0 : Int) (0 : Int) (0 : Int) (0 : Int) (0 : Int))))) (Bk.mk (0 : Int) (Bj.mk (0 : Int) (0 : Int)) (Bn.mk (0 : Int) [] (Bg.mk (0 : Int) (0 : Int) (0 : Int) (A8.mk (0 : Int) (0 : Int) (0 : Int) (0 : Int) (0 : Int) (0 : Int) (0 : Int) (0 : Int))))) (Bk.mk (0 : Int) (Bj.mk (0 : Int) (0 : Int)) (Bn.mk (0 : Int) [] (Bg.mk (0 : Int) (0 : Int) (0 : Int) (A8.mk (0 : Int) (0 : Int) (0 : Int) (0 : Int) (0 : Int) (0 : Int) (0 : Int) (0 : Int))))) (Bk.mk (0 : Int) (Bj.mk (0 : Int) (0 : Int)) (Bn.mk (0 : Int) [] (Bg.mk (0 : Int) (0 : Int) (0 : Int) (A8.mk (0 : Int) (0 : Int) (0 : Int) (0 : Int) (0 : Int) (0 : Int) (0 : Int) (0 : Int))))) (Bk.mk (0 : Int) (Bj.mk (0 : Int) (0 : Int)) (Bn.mk (0 : Int) [] (Bg.mk (0 : Int) (0 : Int) (0 : Int) (A8.mk (0 : Int) (0 : Int) (0 : Int) (0 : Int) (0 : Int) (0 : Int) (0 : Int) (0 : Int))))) (Bk.mk (0 : Int) (Bj.mk (0 : Int) (0 : Int)) (Bn.mk (0 : Int) [] (Bg.mk (0 : Int) (0 : Int) (0 : Int) (A8.mk (0 : Int) (0 : Int) (0 : Int) (0 : Int) (0 : Int) (0 : Int) (0 : Int) (0 : Int))))))
def oM6 (x : List (I_ × Bool)) : LO := .map true ks3 (encM (fun z_ : I_ => LV.agg [.int .u8 z_.a0, .int .u8 z_.a1, .int .u8 z_.a2, .int .u8 z_.a3, .int .u8 z_.a4, .int .u8 z_.a5, .int .u8 z_.a6, .int .u8 z_.a7]) LV.bool x)
structure Bo where
 f_Key : I_
 f_Mode : Int
 f_Got : F_
 deriving DecidableEq, Inhabited
def c_Bo (x : Bo) : List LV := [.int .u8 x.f_Key.a0, .int .u8 x.f_Key.a1, .int .u8 x.f_Key.a2, .int .u8 x.f_Key.a3, .int .u8 x.f_Key.a4, .int .u8 x.f_Key.a5, .int .u8 x.f_Key.a6, .int .u8 x.f_Key.a7, .int .u8 x.f_Mode, .ds 16 (x.f_Got).length (rowF c_Bk default x.f_Got)]
structure Bp where
 f_Key : I_
 f_Item : Bn
 deriving DecidableEq, Inhabited
def c_Bp (x : Bp) : List LV := [.int .u8 x.f_Key.a0, .int .u8 x.f_Key.a1, .int .u8 x.f_Key.a2, .int .u8 x.f_Key.a3, .int .u8 x.f_Key.a4, .int .u8 x.f_Key.a5, .int .u8 x.f_Key.a6, .int .u8 x.f_Key.a7, .int .u32 x.f_Item.f_Version, .str x.f_Item.f_Value, .int .u32 x.f_Item.f_Conf.f_Epoch, .int .u8 x.f_Item.f_Conf.f_R, .int .u8 x.f_Item.f_Conf.f_W, .int .u8 x.f_Item.f_Conf.f_Votes.a0, .int .u8 x.f_Item.f_Conf.f_Votes.a1, .int .u8 x.f_Item.f_Conf.f_Votes.a2, .int .u8 x.f_Item.f_Conf.f_Votes.a3, .int .u8 x.f_Item.f_Conf.f_Votes.a4, .int .u8 x.f_Item.f_Conf.f_Votes.a5, .int .u8 x.f_Item.f_Conf.f_Votes.a6, .int .u8 x.f_Item.f_Conf.f_Votes.a7]
def v_Bp (x : Bp) : LV := .agg (c_Bp x)
abbrev z5_ := (Bp.mk (A8.mk (0 : Int) (0 : Int) (0 : Int) (0 : Int) (0 : Int) (0 : Int) (0 : Int) (0 : Int)) (Bn.mk (0 : Int) [] (Bg.mk (0 : Int) (0 : Int) (0 : Int) (A8.mk (0 : Int) (0 : Int) (0 : Int) (0 : Int) (0 : Int) (0 : Int) (0 : Int) (0 : Int)))))
abbrev z6_ := (Bq.mk (0 : Int) (Bj.mk (0 : Int) (0 : Int)) (Bn.mk (0 : Int) [] (Bg.mk (0 : Int) (0 : Int) (0 : Int) (A8.mk (0 : Int) (0 : Int) (0 : Int) (0 : Int) (0 : Int) (0 : Int) (0 : Int) (0 : Int)))))
theorem ext140 (l : J_) (c : Int) : ExtTri Tryz.prog 140 [.str l, .int .u8 c] (.int .i64 (Lib.indexByte l c.toNat.toUInt8)) := ext_indexByte Tryz.func140 (by kernel_rfl) (by kernel_rfl) (by kernel_rfl) (by kernel_rfl) l c
def BB_v (r : (Bool)) : LV := .bool r
def BB (x_n : Int) : Option ((Bool)) :=
 some (decide ((IntKind.wrap .u32 (x_n - 1)) < 2147483647))
theorem BB_ok (x_n : Int) (r : (Bool)) (h : BB x_n = some r) : ∀ σ, Inj 0 σ → FnTri Tryz.prog 74 (renL σ [.int .u32 x_n]) (preOf σ 0 []) ((BB_v r).ren σ) (upOf σ []) := by
 refine fo_ Tryz.func74 trivial trivial ?_
 intro w0 W μ0 hμ
 unfold BB at h
 obtain rfl := si_ h
 exact rr_ [] 15 [.reg [], .reg []]
  (a_ (a_ (r1_ tr) (a_ (r4_ tr) tr)) tr)
theorem BB_tri (x_n : Int) (r : (Bool)) (h : BB x_n = some r) : FnTri Tryz.prog 74 [.int .u32 x_n] [] (BB_v r) [] := FnTri.none (BB_ok x_n r h) rfl rfl
def Be_v (r : (Bool)) : LV := .bool r
def Be (t : Br) : Option ((Bool)) :=
 if ((decide (t.f_Node < 8)) : Bool) then
  (BB t.f_Boot).bind fun y3 =>
  if (y3 : Bool) then
   (BB t.f_Num).bind fun y6 =>
   some y6
  else
   some false
 else
  some false
theorem Be_ok (t : Br) (r : (Bool)) (h : Be t = some r) : ∀ σ, Inj 0 σ → FnTri Tryz.prog 45 (renL σ [v_Br t]) (preOf σ 0 []) ((Be_v r).ren σ) (upOf σ []) := by
 refine fo_ Tryz.func45 trivial trivial ?_
 intro w0 W μ0 hμ
 unfold Be at h
 rcases it_ h with ⟨c1, h⟩ | ⟨c1, h⟩
 ·obtain ⟨y3, e2, h⟩ := bs_ h
  rcases it_ h with ⟨c4, h⟩ | ⟨c4, h⟩
  ·obtain ⟨y6, e5, h⟩ := bs_ h
   obtain rfl := si_ h
   exact rr_ [] 15 [.reg [], .reg [(3, hT), (6, hC (BB_v y3)), (8, hT), (11, hC (BB_v y6))]]
    (a_ (a_ (r2_ tr) (a_ (r1_ (l_ 0 3 rfl (r1_ (f_ c1 (r1_ (l_ 1 3 rfl (c_ (BB_tri t.f_Boot y3 e2) (r1_ (f_ c4 (r1_ (l_ 2 3 rfl (c_ (BB_tri t.f_Num y6 e5) (r2_ tr))))))))))))) tr)) tr)
  ·obtain rfl := si_ h
   exact rr_ [] 15 [.reg [], .reg [(3, hT), (6, hC (BB_v y3)), (8, hF)]]
    (a_ (a_ (r2_ tr) (a_ (r1_ (l_ 0 3 rfl (r1_ (f_ c1 (r1_ (l_ 1 3 rfl (c_ (BB_tri t.f_Boot y3 e2) (r1_ (f_ c4 (a_ tr (t2_ (r2_ tr)))))))))))) tr)) tr)
 ·obtain rfl := si_ h
  exact rr_ [] 15 [.reg [], .reg [(3, hF)]]
   (a_ (a_ (r2_ tr) (a_ (r1_ (l_ 0 3 rfl (r1_ (f_ c1 (a_ tr (t2_ (r2_ (a_ tr (t2_ (r2_ tr)))))))))) tr)) tr)
theorem Be_tri (t : Br) (r : (Bool)) (h : Be t = some r) : FnTri Tryz.prog 45 [v_Br t] [] (Be_v r) [] := FnTri.none (Be_ok t r h) rfl rfl
def BT_v (r : (Bool)) : LV := .bool r
def BT (s : Bi) : Option ((Bool)) :=
 if ((decide (s.f_Time ≤ 2147483647)) : Bool) then
  (Be s.f_Tx).bind fun y3 =>
  some y3
 else
  some false
theorem BT_ok (s : Bi) (r : (Bool)) (h : BT s = some r) : ∀ σ, Inj 0 σ → FnTri Tryz.prog 19 (renL σ [v_Bi s]) (preOf σ 0 []) ((BT_v r).ren σ) (upOf σ []) := by
 refine fo_ Tryz.func19 trivial trivial ?_
 intro w0 W μ0 hμ
 unfold BT at h
 rcases it_ h with ⟨c1, h⟩ | ⟨c1, h⟩
 ·obtain ⟨y3, e2, h⟩ := bs_ h
  obtain rfl := si_ h
  exact rr_ [] 15 [.reg [], .reg [(3, hT), (6, hC (Be_v y3))]]
   (a_ (a_ (r2_ tr) (a_ (r1_ (l_ 0 4 rfl (r1_ (f_ c1 (r1_ (m_ 4 4 rfl (c_ (Be_tri s.f_Tx y3 e2) (r2_ tr)))))))) tr)) tr)
 ·obtain rfl := si_ h
  exact rr_ [] 15 [.reg [], .reg [(3, hF)]]
   (a_ (a_ (r2_ tr) (a_ (r1_ (l_ 0 4 rfl (r1_ (f_ c1 (a_ tr (t2_ (r2_ tr))))))) tr)) tr)
theorem BT_tri (s : Bi) (r : (Bool)) (h : BT s = some r) : FnTri Tryz.prog 19 [v_Bi s] [] (BT_v r) [] := FnTri.none (BT_ok s r h) rfl rfl
def BL_vA (r : Unit) : LV := .tup [.nilptr, .int .i64 1]
def BL_vB (r : (Bi) × (Bh) × D_ × A_ × E_ × B_ × C_) : LV := .tup [.ptr 0 0 0, .int .i64 0]
def BL_upB (r : (Bi) × (Bh) × D_ × A_ × E_ × B_ × C_) : Upd := [(0, some (.var (cT_60 r.1 (.map 1) r.2.1 (.op 2 (r.2.2.2.2.1).isSome) r.2.2.1 (.map 3) (.map 4)))), (1, some (oP2 r.2.2.2.1 [])), (2, some (.vo (r.2.2.2.2.1).isSome (c_Bf ((r.2.2.2.2.1).getD default)))), (3, some (oM4 r.2.2.2.2.2.1)), (4, some (oM5 r.2.2.2.2.2.2))]
def BL (s : Bi) : Option (Bool × (Unit) × ((Bi) × (Bh) × D_ × A_ × E_ × B_ × C_)) :=
 (BT s).bind fun y2 =>
 if ((!y2) : Bool) then
  some (true, (), default)
 else
  some (false, default, (s, z0_, z1_, ([] : A_), (none : E_), ([] : B_), ([] : C_)))
theorem BL_okA (s : Bi) (r : Unit) (r_ : (Bi) × (Bh) × D_ × A_ × E_ × B_ × C_) (h : BL s = some (true, r, r_)) : ∀ σ, Inj 0 σ → FnTri Tryz.prog 5 (renL σ [v_Bi s]) (preOf σ 0 []) ((BL_vA r).ren σ) (upOf σ []) := by
 refine fo_ Tryz.func5 trivial trivial ?_
 intro w0 W μ0 hμ
 unfold BL at h
 obtain ⟨y2, e1, h⟩ := bs_ h
 rcases it_ h with ⟨c3, h⟩ | ⟨c3, h⟩
 ·have h := congrArg (fun z => z.2.1) (si_ h)
  dsimp only at h
  subst h
  exact rr_ [] 20 [.reg [], .reg [(1, hC (BT_v y2)), (2, hT)], .reg []]
   (a_ (a_ (r1_ (r2_ tr)) (a_ (m_ 4 4 rfl (c_ (BT_tri s y2 e1) (f_ c3 tr))) (a_ (r2_ tr) tr))) tr)
 ·cases h
theorem BL_triA (s : Bi) (r : Unit) (r_ : (Bi) × (Bh) × D_ × A_ × E_ × B_ × C_) (h : BL s = some (true, r, r_)) : FnTri Tryz.prog 5 [v_Bi s] [] (BL_vA r) [] := FnTri.none (BL_okA s r r_ h) rfl rfl
theorem BL_okB (s : Bi) (r : (Bi) × (Bh) × D_ × A_ × E_ × B_ × C_) (r_ : Unit) (h : BL s = some (false, r_, r)) : ∀ σ, Inj 5 σ → FnTri Tryz.prog 5 (renL σ [v_Bi s]) (preOf σ 0 []) ((BL_vB r).ren σ) (upOf σ (BL_upB r)) := by
 refine fo_ Tryz.func5 trivial ⟨rfl, uP, rfl, trivial, trivial, trivial⟩ ?_
 intro w0 W μ0 hμ
 unfold BL at h
 obtain ⟨y2, e1, h⟩ := bs_ h
 rcases it_ h with ⟨c3, h⟩ | ⟨c3, h⟩
 ·cases h
 ·have h := congrArg (fun z => z.2.2) (si_ h)
  dsimp only at h
  subst h
  exact rr_ [4, 1, 5, 2, 3] 24 [.reg [], .reg [(1, hC (BT_v y2)), (2, hF)], .reg [], .x (.p (.pn 1)), .void (.vo ((none : E_)).isSome (c_Bf (((none : E_)).getD default))), .wk [] [(4, .var (cT_60 s (.map 1) z0_ (.op 5 ((none : E_)).isSome) z1_ (.map 2) (.map 3)))]]
   (a_ (a_ (r1_ (r2_ tr)) (a_ (m_ 4 4 rfl (c_ (BT_tri s y2 e1) (f_ c3 tr))) (a_ (m_ 4 4 rfl (r1_ (r2_ (a_ (a_ (Eq.refl true) tr) (r1_ (r2_ tr)))))) (a_ tr (a_ (Eq.refl false) (a_ (a_ tr (a_ (LO.Sub.var (lel_set (cT_60 s (.map 1) z0_ .nilptr z1_ (.map 2) (.map 3)) 14 (.nilptr) (.op 5 ((none : E_)).isSome) rfl (le_nil_op rfl))) tr)) tr)))))) tr)
def Az_v (r : (List (Bl))) : LV := .ds 49 (r).length (rowF c_Bl default r)
def Az (l : List (Bl)) : Option ((List (Bl))) :=
 if 0 ≤ (0 : Int) ∧ 0 ≤ (if 60 < ((l).length : Int) then 60 else ((l).length : Int)) ∧ (if 60 < ((l).length : Int) then 60 else ((l).length : Int)) ≤ (((l).length : Nat) : Int) then
 some (l.take ((if 60 < ((l).length : Int) then 60 else ((l).length : Int))).toNat)
 else none
theorem Az_ok (l : List (Bl)) (r : (List (Bl))) (h : Az l = some r) : ∀ σ, Inj 0 σ → FnTri Tryz.prog 8 (renL σ [.ds 49 (l).length (rowF c_Bl default l)]) (preOf σ 0 []) ((Az_v r).ren σ) (upOf σ []) := by
 refine fo_ Tryz.func8 trivial trivial ?_
 intro w0 W μ0 hμ
 unfold Az at h
 obtain ⟨g1, h⟩ := gs_ h
 obtain rfl := si_ h
 exact rr_ [] 15 [.reg [(0, hv_ (.ds 49 (([] : List (Bl))).length (rowF c_Bl default ([] : List (Bl)))))], .reg [(4, hv_ (.ds 49 ((l.take ((if 60 < ((l).length : Int) then 60 else ((l).length : Int))).toNat)).length (rowF c_Bl default (l.take ((if 60 < ((l).length : Int) then 60 else ((l).length : Int))).toNat))))]]
  (a_ (a_ (a_ (a_ tr (a_ (le_nil_ds 49 (rowF c_Bl default [])) tr)) tr) (a_ (r4_ (a_ (a_ (a_ (Eq.refl 49) g1) (a_ (le_take c_Bl default 49 l ((if 60 < ((l).length : Int) then 60 else ((l).length : Int))).toNat (toN_le g1.2.2)) tr)) (r1_ tr))) tr)) tr)
theorem Az_tri (l : List (Bl)) (r : (List (Bl))) (h : Az l = some r) : FnTri Tryz.prog 8 [.ds 49 (l).length (rowF c_Bl default l)] [] (Az_v r) [] := FnTri.none (Az_ok l r h) rfl rfl
def Ae_v (r : (Bool)) : LV := .bool r
def Ae_l0 (y2 : (List (Bl))) : Nat → (Int) → (Int) → Option ((Bool))
 | 0, _, _ => none
 | fuel + 1, x_n, t9 =>
  if ((decide (t9 < ((y2).length : Int))) : Bool) then
   if 0 ≤ t9 ∧ t9 < (((y2).length : Nat) : Int) then
   Ae_l0 y2 fuel (IntKind.wrap .i64 (x_n + (IntKind.wrap .i64 ((if 10000 < (((y2.getD t9.toNat default).f_Text).length : Int) then 10000 else (((y2.getD t9.toNat default).f_Text).length : Int)) + (if 10000 < (((y2.getD t9.toNat default).f_Got.f_Item.f_Value).length : Int) then 10000 else (((y2.getD t9.toNat default).f_Got.f_Item.f_Value).length : Int)))))) (IntKind.wrap .i64 (t9 + 1))
   else none
  else
   some (decide (20000 < x_n))
def Ae (l : List (Bl)) : Option ((Bool)) :=
 (Az l).bind fun y2 =>
 Ae_l0 y2 big 0 0
abbrev Ae_K0 (w0 : World) (W : Nat → Prop) (μ0 : Emb) (y2 : (List (Bl))) (x_n t9 : Int) (r : (Bool)) : Prop := Kt_ w0 W μ0 Tryz.f6 0 0 (Ae_v r) [] (kAt (bodyOf Tryz.f6) 0) (.any :: .any :: .any :: (.int .i64 x_n) :: .any :: .any :: .any :: (.ds 49 (y2).length (rowF c_Bl default y2)) :: (.int .i64 ((y2).length : Int)) :: (.int .i64 t9) :: n_ 19 []) []
theorem Ae_l0_ok {w0 W μ0} (hμ : Lt_ μ0 0) (y2 : (List (Bl))) : ∀ (fuel : Nat) (x_n t9 : Int) (r : (Bool)), Ae_l0 y2 fuel x_n t9 = some r → Ae_K0 w0 W μ0 y2 x_n t9 r := by
 intro fuel
 induction fuel with
 | zero => intro x_n t9 r h; rw [Ae_l0] at h; cases h
 | succ fuel ih =>
  intro x_n t9 r h
  rw [Ae_l0] at h
  rcases it_ h with ⟨C1, h⟩ | ⟨C1, h⟩
  ·obtain ⟨G2, h⟩ := gs_ h
   exact rt_ hμ [] 26 [.go, .reg [(0, hT)], .reg [], .reg [], .reg []]
    (a_ (f_ C1 tr) (a_ (a_ (a_ (a_ (Eq.refl 49) G2) tr) (a_ (a_ (le_ 49 49 rfl) tr) (r1_ (a_ (a_ (a_ (Eq.refl 49) (a_ (le_ 49 49 rfl) (Eq.refl 0))) tr) tr)))) (a_ (r2_ (l_ 48 49 rfl (r1_ (r4_ (l_ 36 49 rfl (r1_ (r4_ tr))))))) (a_ (r2_ tr) tr)))) (ih _ _ r h) trivial
  ·obtain rfl := si_ h
   exact rr_ [] 19 [.go, .reg [(0, hF)], .reg []]
    (a_ (a_ (f_ C1 tr) (a_ (r1_ (r2_ tr)) tr)) tr)
theorem Ae_ok (l : List (Bl)) (r : (Bool)) (h : Ae l = some r) : ∀ σ, Inj 0 σ → FnTri Tryz.prog 6 (renL σ [.ds 49 (l).length (rowF c_Bl default l)]) (preOf σ 0 []) ((Ae_v r).ren σ) (upOf σ []) := by
 refine fo_ Tryz.func6 trivial trivial ?_
 intro w0 W μ0 hμ
 unfold Ae at h
 obtain ⟨y2, e1, h⟩ := bs_ h
 exact rt_ hμ [] 21 [.reg [], .reg [], .reg [(1, hC (Az_v y2))]]
  (a_ (r1_ tr) (a_ (r1_ tr) (a_ (r1_ (c_ (Az_tri l y2 e1) (r2_ tr))) tr))) (Ae_l0_ok hμ y2 big _ _ r h) trivial
theorem Ae_tri (l : List (Bl)) (r : (Bool)) (h : Ae l = some r) : FnTri Tryz.prog 6 [.ds 49 (l).length (rowF c_Bl default l)] [] (Ae_v r) [] := FnTri.none (Ae_ok l r h) rfl rfl
def Au_v (r : (Bg)) : LV := v_Bg r
def Au : Option ((Bg)) :=
 some (Bg.mk 1 2 2 (A8.mk 1 1 1 0 0 0 0 0))
theorem Au_ok (r : (Bg)) (h : Au = some r) : ∀ σ, Inj 0 σ → FnTri Tryz.prog 21 (renL σ []) (preOf σ 0 []) ((Au_v r).ren σ) (upOf σ []) := by
 refine fo_ Tryz.func21 trivial trivial ?_
 intro w0 W μ0 hμ
 unfold Au at h
 obtain rfl := si_ h
 exact rr_ [] 15 [.reg [], .reg []]
  (a_ (a_ (r1_ tr) (a_ (a_ (a_ (Eq.refl true) tr) (a_ (a_ (Eq.refl true) tr) (a_ (a_ (a_ (Eq.refl 11) (a_ (le_ 11 11 rfl) (Eq.refl 0))) tr) tr))) tr)) (a_ (a_ tr (le_ 11 11 rfl)) tr))
theorem Au_tri (r : (Bg)) (h : Au = some r) : FnTri Tryz.prog 21 [] [] (Au_v r) [] := FnTri.none (Au_ok r h) rfl rfl
def AT_v (r : Unit) : LV := .bool true
def AT_up (pu : B_) (co : C_) (r : Unit) : Upd := [(2, some (oM4 pu)), (3, some (oM5 co))]
def AT_objs (ti : Bi) (slots : A_) (key : Bh) (re : D_) (pu : B_) (co : C_) : List LO := [.row 33 1 (fun _ => (cT_60 ti (.map 1) key .any re (.map 2) (.map 3))) false, .mapR true ks1 (encM v_Bh (fun _ => LV.any) slots), oM4 pu, oM5 co]
def AT (ti : Bi) (slots : A_) (key : Bh) (re : D_) (pu : B_) (co : C_) : Option (Unit) :=
 some ()
theorem AT_ok (ti : Bi) (slots : A_) (key : Bh) (re : D_) (pu : B_) (co : C_) (r : Unit) (h : AT ti slots key re pu co = some r) : ∀ σ, Inj 4 σ → FnTri Tryz.prog 27 (renL σ [.ptr 0 0 0]) (preOf σ 0 (AT_objs ti slots key re pu co)) ((AT_v r).ren σ) (upOf σ (AT_up pu co r)) := by
 refine fo_ Tryz.func27 ⟨fun _ _ => rfl, trivial, trivial, trivial, trivial⟩ ⟨trivial, trivial, trivial⟩ ?_
 intro w0 W μ0 hμ
 unfold AT at h
 obtain rfl := si_ h
 exact rr_ [] 15 [.reg [], .reg []]
  (a_ (a_ (r1_ tr) (a_ (r2_ (r4_ (a_ (a_ (a_ (lt_ 0 1 rfl) (lt_ 4 33 rfl)) tr) (r1_ (r2_ tr))))) tr)) tr)
def BE_v (r : (Bool)) : LV := .bool r
def BE_up (pu : B_) (co : C_) (r : (Bool)) : Upd := [(2, some (oM4 pu)), (3, some (oM5 co))]
def BE_objs (ti : Bi) (slots : A_) (key : Bh) (re : D_) (pu : B_) (co : C_) : List LO := [.row 33 1 (fun _ => (cT_60 ti (.map 1) key .any re (.map 2) (.map 3))) false, .mapR true ks1 (encM v_Bh (fun _ => LV.any) slots), oM4 pu, oM5 co]
def BE (ti : Bi) (slots : A_) (key : Bh) (re : D_) (pu : B_) (co : C_) (x_k : I_) : Option ((Bool)) :=
 if (((mget pu x_k).isSome) : Bool) then
  some true
 else
  some ((mget co x_k).isSome)
theorem BE_ok (ti : Bi) (slots : A_) (key : Bh) (re : D_) (pu : B_) (co : C_) (x_k : I_) (r : (Bool)) (h : BE ti slots key re pu co x_k = some r) : ∀ σ, Inj 4 σ → FnTri Tryz.prog 46 (renL σ [.ptr 0 0 0, .agg [.int .u8 x_k.a0, .int .u8 x_k.a1, .int .u8 x_k.a2, .int .u8 x_k.a3, .int .u8 x_k.a4, .int .u8 x_k.a5, .int .u8 x_k.a6, .int .u8 x_k.a7]]) (preOf σ 0 (BE_objs ti slots key re pu co)) ((BE_v r).ren σ) (upOf σ (BE_up pu co r)) := by
 refine fo_ Tryz.func46 ⟨fun _ _ => rfl, trivial, trivial, trivial, trivial⟩ ⟨trivial, trivial, trivial⟩ ?_
 intro w0 W μ0 hμ
 unfold BE at h
 rcases it_ h with ⟨c1, h⟩ | ⟨c1, h⟩
 ·obtain rfl := si_ h
  exact rr_ [] 21 [.reg [], .reg [(5, { look := ((mget pu x_k).map LV.str), v := some (.tup [.str ((mget pu x_k).getD default), .bool ((mget pu x_k).isSome)]) })], .reg [(5, { look := ((mget co x_k).map v_Bg), v := some (.tup [v_Bg ((mget co x_k).getD default), .bool ((mget co x_k).isSome)]) })], .reg [(1, hT)]]
   (a_ (a_ (r2_ tr) (a_ (r1_ (r2_ (a_ (a_ (a_ (lt_ 0 1 rfl) (lt_ 31 33 rfl)) tr) (m_ 8 8 rfl (a_ (a_ (a_ (Eq.refl true) (findE_enc (fun z_ : I_ => LV.agg [.int .u8 z_.a0, .int .u8 z_.a1, .int .u8 z_.a2, .int .u8 z_.a3, .int .u8 z_.a4, .int .u8 z_.a5, .int .u8 z_.a6, .int .u8 z_.a7]) LV.str (k_arr8 .u8) pu x_k)) (a_ (le_lookok LV.str (mget pu x_k) default) tr)) (r1_ (r4_ tr))))))) (a_ (r1_ (r2_ (a_ (a_ (a_ (lt_ 0 1 rfl) (lt_ 32 33 rfl)) tr) (m_ 8 8 rfl (a_ (a_ (a_ (Eq.refl true) (findE_enc (fun z_ : I_ => LV.agg [.int .u8 z_.a0, .int .u8 z_.a1, .int .u8 z_.a2, .int .u8 z_.a3, .int .u8 z_.a4, .int .u8 z_.a5, .int .u8 z_.a6, .int .u8 z_.a7]) v_Bg (k_arr8 .u8) co x_k)) (a_ (le_lookok v_Bg (mget co x_k) default) tr)) (r4_ (a_ (a_ (a_ (Eq.refl 11) (a_ (le_ 11 11 rfl) (Eq.refl 0))) tr) (r1_ tr)))))))) (a_ (r1_ (f_ c1 (a_ tr (r2_ tr)))) tr)))) tr)
 ·obtain rfl := si_ h
  exact rr_ [] 21 [.reg [], .reg [(5, { look := ((mget pu x_k).map LV.str), v := some (.tup [.str ((mget pu x_k).getD default), .bool ((mget pu x_k).isSome)]) })], .reg [(5, { look := ((mget co x_k).map v_Bg), v := some (.tup [v_Bg ((mget co x_k).getD default), .bool ((mget co x_k).isSome)]) })], .reg [(1, hF)]]
   (a_ (a_ (r2_ tr) (a_ (r1_ (r2_ (a_ (a_ (a_ (lt_ 0 1 rfl) (lt_ 31 33 rfl)) tr) (m_ 8 8 rfl (a_ (a_ (a_ (Eq.refl true) (findE_enc (fun z_ : I_ => LV.agg [.int .u8 z_.a0, .int .u8 z_.a1, .int .u8 z_.a2, .int .u8 z_.a3, .int .u8 z_.a4, .int .u8 z_.a5, .int .u8 z_.a6, .int .u8 z_.a7]) LV.str (k_arr8 .u8) pu x_k)) (a_ (le_lookok LV.str (mget pu x_k) default) tr)) (r1_ (r4_ tr))))))) (a_ (r1_ (r2_ (a_ (a_ (a_ (lt_ 0 1 rfl) (lt_ 32 33 rfl)) tr) (m_ 8 8 rfl (a_ (a_ (a_ (Eq.refl true) (findE_enc (fun z_ : I_ => LV.agg [.int .u8 z_.a0, .int .u8 z_.a1, .int .u8 z_.a2, .int .u8 z_.a3, .int .u8 z_.a4, .int .u8 z_.a5, .int .u8 z_.a6, .int .u8 z_.a7]) v_Bg (k_arr8 .u8) co x_k)) (a_ (le_lookok v_Bg (mget co x_k) default) tr)) (r4_ (a_ (a_ (a_ (Eq.refl 11) (a_ (le_ 11 11 rfl) (Eq.refl 0))) tr) (r1_ tr)))))))) (a_ (r1_ (f_ c1 (r1_ (r2_ tr)))) tr)))) tr)
theorem cc76_info : ∃ i z, Tryz.prog.info? 38 = some i ∧ i.zero = some z ∧ i.size = 11 ∧ i.bytes = 16 ∧ z.cells.size = 11 := by
 have h : (Tryz.prog.info? 38).map (fun i => (i.zero.map (·.cells.size), i.size, i.bytes)) = some (some 11, 11, 16) := by kernel_rfl
 obtain ⟨i, h1, h2⟩ := Option.map_eq_some_iff.1 h
 simp only [Prod.mk.injEq] at h2
 obtain ⟨h3, h4, h5⟩ := h2
 obtain ⟨z, h6, h7⟩ := Option.map_eq_some_iff.1 h3
 exact ⟨i, z, h1, h6, h4, h5, h7⟩
theorem cc76_grow (m : Nat) (h0 : 0 < m) (hb : m * 16 ≤ 140737488355328) (w : World) :
  Calls Tryz.prog 99 #[.slice none 0 0, .int .i64 m] w fun e w' => ∃ G cs, m ≤ G ∧ G ≤ maxLen ∧ cs.size = G * 11 ∧ e = .returned (.slice (some ⟨w.heap.size, 0, none⟩) 0 G) ∧ w' = w.drew.alloc (.cells cs 38) := by
 obtain ⟨i, z, hi, hz, hs, hby, hzs⟩ := cc76_info
 have hr : ∀ ty, (Builtin.append_ #[121, 3] ty #[.slice none 0 0, .int .i64 (m : Int)]).run Tryz.prog w =
   .ok (.slice (some ⟨w.heap.size, 0, none⟩) m (grownCap w m 0 38)) (w.drew.alloc (.cells (Builtin.zeroCells z.cells m ++ Builtin.zeroCells z.cells (grownCap w m 0 38 - m)) 38)) := fun ty =>
  Lib.run_append_nil_zeros w 121 3 ty 38 i z .i64 .i64 Tryz.underlying121 Tryz.underlying3 hi hz m h0 (by omega) (by omega) (by rw [hby]; omega)
 have hge := grownCap_ge w m 0 38
 have hcm : grownCap w m 0 38 ≤ maxLen := grownCap_le_maxLen w m 0 38 (by unfold maxLen; omega)
 have hcs : (Builtin.zeroCells z.cells m ++ Builtin.zeroCells z.cells (grownCap w m 0 38 - m)).size = grownCap w m 0 38 * 11 := by
  rw [Array.size_append, size_zeroCells, size_zeroCells, hzs, ← Nat.add_mul]; congr 1; omega
 generalize hGd : grownCap w m 0 38 = G at *
 generalize Builtin.zeroCells z.cells m ++ Builtin.zeroCells z.cells (G - m) = cs at *
 have h1 : ¬ ((m : Int) < 0) := by omega
 have h2 : wrap64 (m : Int) = (m : Int) := by unfold wrap64; omega
 have h3 : (m : Int) > 0 := by omega
 have hm63 : (m : Int) ≤ 9223372036854775807 := by omega
 have hG63 : (G : Int) ≤ 9223372036854775807 := by unfold maxLen at hcm; omega
 go_enter Tryz.func99, Tryz.ntmps99
 go_wp2_with (at_builtin; refine Lib.wpList_append_run _ rfl _ _ _ _ rfl _ _ rfl rfl _ _ (hr _) ?_)
 all_goals (go_ret; first | exact ⟨G, cs, hge, hcm, hcs, rfl, rfl⟩ | exact ⟨G, hge, hcm, cs, hcs, rfl, rfl⟩)
structure cc76_Src (w : World) (v : Value) (n : Nat) (news : List Value) : Prop where
 v : ∃ base rc, v = .slice base n rc ∧ n ≤ rc ∧ ((base = none ∧ n = 0) ∨ ∃ a, base = some a ∧ ∀ j u, news[j]? = some u → w.cell? (a.add j) = some u)
 len : news.length = n * 11
 one : ∀ u ∈ news, u.oneCell' = true
theorem cc76_app_none {P : Program} (w : World) (t ty e : TypeId) (i : TypeInfo) (ht : P.underlying t = some (.slice e)) (hi : P.info? e = some i) (b : Option Addr) (k c : Nat) (hk : k ≤ c) (rc : Nat) :
  (Builtin.append_ #[t, t] ty #[.slice b k c, .slice none 0 rc]).run P w = .ok (.slice b k c) w := by
 cases b with
 | none => simp [Builtin.append_, run_underlying ht, sizeOf, typeInfo, hi, Builtin.lenOf, hk, Builtin.firstCells]
 | some a => simp [Builtin.append_, run_underlying ht, sizeOf, typeInfo, hi, Builtin.lenOf, hk, Builtin.firstCells, Addr.add, storeCells]
theorem cc76_app_src (w : World) {vs : Value} {m : Nat} {news : List Value} (h : cc76_Src w vs m news) (v : Value) (k : Nat) (xs : List Value) (base : Nat) (hown : w.ownsRow base 38 11 v k xs) (b1 : k + m ≤ maxLen) (b2 : (k + m) * 16 ≤ 140737488355328) (b3 : base ≤ w.heap.size) :
  ∃ v' w', (∀ ty, (Builtin.append_ #[121, 121] ty #[v, vs]).run Tryz.prog w = .ok v' w') ∧ w'.ownsRow base 38 11 v' (k + m) (xs ++ news) ∧ w.grownBy w' v.ownBlock ∧ w.drawn ≤ w'.drawn := by
 obtain ⟨i, z, hi, hz, hs, hby, hzs⟩ := cc76_info
 obtain ⟨bs, rc, rfl, hrc, hh⟩ := h.v
 rcases hh with ⟨rfl, rfl⟩ | ⟨a, rfl, hcell⟩
 ·have hn : news = [] := List.eq_nil_of_length_eq_zero (by have := h.len; omega)
  have hv : ∃ b c, v = .slice b k c ∧ k ≤ c := by
   rcases hown.2 with ⟨rfl, rfl⟩ | ⟨g, cap, cur, rfl, _, _, h1, h2, _⟩
   ·exact ⟨none, 0, rfl, Nat.le_refl _⟩
   ·exact ⟨_, cap, rfl, h1⟩
  obtain ⟨b, c, rfl, hk⟩ := hv
  refine ⟨_, w, fun ty => cc76_app_none w 121 ty 38 i Tryz.underlying121 hi b k c hk rc, ?_, ⟨rfl, rfl, rfl, Nat.le_refl _, fun _ _ _ => rfl⟩, Nat.le_refl _⟩
  rw [hn, List.append_nil]; exact hown
 ·obtain ⟨v', w', hrun, r1, r2, r3⟩ := run_append_own (P := Tryz.prog) w base 121 121 38 i z 11 16 Tryz.underlying121 hi hz hs hby hzs (by decide) v k xs hown a m rc news h.len hcell h.one b1 b2 b3
  refine ⟨v', w', fun ty => ?_, r1, r2, sem_draws _ _ _ _ hrun⟩
  have e : ∀ ty, Builtin.append_ #[121, 121] ty #[v, .slice (some a) m rc] = Builtin.append_ #[121, 121] 121 #[v, .slice (some a) m rc] := fun ty => rfl
  rw [e]; exact hrun
theorem cc76_Src.kept {w w' : World} {v : Value} {n : Nat} {news : List Value} (h : cc76_Src w v n news) (hb : ∀ b, b < w.heap.size → w'.heap[b]? = w.heap[b]?) : cc76_Src w' v n news := by
 refine ⟨?_, h.len, h.one⟩
 obtain ⟨base, rc, e, h1, h2⟩ := h.v
 refine ⟨base, rc, e, h1, h2.imp id fun ⟨a, e2, hc⟩ => ⟨a, e2, fun j u hj => ?_⟩⟩
 have h3 := hc j u hj
 rw [← h3]
 refine World.cell?_of_block (hb _ ?_)
 unfold World.cell? at h3
 rcases Nat.lt_or_ge (a.add j).block w.heap.size with h | h
 ·exact h
 ·rw [Array.getElem?_eq_none h] at h3; cases h3
def cc76_szk (n1 n2 k : Nat) : Nat := if k = 0 then 0 else if k = 1 then n1 else n1 + n2
def cc76_xsk (l1 l2 : List Value) (k : Nat) : List Value := if k = 0 then [] else if k = 1 then l1 else l1 ++ l2
theorem cc76_own_low {w : World} {B e k : Nat} {v : Value} {xs : List Value} {n : Nat} (h : w.ownsRow B e k v n xs) : ∀ b, v.ownBlock = some b → B ≤ b := by
 intro b hb
 rcases h.2 with ⟨rfl, _⟩ | ⟨g, cap, cur, rfl, hg, _⟩
 ·simp [Value.ownBlock] at hb
 ·simp [Value.ownBlock] at hb; omega
theorem cc76_calls (w : World) (rb off rc : Nat) (v1 v2 : Value) (n1 n2 : Nat) (l1 l2 : List Value) (hrc : 2 ≤ rc) (hc1 : w.cell? ⟨rb, off, none⟩ = some v1) (hc2 : w.cell? ⟨rb, off + 1, none⟩ = some v2) (hrb : rb < w.heap.size) (S1 : cc76_Src w v1 n1 l1) (S2 : cc76_Src w v2 n2 l2) (h0 : 0 < n1) (hb : (n1 + n2) * 16 ≤ 140737488351232) :
  Calls Tryz.prog 76 #[.slice (some ⟨rb, off, none⟩) 2 rc] w fun e w' => ∃ v, e = .returned v ∧ w'.ownsRow w.heap.size 38 11 v (n1 + n2) (l1 ++ l2) ∧ Below w.heap.size w w' ∧ w.drawn ≤ w'.drawn := by
 obtain ⟨b1, c1, e1, hk1, _⟩ := S1.v
 obtain ⟨b2, c2, e2, hk2, _⟩ := S2.v
 subst e1; subst e2
 have q1 : wrap64 ((0 : Int) + (n1 : Int)) = (n1 : Int) := by unfold wrap64; omega
 have q2 : wrap64 ((n1 : Int) + (n2 : Int)) = ((n1 + n2 : Nat) : Int) := by unfold wrap64; omega
 have q3 : ¬ ((n1 : Int) < 0) := by omega
 have q4 : ¬ (((n1 + n2 : Nat) : Int) < 0) := by omega
 have A1 : Aside (cc76_Src w (Value.slice b1 n1 c1) n1 l1) := S1
 have A2 : Aside (cc76_Src w (Value.slice b2 n2 c2) n2 l2) := S2
 clear S1 S2
 go_enter Tryz.func76, Tryz.ntmps76
 go_wp2
 go_loopg [3, 11] 2 (fun g s3 s11 wr => ∃ k : Nat, k ≤ 2 ∧ 2 - k ≤ g ∧ s3 = .int .i64 (cc76_szk n1 n2 k : Nat) ∧ s11 = .int .i64 (k : Nat) ∧ wr = w)
 case atStart => exact ⟨0, by omega, by omega, rfl, rfl, rfl⟩
 case round =>
  obtain ⟨k, hk, hg, rfl, rfl, hw⟩ := hrel
  obtain rfl : w = wr := hw.symm
  rcases (by omega : k = 0 ∨ k = 1 ∨ k = 2) with rfl | rfl | rfl
  ·simp only [cc76_szk, if_true]
   go_wp2
   go_roundg 1
   case measure => omega
   case rel => exact ⟨1, by omega, by omega, by simp [cc76_szk], rfl, rfl⟩
  ·simp only [cc76_szk, if_true, Nat.succ_ne_zero, if_false]
   go_wp2
   go_roundg 0
   case measure => omega
   case rel => exact ⟨2, by omega, by omega, by simp [cc76_szk], rfl, rfl⟩
  ·have e2 : cc76_szk n1 n2 2 = n1 + n2 := rfl
   rw [e2]
   go_wp2_with (go_at_call 99; refine (cc76_grow (n1 + n2) (by omega) (by omega) _).mono ?_; rintro e w' ⟨G, cs, hG1, hG2, hcs, rfl, rfl⟩)
   have hrow0 : (w.drew.alloc (.cells cs 38)).ownsRow w.heap.size 38 11 (.slice (some ⟨w.heap.size, 0, none⟩) 0 G) 0 [] := by
    refine ⟨rfl, .inr ⟨w.heap.size, G, cs, rfl, Nat.le_refl _, ?_, Nat.zero_le _, hG2, hcs, by simp⟩⟩
    exact World.alloc_heap_new w.drew (.cells cs 38)
   have hbel0 : Below w.heap.size w (w.drew.alloc (.cells cs 38)) := ((Below.refl _ w).drew).alloc (Nat.le_refl _) _
   have hdr0 : w.drawn ≤ (w.drew.alloc (.cells cs 38)).drawn := Nat.le_succ _
   go_loopg [6, 27] 2 (fun g s6 s27 wr => ∃ k : Nat, k ≤ 2 ∧ 2 - k ≤ g ∧ s27 = .int .i64 (k : Nat) ∧ wr.ownsRow w.heap.size 38 11 s6 (cc76_szk n1 n2 k) (cc76_xsk l1 l2 k) ∧ Below w.heap.size w wr ∧ w.drawn ≤ wr.drawn)
   case atStart => exact ⟨0, by omega, by omega, rfl, hrow0, hbel0, hdr0⟩
   case round =>
    obtain ⟨k, hk2', hg2', rfl, hrow, hbx, hdx⟩ := hrel
    have hx1 : wr.cell? ⟨rb, off, none⟩ = some (Value.slice b1 n1 c1) := (hbx.cell (p := ⟨rb, off, none⟩) hrb).trans hc1
    have hx2 : wr.cell? ⟨rb, off + 1, none⟩ = some (Value.slice b2 n2 c2) := (hbx.cell (p := ⟨rb, off + 1, none⟩) hrb).trans hc2
    have hob : ∀ b, u6.ownBlock = some b → w.heap.size ≤ b := cc76_own_low hrow
    rcases (by omega : k = 0 ∨ k = 1 ∨ k = 2) with rfl | rfl | rfl
    ·obtain ⟨v', w', hrun, r1, r2, r3⟩ := cc76_app_src wr (A1.out.kept hbx.block) u6 _ _ _ hrow (by simp only [cc76_szk, if_true]; unfold maxLen; omega) (by simp only [cc76_szk, if_true]; omega) hbx.size
     have F1 : Aside (w'.ownsRow w.heap.size 38 11 v' (cc76_szk n1 n2 0 + n1) (cc76_xsk l1 l2 0 ++ l1) ∧ Below w.heap.size w w' ∧ w.drawn ≤ w'.drawn) := ⟨r1, hbx.grown r2 hbx.size hob, Nat.le_trans hdx r3⟩
     clear r1 r2 r3 hrow hob hbx hdx
     go_wp2_with (at_builtin; refine Lib.wpList_append_run _ rfl _ _ _ _ rfl _ _ rfl rfl _ _ (hrun _) ?_)
     go_roundg 1
     case measure => omega
     case rel => exact ⟨1, by omega, by omega, rfl, by simpa [cc76_szk, cc76_xsk] using F1.out.1, F1.out.2⟩
    ·obtain ⟨v', w', hrun, r1, r2, r3⟩ := cc76_app_src wr (A2.out.kept hbx.block) u6 _ _ _ hrow (by simp only [cc76_szk, if_true, Nat.succ_ne_zero, if_false]; unfold maxLen; omega) (by simp only [cc76_szk, if_true, Nat.succ_ne_zero, if_false]; omega) hbx.size
     have F1 : Aside (w'.ownsRow w.heap.size 38 11 v' (cc76_szk n1 n2 1 + n2) (cc76_xsk l1 l2 1 ++ l2) ∧ Below w.heap.size w w' ∧ w.drawn ≤ w'.drawn) := ⟨r1, hbx.grown r2 hbx.size hob, Nat.le_trans hdx r3⟩
     clear r1 r2 r3 hrow hob hbx hdx
     go_wp2_with (at_builtin; refine Lib.wpList_append_run _ rfl _ _ _ _ rfl _ _ rfl rfl _ _ (hrun _) ?_)
     go_roundg 0
     case measure => omega
     case rel => exact ⟨2, by omega, by omega, rfl, by simpa [cc76_szk, cc76_xsk] using F1.out.1, F1.out.2⟩
    ·have F1 : Aside (wr.ownsRow w.heap.size 38 11 u6 (cc76_szk n1 n2 2) (cc76_xsk l1 l2 2) ∧ Below w.heap.size w wr ∧ w.drawn ≤ wr.drawn) := ⟨hrow, hbx, hdx⟩
     clear hrow hob hbx hdx
     go_wp2
     go_ret
     exact ⟨u6, rfl, by simpa [cc76_szk, cc76_xsk] using F1.out.1, F1.out.2⟩
theorem cc76_src_of {α : Type} [Inhabited α] {enc : α → List LV} {kc : α → List Value} (hdet : ∀ φ x vs, RelFL φ (enc x) vs → vs = kc x) (hk : ∀ x, (kc x).length = 11) (h1 : ∀ x, ∀ v ∈ kc x, v.oneCell' = true) {μ : Emb} {pre : Pre} {w : World} (hp : PreOK μ pre w) {l : List α} {v : Value}
  (h : Rel μ (.ds 11 l.length (rowF enc default l)) v) : cc76_Src w v l.length (l.flatMap kc) := by
 simp only [Rel, RelF] at h
 obtain ⟨base, rc, rfl, hn, hbn, hsp, hel⟩ := h
 have hlen : ∀ l : List α, (l.flatMap kc).length = l.length * 11 := by
  intro l
  induction l with
  | nil => rfl
  | cons a l ih => rw [List.flatMap_cons, List.length_append, ih, hk, List.length_cons]; omega
 refine ⟨⟨base, rc, rfl, hn, ?_⟩, hlen l, fun u hu => ?_⟩
 ·cases base with
  | none =>
   refine .inl ⟨rfl, ?_⟩
   rcases Nat.eq_zero_or_pos l.length with h0 | h0
   ·exact h0
   ·obtain ⟨a, _, _, e, _⟩ := hel 0 h0; cases e
  | some a =>
   refine .inr ⟨a, rfl, fun j u hj => ?_⟩
   have hjl : j < l.length * 11 := by rw [← hlen l]; exact (List.getElem?_eq_some_iff.1 hj).1
   have hi : j / 11 < l.length := by omega
   have hr : j % 11 < 11 := Nat.mod_lt _ (by decide)
   have hd : j / 11 * 11 + j % 11 = j := by omega
   have hf := flat_at kc 11 hk l (j / 11) (j % 11) hi hr
   rw [hd, hj] at hf
   obtain ⟨a', cells, vs, e, hc, hv, hvl, hla, _⟩ := hel (j / 11) hi
   cases e
   obtain ⟨E, fr, hh⟩ := hp.fro _ _ hc
   have hvs : vs = kc (l.getD (j / 11) default) := hdet _ _ _ hv
   have h2 := hla (j % 11) u (by rw [hvs]; exact hf.symm)
   have hs := hsp a rfl (by omega)
   rw [add_off hs]
   unfold World.cell?
   simp only [hh]
   rw [show a.off + j = a.off + j / 11 * 11 + j % 11 by omega]
   simpa using h2
 ·obtain ⟨x, _, hx⟩ := List.mem_flatMap.1 hu
  exact h1 x u hx
theorem cc76_tri {α : Type} [Inhabited α] {enc : α → List LV} {kc : α → List Value} (henc : ∀ φ x, RelFL φ (enc x) (kc x)) (hdet : ∀ φ x vs, RelFL φ (enc x) vs → vs = kc x) (hk : ∀ x, (kc x).length = 11) (h1 : ∀ x, ∀ v ∈ kc x, v.oneCell' = true)
  (enc2 : List α → List LV) (he : ∀ z, enc2 z = [.ds 11 z.length (rowF enc default z)]) (l m : List α) (h0 : 0 < l.length) (h : (l.length + m.length) * 16 ≤ 140737488351232) :
  FnTri Tryz.prog 76 [.ds 1 2 (rowF enc2 default [l, m])] [] (.ds 11 (l ++ m).length (rowF enc default (l ++ m))) [] := by
 refine ⟨⟨Tryz.f76, Tryz.func76, by kernel_rfl, by kernel_rfl⟩, fun μ w vals hr hp _ => ?_⟩
 obtain ⟨x, r, rfl, hx, hr'⟩ := hr
 cases hr'
 simp only [Rel, RelF] at hx
 obtain ⟨base, rc, rfl, hrc, hbn, hsp, hel⟩ := hx
 obtain ⟨a, cells, vs1, rfl, hc, r1, q1, z1, _⟩ := hel 0 (by omega)
 obtain ⟨a2, cells2, vs2, ea, hc', r2, q2, z2, _⟩ := hel 1 (by omega)
 cases ea
 obtain rfl := Option.some.inj (hc.symm.trans hc')
 have f0 : rowF enc2 default [l, m] 0 = [.ds 11 l.length (rowF enc default l)] := he l
 have f1 : rowF enc2 default [l, m] 1 = [.ds 11 m.length (rowF enc default m)] := he m
 rw [f0] at r1
 rw [f1] at r2
 obtain ⟨v1, t1, rfl, rel1, e1⟩ := r1
 cases e1
 obtain ⟨v2, t2, rfl, rel2, e2⟩ := r2
 cases e2
 obtain ⟨E, fr, hh⟩ := hp.fro _ _ hc
 have hs := hsp a rfl (by omega)
 obtain ⟨rb, off, sp⟩ := a
 simp only at hs
 subst hs
 have hc1 : w.cell? ⟨rb, off, none⟩ = some v1 := by
  unfold World.cell?
  simp only at hh
  simp only [hh]
  have := z1 0 v1 rfl
  simpa using this
 have hc2 : w.cell? ⟨rb, off + 1, none⟩ = some v2 := by
  unfold World.cell?
  simp only at hh
  simp only [hh]
  have := z2 0 v2 rfl
  simpa using this
 have hrb : rb < w.heap.size := (Array.getElem?_eq_some_iff.1 hh).1
 have hcalls := cc76_calls w rb off rc v1 v2 l.length m.length _ _ hrc hc1 hc2 hrb (cc76_src_of hdet hk h1 hp rel1) (cc76_src_of hdet hk h1 hp rel2) h0 h
 refine hcalls.mono ?_
 rintro e w' ⟨v, rfl, hrow, hb, hd⟩
 rw [← List.flatMap_append, ← List.length_append] at hrow
 obtain ⟨μ', k1, k2⟩ := sorted_fin (enc := enc) (kc := kc) (k := 11) (L := l ++ m) (v := v) henc hk h1 hp hb hd (sortedAt_owns (enc := kc) (k := 11) hk (Nat.le_refl w.heap.size) hrow)
 exact ⟨v, μ', rfl, k1, k2⟩
def cc76_kv : LV → Value
 | .int k n => .int k n
 | .bool b => .bool b
 | _ => .int .i64 0
def cc76_ib : LV → Bool
 | .int _ _ => true
 | .bool _ => true
 | _ => false
theorem cc76_kv_rel (φ : Fro) : ∀ l : List LV, l.all cc76_ib = true → RelFL φ l (l.map cc76_kv)
 | [], _ => rfl
 | c :: l, h => by
  rw [List.all_cons, Bool.and_eq_true] at h
  refine ⟨_, _, rfl, ?_, cc76_kv_rel φ l h.2⟩
  cases c <;> first | rfl | (simp [cc76_ib] at h; done)
theorem cc76_kv_det (φ : Fro) : ∀ (l : List LV) (vs : List Value), l.all cc76_ib = true → RelFL φ l vs → vs = l.map cc76_kv
 | [], vs, _, h => h
 | c :: l, vs, h, ⟨v, r, e, h1, h2⟩ => by
  rw [List.all_cons, Bool.and_eq_true] at h
  subst e
  rw [List.map_cons, cc76_kv_det φ l r h.2 h2]
  congr 1
  cases c <;> first | exact h1 | (simp [cc76_ib] at h; done)
theorem cc76_kv_one (l : List LV) : ∀ v ∈ l.map cc76_kv, v.oneCell' = true := by
 intro v hv
 obtain ⟨c, _, rfl⟩ := List.mem_map.1 hv
 cases c <;> rfl
theorem cc76_con {α : Type} [Inhabited α] (enc : α → List LV) (hib : ∀ x, (enc x).all cc76_ib = true) (hk : ∀ x, (enc x).length = 11) (enc2 : List α → List LV) (he : ∀ z, enc2 z = [.ds 11 z.length (rowF enc default z)]) (l m : List α) (h0 : 0 < l.length) (h : (l.length + m.length) * 16 ≤ 140737488351232) :
  FnTri Tryz.prog 76 [.ds 1 2 (rowF enc2 default [l, m])] [] (.ds 11 (l ++ m).length (rowF enc default (l ++ m))) [] :=
 cc76_tri (kc := fun x => (enc x).map cc76_kv) (fun φ x => cc76_kv_rel φ _ (hib x)) (fun φ x vs => cc76_kv_det φ _ vs (hib x)) (fun x => by rw [List.length_map]; exact hk x) (fun x => cc76_kv_one _) enc2 he l m h0 h
def AX_v (r : J_) : LV := .str r
def AX_l0 (c : Int) : Nat → J_ → Option (J_)
 | 0, _ => none
 | fuel + 1, s2 =>
  if ((decide (0 < ((s2).length : Int))) : Bool) then
   if 0 ≤ (IntKind.wrap .i64 (((s2).length : Int) - 1)) ∧ (IntKind.wrap .i64 (((s2).length : Int) - 1)) < (((s2).length : Nat) : Int) then
   if ((((s2.getD ((IntKind.wrap .i64 (((s2).length : Int) - 1))).toNat 0).toNat : Int) == c) : Bool) then
    if 0 ≤ (0 : Int) ∧ (0 : Int) ≤ (IntKind.wrap .i64 (((s2).length : Int) - 1)) ∧ (IntKind.wrap .i64 (((s2).length : Int) - 1)) ≤ (((s2).length : Nat) : Int) then
    AX_l0 c fuel ((s2.drop 0).take (((IntKind.wrap .i64 (((s2).length : Int) - 1))).toNat - 0))
    else none
   else
    some s2
   else none
  else
   some s2
def AX (s : J_) (c : Int) : Option (J_) :=
 AX_l0 c big s
abbrev AX_K0 (w0 : World) (W : Nat → Prop) (μ0 : Emb) (c : Int) (s2 r : J_) : Prop := Kt_ w0 W μ0 Tryz.f127 0 0 (AX_v r) [] (kAt (bodyOf Tryz.f127) 0) ((.str s2) :: (.int .u8 c) :: n_ 21 []) []
theorem AX_l0_ok {w0 W μ0} (hμ : Lt_ μ0 0) (c : Int) : ∀ (fuel : Nat) (s2 r : J_), AX_l0 c fuel s2 = some r → AX_K0 w0 W μ0 c s2 r := by
 intro fuel
 induction fuel with
 | zero => intro s2 r h; rw [AX_l0] at h; cases h
 | succ fuel ih =>
  intro s2 r h
  rw [AX_l0] at h
  rcases it_ h with ⟨C1, h⟩ | ⟨C1, h⟩
  ·obtain ⟨G2, h⟩ := gs_ h
   rcases it_ h with ⟨C3, h⟩ | ⟨C3, h⟩
   ·obtain ⟨G4, h⟩ := gs_ h
    exact rt_ hμ [] 20 [.go, .reg [(3, hT), (11, hT)], .reg []]
     (a_ (r1_ (r2_ (f_ C1 (r4_ (a_ (a_ G2 tr) (r2_ (f_ C3 tr))))))) (a_ (r4_ (a_ (a_ G4 tr) (r1_ tr))) tr)) (ih _ r h) trivial
   ·obtain rfl := si_ h
    exact rr_ [] 19 [.go, .reg [(3, hT), (11, hF)], .reg []]
     (a_ (a_ (r1_ (r2_ (f_ C1 (r4_ (a_ (a_ G2 tr) (r2_ (f_ C3 tr))))))) (a_ (r2_ tr) tr)) tr)
  ·obtain rfl := si_ h
   exact rr_ [] 19 [.go, .reg [(3, hF)], .reg []]
    (a_ (a_ (r1_ (r2_ (f_ C1 (a_ tr (t2_ (t4_ (r1_ tr))))))) (a_ (r2_ tr) tr)) tr)
theorem AX_ok (s : J_) (c : Int) (r : J_) (h : AX s c = some r) : ∀ σ, Inj 0 σ → FnTri Tryz.prog 127 (renL σ [.str s, .int .u8 c]) (preOf σ 0 []) ((AX_v r).ren σ) (upOf σ []) := by
 refine fo_ Tryz.func127 trivial trivial ?_
 intro w0 W μ0 hμ
 unfold AX at h
 exact rt_ hμ [] 15 [.reg []]
  (a_ (r1_ tr) tr) (AX_l0_ok hμ c big _ r h) trivial
theorem AX_tri (s : J_) (c : Int) (r : J_) (h : AX s c = some r) : FnTri Tryz.prog 127 [.str s, .int .u8 c] [] (AX_v r) [] := FnTri.none (AX_ok s c r h) rfl rfl
def Ap_v (r : J_) : LV := .str r
def Ap (s : J_) : Option (J_) :=
 if ((s == []) : Bool) then
  some s
 else
  (AX s 0).bind fun y3 =>
  some y3
theorem Ap_ok (s r : J_) (h : Ap s = some r) : ∀ σ, Inj 0 σ → FnTri Tryz.prog 119 (renL σ [.str s, .str ([0] : J_)]) (preOf σ 0 []) ((Ap_v r).ren σ) (upOf σ []) := by
 refine fo_ Tryz.func119 trivial trivial ?_
 intro w0 W μ0 hμ
 unfold Ap at h
 rcases it_ h with ⟨c1, h⟩ | ⟨c1, h⟩
 ·obtain rfl := si_ h
  exact rr_ [] 20 [.reg [], .reg [(2, hT)], .reg []]
   (a_ (a_ (r1_ tr) (a_ (r2_ (f_ c1 (t2_ (r1_ tr)))) (a_ (r2_ tr) tr))) tr)
 ·obtain ⟨y3, e2, h⟩ := bs_ h
  obtain rfl := si_ h
  exact rr_ [] 26 [.reg [], .reg [(2, hF)], .reg [], .reg [(3, hC (AX_v y3))]]
   (a_ (a_ (r1_ tr) (a_ (r2_ (f_ c1 (r1_ (r2_ tr)))) (a_ (r1_ (r4_ (a_ (a_ (a_ (lei_ 0 0 rfl) (lti_ 0 1 rfl)) tr) (r2_ tr)))) (a_ (r2_ (a_ (a_ (a_ (lei_ 0 0 rfl) (lti_ 0 1 rfl)) tr) (c_ (AX_tri s 0 y3 e2) (r1_ tr)))) tr)))) tr)
theorem Ap_tri (s r : J_) (h : Ap s = some r) : FnTri Tryz.prog 119 [.str s, .str ([0] : J_)] [] (Ap_v r) [] := FnTri.none (Ap_ok s r h) rfl rfl
def Ak_v (r : (Int)) : LV := .int .i64 r
def Ak (s : J_) (c : Int) : Option ((Int)) :=
 some (Lib.indexByte s (c).toNat.toUInt8)
theorem Ak_ok (s : J_) (c : Int) (r : (Int)) (h : Ak s c = some r) : ∀ σ, Inj 0 σ → FnTri Tryz.prog 136 (renL σ [.str s, .int .u8 c]) (preOf σ 0 []) ((Ak_v r).ren σ) (upOf σ []) := by
 refine fo_ Tryz.func136 trivial trivial ?_
 intro w0 W μ0 hμ
 unfold Ak at h
 obtain rfl := si_ h
 exact rr_ [] 15 [.reg [], .reg [(2, { ext := some (.int .i64 (Lib.indexByte s (c).toNat.toUInt8)) })]]
  (a_ (a_ (r1_ tr) (a_ (r2_ (a_ (a_ (ext140 s c) tr) (r1_ tr))) tr)) tr)
theorem Ak_tri (s : J_) (c : Int) (r : (Int)) (h : Ak s c = some r) : FnTri Tryz.prog 136 [.str s, .int .u8 c] [] (Ak_v r) [] := FnTri.none (Ak_ok s c r h) rfl rfl
def BG_v (r : (Int)) : LV := .int .i64 r
def BG (s : J_) (c : Int) : Option ((Int)) :=
 (Ak s c).bind fun y2 =>
 some y2
theorem BG_ok (s : J_) (c : Int) (r : (Int)) (h : BG s c = some r) : ∀ σ, Inj 0 σ → FnTri Tryz.prog 131 (renL σ [.str s, .int .u8 c]) (preOf σ 0 []) ((BG_v r).ren σ) (upOf σ []) := by
 refine fo_ Tryz.func131 trivial trivial ?_
 intro w0 W μ0 hμ
 unfold BG at h
 obtain ⟨y2, e1, h⟩ := bs_ h
 obtain rfl := si_ h
 exact rr_ [] 15 [.reg [], .reg [(2, hC (Ak_v y2))]]
  (a_ (a_ (r1_ tr) (a_ (r2_ (c_ (Ak_tri s c y2 e1) (r1_ tr))) tr)) tr)
theorem BG_tri (s : J_) (c : Int) (r : (Int)) (h : BG s c = some r) : FnTri Tryz.prog 131 [.str s, .int .u8 c] [] (BG_v r) [] := FnTri.none (BG_ok s c r h) rfl rfl
def BU_v (r : I_ × (Int)) : LV := .tup [.agg [.int .u8 r.1.a0, .int .u8 r.1.a1, .int .u8 r.1.a2, .int .u8 r.1.a3, .int .u8 r.1.a4, .int .u8 r.1.a5, .int .u8 r.1.a6, .int .u8 r.1.a7], .int .i64 r.2]
def BU (s : J_) : Option (I_ × (Int)) :=
 if ((s == []) : Bool) then
  some ((A8.mk 0 0 0 0 0 0 0 0), 1)
 else
  if ((decide (8 < ((s).length : Int))) : Bool) then
   some ((A8.mk 0 0 0 0 0 0 0 0), 1)
  else
   (BG s 0).bind fun y4 =>
   if ((decide (0 ≤ y4)) : Bool) then
    some ((A8.mk 0 0 0 0 0 0 0 0), 1)
   else
    some ((A8.mk (if 0 < (s).length then ((s.getD 0 0).toNat : Int) else 0) (if 1 < (s).length then ((s.getD 1 0).toNat : Int) else 0) (if 2 < (s).length then ((s.getD 2 0).toNat : Int) else 0) (if 3 < (s).length then ((s.getD 3 0).toNat : Int) else 0) (if 4 < (s).length then ((s.getD 4 0).toNat : Int) else 0) (if 5 < (s).length then ((s.getD 5 0).toNat : Int) else 0) (if 6 < (s).length then ((s.getD 6 0).toNat : Int) else 0) (if 7 < (s).length then ((s.getD 7 0).toNat : Int) else 0)), 0)
theorem BU_ok (s : J_) (r : I_ × (Int)) (h : BU s = some r) : ∀ σ, Inj 0 σ → FnTri Tryz.prog 120 (renL σ [.str s]) (preOf σ 0 []) ((BU_v r).ren σ) (upOf σ []) := by
 refine fo_ Tryz.func120 trivial trivial ?_
 intro w0 W μ0 hμ
 unfold BU at h
 rcases it_ h with ⟨c1, h⟩ | ⟨c1, h⟩
 ·obtain rfl := si_ h
  exact rr_ [] 23 [.reg [], .reg [], .reg [(2, hT)], .reg []]
   (a_ (a_ (r2_ tr) (a_ (r1_ tr) (a_ (r2_ (f_ c1 (a_ tr (t2_ (r2_ (a_ tr (t2_ (r1_ tr)))))))) (a_ (m_ 8 8 rfl (a_ (a_ (a_ (Eq.refl 8) (a_ (le_ 8 8 rfl) (Eq.refl 0))) tr) (r1_ tr))) tr)))) (a_ (a_ tr (le_ 8 8 rfl)) tr))
 ·rcases it_ h with ⟨c2, h⟩ | ⟨c2, h⟩
  ·obtain rfl := si_ h
   exact rr_ [] 23 [.reg [], .reg [], .reg [(2, hF), (7, hT)], .reg []]
    (a_ (a_ (r2_ tr) (a_ (r1_ tr) (a_ (r2_ (f_ c1 (r4_ (f_ c2 (a_ tr (t2_ (r1_ tr))))))) (a_ (m_ 8 8 rfl (a_ (a_ (a_ (Eq.refl 8) (a_ (le_ 8 8 rfl) (Eq.refl 0))) tr) (r1_ tr))) tr)))) (a_ (a_ tr (le_ 8 8 rfl)) tr))
  ·obtain ⟨y4, e3, h⟩ := bs_ h
   rcases it_ h with ⟨c5, h⟩ | ⟨c5, h⟩
   ·obtain rfl := si_ h
    exact rr_ [] 23 [.reg [], .reg [], .reg [(2, hF), (7, hF), (9, hC (BG_v y4)), (11, hT)], .reg []]
     (a_ (a_ (r2_ tr) (a_ (r1_ tr) (a_ (r2_ (f_ c1 (r4_ (f_ c2 (r1_ (c_ (BG_tri s 0 y4 e3) (r1_ (f_ c5 tr)))))))) (a_ (m_ 8 8 rfl (a_ (a_ (a_ (Eq.refl 8) (a_ (le_ 8 8 rfl) (Eq.refl 0))) tr) (r1_ tr))) tr)))) (a_ (a_ tr (le_ 8 8 rfl)) tr))
   ·obtain rfl := si_ h
    exact rr_ [] 27 [.reg [], .reg [], .reg [(2, hF), (7, hF), (9, hC (BG_v y4)), (11, hF)], .reg [], .reg []]
     (a_ (a_ (r2_ tr) (a_ (r1_ tr) (a_ (r2_ (f_ c1 (r4_ (f_ c2 (r1_ (c_ (BG_tri s 0 y4 e3) (r1_ (f_ c5 tr)))))))) (a_ (a_ (a_ (a_ (lei_ 0 0 rfl) (a_ (lei_ 0 8 rfl) (lei_ 8 8 rfl))) tr) (r1_ (a_ (a_ (a_ (Eq.refl 1) (a_ (Eq.refl 0) (a_ (le_ 8 8 rfl) (Eq.refl true)))) tr) tr))) (a_ (m_ 8 8 rfl (a_ (a_ (a_ (Eq.refl 8) (a_ (le_ 8 8 rfl) (Eq.refl 0))) tr) (r1_ tr))) tr))))) (a_ (a_ tr (le_ 8 8 rfl)) tr))
theorem BU_tri (s : J_) (r : I_ × (Int)) (h : BU s = some r) : FnTri Tryz.prog 120 [.str s] [] (BU_v r) [] := FnTri.none (BU_ok s r h) rfl rfl
def Ax_v (r : J_ × (Bool)) : LV := .tup [.str r.1, .bool r.2]
def Ax_c4 : Option (J_ × (Bool)) :=
 some ([], false)
def Ax_c5 (y2 : J_) : Option (J_ × (Bool)) :=
 some (y2, true)
def Ax (x_k : I_) : Option (J_ × (Bool)) :=
 (Ap (strI (([x_k.a0, x_k.a1, x_k.a2, x_k.a3, x_k.a4, x_k.a5, x_k.a6, x_k.a7] : List Int).take 8))).bind fun y2 =>
 (BU y2).bind fun y4 =>
 if ((y4.2 != 0) : Bool) then
  some ([], false)
 else
  if ((!decide (y4.1 = x_k)) : Bool) then
   Ax_c4
  else
   Ax_c5 y2
abbrev Ax_K1000004 (w0 : World) (W : Nat → Prop) (μ0 : Emb) (r : J_ × (Bool)) : Prop := Kt_ w0 W μ0 Tryz.f96 0 0 (Ax_v r) [] (kAtR (bodyOf Tryz.f96) 4) (n_ 23 []) []
abbrev Ax_K1000005 (w0 : World) (W : Nat → Prop) (μ0 : Emb) (y2 : J_) (r : J_ × (Bool)) : Prop := Kt_ w0 W μ0 Tryz.f96 0 0 (Ax_v r) [] (kAtR (bodyOf Tryz.f96) 5) (n_ 4 ((.str y2) :: n_ 18 [])) []
theorem Ax_c4_ok {w0 W μ0} (hμ : Lt_ μ0 0) (r : J_ × (Bool)) (h : Ax_c4 = some r) : Ax_K1000004 w0 W μ0 r := by
 unfold Ax_c4 at h
 obtain rfl := si_ h
 exact rr_ [] 11 [.reg []]
  (a_ (a_ (r2_ tr) tr) tr)
theorem Ax_c5_ok {w0 W μ0} (hμ : Lt_ μ0 0) (y2 : J_) (r : J_ × (Bool)) (h : Ax_c5 y2 = some r) : Ax_K1000005 w0 W μ0 y2 r := by
 unfold Ax_c5 at h
 obtain rfl := si_ h
 exact rr_ [] 11 [.reg []]
  (a_ (a_ (r1_ (r2_ tr)) tr) tr)
theorem Ax_ok (x_k : I_) (r : J_ × (Bool)) (h : Ax x_k = some r) : ∀ σ, Inj 0 σ → FnTri Tryz.prog 96 (renL σ [.agg [.int .u8 x_k.a0, .int .u8 x_k.a1, .int .u8 x_k.a2, .int .u8 x_k.a3, .int .u8 x_k.a4, .int .u8 x_k.a5, .int .u8 x_k.a6, .int .u8 x_k.a7]]) (preOf σ 0 []) ((Ax_v r).ren σ) (upOf σ []) := by
 refine fo_ Tryz.func96 trivial trivial ?_
 intro w0 W μ0 hμ
 unfold Ax at h
 obtain ⟨y2, e1, h⟩ := bs_ h
 obtain ⟨y4, e3, h⟩ := bs_ h
 rcases it_ h with ⟨c5, h⟩ | ⟨c5, h⟩
 ·obtain rfl := si_ h
  exact rr_ [] 26 [.reg [], .reg [(1, { v := some (.str (strI (([x_k.a0, x_k.a1, x_k.a2, x_k.a3, x_k.a4, x_k.a5, x_k.a6, x_k.a7] : List Int).take 8))) }), (2, hC (Ap_v y2))], .reg [(1, hC (BU_v y4))], .reg [(2, hT)], .reg []]
   (a_ (a_ (r1_ (r2_ tr)) (a_ (a_ (a_ (a_ (lei_ 0 0 rfl) (a_ (lei_ 0 8 rfl) (lei_ 8 8 rfl))) tr) (a_ (a_ (arr_ob [x_k.a0, x_k.a1, x_k.a2, x_k.a3, x_k.a4, x_k.a5, x_k.a6, x_k.a7] 8 8 (le_ 8 8 rfl) rfl) (a_ (le_arr [x_k.a0, x_k.a1, x_k.a2, x_k.a3, x_k.a4, x_k.a5, x_k.a6, x_k.a7] 8 8 (le_ 8 8 rfl) rfl) tr)) (a_ (a_ (a_ (Ap_tri (strI (([x_k.a0, x_k.a1, x_k.a2, x_k.a3, x_k.a4, x_k.a5, x_k.a6, x_k.a7] : List Int).take 8)) y2 e1) tr) tr) (r1_ tr)))) (a_ (r1_ (c_ (BU_tri y2 y4 e3) (r4_ (a_ (a_ (a_ (Eq.refl 8) (a_ (le_ 8 8 rfl) (Eq.refl 0))) tr) (r1_ tr))))) (a_ (r2_ (f_ c5 (a_ tr (t2_ (r1_ tr))))) (a_ (r2_ tr) tr))))) tr)
 ·rcases it_ h with ⟨c6, h⟩ | ⟨c6, h⟩
  ·exact rt_ hμ [] 24 [.reg [], .reg [(1, { v := some (.str (strI (([x_k.a0, x_k.a1, x_k.a2, x_k.a3, x_k.a4, x_k.a5, x_k.a6, x_k.a7] : List Int).take 8))) }), (2, hC (Ap_v y2))], .reg [(1, hC (BU_v y4))], .reg [(2, hF), (5, hv_ (.bool (!decide (y4.1 = x_k)))), (6, hT)]]
    (a_ (r1_ (r2_ tr)) (a_ (a_ (a_ (a_ (lei_ 0 0 rfl) (a_ (lei_ 0 8 rfl) (lei_ 8 8 rfl))) tr) (a_ (a_ (arr_ob [x_k.a0, x_k.a1, x_k.a2, x_k.a3, x_k.a4, x_k.a5, x_k.a6, x_k.a7] 8 8 (le_ 8 8 rfl) rfl) (a_ (le_arr [x_k.a0, x_k.a1, x_k.a2, x_k.a3, x_k.a4, x_k.a5, x_k.a6, x_k.a7] 8 8 (le_ 8 8 rfl) rfl) tr)) (a_ (a_ (a_ (Ap_tri (strI (([x_k.a0, x_k.a1, x_k.a2, x_k.a3, x_k.a4, x_k.a5, x_k.a6, x_k.a7] : List Int).take 8)) y2 e1) tr) tr) (r1_ tr)))) (a_ (r1_ (c_ (BU_tri y2 y4 e3) (r4_ (a_ (a_ (a_ (Eq.refl 8) (a_ (le_ 8 8 rfl) (Eq.refl 0))) tr) (r1_ tr))))) (a_ (r2_ (f_ c5 (m_ 8 8 rfl (m_ 8 8 rfl (a_ (a_ tr (a_ (leB (congrArg not ((k_arr8 .u8) y4.1 x_k))) tr)) (f_ c6 tr)))))) tr)))) (Ax_c4_ok hμ r h) trivial
  ·exact rt_ hμ [] 25 [.reg [], .reg [(1, { v := some (.str (strI (([x_k.a0, x_k.a1, x_k.a2, x_k.a3, x_k.a4, x_k.a5, x_k.a6, x_k.a7] : List Int).take 8))) }), (2, hC (Ap_v y2))], .reg [(1, hC (BU_v y4))], .reg [(2, hF), (5, hv_ (.bool (!decide (y4.1 = x_k)))), (6, hF)]]
    (a_ (r1_ (r2_ tr)) (a_ (a_ (a_ (a_ (lei_ 0 0 rfl) (a_ (lei_ 0 8 rfl) (lei_ 8 8 rfl))) tr) (a_ (a_ (arr_ob [x_k.a0, x_k.a1, x_k.a2, x_k.a3, x_k.a4, x_k.a5, x_k.a6, x_k.a7] 8 8 (le_ 8 8 rfl) rfl) (a_ (le_arr [x_k.a0, x_k.a1, x_k.a2, x_k.a3, x_k.a4, x_k.a5, x_k.a6, x_k.a7] 8 8 (le_ 8 8 rfl) rfl) tr)) (a_ (a_ (a_ (Ap_tri (strI (([x_k.a0, x_k.a1, x_k.a2, x_k.a3, x_k.a4, x_k.a5, x_k.a6, x_k.a7] : List Int).take 8)) y2 e1) tr) tr) (r1_ tr)))) (a_ (r1_ (c_ (BU_tri y2 y4 e3) (r4_ (a_ (a_ (a_ (Eq.refl 8) (a_ (le_ 8 8 rfl) (Eq.refl 0))) tr) (r1_ tr))))) (a_ (r2_ (f_ c5 (m_ 8 8 rfl (m_ 8 8 rfl (a_ (a_ tr (a_ (leB (congrArg not ((k_arr8 .u8) y4.1 x_k))) tr)) (f_ c6 tr)))))) tr)))) (Ax_c5_ok hμ y2 r h) trivial
theorem Ax_tri (x_k : I_) (r : J_ × (Bool)) (h : Ax x_k = some r) : FnTri Tryz.prog 96 [.agg [.int .u8 x_k.a0, .int .u8 x_k.a1, .int .u8 x_k.a2, .int .u8 x_k.a3, .int .u8 x_k.a4, .int .u8 x_k.a5, .int .u8 x_k.a6, .int .u8 x_k.a7]] [] (Ax_v r) [] := FnTri.none (Ax_ok x_k r h) rfl rfl
def BH_v (r : (Int)) : LV := .int .i64 r
def BH_l0 (c : Bg) (set : Int) : Nat → (Int) → (Int) → Option ((Int))
 | 0, _, _ => none
 | fuel + 1, x_n, t10 =>
  if ((decide (t10 < 8)) : Bool) then
   if 0 ≤ t10 ∧ t10 < 8 then
   if 0 ≤ t10 then
   BH_l0 c set fuel (IntKind.wrap .i64 (x_n + (IntKind.wrap .i64 ((IntKind.wrap .i64 (A8.get c.f_Votes t10.toNat)) * (IntKind.wrap .i64 (IntKind.wrap .u64 ((BitVec.ofInt (IntKind.bits .u64) (Int.fdiv set (2 ^ (min (Int.toNat t10) (IntKind.bits .u64)))) &&& BitVec.ofInt (IntKind.bits .u64) 1).toNat : Int))))))) (IntKind.wrap .i64 (t10 + 1))
   else none
   else none
  else
   some x_n
def BH (c : Bg) (set : Int) : Option ((Int)) :=
 BH_l0 c set big 0 0
abbrev BH_K0 (w0 : World) (W : Nat → Prop) (μ0 : Emb) (c : Bg) (set x_n t10 : Int) (r : (Int)) : Prop := Kt_ w0 W μ0 Tryz.f85 0 0 (BH_v r) [] (kAt (bodyOf Tryz.f85) 0) (.any :: (.int .u64 set) :: .any :: .any :: .any :: (.int .i64 x_n) :: .any :: .any :: .any :: (.agg [.int .u8 c.f_Votes.a0, .int .u8 c.f_Votes.a1, .int .u8 c.f_Votes.a2, .int .u8 c.f_Votes.a3, .int .u8 c.f_Votes.a4, .int .u8 c.f_Votes.a5, .int .u8 c.f_Votes.a6, .int .u8 c.f_Votes.a7]) :: (.int .i64 t10) :: n_ 15 []) []
theorem BH_l0_ok {w0 W μ0} (hμ : Lt_ μ0 0) (c : Bg) (set : Int) : ∀ (fuel : Nat) (x_n t10 : Int) (r : (Int)), BH_l0 c set fuel x_n t10 = some r → BH_K0 w0 W μ0 c set x_n t10 r := by
 intro fuel
 induction fuel with
 | zero => intro x_n t10 r h; rw [BH_l0] at h; cases h
 | succ fuel ih =>
  intro x_n t10 r h
  rw [BH_l0] at h
  rcases it_ h with ⟨C1, h⟩ | ⟨C1, h⟩
  ·obtain ⟨G2, h⟩ := gs_ h
   obtain ⟨G3, h⟩ := gs_ h
   exact rt_ hμ [] 26 [.go, .reg [(0, hT)], .reg [(1, hv_ (.int .u8 (A8.get c.f_Votes t10.toNat)))], .reg [], .reg []]
    (a_ (f_ C1 tr) (a_ (r1_ (a_ (a_ (a_ G2 (ix8lt G2 1 8 rfl rfl)) (a_ (ix8s (cInt .u8) 1 (fun _ => rfl) c.f_Votes t10.toNat (lt8N G2) (le_ 1 1 rfl)) tr)) (r2_ tr))) (a_ (r1_ (r4_ (a_ (a_ G3 tr) (r1_ (r4_ tr))))) (a_ (r2_ tr) tr)))) (ih _ _ r h) trivial
  ·obtain rfl := si_ h
   exact rr_ [] 19 [.go, .reg [(0, hF)], .reg []]
    (a_ (a_ (f_ C1 tr) (a_ (r2_ tr) tr)) tr)
theorem BH_ok (c : Bg) (set : Int) (r : (Int)) (h : BH c set = some r) : ∀ σ, Inj 0 σ → FnTri Tryz.prog 85 (renL σ [v_Bg c, .int .u64 set]) (preOf σ 0 []) ((BH_v r).ren σ) (upOf σ []) := by
 refine fo_ Tryz.func85 trivial trivial ?_
 intro w0 W μ0 hμ
 unfold BH at h
 exact rt_ hμ [] 21 [.reg [], .reg [], .reg []]
  (a_ (r2_ tr) (a_ (r1_ tr) (a_ (r1_ (m_ 11 11 rfl (r1_ tr))) tr))) (BH_l0_ok hμ c set big _ _ r h) trivial
theorem BH_tri (c : Bg) (set : Int) (r : (Int)) (h : BH c set = some r) : FnTri Tryz.prog 85 [v_Bg c, .int .u64 set] [] (BH_v r) [] := FnTri.none (BH_ok c set r h) rfl rfl
def BI_v (r : (Int)) : LV := .int .i64 r
def BI (c : Bg) : Option ((Int)) :=
 (BH c 255).bind fun y2 =>
 some y2
theorem BI_ok (c : Bg) (r : (Int)) (h : BI c = some r) : ∀ σ, Inj 0 σ → FnTri Tryz.prog 103 (renL σ [v_Bg c]) (preOf σ 0 []) ((BI_v r).ren σ) (upOf σ []) := by
 refine fo_ Tryz.func103 trivial trivial ?_
 intro w0 W μ0 hμ
 unfold BI at h
 obtain ⟨y2, e1, h⟩ := bs_ h
 obtain rfl := si_ h
 exact rr_ [] 15 [.reg [], .reg [(1, hC (BH_v y2))]]
  (a_ (a_ (r2_ tr) (a_ (m_ 11 11 rfl (c_ (BH_tri c 255 y2 e1) (r1_ tr))) tr)) tr)
theorem BI_tri (c : Bg) (r : (Int)) (h : BI c = some r) : FnTri Tryz.prog 103 [v_Bg c] [] (BI_v r) [] := FnTri.none (BI_ok c r h) rfl rfl
def AJ_v (r : (Int)) : LV := .int .u8 r
def AJ_up (x : Bg) (r : (Int)) : Upd := [(0, some (.var (c_Bg x)))]
def AJ_objs (x : Bg) : List LO := [.var (c_Bg x)]
def AJ_l0 (x : Bg) : Nat → (Int) → (Int) → Option ((Int))
 | 0, _, _ => none
 | fuel + 1, m, i =>
  if ((decide (i < 8)) : Bool) then
   if 0 ≤ i ∧ i < 8 then
   AJ_l0 x fuel (if (A8.get x.f_Votes i.toNat) > m then (A8.get x.f_Votes i.toNat) else m) (IntKind.wrap .i64 (i + 1))
   else none
  else
   some m
def AJ (x : Bg) : Option ((Int)) :=
 AJ_l0 x big x.f_Votes.a0 1
abbrev AJ_K0 (w0 : World) (W : Nat → Prop) (μ0 : Emb) (x : Bg) (m i : Int) (r : (Int)) : Prop := Kt_ w0 W μ0 Tryz.f105 1 1 (AJ_v r) (AJ_up x r) (kAt (bodyOf Tryz.f105) 0) ((.sl 0 0 3 true 8 (some 8)) :: .any :: .any :: (.int .u8 m) :: (.int .i64 i) :: n_ 20 []) [some (.var (c_Bg x))]
theorem AJ_l0_ok {w0 W μ0} (hμ : Lt_ μ0 1) (x : Bg) : ∀ (fuel : Nat) (m i : Int) (r : (Int)), AJ_l0 x fuel m i = some r → AJ_K0 w0 W μ0 x m i r := by
 intro fuel
 induction fuel with
 | zero => intro m i r h; rw [AJ_l0] at h; cases h
 | succ fuel ih =>
  intro m i r h
  rw [AJ_l0] at h
  rcases it_ h with ⟨C1, h⟩ | ⟨C1, h⟩
  ·obtain ⟨G2, h⟩ := gs_ h
   exact rt_ hμ [] 23 [.go, .reg [(3, hT)], .reg [(4, hv_ (.int .u8 (A8.get x.f_Votes i.toNat)))], .reg []]
    (a_ (r1_ (r2_ (f_ C1 tr))) (a_ (r1_ (r2_ (a_ (a_ G2 tr) (a_ (a_ (a_ tr (arrLt (len := 8) G2 3 1 11 rfl rfl)) (a_ (ld8s (cInt .u8) 1 (fun _ => rfl) x.f_Votes [.int .u32 x.f_Epoch, .int .u8 x.f_R, .int .u8 x.f_W] [] 3 rfl i.toNat (lt8N G2) (le_ (0 + 1) 1 rfl)) tr)) (r2_ tr))))) (a_ (r1_ (r2_ tr)) tr))) (ih _ _ r h) ⟨rfl, trivial⟩
  ·obtain rfl := si_ h
   exact rr_ [] 19 [.go, .reg [(3, hF)], .reg []]
    (a_ (a_ (r1_ (r2_ (f_ C1 tr))) (a_ (r2_ tr) tr)) tr)
theorem AJ_ok (x : Bg) (r : (Int)) (h : AJ x = some r) : ∀ σ, Inj 1 σ → FnTri Tryz.prog 105 (renL σ [.sl 0 0 3 true 8 (some 8)]) (preOf σ 0 (AJ_objs x)) ((AJ_v r).ren σ) (upOf σ (AJ_up x r)) := by
 refine fo_ Tryz.func105 ⟨rfl, trivial⟩ ⟨rfl, trivial⟩ ?_
 intro w0 W μ0 hμ
 unfold AJ at h
 exact rt_ hμ [] 27 [.reg [], .reg [], .reg [], .reg []]
  (a_ (r1_ tr) (a_ (r1_ (r2_ tr)) (a_ (r1_ (a_ (a_ (a_ (lei_ 0 0 rfl) (lti_ 0 8 rfl)) tr) (l_ 3 11 rfl (r1_ tr)))) (a_ (r1_ tr) tr)))) (AJ_l0_ok hμ x big _ _ r h) ⟨rfl, trivial⟩
def Ac_v (r : (Bool)) : LV := .bool r
def Ac_up (x1 : Int) (r : (Bool)) : Upd := [(0, some (.var [.int .i64 x1]))]
def Ac_objs (x1 : Int) : List LO := [.var [.int .i64 x1]]
def Ac (x_n x1 : Int) : Option ((Bool)) :=
 if ((decide (1 ≤ x_n)) : Bool) then
  some (decide ((IntKind.wrap .i64 x_n) ≤ x1))
 else
  some false
theorem Ac_ok (x_n x1 : Int) (r : (Bool)) (h : Ac x_n x1 = some r) : ∀ σ, Inj 1 σ → FnTri Tryz.prog 104 (renL σ [.int .u8 x_n, .ptr 0 0 0]) (preOf σ 0 (Ac_objs x1)) ((Ac_v r).ren σ) (upOf σ (Ac_up x1 r)) := by
 refine fo_ Tryz.func104 ⟨rfl, trivial⟩ ⟨rfl, trivial⟩ ?_
 intro w0 W μ0 hμ
 unfold Ac at h
 rcases it_ h with ⟨c1, h⟩ | ⟨c1, h⟩
 ·obtain rfl := si_ h
  exact rr_ [] 15 [.reg [], .reg [(2, hT)]]
   (a_ (a_ (r1_ tr) (a_ (r2_ (f_ c1 (r2_ (l_ 0 1 rfl (r1_ (r2_ tr)))))) tr)) tr)
 ·obtain rfl := si_ h
  exact rr_ [] 15 [.reg [], .reg [(2, hF)]]
   (a_ (a_ (r1_ tr) (a_ (r2_ (f_ c1 (t4_ (r2_ tr)))) tr)) tr)
def BP_v (r : (Bool)) : LV := .bool r
def BP (c : Bg) : Option ((Bool)) :=
 (BI c).bind fun y2 =>
 if ((decide ((IntKind.wrap .u32 (c.f_Epoch - 1)) < 2147483647)) : Bool) then
  (AJ c).bind fun y5 =>
  if ((decide (y5 ≤ 15)) : Bool) then
   (Ac c.f_R y2).bind fun y8 =>
   if (y8 : Bool) then
    (Ac c.f_W y2).bind fun y11 =>
    if (y11 : Bool) then
     if ((decide (y2 < (IntKind.wrap .i64 ((IntKind.wrap .i64 c.f_R) + (IntKind.wrap .i64 c.f_W))))) : Bool) then
      some (decide (y2 < (IntKind.wrap .i64 (2 * (IntKind.wrap .i64 c.f_W)))))
     else
      some false
    else
     some false
   else
    some false
  else
   some false
 else
  some false
theorem BP_ok (c : Bg) (r : (Bool)) (h : BP c = some r) : ∀ σ, Inj 0 σ → FnTri Tryz.prog 84 (renL σ [v_Bg c]) (preOf σ 0 []) ((BP_v r).ren σ) (upOf σ []) := by
 refine fo_ Tryz.func84 trivial trivial ?_
 intro w0 W μ0 hμ
 unfold BP at h
 obtain ⟨y2, e1, h⟩ := bs_ h
 rcases it_ h with ⟨c3, h⟩ | ⟨c3, h⟩
 ·obtain ⟨y5, e4, h⟩ := bs_ h
  rcases it_ h with ⟨c6, h⟩ | ⟨c6, h⟩
  ·obtain ⟨y8, e7, h⟩ := bs_ h
   rcases it_ h with ⟨c9, h⟩ | ⟨c9, h⟩
   ·obtain ⟨y11, e10, h⟩ := bs_ h
    rcases it_ h with ⟨c12, h⟩ | ⟨c12, h⟩
    ·rcases it_ h with ⟨c13, h⟩ | ⟨c13, h⟩
     ·obtain rfl := si_ h
      exact rr_ [] 21 [.reg [], .reg [(1, hC (BI_v y2))], .reg [], .reg [(4, hT), (7, hk_ (hK_ [0] (AJ_v y5) (AJ_objs c) (AJ_up c y5))), (10, hT), (14, hk_ (hK_ [1] (Ac_v y8) (Ac_objs y2) (Ac_up y2 y8))), (16, hT), (20, hk_ (hK_ [1] (Ac_v y11) (Ac_objs y2) (Ac_up y2 y11))), (22, hT), (33, hT)]]
       (a_ (a_ (r2_ tr) (a_ (m_ 11 11 rfl (c_ (BI_tri c y2 e1) (r1_ (a_ (a_ (a_ (Eq.refl 1) (a_ (le_ 1 1 rfl) (Eq.refl 0))) tr) tr)))) (a_ (r2_ tr) (a_ (r1_ (l_ 0 11 rfl (r2_ (f_ c3 (r1_ (a_ (a_ (a_ (lei_ 0 0 rfl) (a_ (lei_ 0 8 rfl) (lei_ 8 8 rfl))) tr) (a_ (a_ (a_ (AJ_ok c y5 e4 (sel [0]) sj_) (a_ (rl_ (.var (c_Bg c))) tr)) tr) (r2_ (f_ c6 (r2_ (l_ 1 11 rfl (a_ (a_ (a_ (Ac_ok c.f_R y2 y8 e7 (sel [1]) sj_) (a_ (rl_ (.var [.int .i64 y2])) tr)) tr) (r1_ (f_ c9 (r2_ (l_ 2 11 rfl (a_ (a_ (a_ (Ac_ok c.f_W y2 y11 e10 (sel [1]) sj_) (a_ (rl_ (.var [.int .i64 y2])) tr)) tr) (r1_ (f_ c12 (r1_ (l_ 1 11 rfl (r2_ (l_ 2 11 rfl (r2_ (l_ 0 1 rfl (r2_ (f_ c13 (r1_ (l_ 2 11 rfl (r2_ (l_ 0 1 rfl (r1_ (r2_ tr))))))))))))))))))))))))))))))))) tr)))) tr)
     ·obtain rfl := si_ h
      exact rr_ [] 21 [.reg [], .reg [(1, hC (BI_v y2))], .reg [], .reg [(4, hT), (7, hk_ (hK_ [0] (AJ_v y5) (AJ_objs c) (AJ_up c y5))), (10, hT), (14, hk_ (hK_ [1] (Ac_v y8) (Ac_objs y2) (Ac_up y2 y8))), (16, hT), (20, hk_ (hK_ [1] (Ac_v y11) (Ac_objs y2) (Ac_up y2 y11))), (22, hT), (33, hF)]]
       (a_ (a_ (r2_ tr) (a_ (m_ 11 11 rfl (c_ (BI_tri c y2 e1) (r1_ (a_ (a_ (a_ (Eq.refl 1) (a_ (le_ 1 1 rfl) (Eq.refl 0))) tr) tr)))) (a_ (r2_ tr) (a_ (r1_ (l_ 0 11 rfl (r2_ (f_ c3 (r1_ (a_ (a_ (a_ (lei_ 0 0 rfl) (a_ (lei_ 0 8 rfl) (lei_ 8 8 rfl))) tr) (a_ (a_ (a_ (AJ_ok c y5 e4 (sel [0]) sj_) (a_ (rl_ (.var (c_Bg c))) tr)) tr) (r2_ (f_ c6 (r2_ (l_ 1 11 rfl (a_ (a_ (a_ (Ac_ok c.f_R y2 y8 e7 (sel [1]) sj_) (a_ (rl_ (.var [.int .i64 y2])) tr)) tr) (r1_ (f_ c9 (r2_ (l_ 2 11 rfl (a_ (a_ (a_ (Ac_ok c.f_W y2 y11 e10 (sel [1]) sj_) (a_ (rl_ (.var [.int .i64 y2])) tr)) tr) (r1_ (f_ c12 (r1_ (l_ 1 11 rfl (r2_ (l_ 2 11 rfl (r2_ (l_ 0 1 rfl (r2_ (f_ c13 (t2_ (t4_ (r2_ tr)))))))))))))))))))))))))))))) tr)))) tr)
    ·obtain rfl := si_ h
     exact rr_ [] 21 [.reg [], .reg [(1, hC (BI_v y2))], .reg [], .reg [(4, hT), (7, hk_ (hK_ [0] (AJ_v y5) (AJ_objs c) (AJ_up c y5))), (10, hT), (14, hk_ (hK_ [1] (Ac_v y8) (Ac_objs y2) (Ac_up y2 y8))), (16, hT), (20, hk_ (hK_ [1] (Ac_v y11) (Ac_objs y2) (Ac_up y2 y11))), (22, hF)]]
      (a_ (a_ (r2_ tr) (a_ (m_ 11 11 rfl (c_ (BI_tri c y2 e1) (r1_ (a_ (a_ (a_ (Eq.refl 1) (a_ (le_ 1 1 rfl) (Eq.refl 0))) tr) tr)))) (a_ (r2_ tr) (a_ (r1_ (l_ 0 11 rfl (r2_ (f_ c3 (r1_ (a_ (a_ (a_ (lei_ 0 0 rfl) (a_ (lei_ 0 8 rfl) (lei_ 8 8 rfl))) tr) (a_ (a_ (a_ (AJ_ok c y5 e4 (sel [0]) sj_) (a_ (rl_ (.var (c_Bg c))) tr)) tr) (r2_ (f_ c6 (r2_ (l_ 1 11 rfl (a_ (a_ (a_ (Ac_ok c.f_R y2 y8 e7 (sel [1]) sj_) (a_ (rl_ (.var [.int .i64 y2])) tr)) tr) (r1_ (f_ c9 (r2_ (l_ 2 11 rfl (a_ (a_ (a_ (Ac_ok c.f_W y2 y11 e10 (sel [1]) sj_) (a_ (rl_ (.var [.int .i64 y2])) tr)) tr) (r1_ (f_ c12 (a_ tr (t8_ (r2_ (t2_ (t4_ (r2_ tr))))))))))))))))))))))))) tr)))) tr)
   ·obtain rfl := si_ h
    exact rr_ [] 21 [.reg [], .reg [(1, hC (BI_v y2))], .reg [], .reg [(4, hT), (7, hk_ (hK_ [0] (AJ_v y5) (AJ_objs c) (AJ_up c y5))), (10, hT), (14, hk_ (hK_ [1] (Ac_v y8) (Ac_objs y2) (Ac_up y2 y8))), (16, hF)]]
     (a_ (a_ (r2_ tr) (a_ (m_ 11 11 rfl (c_ (BI_tri c y2 e1) (r1_ (a_ (a_ (a_ (Eq.refl 1) (a_ (le_ 1 1 rfl) (Eq.refl 0))) tr) tr)))) (a_ (r2_ tr) (a_ (r1_ (l_ 0 11 rfl (r2_ (f_ c3 (r1_ (a_ (a_ (a_ (lei_ 0 0 rfl) (a_ (lei_ 0 8 rfl) (lei_ 8 8 rfl))) tr) (a_ (a_ (a_ (AJ_ok c y5 e4 (sel [0]) sj_) (a_ (rl_ (.var (c_Bg c))) tr)) tr) (r2_ (f_ c6 (r2_ (l_ 1 11 rfl (a_ (a_ (a_ (Ac_ok c.f_R y2 y8 e7 (sel [1]) sj_) (a_ (rl_ (.var [.int .i64 y2])) tr)) tr) (r1_ (f_ c9 (t4_ (r2_ (a_ tr (t8_ (r2_ (t2_ (t4_ (r2_ tr)))))))))))))))))))))) tr)))) tr)
  ·obtain rfl := si_ h
   exact rr_ [] 21 [.reg [], .reg [(1, hC (BI_v y2))], .reg [], .reg [(4, hT), (7, hk_ (hK_ [0] (AJ_v y5) (AJ_objs c) (AJ_up c y5))), (10, hF)]]
    (a_ (a_ (r2_ tr) (a_ (m_ 11 11 rfl (c_ (BI_tri c y2 e1) (r1_ (a_ (a_ (a_ (Eq.refl 1) (a_ (le_ 1 1 rfl) (Eq.refl 0))) tr) tr)))) (a_ (r2_ tr) (a_ (r1_ (l_ 0 11 rfl (r2_ (f_ c3 (r1_ (a_ (a_ (a_ (lei_ 0 0 rfl) (a_ (lei_ 0 8 rfl) (lei_ 8 8 rfl))) tr) (a_ (a_ (a_ (AJ_ok c y5 e4 (sel [0]) sj_) (a_ (rl_ (.var (c_Bg c))) tr)) tr) (r2_ (f_ c6 (t4_ (r2_ (t4_ (r2_ (a_ tr (t8_ (r2_ (t2_ (t4_ (r2_ tr))))))))))))))))))) tr)))) tr)
 ·obtain rfl := si_ h
  exact rr_ [] 21 [.reg [], .reg [(1, hC (BI_v y2))], .reg [], .reg [(4, hF)]]
   (a_ (a_ (r2_ tr) (a_ (m_ 11 11 rfl (c_ (BI_tri c y2 e1) (r1_ (a_ (a_ (a_ (Eq.refl 1) (a_ (le_ 1 1 rfl) (Eq.refl 0))) tr) tr)))) (a_ (r2_ tr) (a_ (r1_ (l_ 0 11 rfl (r2_ (f_ c3 (t4_ (r2_ (t4_ (r2_ (t4_ (r2_ (a_ tr (t8_ (r2_ (t2_ (t4_ (r2_ tr)))))))))))))))) tr)))) tr)
theorem BP_tri (c : Bg) (r : (Bool)) (h : BP c = some r) : FnTri Tryz.prog 84 [v_Bg c] [] (BP_v r) [] := FnTri.none (BP_ok c r h) rfl rfl
def BO_v (r : (Bool)) : LV := .bool r
def BO (c : Bg) : Option ((Bool)) :=
 (BP c).bind fun y2 =>
 some (!y2)
theorem BO_ok (c : Bg) (r : (Bool)) (h : BO c = some r) : ∀ σ, Inj 0 σ → FnTri Tryz.prog 98 (renL σ [v_Bg c]) (preOf σ 0 []) ((BO_v r).ren σ) (upOf σ []) := by
 refine fo_ Tryz.func98 trivial trivial ?_
 intro w0 W μ0 hμ
 unfold BO at h
 obtain ⟨y2, e1, h⟩ := bs_ h
 obtain rfl := si_ h
 exact rr_ [] 15 [.reg [], .reg [(1, hC (BP_v y2))]]
  (a_ (a_ (r2_ tr) (a_ (m_ 11 11 rfl (c_ (BP_tri c y2 e1) (r2_ tr))) tr)) tr)
theorem BO_tri (c : Bg) (r : (Bool)) (h : BO c = some r) : FnTri Tryz.prog 98 [v_Bg c] [] (BO_v r) [] := FnTri.none (BO_ok c r h) rfl rfl
def AG_v (r : (Int)) : LV := .int .i64 r
def AG_l0 (s : H_) : Nat → (Int) → Option ((Int))
 | 0, _ => none
 | fuel + 1, t8 =>
  if ((decide (t8 < ((s).length : Int))) : Bool) then
   if 0 ≤ t8 ∧ t8 < (((s).length : Nat) : Int) then
   (BO (s.getD t8.toNat default)).bind fun y4 =>
   if (y4 : Bool) then
    some t8
   else
    AG_l0 s fuel (IntKind.wrap .i64 (t8 + 1))
   else none
  else
   some (-1)
def AG (s : H_) : Option ((Int)) :=
 AG_l0 s big 0
abbrev AG_K0 (w0 : World) (W : Nat → Prop) (μ0 : Emb) (s : H_) (t8 : Int) (r : (Int)) : Prop := Kt_ w0 W μ0 Tryz.f121 0 0 (AG_v r) [] (kAt (bodyOf Tryz.f121) 0) ((.ds 11 (s).length (rowF c_Bg default s)) :: (.fn 98 [] []) :: n_ 5 ((.int .i64 ((s).length : Int)) :: (.int .i64 t8) :: n_ 10 [])) []
theorem AG_l0_ok {w0 W μ0} (hμ : Lt_ μ0 0) (s : H_) : ∀ (fuel : Nat) (t8 : Int) (r : (Int)), AG_l0 s fuel t8 = some r → AG_K0 w0 W μ0 s t8 r := by
 intro fuel
 induction fuel with
 | zero => intro t8 r h; rw [AG_l0] at h; cases h
 | succ fuel ih =>
  intro t8 r h
  rw [AG_l0] at h
  rcases it_ h with ⟨C1, h⟩ | ⟨C1, h⟩
  ·obtain ⟨G2, h⟩ := gs_ h
   obtain ⟨y4, E3, h⟩ := bs_ h
   rcases it_ h with ⟨C5, h⟩ | ⟨C5, h⟩
   ·obtain rfl := si_ h
    exact rr_ [] 28 [.go, .reg [(0, hT)], .reg [], .reg [(5, { call := some (BO_v y4, [], []), v := some (.bool true) })], .reg []]
     (a_ (a_ (f_ C1 tr) (a_ (r2_ tr) (a_ (r1_ (r2_ (a_ (a_ (a_ (Eq.refl 11) G2) tr) (a_ (a_ (le_ 11 11 rfl) tr) (a_ (a_ (a_ (BO_tri (s.getD t8.toNat default) y4 E3) tr) (a_ (leB C5) tr)) tr))))) (a_ (r2_ tr) tr)))) tr)
   ·exact rt_ hμ [] 29 [.go, .reg [(0, hT)], .reg [], .reg [(5, { call := some (BO_v y4, [], []), v := some (.bool false) })], .reg []]
     (a_ (f_ C1 tr) (a_ (r2_ tr) (a_ (r1_ (r2_ (a_ (a_ (a_ (Eq.refl 11) G2) tr) (a_ (a_ (le_ 11 11 rfl) tr) (a_ (a_ (a_ (BO_tri (s.getD t8.toNat default) y4 E3) tr) (a_ (leB C5) tr)) tr))))) (a_ (r2_ tr) tr)))) (ih _ r h) trivial
  ·obtain rfl := si_ h
   exact rr_ [] 19 [.go, .reg [(0, hF)], .reg []]
    (a_ (a_ (f_ C1 tr) (a_ (r1_ tr) tr)) tr)
theorem AG_ok (s : H_) (r : (Int)) (h : AG s = some r) : ∀ σ, Inj 0 σ → FnTri Tryz.prog 121 (renL σ [.ds 11 (s).length (rowF c_Bg default s), .fn 98 [] []]) (preOf σ 0 []) ((AG_v r).ren σ) (upOf σ []) := by
 refine fo_ Tryz.func121 trivial trivial ?_
 intro w0 W μ0 hμ
 unfold AG at h
 exact rt_ hμ [] 18 [.reg [], .reg []]
  (a_ (r1_ tr) (a_ (r1_ (r2_ tr)) tr)) (AG_l0_ok hμ s big _ r h) trivial
theorem AG_tri (s : H_) (r : (Int)) (h : AG s = some r) : FnTri Tryz.prog 121 [.ds 11 (s).length (rowF c_Bg default s), .fn 98 [] []] [] (AG_v r) [] := FnTri.none (AG_ok s r h) rfl rfl
def AS_v (r : (Bool)) : LV := .bool r
def AS (s : H_) : Option ((Bool)) :=
 (AG s).bind fun y2 =>
 some (decide (0 ≤ y2))
theorem AS_ok (s : H_) (r : (Bool)) (h : AS s = some r) : ∀ σ, Inj 0 σ → FnTri Tryz.prog 97 (renL σ [.ds 11 (s).length (rowF c_Bg default s), .fn 98 [] []]) (preOf σ 0 []) ((AS_v r).ren σ) (upOf σ []) := by
 refine fo_ Tryz.func97 trivial trivial ?_
 intro w0 W μ0 hμ
 unfold AS at h
 obtain ⟨y2, e1, h⟩ := bs_ h
 obtain rfl := si_ h
 exact rr_ [] 15 [.reg [], .reg [(2, hC (AG_v y2))]]
  (a_ (a_ (r1_ tr) (a_ (r2_ (c_ (AG_tri s y2 e1) (r2_ tr))) tr)) tr)
theorem AS_tri (s : H_) (r : (Bool)) (h : AS s = some r) : FnTri Tryz.prog 97 [.ds 11 (s).length (rowF c_Bg default s), .fn 98 [] []] [] (AS_v r) [] := FnTri.none (AS_ok s r h) rfl rfl
def BV_v (r : (Bool)) : LV := .bool r
def BV (x_k : I_) (mode : Int) (co : H_) : Option ((Bool)) :=
 (Ax x_k).bind fun y2 =>
 if (y2.2 : Bool) then
  if ((mode == 1) : Bool) then
   (AS co).bind fun y6 =>
   some (!y6)
  else
   if ((mode == 2) : Bool) then
    (AS co).bind fun y7 =>
    some (!y7)
   else
    some false
 else
  some false
theorem BV_ok (x_k : I_) (mode : Int) (co : H_) (r : (Bool)) (h : BV x_k mode co = some r) : ∀ σ, Inj 0 σ → FnTri Tryz.prog 75 (renL σ [.agg [.int .u8 x_k.a0, .int .u8 x_k.a1, .int .u8 x_k.a2, .int .u8 x_k.a3, .int .u8 x_k.a4, .int .u8 x_k.a5, .int .u8 x_k.a6, .int .u8 x_k.a7], .int .u8 mode, .ds 11 (co).length (rowF c_Bg default co)]) (preOf σ 0 []) ((BV_v r).ren σ) (upOf σ []) := by
 refine fo_ Tryz.func75 trivial trivial ?_
 intro w0 W μ0 hμ
 unfold BV at h
 obtain ⟨y2, e1, h⟩ := bs_ h
 rcases it_ h with ⟨c3, h⟩ | ⟨c3, h⟩
 ·rcases it_ h with ⟨c4, h⟩ | ⟨c4, h⟩
  ·obtain ⟨y6, e5, h⟩ := bs_ h
   obtain rfl := si_ h
   exact rr_ [] 18 [.reg [], .reg [(1, hC (Ax_v y2))], .reg [(1, hT), (4, hT), (11, hC (AS_v y6))]]
    (a_ (a_ (r2_ tr) (a_ (m_ 8 8 rfl (c_ (Ax_tri x_k y2 e1) (r1_ (r4_ tr)))) (a_ (r1_ (f_ c3 (r2_ (f_ c4 (t2_ (r4_ (c_ (AS_tri co y6 e5) (r1_ (r2_ tr))))))))) tr))) tr)
  ·rcases it_ h with ⟨c5, h⟩ | ⟨c5, h⟩
   ·obtain ⟨y7, e6, h⟩ := bs_ h
    obtain rfl := si_ h
    exact rr_ [] 18 [.reg [], .reg [(1, hC (Ax_v y2))], .reg [(1, hT), (4, hF), (9, hT), (11, hC (AS_v y7))]]
     (a_ (a_ (r2_ tr) (a_ (m_ 8 8 rfl (c_ (Ax_tri x_k y2 e1) (r1_ (r4_ tr)))) (a_ (r1_ (f_ c3 (r2_ (f_ c4 (r4_ (f_ c5 (r1_ (c_ (AS_tri co y7 e6) (r1_ (r2_ tr)))))))))) tr))) tr)
   ·obtain rfl := si_ h
    exact rr_ [] 18 [.reg [], .reg [(1, hC (Ax_v y2))], .reg [(1, hT), (4, hF), (9, hF)]]
     (a_ (a_ (r2_ tr) (a_ (m_ 8 8 rfl (c_ (Ax_tri x_k y2 e1) (r1_ (r4_ tr)))) (a_ (r1_ (f_ c3 (r2_ (f_ c4 (r4_ (f_ c5 (a_ tr (t2_ (r2_ tr))))))))) tr))) tr)
 ·obtain rfl := si_ h
  exact rr_ [] 18 [.reg [], .reg [(1, hC (Ax_v y2))], .reg [(1, hF)]]
   (a_ (a_ (r2_ tr) (a_ (m_ 8 8 rfl (c_ (Ax_tri x_k y2 e1) (r1_ (r4_ tr)))) (a_ (r1_ (f_ c3 (t2_ (t4_ (r2_ (a_ tr (t2_ (r2_ tr)))))))) tr))) tr)
theorem BV_tri (x_k : I_) (mode : Int) (co : H_) (r : (Bool)) (h : BV x_k mode co = some r) : FnTri Tryz.prog 75 [.agg [.int .u8 x_k.a0, .int .u8 x_k.a1, .int .u8 x_k.a2, .int .u8 x_k.a3, .int .u8 x_k.a4, .int .u8 x_k.a5, .int .u8 x_k.a6, .int .u8 x_k.a7], .int .u8 mode, .ds 11 (co).length (rowF c_Bg default co)] [] (BV_v r) [] := FnTri.none (BV_ok x_k mode co r h) rfl rfl
def An_v (r : Unit) : LV := .nilsl
def An : Option (Unit) :=
 some ()
theorem An_ok (r : Unit) (h : An = some r) : ∀ σ, Inj 0 σ → FnTri Tryz.prog 77 (renL σ [.nilsl]) (preOf σ 0 []) ((An_v r).ren σ) (upOf σ []) := by
 refine fo_ Tryz.func77 trivial trivial ?_
 intro w0 W μ0 hμ
 unfold An at h
 obtain rfl := si_ h
 exact rr_ [] 20 [.reg [], .reg [], .reg []]
  (a_ (a_ (r1_ tr) (a_ (r2_ tr) (a_ (r1_ tr) tr))) tr)
theorem An_tri (r : Unit) (h : An = some r) : FnTri Tryz.prog 77 [.nilsl] [] (An_v r) [] := FnTri.none (An_ok r h) rfl rfl
def Ah_v (r : H_) : LV := .ds 11 (r).length (rowF c_Bg default r)
def Ah (s : H_) : Option (H_) :=
 if (0 + (s).length) * 16 ≤ 140737488351232 then
 some s
 else none
theorem Ah_ok (s r : H_) (h : Ah s = some r) : ∀ σ, Inj 0 σ → FnTri Tryz.prog 77 (renL σ [.dn 11 (s).length (rowF c_Bg default s)]) (preOf σ 0 []) ((Ah_v r).ren σ) (upOf σ []) := by
 refine fo_ Tryz.func77 trivial trivial ?_
 intro w0 W μ0 hμ
 unfold Ah at h
 obtain ⟨g1, h⟩ := gs_ h
 obtain rfl := si_ h
 exact rr_ [] 21 [.reg [(0, hv_ (.ds 11 (([] : H_)).length (rowF c_Bg default ([] : H_))))], .reg [], .reg [(0, { os := [(0, .row 11 ([] : H_).length (rowF c_Bg default []) true)] }), (2, { app := 4 })]]
  (a_ (a_ (a_ (a_ tr (a_ (le_nil_ds 11 (rowF c_Bg default [])) tr)) tr) (a_ (r2_ tr) (a_ (a_ (a_ (a_ (Eq.refl true) (a_ (Eq.refl 11) (a_ (lt_ 0 11 rfl) (le_ 0 16777216 rfl)))) (a_ (sub_litr c_Bg default 11 (fun _ => rfl) []) tr)) (r1_ (a_ (a_ (a_ (a_ (Eq.refl 11) (a_ (lt_ 0 11 rfl) (a_ (lt_ 0 16 rfl) (a_ g1 (a_ (Eq.refl 11) (Eq.refl true)))))) (fz_row (enc := c_Bg) (d := default) (fun _ => rfl) s)) tr) (r1_ tr)))) tr))) tr)
theorem Ah_tri (s r : H_) (h : Ah s = some r) : FnTri Tryz.prog 77 [.dn 11 (s).length (rowF c_Bg default s)] [] (Ah_v r) [] := FnTri.none (Ah_ok s r h) rfl rfl
theorem slices_Clone_api_Config_api_Config_nilc : FnTri Tryz.prog 77 [.nilsl] [] .nilsl [] := An_tri () rfl
theorem slices_Clone_api_Config_api_Config_c (l : H_) (h : (0 + l.length) * 16 ≤ 140737488351232) : FnTri Tryz.prog 77 [(.ds 11 l.length (rowF c_Bg default l))] [] (.ds 11 l.length (rowF c_Bg default l)) [] :=
 tri_clone (fun h => by obtain rfl := List.eq_nil_of_length_eq_zero h; exact tri_nil_ds slices_Clone_api_Config_api_Config_nilc) (Ah_tri l l (by unfold Ah; exact if_pos h))
def Ay_vA (r : Unit) : LV := .tup [.nilptr, .int .i64 1]
def Ay_vB (r : (Int) × (Bg) × H_ × G_) : LV := .tup [.ptr 0 0 0, .int .i64 0]
def Ay_upB (r : (Int) × (Bg) × H_ × G_) : Upd := [(0, some (.var (c_Bf (Bf.mk r.1 r.2.1 r.2.2.1 r.2.2.2 0))))]
def Ay (x_k : I_) (mode : Int) (c : Bg) (more : H_) : Option (Bool × (Unit) × ((Int) × (Bg) × H_ × G_)) :=
 if 0 < (([c] : H_)).length then
 if ((([c] : H_)).length + (more).length) * 16 ≤ 140737488351232 then
 (BV x_k mode (([c] : H_) ++ more)).bind fun y4 =>
 if ((!y4) : Bool) then
  some (true, (), default)
 else
  if (0 + (more).length) * 16 ≤ 140737488351232 then
  some (false, default, (mode, c, more, z4_))
  else none
 else none
 else none
theorem Ay_okA (x_k : I_) (mode : Int) (c : Bg) (more : H_) (r : Unit) (r_ : (Int) × (Bg) × H_ × G_) (h : Ay x_k mode c more = some (true, r, r_)) : ∀ σ, Inj 0 σ → FnTri Tryz.prog 47 (renL σ [.agg [.int .u8 x_k.a0, .int .u8 x_k.a1, .int .u8 x_k.a2, .int .u8 x_k.a3, .int .u8 x_k.a4, .int .u8 x_k.a5, .int .u8 x_k.a6, .int .u8 x_k.a7], .int .u8 mode, v_Bg c, .ds 11 (more).length (rowF c_Bg default more)]) (preOf σ 0 []) ((Ay_vA r).ren σ) (upOf σ []) := by
 refine fo_ Tryz.func47 trivial trivial ?_
 intro w0 W μ0 hμ
 unfold Ay at h
 obtain ⟨g1, h⟩ := gs_ h
 obtain ⟨g2, h⟩ := gs_ h
 obtain ⟨y4, e3, h⟩ := bs_ h
 rcases it_ h with ⟨c5, h⟩ | ⟨c5, h⟩
 ·have h := congrArg (fun z => z.2.1) (si_ h)
  dsimp only at h
  subst h
  exact rr_ [] 20 [.reg [], .reg [(3, { os := [(2, .gr 11 (([c] : H_)).length (rowF c_Bg default ([c] : H_)))], v := some (.gs 2 (([c] : H_)).length), fz := true }), (5, { os := [(3, .gr 1 (([([c] : H_), more] : List H_)).length (rowF (fun z_ : H_ => [.ds 11 (z_).length (rowF c_Bg default z_)]) default ([([c] : H_), more] : List H_)))], v := some (.gs 3 (([([c] : H_), more] : List H_)).length), fz := true }), (6, hC (.ds 11 ((([c] : H_) ++ more)).length (rowF c_Bg default (([c] : H_) ++ more)))), (7, hC (BV_v y4)), (8, hT)], .reg []]
   (a_ (a_ (r4_ tr) (a_ (m_ 8 8 rfl (r1_ (m_ 11 11 rfl (a_ (a_ (a_ (a_ (Eq.refl true) (a_ (Eq.refl 11) (a_ (lt_ 0 11 rfl) (le_ 11 16777216 rfl)))) (a_ (le_sl_gs 2 1 (some 1) rfl) (a_ (sub_lit c_Bg default 11 (fun _ => rfl) ([c] : H_)) tr))) (a_ (Nat.le_refl (([c] : H_)).length) (fz_row (enc := c_Bg) (d := default) (fun _ => rfl) ([c] : H_)))) (r1_ (a_ (a_ (a_ (a_ (Eq.refl true) (a_ (Eq.refl 1) (a_ (lt_ 0 1 rfl) (le_ 2 16777216 rfl)))) (a_ (le_sl_gs 3 2 (some 2) rfl) (a_ (sub_lit (fun z_ : H_ => [.ds 11 (z_).length (rowF c_Bg default z_)]) default 1 (fun _ => rfl) ([([c] : H_), more] : List H_)) tr))) (a_ (Nat.le_refl (([([c] : H_), more] : List H_)).length) (fz_row (enc := (fun z_ : H_ => [.ds 11 (z_).length (rowF c_Bg default z_)])) (d := default) (fun _ => rfl) ([([c] : H_), more] : List H_)))) (a_ (a_ (a_ (cc76_con c_Bg (fun _ => rfl) (fun _ => rfl) (fun z_ : H_ => [.ds 11 (z_).length (rowF c_Bg default z_)]) (fun _ => rfl) ([c] : H_) more g1 g2) tr) tr) (a_ (a_ (a_ (BV_tri x_k mode (([c] : H_) ++ more) y4 e3) tr) tr) (f_ c5 tr))))))))) (a_ (r2_ tr) tr))) tr)
 ·obtain ⟨g6, h⟩ := gs_ h
  cases h
theorem Ay_triA (x_k : I_) (mode : Int) (c : Bg) (more : H_) (r : Unit) (r_ : (Int) × (Bg) × H_ × G_) (h : Ay x_k mode c more = some (true, r, r_)) : FnTri Tryz.prog 47 [.agg [.int .u8 x_k.a0, .int .u8 x_k.a1, .int .u8 x_k.a2, .int .u8 x_k.a3, .int .u8 x_k.a4, .int .u8 x_k.a5, .int .u8 x_k.a6, .int .u8 x_k.a7], .int .u8 mode, v_Bg c, .ds 11 (more).length (rowF c_Bg default more)] [] (Ay_vA r) [] := FnTri.none (Ay_okA x_k mode c more r r_ h) rfl rfl
theorem Ay_okB (x_k : I_) (mode : Int) (c : Bg) (more : H_) (r : (Int) × (Bg) × H_ × G_) (r_ : Unit) (h : Ay x_k mode c more = some (false, r_, r)) : ∀ σ, Inj 1 σ → FnTri Tryz.prog 47 (renL σ [.agg [.int .u8 x_k.a0, .int .u8 x_k.a1, .int .u8 x_k.a2, .int .u8 x_k.a3, .int .u8 x_k.a4, .int .u8 x_k.a5, .int .u8 x_k.a6, .int .u8 x_k.a7], .int .u8 mode, v_Bg c, .ds 11 (more).length (rowF c_Bg default more)]) (preOf σ 0 []) ((Ay_vB r).ren σ) (upOf σ (Ay_upB r)) := by
 refine fo_ Tryz.func47 trivial ⟨rfl, trivial⟩ ?_
 intro w0 W μ0 hμ
 unfold Ay at h
 obtain ⟨g1, h⟩ := gs_ h
 obtain ⟨g2, h⟩ := gs_ h
 obtain ⟨y4, e3, h⟩ := bs_ h
 rcases it_ h with ⟨c5, h⟩ | ⟨c5, h⟩
 ·cases h
 ·obtain ⟨g6, h⟩ := gs_ h
  have h := congrArg (fun z => z.2.2) (si_ h)
  dsimp only at h
  subst h
  exact rr_ [4] 21 [.reg [], .reg [(3, { os := [(2, .gr 11 (([c] : H_)).length (rowF c_Bg default ([c] : H_)))], v := some (.gs 2 (([c] : H_)).length), fz := true }), (5, { os := [(3, .gr 1 (([([c] : H_), more] : List H_)).length (rowF (fun z_ : H_ => [.ds 11 (z_).length (rowF c_Bg default z_)]) default ([([c] : H_), more] : List H_)))], v := some (.gs 3 (([([c] : H_), more] : List H_)).length), fz := true }), (6, hC (.ds 11 ((([c] : H_) ++ more)).length (rowF c_Bg default (([c] : H_) ++ more)))), (7, hC (BV_v y4)), (8, hF)], .reg [(3, hC (.ds 11 (more).length (rowF c_Bg default more)))]]
   (a_ (a_ (r4_ tr) (a_ (m_ 8 8 rfl (r1_ (m_ 11 11 rfl (a_ (a_ (a_ (a_ (Eq.refl true) (a_ (Eq.refl 11) (a_ (lt_ 0 11 rfl) (le_ 11 16777216 rfl)))) (a_ (le_sl_gs 2 1 (some 1) rfl) (a_ (sub_lit c_Bg default 11 (fun _ => rfl) ([c] : H_)) tr))) (a_ (Nat.le_refl (([c] : H_)).length) (fz_row (enc := c_Bg) (d := default) (fun _ => rfl) ([c] : H_)))) (r1_ (a_ (a_ (a_ (a_ (Eq.refl true) (a_ (Eq.refl 1) (a_ (lt_ 0 1 rfl) (le_ 2 16777216 rfl)))) (a_ (le_sl_gs 3 2 (some 2) rfl) (a_ (sub_lit (fun z_ : H_ => [.ds 11 (z_).length (rowF c_Bg default z_)]) default 1 (fun _ => rfl) ([([c] : H_), more] : List H_)) tr))) (a_ (Nat.le_refl (([([c] : H_), more] : List H_)).length) (fz_row (enc := (fun z_ : H_ => [.ds 11 (z_).length (rowF c_Bg default z_)])) (d := default) (fun _ => rfl) ([([c] : H_), more] : List H_)))) (a_ (a_ (a_ (cc76_con c_Bg (fun _ => rfl) (fun _ => rfl) (fun z_ : H_ => [.ds 11 (z_).length (rowF c_Bg default z_)]) (fun _ => rfl) ([c] : H_) more g1 g2) tr) tr) (a_ (a_ (a_ (BV_tri x_k mode (([c] : H_) ++ more) y4 e3) tr) tr) (f_ c5 tr))))))))) (a_ (r1_ (m_ 11 11 rfl (r1_ (a_ (a_ (a_ (slices_Clone_api_Config_api_Config_c more g6) tr) tr) (a_ (a_ (Eq.refl true) tr) (r1_ (r2_ tr))))))) tr))) tr)
def AM_v (r : (Int)) : LV := .int .u8 r
def AM_up (pu : B_) (co : C_) (r : (Int)) : Upd := [(2, some (oM4 pu)), (3, some (oM5 co))]
def AM_objs (ti : Bi) (slots : A_) (key : Bh) (re : D_) (pu : B_) (co : C_) : List LO := [.row 33 1 (fun _ => (cT_60 ti (.map 1) key .any re (.map 2) (.map 3))) false, .mapR true ks1 (encM v_Bh (fun _ => LV.pp) slots), oM4 pu, oM5 co]
def AM_l0 (ti : Bi) (slots : A_) (key : Bh) (re : D_) (pu : B_) (co : C_) (x_k : I_) : Nat → (Int) → Option ((Int))
 | 0, _ => none
 | fuel + 1, mode =>
  if ((decide (0 < mode)) : Bool) then
   if (((mget slots (Bh.mk x_k mode)).isSome) : Bool) then
    some mode
   else
    AM_l0 ti slots key re pu co x_k fuel (IntKind.wrap .u8 (mode - 1))
  else
   some 0
def AM (ti : Bi) (slots : A_) (key : Bh) (re : D_) (pu : B_) (co : C_) (x_k : I_) : Option ((Int)) :=
 (AT ti slots key re pu co).bind fun y2 =>
 AM_l0 ti slots key re pu co x_k big 2
abbrev AM_K0 (w0 : World) (W : Nat → Prop) (μ0 : Emb) (ti : Bi) (slots : A_) (key : Bh) (re : D_) (pu : B_) (co : C_) (x_k : I_) (mode : Int) (r : (Int)) : Prop := Kt_ w0 W μ0 Tryz.f11 4 4 (AM_v r) (AM_up pu co r) (kAt (bodyOf Tryz.f11) 0) ((.ptr 0 0 0) :: .any :: .any :: (.ptr 4 0 0) :: .any :: (.int .u8 mode) :: n_ 17 []) [some (.row 33 1 (fun _ => (cT_60 ti (.map 1) key .any re (.map 2) (.map 3))) false), some (.mapR true ks1 (encM v_Bh (fun _ => LV.pp) slots)), some (oM4 pu), some (oM5 co), some (.var [.int .u8 x_k.a0, .int .u8 x_k.a1, .int .u8 x_k.a2, .int .u8 x_k.a3, .int .u8 x_k.a4, .int .u8 x_k.a5, .int .u8 x_k.a6, .int .u8 x_k.a7])]
theorem AM_l0_ok {w0 W μ0} (hμ : Lt_ μ0 4) (ti : Bi) (slots : A_) (key : Bh) (re : D_) (pu : B_) (co : C_) (x_k : I_) : ∀ (fuel : Nat) (mode : Int) (r : (Int)), AM_l0 ti slots key re pu co x_k fuel mode = some r → AM_K0 w0 W μ0 ti slots key re pu co x_k mode r := by
 intro fuel
 induction fuel with
 | zero => intro mode r h; rw [AM_l0] at h; cases h
 | succ fuel ih =>
  intro mode r h
  rw [AM_l0] at h
  rcases it_ h with ⟨C1, h⟩ | ⟨C1, h⟩
  ·rcases it_ h with ⟨C2, h⟩ | ⟨C2, h⟩
   ·obtain rfl := si_ h
    exact rr_ [] 25 [.go, .reg [(1, hT)], .reg [(7, { look := some .pp })], .reg []]
     (a_ (a_ (r1_ (f_ C1 tr)) (a_ (r1_ (r2_ (a_ (a_ (a_ (lt_ 0 1 rfl) (lt_ 4 33 rfl)) tr) (m_ 8 8 rfl (r1_ (a_ (a_ (Eq.refl true) tr) (a_ (a_ (a_ (Eq.refl true) (lookS v_Bh k_Bh slots (Bh.mk x_k mode) C2)) tr) (r1_ tr)))))))) (a_ (r2_ tr) tr))) tr)
   ·exact rt_ hμ [4] 26 [.go, .reg [(1, hT)], .reg [(7, { look := none })], .reg []]
     (a_ (r1_ (f_ C1 tr)) (a_ (r1_ (r2_ (a_ (a_ (a_ (lt_ 0 1 rfl) (lt_ 4 33 rfl)) tr) (m_ 8 8 rfl (r1_ (a_ (a_ (Eq.refl true) tr) (a_ (a_ (a_ (Eq.refl true) (lookN v_Bh k_Bh slots (Bh.mk x_k mode) C2)) tr) (r1_ tr)))))))) (a_ (r1_ (r2_ tr)) tr))) (ih _ r h) ⟨fun _ _ => rfl, trivial, trivial, trivial, rfl, trivial⟩
  ·obtain rfl := si_ h
   exact rr_ [] 19 [.go, .reg [(1, hF)], .reg []]
    (a_ (a_ (r1_ (f_ C1 tr)) (a_ (r1_ tr) tr)) tr)
theorem AM_ok (ti : Bi) (slots : A_) (key : Bh) (re : D_) (pu : B_) (co : C_) (x_k : I_) (r : (Int)) (h : AM ti slots key re pu co x_k = some r) : ∀ σ, Inj 4 σ → FnTri Tryz.prog 11 (renL σ [.ptr 0 0 0, .agg [.int .u8 x_k.a0, .int .u8 x_k.a1, .int .u8 x_k.a2, .int .u8 x_k.a3, .int .u8 x_k.a4, .int .u8 x_k.a5, .int .u8 x_k.a6, .int .u8 x_k.a7]]) (preOf σ 0 (AM_objs ti slots key re pu co)) ((AM_v r).ren σ) (upOf σ (AM_up pu co r)) := by
 refine fo_ Tryz.func11 ⟨fun _ _ => rfl, trivial, trivial, trivial, trivial⟩ ⟨trivial, trivial, trivial⟩ ?_
 intro w0 W μ0 hμ
 unfold AM at h
 obtain ⟨y2, e1, h⟩ := bs_ h
 exact rt_ hμ [4] 24 [.reg [], .reg [(1, hk_ (hK_ [0, 1, 2, 3] (AT_v y2) (AT_objs ti slots key re pu co) (AT_up pu co y2)))], .reg []]
  (a_ (r2_ tr) (a_ (r1_ (a_ (a_ (a_ (AT_ok ti slots key re pu co y2 e1 (sel [0, 1, 2, 3]) sj_) (a_ (rl_ (.row 33 1 (fun _ => (cT_60 ti (.map 1) key .any re (.map 2) (.map 3))) false)) (a_ (le_ppR (ag := true) (ks := ks1) v_Bh slots) (a_ (rl_ (oM4 pu)) (a_ (rl_ (oM5 co)) tr))))) tr) (r1_ tr))) (a_ (r1_ tr) tr))) (AM_l0_ok hμ ti slots key re pu co x_k big _ r h) ⟨fun _ _ => rfl, trivial, trivial, trivial, rfl, trivial⟩
def At_v (r : (Int)) : LV := .int .i64 r
def At_up (slots : A_) (pu : B_) (co : C_) (r : (Int)) : Upd := [(1, some (oP2 slots [])), (2, some (oM4 pu)), (3, some (oM5 co))]
def At_objs (ti : Bi) (slots : A_) (key : Bh) (re : D_) (pu : B_) (co : C_) : List LO := [.row 33 1 (fun _ => (cT_60 ti (.map 1) key .any re (.map 2) (.map 3))) false, oP2 slots [], oM4 pu, oM5 co]
def At_l0 (ti : Bi) (slots : A_) (key : Bh) (re : D_) (pu : B_) (co : C_) : Nat → (List (I_ × Bool)) → A_ → Option ((Int))
 | 0, _, _ => none
 | fuel + 1, m, rest =>
  if ((List.isEmpty rest) : Bool) then
   some ((m).length : Int)
  else agree rest fun a1 rs2 =>
   At_l0 ti slots key re pu co fuel (mset m a1.1.f_key true) rs2
def At (ti : Bi) (slots : A_) (key : Bh) (re : D_) (pu : B_) (co : C_) : Option ((Int)) :=
 At_l0 ti slots key re pu co big ([] : List (I_ × Bool)) slots
abbrev At_K0 (w0 : World) (W : Nat → Prop) (μ0 : Emb) (ti : Bi) (slots : A_) (key : Bh) (re : D_) (pu : B_) (co : C_) (m : List (I_ × Bool)) (rest : A_) (r : (Int)) : Prop := Kt_ w0 W μ0 Tryz.f48 4 4 (At_v r) (At_up slots pu co r) (kAt (bodyOf Tryz.f48) 0) (.any :: .any :: .any :: (.map 4) :: n_ 6 ((.ptr 5 0 0) :: n_ 9 [])) [some (.row 33 1 (fun _ => (cT_60 ti (.map 1) key .any re (.map 2) (.map 3))) false), none, some (oM4 pu), some (oM5 co), some (oM6 m), some (.mit 1 true ks1 (encM v_Bh (fun _ => LV.any) slots) none (encM v_Bh (fun _ => LV.any) rest) (some (encP v_Bh c_Bf slots)))]
theorem At_l0_ok {w0 W μ0} (hμ : Lt_ μ0 4) (ti : Bi) (slots : A_) (key : Bh) (re : D_) (pu : B_) (co : C_) : ∀ (fuel : Nat) (m : List (I_ × Bool)) (rest : A_) (r : (Int)), At_l0 ti slots key re pu co fuel m rest = some r → At_K0 w0 W μ0 ti slots key re pu co m rest r := by
 intro fuel
 induction fuel with
 | zero => intro m rest r h; rw [At_l0] at h; cases h
 | succ fuel ih =>
  intro m rest r h
  rw [At_l0] at h
  refine k_nextT (it := 10) (t1 := 11) (t2 := 12) (d := 5) (m := 1) (ag := true) (ks := ks1) (es := encM v_Bh (fun _ => LV.any) slots) (ps := some (encP v_Bh c_Bf slots)) v_Bh (fun _ => LV.any) rest (by kernel_rfl) (by kernel_rfl) (by kernel_rfl) (by kernel_rfl) (fun hn_ => ?_) (fun i_ a1 hi_ => ?_)
  ·rw [if_pos (rest_none hn_)] at h
   obtain rfl := si_ h
   exact rr_ [] 16 [.x (.mitp 5), .reg [(1, hv_ (.int .i64 ((m).length : Int)))]]
    (a_ (a_ (show 1 ≠ 5 from by decide) (a_ (r1_ (a_ (a_ tr (a_ (le_maplen (fun z_ : I_ => LV.agg [.int .u8 z_.a0, .int .u8 z_.a1, .int .u8 z_.a2, .int .u8 z_.a3, .int .u8 z_.a4, .int .u8 z_.a5, .int .u8 z_.a6, .int .u8 z_.a7]) LV.bool m) tr)) (r1_ tr))) tr)) tr)
  ·rw [if_neg (rest_some hi_)] at h
   replace h := agree_some h hi_
   generalize rest.eraseIdx i_ = rs2 at h ⊢
   exact rt_ hμ [4, 5] 20 [.reg [], .reg [(3, { os := [(4, oM6 (mset m a1.1.f_key true))] })], .x (.mitn 5)]
    (a_ (r1_ (r2_ (a_ (a_ (a_ (Eq.refl 9) (a_ (le_ 9 9 rfl) (Eq.refl 0))) tr) tr))) (a_ (r2_ (m_ 8 9 rfl (a_ (a_ (a_ (Eq.refl true) (Eq.refl true)) (a_ (sub_upd (fun z_ : I_ => LV.agg [.int .u8 z_.a0, .int .u8 z_.a1, .int .u8 z_.a2, .int .u8 z_.a3, .int .u8 z_.a4, .int .u8 z_.a5, .int .u8 z_.a6, .int .u8 z_.a7]) LV.bool (k_arr8 .u8) true ks3 m a1.1.f_key true) tr)) tr))) (a_ tr tr))) (ih _ _ r h) ⟨fun _ _ => rfl, trivial, trivial, trivial, lt_ 1 6 rfl, trivial⟩
theorem At_ok (ti : Bi) (slots : A_) (key : Bh) (re : D_) (pu : B_) (co : C_) (r : (Int)) (h : At ti slots key re pu co = some r) : ∀ σ, Inj 4 σ → FnTri Tryz.prog 48 (renL σ [.ptr 0 0 0]) (preOf σ 0 (At_objs ti slots key re pu co)) ((At_v r).ren σ) (upOf σ (At_up slots pu co r)) := by
 refine fo_ Tryz.func48 ⟨fun _ _ => rfl, uP, trivial, trivial, trivial⟩ ⟨uP, trivial, trivial, trivial⟩ ?_
 intro w0 W μ0 hμ
 unfold At at h
 exact rt_ hμ [4, 5] 21 [.reg [], .reg [], .reg [(4, { os := [(5, .mit 1 true ks1 (encM v_Bh (fun _ => LV.any) slots) none (encM v_Bh (fun _ => LV.any) slots) (some (encP v_Bh c_Bf slots)))] })]]
  (a_ (r1_ tr) (a_ (r2_ tr) (a_ (r1_ (r2_ (a_ (a_ (a_ (lt_ 0 1 rfl) (lt_ 4 33 rfl)) tr) (a_ (a_ tr (a_ (mit_keys v_Bh c_Bf 1 true ks1 slots) tr)) tr)))) tr))) (At_l0_ok hμ ti slots key re pu co big _ _ r h) ⟨fun _ _ => rfl, trivial, trivial, trivial, lt_ 1 6 rfl, trivial⟩
def AC_v (r : (Bool)) : LV := .bool r
def AC_up (r : (Bool)) : Upd := []
def AC_objs (g : Bf) : List LO := [.row 142 1 (fun _ => c_Bf g) false]
def AC (g : Bf) : Option ((Bool)) :=
 some (g.f_mode != 0)
theorem AC_ok (g : Bf) (r : (Bool)) (h : AC g = some r) : ∀ σ, Inj 1 σ → FnTri Tryz.prog 66 (renL σ [.ptr 0 0 0]) (preOf σ 0 (AC_objs g)) ((AC_v r).ren σ) (upOf σ (AC_up r)) := by
 refine fo_ Tryz.func66 ⟨fun _ _ => rfl, trivial⟩ trivial ?_
 intro w0 W μ0 hμ
 unfold AC at h
 obtain rfl := si_ h
 exact rr_ [] 15 [.reg [], .reg []]
  (a_ (a_ (r1_ tr) (a_ (r2_ (r4_ (a_ (a_ (a_ (lt_ 0 1 rfl) (lt_ 0 142 rfl)) tr) (r1_ (r2_ tr))))) tr)) tr)
def bl67_Tab (w : World) : Prop := ∀ j, j < 64 → w.cell? ⟨0, j, none⟩ = some (.int .u8 ((Lib.deBruijn64tab.getD j 0 : Nat) : Int))
theorem bl67_tz_core (n : Nat) (x k idx : Nat) (w : World) (hx0 : ((x : Int) == 0) = false)
  (key : IntKind.u64.wrap (bits BinOp.and IntKind.u64 (x : Int) (IntKind.u64.wrap (-(x : Int))) * 285870213051353865) / 288230376151711744 = (idx : Int))
  (hi : idx < 64) (hk : k < 64) (hcell : w.cell? ⟨0, idx, none⟩ = some (.int .u8 k)) :
  CallsIn Fence.wide n Tryz.prog 117 #[.int .u64 x] w fun e w' => e = .returned (.int .i64 k) ∧ w' = w := by
 refine callsIn_of_wp Tryz.func117 rfl trivial ?_ rfl
 simp only [Tryz.ntmps117, List.size_toArray, List.length_cons, List.length_nil, Nat.reduceAdd, Nat.reduceSub, Array.replicate_succ, Array.replicate_zero, List.push_toArray, List.append_toArray, List.nil_append, List.cons_append]
 gi_wp2_with (simp only [key])
 go_ret
 exact ⟨rfl, rfl⟩
theorem bl67_tz (n x : Nat) (hx : x < 18446744073709551616) (hx0 : x ≠ 0) (w : World) (hT : bl67_Tab w) :
  CallsIn Fence.wide n Tryz.prog 117 #[.int .u64 x] w fun e w' => e = .returned (.int .i64 (Lib.ctz 64 x)) ∧ w' = w := by
 obtain ⟨hlow, hk⟩ := Lib.lowest_bit 64 x hx0 hx
 obtain ⟨hi, htab⟩ := Lib.deBruijn64_at _ hk
 have hcell := hT _ hi
 rw [htab] at hcell
 exact bl67_tz_core n x _ _ w (by simp; omega) (Go.Proofs.tz64_key x _ hx hx0 hlow) hi hk hcell
theorem bl67_all (n : Nat) (s : Int) (w : World) :
  CallsIn Fence.wide n Tryz.prog 91 #[.int .u64 s] w fun e w' => e = .returned (.func (.func 116) #[] #[.pointer (some ⟨w.heap.size, 0, none⟩)]) ∧ w' = w.alloc (.cells #[.int .u64 s] 111) := by
 refine callsIn_of_wp Tryz.func91 rfl trivial ?_ rfl
 simp only [Tryz.ntmps91, List.size_toArray, List.length_cons, List.length_nil, Nat.reduceAdd, Nat.reduceSub, Array.replicate_succ, Array.replicate_zero, List.push_toArray, List.append_toArray, List.nil_append, List.cons_append]
 gi_wp2
 go_ret
 exact ⟨rfl, rfl⟩
def bl67_boxN (bx : Nat) (w : World) : Nat :=
 match w.cell? ⟨bx, 0, none⟩ with
 | some (.int _ x) => x.toNat
 | _ => 0
theorem bl67_boxN_eq {bx : Nat} {w : World} {t : TypeId} {x : Nat} (h : Boxed w bx t (.int .u64 x)) : bl67_boxN bx w = x := by
 unfold bl67_boxN; rw [h.cell]; simp
theorem bl67_tab_same {w w' : World} (h : bl67_Tab w) (e : w'.heap[0]? = w.heap[0]?) : bl67_Tab w' := fun j hj => by
 rw [← h j hj]; exact World.cell?_of_block (a := ⟨0, j, none⟩) e
theorem bl67_al1 (n : Nat) (hn : 1 ≤ n) (l bx s : Nat) (hs : s < 18446744073709551616) (KB : Nat → Prop) (hKb : KB bx) (hKg : KB 0) (hne : 0 ≠ bx) (J : List Int → World → Prop) (B : Nat) (hJ : AbidesX B bx J)
  (hY : ∀ pre x W1, J pre W1 → pre.length < 64 → YieldAt Fence.wide (n - 1) Tryz.prog l #[.int .i64 x] W1 fun e W' => e = .returned (.bool true) ∧ J (pre ++ [x]) W' ∧ ∀ b, KB b → W'.heap[b]? = W1.heap[b]?)
  (W : World) (hB : Boxed W bx 111 (.int .u64 s)) (hT : bl67_Tab W) (h0 : J [] W) :
  CallsIn Fence.wide n Tryz.prog 116 #[.func (.yield l) #[] #[], .pointer (some ⟨bx, 0, none⟩)] W fun e W' => (∃ v, e = .returned v) ∧ J (bitsL s) W' := by
 have FTZ : Fence.wide.fn 117 := trivial
 refine callsIn_of_wp Tryz.func116 rfl trivial ?_ rfl
 simp only [Tryz.ntmps116, List.size_toArray, List.length_cons, List.length_nil, Nat.reduceAdd, Nat.reduceSub, Array.replicate_succ, Array.replicate_zero, List.push_toArray, List.append_toArray, List.nil_append, List.cons_append]
 gi_wp2
 gi_loopw [] (fun wr => ∃ (pre : List Int) (x : Nat), x < 18446744073709551616 ∧ Boxed wr bx 111 (.int .u64 x) ∧ bl67_Tab wr ∧ bitsL s = pre ++ bitsL x ∧ J pre wr) (fun wr => bl67_boxN bx wr)
 case atStart => exact ⟨[], s, hs, hB, hT, rfl, h0⟩
 case round =>
  obtain ⟨pre, x, hx, hb, ht, he, hj⟩ := hrel
  have hc := hb.cell
  by_cases hx0 : x = 0
  ·subst hx0
   gi_wp2
   go_end0
   refine ⟨⟨_, rfl⟩, ?_⟩
   have e0 : bitsL ((0 : Nat) : Int) = [] := bitsL_zero
   rw [e0, List.append_nil] at he
   rw [he]; exact hj
  ·have hxi : ((x : Int) != 0) = true := by simp; omega
   have hstep := bitsL_step x hx0 (by omega)
   have hlen : pre.length < 64 := by
    have := bitsL_len (s : Int)
    rw [he, hstep, List.length_append, List.length_cons] at this
    omega
   obtain ⟨fn, tmps, assign, body, hy, hR⟩ := hY pre (Lib.ctz 64 x : Int) wr hj hlen
   gi_wp2_with (gi_at_call 117; refine (bl67_tz _ x hx hx0 _ ht).mono ?_; rintro e w' ⟨rfl, rfl⟩)
   refine hR.mono ?_
   rintro e W3 ⟨rfl, hJ3, hk3⟩
   have hb3 : Boxed W3 bx 111 (.int .u64 x) := (hk3 bx hKb).trans hb
   have ht3 := bl67_tab_same ht (hk3 0 hKg)
   have hc3 := hb3.cell
   have hf3 := hb3.frozen
   have hand : bits BinOp.and IntKind.u64 (x : Int) ((x : Int) - 1) = ((x &&& (x - 1) : Nat) : Int) := by
    have e1 : (x : Int) - 1 = ((x - 1 : Nat) : Int) := by omega
    rw [e1, bits_and_u64_nat x _ hx (by omega)]
   gi_wp2_with (simp only [hand])
   go_roundw
   case rel =>
    refine ⟨pre ++ [(Lib.ctz 64 x : Int)], x &&& (x - 1), Nat.lt_trans (and_pred_lt x hx0) hx, hb3.set _, bl67_tab_same ht3 (Below.heap_setCell _ _ _ _ hne), ?_, ?_⟩
    ·rw [he, hstep, List.append_assoc]; rfl
    ·exact hJ _ _ _ (some bx) hJ3 (grownBy_setCell' W3 bx _) (Nat.le_refl _) (fun r e => by cases e; exact .inr rfl)
   case measure =>
    rw [bl67_boxN_eq (hb3.set _), bl67_boxN_eq hb]
    exact and_pred_lt x hx0
theorem bl67_low {W : World} {b b' : Nat} {e : TypeId} {size k : Nat} {v : Value} {xs : List Value} (hb : b' ≤ b) (h : W.ownsRow b e size v k xs) : W.ownsRow b' e size v k xs :=
 ⟨h.1, h.2.imp id fun ⟨g, cap, cur, e1, e2, r⟩ => ⟨g, cap, cur, e1, Nat.le_trans hb e2, r⟩⟩
theorem bl67_info : ∃ i, Tryz.prog.info? 3 = some i ∧ i.zero = some (.int .i64 0) ∧ i.size = 1 ∧ i.bytes = 8 := by
 have h : (Tryz.prog.info? 3).map (fun i => (i.zero, i.size, i.bytes)) = some (some (.int .i64 0), 1, 8) := by kernel_rfl
 obtain ⟨i, h1, h2⟩ := Option.map_eq_some_iff.1 h
 exact ⟨i, h1, congrArg (·.1) h2, congrArg (·.2.1) h2, congrArg (·.2.2) h2⟩
def bl67_J (w : World) (pre : List Int) (W : World) : Prop :=
 (∃ v, Boxed W w.heap.size 109 v ∧ W.ownsRow (w.heap.size + 2) 3 1 v pre.length (pre.map fun x => Value.int .i64 x) ∧ (v = .slice none 0 0 ↔ pre = [])) ∧ Below w.heap.size w W ∧ w.drawn ≤ W.drawn ∧ w.heap.size + 2 ≤ W.heap.size
theorem bl67_J_own (w : World) (B : Nat) (hB : w.heap.size + 1 ≤ B) : OwnX B (w.heap.size + 1) (bl67_J w) := by
 rintro pre W W' row ⟨⟨v, hv, hrow, hG⟩, hbl, hd, hsz⟩ hg hdr hr
 refine ⟨⟨v, hv.kept hg (fun e' => ?_), hrow.kept hg ?_, hG⟩, hbl.grown hg hbl.size (fun k e => ?_), Nat.le_trans hd hdr, Nat.le_trans hsz hg.size⟩
 ·rcases hr _ e'.symm with ⟨h, _⟩ | e <;> omega
 ·rcases hrow.2 with ⟨rfl, _⟩ | ⟨g, cap, cur, rfl, hg2, hgb, _⟩
  ·exact .inl rfl
  ·refine .inr fun e' => ?_
   rcases hr g (by simpa [Value.ownBlock] using e'.symm) with ⟨_, o, ho, hc⟩ | e
   ·rw [hgb] at ho; cases ho; cases hc
   ·omega
 ·rcases hr k e with ⟨h, _⟩ | h <;> omega
theorem bl67_list (n : Nat) (hn : 3 ≤ n) (s : Nat) (hs : s < 18446744073709551616) (w : World) (hT : bl67_Tab w) :
  CallsIn Fence.wide n Tryz.prog 67 #[.int .u64 s] w fun e w' => ∃ v, e = .returned v ∧ w'.ownsRow (w.heap.size + 2) 3 1 v (bitsL s).length ((bitsL s).map fun x => Value.int .i64 x) ∧ (v = .slice none 0 0 ↔ bitsL s = []) ∧ Below w.heap.size w w' ∧ w.drawn ≤ w'.drawn := by
 have h1 : 1 ≤ n := by omega
 have FALL : Fence.wide.fn 91 := trivial
 have hgs : 0 < w.heap.size := by
  have := hT 0 (by decide)
  unfold World.cell? at this
  rcases Nat.lt_or_ge 0 w.heap.size with h | h
  ·exact h
  ·rw [Array.getElem?_eq_none h] at this; cases this
 refine callsIn_of_wp_marks Tryz.func67 rfl trivial ?_ rfl
 simp only [Tryz.ntmps67, List.size_toArray, List.length_cons, List.length_nil, Nat.reduceAdd, Nat.reduceSub, Array.replicate_succ, Array.replicate_zero, List.push_toArray, List.append_toArray, List.nil_append, List.cons_append]
 gi_wp2_with (gi_at_call 91; refine (bl67_all (n - 1) s _).mono ?_; rintro e w' ⟨rfl, rfl⟩)
 obtain ⟨W0, hW0⟩ : ∃ W0, (w.alloc (.cells #[.slice none 0 0] 109)).alloc (.cells #[.int .u64 s] 111) = W0 := ⟨_, rfl⟩
 have hs0 : W0.heap.size = w.heap.size + 2 := by rw [← hW0]; simp
 have hb0 : Below w.heap.size w W0 := by rw [← hW0]; exact ((Below.refl _ w).alloc (Nat.le_refl _) _).alloc (by simp) _
 have hB0 : Boxed W0 w.heap.size 109 (.slice none 0 0) := by rw [← hW0]; exact (Boxed.new w _ _).alloc _
 have hB1 : Boxed W0 (w.heap.size + 1) 111 (.int .u64 s) := by
  rw [← hW0]
  have := Boxed.new (w.alloc (.cells #[.slice none 0 0] 109)) 111 (.int .u64 s)
  rwa [World.size_alloc] at this
 have hT0 : bl67_Tab W0 := bl67_tab_same hT (hb0.block 0 hgs)
 rw [hW0]
 have hseq : SeqX Fence.wide (n - 1) Tryz.prog 116 #[.pointer (some ⟨w.heap.size + 1, 0, none⟩)] (fun x : Int => Value.int .i64 x) (fun xs => xs = bitsL s) 64 (w.heap.size + 1) (fun b => b = w.heap.size + 1 ∨ b = 0) W0 := by
  intro l J W hW hJ hY h0
  refine (bl67_al1 (n - 1) (by omega) l (w.heap.size + 1) s hs _ (.inl rfl) (.inr rfl) (by omega) J W.heap.size hJ hY W ((hW.block _ (by omega)).trans hB1) (bl67_tab_same hT0 (hW.block _ (by omega))) h0).mono ?_
  rintro e W' ⟨hv, hj⟩
  exact ⟨hv, _, rfl, hj⟩
 refine rangeFunc_boxX rfl h1 (gf := 116) (lb := #[.pointer (some ⟨w.heap.size + 1, 0, none⟩)]) rfl trivial (Go.Proofs.enters_of Tryz.func116 (by kernel_rfl) rfl) (bx := w.heap.size + 1) (KB := fun b => b = w.heap.size + 1 ∨ b = 0) (by omega) (fun b hb => by rcases hb with rfl | rfl <;> omega) hseq (Below.refl _ _) rfl
  (bl67_J w) (by rw [hs0]; exact bl67_J_own w _ (by omega)) ⟨⟨_, hB0, World.ownsRow_nil _ _ _ _, by simp⟩, hb0, by rw [← hW0]; exact Nat.le_refl _, by omega⟩
  (fun pre x a1 W => bl67_J w pre W ∧ a1 = { tmps := #[.int .u64 s, undef, .slice none 0 0, .pointer (some ⟨w.heap.size, 0, none⟩), .int .i64 x, .int .u64 s, .func (.func 116) #[] #[.pointer (some ⟨w.heap.size + 1, 0, none⟩)], .int .i64 x, undef, undef, undef, undef, undef], defers := [] })
  (fun x a1 => OwnX.and (by rw [hs0]; exact bl67_J_own w _ (by omega)) (fun s X Y row hs hg _ hr => hs)) ?assign ?body ?done
 case assign =>
  intro l pre x W hI hlen
  gi_wp2_with (rw [Oper.semAt_eq _ _ _ (fun c h => by cases h)]; go_simp; try go_bits)
  refine ⟨⟨hI, ?_⟩, KeepsOthers.refl _, ?_⟩ <;> first | rfl | trivial | (intro _ _; first | rfl | trivial)
 case body =>
  rintro l pre x a1 W ⟨⟨⟨v, hv, hrow, hnil⟩, hB, hD0, hsz⟩, rfl⟩ hlen
  have hml : 64 ≤ maxLen := by unfold maxLen; omega
  obtain ⟨i0, hi, hz0, hz1, hz2⟩ := bl67_info
  have hc := hv.cell
  have hf := hv.frozen
  have hbs := hB.size
  gi_wp2_with (first
   | (gi_at_builtin; refine wpListIn_append_d _ rfl _ _ 109 rfl (w.heap.size + 2) 3 i0 _ 1 8 Tryz.underlying109 hi hz0 hz1 hz2 rfl (by decide) _ _ _ rfl (hrow.alloc _) ⟨W.heap.size, 0, none⟩ 1 1 [Value.int .i64 x] rfl rfl ?_ ?_ (by omega) (by omega) (by simp; omega) ?_)
   | (rw [Oper.semAt_eq _ _ _ (fun c h => by cases h)]; go_simp; try go_bits))
  ·exact fun j u hj => cell_new W [Value.int .i64 x] 3 j u hj
  ·intro u hu
   simp only [List.mem_cons, List.not_mem_nil, or_false] at hu
   subst hu; rfl
  ·intro v' w3 hown' hg3 hd3 hnil3
   obtain ⟨hv3, hv4, hrow4, hko, hbe⟩ := hv.appended (by decide) (bl67_low (by omega) hrow) hbs (Nat.le_refl _) (bl67_low (b' := w.heap.size) (by omega) hown') hg3
   have hc3 := hv3.cell
   have hf3 := hv3.frozen
   have hrow5 : (w3.setCell ⟨w.heap.size, 0, none⟩ v').ownsRow (w.heap.size + 2) 3 1 v' (pre.length + 1) (pre.map (fun x => Value.int .i64 x) ++ [Value.int .i64 x]) :=
    hown'.kept (grownBy_setCell' w3 w.heap.size v') (.inr (hv3.not_row (by decide) (bl67_low (b' := w.heap.size) (by omega) hown')).symm)
   have hkb : ∀ b, (b = w.heap.size + 1 ∨ b = 0) → (w3.setCell ⟨w.heap.size, 0, none⟩ v').heap[b]? = W.heap[b]? := by
    intro b hb
    have hbl : b < W.heap.size := by rcases hb with rfl | rfl <;> omega
    have hne : b ≠ w.heap.size := by rcases hb with rfl | rfl <;> omega
    have h2 : w3.heap[b]? = (W.alloc (.cells [Value.int .i64 x].toArray 3)).heap[b]? := by
     refine hg3.block b (by simp; omega) (fun e => ?_)
     rcases hrow.2 with ⟨rfl, _⟩ | ⟨g, cap, cur, rfl, hg2, _, _⟩
     ·simp [Value.ownBlock] at e
     ·have : b = g := by simpa [Value.ownBlock] using e
      subst this
      rcases hb with rfl | rfl <;> omega
    rw [Below.heap_setCell _ _ _ _ hne, h2]
    exact Below.heap_alloc _ _ _ hbl
   have hsz3 : w.heap.size + 2 ≤ (w3.setCell ⟨w.heap.size, 0, none⟩ v').heap.size := Nat.le_trans hsz hko.size
   obtain ⟨g', cap', hv'⟩ := ownsRow_succ hown'
   subst hv'
   gi_wp2_with (rw [Oper.semAt_eq _ _ _ (fun c h => by cases h)]; go_simp; try go_bits)
   refine ⟨⟨_, hv4, ?_, by simp⟩, hB.trans hbe, Nat.le_trans hD0 hd3, hsz3⟩
   rw [List.length_append, List.map_append]
   exact hrow5
 case done =>
  rintro D ss W hD hS ⟨⟨v, hv, hrow, hnil⟩, hB, hD0, _⟩ hK
  subst hS
  have hc := hv.cell
  have hf := hv.frozen
  gi_wp2
  refine ⟨by simp, .inl ⟨_, _, rfl, run_takeDeferred hK, ?_⟩⟩
  exact ⟨_, results_tmp rfl _ _ _, v, rfl, ownsRow_putObj hrow _ hK rfl, hnil, hB.grown (grownBy_putObj' _ _ _) hB.size (fun k e => by cases e; omega), hD0⟩
theorem bl67_tri (hG : tabBlk = some 0) (t : Int) (h : 0 ≤ t ∧ t < 18446744073709551616) : FnTri Tryz.prog 67 [.int .u64 t] [] (.ds 1 (bitsL t).length (rowF (cInt .i64) default (bitsL t))) [] := by
 refine ⟨⟨Tryz.f67, Tryz.func67, by kernel_rfl, by kernel_rfl⟩, fun μ w vals hr hp _ => ?_⟩
 obtain ⟨x, r, rfl, hx, hr'⟩ := hr
 cases hr'
 simp only [Rel] at hx
 subst hx
 obtain ⟨s, rfl⟩ : ∃ s : Nat, t = (s : Int) := ⟨t.toNat, by omega⟩
 have hT : bl67_Tab w := by
  obtain ⟨cs, h1, h2⟩ := hp.tab 0 hG
  obtain ⟨E, fr, h3⟩ := hp.fro _ _ h1
  intro j hj
  simp only [World.cell?, h3, Option.isSome_none, Bool.false_eq_true, if_false]
  exact h2 j hj
 refine (callsIn_wide.1 (bl67_list 4 (by omega) s (by omega) w hT)).mono ?_
 rintro e w' ⟨v, rfl, hrow, hnil, hb, hd⟩
 have hrow' : w'.ownsRow w.heap.size 3 1 v (bitsL (s : Int)).length ((bitsL (s : Int)).flatMap fun x => [Value.int .i64 x]) := by
  have e : ∀ l : List Int, (l.flatMap fun x => [Value.int .i64 x]) = l.map fun x => Value.int .i64 x := fun l => by induction l with | nil => rfl | cons a l ih => simp [ih]
  rw [e]; exact bl67_low (by omega) hrow
 obtain ⟨μ', k1, k2⟩ := sorted_fin (α := Int) (enc := cInt .i64) (kc := fun x => [Value.int .i64 x]) (k := 1) (L := bitsL (s : Int)) (v := v) (fun φ x => ⟨_, _, rfl, rfl, rfl⟩) (fun _ => rfl) (fun x v hv => by simp at hv; subst hv; rfl) hp hb hd (sortedAt_owns (enc := fun x : Int => [Value.int .i64 x]) (k := 1) (fun _ => rfl) (Nat.le_refl w.heap.size) hrow')
 exact ⟨v, μ', rfl, k1, k2⟩
def AK_v (r : F_) : LV := .ds 16 (r).length (rowF c_Bk default r)
def AK_up (r : F_) : Upd := []
def AK_objs (g : Bf) : List LO := [.row 142 1 (fun _ => c_Bf g) false]
def AK_l0 (g : Bf) : Nat → (Int) → F_ → Option (F_)
 | 0, _, _ => none
 | fuel + 1, t15, l =>
  if ((decide (t15 < (((bitsL g.f_nodes)).length : Int))) : Bool) then
   if 0 ≤ t15 ∧ t15 < ((((bitsL g.f_nodes)).length : Nat) : Int) then
   if 0 ≤ ((bitsL g.f_nodes).getD t15.toNat default) ∧ ((bitsL g.f_nodes).getD t15.toNat default) < 8 then
   if ((l).length + (([(A8.get g.f_grants (((bitsL g.f_nodes).getD t15.toNat default)).toNat)] : F_)).length) * 56 ≤ 140737488351232 then
   AK_l0 g fuel (IntKind.wrap .i64 (t15 + 1)) (l ++ ([(A8.get g.f_grants (((bitsL g.f_nodes).getD t15.toNat default)).toNat)] : F_))
   else none
   else none
   else none
  else
   some l
def AK (g : Bf) : Option (F_) :=
 (AC g).bind fun y2 =>
 if ((!y2) : Bool) then
  some ([] : F_)
 else
  if 0 ≤ g.f_nodes ∧ g.f_nodes < 18446744073709551616 then
  AK_l0 g big 0 ([] : F_)
  else none
abbrev AK_K0 (w0 : World) (W : Nat → Prop) (μ0 : Emb) (g : Bf) (t15 : Int) (l r : F_) : Prop := Kt_ w0 W μ0 Tryz.f33 1 1 (AK_v r) (AK_up r) (kAt (bodyOf Tryz.f33) 0) ((.ptr 0 0 0) :: .any :: .any :: (.gs 1 (l).length) :: n_ 9 ((.ds 1 ((bitsL g.f_nodes)).length (rowF (cInt .i64) default (bitsL g.f_nodes))) :: (.int .i64 (((bitsL g.f_nodes)).length : Int)) :: (.int .i64 t15) :: n_ 14 [])) [some (.row 142 1 (fun _ => c_Bf g) false), some (.gr 16 (l).length (rowF c_Bk default l))]
theorem AK_l0_ok {w0 W μ0} (hμ : Lt_ μ0 1) (g : Bf) : ∀ (fuel : Nat) (t15 : Int) (l r : F_), AK_l0 g fuel t15 l = some r → AK_K0 w0 W μ0 g t15 l r := by
 intro fuel
 induction fuel with
 | zero => intro t15 l r h; rw [AK_l0] at h; cases h
 | succ fuel ih =>
  intro t15 l r h
  rw [AK_l0] at h
  rcases it_ h with ⟨C1, h⟩ | ⟨C1, h⟩
  ·obtain ⟨G2, h⟩ := gs_ h
   obtain ⟨G3, h⟩ := gs_ h
   obtain ⟨G4, h⟩ := gs_ h
   exact rt_ hμ [3] 26 [.go, .reg [(0, hT)], .reg [], .reg [(6, hv_ (v_Bk (A8.get g.f_grants (((bitsL g.f_nodes).getD t15.toNat default)).toNat))), (7, { os := [(2, .gr 16 (([(A8.get g.f_grants (((bitsL g.f_nodes).getD t15.toNat default)).toNat)] : F_)).length (rowF c_Bk default ([(A8.get g.f_grants (((bitsL g.f_nodes).getD t15.toNat default)).toNat)] : F_)))], v := some (.gs 2 (([(A8.get g.f_grants (((bitsL g.f_nodes).getD t15.toNat default)).toNat)] : F_)).length) }), (8, { app := 3, os := [(3, .gr 16 ((l ++ ([(A8.get g.f_grants (((bitsL g.f_nodes).getD t15.toNat default)).toNat)] : F_))).length (rowF c_Bk default (l ++ ([(A8.get g.f_grants (((bitsL g.f_nodes).getD t15.toNat default)).toNat)] : F_))))], v := some (.gs 3 ((l ++ ([(A8.get g.f_grants (((bitsL g.f_nodes).getD t15.toNat default)).toNat)] : F_))).length) })], .reg []]
    (a_ (f_ C1 tr) (a_ (a_ (a_ (a_ (Eq.refl 1) G2) tr) (a_ (a_ (lt_ 0 1 rfl) tr) (r1_ tr))) (a_ (r1_ (r4_ (a_ (a_ G3 tr) (a_ (a_ (a_ (lt_ 0 1 rfl) (arrLe (len := 8) G3 13 16 142 16 rfl rfl)) (a_ (ld8 c_Bk 16 (fun _ => rfl) g.f_grants [.int .u8 g.f_mode, .int .u32 g.f_conf.f_Epoch, .int .u8 g.f_conf.f_R, .int .u8 g.f_conf.f_W, .int .u8 g.f_conf.f_Votes.a0, .int .u8 g.f_conf.f_Votes.a1, .int .u8 g.f_conf.f_Votes.a2, .int .u8 g.f_conf.f_Votes.a3, .int .u8 g.f_conf.f_Votes.a4, .int .u8 g.f_conf.f_Votes.a5, .int .u8 g.f_conf.f_Votes.a6, .int .u8 g.f_conf.f_Votes.a7, .ds 11 (g.f_more).length (rowF c_Bg default g.f_more)] [.int .u64 g.f_nodes] 13 rfl (((bitsL g.f_nodes).getD t15.toNat default)).toNat 16 (lt8N G3) (le_ (0 + 16) 16 rfl)) tr)) (a_ (a_ (a_ (Eq.refl true) (a_ (Eq.refl 16) (a_ (lt_ 0 16 rfl) (le_ 16 16777216 rfl)))) (a_ (le_sl_gs 2 1 (some 1) rfl) (a_ (sub_lit c_Bk default 16 (fun _ => rfl) ([(A8.get g.f_grants (((bitsL g.f_nodes).getD t15.toNat default)).toNat)] : F_)) tr))) (a_ (a_ (a_ (a_ (Eq.refl 16) (Nat.le_refl (([(A8.get g.f_grants (((bitsL g.f_nodes).getD t15.toNat default)).toNat)] : F_)).length)) (a_ (a_ (lt_ 0 16 rfl) (a_ (lt_ 0 56 rfl) (a_ G4 (a_ (Eq.refl 16) (Eq.refl true))))) (a_ (Eq.refl 16) (Nat.le_refl (l).length)))) (a_ (le_gs_app 3 l ([(A8.get g.f_grants (((bitsL g.f_nodes).getD t15.toNat default)).toNat)] : F_)) (a_ (sub_app c_Bk default 16 l ([(A8.get g.f_grants (((bitsL g.f_nodes).getD t15.toNat default)).toNat)] : F_)) tr))) (r1_ tr))))))) (a_ (r2_ tr) tr)))) (ih _ _ r h) ⟨fun _ _ => rfl, fun _ _ => rfl, trivial⟩
  ·obtain rfl := si_ h
   exact rr_ [] 20 [.go, .reg [(0, hF)], .reg [], .frz 1]
    (a_ (a_ (f_ C1 tr) (a_ (r2_ tr) (a_ (a_ (fz_row (enc := c_Bk) (d := default) (fun _ => rfl) l) (a_ (Nat.le_refl (l).length) (a_ (Nat.le_refl (l).length) (a_ (Nat.le_refl (l).length) (a_ (ob_rov (c_Bf g) 1 16 (l).length (rowF c_Bk default l) rfl) tr))))) tr))) tr)
theorem AK_ok (g : Bf) (r : F_) (h : AK g = some r) : ∀ σ, Inj 1 σ → FnTri Tryz.prog 33 (renL σ [.ptr 0 0 0]) (preOf σ 0 (AK_objs g)) ((AK_v r).ren σ) (upOf σ (AK_up r)) := by
 refine fo_ Tryz.func33 ⟨fun _ _ => rfl, trivial⟩ trivial ?_
 intro w0 W μ0 hμ
 unfold AK at h
 obtain ⟨y2, e1, h⟩ := bs_ h
 rcases it_ h with ⟨c3, h⟩ | ⟨c3, h⟩
 ·obtain rfl := si_ h
  exact rr_ [] 20 [.reg [(0, hv_ (.ds 16 (([] : F_)).length (rowF c_Bk default ([] : F_))))], .reg [(1, hk_ (hK_ [0] (AC_v y2) (AC_objs g) (AC_up y2))), (2, hT)], .reg [(0, hv_ (.ds 16 (([] : F_)).length (rowF c_Bk default ([] : F_))))]]
   (a_ (a_ (a_ (a_ tr (a_ (le_nil_ds 16 (rowF c_Bk default [])) tr)) tr) (a_ (r1_ (a_ (a_ (a_ (AC_ok g y2 e1 (sel [0]) sj_) (a_ (rl_ (.row 142 1 (fun _ => c_Bf g) false)) tr)) tr) (f_ c3 tr))) (a_ (a_ (a_ tr (a_ (le_nil_ds 16 (rowF c_Bk default [])) tr)) tr) tr))) tr)
 ·obtain ⟨g4, h⟩ := gs_ h
  exact rt_ hμ [1] 28 [.reg [(0, hv_ (.ds 16 (([] : F_)).length (rowF c_Bk default ([] : F_))))], .reg [(1, hk_ (hK_ [0] (AC_v y2) (AC_objs g) (AC_up y2))), (2, hF)], .void (.gr 16 (([] : F_)).length (rowF c_Bk default ([] : F_))), .reg [(0, hv_ (.gs 1 (([] : F_)).length))], .reg [(4, hC (.ds 1 ((bitsL g.f_nodes)).length (rowF (cInt .i64) default (bitsL g.f_nodes))))]]
   (a_ (a_ (a_ tr (a_ (le_nil_ds 16 (rowF c_Bk default [])) tr)) tr) (a_ (r1_ (a_ (a_ (a_ (AC_ok g y2 e1 (sel [0]) sj_) (a_ (rl_ (.row 142 1 (fun _ => c_Bf g) false)) tr)) tr) (f_ c3 tr))) (a_ (Eq.refl 0) (a_ (a_ (a_ tr (a_ (le_nil_gs 1) tr)) tr) (a_ (r1_ (r2_ (a_ (a_ (a_ (lt_ 0 1 rfl) (lt_ 141 142 rfl)) tr) (c_ (bl67_tri rfl g.f_nodes g4) (r2_ tr))))) tr))))) (AK_l0_ok hμ g big _ _ r h) ⟨fun _ _ => rfl, fun _ _ => rfl, trivial⟩
def BD_v (r : Unit) : LV := .bool false
def BD : Option (Unit) :=
 some ()
theorem BD_ok (r : Unit) (h : BD = some r) : ∀ σ, Inj 0 σ → FnTri Tryz.prog 66 (renL σ [.nilptr]) (preOf σ 0 []) ((BD_v r).ren σ) (upOf σ []) := by
 refine fo_ Tryz.func66 trivial trivial ?_
 intro w0 W μ0 hμ
 unfold BD at h
 obtain rfl := si_ h
 exact rr_ [] 15 [.reg [], .reg []]
  (a_ (a_ (r1_ tr) (a_ (r1_ (r2_ (a_ tr (t4_ (r2_ tr))))) tr)) tr)
theorem BD_tri (r : Unit) (h : BD = some r) : FnTri Tryz.prog 66 [.nilptr] [] (BD_v r) [] := FnTri.none (BD_ok r h) rfl rfl
def Av_v (r : F_) : LV := .ds 16 (r).length (rowF c_Bk default r)
def Av : Option (F_) :=
 (BD).bind fun y2 =>
 some ([] : F_)
theorem Av_ok (r : F_) (h : Av = some r) : ∀ σ, Inj 0 σ → FnTri Tryz.prog 33 (renL σ [.nilptr]) (preOf σ 0 []) ((Av_v r).ren σ) (upOf σ []) := by
 refine fo_ Tryz.func33 trivial trivial ?_
 intro w0 W μ0 hμ
 unfold Av at h
 obtain ⟨y2, e1, h⟩ := bs_ h
 obtain rfl := si_ h
 exact rr_ [] 20 [.reg [(0, hv_ (.ds 16 (([] : F_)).length (rowF c_Bk default ([] : F_))))], .reg [(1, hC (BD_v y2))], .reg [(0, hv_ (.ds 16 (([] : F_)).length (rowF c_Bk default ([] : F_))))]]
  (a_ (a_ (a_ (a_ tr (a_ (le_nil_ds 16 (rowF c_Bk default [])) tr)) tr) (a_ (r1_ (c_ (BD_tri y2 e1) (r1_ tr))) (a_ (a_ (a_ tr (a_ (le_nil_ds 16 (rowF c_Bk default [])) tr)) tr) tr))) tr)
theorem Av_tri (r : F_) (h : Av = some r) : FnTri Tryz.prog 33 [.nilptr] [] (Av_v r) [] := FnTri.none (Av_ok r h) rfl rfl
def BF_v (r : (Bool)) : LV := .bool r
def BF (g : Bj) : Option ((Bool)) :=
 (BB g.f_Boot).bind fun y2 =>
 if (y2 : Bool) then
  (BB g.f_N).bind fun y5 =>
  some y5
 else
  some false
theorem BF_ok (g : Bj) (r : (Bool)) (h : BF g = some r) : ∀ σ, Inj 0 σ → FnTri Tryz.prog 78 (renL σ [v_Bj g]) (preOf σ 0 []) ((BF_v r).ren σ) (upOf σ []) := by
 refine fo_ Tryz.func78 trivial trivial ?_
 intro w0 W μ0 hμ
 unfold BF at h
 obtain ⟨y2, e1, h⟩ := bs_ h
 rcases it_ h with ⟨c3, h⟩ | ⟨c3, h⟩
 ·obtain ⟨y5, e4, h⟩ := bs_ h
  obtain rfl := si_ h
  exact rr_ [] 15 [.reg [], .reg [(2, hC (BB_v y2)), (3, hT), (6, hC (BB_v y5))]]
   (a_ (a_ (r2_ tr) (a_ (r1_ (l_ 0 2 rfl (c_ (BB_tri g.f_Boot y2 e1) (f_ c3 (r1_ (l_ 1 2 rfl (c_ (BB_tri g.f_N y5 e4) (r2_ tr)))))))) tr)) tr)
 ·obtain rfl := si_ h
  exact rr_ [] 15 [.reg [], .reg [(2, hC (BB_v y2)), (3, hF)]]
   (a_ (a_ (r2_ tr) (a_ (r1_ (l_ 0 2 rfl (c_ (BB_tri g.f_Boot y2 e1) (f_ c3 (a_ tr (t2_ (r2_ tr))))))) tr)) tr)
theorem BF_tri (g : Bj) (r : (Bool)) (h : BF g = some r) : FnTri Tryz.prog 78 [v_Bj g] [] (BF_v r) [] := FnTri.none (BF_ok g r h) rfl rfl
def BR_v (r : (Bool)) : LV := .bool r
def BR (i : Bn) : Option ((Bool)) :=
 if ((decide (i.f_Version ≤ 2147483647)) : Bool) then
  if ((decide (((i.f_Value).length : Int) ≤ 64)) : Bool) then
   (BP i.f_Conf).bind fun y4 =>
   some y4
  else
   some false
 else
  some false
theorem BR_ok (i : Bn) (r : (Bool)) (h : BR i = some r) : ∀ σ, Inj 0 σ → FnTri Tryz.prog 79 (renL σ [v_Bn i]) (preOf σ 0 []) ((BR_v r).ren σ) (upOf σ []) := by
 refine fo_ Tryz.func79 trivial trivial ?_
 intro w0 W μ0 hμ
 unfold BR at h
 rcases it_ h with ⟨c1, h⟩ | ⟨c1, h⟩
 ·rcases it_ h with ⟨c2, h⟩ | ⟨c2, h⟩
  ·obtain ⟨y4, e3, h⟩ := bs_ h
   obtain rfl := si_ h
   exact rr_ [] 15 [.reg [], .reg [(3, hT), (9, hT), (12, hC (BP_v y4))]]
    (a_ (a_ (r2_ tr) (a_ (r1_ (l_ 0 13 rfl (r1_ (f_ c1 (r1_ (l_ 1 13 rfl (r1_ (r2_ (f_ c2 (r1_ (m_ 13 13 rfl (c_ (BP_tri i.f_Conf y4 e3) (r2_ tr))))))))))))) tr)) tr)
  ·obtain rfl := si_ h
   exact rr_ [] 15 [.reg [], .reg [(3, hT), (9, hF)]]
    (a_ (a_ (r2_ tr) (a_ (r1_ (l_ 0 13 rfl (r1_ (f_ c1 (r1_ (l_ 1 13 rfl (r1_ (r2_ (f_ c2 (a_ tr (t2_ (r2_ tr)))))))))))) tr)) tr)
 ·obtain rfl := si_ h
  exact rr_ [] 15 [.reg [], .reg [(3, hF)]]
   (a_ (a_ (r2_ tr) (a_ (r1_ (l_ 0 13 rfl (r1_ (f_ c1 (t4_ (r2_ (a_ tr (t2_ (r2_ tr))))))))) tr)) tr)
theorem BR_tri (i : Bn) (r : (Bool)) (h : BR i = some r) : FnTri Tryz.prog 79 [v_Bn i] [] (BR_v r) [] := FnTri.none (BR_ok i r h) rfl rfl
def Ba_v (r : (Int)) : LV := .int .u64 r
def Ba (x_n : Int) : Option ((Int)) :=
 if ((decide (x_n < 0)) : Bool) then
  some 0
 else
  if ((decide (64 ≤ x_n)) : Bool) then
   some 0
  else
   if 0 ≤ x_n then
   some (IntKind.wrap .u64 (1 * 2 ^ (min (Int.toNat x_n) (IntKind.bits .u64))))
   else none
theorem Ba_ok (x_n : Int) (r : (Int)) (h : Ba x_n = some r) : ∀ σ, Inj 0 σ → FnTri Tryz.prog 100 (renL σ [.int .i64 x_n]) (preOf σ 0 []) ((Ba_v r).ren σ) (upOf σ []) := by
 refine fo_ Tryz.func100 trivial trivial ?_
 intro w0 W μ0 hμ
 unfold Ba at h
 rcases it_ h with ⟨c1, h⟩ | ⟨c1, h⟩
 ·obtain rfl := si_ h
  exact rr_ [] 20 [.reg [], .reg [(2, hT)], .reg []]
   (a_ (a_ (r1_ tr) (a_ (r2_ (f_ c1 (t2_ (r1_ tr)))) (a_ (r1_ tr) tr))) tr)
 ·rcases it_ h with ⟨c2, h⟩ | ⟨c2, h⟩
  ·obtain rfl := si_ h
   exact rr_ [] 20 [.reg [], .reg [(2, hF), (5, hT)], .reg []]
    (a_ (a_ (r1_ tr) (a_ (r2_ (f_ c1 (r2_ (f_ c2 tr)))) (a_ (r1_ tr) tr))) tr)
  ·obtain ⟨g3, h⟩ := gs_ h
   obtain rfl := si_ h
   exact rr_ [] 21 [.reg [], .reg [(2, hF), (5, hF)], .reg []]
    (a_ (a_ (r1_ tr) (a_ (r2_ (f_ c1 (r2_ (f_ c2 tr)))) (a_ (r1_ (a_ (a_ g3 tr) (r1_ tr))) tr))) tr)
theorem Ba_tri (x_n : Int) (r : (Int)) (h : Ba x_n = some r) : FnTri Tryz.prog 100 [.int .i64 x_n] [] (Ba_v r) [] := FnTri.none (Ba_ok x_n r h) rfl rfl
def BW_v (r : (Bool)) : LV := .bool r
def BW (set x_n : Int) : Option ((Bool)) :=
 (Ba x_n).bind fun y2 =>
 some ((IntKind.wrap .u64 ((BitVec.ofInt (IntKind.bits .u64) set &&& BitVec.ofInt (IntKind.bits .u64) y2).toNat : Int)) != 0)
theorem BW_ok (set x_n : Int) (r : (Bool)) (h : BW set x_n = some r) : ∀ σ, Inj 0 σ → FnTri Tryz.prog 80 (renL σ [.int .u64 set, .int .i64 x_n]) (preOf σ 0 []) ((BW_v r).ren σ) (upOf σ []) := by
 refine fo_ Tryz.func80 trivial trivial ?_
 intro w0 W μ0 hμ
 unfold BW at h
 obtain ⟨y2, e1, h⟩ := bs_ h
 obtain rfl := si_ h
 exact rr_ [] 15 [.reg [], .reg [(2, hC (Ba_v y2))]]
  (a_ (a_ (r1_ tr) (a_ (r2_ (c_ (Ba_tri x_n y2 e1) (r1_ (r2_ tr)))) tr)) tr)
theorem BW_tri (set x_n : Int) (r : (Bool)) (h : BW set x_n = some r) : FnTri Tryz.prog 80 [.int .u64 set, .int .i64 x_n] [] (BW_v r) [] := FnTri.none (BW_ok set x_n r h) rfl rfl
def BX_v (r : (Int)) : LV := .int .u64 r
def BX (set x_n : Int) : Option ((Int)) :=
 (Ba x_n).bind fun y2 =>
 some (IntKind.wrap .u64 ((BitVec.ofInt (IntKind.bits .u64) set ||| BitVec.ofInt (IntKind.bits .u64) y2).toNat : Int))
theorem BX_ok (set x_n : Int) (r : (Int)) (h : BX set x_n = some r) : ∀ σ, Inj 0 σ → FnTri Tryz.prog 81 (renL σ [.int .u64 set, .int .i64 x_n]) (preOf σ 0 []) ((BX_v r).ren σ) (upOf σ []) := by
 refine fo_ Tryz.func81 trivial trivial ?_
 intro w0 W μ0 hμ
 unfold BX at h
 obtain ⟨y2, e1, h⟩ := bs_ h
 obtain rfl := si_ h
 exact rr_ [] 15 [.reg [], .reg [(2, hC (Ba_v y2))]]
  (a_ (a_ (r1_ tr) (a_ (r2_ (c_ (Ba_tri x_n y2 e1) (r2_ tr))) tr)) tr)
theorem BX_tri (set x_n : Int) (r : (Int)) (h : BX set x_n = some r) : FnTri Tryz.prog 81 [.int .u64 set, .int .i64 x_n] [] (BX_v r) [] := FnTri.none (BX_ok set x_n r h) rfl rfl
def AA_v (r : (Int) × (Int) × (Bg) × H_ × G_ × (Int)) : LV := .int .i64 r.1
def AA_up (r : (Int) × (Int) × (Bg) × H_ × G_ × (Int)) : Upd := [(0, some (.var (c_Bf (Bf.mk r.2.1 r.2.2.1 r.2.2.2.1 r.2.2.2.2.1 r.2.2.2.2.2))))]
def AA_objs (g : Bf) : List LO := [.var (c_Bf g)]
def AA_c4 (g : Bf) (x : Bk) : Option ((Int) × (Int) × (Bg) × H_ × G_ × (Int)) :=
 some (1, g.f_mode, g.f_conf, g.f_more, g.f_grants, g.f_nodes)
def AA_c8 (g : Bf) (x : Bk) : Option ((Int) × (Int) × (Bg) × H_ × G_ × (Int)) :=
 some (14, g.f_mode, g.f_conf, g.f_more, g.f_grants, g.f_nodes)
def AA_c12 (g : Bf) (x : Bk) (y6 : (Int)) : Option ((Int) × (Int) × (Bg) × H_ × G_ × (Int)) :=
 some (0, g.f_mode, x.f_Item.f_Conf, g.f_more, (A8.set g.f_grants x (x.f_Node).toNat), y6)
def AA_c13 (g : Bf) (x : Bk) (y6 : (Int)) : Option ((Int) × (Int) × (Bg) × H_ × G_ × (Int)) :=
 some (0, g.f_mode, g.f_conf, g.f_more, (A8.set g.f_grants x (x.f_Node).toNat), y6)
def AA_c7 (g : Bf) (x : Bk) : Option ((Int) × (Int) × (Bg) × H_ × G_ × (Int)) :=
 some (7, g.f_mode, g.f_conf, g.f_more, g.f_grants, g.f_nodes)
def AA_c5 (g : Bf) (x : Bk) : Option ((Int) × (Int) × (Bg) × H_ × G_ × (Int)) :=
 (BW g.f_nodes (IntKind.wrap .i64 x.f_Node)).bind fun y2 =>
 if (y2 : Bool) then
  if 0 ≤ x.f_Node ∧ x.f_Node < 8 then
  if ((decide ((A8.get g.f_grants (x.f_Node).toNat).f_Reg = x.f_Reg)) : Bool) then
   AA_c7 g x
  else
   AA_c8 g x
  else none
 else
  if 0 ≤ x.f_Node ∧ x.f_Node < 8 then
  (BX g.f_nodes (IntKind.wrap .i64 x.f_Node)).bind fun y6 =>
  if ((decide (g.f_conf.f_Epoch < x.f_Item.f_Conf.f_Epoch)) : Bool) then
   AA_c12 g x y6
  else
   AA_c13 g x y6
  else none
def AA (g : Bf) (x : Bk) : Option ((Int) × (Int) × (Bg) × H_ × G_ × (Int)) :=
 (AC g).bind fun y2 =>
 if ((!y2) : Bool) then
  some (2, g.f_mode, g.f_conf, g.f_more, g.f_grants, g.f_nodes)
 else
  if ((decide (8 ≤ x.f_Node)) : Bool) then
   some (1, g.f_mode, g.f_conf, g.f_more, g.f_grants, g.f_nodes)
  else
   (BF x.f_Reg).bind fun y6 =>
   if ((!y6) : Bool) then
    AA_c4 g x
   else
    (BR x.f_Item).bind fun y9 =>
    if ((!y9) : Bool) then
     AA_c4 g x
    else
     AA_c5 g x
abbrev AA_K1000004 (w0 : World) (W : Nat → Prop) (μ0 : Emb) (g : Bf) (r : (Int) × (Int) × (Bg) × H_ × G_ × (Int)) : Prop := Kt_ w0 W μ0 Tryz.f49 1 1 (AA_v r) (AA_up r) (kAtR (bodyOf Tryz.f49) 4) (n_ 78 []) [some (.var (c_Bf g))]
abbrev AA_K1000008 (w0 : World) (W : Nat → Prop) (μ0 : Emb) (g : Bf) (r : (Int) × (Int) × (Bg) × H_ × G_ × (Int)) : Prop := Kt_ w0 W μ0 Tryz.f49 1 1 (AA_v r) (AA_up r) (kAtR (bodyOf Tryz.f49) 8) (n_ 78 []) [some (.var (c_Bf g))]
abbrev AA_K1000012 (w0 : World) (W : Nat → Prop) (μ0 : Emb) (g : Bf) (x : Bk) (y6 : (Int)) (r : (Int) × (Int) × (Bg) × H_ × G_ × (Int)) : Prop := Kt_ w0 W μ0 Tryz.f49 1 1 (AA_v r) (AA_up r) (kAtR (bodyOf Tryz.f49) 12) ((.ptr 0 0 0) :: .any :: .any :: (.ptr 1 0 0) :: n_ 74 []) [some (.var (c_Bf (Bf.mk g.f_mode g.f_conf g.f_more (A8.set g.f_grants x (x.f_Node).toNat) y6))), some (.var (c_Bk x))]
abbrev AA_K1000013 (w0 : World) (W : Nat → Prop) (μ0 : Emb) (g : Bf) (x : Bk) (y6 : (Int)) (r : (Int) × (Int) × (Bg) × H_ × G_ × (Int)) : Prop := Kt_ w0 W μ0 Tryz.f49 1 1 (AA_v r) (AA_up r) (kAtR (bodyOf Tryz.f49) 13) (n_ 78 []) [some (.var (c_Bf (Bf.mk g.f_mode g.f_conf g.f_more (A8.set g.f_grants x (x.f_Node).toNat) y6)))]
abbrev AA_K1000007 (w0 : World) (W : Nat → Prop) (μ0 : Emb) (g : Bf) (r : (Int) × (Int) × (Bg) × H_ × G_ × (Int)) : Prop := Kt_ w0 W μ0 Tryz.f49 1 1 (AA_v r) (AA_up r) (kAtR (bodyOf Tryz.f49) 7) (n_ 78 []) [some (.var (c_Bf g))]
abbrev AA_K1000005 (w0 : World) (W : Nat → Prop) (μ0 : Emb) (g : Bf) (x : Bk) (r : (Int) × (Int) × (Bg) × H_ × G_ × (Int)) : Prop := Kt_ w0 W μ0 Tryz.f49 1 1 (AA_v r) (AA_up r) (kAtR (bodyOf Tryz.f49) 5) ((.ptr 0 0 0) :: .any :: .any :: (.ptr 1 0 0) :: n_ 74 []) [some (.var (c_Bf g)), some (.var (c_Bk x))]
theorem AA_c4_ok {w0 W μ0} (hμ : Lt_ μ0 1) (g : Bf) (x : Bk) (r : (Int) × (Int) × (Bg) × H_ × G_ × (Int)) (h : AA_c4 g x = some r) : AA_K1000004 w0 W μ0 g r := by
 unfold AA_c4 at h
 obtain rfl := si_ h
 exact rr_ [] 11 [.reg []]
  (a_ (a_ (r1_ tr) tr) tr)
theorem AA_c8_ok {w0 W μ0} (hμ : Lt_ μ0 1) (g : Bf) (x : Bk) (r : (Int) × (Int) × (Bg) × H_ × G_ × (Int)) (h : AA_c8 g x = some r) : AA_K1000008 w0 W μ0 g r := by
 unfold AA_c8 at h
 obtain rfl := si_ h
 exact rr_ [] 11 [.reg []]
  (a_ (a_ (r1_ tr) tr) tr)
theorem AA_c12_ok {w0 W μ0} (hμ : Lt_ μ0 1) (g : Bf) (x : Bk) (y6 : (Int)) (r : (Int) × (Int) × (Bg) × H_ × G_ × (Int)) (h : AA_c12 g x y6 = some r) : AA_K1000012 w0 W μ0 g x y6 r := by
 unfold AA_c12 at h
 obtain rfl := si_ h
 exact rr_ [] 14 [.reg [], .reg []]
  (a_ (a_ (r1_ (r2_ (m_ 16 16 rfl (r2_ (a_ (a_ (a_ (Eq.refl 11) (a_ (le_ 12 142 rfl) (Eq.refl 0))) tr) tr))))) (a_ (r1_ tr) tr)) tr)
theorem AA_c13_ok {w0 W μ0} (hμ : Lt_ μ0 1) (g : Bf) (x : Bk) (y6 : (Int)) (r : (Int) × (Int) × (Bg) × H_ × G_ × (Int)) (h : AA_c13 g x y6 = some r) : AA_K1000013 w0 W μ0 g x y6 r := by
 unfold AA_c13 at h
 obtain rfl := si_ h
 exact rr_ [] 11 [.reg []]
  (a_ (a_ (r1_ tr) tr) tr)
theorem AA_c7_ok {w0 W μ0} (hμ : Lt_ μ0 1) (g : Bf) (x : Bk) (r : (Int) × (Int) × (Bg) × H_ × G_ × (Int)) (h : AA_c7 g x = some r) : AA_K1000007 w0 W μ0 g r := by
 unfold AA_c7 at h
 obtain rfl := si_ h
 exact rr_ [] 11 [.reg []]
  (a_ (a_ (r1_ tr) tr) tr)
theorem AA_c5_ok {w0 W μ0} (hμ : Lt_ μ0 1) (g : Bf) (x : Bk) (r : (Int) × (Int) × (Bg) × H_ × G_ × (Int)) (h : AA_c5 g x = some r) : AA_K1000005 w0 W μ0 g x r := by
 unfold AA_c5 at h
 obtain ⟨y2, E1, h⟩ := bs_ h
 rcases it_ h with ⟨C3, h⟩ | ⟨C3, h⟩
 ·obtain ⟨G4, h⟩ := gs_ h
  rcases it_ h with ⟨C5, h⟩ | ⟨C5, h⟩
  ·exact rt_ hμ [] 18 [.reg [(7, { call := some (BW_v y2, [], []), v := some (.bool true) })], .reg [(7, hv_ (v_Bj (A8.get g.f_grants (x.f_Node).toNat).f_Reg)), (10, hT)]]
    (a_ (r1_ (r2_ (l_ 141 142 rfl (r1_ (l_ 0 16 rfl (r1_ (a_ (a_ (a_ (BW_tri g.f_nodes (IntKind.wrap .i64 x.f_Node) y2 E1) tr) (a_ (leB C3) tr)) tr))))))) (a_ (r2_ (l_ 0 16 rfl (r2_ (a_ (a_ G4 tr) (r1_ (a_ (a_ (a_ tr (arrLea (len := 8) G4 13 16 142 1 2 rfl rfl)) (a_ (ld8a c_Bk 16 (fun _ => rfl) g.f_grants [.int .u8 g.f_mode, .int .u32 g.f_conf.f_Epoch, .int .u8 g.f_conf.f_R, .int .u8 g.f_conf.f_W, .int .u8 g.f_conf.f_Votes.a0, .int .u8 g.f_conf.f_Votes.a1, .int .u8 g.f_conf.f_Votes.a2, .int .u8 g.f_conf.f_Votes.a3, .int .u8 g.f_conf.f_Votes.a4, .int .u8 g.f_conf.f_Votes.a5, .int .u8 g.f_conf.f_Votes.a6, .int .u8 g.f_conf.f_Votes.a7, .ds 11 (g.f_more).length (rowF c_Bg default g.f_more)] [.int .u64 g.f_nodes] 13 rfl (x.f_Node).toNat 1 2 (lt8N G4) (le_ (1 + 2) 16 rfl)) tr)) (r1_ (m_ 3 16 rfl (a_ (a_ tr (a_ (LV.Le.trans (leB (k_Bj (A8.get g.f_grants (x.f_Node).toNat).f_Reg x.f_Reg)) (leB C5)) tr)) tr))))))))) tr)) (AA_c7_ok hμ g x r h) ⟨rfl, trivial⟩
  ·exact rt_ hμ [] 19 [.reg [(7, { call := some (BW_v y2, [], []), v := some (.bool true) })], .reg [(7, hv_ (v_Bj (A8.get g.f_grants (x.f_Node).toNat).f_Reg)), (10, hF)]]
    (a_ (r1_ (r2_ (l_ 141 142 rfl (r1_ (l_ 0 16 rfl (r1_ (a_ (a_ (a_ (BW_tri g.f_nodes (IntKind.wrap .i64 x.f_Node) y2 E1) tr) (a_ (leB C3) tr)) tr))))))) (a_ (r2_ (l_ 0 16 rfl (r2_ (a_ (a_ G4 tr) (r1_ (a_ (a_ (a_ tr (arrLea (len := 8) G4 13 16 142 1 2 rfl rfl)) (a_ (ld8a c_Bk 16 (fun _ => rfl) g.f_grants [.int .u8 g.f_mode, .int .u32 g.f_conf.f_Epoch, .int .u8 g.f_conf.f_R, .int .u8 g.f_conf.f_W, .int .u8 g.f_conf.f_Votes.a0, .int .u8 g.f_conf.f_Votes.a1, .int .u8 g.f_conf.f_Votes.a2, .int .u8 g.f_conf.f_Votes.a3, .int .u8 g.f_conf.f_Votes.a4, .int .u8 g.f_conf.f_Votes.a5, .int .u8 g.f_conf.f_Votes.a6, .int .u8 g.f_conf.f_Votes.a7, .ds 11 (g.f_more).length (rowF c_Bg default g.f_more)] [.int .u64 g.f_nodes] 13 rfl (x.f_Node).toNat 1 2 (lt8N G4) (le_ (1 + 2) 16 rfl)) tr)) (r1_ (m_ 3 16 rfl (a_ (a_ tr (a_ (LV.Le.trans (leB (k_Bj (A8.get g.f_grants (x.f_Node).toNat).f_Reg x.f_Reg)) (leB C5)) tr)) tr))))))))) tr)) (AA_c8_ok hμ g x r h) ⟨rfl, trivial⟩
 ·obtain ⟨G4, h⟩ := gs_ h
  obtain ⟨y6, E5, h⟩ := bs_ h
  rcases it_ h with ⟨C7, h⟩ | ⟨C7, h⟩
  ·exact rt_ hμ [1] 24 [.reg [(7, { call := some (BW_v y2, [], []), v := some (.bool false) })], .reg [(7, { os := [(0, .var (c_Bf (Bf.mk g.f_mode g.f_conf g.f_more (A8.set g.f_grants x (x.f_Node).toNat) g.f_nodes)))] })], .reg [(8, hC (BX_v y6))], .reg [(9, hT)]]
    (a_ (r1_ (r2_ (l_ 141 142 rfl (r1_ (l_ 0 16 rfl (r1_ (a_ (a_ (a_ (BW_tri g.f_nodes (IntKind.wrap .i64 x.f_Node) y2 E1) tr) (a_ (leB C3) tr)) tr))))))) (a_ (r2_ (l_ 0 16 rfl (m_ 16 16 rfl (r2_ (a_ (a_ G4 tr) (a_ (a_ (a_ (Eq.refl 16) (a_ (arrLe (len := 8) G4 13 16 142 16 rfl rfl) (Eq.refl 0))) (a_ (st8 c_Bk 16 (fun _ => rfl) g.f_grants [.int .u8 g.f_mode, .int .u32 g.f_conf.f_Epoch, .int .u8 g.f_conf.f_R, .int .u8 g.f_conf.f_W, .int .u8 g.f_conf.f_Votes.a0, .int .u8 g.f_conf.f_Votes.a1, .int .u8 g.f_conf.f_Votes.a2, .int .u8 g.f_conf.f_Votes.a3, .int .u8 g.f_conf.f_Votes.a4, .int .u8 g.f_conf.f_Votes.a5, .int .u8 g.f_conf.f_Votes.a6, .int .u8 g.f_conf.f_Votes.a7, .ds 11 (g.f_more).length (rowF c_Bg default g.f_more)] [.int .u64 g.f_nodes] 13 rfl (x.f_Node).toNat (lt8N G4) x) tr)) tr)))))) (a_ (r4_ (l_ 141 142 rfl (r1_ (l_ 0 16 rfl (r1_ (a_ (a_ (a_ (BX_tri g.f_nodes (IntKind.wrap .i64 x.f_Node) y6 E5) tr) tr) (r2_ (a_ (a_ (a_ (Eq.refl 1) (a_ (le_ 142 142 rfl) (Eq.refl 0))) tr) tr)))))))) (a_ (r1_ (r2_ (l_ 5 16 rfl (r4_ (l_ 1 142 rfl (f_ C7 tr)))))) tr)))) (AA_c12_ok hμ g x y6 r h) ⟨rfl, rfl, trivial⟩
  ·exact rt_ hμ [] 26 [.reg [(7, { call := some (BW_v y2, [], []), v := some (.bool false) })], .reg [(7, { os := [(0, .var (c_Bf (Bf.mk g.f_mode g.f_conf g.f_more (A8.set g.f_grants x (x.f_Node).toNat) g.f_nodes)))] })], .reg [(8, hC (BX_v y6))], .reg [(9, hF)]]
    (a_ (r1_ (r2_ (l_ 141 142 rfl (r1_ (l_ 0 16 rfl (r1_ (a_ (a_ (a_ (BW_tri g.f_nodes (IntKind.wrap .i64 x.f_Node) y2 E1) tr) (a_ (leB C3) tr)) tr))))))) (a_ (r2_ (l_ 0 16 rfl (m_ 16 16 rfl (r2_ (a_ (a_ G4 tr) (a_ (a_ (a_ (Eq.refl 16) (a_ (arrLe (len := 8) G4 13 16 142 16 rfl rfl) (Eq.refl 0))) (a_ (st8 c_Bk 16 (fun _ => rfl) g.f_grants [.int .u8 g.f_mode, .int .u32 g.f_conf.f_Epoch, .int .u8 g.f_conf.f_R, .int .u8 g.f_conf.f_W, .int .u8 g.f_conf.f_Votes.a0, .int .u8 g.f_conf.f_Votes.a1, .int .u8 g.f_conf.f_Votes.a2, .int .u8 g.f_conf.f_Votes.a3, .int .u8 g.f_conf.f_Votes.a4, .int .u8 g.f_conf.f_Votes.a5, .int .u8 g.f_conf.f_Votes.a6, .int .u8 g.f_conf.f_Votes.a7, .ds 11 (g.f_more).length (rowF c_Bg default g.f_more)] [.int .u64 g.f_nodes] 13 rfl (x.f_Node).toNat (lt8N G4) x) tr)) tr)))))) (a_ (r4_ (l_ 141 142 rfl (r1_ (l_ 0 16 rfl (r1_ (a_ (a_ (a_ (BX_tri g.f_nodes (IntKind.wrap .i64 x.f_Node) y6 E5) tr) tr) (r2_ (a_ (a_ (a_ (Eq.refl 1) (a_ (le_ 142 142 rfl) (Eq.refl 0))) tr) tr)))))))) (a_ (r1_ (r2_ (l_ 5 16 rfl (r4_ (l_ 1 142 rfl (f_ C7 tr)))))) tr)))) (AA_c13_ok hμ g x y6 r h) ⟨rfl, trivial⟩
theorem AA_ok (g : Bf) (x : Bk) (r : (Int) × (Int) × (Bg) × H_ × G_ × (Int)) (h : AA g x = some r) : ∀ σ, Inj 1 σ → FnTri Tryz.prog 49 (renL σ [.ptr 0 0 0, v_Bk x]) (preOf σ 0 (AA_objs g)) ((AA_v r).ren σ) (upOf σ (AA_up r)) := by
 refine fo_ Tryz.func49 ⟨rfl, trivial⟩ ⟨rfl, trivial⟩ ?_
 intro w0 W μ0 hμ
 unfold AA at h
 obtain ⟨y2, e1, h⟩ := bs_ h
 rcases it_ h with ⟨c3, h⟩ | ⟨c3, h⟩
 ·obtain rfl := si_ h
  exact rr_ [] 21 [.reg [], .reg [(1, hk_ (hK_ [0] (AC_v y2) (AC_objs g) (AC_up y2))), (3, hT)], .reg []]
   (a_ (a_ (r2_ tr) (a_ (r1_ (a_ (a_ (a_ (AC_ok g y2 e1 (sel [0]) sj_) (a_ (LO.Le.ofVar (c_Bf g)) tr)) tr) (r1_ (f_ c3 tr)))) (a_ (r1_ tr) tr))) tr)
 ·rcases it_ h with ⟨c4, h⟩ | ⟨c4, h⟩
  ·obtain rfl := si_ h
   exact rr_ [] 25 [.reg [], .reg [(1, hk_ (hK_ [0] (AC_v y2) (AC_objs g) (AC_up y2))), (3, hF)], .reg [(3, hT)], .reg []]
    (a_ (a_ (r2_ tr) (a_ (r1_ (a_ (a_ (a_ (AC_ok g y2 e1 (sel [0]) sj_) (a_ (LO.Le.ofVar (c_Bf g)) tr)) tr) (r1_ (f_ c3 tr)))) (a_ (r1_ (l_ 0 16 rfl (r1_ (f_ c4 (t4_ (r2_ (t4_ (r2_ tr)))))))) (a_ (r1_ tr) tr)))) tr)
  ·obtain ⟨y6, e5, h⟩ := bs_ h
   rcases it_ h with ⟨c7, h⟩ | ⟨c7, h⟩
   ·exact rt_ hμ [] 23 [.reg [], .reg [(1, hk_ (hK_ [0] (AC_v y2) (AC_objs g) (AC_up y2))), (3, hF)], .reg [(3, hF), (6, hC (BF_v y6)), (9, hT)]]
     (a_ (r2_ tr) (a_ (r1_ (a_ (a_ (a_ (AC_ok g y2 e1 (sel [0]) sj_) (a_ (LO.Le.ofVar (c_Bf g)) tr)) tr) (r1_ (f_ c3 tr)))) (a_ (r1_ (l_ 0 16 rfl (r1_ (f_ c4 (r1_ (m_ 3 16 rfl (c_ (BF_tri x.f_Reg y6 e5) (r2_ (f_ c7 (t4_ (r2_ tr))))))))))) tr))) (AA_c4_ok hμ g x r h) ⟨rfl, trivial⟩
   ·obtain ⟨y9, e8, h⟩ := bs_ h
    rcases it_ h with ⟨c10, h⟩ | ⟨c10, h⟩
    ·exact rt_ hμ [] 23 [.reg [], .reg [(1, hk_ (hK_ [0] (AC_v y2) (AC_objs g) (AC_up y2))), (3, hF)], .reg [(3, hF), (6, hC (BF_v y6)), (9, hF), (12, hC (BR_v y9)), (15, hT)]]
      (a_ (r2_ tr) (a_ (r1_ (a_ (a_ (a_ (AC_ok g y2 e1 (sel [0]) sj_) (a_ (LO.Le.ofVar (c_Bf g)) tr)) tr) (r1_ (f_ c3 tr)))) (a_ (r1_ (l_ 0 16 rfl (r1_ (f_ c4 (r1_ (m_ 3 16 rfl (c_ (BF_tri x.f_Reg y6 e5) (r2_ (f_ c7 (r1_ (m_ 16 16 rfl (c_ (BR_tri x.f_Item y9 e8) (r2_ (f_ c10 tr)))))))))))))) tr))) (AA_c4_ok hμ g x r h) ⟨rfl, trivial⟩
    ·exact rt_ hμ [1] 26 [.reg [], .reg [(1, hk_ (hK_ [0] (AC_v y2) (AC_objs g) (AC_up y2))), (3, hF)], .reg [(3, hF), (6, hC (BF_v y6)), (9, hF), (12, hC (BR_v y9)), (15, hF)]]
      (a_ (r2_ tr) (a_ (r1_ (a_ (a_ (a_ (AC_ok g y2 e1 (sel [0]) sj_) (a_ (LO.Le.ofVar (c_Bf g)) tr)) tr) (r1_ (f_ c3 tr)))) (a_ (r1_ (l_ 0 16 rfl (r1_ (f_ c4 (r1_ (m_ 3 16 rfl (c_ (BF_tri x.f_Reg y6 e5) (r2_ (f_ c7 (r1_ (m_ 16 16 rfl (c_ (BR_tri x.f_Item y9 e8) (r2_ (f_ c10 tr)))))))))))))) tr))) (AA_c5_ok hμ g x r h) ⟨rfl, rfl, trivial⟩
def BA_v (r : (Bool)) : LV := .bool r
def BA (c : Bg) (set : Int) : Option ((Bool)) :=
 (BH c set).bind fun y2 =>
 some (decide ((IntKind.wrap .i64 c.f_W) ≤ y2))
theorem BA_ok (c : Bg) (set : Int) (r : (Bool)) (h : BA c set = some r) : ∀ σ, Inj 0 σ → FnTri Tryz.prog 57 (renL σ [v_Bg c, .int .u64 set]) (preOf σ 0 []) ((BA_v r).ren σ) (upOf σ []) := by
 refine fo_ Tryz.func57 trivial trivial ?_
 intro w0 W μ0 hμ
 unfold BA at h
 obtain ⟨y2, e1, h⟩ := bs_ h
 obtain rfl := si_ h
 exact rr_ [] 15 [.reg [], .reg [(2, hC (BH_v y2))]]
  (a_ (a_ (r2_ tr) (a_ (m_ 11 11 rfl (r1_ (c_ (BH_tri c set y2 e1) (r1_ (l_ 2 11 rfl (r1_ (r2_ tr))))))) tr)) tr)
theorem BA_tri (c : Bg) (set : Int) (r : (Bool)) (h : BA c set = some r) : FnTri Tryz.prog 57 [v_Bg c, .int .u64 set] [] (BA_v r) [] := FnTri.none (BA_ok c set r h) rfl rfl
def Af_v (r : (Bool)) : LV := .bool r
def Af_up (r : (Bool)) : Upd := [(0, some (.var [.ptr 1 0 0]))]
def Af_objs (x : Bf) : List LO := [.var [.ptr 1 0 0], .row 142 1 (fun _ => c_Bf x) false]
def Af (c : Bg) (x : Bf) : Option ((Bool)) :=
 (BA c x.f_nodes).bind fun y2 =>
 some (!y2)
theorem Af_ok (c : Bg) (x : Bf) (r : (Bool)) (h : Af c x = some r) : ∀ σ, Inj 2 σ → FnTri Tryz.prog 102 (renL σ [v_Bg c, .ptr 0 0 0]) (preOf σ 0 (Af_objs x)) ((Af_v r).ren σ) (upOf σ (Af_up r)) := by
 refine fo_ Tryz.func102 ⟨rfl, fun _ _ => rfl, trivial⟩ ⟨rfl, trivial⟩ ?_
 intro w0 W μ0 hμ
 unfold Af at h
 obtain ⟨y2, e1, h⟩ := bs_ h
 obtain rfl := si_ h
 exact rr_ [] 15 [.reg [], .reg [(5, hC (BA_v y2))]]
  (a_ (a_ (r2_ tr) (a_ (m_ 11 11 rfl (l_ 0 1 rfl (r2_ (a_ (a_ (a_ (lt_ 0 1 rfl) (lt_ 141 142 rfl)) tr) (c_ (BA_tri c x.f_nodes y2 e1) (r2_ tr)))))) tr)) tr)
def AD_v (r : (Int)) : LV := .int .i64 r
def AD_up (r : (Int)) : Upd := [(0, some (.var [.ptr 1 0 0]))]
def AD_objs (x : Bf) : List LO := [.var [.ptr 1 0 0], .row 142 1 (fun _ => c_Bf x) false]
def AD_l0 (s : H_) (x : Bf) : Nat → (Int) → Option ((Int))
 | 0, _ => none
 | fuel + 1, t8 =>
  if ((decide (t8 < ((s).length : Int))) : Bool) then
   if 0 ≤ t8 ∧ t8 < (((s).length : Nat) : Int) then
   (Af (s.getD t8.toNat default) x).bind fun y4 =>
   if (y4 : Bool) then
    some t8
   else
    AD_l0 s x fuel (IntKind.wrap .i64 (t8 + 1))
   else none
  else
   some (-1)
def AD (s : H_) (x : Bf) : Option ((Int)) :=
 AD_l0 s x big 0
abbrev AD_K0 (w0 : World) (W : Nat → Prop) (μ0 : Emb) (s : H_) (x : Bf) (t8 : Int) (r : (Int)) : Prop := Kt_ w0 W μ0 Tryz.f121 2 2 (AD_v r) (AD_up r) (kAt (bodyOf Tryz.f121) 0) ((.ds 11 (s).length (rowF c_Bg default s)) :: (.fn 102 [] [.ptr 0 0 0]) :: n_ 5 ((.int .i64 ((s).length : Int)) :: (.int .i64 t8) :: n_ 10 [])) [some (.var [.ptr 1 0 0]), some (.row 142 1 (fun _ => c_Bf x) false)]
theorem AD_l0_ok {w0 W μ0} (hμ : Lt_ μ0 2) (s : H_) (x : Bf) : ∀ (fuel : Nat) (t8 : Int) (r : (Int)), AD_l0 s x fuel t8 = some r → AD_K0 w0 W μ0 s x t8 r := by
 intro fuel
 induction fuel with
 | zero => intro t8 r h; rw [AD_l0] at h; cases h
 | succ fuel ih =>
  intro t8 r h
  rw [AD_l0] at h
  rcases it_ h with ⟨C1, h⟩ | ⟨C1, h⟩
  ·obtain ⟨G2, h⟩ := gs_ h
   obtain ⟨y4, E3, h⟩ := bs_ h
   rcases it_ h with ⟨C5, h⟩ | ⟨C5, h⟩
   ·obtain rfl := si_ h
    exact rr_ [] 28 [.go, .reg [(0, hT)], .reg [], .reg [(5, { call := some (hK_ [0, 1] (Af_v y4) (Af_objs x) (Af_up y4)), v := some (.bool true) })], .reg []]
     (a_ (a_ (f_ C1 tr) (a_ (r2_ tr) (a_ (r1_ (r2_ (a_ (a_ (a_ (Eq.refl 11) G2) tr) (a_ (a_ (le_ 11 11 rfl) tr) (a_ (a_ (a_ (Af_ok (s.getD t8.toNat default) x y4 E3 (sel [0, 1]) sj_) (a_ (rl_ (.var [.ptr 1 0 0])) (a_ (rl_ (.row 142 1 (fun _ => c_Bf x) false)) tr))) (a_ (leB C5) tr)) tr))))) (a_ (r2_ tr) tr)))) tr)
   ·exact rt_ hμ [] 29 [.go, .reg [(0, hT)], .reg [], .reg [(5, { call := some (hK_ [0, 1] (Af_v y4) (Af_objs x) (Af_up y4)), v := some (.bool false) })], .reg []]
     (a_ (f_ C1 tr) (a_ (r2_ tr) (a_ (r1_ (r2_ (a_ (a_ (a_ (Eq.refl 11) G2) tr) (a_ (a_ (le_ 11 11 rfl) tr) (a_ (a_ (a_ (Af_ok (s.getD t8.toNat default) x y4 E3 (sel [0, 1]) sj_) (a_ (rl_ (.var [.ptr 1 0 0])) (a_ (rl_ (.row 142 1 (fun _ => c_Bf x) false)) tr))) (a_ (leB C5) tr)) tr))))) (a_ (r2_ tr) tr)))) (ih _ r h) ⟨rfl, fun _ _ => rfl, trivial⟩
  ·obtain rfl := si_ h
   exact rr_ [] 19 [.go, .reg [(0, hF)], .reg []]
    (a_ (a_ (f_ C1 tr) (a_ (r1_ tr) tr)) tr)
theorem AD_ok (s : H_) (x : Bf) (r : (Int)) (h : AD s x = some r) : ∀ σ, Inj 2 σ → FnTri Tryz.prog 121 (renL σ [.ds 11 (s).length (rowF c_Bg default s), .fn 102 [] [.ptr 0 0 0]]) (preOf σ 0 (AD_objs x)) ((AD_v r).ren σ) (upOf σ (AD_up r)) := by
 refine fo_ Tryz.func121 ⟨rfl, fun _ _ => rfl, trivial⟩ ⟨rfl, trivial⟩ ?_
 intro w0 W μ0 hμ
 unfold AD at h
 exact rt_ hμ [] 18 [.reg [], .reg []]
  (a_ (r1_ tr) (a_ (r1_ (r2_ tr)) tr)) (AD_l0_ok hμ s x big _ r h) ⟨rfl, fun _ _ => rfl, trivial⟩
def AL_v (r : (Bool)) : LV := .bool r
def AL_up (r : (Bool)) : Upd := [(0, some (.var [.ptr 1 0 0]))]
def AL_objs (x : Bf) : List LO := [.var [.ptr 1 0 0], .row 142 1 (fun _ => c_Bf x) false]
def AL (s : H_) (x : Bf) : Option ((Bool)) :=
 (AD s x).bind fun y2 =>
 some (decide (0 ≤ y2))
theorem AL_ok (s : H_) (x : Bf) (r : (Bool)) (h : AL s x = some r) : ∀ σ, Inj 2 σ → FnTri Tryz.prog 97 (renL σ [.ds 11 (s).length (rowF c_Bg default s), .fn 102 [] [.ptr 0 0 0]]) (preOf σ 0 (AL_objs x)) ((AL_v r).ren σ) (upOf σ (AL_up r)) := by
 refine fo_ Tryz.func97 ⟨rfl, fun _ _ => rfl, trivial⟩ ⟨rfl, trivial⟩ ?_
 intro w0 W μ0 hμ
 unfold AL at h
 obtain ⟨y2, e1, h⟩ := bs_ h
 obtain rfl := si_ h
 exact rr_ [] 15 [.reg [], .reg [(2, hk_ (hK_ [0, 1] (AD_v y2) (AD_objs x) (AD_up y2)))]]
  (a_ (a_ (r1_ tr) (a_ (r2_ (a_ (a_ (a_ (AD_ok s x y2 e1 (sel [0, 1]) sj_) (a_ (rl_ (.var [.ptr 1 0 0])) (a_ (rl_ (.row 142 1 (fun _ => c_Bf x) false)) tr))) tr) (r2_ tr))) tr)) tr)
def BS_v (r : (Bool)) : LV := .bool r
def BS (c : Bg) (set : Int) : Option ((Bool)) :=
 (BH c set).bind fun y2 =>
 some (decide ((IntKind.wrap .i64 c.f_R) ≤ y2))
theorem BS_ok (c : Bg) (set : Int) (r : (Bool)) (h : BS c set = some r) : ∀ σ, Inj 0 σ → FnTri Tryz.prog 101 (renL σ [v_Bg c, .int .u64 set]) (preOf σ 0 []) ((BS_v r).ren σ) (upOf σ []) := by
 refine fo_ Tryz.func101 trivial trivial ?_
 intro w0 W μ0 hμ
 unfold BS at h
 obtain ⟨y2, e1, h⟩ := bs_ h
 obtain rfl := si_ h
 exact rr_ [] 15 [.reg [], .reg [(2, hC (BH_v y2))]]
  (a_ (a_ (r2_ tr) (a_ (m_ 11 11 rfl (r1_ (c_ (BH_tri c set y2 e1) (r1_ (l_ 1 11 rfl (r1_ (r2_ tr))))))) tr)) tr)
theorem BS_tri (c : Bg) (set : Int) (r : (Bool)) (h : BS c set = some r) : FnTri Tryz.prog 101 [v_Bg c, .int .u64 set] [] (BS_v r) [] := FnTri.none (BS_ok c set r h) rfl rfl
def AN_v (r : (Bool)) : LV := .bool r
def AN_up (r : (Bool)) : Upd := []
def AN_objs (g : Bf) : List LO := [.row 142 1 (fun _ => c_Bf g) false]
def AN_c5 (g : Bf) : Option ((Bool)) :=
 (BA g.f_conf g.f_nodes).bind fun y2 =>
 if (y2 : Bool) then
  (AL g.f_more g).bind fun y5 =>
  some (!y5)
 else
  some false
def AN_c6 (g : Bf) : Option ((Bool)) :=
 (BS g.f_conf g.f_nodes).bind fun y2 =>
 if (y2 : Bool) then
  (AL g.f_more g).bind fun y5 =>
  some (!y5)
 else
  some false
def AN (g : Bf) : Option ((Bool)) :=
 (AC g).bind fun y2 =>
 if ((!y2) : Bool) then
  some false
 else
  if ((g.f_mode == 2) : Bool) then
   AN_c5 g
  else
   AN_c6 g
abbrev AN_K1000005 (w0 : World) (W : Nat → Prop) (μ0 : Emb) (g : Bf) (r : (Bool)) : Prop := Kt_ w0 W μ0 Tryz.f82 1 1 (AN_v r) (AN_up r) (kAtR (bodyOf Tryz.f82) 5) (.any :: (.ptr 1 0 0) :: n_ 31 []) [some (.row 142 1 (fun _ => c_Bf g) false), some (.var [.ptr 0 0 0])]
abbrev AN_K1000006 (w0 : World) (W : Nat → Prop) (μ0 : Emb) (g : Bf) (r : (Bool)) : Prop := Kt_ w0 W μ0 Tryz.f82 1 1 (AN_v r) (AN_up r) (kAtR (bodyOf Tryz.f82) 6) (.any :: (.ptr 1 0 0) :: .any :: (.fn 101 [] []) :: n_ 29 []) [some (.row 142 1 (fun _ => c_Bf g) false), some (.var [.ptr 0 0 0])]
theorem AN_c5_ok {w0 W μ0} (hμ : Lt_ μ0 1) (g : Bf) (r : (Bool)) (h : AN_c5 g = some r) : AN_K1000005 w0 W μ0 g r := by
 unfold AN_c5 at h
 obtain ⟨y2, E1, h⟩ := bs_ h
 rcases it_ h with ⟨C3, h⟩ | ⟨C3, h⟩
 ·obtain ⟨y5, E4, h⟩ := bs_ h
  obtain rfl := si_ h
  exact rr_ [] 17 [.reg [], .reg [], .reg [(9, hC (BA_v y2)), (10, hT), (16, hk_ (hK_ [1, 0] (AL_v y5) (AL_objs g) (AL_up y5)))]]
   (a_ (a_ (r1_ tr) (a_ (r2_ tr) (a_ (r1_ (l_ 0 1 rfl (r2_ (a_ (a_ (a_ (lt_ 0 1 rfl) (le_ 12 142 rfl)) tr) (l_ 0 1 rfl (r2_ (a_ (a_ (a_ (lt_ 0 1 rfl) (lt_ 141 142 rfl)) tr) (c_ (BA_tri g.f_conf g.f_nodes y2 E1) (f_ C3 (l_ 0 1 rfl (r2_ (a_ (a_ (a_ (lt_ 0 1 rfl) (lt_ 12 142 rfl)) tr) (r1_ (a_ (a_ (a_ (AL_ok g.f_more g y5 E4 (sel [1, 0]) sj_) (a_ (rl_ (.var [.ptr 0 0 0])) (a_ (rl_ (.row 142 1 (fun _ => c_Bf g) false)) tr))) tr) (r1_ (r2_ tr)))))))))))))))) tr))) tr)
 ·obtain rfl := si_ h
  exact rr_ [] 17 [.reg [], .reg [], .reg [(9, hC (BA_v y2)), (10, hF)]]
   (a_ (a_ (r1_ tr) (a_ (r2_ tr) (a_ (r1_ (l_ 0 1 rfl (r2_ (a_ (a_ (a_ (lt_ 0 1 rfl) (le_ 12 142 rfl)) tr) (l_ 0 1 rfl (r2_ (a_ (a_ (a_ (lt_ 0 1 rfl) (lt_ 141 142 rfl)) tr) (c_ (BA_tri g.f_conf g.f_nodes y2 E1) (f_ C3 (a_ tr (t2_ (t4_ (r2_ tr))))))))))))) tr))) tr)
theorem AN_c6_ok {w0 W μ0} (hμ : Lt_ μ0 1) (g : Bf) (r : (Bool)) (h : AN_c6 g = some r) : AN_K1000006 w0 W μ0 g r := by
 unfold AN_c6 at h
 obtain ⟨y2, E1, h⟩ := bs_ h
 rcases it_ h with ⟨C3, h⟩ | ⟨C3, h⟩
 ·obtain ⟨y5, E4, h⟩ := bs_ h
  obtain rfl := si_ h
  exact rr_ [] 14 [.reg [], .reg [(9, hC (BS_v y2)), (10, hT), (16, hk_ (hK_ [1, 0] (AL_v y5) (AL_objs g) (AL_up y5)))]]
   (a_ (a_ (r2_ tr) (a_ (r1_ (l_ 0 1 rfl (r2_ (a_ (a_ (a_ (lt_ 0 1 rfl) (le_ 12 142 rfl)) tr) (l_ 0 1 rfl (r2_ (a_ (a_ (a_ (lt_ 0 1 rfl) (lt_ 141 142 rfl)) tr) (c_ (BS_tri g.f_conf g.f_nodes y2 E1) (f_ C3 (l_ 0 1 rfl (r2_ (a_ (a_ (a_ (lt_ 0 1 rfl) (lt_ 12 142 rfl)) tr) (r1_ (a_ (a_ (a_ (AL_ok g.f_more g y5 E4 (sel [1, 0]) sj_) (a_ (rl_ (.var [.ptr 0 0 0])) (a_ (rl_ (.row 142 1 (fun _ => c_Bf g) false)) tr))) tr) (r1_ (r2_ tr)))))))))))))))) tr)) tr)
 ·obtain rfl := si_ h
  exact rr_ [] 14 [.reg [], .reg [(9, hC (BS_v y2)), (10, hF)]]
   (a_ (a_ (r2_ tr) (a_ (r1_ (l_ 0 1 rfl (r2_ (a_ (a_ (a_ (lt_ 0 1 rfl) (le_ 12 142 rfl)) tr) (l_ 0 1 rfl (r2_ (a_ (a_ (a_ (lt_ 0 1 rfl) (lt_ 141 142 rfl)) tr) (c_ (BS_tri g.f_conf g.f_nodes y2 E1) (f_ C3 (a_ tr (t2_ (t4_ (r2_ tr))))))))))))) tr)) tr)
theorem AN_ok (g : Bf) (r : (Bool)) (h : AN g = some r) : ∀ σ, Inj 1 σ → FnTri Tryz.prog 82 (renL σ [.ptr 0 0 0]) (preOf σ 0 (AN_objs g)) ((AN_v r).ren σ) (upOf σ (AN_up r)) := by
 refine fo_ Tryz.func82 ⟨fun _ _ => rfl, trivial⟩ trivial ?_
 intro w0 W μ0 hμ
 unfold AN at h
 obtain ⟨y2, e1, h⟩ := bs_ h
 rcases it_ h with ⟨c3, h⟩ | ⟨c3, h⟩
 ·obtain rfl := si_ h
  exact rr_ [] 20 [.reg [], .reg [(1, hk_ (hK_ [0] (AC_v y2) (AC_objs g) (AC_up y2))), (2, hT)], .reg []]
   (a_ (a_ (r2_ tr) (a_ (l_ 0 1 rfl (a_ (a_ (a_ (AC_ok g y2 e1 (sel [0]) sj_) (a_ (rl_ (.row 142 1 (fun _ => c_Bf g) false)) tr)) tr) (f_ c3 tr))) (a_ (r1_ tr) tr))) tr)
 ·rcases it_ h with ⟨c4, h⟩ | ⟨c4, h⟩
  ·exact rt_ hμ [1] 26 [.reg [], .reg [(1, hk_ (hK_ [0] (AC_v y2) (AC_objs g) (AC_up y2))), (2, hF)], .reg [], .reg [(4, hT)]]
    (a_ (r2_ tr) (a_ (l_ 0 1 rfl (a_ (a_ (a_ (AC_ok g y2 e1 (sel [0]) sj_) (a_ (rl_ (.row 142 1 (fun _ => c_Bf g) false)) tr)) tr) (f_ c3 tr))) (a_ (r1_ tr) (a_ (l_ 0 1 rfl (r2_ (a_ (a_ (a_ (lt_ 0 1 rfl) (lt_ 0 142 rfl)) tr) (f_ c4 tr)))) tr)))) (AN_c5_ok hμ g r h) ⟨fun _ _ => rfl, rfl, trivial⟩
  ·exact rt_ hμ [1] 28 [.reg [], .reg [(1, hk_ (hK_ [0] (AC_v y2) (AC_objs g) (AC_up y2))), (2, hF)], .reg [], .reg [(4, hF)]]
    (a_ (r2_ tr) (a_ (l_ 0 1 rfl (a_ (a_ (a_ (AC_ok g y2 e1 (sel [0]) sj_) (a_ (rl_ (.row 142 1 (fun _ => c_Bf g) false)) tr)) tr) (f_ c3 tr))) (a_ (r1_ tr) (a_ (l_ 0 1 rfl (r2_ (a_ (a_ (a_ (lt_ 0 1 rfl) (lt_ 0 142 rfl)) tr) (f_ c4 tr)))) tr)))) (AN_c6_ok hμ g r h) ⟨fun _ _ => rfl, rfl, trivial⟩
def BJ_v (r : (Bool) × (Bi) × (Bh) × D_ × A_ × E_) : LV := .bool r.1
def BJ_up (pu : B_) (co : C_) (r : (Bool) × (Bi) × (Bh) × D_ × A_ × E_) : Upd := [(0, some (.var (cT_60 r.2.1 (.map 1) r.2.2.1 (.op 5 (r.2.2.2.2.2).isSome) r.2.2.2.1 (.map 3) (.map 4)))), (1, some (oP2 r.2.2.2.2.1 [])), (2, none), (3, some (oM4 pu)), (4, some (oM5 co)), (5, some (.vo (r.2.2.2.2.2).isSome (c_Bf ((r.2.2.2.2.2).getD default))))]
def BJ_objs (ti : Bi) (slots : A_) (key : Bh) (ga : Bf) (re : D_) (pu : B_) (co : C_) : List LO := [.var (cT_60 ti (.map 1) key (.ptr 2 0 0) re (.map 3) (.map 4)), oP2 slots [], .var (c_Bf ga), oM4 pu, oM5 co]
def BJ (ti : Bi) (slots : A_) (key : Bh) (ga : Bf) (re : D_) (pu : B_) (co : C_) : Option ((Bool) × (Bi) × (Bh) × D_ × A_ × E_) :=
 (AN ga).bind fun y2 =>
 if ((!y2) : Bool) then
  some (false, ti, key, re, slots, (some ga))
 else
  some (true, ti, z0_, re, (mset slots key ga), (none : E_))
theorem BJ_ok (ti : Bi) (slots : A_) (key : Bh) (ga : Bf) (re : D_) (pu : B_) (co : C_) (r : (Bool) × (Bi) × (Bh) × D_ × A_ × E_) (h : BJ ti slots key ga re pu co = some r) : ∀ σ, Inj 6 σ → FnTri Tryz.prog 50 (renL σ [.ptr 0 0 0]) (preOf σ 0 (BJ_objs ti slots key ga re pu co)) ((BJ_v r).ren σ) (upOf σ (BJ_up pu co r)) := by
 refine fo_ Tryz.func50 ⟨rfl, uP, rfl, trivial, trivial, trivial⟩ ⟨rfl, uP, trivial, trivial, rfl, trivial⟩ ?_
 intro w0 W μ0 hμ
 unfold BJ at h
 obtain ⟨y2, e1, h⟩ := bs_ h
 rcases it_ h with ⟨c3, h⟩ | ⟨c3, h⟩
 ·obtain rfl := si_ h
  exact rr_ [5] 22 [.reg [], .reg [(4, hk_ (hK_ [2] (AN_v y2) (AN_objs ga) (AN_up y2))), (5, hT)], .reg [], .wk [] [(0, .var (cT_60 ti (.map 1) key (.op 2 ((some ga)).isSome) re (.map 3) (.map 4))), (2, .vo ((some ga)).isSome (c_Bf (((some ga)).getD default)))], .x (.mv 0 14)]
   (a_ (a_ (r1_ tr) (a_ (r1_ (r2_ (l_ 14 33 rfl (a_ (a_ (a_ (AN_ok ga y2 e1 (sel [2]) sj_) (a_ (LO.Le.ofVar (c_Bf ga)) tr)) tr) (f_ c3 tr))))) (a_ (r1_ tr) (a_ (a_ tr (a_ (LO.Sub.var (lel_set (cT_60 ti (.map 1) key (.ptr 2 0 0) re (.map 3) (.map 4)) 14 (.ptr 2 0 0) (.op 2 ((some ga)).isSome) rfl (le_ptr_op rfl))) (a_ (sub_var_vo (g := (some ga)) (y := ga) c_Bf rfl) tr))) (a_ (show 2 ≠ 0 from by decide) tr))))) tr)
 ·obtain rfl := si_ h
  exact rr_ [5] 29 [.reg [], .reg [(4, hk_ (hK_ [2] (AN_v y2) (AN_objs ga) (AN_up y2))), (5, hF)], .reg [(12, { os := [(1, oP2 (mset slots key ga) [])] })], .reg [], .reg [], .void (.vo ((none : E_)).isSome (c_Bf (((none : E_)).getD default))), .wk [] [(0, .var (cT_60 ti (.map 1) z0_ (.op 5 ((none : E_)).isSome) re (.map 3) (.map 4)))]]
   (a_ (a_ (r1_ tr) (a_ (r1_ (r2_ (l_ 14 33 rfl (a_ (a_ (a_ (AN_ok ga y2 e1 (sel [2]) sj_) (a_ (LO.Le.ofVar (c_Bf ga)) tr)) tr) (f_ c3 tr))))) (a_ (r1_ (r2_ (l_ 4 33 rfl (r1_ (r2_ (m_ 14 33 rfl (r1_ (r2_ (l_ 14 33 rfl (a_ (a_ (a_ (Eq.refl true) (a_ (Eq.refl true) (show 1 ≠ 2 from by decide))) (a_ (pm_upd v_Bh c_Bf k_Bh true ks1 [] slots key ga) tr)) tr)))))))))) (a_ (r2_ (a_ (a_ (Eq.refl true) tr) (r2_ (a_ (a_ (a_ (Eq.refl 9) (a_ (le_ 14 33 rfl) (Eq.refl 0))) tr) (r2_ (a_ (a_ (a_ (Eq.refl 1) (a_ (le_ 15 33 rfl) (Eq.refl 0))) tr) tr)))))) (a_ (r1_ tr) (a_ (Eq.refl false) (a_ (a_ tr (a_ (LO.Sub.var (lel_set (cT_60 ti (.map 1) z0_ .nilptr re (.map 3) (.map 4)) 14 (.nilptr) (.op 5 ((none : E_)).isSome) rfl (le_nil_op rfl))) tr)) tr))))))) tr)
def AF_v (r : (Int) × (Bi) × (Bh) × D_ × A_ × E_) : LV := .int .i64 r.1
def AF_up (pu : B_) (co : C_) (r : (Int) × (Bi) × (Bh) × D_ × A_ × E_) : Upd := [(0, some (.var (cT_60 r.2.1 (.map 1) r.2.2.1 (.op 5 (r.2.2.2.2.2).isSome) r.2.2.2.1 (.map 3) (.map 4)))), (1, some (oP2 r.2.2.2.2.1 [])), (2, none), (3, some (oM4 pu)), (4, some (oM5 co)), (5, some (.vo (r.2.2.2.2.2).isSome (c_Bf ((r.2.2.2.2.2).getD default))))]
def AF_objs (ti : Bi) (slots : A_) (key : Bh) (ga : E_) (re : D_) (pu : B_) (co : C_) : List LO := [.var (cT_60 ti (.map 1) key (.op 2 (ga).isSome) re (.map 3) (.map 4)), oP2 slots [], .vo (ga).isSome (c_Bf ((ga).getD default)), oM4 pu, oM5 co]
def AF_c4 (ti : Bi) (slots : A_) (key : Bh) (ga : E_) (re : D_) (pu : B_) (co : C_) (x_k : I_) (mode : Int) (c : Bg) (more : H_) : Option ((Int) × (Bi) × (Bh) × D_ × A_ × E_) :=
 some (11, ti, key, re, slots, (none : E_))
def AF_c10 (ti : Bi) (slots : A_) (key : Bh) (ga : E_) (re : D_) (pu : B_) (co : C_) (x_k : I_) (mode : Int) (c : Bg) (more : H_) : Option ((Int) × (Bi) × (Bh) × D_ × A_ × E_) :=
 some (7, ti, key, re, slots, (none : E_))
def AF_l0 (ti : Bi) (slots : A_) (key : Bh) (ga : E_) (re : D_) (pu : B_) (co : C_) (x_k : I_) (mode : Int) (c : Bg) (more : H_) : Nat → F_ → (Int) → (Int) → (Int) → (Bg) → H_ → G_ → (Int) → Option ((Int) × (Bi) × (Bh) × D_ × A_ × E_)
 | 0, _, _, _, _, _, _, _, _ => none
 | fuel + 1, t82, t83, t84, mode2, Epoch, more2, Node, nodes =>
  if ((decide (t84 < t83)) : Bool) then
   if 0 ≤ t84 ∧ t84 < (((t82).length : Nat) : Int) then
   (AA (Bf.mk mode2 Epoch more2 Node nodes) (t82.getD t84.toNat default)).bind fun y4 =>
   AF_l0 ti slots key ga re pu co x_k mode c more fuel t82 t83 (IntKind.wrap .i64 (t84 + 1)) y4.2.1 y4.2.2.1 y4.2.2.2.1 y4.2.2.2.2.1 y4.2.2.2.2.2
   else none
  else
   (BJ ti slots (Bh.mk x_k mode) (Bf.mk mode2 Epoch more2 Node nodes) re pu co).bind fun y3 =>
   some (0, y3.2.1, y3.2.2.1, y3.2.2.2.1, y3.2.2.2.2.1, y3.2.2.2.2.2)
def AF_c12 (ti : Bi) (slots : A_) (key : Bh) (ga : E_) (re : D_) (pu : B_) (co : C_) (x_k : I_) (mode : Int) (c : Bg) (more : H_) : Option ((Int) × (Bi) × (Bh) × D_ × A_ × E_) :=
 some (5, ti, key, re, slots, (none : E_))
def AF_c13 (ti : Bi) (slots : A_) (key : Bh) (ga : E_) (re : D_) (pu : B_) (co : C_) (x_k : I_) (mode : Int) (c : Bg) (more : H_) (yC5_2 : Bool × (Unit) × ((Int) × (Bg) × H_ × G_)) : Option ((Int) × (Bi) × (Bh) × D_ × A_ × E_) :=
 if (((mget slots (Bh.mk x_k mode)).isSome) : Bool) then
  (mget slots (Bh.mk x_k mode)).bind fun yC13_2 =>
  (AK yC13_2).bind fun y5 =>
  AF_l0 ti slots key ga re pu co x_k mode c more big y5 ((y5).length : Int) 0 yC5_2.2.2.1 yC5_2.2.2.2.1 yC5_2.2.2.2.2.1 yC5_2.2.2.2.2.2 0
 else
  (Av).bind fun y3 =>
  AF_l0 ti slots key ga re pu co x_k mode c more big y3 ((y3).length : Int) 0 yC5_2.2.2.1 yC5_2.2.2.2.1 yC5_2.2.2.2.2.1 yC5_2.2.2.2.2.2 0
def AF_c11 (ti : Bi) (slots : A_) (key : Bh) (ga : E_) (re : D_) (pu : B_) (co : C_) (x_k : I_) (mode : Int) (c : Bg) (more : H_) (y2 : Bool × (Unit) × ((Int) × (Bg) × H_ × G_)) (yC5_5 : (Int)) : Option ((Int) × (Bi) × (Bh) × D_ × A_ × E_) :=
 if ((yC5_5 == 0) : Bool) then
  (At ti slots key re pu co).bind fun y3 =>
  if ((y3 == 16) : Bool) then
   AF_c12 ti slots key ga re pu co x_k mode c more
  else
   AF_c13 ti slots key ga re pu co x_k mode c more y2
 else
  if (((mget slots (Bh.mk x_k mode)).isSome) : Bool) then
   (mget slots (Bh.mk x_k mode)).bind fun y4 =>
   (AK y4).bind fun y7 =>
   AF_l0 ti slots key ga re pu co x_k mode c more big y7 ((y7).length : Int) 0 y2.2.2.1 y2.2.2.2.1 y2.2.2.2.2.1 y2.2.2.2.2.2 0
  else
   (Av).bind fun yC11_5 =>
   AF_l0 ti slots key ga re pu co x_k mode c more big yC11_5 ((yC11_5).length : Int) 0 y2.2.2.1 y2.2.2.2.1 y2.2.2.2.2.1 y2.2.2.2.2.2 0
def AF_c5 (ti : Bi) (slots : A_) (key : Bh) (ga : E_) (re : D_) (pu : B_) (co : C_) (x_k : I_) (mode : Int) (c : Bg) (more : H_) : Option ((Int) × (Bi) × (Bh) × D_ × A_ × E_) :=
 (Ay x_k mode c more).bind fun y2 =>
 if (y2.1 : Bool) then
  (AM ti slots key re pu co x_k).bind fun y5 =>
  some (1, ti, key, re, slots, (none : E_))
 else
  (AM ti slots key re pu co x_k).bind fun y5 =>
  if ((((more).length : Int) == 0) : Bool) then
   if ((decide (mode ≤ y5)) : Bool) then
    AF_c10 ti slots key ga re pu co x_k mode c more
   else
    AF_c11 ti slots key ga re pu co x_k mode c more y2 y5
  else
   AF_c11 ti slots key ga re pu co x_k mode c more y2 y5
def AF (ti : Bi) (slots : A_) (key : Bh) (ga : E_) (re : D_) (pu : B_) (co : C_) (x_k : I_) (mode : Int) (c : Bg) (more : H_) : Option ((Int) × (Bi) × (Bh) × D_ × A_ × E_) :=
 (AT ti slots key re pu co).bind fun y2 =>
 if (((ga).isSome) : Bool) then
  (ga).bind fun y4 =>
  some (11, ti, key, re, slots, (some y4))
 else
  (BE ti slots key re pu co x_k).bind fun y5 =>
  if (y5 : Bool) then
   AF_c4 ti slots key ga re pu co x_k mode c more
  else
   AF_c5 ti slots key ga re pu co x_k mode c more
abbrev AF_K1000004 (w0 : World) (W : Nat → Prop) (μ0 : Emb) (ti : Bi) (slots : A_) (key : Bh) (ga : E_) (re : D_) (pu : B_) (co : C_) (r : (Int) × (Bi) × (Bh) × D_ × A_ × E_) : Prop := Kt_ w0 W μ0 Tryz.f20 5 6 (AF_v r) (AF_up pu co r) (kAtR (bodyOf Tryz.f20) 4) (n_ 94 []) [some (.var (cT_60 ti (.map 1) key .nilptr re (.map 3) (.map 4))), some (oP2 slots []), some (.vo (ga).isSome (c_Bf ((ga).getD default))), some (oM4 pu), some (oM5 co)]
abbrev AF_K1000010 (w0 : World) (W : Nat → Prop) (μ0 : Emb) (ti : Bi) (slots : A_) (key : Bh) (ga : E_) (re : D_) (pu : B_) (co : C_) (r : (Int) × (Bi) × (Bh) × D_ × A_ × E_) : Prop := Kt_ w0 W μ0 Tryz.f20 5 6 (AF_v r) (AF_up pu co r) (kAtR (bodyOf Tryz.f20) 10) (n_ 94 []) [some (.var (cT_60 ti (.map 1) key .nilptr re (.map 3) (.map 4))), some (oP2 slots []), some (.vo (ga).isSome (c_Bf ((ga).getD default))), some (oM4 pu), some (oM5 co)]
abbrev AF_K0 (w0 : World) (W : Nat → Prop) (μ0 : Emb) (ti : Bi) (slots : A_) (ga : E_) (re : D_) (pu : B_) (co : C_) (x_k : I_) (mode : Int) (t82 : F_) (t83 t84 mode2 : Int) (Epoch : Bg) (more2 : H_) (Node : G_) (nodes : Int) (r : (Int) × (Bi) × (Bh) × D_ × A_ × E_) : Prop := Kt_ w0 W μ0 Tryz.f20 5 6 (AF_v r) (AF_up pu co r) (kAt (bodyOf Tryz.f20) 0) ((.ptr 0 0 0) :: n_ 10 ((.ptr 5 0 0) :: n_ 70 ((.ds 16 (t82).length (rowF c_Bk default t82)) :: (.int .i64 t83) :: (.int .i64 t84) :: n_ 9 []))) [some (.var (cT_60 ti (.map 1) (Bh.mk x_k mode) (.ptr 5 0 0) re (.map 3) (.map 4))), some (oP2 slots []), some (.vo (ga).isSome (c_Bf ((ga).getD default))), some (oM4 pu), some (oM5 co), some (.var (c_Bf (Bf.mk mode2 Epoch more2 Node nodes)))]
abbrev AF_K1000012 (w0 : World) (W : Nat → Prop) (μ0 : Emb) (ti : Bi) (slots : A_) (key : Bh) (ga : E_) (re : D_) (pu : B_) (co : C_) (r : (Int) × (Bi) × (Bh) × D_ × A_ × E_) : Prop := Kt_ w0 W μ0 Tryz.f20 5 6 (AF_v r) (AF_up pu co r) (kAtR (bodyOf Tryz.f20) 12) (n_ 94 []) [some (.var (cT_60 ti (.map 1) key .nilptr re (.map 3) (.map 4))), some (oP2 slots []), some (.vo (ga).isSome (c_Bf ((ga).getD default))), some (oM4 pu), some (oM5 co)]
abbrev AF_K1000013 (w0 : World) (W : Nat → Prop) (μ0 : Emb) (ti : Bi) (slots : A_) (key : Bh) (ga : E_) (re : D_) (pu : B_) (co : C_) (x_k : I_) (mode : Int) (y2 : Bool × (Unit) × ((Int) × (Bg) × H_ × G_)) (r : (Int) × (Bi) × (Bh) × D_ × A_ × E_) : Prop := Kt_ w0 W μ0 Tryz.f20 5 6 (AF_v r) (AF_up pu co r) (kAtR (bodyOf Tryz.f20) 13) ((.ptr 0 0 0) :: .any :: (.int .u8 mode) :: .any :: .any :: .any :: (.ptr 5 0 0) :: n_ 4 ((.ptr 6 0 0) :: n_ 82 [])) [some (.var (cT_60 ti (.map 1) key .nilptr re (.map 3) (.map 4))), some (oP2 slots []), some (.vo (ga).isSome (c_Bf ((ga).getD default))), some (oM4 pu), some (oM5 co), some (.var [.int .u8 x_k.a0, .int .u8 x_k.a1, .int .u8 x_k.a2, .int .u8 x_k.a3, .int .u8 x_k.a4, .int .u8 x_k.a5, .int .u8 x_k.a6, .int .u8 x_k.a7]), some (.var (c_Bf (Bf.mk y2.2.2.1 y2.2.2.2.1 y2.2.2.2.2.1 y2.2.2.2.2.2 0)))]
abbrev AF_K1000011 (w0 : World) (W : Nat → Prop) (μ0 : Emb) (ti : Bi) (slots : A_) (key : Bh) (ga : E_) (re : D_) (pu : B_) (co : C_) (x_k : I_) (mode : Int) (y2 : Bool × (Unit) × ((Int) × (Bg) × H_ × G_)) (y5 : (Int)) (r : (Int) × (Bi) × (Bh) × D_ × A_ × E_) : Prop := Kt_ w0 W μ0 Tryz.f20 5 6 (AF_v r) (AF_up pu co r) (kAtR (bodyOf Tryz.f20) 11) ((.ptr 0 0 0) :: .any :: (.int .u8 mode) :: .any :: .any :: .any :: (.ptr 5 0 0) :: n_ 4 ((.ptr 6 0 0) :: .any :: (.int .u8 y5) :: n_ 80 [])) [some (.var (cT_60 ti (.map 1) key .nilptr re (.map 3) (.map 4))), some (oP2 slots []), some (.vo (ga).isSome (c_Bf ((ga).getD default))), some (oM4 pu), some (oM5 co), some (.var [.int .u8 x_k.a0, .int .u8 x_k.a1, .int .u8 x_k.a2, .int .u8 x_k.a3, .int .u8 x_k.a4, .int .u8 x_k.a5, .int .u8 x_k.a6, .int .u8 x_k.a7]), some (.var (c_Bf (Bf.mk y2.2.2.1 y2.2.2.2.1 y2.2.2.2.2.1 y2.2.2.2.2.2 0)))]
abbrev AF_K1000005 (w0 : World) (W : Nat → Prop) (μ0 : Emb) (ti : Bi) (slots : A_) (key : Bh) (ga : E_) (re : D_) (pu : B_) (co : C_) (x_k : I_) (mode : Int) (c : Bg) (more : H_) (r : (Int) × (Bi) × (Bh) × D_ × A_ × E_) : Prop := Kt_ w0 W μ0 Tryz.f20 5 6 (AF_v r) (AF_up pu co r) (kAtR (bodyOf Tryz.f20) 5) ((.ptr 0 0 0) :: .any :: (.int .u8 mode) :: .any :: (.ds 11 (more).length (rowF c_Bg default more)) :: .any :: (.ptr 5 0 0) :: .any :: (.ptr 6 0 0) :: n_ 85 []) [some (.var (cT_60 ti (.map 1) key .nilptr re (.map 3) (.map 4))), some (oP2 slots []), some (.vo (ga).isSome (c_Bf ((ga).getD default))), some (oM4 pu), some (oM5 co), some (.var [.int .u8 x_k.a0, .int .u8 x_k.a1, .int .u8 x_k.a2, .int .u8 x_k.a3, .int .u8 x_k.a4, .int .u8 x_k.a5, .int .u8 x_k.a6, .int .u8 x_k.a7]), some (.var (c_Bg c))]
theorem AF_c4_ok {w0 W μ0} (hμ : Lt_ μ0 5) (ti : Bi) (slots : A_) (key : Bh) (ga : E_) (re : D_) (pu : B_) (co : C_) (x_k : I_) (mode : Int) (c : Bg) (more : H_) (r : (Int) × (Bi) × (Bh) × D_ × A_ × E_) (h : AF_c4 ti slots key ga re pu co x_k mode c more = some r) : AF_K1000004 w0 W μ0 ti slots key ga re pu co r := by
 unfold AF_c4 at h
 obtain rfl := si_ h
 exact rr_ [5] 14 [.reg [], .void (.vo ((none : E_)).isSome (c_Bf (((none : E_)).getD default))), .wk [] [(0, .var (cT_60 ti (.map 1) key (.op 5 ((none : E_)).isSome) re (.map 3) (.map 4)))], .x (.dr 2)]
  (a_ (a_ (r1_ tr) (a_ (Eq.refl false) (a_ (a_ tr (a_ (LO.Sub.var (lel_set (cT_60 ti (.map 1) key .nilptr re (.map 3) (.map 4)) 14 (.nilptr) (.op 5 ((none : E_)).isSome) rfl (le_nil_op rfl))) tr)) (a_ tr tr)))) tr)
theorem AF_c10_ok {w0 W μ0} (hμ : Lt_ μ0 5) (ti : Bi) (slots : A_) (key : Bh) (ga : E_) (re : D_) (pu : B_) (co : C_) (x_k : I_) (mode : Int) (c : Bg) (more : H_) (r : (Int) × (Bi) × (Bh) × D_ × A_ × E_) (h : AF_c10 ti slots key ga re pu co x_k mode c more = some r) : AF_K1000010 w0 W μ0 ti slots key ga re pu co r := by
 unfold AF_c10 at h
 obtain rfl := si_ h
 exact rr_ [5] 14 [.reg [], .void (.vo ((none : E_)).isSome (c_Bf (((none : E_)).getD default))), .wk [] [(0, .var (cT_60 ti (.map 1) key (.op 5 ((none : E_)).isSome) re (.map 3) (.map 4)))], .x (.dr 2)]
  (a_ (a_ (r1_ tr) (a_ (Eq.refl false) (a_ (a_ tr (a_ (LO.Sub.var (lel_set (cT_60 ti (.map 1) key .nilptr re (.map 3) (.map 4)) 14 (.nilptr) (.op 5 ((none : E_)).isSome) rfl (le_nil_op rfl))) tr)) (a_ tr tr)))) tr)
theorem AF_l0_ok {w0 W μ0} (hμ : Lt_ μ0 5) (ti : Bi) (slots : A_) (key : Bh) (ga : E_) (re : D_) (pu : B_) (co : C_) (x_k : I_) (mode : Int) (c : Bg) (more : H_) : ∀ (fuel : Nat) (t82 : F_) (t83 t84 mode2 : Int) (Epoch : Bg) (more2 : H_) (Node : G_) (nodes : Int) (r : (Int) × (Bi) × (Bh) × D_ × A_ × E_), AF_l0 ti slots key ga re pu co x_k mode c more fuel t82 t83 t84 mode2 Epoch more2 Node nodes = some r → AF_K0 w0 W μ0 ti slots ga re pu co x_k mode t82 t83 t84 mode2 Epoch more2 Node nodes r := by
 intro fuel
 induction fuel with
 | zero => intro t82 t83 t84 mode2 Epoch more2 Node nodes r h; rw [AF_l0] at h; cases h
 | succ fuel ih =>
  intro t82 t83 t84 mode2 Epoch more2 Node nodes r h
  rw [AF_l0] at h
  rcases it_ h with ⟨C1, h⟩ | ⟨C1, h⟩
  ·obtain ⟨G2, h⟩ := gs_ h
   obtain ⟨y4, E3, h⟩ := bs_ h
   exact rt_ hμ [5] 26 [.go, .reg [(0, hT)], .reg [], .reg [(2, hk_ (hK_ [5] (AA_v y4) (AA_objs (Bf.mk mode2 Epoch more2 Node nodes)) (AA_up y4)))], .reg []]
    (a_ (f_ C1 tr) (a_ (a_ (a_ (a_ (Eq.refl 16) G2) tr) (a_ (a_ (le_ 16 16 rfl) tr) (r1_ (a_ (a_ (a_ (Eq.refl 16) (a_ (le_ 16 16 rfl) (Eq.refl 0))) tr) tr)))) (a_ (r1_ (m_ 16 16 rfl (a_ (a_ (a_ (AA_ok (Bf.mk mode2 Epoch more2 Node nodes) (t82.getD t84.toNat default) y4 E3 (sel [5]) sj_) (a_ (rl_ (.var (c_Bf (Bf.mk mode2 Epoch more2 Node nodes)))) tr)) tr) tr))) (a_ (r2_ tr) tr)))) (ih _ _ _ _ _ _ _ _ r h) ⟨rfl, uP, rfl, trivial, trivial, rfl, trivial⟩
  ·obtain ⟨y3, E2, h⟩ := bs_ h
   obtain rfl := si_ h
   exact rr_ [7] 24 [.go, .reg [(0, hF)], .reg [(1, hk_ (hK_ [0, 1, 5, 3, 4, 6] (BJ_v y3) (BJ_objs ti slots (Bh.mk x_k mode) (Bf.mk mode2 Epoch more2 Node nodes) re pu co) (BJ_up pu co y3)))], .reg [], .x (.mv 0 14), .x (.dr 2)]
    (a_ (a_ (f_ C1 tr) (a_ (r1_ (a_ (a_ (a_ (BJ_ok ti slots (Bh.mk x_k mode) (Bf.mk mode2 Epoch more2 Node nodes) re pu co y3 E2 (sel [0, 1, 5, 3, 4, 6]) sj_) (a_ (rl_ (.var (cT_60 ti (.map 1) (Bh.mk x_k mode) (.ptr 5 0 0) re (.map 3) (.map 4)))) (a_ (Eq.refl (oP2 slots [] : LO)) (a_ (rl_ (.var (c_Bf (Bf.mk mode2 Epoch more2 Node nodes)))) (a_ (rl_ (oM4 pu)) (a_ (rl_ (oM5 co)) tr)))))) tr) tr)) (a_ (r1_ tr) (a_ (show 6 ≠ 0 from by decide) (a_ tr tr))))) tr)
theorem AF_c12_ok {w0 W μ0} (hμ : Lt_ μ0 5) (ti : Bi) (slots : A_) (key : Bh) (ga : E_) (re : D_) (pu : B_) (co : C_) (x_k : I_) (mode : Int) (c : Bg) (more : H_) (r : (Int) × (Bi) × (Bh) × D_ × A_ × E_) (h : AF_c12 ti slots key ga re pu co x_k mode c more = some r) : AF_K1000012 w0 W μ0 ti slots key ga re pu co r := by
 unfold AF_c12 at h
 obtain rfl := si_ h
 exact rr_ [5] 14 [.reg [], .void (.vo ((none : E_)).isSome (c_Bf (((none : E_)).getD default))), .wk [] [(0, .var (cT_60 ti (.map 1) key (.op 5 ((none : E_)).isSome) re (.map 3) (.map 4)))], .x (.dr 2)]
  (a_ (a_ (r1_ tr) (a_ (Eq.refl false) (a_ (a_ tr (a_ (LO.Sub.var (lel_set (cT_60 ti (.map 1) key .nilptr re (.map 3) (.map 4)) 14 (.nilptr) (.op 5 ((none : E_)).isSome) rfl (le_nil_op rfl))) tr)) (a_ tr tr)))) tr)
theorem AF_c13_ok {w0 W μ0} (hμ : Lt_ μ0 5) (ti : Bi) (slots : A_) (key : Bh) (ga : E_) (re : D_) (pu : B_) (co : C_) (x_k : I_) (mode : Int) (c : Bg) (more : H_) (yC5_2 : Bool × (Unit) × ((Int) × (Bg) × H_ × G_)) (r : (Int) × (Bi) × (Bh) × D_ × A_ × E_) (h : AF_c13 ti slots key ga re pu co x_k mode c more yC5_2 = some r) : AF_K1000013 w0 W μ0 ti slots key ga re pu co x_k mode yC5_2 r := by
 unfold AF_c13 at h
 rcases it_ h with ⟨C1, h⟩ | ⟨C1, h⟩
 ·obtain ⟨yC13_2, E3, h⟩ := bs_ h
  obtain ⟨y5, E4, h⟩ := bs_ h
  exact rt_ hμ [6] 20 [.reg [], .x (.p (.po 1 (v_Bh (Bh.mk x_k mode)) (c_Bf yC13_2))), .reg [(8, { look := some (.ptr 7 0 0) }), (9, hk_ (hK_ [7] (AK_v y5) (AK_objs yC13_2) (AK_up y5)))], .x (.p (.pc 1)), .wk [] [(1, oP2 slots [])]]
   (a_ (r2_ (m_ 8 8 rfl (r1_ (a_ (a_ (Eq.refl true) tr) (r1_ (r2_ (a_ (a_ (a_ (Eq.refl 9) (a_ (le_ 14 33 rfl) (Eq.refl 0))) tr) (r2_ (a_ (a_ (a_ (Eq.refl 1) (a_ (le_ 15 33 rfl) (Eq.refl 0))) tr) tr))))))))) (a_ (a_ (pmIn v_Bh c_Bf E3) (pmO0 v_Bh (Bh.mk x_k mode))) (a_ (r1_ (r2_ (l_ 4 33 rfl (r1_ (r2_ (m_ 14 33 rfl (a_ (a_ (a_ (Eq.refl true) (a_ (pmSi v_Bh c_Bf k_Bh slots (Bh.mk x_k mode) (isS E3)) (List.mem_cons_self (a := ((v_Bh (Bh.mk x_k mode), 7) : LV × Nat)) (l := [])))) tr) (a_ (a_ (a_ (AK_ok yC13_2 y5 E4 (sel [7]) sj_) (a_ (LO.Le.ofVar (c_Bf yC13_2)) tr)) tr) (r2_ tr))))))))) (a_ (a_ (getP_enc v_Bh c_Bf k_Bh slots (Bh.mk x_k mode) E3) (a_ (Eq.refl true) (a_ (Eq.refl true) (show 1 ≠ 7 from by decide)))) (a_ (a_ tr (a_ (pm_same v_Bh c_Bf k_Bh true ks1 [] (m := slots) (k := (Bh.mk x_k mode)) E3) tr)) tr))))) (AF_l0_ok hμ ti slots key ga re pu co x_k mode c more big _ _ _ _ _ _ _ _ r h) ⟨rfl, uP, rfl, trivial, trivial, rfl, trivial⟩
 ·obtain ⟨y3, E2, h⟩ := bs_ h
  exact rt_ hμ [6] 17 [.reg [], .reg [(8, { look := none }), (9, hC (Av_v y3))]]
   (a_ (r2_ (m_ 8 8 rfl (r1_ (a_ (a_ (Eq.refl true) tr) (r1_ (r2_ (a_ (a_ (a_ (Eq.refl 9) (a_ (le_ 14 33 rfl) (Eq.refl 0))) tr) (r2_ (a_ (a_ (a_ (Eq.refl 1) (a_ (le_ 15 33 rfl) (Eq.refl 0))) tr) tr))))))))) (a_ (r1_ (r2_ (l_ 4 33 rfl (r1_ (r2_ (m_ 14 33 rfl (a_ (a_ (a_ (Eq.refl true) (pmN v_Bh c_Bf k_Bh slots (Bh.mk x_k mode) C1)) tr) (c_ (Av_tri y3 E2) (r2_ tr))))))))) tr)) (AF_l0_ok hμ ti slots key ga re pu co x_k mode c more big _ _ _ _ _ _ _ _ r h) ⟨rfl, uP, rfl, trivial, trivial, rfl, trivial⟩
theorem AF_c11_ok {w0 W μ0} (hμ : Lt_ μ0 5) (ti : Bi) (slots : A_) (key : Bh) (ga : E_) (re : D_) (pu : B_) (co : C_) (x_k : I_) (mode : Int) (c : Bg) (more : H_) (y2 : Bool × (Unit) × ((Int) × (Bg) × H_ × G_)) (yC5_5 : (Int)) (r : (Int) × (Bi) × (Bh) × D_ × A_ × E_) (h : AF_c11 ti slots key ga re pu co x_k mode c more y2 yC5_5 = some r) : AF_K1000011 w0 W μ0 ti slots key ga re pu co x_k mode y2 yC5_5 r := by
 unfold AF_c11 at h
 rcases it_ h with ⟨C1, h⟩ | ⟨C1, h⟩
 ·obtain ⟨y3, E2, h⟩ := bs_ h
  rcases it_ h with ⟨C4, h⟩ | ⟨C4, h⟩
  ·exact rt_ hμ [] 13 [.reg [(2, hT), (4, hk_ (hK_ [0, 1, 3, 4] (At_v y3) (At_objs ti slots key re pu co) (At_up slots pu co y3))), (7, hT)]]
    (a_ (r2_ (f_ C1 (r1_ (a_ (a_ (a_ (At_ok ti slots key re pu co y3 E2 (sel [0, 1, 3, 4]) sj_) (a_ (LO.Le.ofVarL (lel_set (cT_60 ti (.map 1) key .nilptr re (.map 3) (.map 4)) 14 (.nilptr) .any rfl (le_any _))) (a_ (Eq.refl (oP2 slots [] : LO)) (a_ (rl_ (oM4 pu)) (a_ (rl_ (oM5 co)) tr))))) tr) (r2_ (f_ C4 tr)))))) tr) (AF_c12_ok hμ ti slots key ga re pu co x_k mode c more r h) ⟨rfl, uP, rfl, trivial, trivial, trivial⟩
  ·exact rt_ hμ [5, 6] 15 [.reg [(2, hT), (4, hk_ (hK_ [0, 1, 3, 4] (At_v y3) (At_objs ti slots key re pu co) (At_up slots pu co y3))), (7, hF)]]
    (a_ (r2_ (f_ C1 (r1_ (a_ (a_ (a_ (At_ok ti slots key re pu co y3 E2 (sel [0, 1, 3, 4]) sj_) (a_ (LO.Le.ofVarL (lel_set (cT_60 ti (.map 1) key .nilptr re (.map 3) (.map 4)) 14 (.nilptr) .any rfl (le_any _))) (a_ (Eq.refl (oP2 slots [] : LO)) (a_ (rl_ (oM4 pu)) (a_ (rl_ (oM5 co)) tr))))) tr) (r2_ (f_ C4 tr)))))) tr) (AF_c13_ok hμ ti slots key ga re pu co x_k mode c more y2 r h) ⟨rfl, uP, rfl, trivial, trivial, rfl, rfl, trivial⟩
 ·rcases it_ h with ⟨C2, h⟩ | ⟨C2, h⟩
  ·obtain ⟨y4, E5, h⟩ := bs_ h
   obtain ⟨y7, E6, h⟩ := bs_ h
   exact rt_ hμ [6] 26 [.reg [(2, hF)], .reg [], .x (.p (.po 1 (v_Bh (Bh.mk x_k mode)) (c_Bf y4))), .reg [(8, { look := some (.ptr 7 0 0) }), (9, hk_ (hK_ [7] (AK_v y7) (AK_objs y4) (AK_up y7)))], .x (.p (.pc 1)), .wk [] [(1, oP2 slots [])]]
    (a_ (r2_ (f_ C1 (a_ tr (t2_ (r2_ tr))))) (a_ (r2_ (m_ 8 8 rfl (r1_ (a_ (a_ (Eq.refl true) tr) (r1_ (r2_ (a_ (a_ (a_ (Eq.refl 9) (a_ (le_ 14 33 rfl) (Eq.refl 0))) tr) (r2_ (a_ (a_ (a_ (Eq.refl 1) (a_ (le_ 15 33 rfl) (Eq.refl 0))) tr) tr))))))))) (a_ (a_ (pmIn v_Bh c_Bf E5) (pmO0 v_Bh (Bh.mk x_k mode))) (a_ (r1_ (r2_ (l_ 4 33 rfl (r1_ (r2_ (m_ 14 33 rfl (a_ (a_ (a_ (Eq.refl true) (a_ (pmSi v_Bh c_Bf k_Bh slots (Bh.mk x_k mode) (isS E5)) (List.mem_cons_self (a := ((v_Bh (Bh.mk x_k mode), 7) : LV × Nat)) (l := [])))) tr) (a_ (a_ (a_ (AK_ok y4 y7 E6 (sel [7]) sj_) (a_ (LO.Le.ofVar (c_Bf y4)) tr)) tr) (r2_ tr))))))))) (a_ (a_ (getP_enc v_Bh c_Bf k_Bh slots (Bh.mk x_k mode) E5) (a_ (Eq.refl true) (a_ (Eq.refl true) (show 1 ≠ 7 from by decide)))) (a_ (a_ tr (a_ (pm_same v_Bh c_Bf k_Bh true ks1 [] (m := slots) (k := (Bh.mk x_k mode)) E5) tr)) tr)))))) (AF_l0_ok hμ ti slots key ga re pu co x_k mode c more big _ _ _ _ _ _ _ _ r h) ⟨rfl, uP, rfl, trivial, trivial, rfl, trivial⟩
  ·obtain ⟨yC11_5, E3, h⟩ := bs_ h
   exact rt_ hμ [6] 23 [.reg [(2, hF)], .reg [], .reg [(8, { look := none }), (9, hC (Av_v yC11_5))]]
    (a_ (r2_ (f_ C1 (a_ tr (t2_ (r2_ tr))))) (a_ (r2_ (m_ 8 8 rfl (r1_ (a_ (a_ (Eq.refl true) tr) (r1_ (r2_ (a_ (a_ (a_ (Eq.refl 9) (a_ (le_ 14 33 rfl) (Eq.refl 0))) tr) (r2_ (a_ (a_ (a_ (Eq.refl 1) (a_ (le_ 15 33 rfl) (Eq.refl 0))) tr) tr))))))))) (a_ (r1_ (r2_ (l_ 4 33 rfl (r1_ (r2_ (m_ 14 33 rfl (a_ (a_ (a_ (Eq.refl true) (pmN v_Bh c_Bf k_Bh slots (Bh.mk x_k mode) C2)) tr) (c_ (Av_tri yC11_5 E3) (r2_ tr))))))))) tr))) (AF_l0_ok hμ ti slots key ga re pu co x_k mode c more big _ _ _ _ _ _ _ _ r h) ⟨rfl, uP, rfl, trivial, trivial, rfl, trivial⟩
theorem AF_c5_ok {w0 W μ0} (hμ : Lt_ μ0 5) (ti : Bi) (slots : A_) (key : Bh) (ga : E_) (re : D_) (pu : B_) (co : C_) (x_k : I_) (mode : Int) (c : Bg) (more : H_) (r : (Int) × (Bi) × (Bh) × D_ × A_ × E_) (h : AF_c5 ti slots key ga re pu co x_k mode c more = some r) : AF_K1000005 w0 W μ0 ti slots key ga re pu co x_k mode c more r := by
 unfold AF_c5 at h
 obtain ⟨y2, E1, h⟩ := bs_ h
 rcases it_ h with ⟨C3, h⟩ | ⟨C3, h⟩
 ·obtain ⟨y5, E4, h⟩ := bs_ h
  obtain rfl := si_ h
  exact rr_ [7] 26 [.reg [(4, hC (Ay_vA y2.2.1))], .reg [(2, hk_ (hK_ [0, 1, 3, 4] (AM_v y5) (AM_objs ti slots key re pu co) (AM_up pu co y5)))], .reg [], .reg [], .void (.vo ((none : E_)).isSome (c_Bf (((none : E_)).getD default))), .wk [] [(0, .var (cT_60 ti (.map 1) key (.op 7 ((none : E_)).isSome) re (.map 3) (.map 4)))], .x (.dr 2)]
   (a_ (a_ (m_ 8 8 rfl (r1_ (m_ 11 11 rfl (r1_ (a_ (a_ (a_ (Ay_triA x_k mode c more y2.2.1 y2.2.2 (altA E1 C3)) tr) tr) (r1_ (r4_ tr))))))) (a_ (r1_ (m_ 8 8 rfl (a_ (a_ (a_ (AM_ok ti slots key re pu co x_k y5 E4 (sel [0, 1, 3, 4]) sj_) (a_ (LO.Le.ofVarL (lel_set (cT_60 ti (.map 1) key .nilptr re (.map 3) (.map 4)) 14 (.nilptr) .any rfl (le_any _))) (a_ (le_pmP v_Bh c_Bf (ag := true) (ks := ks1) (m := slots) (opn := [])) (a_ (rl_ (oM4 pu)) (a_ (rl_ (oM5 co)) tr))))) tr) (r1_ tr)))) (a_ (r1_ (r2_ tr)) (a_ (r2_ tr) (a_ (Eq.refl false) (a_ (a_ tr (a_ (LO.Sub.var (lel_set (cT_60 ti (.map 1) key .nilptr re (.map 3) (.map 4)) 14 (.nilptr) (.op 7 ((none : E_)).isSome) rfl (le_nil_op rfl))) tr)) (a_ tr tr))))))) tr)
 ·obtain ⟨y5, E4, h⟩ := bs_ h
  rcases it_ h with ⟨C6, h⟩ | ⟨C6, h⟩
  ·rcases it_ h with ⟨C7, h⟩ | ⟨C7, h⟩
   ·exact rt_ hμ [] 25 [.reg [(4, hk_ (hK_ [7] (Ay_vB y2.2.2) [] (Ay_upB y2.2.2)))], .reg [(2, hk_ (hK_ [0, 1, 3, 4] (AM_v y5) (AM_objs ti slots key re pu co) (AM_up pu co y5)))], .reg [], .reg [(3, hT), (8, hT)]]
     (a_ (m_ 8 8 rfl (r1_ (m_ 11 11 rfl (r1_ (a_ (a_ (a_ (Ay_okB x_k mode c more y2.2.2 y2.2.1 (altB E1 C3) (sel [7]) sj_) tr) tr) (r1_ (r4_ tr))))))) (a_ (r1_ (m_ 8 8 rfl (a_ (a_ (a_ (AM_ok ti slots key re pu co x_k y5 E4 (sel [0, 1, 3, 4]) sj_) (a_ (LO.Le.ofVarL (lel_set (cT_60 ti (.map 1) key .nilptr re (.map 3) (.map 4)) 14 (.nilptr) .any rfl (le_any _))) (a_ (le_pmP v_Bh c_Bf (ag := true) (ks := ks1) (m := slots) (opn := [])) (a_ (rl_ (oM4 pu)) (a_ (rl_ (oM5 co)) tr))))) tr) (r1_ tr)))) (a_ (r1_ (r2_ tr)) (a_ (r1_ (r2_ (f_ C6 (r4_ (f_ C7 tr))))) tr)))) (AF_c10_ok hμ ti slots key ga re pu co x_k mode c more r h) ⟨rfl, uP, rfl, trivial, trivial, trivial⟩
   ·exact rt_ hμ [5, 7] 25 [.reg [(4, hk_ (hK_ [7] (Ay_vB y2.2.2) [] (Ay_upB y2.2.2)))], .reg [(2, hk_ (hK_ [0, 1, 3, 4] (AM_v y5) (AM_objs ti slots key re pu co) (AM_up pu co y5)))], .reg [], .reg [(3, hT), (8, hF)]]
     (a_ (m_ 8 8 rfl (r1_ (m_ 11 11 rfl (r1_ (a_ (a_ (a_ (Ay_okB x_k mode c more y2.2.2 y2.2.1 (altB E1 C3) (sel [7]) sj_) tr) tr) (r1_ (r4_ tr))))))) (a_ (r1_ (m_ 8 8 rfl (a_ (a_ (a_ (AM_ok ti slots key re pu co x_k y5 E4 (sel [0, 1, 3, 4]) sj_) (a_ (LO.Le.ofVarL (lel_set (cT_60 ti (.map 1) key .nilptr re (.map 3) (.map 4)) 14 (.nilptr) .any rfl (le_any _))) (a_ (le_pmP v_Bh c_Bf (ag := true) (ks := ks1) (m := slots) (opn := [])) (a_ (rl_ (oM4 pu)) (a_ (rl_ (oM5 co)) tr))))) tr) (r1_ tr)))) (a_ (r1_ (r2_ tr)) (a_ (r1_ (r2_ (f_ C6 (r4_ (f_ C7 tr))))) tr)))) (AF_c11_ok hμ ti slots key ga re pu co x_k mode c more y2 y5 r h) ⟨rfl, uP, rfl, trivial, trivial, rfl, rfl, trivial⟩
  ·exact rt_ hμ [5, 7] 25 [.reg [(4, hk_ (hK_ [7] (Ay_vB y2.2.2) [] (Ay_upB y2.2.2)))], .reg [(2, hk_ (hK_ [0, 1, 3, 4] (AM_v y5) (AM_objs ti slots key re pu co) (AM_up pu co y5)))], .reg [], .reg [(3, hF)]]
    (a_ (m_ 8 8 rfl (r1_ (m_ 11 11 rfl (r1_ (a_ (a_ (a_ (Ay_okB x_k mode c more y2.2.2 y2.2.1 (altB E1 C3) (sel [7]) sj_) tr) tr) (r1_ (r4_ tr))))))) (a_ (r1_ (m_ 8 8 rfl (a_ (a_ (a_ (AM_ok ti slots key re pu co x_k y5 E4 (sel [0, 1, 3, 4]) sj_) (a_ (LO.Le.ofVarL (lel_set (cT_60 ti (.map 1) key .nilptr re (.map 3) (.map 4)) 14 (.nilptr) .any rfl (le_any _))) (a_ (le_pmP v_Bh c_Bf (ag := true) (ks := ks1) (m := slots) (opn := [])) (a_ (rl_ (oM4 pu)) (a_ (rl_ (oM5 co)) tr))))) tr) (r1_ tr)))) (a_ (r1_ (r2_ tr)) (a_ (r1_ (r2_ (f_ C6 (a_ tr (t2_ (r2_ tr)))))) tr)))) (AF_c11_ok hμ ti slots key ga re pu co x_k mode c more y2 y5 r h) ⟨rfl, uP, rfl, trivial, trivial, rfl, rfl, trivial⟩
theorem AF_ok (ti : Bi) (slots : A_) (key : Bh) (ga : E_) (re : D_) (pu : B_) (co : C_) (x_k : I_) (mode : Int) (c : Bg) (more : H_) (r : (Int) × (Bi) × (Bh) × D_ × A_ × E_) (h : AF ti slots key ga re pu co x_k mode c more = some r) : ∀ σ, Inj 6 σ → FnTri Tryz.prog 20 (renL σ [.ptr 0 0 0, .agg [.int .u8 x_k.a0, .int .u8 x_k.a1, .int .u8 x_k.a2, .int .u8 x_k.a3, .int .u8 x_k.a4, .int .u8 x_k.a5, .int .u8 x_k.a6, .int .u8 x_k.a7], .int .u8 mode, v_Bg c, .ds 11 (more).length (rowF c_Bg default more)]) (preOf σ 0 (AF_objs ti slots key ga re pu co)) ((AF_v r).ren σ) (upOf σ (AF_up pu co r)) := by
 refine fo_ Tryz.func20 ⟨rfl, uP, rfl, trivial, trivial, trivial⟩ ⟨rfl, uP, trivial, trivial, rfl, trivial⟩ ?_
 intro w0 W μ0 hμ
 unfold AF at h
 obtain ⟨y2, e1, h⟩ := bs_ h
 rcases it_ h with ⟨c3, h⟩ | ⟨c3, h⟩
 ·obtain ⟨y4, e5, h⟩ := bs_ h
  obtain rfl := si_ h
  exact rr_ [7] 28 [.reg [], .reg [(1, hk_ (hK_ [0, 1, 3, 4] (AT_v y2) (AT_objs ti slots key re pu co) (AT_up pu co y2)))], .wk [] [(0, .var (cT_60 ti (.map 1) key (.ptr 2 0 0) re (.map 3) (.map 4))), (2, .var (c_Bf y4))], .reg [], .reg [], .wk [] [(0, .var (cT_60 ti (.map 1) key (.op 2 ((some y4)).isSome) re (.map 3) (.map 4))), (2, .vo ((some y4)).isSome (c_Bf (((some y4)).getD default)))], .x (.mv 0 14)]
   (a_ (a_ (r1_ (r2_ tr)) (a_ (r1_ (a_ (a_ (a_ (AT_ok ti slots key re pu co y2 e1 (sel [0, 1, 3, 4]) sj_) (a_ (LO.Le.ofVarL (lel_set (cT_60 ti (.map 1) key (.op 2 (ga).isSome) re (.map 3) (.map 4)) 14 (.op 2 (ga).isSome) .any rfl (le_any _))) (a_ (le_pmR v_Bh c_Bf (ag := true) (ks := ks1) (m := slots) (opn := [])) (a_ (rl_ (oM4 pu)) (a_ (rl_ (oM5 co)) tr))))) tr) (r2_ tr))) (a_ (a_ tr (a_ (LO.Sub.var (lel_set (cT_60 ti (.map 1) key (.op 2 (ga).isSome) re (.map 3) (.map 4)) 14 (.op 2 (ga).isSome) (.ptr 2 0 0) rfl (le_op_ptr (isS_of e5)))) (a_ (sub_vo_var c_Bf e5) tr))) (a_ (r1_ (r2_ (l_ 14 33 rfl (r2_ (a_ tr (t2_ (r2_ tr))))))) (a_ (r1_ tr) (a_ (a_ tr (a_ (LO.Sub.var (lel_set (cT_60 ti (.map 1) key (.ptr 2 0 0) re (.map 3) (.map 4)) 14 (.ptr 2 0 0) (.op 2 ((some y4)).isSome) rfl (le_ptr_op rfl))) (a_ (sub_var_vo (g := (some y4)) (y := y4) c_Bf rfl) tr))) (a_ (show 2 ≠ 0 from by decide) tr))))))) tr)
 ·obtain ⟨y5, e4, h⟩ := bs_ h
  rcases it_ h with ⟨c6, h⟩ | ⟨c6, h⟩
  ·exact rt_ hμ [] 24 [.reg [], .reg [(1, hk_ (hK_ [0, 1, 3, 4] (AT_v y2) (AT_objs ti slots key re pu co) (AT_up pu co y2)))], .wk [] [(0, .var (cT_60 ti (.map 1) key .nilptr re (.map 3) (.map 4)))], .reg [(8, hk_ (hK_ [0, 1, 3, 4] (BE_v y5) (BE_objs ti slots key re pu co) (BE_up pu co y5))), (10, hT)]]
    (a_ (r1_ (r2_ tr)) (a_ (r1_ (a_ (a_ (a_ (AT_ok ti slots key re pu co y2 e1 (sel [0, 1, 3, 4]) sj_) (a_ (LO.Le.ofVarL (lel_set (cT_60 ti (.map 1) key (.op 2 (ga).isSome) re (.map 3) (.map 4)) 14 (.op 2 (ga).isSome) .any rfl (le_any _))) (a_ (le_pmR v_Bh c_Bf (ag := true) (ks := ks1) (m := slots) (opn := [])) (a_ (rl_ (oM4 pu)) (a_ (rl_ (oM5 co)) tr))))) tr) (r2_ tr))) (a_ (a_ tr (a_ (LO.Sub.var (lel_set (cT_60 ti (.map 1) key (.op 2 (ga).isSome) re (.map 3) (.map 4)) 14 (.op 2 (ga).isSome) (.nilptr) rfl (le_op_nil c3))) tr)) (a_ (r1_ (r2_ (l_ 14 33 rfl (r1_ (r2_ (m_ 8 8 rfl (a_ (a_ (a_ (BE_ok ti slots key re pu co x_k y5 e4 (sel [0, 1, 3, 4]) sj_) (a_ (LO.Le.ofVarL (lel_set (cT_60 ti (.map 1) key .nilptr re (.map 3) (.map 4)) 14 (.nilptr) .any rfl (le_any _))) (a_ (le_pmR v_Bh c_Bf (ag := true) (ks := ks1) (m := slots) (opn := [])) (a_ (rl_ (oM4 pu)) (a_ (rl_ (oM5 co)) tr))))) tr) (r1_ (f_ c6 tr))))))))) tr)))) (AF_c4_ok hμ ti slots key ga re pu co x_k mode c more r h) ⟨rfl, uP, rfl, trivial, trivial, trivial⟩
  ·exact rt_ hμ [5, 6] 26 [.reg [], .reg [(1, hk_ (hK_ [0, 1, 3, 4] (AT_v y2) (AT_objs ti slots key re pu co) (AT_up pu co y2)))], .wk [] [(0, .var (cT_60 ti (.map 1) key .nilptr re (.map 3) (.map 4)))], .reg [(8, hk_ (hK_ [0, 1, 3, 4] (BE_v y5) (BE_objs ti slots key re pu co) (BE_up pu co y5))), (10, hF)]]
    (a_ (r1_ (r2_ tr)) (a_ (r1_ (a_ (a_ (a_ (AT_ok ti slots key re pu co y2 e1 (sel [0, 1, 3, 4]) sj_) (a_ (LO.Le.ofVarL (lel_set (cT_60 ti (.map 1) key (.op 2 (ga).isSome) re (.map 3) (.map 4)) 14 (.op 2 (ga).isSome) .any rfl (le_any _))) (a_ (le_pmR v_Bh c_Bf (ag := true) (ks := ks1) (m := slots) (opn := [])) (a_ (rl_ (oM4 pu)) (a_ (rl_ (oM5 co)) tr))))) tr) (r2_ tr))) (a_ (a_ tr (a_ (LO.Sub.var (lel_set (cT_60 ti (.map 1) key (.op 2 (ga).isSome) re (.map 3) (.map 4)) 14 (.op 2 (ga).isSome) (.nilptr) rfl (le_op_nil c3))) tr)) (a_ (r1_ (r2_ (l_ 14 33 rfl (r1_ (r2_ (m_ 8 8 rfl (a_ (a_ (a_ (BE_ok ti slots key re pu co x_k y5 e4 (sel [0, 1, 3, 4]) sj_) (a_ (LO.Le.ofVarL (lel_set (cT_60 ti (.map 1) key .nilptr re (.map 3) (.map 4)) 14 (.nilptr) .any rfl (le_any _))) (a_ (le_pmR v_Bh c_Bf (ag := true) (ks := ks1) (m := slots) (opn := [])) (a_ (rl_ (oM4 pu)) (a_ (rl_ (oM5 co)) tr))))) tr) (r1_ (f_ c6 tr))))))))) tr)))) (AF_c5_ok hμ ti slots key ga re pu co x_k mode c more r h) ⟨rfl, uP, rfl, trivial, trivial, rfl, rfl, trivial⟩
def AV_v (r : (Bk)) : LV := v_Bk r
def AV (x_n : Int) : Option ((Bk)) :=
 (Au).bind fun y2 =>
 some (Bk.mk x_n (Bj.mk 1 1) (Bn.mk 4 ([111, 108, 100] : J_) y2))
theorem AV_ok (x_n : Int) (r : (Bk)) (h : AV x_n = some r) : ∀ σ, Inj 0 σ → FnTri Tryz.prog 23 (renL σ [.int .u8 x_n]) (preOf σ 0 []) ((AV_v r).ren σ) (upOf σ []) := by
 refine fo_ Tryz.func23 trivial trivial ?_
 intro w0 W μ0 hμ
 unfold AV at h
 obtain ⟨y2, e1, h⟩ := bs_ h
 obtain rfl := si_ h
 exact rr_ [] 15 [.reg [], .reg [(2, hC (Au_v y2))]]
  (a_ (a_ (r1_ tr) (a_ (r1_ (a_ (a_ (Eq.refl true) tr) (c_ (Au_tri y2 e1) (a_ (a_ (Eq.refl true) tr) (a_ (a_ (Eq.refl true) tr) (a_ (a_ (a_ (Eq.refl 16) (a_ (le_ 16 16 rfl) (Eq.refl 0))) tr) tr)))))) tr)) (a_ (a_ tr (le_ 16 16 rfl)) tr))
theorem AV_tri (x_n : Int) (r : (Bk)) (h : AV x_n = some r) : FnTri Tryz.prog 23 [.int .u8 x_n] [] (AV_v r) [] := FnTri.none (AV_ok x_n r h) rfl rfl
end
end Go.Proofs.YtljjdeanilgloaaGreatDoor.Wk
