import Derived.Test.YtddgjfclpknkcaaGreatDoorProg
import Derived.Test.YtddgjfclpknkcaaGreatDoorCnW
import Derived.Test.YtddgjfclpknkcaaGreatDoorCnXb
import Derived.WalkKit
import Derived.TacticsInMore
import Derived.RegionIn
import Derived.LoopNIn
import Derived.LoopIn
import Derived.ControlIn
import Derived.Test.YtddgjfclpknkcaaGreatDoorCnZa
namespace Go.Proofs.YtddgjfclpknkcaaGreatDoor.Wk
open Go Go.Cn Go.RowKit
set_option maxRecDepth 100000
set_option maxHeartbeats 4000000
set_option linter.unusedVariables false
set_option linter.unusedSimpArgs false
noncomputable section
variable (w0 : World) (W : Nat → Prop) (μ0 : Emb)
theorem mixed : Tryz.prog.follows .mixedOrders = true := by kernel_rfl
theorem si_ {α : Type} {a b : α} (h : some a = some b) : a = b := Option.some.inj h
theorem sj_ {l : List Nat} {n : Nat} (h : nodupB l = true := by rfl) (hn : n = l.length := by rfl) : Inj n (sel l) := sel_inj h hn
theorem rl_ (o : LO) : LO.Le o o := LO.Le.refl o
abbrev hv_ (v : LV) : Hint := { v := some v }
theorem rr_ {w0 : World} {W : Nat → Prop} {μ0 : Emb} {fn : Func} {m : Nat} {v : LV} {up : Upd} {k : List It} {T : List LV} {H : Heap} {q : Prop} {nn : Nat} (L : List Nat) (n : Nat) (s : List Tok) (hq : q) (h : runRet Tryz.prog fn m L up n s k T H = some (q, v.ren (tau m L), renUp (tau m L) up) := by kernel_rfl) (hn : nn = m + L.length := by rfl) : kont Tryz.prog w0 W μ0 (FnPost Tryz.prog fn m nn v up) k none T H := run_ret mixed (L := L) (n := n) (s := s) hq h hn
theorem rt_ {w0 : World} {W : Nat → Prop} {μ0 : Emb} {Post : List LV → Heap → Prop} {m : Nat} {T' : List LV} {H' : Heap} {k k' : List It} {T : List LV} {H : Heap} {q : Prop} (hμ0 : ∀ c p, μ0 c = some p → c < m) (L : List Nat) (n : Nat) (s : List Tok) (hq : q) (hk : kont Tryz.prog w0 W μ0 Post k' none T' H') (hu : underH H'.length H') (h : runTo Tryz.prog m L T' H' n s k T H = some (q, k', renL (tau m L) T', renH (tau m L) H') := by kernel_rfl) : kont Tryz.prog w0 W μ0 Post k none T H := run_to mixed hμ0 (L := L) (n := n) (s := s) hq hk h hu
theorem fo_ {f : FuncId} {fn : Func} {args : List LV} {objs : List LO} {n : Nat} {v : LV} {up : Upd} (hf : Tryz.prog.funcs[f]? = some fn) (h2 : objsUnder objs.length objs) (h4 : upUnder n up) (h : ∀ w0 W μ0, (∀ c p, μ0 c = some p → c < objs.length) → kont Tryz.prog w0 W μ0 (FnPost Tryz.prog fn objs.length n v up) [.code (bodyOf fn)] none (startOf fn args) (objs.map some)) (hn : (fn.name == "runtime.NumGoroutine") = false := by kernel_rfl) (hb : fn.body = some (bodyOf fn) := by kernel_rfl) (h1 : underL objs.length args = true := by kernel_rfl) (h3 : v.under n = true := by kernel_rfl) (h5 : sigB objs n up = true := by kernel_rfl) : ∀ σ, Inj n σ → FnTri Tryz.prog f (renL σ args) (preOf σ 0 objs) (v.ren σ) (upOf σ up) := fn_of hf hn hb h1 h2 h3 h4 h5 h
theorem rrb_ {w0 : World} {W : Nat → Prop} {μ0 : Emb} {fn : Func} {m : Nat} {v : LV} {up : Upd} {k : List It} {T : List LV} {H : Heap} {q : Prop} {nn : Nat} (L : List Nat) (n : Nat) (s : List Tok) (hq : q) (h : runRet Tryz.prog fn m L up n s k T H = some (q, v.ren (tau m L), renUp (tau m L) up) := by cases bb <;> kernel_rfl) (hn : nn = m + L.length := by rfl) : kont Tryz.prog w0 W μ0 (FnPost Tryz.prog fn m nn v up) k none T H := rr_ L n s hq h hn
theorem rtb_ {w0 : World} {W : Nat → Prop} {μ0 : Emb} {Post : List LV → Heap → Prop} {m : Nat} {T' : List LV} {H' : Heap} {k k' : List It} {T : List LV} {H : Heap} {q : Prop} (hμ0 : ∀ c p, μ0 c = some p → c < m) (L : List Nat) (n : Nat) (s : List Tok) (hq : q) (hk : kont Tryz.prog w0 W μ0 Post k' none T' H') (hu : underH H'.length H') (h : runTo Tryz.prog m L T' H' n s k T H = some (q, k', renL (tau m L) T', renH (tau m L) H') := by cases bb <;> kernel_rfl) : kont Tryz.prog w0 W μ0 Post k none T H := rt_ hμ0 L n s hq hk hu h
abbrev ld_ (z : Nat) {i : Int} {n : Nat} {X Y : Prop} (g : 0 ≤ i ∧ i < (n : Int)) (x : X) (y : Y) := a_ (a_ (a_ (Eq.refl z) g) tr) (a_ (a_ (a_ (ltN g) (Nat.le_refl z)) x) y)
abbrev q0 {A B C D : Prop} (a : A) (b : B) (c : C) (d : D) := (a_ a (a_ b (a_ c d)))
abbrev q1 {A : Prop} (a : A) := (a_ a tr)
abbrev q2 {A : Prop} (a : A) := (r1_ (r2_ a))
abbrev q3 {A B : Prop} (a : A) (b : B) := (a_ a (q1 b))
abbrev q4 {A B : Prop} (a : A) (b : B) := (a_ (q1 a) (r1_ b))
abbrev q5 {A B C : Prop} (a : A) (b : B) (c : C) := (a_ (q3 a b) (r1_ c))
abbrev q6 {A : Prop} (a : A) := (q1 (q1 a))
abbrev q7 {A B C D : Prop} (a : A) (b : B) (c : C) (d : D) := (q0 a (r1_ b) c d)
abbrev q8 {A B C : Prop} (a : A) (b : B) (c : C) := (a_ a (a_ b c))
abbrev q9 {A B : Prop} (a : A) (b : B) := (q1 (q3 a b))
abbrev q10 {A B C : Prop} (a : A) (b : B) (c : C) := (q1 (q7 (r1_ tr) a (r1_ b) c))
abbrev q11 {A B C D : Prop} (a : A) (b : B) (c : C) (d : D) := (q0 a b (r1_ c) d)
abbrev q12 {A : Prop} (a : A) := (r4_ (q4 a (r4_ tr)))
abbrev q13 {A B C : Prop} (a : A) (b : B) (c : C) := (a_ (q1 a) (q4 b c))
abbrev q14 {A : Prop} (a : A) := (q1 (r2_ a))
abbrev q15 {A B C : Prop} (a : A) (b : B) (c : C) := (q0 a (q3 tr b) (q3 tr c) tr)
abbrev q16 {A B C D : Prop} (a : A) (b : B) (c : C) (d : D) := (q1 (q0 a b c d))
abbrev q17 {A : Prop} (a : A) := (q1 (q2 a))
abbrev q18 {A B C : Prop} (a : A) (b : B) (c : C) := (q6 (q8 a b c))
abbrev q19 {A : Prop} (a : A) := (q1 (r1_ a))
abbrev q20 {A : Prop} (a : A) := (q9 (r2_ tr) (r1_ a))
abbrev q21 {A : Prop} (a : A) := (q5 tr a tr)
abbrev q22 {A B : Prop} (a : A) (b : B) := (q3 a (a_ tr b))
abbrev q23 {A : Prop} (a : A) := (r2_ (r4_ a))
abbrev q24 {A : Prop} (a : A) := (a_ a (r2_ tr))
abbrev q25 {A B C D : Prop} (a : A) (b : B) (c : C) (d : D) := (q7 (r1_ a) b c d)
abbrev q26 {A B C : Prop} (a : A) (b : B) (c : C) := (q16 (r1_ tr) (q4 (q1 a) tr) b c)
abbrev q27 {A B : Prop} (a : A) (b : B) := (q3 (r1_ a) b)
abbrev q28 {A : Prop} (a : A) := (q9 (r1_ tr) a)
theorem uP {n : Nat} : ∀ x ∈ ([] : List (LV × Nat)), x.2 < n := fun x hx => by simp at hx
def hK_ (l : List Nat) (v : LV) (o : List LO) (u : Upd) := (v.ren (sel l), preOf (sel l) 0 o, upOf (sel l) u)
def n_ : Nat → List LV → List LV
 | 0, r => r
 | n + 1, r => .any :: n_ n r
def Lt_ (μ0 : Emb) (m : Nat) : Prop := ∀ c p, μ0 c = some p → c < m
abbrev Kt_ (F : Func) (m n : Nat) (v : LV) (u : Upd) (k : List It) (T : List LV) (H : Heap) : Prop := kont Tryz.prog w0 W μ0 (FnPost Tryz.prog F m n v u) k none T H
structure TX where
 f_Node : Int
 f_Boot : Int
 f_Num : Int
 deriving DecidableEq, Inhabited
def c_TX (x : TX) : List LV := [.int .u8 x.f_Node, .int .u32 x.f_Boot, .int .u32 x.f_Num]
def v_TX (x : TX) : LV := .agg (c_TX x)
theorem x_TX (a b : TX) : a = b ↔ a.f_Node = b.f_Node ∧ a.f_Boot = b.f_Boot ∧ a.f_Num = b.f_Num := by
 cases a; cases b; simp
theorem k_TX (a b : TX) : eqK (v_TX a) (v_TX b) = decide (a = b) := by
 rw [Bool.eq_iff_iff, decide_eq_true_eq]
 simp only [x_TX, v_TX, c_TX, eqK, eqCs, eqC, Bool.and_eq_true, beq_iff_eq, and_assoc, and_true]
structure TS where
 f_Time : Int
 f_Tx : TX
 deriving DecidableEq, Inhabited
def c_TS (x : TS) : List LV := [.int .u32 x.f_Time, .int .u8 x.f_Tx.f_Node, .int .u32 x.f_Tx.f_Boot, .int .u32 x.f_Tx.f_Num]
def v_TS (x : TS) : LV := .agg (c_TS x)
structure TA where
 f_Kind : Int
 f_Stamp : TS
 f_Key : A8 (Int)
 f_Mode : Int
 f_Keys : List (A8 (Int))
 deriving DecidableEq, Inhabited
def c_TA (x : TA) : List LV := [.int .u8 x.f_Kind, .int .u32 x.f_Stamp.f_Time, .int .u8 x.f_Stamp.f_Tx.f_Node, .int .u32 x.f_Stamp.f_Tx.f_Boot, .int .u32 x.f_Stamp.f_Tx.f_Num, .int .u8 x.f_Key.a0, .int .u8 x.f_Key.a1, .int .u8 x.f_Key.a2, .int .u8 x.f_Key.a3, .int .u8 x.f_Key.a4, .int .u8 x.f_Key.a5, .int .u8 x.f_Key.a6, .int .u8 x.f_Key.a7, .int .u8 x.f_Mode, .ds 8 (x.f_Keys).length (rowF (fun z_ : A8 (Int) => [.int .u8 z_.a0, .int .u8 z_.a1, .int .u8 z_.a2, .int .u8 z_.a3, .int .u8 z_.a4, .int .u8 z_.a5, .int .u8 z_.a6, .int .u8 z_.a7]) default x.f_Keys)]
def v_TA (x : TA) : LV := .agg (c_TA x)
structure TU where
 f_stamp : TS
 f_prepared : Bool
 deriving DecidableEq, Inhabited
def c_TU (x : TU) : List LV := [.int .u32 x.f_stamp.f_Time, .int .u8 x.f_stamp.f_Tx.f_Node, .int .u32 x.f_stamp.f_Tx.f_Boot, .int .u32 x.f_stamp.f_Tx.f_Num, .bool x.f_prepared]
structure TL where
 f_tx : TX
 f_key : A8 (Int)
 deriving DecidableEq, Inhabited
abbrev UT := List (TX × TU)
abbrev PT := List (TL × Int)
abbrev tb_ : List UInt8 := [0, 1, 2, 2, 3, 3, 3, 3, 4, 4, 4, 4, 4, 4, 4, 4, 5, 5, 5, 5, 5, 5, 5, 5, 5, 5, 5, 5, 5, 5, 5, 5, 6, 6, 6, 6, 6, 6, 6, 6, 6, 6, 6, 6, 6, 6, 6, 6, 6, 6, 6, 6, 6, 6, 6, 6, 6, 6, 6, 6, 6, 6, 6, 6, 7, 7, 7, 7, 7, 7, 7, 7, 7, 7, 7, 7, 7, 7, 7, 7, 7, 7, 7, 7, 7, 7, 7, 7, 7, 7, 7, 7, 7, 7, 7, 7, 7, 7, 7, 7, 7, 7, 7, 7, 7, 7, 7, 7, 7, 7, 7, 7, 7, 7, 7, 7, 7, 7, 7, 7, 7, 7, 7, 7, 7, 7, 7, 7, 8, 8, 8, 8, 8, 8, 8, 8, 8, 8, 8, 8, 8, 8, 8, 8, 8, 8, 8, 8, 8, 8, 8, 8, 8, 8, 8, 8, 8, 8, 8, 8, 8, 8, 8, 8, 8, 8, 8, 8, 8, 8, 8, 8, 8, 8, 8, 8, 8, 8, 8, 8, 8, 8, 8, 8, 8, 8, 8, 8, 8, 8, 8, 8, 8, 8, 8, 8, 8, 8, 8, 8, 8, 8, 8, 8, 8, 8, 8, 8, 8, 8, 8, 8, 8, 8, 8, 8, 8, 8, 8, 8, 8, 8, 8, 8, 8, 8, 8, 8, 8, 8, 8, 8, 8, 8, 8, 8, 8, 8, 8, 8, 8, 8, 8, 8, 8, 8, 8, 8, 8, 8, 8, 8, 8, 8, 8, 8]
def c_TL (x : TL) : List LV := [.int .u8 x.f_tx.f_Node, .int .u32 x.f_tx.f_Boot, .int .u32 x.f_tx.f_Num, .int .u8 x.f_key.a0, .int .u8 x.f_key.a1, .int .u8 x.f_key.a2, .int .u8 x.f_key.a3, .int .u8 x.f_key.a4, .int .u8 x.f_key.a5, .int .u8 x.f_key.a6, .int .u8 x.f_key.a7]
def v_TL (x : TL) : LV := .agg (c_TL x)
theorem x_TL (a b : TL) : a = b ↔ a.f_tx = b.f_tx ∧ a.f_key = b.f_key := by
 cases a; cases b; simp
theorem k_TL (a b : TL) : eqK (v_TL a) (v_TL b) = decide (a = b) := by
 rw [Bool.eq_iff_iff, decide_eq_true_eq]
 simp only [x_TL, x_TX, A8.x, v_TL, c_TL, eqK, eqCs, eqC, Bool.and_eq_true, beq_iff_eq, and_assoc, and_true]
abbrev ks0 : List CK := [.int .u8, .int .u32, .int .u32]
def oP1 (x : UT) (o : List (LV × Nat)) : LO := .pm true ks0 (encP v_TX c_TU x) o
abbrev ks2 : List CK := [.int .u8, .int .u32, .int .u32, .int .u8, .int .u8, .int .u8, .int .u8, .int .u8, .int .u8, .int .u8, .int .u8]
def oM3 (x : PT) : LO := .map true ks2 (encM v_TL (LV.int .u8) x)
structure TG where
 f_Tx : TX
 f_Key : A8 (Int)
 f_Mode : Int
 deriving DecidableEq, Inhabited
def c_TG (x : TG) : List LV := [.int .u8 x.f_Tx.f_Node, .int .u32 x.f_Tx.f_Boot, .int .u32 x.f_Tx.f_Num, .int .u8 x.f_Key.a0, .int .u8 x.f_Key.a1, .int .u8 x.f_Key.a2, .int .u8 x.f_Key.a3, .int .u8 x.f_Key.a4, .int .u8 x.f_Key.a5, .int .u8 x.f_Key.a6, .int .u8 x.f_Key.a7, .int .u8 x.f_Mode]
def v_TG (x : TG) : LV := .agg (c_TG x)
structure TO where
 f_Wounded : List (TX)
 f_Granted : List (TG)
 deriving DecidableEq, Inhabited
def c_TO (x : TO) : List LV := [.ds 3 (x.f_Wounded).length (rowF c_TX default x.f_Wounded), .ds 12 (x.f_Granted).length (rowF c_TG default x.f_Granted)]
def v_TO (x : TO) : LV := .agg (c_TO x)
abbrev ks4 : List CK := [.int .u8, .int .u8, .int .u8, .int .u8, .int .u8, .int .u8, .int .u8, .int .u8]
def oM5 (x : List (A8 (Int) × Bool)) : LO := .map true ks4 (encM (fun z_ : A8 (Int) => LV.agg [.int .u8 z_.a0, .int .u8 z_.a1, .int .u8 z_.a2, .int .u8 z_.a3, .int .u8 z_.a4, .int .u8 z_.a5, .int .u8 z_.a6, .int .u8 z_.a7]) LV.bool x)
abbrev E_ : Bool → Type | false => TX | true => TL
abbrev LE (bb : Bool) := List (E_ bb)
instance (bb : Bool) : Inhabited (E_ bb) := match bb with | false => inferInstanceAs (Inhabited TX) | true => inferInstanceAs (Inhabited TL)
def c_E_ : (bb : Bool) → E_ bb → List LV | false => c_TX | true => c_TL
def v_E_ : (bb : Bool) → E_ bb → LV | false => v_TX | true => v_TL
def z_ : Bool → Nat | false => 3 | true => 11
abbrev o4_ (V : List LV) (u : UT) (h w : PT) := a_ (rl_ (.var V)) (a_ (Eq.refl (oP1 u [] : LO)) (a_ (rl_ (oM3 h)) (a_ (rl_ (oM3 w)) tr)))
abbrev hk_ (x : LV × Pre × Upd) : Hint := { call := some x }
abbrev gE_ (bb : Bool) (l : LE bb) : LO := .gr (z_ bb) l.length (rowF (c_E_ bb) default l)
abbrev ng_ (bb : Bool) {l m : LE bb} (e : some l = some m) := LO.Sub.of_eq (nm_eq (gE_ bb) e)
theorem uS {bb : Bool} {l : LE bb} {us : UT} {hd wt : PT} : underH 5 [some (gE_ bb l), some (.var [.map 2, .map 3, .map 4]), some (oP1 us []), some (oM3 hd), some (oM3 wt)] := ⟨fun _ _ => by cases bb <;> rfl, rfl, uP, trivial, trivial, trivial⟩
theorem uT {us : UT} {hd wt : PT} : underH 4 [some (.var [.map 1, .map 2, .map 3]), some (oP1 us []), some (oM3 hd), some (oM3 wt)] := ⟨rfl, uP, trivial, trivial, trivial⟩
def q_f101 : Bool → Func | false => Tryz.f101 | true => Tryz.f127
def n53_65 : Bool → Nat | false => 53 | true => 65
def n101_127 : Bool → Nat | false => 101 | true => 127
def q_f117 : Bool → Func | false => Tryz.f117 | true => Tryz.f140
def n117_140 : Bool → Nat | false => 117 | true => 140
def q_f102 : Bool → Func | false => Tryz.f102 | true => Tryz.f128
def n102_128 : Bool → Nat | false => 102 | true => 128
def q_f103 : Bool → Func | false => Tryz.f103 | true => Tryz.f129
def n103_129 : Bool → Nat | false => 103 | true => 129
def n135_147 : Bool → Nat | false => 135 | true => 147
def q_f135 : Bool → Func | false => Tryz.f135 | true => Tryz.f147
def n121_142 : Bool → Nat | false => 121 | true => 142
def q_f121 : Bool → Func | false => Tryz.f121 | true => Tryz.f142
def n120_141 : Bool → Nat | false => 120 | true => 141
def q_f120 : Bool → Func | false => Tryz.f120 | true => Tryz.f141
def q_f104 : Bool → Func | false => Tryz.f104 | true => Tryz.f130
def n104_130 : Bool → Nat | false => 104 | true => 130
def q_f105 : Bool → Func | false => Tryz.f105 | true => Tryz.f131
def n105_131 : Bool → Nat | false => 105 | true => 131
def q_f106 : Bool → Func | false => Tryz.f106 | true => Tryz.f132
def n106_132 : Bool → Nat | false => 106 | true => 132
def q_f108 : Bool → Func | false => Tryz.f108 | true => Tryz.f134
def n108_134 : Bool → Nat | false => 108 | true => 134
def q_f107 : Bool → Func | false => Tryz.f107 | true => Tryz.f133
def n107_133 : Bool → Nat | false => 107 | true => 133
def q_f82 : Bool → Func | false => Tryz.f82 | true => Tryz.f114
def n82_114 : Bool → Nat | false => 82 | true => 114
theorem q_func101 : ∀ bb, Tryz.prog.funcs[(n101_127 bb)]? = some (q_f101 bb) | false => Tryz.func101 | true => Tryz.func127
theorem q_func117 : ∀ bb, Tryz.prog.funcs[(n117_140 bb)]? = some (q_f117 bb) | false => Tryz.func117 | true => Tryz.func140
theorem q_func102 : ∀ bb, Tryz.prog.funcs[(n102_128 bb)]? = some (q_f102 bb) | false => Tryz.func102 | true => Tryz.func128
theorem q_func103 : ∀ bb, Tryz.prog.funcs[(n103_129 bb)]? = some (q_f103 bb) | false => Tryz.func103 | true => Tryz.func129
theorem q_func135 : ∀ bb, Tryz.prog.funcs[(n135_147 bb)]? = some (q_f135 bb) | false => Tryz.func135 | true => Tryz.func147
theorem q_func121 : ∀ bb, Tryz.prog.funcs[(n121_142 bb)]? = some (q_f121 bb) | false => Tryz.func121 | true => Tryz.func142
theorem q_func120 : ∀ bb, Tryz.prog.funcs[(n120_141 bb)]? = some (q_f120 bb) | false => Tryz.func120 | true => Tryz.func141
theorem q_func104 : ∀ bb, Tryz.prog.funcs[(n104_130 bb)]? = some (q_f104 bb) | false => Tryz.func104 | true => Tryz.func130
theorem q_func105 : ∀ bb, Tryz.prog.funcs[(n105_131 bb)]? = some (q_f105 bb) | false => Tryz.func105 | true => Tryz.func131
theorem q_func106 : ∀ bb, Tryz.prog.funcs[(n106_132 bb)]? = some (q_f106 bb) | false => Tryz.func106 | true => Tryz.func132
theorem q_func108 : ∀ bb, Tryz.prog.funcs[(n108_134 bb)]? = some (q_f108 bb) | false => Tryz.func108 | true => Tryz.func134
theorem q_func107 : ∀ bb, Tryz.prog.funcs[(n107_133 bb)]? = some (q_f107 bb) | false => Tryz.func107 | true => Tryz.func133
theorem q_func82 : ∀ bb, Tryz.prog.funcs[(n82_114 bb)]? = some (q_f82 bb) | false => Tryz.func82 | true => Tryz.func114
theorem ext146 (l : List UInt8) (c : Int) : ExtTri Tryz.prog 146 [.str l, .int .u8 c] (.int .i64 (Lib.indexByte l c.toNat.toUInt8)) := ext_indexByte Tryz.func146 (by kernel_rfl) (by kernel_rfl) (by kernel_rfl) (by kernel_rfl) l c
def lock_New_v (r : (UT) × (PT) × (PT)) : LV := .ptr 0 0 0
def lock_New_up (r : (UT) × (PT) × (PT)) : Upd := [(0, some (.var [.map 1, .map 2, .map 3])), (1, some (oP1 r.1 [])), (2, some (oM3 r.2.1)), (3, some (oM3 r.2.2))]
def lock_New : Option ((UT) × (PT) × (PT)) :=
 some (([] : UT), ([] : PT), ([] : PT))
theorem lock_New_ok (r : (UT) × (PT) × (PT)) (h : lock_New = some r) : ∀ σ, Inj 4 σ → FnTri Tryz.prog 9 (renL σ []) (preOf σ 0 []) ((lock_New_v r).ren σ) (upOf σ (lock_New_up r)) := by
 refine fo_ Tryz.func9 trivial ⟨rfl, uP, trivial, trivial, trivial⟩ ?_
 intro w0 W μ0 hμ
 unfold lock_New at h
 obtain rfl := si_ h
 exact rr_ [3, 0, 1, 2] 16 [.reg [], .reg [], .x (.p (.pn 0))]
  (q16 (r1_ tr) (q2 (q24 (q1 (Eq.refl true)))) tr tr)
def pl_short_v (r : (List (TA))) : LV := .ds 15 (r).length (rowF c_TA default r)
def pl_short (l : List (TA)) : Option ((List (TA))) :=
 (some (if 60 < ((l).length : Int) then 60 else ((l).length : Int))).bind fun y1 =>
 if 0 ≤ (0 : Int) ∧ 0 ≤ y1 ∧ y1 ≤ (((l).length : Nat) : Int) then
 some (l.take y1.toNat)
 else none
theorem pl_short_ok (l : List (TA)) (r : (List (TA))) (h : pl_short l = some r) : ∀ σ, Inj 0 σ → FnTri Tryz.prog 12 (renL σ [.ds 15 (l).length (rowF c_TA default l)]) (preOf σ 0 []) ((pl_short_v r).ren σ) (upOf σ []) := by
 refine fo_ Tryz.func12 trivial trivial ?_
 intro w0 W μ0 hμ
 unfold pl_short at h
 obtain ⟨y1, e2, h⟩ := bs_ h
 obtain ⟨g3, h⟩ := gs_ h
 obtain rfl := si_ h
 exact rr_ [] 15 [.reg [(0, hv_ (.ds 15 (([] : List (TA))).length (rowF c_TA default ([] : List (TA)))))], .reg [(3, hv_ (.int .i64 y1)), (4, hv_ (.ds 15 ((l.take y1.toNat)).length (rowF c_TA default (l.take y1.toNat))))]]
  (q9 (q9 tr (le_nil_ds 15 (rowF c_TA default []))) (q2 (a_ (q3 tr (le_nm (LV.int .i64) e2)) (q5 (a_ (Eq.refl 15) g3) (le_take c_TA default 15 l y1.toNat (toN_le g3.2.2)) tr))))
theorem pl_short_tri (l : List (TA)) (r : (List (TA))) (h : pl_short l = some r) : FnTri Tryz.prog 12 [.ds 15 (l).length (rowF c_TA default l)] [] (pl_short_v r) [] := FnTri.none (pl_short_ok l r h) rfl rfl
def pl_far_v (r : (Bool)) : LV := .bool r
def pl_far_l0 (y2 : (List (TA))) : Nat → (Int) → Option ((Bool))
 | 0, _ => none
 | fuel + 1, t8 =>
  if ((decide (t8 < ((y2).length : Int))) : Bool) then
   if 0 ≤ t8 ∧ t8 < (((y2).length : Nat) : Int) then
   (some (((y2.getD t8.toNat default).f_Keys).length : Int)).bind fun y3 =>
   if ((decide (30 < y3)) : Bool) then
    some true
   else
    pl_far_l0 y2 fuel (IntKind.wrap .i64 (t8 + 1))
   else none
  else
   some false
def pl_far (l : List (TA)) : Option ((Bool)) :=
 (pl_short l).bind fun y2 =>
 pl_far_l0 y2 big 0
abbrev pl_far_K0 (y2 : (List (TA))) (t8 : Int) (r : (Bool)) : Prop := Kt_ w0 W μ0 Tryz.f10 0 0 (pl_far_v r) [] (kAt (bodyOf Tryz.f10) 0) (n_ 6 ((.ds 15 (y2).length (rowF c_TA default y2)) :: (.int .i64 ((y2).length : Int)) :: (.int .i64 t8) :: n_ 8 [])) []
theorem pl_far_l0_ok {w0 W μ0} (hμ : Lt_ μ0 0) (y2 : (List (TA))) : ∀ (fuel : Nat) (t8 : Int) (r : (Bool)), pl_far_l0 y2 fuel t8 = some r → pl_far_K0 w0 W μ0 y2 t8 r := by
 intro fuel
 induction fuel with
 | zero => intro t8 r h; rw [pl_far_l0] at h; cases h
 | succ fuel ih =>
  intro t8 r h
  rw [pl_far_l0] at h
  rcases it_ h with ⟨C1, h⟩ | ⟨C1, h⟩
  ·obtain ⟨G2, h⟩ := gs_ h
   obtain ⟨y3, E4, h⟩ := bs_ h
   rcases it_ h with ⟨C5, h⟩ | ⟨C5, h⟩
   ·obtain rfl := si_ h
    exact rr_ [] 28 [.go, .reg [(0, hT)], .reg [], .reg [(2, hv_ (.int .i64 y3)), (3, hT)], .reg []]
     (q1 (q11 (f_ C1 tr) (q13 (a_ (Eq.refl 15) G2) (le_ 15 15 rfl) (q18 (Eq.refl 15) (le_ 15 15 rfl) (Eq.refl 0))) (l_ 14 15 rfl (a_ (a_ tr (a_ (le_nm (LV.int .i64) E4) tr)) (f_ C5 tr))) (q19 tr)))
   ·exact rt_ hμ [] 29 [.go, .reg [(0, hT)], .reg [], .reg [(2, hv_ (.int .i64 y3)), (3, hF)], .reg []]
     (q11 (f_ C1 tr) (q13 (a_ (Eq.refl 15) G2) (le_ 15 15 rfl) (q18 (Eq.refl 15) (le_ 15 15 rfl) (Eq.refl 0))) (l_ 14 15 rfl (a_ (a_ tr (a_ (le_nm (LV.int .i64) E4) tr)) (f_ C5 tr))) (q14 tr)) (ih _ r h) trivial
  ·obtain rfl := si_ h
   exact rr_ [] 19 [.go, .reg [(0, hF)], .reg []]
    (q9 (f_ C1 tr) (r1_ tr))
theorem pl_far_ok (l : List (TA)) (r : (Bool)) (h : pl_far l = some r) : ∀ σ, Inj 0 σ → FnTri Tryz.prog 10 (renL σ [.ds 15 (l).length (rowF c_TA default l)]) (preOf σ 0 []) ((pl_far_v r).ren σ) (upOf σ []) := by
 refine fo_ Tryz.func10 trivial trivial ?_
 intro w0 W μ0 hμ
 unfold pl_far at h
 obtain ⟨y2, e1, h⟩ := bs_ h
 exact rt_ hμ [] 18 [.reg [], .reg [(1, hC (pl_short_v y2))]]
  (q27 tr (r1_ (c_ (pl_short_tri l y2 e1) (r2_ tr)))) (pl_far_l0_ok hμ y2 big _ r h) trivial
theorem pl_far_tri (l : List (TA)) (r : (Bool)) (h : pl_far l = some r) : FnTri Tryz.prog 10 [.ds 15 (l).length (rowF c_TA default l)] [] (pl_far_v r) [] := FnTri.none (pl_far_ok l r h) rfl rfl
def pl_stamp_v (r : (TS)) : LV := v_TS r
def pl_stamp (x_n : Int) : Option ((TS)) :=
 (some (TS.mk x_n (TX.mk 0 1 (IntKind.wrap .u32 (x_n + 1))))).bind fun y1 =>
 some y1
theorem pl_stamp_ok (x_n : Int) (r : (TS)) (h : pl_stamp x_n = some r) : ∀ σ, Inj 0 σ → FnTri Tryz.prog 34 (renL σ [.int .u32 x_n]) (preOf σ 0 []) ((pl_stamp_v r).ren σ) (upOf σ []) := by
 refine fo_ Tryz.func34 trivial trivial ?_
 intro w0 W μ0 hμ
 unfold pl_stamp at h
 obtain ⟨y1, e2, h⟩ := bs_ h
 obtain rfl := si_ h
 exact rr_ [] 15 [.reg [], .reg [(4, hv_ (v_TS y1))]]
  (q22 (q27 tr (q2 (q0 (q1 (Eq.refl true)) (q3 (Eq.refl true) (le_nm v_TS e2)) (q1 (q8 (Eq.refl 4) (le_ 4 4 rfl) (Eq.refl 0))) tr))) (le_ 4 4 rfl))
theorem pl_stamp_tri (x_n : Int) (r : (TS)) (h : pl_stamp x_n = some r) : FnTri Tryz.prog 34 [.int .u32 x_n] [] (pl_stamp_v r) [] := FnTri.none (pl_stamp_ok x_n r h) rfl rfl
def lT_ok_v (r : Unit) : LV := .bool true
def lT_ok_up (hh ww : PT) (r : Unit) : Upd := [(0, some (.var [.map 1, .map 2, .map 3])), (2, some (oM3 hh)), (3, some (oM3 ww))]
def lT_ok_objs (uu : UT) (hh ww : PT) : List LO := [.var [.map 1, .map 2, .map 3], .mapR true ks0 (encM v_TX (fun _ => LV.any) uu), oM3 hh, oM3 ww]
def lT_ok (uu : UT) (hh ww : PT) : Option (Unit) :=
 some ()
theorem lT_ok_ok (uu : UT) (hh ww : PT) (r : Unit) (h : lT_ok uu hh ww = some r) : ∀ σ, Inj 4 σ → FnTri Tryz.prog 36 (renL σ [.ptr 0 0 0]) (preOf σ 0 (lT_ok_objs uu hh ww)) ((lT_ok_v r).ren σ) (upOf σ (lT_ok_up hh ww r)) := by
 refine fo_ Tryz.func36 ⟨rfl, trivial, trivial, trivial, trivial⟩ ⟨rfl, trivial, trivial, trivial⟩ ?_
 intro w0 W μ0 hμ
 unfold lT_ok at h
 obtain rfl := si_ h
 exact rr_ [] 15 [.reg [], .reg []]
  (q28 (q23 (l_ 0 3 rfl (r1_ (r2_ tr)))))
def ids_isCount_v (r : (Bool)) : LV := .bool r
def ids_isCount (x_n : Int) : Option ((Bool)) :=
 some (decide ((IntKind.wrap .u32 (x_n - 1)) < 2147483647))
theorem ids_isCount_ok (x_n : Int) (r : (Bool)) (h : ids_isCount x_n = some r) : ∀ σ, Inj 0 σ → FnTri Tryz.prog 87 (renL σ [.int .u32 x_n]) (preOf σ 0 []) ((ids_isCount_v r).ren σ) (upOf σ []) := by
 refine fo_ Tryz.func87 trivial trivial ?_
 intro w0 W μ0 hμ
 unfold ids_isCount at h
 obtain rfl := si_ h
 exact rr_ [] 15 [.reg [], .reg []]
  (q28 (r4_ tr))
theorem ids_isCount_tri (x_n : Int) (r : (Bool)) (h : ids_isCount x_n = some r) : FnTri Tryz.prog 87 [.int .u32 x_n] [] (ids_isCount_v r) [] := FnTri.none (ids_isCount_ok x_n r h) rfl rfl
def ids_TxMay_v (r : (Bool)) : LV := .bool r
def ids_TxMay (t : TX) : Option ((Bool)) :=
 if ((decide (t.f_Node < 8)) : Bool) then
  (ids_isCount t.f_Boot).bind fun y3 =>
  if (y3 : Bool) then
   (ids_isCount t.f_Num).bind fun y6 =>
   some y6
  else
   some false
 else
  some false
theorem ids_TxMay_ok (t : TX) (r : (Bool)) (h : ids_TxMay t = some r) : ∀ σ, Inj 0 σ → FnTri Tryz.prog 60 (renL σ [v_TX t]) (preOf σ 0 []) ((ids_TxMay_v r).ren σ) (upOf σ []) := by
 refine fo_ Tryz.func60 trivial trivial ?_
 intro w0 W μ0 hμ
 unfold ids_TxMay at h
 rcases it_ h with ⟨c1, h⟩ | ⟨c1, h⟩
 ·obtain ⟨y3, e2, h⟩ := bs_ h
  rcases it_ h with ⟨c4, h⟩ | ⟨c4, h⟩
  ·obtain ⟨y6, e5, h⟩ := bs_ h
   obtain rfl := si_ h
   exact rr_ [] 15 [.reg [], .reg [(3, hT), (6, hC (ids_isCount_v y3)), (8, hT), (11, hC (ids_isCount_v y6))]]
    (q20 (l_ 0 3 rfl (r1_ (f_ c1 (r1_ (l_ 1 3 rfl (c_ (ids_isCount_tri t.f_Boot y3 e2) (r1_ (f_ c4 (r1_ (l_ 2 3 rfl (c_ (ids_isCount_tri t.f_Num y6 e5) (r2_ tr)))))))))))))
  ·obtain rfl := si_ h
   exact rr_ [] 15 [.reg [], .reg [(3, hT), (6, hC (ids_isCount_v y3)), (8, hF)]]
    (q20 (l_ 0 3 rfl (r1_ (f_ c1 (r1_ (l_ 1 3 rfl (c_ (ids_isCount_tri t.f_Boot y3 e2) (r1_ (f_ c4 (a_ tr (t2_ (r2_ tr))))))))))))
 ·obtain rfl := si_ h
  exact rr_ [] 15 [.reg [], .reg [(3, hF)]]
   (q20 (l_ 0 3 rfl (r1_ (f_ c1 (a_ tr (t2_ (r2_ (a_ tr (t2_ (r2_ tr))))))))))
theorem ids_TxMay_tri (t : TX) (r : (Bool)) (h : ids_TxMay t = some r) : FnTri Tryz.prog 60 [v_TX t] [] (ids_TxMay_v r) [] := FnTri.none (ids_TxMay_ok t r h) rfl rfl
def ids_StampMay_v (r : (Bool)) : LV := .bool r
def ids_StampMay (s : TS) : Option ((Bool)) :=
 if ((decide (s.f_Time ≤ 2147483647)) : Bool) then
  (ids_TxMay s.f_Tx).bind fun y3 =>
  some y3
 else
  some false
theorem ids_StampMay_ok (s : TS) (r : (Bool)) (h : ids_StampMay s = some r) : ∀ σ, Inj 0 σ → FnTri Tryz.prog 57 (renL σ [v_TS s]) (preOf σ 0 []) ((ids_StampMay_v r).ren σ) (upOf σ []) := by
 refine fo_ Tryz.func57 trivial trivial ?_
 intro w0 W μ0 hμ
 unfold ids_StampMay at h
 rcases it_ h with ⟨c1, h⟩ | ⟨c1, h⟩
 ·obtain ⟨y3, e2, h⟩ := bs_ h
  obtain rfl := si_ h
  exact rr_ [] 15 [.reg [], .reg [(3, hT), (6, hC (ids_TxMay_v y3))]]
   (q20 (l_ 0 4 rfl (r1_ (f_ c1 (r1_ (m_ 4 4 rfl (c_ (ids_TxMay_tri s.f_Tx y3 e2) (r2_ tr))))))))
 ·obtain rfl := si_ h
  exact rr_ [] 15 [.reg [], .reg [(3, hF)]]
   (q20 (l_ 0 4 rfl (r1_ (f_ c1 (a_ tr (t2_ (r2_ tr)))))))
theorem ids_StampMay_tri (s : TS) (r : (Bool)) (h : ids_StampMay s = some r) : FnTri Tryz.prog 57 [v_TS s] [] (ids_StampMay_v r) [] := FnTri.none (ids_StampMay_ok s r h) rfl rfl
def strings_trimRightByte_v (r : (List UInt8)) : LV := .str r
def strings_trimRightByte_l0 (c : Int) : Nat → (List UInt8) → Option ((List UInt8))
 | 0, _ => none
 | fuel + 1, s2 =>
  if ((decide (0 < ((s2).length : Int))) : Bool) then
   if 0 ≤ (IntKind.wrap .i64 (((s2).length : Int) - 1)) ∧ (IntKind.wrap .i64 (((s2).length : Int) - 1)) < (((s2).length : Nat) : Int) then
   (some ((s2.getD ((IntKind.wrap .i64 (((s2).length : Int) - 1))).toNat 0).toNat : Int)).bind fun y3 =>
   if ((y3 == c) : Bool) then
    if 0 ≤ (0 : Int) ∧ (0 : Int) ≤ (IntKind.wrap .i64 (((s2).length : Int) - 1)) ∧ (IntKind.wrap .i64 (((s2).length : Int) - 1)) ≤ (((s2).length : Nat) : Int) then
    strings_trimRightByte_l0 c fuel ((s2.drop 0).take (((IntKind.wrap .i64 (((s2).length : Int) - 1))).toNat - 0))
    else none
   else
    some s2
   else none
  else
   some s2
def strings_trimRightByte (s : List UInt8) (c : Int) : Option ((List UInt8)) :=
 strings_trimRightByte_l0 c big s
abbrev strings_trimRightByte_K0 (c : Int) (s2 : List UInt8) (r : (List UInt8)) : Prop := Kt_ w0 W μ0 Tryz.f122 0 0 (strings_trimRightByte_v r) [] (kAt (bodyOf Tryz.f122) 0) ((.str s2) :: (.int .u8 c) :: n_ 21 []) []
theorem strings_trimRightByte_l0_ok {w0 W μ0} (hμ : Lt_ μ0 0) (c : Int) : ∀ (fuel : Nat) (s2 : List UInt8) (r : (List UInt8)), strings_trimRightByte_l0 c fuel s2 = some r → strings_trimRightByte_K0 w0 W μ0 c s2 r := by
 intro fuel
 induction fuel with
 | zero => intro s2 r h; rw [strings_trimRightByte_l0] at h; cases h
 | succ fuel ih =>
  intro s2 r h
  rw [strings_trimRightByte_l0] at h
  rcases it_ h with ⟨C1, h⟩ | ⟨C1, h⟩
  ·obtain ⟨G2, h⟩ := gs_ h
   obtain ⟨y3, E4, h⟩ := bs_ h
   rcases it_ h with ⟨C5, h⟩ | ⟨C5, h⟩
   ·obtain ⟨G6, h⟩ := gs_ h
    exact rt_ hμ [] 20 [.go, .reg [(3, hT), (8, hv_ (.int .u8 y3)), (11, hT)], .reg []]
     (q3 (q2 (f_ C1 (r4_ (a_ (a_ G2 (a_ (le_nm (LV.int .u8) E4) tr)) (r2_ (f_ C5 tr)))))) (r4_ (q4 G6 tr))) (ih _ r h) trivial
   ·obtain rfl := si_ h
    exact rr_ [] 19 [.go, .reg [(3, hT), (8, hv_ (.int .u8 y3)), (11, hF)], .reg []]
     (q9 (q2 (f_ C1 (r4_ (a_ (a_ G2 (a_ (le_nm (LV.int .u8) E4) tr)) (r2_ (f_ C5 tr)))))) (r2_ tr))
  ·obtain rfl := si_ h
   exact rr_ [] 19 [.go, .reg [(3, hF)], .reg []]
    (q9 (q2 (f_ C1 (a_ tr (t2_ (t4_ (r1_ tr)))))) (r2_ tr))
theorem strings_trimRightByte_ok (s : List UInt8) (c : Int) (r : (List UInt8)) (h : strings_trimRightByte s c = some r) : ∀ σ, Inj 0 σ → FnTri Tryz.prog 122 (renL σ [.str s, .int .u8 c]) (preOf σ 0 []) ((strings_trimRightByte_v r).ren σ) (upOf σ []) := by
 refine fo_ Tryz.func122 trivial trivial ?_
 intro w0 W μ0 hμ
 unfold strings_trimRightByte at h
 exact rt_ hμ [] 15 [.reg []]
  (q19 tr) (strings_trimRightByte_l0_ok hμ c big _ r h) trivial
theorem strings_trimRightByte_tri (s : List UInt8) (c : Int) (r : (List UInt8)) (h : strings_trimRightByte s c = some r) : FnTri Tryz.prog 122 [.str s, .int .u8 c] [] (strings_trimRightByte_v r) [] := FnTri.none (strings_trimRightByte_ok s c r h) rfl rfl
def strings_TrimRight_v (r : (List UInt8)) : LV := .str r
def strings_TrimRight (s : List UInt8) : Option ((List UInt8)) :=
 if ((s == []) : Bool) then
  some s
 else
  (strings_trimRightByte s 0).bind fun y3 =>
  some y3
theorem strings_TrimRight_ok (s : List UInt8) (r : (List UInt8)) (h : strings_TrimRight s = some r) : ∀ σ, Inj 0 σ → FnTri Tryz.prog 111 (renL σ [.str s, .str ([0] : List UInt8)]) (preOf σ 0 []) ((strings_TrimRight_v r).ren σ) (upOf σ []) := by
 refine fo_ Tryz.func111 trivial trivial ?_
 intro w0 W μ0 hμ
 unfold strings_TrimRight at h
 rcases it_ h with ⟨c1, h⟩ | ⟨c1, h⟩
 ·obtain rfl := si_ h
  exact rr_ [] 20 [.reg [], .reg [(2, hT)], .reg []]
   (q16 (r1_ tr) (r2_ (f_ c1 (t2_ (r1_ tr)))) (r2_ tr) tr)
 ·obtain ⟨y3, e2, h⟩ := bs_ h
  obtain rfl := si_ h
  exact rr_ [] 26 [.reg [], .reg [(2, hF)], .reg [], .reg [(3, hC (strings_trimRightByte_v y3))]]
   (q1 (q11 (r1_ tr) (r2_ (f_ c1 (r1_ (r2_ tr)))) (r4_ (q24 (q1 (a_ (lei_ 0 0 rfl) (lti_ 0 1 rfl))))) (q14 (a_ (q1 (a_ (lei_ 0 0 rfl) (lti_ 0 1 rfl))) (c_ (strings_trimRightByte_tri s 0 y3 e2) (r1_ tr))))))
theorem strings_TrimRight_tri (s : List UInt8) (r : (List UInt8)) (h : strings_TrimRight s = some r) : FnTri Tryz.prog 111 [.str s, .str ([0] : List UInt8)] [] (strings_TrimRight_v r) [] := FnTri.none (strings_TrimRight_ok s r h) rfl rfl
def is_IndexByte_v (r : (Int)) : LV := .int .i64 r
def is_IndexByte (s : List UInt8) (c : Int) : Option ((Int)) :=
 some (Lib.indexByte s (c).toNat.toUInt8)
theorem is_IndexByte_ok (s : List UInt8) (c : Int) (r : (Int)) (h : is_IndexByte s c = some r) : ∀ σ, Inj 0 σ → FnTri Tryz.prog 139 (renL σ [.str s, .int .u8 c]) (preOf σ 0 []) ((is_IndexByte_v r).ren σ) (upOf σ []) := by
 refine fo_ Tryz.func139 trivial trivial ?_
 intro w0 W μ0 hμ
 unfold is_IndexByte at h
 obtain rfl := si_ h
 exact rr_ [] 15 [.reg [], .reg [(2, { ext := some (.int .i64 (Lib.indexByte s (c).toNat.toUInt8)) })]]
  (q28 (r2_ (q4 (ext146 s c) tr)))
theorem is_IndexByte_tri (s : List UInt8) (c : Int) (r : (Int)) (h : is_IndexByte s c = some r) : FnTri Tryz.prog 139 [.str s, .int .u8 c] [] (is_IndexByte_v r) [] := FnTri.none (is_IndexByte_ok s c r h) rfl rfl
def strings_IndexByte_v (r : (Int)) : LV := .int .i64 r
def strings_IndexByte (s : List UInt8) (c : Int) : Option ((Int)) :=
 (is_IndexByte s c).bind fun y2 =>
 some y2
theorem strings_IndexByte_ok (s : List UInt8) (c : Int) (r : (Int)) (h : strings_IndexByte s c = some r) : ∀ σ, Inj 0 σ → FnTri Tryz.prog 126 (renL σ [.str s, .int .u8 c]) (preOf σ 0 []) ((strings_IndexByte_v r).ren σ) (upOf σ []) := by
 refine fo_ Tryz.func126 trivial trivial ?_
 intro w0 W μ0 hμ
 unfold strings_IndexByte at h
 obtain ⟨y2, e1, h⟩ := bs_ h
 obtain rfl := si_ h
 exact rr_ [] 15 [.reg [], .reg [(2, hC (is_IndexByte_v y2))]]
  (q28 (r2_ (c_ (is_IndexByte_tri s c y2 e1) (r1_ tr))))
theorem strings_IndexByte_tri (s : List UInt8) (c : Int) (r : (Int)) (h : strings_IndexByte s c = some r) : FnTri Tryz.prog 126 [.str s, .int .u8 c] [] (strings_IndexByte_v r) [] := FnTri.none (strings_IndexByte_ok s c r h) rfl rfl
def ids_KeyOf_v (r : (A8 (Int)) × (Int)) : LV := .tup [.agg [.int .u8 r.1.a0, .int .u8 r.1.a1, .int .u8 r.1.a2, .int .u8 r.1.a3, .int .u8 r.1.a4, .int .u8 r.1.a5, .int .u8 r.1.a6, .int .u8 r.1.a7], .int .i64 r.2]
def ids_KeyOf (s : List UInt8) : Option ((A8 (Int)) × (Int)) :=
 if ((s == []) : Bool) then
  some ((A8.mk 0 0 0 0 0 0 0 0), 1)
 else
  if ((decide (8 < ((s).length : Int))) : Bool) then
   some ((A8.mk 0 0 0 0 0 0 0 0), 1)
  else
   (strings_IndexByte s 0).bind fun y4 =>
   if ((decide (0 ≤ y4)) : Bool) then
    some ((A8.mk 0 0 0 0 0 0 0 0), 1)
   else
    some ((A8.mk (if 0 < (s).length then ((s.getD 0 0).toNat : Int) else 0) (if 1 < (s).length then ((s.getD 1 0).toNat : Int) else 0) (if 2 < (s).length then ((s.getD 2 0).toNat : Int) else 0) (if 3 < (s).length then ((s.getD 3 0).toNat : Int) else 0) (if 4 < (s).length then ((s.getD 4 0).toNat : Int) else 0) (if 5 < (s).length then ((s.getD 5 0).toNat : Int) else 0) (if 6 < (s).length then ((s.getD 6 0).toNat : Int) else 0) (if 7 < (s).length then ((s.getD 7 0).toNat : Int) else 0)), 0)
theorem ids_KeyOf_ok (s : List UInt8) (r : (A8 (Int)) × (Int)) (h : ids_KeyOf s = some r) : ∀ σ, Inj 0 σ → FnTri Tryz.prog 112 (renL σ [.str s]) (preOf σ 0 []) ((ids_KeyOf_v r).ren σ) (upOf σ []) := by
 refine fo_ Tryz.func112 trivial trivial ?_
 intro w0 W μ0 hμ
 unfold ids_KeyOf at h
 rcases it_ h with ⟨c1, h⟩ | ⟨c1, h⟩
 ·obtain rfl := si_ h
  exact rr_ [] 23 [.reg [], .reg [], .reg [(2, hT)], .reg []]
   (q22 (q7 (r2_ tr) tr (r2_ (f_ c1 (a_ tr (t2_ (r2_ (a_ tr (t2_ (r1_ tr)))))))) (q1 (m_ 8 8 rfl (a_ (a_ (a_ (Eq.refl 8) (a_ (le_ 8 8 rfl) (Eq.refl 0))) tr) (r1_ tr))))) (le_ 8 8 rfl))
 ·rcases it_ h with ⟨c2, h⟩ | ⟨c2, h⟩
  ·obtain rfl := si_ h
   exact rr_ [] 23 [.reg [], .reg [], .reg [(2, hF), (7, hT)], .reg []]
    (q22 (q7 (r2_ tr) tr (r2_ (f_ c1 (r4_ (f_ c2 (a_ tr (t2_ (r1_ tr))))))) (q1 (m_ 8 8 rfl (a_ (a_ (a_ (Eq.refl 8) (a_ (le_ 8 8 rfl) (Eq.refl 0))) tr) (r1_ tr))))) (le_ 8 8 rfl))
  ·obtain ⟨y4, e3, h⟩ := bs_ h
   rcases it_ h with ⟨c5, h⟩ | ⟨c5, h⟩
   ·obtain rfl := si_ h
    exact rr_ [] 23 [.reg [], .reg [], .reg [(2, hF), (7, hF), (9, hC (strings_IndexByte_v y4)), (11, hT)], .reg []]
     (q22 (q7 (r2_ tr) tr (r2_ (f_ c1 (r4_ (f_ c2 (r1_ (c_ (strings_IndexByte_tri s 0 y4 e3) (r1_ (f_ c5 tr)))))))) (q1 (m_ 8 8 rfl (a_ (a_ (a_ (Eq.refl 8) (a_ (le_ 8 8 rfl) (Eq.refl 0))) tr) (r1_ tr))))) (le_ 8 8 rfl))
   ·obtain rfl := si_ h
    exact rr_ [] 27 [.reg [], .reg [], .reg [(2, hF), (7, hF), (9, hC (strings_IndexByte_v y4)), (11, hF)], .reg [], .reg []]
     (q22 (q7 (r2_ tr) tr (r2_ (f_ c1 (r4_ (f_ c2 (r1_ (c_ (strings_IndexByte_tri s 0 y4 e3) (r1_ (f_ c5 tr)))))))) (q3 (q4 (q8 (lei_ 0 0 rfl) (lei_ 0 8 rfl) (lei_ 8 8 rfl)) (q6 (q0 (Eq.refl 1) (Eq.refl 0) (le_ 8 8 rfl) (Eq.refl true)))) (m_ 8 8 rfl (a_ (a_ (a_ (Eq.refl 8) (a_ (le_ 8 8 rfl) (Eq.refl 0))) tr) (r1_ tr))))) (le_ 8 8 rfl))
theorem ids_KeyOf_tri (s : List UInt8) (r : (A8 (Int)) × (Int)) (h : ids_KeyOf s = some r) : FnTri Tryz.prog 112 [.str s] [] (ids_KeyOf_v r) [] := FnTri.none (ids_KeyOf_ok s r h) rfl rfl
def ids_Name_v (r : (List UInt8) × (Bool)) : LV := .tup [.str r.1, .bool r.2]
def ids_Name_c4 : Option ((List UInt8) × (Bool)) :=
 some ([], false)
def ids_Name_c5 (y2 : (List UInt8)) : Option ((List UInt8) × (Bool)) :=
 some (y2, true)
def ids_Name (x_k : A8 (Int)) : Option ((List UInt8) × (Bool)) :=
 (strings_TrimRight (strI (([x_k.a0, x_k.a1, x_k.a2, x_k.a3, x_k.a4, x_k.a5, x_k.a6, x_k.a7] : List Int).take 8))).bind fun y2 =>
 (ids_KeyOf y2).bind fun y4 =>
 if ((y4.2 != 0) : Bool) then
  some ([], false)
 else
  if ((!decide (y4.1 = x_k)) : Bool) then
   ids_Name_c4
  else
   ids_Name_c5 y2
abbrev ids_Name_K1000004 (r : (List UInt8) × (Bool)) : Prop := Kt_ w0 W μ0 Tryz.f85 0 0 (ids_Name_v r) [] (kAtR (bodyOf Tryz.f85) 4) (n_ 23 []) []
abbrev ids_Name_K1000005 (y2 : (List UInt8)) (r : (List UInt8) × (Bool)) : Prop := Kt_ w0 W μ0 Tryz.f85 0 0 (ids_Name_v r) [] (kAtR (bodyOf Tryz.f85) 5) (n_ 4 ((.str y2) :: n_ 18 [])) []
theorem ids_Name_c4_ok {w0 W μ0} (hμ : Lt_ μ0 0) (r : (List UInt8) × (Bool)) (h : ids_Name_c4 = some r) : ids_Name_K1000004 w0 W μ0 r := by
 unfold ids_Name_c4 at h
 obtain rfl := si_ h
 exact rr_ [] 11 [.reg []]
  (q6 (r2_ tr))
theorem ids_Name_c5_ok {w0 W μ0} (hμ : Lt_ μ0 0) (y2 : (List UInt8)) (r : (List UInt8) × (Bool)) (h : ids_Name_c5 y2 = some r) : ids_Name_K1000005 w0 W μ0 y2 r := by
 unfold ids_Name_c5 at h
 obtain rfl := si_ h
 exact rr_ [] 11 [.reg []]
  (q6 (q2 tr))
theorem ids_Name_ok (x_k : A8 (Int)) (r : (List UInt8) × (Bool)) (h : ids_Name x_k = some r) : ∀ σ, Inj 0 σ → FnTri Tryz.prog 85 (renL σ [.agg [.int .u8 x_k.a0, .int .u8 x_k.a1, .int .u8 x_k.a2, .int .u8 x_k.a3, .int .u8 x_k.a4, .int .u8 x_k.a5, .int .u8 x_k.a6, .int .u8 x_k.a7]]) (preOf σ 0 []) ((ids_Name_v r).ren σ) (upOf σ []) := by
 refine fo_ Tryz.func85 trivial trivial ?_
 intro w0 W μ0 hμ
 unfold ids_Name at h
 obtain ⟨y2, e1, h⟩ := bs_ h
 obtain ⟨y4, e3, h⟩ := bs_ h
 rcases it_ h with ⟨c5, h⟩ | ⟨c5, h⟩
 ·obtain rfl := si_ h
  exact rr_ [] 26 [.reg [], .reg [(1, { v := some (.str (strI (([x_k.a0, x_k.a1, x_k.a2, x_k.a3, x_k.a4, x_k.a5, x_k.a6, x_k.a7] : List Int).take 8))) }), (2, hC (strings_TrimRight_v y2))], .reg [(1, hC (ids_KeyOf_v y4))], .reg [(2, hT)], .reg []]
   (q1 (q11 (q2 tr) (q0 (q1 (q8 (lei_ 0 0 rfl) (lei_ 0 8 rfl) (lei_ 8 8 rfl))) (q3 (arr_ob [x_k.a0, x_k.a1, x_k.a2, x_k.a3, x_k.a4, x_k.a5, x_k.a6, x_k.a7] 8 8 (le_ 8 8 rfl) rfl) (le_arr [x_k.a0, x_k.a1, x_k.a2, x_k.a3, x_k.a4, x_k.a5, x_k.a6, x_k.a7] 8 8 (le_ 8 8 rfl) rfl)) (q6 (strings_TrimRight_tri (strI (([x_k.a0, x_k.a1, x_k.a2, x_k.a3, x_k.a4, x_k.a5, x_k.a6, x_k.a7] : List Int).take 8)) y2 e1)) (r1_ tr)) (c_ (ids_KeyOf_tri y2 y4 e3) (r4_ (a_ (a_ (a_ (Eq.refl 8) (a_ (le_ 8 8 rfl) (Eq.refl 0))) tr) (r1_ tr)))) (q3 (r2_ (f_ c5 (a_ tr (t2_ (r1_ tr))))) (r2_ tr))))
 ·rcases it_ h with ⟨c6, h⟩ | ⟨c6, h⟩
  ·exact rt_ hμ [] 24 [.reg [], .reg [(1, { v := some (.str (strI (([x_k.a0, x_k.a1, x_k.a2, x_k.a3, x_k.a4, x_k.a5, x_k.a6, x_k.a7] : List Int).take 8))) }), (2, hC (strings_TrimRight_v y2))], .reg [(1, hC (ids_KeyOf_v y4))], .reg [(2, hF), (5, hv_ (.bool (!decide (y4.1 = x_k)))), (6, hT)]]
    (q11 (q2 tr) (q0 (q1 (q8 (lei_ 0 0 rfl) (lei_ 0 8 rfl) (lei_ 8 8 rfl))) (q3 (arr_ob [x_k.a0, x_k.a1, x_k.a2, x_k.a3, x_k.a4, x_k.a5, x_k.a6, x_k.a7] 8 8 (le_ 8 8 rfl) rfl) (le_arr [x_k.a0, x_k.a1, x_k.a2, x_k.a3, x_k.a4, x_k.a5, x_k.a6, x_k.a7] 8 8 (le_ 8 8 rfl) rfl)) (q6 (strings_TrimRight_tri (strI (([x_k.a0, x_k.a1, x_k.a2, x_k.a3, x_k.a4, x_k.a5, x_k.a6, x_k.a7] : List Int).take 8)) y2 e1)) (r1_ tr)) (c_ (ids_KeyOf_tri y2 y4 e3) (r4_ (a_ (a_ (a_ (Eq.refl 8) (a_ (le_ 8 8 rfl) (Eq.refl 0))) tr) (r1_ tr)))) (q14 (f_ c5 (m_ 8 8 rfl (m_ 8 8 rfl (a_ (a_ tr (a_ (leB (congrArg not ((k_arr8 .u8) y4.1 x_k))) tr)) (f_ c6 tr))))))) (ids_Name_c4_ok hμ r h) trivial
  ·exact rt_ hμ [] 25 [.reg [], .reg [(1, { v := some (.str (strI (([x_k.a0, x_k.a1, x_k.a2, x_k.a3, x_k.a4, x_k.a5, x_k.a6, x_k.a7] : List Int).take 8))) }), (2, hC (strings_TrimRight_v y2))], .reg [(1, hC (ids_KeyOf_v y4))], .reg [(2, hF), (5, hv_ (.bool (!decide (y4.1 = x_k)))), (6, hF)]]
    (q11 (q2 tr) (q0 (q1 (q8 (lei_ 0 0 rfl) (lei_ 0 8 rfl) (lei_ 8 8 rfl))) (q3 (arr_ob [x_k.a0, x_k.a1, x_k.a2, x_k.a3, x_k.a4, x_k.a5, x_k.a6, x_k.a7] 8 8 (le_ 8 8 rfl) rfl) (le_arr [x_k.a0, x_k.a1, x_k.a2, x_k.a3, x_k.a4, x_k.a5, x_k.a6, x_k.a7] 8 8 (le_ 8 8 rfl) rfl)) (q6 (strings_TrimRight_tri (strI (([x_k.a0, x_k.a1, x_k.a2, x_k.a3, x_k.a4, x_k.a5, x_k.a6, x_k.a7] : List Int).take 8)) y2 e1)) (r1_ tr)) (c_ (ids_KeyOf_tri y2 y4 e3) (r4_ (a_ (a_ (a_ (Eq.refl 8) (a_ (le_ 8 8 rfl) (Eq.refl 0))) tr) (r1_ tr)))) (q14 (f_ c5 (m_ 8 8 rfl (m_ 8 8 rfl (a_ (a_ tr (a_ (leB (congrArg not ((k_arr8 .u8) y4.1 x_k))) tr)) (f_ c6 tr))))))) (ids_Name_c5_ok hμ y2 r h) trivial
theorem ids_Name_tri (x_k : A8 (Int)) (r : (List UInt8) × (Bool)) (h : ids_Name x_k = some r) : FnTri Tryz.prog 85 [.agg [.int .u8 x_k.a0, .int .u8 x_k.a1, .int .u8 x_k.a2, .int .u8 x_k.a3, .int .u8 x_k.a4, .int .u8 x_k.a5, .int .u8 x_k.a6, .int .u8 x_k.a7]] [] (ids_Name_v r) [] := FnTri.none (ids_Name_ok x_k r h) rfl rfl
def lock_keyMay_v (r : (Bool)) : LV := .bool r
def lock_keyMay (x_k : A8 (Int)) : Option ((Bool)) :=
 (ids_Name x_k).bind fun y2 =>
 some y2.2
theorem lock_keyMay_ok (x_k : A8 (Int)) (r : (Bool)) (h : lock_keyMay x_k = some r) : ∀ σ, Inj 0 σ → FnTri Tryz.prog 58 (renL σ [.agg [.int .u8 x_k.a0, .int .u8 x_k.a1, .int .u8 x_k.a2, .int .u8 x_k.a3, .int .u8 x_k.a4, .int .u8 x_k.a5, .int .u8 x_k.a6, .int .u8 x_k.a7]]) (preOf σ 0 []) ((lock_keyMay_v r).ren σ) (upOf σ []) := by
 refine fo_ Tryz.func58 trivial trivial ?_
 intro w0 W μ0 hμ
 unfold lock_keyMay at h
 obtain ⟨y2, e1, h⟩ := bs_ h
 obtain rfl := si_ h
 exact rr_ [] 18 [.reg [], .reg [(1, hC (ids_Name_v y2))], .reg []]
  (q16 (r2_ tr) (m_ 8 8 rfl (c_ (ids_Name_tri x_k y2 e1) (r1_ (r4_ tr)))) (r2_ tr) tr)
theorem lock_keyMay_tri (x_k : A8 (Int)) (r : (Bool)) (h : lock_keyMay x_k = some r) : FnTri Tryz.prog 58 [.agg [.int .u8 x_k.a0, .int .u8 x_k.a1, .int .u8 x_k.a2, .int .u8 x_k.a3, .int .u8 x_k.a4, .int .u8 x_k.a5, .int .u8 x_k.a6, .int .u8 x_k.a7]] [] (lock_keyMay_v r) [] := FnTri.none (lock_keyMay_ok x_k r h) rfl rfl
def lP_at_v (r : (Bag (TX))) : LV := .gs 1 (r).length
def lP_at_up (p : PT) (r : (Bag (TX))) : Upd := [(0, some (oM3 p)), (1, some (.bag 3 (Bag.map c_TX r)))]
def lP_at_objs (p : PT) : List LO := [oM3 p]
def lP_at_l0 (p : PT) (x_k : A8 (Int)) : Nat → (List (TX)) → (PT) → Option ((Bag (TX)))
 | 0, _, _ => none
 | fuel + 1, l, rest =>
  if ((List.isEmpty rest) : Bool) then
   some (Bag.of l)
  else agree rest fun a1 rs2 =>
   if ((decide (a1.1.f_key = x_k)) : Bool) then
    if ((l).length + (([a1.1.f_tx] : List (TX))).length) * 12 ≤ 140737488351232 then
    lP_at_l0 p x_k fuel (l ++ ([a1.1.f_tx] : List (TX))) rs2
    else none
   else
    lP_at_l0 p x_k fuel l rs2
def lP_at (p : PT) (x_k : A8 (Int)) : Option ((Bag (TX))) :=
 lP_at_l0 p x_k big ([] : List (TX)) p
abbrev lP_at_K0 (p : PT) (x_k : A8 (Int)) (l : List (TX)) (rest : PT) (r : (Bag (TX))) : Prop := Kt_ w0 W μ0 Tryz.f51 1 2 (lP_at_v r) (lP_at_up p r) (kAt (bodyOf Tryz.f51) 0) (.any :: .any :: .any :: (.ptr 1 0 0) :: .any :: (.gs 2 (l).length) :: .any :: .any :: (.ptr 3 0 0) :: n_ 14 []) [none, some (.var [.int .u8 x_k.a0, .int .u8 x_k.a1, .int .u8 x_k.a2, .int .u8 x_k.a3, .int .u8 x_k.a4, .int .u8 x_k.a5, .int .u8 x_k.a6, .int .u8 x_k.a7]), some (.gr 3 (l).length (rowF c_TX default l)), some (.mit 0 true ks2 (encM v_TL (LV.int .u8) p) none (encM v_TL (LV.int .u8) rest))]
theorem lP_at_l0_ok {w0 W μ0} (hμ : Lt_ μ0 1) (p : PT) (x_k : A8 (Int)) : ∀ (fuel : Nat) (l : List (TX)) (rest : PT) (r : (Bag (TX))), lP_at_l0 p x_k fuel l rest = some r → lP_at_K0 w0 W μ0 p x_k l rest r := by
 intro fuel
 induction fuel with
 | zero => intro l rest r h; rw [lP_at_l0] at h; cases h
 | succ fuel ih =>
  intro l rest r h
  rw [lP_at_l0] at h
  refine k_nextT (it := 8) (t1 := 9) (t2 := 10) (d := 3) (m := 0) (ag := true) (ks := ks2) (es := encM v_TL (LV.int .u8) p) v_TL (LV.int .u8) rest (by kernel_rfl) (by kernel_rfl) (by kernel_rfl) (by kernel_rfl) (fun hn_ => ?_) (fun i_ a1 hi_ => ?_)
  ·rw [if_pos (rest_none hn_)] at h
   obtain rfl := si_ h
   exact rr_ [2] 17 [.x (.mitz 3), .reg [], .wk [] [(2, .bag 3 (Bag.map c_TX (Bag.of l)))]]
    (q16 (show 0 ≠ 3 from by decide) (r2_ tr) (q3 tr (sub_bag c_TX default 3 l (fun _ => rfl))) tr)
  ·rw [if_neg (rest_some hi_)] at h
   replace h := agree_some h hi_
   generalize rest.eraseIdx i_ = rs2 at h ⊢
   rcases it_ h with ⟨C3, h⟩ | ⟨C3, h⟩
   ·obtain ⟨G4, h⟩ := gs_ h
    exact rt_ hμ [1, 6, 3] 24 [.reg [], .reg [(3, hT)], .reg [(3, { os := [(5, .gr 3 (([a1.1.f_tx] : List (TX))).length (rowF c_TX default ([a1.1.f_tx] : List (TX))))], v := some (.gs 5 (([a1.1.f_tx] : List (TX))).length) }), (4, { app := 3, os := [(6, .gr 3 ((l ++ ([a1.1.f_tx] : List (TX)))).length (rowF c_TX default (l ++ ([a1.1.f_tx] : List (TX)))))], v := some (.gs 6 ((l ++ ([a1.1.f_tx] : List (TX)))).length) })], .x (.mitn 3)]
     (q7 (q2 (q18 (Eq.refl 11) (le_ 11 11 rfl) (Eq.refl 0))) (m_ 11 11 rfl (m_ 8 8 rfl (a_ (a_ tr (a_ (LV.Le.trans (leB ((k_arr8 .u8) a1.1.f_key x_k)) (leB C3)) tr)) tr))) (r2_ (m_ 3 11 rfl (a_ (a_ (a_ (Eq.refl true) (a_ (Eq.refl 3) (a_ (lt_ 0 3 rfl) (le_ 3 16777216 rfl)))) (a_ (le_sl_gs 5 1 (some 1) rfl) (a_ (sub_lit c_TX default 3 (fun _ => rfl) ([a1.1.f_tx] : List (TX))) tr))) (a_ (a_ (a_ (a_ (Eq.refl 3) (Nat.le_refl (([a1.1.f_tx] : List (TX))).length)) (a_ (a_ (lt_ 0 3 rfl) (a_ (lt_ 0 12 rfl) (a_ G4 (a_ (Eq.refl 3) (Eq.refl true))))) (a_ (Eq.refl 3) (Nat.le_refl (l).length)))) (a_ (le_gs_app 6 l ([a1.1.f_tx] : List (TX))) (a_ (sub_app c_TX default 3 l ([a1.1.f_tx] : List (TX))) tr))) (r1_ tr))))) (q1 tr)) (ih _ _ r h) ⟨rfl, fun _ _ => rfl, lt_ 0 4 rfl, trivial⟩
   ·exact rt_ hμ [1, 2, 3] 23 [.reg [], .reg [(3, hF)], .x (.mitn 3)]
     (q7 (q2 (q18 (Eq.refl 11) (le_ 11 11 rfl) (Eq.refl 0))) (m_ 11 11 rfl (m_ 8 8 rfl (a_ (a_ tr (a_ (LV.Le.trans (leB ((k_arr8 .u8) a1.1.f_key x_k)) (leB C3)) tr)) tr))) tr tr) (ih _ _ r h) ⟨rfl, fun _ _ => rfl, lt_ 0 4 rfl, trivial⟩
theorem lP_at_ok (p : PT) (x_k : A8 (Int)) (r : (Bag (TX))) (h : lP_at p x_k = some r) : ∀ σ, Inj 2 σ → FnTri Tryz.prog 51 (renL σ [.map 0, .agg [.int .u8 x_k.a0, .int .u8 x_k.a1, .int .u8 x_k.a2, .int .u8 x_k.a3, .int .u8 x_k.a4, .int .u8 x_k.a5, .int .u8 x_k.a6, .int .u8 x_k.a7]]) (preOf σ 0 (lP_at_objs p)) ((lP_at_v r).ren σ) (upOf σ (lP_at_up p r)) := by
 refine fo_ Tryz.func51 ⟨trivial, trivial⟩ ⟨trivial, trivial, trivial⟩ ?_
 intro w0 W μ0 hμ
 unfold lP_at at h
 exact rt_ hμ [1, 2, 3] 22 [.reg [(1, hv_ (.ds 3 (([] : List (TX))).length (rowF c_TX default ([] : List (TX)))))], .void (.gr 3 (([] : List (TX))).length (rowF c_TX default ([] : List (TX)))), .reg [(0, hv_ (.gs 2 (([] : List (TX))).length))], .reg []]
  (q0 (r1_ (q9 tr (le_nil_ds 3 (rowF c_TX default [])))) (Eq.refl 0) (q9 tr (le_nil_gs 2)) (q14 tr)) (lP_at_l0_ok hμ p x_k big _ _ r h) ⟨rfl, fun _ _ => rfl, lt_ 0 4 rfl, trivial⟩
def cmp_isNaN_uint32_v (r : (Bool)) : LV := .bool r
def cmp_isNaN_uint32 (x : Int) : Option ((Bool)) :=
 some (x != x)
theorem cmp_isNaN_uint32_ok (x : Int) (r : (Bool)) (h : cmp_isNaN_uint32 x = some r) : ∀ σ, Inj 0 σ → FnTri Tryz.prog 94 (renL σ [.int .u32 x]) (preOf σ 0 []) ((cmp_isNaN_uint32_v r).ren σ) (upOf σ []) := by
 refine fo_ Tryz.func94 trivial trivial ?_
 intro w0 W μ0 hμ
 unfold cmp_isNaN_uint32 at h
 obtain rfl := si_ h
 exact rr_ [] 15 [.reg [], .reg []]
  (q28 (r4_ tr))
theorem cmp_isNaN_uint32_tri (x : Int) (r : (Bool)) (h : cmp_isNaN_uint32 x = some r) : FnTri Tryz.prog 94 [.int .u32 x] [] (cmp_isNaN_uint32_v r) [] := FnTri.none (cmp_isNaN_uint32_ok x r h) rfl rfl
def cmp_Compare_uint32_v (r : (Int)) : LV := .int .i64 r
def cmp_Compare_uint32 (x y : Int) : Option ((Int)) :=
 (cmp_isNaN_uint32 x).bind fun y2 =>
 (cmp_isNaN_uint32 y).bind fun y4 =>
 if (y2 : Bool) then
  if (y4 : Bool) then
   some 0
  else
   some (-1)
 else
  if (y4 : Bool) then
   some 1
  else
   if ((decide (x < y)) : Bool) then
    some (-1)
   else
    if ((decide (y < x)) : Bool) then
     some 1
    else
     some 0
theorem cmp_Compare_uint32_ok (x y : Int) (r : (Int)) (h : cmp_Compare_uint32 x y = some r) : ∀ σ, Inj 0 σ → FnTri Tryz.prog 71 (renL σ [.int .u32 x, .int .u32 y]) (preOf σ 0 []) ((cmp_Compare_uint32_v r).ren σ) (upOf σ []) := by
 refine fo_ Tryz.func71 trivial trivial ?_
 intro w0 W μ0 hμ
 unfold cmp_Compare_uint32 at h
 obtain ⟨y2, e1, h⟩ := bs_ h
 obtain ⟨y4, e3, h⟩ := bs_ h
 rcases it_ h with ⟨c5, h⟩ | ⟨c5, h⟩
 ·rcases it_ h with ⟨c6, h⟩ | ⟨c6, h⟩
  ·obtain rfl := si_ h
   exact rr_ [] 31 [.reg [], .reg [(1, hC (cmp_isNaN_uint32_v y2))], .reg [(1, hC (cmp_isNaN_uint32_v y4))], .reg [(0, hT)], .reg [(0, hT)], .reg []]
    (q10 (c_ (cmp_isNaN_uint32_tri x y2 e1) (r1_ tr)) (c_ (cmp_isNaN_uint32_tri y y4 e3) (r1_ tr)) (q11 (f_ c5 tr) (f_ c6 tr) tr tr))
  ·obtain rfl := si_ h
   exact rr_ [] 32 [.reg [], .reg [(1, hC (cmp_isNaN_uint32_v y2))], .reg [(1, hC (cmp_isNaN_uint32_v y4))], .reg [(0, hT)], .reg [(0, hF)], .reg []]
    (q10 (c_ (cmp_isNaN_uint32_tri x y2 e1) (r1_ tr)) (c_ (cmp_isNaN_uint32_tri y y4 e3) (r1_ tr)) (q11 (f_ c5 tr) (f_ c6 tr) tr tr))
 ·rcases it_ h with ⟨c6, h⟩ | ⟨c6, h⟩
  ·obtain rfl := si_ h
   exact rr_ [] 32 [.reg [], .reg [(1, hC (cmp_isNaN_uint32_v y2))], .reg [(1, hC (cmp_isNaN_uint32_v y4))], .reg [(0, hF)], .reg [(0, hT)], .reg []]
    (q10 (c_ (cmp_isNaN_uint32_tri x y2 e1) (r1_ tr)) (c_ (cmp_isNaN_uint32_tri y y4 e3) (r1_ tr)) (q11 (f_ c5 tr) (f_ c6 tr) tr tr))
  ·rcases it_ h with ⟨c7, h⟩ | ⟨c7, h⟩
   ·obtain rfl := si_ h
    exact rr_ [] 38 [.reg [], .reg [(1, hC (cmp_isNaN_uint32_v y2))], .reg [(1, hC (cmp_isNaN_uint32_v y4))], .reg [(0, hF)], .reg [(0, hF)], .reg [(2, hT)], .reg []]
     (q10 (c_ (cmp_isNaN_uint32_tri x y2 e1) (r1_ tr)) (c_ (cmp_isNaN_uint32_tri y y4 e3) (r1_ tr)) (q0 (f_ c5 tr) (f_ c6 tr) (r2_ (f_ c7 tr)) (q19 tr)))
   ·rcases it_ h with ⟨c8, h⟩ | ⟨c8, h⟩
    ·obtain rfl := si_ h
     exact rr_ [] 44 [.reg [], .reg [(1, hC (cmp_isNaN_uint32_v y2))], .reg [(1, hC (cmp_isNaN_uint32_v y4))], .reg [(0, hF)], .reg [(0, hF)], .reg [(2, hF)], .reg [(2, hT)], .reg []]
      (q10 (c_ (cmp_isNaN_uint32_tri x y2 e1) (r1_ tr)) (c_ (cmp_isNaN_uint32_tri y y4 e3) (r1_ tr)) (q0 (f_ c5 tr) (f_ c6 tr) (r2_ (f_ c7 tr)) (q3 (r2_ (f_ c8 tr)) (r1_ tr))))
    ·obtain rfl := si_ h
     exact rr_ [] 45 [.reg [], .reg [(1, hC (cmp_isNaN_uint32_v y2))], .reg [(1, hC (cmp_isNaN_uint32_v y4))], .reg [(0, hF)], .reg [(0, hF)], .reg [(2, hF)], .reg [(2, hF)], .reg []]
      (q10 (c_ (cmp_isNaN_uint32_tri x y2 e1) (r1_ tr)) (c_ (cmp_isNaN_uint32_tri y y4 e3) (r1_ tr)) (q0 (f_ c5 tr) (f_ c6 tr) (r2_ (f_ c7 tr)) (q3 (r2_ (f_ c8 tr)) (r1_ tr))))
theorem cmp_Compare_uint32_tri (x y : Int) (r : (Int)) (h : cmp_Compare_uint32 x y = some r) : FnTri Tryz.prog 71 [.int .u32 x, .int .u32 y] [] (cmp_Compare_uint32_v r) [] := FnTri.none (cmp_Compare_uint32_ok x y r h) rfl rfl
def cmp_isNaN_uint8_v (r : (Bool)) : LV := .bool r
def cmp_isNaN_uint8 (x : Int) : Option ((Bool)) :=
 some (x != x)
theorem cmp_isNaN_uint8_ok (x : Int) (r : (Bool)) (h : cmp_isNaN_uint8 x = some r) : ∀ σ, Inj 0 σ → FnTri Tryz.prog 93 (renL σ [.int .u8 x]) (preOf σ 0 []) ((cmp_isNaN_uint8_v r).ren σ) (upOf σ []) := by
 refine fo_ Tryz.func93 trivial trivial ?_
 intro w0 W μ0 hμ
 unfold cmp_isNaN_uint8 at h
 obtain rfl := si_ h
 exact rr_ [] 15 [.reg [], .reg []]
  (q28 (r4_ tr))
theorem cmp_isNaN_uint8_tri (x : Int) (r : (Bool)) (h : cmp_isNaN_uint8 x = some r) : FnTri Tryz.prog 93 [.int .u8 x] [] (cmp_isNaN_uint8_v r) [] := FnTri.none (cmp_isNaN_uint8_ok x r h) rfl rfl
def cmp_Compare_uint8_v (r : (Int)) : LV := .int .i64 r
def cmp_Compare_uint8 (x y : Int) : Option ((Int)) :=
 (cmp_isNaN_uint8 x).bind fun y2 =>
 (cmp_isNaN_uint8 y).bind fun y4 =>
 if (y2 : Bool) then
  if (y4 : Bool) then
   some 0
  else
   some (-1)
 else
  if (y4 : Bool) then
   some 1
  else
   if ((decide (x < y)) : Bool) then
    some (-1)
   else
    if ((decide (y < x)) : Bool) then
     some 1
    else
     some 0
theorem cmp_Compare_uint8_ok (x y : Int) (r : (Int)) (h : cmp_Compare_uint8 x y = some r) : ∀ σ, Inj 0 σ → FnTri Tryz.prog 70 (renL σ [.int .u8 x, .int .u8 y]) (preOf σ 0 []) ((cmp_Compare_uint8_v r).ren σ) (upOf σ []) := by
 refine fo_ Tryz.func70 trivial trivial ?_
 intro w0 W μ0 hμ
 unfold cmp_Compare_uint8 at h
 obtain ⟨y2, e1, h⟩ := bs_ h
 obtain ⟨y4, e3, h⟩ := bs_ h
 rcases it_ h with ⟨c5, h⟩ | ⟨c5, h⟩
 ·rcases it_ h with ⟨c6, h⟩ | ⟨c6, h⟩
  ·obtain rfl := si_ h
   exact rr_ [] 31 [.reg [], .reg [(1, hC (cmp_isNaN_uint8_v y2))], .reg [(1, hC (cmp_isNaN_uint8_v y4))], .reg [(0, hT)], .reg [(0, hT)], .reg []]
    (q10 (c_ (cmp_isNaN_uint8_tri x y2 e1) (r1_ tr)) (c_ (cmp_isNaN_uint8_tri y y4 e3) (r1_ tr)) (q11 (f_ c5 tr) (f_ c6 tr) tr tr))
  ·obtain rfl := si_ h
   exact rr_ [] 32 [.reg [], .reg [(1, hC (cmp_isNaN_uint8_v y2))], .reg [(1, hC (cmp_isNaN_uint8_v y4))], .reg [(0, hT)], .reg [(0, hF)], .reg []]
    (q10 (c_ (cmp_isNaN_uint8_tri x y2 e1) (r1_ tr)) (c_ (cmp_isNaN_uint8_tri y y4 e3) (r1_ tr)) (q11 (f_ c5 tr) (f_ c6 tr) tr tr))
 ·rcases it_ h with ⟨c6, h⟩ | ⟨c6, h⟩
  ·obtain rfl := si_ h
   exact rr_ [] 32 [.reg [], .reg [(1, hC (cmp_isNaN_uint8_v y2))], .reg [(1, hC (cmp_isNaN_uint8_v y4))], .reg [(0, hF)], .reg [(0, hT)], .reg []]
    (q10 (c_ (cmp_isNaN_uint8_tri x y2 e1) (r1_ tr)) (c_ (cmp_isNaN_uint8_tri y y4 e3) (r1_ tr)) (q11 (f_ c5 tr) (f_ c6 tr) tr tr))
  ·rcases it_ h with ⟨c7, h⟩ | ⟨c7, h⟩
   ·obtain rfl := si_ h
    exact rr_ [] 38 [.reg [], .reg [(1, hC (cmp_isNaN_uint8_v y2))], .reg [(1, hC (cmp_isNaN_uint8_v y4))], .reg [(0, hF)], .reg [(0, hF)], .reg [(2, hT)], .reg []]
     (q10 (c_ (cmp_isNaN_uint8_tri x y2 e1) (r1_ tr)) (c_ (cmp_isNaN_uint8_tri y y4 e3) (r1_ tr)) (q0 (f_ c5 tr) (f_ c6 tr) (r2_ (f_ c7 tr)) (q19 tr)))
   ·rcases it_ h with ⟨c8, h⟩ | ⟨c8, h⟩
    ·obtain rfl := si_ h
     exact rr_ [] 44 [.reg [], .reg [(1, hC (cmp_isNaN_uint8_v y2))], .reg [(1, hC (cmp_isNaN_uint8_v y4))], .reg [(0, hF)], .reg [(0, hF)], .reg [(2, hF)], .reg [(2, hT)], .reg []]
      (q10 (c_ (cmp_isNaN_uint8_tri x y2 e1) (r1_ tr)) (c_ (cmp_isNaN_uint8_tri y y4 e3) (r1_ tr)) (q0 (f_ c5 tr) (f_ c6 tr) (r2_ (f_ c7 tr)) (q3 (r2_ (f_ c8 tr)) (r1_ tr))))
    ·obtain rfl := si_ h
     exact rr_ [] 45 [.reg [], .reg [(1, hC (cmp_isNaN_uint8_v y2))], .reg [(1, hC (cmp_isNaN_uint8_v y4))], .reg [(0, hF)], .reg [(0, hF)], .reg [(2, hF)], .reg [(2, hF)], .reg []]
      (q10 (c_ (cmp_isNaN_uint8_tri x y2 e1) (r1_ tr)) (c_ (cmp_isNaN_uint8_tri y y4 e3) (r1_ tr)) (q0 (f_ c5 tr) (f_ c6 tr) (r2_ (f_ c7 tr)) (q3 (r2_ (f_ c8 tr)) (r1_ tr))))
theorem cmp_Compare_uint8_tri (x y : Int) (r : (Int)) (h : cmp_Compare_uint8 x y = some r) : FnTri Tryz.prog 70 [.int .u8 x, .int .u8 y] [] (cmp_Compare_uint8_v r) [] := FnTri.none (cmp_Compare_uint8_ok x y r h) rfl rfl
def cmp_Or_int_v (r : (Int)) : LV := .int .i64 r
def cmp_Or_int_l0 (vals : List (Int)) : Nat → (Int) → Option ((Int))
 | 0, _ => none
 | fuel + 1, t8 =>
  if ((decide (t8 < ((vals).length : Int))) : Bool) then
   if 0 ≤ t8 ∧ t8 < (((vals).length : Nat) : Int) then
   if (((vals.getD t8.toNat default) != 0) : Bool) then
    some (vals.getD t8.toNat default)
   else
    cmp_Or_int_l0 vals fuel (IntKind.wrap .i64 (t8 + 1))
   else none
  else
   some 0
def cmp_Or_int (vals : List (Int)) : Option ((Int)) :=
 cmp_Or_int_l0 vals big 0
abbrev cmp_Or_int_K0 (vals : List (Int)) (t8 : Int) (r : (Int)) : Prop := Kt_ w0 W μ0 Tryz.f69 0 0 (cmp_Or_int_v r) [] (kAt (bodyOf Tryz.f69) 0) (.any :: .any :: .any :: (.int .i64 0) :: .any :: .any :: (.ds 1 (vals).length (rowF (cInt .i64) default vals)) :: (.int .i64 ((vals).length : Int)) :: (.int .i64 t8) :: n_ 9 []) []
theorem cmp_Or_int_l0_ok {w0 W μ0} (hμ : Lt_ μ0 0) (vals : List (Int)) : ∀ (fuel : Nat) (t8 : Int) (r : (Int)), cmp_Or_int_l0 vals fuel t8 = some r → cmp_Or_int_K0 w0 W μ0 vals t8 r := by
 intro fuel
 induction fuel with
 | zero => intro t8 r h; rw [cmp_Or_int_l0] at h; cases h
 | succ fuel ih =>
  intro t8 r h
  rw [cmp_Or_int_l0] at h
  rcases it_ h with ⟨C1, h⟩ | ⟨C1, h⟩
  ·obtain ⟨G2, h⟩ := gs_ h
   rcases it_ h with ⟨C3, h⟩ | ⟨C3, h⟩
   ·obtain rfl := si_ h
    exact rr_ [] 28 [.go, .reg [(0, hT)], .reg [], .reg [(2, hT)], .reg []]
     (q16 (f_ C1 tr) (q13 (a_ (Eq.refl 1) G2) (lt_ 0 1 rfl) tr) (r2_ (f_ C3 tr)) (q14 tr))
   ·exact rt_ hμ [] 29 [.go, .reg [(0, hT)], .reg [], .reg [(2, hF)], .reg []]
     (q0 (f_ C1 tr) (q13 (a_ (Eq.refl 1) G2) (lt_ 0 1 rfl) tr) (r2_ (f_ C3 tr)) (q14 tr)) (ih _ r h) trivial
  ·obtain rfl := si_ h
   exact rr_ [] 19 [.go, .reg [(0, hF)], .reg []]
    (q9 (f_ C1 tr) (r2_ tr))
theorem cmp_Or_int_ok (vals : List (Int)) (r : (Int)) (h : cmp_Or_int vals = some r) : ∀ σ, Inj 0 σ → FnTri Tryz.prog 69 (renL σ [.ds 1 (vals).length (rowF (cInt .i64) default vals)]) (preOf σ 0 []) ((cmp_Or_int_v r).ren σ) (upOf σ []) := by
 refine fo_ Tryz.func69 trivial trivial ?_
 intro w0 W μ0 hμ
 unfold cmp_Or_int at h
 exact rt_ hμ [] 21 [.reg [], .reg [], .reg []]
  (q25 tr tr (q2 tr) tr) (cmp_Or_int_l0_ok hμ vals big _ r h) trivial
theorem cmp_Or_int_tri (vals : List (Int)) (r : (Int)) (h : cmp_Or_int vals = some r) : FnTri Tryz.prog 69 [.ds 1 (vals).length (rowF (cInt .i64) default vals)] [] (cmp_Or_int_v r) [] := FnTri.none (cmp_Or_int_ok vals r h) rfl rfl
def ids_Txs_v (r : (Int)) : LV := .int .i64 r
def ids_Txs (a b : TX) : Option ((Int)) :=
 (cmp_Compare_uint8 a.f_Node b.f_Node).bind fun y2 =>
 (cmp_Compare_uint32 a.f_Boot b.f_Boot).bind fun y4 =>
 (cmp_Compare_uint32 a.f_Num b.f_Num).bind fun y6 =>
 (cmp_Or_int ([y2, y4, y6] : List (Int))).bind fun y8 =>
 some y8
theorem ids_Txs_ok (a b : TX) (r : (Int)) (h : ids_Txs a b = some r) : ∀ σ, Inj 0 σ → FnTri Tryz.prog 43 (renL σ [v_TX a, v_TX b]) (preOf σ 0 []) ((ids_Txs_v r).ren σ) (upOf σ []) := by
 refine fo_ Tryz.func43 trivial trivial ?_
 intro w0 W μ0 hμ
 unfold ids_Txs at h
 obtain ⟨y2, e1, h⟩ := bs_ h
 obtain ⟨y4, e3, h⟩ := bs_ h
 obtain ⟨y6, e5, h⟩ := bs_ h
 obtain ⟨y8, e7, h⟩ := bs_ h
 obtain rfl := si_ h
 exact rr_ [] 15 [.reg [], .reg [(4, hC (cmp_Compare_uint8_v y2)), (9, hC (cmp_Compare_uint32_v y4)), (14, hC (cmp_Compare_uint32_v y6)), (15, { os := [(2, .gr 1 (([y2, y4, y6] : List (Int))).length (rowF (cInt .i64) default ([y2, y4, y6] : List (Int))))], v := some (.gs 2 (([y2, y4, y6] : List (Int))).length), fz := true }), (16, hC (cmp_Or_int_v y8))]]
  (q9 (q2 tr) (r1_ (l_ 0 3 rfl (r1_ (l_ 0 3 rfl (c_ (cmp_Compare_uint8_tri a.f_Node b.f_Node y2 e1) (r1_ (l_ 1 3 rfl (r1_ (l_ 1 3 rfl (c_ (cmp_Compare_uint32_tri a.f_Boot b.f_Boot y4 e3) (r1_ (l_ 2 3 rfl (r1_ (l_ 2 3 rfl (c_ (cmp_Compare_uint32_tri a.f_Num b.f_Num y6 e5) (a_ (a_ (a_ (a_ (Eq.refl true) (a_ (Eq.refl 1) (a_ (lt_ 0 1 rfl) (le_ 3 16777216 rfl)))) (a_ (le_sl_gs 2 3 (some 3) rfl) (a_ (sub_lit (cInt .i64) default 1 (fun _ => rfl) ([y2, y4, y6] : List (Int))) tr))) (a_ (Nat.le_refl (([y2, y4, y6] : List (Int))).length) (fz_row (enc := (cInt .i64)) (d := default) (fun _ => rfl) ([y2, y4, y6] : List (Int))))) (a_ (a_ (a_ (cmp_Or_int_tri ([y2, y4, y6] : List (Int)) y8 e7) tr) tr) (r1_ tr)))))))))))))))))))
theorem ids_Txs_tri (a b : TX) (r : (Int)) (h : ids_Txs a b = some r) : FnTri Tryz.prog 43 [v_TX a, v_TX b] [] (ids_Txs_v r) [] := FnTri.none (ids_Txs_ok a b r h) rfl rfl
def ids_Stamps_v (r : (Int)) : LV := .int .i64 r
def ids_Stamps (a b : TS) : Option ((Int)) :=
 (cmp_Compare_uint32 a.f_Time b.f_Time).bind fun y2 =>
 (ids_Txs a.f_Tx b.f_Tx).bind fun y4 =>
 (cmp_Or_int ([y2, y4] : List (Int))).bind fun y6 =>
 some y6
theorem ids_Stamps_ok (a b : TS) (r : (Int)) (h : ids_Stamps a b = some r) : ∀ σ, Inj 0 σ → FnTri Tryz.prog 84 (renL σ [v_TS a, v_TS b]) (preOf σ 0 []) ((ids_Stamps_v r).ren σ) (upOf σ []) := by
 refine fo_ Tryz.func84 trivial trivial ?_
 intro w0 W μ0 hμ
 unfold ids_Stamps at h
 obtain ⟨y2, e1, h⟩ := bs_ h
 obtain ⟨y4, e3, h⟩ := bs_ h
 obtain ⟨y6, e5, h⟩ := bs_ h
 obtain rfl := si_ h
 exact rr_ [] 15 [.reg [], .reg [(4, hC (cmp_Compare_uint32_v y2)), (9, hC (ids_Txs_v y4)), (10, { os := [(2, .gr 1 (([y2, y4] : List (Int))).length (rowF (cInt .i64) default ([y2, y4] : List (Int))))], v := some (.gs 2 (([y2, y4] : List (Int))).length), fz := true }), (11, hC (cmp_Or_int_v y6))]]
  (q9 (q2 tr) (r1_ (l_ 0 4 rfl (r1_ (l_ 0 4 rfl (c_ (cmp_Compare_uint32_tri a.f_Time b.f_Time y2 e1) (r1_ (m_ 4 4 rfl (r1_ (m_ 4 4 rfl (c_ (ids_Txs_tri a.f_Tx b.f_Tx y4 e3) (a_ (a_ (a_ (a_ (Eq.refl true) (a_ (Eq.refl 1) (a_ (lt_ 0 1 rfl) (le_ 2 16777216 rfl)))) (a_ (le_sl_gs 2 2 (some 2) rfl) (a_ (sub_lit (cInt .i64) default 1 (fun _ => rfl) ([y2, y4] : List (Int))) tr))) (a_ (Nat.le_refl (([y2, y4] : List (Int))).length) (fz_row (enc := (cInt .i64)) (d := default) (fun _ => rfl) ([y2, y4] : List (Int))))) (a_ (a_ (a_ (cmp_Or_int_tri ([y2, y4] : List (Int)) y6 e5) tr) tr) (r1_ tr))))))))))))))
theorem ids_Stamps_tri (a b : TS) (r : (Int)) (h : ids_Stamps a b = some r) : FnTri Tryz.prog 84 [v_TS a, v_TS b] [] (ids_Stamps_v r) [] := FnTri.none (ids_Stamps_ok a b r h) rfl rfl
def lT_age_v (r : (Int)) : LV := .int .i64 r
def lT_age_up (uu : UT) (x_k : TX) (u : TU) (hh ww : PT) (r : (Int)) : Upd := [(0, some (.var [.map 1, .map 3, .map 4])), (1, some (oP1 uu [(v_TX x_k, 2)])), (2, some (.var (c_TU u))), (3, some (oM3 hh)), (4, some (oM3 ww))]
def lT_age_objs (uu : UT) (x_k : TX) (u : TU) (hh ww : PT) : List LO := [.var [.map 1, .map 3, .map 4], oP1 uu [(v_TX x_k, 2)], .var (c_TU u), oM3 hh, oM3 ww]
def lT_age (uu : UT) (x_k : TX) (u : TU) (hh ww : PT) (a b : TX) : Option ((Int)) :=
 if ((decide (a = x_k)) : Bool) then
  if (mget uu x_k).isSome = true then
  if ((decide (b = x_k)) : Bool) then
   (ids_Stamps u.f_stamp u.f_stamp).bind fun y5 =>
   some y5
  else
   if (((mget uu b).isSome) : Bool) then
    (mget uu b).bind fun y6 =>
    (ids_Stamps u.f_stamp y6.f_stamp).bind fun y9 =>
    some y9
   else
    none
  else none
 else
  if (((mget uu a).isSome) : Bool) then
   (mget uu a).bind fun y3 =>
   if ((decide (b = a)) : Bool) then
    (ids_Stamps y3.f_stamp y3.f_stamp).bind fun y7 =>
    some y7
   else
    if ((decide (b = x_k)) : Bool) then
     if (mget uu x_k).isSome = true then
     (ids_Stamps y3.f_stamp u.f_stamp).bind fun y9 =>
     some y9
     else none
    else
     if (((mget uu b).isSome) : Bool) then
      (mget uu b).bind fun y8 =>
      (ids_Stamps y3.f_stamp y8.f_stamp).bind fun y11 =>
      some y11
     else
      none
  else
   none
theorem lT_age_ok (uu : UT) (x_k : TX) (u : TU) (hh ww : PT) (a b : TX) (r : (Int)) (h : lT_age uu x_k u hh ww a b = some r) : ∀ σ, Inj 5 σ → FnTri Tryz.prog 53 (renL σ [.ptr 0 0 0, v_TX a, v_TX b]) (preOf σ 0 (lT_age_objs uu x_k u hh ww)) ((lT_age_v r).ren σ) (upOf σ (lT_age_up uu x_k u hh ww r)) := by
 refine fo_ Tryz.func53 ⟨rfl, under_opn (lt_ 2 5 rfl), rfl, trivial, trivial, trivial⟩ ⟨rfl, under_opn (lt_ 2 5 rfl), rfl, trivial, trivial, trivial⟩ ?_
 intro w0 W μ0 hμ
 unfold lT_age at h
 rcases it_ h with ⟨c1, h⟩ | ⟨c1, h⟩
 ·obtain ⟨g2, h⟩ := gs_ h
  rcases it_ h with ⟨c3, h⟩ | ⟨c3, h⟩
  ·obtain ⟨y5, e4, h⟩ := bs_ h
   obtain rfl := si_ h
   exact rr_ [] 15 [.reg [], .reg [(5, { look := some (.ptr 2 0 0) }), (14, { look := some (.ptr 2 0 0) }), (18, hC (ids_Stamps_v y5))]]
    (q9 (q2 tr) (q2 (l_ 0 3 rfl (m_ 3 3 rfl (a_ (a_ (a_ (Eq.refl true) (a_ (pmSe v_TX c_TU k_TX uu c1 g2) (pmM v_TX c1 2 []))) tr) (r2_ (m_ 4 5 rfl (r1_ (r2_ (l_ 0 3 rfl (m_ 3 3 rfl (a_ (a_ (a_ (Eq.refl true) (a_ (pmSe v_TX c_TU k_TX uu c3 g2) (pmM v_TX c3 2 []))) tr) (r2_ (m_ 4 5 rfl (c_ (ids_Stamps_tri u.f_stamp u.f_stamp y5 e4) (r1_ tr))))))))))))))))
  ·rcases it_ h with ⟨c4, h⟩ | ⟨c4, h⟩
   ·obtain ⟨y6, e7, h⟩ := bs_ h
    obtain ⟨y9, e8, h⟩ := bs_ h
    obtain rfl := si_ h
    exact rr_ [] 18 [.reg [], .x (.p (.po 1 (v_TX b) (c_TU y6))), .reg [(5, { look := some (.ptr 2 0 0) }), (14, { look := some (.ptr 7 0 0) }), (18, hC (ids_Stamps_v y9))], .x (.p (.pc 1)), .wk [] [(1, oP1 uu [(v_TX x_k, 2)])]]
     (q16 (q2 tr) (a_ (pmIn v_TX c_TU e7) (pmO1 (s' := 2) v_TX k_TX c3 (pmO0 v_TX b))) (q2 (l_ 0 3 rfl (m_ 3 3 rfl (a_ (a_ (a_ (Eq.refl true) (a_ (pmSe v_TX c_TU k_TX uu c1 g2) (List.mem_cons_of_mem (v_TX b, 7) (pmM v_TX c1 2 [])))) tr) (r2_ (m_ 4 5 rfl (r1_ (r2_ (l_ 0 3 rfl (m_ 3 3 rfl (a_ (a_ (a_ (Eq.refl true) (a_ (pmSi v_TX c_TU k_TX uu b (isS e7)) (List.mem_cons_self (a := ((v_TX b, 7) : LV × Nat)) (l := [(v_TX x_k, 2)])))) tr) (r2_ (m_ 4 5 rfl (c_ (ids_Stamps_tri u.f_stamp y6.f_stamp y9 e8) (r1_ tr))))))))))))))) (q3 (q0 (getP_enc v_TX c_TU k_TX uu b e7) (Eq.refl true) (Eq.refl true) (show 1 ≠ 7 from by decide)) (q3 tr (pm_same v_TX c_TU k_TX true ks0 [(v_TX x_k, 2)] (m := uu) (k := b) e7))))
   ·cases h
 ·rcases it_ h with ⟨c2, h⟩ | ⟨c2, h⟩
  ·obtain ⟨y3, e4, h⟩ := bs_ h
   rcases it_ h with ⟨c5, h⟩ | ⟨c5, h⟩
   ·obtain ⟨y7, e6, h⟩ := bs_ h
    obtain rfl := si_ h
    exact rr_ [] 18 [.reg [], .x (.p (.po 1 (v_TX a) (c_TU y3))), .reg [(5, { look := some (.ptr 7 0 0) }), (14, { look := some (.ptr 7 0 0) }), (18, hC (ids_Stamps_v y7))], .x (.p (.pc 1)), .wk [] [(1, oP1 uu [(v_TX x_k, 2)])]]
     (q16 (q2 tr) (a_ (pmIn v_TX c_TU e4) (pmO1 (s' := 2) v_TX k_TX c1 (pmO0 v_TX a))) (q2 (l_ 0 3 rfl (m_ 3 3 rfl (a_ (a_ (a_ (Eq.refl true) (a_ (pmSi v_TX c_TU k_TX uu a (isS e4)) (List.mem_cons_self (a := ((v_TX a, 7) : LV × Nat)) (l := [(v_TX x_k, 2)])))) tr) (r2_ (m_ 4 5 rfl (r1_ (r2_ (l_ 0 3 rfl (m_ 3 3 rfl (a_ (a_ (a_ (Eq.refl true) (a_ (pmSe v_TX c_TU k_TX uu c5 (isS e4)) (pmM v_TX c5 7 [(v_TX x_k, 2)]))) tr) (r2_ (m_ 4 5 rfl (c_ (ids_Stamps_tri y3.f_stamp y3.f_stamp y7 e6) (r1_ tr))))))))))))))) (q3 (q0 (getP_enc v_TX c_TU k_TX uu a e4) (Eq.refl true) (Eq.refl true) (show 1 ≠ 7 from by decide)) (q3 tr (pm_same v_TX c_TU k_TX true ks0 [(v_TX x_k, 2)] (m := uu) (k := a) e4))))
   ·rcases it_ h with ⟨c6, h⟩ | ⟨c6, h⟩
    ·obtain ⟨g7, h⟩ := gs_ h
     obtain ⟨y9, e8, h⟩ := bs_ h
     obtain rfl := si_ h
     exact rr_ [] 18 [.reg [], .x (.p (.po 1 (v_TX a) (c_TU y3))), .reg [(5, { look := some (.ptr 7 0 0) }), (14, { look := some (.ptr 2 0 0) }), (18, hC (ids_Stamps_v y9))], .x (.p (.pc 1)), .wk [] [(1, oP1 uu [(v_TX x_k, 2)])]]
      (q16 (q2 tr) (a_ (pmIn v_TX c_TU e4) (pmO1 (s' := 2) v_TX k_TX c1 (pmO0 v_TX a))) (q2 (l_ 0 3 rfl (m_ 3 3 rfl (a_ (a_ (a_ (Eq.refl true) (a_ (pmSi v_TX c_TU k_TX uu a (isS e4)) (List.mem_cons_self (a := ((v_TX a, 7) : LV × Nat)) (l := [(v_TX x_k, 2)])))) tr) (r2_ (m_ 4 5 rfl (r1_ (r2_ (l_ 0 3 rfl (m_ 3 3 rfl (a_ (a_ (a_ (Eq.refl true) (a_ (pmSe v_TX c_TU k_TX uu c6 g7) (List.mem_cons_of_mem (v_TX a, 7) (pmM v_TX c6 2 [])))) tr) (r2_ (m_ 4 5 rfl (c_ (ids_Stamps_tri y3.f_stamp u.f_stamp y9 e8) (r1_ tr))))))))))))))) (q3 (q0 (getP_enc v_TX c_TU k_TX uu a e4) (Eq.refl true) (Eq.refl true) (show 1 ≠ 7 from by decide)) (q3 tr (pm_same v_TX c_TU k_TX true ks0 [(v_TX x_k, 2)] (m := uu) (k := a) e4))))
    ·rcases it_ h with ⟨c7, h⟩ | ⟨c7, h⟩
     ·obtain ⟨y8, e9, h⟩ := bs_ h
      obtain ⟨y11, e10, h⟩ := bs_ h
      obtain rfl := si_ h
      exact rr_ [] 21 [.reg [], .x (.p (.po 1 (v_TX a) (c_TU y3))), .x (.p (.po 1 (v_TX b) (c_TU y8))), .reg [(5, { look := some (.ptr 7 0 0) }), (14, { look := some (.ptr 8 0 0) }), (18, hC (ids_Stamps_v y11))], .x (.p (.pc 1)), .wk [] [(1, oP1 uu [(v_TX a, 7), (v_TX x_k, 2)])], .x (.p (.pc 1)), .wk [] [(1, oP1 uu [(v_TX x_k, 2)])]]
       (q16 (q2 tr) (a_ (pmIn v_TX c_TU e4) (pmO1 (s' := 2) v_TX k_TX c1 (pmO0 v_TX a))) (a_ (pmIn v_TX c_TU e9) (pmO1 (s' := 7) v_TX k_TX c5 (pmO1 (s' := 2) v_TX k_TX c6 (pmO0 v_TX b)))) (q0 (q2 (l_ 0 3 rfl (m_ 3 3 rfl (a_ (a_ (a_ (Eq.refl true) (a_ (pmSi v_TX c_TU k_TX uu a (isS e4)) (List.mem_cons_of_mem (v_TX b, 8) (List.mem_cons_self (a := ((v_TX a, 7) : LV × Nat)) (l := [(v_TX x_k, 2)]))))) tr) (r2_ (m_ 4 5 rfl (r1_ (r2_ (l_ 0 3 rfl (m_ 3 3 rfl (a_ (a_ (a_ (Eq.refl true) (a_ (pmSi v_TX c_TU k_TX uu b (isS e9)) (List.mem_cons_self (a := ((v_TX b, 8) : LV × Nat)) (l := [(v_TX a, 7), (v_TX x_k, 2)])))) tr) (r2_ (m_ 4 5 rfl (c_ (ids_Stamps_tri y3.f_stamp y8.f_stamp y11 e10) (r1_ tr))))))))))))))) (q0 (getP_enc v_TX c_TU k_TX uu b e9) (Eq.refl true) (Eq.refl true) (show 1 ≠ 8 from by decide)) (q3 tr (pm_same v_TX c_TU k_TX true ks0 [(v_TX a, 7), (v_TX x_k, 2)] (m := uu) (k := b) e9)) (q3 (q0 (getP_enc v_TX c_TU k_TX uu a e4) (Eq.refl true) (Eq.refl true) (show 1 ≠ 7 from by decide)) (q3 tr (pm_same v_TX c_TU k_TX true ks0 [(v_TX x_k, 2)] (m := uu) (k := a) e4)))))
     ·cases h
  ·cases h
def lock_clash_v (r : (Bool)) : LV := .bool r
def lock_clash (a b : Int) : Option ((Bool)) :=
 if ((a == 2) : Bool) then
  some true
 else
  some (b == 2)
theorem lock_clash_ok (a b : Int) (r : (Bool)) (h : lock_clash a b = some r) : ∀ σ, Inj 0 σ → FnTri Tryz.prog 86 (renL σ [.int .u8 a, .int .u8 b]) (preOf σ 0 []) ((lock_clash_v r).ren σ) (upOf σ []) := by
 refine fo_ Tryz.func86 trivial trivial ?_
 intro w0 W μ0 hμ
 unfold lock_clash at h
 rcases it_ h with ⟨c1, h⟩ | ⟨c1, h⟩
 ·obtain rfl := si_ h
  exact rr_ [] 15 [.reg [], .reg [(2, hT)]]
   (q28 (r2_ (f_ c1 (t2_ (r2_ tr)))))
 ·obtain rfl := si_ h
  exact rr_ [] 15 [.reg [], .reg [(2, hF)]]
   (q28 (r2_ (f_ c1 (r4_ tr))))
theorem lock_clash_tri (a b : Int) (r : (Bool)) (h : lock_clash a b = some r) : FnTri Tryz.prog 86 [.int .u8 a, .int .u8 b] [] (lock_clash_v r) [] := FnTri.none (lock_clash_ok a b r h) rfl rfl
def mb_Len64_v (r : (Int)) : LV := .int .i64 r
def mb_Len64_c9 (y8 : Int) : Option ((Int)) :=
 if 0 ≤ (IntKind.wrap .u8 y8) ∧ (IntKind.wrap .u8 y8) < (((tb_).length : Nat) : Int) then
 (some ((tb_.getD ((IntKind.wrap .u8 y8)).toNat 0).toNat : Int)).bind fun y2 =>
 (some (IntKind.wrap .i64 (56 + (IntKind.wrap .i64 y2)))).bind fun y4 =>
 some y4
 else none
def mb_Len64 (x : Int) : Option ((Int)) :=
 if ((decide (4294967296 ≤ x)) : Bool) then
  (some (Int.fdiv x (2 ^ (min (Int.toNat 32) (IntKind.bits .u64))))).bind fun y2 =>
  if ((decide (65536 ≤ y2)) : Bool) then
   (some (Int.fdiv y2 (2 ^ (min (Int.toNat 16) (IntKind.bits .u64))))).bind fun y5 =>
   if ((decide (256 ≤ y5)) : Bool) then
    (some (Int.fdiv y5 (2 ^ (min (Int.toNat 8) (IntKind.bits .u64))))).bind fun y8 =>
    mb_Len64_c9 y8
   else
    if 0 ≤ (IntKind.wrap .u8 y5) ∧ (IntKind.wrap .u8 y5) < (((tb_).length : Nat) : Int) then
    (some ((tb_.getD ((IntKind.wrap .u8 y5)).toNat 0).toNat : Int)).bind fun y9 =>
    (some (IntKind.wrap .i64 (48 + (IntKind.wrap .i64 y9)))).bind fun y11 =>
    some y11
    else none
  else
   if ((decide (256 ≤ y2)) : Bool) then
    (some (Int.fdiv y2 (2 ^ (min (Int.toNat 8) (IntKind.bits .u64))))).bind fun y6 =>
    if 0 ≤ (IntKind.wrap .u8 y6) ∧ (IntKind.wrap .u8 y6) < (((tb_).length : Nat) : Int) then
    (some ((tb_.getD ((IntKind.wrap .u8 y6)).toNat 0).toNat : Int)).bind fun y9 =>
    (some (IntKind.wrap .i64 (40 + (IntKind.wrap .i64 y9)))).bind fun y11 =>
    some y11
    else none
   else
    if 0 ≤ (IntKind.wrap .u8 y2) ∧ (IntKind.wrap .u8 y2) < (((tb_).length : Nat) : Int) then
    (some ((tb_.getD ((IntKind.wrap .u8 y2)).toNat 0).toNat : Int)).bind fun y7 =>
    (some (IntKind.wrap .i64 (32 + (IntKind.wrap .i64 y7)))).bind fun y9 =>
    some y9
    else none
 else
  if ((decide (65536 ≤ x)) : Bool) then
   (some (Int.fdiv x (2 ^ (min (Int.toNat 16) (IntKind.bits .u64))))).bind fun y3 =>
   if ((decide (256 ≤ y3)) : Bool) then
    (some (Int.fdiv y3 (2 ^ (min (Int.toNat 8) (IntKind.bits .u64))))).bind fun y6 =>
    if 0 ≤ (IntKind.wrap .u8 y6) ∧ (IntKind.wrap .u8 y6) < (((tb_).length : Nat) : Int) then
    (some ((tb_.getD ((IntKind.wrap .u8 y6)).toNat 0).toNat : Int)).bind fun y9 =>
    (some (IntKind.wrap .i64 (24 + (IntKind.wrap .i64 y9)))).bind fun y11 =>
    some y11
    else none
   else
    if 0 ≤ (IntKind.wrap .u8 y3) ∧ (IntKind.wrap .u8 y3) < (((tb_).length : Nat) : Int) then
    (some ((tb_.getD ((IntKind.wrap .u8 y3)).toNat 0).toNat : Int)).bind fun y7 =>
    (some (IntKind.wrap .i64 (16 + (IntKind.wrap .i64 y7)))).bind fun y9 =>
    some y9
    else none
  else
   if ((decide (256 ≤ x)) : Bool) then
    (some (Int.fdiv x (2 ^ (min (Int.toNat 8) (IntKind.bits .u64))))).bind fun y4 =>
    if 0 ≤ (IntKind.wrap .u8 y4) ∧ (IntKind.wrap .u8 y4) < (((tb_).length : Nat) : Int) then
    (some ((tb_.getD ((IntKind.wrap .u8 y4)).toNat 0).toNat : Int)).bind fun y7 =>
    some (IntKind.wrap .i64 (8 + (IntKind.wrap .i64 y7)))
    else none
   else
    if 0 ≤ (IntKind.wrap .u8 x) ∧ (IntKind.wrap .u8 x) < (((tb_).length : Nat) : Int) then
    (some ((tb_.getD ((IntKind.wrap .u8 x)).toNat 0).toNat : Int)).bind fun y5 =>
    some (IntKind.wrap .i64 (0 + (IntKind.wrap .i64 y5)))
    else none
abbrev mb_Len64_K1000009 (y8 : Int) (r : (Int)) : Prop := Kt_ w0 W μ0 Tryz.f110 0 0 (mb_Len64_v r) [] (kAtR (bodyOf Tryz.f110) 9) ((.int .u64 y8) :: .any :: (.int .i64 48) :: n_ 22 []) []
theorem mb_Len64_c9_ok {w0 W μ0} (hμ : Lt_ μ0 0) (y8 : Int) (r : (Int)) (h : mb_Len64_c9 y8 = some r) : mb_Len64_K1000009 w0 W μ0 y8 r := by
 unfold mb_Len64_c9 at h
 obtain ⟨G1, h⟩ := gs_ h
 obtain ⟨y2, E3, h⟩ := bs_ h
 obtain ⟨y4, E5, h⟩ := bs_ h
 obtain rfl := si_ h
 exact rr_ [] 14 [.reg [], .reg [(3, hv_ (.int .u8 y2)), (5, hv_ (.int .i64 y4))]]
  (q9 (q2 tr) (q2 (q5 G1 (le_nm (LV.int .u8) E3) (q21 (le_nm (LV.int .i64) E5)))))
theorem mb_Len64_ok (x : Int) (r : (Int)) (h : mb_Len64 x = some r) : ∀ σ, Inj 0 σ → FnTri Tryz.prog 110 (renL σ [.int .u64 x]) (preOf σ 0 []) ((mb_Len64_v r).ren σ) (upOf σ []) := by
 refine fo_ Tryz.func110 trivial trivial ?_
 intro w0 W μ0 hμ
 unfold mb_Len64 at h
 rcases it_ h with ⟨c1, h⟩ | ⟨c1, h⟩
 ·obtain ⟨y2, e3, h⟩ := bs_ h
  rcases it_ h with ⟨c4, h⟩ | ⟨c4, h⟩
  ·obtain ⟨y5, e6, h⟩ := bs_ h
   rcases it_ h with ⟨c7, h⟩ | ⟨c7, h⟩
   ·obtain ⟨y8, e9, h⟩ := bs_ h
    exact rt_ hμ [] 40 [.reg [], .reg [(1, hT)], .reg [(1, hv_ (.int .u64 y2))], .reg [], .reg [(1, hT)], .reg [(1, hv_ (.int .u64 y5))], .reg [], .reg [(1, hT)], .reg [(1, hv_ (.int .u64 y8))]]
     (q25 tr (f_ c1 tr) (r1_ (q5 (lei_ 0 32 rfl) (le_nm (LV.int .u64) e3) tr)) (q25 tr (f_ c4 tr) (r1_ (q5 (lei_ 0 16 rfl) (le_nm (LV.int .u64) e6) tr)) (q7 (q2 tr) (f_ c7 tr) (r1_ (q5 (lei_ 0 8 rfl) (le_nm (LV.int .u64) e9) tr)) tr))) (mb_Len64_c9_ok hμ y8 r h) trivial
   ·obtain ⟨g8, h⟩ := gs_ h
    obtain ⟨y9, e10, h⟩ := bs_ h
    obtain ⟨y11, e12, h⟩ := bs_ h
    obtain rfl := si_ h
    exact rr_ [] 41 [.reg [], .reg [(1, hT)], .reg [(1, hv_ (.int .u64 y2))], .reg [], .reg [(1, hT)], .reg [(1, hv_ (.int .u64 y5))], .reg [], .reg [(1, hF)], .reg [(3, hv_ (.int .u8 y9)), (5, hv_ (.int .i64 y11))]]
     (q10 (f_ c1 tr) (q5 (lei_ 0 32 rfl) (le_nm (LV.int .u64) e3) tr) (q25 tr (f_ c4 tr) (r1_ (q5 (lei_ 0 16 rfl) (le_nm (LV.int .u64) e6) tr)) (q7 (q2 tr) (f_ c7 tr) (q2 (q5 g8 (le_nm (LV.int .u8) e10) (q21 (le_nm (LV.int .i64) e12)))) tr)))
  ·rcases it_ h with ⟨c5, h⟩ | ⟨c5, h⟩
   ·obtain ⟨y6, e7, h⟩ := bs_ h
    obtain ⟨g8, h⟩ := gs_ h
    obtain ⟨y9, e10, h⟩ := bs_ h
    obtain ⟨y11, e12, h⟩ := bs_ h
    obtain rfl := si_ h
    exact rr_ [] 41 [.reg [], .reg [(1, hT)], .reg [(1, hv_ (.int .u64 y2))], .reg [], .reg [(1, hF)], .reg [(1, hT)], .reg [(1, hv_ (.int .u64 y6))], .reg [], .reg [(3, hv_ (.int .u8 y9)), (5, hv_ (.int .i64 y11))]]
     (q10 (f_ c1 tr) (q5 (lei_ 0 32 rfl) (le_nm (LV.int .u64) e3) tr) (q25 tr (f_ c4 tr) (r1_ (f_ c5 tr)) (q0 (r1_ (q5 (lei_ 0 8 rfl) (le_nm (LV.int .u64) e7) tr)) (q2 tr) (q2 (q5 g8 (le_nm (LV.int .u8) e10) (q21 (le_nm (LV.int .i64) e12)))) tr)))
   ·obtain ⟨g6, h⟩ := gs_ h
    obtain ⟨y7, e8, h⟩ := bs_ h
    obtain ⟨y9, e10, h⟩ := bs_ h
    obtain rfl := si_ h
    exact rr_ [] 37 [.reg [], .reg [(1, hT)], .reg [(1, hv_ (.int .u64 y2))], .reg [], .reg [(1, hF)], .reg [(1, hF)], .reg [(3, hv_ (.int .u8 y7)), (5, hv_ (.int .i64 y9))]]
     (q10 (f_ c1 tr) (q5 (lei_ 0 32 rfl) (le_nm (LV.int .u64) e3) tr) (q25 tr (f_ c4 tr) (r1_ (f_ c5 tr)) (q17 (q5 g6 (le_nm (LV.int .u8) e8) (q21 (le_nm (LV.int .i64) e10))))))
 ·rcases it_ h with ⟨c2, h⟩ | ⟨c2, h⟩
  ·obtain ⟨y3, e4, h⟩ := bs_ h
   rcases it_ h with ⟨c5, h⟩ | ⟨c5, h⟩
   ·obtain ⟨y6, e7, h⟩ := bs_ h
    obtain ⟨g8, h⟩ := gs_ h
    obtain ⟨y9, e10, h⟩ := bs_ h
    obtain ⟨y11, e12, h⟩ := bs_ h
    obtain rfl := si_ h
    exact rr_ [] 41 [.reg [], .reg [(1, hF)], .reg [(1, hT)], .reg [(1, hv_ (.int .u64 y3))], .reg [], .reg [(1, hT)], .reg [(1, hv_ (.int .u64 y6))], .reg [], .reg [(3, hv_ (.int .u8 y9)), (5, hv_ (.int .i64 y11))]]
     (q10 (f_ c1 tr) (f_ c2 tr) (q11 (r1_ (q5 (lei_ 0 16 rfl) (le_nm (LV.int .u64) e4) tr)) (q2 tr) (f_ c5 tr) (q0 (r1_ (q5 (lei_ 0 8 rfl) (le_nm (LV.int .u64) e7) tr)) (q2 tr) (q2 (q5 g8 (le_nm (LV.int .u8) e10) (q21 (le_nm (LV.int .i64) e12)))) tr)))
   ·obtain ⟨g6, h⟩ := gs_ h
    obtain ⟨y7, e8, h⟩ := bs_ h
    obtain ⟨y9, e10, h⟩ := bs_ h
    obtain rfl := si_ h
    exact rr_ [] 37 [.reg [], .reg [(1, hF)], .reg [(1, hT)], .reg [(1, hv_ (.int .u64 y3))], .reg [], .reg [(1, hF)], .reg [(3, hv_ (.int .u8 y7)), (5, hv_ (.int .i64 y9))]]
     (q10 (f_ c1 tr) (f_ c2 tr) (q11 (r1_ (q5 (lei_ 0 16 rfl) (le_nm (LV.int .u64) e4) tr)) (q2 tr) (f_ c5 tr) (q17 (q5 g6 (le_nm (LV.int .u8) e8) (q21 (le_nm (LV.int .i64) e10))))))
  ·rcases it_ h with ⟨c3, h⟩ | ⟨c3, h⟩
   ·obtain ⟨y4, e5, h⟩ := bs_ h
    obtain ⟨g6, h⟩ := gs_ h
    obtain ⟨y7, e8, h⟩ := bs_ h
    obtain rfl := si_ h
    exact rr_ [] 37 [.reg [], .reg [(1, hF)], .reg [(1, hF)], .reg [(1, hT)], .reg [(1, hv_ (.int .u64 y4))], .reg [], .reg [(3, hv_ (.int .u8 y7))]]
     (q10 (f_ c1 tr) (f_ c2 tr) (q25 (f_ c3 tr) (q5 (lei_ 0 8 rfl) (le_nm (LV.int .u64) e5) tr) (q2 tr) (q17 (a_ (q3 g6 (le_nm (LV.int .u8) e8)) (q2 tr)))))
   ·obtain ⟨g4, h⟩ := gs_ h
    obtain ⟨y5, e6, h⟩ := bs_ h
    obtain rfl := si_ h
    exact rr_ [] 33 [.reg [], .reg [(1, hF)], .reg [(1, hF)], .reg [(1, hF)], .reg [(3, hv_ (.int .u8 y5))]]
     (q10 (f_ c1 tr) (f_ c2 tr) (q27 (f_ c3 tr) (q2 (a_ (q3 g4 (le_nm (LV.int .u8) e6)) (q2 tr)))))
theorem mb_Len64_tri (x : Int) (r : (Int)) (h : mb_Len64 x = some r) : FnTri Tryz.prog 110 [.int .u64 x] [] (mb_Len64_v r) [] := FnTri.none (mb_Len64_ok x r h) rfl rfl
def mb_Len_v (r : (Int)) : LV := .int .i64 r
def mb_Len (x : Int) : Option ((Int)) :=
 (mb_Len64 x).bind fun y2 =>
 some y2
theorem mb_Len_ok (x : Int) (r : (Int)) (h : mb_Len x = some r) : ∀ σ, Inj 0 σ → FnTri Tryz.prog 83 (renL σ [.int .u64 x]) (preOf σ 0 []) ((mb_Len_v r).ren σ) (upOf σ []) := by
 refine fo_ Tryz.func83 trivial trivial ?_
 intro w0 W μ0 hμ
 unfold mb_Len at h
 obtain ⟨y2, e1, h⟩ := bs_ h
 obtain rfl := si_ h
 exact rr_ [] 18 [.reg [], .reg [(1, hC (mb_Len64_v y2))]]
  (q28 (r1_ (c_ (mb_Len64_tri x y2 e1) (r1_ tr))))
theorem mb_Len_tri (x : Int) (r : (Int)) (h : mb_Len x = some r) : FnTri Tryz.prog 83 [.int .u64 x] [] (mb_Len_v r) [] := FnTri.none (mb_Len_ok x r h) rfl rfl
def lT_age_2_v (r : (Int)) : LV := .int .i64 r
def lT_age_2_up (uu : UT) (hh ww : PT) (r : (Int)) : Upd := [(0, some (.var [.map 1, .map 2, .map 3])), (1, some (oP1 uu [])), (2, some (oM3 hh)), (3, some (oM3 ww))]
def lT_age_2_objs (uu : UT) (hh ww : PT) : List LO := [.var [.map 1, .map 2, .map 3], oP1 uu [], oM3 hh, oM3 ww]
def lT_age_2 (uu : UT) (hh ww : PT) (a b : TX) : Option ((Int)) :=
 if (((mget uu a).isSome) : Bool) then
  (mget uu a).bind fun y2 =>
  if ((decide (b = a)) : Bool) then
   (ids_Stamps y2.f_stamp y2.f_stamp).bind fun y6 =>
   some y6
  else
   if (((mget uu b).isSome) : Bool) then
    (mget uu b).bind fun y7 =>
    (ids_Stamps y2.f_stamp y7.f_stamp).bind fun y10 =>
    some y10
   else
    none
 else
  none
theorem lT_age_2_ok (uu : UT) (hh ww : PT) (a b : TX) (r : (Int)) (h : lT_age_2 uu hh ww a b = some r) : ∀ σ, Inj 4 σ → FnTri Tryz.prog 53 (renL σ [.ptr 0 0 0, v_TX a, v_TX b]) (preOf σ 0 (lT_age_2_objs uu hh ww)) ((lT_age_2_v r).ren σ) (upOf σ (lT_age_2_up uu hh ww r)) := by
 refine fo_ Tryz.func53 ⟨rfl, uP, trivial, trivial, trivial⟩ ⟨rfl, uP, trivial, trivial, trivial⟩ ?_
 intro w0 W μ0 hμ
 unfold lT_age_2 at h
 rcases it_ h with ⟨c1, h⟩ | ⟨c1, h⟩
 ·obtain ⟨y2, e3, h⟩ := bs_ h
  rcases it_ h with ⟨c4, h⟩ | ⟨c4, h⟩
  ·obtain ⟨y6, e5, h⟩ := bs_ h
   obtain rfl := si_ h
   exact rr_ [] 18 [.reg [], .x (.p (.po 1 (v_TX a) (c_TU y2))), .reg [(5, { look := some (.ptr 6 0 0) }), (14, { look := some (.ptr 6 0 0) }), (18, hC (ids_Stamps_v y6))], .x (.p (.pc 1)), .wk [] [(1, oP1 uu [])]]
    (q16 (q2 tr) (a_ (pmIn v_TX c_TU e3) (pmO0 v_TX a)) (q2 (l_ 0 3 rfl (m_ 3 3 rfl (a_ (a_ (a_ (Eq.refl true) (a_ (pmSi v_TX c_TU k_TX uu a (isS e3)) (List.mem_cons_self (a := ((v_TX a, 6) : LV × Nat)) (l := [])))) tr) (r2_ (m_ 4 5 rfl (r1_ (r2_ (l_ 0 3 rfl (m_ 3 3 rfl (a_ (a_ (a_ (Eq.refl true) (a_ (pmSe v_TX c_TU k_TX uu c4 (isS e3)) (pmM v_TX c4 6 []))) tr) (r2_ (m_ 4 5 rfl (c_ (ids_Stamps_tri y2.f_stamp y2.f_stamp y6 e5) (r1_ tr))))))))))))))) (q3 (q0 (getP_enc v_TX c_TU k_TX uu a e3) (Eq.refl true) (Eq.refl true) (show 1 ≠ 6 from by decide)) (q3 tr (pm_same v_TX c_TU k_TX true ks0 [] (m := uu) (k := a) e3))))
  ·rcases it_ h with ⟨c5, h⟩ | ⟨c5, h⟩
   ·obtain ⟨y7, e8, h⟩ := bs_ h
    obtain ⟨y10, e9, h⟩ := bs_ h
    obtain rfl := si_ h
    exact rr_ [] 21 [.reg [], .x (.p (.po 1 (v_TX a) (c_TU y2))), .x (.p (.po 1 (v_TX b) (c_TU y7))), .reg [(5, { look := some (.ptr 6 0 0) }), (14, { look := some (.ptr 7 0 0) }), (18, hC (ids_Stamps_v y10))], .x (.p (.pc 1)), .wk [] [(1, oP1 uu [(v_TX a, 6)])], .x (.p (.pc 1)), .wk [] [(1, oP1 uu [])]]
     (q16 (q2 tr) (a_ (pmIn v_TX c_TU e3) (pmO0 v_TX a)) (a_ (pmIn v_TX c_TU e8) (pmO1 (s' := 6) v_TX k_TX c4 (pmO0 v_TX b))) (q0 (q2 (l_ 0 3 rfl (m_ 3 3 rfl (a_ (a_ (a_ (Eq.refl true) (a_ (pmSi v_TX c_TU k_TX uu a (isS e3)) (List.mem_cons_of_mem (v_TX b, 7) (List.mem_cons_self (a := ((v_TX a, 6) : LV × Nat)) (l := []))))) tr) (r2_ (m_ 4 5 rfl (r1_ (r2_ (l_ 0 3 rfl (m_ 3 3 rfl (a_ (a_ (a_ (Eq.refl true) (a_ (pmSi v_TX c_TU k_TX uu b (isS e8)) (List.mem_cons_self (a := ((v_TX b, 7) : LV × Nat)) (l := [(v_TX a, 6)])))) tr) (r2_ (m_ 4 5 rfl (c_ (ids_Stamps_tri y2.f_stamp y7.f_stamp y10 e9) (r1_ tr))))))))))))))) (q0 (getP_enc v_TX c_TU k_TX uu b e8) (Eq.refl true) (Eq.refl true) (show 1 ≠ 7 from by decide)) (q3 tr (pm_same v_TX c_TU k_TX true ks0 [(v_TX a, 6)] (m := uu) (k := b) e8)) (q3 (q0 (getP_enc v_TX c_TU k_TX uu a e3) (Eq.refl true) (Eq.refl true) (show 1 ≠ 6 from by decide)) (q3 tr (pm_same v_TX c_TU k_TX true ks0 [] (m := uu) (k := a) e3)))))
   ·cases h
 ·cases h
def slices_nextPowerOfTwo_v (r : (Int)) : LV := .int .u64 r
def slices_nextPowerOfTwo (length : Int) : Option ((Int)) :=
 (mb_Len (IntKind.wrap .u64 length)).bind fun y2 =>
 if 0 ≤ y2 then
 (some (IntKind.wrap .u64 (1 * 2 ^ (min (Int.toNat y2) (IntKind.bits .u64))))).bind fun y4 =>
 some y4
 else none
theorem slices_nextPowerOfTwo_ok (length : Int) (r : (Int)) (h : slices_nextPowerOfTwo length = some r) : ∀ σ, Inj 0 σ → FnTri Tryz.prog 118 (renL σ [.int .i64 length]) (preOf σ 0 []) ((slices_nextPowerOfTwo_v r).ren σ) (upOf σ []) := by
 refine fo_ Tryz.func118 trivial trivial ?_
 intro w0 W μ0 hμ
 unfold slices_nextPowerOfTwo at h
 obtain ⟨y2, e1, h⟩ := bs_ h
 obtain ⟨g3, h⟩ := gs_ h
 obtain ⟨y4, e5, h⟩ := bs_ h
 obtain rfl := si_ h
 exact rr_ [] 15 [.reg [], .reg [(2, hC (mb_Len_v y2)), (3, hv_ (.int .u64 y4))]]
  (q28 (r2_ (a_ (q6 (mb_Len_tri (IntKind.wrap .u64 length) y2 e1)) (q5 g3 (le_nm (LV.int .u64) e5) tr))))
theorem slices_nextPowerOfTwo_tri (length : Int) (r : (Int)) (h : slices_nextPowerOfTwo length = some r) : FnTri Tryz.prog 118 [.int .i64 length] [] (slices_nextPowerOfTwo_v r) [] := FnTri.none (slices_nextPowerOfTwo_ok length r h) rfl rfl
def slices_xorshift_Next_v (r : (Int) × (Int)) : LV := .int .u64 r.1
def slices_xorshift_Next_up (r : (Int) × (Int)) : Upd := [(0, some (.var [.int .u64 r.2]))]
def slices_xorshift_Next_objs (x_r : Int) : List LO := [.var [.int .u64 x_r]]
def slices_xorshift_Next (x_r : Int) : Option ((Int) × (Int)) :=
 (some (IntKind.wrap .u64 (x_r * 2 ^ (min (Int.toNat 13) (IntKind.bits .u64))))).bind fun y1 =>
 (some (IntKind.wrap .u64 ((BitVec.ofInt (IntKind.bits .u64) x_r ^^^ BitVec.ofInt (IntKind.bits .u64) y1).toNat : Int))).bind fun y3 =>
 (some (Int.fdiv y3 (2 ^ (min (Int.toNat 7) (IntKind.bits .u64))))).bind fun y5 =>
 (some (IntKind.wrap .u64 ((BitVec.ofInt (IntKind.bits .u64) y3 ^^^ BitVec.ofInt (IntKind.bits .u64) y5).toNat : Int))).bind fun y7 =>
 (some (IntKind.wrap .u64 (y7 * 2 ^ (min (Int.toNat 17) (IntKind.bits .u64))))).bind fun y9 =>
 (some (IntKind.wrap .u64 ((BitVec.ofInt (IntKind.bits .u64) y7 ^^^ BitVec.ofInt (IntKind.bits .u64) y9).toNat : Int))).bind fun y11 =>
 some (y11, y11)
theorem slices_xorshift_Next_ok (x_r : Int) (r : (Int) × (Int)) (h : slices_xorshift_Next x_r = some r) : ∀ σ, Inj 1 σ → FnTri Tryz.prog 119 (renL σ [.ptr 0 0 0]) (preOf σ 0 (slices_xorshift_Next_objs x_r)) ((slices_xorshift_Next_v r).ren σ) (upOf σ (slices_xorshift_Next_up r)) := by
 refine fo_ Tryz.func119 ⟨rfl, trivial⟩ ⟨rfl, trivial⟩ ?_
 intro w0 W μ0 hμ
 unfold slices_xorshift_Next at h
 obtain ⟨y1, e2, h⟩ := bs_ h
 obtain ⟨y3, e4, h⟩ := bs_ h
 obtain ⟨y5, e6, h⟩ := bs_ h
 obtain ⟨y7, e8, h⟩ := bs_ h
 obtain ⟨y9, e10, h⟩ := bs_ h
 obtain ⟨y11, e12, h⟩ := bs_ h
 obtain rfl := si_ h
 exact rr_ [] 24 [.reg [], .reg [(6, hv_ (.int .u64 y1)), (7, hv_ (.int .u64 y3))], .reg [(6, hv_ (.int .u64 y5)), (7, hv_ (.int .u64 y7))], .reg [(6, hv_ (.int .u64 y9)), (7, hv_ (.int .u64 y11))], .reg []]
  (q16 (r1_ tr) (r2_ (l_ 0 1 rfl (r2_ (l_ 0 1 rfl (a_ (a_ (lei_ 0 13 rfl) (a_ (le_nm (LV.int .u64) e2) tr)) (a_ (a_ tr (a_ (le_nm (LV.int .u64) e4) tr)) (r1_ (a_ (a_ (a_ (Eq.refl 1) (a_ (le_ 1 1 rfl) (Eq.refl 0))) tr) tr)))))))) (r2_ (l_ 0 1 rfl (r2_ (l_ 0 1 rfl (a_ (a_ (lei_ 0 7 rfl) (a_ (le_nm (LV.int .u64) e6) tr)) (a_ (a_ tr (a_ (le_nm (LV.int .u64) e8) tr)) (r1_ (a_ (a_ (a_ (Eq.refl 1) (a_ (le_ 1 1 rfl) (Eq.refl 0))) tr) tr)))))))) (q3 (r2_ (l_ 0 1 rfl (r2_ (l_ 0 1 rfl (a_ (a_ (lei_ 0 17 rfl) (a_ (le_nm (LV.int .u64) e10) tr)) (a_ (a_ tr (a_ (le_nm (LV.int .u64) e12) tr)) (r1_ (a_ (a_ (a_ (Eq.refl 1) (a_ (le_ 1 1 rfl) (Eq.refl 0))) tr) tr)))))))) (r2_ (l_ 0 1 rfl (r1_ tr)))))
def sFA_v (r : (List (TX))) : LV := .tup []
def sFA_up (uu : UT) (hh ww : PT) (r : (List (TX))) : Upd := [(0, some (.gr 3 (r).length (rowF c_TX default r))), (1, some (.var [.map 2, .map 3, .map 4])), (2, some (oP1 uu [])), (3, some (oM3 hh)), (4, some (oM3 ww))]
def sFA_objs (x : List (TX)) (uu : UT) (hh ww : PT) : List LO := [.gr 3 (x).length (rowF c_TX default x), .var [.map 2, .map 3, .map 4], oP1 uu [], oM3 hh, oM3 ww]
def sIN_c2 (bb : Bool) (data : LE bb) (a b : Int) (uu : UT) (hh ww : PT) (i : Int) (l2 : LE bb) (k0 : (Int) → (LE bb) → Option ((LE bb))) : Option ((LE bb)) :=
 k0 (IntKind.wrap .i64 (i + 1)) l2
def sIN_c6 (bb : Bool) (data : LE bb) (a b : Int) (uu : UT) (hh ww : PT) (i j : Int) (l2 : LE bb) (k1 : (Int) → (LE bb) → Option ((LE bb))) : Option ((LE bb)) :=
 if 0 ≤ (IntKind.wrap .i64 (j - 1)) ∧ (IntKind.wrap .i64 (j - 1)) < (((l2).length : Nat) : Int) then
 (some (l2.getD ((IntKind.wrap .i64 (j - 1))).toNat default)).bind fun y2 =>
 if 0 ≤ j ∧ j < (((l2).length : Nat) : Int) then
 if ((IntKind.wrap .i64 (j - 1))).toNat < ((l2.set j.toNat y2)).length then
 (some ((l2.set j.toNat y2).set ((IntKind.wrap .i64 (j - 1))).toNat (l2.getD j.toNat default))).bind fun y6 =>
 k1 (IntKind.wrap .i64 (j - 1)) y6
 else none
 else none
 else none
def sCB_l0 (s1 s2 : A8 (Int)) : Nat → (Int) → Option ((Int))
 | 0, _ => none
 | fuel + 1, t11 =>
  if ((decide (t11 < 8)) : Bool) then
   if 0 ≤ t11 ∧ t11 < 8 then
   if ((decide (8 ≤ t11)) : Bool) then
    some 1
   else
    (cmp_Compare_uint8 (A8.get s1 t11.toNat) (A8.get s2 t11.toNat)).bind fun y5 =>
    if ((y5 != 0) : Bool) then
     some y5
    else
     sCB_l0 s1 s2 fuel (IntKind.wrap .i64 (t11 + 1))
   else none
  else
   some 0
def sCB (s1 s2 : A8 (Int)) : Option ((Int)) :=
 sCB_l0 s1 s2 big 0
def ids_Keys (a b : A8 (Int)) : Option ((Int)) :=
 (sCB a b).bind fun y2 =>
 some y2
def lT_order (uu : UT) (hh ww : PT) (a b : TL) : Option ((Int)) :=
 (ids_Keys a.f_key b.f_key).bind fun y2 =>
 (lT_age_2 uu hh ww a.f_tx b.f_tx).bind fun y4 =>
 (cmp_Or_int ([y2, y4] : List (Int))).bind fun y6 =>
 some y6
def cmp_ : (bb : Bool) → (uu : UT) → (hh : PT) → (ww : PT) → (a : (E_ bb)) → (b : (E_ bb)) → Option ((Int))
 | false => lT_age_2
 | true => lT_order
def sIN_l1 (bb : Bool) (data : LE bb) (a b : Int) (uu : UT) (hh ww : PT) (i : Int) (k0 : (Int) → (LE bb) → Option ((LE bb))) : Nat → (Int) → (LE bb) → Option ((LE bb))
 | 0, _, _ => none
 | fuel + 1, j, l2 =>
  if ((decide (a < j)) : Bool) then
   if 0 ≤ j ∧ j < (((l2).length : Nat) : Int) then
   if 0 ≤ (IntKind.wrap .i64 (j - 1)) ∧ (IntKind.wrap .i64 (j - 1)) < (((l2).length : Nat) : Int) then
   (some (l2.getD ((IntKind.wrap .i64 (j - 1))).toNat default)).bind fun y4 =>
   (cmp_ bb uu hh ww (l2.getD j.toNat default) y4).bind fun y7 =>
   if ((decide (y7 < 0)) : Bool) then
    sIN_c6 bb data a b uu hh ww i j l2 (sIN_l1 bb data a b uu hh ww i k0 fuel)
   else
    sIN_c2 bb data a b uu hh ww i l2 k0
   else none
   else none
  else
   k0 (IntKind.wrap .i64 (i + 1)) l2
def sIN_l0 (bb : Bool) (data : LE bb) (a b : Int) (uu : UT) (hh ww : PT) : Nat → (Int) → (LE bb) → Option ((LE bb))
 | 0, _, _ => none
 | fuel + 1, i, l =>
  if ((decide (i < b)) : Bool) then
   sIN_l1 bb data a b uu hh ww i (sIN_l0 bb data a b uu hh ww fuel) big i l
  else
   some l
def sIN (bb : Bool) (data : LE bb) (a b : Int) (uu : UT) (hh ww : PT) : Option ((LE bb)) :=
 sIN_l0 bb data a b uu hh ww big (IntKind.wrap .i64 (a + 1)) data
def sSD_c4 (bb : Bool) (data : LE bb) (lo hi first : Int) (uu : UT) (hh ww : PT) (root : Int) (l : LE bb) (y1 : Int) (k0 : (Int) → (LE bb) → Option ((LE bb))) : Option ((LE bb)) :=
 if 0 ≤ (IntKind.wrap .i64 (first + root)) ∧ (IntKind.wrap .i64 (first + root)) < (((l).length : Nat) : Int) then
 (some (l.getD ((IntKind.wrap .i64 (first + root))).toNat default)).bind fun y2 =>
 (some (IntKind.wrap .i64 (first + (IntKind.wrap .i64 (y1 + 1))))).bind fun y4 =>
 if 0 ≤ y4 ∧ y4 < (((l).length : Nat) : Int) then
 (cmp_ bb uu hh ww y2 (l.getD y4.toNat default)).bind fun y8 =>
 if ((!(decide (y8 < 0))) : Bool) then
  some l
 else
  (some (l.set ((IntKind.wrap .i64 (first + root))).toNat (l.getD y4.toNat default))).bind fun y10 =>
  if y4.toNat < (y10).length then
  k0 (IntKind.wrap .i64 (y1 + 1)) (y10.set y4.toNat y2)
  else none
 else none
 else none
def sSD_c5 (bb : Bool) (data : LE bb) (lo hi first : Int) (uu : UT) (hh ww : PT) (root : Int) (l : LE bb) (y1 : Int) (k0 : (Int) → (LE bb) → Option ((LE bb))) : Option ((LE bb)) :=
 if 0 ≤ (IntKind.wrap .i64 (first + root)) ∧ (IntKind.wrap .i64 (first + root)) < (((l).length : Nat) : Int) then
 (some (l.getD ((IntKind.wrap .i64 (first + root))).toNat default)).bind fun y2 =>
 if 0 ≤ (IntKind.wrap .i64 (first + y1)) ∧ (IntKind.wrap .i64 (first + y1)) < (((l).length : Nat) : Int) then
 (some (l.getD ((IntKind.wrap .i64 (first + y1))).toNat default)).bind fun y5 =>
 (cmp_ bb uu hh ww y2 y5).bind fun y8 =>
 if ((!(decide (y8 < 0))) : Bool) then
  some l
 else
  (some (l.set ((IntKind.wrap .i64 (first + root))).toNat y5)).bind fun y10 =>
  if ((IntKind.wrap .i64 (first + y1))).toNat < (y10).length then
  (some (y10.set ((IntKind.wrap .i64 (first + y1))).toNat y2)).bind fun y13 =>
  k0 y1 y13
  else none
 else none
 else none
def sSD_c6 (bb : Bool) (data : LE bb) (lo hi first : Int) (uu : UT) (hh ww : PT) (root : Int) (l : LE bb) (y1 : Int) (k0 : (Int) → (LE bb) → Option ((LE bb))) : Option ((LE bb)) :=
 if 0 ≤ (IntKind.wrap .i64 (first + y1)) ∧ (IntKind.wrap .i64 (first + y1)) < (((l).length : Nat) : Int) then
 (some (l.getD ((IntKind.wrap .i64 (first + y1))).toNat default)).bind fun y2 =>
 if 0 ≤ (IntKind.wrap .i64 (first + root)) ∧ (IntKind.wrap .i64 (first + root)) < (((l).length : Nat) : Int) then
 (some (l.getD ((IntKind.wrap .i64 (first + root))).toNat default)).bind fun y5 =>
 (some (l.set ((IntKind.wrap .i64 (first + root))).toNat y2)).bind fun y7 =>
 if ((IntKind.wrap .i64 (first + y1))).toNat < (y7).length then
 (some (y7.set ((IntKind.wrap .i64 (first + y1))).toNat y5)).bind fun y10 =>
 k0 y1 y10
 else none
 else none
 else none
def sSD_l0 (bb : Bool) (data : LE bb) (lo hi first : Int) (uu : UT) (hh ww : PT) : Nat → (Int) → (LE bb) → Option ((LE bb))
 | 0, _, _ => none
 | fuel + 1, root, l =>
  (some (IntKind.wrap .i64 ((IntKind.wrap .i64 (2 * root)) + 1))).bind fun y1 =>
  if ((decide (hi ≤ y1)) : Bool) then
   some l
  else
   if ((decide ((IntKind.wrap .i64 (y1 + 1)) < hi)) : Bool) then
    if 0 ≤ (IntKind.wrap .i64 (first + y1)) ∧ (IntKind.wrap .i64 (first + y1)) < (((l).length : Nat) : Int) then
    (some (l.getD ((IntKind.wrap .i64 (first + y1))).toNat default)).bind fun y6 =>
    (some (IntKind.wrap .i64 ((IntKind.wrap .i64 (first + y1)) + 1))).bind fun y8 =>
    if 0 ≤ y8 ∧ y8 < (((l).length : Nat) : Int) then
    (cmp_ bb uu hh ww y6 (l.getD y8.toNat default)).bind fun y12 =>
    if ((decide (y12 < 0)) : Bool) then
     sSD_c4 bb data lo hi first uu hh ww root l y1 (sSD_l0 bb data lo hi first uu hh ww fuel)
    else
     sSD_c5 bb data lo hi first uu hh ww root l y1 (sSD_l0 bb data lo hi first uu hh ww fuel)
    else none
    else none
   else
    if 0 ≤ (IntKind.wrap .i64 (first + root)) ∧ (IntKind.wrap .i64 (first + root)) < (((l).length : Nat) : Int) then
    (some (l.getD ((IntKind.wrap .i64 (first + root))).toNat default)).bind fun y6 =>
    if 0 ≤ (IntKind.wrap .i64 (first + y1)) ∧ (IntKind.wrap .i64 (first + y1)) < (((l).length : Nat) : Int) then
    (some (l.getD ((IntKind.wrap .i64 (first + y1))).toNat default)).bind fun y9 =>
    (cmp_ bb uu hh ww y6 y9).bind fun y12 =>
    if ((!(decide (y12 < 0))) : Bool) then
     some l
    else
     sSD_c6 bb data lo hi first uu hh ww root l y1 (sSD_l0 bb data lo hi first uu hh ww fuel)
    else none
    else none
def sSD (bb : Bool) (data : LE bb) (lo hi first : Int) (uu : UT) (hh ww : PT) : Option ((LE bb)) :=
 sSD_l0 bb data lo hi first uu hh ww big lo data
def sHP_l1 (bb : Bool) (data : LE bb) (a b : Int) (uu : UT) (hh ww : PT) : Nat → (Int) → (LE bb) → Option ((LE bb))
 | 0, _, _ => none
 | fuel + 1, i2, l2 =>
  if ((decide (0 ≤ i2)) : Bool) then
   if 0 ≤ (IntKind.wrap .i64 (a + i2)) ∧ (IntKind.wrap .i64 (a + i2)) < (((l2).length : Nat) : Int) then
   (some (l2.getD ((IntKind.wrap .i64 (a + i2))).toNat default)).bind fun y3 =>
   if 0 ≤ a ∧ a < (((l2).length : Nat) : Int) then
   if ((IntKind.wrap .i64 (a + i2))).toNat < ((l2.set a.toNat y3)).length then
   (some ((l2.set a.toNat y3).set ((IntKind.wrap .i64 (a + i2))).toNat (l2.getD a.toNat default))).bind fun y7 =>
   (sSD bb y7 0 i2 a uu hh ww).bind fun y10 =>
   if (l2).length = (y10).length then
   sHP_l1 bb data a b uu hh ww fuel (IntKind.wrap .i64 (i2 - 1)) y10
   else none
   else none
   else none
   else none
  else
   some l2
def sHP_l0 (bb : Bool) (data : LE bb) (a b : Int) (uu : UT) (hh ww : PT) : Nat → (Int) → (LE bb) → Option ((LE bb))
 | 0, _, _ => none
 | fuel + 1, i, l =>
  if ((decide (0 ≤ i)) : Bool) then
   (sSD bb l i (IntKind.wrap .i64 (b - a)) a uu hh ww).bind fun y3 =>
   if (l).length = (y3).length then
   sHP_l0 bb data a b uu hh ww fuel (IntKind.wrap .i64 (i - 1)) y3
   else none
  else
   (some (IntKind.wrap .i64 ((IntKind.wrap .i64 (b - a)) - 1))).bind fun y2 =>
   sHP_l1 bb data a b uu hh ww big y2 l
def sHP (bb : Bool) (data : LE bb) (a b : Int) (uu : UT) (hh ww : PT) : Option ((LE bb)) :=
 (some (IntKind.wrap .i64 ((IntKind.wrap .i64 (b - a)) - 1))).bind fun y1 =>
 sHP_l0 bb data a b uu hh ww big (IntKind.wrap .i64 (Int.tdiv y1 2)) data
def sBP_c9 (bb : Bool) (data : LE bb) (a b : Int) (uu : UT) (hh ww : PT) (idx : Int) (l : LE bb) (y3 : (Int)) (y7 : (Int) × (Int)) (yL0_8 : Int) (k0 : (Int) → (LE bb) → (Int) → Option ((LE bb))) : Option ((LE bb)) :=
 (some (IntKind.wrap .i64 ((IntKind.wrap .i64 yL0_8) - (IntKind.wrap .i64 (b - a))))).bind fun y1 =>
 if 0 ≤ (IntKind.wrap .i64 (a + y1)) ∧ (IntKind.wrap .i64 (a + y1)) < (((l).length : Nat) : Int) then
 (some (l.getD ((IntKind.wrap .i64 (a + y1))).toNat default)).bind fun y4 =>
 if 0 ≤ idx ∧ idx < (((l).length : Nat) : Int) then
 if ((IntKind.wrap .i64 (a + y1))).toNat < ((l.set idx.toNat y4)).length then
 (some ((l.set idx.toNat y4).set ((IntKind.wrap .i64 (a + y1))).toNat (l.getD idx.toNat default))).bind fun yC9_8 =>
 k0 (IntKind.wrap .i64 (idx + 1)) yC9_8 y7.2
 else none
 else none
 else none
def sBP_c10 (bb : Bool) (data : LE bb) (a b : Int) (uu : UT) (hh ww : PT) (idx : Int) (l : LE bb) (y3 : (Int)) (y7 : (Int) × (Int)) (y8 : Int) (k0 : (Int) → (LE bb) → (Int) → Option ((LE bb))) : Option ((LE bb)) :=
 (some (IntKind.wrap .i64 (a + (IntKind.wrap .i64 y8)))).bind fun y1 =>
 if 0 ≤ y1 ∧ y1 < (((l).length : Nat) : Int) then
 if 0 ≤ idx ∧ idx < (((l).length : Nat) : Int) then
 if y1.toNat < ((l.set idx.toNat (l.getD y1.toNat default))).length then
 (some ((l.set idx.toNat (l.getD y1.toNat default)).set y1.toNat (l.getD idx.toNat default))).bind fun y6 =>
 k0 (IntKind.wrap .i64 (idx + 1)) y6 y7.2
 else none
 else none
 else none
def sBP_l0 (bb : Bool) (data : LE bb) (a b : Int) (uu : UT) (hh ww : PT) (y3 : (Int)) : Nat → (Int) → (LE bb) → (Int) → Option ((LE bb))
 | 0, _, _, _ => none
 | fuel + 1, idx, l, x =>
  (some (IntKind.wrap .i64 (Int.tdiv (IntKind.wrap .i64 (b - a)) 4))).bind fun y1 =>
  (some (IntKind.wrap .i64 (a + (IntKind.wrap .i64 (y1 * 2))))).bind fun yL0_3 =>
  if ((decide (idx ≤ (IntKind.wrap .i64 (yL0_3 + 1)))) : Bool) then
   (slices_xorshift_Next x).bind fun y7 =>
   (some (IntKind.wrap .u64 ((BitVec.ofInt (IntKind.bits .u64) y7.1 &&& BitVec.ofInt (IntKind.bits .u64) (IntKind.wrap .u64 (y3 - 1))).toNat : Int))).bind fun y8 =>
   if ((decide ((IntKind.wrap .i64 (b - a)) ≤ (IntKind.wrap .i64 y8))) : Bool) then
    sBP_c9 bb data a b uu hh ww idx l y3 y7 y8 (sBP_l0 bb data a b uu hh ww y3 fuel)
   else
    sBP_c10 bb data a b uu hh ww idx l y3 y7 y8 (sBP_l0 bb data a b uu hh ww y3 fuel)
  else
   some l
def sBP (bb : Bool) (data : LE bb) (a b : Int) (uu : UT) (hh ww : PT) : Option ((LE bb)) :=
 if ((decide (8 ≤ (IntKind.wrap .i64 (b - a)))) : Bool) then
  (slices_nextPowerOfTwo (IntKind.wrap .i64 (b - a))).bind fun y3 =>
  (some (IntKind.wrap .i64 (Int.tdiv (IntKind.wrap .i64 (b - a)) 4))).bind fun y4 =>
  (some (IntKind.wrap .i64 (a + (IntKind.wrap .i64 (y4 * 2))))).bind fun y6 =>
  sBP_l0 bb data a b uu hh ww y3 big (IntKind.wrap .i64 (y6 - 1)) data (IntKind.wrap .u64 (IntKind.wrap .i64 (b - a)))
 else
  some data
def sO2 (bb : Bool) (data : LE bb) (a b swaps : Int) (uu : UT) (hh ww : PT) : Option ((Int) × (Int) × (Int)) :=
 if 0 ≤ b ∧ b < (((data).length : Nat) : Int) then
 if 0 ≤ a ∧ a < (((data).length : Nat) : Int) then
 (cmp_ bb uu hh ww (data.getD b.toNat default) (data.getD a.toNat default)).bind fun y4 =>
 if ((decide (y4 < 0)) : Bool) then
  some (b, a, (IntKind.wrap .i64 (swaps + 1)))
 else
  some (a, b, swaps)
 else none
 else none
def sME (bb : Bool) (data : LE bb) (a b : Int) (c swaps : Int) (uu : UT) (hh ww : PT) : Option ((Int) × (Int)) :=
 (sO2 bb data a b swaps uu hh ww).bind fun y2 =>
 (sO2 bb data y2.2.1 c y2.2.2 uu hh ww).bind fun y4 =>
 (sO2 bb data y2.1 y4.1 y4.2.2 uu hh ww).bind fun y6 =>
 some (y6.2.1, y6.2.2)
def sMA (bb : Bool) (data : LE bb) (a swaps : Int) (uu : UT) (hh ww : PT) : Option ((Int) × (Int)) :=
 (sME bb data (IntKind.wrap .i64 (a - 1)) a (IntKind.wrap .i64 (a + 1)) swaps uu hh ww).bind fun y2 =>
 some (y2.1, y2.2)
def sCP_c17 (bb : Bool) (data : LE bb) (a b : Int) (uu : UT) (hh ww : PT) (y8 : (Int) × (Int)) : Option ((Int) × (Int)) :=
 some (y8.1, 2)
def sCP_c13 (bb : Bool) (data : LE bb) (a b : Int) (uu : UT) (hh ww : PT) (y8 : (Int) × (Int)) : Option ((Int) × (Int)) :=
 some (y8.1, 0)
def sCP_c8 (bb : Bool) (data : LE bb) (a b : Int) (uu : UT) (hh ww : PT) (y3 y5 y7 : Int) : Option ((Int) × (Int)) :=
 (sMA bb data y3 0 uu hh ww).bind fun y2 =>
 (sMA bb data y5 y2.2 uu hh ww).bind fun y4 =>
 (sMA bb data y7 y4.2 uu hh ww).bind fun y6 =>
 (sME bb data y2.1 y4.1 y6.1 y6.2 uu hh ww).bind fun y8 =>
 if ((y8.2 == 0) : Bool) then
  some (y8.1, 1)
 else
  if ((y8.2 == 12) : Bool) then
   sCP_c17 bb data a b uu hh ww y8
  else
   sCP_c13 bb data a b uu hh ww y8
def sCP_c1017 (bb : Bool) (data : LE bb) (a b : Int) (uu : UT) (hh ww : PT) (y2 : (Int) × (Int)) : Option ((Int) × (Int)) :=
 some (y2.1, 2)
def sCP_c1013 (bb : Bool) (data : LE bb) (a b : Int) (uu : UT) (hh ww : PT) (y2 : (Int) × (Int)) : Option ((Int) × (Int)) :=
 some (y2.1, 0)
def sCP_c11 (bb : Bool) (data : LE bb) (a b : Int) (uu : UT) (hh ww : PT) (y3 y5 y7 : Int) : Option ((Int) × (Int)) :=
 (sME bb data y3 y5 y7 0 uu hh ww).bind fun y2 =>
 if ((y2.2 == 0) : Bool) then
  some (y2.1, 1)
 else
  if ((y2.2 == 12) : Bool) then
   sCP_c1017 bb data a b uu hh ww y2
  else
   sCP_c1013 bb data a b uu hh ww y2
def sCP (bb : Bool) (data : LE bb) (a b : Int) (uu : UT) (hh ww : PT) : Option ((Int) × (Int)) :=
 (some (IntKind.wrap .i64 (Int.tdiv (IntKind.wrap .i64 (b - a)) 4))).bind fun y1 =>
 (some (IntKind.wrap .i64 (a + (IntKind.wrap .i64 (y1 * 1))))).bind fun y3 =>
 (some (IntKind.wrap .i64 (a + (IntKind.wrap .i64 (y1 * 2))))).bind fun y5 =>
 (some (IntKind.wrap .i64 (a + (IntKind.wrap .i64 (y1 * 3))))).bind fun y7 =>
 if ((decide (8 ≤ (IntKind.wrap .i64 (b - a)))) : Bool) then
  if ((decide (50 ≤ (IntKind.wrap .i64 (b - a)))) : Bool) then
   sCP_c8 bb data a b uu hh ww y3 y5 y7
  else
   sCP_c11 bb data a b uu hh ww y3 y5 y7
 else
  some (y5, 1)
def sRR_l0 (bb : Bool) (data : LE bb) (a b : Int) (uu : UT) (hh ww : PT) : Nat → (Int) → (Int) → (LE bb) → Option ((LE bb))
 | 0, _, _, _ => none
 | fuel + 1, i, j, l =>
  if ((decide (i < j)) : Bool) then
   if 0 ≤ j ∧ j < (((l).length : Nat) : Int) then
   if 0 ≤ i ∧ i < (((l).length : Nat) : Int) then
   if j.toNat < ((l.set i.toNat (l.getD j.toNat default))).length then
   (some ((l.set i.toNat (l.getD j.toNat default)).set j.toNat (l.getD i.toNat default))).bind fun y5 =>
   sRR_l0 bb data a b uu hh ww fuel (IntKind.wrap .i64 (i + 1)) (IntKind.wrap .i64 (j - 1)) y5
   else none
   else none
   else none
  else
   some l
def sRR (bb : Bool) (data : LE bb) (a b : Int) (uu : UT) (hh ww : PT) : Option ((LE bb)) :=
 sRR_l0 bb data a b uu hh ww big a (IntKind.wrap .i64 (b - 1)) data
def sPI_c4 (bb : Bool) (data : LE bb) (a b : Int) (uu : UT) (hh ww : PT) (j i2 : Int) (l4 : LE bb) (k0 : (Int) → (Int) → (LE bb) → Option ((Bool) × (LE bb))) : Option ((Bool) × (LE bb)) :=
 k0 i2 (IntKind.wrap .i64 (j + 1)) l4
def sPI_c23 (bb : Bool) (data : LE bb) (a b : Int) (uu : UT) (hh ww : PT) (j i2 j3 : Int) (l4 : LE bb) (k3 : (Int) → (LE bb) → Option ((Bool) × (LE bb))) : Option ((Bool) × (LE bb)) :=
 if 0 ≤ (IntKind.wrap .i64 (j3 - 1)) ∧ (IntKind.wrap .i64 (j3 - 1)) < (((l4).length : Nat) : Int) then
 (some (l4.getD ((IntKind.wrap .i64 (j3 - 1))).toNat default)).bind fun y2 =>
 if 0 ≤ j3 ∧ j3 < (((l4).length : Nat) : Int) then
 if ((IntKind.wrap .i64 (j3 - 1))).toNat < ((l4.set j3.toNat y2)).length then
 (some ((l4.set j3.toNat y2).set ((IntKind.wrap .i64 (j3 - 1))).toNat (l4.getD j3.toNat default))).bind fun y6 =>
 k3 (IntKind.wrap .i64 (j3 + 1)) y6
 else none
 else none
 else none
def sPI_l3 (bb : Bool) (data : LE bb) (a b : Int) (uu : UT) (hh ww : PT) (j i2 : Int) (k0 : (Int) → (Int) → (LE bb) → Option ((Bool) × (LE bb))) : Nat → (Int) → (LE bb) → Option ((Bool) × (LE bb))
 | 0, _, _ => none
 | fuel + 1, j3, l4 =>
  if ((decide (j3 < b)) : Bool) then
   if 0 ≤ j3 ∧ j3 < (((l4).length : Nat) : Int) then
   if 0 ≤ (IntKind.wrap .i64 (j3 - 1)) ∧ (IntKind.wrap .i64 (j3 - 1)) < (((l4).length : Nat) : Int) then
   (some (l4.getD ((IntKind.wrap .i64 (j3 - 1))).toNat default)).bind fun y4 =>
   (cmp_ bb uu hh ww (l4.getD j3.toNat default) y4).bind fun y7 =>
   if ((!(decide (y7 < 0))) : Bool) then
    sPI_c4 bb data a b uu hh ww j i2 l4 k0
   else
    sPI_c23 bb data a b uu hh ww j i2 j3 l4 (sPI_l3 bb data a b uu hh ww j i2 k0 fuel)
   else none
   else none
  else
   k0 i2 (IntKind.wrap .i64 (j + 1)) l4
def sPI_c17 (bb : Bool) (data : LE bb) (a b : Int) (uu : UT) (hh ww : PT) (j i2 j2 : Int) (l3 : LE bb) (k2 : (Int) → (LE bb) → Option ((Bool) × (LE bb))) : Option ((Bool) × (LE bb)) :=
 if 0 ≤ (IntKind.wrap .i64 (j2 - 1)) ∧ (IntKind.wrap .i64 (j2 - 1)) < (((l3).length : Nat) : Int) then
 (some (l3.getD ((IntKind.wrap .i64 (j2 - 1))).toNat default)).bind fun y2 =>
 if 0 ≤ j2 ∧ j2 < (((l3).length : Nat) : Int) then
 if ((IntKind.wrap .i64 (j2 - 1))).toNat < ((l3.set j2.toNat y2)).length then
 (some ((l3.set j2.toNat y2).set ((IntKind.wrap .i64 (j2 - 1))).toNat (l3.getD j2.toNat default))).bind fun y6 =>
 k2 (IntKind.wrap .i64 (j2 - 1)) y6
 else none
 else none
 else none
def sPI_c18 (bb : Bool) (data : LE bb) (a b : Int) (uu : UT) (hh ww : PT) (j i2 : Int) (l3 : LE bb) (k0 : (Int) → (Int) → (LE bb) → Option ((Bool) × (LE bb))) : Option ((Bool) × (LE bb)) :=
 if ((decide (2 ≤ (IntKind.wrap .i64 (b - i2)))) : Bool) then
  sPI_l3 bb data a b uu hh ww j i2 k0 big (IntKind.wrap .i64 (i2 + 1)) l3
 else
  k0 i2 (IntKind.wrap .i64 (j + 1)) l3
def sPI_l2 (bb : Bool) (data : LE bb) (a b : Int) (uu : UT) (hh ww : PT) (j i2 : Int) (k0 : (Int) → (Int) → (LE bb) → Option ((Bool) × (LE bb))) : Nat → (Int) → (LE bb) → Option ((Bool) × (LE bb))
 | 0, _, _ => none
 | fuel + 1, j2, l3 =>
  if ((decide (1 ≤ j2)) : Bool) then
   if 0 ≤ j2 ∧ j2 < (((l3).length : Nat) : Int) then
   if 0 ≤ (IntKind.wrap .i64 (j2 - 1)) ∧ (IntKind.wrap .i64 (j2 - 1)) < (((l3).length : Nat) : Int) then
   (some (l3.getD ((IntKind.wrap .i64 (j2 - 1))).toNat default)).bind fun y4 =>
   (cmp_ bb uu hh ww (l3.getD j2.toNat default) y4).bind fun y7 =>
   if ((!(decide (y7 < 0))) : Bool) then
    sPI_c18 bb data a b uu hh ww j i2 l3 k0
   else
    sPI_c17 bb data a b uu hh ww j i2 j2 l3 (sPI_l2 bb data a b uu hh ww j i2 k0 fuel)
   else none
   else none
  else
   if ((decide (2 ≤ (IntKind.wrap .i64 (b - i2)))) : Bool) then
    sPI_l3 bb data a b uu hh ww j i2 k0 big (IntKind.wrap .i64 (i2 + 1)) l3
   else
    k0 i2 (IntKind.wrap .i64 (j + 1)) l3
def sPI_c12 (bb : Bool) (data : LE bb) (a b : Int) (uu : UT) (hh ww : PT) (j i2 : Int) (k0 : (Int) → (Int) → (LE bb) → Option ((Bool) × (LE bb))) (l2 : LE bb) : Option ((Bool) × (LE bb)) :=
 if ((decide (2 ≤ (IntKind.wrap .i64 (i2 - a)))) : Bool) then
  sPI_l2 bb data a b uu hh ww j i2 k0 big (IntKind.wrap .i64 (i2 - 1)) l2
 else
  if ((decide (2 ≤ (IntKind.wrap .i64 (b - i2)))) : Bool) then
   sPI_l3 bb data a b uu hh ww j i2 k0 big (IntKind.wrap .i64 (i2 + 1)) l2
  else
   k0 i2 (IntKind.wrap .i64 (j + 1)) l2
def sPI_c6 (bb : Bool) (data : LE bb) (a b : Int) (uu : UT) (hh ww : PT) (j : Int) (l : LE bb) (i2 : Int) (k1 : (Int) → Option ((Bool) × (LE bb))) : Option ((Bool) × (LE bb)) :=
 k1 (IntKind.wrap .i64 (i2 + 1))
def sPI_c7 (bb : Bool) (data : LE bb) (a b : Int) (uu : UT) (hh ww : PT) (j : Int) (l : LE bb) (i2 : Int) (k0 : (Int) → (Int) → (LE bb) → Option ((Bool) × (LE bb))) : Option ((Bool) × (LE bb)) :=
 if ((i2 == b) : Bool) then
  some (true, l)
 else
  if ((decide ((IntKind.wrap .i64 (b - a)) < 50)) : Bool) then
   some (false, l)
  else
   if 0 ≤ (IntKind.wrap .i64 (i2 - 1)) ∧ (IntKind.wrap .i64 (i2 - 1)) < (((l).length : Nat) : Int) then
   (some (l.getD ((IntKind.wrap .i64 (i2 - 1))).toNat default)).bind fun y4 =>
   if 0 ≤ i2 ∧ i2 < (((l).length : Nat) : Int) then
   if ((IntKind.wrap .i64 (i2 - 1))).toNat < ((l.set i2.toNat y4)).length then
   (some ((l.set i2.toNat y4).set ((IntKind.wrap .i64 (i2 - 1))).toNat (l.getD i2.toNat default))).bind fun y8 =>
   sPI_c12 bb data a b uu hh ww j i2 k0 y8
   else none
   else none
   else none
def sPI_l1 (bb : Bool) (data : LE bb) (a b : Int) (uu : UT) (hh ww : PT) (j : Int) (l : LE bb) (k0 : (Int) → (Int) → (LE bb) → Option ((Bool) × (LE bb))) : Nat → (Int) → Option ((Bool) × (LE bb))
 | 0, _ => none
 | fuel + 1, i2 =>
  if ((decide (i2 < b)) : Bool) then
   if 0 ≤ i2 ∧ i2 < (((l).length : Nat) : Int) then
   if 0 ≤ (IntKind.wrap .i64 (i2 - 1)) ∧ (IntKind.wrap .i64 (i2 - 1)) < (((l).length : Nat) : Int) then
   (some (l.getD ((IntKind.wrap .i64 (i2 - 1))).toNat default)).bind fun y4 =>
   (cmp_ bb uu hh ww (l.getD i2.toNat default) y4).bind fun y7 =>
   if ((!(decide (y7 < 0))) : Bool) then
    sPI_c6 bb data a b uu hh ww j l i2 (sPI_l1 bb data a b uu hh ww j l k0 fuel)
   else
    sPI_c7 bb data a b uu hh ww j l i2 k0
   else none
   else none
  else
   if ((i2 == b) : Bool) then
    some (true, l)
   else
    if ((decide ((IntKind.wrap .i64 (b - a)) < 50)) : Bool) then
     some (false, l)
    else
     if 0 ≤ (IntKind.wrap .i64 (i2 - 1)) ∧ (IntKind.wrap .i64 (i2 - 1)) < (((l).length : Nat) : Int) then
     (some (l.getD ((IntKind.wrap .i64 (i2 - 1))).toNat default)).bind fun y5 =>
     if 0 ≤ i2 ∧ i2 < (((l).length : Nat) : Int) then
     if ((IntKind.wrap .i64 (i2 - 1))).toNat < ((l.set i2.toNat y5)).length then
     (some ((l.set i2.toNat y5).set ((IntKind.wrap .i64 (i2 - 1))).toNat (l.getD i2.toNat default))).bind fun y9 =>
     sPI_c12 bb data a b uu hh ww j i2 k0 y9
     else none
     else none
     else none
def sPI_l0 (bb : Bool) (data : LE bb) (a b : Int) (uu : UT) (hh ww : PT) : Nat → (Int) → (Int) → (LE bb) → Option ((Bool) × (LE bb))
 | 0, _, _, _ => none
 | fuel + 1, i, j, l =>
  if ((decide (j < 5)) : Bool) then
   sPI_l1 bb data a b uu hh ww j l (sPI_l0 bb data a b uu hh ww fuel) big i
  else
   some (false, l)
def sPI (bb : Bool) (data : LE bb) (a b : Int) (uu : UT) (hh ww : PT) : Option ((Bool) × (LE bb)) :=
 sPI_l0 bb data a b uu hh ww big (IntKind.wrap .i64 (a + 1)) 0 data
def sPE_c9 (bb : Bool) (data : LE bb) (a b pivot : Int) (uu : UT) (hh ww : PT) (i2 j2 : Int) (y6 : LE bb) (k0 : (Int) → (Int) → (LE bb) → Option ((Int) × (LE bb))) : Option ((Int) × (LE bb)) :=
 k0 (IntKind.wrap .i64 (i2 + 1)) (IntKind.wrap .i64 (j2 - 1)) y6
def sPE_c6 (bb : Bool) (data : LE bb) (a b pivot : Int) (uu : UT) (hh ww : PT) (l : LE bb) (i2 j2 : Int) (k2 : (Int) → Option ((Int) × (LE bb))) : Option ((Int) × (LE bb)) :=
 k2 (IntKind.wrap .i64 (j2 - 1))
def sPE_c7 (bb : Bool) (data : LE bb) (a b pivot : Int) (uu : UT) (hh ww : PT) (l : LE bb) (i2 j2 : Int) (k0 : (Int) → (Int) → (LE bb) → Option ((Int) × (LE bb))) : Option ((Int) × (LE bb)) :=
 if ((decide (j2 < i2)) : Bool) then
  some (i2, l)
 else
  if 0 ≤ j2 ∧ j2 < (((l).length : Nat) : Int) then
  if 0 ≤ i2 ∧ i2 < (((l).length : Nat) : Int) then
  if j2.toNat < ((l.set i2.toNat (l.getD j2.toNat default))).length then
  (some ((l.set i2.toNat (l.getD j2.toNat default)).set j2.toNat (l.getD i2.toNat default))).bind fun y5 =>
  k0 (IntKind.wrap .i64 (i2 + 1)) (IntKind.wrap .i64 (j2 - 1)) y5
  else none
  else none
  else none
def sPE_l2 (bb : Bool) (data : LE bb) (a b pivot : Int) (uu : UT) (hh ww : PT) (l : LE bb) (i2 : Int) (k0 : (Int) → (Int) → (LE bb) → Option ((Int) × (LE bb))) : Nat → (Int) → Option ((Int) × (LE bb))
 | 0, _ => none
 | fuel + 1, j2 =>
  if ((decide (i2 ≤ j2)) : Bool) then
   if 0 ≤ a ∧ a < (((l).length : Nat) : Int) then
   if 0 ≤ j2 ∧ j2 < (((l).length : Nat) : Int) then
   (cmp_ bb uu hh ww (l.getD a.toNat default) (l.getD j2.toNat default)).bind fun y5 =>
   if ((decide (y5 < 0)) : Bool) then
    sPE_c6 bb data a b pivot uu hh ww l i2 j2 (sPE_l2 bb data a b pivot uu hh ww l i2 k0 fuel)
   else
    sPE_c7 bb data a b pivot uu hh ww l i2 j2 k0
   else none
   else none
  else
   if ((decide (j2 < i2)) : Bool) then
    some (i2, l)
   else
    if 0 ≤ j2 ∧ j2 < (((l).length : Nat) : Int) then
    if 0 ≤ i2 ∧ i2 < (((l).length : Nat) : Int) then
    if j2.toNat < ((l.set i2.toNat (l.getD j2.toNat default))).length then
    (some ((l.set i2.toNat (l.getD j2.toNat default)).set j2.toNat (l.getD i2.toNat default))).bind fun y6 =>
    sPE_c9 bb data a b pivot uu hh ww i2 j2 y6 k0
    else none
    else none
    else none
def sPE_c4 (bb : Bool) (data : LE bb) (a b pivot : Int) (uu : UT) (hh ww : PT) (j : Int) (l : LE bb) (i2 : Int) (k1 : (Int) → Option ((Int) × (LE bb))) : Option ((Int) × (LE bb)) :=
 k1 (IntKind.wrap .i64 (i2 + 1))
def sPE_l1 (bb : Bool) (data : LE bb) (a b pivot : Int) (uu : UT) (hh ww : PT) (j : Int) (l : LE bb) (k0 : (Int) → (Int) → (LE bb) → Option ((Int) × (LE bb))) : Nat → (Int) → Option ((Int) × (LE bb))
 | 0, _ => none
 | fuel + 1, i2 =>
  if ((decide (i2 ≤ j)) : Bool) then
   if 0 ≤ a ∧ a < (((l).length : Nat) : Int) then
   if 0 ≤ i2 ∧ i2 < (((l).length : Nat) : Int) then
   (cmp_ bb uu hh ww (l.getD a.toNat default) (l.getD i2.toNat default)).bind fun y5 =>
   if ((!(decide (y5 < 0))) : Bool) then
    sPE_c4 bb data a b pivot uu hh ww j l i2 (sPE_l1 bb data a b pivot uu hh ww j l k0 fuel)
   else
    sPE_l2 bb data a b pivot uu hh ww l i2 k0 big j
   else none
   else none
  else
   sPE_l2 bb data a b pivot uu hh ww l i2 k0 big j
def sPE_l0 (bb : Bool) (data : LE bb) (a b pivot : Int) (uu : UT) (hh ww : PT) : Nat → (Int) → (Int) → (LE bb) → Option ((Int) × (LE bb))
 | 0, _, _, _ => none
 | fuel + 1, i, j, l =>
  sPE_l1 bb data a b pivot uu hh ww j l (sPE_l0 bb data a b pivot uu hh ww fuel) big i
def sPE (bb : Bool) (data : LE bb) (a b pivot : Int) (uu : UT) (hh ww : PT) : Option ((Int) × (LE bb)) :=
 if 0 ≤ pivot ∧ pivot < (((data).length : Nat) : Int) then
 if 0 ≤ a ∧ a < (((data).length : Nat) : Int) then
 (some (data.set a.toNat (data.getD pivot.toNat default))).bind fun y3 =>
 if pivot.toNat < (y3).length then
 sPE_l0 bb data a b pivot uu hh ww big (IntKind.wrap .i64 (a + 1)) (IntKind.wrap .i64 (b - 1)) (y3.set pivot.toNat (data.getD a.toNat default))
 else none
 else none
 else none
def sPD_b_c18 (bb : Bool) (data : LE bb) (a b limit : Int) (uu : UT) (hh ww : PT) (self_ : (LE bb) → (Int) → (Int) → (Int) → (UT) → (PT) → (PT) → Option ((LE bb))) (a2 b2 : Int) (wasBalanced wasPartitioned : Bool) (k0 : (Int) → (Int) → (Int) → (Bool) → (Bool) → (LE bb) → Option ((LE bb))) (limit5 pivot3 : Int) (l4 : LE bb) : Option ((LE bb)) :=
 (sPE bb l4 a2 b2 pivot3 uu hh ww).bind fun y2 =>
 if (l4).length = (y2.2).length then
 k0 y2.1 b2 limit5 wasBalanced wasPartitioned y2.2
 else none
def sPA_c9 (bb : Bool) (data : LE bb) (a b pivot : Int) (uu : UT) (hh ww : PT) (j : Int) (y7 : (E_ bb)) (y10 : LE bb) : Option ((Int) × (Bool) × (LE bb)) :=
 some (j, true, (y10.set a.toNat y7))
def sPA_c16 (bb : Bool) (data : LE bb) (a b pivot : Int) (uu : UT) (hh ww : PT) (l : LE bb) (i3 j3 : Int) (k4 : (Int) → Option ((Int) × (Bool) × (LE bb))) : Option ((Int) × (Bool) × (LE bb)) :=
 k4 (IntKind.wrap .i64 (j3 - 1))
def sPA_c17 (bb : Bool) (data : LE bb) (a b pivot : Int) (uu : UT) (hh ww : PT) (l : LE bb) (i3 j3 : Int) (k2 : (Int) → (Int) → (LE bb) → Option ((Int) × (Bool) × (LE bb))) : Option ((Int) × (Bool) × (LE bb)) :=
 if ((decide (j3 < i3)) : Bool) then
  if 0 ≤ a ∧ a < (((l).length : Nat) : Int) then
  if 0 ≤ j3 ∧ j3 < (((l).length : Nat) : Int) then
  if a.toNat < ((l.set j3.toNat (l.getD a.toNat default))).length then
  (some ((l.set j3.toNat (l.getD a.toNat default)).set a.toNat (l.getD j3.toNat default))).bind fun y5 =>
  some (j3, false, y5)
  else none
  else none
  else none
 else
  if 0 ≤ j3 ∧ j3 < (((l).length : Nat) : Int) then
  if 0 ≤ i3 ∧ i3 < (((l).length : Nat) : Int) then
  if j3.toNat < ((l.set i3.toNat (l.getD j3.toNat default))).length then
  (some ((l.set i3.toNat (l.getD j3.toNat default)).set j3.toNat (l.getD i3.toNat default))).bind fun y5 =>
  k2 (IntKind.wrap .i64 (i3 + 1)) (IntKind.wrap .i64 (j3 - 1)) y5
  else none
  else none
  else none
def sPA_c19 (bb : Bool) (data : LE bb) (a b pivot : Int) (uu : UT) (hh ww : PT) (i3 j3 : Int) (y6 : LE bb) (k2 : (Int) → (Int) → (LE bb) → Option ((Int) × (Bool) × (LE bb))) : Option ((Int) × (Bool) × (LE bb)) :=
 k2 (IntKind.wrap .i64 (i3 + 1)) (IntKind.wrap .i64 (j3 - 1)) y6
def sPA_c22 (bb : Bool) (data : LE bb) (a b pivot : Int) (uu : UT) (hh ww : PT) (j3 : Int) (y6 : LE bb) : Option ((Int) × (Bool) × (LE bb)) :=
 some (j3, false, y6)
def sPA_l4 (bb : Bool) (data : LE bb) (a b pivot : Int) (uu : UT) (hh ww : PT) (l : LE bb) (i3 : Int) (k2 : (Int) → (Int) → (LE bb) → Option ((Int) × (Bool) × (LE bb))) : Nat → (Int) → Option ((Int) × (Bool) × (LE bb))
 | 0, _ => none
 | fuel + 1, j3 =>
  if ((decide (i3 ≤ j3)) : Bool) then
   if 0 ≤ j3 ∧ j3 < (((l).length : Nat) : Int) then
   if 0 ≤ a ∧ a < (((l).length : Nat) : Int) then
   (cmp_ bb uu hh ww (l.getD j3.toNat default) (l.getD a.toNat default)).bind fun y5 =>
   if ((!(decide (y5 < 0))) : Bool) then
    sPA_c16 bb data a b pivot uu hh ww l i3 j3 (sPA_l4 bb data a b pivot uu hh ww l i3 k2 fuel)
   else
    sPA_c17 bb data a b pivot uu hh ww l i3 j3 k2
   else none
   else none
  else
   if ((decide (j3 < i3)) : Bool) then
    if 0 ≤ a ∧ a < (((l).length : Nat) : Int) then
    if 0 ≤ j3 ∧ j3 < (((l).length : Nat) : Int) then
    if a.toNat < ((l.set j3.toNat (l.getD a.toNat default))).length then
    (some ((l.set j3.toNat (l.getD a.toNat default)).set a.toNat (l.getD j3.toNat default))).bind fun y6 =>
    sPA_c22 bb data a b pivot uu hh ww j3 y6
    else none
    else none
    else none
   else
    if 0 ≤ j3 ∧ j3 < (((l).length : Nat) : Int) then
    if 0 ≤ i3 ∧ i3 < (((l).length : Nat) : Int) then
    if j3.toNat < ((l.set i3.toNat (l.getD j3.toNat default))).length then
    (some ((l.set i3.toNat (l.getD j3.toNat default)).set j3.toNat (l.getD i3.toNat default))).bind fun y6 =>
    sPA_c19 bb data a b pivot uu hh ww i3 j3 y6 k2
    else none
    else none
    else none
def sPA_c14 (bb : Bool) (data : LE bb) (a b pivot : Int) (uu : UT) (hh ww : PT) (j2 : Int) (l : LE bb) (i3 : Int) (k3 : (Int) → Option ((Int) × (Bool) × (LE bb))) : Option ((Int) × (Bool) × (LE bb)) :=
 k3 (IntKind.wrap .i64 (i3 + 1))
def sPA_l3 (bb : Bool) (data : LE bb) (a b pivot : Int) (uu : UT) (hh ww : PT) (j2 : Int) (l : LE bb) (k2 : (Int) → (Int) → (LE bb) → Option ((Int) × (Bool) × (LE bb))) : Nat → (Int) → Option ((Int) × (Bool) × (LE bb))
 | 0, _ => none
 | fuel + 1, i3 =>
  if ((decide (i3 ≤ j2)) : Bool) then
   if 0 ≤ i3 ∧ i3 < (((l).length : Nat) : Int) then
   if 0 ≤ a ∧ a < (((l).length : Nat) : Int) then
   (cmp_ bb uu hh ww (l.getD i3.toNat default) (l.getD a.toNat default)).bind fun y5 =>
   if ((decide (y5 < 0)) : Bool) then
    sPA_c14 bb data a b pivot uu hh ww j2 l i3 (sPA_l3 bb data a b pivot uu hh ww j2 l k2 fuel)
   else
    sPA_l4 bb data a b pivot uu hh ww l i3 k2 big j2
   else none
   else none
  else
   sPA_l4 bb data a b pivot uu hh ww l i3 k2 big j2
def sPA_l2 (bb : Bool) (data : LE bb) (a b pivot : Int) (uu : UT) (hh ww : PT) : Nat → (Int) → (Int) → (LE bb) → Option ((Int) × (Bool) × (LE bb))
 | 0, _, _, _ => none
 | fuel + 1, i2, j2, l =>
  sPA_l3 bb data a b pivot uu hh ww j2 l (sPA_l2 bb data a b pivot uu hh ww fuel) big i2
def sPA_c11 (bb : Bool) (data : LE bb) (a b pivot : Int) (uu : UT) (hh ww : PT) (i j : Int) (y7 : (E_ bb)) (y10 : LE bb) : Option ((Int) × (Bool) × (LE bb)) :=
 sPA_l2 bb data a b pivot uu hh ww big (IntKind.wrap .i64 (i + 1)) (IntKind.wrap .i64 (j - 1)) (y10.set j.toNat y7)
def sPA_c6 (bb : Bool) (data : LE bb) (a b pivot : Int) (uu : UT) (hh ww : PT) (i j : Int) (y3 : LE bb) (k1 : (Int) → Option ((Int) × (Bool) × (LE bb))) : Option ((Int) × (Bool) × (LE bb)) :=
 k1 (IntKind.wrap .i64 (j - 1))
def sPA_c7 (bb : Bool) (data : LE bb) (a b pivot : Int) (uu : UT) (hh ww : PT) (i j : Int) (y3 : LE bb) : Option ((Int) × (Bool) × (LE bb)) :=
 if ((decide (j < i)) : Bool) then
  if 0 ≤ a ∧ a < ((((y3.set pivot.toNat (data.getD a.toNat default))).length : Nat) : Int) then
  (some ((y3.set pivot.toNat (data.getD a.toNat default)).getD a.toNat default)).bind fun yC7_3 =>
  if 0 ≤ j ∧ j < ((((y3.set pivot.toNat (data.getD a.toNat default))).length : Nat) : Int) then
  (some ((y3.set pivot.toNat (data.getD a.toNat default)).getD j.toNat default)).bind fun y6 =>
  (some ((y3.set pivot.toNat (data.getD a.toNat default)).set j.toNat yC7_3)).bind fun y8 =>
  if a.toNat < (y8).length then
  some (j, true, (y8.set a.toNat y6))
  else none
  else none
  else none
 else
  if 0 ≤ j ∧ j < ((((y3.set pivot.toNat (data.getD a.toNat default))).length : Nat) : Int) then
  (some ((y3.set pivot.toNat (data.getD a.toNat default)).getD j.toNat default)).bind fun yC7_3 =>
  if 0 ≤ i ∧ i < ((((y3.set pivot.toNat (data.getD a.toNat default))).length : Nat) : Int) then
  (some ((y3.set pivot.toNat (data.getD a.toNat default)).getD i.toNat default)).bind fun y6 =>
  (some ((y3.set pivot.toNat (data.getD a.toNat default)).set i.toNat yC7_3)).bind fun y8 =>
  if j.toNat < (y8).length then
  sPA_l2 bb data a b pivot uu hh ww big (IntKind.wrap .i64 (i + 1)) (IntKind.wrap .i64 (j - 1)) (y8.set j.toNat y6)
  else none
  else none
  else none
def sPA_l1 (bb : Bool) (data : LE bb) (a b pivot : Int) (uu : UT) (hh ww : PT) (i : Int) (y3 : LE bb) : Nat → (Int) → Option ((Int) × (Bool) × (LE bb))
 | 0, _ => none
 | fuel + 1, j =>
  if ((decide (i ≤ j)) : Bool) then
   if 0 ≤ j ∧ j < ((((y3.set pivot.toNat (data.getD a.toNat default))).length : Nat) : Int) then
   (some ((y3.set pivot.toNat (data.getD a.toNat default)).getD j.toNat default)).bind fun yL1_3 =>
   if 0 ≤ a ∧ a < ((((y3.set pivot.toNat (data.getD a.toNat default))).length : Nat) : Int) then
   (some ((y3.set pivot.toNat (data.getD a.toNat default)).getD a.toNat default)).bind fun y6 =>
   (cmp_ bb uu hh ww yL1_3 y6).bind fun y9 =>
   if ((!(decide (y9 < 0))) : Bool) then
    sPA_c6 bb data a b pivot uu hh ww i j y3 (sPA_l1 bb data a b pivot uu hh ww i y3 fuel)
   else
    sPA_c7 bb data a b pivot uu hh ww i j y3
   else none
   else none
  else
   if ((decide (j < i)) : Bool) then
    if 0 ≤ a ∧ a < ((((y3.set pivot.toNat (data.getD a.toNat default))).length : Nat) : Int) then
    (some ((y3.set pivot.toNat (data.getD a.toNat default)).getD a.toNat default)).bind fun y4 =>
    if 0 ≤ j ∧ j < ((((y3.set pivot.toNat (data.getD a.toNat default))).length : Nat) : Int) then
    (some ((y3.set pivot.toNat (data.getD a.toNat default)).getD j.toNat default)).bind fun y7 =>
    (some ((y3.set pivot.toNat (data.getD a.toNat default)).set j.toNat y4)).bind fun y10 =>
    if a.toNat < (y10).length then
    sPA_c9 bb data a b pivot uu hh ww j y7 y10
    else none
    else none
    else none
   else
    if 0 ≤ j ∧ j < ((((y3.set pivot.toNat (data.getD a.toNat default))).length : Nat) : Int) then
    (some ((y3.set pivot.toNat (data.getD a.toNat default)).getD j.toNat default)).bind fun y4 =>
    if 0 ≤ i ∧ i < ((((y3.set pivot.toNat (data.getD a.toNat default))).length : Nat) : Int) then
    (some ((y3.set pivot.toNat (data.getD a.toNat default)).getD i.toNat default)).bind fun y7 =>
    (some ((y3.set pivot.toNat (data.getD a.toNat default)).set i.toNat y4)).bind fun y10 =>
    if j.toNat < (y10).length then
    sPA_c11 bb data a b pivot uu hh ww i j y7 y10
    else none
    else none
    else none
def sPA_c4 (bb : Bool) (data : LE bb) (a b pivot : Int) (uu : UT) (hh ww : PT) (i : Int) (y3 : LE bb) (k0 : (Int) → Option ((Int) × (Bool) × (LE bb))) : Option ((Int) × (Bool) × (LE bb)) :=
 k0 (IntKind.wrap .i64 (i + 1))
def sPA_l0 (bb : Bool) (data : LE bb) (a b pivot : Int) (uu : UT) (hh ww : PT) (y3 : LE bb) : Nat → (Int) → Option ((Int) × (Bool) × (LE bb))
 | 0, _ => none
 | fuel + 1, i =>
  if ((decide (i ≤ (IntKind.wrap .i64 (b - 1)))) : Bool) then
   if 0 ≤ i ∧ i < ((((y3.set pivot.toNat (data.getD a.toNat default))).length : Nat) : Int) then
   (some ((y3.set pivot.toNat (data.getD a.toNat default)).getD i.toNat default)).bind fun yL0_3 =>
   if 0 ≤ a ∧ a < ((((y3.set pivot.toNat (data.getD a.toNat default))).length : Nat) : Int) then
   (some ((y3.set pivot.toNat (data.getD a.toNat default)).getD a.toNat default)).bind fun y6 =>
   (cmp_ bb uu hh ww yL0_3 y6).bind fun y9 =>
   if ((decide (y9 < 0)) : Bool) then
    sPA_c4 bb data a b pivot uu hh ww i y3 (sPA_l0 bb data a b pivot uu hh ww y3 fuel)
   else
    sPA_l1 bb data a b pivot uu hh ww i y3 big (IntKind.wrap .i64 (b - 1))
   else none
   else none
  else
   sPA_l1 bb data a b pivot uu hh ww i y3 big (IntKind.wrap .i64 (b - 1))
def sPA (bb : Bool) (data : LE bb) (a b pivot : Int) (uu : UT) (hh ww : PT) : Option ((Int) × (Bool) × (LE bb)) :=
 if 0 ≤ pivot ∧ pivot < (((data).length : Nat) : Int) then
 if 0 ≤ a ∧ a < (((data).length : Nat) : Int) then
 (some (data.set a.toNat (data.getD pivot.toNat default))).bind fun y3 =>
 if pivot.toNat < (y3).length then
 sPA_l0 bb data a b pivot uu hh ww y3 big (IntKind.wrap .i64 (a + 1))
 else none
 else none
 else none
def sPD_b_c20 (bb : Bool) (data : LE bb) (a b limit : Int) (uu : UT) (hh ww : PT) (self_ : (LE bb) → (Int) → (Int) → (Int) → (UT) → (PT) → (PT) → Option ((LE bb))) (a2 b2 : Int) (k0 : (Int) → (Int) → (Int) → (Bool) → (Bool) → (LE bb) → Option ((LE bb))) (limit6 pivot4 : Int) (l5 : LE bb) : Option ((LE bb)) :=
 (sPA bb l5 a2 b2 pivot4 uu hh ww).bind fun y2 =>
 (some (IntKind.wrap .i64 (Int.tdiv (IntKind.wrap .i64 (b2 - a2)) 8))).bind fun y3 =>
 if ((decide ((IntKind.wrap .i64 (y2.1 - a2)) < (IntKind.wrap .i64 (b2 - y2.1)))) : Bool) then
  if (l5).length = (y2.2.2).length then
  (self_ y2.2.2 a2 y2.1 limit6 uu hh ww).bind fun y8 =>
  if (l5).length = (y8).length then
  k0 (IntKind.wrap .i64 (y2.1 + 1)) b2 limit6 (decide (y3 ≤ (IntKind.wrap .i64 (y2.1 - a2)))) y2.2.1 y8
  else none
  else none
 else
  if (l5).length = (y2.2.2).length then
  (self_ y2.2.2 (IntKind.wrap .i64 (y2.1 + 1)) b2 limit6 uu hh ww).bind fun y8 =>
  if (l5).length = (y8).length then
  k0 a2 y2.1 limit6 (decide (y3 ≤ (IntKind.wrap .i64 (b2 - y2.1)))) y2.2.1 y8
  else none
  else none
def sPD_b_c16 (bb : Bool) (data : LE bb) (a b limit : Int) (uu : UT) (hh ww : PT) (self_ : (LE bb) → (Int) → (Int) → (Int) → (UT) → (PT) → (PT) → Option ((LE bb))) (a2 b2 : Int) (wasBalanced wasPartitioned : Bool) (k0 : (Int) → (Int) → (Int) → (Bool) → (Bool) → (LE bb) → Option ((LE bb))) (limit3 pivot : Int) (l2 : LE bb) : Option ((LE bb)) :=
 (sPI bb l2 a2 b2 uu hh ww).bind fun y2 =>
 if (y2.1 : Bool) then
  some y2.2
 else
  if ((decide (0 < a2)) : Bool) then
   if 0 ≤ (IntKind.wrap .i64 (a2 - 1)) ∧ (IntKind.wrap .i64 (a2 - 1)) < (((l2).length : Nat) : Int) then
   if ((IntKind.wrap .i64 (a2 - 1))).toNat < (y2.2).length then
   (some (y2.2.getD ((IntKind.wrap .i64 (a2 - 1))).toNat default)).bind fun y7 =>
   if 0 ≤ pivot ∧ pivot < (((l2).length : Nat) : Int) then
   if pivot.toNat < (y2.2).length then
   (cmp_ bb uu hh ww y7 (y2.2.getD pivot.toNat default)).bind fun y12 =>
   if ((!(decide (y12 < 0))) : Bool) then
    if (l2).length = (y2.2).length then
    sPD_b_c18 bb data a b limit uu hh ww self_ a2 b2 wasBalanced wasPartitioned k0 limit3 pivot y2.2
    else none
   else
    if (l2).length = (y2.2).length then
    sPD_b_c20 bb data a b limit uu hh ww self_ a2 b2 k0 limit3 pivot y2.2
    else none
   else none
   else none
   else none
   else none
  else
   if (l2).length = (y2.2).length then
   sPD_b_c20 bb data a b limit uu hh ww self_ a2 b2 k0 limit3 pivot y2.2
   else none
def sPD_b_c25 (bb : Bool) (data : LE bb) (a b limit : Int) (uu : UT) (hh ww : PT) (self_ : (LE bb) → (Int) → (Int) → (Int) → (UT) → (PT) → (PT) → Option ((LE bb))) (a2 b2 : Int) (k0 : (Int) → (Int) → (Int) → (Bool) → (Bool) → (LE bb) → Option ((LE bb))) (limit7 : Int) (wasPartitioned2 : Bool) (mid leftLen balanceThreshold : Int) (l6 : LE bb) : Option ((LE bb)) :=
 (self_ l6 a2 mid limit7 uu hh ww).bind fun y2 =>
 if (l6).length = (y2).length then
 k0 (IntKind.wrap .i64 (mid + 1)) b2 limit7 (decide (balanceThreshold ≤ leftLen)) wasPartitioned2 y2
 else none
def sPD_b_c28 (bb : Bool) (data : LE bb) (a b limit : Int) (uu : UT) (hh ww : PT) (self_ : (LE bb) → (Int) → (Int) → (Int) → (UT) → (PT) → (PT) → Option ((LE bb))) (a2 b2 : Int) (k0 : (Int) → (Int) → (Int) → (Bool) → (Bool) → (LE bb) → Option ((LE bb))) (limit8 : Int) (wasPartitioned3 : Bool) (mid2 rightLen balanceThreshold2 : Int) (l7 : LE bb) : Option ((LE bb)) :=
 (self_ l7 (IntKind.wrap .i64 (mid2 + 1)) b2 limit8 uu hh ww).bind fun y2 =>
 if (l7).length = (y2).length then
 k0 a2 mid2 limit8 (decide (balanceThreshold2 ≤ rightLen)) wasPartitioned3 y2
 else none
def sPD_b_c17 (bb : Bool) (data : LE bb) (a b limit : Int) (uu : UT) (hh ww : PT) (self_ : (LE bb) → (Int) → (Int) → (Int) → (UT) → (PT) → (PT) → Option ((LE bb))) (a2 b2 : Int) (wasBalanced wasPartitioned : Bool) (k0 : (Int) → (Int) → (Int) → (Bool) → (Bool) → (LE bb) → Option ((LE bb))) (limit4 pivot2 : Int) (l3 : LE bb) : Option ((LE bb)) :=
 if ((decide (0 < a2)) : Bool) then
  if 0 ≤ (IntKind.wrap .i64 (a2 - 1)) ∧ (IntKind.wrap .i64 (a2 - 1)) < (((l3).length : Nat) : Int) then
  (some (l3.getD ((IntKind.wrap .i64 (a2 - 1))).toNat default)).bind fun y3 =>
  if 0 ≤ pivot2 ∧ pivot2 < (((l3).length : Nat) : Int) then
  (cmp_ bb uu hh ww y3 (l3.getD pivot2.toNat default)).bind fun y7 =>
  if ((!(decide (y7 < 0))) : Bool) then
   sPD_b_c18 bb data a b limit uu hh ww self_ a2 b2 wasBalanced wasPartitioned k0 limit4 pivot2 l3
  else
   sPD_b_c20 bb data a b limit uu hh ww self_ a2 b2 k0 limit4 pivot2 l3
  else none
  else none
 else
  (sPA bb l3 a2 b2 pivot2 uu hh ww).bind fun y4 =>
  (some (IntKind.wrap .i64 (Int.tdiv (IntKind.wrap .i64 (b2 - a2)) 8))).bind fun y5 =>
  if ((decide ((IntKind.wrap .i64 (y4.1 - a2)) < (IntKind.wrap .i64 (b2 - y4.1)))) : Bool) then
   if (l3).length = (y4.2.2).length then
   sPD_b_c25 bb data a b limit uu hh ww self_ a2 b2 k0 limit4 y4.2.1 y4.1 (IntKind.wrap .i64 (y4.1 - a2)) y5 y4.2.2
   else none
  else
   if (l3).length = (y4.2.2).length then
   sPD_b_c28 bb data a b limit uu hh ww self_ a2 b2 k0 limit4 y4.2.1 y4.1 (IntKind.wrap .i64 (b2 - y4.1)) y5 y4.2.2
   else none
def sPD_b_c9 (bb : Bool) (data : LE bb) (a b limit : Int) (uu : UT) (hh ww : PT) (self_ : (LE bb) → (Int) → (Int) → (Int) → (UT) → (PT) → (PT) → Option ((LE bb))) (a2 b2 limit2 : Int) (wasBalanced wasPartitioned : Bool) (yL0_5 : (LE bb)) (k0 : (Int) → (Int) → (Int) → (Bool) → (Bool) → (LE bb) → Option ((LE bb))) : Option ((LE bb)) :=
 (sCP bb yL0_5 a2 b2 uu hh ww).bind fun y2 =>
 if ((y2.2 == 2) : Bool) then
  (sRR bb yL0_5 a2 b2 uu hh ww).bind fun yC9_5 =>
  (some (IntKind.wrap .i64 ((IntKind.wrap .i64 (b2 - 1)) - (IntKind.wrap .i64 (y2.1 - a2))))).bind fun y6 =>
  if (wasBalanced : Bool) then
   if (wasPartitioned : Bool) then
    if (yL0_5).length = (yC9_5).length then
    sPD_b_c16 bb data a b limit uu hh ww self_ a2 b2 wasBalanced wasPartitioned k0 (IntKind.wrap .i64 (limit2 - 1)) y6 yC9_5
    else none
   else
    if (yL0_5).length = (yC9_5).length then
    sPD_b_c17 bb data a b limit uu hh ww self_ a2 b2 wasBalanced wasPartitioned k0 (IntKind.wrap .i64 (limit2 - 1)) y6 yC9_5
    else none
  else
   if (yL0_5).length = (yC9_5).length then
   sPD_b_c17 bb data a b limit uu hh ww self_ a2 b2 wasBalanced wasPartitioned k0 (IntKind.wrap .i64 (limit2 - 1)) y6 yC9_5
   else none
 else
  if (wasBalanced : Bool) then
   if (wasPartitioned : Bool) then
    if ((y2.2 == 1) : Bool) then
     sPD_b_c16 bb data a b limit uu hh ww self_ a2 b2 wasBalanced wasPartitioned k0 (IntKind.wrap .i64 (limit2 - 1)) y2.1 yL0_5
    else
     sPD_b_c17 bb data a b limit uu hh ww self_ a2 b2 wasBalanced wasPartitioned k0 (IntKind.wrap .i64 (limit2 - 1)) y2.1 yL0_5
   else
    sPD_b_c17 bb data a b limit uu hh ww self_ a2 b2 wasBalanced wasPartitioned k0 (IntKind.wrap .i64 (limit2 - 1)) y2.1 yL0_5
  else
   sPD_b_c17 bb data a b limit uu hh ww self_ a2 b2 wasBalanced wasPartitioned k0 (IntKind.wrap .i64 (limit2 - 1)) y2.1 yL0_5
def sPD_b_c21 (bb : Bool) (data : LE bb) (a b limit : Int) (uu : UT) (hh ww : PT) (self_ : (LE bb) → (Int) → (Int) → (Int) → (UT) → (PT) → (PT) → Option ((LE bb))) (a2 b2 limit2 : Int) (y8 : (Int) × (Bool) × (LE bb)) (k0 : (Int) → (Int) → (Int) → (Bool) → (Bool) → (LE bb) → Option ((LE bb))) : Option ((LE bb)) :=
 (some (IntKind.wrap .i64 (Int.tdiv (IntKind.wrap .i64 (b2 - a2)) 8))).bind fun y1 =>
 if ((decide ((IntKind.wrap .i64 (y8.1 - a2)) < (IntKind.wrap .i64 (b2 - y8.1)))) : Bool) then
  (self_ y8.2.2 a2 y8.1 limit2 uu hh ww).bind fun y5 =>
  if (y8.2.2).length = (y5).length then
  k0 (IntKind.wrap .i64 (y8.1 + 1)) b2 limit2 (decide (y1 ≤ (IntKind.wrap .i64 (y8.1 - a2)))) y8.2.1 y5
  else none
 else
  (self_ y8.2.2 (IntKind.wrap .i64 (y8.1 + 1)) b2 limit2 uu hh ww).bind fun y5 =>
  if (y8.2.2).length = (y5).length then
  k0 a2 y8.1 limit2 (decide (y1 ≤ (IntKind.wrap .i64 (b2 - y8.1)))) y8.2.1 y5
  else none
def sPD_b_c11 (bb : Bool) (data : LE bb) (a b limit : Int) (uu : UT) (hh ww : PT) (self_ : (LE bb) → (Int) → (Int) → (Int) → (UT) → (PT) → (PT) → Option ((LE bb))) (a2 b2 limit2 : Int) (wasBalanced wasPartitioned : Bool) (l : LE bb) (yL0_6 : (Int) × (Int)) (k0 : (Int) → (Int) → (Int) → (Bool) → (Bool) → (LE bb) → Option ((LE bb))) : Option ((LE bb)) :=
 if ((yL0_6.2 == 2) : Bool) then
  (sRR bb l a2 b2 uu hh ww).bind fun y3 =>
  (some (IntKind.wrap .i64 ((IntKind.wrap .i64 (b2 - 1)) - (IntKind.wrap .i64 (yL0_6.1 - a2))))).bind fun y4 =>
  if (wasBalanced : Bool) then
   if (wasPartitioned : Bool) then
    if (l).length = (y3).length then
    sPD_b_c16 bb data a b limit uu hh ww self_ a2 b2 wasBalanced wasPartitioned k0 limit2 y4 y3
    else none
   else
    if (l).length = (y3).length then
    sPD_b_c17 bb data a b limit uu hh ww self_ a2 b2 wasBalanced wasPartitioned k0 limit2 y4 y3
    else none
  else
   if (l).length = (y3).length then
   sPD_b_c17 bb data a b limit uu hh ww self_ a2 b2 wasBalanced wasPartitioned k0 limit2 y4 y3
   else none
 else
  if (wasBalanced : Bool) then
   if (wasPartitioned : Bool) then
    if ((yL0_6.2 == 1) : Bool) then
     (sPI bb l a2 b2 uu hh ww).bind fun yC11_6 =>
     if (yC11_6.1 : Bool) then
      some yC11_6.2
     else
      if (l).length = (yC11_6.2).length then
      sPD_b_c17 bb data a b limit uu hh ww self_ a2 b2 wasBalanced wasPartitioned k0 limit2 yL0_6.1 yC11_6.2
      else none
    else
     if ((decide (0 < a2)) : Bool) then
      if 0 ≤ (IntKind.wrap .i64 (a2 - 1)) ∧ (IntKind.wrap .i64 (a2 - 1)) < (((l).length : Nat) : Int) then
      (some (l.getD ((IntKind.wrap .i64 (a2 - 1))).toNat default)).bind fun y7 =>
      if 0 ≤ yL0_6.1 ∧ yL0_6.1 < (((l).length : Nat) : Int) then
      (cmp_ bb uu hh ww y7 (l.getD yL0_6.1.toNat default)).bind fun y11 =>
      if ((!(decide (y11 < 0))) : Bool) then
       sPD_b_c18 bb data a b limit uu hh ww self_ a2 b2 wasBalanced wasPartitioned k0 limit2 yL0_6.1 l
      else
       sPD_b_c20 bb data a b limit uu hh ww self_ a2 b2 k0 limit2 yL0_6.1 l
      else none
      else none
     else
      (sPA bb l a2 b2 yL0_6.1 uu hh ww).bind fun y8 =>
      if (l).length = (y8.2.2).length then
      sPD_b_c21 bb data a b limit uu hh ww self_ a2 b2 limit2 y8 k0
      else none
   else
    if ((decide (0 < a2)) : Bool) then
     if 0 ≤ (IntKind.wrap .i64 (a2 - 1)) ∧ (IntKind.wrap .i64 (a2 - 1)) < (((l).length : Nat) : Int) then
     (some (l.getD ((IntKind.wrap .i64 (a2 - 1))).toNat default)).bind fun y7 =>
     if 0 ≤ yL0_6.1 ∧ yL0_6.1 < (((l).length : Nat) : Int) then
     (cmp_ bb uu hh ww y7 (l.getD yL0_6.1.toNat default)).bind fun y11 =>
     if ((!(decide (y11 < 0))) : Bool) then
      sPD_b_c18 bb data a b limit uu hh ww self_ a2 b2 wasBalanced wasPartitioned k0 limit2 yL0_6.1 l
     else
      sPD_b_c20 bb data a b limit uu hh ww self_ a2 b2 k0 limit2 yL0_6.1 l
     else none
     else none
    else
     (sPA bb l a2 b2 yL0_6.1 uu hh ww).bind fun y8 =>
     if (l).length = (y8.2.2).length then
     sPD_b_c21 bb data a b limit uu hh ww self_ a2 b2 limit2 y8 k0
     else none
  else
   if ((decide (0 < a2)) : Bool) then
    if 0 ≤ (IntKind.wrap .i64 (a2 - 1)) ∧ (IntKind.wrap .i64 (a2 - 1)) < (((l).length : Nat) : Int) then
    (some (l.getD ((IntKind.wrap .i64 (a2 - 1))).toNat default)).bind fun y5 =>
    if 0 ≤ yL0_6.1 ∧ yL0_6.1 < (((l).length : Nat) : Int) then
    (cmp_ bb uu hh ww y5 (l.getD yL0_6.1.toNat default)).bind fun y9 =>
    if ((!(decide (y9 < 0))) : Bool) then
     sPD_b_c18 bb data a b limit uu hh ww self_ a2 b2 wasBalanced wasPartitioned k0 limit2 yL0_6.1 l
    else
     sPD_b_c20 bb data a b limit uu hh ww self_ a2 b2 k0 limit2 yL0_6.1 l
    else none
    else none
   else
    (sPA bb l a2 b2 yL0_6.1 uu hh ww).bind fun y8 =>
    if (l).length = (y8.2.2).length then
    sPD_b_c21 bb data a b limit uu hh ww self_ a2 b2 limit2 y8 k0
    else none
def sPD_b_l0 (bb : Bool) (data : LE bb) (a b limit : Int) (uu : UT) (hh ww : PT) (self_ : (LE bb) → (Int) → (Int) → (Int) → (UT) → (PT) → (PT) → Option ((LE bb))) : Nat → (Int) → (Int) → (Int) → (Bool) → (Bool) → (LE bb) → Option ((LE bb))
 | 0, _, _, _, _, _, _ => none
 | fuel + 1, a2, b2, limit2, wasBalanced, wasPartitioned, l =>
  if ((decide ((IntKind.wrap .i64 (b2 - a2)) ≤ 12)) : Bool) then
   (sIN bb l a2 b2 uu hh ww).bind fun y3 =>
   some y3
  else
   if ((limit2 == 0) : Bool) then
    (sHP bb l a2 b2 uu hh ww).bind fun y4 =>
    some y4
   else
    if ((!wasBalanced) : Bool) then
     (sBP bb l a2 b2 uu hh ww).bind fun y5 =>
     if (l).length = (y5).length then
     sPD_b_c9 bb data a b limit uu hh ww self_ a2 b2 limit2 wasBalanced wasPartitioned y5 (sPD_b_l0 bb data a b limit uu hh ww self_ fuel)
     else none
    else
     (sCP bb l a2 b2 uu hh ww).bind fun y6 =>
     sPD_b_c11 bb data a b limit uu hh ww self_ a2 b2 limit2 wasBalanced wasPartitioned l y6 (sPD_b_l0 bb data a b limit uu hh ww self_ fuel)
def sPD_b (bb : Bool) (data : LE bb) (a b limit : Int) (uu : UT) (hh ww : PT) (self_ : (LE bb) → (Int) → (Int) → (Int) → (UT) → (PT) → (PT) → Option ((LE bb))) : Option ((LE bb)) :=
 sPD_b_l0 bb data a b limit uu hh ww self_ big a b limit true true data
def sPD_f (bb : Bool) : Nat → (LE bb) → (Int) → (Int) → (Int) → (UT) → (PT) → (PT) → Option ((LE bb))
 | 0, _, _, _, _, _, _, _ => none
 | n_ + 1, data, a, b, limit, uu, hh, ww => sPD_b bb data a b limit uu hh ww (sPD_f bb n_)
def sPD (bb : Bool) (data : LE bb) (a b limit : Int) (uu : UT) (hh ww : PT) : Option ((LE bb)) := sPD_f bb big data a b limit uu hh ww
def sFA (x : List (TX)) (uu : UT) (hh ww : PT) : Option ((List (TX))) :=
 (mb_Len (IntKind.wrap .u64 ((x).length : Int))).bind fun y2 =>
 (sPD false x 0 ((x).length : Int) y2 uu hh ww).bind fun y4 =>
 some y4
def sPD_v (bb : Bool) (r : (LE bb)) : LV := .tup []
def sPD_up (bb : Bool) (uu : UT) (hh ww : PT) (r : (LE bb)) : Upd := [(0, some (gE_ bb r)), (1, some (.var [.map 2, .map 3, .map 4])), (2, some (oP1 uu [])), (3, some (oM3 hh)), (4, some (oM3 ww))]
def sPD_objs (bb : Bool) (data : LE bb) (uu : UT) (hh ww : PT) : List LO := [gE_ bb data, .var [.map 2, .map 3, .map 4], oP1 uu [], oM3 hh, oM3 ww]
def sPD_b_v (bb : Bool) (r : (LE bb)) : LV := .tup []
def sPD_b_up (bb : Bool) (uu : UT) (hh ww : PT) (r : (LE bb)) : Upd := [(0, some (gE_ bb r)), (1, some (.var [.map 2, .map 3, .map 4])), (2, some (oP1 uu [])), (3, some (oM3 hh)), (4, some (oM3 ww))]
def sPD_b_objs (bb : Bool) (data : LE bb) (uu : UT) (hh ww : PT) : List LO := [gE_ bb data, .var [.map 2, .map 3, .map 4], oP1 uu [], oM3 hh, oM3 ww]
def sIN_v (bb : Bool) (r : (LE bb)) : LV := .tup []
def sIN_up (bb : Bool) (uu : UT) (hh ww : PT) (r : (LE bb)) : Upd := [(0, some (gE_ bb r)), (1, some (.var [.map 2, .map 3, .map 4])), (2, some (oP1 uu [])), (3, some (oM3 hh)), (4, some (oM3 ww))]
def sIN_objs (bb : Bool) (data : LE bb) (uu : UT) (hh ww : PT) : List LO := [gE_ bb data, .var [.map 2, .map 3, .map 4], oP1 uu [], oM3 hh, oM3 ww]
abbrev sIN_K0 (bb : Bool) (a b : Int) (uu : UT) (hh ww : PT) (i : Int) (l : LE bb) (r : (LE bb)) : Prop := Kt_ w0 W μ0 (q_f101 bb) 5 5 (sIN_v bb r) (sIN_up bb uu hh ww r) (kAt (bodyOf (q_f101 bb)) 0) ((.gs 0 (l).length) :: (.int .i64 a) :: (.int .i64 b) :: (.fn (n53_65 bb) [.ptr 1 0 0] []) :: n_ 4 ((.int .i64 i) :: n_ 44 [])) [some (gE_ bb l), some (.var [.map 2, .map 3, .map 4]), some (oP1 uu []), some (oM3 hh), some (oM3 ww)]
abbrev sIN_K1 (bb : Bool) (a b : Int) (uu : UT) (hh ww : PT) (i j : Int) (l2 : LE bb) (r : (LE bb)) : Prop := Kt_ w0 W μ0 (q_f101 bb) 5 5 (sIN_v bb r) (sIN_up bb uu hh ww r) (kAt (bodyOf (q_f101 bb)) 1) ((.gs 0 (l2).length) :: (.int .i64 a) :: (.int .i64 b) :: (.fn (n53_65 bb) [.ptr 1 0 0] []) :: n_ 4 ((.int .i64 i) :: (.int .i64 j) :: n_ 43 [])) [some (gE_ bb l2), some (.var [.map 2, .map 3, .map 4]), some (oP1 uu []), some (oM3 hh), some (oM3 ww)]
abbrev sIN_K1000002 (bb : Bool) (a b : Int) (uu : UT) (hh ww : PT) (i : Int) (l2 : LE bb) (r : (LE bb)) : Prop := Kt_ w0 W μ0 (q_f101 bb) 5 5 (sIN_v bb r) (sIN_up bb uu hh ww r) (kAtR (bodyOf (q_f101 bb)) 2) ((.gs 0 (l2).length) :: (.int .i64 a) :: (.int .i64 b) :: (.fn (n53_65 bb) [.ptr 1 0 0] []) :: n_ 4 ((.int .i64 i) :: n_ 44 [])) [some (gE_ bb l2), some (.var [.map 2, .map 3, .map 4]), some (oP1 uu []), some (oM3 hh), some (oM3 ww)]
theorem sIN_c2_ok (bb : Bool) {w0 W μ0} (hμ : Lt_ μ0 5) (data : LE bb) (a b : Int) (uu : UT) (hh ww : PT) (i : Int) (l2 : LE bb) (k0 : (Int) → (LE bb) → Option ((LE bb))) (hk0 : ∀ (i : Int) (l : LE bb) (r : (LE bb)), k0 i l = some r → sIN_K0 w0 W μ0 bb a b uu hh ww i l r) (r : (LE bb)) (h : sIN_c2 bb data a b uu hh ww i l2 k0 = some r) : sIN_K1000002 w0 W μ0 bb a b uu hh ww i l2 r := by
 unfold sIN_c2 at h
 exact rtb_ hμ [] 11 [.reg []]
  (q17 tr) (hk0 _ _ r h) uS
abbrev sIN_K1000006 (bb : Bool) (a b : Int) (uu : UT) (hh ww : PT) (i j : Int) (l2 : LE bb) (r : (LE bb)) : Prop := Kt_ w0 W μ0 (q_f101 bb) 5 5 (sIN_v bb r) (sIN_up bb uu hh ww r) (kAtR (bodyOf (q_f101 bb)) 6) ((.gs 0 (l2).length) :: (.int .i64 a) :: (.int .i64 b) :: (.fn (n53_65 bb) [.ptr 1 0 0] []) :: n_ 4 ((.int .i64 i) :: (.int .i64 j) :: n_ 43 [])) [some (gE_ bb l2), some (.var [.map 2, .map 3, .map 4]), some (oP1 uu []), some (oM3 hh), some (oM3 ww)]
theorem sIN_c6_ok (bb : Bool) {w0 W μ0} (hμ : Lt_ μ0 5) (data : LE bb) (a b : Int) (uu : UT) (hh ww : PT) (i j : Int) (l2 : LE bb) (k1 : (Int) → (LE bb) → Option ((LE bb))) (hk1 : ∀ (j : Int) (l2 : LE bb) (r : (LE bb)), k1 j l2 = some r → sIN_K1 w0 W μ0 bb a b uu hh ww i j l2 r) (r : (LE bb)) (h : sIN_c6 bb data a b uu hh ww i j l2 k1 = some r) : sIN_K1000006 w0 W μ0 bb a b uu hh ww i j l2 r := by
 unfold sIN_c6 at h
 obtain ⟨G1, h⟩ := gs_ h
 obtain ⟨y2, E3, h⟩ := bs_ h
 obtain ⟨G4, h⟩ := gs_ h
 obtain ⟨G5, h⟩ := gs_ h
 obtain ⟨y6, E7, h⟩ := bs_ h
 exact rtb_ hμ [] 15 [.reg [(9, hv_ ((v_E_ bb) y2)), (15, { os := [(0, gE_ bb ((l2.set j.toNat y2)))] }), (17, { os := [(0, gE_ bb y6)] })], .reg [], .wk [(0, .gs 0 (y6).length)] []]
  (q0 (r8_ (ld_ (z_ bb) G1 (a_ (le_nm (v_E_ bb) E3) tr) (r2_ (ld_ (z_ bb) G4 tr (a_ (a_ (a_ (Eq.refl (z_ bb)) G4) tr) (a_ (a_ (a_ (Eq.refl (z_ bb)) (a_ (Nat.le_refl (z_ bb)) (ltN G4))) (a_ (sub_set_gr (c_E_ bb) default (z_ bb) l2 j.toNat y2 (ltN G4) (splL (rowF (c_E_ bb) default l2 j.toNat) 0 ((c_E_ bb) y2)) (by cases bb <;> kernel_rfl)) tr)) (a_ (a_ (a_ (Eq.refl (z_ bb)) G1) tr) (a_ (a_ (a_ (Eq.refl (z_ bb)) (a_ (Nat.le_refl (z_ bb)) G5)) (a_ (LO.Sub.trans (sub_set_gr (c_E_ bb) default (z_ bb) (l2.set j.toNat y2) ((IntKind.wrap .i64 (j - 1))).toNat (l2.getD j.toNat default) G5 (splL (rowF (c_E_ bb) default (l2.set j.toNat y2) ((IntKind.wrap .i64 (j - 1))).toNat) 0 ((c_E_ bb) (l2.getD j.toNat default))) (by cases bb <;> kernel_rfl)) (ng_ bb E7)) tr)) tr)))))))) (q2 tr) (q6 (le_gs 0 (show (l2).length = (y6).length from by simp [← si_ E7]))) tr) (hk1 _ _ r h) uS
def lT_order_v (r : (Int)) : LV := .int .i64 r
def cmp__v : (bb : Bool) → (r : (Int)) → LV
 | false => lT_age_2_v
 | true => lT_order_v
def lT_order_up (uu : UT) (hh ww : PT) (r : (Int)) : Upd := [(0, some (.var [.map 1, .map 2, .map 3])), (1, some (oP1 uu [])), (2, some (oM3 hh)), (3, some (oM3 ww))]
def cmp__up : (bb : Bool) → (uu : UT) → (hh : PT) → (ww : PT) → (r : (Int)) → Upd
 | false => lT_age_2_up
 | true => lT_order_up
def lT_order_objs (uu : UT) (hh ww : PT) : List LO := [.var [.map 1, .map 2, .map 3], oP1 uu [], oM3 hh, oM3 ww]
def cmp__objs : (bb : Bool) → (uu : UT) → (hh : PT) → (ww : PT) → List LO
 | false => lT_age_2_objs
 | true => lT_order_objs
def ids_Keys_v (r : (Int)) : LV := .int .i64 r
def sCB_v (r : (Int)) : LV := .int .i64 r
def sCB_up (s1 s2 : A8 (Int)) (r : (Int)) : Upd := [(0, some (.var [.int .u8 s1.a0, .int .u8 s1.a1, .int .u8 s1.a2, .int .u8 s1.a3, .int .u8 s1.a4, .int .u8 s1.a5, .int .u8 s1.a6, .int .u8 s1.a7])), (1, some (.var [.int .u8 s2.a0, .int .u8 s2.a1, .int .u8 s2.a2, .int .u8 s2.a3, .int .u8 s2.a4, .int .u8 s2.a5, .int .u8 s2.a6, .int .u8 s2.a7]))]
def sCB_objs (s1 s2 : A8 (Int)) : List LO := [.var [.int .u8 s1.a0, .int .u8 s1.a1, .int .u8 s1.a2, .int .u8 s1.a3, .int .u8 s1.a4, .int .u8 s1.a5, .int .u8 s1.a6, .int .u8 s1.a7], .var [.int .u8 s2.a0, .int .u8 s2.a1, .int .u8 s2.a2, .int .u8 s2.a3, .int .u8 s2.a4, .int .u8 s2.a5, .int .u8 s2.a6, .int .u8 s2.a7]]
abbrev sCB_K0 (s1 s2 : A8 (Int)) (t11 : Int) (r : (Int)) : Prop := Kt_ w0 W μ0 Tryz.f115 2 2 (sCB_v r) (sCB_up s1 s2 r) (kAt (bodyOf Tryz.f115) 0) ((.sl 0 0 0 true 8 (some 8)) :: (.sl 1 0 0 true 8 (some 8)) :: n_ 7 ((.sl 0 0 0 true 8 (some 8)) :: (.int .i64 8) :: (.int .i64 t11) :: n_ 24 [])) [some (.var [.int .u8 s1.a0, .int .u8 s1.a1, .int .u8 s1.a2, .int .u8 s1.a3, .int .u8 s1.a4, .int .u8 s1.a5, .int .u8 s1.a6, .int .u8 s1.a7]), some (.var [.int .u8 s2.a0, .int .u8 s2.a1, .int .u8 s2.a2, .int .u8 s2.a3, .int .u8 s2.a4, .int .u8 s2.a5, .int .u8 s2.a6, .int .u8 s2.a7])]
theorem sCB_l0_ok {w0 W μ0} (hμ : Lt_ μ0 2) (s1 s2 : A8 (Int)) : ∀ (fuel : Nat) (t11 : Int) (r : (Int)), sCB_l0 s1 s2 fuel t11 = some r → sCB_K0 w0 W μ0 s1 s2 t11 r := by
 intro fuel
 induction fuel with
 | zero => intro t11 r h; rw [sCB_l0] at h; cases h
 | succ fuel ih =>
  intro t11 r h
  rw [sCB_l0] at h
  rcases it_ h with ⟨C1, h⟩ | ⟨C1, h⟩
  ·obtain ⟨G2, h⟩ := gs_ h
   rcases it_ h with ⟨C3, h⟩ | ⟨C3, h⟩
   ·obtain rfl := si_ h
    exact rr_ [] 29 [.go, .reg [(0, hT)], .reg [(2, hv_ (.int .u8 (A8.get s1 t11.toNat)))], .reg [(3, hT)], .reg []]
     (q1 (q7 (f_ C1 tr) (q8 (q1 G2) (q3 (a_ tr (arrLt (len := 8) G2 0 1 8 rfl rfl)) (ld8s (cInt .u8) 1 (fun _ => rfl) s1 [] [] 0 rfl t11.toNat (lt8N G2) (le_ (0 + 1) 1 rfl))) (r2_ tr)) (q2 (f_ C3 tr)) (q19 tr)))
   ·obtain ⟨y5, E4, h⟩ := bs_ h
    rcases it_ h with ⟨C6, h⟩ | ⟨C6, h⟩
    ·obtain rfl := si_ h
     exact rr_ [] 40 [.go, .reg [(0, hT)], .reg [(2, hv_ (.int .u8 (A8.get s1 t11.toNat)))], .reg [(3, hF)], .reg [(3, hv_ (.int .u8 (A8.get s2 t11.toNat)))], .reg [(2, hC (cmp_Compare_uint8_v y5))], .reg [(1, hT)], .reg []]
      (q1 (q7 (f_ C1 tr) (q8 (q1 G2) (q3 (a_ tr (arrLt (len := 8) G2 0 1 8 rfl rfl)) (ld8s (cInt .u8) 1 (fun _ => rfl) s1 [] [] 0 rfl t11.toNat (lt8N G2) (le_ (0 + 1) 1 rfl))) (r2_ tr)) (q2 (f_ C3 tr)) (q11 (r2_ (a_ (q1 G2) (q5 (a_ tr (arrLt (len := 8) G2 0 1 8 rfl rfl)) (ld8s (cInt .u8) 1 (fun _ => rfl) s2 [] [] 0 rfl t11.toNat (lt8N G2) (le_ (0 + 1) 1 rfl)) tr))) (r2_ (q4 (q1 (cmp_Compare_uint8_tri (A8.get s1 t11.toNat) (A8.get s2 t11.toNat) y5 E4)) tr)) (f_ C6 tr) (q14 tr))))
    ·exact rt_ hμ [] 41 [.go, .reg [(0, hT)], .reg [(2, hv_ (.int .u8 (A8.get s1 t11.toNat)))], .reg [(3, hF)], .reg [(3, hv_ (.int .u8 (A8.get s2 t11.toNat)))], .reg [(2, hC (cmp_Compare_uint8_v y5))], .reg [(1, hF)], .reg []]
      (q7 (f_ C1 tr) (q8 (q1 G2) (q3 (a_ tr (arrLt (len := 8) G2 0 1 8 rfl rfl)) (ld8s (cInt .u8) 1 (fun _ => rfl) s1 [] [] 0 rfl t11.toNat (lt8N G2) (le_ (0 + 1) 1 rfl))) (r2_ tr)) (q2 (f_ C3 tr)) (q11 (r2_ (a_ (q1 G2) (q5 (a_ tr (arrLt (len := 8) G2 0 1 8 rfl rfl)) (ld8s (cInt .u8) 1 (fun _ => rfl) s2 [] [] 0 rfl t11.toNat (lt8N G2) (le_ (0 + 1) 1 rfl)) tr))) (r2_ (q4 (q1 (cmp_Compare_uint8_tri (A8.get s1 t11.toNat) (A8.get s2 t11.toNat) y5 E4)) tr)) (f_ C6 tr) (q14 tr))) (ih _ r h) ⟨rfl, rfl, trivial⟩
  ·obtain rfl := si_ h
   exact rr_ [] 25 [.go, .reg [(0, hF)], .reg [], .reg []]
    (q1 (q7 (f_ C1 tr) (r4_ tr) (r1_ tr) tr))
theorem sCB_ok (s1 s2 : A8 (Int)) (r : (Int)) (h : sCB s1 s2 = some r) : ∀ σ, Inj 2 σ → FnTri Tryz.prog 115 (renL σ [.sl 0 0 0 true 8 (some 8), .sl 1 0 0 true 8 (some 8)]) (preOf σ 0 (sCB_objs s1 s2)) ((sCB_v r).ren σ) (upOf σ (sCB_up s1 s2 r)) := by
 refine fo_ Tryz.func115 ⟨rfl, rfl, trivial⟩ ⟨rfl, rfl, trivial⟩ ?_
 intro w0 W μ0 hμ
 unfold sCB at h
 exact rt_ hμ [] 18 [.reg [], .reg []]
  (q27 tr (q2 tr)) (sCB_l0_ok hμ s1 s2 big _ r h) ⟨rfl, rfl, trivial⟩
theorem ids_Keys_ok (a b : A8 (Int)) (r : (Int)) (h : ids_Keys a b = some r) : ∀ σ, Inj 0 σ → FnTri Tryz.prog 91 (renL σ [.agg [.int .u8 a.a0, .int .u8 a.a1, .int .u8 a.a2, .int .u8 a.a3, .int .u8 a.a4, .int .u8 a.a5, .int .u8 a.a6, .int .u8 a.a7], .agg [.int .u8 b.a0, .int .u8 b.a1, .int .u8 b.a2, .int .u8 b.a3, .int .u8 b.a4, .int .u8 b.a5, .int .u8 b.a6, .int .u8 b.a7]]) (preOf σ 0 []) ((ids_Keys_v r).ren σ) (upOf σ []) := by
 refine fo_ Tryz.func91 trivial trivial ?_
 intro w0 W μ0 hμ
 unfold ids_Keys at h
 obtain ⟨y2, e1, h⟩ := bs_ h
 obtain rfl := si_ h
 exact rr_ [] 15 [.reg [], .reg [(2, hk_ (hK_ [0, 1] (sCB_v y2) (sCB_objs a b) (sCB_up a b y2)))]]
  (q9 (q2 tr) (q0 (q1 (q8 (lei_ 0 0 rfl) (lei_ 0 8 rfl) (lei_ 8 8 rfl))) (q1 (q8 (lei_ 0 0 rfl) (lei_ 0 8 rfl) (lei_ 8 8 rfl))) (q16 (sCB_ok a b y2 e1 (sel [0, 1]) sj_) (rl_ (.var [.int .u8 a.a0, .int .u8 a.a1, .int .u8 a.a2, .int .u8 a.a3, .int .u8 a.a4, .int .u8 a.a5, .int .u8 a.a6, .int .u8 a.a7])) (rl_ (.var [.int .u8 b.a0, .int .u8 b.a1, .int .u8 b.a2, .int .u8 b.a3, .int .u8 b.a4, .int .u8 b.a5, .int .u8 b.a6, .int .u8 b.a7])) tr) (r1_ tr)))
theorem ids_Keys_tri (a b : A8 (Int)) (r : (Int)) (h : ids_Keys a b = some r) : FnTri Tryz.prog 91 [.agg [.int .u8 a.a0, .int .u8 a.a1, .int .u8 a.a2, .int .u8 a.a3, .int .u8 a.a4, .int .u8 a.a5, .int .u8 a.a6, .int .u8 a.a7], .agg [.int .u8 b.a0, .int .u8 b.a1, .int .u8 b.a2, .int .u8 b.a3, .int .u8 b.a4, .int .u8 b.a5, .int .u8 b.a6, .int .u8 b.a7]] [] (ids_Keys_v r) [] := FnTri.none (ids_Keys_ok a b r h) rfl rfl
theorem lT_order_ok (uu : UT) (hh ww : PT) (a b : TL) (r : (Int)) (h : lT_order uu hh ww a b = some r) : ∀ σ, Inj 4 σ → FnTri Tryz.prog 65 (renL σ [.ptr 0 0 0, v_TL a, v_TL b]) (preOf σ 0 (lT_order_objs uu hh ww)) ((lT_order_v r).ren σ) (upOf σ (lT_order_up uu hh ww r)) := by
 refine fo_ Tryz.func65 ⟨rfl, uP, trivial, trivial, trivial⟩ ⟨rfl, uP, trivial, trivial, trivial⟩ ?_
 intro w0 W μ0 hμ
 unfold lT_order at h
 obtain ⟨y2, e1, h⟩ := bs_ h
 obtain ⟨y4, e3, h⟩ := bs_ h
 obtain ⟨y6, e5, h⟩ := bs_ h
 obtain rfl := si_ h
 exact rr_ [] 15 [.reg [], .reg [(4, hC (ids_Keys_v y2)), (10, hk_ (hK_ [0, 1, 2, 3] (lT_age_2_v y4) (lT_age_2_objs uu hh ww) (lT_age_2_up uu hh ww y4))), (11, { os := [(6, .gr 1 (([y2, y4] : List (Int))).length (rowF (cInt .i64) default ([y2, y4] : List (Int))))], v := some (.gs 6 (([y2, y4] : List (Int))).length), fz := true }), (12, hC (cmp_Or_int_v y6))]]
  (q9 (q2 tr) (r1_ (m_ 11 11 rfl (r1_ (m_ 11 11 rfl (c_ (ids_Keys_tri a.f_key b.f_key y2 e1) (r2_ (m_ 3 11 rfl (r1_ (m_ 3 11 rfl (a_ (a_ (a_ (lT_age_2_ok uu hh ww a.f_tx b.f_tx y4 e3 (sel [0, 1, 2, 3]) sj_) (o4_ [.map 1, .map 2, .map 3] uu hh ww)) tr) (a_ (a_ (a_ (a_ (Eq.refl true) (a_ (Eq.refl 1) (a_ (lt_ 0 1 rfl) (le_ 2 16777216 rfl)))) (a_ (le_sl_gs 6 2 (some 2) rfl) (a_ (sub_lit (cInt .i64) default 1 (fun _ => rfl) ([y2, y4] : List (Int))) tr))) (a_ (Nat.le_refl (([y2, y4] : List (Int))).length) (fz_row (enc := (cInt .i64)) (d := default) (fun _ => rfl) ([y2, y4] : List (Int))))) (a_ (a_ (a_ (cmp_Or_int_tri ([y2, y4] : List (Int)) y6 e5) tr) tr) (r1_ tr))))))))))))))
theorem cmp__ok (bb : Bool) (uu : UT) (hh ww : PT) (a b : (E_ bb)) (r : (Int)) (h : cmp_ bb uu hh ww a b = some r) : ∀ σ, Inj 4 σ → FnTri Tryz.prog (n53_65 bb) (renL σ [.ptr 0 0 0, (v_E_ bb) a, (v_E_ bb) b]) (preOf σ 0 (cmp__objs bb uu hh ww)) ((cmp__v bb r).ren σ) (upOf σ (cmp__up bb uu hh ww r)) := by
 cases bb
 ·exact lT_age_2_ok uu hh ww a b r h
 ·exact lT_order_ok uu hh ww a b r h
theorem sIN_l1_ok (bb : Bool) {w0 W μ0} (hμ : Lt_ μ0 5) (data : LE bb) (a b : Int) (uu : UT) (hh ww : PT) (i : Int) (k0 : (Int) → (LE bb) → Option ((LE bb))) (hk0 : ∀ (i : Int) (l : LE bb) (r : (LE bb)), k0 i l = some r → sIN_K0 w0 W μ0 bb a b uu hh ww i l r) : ∀ (fuel : Nat) (j : Int) (l2 : LE bb) (r : (LE bb)), sIN_l1 bb data a b uu hh ww i k0 fuel j l2 = some r → sIN_K1 w0 W μ0 bb a b uu hh ww i j l2 r := by
 intro fuel
 induction fuel with
 | zero => intro j l2 r h; rw [sIN_l1] at h; cases h
 | succ fuel ih =>
  intro j l2 r h
  rw [sIN_l1] at h
  rcases it_ h with ⟨C1, h⟩ | ⟨C1, h⟩
  ·obtain ⟨G2, h⟩ := gs_ h
   obtain ⟨G3, h⟩ := gs_ h
   obtain ⟨y4, E5, h⟩ := bs_ h
   obtain ⟨y7, E6, h⟩ := bs_ h
   rcases it_ h with ⟨C8, h⟩ | ⟨C8, h⟩
   ·exact rtb_ hμ [] 18 [.go, .reg [(3, hT), (13, hv_ ((v_E_ bb) y4)), (14, hk_ (hK_ [1, 2, 3, 4] (cmp__v bb y7) (cmp__objs bb uu hh ww) (cmp__up bb uu hh ww y7))), (16, hT)]]
     (q17 (f_ C1 (r1_ (r2_ (ld_ (z_ bb) G2 tr (r1_ (r2_ (ld_ (z_ bb) G3 (a_ (le_nm (v_E_ bb) E5) tr) (a_ (a_ (a_ (cmp__ok bb uu hh ww (l2.getD j.toNat default) y4 y7 E6 (sel [1, 2, 3, 4]) sj_) (o4_ [.map 2, .map 3, .map 4] uu hh ww)) tr) (r1_ (f_ C8 tr))))))))))) (sIN_c6_ok bb hμ data a b uu hh ww i j l2 (sIN_l1 bb data a b uu hh ww i k0 fuel) ih r h) uS
   ·exact rtb_ hμ [] 17 [.go, .reg [(3, hT), (13, hv_ ((v_E_ bb) y4)), (14, hk_ (hK_ [1, 2, 3, 4] (cmp__v bb y7) (cmp__objs bb uu hh ww) (cmp__up bb uu hh ww y7))), (16, hF)]]
     (q17 (f_ C1 (r1_ (r2_ (ld_ (z_ bb) G2 tr (r1_ (r2_ (ld_ (z_ bb) G3 (a_ (le_nm (v_E_ bb) E5) tr) (a_ (a_ (a_ (cmp__ok bb uu hh ww (l2.getD j.toNat default) y4 y7 E6 (sel [1, 2, 3, 4]) sj_) (o4_ [.map 2, .map 3, .map 4] uu hh ww)) tr) (r1_ (f_ C8 tr))))))))))) (sIN_c2_ok bb hμ data a b uu hh ww i l2 k0 hk0 r h) uS
  ·exact rtb_ hμ [] 19 [.go, .reg [(3, hF)], .reg []]
    (q3 (q2 (f_ C1 (t4_ (t8_ (r1_ tr))))) (q2 tr)) (hk0 _ _ r h) uS
theorem sIN_l0_ok (bb : Bool) {w0 W μ0} (hμ : Lt_ μ0 5) (data : LE bb) (a b : Int) (uu : UT) (hh ww : PT) : ∀ (fuel : Nat) (i : Int) (l : LE bb) (r : (LE bb)), sIN_l0 bb data a b uu hh ww fuel i l = some r → sIN_K0 w0 W μ0 bb a b uu hh ww i l r := by
 intro fuel
 induction fuel with
 | zero => intro i l r h; rw [sIN_l0] at h; cases h
 | succ fuel ih =>
  intro i l r h
  rw [sIN_l0] at h
  rcases it_ h with ⟨C1, h⟩ | ⟨C1, h⟩
  ·exact rtb_ hμ [] 23 [.go, .reg [(2, hT)], .reg []]
    (q3 (r2_ (f_ C1 tr)) (r2_ tr)) (sIN_l1_ok bb hμ data a b uu hh ww i (sIN_l0 bb data a b uu hh ww fuel) ih big _ _ r h) uS
  ·obtain rfl := si_ h
   exact rrb_ [] 16 [.go, .reg [(2, hF)]]
    (q6 (r2_ (f_ C1 tr)))
theorem sIN_ok (bb : Bool) (data : LE bb) (a b : Int) (uu : UT) (hh ww : PT) (r : (LE bb)) (h : sIN bb data a b uu hh ww = some r) : ∀ σ, Inj 5 σ → FnTri Tryz.prog (n101_127 bb) (renL σ [.gs 0 (data).length, .int .i64 a, .int .i64 b, .fn (n53_65 bb) [.ptr 1 0 0] []]) (preOf σ 0 (sIN_objs bb data uu hh ww)) ((sIN_v bb r).ren σ) (upOf σ (sIN_up bb uu hh ww r)) := by
 refine fn_of (q_func101 bb) (by cases bb <;> kernel_rfl) (by cases bb <;> kernel_rfl) (by cases bb <;> kernel_rfl) ⟨fun _ _ => by cases bb <;> rfl, rfl, uP, trivial, trivial, trivial⟩ (by cases bb <;> kernel_rfl) ⟨fun _ _ => by cases bb <;> rfl, rfl, uP, trivial, trivial, trivial⟩ (by cases bb <;> kernel_rfl) ?_
 intro w0 W μ0 hμ
 unfold sIN at h
 exact rtb_ hμ [] 14 [.reg []]
  (q17 tr) (sIN_l0_ok bb hμ data a b uu hh ww big _ _ r h) uS
def sHP_v (bb : Bool) (r : (LE bb)) : LV := .tup []
def sHP_up (bb : Bool) (uu : UT) (hh ww : PT) (r : (LE bb)) : Upd := [(0, some (gE_ bb r)), (1, some (.var [.map 2, .map 3, .map 4])), (2, some (oP1 uu [])), (3, some (oM3 hh)), (4, some (oM3 ww))]
def sHP_objs (bb : Bool) (data : LE bb) (uu : UT) (hh ww : PT) : List LO := [gE_ bb data, .var [.map 2, .map 3, .map 4], oP1 uu [], oM3 hh, oM3 ww]
def sSD_v (bb : Bool) (r : (LE bb)) : LV := .tup []
def sSD_up (bb : Bool) (uu : UT) (hh ww : PT) (r : (LE bb)) : Upd := [(0, some (gE_ bb r)), (1, some (.var [.map 2, .map 3, .map 4])), (2, some (oP1 uu [])), (3, some (oM3 hh)), (4, some (oM3 ww))]
def sSD_objs (bb : Bool) (data : LE bb) (uu : UT) (hh ww : PT) : List LO := [gE_ bb data, .var [.map 2, .map 3, .map 4], oP1 uu [], oM3 hh, oM3 ww]
abbrev sSD_K0 (bb : Bool) (hi first : Int) (uu : UT) (hh ww : PT) (root : Int) (l : LE bb) (r : (LE bb)) : Prop := Kt_ w0 W μ0 (q_f117 bb) 5 5 (sSD_v bb r) (sSD_up bb uu hh ww r) (kAt (bodyOf (q_f117 bb)) 0) ((.gs 0 (l).length) :: .any :: (.int .i64 hi) :: (.int .i64 first) :: (.fn (n53_65 bb) [.ptr 1 0 0] []) :: n_ 5 ((.int .i64 root) :: n_ 71 [])) [some (gE_ bb l), some (.var [.map 2, .map 3, .map 4]), some (oP1 uu []), some (oM3 hh), some (oM3 ww)]
abbrev sSD_K1000004 (bb : Bool) (hi first : Int) (uu : UT) (hh ww : PT) (root : Int) (l : LE bb) (y1 : Int) (r : (LE bb)) : Prop := Kt_ w0 W μ0 (q_f117 bb) 5 5 (sSD_v bb r) (sSD_up bb uu hh ww r) (kAtR (bodyOf (q_f117 bb)) 4) ((.gs 0 (l).length) :: .any :: (.int .i64 hi) :: (.int .i64 first) :: (.fn (n53_65 bb) [.ptr 1 0 0] []) :: n_ 5 ((.int .i64 root) :: (.int .i64 y1) :: n_ 70 [])) [some (gE_ bb l), some (.var [.map 2, .map 3, .map 4]), some (oP1 uu []), some (oM3 hh), some (oM3 ww)]
theorem sSD_c4_ok (bb : Bool) {w0 W μ0} (hμ : Lt_ μ0 5) (data : LE bb) (lo hi first : Int) (uu : UT) (hh ww : PT) (root : Int) (l : LE bb) (y1 : Int) (k0 : (Int) → (LE bb) → Option ((LE bb))) (hk0 : ∀ (root : Int) (l : LE bb) (r : (LE bb)), k0 root l = some r → sSD_K0 w0 W μ0 bb hi first uu hh ww root l r) (r : (LE bb)) (h : sSD_c4 bb data lo hi first uu hh ww root l y1 k0 = some r) : sSD_K1000004 w0 W μ0 bb hi first uu hh ww root l y1 r := by
 unfold sSD_c4 at h
 obtain ⟨G1, h⟩ := gs_ h
 obtain ⟨y2, E3, h⟩ := bs_ h
 obtain ⟨y4, E5, h⟩ := bs_ h
 obtain ⟨G6, h⟩ := gs_ h
 obtain ⟨y8, E7, h⟩ := bs_ h
 rcases it_ h with ⟨C9, h⟩ | ⟨C9, h⟩
 ·obtain rfl := si_ h
  exact rrb_ [] 16 [.reg [], .reg [(6, hv_ ((v_E_ bb) y2)), (10, hv_ (.int .i64 y4)), (13, hk_ (hK_ [1, 2, 3, 4] (cmp__v bb y8) (cmp__objs bb uu hh ww) (cmp__up bb uu hh ww y8))), (15, hT)]]
   (q9 (q2 tr) (r1_ (r4_ (ld_ (z_ bb) G1 (a_ (le_nm (v_E_ bb) E3) tr) (r1_ (r2_ (a_ (a_ tr (a_ (le_nm (LV.int .i64) E5) tr)) (ld_ (z_ bb) G6 tr (a_ (a_ (a_ (cmp__ok bb uu hh ww y2 (l.getD y4.toNat default) y8 E7 (sel [1, 2, 3, 4]) sj_) (o4_ [.map 2, .map 3, .map 4] uu hh ww)) tr) (r1_ (f_ C9 tr)))))))))))
 ·obtain ⟨y10, E11, h⟩ := bs_ h
  obtain ⟨G12, h⟩ := gs_ h
  exact rtb_ hμ [] 24 [.reg [], .reg [(6, hv_ ((v_E_ bb) y2)), (10, hv_ (.int .i64 y4)), (13, hk_ (hK_ [1, 2, 3, 4] (cmp__v bb y8) (cmp__objs bb uu hh ww) (cmp__up bb uu hh ww y8))), (15, hF)], .reg [(7, hv_ (.int .i64 y4)), (11, hv_ (.int .i64 y4)), (19, hv_ ((v_E_ bb) y2)), (21, { os := [(0, gE_ bb y10)] }), (23, { os := [(0, gE_ bb ((y10.set y4.toNat y2)))] })], .reg [], .wk [(0, .gs 0 ((y10.set y4.toNat y2)).length)] []]
   (q7 (q2 tr) (r4_ (ld_ (z_ bb) G1 (a_ (le_nm (v_E_ bb) E3) tr) (r1_ (r2_ (a_ (a_ tr (a_ (le_nm (LV.int .i64) E5) tr)) (ld_ (z_ bb) G6 tr (a_ (a_ (a_ (cmp__ok bb uu hh ww y2 (l.getD y4.toNat default) y8 E7 (sel [1, 2, 3, 4]) sj_) (o4_ [.map 2, .map 3, .map 4] uu hh ww)) tr) (r1_ (f_ C9 tr))))))))) (q2 (r4_ (a_ (q3 tr (le_nm (LV.int .i64) E5)) (q2 (a_ (q3 tr (le_nm (LV.int .i64) E5)) (ld_ (z_ bb) G6 tr (r4_ (ld_ (z_ bb) G1 (a_ (le_nm (v_E_ bb) E3) tr) (a_ (a_ (a_ (Eq.refl (z_ bb)) G1) tr) (a_ (a_ (a_ (Eq.refl (z_ bb)) (a_ (Nat.le_refl (z_ bb)) (ltN G1))) (a_ (LO.Sub.trans (sub_set_gr (c_E_ bb) default (z_ bb) l ((IntKind.wrap .i64 (first + root))).toNat (l.getD y4.toNat default) (ltN G1) (splL (rowF (c_E_ bb) default l ((IntKind.wrap .i64 (first + root))).toNat) 0 ((c_E_ bb) (l.getD y4.toNat default))) (by cases bb <;> kernel_rfl)) (ng_ bb E11)) tr)) (a_ (a_ (a_ (Eq.refl (z_ bb)) G6) tr) (a_ (a_ (a_ (Eq.refl (z_ bb)) (a_ (Nat.le_refl (z_ bb)) G12)) (a_ (sub_set_gr (c_E_ bb) default (z_ bb) y10 y4.toNat y2 G12 (splL (rowF (c_E_ bb) default y10 y4.toNat) 0 ((c_E_ bb) y2)) (by cases bb <;> kernel_rfl)) tr)) tr)))))))))))) (q3 (r2_ tr) (q6 (le_gs 0 (show (l).length = ((y10.set y4.toNat y2)).length from by simp [← si_ E11]))))) (hk0 _ _ r h) uS
abbrev sSD_K1000005 (bb : Bool) (hi first : Int) (uu : UT) (hh ww : PT) (root : Int) (l : LE bb) (y1 : Int) (r : (LE bb)) : Prop := Kt_ w0 W μ0 (q_f117 bb) 5 5 (sSD_v bb r) (sSD_up bb uu hh ww r) (kAtR (bodyOf (q_f117 bb)) 5) ((.gs 0 (l).length) :: .any :: (.int .i64 hi) :: (.int .i64 first) :: (.fn (n53_65 bb) [.ptr 1 0 0] []) :: n_ 5 ((.int .i64 root) :: (.int .i64 y1) :: n_ 70 [])) [some (gE_ bb l), some (.var [.map 2, .map 3, .map 4]), some (oP1 uu []), some (oM3 hh), some (oM3 ww)]
theorem sSD_c5_ok (bb : Bool) {w0 W μ0} (hμ : Lt_ μ0 5) (data : LE bb) (lo hi first : Int) (uu : UT) (hh ww : PT) (root : Int) (l : LE bb) (y1 : Int) (k0 : (Int) → (LE bb) → Option ((LE bb))) (hk0 : ∀ (root : Int) (l : LE bb) (r : (LE bb)), k0 root l = some r → sSD_K0 w0 W μ0 bb hi first uu hh ww root l r) (r : (LE bb)) (h : sSD_c5 bb data lo hi first uu hh ww root l y1 k0 = some r) : sSD_K1000005 w0 W μ0 bb hi first uu hh ww root l y1 r := by
 unfold sSD_c5 at h
 obtain ⟨G1, h⟩ := gs_ h
 obtain ⟨y2, E3, h⟩ := bs_ h
 obtain ⟨G4, h⟩ := gs_ h
 obtain ⟨y5, E6, h⟩ := bs_ h
 obtain ⟨y8, E7, h⟩ := bs_ h
 rcases it_ h with ⟨C9, h⟩ | ⟨C9, h⟩
 ·obtain rfl := si_ h
  exact rrb_ [] 12 [.reg [(6, hv_ ((v_E_ bb) y2)), (12, hv_ ((v_E_ bb) y5)), (13, hk_ (hK_ [1, 2, 3, 4] (cmp__v bb y8) (cmp__objs bb uu hh ww) (cmp__up bb uu hh ww y8))), (15, hT)]]
   (q6 (r1_ (r4_ (ld_ (z_ bb) G1 (a_ (le_nm (v_E_ bb) E3) tr) (r4_ (ld_ (z_ bb) G4 (a_ (le_nm (v_E_ bb) E6) tr) (a_ (a_ (a_ (cmp__ok bb uu hh ww y2 y5 y8 E7 (sel [1, 2, 3, 4]) sj_) (o4_ [.map 2, .map 3, .map 4] uu hh ww)) tr) (r1_ (f_ C9 tr)))))))))
 ·obtain ⟨y10, E11, h⟩ := bs_ h
  obtain ⟨G12, h⟩ := gs_ h
  obtain ⟨y13, E14, h⟩ := bs_ h
  exact rtb_ hμ [] 20 [.reg [(6, hv_ ((v_E_ bb) y2)), (12, hv_ ((v_E_ bb) y5)), (13, hk_ (hK_ [1, 2, 3, 4] (cmp__v bb y8) (cmp__objs bb uu hh ww) (cmp__up bb uu hh ww y8))), (15, hF)], .reg [(13, hv_ ((v_E_ bb) y5)), (19, hv_ ((v_E_ bb) y2)), (21, { os := [(0, gE_ bb y10)] }), (23, { os := [(0, gE_ bb y13)] })], .reg [], .wk [(0, .gs 0 (y13).length)] []]
   (q0 (r1_ (r4_ (ld_ (z_ bb) G1 (a_ (le_nm (v_E_ bb) E3) tr) (r4_ (ld_ (z_ bb) G4 (a_ (le_nm (v_E_ bb) E6) tr) (a_ (a_ (a_ (cmp__ok bb uu hh ww y2 y5 y8 E7 (sel [1, 2, 3, 4]) sj_) (o4_ [.map 2, .map 3, .map 4] uu hh ww)) tr) (r1_ (f_ C9 tr)))))))) (r4_ (r8_ (ld_ (z_ bb) G4 (a_ (le_nm (v_E_ bb) E6) tr) (r4_ (ld_ (z_ bb) G1 (a_ (le_nm (v_E_ bb) E3) tr) (a_ (a_ (a_ (Eq.refl (z_ bb)) G1) tr) (a_ (a_ (a_ (Eq.refl (z_ bb)) (a_ (Nat.le_refl (z_ bb)) (ltN G1))) (a_ (LO.Sub.trans (sub_set_gr (c_E_ bb) default (z_ bb) l ((IntKind.wrap .i64 (first + root))).toNat y5 (ltN G1) (splL (rowF (c_E_ bb) default l ((IntKind.wrap .i64 (first + root))).toNat) 0 ((c_E_ bb) y5)) (by cases bb <;> kernel_rfl)) (ng_ bb E11)) tr)) (a_ (a_ (a_ (Eq.refl (z_ bb)) G4) tr) (a_ (a_ (a_ (Eq.refl (z_ bb)) (a_ (Nat.le_refl (z_ bb)) G12)) (a_ (LO.Sub.trans (sub_set_gr (c_E_ bb) default (z_ bb) y10 ((IntKind.wrap .i64 (first + y1))).toNat y2 G12 (splL (rowF (c_E_ bb) default y10 ((IntKind.wrap .i64 (first + y1))).toNat) 0 ((c_E_ bb) y2)) (by cases bb <;> kernel_rfl)) (ng_ bb E14)) tr)) tr))))))))) (r2_ tr) (q6 (q1 (le_gs 0 (show (l).length = (y13).length from by simp [← si_ E14, ← si_ E11]))))) (hk0 _ _ r h) uS
abbrev sSD_K1000006 (bb : Bool) (hi first : Int) (uu : UT) (hh ww : PT) (root : Int) (l : LE bb) (y1 : Int) (r : (LE bb)) : Prop := Kt_ w0 W μ0 (q_f117 bb) 5 5 (sSD_v bb r) (sSD_up bb uu hh ww r) (kAtR (bodyOf (q_f117 bb)) 6) ((.gs 0 (l).length) :: .any :: (.int .i64 hi) :: (.int .i64 first) :: (.fn (n53_65 bb) [.ptr 1 0 0] []) :: n_ 5 ((.int .i64 root) :: (.int .i64 y1) :: n_ 70 [])) [some (gE_ bb l), some (.var [.map 2, .map 3, .map 4]), some (oP1 uu []), some (oM3 hh), some (oM3 ww)]
theorem sSD_c6_ok (bb : Bool) {w0 W μ0} (hμ : Lt_ μ0 5) (data : LE bb) (lo hi first : Int) (uu : UT) (hh ww : PT) (root : Int) (l : LE bb) (y1 : Int) (k0 : (Int) → (LE bb) → Option ((LE bb))) (hk0 : ∀ (root : Int) (l : LE bb) (r : (LE bb)), k0 root l = some r → sSD_K0 w0 W μ0 bb hi first uu hh ww root l r) (r : (LE bb)) (h : sSD_c6 bb data lo hi first uu hh ww root l y1 k0 = some r) : sSD_K1000006 w0 W μ0 bb hi first uu hh ww root l y1 r := by
 unfold sSD_c6 at h
 obtain ⟨G1, h⟩ := gs_ h
 obtain ⟨y2, E3, h⟩ := bs_ h
 obtain ⟨G4, h⟩ := gs_ h
 obtain ⟨y5, E6, h⟩ := bs_ h
 obtain ⟨y7, E8, h⟩ := bs_ h
 obtain ⟨G9, h⟩ := gs_ h
 obtain ⟨y10, E11, h⟩ := bs_ h
 exact rtb_ hμ [] 15 [.reg [(13, hv_ ((v_E_ bb) y2)), (19, hv_ ((v_E_ bb) y5)), (21, { os := [(0, gE_ bb y7)] }), (23, { os := [(0, gE_ bb y10)] })], .reg [], .wk [(0, .gs 0 (y10).length)] []]
  (q0 (r4_ (r8_ (ld_ (z_ bb) G1 (a_ (le_nm (v_E_ bb) E3) tr) (r4_ (ld_ (z_ bb) G4 (a_ (le_nm (v_E_ bb) E6) tr) (a_ (a_ (a_ (Eq.refl (z_ bb)) G4) tr) (a_ (a_ (a_ (Eq.refl (z_ bb)) (a_ (Nat.le_refl (z_ bb)) (ltN G4))) (a_ (LO.Sub.trans (sub_set_gr (c_E_ bb) default (z_ bb) l ((IntKind.wrap .i64 (first + root))).toNat y2 (ltN G4) (splL (rowF (c_E_ bb) default l ((IntKind.wrap .i64 (first + root))).toNat) 0 ((c_E_ bb) y2)) (by cases bb <;> kernel_rfl)) (ng_ bb E8)) tr)) (a_ (a_ (a_ (Eq.refl (z_ bb)) G1) tr) (a_ (a_ (a_ (Eq.refl (z_ bb)) (a_ (Nat.le_refl (z_ bb)) G9)) (a_ (LO.Sub.trans (sub_set_gr (c_E_ bb) default (z_ bb) y7 ((IntKind.wrap .i64 (first + y1))).toNat y5 G9 (splL (rowF (c_E_ bb) default y7 ((IntKind.wrap .i64 (first + y1))).toNat) 0 ((c_E_ bb) y5)) (by cases bb <;> kernel_rfl)) (ng_ bb E11)) tr)) tr))))))))) (r2_ tr) (q6 (le_gs 0 (show (l).length = (y10).length from by simp [← si_ E11, ← si_ E8]))) tr) (hk0 _ _ r h) uS
theorem sSD_l0_ok (bb : Bool) {w0 W μ0} (hμ : Lt_ μ0 5) (data : LE bb) (lo hi first : Int) (uu : UT) (hh ww : PT) : ∀ (fuel : Nat) (root : Int) (l : LE bb) (r : (LE bb)), sSD_l0 bb data lo hi first uu hh ww fuel root l = some r → sSD_K0 w0 W μ0 bb hi first uu hh ww root l r := by
 intro fuel
 induction fuel with
 | zero => intro root l r h; rw [sSD_l0] at h; cases h
 | succ fuel ih =>
  intro root l r h
  rw [sSD_l0] at h
  obtain ⟨y1, E2, h⟩ := bs_ h
  rcases it_ h with ⟨C3, h⟩ | ⟨C3, h⟩
  ·obtain rfl := si_ h
   exact rrb_ [] 20 [.go, .reg [(2, hv_ (.int .i64 y1))], .reg [(2, hT)]]
    (q9 (r2_ (q21 (le_nm (LV.int .i64) E2))) (r2_ (f_ C3 tr)))
  ·rcases it_ h with ⟨C4, h⟩ | ⟨C4, h⟩
   ·obtain ⟨G5, h⟩ := gs_ h
    obtain ⟨y6, E7, h⟩ := bs_ h
    obtain ⟨y8, E9, h⟩ := bs_ h
    obtain ⟨G10, h⟩ := gs_ h
    obtain ⟨y12, E11, h⟩ := bs_ h
    rcases it_ h with ⟨C13, h⟩ | ⟨C13, h⟩
    ·exact rtb_ hμ [] 25 [.go, .reg [(2, hv_ (.int .i64 y1))], .reg [(2, hF)], .reg [(4, hT), (11, hv_ ((v_E_ bb) y6)), (16, hv_ (.int .i64 y8)), (19, hk_ (hK_ [1, 2, 3, 4] (cmp__v bb y12) (cmp__objs bb uu hh ww) (cmp__up bb uu hh ww y12))), (21, hT)]]
      (q0 (r2_ (q21 (le_nm (LV.int .i64) E2))) (r2_ (f_ C3 tr)) (r4_ (f_ C4 (r1_ (r4_ (ld_ (z_ bb) G5 (a_ (le_nm (v_E_ bb) E7) tr) (r4_ (a_ (a_ tr (a_ (le_nm (LV.int .i64) E9) tr)) (ld_ (z_ bb) G10 tr (a_ (a_ (a_ (cmp__ok bb uu hh ww y6 (l.getD y8.toNat default) y12 E11 (sel [1, 2, 3, 4]) sj_) (o4_ [.map 2, .map 3, .map 4] uu hh ww)) tr) (r1_ (f_ C13 tr))))))))))) tr) (sSD_c4_ok bb hμ data lo hi first uu hh ww root l y1 (sSD_l0 bb data lo hi first uu hh ww fuel) ih r h) uS
    ·exact rtb_ hμ [] 28 [.go, .reg [(2, hv_ (.int .i64 y1))], .reg [(2, hF)], .reg [(4, hT), (11, hv_ ((v_E_ bb) y6)), (16, hv_ (.int .i64 y8)), (19, hk_ (hK_ [1, 2, 3, 4] (cmp__v bb y12) (cmp__objs bb uu hh ww) (cmp__up bb uu hh ww y12))), (21, hF)]]
      (q0 (r2_ (q21 (le_nm (LV.int .i64) E2))) (r2_ (f_ C3 tr)) (r4_ (f_ C4 (r1_ (r4_ (ld_ (z_ bb) G5 (a_ (le_nm (v_E_ bb) E7) tr) (r4_ (a_ (a_ tr (a_ (le_nm (LV.int .i64) E9) tr)) (ld_ (z_ bb) G10 tr (a_ (a_ (a_ (cmp__ok bb uu hh ww y6 (l.getD y8.toNat default) y12 E11 (sel [1, 2, 3, 4]) sj_) (o4_ [.map 2, .map 3, .map 4] uu hh ww)) tr) (r1_ (f_ C13 tr))))))))))) tr) (sSD_c5_ok bb hμ data lo hi first uu hh ww root l y1 (sSD_l0 bb data lo hi first uu hh ww fuel) ih r h) uS
   ·obtain ⟨G5, h⟩ := gs_ h
    obtain ⟨y6, E7, h⟩ := bs_ h
    obtain ⟨G8, h⟩ := gs_ h
    obtain ⟨y9, E10, h⟩ := bs_ h
    obtain ⟨y12, E11, h⟩ := bs_ h
    rcases it_ h with ⟨C13, h⟩ | ⟨C13, h⟩
    ·obtain rfl := si_ h
     exact rrb_ [] 31 [.go, .reg [(2, hv_ (.int .i64 y1))], .reg [(2, hF)], .reg [(4, hF)], .reg [(6, hv_ ((v_E_ bb) y6)), (12, hv_ ((v_E_ bb) y9)), (13, hk_ (hK_ [1, 2, 3, 4] (cmp__v bb y12) (cmp__objs bb uu hh ww) (cmp__up bb uu hh ww y12))), (15, hT)]]
      (q16 (r2_ (q21 (le_nm (LV.int .i64) E2))) (r2_ (f_ C3 tr)) (r4_ (f_ C4 (t8_ (t8_ (r1_ tr))))) (q19 (r4_ (ld_ (z_ bb) G5 (a_ (le_nm (v_E_ bb) E7) tr) (r4_ (ld_ (z_ bb) G8 (a_ (le_nm (v_E_ bb) E10) tr) (a_ (a_ (a_ (cmp__ok bb uu hh ww y6 y9 y12 E11 (sel [1, 2, 3, 4]) sj_) (o4_ [.map 2, .map 3, .map 4] uu hh ww)) tr) (r1_ (f_ C13 tr)))))))))
    ·exact rtb_ hμ [] 33 [.go, .reg [(2, hv_ (.int .i64 y1))], .reg [(2, hF)], .reg [(4, hF)], .reg [(6, hv_ ((v_E_ bb) y6)), (12, hv_ ((v_E_ bb) y9)), (13, hk_ (hK_ [1, 2, 3, 4] (cmp__v bb y12) (cmp__objs bb uu hh ww) (cmp__up bb uu hh ww y12))), (15, hF)]]
      (q0 (r2_ (q21 (le_nm (LV.int .i64) E2))) (r2_ (f_ C3 tr)) (r4_ (f_ C4 (t8_ (t8_ (r1_ tr))))) (q19 (r4_ (ld_ (z_ bb) G5 (a_ (le_nm (v_E_ bb) E7) tr) (r4_ (ld_ (z_ bb) G8 (a_ (le_nm (v_E_ bb) E10) tr) (a_ (a_ (a_ (cmp__ok bb uu hh ww y6 y9 y12 E11 (sel [1, 2, 3, 4]) sj_) (o4_ [.map 2, .map 3, .map 4] uu hh ww)) tr) (r1_ (f_ C13 tr))))))))) (sSD_c6_ok bb hμ data lo hi first uu hh ww root l y1 (sSD_l0 bb data lo hi first uu hh ww fuel) ih r h) uS
theorem sSD_ok (bb : Bool) (data : LE bb) (lo hi first : Int) (uu : UT) (hh ww : PT) (r : (LE bb)) (h : sSD bb data lo hi first uu hh ww = some r) : ∀ σ, Inj 5 σ → FnTri Tryz.prog (n117_140 bb) (renL σ [.gs 0 (data).length, .int .i64 lo, .int .i64 hi, .int .i64 first, .fn (n53_65 bb) [.ptr 1 0 0] []]) (preOf σ 0 (sSD_objs bb data uu hh ww)) ((sSD_v bb r).ren σ) (upOf σ (sSD_up bb uu hh ww r)) := by
 refine fn_of (q_func117 bb) (by cases bb <;> kernel_rfl) (by cases bb <;> kernel_rfl) (by cases bb <;> kernel_rfl) ⟨fun _ _ => by cases bb <;> rfl, rfl, uP, trivial, trivial, trivial⟩ (by cases bb <;> kernel_rfl) ⟨fun _ _ => by cases bb <;> rfl, rfl, uP, trivial, trivial, trivial⟩ (by cases bb <;> kernel_rfl) ?_
 intro w0 W μ0 hμ
 unfold sSD at h
 exact rtb_ hμ [] 14 [.reg []]
  (q14 tr) (sSD_l0_ok bb hμ data lo hi first uu hh ww big _ _ r h) uS
abbrev sHP_K0 (bb : Bool) (a b : Int) (uu : UT) (hh ww : PT) (i : Int) (l : LE bb) (r : (LE bb)) : Prop := Kt_ w0 W μ0 (q_f102 bb) 5 5 (sHP_v bb r) (sHP_up bb uu hh ww r) (kAt (bodyOf (q_f102 bb)) 0) ((.gs 0 (l).length) :: .any :: .any :: (.fn (n53_65 bb) [.ptr 1 0 0] []) :: n_ 4 ((.int .i64 a) :: (.int .i64 0) :: (.int .i64 (IntKind.wrap .i64 (b - a))) :: (.int .i64 i) :: n_ 48 [])) [some (gE_ bb l), some (.var [.map 2, .map 3, .map 4]), some (oP1 uu []), some (oM3 hh), some (oM3 ww)]
abbrev sHP_K1 (bb : Bool) (a : Int) (uu : UT) (hh ww : PT) (i2 : Int) (l2 : LE bb) (r : (LE bb)) : Prop := Kt_ w0 W μ0 (q_f102 bb) 5 5 (sHP_v bb r) (sHP_up bb uu hh ww r) (kAt (bodyOf (q_f102 bb)) 1) ((.gs 0 (l2).length) :: .any :: .any :: (.fn (n53_65 bb) [.ptr 1 0 0] []) :: n_ 4 ((.int .i64 a) :: (.int .i64 0) :: .any :: .any :: (.int .i64 i2) :: n_ 47 [])) [some (gE_ bb l2), some (.var [.map 2, .map 3, .map 4]), some (oP1 uu []), some (oM3 hh), some (oM3 ww)]
theorem sHP_l1_ok (bb : Bool) {w0 W μ0} (hμ : Lt_ μ0 5) (data : LE bb) (a b : Int) (uu : UT) (hh ww : PT) : ∀ (fuel : Nat) (i2 : Int) (l2 : LE bb) (r : (LE bb)), sHP_l1 bb data a b uu hh ww fuel i2 l2 = some r → sHP_K1 w0 W μ0 bb a uu hh ww i2 l2 r := by
 intro fuel
 induction fuel with
 | zero => intro i2 l2 r h; rw [sHP_l1] at h; cases h
 | succ fuel ih =>
  intro i2 l2 r h
  rw [sHP_l1] at h
  rcases it_ h with ⟨C1, h⟩ | ⟨C1, h⟩
  ·obtain ⟨G2, h⟩ := gs_ h
   obtain ⟨y3, E4, h⟩ := bs_ h
   obtain ⟨G5, h⟩ := gs_ h
   obtain ⟨G6, h⟩ := gs_ h
   obtain ⟨y7, E8, h⟩ := bs_ h
   obtain ⟨y10, E9, h⟩ := bs_ h
   obtain ⟨G11, h⟩ := gs_ h
   exact rtb_ hμ [] 27 [.go, .reg [(1, hT)], .reg [(11, hv_ ((v_E_ bb) y3)), (17, { os := [(0, gE_ bb ((l2.set a.toNat y3)))] }), (19, { os := [(0, gE_ bb y7)] })], .reg [(5, { call := some (hK_ [0, 1, 2, 3, 4] (sSD_v bb y10) (sSD_objs bb y7 uu hh ww) (sSD_up bb uu hh ww y10)), cargs := some [.gs 0 (y7).length, .int .i64 0, .int .i64 i2, .int .i64 a, .fn (n53_65 bb) [.ptr 1 0 0] []] })], .reg [], .wk [(0, .gs 0 (y10).length)] []]
    (q11 (r1_ (f_ C1 tr)) (r2_ (r8_ (ld_ (z_ bb) G2 (a_ (le_nm (v_E_ bb) E4) tr) (r2_ (ld_ (z_ bb) G5 tr (a_ (a_ (a_ (Eq.refl (z_ bb)) G5) tr) (a_ (a_ (a_ (Eq.refl (z_ bb)) (a_ (Nat.le_refl (z_ bb)) (ltN G5))) (a_ (sub_set_gr (c_E_ bb) default (z_ bb) l2 a.toNat y3 (ltN G5) (splL (rowF (c_E_ bb) default l2 a.toNat) 0 ((c_E_ bb) y3)) (by cases bb <;> kernel_rfl)) tr)) (a_ (a_ (a_ (Eq.refl (z_ bb)) G2) tr) (a_ (a_ (a_ (Eq.refl (z_ bb)) (a_ (Nat.le_refl (z_ bb)) G6)) (a_ (LO.Sub.trans (sub_set_gr (c_E_ bb) default (z_ bb) (l2.set a.toNat y3) ((IntKind.wrap .i64 (a + i2))).toNat (l2.getD a.toNat default) G6 (splL (rowF (c_E_ bb) default (l2.set a.toNat y3) ((IntKind.wrap .i64 (a + i2))).toNat) 0 ((c_E_ bb) (l2.getD a.toNat default))) (by cases bb <;> kernel_rfl)) (ng_ bb E8)) tr)) tr))))))))) (r4_ (q6 (q0 (sSD_ok bb y7 0 i2 a uu hh ww y10 E9 (sel [0, 1, 2, 3, 4]) sj_) (q0 (le_gs 0 (show (l2).length = (y7).length from by simp [← si_ E8])) (LV.Le.refl (.int .i64 0)) (LV.Le.refl (.int .i64 i2)) (q3 (LV.Le.refl (.int .i64 a)) (LV.Le.refl (.fn (n53_65 bb) [.ptr 1 0 0] [])))) (rl_ (gE_ bb y7)) (o4_ [.map 2, .map 3, .map 4] uu hh ww)))) (q3 (q2 tr) (q6 (le_gs 0 G11)))) (ih _ _ r h) uS
  ·obtain rfl := si_ h
   exact rrb_ [] 16 [.go, .reg [(1, hF)]]
    (q6 (r1_ (f_ C1 tr)))
theorem sHP_l0_ok (bb : Bool) {w0 W μ0} (hμ : Lt_ μ0 5) (data : LE bb) (a b : Int) (uu : UT) (hh ww : PT) : ∀ (fuel : Nat) (i : Int) (l : LE bb) (r : (LE bb)), sHP_l0 bb data a b uu hh ww fuel i l = some r → sHP_K0 w0 W μ0 bb a b uu hh ww i l r := by
 intro fuel
 induction fuel with
 | zero => intro i l r h; rw [sHP_l0] at h; cases h
 | succ fuel ih =>
  intro i l r h
  rw [sHP_l0] at h
  rcases it_ h with ⟨C1, h⟩ | ⟨C1, h⟩
  ·obtain ⟨y3, E2, h⟩ := bs_ h
   obtain ⟨G4, h⟩ := gs_ h
   exact rtb_ hμ [] 24 [.go, .reg [(1, hT)], .reg [(5, hk_ (hK_ [0, 1, 2, 3, 4] (sSD_v bb y3) (sSD_objs bb l uu hh ww) (sSD_up bb uu hh ww y3)))], .reg [], .wk [(0, .gs 0 (y3).length)] []]
    (q25 (f_ C1 tr) (r4_ (q18 (sSD_ok bb l i (IntKind.wrap .i64 (b - a)) a uu hh ww y3 E2 (sel [0, 1, 2, 3, 4]) sj_) (rl_ (gE_ bb l)) (o4_ [.map 2, .map 3, .map 4] uu hh ww))) (q2 tr) (q6 (q1 (le_gs 0 G4)))) (ih _ _ r h) uS
  ·obtain ⟨y2, E3, h⟩ := bs_ h
   exact rtb_ hμ [] 21 [.go, .reg [(1, hF)], .reg [(1, hv_ (.int .i64 y2))]]
    (q27 (f_ C1 tr) (r1_ (q21 (le_nm (LV.int .i64) E3)))) (sHP_l1_ok bb hμ data a b uu hh ww big _ _ r h) uS
theorem sHP_ok (bb : Bool) (data : LE bb) (a b : Int) (uu : UT) (hh ww : PT) (r : (LE bb)) (h : sHP bb data a b uu hh ww = some r) : ∀ σ, Inj 5 σ → FnTri Tryz.prog (n102_128 bb) (renL σ [.gs 0 (data).length, .int .i64 a, .int .i64 b, .fn (n53_65 bb) [.ptr 1 0 0] []]) (preOf σ 0 (sHP_objs bb data uu hh ww)) ((sHP_v bb r).ren σ) (upOf σ (sHP_up bb uu hh ww r)) := by
 refine fn_of (q_func102 bb) (by cases bb <;> kernel_rfl) (by cases bb <;> kernel_rfl) (by cases bb <;> kernel_rfl) ⟨fun _ _ => by cases bb <;> rfl, rfl, uP, trivial, trivial, trivial⟩ (by cases bb <;> kernel_rfl) ⟨fun _ _ => by cases bb <;> rfl, rfl, uP, trivial, trivial, trivial⟩ (by cases bb <;> kernel_rfl) ?_
 intro w0 W μ0 hμ
 unfold sHP at h
 obtain ⟨y1, e2, h⟩ := bs_ h
 exact rtb_ hμ [] 24 [.reg [], .reg [], .reg [], .reg [(1, hv_ (.int .i64 y1))]]
  (q7 (r2_ tr) tr (r4_ tr) (q19 (a_ (q3 tr (le_nm (LV.int .i64) e2)) (q4 (ne0 2 rfl) tr)))) (sHP_l0_ok bb hμ data a b uu hh ww big _ _ r h) uS
def sBP_v (bb : Bool) (r : (LE bb)) : LV := .tup []
def sBP_up (bb : Bool) (uu : UT) (hh ww : PT) (r : (LE bb)) : Upd := [(0, some (gE_ bb r)), (1, some (.var [.map 2, .map 3, .map 4])), (2, some (oP1 uu [])), (3, some (oM3 hh)), (4, some (oM3 ww))]
def sBP_objs (bb : Bool) (data : LE bb) (uu : UT) (hh ww : PT) : List LO := [gE_ bb data, .var [.map 2, .map 3, .map 4], oP1 uu [], oM3 hh, oM3 ww]
abbrev sBP_K0 (bb : Bool) (a b : Int) (uu : UT) (hh ww : PT) (y3 : (Int)) (idx : Int) (l : LE bb) (x : Int) (r : (LE bb)) : Prop := Kt_ w0 W μ0 (q_f103 bb) 5 5 (sBP_v bb r) (sBP_up bb uu hh ww r) (kAt (bodyOf (q_f103 bb)) 0) ((.gs 0 (l).length) :: (.int .i64 a) :: n_ 6 ((.int .i64 (IntKind.wrap .i64 (b - a))) :: (.ptr 5 0 0) :: (.int .u64 y3) :: (.int .i64 idx) :: n_ 55 [])) [some (gE_ bb l), some (.var [.map 2, .map 3, .map 4]), some (oP1 uu []), some (oM3 hh), some (oM3 ww), some (.var [.int .u64 x])]
abbrev sBP_K1000009 (bb : Bool) (a b : Int) (uu : UT) (hh ww : PT) (idx : Int) (l : LE bb) (y3 : (Int)) (y7 : (Int) × (Int)) (y8 : Int) (r : (LE bb)) : Prop := Kt_ w0 W μ0 (q_f103 bb) 5 5 (sBP_v bb r) (sBP_up bb uu hh ww r) (kAtR (bodyOf (q_f103 bb)) 9) ((.gs 0 (l).length) :: (.int .i64 a) :: n_ 6 ((.int .i64 (IntKind.wrap .i64 (b - a))) :: (.ptr 5 0 0) :: (.int .u64 y3) :: (.int .i64 idx) :: (.int .i64 (IntKind.wrap .i64 y8)) :: n_ 54 [])) [some (gE_ bb l), some (.var [.map 2, .map 3, .map 4]), some (oP1 uu []), some (oM3 hh), some (oM3 ww), some (.var [.int .u64 y7.2])]
theorem sBP_c9_ok (bb : Bool) {w0 W μ0} (hμ : Lt_ μ0 5) (data : LE bb) (a b : Int) (uu : UT) (hh ww : PT) (idx : Int) (l : LE bb) (y3 : (Int)) (y7 : (Int) × (Int)) (yL0_8 : Int) (k0 : (Int) → (LE bb) → (Int) → Option ((LE bb))) (hk0 : ∀ (idx : Int) (l : LE bb) (x : Int) (r : (LE bb)), k0 idx l x = some r → sBP_K0 w0 W μ0 bb a b uu hh ww y3 idx l x r) (r : (LE bb)) (h : sBP_c9 bb data a b uu hh ww idx l y3 y7 yL0_8 k0 = some r) : sBP_K1000009 w0 W μ0 bb a b uu hh ww idx l y3 y7 yL0_8 r := by
 unfold sBP_c9 at h
 obtain ⟨y1, E2, h⟩ := bs_ h
 obtain ⟨G3, h⟩ := gs_ h
 obtain ⟨y4, E5, h⟩ := bs_ h
 obtain ⟨G6, h⟩ := gs_ h
 obtain ⟨G7, h⟩ := gs_ h
 obtain ⟨yC9_8, E9, h⟩ := bs_ h
 exact rtb_ hμ [5] 17 [.reg [(2, hv_ (.int .i64 y1))], .reg [(11, hv_ ((v_E_ bb) y4)), (17, { os := [(0, gE_ bb ((l.set idx.toNat y4)))] }), (19, { os := [(0, gE_ bb yC9_8)] })], .reg [], .wk [(0, .gs 0 (yC9_8).length)] []]
  (q0 (r2_ (q21 (le_nm (LV.int .i64) E2))) (r2_ (r8_ (ld_ (z_ bb) G3 (a_ (le_nm (v_E_ bb) E5) tr) (r2_ (ld_ (z_ bb) G6 tr (a_ (a_ (a_ (Eq.refl (z_ bb)) G6) tr) (a_ (a_ (a_ (Eq.refl (z_ bb)) (a_ (Nat.le_refl (z_ bb)) (ltN G6))) (a_ (sub_set_gr (c_E_ bb) default (z_ bb) l idx.toNat y4 (ltN G6) (splL (rowF (c_E_ bb) default l idx.toNat) 0 ((c_E_ bb) y4)) (by cases bb <;> kernel_rfl)) tr)) (a_ (a_ (a_ (Eq.refl (z_ bb)) G3) tr) (a_ (a_ (a_ (Eq.refl (z_ bb)) (a_ (Nat.le_refl (z_ bb)) G7)) (a_ (LO.Sub.trans (sub_set_gr (c_E_ bb) default (z_ bb) (l.set idx.toNat y4) ((IntKind.wrap .i64 (a + y1))).toNat (l.getD idx.toNat default) G7 (splL (rowF (c_E_ bb) default (l.set idx.toNat y4) ((IntKind.wrap .i64 (a + y1))).toNat) 0 ((c_E_ bb) (l.getD idx.toNat default))) (by cases bb <;> kernel_rfl)) (ng_ bb E9)) tr)) tr))))))))) (q2 tr) (q6 (q1 (le_gs 0 (show (l).length = (yC9_8).length from by simp [← si_ E9]))))) (hk0 _ _ _ r h) ⟨fun _ _ => by cases bb <;> rfl, rfl, uP, trivial, trivial, rfl, trivial⟩
abbrev sBP_K1000010 (bb : Bool) (a b : Int) (uu : UT) (hh ww : PT) (idx : Int) (l : LE bb) (y3 : (Int)) (y7 : (Int) × (Int)) (y8 : Int) (r : (LE bb)) : Prop := Kt_ w0 W μ0 (q_f103 bb) 5 5 (sBP_v bb r) (sBP_up bb uu hh ww r) (kAtR (bodyOf (q_f103 bb)) 10) ((.gs 0 (l).length) :: (.int .i64 a) :: n_ 6 ((.int .i64 (IntKind.wrap .i64 (b - a))) :: (.ptr 5 0 0) :: (.int .u64 y3) :: (.int .i64 idx) :: (.int .i64 (IntKind.wrap .i64 y8)) :: n_ 54 [])) [some (gE_ bb l), some (.var [.map 2, .map 3, .map 4]), some (oP1 uu []), some (oM3 hh), some (oM3 ww), some (.var [.int .u64 y7.2])]
theorem sBP_c10_ok (bb : Bool) {w0 W μ0} (hμ : Lt_ μ0 5) (data : LE bb) (a b : Int) (uu : UT) (hh ww : PT) (idx : Int) (l : LE bb) (y3 : (Int)) (y7 : (Int) × (Int)) (y8 : Int) (k0 : (Int) → (LE bb) → (Int) → Option ((LE bb))) (hk0 : ∀ (idx : Int) (l : LE bb) (x : Int) (r : (LE bb)), k0 idx l x = some r → sBP_K0 w0 W μ0 bb a b uu hh ww y3 idx l x r) (r : (LE bb)) (h : sBP_c10 bb data a b uu hh ww idx l y3 y7 y8 k0 = some r) : sBP_K1000010 w0 W μ0 bb a b uu hh ww idx l y3 y7 y8 r := by
 unfold sBP_c10 at h
 obtain ⟨y1, E2, h⟩ := bs_ h
 obtain ⟨G3, h⟩ := gs_ h
 obtain ⟨G4, h⟩ := gs_ h
 obtain ⟨G5, h⟩ := gs_ h
 obtain ⟨y6, E7, h⟩ := bs_ h
 exact rtb_ hμ [5] 15 [.reg [(5, hv_ (.int .i64 y1)), (9, hv_ (.int .i64 y1)), (17, { os := [(0, gE_ bb ((l.set idx.toNat (l.getD y1.toNat default))))] }), (19, { os := [(0, gE_ bb y6)] })], .reg [], .wk [(0, .gs 0 (y6).length)] []]
  (q0 (r1_ (r4_ (a_ (q3 tr (le_nm (LV.int .i64) E2)) (q2 (a_ (q3 tr (le_nm (LV.int .i64) E2)) (ld_ (z_ bb) G3 tr (r2_ (ld_ (z_ bb) G4 tr (a_ (a_ (a_ (Eq.refl (z_ bb)) G4) tr) (a_ (a_ (a_ (Eq.refl (z_ bb)) (a_ (Nat.le_refl (z_ bb)) (ltN G4))) (a_ (sub_set_gr (c_E_ bb) default (z_ bb) l idx.toNat (l.getD y1.toNat default) (ltN G4) (splL (rowF (c_E_ bb) default l idx.toNat) 0 ((c_E_ bb) (l.getD y1.toNat default))) (by cases bb <;> kernel_rfl)) tr)) (a_ (a_ (a_ (Eq.refl (z_ bb)) G3) tr) (a_ (a_ (a_ (Eq.refl (z_ bb)) (a_ (Nat.le_refl (z_ bb)) G5)) (a_ (LO.Sub.trans (sub_set_gr (c_E_ bb) default (z_ bb) (l.set idx.toNat (l.getD y1.toNat default)) y1.toNat (l.getD idx.toNat default) G5 (splL (rowF (c_E_ bb) default (l.set idx.toNat (l.getD y1.toNat default)) y1.toNat) 0 ((c_E_ bb) (l.getD idx.toNat default))) (by cases bb <;> kernel_rfl)) (ng_ bb E7)) tr)) tr)))))))))))) (q2 tr) (q6 (le_gs 0 (show (l).length = (y6).length from by simp [← si_ E7]))) tr) (hk0 _ _ _ r h) ⟨fun _ _ => by cases bb <;> rfl, rfl, uP, trivial, trivial, rfl, trivial⟩
theorem sBP_l0_ok (bb : Bool) {w0 W μ0} (hμ : Lt_ μ0 5) (data : LE bb) (a b : Int) (uu : UT) (hh ww : PT) (y3 : (Int)) : ∀ (fuel : Nat) (idx : Int) (l : LE bb) (x : Int) (r : (LE bb)), sBP_l0 bb data a b uu hh ww y3 fuel idx l x = some r → sBP_K0 w0 W μ0 bb a b uu hh ww y3 idx l x r := by
 intro fuel
 induction fuel with
 | zero => intro idx l x r h; rw [sBP_l0] at h; cases h
 | succ fuel ih =>
  intro idx l x r h
  rw [sBP_l0] at h
  obtain ⟨y1, E2, h⟩ := bs_ h
  obtain ⟨yL0_3, E4, h⟩ := bs_ h
  rcases it_ h with ⟨C5, h⟩ | ⟨C5, h⟩
  ·obtain ⟨y7, E6, h⟩ := bs_ h
   obtain ⟨y8, E9, h⟩ := bs_ h
   rcases it_ h with ⟨C10, h⟩ | ⟨C10, h⟩
   ·exact rtb_ hμ [5] 26 [.go, .reg [(3, hv_ (.int .i64 y1)), (5, hv_ (.int .i64 yL0_3)), (7, hT)], .reg [(0, hk_ (hK_ [5] (slices_xorshift_Next_v y7) (slices_xorshift_Next_objs x) (slices_xorshift_Next_up y7))), (3, hv_ (.int .u64 y8))], .reg [(2, hT)]]
     (q0 (q2 (q5 (ne0 4 rfl) (le_nm (LV.int .i64) E2) (q5 tr (le_nm (LV.int .i64) E4) (f_ C5 tr)))) (a_ (q9 (slices_xorshift_Next_ok x y7 E6 (sel [5]) sj_) (rl_ (.var [.int .u64 x]))) (r2_ (q24 (q3 tr (le_nm (LV.int .u64) E9))))) (r2_ (f_ C10 tr)) tr) (sBP_c9_ok bb hμ data a b uu hh ww idx l y3 y7 y8 (sBP_l0 bb data a b uu hh ww y3 fuel) ih r h) ⟨fun _ _ => by cases bb <;> rfl, rfl, uP, trivial, trivial, rfl, trivial⟩
   ·exact rtb_ hμ [5] 27 [.go, .reg [(3, hv_ (.int .i64 y1)), (5, hv_ (.int .i64 yL0_3)), (7, hT)], .reg [(0, hk_ (hK_ [5] (slices_xorshift_Next_v y7) (slices_xorshift_Next_objs x) (slices_xorshift_Next_up y7))), (3, hv_ (.int .u64 y8))], .reg [(2, hF)]]
     (q0 (q2 (q5 (ne0 4 rfl) (le_nm (LV.int .i64) E2) (q5 tr (le_nm (LV.int .i64) E4) (f_ C5 tr)))) (a_ (q9 (slices_xorshift_Next_ok x y7 E6 (sel [5]) sj_) (rl_ (.var [.int .u64 x]))) (r2_ (q24 (q3 tr (le_nm (LV.int .u64) E9))))) (r2_ (f_ C10 tr)) tr) (sBP_c10_ok bb hμ data a b uu hh ww idx l y3 y7 y8 (sBP_l0 bb data a b uu hh ww y3 fuel) ih r h) ⟨fun _ _ => by cases bb <;> rfl, rfl, uP, trivial, trivial, rfl, trivial⟩
  ·obtain rfl := si_ h
   exact rrb_ [] 16 [.go, .reg [(3, hv_ (.int .i64 y1)), (5, hv_ (.int .i64 yL0_3)), (7, hF)]]
    (q6 (q2 (q5 (ne0 4 rfl) (le_nm (LV.int .i64) E2) (q5 tr (le_nm (LV.int .i64) E4) (f_ C5 tr)))))
theorem sBP_ok (bb : Bool) (data : LE bb) (a b : Int) (uu : UT) (hh ww : PT) (r : (LE bb)) (h : sBP bb data a b uu hh ww = some r) : ∀ σ, Inj 5 σ → FnTri Tryz.prog (n103_129 bb) (renL σ [.gs 0 (data).length, .int .i64 a, .int .i64 b, .fn (n53_65 bb) [.ptr 1 0 0] []]) (preOf σ 0 (sBP_objs bb data uu hh ww)) ((sBP_v bb r).ren σ) (upOf σ (sBP_up bb uu hh ww r)) := by
 refine fn_of (q_func103 bb) (by cases bb <;> kernel_rfl) (by cases bb <;> kernel_rfl) (by cases bb <;> kernel_rfl) ⟨fun _ _ => by cases bb <;> rfl, rfl, uP, trivial, trivial, trivial⟩ (by cases bb <;> kernel_rfl) ⟨fun _ _ => by cases bb <;> rfl, rfl, uP, trivial, trivial, trivial⟩ (by cases bb <;> kernel_rfl) ?_
 intro w0 W μ0 hμ
 unfold sBP at h
 rcases it_ h with ⟨c1, h⟩ | ⟨c1, h⟩
 ·obtain ⟨y3, e2, h⟩ := bs_ h
  obtain ⟨y4, e5, h⟩ := bs_ h
  obtain ⟨y6, e7, h⟩ := bs_ h
  exact rtb_ hμ [5] 27 [.reg [], .reg [(1, hT)], .reg [], .reg [(1, hC (slices_nextPowerOfTwo_v y3))], .reg [(2, hv_ (.int .i64 y4)), (4, hv_ (.int .i64 y6))]]
   (q7 (r4_ tr) (f_ c1 tr) (q2 (q18 (Eq.refl 1) (le_ 1 1 rfl) (Eq.refl 0))) (q27 (q4 (q1 (slices_nextPowerOfTwo_tri (IntKind.wrap .i64 (b - a)) y3 e2)) tr) (r2_ (q5 (ne0 4 rfl) (le_nm (LV.int .i64) e5) (q24 (q3 tr (le_nm (LV.int .i64) e7))))))) (sBP_l0_ok bb hμ data a b uu hh ww y3 big _ _ _ r h) ⟨fun _ _ => by cases bb <;> rfl, rfl, uP, trivial, trivial, rfl, trivial⟩
 ·obtain rfl := si_ h
  exact rrb_ [] 17 [.reg [], .reg [(1, hF)]]
   (q9 (r4_ tr) (r1_ (f_ c1 tr)))
def sCP_v (bb : Bool) (r : (Int) × (Int)) : LV := .tup [.int .i64 r.1, .int .i64 r.2]
def sCP_up (bb : Bool) (data : LE bb) (uu : UT) (hh ww : PT) (r : (Int) × (Int)) : Upd := [(0, some (gE_ bb data)), (1, some (.var [.map 2, .map 3, .map 4])), (2, some (oP1 uu [])), (3, some (oM3 hh)), (4, some (oM3 ww))]
def sCP_objs (bb : Bool) (data : LE bb) (uu : UT) (hh ww : PT) : List LO := [gE_ bb data, .var [.map 2, .map 3, .map 4], oP1 uu [], oM3 hh, oM3 ww]
def sME_v (bb : Bool) (r : (Int) × (Int)) : LV := .int .i64 r.1
def sME_up (bb : Bool) (data : LE bb) (uu : UT) (hh ww : PT) (r : (Int) × (Int)) : Upd := [(0, some (gE_ bb data)), (1, some (.var [.int .i64 r.2])), (2, some (.var [.map 3, .map 4, .map 5])), (3, some (oP1 uu [])), (4, some (oM3 hh)), (5, some (oM3 ww))]
def sME_objs (bb : Bool) (data : LE bb) (swaps : Int) (uu : UT) (hh ww : PT) : List LO := [gE_ bb data, .var [.int .i64 swaps], .var [.map 3, .map 4, .map 5], oP1 uu [], oM3 hh, oM3 ww]
def sO2_v (bb : Bool) (r : (Int) × (Int) × (Int)) : LV := .tup [.int .i64 r.1, .int .i64 r.2.1]
end
end Go.Proofs.YtddgjfclpknkcaaGreatDoor.Wk
