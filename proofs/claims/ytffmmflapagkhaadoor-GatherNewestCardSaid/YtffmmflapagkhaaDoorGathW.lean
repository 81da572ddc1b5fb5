/- Printed by tr.py: Go functions as Lean functions, with the proofs that they walk so. -/
import Derived.Test.YtffmmflapagkhaaDoorGathWa
namespace Go.Proofs.YtffmmflapagkhaaDoor.Wk
open Go Go.Cn Go.RowKit
set_option maxRecDepth 100000
set_option maxHeartbeats 4000000
set_option linter.unusedVariables false
set_option linter.unusedSimpArgs false
noncomputable section
/-- parrel/parrellaw19.GatherChains$1 -/

def parrellaw19_GatherChains_L1_v (r : (T_api_Item)) : LV := v_T_api_Item r

def parrellaw19_GatherChains_L1_up (x_n : Int) (x1 : Int) (x2 : T_api_Config) (x3 : T_api_Config) (r : (T_api_Item)) : Upd := [(0, some (.var [.int .u64 x1])), (1, some (.var (c_T_api_Config x2))), (2, some (.var (c_T_api_Config x3)))]

def parrellaw19_GatherChains_L1_objs (x_n : Int) (x1 : Int) (x2 : T_api_Config) (x3 : T_api_Config) : List LO := [.var [.int .u64 x1], .var (c_T_api_Config x2), .var (c_T_api_Config x3)]

def parrellaw19_GatherChains_L1 (x_n : Int) (x1 : Int) (x2 : T_api_Config) (x3 : T_api_Config) : Option ((T_api_Item)) :=
  if 0 ≤ x_n then
  if (((IntKind.wrap .u64 ((BitVec.ofInt (IntKind.bits .u64) (Int.fdiv x1 (2 ^ (min (Int.toNat x_n) (IntKind.bits .u64)))) &&& BitVec.ofInt (IntKind.bits .u64) 1).toNat : Int)) == 1) : Bool) then
    some (T_api_Item.mk 2 [] x2)
  else
    some (T_api_Item.mk 1 [] x3)
  else none

theorem parrellaw19_GatherChains_L1_ok (x_n : Int) (x1 : Int) (x2 : T_api_Config) (x3 : T_api_Config) (r : (T_api_Item)) (h : parrellaw19_GatherChains_L1 x_n x1 x2 x3 = some r) : ∀ σ, Inj 3 σ → FnTri Tryd.prog 34 (renL σ [.int .u8 x_n, .ptr 0 0 0, .ptr 1 0 0, .ptr 2 0 0]) (preOf σ 0 (parrellaw19_GatherChains_L1_objs x_n x1 x2 x3)) ((parrellaw19_GatherChains_L1_v r).ren σ) (upOf σ (parrellaw19_GatherChains_L1_up x_n x1 x2 x3 r)) := by
  refine fn_of Tryd.func34 (by kernel_rfl) (by kernel_rfl) (by kernel_rfl) ⟨rfl, rfl, rfl, trivial⟩ (by kernel_rfl) ⟨rfl, rfl, rfl, trivial⟩ (by kernel_rfl) ?_
  intro w0 W μ0 hμ
  unfold parrellaw19_GatherChains_L1 at h
  obtain ⟨g1, h⟩ := guard_some h
  rcases itb_some h with ⟨c2, h⟩ | ⟨c2, h⟩
  · skip
    obtain rfl := Option.some.inj h
    exact run_ret mixed (L := []) (n := 20) (s := [.reg [], .reg [(4, { v := some (.bool true) })], .reg []])
      (a_ (a_ (r1_ tr) (a_ (a_ (a_ (a_ tr (lt_ 0 1 rfl)) tr) (r1_ (a_ (a_ g1 tr) (r1_ (a_ (a_ tr (a_ (leB c2) tr)) tr))))) (a_ (a_ (a_ (a_ tr (le_ 11 11 rfl)) tr) (a_ (a_ (Eq.refl true) tr) (a_ (a_ (a_ (Eq.refl 13) (a_ (le_ 13 13 rfl) (Eq.refl 0))) tr) tr))) tr))) (a_ (a_ tr (le_ 13 13 rfl)) tr)) (by kernel_rfl) rfl
  · skip
    obtain rfl := Option.some.inj h
    exact run_ret mixed (L := []) (n := 21) (s := [.reg [], .reg [(4, { v := some (.bool false) })], .reg []])
      (a_ (a_ (r1_ tr) (a_ (a_ (a_ (a_ tr (lt_ 0 1 rfl)) tr) (r1_ (a_ (a_ g1 tr) (r1_ (a_ (a_ tr (a_ (leB c2) tr)) tr))))) (a_ (a_ (a_ (a_ tr (le_ 11 11 rfl)) tr) (a_ (a_ (Eq.refl true) tr) (a_ (a_ (a_ (Eq.refl 13) (a_ (le_ 13 13 rfl) (Eq.refl 0))) tr) tr))) tr))) (a_ (a_ tr (le_ 13 13 rfl)) tr)) (by kernel_rfl) rfl

/-- parrel/parrellaw19.gathered -/

def parrellaw19_gathered_vA (r : Unit) : LV := .nilptr

def parrellaw19_gathered_upA (mode : Int) (c : T_api_Config) (set : Int) (c2 : Int) (c3 : T_api_Config) (c4 : T_api_Config) (r : Unit) : Upd := [(0, some (.var [.int .u64 c2])), (1, some (.var (c_T_api_Config c3))), (2, some (.var (c_T_api_Config c4)))]

def parrellaw19_gathered_vB (r : (Int) × (T_api_Config) × (List (T_api_Config)) × (A8 (T_gather_Got)) × (Int)) : LV := .ptr 3 0 0

def parrellaw19_gathered_upB (mode : Int) (c : T_api_Config) (set : Int) (c2 : Int) (c3 : T_api_Config) (c4 : T_api_Config) (r : (Int) × (T_api_Config) × (List (T_api_Config)) × (A8 (T_gather_Got)) × (Int)) : Upd := [(0, some (.var [.int .u64 c2])), (1, some (.var (c_T_api_Config c3))), (2, some (.var (c_T_api_Config c4))), (3, some (.var (c_T_gather_Gather (T_gather_Gather.mk r.1 r.2.1 r.2.2.1 r.2.2.2.1 r.2.2.2.2))))]

def parrellaw19_gathered_objs (mode : Int) (c : T_api_Config) (set : Int) (c2 : Int) (c3 : T_api_Config) (c4 : T_api_Config) : List LO := [.var [.int .u64 c2], .var (c_T_api_Config c3), .var (c_T_api_Config c4)]

def parrellaw19_gathered_T0 (set : Int) (c2 : Int) (c3 : T_api_Config) (c4 : T_api_Config) (t21 : Int) (mode2 : Int) (Epoch : T_api_Config) (more : List (T_api_Config)) (Node : A8 (T_gather_Got)) (nodes : Int) : List LV := [.any, .any, .int .u64 set, .fn 34 [] [.ptr 0 0 0, .ptr 1 0 0, .ptr 2 0 0], .any, .any, .any, .any, .any, .ptr 3 0 0, .any, .any, .any, .any, .any, .any, .any, .any, .any, .any, .any, .int .u8 t21, .any, .any, .any, .any, .any, .any, .any, .any, .any, .any, .any, .any, .any, .any, .any, .any, .any]

def parrellaw19_gathered_H0 (set : Int) (c2 : Int) (c3 : T_api_Config) (c4 : T_api_Config) (t21 : Int) (mode2 : Int) (Epoch : T_api_Config) (more : List (T_api_Config)) (Node : A8 (T_gather_Got)) (nodes : Int) : Heap := [some (.var [.int .u64 c2]), some (.var (c_T_api_Config c3)), some (.var (c_T_api_Config c4)), some (.var (c_T_gather_Gather (T_gather_Gather.mk mode2 Epoch more Node nodes)))]

def parrellaw19_gathered_l0 (mode : Int) (c : T_api_Config) (set : Int) (c2 : Int) (c3 : T_api_Config) (c4 : T_api_Config)  : Nat → (Int) → (Int) → (T_api_Config) → (List (T_api_Config)) → (A8 (T_gather_Got)) → (Int) → Option (Bool × (Unit) × ((Int) × (T_api_Config) × (List (T_api_Config)) × (A8 (T_gather_Got)) × (Int)))
  | 0, _, _, _, _, _, _ => none
  | fuel + 1, t21, mode2, Epoch, more, Node, nodes =>
    if ((decide (t21 < 8)) : Bool) then
      if 0 ≤ t21 then
      if (((IntKind.wrap .u64 ((BitVec.ofInt (IntKind.bits .u64) (Int.fdiv set (2 ^ (min (Int.toNat t21) (IntKind.bits .u64)))) &&& BitVec.ofInt (IntKind.bits .u64) 1).toNat : Int)) == 1) : Bool) then
        (parrellaw19_GatherChains_L1 t21 c2 c3 c4).bind fun yL0_5 =>
        (gather_Gather_Grant (T_gather_Gather.mk mode2 Epoch more Node nodes) (T_gather_Got.mk t21 (T_api_Reg.mk 1 1) yL0_5)).bind fun yL0_7 =>
        parrellaw19_gathered_l0 mode c set c2 c3 c4  fuel (IntKind.wrap .u8 (t21 + 1)) yL0_7.2.1 yL0_7.2.2.1 yL0_7.2.2.2.1 yL0_7.2.2.2.2.1 yL0_7.2.2.2.2.2
      else
        parrellaw19_gathered_l0 mode c set c2 c3 c4  fuel (IntKind.wrap .u8 (t21 + 1)) mode2 Epoch more Node nodes
      else none
    else
      some (false, default, (mode2, Epoch, more, Node, nodes))

def parrellaw19_gathered (mode : Int) (c : T_api_Config) (set : Int) (c2 : Int) (c3 : T_api_Config) (c4 : T_api_Config) : Option (Bool × (Unit) × ((Int) × (T_api_Config) × (List (T_api_Config)) × (A8 (T_gather_Got)) × (Int))) :=
  (gather_New (A8.mk 97 0 0 0 0 0 0 0) mode c ([] : List (T_api_Config))).bind fun y2 =>
  if (y2.1 : Bool) then
    some (true, (), default)
  else
    parrellaw19_gathered_l0 mode c set c2 c3 c4  big 0 y2.2.2.1 y2.2.2.2.1 y2.2.2.2.2.1 y2.2.2.2.2.2 0

theorem parrellaw19_gathered_l0_okA {w0 : World} {W : Nat → Prop} {μ0 : Emb} (hμ : ∀ c p, μ0 c = some p → c < 3) (mode : Int) (c : T_api_Config) (set : Int) (c2 : Int) (c3 : T_api_Config) (c4 : T_api_Config)  : ∀ (fuel : Nat) (t21 : Int) (mode2 : Int) (Epoch : T_api_Config) (more : List (T_api_Config)) (Node : A8 (T_gather_Got)) (nodes : Int) (r : Unit) (r_ : (Int) × (T_api_Config) × (List (T_api_Config)) × (A8 (T_gather_Got)) × (Int)), parrellaw19_gathered_l0 mode c set c2 c3 c4  fuel t21 mode2 Epoch more Node nodes = some (true, r, r_) → kont Tryd.prog w0 W μ0 (FnPost Tryd.prog Tryd.f12 3 3 (parrellaw19_gathered_vA r) (parrellaw19_gathered_upA mode c set c2 c3 c4 r)) (kAt (bodyOf Tryd.f12) 0) none (parrellaw19_gathered_T0 set c2 c3 c4 t21 mode2 Epoch more Node nodes) (parrellaw19_gathered_H0 set c2 c3 c4 t21 mode2 Epoch more Node nodes) := by
  intro fuel
  induction fuel with
  | zero => intro t21 mode2 Epoch more Node nodes r r_ h; rw [parrellaw19_gathered_l0] at h; cases h
  | succ fuel ih =>
    intro t21 mode2 Epoch more Node nodes r r_ h
    rw [parrellaw19_gathered_l0] at h
    rcases itb_some h with ⟨cL0_1, h⟩ | ⟨cL0_1, h⟩
    · skip
      obtain ⟨gL0_2, h⟩ := guard_some h
      rcases itb_some h with ⟨cL0_3, h⟩ | ⟨cL0_3, h⟩
      · skip
        obtain ⟨yL0_5, eL0_4, h⟩ := bind_some h
        obtain ⟨yL0_7, eL0_6, h⟩ := bind_some h
        exact run_to mixed hμ (L := [3]) (n := 30) (s := [.go, .reg [(0, { v := some (.bool true) })], .reg [], .reg [(4, { v := some (.bool true) })], .reg [(5, { call := some ((parrellaw19_GatherChains_L1_v yL0_5).ren (sel [0, 1, 2]), preOf (sel [0, 1, 2]) 0 (parrellaw19_GatherChains_L1_objs t21 c2 c3 c4), upOf (sel [0, 1, 2]) (parrellaw19_GatherChains_L1_up t21 c2 c3 c4 yL0_5)) }), (7, { call := some ((gather_Gather_Grant_v yL0_7).ren (sel [3]), preOf (sel [3]) 0 (gather_Gather_Grant_objs (T_gather_Gather.mk mode2 Epoch more Node nodes) (T_gather_Got.mk t21 (T_api_Reg.mk 1 1) yL0_5)), upOf (sel [3]) (gather_Gather_Grant_up (T_gather_Gather.mk mode2 Epoch more Node nodes) (T_gather_Got.mk t21 (T_api_Reg.mk 1 1) yL0_5) yL0_7)) })], .reg []])
          (a_ (a_ (a_ tr (a_ (leB cL0_1) tr)) tr) (a_ (r2_ tr) (a_ (r2_ (a_ (a_ gL0_2 tr) (r1_ (a_ (a_ tr (a_ (leB cL0_3) tr)) tr)))) (a_ (r2_ (a_ (a_ (Eq.refl true) tr) (r2_ (a_ (a_ (a_ (parrellaw19_GatherChains_L1_ok t21 c2 c3 c4 yL0_5 eL0_4 (sel [0, 1, 2]) (sel_inj rfl rfl)) (a_ (LO.Le.refl (.var [.int .u64 c2])) (a_ (LO.Le.refl (.var (c_T_api_Config c3))) (a_ (LO.Le.refl (.var (c_T_api_Config c4))) tr)))) tr) (a_ (a_ (Eq.refl true) tr) (a_ (a_ (a_ (gather_Gather_Grant_ok (T_gather_Gather.mk mode2 Epoch more Node nodes) (T_gather_Got.mk t21 (T_api_Reg.mk 1 1) yL0_5) yL0_7 eL0_6 (sel [3]) (sel_inj rfl rfl)) (a_ (LO.Le.refl (.var (c_T_gather_Gather (T_gather_Gather.mk mode2 Epoch more Node nodes)))) tr)) tr) tr)))))) (a_ (r2_ tr) tr))))) (ih _ _ _ _ _ _ r r_ h) (by kernel_rfl) ⟨rfl, rfl, rfl, rfl, trivial⟩
      · skip
        exact run_to mixed hμ (L := [3]) (n := 29) (s := [.go, .reg [(0, { v := some (.bool true) })], .reg [], .reg [(4, { v := some (.bool false) })], .reg []])
          (a_ (a_ (a_ tr (a_ (leB cL0_1) tr)) tr) (a_ (r2_ tr) (a_ (r2_ (a_ (a_ gL0_2 tr) (r1_ (a_ (a_ tr (a_ (leB cL0_3) tr)) tr)))) (a_ (r2_ tr) tr)))) (ih _ _ _ _ _ _ r r_ h) (by kernel_rfl) ⟨rfl, rfl, rfl, rfl, trivial⟩
    · skip
      cases h

theorem parrellaw19_gathered_okA (mode : Int) (c : T_api_Config) (set : Int) (c2 : Int) (c3 : T_api_Config) (c4 : T_api_Config) (r : Unit) (r_ : (Int) × (T_api_Config) × (List (T_api_Config)) × (A8 (T_gather_Got)) × (Int)) (h : parrellaw19_gathered mode c set c2 c3 c4 = some (true, r, r_)) : ∀ σ, Inj 3 σ → FnTri Tryd.prog 12 (renL σ [.int .u8 mode, v_T_api_Config c, .int .u64 set, .fn 34 [] [.ptr 0 0 0, .ptr 1 0 0, .ptr 2 0 0]]) (preOf σ 0 (parrellaw19_gathered_objs mode c set c2 c3 c4)) ((parrellaw19_gathered_vA r).ren σ) (upOf σ (parrellaw19_gathered_upA mode c set c2 c3 c4 r)) := by
  refine fn_of Tryd.func12 (by kernel_rfl) (by kernel_rfl) (by kernel_rfl) ⟨rfl, rfl, rfl, trivial⟩ (by kernel_rfl) ⟨rfl, rfl, rfl, trivial⟩ (by kernel_rfl) ?_
  intro w0 W μ0 hμ
  unfold parrellaw19_gathered at h
  obtain ⟨y2, e1, h⟩ := bind_some h
  rcases itb_some h with ⟨c3_, h⟩ | ⟨c3_, h⟩
  · skip
    have h := congrArg (fun z => z.2.1) (Option.some.inj h)
    dsimp only at h
    subst h
    exact run_ret mixed (L := []) (n := 23) (s := [.reg [], .reg [(3, { call := some (gather_New_vA y2.2.1, [], []), cargs := some [.agg [.int .u8 (A8.mk 97 0 0 0 0 0 0 0).a0, .int .u8 (A8.mk 97 0 0 0 0 0 0 0).a1, .int .u8 (A8.mk 97 0 0 0 0 0 0 0).a2, .int .u8 (A8.mk 97 0 0 0 0 0 0 0).a3, .int .u8 (A8.mk 97 0 0 0 0 0 0 0).a4, .int .u8 (A8.mk 97 0 0 0 0 0 0 0).a5, .int .u8 (A8.mk 97 0 0 0 0 0 0 0).a6, .int .u8 (A8.mk 97 0 0 0 0 0 0 0).a7], .int .u8 mode, v_T_api_Config c, .ds 11 (([] : List (T_api_Config))).length (rowF c_T_api_Config default ([] : List (T_api_Config)))] })], .reg [], .reg []])
      (a_ (a_ (r2_ tr) (a_ (a_ (a_ (Eq.refl true) tr) (r1_ (a_ (a_ (a_ tr (le_ 11 11 rfl)) tr) (a_ (a_ (a_ (gather_New_triA (A8.mk 97 0 0 0 0 0 0 0) mode c ([] : List (T_api_Config)) y2.2.1 y2.2.2 (altA e1 c3_)) (a_ (a_ (LV.Le.refl (.agg [.int .u8 97, .int .u8 0, .int .u8 0, .int .u8 0, .int .u8 0, .int .u8 0, .int .u8 0, .int .u8 0])) (a_ (LV.Le.refl (.int .u8 mode)) (a_ (LV.Le.refl (v_T_api_Config c)) (a_ (le_nil_ds 11 (rowF c_T_api_Config default [])) tr)))) tr)) tr) (r1_ (r4_ tr)))))) (a_ (r2_ tr) (a_ (r1_ tr) tr)))) tr) (by kernel_rfl) rfl
  · skip
    exact run_to mixed hμ (L := [4]) (n := 27) (s := [.reg [], .reg [(3, { call := some ((gather_New_vB y2.2.2).ren (sel [4]), preOf (sel [4]) 0 [], upOf (sel [4]) (gather_New_upB (A8.mk 97 0 0 0 0 0 0 0) mode c ([] : List (T_api_Config)) y2.2.2)), cargs := some [.agg [.int .u8 (A8.mk 97 0 0 0 0 0 0 0).a0, .int .u8 (A8.mk 97 0 0 0 0 0 0 0).a1, .int .u8 (A8.mk 97 0 0 0 0 0 0 0).a2, .int .u8 (A8.mk 97 0 0 0 0 0 0 0).a3, .int .u8 (A8.mk 97 0 0 0 0 0 0 0).a4, .int .u8 (A8.mk 97 0 0 0 0 0 0 0).a5, .int .u8 (A8.mk 97 0 0 0 0 0 0 0).a6, .int .u8 (A8.mk 97 0 0 0 0 0 0 0).a7], .int .u8 mode, v_T_api_Config c, .ds 11 (([] : List (T_api_Config))).length (rowF c_T_api_Config default ([] : List (T_api_Config)))] })], .reg [], .reg []])
      (a_ (r2_ tr) (a_ (a_ (a_ (Eq.refl true) tr) (r1_ (a_ (a_ (a_ tr (le_ 11 11 rfl)) tr) (a_ (a_ (a_ (gather_New_okB (A8.mk 97 0 0 0 0 0 0 0) mode c ([] : List (T_api_Config)) y2.2.2 y2.2.1 (altB e1 c3_) (sel [4]) (sel_inj rfl rfl)) (a_ (a_ (LV.Le.refl (.agg [.int .u8 97, .int .u8 0, .int .u8 0, .int .u8 0, .int .u8 0, .int .u8 0, .int .u8 0, .int .u8 0])) (a_ (LV.Le.refl (.int .u8 mode)) (a_ (LV.Le.refl (v_T_api_Config c)) (a_ (le_nil_ds 11 (rowF c_T_api_Config default [])) tr)))) tr)) tr) (r1_ (r4_ tr)))))) (a_ (r2_ tr) (a_ (r1_ tr) tr)))) (parrellaw19_gathered_l0_okA hμ mode c set c2 c3 c4  big _ _ _ _ _ _ r r_ h) (by kernel_rfl) ⟨rfl, rfl, rfl, rfl, trivial⟩

theorem parrellaw19_gathered_l0_okB {w0 : World} {W : Nat → Prop} {μ0 : Emb} (hμ : ∀ c p, μ0 c = some p → c < 3) (mode : Int) (c : T_api_Config) (set : Int) (c2 : Int) (c3 : T_api_Config) (c4 : T_api_Config)  : ∀ (fuel : Nat) (t21 : Int) (mode2 : Int) (Epoch : T_api_Config) (more : List (T_api_Config)) (Node : A8 (T_gather_Got)) (nodes : Int) (r : (Int) × (T_api_Config) × (List (T_api_Config)) × (A8 (T_gather_Got)) × (Int)) (r_ : Unit), parrellaw19_gathered_l0 mode c set c2 c3 c4  fuel t21 mode2 Epoch more Node nodes = some (false, r_, r) → kont Tryd.prog w0 W μ0 (FnPost Tryd.prog Tryd.f12 3 4 (parrellaw19_gathered_vB r) (parrellaw19_gathered_upB mode c set c2 c3 c4 r)) (kAt (bodyOf Tryd.f12) 0) none (parrellaw19_gathered_T0 set c2 c3 c4 t21 mode2 Epoch more Node nodes) (parrellaw19_gathered_H0 set c2 c3 c4 t21 mode2 Epoch more Node nodes) := by
  intro fuel
  induction fuel with
  | zero => intro t21 mode2 Epoch more Node nodes r r_ h; rw [parrellaw19_gathered_l0] at h; cases h
  | succ fuel ih =>
    intro t21 mode2 Epoch more Node nodes r r_ h
    rw [parrellaw19_gathered_l0] at h
    rcases itb_some h with ⟨cL0_1, h⟩ | ⟨cL0_1, h⟩
    · skip
      obtain ⟨gL0_2, h⟩ := guard_some h
      rcases itb_some h with ⟨cL0_3, h⟩ | ⟨cL0_3, h⟩
      · skip
        obtain ⟨yL0_5, eL0_4, h⟩ := bind_some h
        obtain ⟨yL0_7, eL0_6, h⟩ := bind_some h
        exact run_to mixed hμ (L := [3]) (n := 30) (s := [.go, .reg [(0, { v := some (.bool true) })], .reg [], .reg [(4, { v := some (.bool true) })], .reg [(5, { call := some ((parrellaw19_GatherChains_L1_v yL0_5).ren (sel [0, 1, 2]), preOf (sel [0, 1, 2]) 0 (parrellaw19_GatherChains_L1_objs t21 c2 c3 c4), upOf (sel [0, 1, 2]) (parrellaw19_GatherChains_L1_up t21 c2 c3 c4 yL0_5)) }), (7, { call := some ((gather_Gather_Grant_v yL0_7).ren (sel [3]), preOf (sel [3]) 0 (gather_Gather_Grant_objs (T_gather_Gather.mk mode2 Epoch more Node nodes) (T_gather_Got.mk t21 (T_api_Reg.mk 1 1) yL0_5)), upOf (sel [3]) (gather_Gather_Grant_up (T_gather_Gather.mk mode2 Epoch more Node nodes) (T_gather_Got.mk t21 (T_api_Reg.mk 1 1) yL0_5) yL0_7)) })], .reg []])
          (a_ (a_ (a_ tr (a_ (leB cL0_1) tr)) tr) (a_ (r2_ tr) (a_ (r2_ (a_ (a_ gL0_2 tr) (r1_ (a_ (a_ tr (a_ (leB cL0_3) tr)) tr)))) (a_ (r2_ (a_ (a_ (Eq.refl true) tr) (r2_ (a_ (a_ (a_ (parrellaw19_GatherChains_L1_ok t21 c2 c3 c4 yL0_5 eL0_4 (sel [0, 1, 2]) (sel_inj rfl rfl)) (a_ (LO.Le.refl (.var [.int .u64 c2])) (a_ (LO.Le.refl (.var (c_T_api_Config c3))) (a_ (LO.Le.refl (.var (c_T_api_Config c4))) tr)))) tr) (a_ (a_ (Eq.refl true) tr) (a_ (a_ (a_ (gather_Gather_Grant_ok (T_gather_Gather.mk mode2 Epoch more Node nodes) (T_gather_Got.mk t21 (T_api_Reg.mk 1 1) yL0_5) yL0_7 eL0_6 (sel [3]) (sel_inj rfl rfl)) (a_ (LO.Le.refl (.var (c_T_gather_Gather (T_gather_Gather.mk mode2 Epoch more Node nodes)))) tr)) tr) tr)))))) (a_ (r2_ tr) tr))))) (ih _ _ _ _ _ _ r r_ h) (by kernel_rfl) ⟨rfl, rfl, rfl, rfl, trivial⟩
      · skip
        exact run_to mixed hμ (L := [3]) (n := 29) (s := [.go, .reg [(0, { v := some (.bool true) })], .reg [], .reg [(4, { v := some (.bool false) })], .reg []])
          (a_ (a_ (a_ tr (a_ (leB cL0_1) tr)) tr) (a_ (r2_ tr) (a_ (r2_ (a_ (a_ gL0_2 tr) (r1_ (a_ (a_ tr (a_ (leB cL0_3) tr)) tr)))) (a_ (r2_ tr) tr)))) (ih _ _ _ _ _ _ r r_ h) (by kernel_rfl) ⟨rfl, rfl, rfl, rfl, trivial⟩
    · skip
      have h := congrArg (fun z => z.2.2) (Option.some.inj h)
      dsimp only at h
      subst h
      exact run_ret mixed (L := [3]) (n := 19) (s := [.go, .reg [(0, { v := some (.bool false) })], .reg []])
        (a_ (a_ (a_ (a_ tr (a_ (leB cL0_1) tr)) tr) (a_ (r2_ tr) tr)) tr) (by kernel_rfl) rfl

theorem parrellaw19_gathered_okB (mode : Int) (c : T_api_Config) (set : Int) (c2 : Int) (c3 : T_api_Config) (c4 : T_api_Config) (r : (Int) × (T_api_Config) × (List (T_api_Config)) × (A8 (T_gather_Got)) × (Int)) (r_ : Unit) (h : parrellaw19_gathered mode c set c2 c3 c4 = some (false, r_, r)) : ∀ σ, Inj 4 σ → FnTri Tryd.prog 12 (renL σ [.int .u8 mode, v_T_api_Config c, .int .u64 set, .fn 34 [] [.ptr 0 0 0, .ptr 1 0 0, .ptr 2 0 0]]) (preOf σ 0 (parrellaw19_gathered_objs mode c set c2 c3 c4)) ((parrellaw19_gathered_vB r).ren σ) (upOf σ (parrellaw19_gathered_upB mode c set c2 c3 c4 r)) := by
  refine fn_of Tryd.func12 (by kernel_rfl) (by kernel_rfl) (by kernel_rfl) ⟨rfl, rfl, rfl, trivial⟩ (by kernel_rfl) ⟨rfl, rfl, rfl, rfl, trivial⟩ (by kernel_rfl) ?_
  intro w0 W μ0 hμ
  unfold parrellaw19_gathered at h
  obtain ⟨y2, e1, h⟩ := bind_some h
  rcases itb_some h with ⟨c3_, h⟩ | ⟨c3_, h⟩
  · skip
    cases h
  · skip
    exact run_to mixed hμ (L := [4]) (n := 27) (s := [.reg [], .reg [(3, { call := some ((gather_New_vB y2.2.2).ren (sel [4]), preOf (sel [4]) 0 [], upOf (sel [4]) (gather_New_upB (A8.mk 97 0 0 0 0 0 0 0) mode c ([] : List (T_api_Config)) y2.2.2)), cargs := some [.agg [.int .u8 (A8.mk 97 0 0 0 0 0 0 0).a0, .int .u8 (A8.mk 97 0 0 0 0 0 0 0).a1, .int .u8 (A8.mk 97 0 0 0 0 0 0 0).a2, .int .u8 (A8.mk 97 0 0 0 0 0 0 0).a3, .int .u8 (A8.mk 97 0 0 0 0 0 0 0).a4, .int .u8 (A8.mk 97 0 0 0 0 0 0 0).a5, .int .u8 (A8.mk 97 0 0 0 0 0 0 0).a6, .int .u8 (A8.mk 97 0 0 0 0 0 0 0).a7], .int .u8 mode, v_T_api_Config c, .ds 11 (([] : List (T_api_Config))).length (rowF c_T_api_Config default ([] : List (T_api_Config)))] })], .reg [], .reg []])
      (a_ (r2_ tr) (a_ (a_ (a_ (Eq.refl true) tr) (r1_ (a_ (a_ (a_ tr (le_ 11 11 rfl)) tr) (a_ (a_ (a_ (gather_New_okB (A8.mk 97 0 0 0 0 0 0 0) mode c ([] : List (T_api_Config)) y2.2.2 y2.2.1 (altB e1 c3_) (sel [4]) (sel_inj rfl rfl)) (a_ (a_ (LV.Le.refl (.agg [.int .u8 97, .int .u8 0, .int .u8 0, .int .u8 0, .int .u8 0, .int .u8 0, .int .u8 0, .int .u8 0])) (a_ (LV.Le.refl (.int .u8 mode)) (a_ (LV.Le.refl (v_T_api_Config c)) (a_ (le_nil_ds 11 (rowF c_T_api_Config default [])) tr)))) tr)) tr) (r1_ (r4_ tr)))))) (a_ (r2_ tr) (a_ (r1_ tr) tr)))) (parrellaw19_gathered_l0_okB hμ mode c set c2 c3 c4  big _ _ _ _ _ _ r r_ h) (by kernel_rfl) ⟨rfl, rfl, rfl, rfl, trivial⟩

/-- (*parrel/gather.Gather).Conf -/

def gather_Gather_Conf_v (r : (T_api_Config)) : LV := v_T_api_Config r

def gather_Gather_Conf_up (g : T_gather_Gather) (r : (T_api_Config)) : Upd := [(0, some (.var (c_T_gather_Gather g)))]

def gather_Gather_Conf_objs (g : T_gather_Gather) : List LO := [.var (c_T_gather_Gather g)]

def gather_Gather_Conf (g : T_gather_Gather) : Option ((T_api_Config)) :=
  (gather_Gather_ok g).bind fun y2 =>
  if ((!y2) : Bool) then
    some (T_api_Config.mk 0 0 0 (A8.mk 0 0 0 0 0 0 0 0))
  else
    some g.f_conf

theorem gather_Gather_Conf_ok (g : T_gather_Gather) (r : (T_api_Config)) (h : gather_Gather_Conf g = some r) : ∀ σ, Inj 1 σ → FnTri Tryd.prog 25 (renL σ [.ptr 0 0 0]) (preOf σ 0 (gather_Gather_Conf_objs g)) ((gather_Gather_Conf_v r).ren σ) (upOf σ (gather_Gather_Conf_up g r)) := by
  refine fn_of Tryd.func25 (by kernel_rfl) (by kernel_rfl) (by kernel_rfl) ⟨rfl, trivial⟩ (by kernel_rfl) ⟨rfl, trivial⟩ (by kernel_rfl) ?_
  intro w0 W μ0 hμ
  unfold gather_Gather_Conf at h
  obtain ⟨y2, e1, h⟩ := bind_some h
  rcases itb_some h with ⟨c3, h⟩ | ⟨c3, h⟩
  · skip
    obtain rfl := Option.some.inj h
    exact run_ret mixed (L := []) (n := 20) (s := [.reg [], .reg [(1, { call := some ((gather_Gather_ok_v y2).ren (sel [0]), preOf (sel [0]) 0 (gather_Gather_ok_objs g), upOf (sel [0]) (gather_Gather_ok_up g y2)) }), (2, { v := some (.bool true) })], .reg []])
      (a_ (a_ (r1_ tr) (a_ (r1_ (a_ (a_ (a_ (gather_Gather_ok_ok g y2 e1 (sel [0]) (sel_inj rfl rfl)) (a_ (LO.Le.refl (.var (c_T_gather_Gather g))) tr)) tr) (a_ (a_ tr (a_ (leB c3) tr)) tr))) (a_ (a_ (a_ (Eq.refl true) tr) (a_ (a_ (a_ (Eq.refl 11) (a_ (le_ 11 11 rfl) (Eq.refl 0))) tr) tr)) tr))) (a_ (a_ tr (le_ 11 11 rfl)) tr)) (by kernel_rfl) rfl
  · skip
    obtain rfl := Option.some.inj h
    exact run_ret mixed (L := []) (n := 21) (s := [.reg [], .reg [(1, { call := some ((gather_Gather_ok_v y2).ren (sel [0]), preOf (sel [0]) 0 (gather_Gather_ok_objs g), upOf (sel [0]) (gather_Gather_ok_up g y2)) }), (2, { v := some (.bool false) })], .reg []])
      (a_ (a_ (r1_ tr) (a_ (r1_ (a_ (a_ (a_ (gather_Gather_ok_ok g y2 e1 (sel [0]) (sel_inj rfl rfl)) (a_ (LO.Le.refl (.var (c_T_gather_Gather g))) tr)) tr) (a_ (a_ tr (a_ (leB c3) tr)) tr))) (a_ (r1_ (r2_ (a_ (a_ (a_ tr (le_ 12 142 rfl)) tr) (a_ (a_ (a_ (Eq.refl 11) (a_ (le_ 11 11 rfl) (Eq.refl 0))) tr) tr)))) tr))) (a_ (a_ tr (le_ 11 11 rfl)) tr)) (by kernel_rfl) rfl

/-- parrel/parrellaw19.GatherChains -/

def parrellaw19_GatherChains_v (r : (Bool)) : LV := .bool r

def parrellaw19_GatherChains (old : T_api_Config) (young : T_api_Config) (sets : A2 (Int)) : Option ((Bool)) :=
  (parrelref06_May old).bind fun y2 =>
  if ((!y2) : Bool) then
    (parrellaw19_alive).bind fun y5 =>
    some y5
  else
    (parrelref06_May young).bind fun y5 =>
    if ((!y5) : Bool) then
      (parrellaw19_alive).bind fun y8 =>
      some y8
    else
      if ((decide (young.f_Epoch ≤ old.f_Epoch)) : Bool) then
        (parrellaw19_alive).bind fun y9 =>
        some y9
      else
        (parrelref06_Of old sets.a0).bind fun y9 =>
        if ((decide (y9 < (IntKind.wrap .i64 old.f_W))) : Bool) then
          (parrellaw19_alive).bind fun y12 =>
          some y12
        else
          (parrellaw19_gathered 1 old sets.a1 sets.a0 young old).bind fun y12 =>
          if (y12.1 : Bool) then
            some false
          else
            (gather_Gather_Enough (T_gather_Gather.mk y12.2.2.1 y12.2.2.2.1 y12.2.2.2.2.1 y12.2.2.2.2.2.1 y12.2.2.2.2.2.2)).bind fun y15 =>
            if ((!y15) : Bool) then
              (gather_Gather_Conf (T_gather_Gather.mk y12.2.2.1 y12.2.2.2.1 y12.2.2.2.2.1 y12.2.2.2.2.2.1 y12.2.2.2.2.2.2)).bind fun y18 =>
              if ((decide (y18 = young)) : Bool) then
                (parrellaw19_alive).bind fun y21 =>
                some y21
              else
                (gather_Gather_Conf (T_gather_Gather.mk y12.2.2.1 y12.2.2.2.1 y12.2.2.2.2.1 y12.2.2.2.2.2.1 y12.2.2.2.2.2.2)).bind fun y21 =>
                if ((decide (y21 = old)) : Bool) then
                  (parrellaw19_alive).bind fun y24 =>
                  some y24
                else
                  some false
            else
              (gather_Gather_Conf (T_gather_Gather.mk y12.2.2.1 y12.2.2.2.1 y12.2.2.2.2.1 y12.2.2.2.2.2.1 y12.2.2.2.2.2.2)).bind fun y18 =>
              if ((decide (y18 = young)) : Bool) then
                (gather_Gather_Conf (T_gather_Gather.mk y12.2.2.1 y12.2.2.2.1 y12.2.2.2.2.1 y12.2.2.2.2.2.1 y12.2.2.2.2.2.2)).bind fun y21 =>
                if ((decide (y21 = young)) : Bool) then
                  (parrellaw19_alive).bind fun y24 =>
                  some y24
                else
                  (gather_Gather_Conf (T_gather_Gather.mk y12.2.2.1 y12.2.2.2.1 y12.2.2.2.2.1 y12.2.2.2.2.2.1 y12.2.2.2.2.2.2)).bind fun y24 =>
                  if ((decide (y24 = old)) : Bool) then
                    (parrellaw19_alive).bind fun y27 =>
                    some y27
                  else
                    some false
              else
                some false

theorem parrellaw19_GatherChains_ok (old : T_api_Config) (young : T_api_Config) (sets : A2 (Int)) (r : (Bool)) (h : parrellaw19_GatherChains old young sets = some r) : ∀ σ, Inj 0 σ → FnTri Tryd.prog 7 (renL σ [v_T_api_Config old, v_T_api_Config young, .agg [.int .u64 sets.a0, .int .u64 sets.a1]]) (preOf σ 0 []) ((parrellaw19_GatherChains_v r).ren σ) (upOf σ []) := by
  refine fn_of Tryd.func7 (by kernel_rfl) (by kernel_rfl) (by kernel_rfl) trivial (by kernel_rfl) trivial (by kernel_rfl) ?_
  intro w0 W μ0 hμ
  unfold parrellaw19_GatherChains at h
  obtain ⟨y2, e1, h⟩ := bind_some h
  rcases itb_some h with ⟨c3, h⟩ | ⟨c3, h⟩
  · skip
    obtain ⟨y5, e4, h⟩ := bind_some h
    obtain rfl := Option.some.inj h
    exact run_ret mixed (L := []) (n := 20) (s := [.reg [], .reg [(1, { call := some (parrelref06_May_v y2, [], []) }), (3, { v := some (.bool true) })], .reg [(0, { call := some (parrellaw19_alive_v y5, [], []) })]])
      (a_ (a_ (r4_ tr) (a_ (a_ (a_ (a_ tr (le_ 11 11 rfl)) tr) (a_ (a_ (a_ (parrelref06_May_tri old y2 e1) tr) tr) (r1_ (a_ (a_ tr (a_ (leB c3) tr)) (a_ tr (t2_ (r2_ (a_ tr (t4_ (r1_ tr)))))))))) (a_ (a_ (a_ (a_ (parrellaw19_alive_tri  y5 e4) tr) tr) (r1_ tr)) tr))) tr) (by kernel_rfl) rfl
  · skip
    obtain ⟨y5, e4, h⟩ := bind_some h
    rcases itb_some h with ⟨c6, h⟩ | ⟨c6, h⟩
    · skip
      obtain ⟨y8, e7, h⟩ := bind_some h
      obtain rfl := Option.some.inj h
      exact run_ret mixed (L := []) (n := 20) (s := [.reg [], .reg [(1, { call := some (parrelref06_May_v y2, [], []) }), (3, { v := some (.bool false) }), (5, { call := some (parrelref06_May_v y5, [], []) }), (8, { v := some (.bool true) })], .reg [(0, { call := some (parrellaw19_alive_v y8, [], []) })]])
        (a_ (a_ (r4_ tr) (a_ (a_ (a_ (a_ tr (le_ 11 11 rfl)) tr) (a_ (a_ (a_ (parrelref06_May_tri old y2 e1) tr) tr) (r1_ (a_ (a_ tr (a_ (leB c3) tr)) (a_ (a_ (a_ tr (le_ 11 11 rfl)) tr) (a_ (a_ (a_ (parrelref06_May_tri young y5 e4) tr) tr) (r2_ (a_ (a_ tr (a_ (leB c6) tr)) (a_ tr (t4_ (r1_ tr))))))))))) (a_ (a_ (a_ (a_ (parrellaw19_alive_tri  y8 e7) tr) tr) (r1_ tr)) tr))) tr) (by kernel_rfl) rfl
    · skip
      rcases itb_some h with ⟨c7, h⟩ | ⟨c7, h⟩
      · skip
        obtain ⟨y9, e8, h⟩ := bind_some h
        obtain rfl := Option.some.inj h
        exact run_ret mixed (L := []) (n := 20) (s := [.reg [], .reg [(1, { call := some (parrelref06_May_v y2, [], []) }), (3, { v := some (.bool false) }), (5, { call := some (parrelref06_May_v y5, [], []) }), (8, { v := some (.bool false) }), (14, { v := some (.bool true) })], .reg [(0, { call := some (parrellaw19_alive_v y9, [], []) })]])
          (a_ (a_ (r4_ tr) (a_ (a_ (a_ (a_ tr (le_ 11 11 rfl)) tr) (a_ (a_ (a_ (parrelref06_May_tri old y2 e1) tr) tr) (r1_ (a_ (a_ tr (a_ (leB c3) tr)) (a_ (a_ (a_ tr (le_ 11 11 rfl)) tr) (a_ (a_ (a_ (parrelref06_May_tri young y5 e4) tr) tr) (r2_ (a_ (a_ tr (a_ (leB c6) tr)) (r1_ (a_ (a_ (a_ tr (lt_ 0 11 rfl)) tr) (r1_ (a_ (a_ (a_ tr (lt_ 0 11 rfl)) tr) (r1_ (a_ (a_ tr (a_ (leB c7) tr)) tr)))))))))))))) (a_ (a_ (a_ (a_ (parrellaw19_alive_tri  y9 e8) tr) tr) (r1_ tr)) tr))) tr) (by kernel_rfl) rfl
      · skip
        obtain ⟨y9, e8, h⟩ := bind_some h
        rcases itb_some h with ⟨c10, h⟩ | ⟨c10, h⟩
        · skip
          obtain ⟨y12, e11, h⟩ := bind_some h
          obtain rfl := Option.some.inj h
          exact run_ret mixed (L := []) (n := 29) (s := [.reg [], .reg [(1, { call := some (parrelref06_May_v y2, [], []) }), (3, { v := some (.bool false) }), (5, { call := some (parrelref06_May_v y5, [], []) }), (8, { v := some (.bool false) }), (14, { v := some (.bool false) })], .reg [], .reg [(2, { call := some (parrelref06_Of_v y9, [], []) }), (6, { v := some (.bool true) })], .reg [(0, { call := some (parrellaw19_alive_v y12, [], []) })]])
            (a_ (a_ (r4_ tr) (a_ (a_ (a_ (a_ tr (le_ 11 11 rfl)) tr) (a_ (a_ (a_ (parrelref06_May_tri old y2 e1) tr) tr) (r1_ (a_ (a_ tr (a_ (leB c3) tr)) (a_ (a_ (a_ tr (le_ 11 11 rfl)) tr) (a_ (a_ (a_ (parrelref06_May_tri young y5 e4) tr) tr) (r2_ (a_ (a_ tr (a_ (leB c6) tr)) (r1_ (a_ (a_ (a_ tr (lt_ 0 11 rfl)) tr) (r1_ (a_ (a_ (a_ tr (lt_ 0 11 rfl)) tr) (r1_ (a_ (a_ tr (a_ (leB c7) tr)) tr)))))))))))))) (a_ (a_ (a_ (a_ (lei_ 0 0 rfl) (lti_ 0 2 rfl)) tr) (a_ (a_ (a_ tr (lt_ 0 2 rfl)) tr) (a_ (a_ (a_ (lei_ 0 1 rfl) (lti_ 1 2 rfl)) tr) (a_ (a_ (a_ tr (lt_ 1 2 rfl)) tr) (r1_ (a_ (a_ (a_ (Eq.refl 1) (a_ (le_ 1 1 rfl) (Eq.refl 0))) tr) (r1_ tr))))))) (a_ (a_ (a_ (a_ tr (le_ 11 11 rfl)) tr) (a_ (a_ (a_ tr (lt_ 0 1 rfl)) tr) (a_ (a_ (a_ (parrelref06_Of_tri old sets.a0 y9 e8) tr) tr) (r1_ (a_ (a_ (a_ tr (lt_ 2 11 rfl)) tr) (r1_ (a_ (a_ tr (a_ (leB c10) tr)) tr))))))) (a_ (a_ (a_ (a_ (parrellaw19_alive_tri  y12 e11) tr) tr) (r1_ tr)) tr))))) tr) (by kernel_rfl) rfl
        · skip
          obtain ⟨y12, e11, h⟩ := bind_some h
          rcases itb_some h with ⟨c13, h⟩ | ⟨c13, h⟩
          · skip
            obtain rfl := Option.some.inj h
            exact run_ret mixed (L := []) (n := 41) (s := [.reg [], .reg [(1, { call := some (parrelref06_May_v y2, [], []) }), (3, { v := some (.bool false) }), (5, { call := some (parrelref06_May_v y5, [], []) }), (8, { v := some (.bool false) }), (14, { v := some (.bool false) })], .reg [], .reg [(2, { call := some (parrelref06_Of_v y9, [], []) }), (6, { v := some (.bool false) })], .reg [], .reg [(3, { call := some ((parrellaw19_gathered_vA y12.2.1).ren (sel [3, 1, 0]), preOf (sel [3, 1, 0]) 0 (parrellaw19_gathered_objs 1 old sets.a1 sets.a0 young old), upOf (sel [3, 1, 0]) (parrellaw19_gathered_upA 1 old sets.a1 sets.a0 young old y12.2.1)) })], .reg [], .reg []])
              (a_ (a_ (r4_ tr) (a_ (a_ (a_ (a_ tr (le_ 11 11 rfl)) tr) (a_ (a_ (a_ (parrelref06_May_tri old y2 e1) tr) tr) (r1_ (a_ (a_ tr (a_ (leB c3) tr)) (a_ (a_ (a_ tr (le_ 11 11 rfl)) tr) (a_ (a_ (a_ (parrelref06_May_tri young y5 e4) tr) tr) (r2_ (a_ (a_ tr (a_ (leB c6) tr)) (r1_ (a_ (a_ (a_ tr (lt_ 0 11 rfl)) tr) (r1_ (a_ (a_ (a_ tr (lt_ 0 11 rfl)) tr) (r1_ (a_ (a_ tr (a_ (leB c7) tr)) tr)))))))))))))) (a_ (a_ (a_ (a_ (lei_ 0 0 rfl) (lti_ 0 2 rfl)) tr) (a_ (a_ (a_ tr (lt_ 0 2 rfl)) tr) (a_ (a_ (a_ (lei_ 0 1 rfl) (lti_ 1 2 rfl)) tr) (a_ (a_ (a_ tr (lt_ 1 2 rfl)) tr) (r1_ (a_ (a_ (a_ (Eq.refl 1) (a_ (le_ 1 1 rfl) (Eq.refl 0))) tr) (r1_ tr))))))) (a_ (a_ (a_ (a_ tr (le_ 11 11 rfl)) tr) (a_ (a_ (a_ tr (lt_ 0 1 rfl)) tr) (a_ (a_ (a_ (parrelref06_Of_tri old sets.a0 y9 e8) tr) tr) (r1_ (a_ (a_ (a_ tr (lt_ 2 11 rfl)) tr) (r1_ (a_ (a_ tr (a_ (leB c10) tr)) tr))))))) (a_ (r2_ tr) (a_ (a_ (a_ (a_ tr (le_ 11 11 rfl)) tr) (r2_ (a_ (a_ (a_ (parrellaw19_gathered_okA 1 old sets.a1 sets.a0 young old y12.2.1 y12.2.2 (altA e11 c13) (sel [3, 1, 0]) (sel_inj rfl rfl)) (a_ (LO.Le.refl (.var [.int .u64 sets.a0])) (a_ (LO.Le.refl (.var (c_T_api_Config young))) (a_ (LO.Le.refl (.var (c_T_api_Config old))) tr)))) tr) (r1_ tr)))) (a_ (r2_ tr) (a_ (r1_ tr) tr)))))))) tr) (by kernel_rfl) rfl
          · skip
            obtain ⟨y15, e14, h⟩ := bind_some h
            rcases itb_some h with ⟨c16, h⟩ | ⟨c16, h⟩
            · skip
              obtain ⟨y18, e17, h⟩ := bind_some h
              rcases itb_some h with ⟨c19, h⟩ | ⟨c19, h⟩
              · skip
                obtain ⟨y21, e20, h⟩ := bind_some h
                obtain rfl := Option.some.inj h
                exact run_ret mixed (L := []) (n := 42) (s := [.reg [], .reg [(1, { call := some (parrelref06_May_v y2, [], []) }), (3, { v := some (.bool false) }), (5, { call := some (parrelref06_May_v y5, [], []) }), (8, { v := some (.bool false) }), (14, { v := some (.bool false) })], .reg [], .reg [(2, { call := some (parrelref06_Of_v y9, [], []) }), (6, { v := some (.bool false) })], .reg [], .reg [(3, { call := some ((parrellaw19_gathered_vB y12.2.2).ren (sel [3, 1, 0, 4]), preOf (sel [3, 1, 0, 4]) 0 (parrellaw19_gathered_objs 1 old sets.a1 sets.a0 young old), upOf (sel [3, 1, 0, 4]) (parrellaw19_gathered_upB 1 old sets.a1 sets.a0 young old y12.2.2)) })], .reg [], .reg [(1, { call := some ((gather_Gather_Enough_v y15).ren (sel [4]), preOf (sel [4]) 0 (gather_Gather_Enough_objs (T_gather_Gather.mk y12.2.2.1 y12.2.2.2.1 y12.2.2.2.2.1 y12.2.2.2.2.2.1 y12.2.2.2.2.2.2)), upOf (sel [4]) (gather_Gather_Enough_up (T_gather_Gather.mk y12.2.2.1 y12.2.2.2.1 y12.2.2.2.2.1 y12.2.2.2.2.2.1 y12.2.2.2.2.2.2) y15)) }), (3, { v := some (.bool true) }), (11, { call := some ((gather_Gather_Conf_v y18).ren (sel [4]), preOf (sel [4]) 0 (gather_Gather_Conf_objs (T_gather_Gather.mk y12.2.2.1 y12.2.2.2.1 y12.2.2.2.2.1 y12.2.2.2.2.2.1 y12.2.2.2.2.2.2)), upOf (sel [4]) (gather_Gather_Conf_up (T_gather_Gather.mk y12.2.2.1 y12.2.2.2.1 y12.2.2.2.2.1 y12.2.2.2.2.2.1 y12.2.2.2.2.2.2) y18)) }), (13, { v := some (.bool (decide (y18 = young))) }), (14, { v := some (.bool true) }), (22, { call := some (parrellaw19_alive_v y21, [], []) })]])
                  (a_ (a_ (r4_ tr) (a_ (a_ (a_ (a_ tr (le_ 11 11 rfl)) tr) (a_ (a_ (a_ (parrelref06_May_tri old y2 e1) tr) tr) (r1_ (a_ (a_ tr (a_ (leB c3) tr)) (a_ (a_ (a_ tr (le_ 11 11 rfl)) tr) (a_ (a_ (a_ (parrelref06_May_tri young y5 e4) tr) tr) (r2_ (a_ (a_ tr (a_ (leB c6) tr)) (r1_ (a_ (a_ (a_ tr (lt_ 0 11 rfl)) tr) (r1_ (a_ (a_ (a_ tr (lt_ 0 11 rfl)) tr) (r1_ (a_ (a_ tr (a_ (leB c7) tr)) tr)))))))))))))) (a_ (a_ (a_ (a_ (lei_ 0 0 rfl) (lti_ 0 2 rfl)) tr) (a_ (a_ (a_ tr (lt_ 0 2 rfl)) tr) (a_ (a_ (a_ (lei_ 0 1 rfl) (lti_ 1 2 rfl)) tr) (a_ (a_ (a_ tr (lt_ 1 2 rfl)) tr) (r1_ (a_ (a_ (a_ (Eq.refl 1) (a_ (le_ 1 1 rfl) (Eq.refl 0))) tr) (r1_ tr))))))) (a_ (a_ (a_ (a_ tr (le_ 11 11 rfl)) tr) (a_ (a_ (a_ tr (lt_ 0 1 rfl)) tr) (a_ (a_ (a_ (parrelref06_Of_tri old sets.a0 y9 e8) tr) tr) (r1_ (a_ (a_ (a_ tr (lt_ 2 11 rfl)) tr) (r1_ (a_ (a_ tr (a_ (leB c10) tr)) tr))))))) (a_ (r2_ tr) (a_ (a_ (a_ (a_ tr (le_ 11 11 rfl)) tr) (r2_ (a_ (a_ (a_ (parrellaw19_gathered_okB 1 old sets.a1 sets.a0 young old y12.2.2 y12.2.1 (altB e11 c13) (sel [3, 1, 0, 4]) (sel_inj rfl rfl)) (a_ (LO.Le.refl (.var [.int .u64 sets.a0])) (a_ (LO.Le.refl (.var (c_T_api_Config young))) (a_ (LO.Le.refl (.var (c_T_api_Config old))) tr)))) tr) (r1_ tr)))) (a_ (r2_ tr) (a_ (r1_ (a_ (a_ (a_ (gather_Gather_Enough_ok (T_gather_Gather.mk y12.2.2.1 y12.2.2.2.1 y12.2.2.2.2.1 y12.2.2.2.2.2.1 y12.2.2.2.2.2.2) y15 e14 (sel [4]) (sel_inj rfl rfl)) (a_ (LO.Le.refl (.var (c_T_gather_Gather (T_gather_Gather.mk y12.2.2.1 y12.2.2.2.1 y12.2.2.2.2.1 y12.2.2.2.2.2.1 y12.2.2.2.2.2.2)))) tr)) tr) (r1_ (a_ (a_ tr (a_ (leB c16) tr)) (t4_ (r1_ (r2_ (a_ (a_ (a_ (gather_Gather_Conf_ok (T_gather_Gather.mk y12.2.2.1 y12.2.2.2.1 y12.2.2.2.2.1 y12.2.2.2.2.2.1 y12.2.2.2.2.2.2) y18 e17 (sel [4]) (sel_inj rfl rfl)) (a_ (LO.Le.refl (.var (c_T_gather_Gather (T_gather_Gather.mk y12.2.2.1 y12.2.2.2.1 y12.2.2.2.2.1 y12.2.2.2.2.2.1 y12.2.2.2.2.2.2)))) tr)) tr) (a_ (a_ (a_ tr (le_ 11 11 rfl)) tr) (a_ (a_ tr (a_ (leB (k_T_api_Config y18 young)) tr)) (a_ (a_ tr (a_ (leB c19) tr)) (t4_ (r1_ (r2_ (a_ (a_ (a_ (parrellaw19_alive_tri  y21 e20) tr) tr) (r2_ tr)))))))))))))))) tr)))))))) tr) (by kernel_rfl) rfl
              · skip
                obtain ⟨y21, e20, h⟩ := bind_some h
                rcases itb_some h with ⟨c22, h⟩ | ⟨c22, h⟩
                · skip
                  obtain ⟨y24, e23, h⟩ := bind_some h
                  obtain rfl := Option.some.inj h
                  exact run_ret mixed (L := []) (n := 42) (s := [.reg [], .reg [(1, { call := some (parrelref06_May_v y2, [], []) }), (3, { v := some (.bool false) }), (5, { call := some (parrelref06_May_v y5, [], []) }), (8, { v := some (.bool false) }), (14, { v := some (.bool false) })], .reg [], .reg [(2, { call := some (parrelref06_Of_v y9, [], []) }), (6, { v := some (.bool false) })], .reg [], .reg [(3, { call := some ((parrellaw19_gathered_vB y12.2.2).ren (sel [3, 1, 0, 4]), preOf (sel [3, 1, 0, 4]) 0 (parrellaw19_gathered_objs 1 old sets.a1 sets.a0 young old), upOf (sel [3, 1, 0, 4]) (parrellaw19_gathered_upB 1 old sets.a1 sets.a0 young old y12.2.2)) })], .reg [], .reg [(1, { call := some ((gather_Gather_Enough_v y15).ren (sel [4]), preOf (sel [4]) 0 (gather_Gather_Enough_objs (T_gather_Gather.mk y12.2.2.1 y12.2.2.2.1 y12.2.2.2.2.1 y12.2.2.2.2.2.1 y12.2.2.2.2.2.2)), upOf (sel [4]) (gather_Gather_Enough_up (T_gather_Gather.mk y12.2.2.1 y12.2.2.2.1 y12.2.2.2.2.1 y12.2.2.2.2.2.1 y12.2.2.2.2.2.2) y15)) }), (3, { v := some (.bool true) }), (11, { call := some ((gather_Gather_Conf_v y18).ren (sel [4]), preOf (sel [4]) 0 (gather_Gather_Conf_objs (T_gather_Gather.mk y12.2.2.1 y12.2.2.2.1 y12.2.2.2.2.1 y12.2.2.2.2.2.1 y12.2.2.2.2.2.2)), upOf (sel [4]) (gather_Gather_Conf_up (T_gather_Gather.mk y12.2.2.1 y12.2.2.2.1 y12.2.2.2.2.1 y12.2.2.2.2.2.1 y12.2.2.2.2.2.2) y18)) }), (13, { v := some (.bool (decide (y18 = young))) }), (14, { v := some (.bool false) }), (16, { call := some ((gather_Gather_Conf_v y21).ren (sel [4]), preOf (sel [4]) 0 (gather_Gather_Conf_objs (T_gather_Gather.mk y12.2.2.1 y12.2.2.2.1 y12.2.2.2.2.1 y12.2.2.2.2.2.1 y12.2.2.2.2.2.2)), upOf (sel [4]) (gather_Gather_Conf_up (T_gather_Gather.mk y12.2.2.1 y12.2.2.2.1 y12.2.2.2.2.1 y12.2.2.2.2.2.1 y12.2.2.2.2.2.2) y21)) }), (18, { v := some (.bool (decide (y21 = old))) }), (21, { v := some (.bool true) }), (22, { call := some (parrellaw19_alive_v y24, [], []) })]])
                    (a_ (a_ (r4_ tr) (a_ (a_ (a_ (a_ tr (le_ 11 11 rfl)) tr) (a_ (a_ (a_ (parrelref06_May_tri old y2 e1) tr) tr) (r1_ (a_ (a_ tr (a_ (leB c3) tr)) (a_ (a_ (a_ tr (le_ 11 11 rfl)) tr) (a_ (a_ (a_ (parrelref06_May_tri young y5 e4) tr) tr) (r2_ (a_ (a_ tr (a_ (leB c6) tr)) (r1_ (a_ (a_ (a_ tr (lt_ 0 11 rfl)) tr) (r1_ (a_ (a_ (a_ tr (lt_ 0 11 rfl)) tr) (r1_ (a_ (a_ tr (a_ (leB c7) tr)) tr)))))))))))))) (a_ (a_ (a_ (a_ (lei_ 0 0 rfl) (lti_ 0 2 rfl)) tr) (a_ (a_ (a_ tr (lt_ 0 2 rfl)) tr) (a_ (a_ (a_ (lei_ 0 1 rfl) (lti_ 1 2 rfl)) tr) (a_ (a_ (a_ tr (lt_ 1 2 rfl)) tr) (r1_ (a_ (a_ (a_ (Eq.refl 1) (a_ (le_ 1 1 rfl) (Eq.refl 0))) tr) (r1_ tr))))))) (a_ (a_ (a_ (a_ tr (le_ 11 11 rfl)) tr) (a_ (a_ (a_ tr (lt_ 0 1 rfl)) tr) (a_ (a_ (a_ (parrelref06_Of_tri old sets.a0 y9 e8) tr) tr) (r1_ (a_ (a_ (a_ tr (lt_ 2 11 rfl)) tr) (r1_ (a_ (a_ tr (a_ (leB c10) tr)) tr))))))) (a_ (r2_ tr) (a_ (a_ (a_ (a_ tr (le_ 11 11 rfl)) tr) (r2_ (a_ (a_ (a_ (parrellaw19_gathered_okB 1 old sets.a1 sets.a0 young old y12.2.2 y12.2.1 (altB e11 c13) (sel [3, 1, 0, 4]) (sel_inj rfl rfl)) (a_ (LO.Le.refl (.var [.int .u64 sets.a0])) (a_ (LO.Le.refl (.var (c_T_api_Config young))) (a_ (LO.Le.refl (.var (c_T_api_Config old))) tr)))) tr) (r1_ tr)))) (a_ (r2_ tr) (a_ (r1_ (a_ (a_ (a_ (gather_Gather_Enough_ok (T_gather_Gather.mk y12.2.2.1 y12.2.2.2.1 y12.2.2.2.2.1 y12.2.2.2.2.2.1 y12.2.2.2.2.2.2) y15 e14 (sel [4]) (sel_inj rfl rfl)) (a_ (LO.Le.refl (.var (c_T_gather_Gather (T_gather_Gather.mk y12.2.2.1 y12.2.2.2.1 y12.2.2.2.2.1 y12.2.2.2.2.2.1 y12.2.2.2.2.2.2)))) tr)) tr) (r1_ (a_ (a_ tr (a_ (leB c16) tr)) (t4_ (r1_ (r2_ (a_ (a_ (a_ (gather_Gather_Conf_ok (T_gather_Gather.mk y12.2.2.1 y12.2.2.2.1 y12.2.2.2.2.1 y12.2.2.2.2.2.1 y12.2.2.2.2.2.2) y18 e17 (sel [4]) (sel_inj rfl rfl)) (a_ (LO.Le.refl (.var (c_T_gather_Gather (T_gather_Gather.mk y12.2.2.1 y12.2.2.2.1 y12.2.2.2.2.1 y12.2.2.2.2.2.1 y12.2.2.2.2.2.2)))) tr)) tr) (a_ (a_ (a_ tr (le_ 11 11 rfl)) tr) (a_ (a_ tr (a_ (leB (k_T_api_Config y18 young)) tr)) (a_ (a_ tr (a_ (leB c19) tr)) (r1_ (a_ (a_ (a_ (gather_Gather_Conf_ok (T_gather_Gather.mk y12.2.2.1 y12.2.2.2.1 y12.2.2.2.2.1 y12.2.2.2.2.2.1 y12.2.2.2.2.2.2) y21 e20 (sel [4]) (sel_inj rfl rfl)) (a_ (LO.Le.refl (.var (c_T_gather_Gather (T_gather_Gather.mk y12.2.2.1 y12.2.2.2.1 y12.2.2.2.2.1 y12.2.2.2.2.2.1 y12.2.2.2.2.2.2)))) tr)) tr) (a_ (a_ (a_ tr (le_ 11 11 rfl)) tr) (a_ (a_ tr (a_ (leB (k_T_api_Config y21 old)) tr)) (r2_ (a_ (a_ tr (a_ (leB c22) tr)) (a_ (a_ (a_ (parrellaw19_alive_tri  y24 e23) tr) tr) (r2_ tr))))))))))))))))))) tr)))))))) tr) (by kernel_rfl) rfl
                · skip
                  obtain rfl := Option.some.inj h
                  exact run_ret mixed (L := []) (n := 42) (s := [.reg [], .reg [(1, { call := some (parrelref06_May_v y2, [], []) }), (3, { v := some (.bool false) }), (5, { call := some (parrelref06_May_v y5, [], []) }), (8, { v := some (.bool false) }), (14, { v := some (.bool false) })], .reg [], .reg [(2, { call := some (parrelref06_Of_v y9, [], []) }), (6, { v := some (.bool false) })], .reg [], .reg [(3, { call := some ((parrellaw19_gathered_vB y12.2.2).ren (sel [3, 1, 0, 4]), preOf (sel [3, 1, 0, 4]) 0 (parrellaw19_gathered_objs 1 old sets.a1 sets.a0 young old), upOf (sel [3, 1, 0, 4]) (parrellaw19_gathered_upB 1 old sets.a1 sets.a0 young old y12.2.2)) })], .reg [], .reg [(1, { call := some ((gather_Gather_Enough_v y15).ren (sel [4]), preOf (sel [4]) 0 (gather_Gather_Enough_objs (T_gather_Gather.mk y12.2.2.1 y12.2.2.2.1 y12.2.2.2.2.1 y12.2.2.2.2.2.1 y12.2.2.2.2.2.2)), upOf (sel [4]) (gather_Gather_Enough_up (T_gather_Gather.mk y12.2.2.1 y12.2.2.2.1 y12.2.2.2.2.1 y12.2.2.2.2.2.1 y12.2.2.2.2.2.2) y15)) }), (3, { v := some (.bool true) }), (11, { call := some ((gather_Gather_Conf_v y18).ren (sel [4]), preOf (sel [4]) 0 (gather_Gather_Conf_objs (T_gather_Gather.mk y12.2.2.1 y12.2.2.2.1 y12.2.2.2.2.1 y12.2.2.2.2.2.1 y12.2.2.2.2.2.2)), upOf (sel [4]) (gather_Gather_Conf_up (T_gather_Gather.mk y12.2.2.1 y12.2.2.2.1 y12.2.2.2.2.1 y12.2.2.2.2.2.1 y12.2.2.2.2.2.2) y18)) }), (13, { v := some (.bool (decide (y18 = young))) }), (14, { v := some (.bool false) }), (16, { call := some ((gather_Gather_Conf_v y21).ren (sel [4]), preOf (sel [4]) 0 (gather_Gather_Conf_objs (T_gather_Gather.mk y12.2.2.1 y12.2.2.2.1 y12.2.2.2.2.1 y12.2.2.2.2.2.1 y12.2.2.2.2.2.2)), upOf (sel [4]) (gather_Gather_Conf_up (T_gather_Gather.mk y12.2.2.1 y12.2.2.2.1 y12.2.2.2.2.1 y12.2.2.2.2.2.1 y12.2.2.2.2.2.2) y21)) }), (18, { v := some (.bool (decide (y21 = old))) }), (21, { v := some (.bool false) })]])
                    (a_ (a_ (r4_ tr) (a_ (a_ (a_ (a_ tr (le_ 11 11 rfl)) tr) (a_ (a_ (a_ (parrelref06_May_tri old y2 e1) tr) tr) (r1_ (a_ (a_ tr (a_ (leB c3) tr)) (a_ (a_ (a_ tr (le_ 11 11 rfl)) tr) (a_ (a_ (a_ (parrelref06_May_tri young y5 e4) tr) tr) (r2_ (a_ (a_ tr (a_ (leB c6) tr)) (r1_ (a_ (a_ (a_ tr (lt_ 0 11 rfl)) tr) (r1_ (a_ (a_ (a_ tr (lt_ 0 11 rfl)) tr) (r1_ (a_ (a_ tr (a_ (leB c7) tr)) tr)))))))))))))) (a_ (a_ (a_ (a_ (lei_ 0 0 rfl) (lti_ 0 2 rfl)) tr) (a_ (a_ (a_ tr (lt_ 0 2 rfl)) tr) (a_ (a_ (a_ (lei_ 0 1 rfl) (lti_ 1 2 rfl)) tr) (a_ (a_ (a_ tr (lt_ 1 2 rfl)) tr) (r1_ (a_ (a_ (a_ (Eq.refl 1) (a_ (le_ 1 1 rfl) (Eq.refl 0))) tr) (r1_ tr))))))) (a_ (a_ (a_ (a_ tr (le_ 11 11 rfl)) tr) (a_ (a_ (a_ tr (lt_ 0 1 rfl)) tr) (a_ (a_ (a_ (parrelref06_Of_tri old sets.a0 y9 e8) tr) tr) (r1_ (a_ (a_ (a_ tr (lt_ 2 11 rfl)) tr) (r1_ (a_ (a_ tr (a_ (leB c10) tr)) tr))))))) (a_ (r2_ tr) (a_ (a_ (a_ (a_ tr (le_ 11 11 rfl)) tr) (r2_ (a_ (a_ (a_ (parrellaw19_gathered_okB 1 old sets.a1 sets.a0 young old y12.2.2 y12.2.1 (altB e11 c13) (sel [3, 1, 0, 4]) (sel_inj rfl rfl)) (a_ (LO.Le.refl (.var [.int .u64 sets.a0])) (a_ (LO.Le.refl (.var (c_T_api_Config young))) (a_ (LO.Le.refl (.var (c_T_api_Config old))) tr)))) tr) (r1_ tr)))) (a_ (r2_ tr) (a_ (r1_ (a_ (a_ (a_ (gather_Gather_Enough_ok (T_gather_Gather.mk y12.2.2.1 y12.2.2.2.1 y12.2.2.2.2.1 y12.2.2.2.2.2.1 y12.2.2.2.2.2.2) y15 e14 (sel [4]) (sel_inj rfl rfl)) (a_ (LO.Le.refl (.var (c_T_gather_Gather (T_gather_Gather.mk y12.2.2.1 y12.2.2.2.1 y12.2.2.2.2.1 y12.2.2.2.2.2.1 y12.2.2.2.2.2.2)))) tr)) tr) (r1_ (a_ (a_ tr (a_ (leB c16) tr)) (t4_ (r1_ (r2_ (a_ (a_ (a_ (gather_Gather_Conf_ok (T_gather_Gather.mk y12.2.2.1 y12.2.2.2.1 y12.2.2.2.2.1 y12.2.2.2.2.2.1 y12.2.2.2.2.2.2) y18 e17 (sel [4]) (sel_inj rfl rfl)) (a_ (LO.Le.refl (.var (c_T_gather_Gather (T_gather_Gather.mk y12.2.2.1 y12.2.2.2.1 y12.2.2.2.2.1 y12.2.2.2.2.2.1 y12.2.2.2.2.2.2)))) tr)) tr) (a_ (a_ (a_ tr (le_ 11 11 rfl)) tr) (a_ (a_ tr (a_ (leB (k_T_api_Config y18 young)) tr)) (a_ (a_ tr (a_ (leB c19) tr)) (r1_ (a_ (a_ (a_ (gather_Gather_Conf_ok (T_gather_Gather.mk y12.2.2.1 y12.2.2.2.1 y12.2.2.2.2.1 y12.2.2.2.2.2.1 y12.2.2.2.2.2.2) y21 e20 (sel [4]) (sel_inj rfl rfl)) (a_ (LO.Le.refl (.var (c_T_gather_Gather (T_gather_Gather.mk y12.2.2.1 y12.2.2.2.1 y12.2.2.2.2.1 y12.2.2.2.2.2.1 y12.2.2.2.2.2.2)))) tr)) tr) (a_ (a_ (a_ tr (le_ 11 11 rfl)) tr) (a_ (a_ tr (a_ (leB (k_T_api_Config y21 old)) tr)) (r2_ (a_ (a_ tr (a_ (leB c22) tr)) (a_ tr (r2_ tr))))))))))))))))))) tr)))))))) tr) (by kernel_rfl) rfl
            · skip
              obtain ⟨y18, e17, h⟩ := bind_some h
              rcases itb_some h with ⟨c19, h⟩ | ⟨c19, h⟩
              · skip
                obtain ⟨y21, e20, h⟩ := bind_some h
                rcases itb_some h with ⟨c22, h⟩ | ⟨c22, h⟩
                · skip
                  obtain ⟨y24, e23, h⟩ := bind_some h
                  obtain rfl := Option.some.inj h
                  exact run_ret mixed (L := []) (n := 42) (s := [.reg [], .reg [(1, { call := some (parrelref06_May_v y2, [], []) }), (3, { v := some (.bool false) }), (5, { call := some (parrelref06_May_v y5, [], []) }), (8, { v := some (.bool false) }), (14, { v := some (.bool false) })], .reg [], .reg [(2, { call := some (parrelref06_Of_v y9, [], []) }), (6, { v := some (.bool false) })], .reg [], .reg [(3, { call := some ((parrellaw19_gathered_vB y12.2.2).ren (sel [3, 1, 0, 4]), preOf (sel [3, 1, 0, 4]) 0 (parrellaw19_gathered_objs 1 old sets.a1 sets.a0 young old), upOf (sel [3, 1, 0, 4]) (parrellaw19_gathered_upB 1 old sets.a1 sets.a0 young old y12.2.2)) })], .reg [], .reg [(1, { call := some ((gather_Gather_Enough_v y15).ren (sel [4]), preOf (sel [4]) 0 (gather_Gather_Enough_objs (T_gather_Gather.mk y12.2.2.1 y12.2.2.2.1 y12.2.2.2.2.1 y12.2.2.2.2.2.1 y12.2.2.2.2.2.2)), upOf (sel [4]) (gather_Gather_Enough_up (T_gather_Gather.mk y12.2.2.1 y12.2.2.2.1 y12.2.2.2.2.1 y12.2.2.2.2.2.1 y12.2.2.2.2.2.2) y15)) }), (3, { v := some (.bool false) }), (5, { call := some ((gather_Gather_Conf_v y18).ren (sel [4]), preOf (sel [4]) 0 (gather_Gather_Conf_objs (T_gather_Gather.mk y12.2.2.1 y12.2.2.2.1 y12.2.2.2.2.1 y12.2.2.2.2.2.1 y12.2.2.2.2.2.2)), upOf (sel [4]) (gather_Gather_Conf_up (T_gather_Gather.mk y12.2.2.1 y12.2.2.2.1 y12.2.2.2.2.1 y12.2.2.2.2.2.1 y12.2.2.2.2.2.2) y18)) }), (7, { v := some (.bool (decide (y18 = young))) }), (9, { v := some (.bool true) }), (11, { call := some ((gather_Gather_Conf_v y21).ren (sel [4]), preOf (sel [4]) 0 (gather_Gather_Conf_objs (T_gather_Gather.mk y12.2.2.1 y12.2.2.2.1 y12.2.2.2.2.1 y12.2.2.2.2.2.1 y12.2.2.2.2.2.2)), upOf (sel [4]) (gather_Gather_Conf_up (T_gather_Gather.mk y12.2.2.1 y12.2.2.2.1 y12.2.2.2.2.1 y12.2.2.2.2.2.1 y12.2.2.2.2.2.2) y21)) }), (13, { v := some (.bool (decide (y21 = young))) }), (14, { v := some (.bool true) }), (22, { call := some (parrellaw19_alive_v y24, [], []) })]])
                    (a_ (a_ (r4_ tr) (a_ (a_ (a_ (a_ tr (le_ 11 11 rfl)) tr) (a_ (a_ (a_ (parrelref06_May_tri old y2 e1) tr) tr) (r1_ (a_ (a_ tr (a_ (leB c3) tr)) (a_ (a_ (a_ tr (le_ 11 11 rfl)) tr) (a_ (a_ (a_ (parrelref06_May_tri young y5 e4) tr) tr) (r2_ (a_ (a_ tr (a_ (leB c6) tr)) (r1_ (a_ (a_ (a_ tr (lt_ 0 11 rfl)) tr) (r1_ (a_ (a_ (a_ tr (lt_ 0 11 rfl)) tr) (r1_ (a_ (a_ tr (a_ (leB c7) tr)) tr)))))))))))))) (a_ (a_ (a_ (a_ (lei_ 0 0 rfl) (lti_ 0 2 rfl)) tr) (a_ (a_ (a_ tr (lt_ 0 2 rfl)) tr) (a_ (a_ (a_ (lei_ 0 1 rfl) (lti_ 1 2 rfl)) tr) (a_ (a_ (a_ tr (lt_ 1 2 rfl)) tr) (r1_ (a_ (a_ (a_ (Eq.refl 1) (a_ (le_ 1 1 rfl) (Eq.refl 0))) tr) (r1_ tr))))))) (a_ (a_ (a_ (a_ tr (le_ 11 11 rfl)) tr) (a_ (a_ (a_ tr (lt_ 0 1 rfl)) tr) (a_ (a_ (a_ (parrelref06_Of_tri old sets.a0 y9 e8) tr) tr) (r1_ (a_ (a_ (a_ tr (lt_ 2 11 rfl)) tr) (r1_ (a_ (a_ tr (a_ (leB c10) tr)) tr))))))) (a_ (r2_ tr) (a_ (a_ (a_ (a_ tr (le_ 11 11 rfl)) tr) (r2_ (a_ (a_ (a_ (parrellaw19_gathered_okB 1 old sets.a1 sets.a0 young old y12.2.2 y12.2.1 (altB e11 c13) (sel [3, 1, 0, 4]) (sel_inj rfl rfl)) (a_ (LO.Le.refl (.var [.int .u64 sets.a0])) (a_ (LO.Le.refl (.var (c_T_api_Config young))) (a_ (LO.Le.refl (.var (c_T_api_Config old))) tr)))) tr) (r1_ tr)))) (a_ (r2_ tr) (a_ (r1_ (a_ (a_ (a_ (gather_Gather_Enough_ok (T_gather_Gather.mk y12.2.2.1 y12.2.2.2.1 y12.2.2.2.2.1 y12.2.2.2.2.2.1 y12.2.2.2.2.2.2) y15 e14 (sel [4]) (sel_inj rfl rfl)) (a_ (LO.Le.refl (.var (c_T_gather_Gather (T_gather_Gather.mk y12.2.2.1 y12.2.2.2.1 y12.2.2.2.2.1 y12.2.2.2.2.2.1 y12.2.2.2.2.2.2)))) tr)) tr) (r1_ (a_ (a_ tr (a_ (leB c16) tr)) (r1_ (a_ (a_ (a_ (gather_Gather_Conf_ok (T_gather_Gather.mk y12.2.2.1 y12.2.2.2.1 y12.2.2.2.2.1 y12.2.2.2.2.2.1 y12.2.2.2.2.2.2) y18 e17 (sel [4]) (sel_inj rfl rfl)) (a_ (LO.Le.refl (.var (c_T_gather_Gather (T_gather_Gather.mk y12.2.2.1 y12.2.2.2.1 y12.2.2.2.2.1 y12.2.2.2.2.2.1 y12.2.2.2.2.2.2)))) tr)) tr) (a_ (a_ (a_ tr (le_ 11 11 rfl)) tr) (a_ (a_ tr (a_ (leB (k_T_api_Config y18 young)) tr)) (r1_ (a_ (a_ tr (a_ (leB c19) tr)) (r1_ (a_ (a_ (a_ (gather_Gather_Conf_ok (T_gather_Gather.mk y12.2.2.1 y12.2.2.2.1 y12.2.2.2.2.1 y12.2.2.2.2.2.1 y12.2.2.2.2.2.2) y21 e20 (sel [4]) (sel_inj rfl rfl)) (a_ (LO.Le.refl (.var (c_T_gather_Gather (T_gather_Gather.mk y12.2.2.1 y12.2.2.2.1 y12.2.2.2.2.1 y12.2.2.2.2.2.1 y12.2.2.2.2.2.2)))) tr)) tr) (a_ (a_ (a_ tr (le_ 11 11 rfl)) tr) (a_ (a_ tr (a_ (leB (k_T_api_Config y21 young)) tr)) (a_ (a_ tr (a_ (leB c22) tr)) (t4_ (r1_ (r2_ (a_ (a_ (a_ (parrellaw19_alive_tri  y24 e23) tr) tr) (r2_ tr)))))))))))))))))))) tr)))))))) tr) (by kernel_rfl) rfl
                · skip
                  obtain ⟨y24, e23, h⟩ := bind_some h
                  rcases itb_some h with ⟨c25, h⟩ | ⟨c25, h⟩
                  · skip
                    obtain ⟨y27, e26, h⟩ := bind_some h
                    obtain rfl := Option.some.inj h
                    exact run_ret mixed (L := []) (n := 42) (s := [.reg [], .reg [(1, { call := some (parrelref06_May_v y2, [], []) }), (3, { v := some (.bool false) }), (5, { call := some (parrelref06_May_v y5, [], []) }), (8, { v := some (.bool false) }), (14, { v := some (.bool false) })], .reg [], .reg [(2, { call := some (parrelref06_Of_v y9, [], []) }), (6, { v := some (.bool false) })], .reg [], .reg [(3, { call := some ((parrellaw19_gathered_vB y12.2.2).ren (sel [3, 1, 0, 4]), preOf (sel [3, 1, 0, 4]) 0 (parrellaw19_gathered_objs 1 old sets.a1 sets.a0 young old), upOf (sel [3, 1, 0, 4]) (parrellaw19_gathered_upB 1 old sets.a1 sets.a0 young old y12.2.2)) })], .reg [], .reg [(1, { call := some ((gather_Gather_Enough_v y15).ren (sel [4]), preOf (sel [4]) 0 (gather_Gather_Enough_objs (T_gather_Gather.mk y12.2.2.1 y12.2.2.2.1 y12.2.2.2.2.1 y12.2.2.2.2.2.1 y12.2.2.2.2.2.2)), upOf (sel [4]) (gather_Gather_Enough_up (T_gather_Gather.mk y12.2.2.1 y12.2.2.2.1 y12.2.2.2.2.1 y12.2.2.2.2.2.1 y12.2.2.2.2.2.2) y15)) }), (3, { v := some (.bool false) }), (5, { call := some ((gather_Gather_Conf_v y18).ren (sel [4]), preOf (sel [4]) 0 (gather_Gather_Conf_objs (T_gather_Gather.mk y12.2.2.1 y12.2.2.2.1 y12.2.2.2.2.1 y12.2.2.2.2.2.1 y12.2.2.2.2.2.2)), upOf (sel [4]) (gather_Gather_Conf_up (T_gather_Gather.mk y12.2.2.1 y12.2.2.2.1 y12.2.2.2.2.1 y12.2.2.2.2.2.1 y12.2.2.2.2.2.2) y18)) }), (7, { v := some (.bool (decide (y18 = young))) }), (9, { v := some (.bool true) }), (11, { call := some ((gather_Gather_Conf_v y21).ren (sel [4]), preOf (sel [4]) 0 (gather_Gather_Conf_objs (T_gather_Gather.mk y12.2.2.1 y12.2.2.2.1 y12.2.2.2.2.1 y12.2.2.2.2.2.1 y12.2.2.2.2.2.2)), upOf (sel [4]) (gather_Gather_Conf_up (T_gather_Gather.mk y12.2.2.1 y12.2.2.2.1 y12.2.2.2.2.1 y12.2.2.2.2.2.1 y12.2.2.2.2.2.2) y21)) }), (13, { v := some (.bool (decide (y21 = young))) }), (14, { v := some (.bool false) }), (16, { call := some ((gather_Gather_Conf_v y24).ren (sel [4]), preOf (sel [4]) 0 (gather_Gather_Conf_objs (T_gather_Gather.mk y12.2.2.1 y12.2.2.2.1 y12.2.2.2.2.1 y12.2.2.2.2.2.1 y12.2.2.2.2.2.2)), upOf (sel [4]) (gather_Gather_Conf_up (T_gather_Gather.mk y12.2.2.1 y12.2.2.2.1 y12.2.2.2.2.1 y12.2.2.2.2.2.1 y12.2.2.2.2.2.2) y24)) }), (18, { v := some (.bool (decide (y24 = old))) }), (21, { v := some (.bool true) }), (22, { call := some (parrellaw19_alive_v y27, [], []) })]])
                      (a_ (a_ (r4_ tr) (a_ (a_ (a_ (a_ tr (le_ 11 11 rfl)) tr) (a_ (a_ (a_ (parrelref06_May_tri old y2 e1) tr) tr) (r1_ (a_ (a_ tr (a_ (leB c3) tr)) (a_ (a_ (a_ tr (le_ 11 11 rfl)) tr) (a_ (a_ (a_ (parrelref06_May_tri young y5 e4) tr) tr) (r2_ (a_ (a_ tr (a_ (leB c6) tr)) (r1_ (a_ (a_ (a_ tr (lt_ 0 11 rfl)) tr) (r1_ (a_ (a_ (a_ tr (lt_ 0 11 rfl)) tr) (r1_ (a_ (a_ tr (a_ (leB c7) tr)) tr)))))))))))))) (a_ (a_ (a_ (a_ (lei_ 0 0 rfl) (lti_ 0 2 rfl)) tr) (a_ (a_ (a_ tr (lt_ 0 2 rfl)) tr) (a_ (a_ (a_ (lei_ 0 1 rfl) (lti_ 1 2 rfl)) tr) (a_ (a_ (a_ tr (lt_ 1 2 rfl)) tr) (r1_ (a_ (a_ (a_ (Eq.refl 1) (a_ (le_ 1 1 rfl) (Eq.refl 0))) tr) (r1_ tr))))))) (a_ (a_ (a_ (a_ tr (le_ 11 11 rfl)) tr) (a_ (a_ (a_ tr (lt_ 0 1 rfl)) tr) (a_ (a_ (a_ (parrelref06_Of_tri old sets.a0 y9 e8) tr) tr) (r1_ (a_ (a_ (a_ tr (lt_ 2 11 rfl)) tr) (r1_ (a_ (a_ tr (a_ (leB c10) tr)) tr))))))) (a_ (r2_ tr) (a_ (a_ (a_ (a_ tr (le_ 11 11 rfl)) tr) (r2_ (a_ (a_ (a_ (parrellaw19_gathered_okB 1 old sets.a1 sets.a0 young old y12.2.2 y12.2.1 (altB e11 c13) (sel [3, 1, 0, 4]) (sel_inj rfl rfl)) (a_ (LO.Le.refl (.var [.int .u64 sets.a0])) (a_ (LO.Le.refl (.var (c_T_api_Config young))) (a_ (LO.Le.refl (.var (c_T_api_Config old))) tr)))) tr) (r1_ tr)))) (a_ (r2_ tr) (a_ (r1_ (a_ (a_ (a_ (gather_Gather_Enough_ok (T_gather_Gather.mk y12.2.2.1 y12.2.2.2.1 y12.2.2.2.2.1 y12.2.2.2.2.2.1 y12.2.2.2.2.2.2) y15 e14 (sel [4]) (sel_inj rfl rfl)) (a_ (LO.Le.refl (.var (c_T_gather_Gather (T_gather_Gather.mk y12.2.2.1 y12.2.2.2.1 y12.2.2.2.2.1 y12.2.2.2.2.2.1 y12.2.2.2.2.2.2)))) tr)) tr) (r1_ (a_ (a_ tr (a_ (leB c16) tr)) (r1_ (a_ (a_ (a_ (gather_Gather_Conf_ok (T_gather_Gather.mk y12.2.2.1 y12.2.2.2.1 y12.2.2.2.2.1 y12.2.2.2.2.2.1 y12.2.2.2.2.2.2) y18 e17 (sel [4]) (sel_inj rfl rfl)) (a_ (LO.Le.refl (.var (c_T_gather_Gather (T_gather_Gather.mk y12.2.2.1 y12.2.2.2.1 y12.2.2.2.2.1 y12.2.2.2.2.2.1 y12.2.2.2.2.2.2)))) tr)) tr) (a_ (a_ (a_ tr (le_ 11 11 rfl)) tr) (a_ (a_ tr (a_ (leB (k_T_api_Config y18 young)) tr)) (r1_ (a_ (a_ tr (a_ (leB c19) tr)) (r1_ (a_ (a_ (a_ (gather_Gather_Conf_ok (T_gather_Gather.mk y12.2.2.1 y12.2.2.2.1 y12.2.2.2.2.1 y12.2.2.2.2.2.1 y12.2.2.2.2.2.2) y21 e20 (sel [4]) (sel_inj rfl rfl)) (a_ (LO.Le.refl (.var (c_T_gather_Gather (T_gather_Gather.mk y12.2.2.1 y12.2.2.2.1 y12.2.2.2.2.1 y12.2.2.2.2.2.1 y12.2.2.2.2.2.2)))) tr)) tr) (a_ (a_ (a_ tr (le_ 11 11 rfl)) tr) (a_ (a_ tr (a_ (leB (k_T_api_Config y21 young)) tr)) (a_ (a_ tr (a_ (leB c22) tr)) (r1_ (a_ (a_ (a_ (gather_Gather_Conf_ok (T_gather_Gather.mk y12.2.2.1 y12.2.2.2.1 y12.2.2.2.2.1 y12.2.2.2.2.2.1 y12.2.2.2.2.2.2) y24 e23 (sel [4]) (sel_inj rfl rfl)) (a_ (LO.Le.refl (.var (c_T_gather_Gather (T_gather_Gather.mk y12.2.2.1 y12.2.2.2.1 y12.2.2.2.2.1 y12.2.2.2.2.2.1 y12.2.2.2.2.2.2)))) tr)) tr) (a_ (a_ (a_ tr (le_ 11 11 rfl)) tr) (a_ (a_ tr (a_ (leB (k_T_api_Config y24 old)) tr)) (r2_ (a_ (a_ tr (a_ (leB c25) tr)) (a_ (a_ (a_ (parrellaw19_alive_tri  y27 e26) tr) tr) (r2_ tr))))))))))))))))))))))) tr)))))))) tr) (by kernel_rfl) rfl
                  · skip
                    obtain rfl := Option.some.inj h
                    exact run_ret mixed (L := []) (n := 42) (s := [.reg [], .reg [(1, { call := some (parrelref06_May_v y2, [], []) }), (3, { v := some (.bool false) }), (5, { call := some (parrelref06_May_v y5, [], []) }), (8, { v := some (.bool false) }), (14, { v := some (.bool false) })], .reg [], .reg [(2, { call := some (parrelref06_Of_v y9, [], []) }), (6, { v := some (.bool false) })], .reg [], .reg [(3, { call := some ((parrellaw19_gathered_vB y12.2.2).ren (sel [3, 1, 0, 4]), preOf (sel [3, 1, 0, 4]) 0 (parrellaw19_gathered_objs 1 old sets.a1 sets.a0 young old), upOf (sel [3, 1, 0, 4]) (parrellaw19_gathered_upB 1 old sets.a1 sets.a0 young old y12.2.2)) })], .reg [], .reg [(1, { call := some ((gather_Gather_Enough_v y15).ren (sel [4]), preOf (sel [4]) 0 (gather_Gather_Enough_objs (T_gather_Gather.mk y12.2.2.1 y12.2.2.2.1 y12.2.2.2.2.1 y12.2.2.2.2.2.1 y12.2.2.2.2.2.2)), upOf (sel [4]) (gather_Gather_Enough_up (T_gather_Gather.mk y12.2.2.1 y12.2.2.2.1 y12.2.2.2.2.1 y12.2.2.2.2.2.1 y12.2.2.2.2.2.2) y15)) }), (3, { v := some (.bool false) }), (5, { call := some ((gather_Gather_Conf_v y18).ren (sel [4]), preOf (sel [4]) 0 (gather_Gather_Conf_objs (T_gather_Gather.mk y12.2.2.1 y12.2.2.2.1 y12.2.2.2.2.1 y12.2.2.2.2.2.1 y12.2.2.2.2.2.2)), upOf (sel [4]) (gather_Gather_Conf_up (T_gather_Gather.mk y12.2.2.1 y12.2.2.2.1 y12.2.2.2.2.1 y12.2.2.2.2.2.1 y12.2.2.2.2.2.2) y18)) }), (7, { v := some (.bool (decide (y18 = young))) }), (9, { v := some (.bool true) }), (11, { call := some ((gather_Gather_Conf_v y21).ren (sel [4]), preOf (sel [4]) 0 (gather_Gather_Conf_objs (T_gather_Gather.mk y12.2.2.1 y12.2.2.2.1 y12.2.2.2.2.1 y12.2.2.2.2.2.1 y12.2.2.2.2.2.2)), upOf (sel [4]) (gather_Gather_Conf_up (T_gather_Gather.mk y12.2.2.1 y12.2.2.2.1 y12.2.2.2.2.1 y12.2.2.2.2.2.1 y12.2.2.2.2.2.2) y21)) }), (13, { v := some (.bool (decide (y21 = young))) }), (14, { v := some (.bool false) }), (16, { call := some ((gather_Gather_Conf_v y24).ren (sel [4]), preOf (sel [4]) 0 (gather_Gather_Conf_objs (T_gather_Gather.mk y12.2.2.1 y12.2.2.2.1 y12.2.2.2.2.1 y12.2.2.2.2.2.1 y12.2.2.2.2.2.2)), upOf (sel [4]) (gather_Gather_Conf_up (T_gather_Gather.mk y12.2.2.1 y12.2.2.2.1 y12.2.2.2.2.1 y12.2.2.2.2.2.1 y12.2.2.2.2.2.2) y24)) }), (18, { v := some (.bool (decide (y24 = old))) }), (21, { v := some (.bool false) })]])
                      (a_ (a_ (r4_ tr) (a_ (a_ (a_ (a_ tr (le_ 11 11 rfl)) tr) (a_ (a_ (a_ (parrelref06_May_tri old y2 e1) tr) tr) (r1_ (a_ (a_ tr (a_ (leB c3) tr)) (a_ (a_ (a_ tr (le_ 11 11 rfl)) tr) (a_ (a_ (a_ (parrelref06_May_tri young y5 e4) tr) tr) (r2_ (a_ (a_ tr (a_ (leB c6) tr)) (r1_ (a_ (a_ (a_ tr (lt_ 0 11 rfl)) tr) (r1_ (a_ (a_ (a_ tr (lt_ 0 11 rfl)) tr) (r1_ (a_ (a_ tr (a_ (leB c7) tr)) tr)))))))))))))) (a_ (a_ (a_ (a_ (lei_ 0 0 rfl) (lti_ 0 2 rfl)) tr) (a_ (a_ (a_ tr (lt_ 0 2 rfl)) tr) (a_ (a_ (a_ (lei_ 0 1 rfl) (lti_ 1 2 rfl)) tr) (a_ (a_ (a_ tr (lt_ 1 2 rfl)) tr) (r1_ (a_ (a_ (a_ (Eq.refl 1) (a_ (le_ 1 1 rfl) (Eq.refl 0))) tr) (r1_ tr))))))) (a_ (a_ (a_ (a_ tr (le_ 11 11 rfl)) tr) (a_ (a_ (a_ tr (lt_ 0 1 rfl)) tr) (a_ (a_ (a_ (parrelref06_Of_tri old sets.a0 y9 e8) tr) tr) (r1_ (a_ (a_ (a_ tr (lt_ 2 11 rfl)) tr) (r1_ (a_ (a_ tr (a_ (leB c10) tr)) tr))))))) (a_ (r2_ tr) (a_ (a_ (a_ (a_ tr (le_ 11 11 rfl)) tr) (r2_ (a_ (a_ (a_ (parrellaw19_gathered_okB 1 old sets.a1 sets.a0 young old y12.2.2 y12.2.1 (altB e11 c13) (sel [3, 1, 0, 4]) (sel_inj rfl rfl)) (a_ (LO.Le.refl (.var [.int .u64 sets.a0])) (a_ (LO.Le.refl (.var (c_T_api_Config young))) (a_ (LO.Le.refl (.var (c_T_api_Config old))) tr)))) tr) (r1_ tr)))) (a_ (r2_ tr) (a_ (r1_ (a_ (a_ (a_ (gather_Gather_Enough_ok (T_gather_Gather.mk y12.2.2.1 y12.2.2.2.1 y12.2.2.2.2.1 y12.2.2.2.2.2.1 y12.2.2.2.2.2.2) y15 e14 (sel [4]) (sel_inj rfl rfl)) (a_ (LO.Le.refl (.var (c_T_gather_Gather (T_gather_Gather.mk y12.2.2.1 y12.2.2.2.1 y12.2.2.2.2.1 y12.2.2.2.2.2.1 y12.2.2.2.2.2.2)))) tr)) tr) (r1_ (a_ (a_ tr (a_ (leB c16) tr)) (r1_ (a_ (a_ (a_ (gather_Gather_Conf_ok (T_gather_Gather.mk y12.2.2.1 y12.2.2.2.1 y12.2.2.2.2.1 y12.2.2.2.2.2.1 y12.2.2.2.2.2.2) y18 e17 (sel [4]) (sel_inj rfl rfl)) (a_ (LO.Le.refl (.var (c_T_gather_Gather (T_gather_Gather.mk y12.2.2.1 y12.2.2.2.1 y12.2.2.2.2.1 y12.2.2.2.2.2.1 y12.2.2.2.2.2.2)))) tr)) tr) (a_ (a_ (a_ tr (le_ 11 11 rfl)) tr) (a_ (a_ tr (a_ (leB (k_T_api_Config y18 young)) tr)) (r1_ (a_ (a_ tr (a_ (leB c19) tr)) (r1_ (a_ (a_ (a_ (gather_Gather_Conf_ok (T_gather_Gather.mk y12.2.2.1 y12.2.2.2.1 y12.2.2.2.2.1 y12.2.2.2.2.2.1 y12.2.2.2.2.2.2) y21 e20 (sel [4]) (sel_inj rfl rfl)) (a_ (LO.Le.refl (.var (c_T_gather_Gather (T_gather_Gather.mk y12.2.2.1 y12.2.2.2.1 y12.2.2.2.2.1 y12.2.2.2.2.2.1 y12.2.2.2.2.2.2)))) tr)) tr) (a_ (a_ (a_ tr (le_ 11 11 rfl)) tr) (a_ (a_ tr (a_ (leB (k_T_api_Config y21 young)) tr)) (a_ (a_ tr (a_ (leB c22) tr)) (r1_ (a_ (a_ (a_ (gather_Gather_Conf_ok (T_gather_Gather.mk y12.2.2.1 y12.2.2.2.1 y12.2.2.2.2.1 y12.2.2.2.2.2.1 y12.2.2.2.2.2.2) y24 e23 (sel [4]) (sel_inj rfl rfl)) (a_ (LO.Le.refl (.var (c_T_gather_Gather (T_gather_Gather.mk y12.2.2.1 y12.2.2.2.1 y12.2.2.2.2.1 y12.2.2.2.2.2.1 y12.2.2.2.2.2.2)))) tr)) tr) (a_ (a_ (a_ tr (le_ 11 11 rfl)) tr) (a_ (a_ tr (a_ (leB (k_T_api_Config y24 old)) tr)) (r2_ (a_ (a_ tr (a_ (leB c25) tr)) (a_ tr (r2_ tr))))))))))))))))))))))) tr)))))))) tr) (by kernel_rfl) rfl
              · skip
                obtain rfl := Option.some.inj h
                exact run_ret mixed (L := []) (n := 42) (s := [.reg [], .reg [(1, { call := some (parrelref06_May_v y2, [], []) }), (3, { v := some (.bool false) }), (5, { call := some (parrelref06_May_v y5, [], []) }), (8, { v := some (.bool false) }), (14, { v := some (.bool false) })], .reg [], .reg [(2, { call := some (parrelref06_Of_v y9, [], []) }), (6, { v := some (.bool false) })], .reg [], .reg [(3, { call := some ((parrellaw19_gathered_vB y12.2.2).ren (sel [3, 1, 0, 4]), preOf (sel [3, 1, 0, 4]) 0 (parrellaw19_gathered_objs 1 old sets.a1 sets.a0 young old), upOf (sel [3, 1, 0, 4]) (parrellaw19_gathered_upB 1 old sets.a1 sets.a0 young old y12.2.2)) })], .reg [], .reg [(1, { call := some ((gather_Gather_Enough_v y15).ren (sel [4]), preOf (sel [4]) 0 (gather_Gather_Enough_objs (T_gather_Gather.mk y12.2.2.1 y12.2.2.2.1 y12.2.2.2.2.1 y12.2.2.2.2.2.1 y12.2.2.2.2.2.2)), upOf (sel [4]) (gather_Gather_Enough_up (T_gather_Gather.mk y12.2.2.1 y12.2.2.2.1 y12.2.2.2.2.1 y12.2.2.2.2.2.1 y12.2.2.2.2.2.2) y15)) }), (3, { v := some (.bool false) }), (5, { call := some ((gather_Gather_Conf_v y18).ren (sel [4]), preOf (sel [4]) 0 (gather_Gather_Conf_objs (T_gather_Gather.mk y12.2.2.1 y12.2.2.2.1 y12.2.2.2.2.1 y12.2.2.2.2.2.1 y12.2.2.2.2.2.2)), upOf (sel [4]) (gather_Gather_Conf_up (T_gather_Gather.mk y12.2.2.1 y12.2.2.2.1 y12.2.2.2.2.1 y12.2.2.2.2.2.1 y12.2.2.2.2.2.2) y18)) }), (7, { v := some (.bool (decide (y18 = young))) }), (9, { v := some (.bool false) })]])
                  (a_ (a_ (r4_ tr) (a_ (a_ (a_ (a_ tr (le_ 11 11 rfl)) tr) (a_ (a_ (a_ (parrelref06_May_tri old y2 e1) tr) tr) (r1_ (a_ (a_ tr (a_ (leB c3) tr)) (a_ (a_ (a_ tr (le_ 11 11 rfl)) tr) (a_ (a_ (a_ (parrelref06_May_tri young y5 e4) tr) tr) (r2_ (a_ (a_ tr (a_ (leB c6) tr)) (r1_ (a_ (a_ (a_ tr (lt_ 0 11 rfl)) tr) (r1_ (a_ (a_ (a_ tr (lt_ 0 11 rfl)) tr) (r1_ (a_ (a_ tr (a_ (leB c7) tr)) tr)))))))))))))) (a_ (a_ (a_ (a_ (lei_ 0 0 rfl) (lti_ 0 2 rfl)) tr) (a_ (a_ (a_ tr (lt_ 0 2 rfl)) tr) (a_ (a_ (a_ (lei_ 0 1 rfl) (lti_ 1 2 rfl)) tr) (a_ (a_ (a_ tr (lt_ 1 2 rfl)) tr) (r1_ (a_ (a_ (a_ (Eq.refl 1) (a_ (le_ 1 1 rfl) (Eq.refl 0))) tr) (r1_ tr))))))) (a_ (a_ (a_ (a_ tr (le_ 11 11 rfl)) tr) (a_ (a_ (a_ tr (lt_ 0 1 rfl)) tr) (a_ (a_ (a_ (parrelref06_Of_tri old sets.a0 y9 e8) tr) tr) (r1_ (a_ (a_ (a_ tr (lt_ 2 11 rfl)) tr) (r1_ (a_ (a_ tr (a_ (leB c10) tr)) tr))))))) (a_ (r2_ tr) (a_ (a_ (a_ (a_ tr (le_ 11 11 rfl)) tr) (r2_ (a_ (a_ (a_ (parrellaw19_gathered_okB 1 old sets.a1 sets.a0 young old y12.2.2 y12.2.1 (altB e11 c13) (sel [3, 1, 0, 4]) (sel_inj rfl rfl)) (a_ (LO.Le.refl (.var [.int .u64 sets.a0])) (a_ (LO.Le.refl (.var (c_T_api_Config young))) (a_ (LO.Le.refl (.var (c_T_api_Config old))) tr)))) tr) (r1_ tr)))) (a_ (r2_ tr) (a_ (r1_ (a_ (a_ (a_ (gather_Gather_Enough_ok (T_gather_Gather.mk y12.2.2.1 y12.2.2.2.1 y12.2.2.2.2.1 y12.2.2.2.2.2.1 y12.2.2.2.2.2.2) y15 e14 (sel [4]) (sel_inj rfl rfl)) (a_ (LO.Le.refl (.var (c_T_gather_Gather (T_gather_Gather.mk y12.2.2.1 y12.2.2.2.1 y12.2.2.2.2.1 y12.2.2.2.2.2.1 y12.2.2.2.2.2.2)))) tr)) tr) (r1_ (a_ (a_ tr (a_ (leB c16) tr)) (r1_ (a_ (a_ (a_ (gather_Gather_Conf_ok (T_gather_Gather.mk y12.2.2.1 y12.2.2.2.1 y12.2.2.2.2.1 y12.2.2.2.2.2.1 y12.2.2.2.2.2.2) y18 e17 (sel [4]) (sel_inj rfl rfl)) (a_ (LO.Le.refl (.var (c_T_gather_Gather (T_gather_Gather.mk y12.2.2.1 y12.2.2.2.1 y12.2.2.2.2.1 y12.2.2.2.2.2.1 y12.2.2.2.2.2.2)))) tr)) tr) (a_ (a_ (a_ tr (le_ 11 11 rfl)) tr) (a_ (a_ tr (a_ (leB (k_T_api_Config y18 young)) tr)) (r1_ (a_ (a_ tr (a_ (leB c19) tr)) (t2_ (t8_ (r2_ (a_ tr (r2_ tr))))))))))))))) tr)))))))) tr) (by kernel_rfl) rfl

theorem parrellaw19_GatherChains_tri (old : T_api_Config) (young : T_api_Config) (sets : A2 (Int)) (r : (Bool)) (h : parrellaw19_GatherChains old young sets = some r) : FnTri Tryd.prog 7 [v_T_api_Config old, v_T_api_Config young, .agg [.int .u64 sets.a0, .int .u64 sets.a1]] [] (parrellaw19_GatherChains_v r) [] := FnTri.none (parrellaw19_GatherChains_ok old young sets r h) rfl rfl

/-- parrel/parrellaw19.GatherNewest$1 -/

def parrellaw19_GatherNewest_L1_v (r : (T_api_Item)) : LV := v_T_api_Item r

def parrellaw19_GatherNewest_L1_up (x_n : Int) (x1 : A8 (Int)) (x2 : Int) (x3 : T_api_Config) (r : (T_api_Item)) : Upd := [(0, some (.var [.int .u32 x1.a0, .int .u32 x1.a1, .int .u32 x1.a2, .int .u32 x1.a3, .int .u32 x1.a4, .int .u32 x1.a5, .int .u32 x1.a6, .int .u32 x1.a7])), (1, some (.var [.int .u64 x2])), (2, some (.var (c_T_api_Config x3)))]

def parrellaw19_GatherNewest_L1_objs (x_n : Int) (x1 : A8 (Int)) (x2 : Int) (x3 : T_api_Config) : List LO := [.var [.int .u32 x1.a0, .int .u32 x1.a1, .int .u32 x1.a2, .int .u32 x1.a3, .int .u32 x1.a4, .int .u32 x1.a5, .int .u32 x1.a6, .int .u32 x1.a7], .var [.int .u64 x2], .var (c_T_api_Config x3)]

def parrellaw19_GatherNewest_L1 (x_n : Int) (x1 : A8 (Int)) (x2 : Int) (x3 : T_api_Config) : Option ((T_api_Item)) :=
  if 0 ≤ x_n ∧ x_n < 8 then
  if 0 ≤ x_n then
  if (((IntKind.wrap .u64 ((BitVec.ofInt (IntKind.bits .u64) (Int.fdiv x2 (2 ^ (min (Int.toNat x_n) (IntKind.bits .u64)))) &&& BitVec.ofInt (IntKind.bits .u64) 1).toNat : Int)) == 1) : Bool) then
    some (T_api_Item.mk (IntKind.wrap .u32 ((Int.tmod (A8.get x1 x_n.toNat) 1000) + 1000)) [] x3)
  else
    some (T_api_Item.mk (Int.tmod (A8.get x1 x_n.toNat) 1000) [] x3)
  else none
  else none

theorem parrellaw19_GatherNewest_L1_ok (x_n : Int) (x1 : A8 (Int)) (x2 : Int) (x3 : T_api_Config) (r : (T_api_Item)) (h : parrellaw19_GatherNewest_L1 x_n x1 x2 x3 = some r) : ∀ σ, Inj 3 σ → FnTri Tryd.prog 15 (renL σ [.int .u8 x_n, .ptr 0 0 0, .ptr 1 0 0, .ptr 2 0 0]) (preOf σ 0 (parrellaw19_GatherNewest_L1_objs x_n x1 x2 x3)) ((parrellaw19_GatherNewest_L1_v r).ren σ) (upOf σ (parrellaw19_GatherNewest_L1_up x_n x1 x2 x3 r)) := by
  refine fn_of Tryd.func15 (by kernel_rfl) (by kernel_rfl) (by kernel_rfl) ⟨rfl, rfl, rfl, trivial⟩ (by kernel_rfl) ⟨rfl, rfl, rfl, trivial⟩ (by kernel_rfl) ?_
  intro w0 W μ0 hμ
  unfold parrellaw19_GatherNewest_L1 at h
  obtain ⟨g1, h⟩ := guard_some h
  obtain ⟨g2, h⟩ := guard_some h
  rcases itb_some h with ⟨c3, h⟩ | ⟨c3, h⟩
  · skip
    obtain rfl := Option.some.inj h
    exact run_ret mixed (L := []) (n := 25) (s := [.reg [], .reg [(2, { v := some (.int .u32 (A8.get x1 x_n.toNat)) })], .reg [(4, { v := some (.bool true) })], .reg [], .reg []])
      (a_ (a_ (r1_ tr) (a_ (r1_ (a_ (a_ g1 tr) (a_ (a_ (a_ tr (arrLt (len := 8) g1 0 1 8 rfl rfl)) (a_ (ld8s (cInt .u32) 1 (fun _ => rfl) x1 [] [] 0 rfl x_n.toNat (lt8N g1) (le_ (0 + 1) 1 rfl)) tr)) (a_ (a_ (ne0 1000 rfl) tr) (r1_ tr))))) (a_ (a_ (a_ (a_ tr (lt_ 0 1 rfl)) tr) (r1_ (a_ (a_ g2 tr) (r1_ (a_ (a_ tr (a_ (leB c3) tr)) tr))))) (a_ (r1_ (r2_ tr)) (a_ (r1_ (a_ (a_ (a_ tr (le_ 11 11 rfl)) tr) (a_ (a_ (Eq.refl true) tr) (a_ (a_ (a_ (Eq.refl 13) (a_ (le_ 13 13 rfl) (Eq.refl 0))) tr) tr)))) tr))))) (a_ (a_ tr (le_ 13 13 rfl)) tr)) (by kernel_rfl) rfl
  · skip
    obtain rfl := Option.some.inj h
    exact run_ret mixed (L := []) (n := 24) (s := [.reg [], .reg [(2, { v := some (.int .u32 (A8.get x1 x_n.toNat)) })], .reg [(4, { v := some (.bool false) })], .reg []])
      (a_ (a_ (r1_ tr) (a_ (r1_ (a_ (a_ g1 tr) (a_ (a_ (a_ tr (arrLt (len := 8) g1 0 1 8 rfl rfl)) (a_ (ld8s (cInt .u32) 1 (fun _ => rfl) x1 [] [] 0 rfl x_n.toNat (lt8N g1) (le_ (0 + 1) 1 rfl)) tr)) (a_ (a_ (ne0 1000 rfl) tr) (r1_ tr))))) (a_ (a_ (a_ (a_ tr (lt_ 0 1 rfl)) tr) (r1_ (a_ (a_ g2 tr) (r1_ (a_ (a_ tr (a_ (leB c3) tr)) tr))))) (a_ (r1_ (a_ (a_ (a_ tr (le_ 11 11 rfl)) tr) (a_ (a_ (Eq.refl true) tr) (a_ (a_ (a_ (Eq.refl 13) (a_ (le_ 13 13 rfl) (Eq.refl 0))) tr) tr)))) tr)))) (a_ (a_ tr (le_ 13 13 rfl)) tr)) (by kernel_rfl) rfl

/-- parrel/parrellaw19.gathered -/

def parrellaw19_gathered_2_vA (r : Unit) : LV := .nilptr

def parrellaw19_gathered_2_upA (mode : Int) (c : T_api_Config) (set : Int) (c2 : A8 (Int)) (c3 : Int) (c4 : T_api_Config) (r : Unit) : Upd := [(0, some (.var [.int .u32 c2.a0, .int .u32 c2.a1, .int .u32 c2.a2, .int .u32 c2.a3, .int .u32 c2.a4, .int .u32 c2.a5, .int .u32 c2.a6, .int .u32 c2.a7])), (1, some (.var [.int .u64 c3])), (2, some (.var (c_T_api_Config c4)))]

def parrellaw19_gathered_2_vB (r : (Int) × (T_api_Config) × (List (T_api_Config)) × (A8 (T_gather_Got)) × (Int)) : LV := .ptr 3 0 0

def parrellaw19_gathered_2_upB (mode : Int) (c : T_api_Config) (set : Int) (c2 : A8 (Int)) (c3 : Int) (c4 : T_api_Config) (r : (Int) × (T_api_Config) × (List (T_api_Config)) × (A8 (T_gather_Got)) × (Int)) : Upd := [(0, some (.var [.int .u32 c2.a0, .int .u32 c2.a1, .int .u32 c2.a2, .int .u32 c2.a3, .int .u32 c2.a4, .int .u32 c2.a5, .int .u32 c2.a6, .int .u32 c2.a7])), (1, some (.var [.int .u64 c3])), (2, some (.var (c_T_api_Config c4))), (3, some (.var (c_T_gather_Gather (T_gather_Gather.mk r.1 r.2.1 r.2.2.1 r.2.2.2.1 r.2.2.2.2))))]

def parrellaw19_gathered_2_objs (mode : Int) (c : T_api_Config) (set : Int) (c2 : A8 (Int)) (c3 : Int) (c4 : T_api_Config) : List LO := [.var [.int .u32 c2.a0, .int .u32 c2.a1, .int .u32 c2.a2, .int .u32 c2.a3, .int .u32 c2.a4, .int .u32 c2.a5, .int .u32 c2.a6, .int .u32 c2.a7], .var [.int .u64 c3], .var (c_T_api_Config c4)]

def parrellaw19_gathered_2_T0 (set : Int) (c2 : A8 (Int)) (c3 : Int) (c4 : T_api_Config) (t21 : Int) (mode2 : Int) (Epoch : T_api_Config) (more : List (T_api_Config)) (Node : A8 (T_gather_Got)) (nodes : Int) : List LV := [.any, .any, .int .u64 set, .fn 15 [] [.ptr 0 0 0, .ptr 1 0 0, .ptr 2 0 0], .any, .any, .any, .any, .any, .ptr 3 0 0, .any, .any, .any, .any, .any, .any, .any, .any, .any, .any, .any, .int .u8 t21, .any, .any, .any, .any, .any, .any, .any, .any, .any, .any, .any, .any, .any, .any, .any, .any, .any]

def parrellaw19_gathered_2_H0 (set : Int) (c2 : A8 (Int)) (c3 : Int) (c4 : T_api_Config) (t21 : Int) (mode2 : Int) (Epoch : T_api_Config) (more : List (T_api_Config)) (Node : A8 (T_gather_Got)) (nodes : Int) : Heap := [some (.var [.int .u32 c2.a0, .int .u32 c2.a1, .int .u32 c2.a2, .int .u32 c2.a3, .int .u32 c2.a4, .int .u32 c2.a5, .int .u32 c2.a6, .int .u32 c2.a7]), some (.var [.int .u64 c3]), some (.var (c_T_api_Config c4)), some (.var (c_T_gather_Gather (T_gather_Gather.mk mode2 Epoch more Node nodes)))]

def parrellaw19_gathered_2_l0 (mode : Int) (c : T_api_Config) (set : Int) (c2 : A8 (Int)) (c3 : Int) (c4 : T_api_Config)  : Nat → (Int) → (Int) → (T_api_Config) → (List (T_api_Config)) → (A8 (T_gather_Got)) → (Int) → Option (Bool × (Unit) × ((Int) × (T_api_Config) × (List (T_api_Config)) × (A8 (T_gather_Got)) × (Int)))
  | 0, _, _, _, _, _, _ => none
  | fuel + 1, t21, mode2, Epoch, more, Node, nodes =>
    if ((decide (t21 < 8)) : Bool) then
      if 0 ≤ t21 then
      if (((IntKind.wrap .u64 ((BitVec.ofInt (IntKind.bits .u64) (Int.fdiv set (2 ^ (min (Int.toNat t21) (IntKind.bits .u64)))) &&& BitVec.ofInt (IntKind.bits .u64) 1).toNat : Int)) == 1) : Bool) then
        (parrellaw19_GatherNewest_L1 t21 c2 c3 c4).bind fun yL0_5 =>
        (gather_Gather_Grant (T_gather_Gather.mk mode2 Epoch more Node nodes) (T_gather_Got.mk t21 (T_api_Reg.mk 1 1) yL0_5)).bind fun yL0_7 =>
        parrellaw19_gathered_2_l0 mode c set c2 c3 c4  fuel (IntKind.wrap .u8 (t21 + 1)) yL0_7.2.1 yL0_7.2.2.1 yL0_7.2.2.2.1 yL0_7.2.2.2.2.1 yL0_7.2.2.2.2.2
      else
        parrellaw19_gathered_2_l0 mode c set c2 c3 c4  fuel (IntKind.wrap .u8 (t21 + 1)) mode2 Epoch more Node nodes
      else none
    else
      some (false, default, (mode2, Epoch, more, Node, nodes))

def parrellaw19_gathered_2 (mode : Int) (c : T_api_Config) (set : Int) (c2 : A8 (Int)) (c3 : Int) (c4 : T_api_Config) : Option (Bool × (Unit) × ((Int) × (T_api_Config) × (List (T_api_Config)) × (A8 (T_gather_Got)) × (Int))) :=
  (gather_New (A8.mk 97 0 0 0 0 0 0 0) mode c ([] : List (T_api_Config))).bind fun y2 =>
  if (y2.1 : Bool) then
    some (true, (), default)
  else
    parrellaw19_gathered_2_l0 mode c set c2 c3 c4  big 0 y2.2.2.1 y2.2.2.2.1 y2.2.2.2.2.1 y2.2.2.2.2.2 0

theorem parrellaw19_gathered_2_l0_okA {w0 : World} {W : Nat → Prop} {μ0 : Emb} (hμ : ∀ c p, μ0 c = some p → c < 3) (mode : Int) (c : T_api_Config) (set : Int) (c2 : A8 (Int)) (c3 : Int) (c4 : T_api_Config)  : ∀ (fuel : Nat) (t21 : Int) (mode2 : Int) (Epoch : T_api_Config) (more : List (T_api_Config)) (Node : A8 (T_gather_Got)) (nodes : Int) (r : Unit) (r_ : (Int) × (T_api_Config) × (List (T_api_Config)) × (A8 (T_gather_Got)) × (Int)), parrellaw19_gathered_2_l0 mode c set c2 c3 c4  fuel t21 mode2 Epoch more Node nodes = some (true, r, r_) → kont Tryd.prog w0 W μ0 (FnPost Tryd.prog Tryd.f12 3 3 (parrellaw19_gathered_2_vA r) (parrellaw19_gathered_2_upA mode c set c2 c3 c4 r)) (kAt (bodyOf Tryd.f12) 0) none (parrellaw19_gathered_2_T0 set c2 c3 c4 t21 mode2 Epoch more Node nodes) (parrellaw19_gathered_2_H0 set c2 c3 c4 t21 mode2 Epoch more Node nodes) := by
  intro fuel
  induction fuel with
  | zero => intro t21 mode2 Epoch more Node nodes r r_ h; rw [parrellaw19_gathered_2_l0] at h; cases h
  | succ fuel ih =>
    intro t21 mode2 Epoch more Node nodes r r_ h
    rw [parrellaw19_gathered_2_l0] at h
    rcases itb_some h with ⟨cL0_1, h⟩ | ⟨cL0_1, h⟩
    · skip
      obtain ⟨gL0_2, h⟩ := guard_some h
      rcases itb_some h with ⟨cL0_3, h⟩ | ⟨cL0_3, h⟩
      · skip
        obtain ⟨yL0_5, eL0_4, h⟩ := bind_some h
        obtain ⟨yL0_7, eL0_6, h⟩ := bind_some h
        exact run_to mixed hμ (L := [3]) (n := 30) (s := [.go, .reg [(0, { v := some (.bool true) })], .reg [], .reg [(4, { v := some (.bool true) })], .reg [(5, { call := some ((parrellaw19_GatherNewest_L1_v yL0_5).ren (sel [0, 1, 2]), preOf (sel [0, 1, 2]) 0 (parrellaw19_GatherNewest_L1_objs t21 c2 c3 c4), upOf (sel [0, 1, 2]) (parrellaw19_GatherNewest_L1_up t21 c2 c3 c4 yL0_5)) }), (7, { call := some ((gather_Gather_Grant_v yL0_7).ren (sel [3]), preOf (sel [3]) 0 (gather_Gather_Grant_objs (T_gather_Gather.mk mode2 Epoch more Node nodes) (T_gather_Got.mk t21 (T_api_Reg.mk 1 1) yL0_5)), upOf (sel [3]) (gather_Gather_Grant_up (T_gather_Gather.mk mode2 Epoch more Node nodes) (T_gather_Got.mk t21 (T_api_Reg.mk 1 1) yL0_5) yL0_7)) })], .reg []])
          (a_ (a_ (a_ tr (a_ (leB cL0_1) tr)) tr) (a_ (r2_ tr) (a_ (r2_ (a_ (a_ gL0_2 tr) (r1_ (a_ (a_ tr (a_ (leB cL0_3) tr)) tr)))) (a_ (r2_ (a_ (a_ (Eq.refl true) tr) (r2_ (a_ (a_ (a_ (parrellaw19_GatherNewest_L1_ok t21 c2 c3 c4 yL0_5 eL0_4 (sel [0, 1, 2]) (sel_inj rfl rfl)) (a_ (LO.Le.refl (.var [.int .u32 c2.a0, .int .u32 c2.a1, .int .u32 c2.a2, .int .u32 c2.a3, .int .u32 c2.a4, .int .u32 c2.a5, .int .u32 c2.a6, .int .u32 c2.a7])) (a_ (LO.Le.refl (.var [.int .u64 c3])) (a_ (LO.Le.refl (.var (c_T_api_Config c4))) tr)))) tr) (a_ (a_ (Eq.refl true) tr) (a_ (a_ (a_ (gather_Gather_Grant_ok (T_gather_Gather.mk mode2 Epoch more Node nodes) (T_gather_Got.mk t21 (T_api_Reg.mk 1 1) yL0_5) yL0_7 eL0_6 (sel [3]) (sel_inj rfl rfl)) (a_ (LO.Le.refl (.var (c_T_gather_Gather (T_gather_Gather.mk mode2 Epoch more Node nodes)))) tr)) tr) tr)))))) (a_ (r2_ tr) tr))))) (ih _ _ _ _ _ _ r r_ h) (by kernel_rfl) ⟨rfl, rfl, rfl, rfl, trivial⟩
      · skip
        exact run_to mixed hμ (L := [3]) (n := 29) (s := [.go, .reg [(0, { v := some (.bool true) })], .reg [], .reg [(4, { v := some (.bool false) })], .reg []])
          (a_ (a_ (a_ tr (a_ (leB cL0_1) tr)) tr) (a_ (r2_ tr) (a_ (r2_ (a_ (a_ gL0_2 tr) (r1_ (a_ (a_ tr (a_ (leB cL0_3) tr)) tr)))) (a_ (r2_ tr) tr)))) (ih _ _ _ _ _ _ r r_ h) (by kernel_rfl) ⟨rfl, rfl, rfl, rfl, trivial⟩
    · skip
      cases h

theorem parrellaw19_gathered_2_okA (mode : Int) (c : T_api_Config) (set : Int) (c2 : A8 (Int)) (c3 : Int) (c4 : T_api_Config) (r : Unit) (r_ : (Int) × (T_api_Config) × (List (T_api_Config)) × (A8 (T_gather_Got)) × (Int)) (h : parrellaw19_gathered_2 mode c set c2 c3 c4 = some (true, r, r_)) : ∀ σ, Inj 3 σ → FnTri Tryd.prog 12 (renL σ [.int .u8 mode, v_T_api_Config c, .int .u64 set, .fn 15 [] [.ptr 0 0 0, .ptr 1 0 0, .ptr 2 0 0]]) (preOf σ 0 (parrellaw19_gathered_2_objs mode c set c2 c3 c4)) ((parrellaw19_gathered_2_vA r).ren σ) (upOf σ (parrellaw19_gathered_2_upA mode c set c2 c3 c4 r)) := by
  refine fn_of Tryd.func12 (by kernel_rfl) (by kernel_rfl) (by kernel_rfl) ⟨rfl, rfl, rfl, trivial⟩ (by kernel_rfl) ⟨rfl, rfl, rfl, trivial⟩ (by kernel_rfl) ?_
  intro w0 W μ0 hμ
  unfold parrellaw19_gathered_2 at h
  obtain ⟨y2, e1, h⟩ := bind_some h
  rcases itb_some h with ⟨c3_, h⟩ | ⟨c3_, h⟩
  · skip
    have h := congrArg (fun z => z.2.1) (Option.some.inj h)
    dsimp only at h
    subst h
    exact run_ret mixed (L := []) (n := 23) (s := [.reg [], .reg [(3, { call := some (gather_New_vA y2.2.1, [], []), cargs := some [.agg [.int .u8 (A8.mk 97 0 0 0 0 0 0 0).a0, .int .u8 (A8.mk 97 0 0 0 0 0 0 0).a1, .int .u8 (A8.mk 97 0 0 0 0 0 0 0).a2, .int .u8 (A8.mk 97 0 0 0 0 0 0 0).a3, .int .u8 (A8.mk 97 0 0 0 0 0 0 0).a4, .int .u8 (A8.mk 97 0 0 0 0 0 0 0).a5, .int .u8 (A8.mk 97 0 0 0 0 0 0 0).a6, .int .u8 (A8.mk 97 0 0 0 0 0 0 0).a7], .int .u8 mode, v_T_api_Config c, .ds 11 (([] : List (T_api_Config))).length (rowF c_T_api_Config default ([] : List (T_api_Config)))] })], .reg [], .reg []])
      (a_ (a_ (r2_ tr) (a_ (a_ (a_ (Eq.refl true) tr) (r1_ (a_ (a_ (a_ tr (le_ 11 11 rfl)) tr) (a_ (a_ (a_ (gather_New_triA (A8.mk 97 0 0 0 0 0 0 0) mode c ([] : List (T_api_Config)) y2.2.1 y2.2.2 (altA e1 c3_)) (a_ (a_ (LV.Le.refl (.agg [.int .u8 97, .int .u8 0, .int .u8 0, .int .u8 0, .int .u8 0, .int .u8 0, .int .u8 0, .int .u8 0])) (a_ (LV.Le.refl (.int .u8 mode)) (a_ (LV.Le.refl (v_T_api_Config c)) (a_ (le_nil_ds 11 (rowF c_T_api_Config default [])) tr)))) tr)) tr) (r1_ (r4_ tr)))))) (a_ (r2_ tr) (a_ (r1_ tr) tr)))) tr) (by kernel_rfl) rfl
  · skip
    exact run_to mixed hμ (L := [4]) (n := 27) (s := [.reg [], .reg [(3, { call := some ((gather_New_vB y2.2.2).ren (sel [4]), preOf (sel [4]) 0 [], upOf (sel [4]) (gather_New_upB (A8.mk 97 0 0 0 0 0 0 0) mode c ([] : List (T_api_Config)) y2.2.2)), cargs := some [.agg [.int .u8 (A8.mk 97 0 0 0 0 0 0 0).a0, .int .u8 (A8.mk 97 0 0 0 0 0 0 0).a1, .int .u8 (A8.mk 97 0 0 0 0 0 0 0).a2, .int .u8 (A8.mk 97 0 0 0 0 0 0 0).a3, .int .u8 (A8.mk 97 0 0 0 0 0 0 0).a4, .int .u8 (A8.mk 97 0 0 0 0 0 0 0).a5, .int .u8 (A8.mk 97 0 0 0 0 0 0 0).a6, .int .u8 (A8.mk 97 0 0 0 0 0 0 0).a7], .int .u8 mode, v_T_api_Config c, .ds 11 (([] : List (T_api_Config))).length (rowF c_T_api_Config default ([] : List (T_api_Config)))] })], .reg [], .reg []])
      (a_ (r2_ tr) (a_ (a_ (a_ (Eq.refl true) tr) (r1_ (a_ (a_ (a_ tr (le_ 11 11 rfl)) tr) (a_ (a_ (a_ (gather_New_okB (A8.mk 97 0 0 0 0 0 0 0) mode c ([] : List (T_api_Config)) y2.2.2 y2.2.1 (altB e1 c3_) (sel [4]) (sel_inj rfl rfl)) (a_ (a_ (LV.Le.refl (.agg [.int .u8 97, .int .u8 0, .int .u8 0, .int .u8 0, .int .u8 0, .int .u8 0, .int .u8 0, .int .u8 0])) (a_ (LV.Le.refl (.int .u8 mode)) (a_ (LV.Le.refl (v_T_api_Config c)) (a_ (le_nil_ds 11 (rowF c_T_api_Config default [])) tr)))) tr)) tr) (r1_ (r4_ tr)))))) (a_ (r2_ tr) (a_ (r1_ tr) tr)))) (parrellaw19_gathered_2_l0_okA hμ mode c set c2 c3 c4  big _ _ _ _ _ _ r r_ h) (by kernel_rfl) ⟨rfl, rfl, rfl, rfl, trivial⟩

theorem parrellaw19_gathered_2_l0_okB {w0 : World} {W : Nat → Prop} {μ0 : Emb} (hμ : ∀ c p, μ0 c = some p → c < 3) (mode : Int) (c : T_api_Config) (set : Int) (c2 : A8 (Int)) (c3 : Int) (c4 : T_api_Config)  : ∀ (fuel : Nat) (t21 : Int) (mode2 : Int) (Epoch : T_api_Config) (more : List (T_api_Config)) (Node : A8 (T_gather_Got)) (nodes : Int) (r : (Int) × (T_api_Config) × (List (T_api_Config)) × (A8 (T_gather_Got)) × (Int)) (r_ : Unit), parrellaw19_gathered_2_l0 mode c set c2 c3 c4  fuel t21 mode2 Epoch more Node nodes = some (false, r_, r) → kont Tryd.prog w0 W μ0 (FnPost Tryd.prog Tryd.f12 3 4 (parrellaw19_gathered_2_vB r) (parrellaw19_gathered_2_upB mode c set c2 c3 c4 r)) (kAt (bodyOf Tryd.f12) 0) none (parrellaw19_gathered_2_T0 set c2 c3 c4 t21 mode2 Epoch more Node nodes) (parrellaw19_gathered_2_H0 set c2 c3 c4 t21 mode2 Epoch more Node nodes) := by
  intro fuel
  induction fuel with
  | zero => intro t21 mode2 Epoch more Node nodes r r_ h; rw [parrellaw19_gathered_2_l0] at h; cases h
  | succ fuel ih =>
    intro t21 mode2 Epoch more Node nodes r r_ h
    rw [parrellaw19_gathered_2_l0] at h
    rcases itb_some h with ⟨cL0_1, h⟩ | ⟨cL0_1, h⟩
    · skip
      obtain ⟨gL0_2, h⟩ := guard_some h
      rcases itb_some h with ⟨cL0_3, h⟩ | ⟨cL0_3, h⟩
      · skip
        obtain ⟨yL0_5, eL0_4, h⟩ := bind_some h
        obtain ⟨yL0_7, eL0_6, h⟩ := bind_some h
        exact run_to mixed hμ (L := [3]) (n := 30) (s := [.go, .reg [(0, { v := some (.bool true) })], .reg [], .reg [(4, { v := some (.bool true) })], .reg [(5, { call := some ((parrellaw19_GatherNewest_L1_v yL0_5).ren (sel [0, 1, 2]), preOf (sel [0, 1, 2]) 0 (parrellaw19_GatherNewest_L1_objs t21 c2 c3 c4), upOf (sel [0, 1, 2]) (parrellaw19_GatherNewest_L1_up t21 c2 c3 c4 yL0_5)) }), (7, { call := some ((gather_Gather_Grant_v yL0_7).ren (sel [3]), preOf (sel [3]) 0 (gather_Gather_Grant_objs (T_gather_Gather.mk mode2 Epoch more Node nodes) (T_gather_Got.mk t21 (T_api_Reg.mk 1 1) yL0_5)), upOf (sel [3]) (gather_Gather_Grant_up (T_gather_Gather.mk mode2 Epoch more Node nodes) (T_gather_Got.mk t21 (T_api_Reg.mk 1 1) yL0_5) yL0_7)) })], .reg []])
          (a_ (a_ (a_ tr (a_ (leB cL0_1) tr)) tr) (a_ (r2_ tr) (a_ (r2_ (a_ (a_ gL0_2 tr) (r1_ (a_ (a_ tr (a_ (leB cL0_3) tr)) tr)))) (a_ (r2_ (a_ (a_ (Eq.refl true) tr) (r2_ (a_ (a_ (a_ (parrellaw19_GatherNewest_L1_ok t21 c2 c3 c4 yL0_5 eL0_4 (sel [0, 1, 2]) (sel_inj rfl rfl)) (a_ (LO.Le.refl (.var [.int .u32 c2.a0, .int .u32 c2.a1, .int .u32 c2.a2, .int .u32 c2.a3, .int .u32 c2.a4, .int .u32 c2.a5, .int .u32 c2.a6, .int .u32 c2.a7])) (a_ (LO.Le.refl (.var [.int .u64 c3])) (a_ (LO.Le.refl (.var (c_T_api_Config c4))) tr)))) tr) (a_ (a_ (Eq.refl true) tr) (a_ (a_ (a_ (gather_Gather_Grant_ok (T_gather_Gather.mk mode2 Epoch more Node nodes) (T_gather_Got.mk t21 (T_api_Reg.mk 1 1) yL0_5) yL0_7 eL0_6 (sel [3]) (sel_inj rfl rfl)) (a_ (LO.Le.refl (.var (c_T_gather_Gather (T_gather_Gather.mk mode2 Epoch more Node nodes)))) tr)) tr) tr)))))) (a_ (r2_ tr) tr))))) (ih _ _ _ _ _ _ r r_ h) (by kernel_rfl) ⟨rfl, rfl, rfl, rfl, trivial⟩
      · skip
        exact run_to mixed hμ (L := [3]) (n := 29) (s := [.go, .reg [(0, { v := some (.bool true) })], .reg [], .reg [(4, { v := some (.bool false) })], .reg []])
          (a_ (a_ (a_ tr (a_ (leB cL0_1) tr)) tr) (a_ (r2_ tr) (a_ (r2_ (a_ (a_ gL0_2 tr) (r1_ (a_ (a_ tr (a_ (leB cL0_3) tr)) tr)))) (a_ (r2_ tr) tr)))) (ih _ _ _ _ _ _ r r_ h) (by kernel_rfl) ⟨rfl, rfl, rfl, rfl, trivial⟩
    · skip
      have h := congrArg (fun z => z.2.2) (Option.some.inj h)
      dsimp only at h
      subst h
      exact run_ret mixed (L := [3]) (n := 19) (s := [.go, .reg [(0, { v := some (.bool false) })], .reg []])
        (a_ (a_ (a_ (a_ tr (a_ (leB cL0_1) tr)) tr) (a_ (r2_ tr) tr)) tr) (by kernel_rfl) rfl

theorem parrellaw19_gathered_2_okB (mode : Int) (c : T_api_Config) (set : Int) (c2 : A8 (Int)) (c3 : Int) (c4 : T_api_Config) (r : (Int) × (T_api_Config) × (List (T_api_Config)) × (A8 (T_gather_Got)) × (Int)) (r_ : Unit) (h : parrellaw19_gathered_2 mode c set c2 c3 c4 = some (false, r_, r)) : ∀ σ, Inj 4 σ → FnTri Tryd.prog 12 (renL σ [.int .u8 mode, v_T_api_Config c, .int .u64 set, .fn 15 [] [.ptr 0 0 0, .ptr 1 0 0, .ptr 2 0 0]]) (preOf σ 0 (parrellaw19_gathered_2_objs mode c set c2 c3 c4)) ((parrellaw19_gathered_2_vB r).ren σ) (upOf σ (parrellaw19_gathered_2_upB mode c set c2 c3 c4 r)) := by
  refine fn_of Tryd.func12 (by kernel_rfl) (by kernel_rfl) (by kernel_rfl) ⟨rfl, rfl, rfl, trivial⟩ (by kernel_rfl) ⟨rfl, rfl, rfl, rfl, trivial⟩ (by kernel_rfl) ?_
  intro w0 W μ0 hμ
  unfold parrellaw19_gathered_2 at h
  obtain ⟨y2, e1, h⟩ := bind_some h
  rcases itb_some h with ⟨c3_, h⟩ | ⟨c3_, h⟩
  · skip
    cases h
  · skip
    exact run_to mixed hμ (L := [4]) (n := 27) (s := [.reg [], .reg [(3, { call := some ((gather_New_vB y2.2.2).ren (sel [4]), preOf (sel [4]) 0 [], upOf (sel [4]) (gather_New_upB (A8.mk 97 0 0 0 0 0 0 0) mode c ([] : List (T_api_Config)) y2.2.2)), cargs := some [.agg [.int .u8 (A8.mk 97 0 0 0 0 0 0 0).a0, .int .u8 (A8.mk 97 0 0 0 0 0 0 0).a1, .int .u8 (A8.mk 97 0 0 0 0 0 0 0).a2, .int .u8 (A8.mk 97 0 0 0 0 0 0 0).a3, .int .u8 (A8.mk 97 0 0 0 0 0 0 0).a4, .int .u8 (A8.mk 97 0 0 0 0 0 0 0).a5, .int .u8 (A8.mk 97 0 0 0 0 0 0 0).a6, .int .u8 (A8.mk 97 0 0 0 0 0 0 0).a7], .int .u8 mode, v_T_api_Config c, .ds 11 (([] : List (T_api_Config))).length (rowF c_T_api_Config default ([] : List (T_api_Config)))] })], .reg [], .reg []])
      (a_ (r2_ tr) (a_ (a_ (a_ (Eq.refl true) tr) (r1_ (a_ (a_ (a_ tr (le_ 11 11 rfl)) tr) (a_ (a_ (a_ (gather_New_okB (A8.mk 97 0 0 0 0 0 0 0) mode c ([] : List (T_api_Config)) y2.2.2 y2.2.1 (altB e1 c3_) (sel [4]) (sel_inj rfl rfl)) (a_ (a_ (LV.Le.refl (.agg [.int .u8 97, .int .u8 0, .int .u8 0, .int .u8 0, .int .u8 0, .int .u8 0, .int .u8 0, .int .u8 0])) (a_ (LV.Le.refl (.int .u8 mode)) (a_ (LV.Le.refl (v_T_api_Config c)) (a_ (le_nil_ds 11 (rowF c_T_api_Config default [])) tr)))) tr)) tr) (r1_ (r4_ tr)))))) (a_ (r2_ tr) (a_ (r1_ tr) tr)))) (parrellaw19_gathered_2_l0_okB hμ mode c set c2 c3 c4  big _ _ _ _ _ _ r r_ h) (by kernel_rfl) ⟨rfl, rfl, rfl, rfl, trivial⟩

/-- parrel/parrellaw19.GatherNewest -/

def parrellaw19_GatherNewest_v (r : (Bool)) : LV := .bool r

def parrellaw19_GatherNewest_T0 (c : T_api_Config) (versions : A8 (Int)) (sets : A2 (Int)) (y5 : Bool × (Unit) × ((Int) × (T_api_Config) × (List (T_api_Config)) × (A8 (T_gather_Got)) × (Int))) (y8 : (T_api_Item) × (Bool)) (top : Int) (t35 : Int) : List LV := [.any, .any, .any, .ptr 0 0 0, .any, .any, .any, .ptr 1 0 0, .int .u64 sets.a1, .int .u32 top, .fn 15 [] [.ptr 2 0 0, .ptr 1 0 0, .ptr 0 0 0], .ptr 3 0 0, .ptr 4 0 0, .bool y8.2, .any, .any, .any, .any, .any, .any, .any, .any, .any, .any, .any, .any, .any, .any, .any, .any, .any, .any, .any, .any, .any, .int .u8 t35, .any, .any, .any, .any, .any, .any, .any, .any, .any, .any, .any, .any, .any, .any, .any, .any, .any, .any, .any, .any, .any, .any, .any, .any, .any, .any, .any, .any, .any, .any, .any, .any, .any, .any, .any, .any, .any, .any, .any, .any, .any, .any, .any, .any, .any]

def parrellaw19_GatherNewest_H0 (c : T_api_Config) (versions : A8 (Int)) (sets : A2 (Int)) (y5 : Bool × (Unit) × ((Int) × (T_api_Config) × (List (T_api_Config)) × (A8 (T_gather_Got)) × (Int))) (y8 : (T_api_Item) × (Bool)) (top : Int) (t35 : Int) : Heap := [some (.var (c_T_api_Config c)), some (.var [.int .u64 sets.a0]), some (.var [.int .u32 versions.a0, .int .u32 versions.a1, .int .u32 versions.a2, .int .u32 versions.a3, .int .u32 versions.a4, .int .u32 versions.a5, .int .u32 versions.a6, .int .u32 versions.a7]), some (.var (c_T_gather_Gather (T_gather_Gather.mk y5.2.2.1 y5.2.2.2.1 y5.2.2.2.2.1 y5.2.2.2.2.2.1 y5.2.2.2.2.2.2))), some (.var (c_T_api_Item y8.1))]

def parrellaw19_GatherNewest_l0 (c : T_api_Config) (versions : A8 (Int)) (sets : A2 (Int)) (y5 : Bool × (Unit) × ((Int) × (T_api_Config) × (List (T_api_Config)) × (A8 (T_gather_Got)) × (Int))) (y8 : (T_api_Item) × (Bool))  : Nat → (Int) → (Int) → Option ((Bool))
  | 0, _, _ => none
  | fuel + 1, top, t35 =>
    if ((decide (t35 < 8)) : Bool) then
      if 0 ≤ t35 then
      if (((IntKind.wrap .u64 ((BitVec.ofInt (IntKind.bits .u64) (Int.fdiv sets.a1 (2 ^ (min (Int.toNat t35) (IntKind.bits .u64)))) &&& BitVec.ofInt (IntKind.bits .u64) 1).toNat : Int)) == 1) : Bool) then
        (parrellaw19_GatherNewest_L1 t35 versions sets.a0 c).bind fun yL0_5 =>
        parrellaw19_GatherNewest_l0 c versions sets y5 y8  fuel (if yL0_5.f_Version > top then yL0_5.f_Version else top) (IntKind.wrap .u8 (t35 + 1))
      else
        parrellaw19_GatherNewest_l0 c versions sets y5 y8  fuel top (IntKind.wrap .u8 (t35 + 1))
      else none
    else
      if ((!(y8.2 == ((Int.tmod sets.a1 256) != 0))) : Bool) then
        some false
      else
        if ((y8.1.f_Version != top) : Bool) then
          some false
        else
          (gather_Gather_Enough (T_gather_Gather.mk y5.2.2.1 y5.2.2.2.1 y5.2.2.2.2.1 y5.2.2.2.2.2.1 y5.2.2.2.2.2.2)).bind fun yL0_5 =>
          if ((!yL0_5) : Bool) then
            (parrellaw19_alive).bind fun yL0_8 =>
            some yL0_8
          else
            (parrelref06_Of c sets.a0).bind fun yL0_8 =>
            if ((decide (yL0_8 < (IntKind.wrap .i64 c.f_W))) : Bool) then
              (parrellaw19_alive).bind fun yL0_11 =>
              some yL0_11
            else
              if ((decide (1000 ≤ y8.1.f_Version)) : Bool) then
                (parrellaw19_alive).bind fun yL0_12 =>
                some yL0_12
              else
                some false

def parrellaw19_GatherNewest (c : T_api_Config) (versions : A8 (Int)) (sets : A2 (Int)) : Option ((Bool)) :=
  (parrelref06_May c).bind fun y2 =>
  if ((!y2) : Bool) then
    (parrellaw19_alive).bind fun y5 =>
    some y5
  else
    (parrellaw19_gathered_2 1 c sets.a1 versions sets.a0 c).bind fun y5 =>
    if (y5.1 : Bool) then
      some false
    else
      (gather_Gather_Newest (T_gather_Gather.mk y5.2.2.1 y5.2.2.2.1 y5.2.2.2.2.1 y5.2.2.2.2.2.1 y5.2.2.2.2.2.2)).bind fun y8 =>
      parrellaw19_GatherNewest_l0 c versions sets y5 y8  big 0 0

theorem parrellaw19_GatherNewest_l0_ok {w0 : World} {W : Nat → Prop} {μ0 : Emb} (hμ : ∀ c p, μ0 c = some p → c < 0) (c : T_api_Config) (versions : A8 (Int)) (sets : A2 (Int)) (y5 : Bool × (Unit) × ((Int) × (T_api_Config) × (List (T_api_Config)) × (A8 (T_gather_Got)) × (Int))) (y8 : (T_api_Item) × (Bool))  : ∀ (fuel : Nat) (top : Int) (t35 : Int) (r : (Bool)), parrellaw19_GatherNewest_l0 c versions sets y5 y8  fuel top t35 = some r → kont Tryd.prog w0 W μ0 (FnPost Tryd.prog Tryd.f4 0 0 (parrellaw19_GatherNewest_v r) []) (kAt (bodyOf Tryd.f4) 0) none (parrellaw19_GatherNewest_T0 c versions sets y5 y8 top t35) (parrellaw19_GatherNewest_H0 c versions sets y5 y8 top t35) := by
  intro fuel
  induction fuel with
  | zero => intro top t35 r h; rw [parrellaw19_GatherNewest_l0] at h; cases h
  | succ fuel ih =>
    intro top t35 r h
    rw [parrellaw19_GatherNewest_l0] at h
    rcases itb_some h with ⟨cL0_1, h⟩ | ⟨cL0_1, h⟩
    · skip
      obtain ⟨gL0_2, h⟩ := guard_some h
      rcases itb_some h with ⟨cL0_3, h⟩ | ⟨cL0_3, h⟩
      · skip
        obtain ⟨yL0_5, eL0_4, h⟩ := bind_some h
        exact run_to mixed hμ (L := [0, 1, 2, 3, 4]) (n := 30) (s := [.go, .reg [(0, { v := some (.bool true) })], .reg [], .reg [(4, { v := some (.bool true) })], .reg [(3, { call := some ((parrellaw19_GatherNewest_L1_v yL0_5).ren (sel [2, 1, 0]), preOf (sel [2, 1, 0]) 0 (parrellaw19_GatherNewest_L1_objs t35 versions sets.a0 c), upOf (sel [2, 1, 0]) (parrellaw19_GatherNewest_L1_up t35 versions sets.a0 c yL0_5)) })], .reg []])
          (a_ (a_ (a_ tr (a_ (leB cL0_1) tr)) tr) (a_ (r2_ tr) (a_ (r2_ (a_ (a_ gL0_2 tr) (r1_ (a_ (a_ tr (a_ (leB cL0_3) tr)) tr)))) (a_ (r1_ (r2_ (a_ (a_ (a_ (parrellaw19_GatherNewest_L1_ok t35 versions sets.a0 c yL0_5 eL0_4 (sel [2, 1, 0]) (sel_inj rfl rfl)) (a_ (LO.Le.refl (.var [.int .u32 versions.a0, .int .u32 versions.a1, .int .u32 versions.a2, .int .u32 versions.a3, .int .u32 versions.a4, .int .u32 versions.a5, .int .u32 versions.a6, .int .u32 versions.a7])) (a_ (LO.Le.refl (.var [.int .u64 sets.a0])) (a_ (LO.Le.refl (.var (c_T_api_Config c))) tr)))) tr) (a_ (a_ (lt_ 0 13 rfl) tr) (r2_ tr))))) (a_ (r2_ tr) tr))))) (ih _ _ r h) (by kernel_rfl) ⟨rfl, rfl, rfl, rfl, rfl, trivial⟩
      · skip
        exact run_to mixed hμ (L := [0, 1, 2, 3, 4]) (n := 29) (s := [.go, .reg [(0, { v := some (.bool true) })], .reg [], .reg [(4, { v := some (.bool false) })], .reg []])
          (a_ (a_ (a_ tr (a_ (leB cL0_1) tr)) tr) (a_ (r2_ tr) (a_ (r2_ (a_ (a_ gL0_2 tr) (r1_ (a_ (a_ tr (a_ (leB cL0_3) tr)) tr)))) (a_ (r2_ tr) tr)))) (ih _ _ r h) (by kernel_rfl) ⟨rfl, rfl, rfl, rfl, rfl, trivial⟩
    · skip
      rcases itb_some h with ⟨cL0_2, h⟩ | ⟨cL0_2, h⟩
      · skip
        obtain rfl := Option.some.inj h
        exact run_ret mixed (L := []) (n := 24) (s := [.go, .reg [(0, { v := some (.bool false) })], .reg [(5, { v := some (.bool true) })], .reg []])
          (a_ (a_ (a_ (a_ tr (a_ (leB cL0_1) tr)) tr) (a_ (r2_ (a_ (a_ (ne0 256 rfl) tr) (r2_ (a_ (a_ tr (a_ (leB cL0_2) tr)) (t4_ (r1_ tr)))))) (a_ (r1_ tr) tr))) tr) (by kernel_rfl) rfl
      · skip
        rcases itb_some h with ⟨cL0_3, h⟩ | ⟨cL0_3, h⟩
        · skip
          obtain rfl := Option.some.inj h
          exact run_ret mixed (L := []) (n := 24) (s := [.go, .reg [(0, { v := some (.bool false) })], .reg [(5, { v := some (.bool false) }), (10, { v := some (.bool true) })], .reg []])
            (a_ (a_ (a_ (a_ tr (a_ (leB cL0_1) tr)) tr) (a_ (r2_ (a_ (a_ (ne0 256 rfl) tr) (r2_ (a_ (a_ tr (a_ (leB cL0_2) tr)) (r1_ (a_ (a_ (a_ tr (lt_ 0 13 rfl)) tr) (r2_ (a_ (a_ tr (a_ (leB cL0_3) tr)) tr)))))))) (a_ (r1_ tr) tr))) tr) (by kernel_rfl) rfl
        · skip
          obtain ⟨yL0_5, eL0_4, h⟩ := bind_some h
          rcases itb_some h with ⟨cL0_6, h⟩ | ⟨cL0_6, h⟩
          · skip
            obtain ⟨yL0_8, eL0_7, h⟩ := bind_some h
            obtain rfl := Option.some.inj h
            exact run_ret mixed (L := []) (n := 25) (s := [.go, .reg [(0, { v := some (.bool false) })], .reg [(5, { v := some (.bool false) }), (10, { v := some (.bool false) })], .reg [(1, { call := some ((gather_Gather_Enough_v yL0_5).ren (sel [3]), preOf (sel [3]) 0 (gather_Gather_Enough_objs (T_gather_Gather.mk y5.2.2.1 y5.2.2.2.1 y5.2.2.2.2.1 y5.2.2.2.2.2.1 y5.2.2.2.2.2.2)), upOf (sel [3]) (gather_Gather_Enough_up (T_gather_Gather.mk y5.2.2.1 y5.2.2.2.1 y5.2.2.2.2.1 y5.2.2.2.2.2.1 y5.2.2.2.2.2.2) yL0_5)) }), (3, { v := some (.bool true) }), (18, { call := some (parrellaw19_alive_v yL0_8, [], []) })]])
              (a_ (a_ (a_ (a_ tr (a_ (leB cL0_1) tr)) tr) (a_ (r2_ (a_ (a_ (ne0 256 rfl) tr) (r2_ (a_ (a_ tr (a_ (leB cL0_2) tr)) (r1_ (a_ (a_ (a_ tr (lt_ 0 13 rfl)) tr) (r2_ (a_ (a_ tr (a_ (leB cL0_3) tr)) tr)))))))) (a_ (r1_ (a_ (a_ (a_ (gather_Gather_Enough_ok (T_gather_Gather.mk y5.2.2.1 y5.2.2.2.1 y5.2.2.2.2.1 y5.2.2.2.2.2.1 y5.2.2.2.2.2.2) yL0_5 eL0_4 (sel [3]) (sel_inj rfl rfl)) (a_ (LO.Le.refl (.var (c_T_gather_Gather (T_gather_Gather.mk y5.2.2.1 y5.2.2.2.1 y5.2.2.2.2.1 y5.2.2.2.2.2.1 y5.2.2.2.2.2.2)))) tr)) tr) (r1_ (a_ (a_ tr (a_ (leB cL0_6) tr)) (a_ tr (t2_ (t4_ (r2_ (a_ tr (t2_ (r2_ (a_ (a_ (a_ (parrellaw19_alive_tri  yL0_8 eL0_7) tr) tr) (r2_ tr))))))))))))) tr))) tr) (by kernel_rfl) rfl
          · skip
            obtain ⟨yL0_8, eL0_7, h⟩ := bind_some h
            rcases itb_some h with ⟨cL0_9, h⟩ | ⟨cL0_9, h⟩
            · skip
              obtain ⟨yL0_11, eL0_10, h⟩ := bind_some h
              obtain rfl := Option.some.inj h
              exact run_ret mixed (L := []) (n := 25) (s := [.go, .reg [(0, { v := some (.bool false) })], .reg [(5, { v := some (.bool false) }), (10, { v := some (.bool false) })], .reg [(1, { call := some ((gather_Gather_Enough_v yL0_5).ren (sel [3]), preOf (sel [3]) 0 (gather_Gather_Enough_objs (T_gather_Gather.mk y5.2.2.1 y5.2.2.2.1 y5.2.2.2.2.1 y5.2.2.2.2.2.1 y5.2.2.2.2.2.2)), upOf (sel [3]) (gather_Gather_Enough_up (T_gather_Gather.mk y5.2.2.1 y5.2.2.2.1 y5.2.2.2.2.1 y5.2.2.2.2.2.1 y5.2.2.2.2.2.2) yL0_5)) }), (3, { v := some (.bool false) }), (6, { call := some (parrelref06_Of_v yL0_8, [], []) }), (12, { v := some (.bool true) }), (18, { call := some (parrellaw19_alive_v yL0_11, [], []) })]])
                (a_ (a_ (a_ (a_ tr (a_ (leB cL0_1) tr)) tr) (a_ (r2_ (a_ (a_ (ne0 256 rfl) tr) (r2_ (a_ (a_ tr (a_ (leB cL0_2) tr)) (r1_ (a_ (a_ (a_ tr (lt_ 0 13 rfl)) tr) (r2_ (a_ (a_ tr (a_ (leB cL0_3) tr)) tr)))))))) (a_ (r1_ (a_ (a_ (a_ (gather_Gather_Enough_ok (T_gather_Gather.mk y5.2.2.1 y5.2.2.2.1 y5.2.2.2.2.1 y5.2.2.2.2.2.1 y5.2.2.2.2.2.2) yL0_5 eL0_4 (sel [3]) (sel_inj rfl rfl)) (a_ (LO.Le.refl (.var (c_T_gather_Gather (T_gather_Gather.mk y5.2.2.1 y5.2.2.2.1 y5.2.2.2.2.1 y5.2.2.2.2.2.1 y5.2.2.2.2.2.2)))) tr)) tr) (r1_ (a_ (a_ tr (a_ (leB cL0_6) tr)) (a_ (a_ (a_ tr (le_ 11 11 rfl)) tr) (a_ (a_ (a_ tr (lt_ 0 1 rfl)) tr) (a_ (a_ (a_ (parrelref06_Of_tri c sets.a0 yL0_8 eL0_7) tr) tr) (r1_ (a_ (a_ (a_ tr (lt_ 2 11 rfl)) tr) (r1_ (r2_ (a_ (a_ tr (a_ (leB cL0_9) tr)) (a_ tr (t2_ (r2_ (a_ (a_ (a_ (parrellaw19_alive_tri  yL0_11 eL0_10) tr) tr) (r2_ tr))))))))))))))))) tr))) tr) (by kernel_rfl) rfl
            · skip
              rcases itb_some h with ⟨cL0_10, h⟩ | ⟨cL0_10, h⟩
              · skip
                obtain ⟨yL0_12, eL0_11, h⟩ := bind_some h
                obtain rfl := Option.some.inj h
                exact run_ret mixed (L := []) (n := 25) (s := [.go, .reg [(0, { v := some (.bool false) })], .reg [(5, { v := some (.bool false) }), (10, { v := some (.bool false) })], .reg [(1, { call := some ((gather_Gather_Enough_v yL0_5).ren (sel [3]), preOf (sel [3]) 0 (gather_Gather_Enough_objs (T_gather_Gather.mk y5.2.2.1 y5.2.2.2.1 y5.2.2.2.2.1 y5.2.2.2.2.2.1 y5.2.2.2.2.2.2)), upOf (sel [3]) (gather_Gather_Enough_up (T_gather_Gather.mk y5.2.2.1 y5.2.2.2.1 y5.2.2.2.2.1 y5.2.2.2.2.2.1 y5.2.2.2.2.2.2) yL0_5)) }), (3, { v := some (.bool false) }), (6, { call := some (parrelref06_Of_v yL0_8, [], []) }), (12, { v := some (.bool false) }), (17, { v := some (.bool true) }), (18, { call := some (parrellaw19_alive_v yL0_12, [], []) })]])
                  (a_ (a_ (a_ (a_ tr (a_ (leB cL0_1) tr)) tr) (a_ (r2_ (a_ (a_ (ne0 256 rfl) tr) (r2_ (a_ (a_ tr (a_ (leB cL0_2) tr)) (r1_ (a_ (a_ (a_ tr (lt_ 0 13 rfl)) tr) (r2_ (a_ (a_ tr (a_ (leB cL0_3) tr)) tr)))))))) (a_ (r1_ (a_ (a_ (a_ (gather_Gather_Enough_ok (T_gather_Gather.mk y5.2.2.1 y5.2.2.2.1 y5.2.2.2.2.1 y5.2.2.2.2.2.1 y5.2.2.2.2.2.2) yL0_5 eL0_4 (sel [3]) (sel_inj rfl rfl)) (a_ (LO.Le.refl (.var (c_T_gather_Gather (T_gather_Gather.mk y5.2.2.1 y5.2.2.2.1 y5.2.2.2.2.1 y5.2.2.2.2.2.1 y5.2.2.2.2.2.2)))) tr)) tr) (r1_ (a_ (a_ tr (a_ (leB cL0_6) tr)) (a_ (a_ (a_ tr (le_ 11 11 rfl)) tr) (a_ (a_ (a_ tr (lt_ 0 1 rfl)) tr) (a_ (a_ (a_ (parrelref06_Of_tri c sets.a0 yL0_8 eL0_7) tr) tr) (r1_ (a_ (a_ (a_ tr (lt_ 2 11 rfl)) tr) (r1_ (r2_ (a_ (a_ tr (a_ (leB cL0_9) tr)) (r1_ (a_ (a_ (a_ tr (lt_ 0 13 rfl)) tr) (r2_ (a_ (a_ tr (a_ (leB cL0_10) tr)) (a_ (a_ (a_ (parrellaw19_alive_tri  yL0_12 eL0_11) tr) tr) (r2_ tr)))))))))))))))))) tr))) tr) (by kernel_rfl) rfl
              · skip
                obtain rfl := Option.some.inj h
                exact run_ret mixed (L := []) (n := 25) (s := [.go, .reg [(0, { v := some (.bool false) })], .reg [(5, { v := some (.bool false) }), (10, { v := some (.bool false) })], .reg [(1, { call := some ((gather_Gather_Enough_v yL0_5).ren (sel [3]), preOf (sel [3]) 0 (gather_Gather_Enough_objs (T_gather_Gather.mk y5.2.2.1 y5.2.2.2.1 y5.2.2.2.2.1 y5.2.2.2.2.2.1 y5.2.2.2.2.2.2)), upOf (sel [3]) (gather_Gather_Enough_up (T_gather_Gather.mk y5.2.2.1 y5.2.2.2.1 y5.2.2.2.2.1 y5.2.2.2.2.2.1 y5.2.2.2.2.2.2) yL0_5)) }), (3, { v := some (.bool false) }), (6, { call := some (parrelref06_Of_v yL0_8, [], []) }), (12, { v := some (.bool false) }), (17, { v := some (.bool false) })]])
                  (a_ (a_ (a_ (a_ tr (a_ (leB cL0_1) tr)) tr) (a_ (r2_ (a_ (a_ (ne0 256 rfl) tr) (r2_ (a_ (a_ tr (a_ (leB cL0_2) tr)) (r1_ (a_ (a_ (a_ tr (lt_ 0 13 rfl)) tr) (r2_ (a_ (a_ tr (a_ (leB cL0_3) tr)) tr)))))))) (a_ (r1_ (a_ (a_ (a_ (gather_Gather_Enough_ok (T_gather_Gather.mk y5.2.2.1 y5.2.2.2.1 y5.2.2.2.2.1 y5.2.2.2.2.2.1 y5.2.2.2.2.2.2) yL0_5 eL0_4 (sel [3]) (sel_inj rfl rfl)) (a_ (LO.Le.refl (.var (c_T_gather_Gather (T_gather_Gather.mk y5.2.2.1 y5.2.2.2.1 y5.2.2.2.2.1 y5.2.2.2.2.2.1 y5.2.2.2.2.2.2)))) tr)) tr) (r1_ (a_ (a_ tr (a_ (leB cL0_6) tr)) (a_ (a_ (a_ tr (le_ 11 11 rfl)) tr) (a_ (a_ (a_ tr (lt_ 0 1 rfl)) tr) (a_ (a_ (a_ (parrelref06_Of_tri c sets.a0 yL0_8 eL0_7) tr) tr) (r1_ (a_ (a_ (a_ tr (lt_ 2 11 rfl)) tr) (r1_ (r2_ (a_ (a_ tr (a_ (leB cL0_9) tr)) (r1_ (a_ (a_ (a_ tr (lt_ 0 13 rfl)) tr) (r2_ (a_ (a_ tr (a_ (leB cL0_10) tr)) (a_ tr (r2_ tr)))))))))))))))))) tr))) tr) (by kernel_rfl) rfl

theorem parrellaw19_GatherNewest_ok (c : T_api_Config) (versions : A8 (Int)) (sets : A2 (Int)) (r : (Bool)) (h : parrellaw19_GatherNewest c versions sets = some r) : ∀ σ, Inj 0 σ → FnTri Tryd.prog 4 (renL σ [v_T_api_Config c, .agg [.int .u32 versions.a0, .int .u32 versions.a1, .int .u32 versions.a2, .int .u32 versions.a3, .int .u32 versions.a4, .int .u32 versions.a5, .int .u32 versions.a6, .int .u32 versions.a7], .agg [.int .u64 sets.a0, .int .u64 sets.a1]]) (preOf σ 0 []) ((parrellaw19_GatherNewest_v r).ren σ) (upOf σ []) := by
  refine fn_of Tryd.func4 (by kernel_rfl) (by kernel_rfl) (by kernel_rfl) trivial (by kernel_rfl) trivial (by kernel_rfl) ?_
  intro w0 W μ0 hμ
  unfold parrellaw19_GatherNewest at h
  obtain ⟨y2, e1, h⟩ := bind_some h
  rcases itb_some h with ⟨c3, h⟩ | ⟨c3, h⟩
  · skip
    obtain ⟨y5, e4, h⟩ := bind_some h
    obtain rfl := Option.some.inj h
    exact run_ret mixed (L := []) (n := 20) (s := [.reg [], .reg [(1, { call := some (parrelref06_May_v y2, [], []) }), (2, { v := some (.bool true) })], .reg [(0, { call := some (parrellaw19_alive_v y5, [], []) })]])
      (a_ (a_ (r4_ tr) (a_ (a_ (a_ (a_ tr (le_ 11 11 rfl)) tr) (a_ (a_ (a_ (parrelref06_May_tri c y2 e1) tr) tr) (a_ (a_ tr (a_ (leB c3) tr)) tr))) (a_ (a_ (a_ (a_ (parrellaw19_alive_tri  y5 e4) tr) tr) (r1_ tr)) tr))) tr) (by kernel_rfl) rfl
  · skip
    obtain ⟨y5, e4, h⟩ := bind_some h
    rcases itb_some h with ⟨c6, h⟩ | ⟨c6, h⟩
    · skip
      obtain rfl := Option.some.inj h
      exact run_ret mixed (L := []) (n := 38) (s := [.reg [], .reg [(1, { call := some (parrelref06_May_v y2, [], []) }), (2, { v := some (.bool false) })], .reg [], .reg [], .reg [], .reg [(3, { call := some ((parrellaw19_gathered_2_vA y5.2.1).ren (sel [1, 3, 0]), preOf (sel [1, 3, 0]) 0 (parrellaw19_gathered_2_objs 1 c sets.a1 versions sets.a0 c), upOf (sel [1, 3, 0]) (parrellaw19_gathered_2_upA 1 c sets.a1 versions sets.a0 c y5.2.1)) })], .reg [], .reg []])
        (a_ (a_ (r4_ tr) (a_ (a_ (a_ (a_ tr (le_ 11 11 rfl)) tr) (a_ (a_ (a_ (parrelref06_May_tri c y2 e1) tr) tr) (a_ (a_ tr (a_ (leB c3) tr)) tr))) (a_ (a_ (a_ (a_ (lei_ 0 0 rfl) (lti_ 0 2 rfl)) tr) (a_ (a_ (a_ tr (lt_ 0 2 rfl)) tr) (a_ (a_ (a_ (lei_ 0 1 rfl) (lti_ 1 2 rfl)) tr) (a_ (a_ (a_ tr (lt_ 1 2 rfl)) tr) (r1_ (a_ (a_ (a_ (Eq.refl 1) (a_ (le_ 1 1 rfl) (Eq.refl 0))) tr) (r1_ tr))))))) (a_ (r1_ tr) (a_ (r2_ tr) (a_ (a_ (a_ (a_ tr (le_ 11 11 rfl)) tr) (r2_ (a_ (a_ (a_ (parrellaw19_gathered_2_okA 1 c sets.a1 versions sets.a0 c y5.2.1 y5.2.2 (altA e4 c6) (sel [1, 3, 0]) (sel_inj rfl rfl)) (a_ (LO.Le.refl (.var [.int .u32 versions.a0, .int .u32 versions.a1, .int .u32 versions.a2, .int .u32 versions.a3, .int .u32 versions.a4, .int .u32 versions.a5, .int .u32 versions.a6, .int .u32 versions.a7])) (a_ (LO.Le.refl (.var [.int .u64 sets.a0])) (a_ (LO.Le.refl (.var (c_T_api_Config c))) tr)))) tr) (r1_ tr)))) (a_ (r2_ tr) (a_ (r1_ tr) tr)))))))) tr) (by kernel_rfl) rfl
    · skip
      obtain ⟨y8, e7, h⟩ := bind_some h
      exact run_to mixed hμ (L := [0, 3, 1, 4, 5]) (n := 45) (s := [.reg [], .reg [(1, { call := some (parrelref06_May_v y2, [], []) }), (2, { v := some (.bool false) })], .reg [], .reg [], .reg [], .reg [(3, { call := some ((parrellaw19_gathered_2_vB y5.2.2).ren (sel [1, 3, 0, 4]), preOf (sel [1, 3, 0, 4]) 0 (parrellaw19_gathered_2_objs 1 c sets.a1 versions sets.a0 c), upOf (sel [1, 3, 0, 4]) (parrellaw19_gathered_2_upB 1 c sets.a1 versions sets.a0 c y5.2.2)) })], .reg [], .reg [(1, { call := some ((gather_Gather_Newest_v y8).ren (sel [4]), preOf (sel [4]) 0 (gather_Gather_Newest_objs (T_gather_Gather.mk y5.2.2.1 y5.2.2.2.1 y5.2.2.2.2.1 y5.2.2.2.2.2.1 y5.2.2.2.2.2.2)), upOf (sel [4]) (gather_Gather_Newest_up (T_gather_Gather.mk y5.2.2.1 y5.2.2.2.1 y5.2.2.2.2.1 y5.2.2.2.2.2.1 y5.2.2.2.2.2.2) y8)) })], .reg []])
        (a_ (r4_ tr) (a_ (a_ (a_ (a_ tr (le_ 11 11 rfl)) tr) (a_ (a_ (a_ (parrelref06_May_tri c y2 e1) tr) tr) (a_ (a_ tr (a_ (leB c3) tr)) tr))) (a_ (a_ (a_ (a_ (lei_ 0 0 rfl) (lti_ 0 2 rfl)) tr) (a_ (a_ (a_ tr (lt_ 0 2 rfl)) tr) (a_ (a_ (a_ (lei_ 0 1 rfl) (lti_ 1 2 rfl)) tr) (a_ (a_ (a_ tr (lt_ 1 2 rfl)) tr) (r1_ (a_ (a_ (a_ (Eq.refl 1) (a_ (le_ 1 1 rfl) (Eq.refl 0))) tr) (r1_ tr))))))) (a_ (r1_ tr) (a_ (r2_ tr) (a_ (a_ (a_ (a_ tr (le_ 11 11 rfl)) tr) (r2_ (a_ (a_ (a_ (parrellaw19_gathered_2_okB 1 c sets.a1 versions sets.a0 c y5.2.2 y5.2.1 (altB e4 c6) (sel [1, 3, 0, 4]) (sel_inj rfl rfl)) (a_ (LO.Le.refl (.var [.int .u32 versions.a0, .int .u32 versions.a1, .int .u32 versions.a2, .int .u32 versions.a3, .int .u32 versions.a4, .int .u32 versions.a5, .int .u32 versions.a6, .int .u32 versions.a7])) (a_ (LO.Le.refl (.var [.int .u64 sets.a0])) (a_ (LO.Le.refl (.var (c_T_api_Config c))) tr)))) tr) (r1_ tr)))) (a_ (r2_ tr) (a_ (r1_ (a_ (a_ (a_ (gather_Gather_Newest_ok (T_gather_Gather.mk y5.2.2.1 y5.2.2.2.1 y5.2.2.2.2.1 y5.2.2.2.2.2.1 y5.2.2.2.2.2.2) y8 e7 (sel [4]) (sel_inj rfl rfl)) (a_ (LO.Le.refl (.var (c_T_gather_Gather (T_gather_Gather.mk y5.2.2.1 y5.2.2.2.1 y5.2.2.2.2.1 y5.2.2.2.2.2.1 y5.2.2.2.2.2.2)))) tr)) tr) (r4_ (a_ (a_ (a_ (Eq.refl 13) (a_ (le_ 13 13 rfl) (Eq.refl 0))) tr) (r1_ tr))))) (a_ (r1_ tr) tr))))))))) (parrellaw19_GatherNewest_l0_ok hμ c versions sets y5 y8  big _ _ r h) (by kernel_rfl) ⟨rfl, rfl, rfl, rfl, rfl, trivial⟩

theorem parrellaw19_GatherNewest_tri (c : T_api_Config) (versions : A8 (Int)) (sets : A2 (Int)) (r : (Bool)) (h : parrellaw19_GatherNewest c versions sets = some r) : FnTri Tryd.prog 4 [v_T_api_Config c, .agg [.int .u32 versions.a0, .int .u32 versions.a1, .int .u32 versions.a2, .int .u32 versions.a3, .int .u32 versions.a4, .int .u32 versions.a5, .int .u32 versions.a6, .int .u32 versions.a7], .agg [.int .u64 sets.a0, .int .u64 sets.a1]] [] (parrellaw19_GatherNewest_v r) [] := FnTri.none (parrellaw19_GatherNewest_ok c versions sets r h) rfl rfl

end
end Go.Proofs.YtffmmflapagkhaaDoor.Wk
