/- Printed by tr.py: Go functions as Lean functions, with the proofs that they walk so. -/
import Derived.Test.YtffmmflapagkhaaDoorGathWa
namespace Go.Proofs.YtffmmflapagkhaaDoor.Wk
open Go Go.Cn Go.RowKit
set_option maxRecDepth 100000
set_option maxHeartbeats 4000000
set_option linter.unusedVariables false
set_option linter.unusedSimpArgs false
noncomputable section
/-- parrel/parrellaw19.gathered -/

def parrellaw19_gathered_vA (r : Unit) : LV := .nilptr

def parrellaw19_gathered_upA (mode : Int) (c : T_api_Config) (set : Int) (c2 : T_api_Config) (r : Unit) : Upd := []

def parrellaw19_gathered_vB (r : (Int) × (T_api_Config) × (List (T_api_Config)) × (A8 (T_gather_Got)) × (Int)) : LV := .ptr 1 0 0

def parrellaw19_gathered_upB (mode : Int) (c : T_api_Config) (set : Int) (c2 : T_api_Config) (r : (Int) × (T_api_Config) × (List (T_api_Config)) × (A8 (T_gather_Got)) × (Int)) : Upd := [(1, some (.var (c_T_gather_Gather (T_gather_Gather.mk r.1 r.2.1 r.2.2.1 r.2.2.2.1 r.2.2.2.2))))]

def parrellaw19_gathered_objs (mode : Int) (c : T_api_Config) (set : Int) (c2 : T_api_Config) : List LO := [.row 11 1 (fun _ => c_T_api_Config c2) false]

def parrellaw19_gathered_T0 (set : Int) (c2 : T_api_Config) (t21 : Int) (mode2 : Int) (Epoch : T_api_Config) (more : List (T_api_Config)) (Node : A8 (T_gather_Got)) (nodes : Int) : List LV := [.any, .any, .int .u64 set, .fn 11 [] [.ptr 0 0 0], .any, .any, .any, .any, .any, .ptr 1 0 0, .any, .any, .any, .any, .any, .any, .any, .any, .any, .any, .any, .int .u8 t21, .any, .any, .any, .any, .any, .any, .any, .any, .any, .any, .any, .any, .any, .any, .any, .any, .any]

def parrellaw19_gathered_H0 (set : Int) (c2 : T_api_Config) (t21 : Int) (mode2 : Int) (Epoch : T_api_Config) (more : List (T_api_Config)) (Node : A8 (T_gather_Got)) (nodes : Int) : Heap := [some (.row 11 1 (fun _ => c_T_api_Config c2) false), some (.var (c_T_gather_Gather (T_gather_Gather.mk mode2 Epoch more Node nodes)))]

def parrellaw19_gathered_l0 (mode : Int) (c : T_api_Config) (set : Int) (c2 : T_api_Config)  : Nat → (Int) → (Int) → (T_api_Config) → (List (T_api_Config)) → (A8 (T_gather_Got)) → (Int) → Option (Bool × (Unit) × ((Int) × (T_api_Config) × (List (T_api_Config)) × (A8 (T_gather_Got)) × (Int)))
  | 0, _, _, _, _, _, _ => none
  | fuel + 1, t21, mode2, Epoch, more, Node, nodes =>
    if ((decide (t21 < 8)) : Bool) then
      if 0 ≤ t21 then
      if (((IntKind.wrap .u64 ((BitVec.ofInt (IntKind.bits .u64) (Int.fdiv set (2 ^ (min (Int.toNat t21) (IntKind.bits .u64)))) &&& BitVec.ofInt (IntKind.bits .u64) 1).toNat : Int)) == 1) : Bool) then
        (parrellaw19_GatherMeets_L1 t21 c2).bind fun yL0_5 =>
        (gather_Gather_Grant (T_gather_Gather.mk mode2 Epoch more Node nodes) (T_gather_Got.mk t21 (T_api_Reg.mk 1 1) yL0_5)).bind fun yL0_7 =>
        parrellaw19_gathered_l0 mode c set c2  fuel (IntKind.wrap .u8 (t21 + 1)) yL0_7.2.1 yL0_7.2.2.1 yL0_7.2.2.2.1 yL0_7.2.2.2.2.1 yL0_7.2.2.2.2.2
      else
        parrellaw19_gathered_l0 mode c set c2  fuel (IntKind.wrap .u8 (t21 + 1)) mode2 Epoch more Node nodes
      else none
    else
      some (false, default, (mode2, Epoch, more, Node, nodes))

def parrellaw19_gathered (mode : Int) (c : T_api_Config) (set : Int) (c2 : T_api_Config) : Option (Bool × (Unit) × ((Int) × (T_api_Config) × (List (T_api_Config)) × (A8 (T_gather_Got)) × (Int))) :=
  (gather_New (A8.mk 97 0 0 0 0 0 0 0) mode c ([] : List (T_api_Config))).bind fun y2 =>
  if (y2.1 : Bool) then
    some (true, (), default)
  else
    parrellaw19_gathered_l0 mode c set c2  big 0 y2.2.2.1 y2.2.2.2.1 y2.2.2.2.2.1 y2.2.2.2.2.2 0

theorem parrellaw19_gathered_l0_okA {w0 : World} {W : Nat → Prop} {μ0 : Emb} (hμ : ∀ c p, μ0 c = some p → c < 1) (mode : Int) (c : T_api_Config) (set : Int) (c2 : T_api_Config)  : ∀ (fuel : Nat) (t21 : Int) (mode2 : Int) (Epoch : T_api_Config) (more : List (T_api_Config)) (Node : A8 (T_gather_Got)) (nodes : Int) (r : Unit) (r_ : (Int) × (T_api_Config) × (List (T_api_Config)) × (A8 (T_gather_Got)) × (Int)), parrellaw19_gathered_l0 mode c set c2  fuel t21 mode2 Epoch more Node nodes = some (true, r, r_) → kont Tryd.prog w0 W μ0 (FnPost Tryd.prog Tryd.f12 1 1 (parrellaw19_gathered_vA r) (parrellaw19_gathered_upA mode c set c2 r)) (kAt (bodyOf Tryd.f12) 0) none (parrellaw19_gathered_T0 set c2 t21 mode2 Epoch more Node nodes) (parrellaw19_gathered_H0 set c2 t21 mode2 Epoch more Node nodes) := by
  intro fuel
  induction fuel with
  | zero => intro t21 mode2 Epoch more Node nodes r r_ h; rw [parrellaw19_gathered_l0] at h; cases h
  | succ fuel ih =>
    intro t21 mode2 Epoch more Node nodes r r_ h
    rw [parrellaw19_gathered_l0] at h
    rcases itb_some h with ⟨cL0_1, h⟩ | ⟨cL0_1, h⟩
    · skip
      obtain ⟨gL0_2, h⟩ := guard_some h
      rcases itb_some h with ⟨cL0_3, h⟩ | ⟨cL0_3, h⟩
      · skip
        obtain ⟨yL0_5, eL0_4, h⟩ := bind_some h
        obtain ⟨yL0_7, eL0_6, h⟩ := bind_some h
        exact run_to mixed hμ (L := [1]) (n := 30) (s := [.go, .reg [(0, { v := some (.bool true) })], .reg [], .reg [(4, { v := some (.bool true) })], .reg [(5, { call := some ((parrellaw19_GatherMeets_L1_v yL0_5).ren (sel [0]), preOf (sel [0]) 0 (parrellaw19_GatherMeets_L1_objs t21 c2), upOf (sel [0]) (parrellaw19_GatherMeets_L1_up t21 c2 yL0_5)) }), (7, { call := some ((gather_Gather_Grant_v yL0_7).ren (sel [1]), preOf (sel [1]) 0 (gather_Gather_Grant_objs (T_gather_Gather.mk mode2 Epoch more Node nodes) (T_gather_Got.mk t21 (T_api_Reg.mk 1 1) yL0_5)), upOf (sel [1]) (gather_Gather_Grant_up (T_gather_Gather.mk mode2 Epoch more Node nodes) (T_gather_Got.mk t21 (T_api_Reg.mk 1 1) yL0_5) yL0_7)) })], .reg []])
          (a_ (a_ (a_ tr (a_ (leB cL0_1) tr)) tr) (a_ (r2_ tr) (a_ (r2_ (a_ (a_ gL0_2 tr) (r1_ (a_ (a_ tr (a_ (leB cL0_3) tr)) tr)))) (a_ (r2_ (a_ (a_ (Eq.refl true) tr) (r2_ (a_ (a_ (a_ (parrellaw19_GatherMeets_L1_ok t21 c2 yL0_5 eL0_4 (sel [0]) (sel_inj rfl rfl)) (a_ (LO.Le.refl (.row 11 1 (fun _ => c_T_api_Config c2) false)) tr)) tr) (a_ (a_ (Eq.refl true) tr) (a_ (a_ (a_ (gather_Gather_Grant_ok (T_gather_Gather.mk mode2 Epoch more Node nodes) (T_gather_Got.mk t21 (T_api_Reg.mk 1 1) yL0_5) yL0_7 eL0_6 (sel [1]) (sel_inj rfl rfl)) (a_ (LO.Le.refl (.var (c_T_gather_Gather (T_gather_Gather.mk mode2 Epoch more Node nodes)))) tr)) tr) tr)))))) (a_ (r2_ tr) tr))))) (ih _ _ _ _ _ _ r r_ h) (by kernel_rfl) ⟨fun _ _ => rfl, rfl, trivial⟩
      · skip
        exact run_to mixed hμ (L := [1]) (n := 29) (s := [.go, .reg [(0, { v := some (.bool true) })], .reg [], .reg [(4, { v := some (.bool false) })], .reg []])
          (a_ (a_ (a_ tr (a_ (leB cL0_1) tr)) tr) (a_ (r2_ tr) (a_ (r2_ (a_ (a_ gL0_2 tr) (r1_ (a_ (a_ tr (a_ (leB cL0_3) tr)) tr)))) (a_ (r2_ tr) tr)))) (ih _ _ _ _ _ _ r r_ h) (by kernel_rfl) ⟨fun _ _ => rfl, rfl, trivial⟩
    · skip
      cases h

theorem parrellaw19_gathered_okA (mode : Int) (c : T_api_Config) (set : Int) (c2 : T_api_Config) (r : Unit) (r_ : (Int) × (T_api_Config) × (List (T_api_Config)) × (A8 (T_gather_Got)) × (Int)) (h : parrellaw19_gathered mode c set c2 = some (true, r, r_)) : ∀ σ, Inj 1 σ → FnTri Tryd.prog 12 (renL σ [.int .u8 mode, v_T_api_Config c, .int .u64 set, .fn 11 [] [.ptr 0 0 0]]) (preOf σ 0 (parrellaw19_gathered_objs mode c set c2)) ((parrellaw19_gathered_vA r).ren σ) (upOf σ (parrellaw19_gathered_upA mode c set c2 r)) := by
  refine fn_of Tryd.func12 (by kernel_rfl) (by kernel_rfl) (by kernel_rfl) ⟨fun _ _ => rfl, trivial⟩ (by kernel_rfl) trivial (by kernel_rfl) ?_
  intro w0 W μ0 hμ
  unfold parrellaw19_gathered at h
  obtain ⟨y2, e1, h⟩ := bind_some h
  rcases itb_some h with ⟨c3, h⟩ | ⟨c3, h⟩
  · skip
    have h := congrArg (fun z => z.2.1) (Option.some.inj h)
    dsimp only at h
    subst h
    exact run_ret mixed (L := []) (n := 23) (s := [.reg [], .reg [(3, { call := some (gather_New_vA y2.2.1, [], []), cargs := some [.agg [.int .u8 (A8.mk 97 0 0 0 0 0 0 0).a0, .int .u8 (A8.mk 97 0 0 0 0 0 0 0).a1, .int .u8 (A8.mk 97 0 0 0 0 0 0 0).a2, .int .u8 (A8.mk 97 0 0 0 0 0 0 0).a3, .int .u8 (A8.mk 97 0 0 0 0 0 0 0).a4, .int .u8 (A8.mk 97 0 0 0 0 0 0 0).a5, .int .u8 (A8.mk 97 0 0 0 0 0 0 0).a6, .int .u8 (A8.mk 97 0 0 0 0 0 0 0).a7], .int .u8 mode, v_T_api_Config c, .ds 11 (([] : List (T_api_Config))).length (rowF c_T_api_Config default ([] : List (T_api_Config)))] })], .reg [], .reg []])
      (a_ (a_ (r2_ tr) (a_ (a_ (a_ (Eq.refl true) tr) (r1_ (a_ (a_ (a_ tr (le_ 11 11 rfl)) tr) (a_ (a_ (a_ (gather_New_triA (A8.mk 97 0 0 0 0 0 0 0) mode c ([] : List (T_api_Config)) y2.2.1 y2.2.2 (altA e1 c3)) (a_ (a_ (LV.Le.refl (.agg [.int .u8 97, .int .u8 0, .int .u8 0, .int .u8 0, .int .u8 0, .int .u8 0, .int .u8 0, .int .u8 0])) (a_ (LV.Le.refl (.int .u8 mode)) (a_ (LV.Le.refl (v_T_api_Config c)) (a_ (le_nil_ds 11 (rowF c_T_api_Config default [])) tr)))) tr)) tr) (r1_ (r4_ tr)))))) (a_ (r2_ tr) (a_ (r1_ tr) tr)))) tr) (by kernel_rfl) rfl
  · skip
    exact run_to mixed hμ (L := [2]) (n := 27) (s := [.reg [], .reg [(3, { call := some ((gather_New_vB y2.2.2).ren (sel [2]), preOf (sel [2]) 0 [], upOf (sel [2]) (gather_New_upB (A8.mk 97 0 0 0 0 0 0 0) mode c ([] : List (T_api_Config)) y2.2.2)), cargs := some [.agg [.int .u8 (A8.mk 97 0 0 0 0 0 0 0).a0, .int .u8 (A8.mk 97 0 0 0 0 0 0 0).a1, .int .u8 (A8.mk 97 0 0 0 0 0 0 0).a2, .int .u8 (A8.mk 97 0 0 0 0 0 0 0).a3, .int .u8 (A8.mk 97 0 0 0 0 0 0 0).a4, .int .u8 (A8.mk 97 0 0 0 0 0 0 0).a5, .int .u8 (A8.mk 97 0 0 0 0 0 0 0).a6, .int .u8 (A8.mk 97 0 0 0 0 0 0 0).a7], .int .u8 mode, v_T_api_Config c, .ds 11 (([] : List (T_api_Config))).length (rowF c_T_api_Config default ([] : List (T_api_Config)))] })], .reg [], .reg []])
      (a_ (r2_ tr) (a_ (a_ (a_ (Eq.refl true) tr) (r1_ (a_ (a_ (a_ tr (le_ 11 11 rfl)) tr) (a_ (a_ (a_ (gather_New_okB (A8.mk 97 0 0 0 0 0 0 0) mode c ([] : List (T_api_Config)) y2.2.2 y2.2.1 (altB e1 c3) (sel [2]) (sel_inj rfl rfl)) (a_ (a_ (LV.Le.refl (.agg [.int .u8 97, .int .u8 0, .int .u8 0, .int .u8 0, .int .u8 0, .int .u8 0, .int .u8 0, .int .u8 0])) (a_ (LV.Le.refl (.int .u8 mode)) (a_ (LV.Le.refl (v_T_api_Config c)) (a_ (le_nil_ds 11 (rowF c_T_api_Config default [])) tr)))) tr)) tr) (r1_ (r4_ tr)))))) (a_ (r2_ tr) (a_ (r1_ tr) tr)))) (parrellaw19_gathered_l0_okA hμ mode c set c2  big _ _ _ _ _ _ r r_ h) (by kernel_rfl) ⟨fun _ _ => rfl, rfl, trivial⟩

theorem parrellaw19_gathered_l0_okB {w0 : World} {W : Nat → Prop} {μ0 : Emb} (hμ : ∀ c p, μ0 c = some p → c < 1) (mode : Int) (c : T_api_Config) (set : Int) (c2 : T_api_Config)  : ∀ (fuel : Nat) (t21 : Int) (mode2 : Int) (Epoch : T_api_Config) (more : List (T_api_Config)) (Node : A8 (T_gather_Got)) (nodes : Int) (r : (Int) × (T_api_Config) × (List (T_api_Config)) × (A8 (T_gather_Got)) × (Int)) (r_ : Unit), parrellaw19_gathered_l0 mode c set c2  fuel t21 mode2 Epoch more Node nodes = some (false, r_, r) → kont Tryd.prog w0 W μ0 (FnPost Tryd.prog Tryd.f12 1 2 (parrellaw19_gathered_vB r) (parrellaw19_gathered_upB mode c set c2 r)) (kAt (bodyOf Tryd.f12) 0) none (parrellaw19_gathered_T0 set c2 t21 mode2 Epoch more Node nodes) (parrellaw19_gathered_H0 set c2 t21 mode2 Epoch more Node nodes) := by
  intro fuel
  induction fuel with
  | zero => intro t21 mode2 Epoch more Node nodes r r_ h; rw [parrellaw19_gathered_l0] at h; cases h
  | succ fuel ih =>
    intro t21 mode2 Epoch more Node nodes r r_ h
    rw [parrellaw19_gathered_l0] at h
    rcases itb_some h with ⟨cL0_1, h⟩ | ⟨cL0_1, h⟩
    · skip
      obtain ⟨gL0_2, h⟩ := guard_some h
      rcases itb_some h with ⟨cL0_3, h⟩ | ⟨cL0_3, h⟩
      · skip
        obtain ⟨yL0_5, eL0_4, h⟩ := bind_some h
        obtain ⟨yL0_7, eL0_6, h⟩ := bind_some h
        exact run_to mixed hμ (L := [1]) (n := 30) (s := [.go, .reg [(0, { v := some (.bool true) })], .reg [], .reg [(4, { v := some (.bool true) })], .reg [(5, { call := some ((parrellaw19_GatherMeets_L1_v yL0_5).ren (sel [0]), preOf (sel [0]) 0 (parrellaw19_GatherMeets_L1_objs t21 c2), upOf (sel [0]) (parrellaw19_GatherMeets_L1_up t21 c2 yL0_5)) }), (7, { call := some ((gather_Gather_Grant_v yL0_7).ren (sel [1]), preOf (sel [1]) 0 (gather_Gather_Grant_objs (T_gather_Gather.mk mode2 Epoch more Node nodes) (T_gather_Got.mk t21 (T_api_Reg.mk 1 1) yL0_5)), upOf (sel [1]) (gather_Gather_Grant_up (T_gather_Gather.mk mode2 Epoch more Node nodes) (T_gather_Got.mk t21 (T_api_Reg.mk 1 1) yL0_5) yL0_7)) })], .reg []])
          (a_ (a_ (a_ tr (a_ (leB cL0_1) tr)) tr) (a_ (r2_ tr) (a_ (r2_ (a_ (a_ gL0_2 tr) (r1_ (a_ (a_ tr (a_ (leB cL0_3) tr)) tr)))) (a_ (r2_ (a_ (a_ (Eq.refl true) tr) (r2_ (a_ (a_ (a_ (parrellaw19_GatherMeets_L1_ok t21 c2 yL0_5 eL0_4 (sel [0]) (sel_inj rfl rfl)) (a_ (LO.Le.refl (.row 11 1 (fun _ => c_T_api_Config c2) false)) tr)) tr) (a_ (a_ (Eq.refl true) tr) (a_ (a_ (a_ (gather_Gather_Grant_ok (T_gather_Gather.mk mode2 Epoch more Node nodes) (T_gather_Got.mk t21 (T_api_Reg.mk 1 1) yL0_5) yL0_7 eL0_6 (sel [1]) (sel_inj rfl rfl)) (a_ (LO.Le.refl (.var (c_T_gather_Gather (T_gather_Gather.mk mode2 Epoch more Node nodes)))) tr)) tr) tr)))))) (a_ (r2_ tr) tr))))) (ih _ _ _ _ _ _ r r_ h) (by kernel_rfl) ⟨fun _ _ => rfl, rfl, trivial⟩
      · skip
        exact run_to mixed hμ (L := [1]) (n := 29) (s := [.go, .reg [(0, { v := some (.bool true) })], .reg [], .reg [(4, { v := some (.bool false) })], .reg []])
          (a_ (a_ (a_ tr (a_ (leB cL0_1) tr)) tr) (a_ (r2_ tr) (a_ (r2_ (a_ (a_ gL0_2 tr) (r1_ (a_ (a_ tr (a_ (leB cL0_3) tr)) tr)))) (a_ (r2_ tr) tr)))) (ih _ _ _ _ _ _ r r_ h) (by kernel_rfl) ⟨fun _ _ => rfl, rfl, trivial⟩
    · skip
      have h := congrArg (fun z => z.2.2) (Option.some.inj h)
      dsimp only at h
      subst h
      exact run_ret mixed (L := [1]) (n := 19) (s := [.go, .reg [(0, { v := some (.bool false) })], .reg []])
        (a_ (a_ (a_ (a_ tr (a_ (leB cL0_1) tr)) tr) (a_ (r2_ tr) tr)) tr) (by kernel_rfl) rfl

theorem parrellaw19_gathered_okB (mode : Int) (c : T_api_Config) (set : Int) (c2 : T_api_Config) (r : (Int) × (T_api_Config) × (List (T_api_Config)) × (A8 (T_gather_Got)) × (Int)) (r_ : Unit) (h : parrellaw19_gathered mode c set c2 = some (false, r_, r)) : ∀ σ, Inj 2 σ → FnTri Tryd.prog 12 (renL σ [.int .u8 mode, v_T_api_Config c, .int .u64 set, .fn 11 [] [.ptr 0 0 0]]) (preOf σ 0 (parrellaw19_gathered_objs mode c set c2)) ((parrellaw19_gathered_vB r).ren σ) (upOf σ (parrellaw19_gathered_upB mode c set c2 r)) := by
  refine fn_of Tryd.func12 (by kernel_rfl) (by kernel_rfl) (by kernel_rfl) ⟨fun _ _ => rfl, trivial⟩ (by kernel_rfl) ⟨rfl, trivial⟩ (by kernel_rfl) ?_
  intro w0 W μ0 hμ
  unfold parrellaw19_gathered at h
  obtain ⟨y2, e1, h⟩ := bind_some h
  rcases itb_some h with ⟨c3, h⟩ | ⟨c3, h⟩
  · skip
    cases h
  · skip
    exact run_to mixed hμ (L := [2]) (n := 27) (s := [.reg [], .reg [(3, { call := some ((gather_New_vB y2.2.2).ren (sel [2]), preOf (sel [2]) 0 [], upOf (sel [2]) (gather_New_upB (A8.mk 97 0 0 0 0 0 0 0) mode c ([] : List (T_api_Config)) y2.2.2)), cargs := some [.agg [.int .u8 (A8.mk 97 0 0 0 0 0 0 0).a0, .int .u8 (A8.mk 97 0 0 0 0 0 0 0).a1, .int .u8 (A8.mk 97 0 0 0 0 0 0 0).a2, .int .u8 (A8.mk 97 0 0 0 0 0 0 0).a3, .int .u8 (A8.mk 97 0 0 0 0 0 0 0).a4, .int .u8 (A8.mk 97 0 0 0 0 0 0 0).a5, .int .u8 (A8.mk 97 0 0 0 0 0 0 0).a6, .int .u8 (A8.mk 97 0 0 0 0 0 0 0).a7], .int .u8 mode, v_T_api_Config c, .ds 11 (([] : List (T_api_Config))).length (rowF c_T_api_Config default ([] : List (T_api_Config)))] })], .reg [], .reg []])
      (a_ (r2_ tr) (a_ (a_ (a_ (Eq.refl true) tr) (r1_ (a_ (a_ (a_ tr (le_ 11 11 rfl)) tr) (a_ (a_ (a_ (gather_New_okB (A8.mk 97 0 0 0 0 0 0 0) mode c ([] : List (T_api_Config)) y2.2.2 y2.2.1 (altB e1 c3) (sel [2]) (sel_inj rfl rfl)) (a_ (a_ (LV.Le.refl (.agg [.int .u8 97, .int .u8 0, .int .u8 0, .int .u8 0, .int .u8 0, .int .u8 0, .int .u8 0, .int .u8 0])) (a_ (LV.Le.refl (.int .u8 mode)) (a_ (LV.Le.refl (v_T_api_Config c)) (a_ (le_nil_ds 11 (rowF c_T_api_Config default [])) tr)))) tr)) tr) (r1_ (r4_ tr)))))) (a_ (r2_ tr) (a_ (r1_ tr) tr)))) (parrellaw19_gathered_l0_okB hμ mode c set c2  big _ _ _ _ _ _ r r_ h) (by kernel_rfl) ⟨fun _ _ => rfl, rfl, trivial⟩

/-- parrel/parrellaw19.GatherMeets -/

def parrellaw19_GatherMeets_v (r : (Bool)) : LV := .bool r

def parrellaw19_GatherMeets_T0 (c : T_api_Config) (a : Int) (b : Int) (mode : Int) : List LV := [.any, .int .u64 a, .int .u64 b, .ptr 0 0 0, .any, .any, .any, .fn 11 [] [.ptr 0 0 0], .int .u8 mode, .any, .any, .any, .any, .any, .any, .any, .any, .any, .any, .any, .any, .any, .any, .any, .any, .any, .any, .any, .any, .any, .any, .any, .any, .any, .any, .any, .any, .any, .any, .any, .any, .any, .any, .any, .any, .any, .any, .any, .any, .any, .any, .any, .any, .any, .any, .any, .any, .any, .any]

def parrellaw19_GatherMeets_H0 (c : T_api_Config) (a : Int) (b : Int) (mode : Int) : Heap := [some (.var (c_T_api_Config c))]

def parrellaw19_GatherMeets_l0 (c : T_api_Config) (a : Int) (b : Int)  : Nat → (Int) → Option ((Bool))
  | 0, _ => none
  | fuel + 1, mode =>
    if ((decide (mode ≤ 2)) : Bool) then
      (parrellaw19_gathered mode c a c).bind fun yL0_3 =>
      if (yL0_3.1 : Bool) then
        (parrellaw19_gathered 2 c b c).bind fun yL0_6 =>
        if (yL0_6.1 : Bool) then
          some false
        else
          some false
      else
        (parrellaw19_gathered 2 c b c).bind fun yL0_6 =>
        if (yL0_6.1 : Bool) then
          some false
        else
          (gather_Gather_Nodes (T_gather_Gather.mk yL0_3.2.2.1 yL0_3.2.2.2.1 yL0_3.2.2.2.2.1 yL0_3.2.2.2.2.2.1 yL0_3.2.2.2.2.2.2)).bind fun yL0_9 =>
          if ((yL0_9 != (Int.tmod a 256)) : Bool) then
            some false
          else
            (gather_Gather_Enough (T_gather_Gather.mk yL0_3.2.2.1 yL0_3.2.2.2.1 yL0_3.2.2.2.2.1 yL0_3.2.2.2.2.2.1 yL0_3.2.2.2.2.2.2)).bind fun yL0_12 =>
            if (yL0_12 : Bool) then
              (gather_Gather_Enough (T_gather_Gather.mk yL0_6.2.2.1 yL0_6.2.2.2.1 yL0_6.2.2.2.2.1 yL0_6.2.2.2.2.2.1 yL0_6.2.2.2.2.2.2)).bind fun yL0_15 =>
              if (yL0_15 : Bool) then
                (gather_Gather_Nodes (T_gather_Gather.mk yL0_3.2.2.1 yL0_3.2.2.2.1 yL0_3.2.2.2.2.1 yL0_3.2.2.2.2.2.1 yL0_3.2.2.2.2.2.2)).bind fun yL0_18 =>
                (gather_Gather_Nodes (T_gather_Gather.mk yL0_6.2.2.1 yL0_6.2.2.2.1 yL0_6.2.2.2.2.1 yL0_6.2.2.2.2.2.1 yL0_6.2.2.2.2.2.2)).bind fun yL0_20 =>
                if (((IntKind.wrap .u64 ((BitVec.ofInt (IntKind.bits .u64) yL0_18 &&& BitVec.ofInt (IntKind.bits .u64) yL0_20).toNat : Int)) == 0) : Bool) then
                  some false
                else
                  parrellaw19_GatherMeets_l0 c a b  fuel (IntKind.wrap .u8 (mode + 1))
              else
                parrellaw19_GatherMeets_l0 c a b  fuel (IntKind.wrap .u8 (mode + 1))
            else
              parrellaw19_GatherMeets_l0 c a b  fuel (IntKind.wrap .u8 (mode + 1))
    else
      (parrellaw19_alive).bind fun yL0_4 =>
      some yL0_4

def parrellaw19_GatherMeets (c : T_api_Config) (a : Int) (b : Int) : Option ((Bool)) :=
  (parrelref06_May c).bind fun y2 =>
  if ((!y2) : Bool) then
    (parrellaw19_alive).bind fun y5 =>
    some y5
  else
    parrellaw19_GatherMeets_l0 c a b  big 1

theorem parrellaw19_GatherMeets_l0_ok {w0 : World} {W : Nat → Prop} {μ0 : Emb} (hμ : ∀ c p, μ0 c = some p → c < 0) (c : T_api_Config) (a : Int) (b : Int)  : ∀ (fuel : Nat) (mode : Int) (r : (Bool)), parrellaw19_GatherMeets_l0 c a b  fuel mode = some r → kont Tryd.prog w0 W μ0 (FnPost Tryd.prog Tryd.f3 0 0 (parrellaw19_GatherMeets_v r) []) (kAt (bodyOf Tryd.f3) 0) none (parrellaw19_GatherMeets_T0 c a b mode) (parrellaw19_GatherMeets_H0 c a b mode) := by
  intro fuel
  induction fuel with
  | zero => intro mode r h; rw [parrellaw19_GatherMeets_l0] at h; cases h
  | succ fuel ih =>
    intro mode r h
    rw [parrellaw19_GatherMeets_l0] at h
    rcases itb_some h with ⟨cL0_1, h⟩ | ⟨cL0_1, h⟩
    · skip
      obtain ⟨yL0_3, eL0_2, h⟩ := bind_some h
      rcases itb_some h with ⟨cL0_4, h⟩ | ⟨cL0_4, h⟩
      · skip
        obtain ⟨yL0_6, eL0_5, h⟩ := bind_some h
        rcases itb_some h with ⟨cL0_7, h⟩ | ⟨cL0_7, h⟩
        · skip
          obtain rfl := Option.some.inj h
          exact run_ret mixed (L := []) (n := 28) (s := [.go, .reg [(1, { v := some (.bool true) })], .reg [(4, { call := some ((parrellaw19_gathered_vA yL0_3.2.1).ren (sel [0]), preOf (sel [0]) 0 (parrellaw19_gathered_objs mode c a c), upOf (sel [0]) (parrellaw19_gathered_upA mode c a c yL0_3.2.1)) }), (8, { call := some ((parrellaw19_gathered_vA yL0_6.2.1).ren (sel [0]), preOf (sel [0]) 0 (parrellaw19_gathered_objs 2 c b c), upOf (sel [0]) (parrellaw19_gathered_upA 2 c b c yL0_6.2.1)) })], .reg [], .reg []])
            (a_ (a_ (r1_ (a_ (a_ tr (a_ (leB cL0_1) tr)) tr)) (a_ (r1_ (a_ (a_ (a_ tr (le_ 11 11 rfl)) tr) (r2_ (a_ (a_ (a_ (parrellaw19_gathered_okA mode c a c yL0_3.2.1 yL0_3.2.2 (altA eL0_2 cL0_4) (sel [0]) (sel_inj rfl rfl)) (a_ (LO.Le.ofVar (c_T_api_Config c)) tr)) tr) (a_ (a_ (a_ tr (le_ 11 11 rfl)) tr) (r2_ (a_ (a_ (a_ (parrellaw19_gathered_okA 2 c b c yL0_6.2.1 yL0_6.2.2 (altA eL0_5 cL0_7) (sel [0]) (sel_inj rfl rfl)) (a_ (LO.Le.ofVar (c_T_api_Config c)) tr)) tr) (r2_ tr)))))))) (a_ (r1_ (r2_ (t2_ (r2_ (a_ tr (t4_ (r2_ (t2_ (t4_ (t8_ (r1_ tr))))))))))) (a_ (r1_ tr) tr)))) tr) (by kernel_rfl) rfl
        · skip
          obtain rfl := Option.some.inj h
          exact run_ret mixed (L := []) (n := 28) (s := [.go, .reg [(1, { v := some (.bool true) })], .reg [(4, { call := some ((parrellaw19_gathered_vA yL0_3.2.1).ren (sel [0]), preOf (sel [0]) 0 (parrellaw19_gathered_objs mode c a c), upOf (sel [0]) (parrellaw19_gathered_upA mode c a c yL0_3.2.1)) }), (8, { call := some ((parrellaw19_gathered_vB yL0_6.2.2).ren (sel [0, 1]), preOf (sel [0, 1]) 0 (parrellaw19_gathered_objs 2 c b c), upOf (sel [0, 1]) (parrellaw19_gathered_upB 2 c b c yL0_6.2.2)) })], .reg [], .reg []])
            (a_ (a_ (r1_ (a_ (a_ tr (a_ (leB cL0_1) tr)) tr)) (a_ (r1_ (a_ (a_ (a_ tr (le_ 11 11 rfl)) tr) (r2_ (a_ (a_ (a_ (parrellaw19_gathered_okA mode c a c yL0_3.2.1 yL0_3.2.2 (altA eL0_2 cL0_4) (sel [0]) (sel_inj rfl rfl)) (a_ (LO.Le.ofVar (c_T_api_Config c)) tr)) tr) (a_ (a_ (a_ tr (le_ 11 11 rfl)) tr) (r2_ (a_ (a_ (a_ (parrellaw19_gathered_okB 2 c b c yL0_6.2.2 yL0_6.2.1 (altB eL0_5 cL0_7) (sel [0, 1]) (sel_inj rfl rfl)) (a_ (LO.Le.ofVar (c_T_api_Config c)) tr)) tr) (r2_ tr)))))))) (a_ (r1_ (r2_ (t2_ (r2_ (a_ tr (t4_ (r2_ (t2_ (t4_ (t8_ (r1_ tr))))))))))) (a_ (r1_ tr) tr)))) tr) (by kernel_rfl) rfl
      · skip
        obtain ⟨yL0_6, eL0_5, h⟩ := bind_some h
        rcases itb_some h with ⟨cL0_7, h⟩ | ⟨cL0_7, h⟩
        · skip
          obtain rfl := Option.some.inj h
          exact run_ret mixed (L := []) (n := 28) (s := [.go, .reg [(1, { v := some (.bool true) })], .reg [(4, { call := some ((parrellaw19_gathered_vB yL0_3.2.2).ren (sel [0, 1]), preOf (sel [0, 1]) 0 (parrellaw19_gathered_objs mode c a c), upOf (sel [0, 1]) (parrellaw19_gathered_upB mode c a c yL0_3.2.2)) }), (8, { call := some ((parrellaw19_gathered_vA yL0_6.2.1).ren (sel [0]), preOf (sel [0]) 0 (parrellaw19_gathered_objs 2 c b c), upOf (sel [0]) (parrellaw19_gathered_upA 2 c b c yL0_6.2.1)) })], .reg [], .reg []])
            (a_ (a_ (r1_ (a_ (a_ tr (a_ (leB cL0_1) tr)) tr)) (a_ (r1_ (a_ (a_ (a_ tr (le_ 11 11 rfl)) tr) (r2_ (a_ (a_ (a_ (parrellaw19_gathered_okB mode c a c yL0_3.2.2 yL0_3.2.1 (altB eL0_2 cL0_4) (sel [0, 1]) (sel_inj rfl rfl)) (a_ (LO.Le.ofVar (c_T_api_Config c)) tr)) tr) (a_ (a_ (a_ tr (le_ 11 11 rfl)) tr) (r2_ (a_ (a_ (a_ (parrellaw19_gathered_okA 2 c b c yL0_6.2.1 yL0_6.2.2 (altA eL0_5 cL0_7) (sel [0]) (sel_inj rfl rfl)) (a_ (LO.Le.ofVar (c_T_api_Config c)) tr)) tr) (r2_ tr)))))))) (a_ (r1_ (r2_ (r4_ (a_ tr (t4_ (r2_ (t2_ (t4_ (t8_ (r1_ tr)))))))))) (a_ (r1_ tr) tr)))) tr) (by kernel_rfl) rfl
        · skip
          obtain ⟨yL0_9, eL0_8, h⟩ := bind_some h
          rcases itb_some h with ⟨cL0_10, h⟩ | ⟨cL0_10, h⟩
          · skip
            obtain rfl := Option.some.inj h
            exact run_ret mixed (L := []) (n := 28) (s := [.go, .reg [(1, { v := some (.bool true) })], .reg [(4, { call := some ((parrellaw19_gathered_vB yL0_3.2.2).ren (sel [0, 1]), preOf (sel [0, 1]) 0 (parrellaw19_gathered_objs mode c a c), upOf (sel [0, 1]) (parrellaw19_gathered_upB mode c a c yL0_3.2.2)) }), (8, { call := some ((parrellaw19_gathered_vB yL0_6.2.2).ren (sel [0, 2]), preOf (sel [0, 2]) 0 (parrellaw19_gathered_objs 2 c b c), upOf (sel [0, 2]) (parrellaw19_gathered_upB 2 c b c yL0_6.2.2)) })], .reg [(8, { call := some ((gather_Gather_Nodes_v yL0_9).ren (sel [1]), preOf (sel [1]) 0 (gather_Gather_Nodes_objs (T_gather_Gather.mk yL0_3.2.2.1 yL0_3.2.2.2.1 yL0_3.2.2.2.2.1 yL0_3.2.2.2.2.2.1 yL0_3.2.2.2.2.2.2)), upOf (sel [1]) (gather_Gather_Nodes_up (T_gather_Gather.mk yL0_3.2.2.1 yL0_3.2.2.2.1 yL0_3.2.2.2.2.1 yL0_3.2.2.2.2.2.1 yL0_3.2.2.2.2.2.2) yL0_9)) }), (13, { v := some (.bool true) })], .reg []])
              (a_ (a_ (r1_ (a_ (a_ tr (a_ (leB cL0_1) tr)) tr)) (a_ (r1_ (a_ (a_ (a_ tr (le_ 11 11 rfl)) tr) (r2_ (a_ (a_ (a_ (parrellaw19_gathered_okB mode c a c yL0_3.2.2 yL0_3.2.1 (altB eL0_2 cL0_4) (sel [0, 1]) (sel_inj rfl rfl)) (a_ (LO.Le.ofVar (c_T_api_Config c)) tr)) tr) (a_ (a_ (a_ tr (le_ 11 11 rfl)) tr) (r2_ (a_ (a_ (a_ (parrellaw19_gathered_okB 2 c b c yL0_6.2.2 yL0_6.2.1 (altB eL0_5 cL0_7) (sel [0, 2]) (sel_inj rfl rfl)) (a_ (LO.Le.ofVar (c_T_api_Config c)) tr)) tr) (r2_ tr)))))))) (a_ (r8_ (a_ (a_ (a_ (gather_Gather_Nodes_ok (T_gather_Gather.mk yL0_3.2.2.1 yL0_3.2.2.2.1 yL0_3.2.2.2.2.1 yL0_3.2.2.2.2.2.1 yL0_3.2.2.2.2.2.2) yL0_9 eL0_8 (sel [1]) (sel_inj rfl rfl)) (a_ (LO.Le.refl (.var (c_T_gather_Gather (T_gather_Gather.mk yL0_3.2.2.1 yL0_3.2.2.2.1 yL0_3.2.2.2.2.1 yL0_3.2.2.2.2.2.1 yL0_3.2.2.2.2.2.2)))) tr)) tr) (r1_ (a_ (a_ (ne0 256 rfl) tr) (r2_ (a_ (a_ tr (a_ (leB cL0_10) tr)) (t2_ (t4_ (t8_ (r1_ tr)))))))))) (a_ (r1_ tr) tr)))) tr) (by kernel_rfl) rfl
          · skip
            obtain ⟨yL0_12, eL0_11, h⟩ := bind_some h
            rcases itb_some h with ⟨cL0_13, h⟩ | ⟨cL0_13, h⟩
            · skip
              obtain ⟨yL0_15, eL0_14, h⟩ := bind_some h
              rcases itb_some h with ⟨cL0_16, h⟩ | ⟨cL0_16, h⟩
              · skip
                obtain ⟨yL0_18, eL0_17, h⟩ := bind_some h
                obtain ⟨yL0_20, eL0_19, h⟩ := bind_some h
                rcases itb_some h with ⟨cL0_21, h⟩ | ⟨cL0_21, h⟩
                · skip
                  obtain rfl := Option.some.inj h
                  exact run_ret mixed (L := []) (n := 28) (s := [.go, .reg [(1, { v := some (.bool true) })], .reg [(4, { call := some ((parrellaw19_gathered_vB yL0_3.2.2).ren (sel [0, 1]), preOf (sel [0, 1]) 0 (parrellaw19_gathered_objs mode c a c), upOf (sel [0, 1]) (parrellaw19_gathered_upB mode c a c yL0_3.2.2)) }), (8, { call := some ((parrellaw19_gathered_vB yL0_6.2.2).ren (sel [0, 2]), preOf (sel [0, 2]) 0 (parrellaw19_gathered_objs 2 c b c), upOf (sel [0, 2]) (parrellaw19_gathered_upB 2 c b c yL0_6.2.2)) })], .reg [(8, { call := some ((gather_Gather_Nodes_v yL0_9).ren (sel [1]), preOf (sel [1]) 0 (gather_Gather_Nodes_objs (T_gather_Gather.mk yL0_3.2.2.1 yL0_3.2.2.2.1 yL0_3.2.2.2.2.1 yL0_3.2.2.2.2.2.1 yL0_3.2.2.2.2.2.2)), upOf (sel [1]) (gather_Gather_Nodes_up (T_gather_Gather.mk yL0_3.2.2.1 yL0_3.2.2.2.1 yL0_3.2.2.2.2.1 yL0_3.2.2.2.2.2.1 yL0_3.2.2.2.2.2.2) yL0_9)) }), (13, { v := some (.bool false) }), (15, { call := some ((gather_Gather_Enough_v yL0_12).ren (sel [1]), preOf (sel [1]) 0 (gather_Gather_Enough_objs (T_gather_Gather.mk yL0_3.2.2.1 yL0_3.2.2.2.1 yL0_3.2.2.2.2.1 yL0_3.2.2.2.2.2.1 yL0_3.2.2.2.2.2.2)), upOf (sel [1]) (gather_Gather_Enough_up (T_gather_Gather.mk yL0_3.2.2.1 yL0_3.2.2.2.1 yL0_3.2.2.2.2.1 yL0_3.2.2.2.2.2.1 yL0_3.2.2.2.2.2.2) yL0_12)) }), (16, { v := some (.bool true) }), (18, { call := some ((gather_Gather_Enough_v yL0_15).ren (sel [2]), preOf (sel [2]) 0 (gather_Gather_Enough_objs (T_gather_Gather.mk yL0_6.2.2.1 yL0_6.2.2.2.1 yL0_6.2.2.2.2.1 yL0_6.2.2.2.2.2.1 yL0_6.2.2.2.2.2.2)), upOf (sel [2]) (gather_Gather_Enough_up (T_gather_Gather.mk yL0_6.2.2.1 yL0_6.2.2.2.1 yL0_6.2.2.2.2.1 yL0_6.2.2.2.2.2.1 yL0_6.2.2.2.2.2.2) yL0_15)) }), (20, { v := some (.bool true) }), (22, { call := some ((gather_Gather_Nodes_v yL0_18).ren (sel [1]), preOf (sel [1]) 0 (gather_Gather_Nodes_objs (T_gather_Gather.mk yL0_3.2.2.1 yL0_3.2.2.2.1 yL0_3.2.2.2.2.1 yL0_3.2.2.2.2.2.1 yL0_3.2.2.2.2.2.2)), upOf (sel [1]) (gather_Gather_Nodes_up (T_gather_Gather.mk yL0_3.2.2.1 yL0_3.2.2.2.1 yL0_3.2.2.2.2.1 yL0_3.2.2.2.2.2.1 yL0_3.2.2.2.2.2.2) yL0_18)) }), (24, { call := some ((gather_Gather_Nodes_v yL0_20).ren (sel [2]), preOf (sel [2]) 0 (gather_Gather_Nodes_objs (T_gather_Gather.mk yL0_6.2.2.1 yL0_6.2.2.2.1 yL0_6.2.2.2.2.1 yL0_6.2.2.2.2.2.1 yL0_6.2.2.2.2.2.2)), upOf (sel [2]) (gather_Gather_Nodes_up (T_gather_Gather.mk yL0_6.2.2.1 yL0_6.2.2.2.1 yL0_6.2.2.2.2.1 yL0_6.2.2.2.2.2.1 yL0_6.2.2.2.2.2.2) yL0_20)) }), (28, { v := some (.bool true) })], .reg []])
                    (a_ (a_ (r1_ (a_ (a_ tr (a_ (leB cL0_1) tr)) tr)) (a_ (r1_ (a_ (a_ (a_ tr (le_ 11 11 rfl)) tr) (r2_ (a_ (a_ (a_ (parrellaw19_gathered_okB mode c a c yL0_3.2.2 yL0_3.2.1 (altB eL0_2 cL0_4) (sel [0, 1]) (sel_inj rfl rfl)) (a_ (LO.Le.ofVar (c_T_api_Config c)) tr)) tr) (a_ (a_ (a_ tr (le_ 11 11 rfl)) tr) (r2_ (a_ (a_ (a_ (parrellaw19_gathered_okB 2 c b c yL0_6.2.2 yL0_6.2.1 (altB eL0_5 cL0_7) (sel [0, 2]) (sel_inj rfl rfl)) (a_ (LO.Le.ofVar (c_T_api_Config c)) tr)) tr) (r2_ tr)))))))) (a_ (r8_ (a_ (a_ (a_ (gather_Gather_Nodes_ok (T_gather_Gather.mk yL0_3.2.2.1 yL0_3.2.2.2.1 yL0_3.2.2.2.2.1 yL0_3.2.2.2.2.2.1 yL0_3.2.2.2.2.2.2) yL0_9 eL0_8 (sel [1]) (sel_inj rfl rfl)) (a_ (LO.Le.refl (.var (c_T_gather_Gather (T_gather_Gather.mk yL0_3.2.2.1 yL0_3.2.2.2.1 yL0_3.2.2.2.2.1 yL0_3.2.2.2.2.2.1 yL0_3.2.2.2.2.2.2)))) tr)) tr) (r1_ (a_ (a_ (ne0 256 rfl) tr) (r2_ (a_ (a_ tr (a_ (leB cL0_10) tr)) (r1_ (a_ (a_ (a_ (gather_Gather_Enough_ok (T_gather_Gather.mk yL0_3.2.2.1 yL0_3.2.2.2.1 yL0_3.2.2.2.2.1 yL0_3.2.2.2.2.2.1 yL0_3.2.2.2.2.2.2) yL0_12 eL0_11 (sel [1]) (sel_inj rfl rfl)) (a_ (LO.Le.refl (.var (c_T_gather_Gather (T_gather_Gather.mk yL0_3.2.2.1 yL0_3.2.2.2.1 yL0_3.2.2.2.2.1 yL0_3.2.2.2.2.2.1 yL0_3.2.2.2.2.2.2)))) tr)) tr) (a_ (a_ tr (a_ (leB cL0_13) tr)) (r1_ (a_ (a_ (a_ (gather_Gather_Enough_ok (T_gather_Gather.mk yL0_6.2.2.1 yL0_6.2.2.2.1 yL0_6.2.2.2.2.1 yL0_6.2.2.2.2.2.1 yL0_6.2.2.2.2.2.2) yL0_15 eL0_14 (sel [2]) (sel_inj rfl rfl)) (a_ (LO.Le.refl (.var (c_T_gather_Gather (T_gather_Gather.mk yL0_6.2.2.1 yL0_6.2.2.2.1 yL0_6.2.2.2.2.1 yL0_6.2.2.2.2.2.1 yL0_6.2.2.2.2.2.2)))) tr)) tr) (r1_ (a_ (a_ tr (a_ (leB cL0_16) tr)) (r1_ (a_ (a_ (a_ (gather_Gather_Nodes_ok (T_gather_Gather.mk yL0_3.2.2.1 yL0_3.2.2.2.1 yL0_3.2.2.2.2.1 yL0_3.2.2.2.2.2.1 yL0_3.2.2.2.2.2.2) yL0_18 eL0_17 (sel [1]) (sel_inj rfl rfl)) (a_ (LO.Le.refl (.var (c_T_gather_Gather (T_gather_Gather.mk yL0_3.2.2.1 yL0_3.2.2.2.1 yL0_3.2.2.2.2.1 yL0_3.2.2.2.2.2.1 yL0_3.2.2.2.2.2.2)))) tr)) tr) (r1_ (a_ (a_ (a_ (gather_Gather_Nodes_ok (T_gather_Gather.mk yL0_6.2.2.1 yL0_6.2.2.2.1 yL0_6.2.2.2.2.1 yL0_6.2.2.2.2.2.1 yL0_6.2.2.2.2.2.2) yL0_20 eL0_19 (sel [2]) (sel_inj rfl rfl)) (a_ (LO.Le.refl (.var (c_T_gather_Gather (T_gather_Gather.mk yL0_6.2.2.1 yL0_6.2.2.2.1 yL0_6.2.2.2.2.1 yL0_6.2.2.2.2.2.1 yL0_6.2.2.2.2.2.2)))) tr)) tr) (r1_ (r2_ (a_ (a_ tr (a_ (leB cL0_21) tr)) tr)))))))))))))))))))) (a_ (r1_ tr) tr)))) tr) (by kernel_rfl) rfl
                · skip
                  exact run_to mixed hμ (L := [0]) (n := 29) (s := [.go, .reg [(1, { v := some (.bool true) })], .reg [(4, { call := some ((parrellaw19_gathered_vB yL0_3.2.2).ren (sel [0, 1]), preOf (sel [0, 1]) 0 (parrellaw19_gathered_objs mode c a c), upOf (sel [0, 1]) (parrellaw19_gathered_upB mode c a c yL0_3.2.2)) }), (8, { call := some ((parrellaw19_gathered_vB yL0_6.2.2).ren (sel [0, 2]), preOf (sel [0, 2]) 0 (parrellaw19_gathered_objs 2 c b c), upOf (sel [0, 2]) (parrellaw19_gathered_upB 2 c b c yL0_6.2.2)) })], .reg [(8, { call := some ((gather_Gather_Nodes_v yL0_9).ren (sel [1]), preOf (sel [1]) 0 (gather_Gather_Nodes_objs (T_gather_Gather.mk yL0_3.2.2.1 yL0_3.2.2.2.1 yL0_3.2.2.2.2.1 yL0_3.2.2.2.2.2.1 yL0_3.2.2.2.2.2.2)), upOf (sel [1]) (gather_Gather_Nodes_up (T_gather_Gather.mk yL0_3.2.2.1 yL0_3.2.2.2.1 yL0_3.2.2.2.2.1 yL0_3.2.2.2.2.2.1 yL0_3.2.2.2.2.2.2) yL0_9)) }), (13, { v := some (.bool false) }), (15, { call := some ((gather_Gather_Enough_v yL0_12).ren (sel [1]), preOf (sel [1]) 0 (gather_Gather_Enough_objs (T_gather_Gather.mk yL0_3.2.2.1 yL0_3.2.2.2.1 yL0_3.2.2.2.2.1 yL0_3.2.2.2.2.2.1 yL0_3.2.2.2.2.2.2)), upOf (sel [1]) (gather_Gather_Enough_up (T_gather_Gather.mk yL0_3.2.2.1 yL0_3.2.2.2.1 yL0_3.2.2.2.2.1 yL0_3.2.2.2.2.2.1 yL0_3.2.2.2.2.2.2) yL0_12)) }), (16, { v := some (.bool true) }), (18, { call := some ((gather_Gather_Enough_v yL0_15).ren (sel [2]), preOf (sel [2]) 0 (gather_Gather_Enough_objs (T_gather_Gather.mk yL0_6.2.2.1 yL0_6.2.2.2.1 yL0_6.2.2.2.2.1 yL0_6.2.2.2.2.2.1 yL0_6.2.2.2.2.2.2)), upOf (sel [2]) (gather_Gather_Enough_up (T_gather_Gather.mk yL0_6.2.2.1 yL0_6.2.2.2.1 yL0_6.2.2.2.2.1 yL0_6.2.2.2.2.2.1 yL0_6.2.2.2.2.2.2) yL0_15)) }), (20, { v := some (.bool true) }), (22, { call := some ((gather_Gather_Nodes_v yL0_18).ren (sel [1]), preOf (sel [1]) 0 (gather_Gather_Nodes_objs (T_gather_Gather.mk yL0_3.2.2.1 yL0_3.2.2.2.1 yL0_3.2.2.2.2.1 yL0_3.2.2.2.2.2.1 yL0_3.2.2.2.2.2.2)), upOf (sel [1]) (gather_Gather_Nodes_up (T_gather_Gather.mk yL0_3.2.2.1 yL0_3.2.2.2.1 yL0_3.2.2.2.2.1 yL0_3.2.2.2.2.2.1 yL0_3.2.2.2.2.2.2) yL0_18)) }), (24, { call := some ((gather_Gather_Nodes_v yL0_20).ren (sel [2]), preOf (sel [2]) 0 (gather_Gather_Nodes_objs (T_gather_Gather.mk yL0_6.2.2.1 yL0_6.2.2.2.1 yL0_6.2.2.2.2.1 yL0_6.2.2.2.2.2.1 yL0_6.2.2.2.2.2.2)), upOf (sel [2]) (gather_Gather_Nodes_up (T_gather_Gather.mk yL0_6.2.2.1 yL0_6.2.2.2.1 yL0_6.2.2.2.2.1 yL0_6.2.2.2.2.2.1 yL0_6.2.2.2.2.2.2) yL0_20)) }), (28, { v := some (.bool false) })], .reg []])
                    (a_ (r1_ (a_ (a_ tr (a_ (leB cL0_1) tr)) tr)) (a_ (r1_ (a_ (a_ (a_ tr (le_ 11 11 rfl)) tr) (r2_ (a_ (a_ (a_ (parrellaw19_gathered_okB mode c a c yL0_3.2.2 yL0_3.2.1 (altB eL0_2 cL0_4) (sel [0, 1]) (sel_inj rfl rfl)) (a_ (LO.Le.ofVar (c_T_api_Config c)) tr)) tr) (a_ (a_ (a_ tr (le_ 11 11 rfl)) tr) (r2_ (a_ (a_ (a_ (parrellaw19_gathered_okB 2 c b c yL0_6.2.2 yL0_6.2.1 (altB eL0_5 cL0_7) (sel [0, 2]) (sel_inj rfl rfl)) (a_ (LO.Le.ofVar (c_T_api_Config c)) tr)) tr) (r2_ tr)))))))) (a_ (r8_ (a_ (a_ (a_ (gather_Gather_Nodes_ok (T_gather_Gather.mk yL0_3.2.2.1 yL0_3.2.2.2.1 yL0_3.2.2.2.2.1 yL0_3.2.2.2.2.2.1 yL0_3.2.2.2.2.2.2) yL0_9 eL0_8 (sel [1]) (sel_inj rfl rfl)) (a_ (LO.Le.refl (.var (c_T_gather_Gather (T_gather_Gather.mk yL0_3.2.2.1 yL0_3.2.2.2.1 yL0_3.2.2.2.2.1 yL0_3.2.2.2.2.2.1 yL0_3.2.2.2.2.2.2)))) tr)) tr) (r1_ (a_ (a_ (ne0 256 rfl) tr) (r2_ (a_ (a_ tr (a_ (leB cL0_10) tr)) (r1_ (a_ (a_ (a_ (gather_Gather_Enough_ok (T_gather_Gather.mk yL0_3.2.2.1 yL0_3.2.2.2.1 yL0_3.2.2.2.2.1 yL0_3.2.2.2.2.2.1 yL0_3.2.2.2.2.2.2) yL0_12 eL0_11 (sel [1]) (sel_inj rfl rfl)) (a_ (LO.Le.refl (.var (c_T_gather_Gather (T_gather_Gather.mk yL0_3.2.2.1 yL0_3.2.2.2.1 yL0_3.2.2.2.2.1 yL0_3.2.2.2.2.2.1 yL0_3.2.2.2.2.2.2)))) tr)) tr) (a_ (a_ tr (a_ (leB cL0_13) tr)) (r1_ (a_ (a_ (a_ (gather_Gather_Enough_ok (T_gather_Gather.mk yL0_6.2.2.1 yL0_6.2.2.2.1 yL0_6.2.2.2.2.1 yL0_6.2.2.2.2.2.1 yL0_6.2.2.2.2.2.2) yL0_15 eL0_14 (sel [2]) (sel_inj rfl rfl)) (a_ (LO.Le.refl (.var (c_T_gather_Gather (T_gather_Gather.mk yL0_6.2.2.1 yL0_6.2.2.2.1 yL0_6.2.2.2.2.1 yL0_6.2.2.2.2.2.1 yL0_6.2.2.2.2.2.2)))) tr)) tr) (r1_ (a_ (a_ tr (a_ (leB cL0_16) tr)) (r1_ (a_ (a_ (a_ (gather_Gather_Nodes_ok (T_gather_Gather.mk yL0_3.2.2.1 yL0_3.2.2.2.1 yL0_3.2.2.2.2.1 yL0_3.2.2.2.2.2.1 yL0_3.2.2.2.2.2.2) yL0_18 eL0_17 (sel [1]) (sel_inj rfl rfl)) (a_ (LO.Le.refl (.var (c_T_gather_Gather (T_gather_Gather.mk yL0_3.2.2.1 yL0_3.2.2.2.1 yL0_3.2.2.2.2.1 yL0_3.2.2.2.2.2.1 yL0_3.2.2.2.2.2.2)))) tr)) tr) (r1_ (a_ (a_ (a_ (gather_Gather_Nodes_ok (T_gather_Gather.mk yL0_6.2.2.1 yL0_6.2.2.2.1 yL0_6.2.2.2.2.1 yL0_6.2.2.2.2.2.1 yL0_6.2.2.2.2.2.2) yL0_20 eL0_19 (sel [2]) (sel_inj rfl rfl)) (a_ (LO.Le.refl (.var (c_T_gather_Gather (T_gather_Gather.mk yL0_6.2.2.1 yL0_6.2.2.2.1 yL0_6.2.2.2.2.1 yL0_6.2.2.2.2.2.1 yL0_6.2.2.2.2.2.2)))) tr)) tr) (r1_ (r2_ (a_ (a_ tr (a_ (leB cL0_21) tr)) tr)))))))))))))))))))) (a_ (r1_ (r2_ tr)) tr)))) (ih _ r h) (by kernel_rfl) ⟨rfl, trivial⟩
              · skip
                exact run_to mixed hμ (L := [0]) (n := 29) (s := [.go, .reg [(1, { v := some (.bool true) })], .reg [(4, { call := some ((parrellaw19_gathered_vB yL0_3.2.2).ren (sel [0, 1]), preOf (sel [0, 1]) 0 (parrellaw19_gathered_objs mode c a c), upOf (sel [0, 1]) (parrellaw19_gathered_upB mode c a c yL0_3.2.2)) }), (8, { call := some ((parrellaw19_gathered_vB yL0_6.2.2).ren (sel [0, 2]), preOf (sel [0, 2]) 0 (parrellaw19_gathered_objs 2 c b c), upOf (sel [0, 2]) (parrellaw19_gathered_upB 2 c b c yL0_6.2.2)) })], .reg [(8, { call := some ((gather_Gather_Nodes_v yL0_9).ren (sel [1]), preOf (sel [1]) 0 (gather_Gather_Nodes_objs (T_gather_Gather.mk yL0_3.2.2.1 yL0_3.2.2.2.1 yL0_3.2.2.2.2.1 yL0_3.2.2.2.2.2.1 yL0_3.2.2.2.2.2.2)), upOf (sel [1]) (gather_Gather_Nodes_up (T_gather_Gather.mk yL0_3.2.2.1 yL0_3.2.2.2.1 yL0_3.2.2.2.2.1 yL0_3.2.2.2.2.2.1 yL0_3.2.2.2.2.2.2) yL0_9)) }), (13, { v := some (.bool false) }), (15, { call := some ((gather_Gather_Enough_v yL0_12).ren (sel [1]), preOf (sel [1]) 0 (gather_Gather_Enough_objs (T_gather_Gather.mk yL0_3.2.2.1 yL0_3.2.2.2.1 yL0_3.2.2.2.2.1 yL0_3.2.2.2.2.2.1 yL0_3.2.2.2.2.2.2)), upOf (sel [1]) (gather_Gather_Enough_up (T_gather_Gather.mk yL0_3.2.2.1 yL0_3.2.2.2.1 yL0_3.2.2.2.2.1 yL0_3.2.2.2.2.2.1 yL0_3.2.2.2.2.2.2) yL0_12)) }), (16, { v := some (.bool true) }), (18, { call := some ((gather_Gather_Enough_v yL0_15).ren (sel [2]), preOf (sel [2]) 0 (gather_Gather_Enough_objs (T_gather_Gather.mk yL0_6.2.2.1 yL0_6.2.2.2.1 yL0_6.2.2.2.2.1 yL0_6.2.2.2.2.2.1 yL0_6.2.2.2.2.2.2)), upOf (sel [2]) (gather_Gather_Enough_up (T_gather_Gather.mk yL0_6.2.2.1 yL0_6.2.2.2.1 yL0_6.2.2.2.2.1 yL0_6.2.2.2.2.2.1 yL0_6.2.2.2.2.2.2) yL0_15)) }), (20, { v := some (.bool false) })], .reg []])
                  (a_ (r1_ (a_ (a_ tr (a_ (leB cL0_1) tr)) tr)) (a_ (r1_ (a_ (a_ (a_ tr (le_ 11 11 rfl)) tr) (r2_ (a_ (a_ (a_ (parrellaw19_gathered_okB mode c a c yL0_3.2.2 yL0_3.2.1 (altB eL0_2 cL0_4) (sel [0, 1]) (sel_inj rfl rfl)) (a_ (LO.Le.ofVar (c_T_api_Config c)) tr)) tr) (a_ (a_ (a_ tr (le_ 11 11 rfl)) tr) (r2_ (a_ (a_ (a_ (parrellaw19_gathered_okB 2 c b c yL0_6.2.2 yL0_6.2.1 (altB eL0_5 cL0_7) (sel [0, 2]) (sel_inj rfl rfl)) (a_ (LO.Le.ofVar (c_T_api_Config c)) tr)) tr) (r2_ tr)))))))) (a_ (r8_ (a_ (a_ (a_ (gather_Gather_Nodes_ok (T_gather_Gather.mk yL0_3.2.2.1 yL0_3.2.2.2.1 yL0_3.2.2.2.2.1 yL0_3.2.2.2.2.2.1 yL0_3.2.2.2.2.2.2) yL0_9 eL0_8 (sel [1]) (sel_inj rfl rfl)) (a_ (LO.Le.refl (.var (c_T_gather_Gather (T_gather_Gather.mk yL0_3.2.2.1 yL0_3.2.2.2.1 yL0_3.2.2.2.2.1 yL0_3.2.2.2.2.2.1 yL0_3.2.2.2.2.2.2)))) tr)) tr) (r1_ (a_ (a_ (ne0 256 rfl) tr) (r2_ (a_ (a_ tr (a_ (leB cL0_10) tr)) (r1_ (a_ (a_ (a_ (gather_Gather_Enough_ok (T_gather_Gather.mk yL0_3.2.2.1 yL0_3.2.2.2.1 yL0_3.2.2.2.2.1 yL0_3.2.2.2.2.2.1 yL0_3.2.2.2.2.2.2) yL0_12 eL0_11 (sel [1]) (sel_inj rfl rfl)) (a_ (LO.Le.refl (.var (c_T_gather_Gather (T_gather_Gather.mk yL0_3.2.2.1 yL0_3.2.2.2.1 yL0_3.2.2.2.2.1 yL0_3.2.2.2.2.2.1 yL0_3.2.2.2.2.2.2)))) tr)) tr) (a_ (a_ tr (a_ (leB cL0_13) tr)) (r1_ (a_ (a_ (a_ (gather_Gather_Enough_ok (T_gather_Gather.mk yL0_6.2.2.1 yL0_6.2.2.2.1 yL0_6.2.2.2.2.1 yL0_6.2.2.2.2.2.1 yL0_6.2.2.2.2.2.2) yL0_15 eL0_14 (sel [2]) (sel_inj rfl rfl)) (a_ (LO.Le.refl (.var (c_T_gather_Gather (T_gather_Gather.mk yL0_6.2.2.1 yL0_6.2.2.2.1 yL0_6.2.2.2.2.1 yL0_6.2.2.2.2.2.1 yL0_6.2.2.2.2.2.2)))) tr)) tr) (r1_ (a_ (a_ tr (a_ (leB cL0_16) tr)) (t2_ (t4_ (r2_ tr)))))))))))))))) (a_ (r1_ (r2_ tr)) tr)))) (ih _ r h) (by kernel_rfl) ⟨rfl, trivial⟩
            · skip
              exact run_to mixed hμ (L := [0]) (n := 29) (s := [.go, .reg [(1, { v := some (.bool true) })], .reg [(4, { call := some ((parrellaw19_gathered_vB yL0_3.2.2).ren (sel [0, 1]), preOf (sel [0, 1]) 0 (parrellaw19_gathered_objs mode c a c), upOf (sel [0, 1]) (parrellaw19_gathered_upB mode c a c yL0_3.2.2)) }), (8, { call := some ((parrellaw19_gathered_vB yL0_6.2.2).ren (sel [0, 2]), preOf (sel [0, 2]) 0 (parrellaw19_gathered_objs 2 c b c), upOf (sel [0, 2]) (parrellaw19_gathered_upB 2 c b c yL0_6.2.2)) })], .reg [(8, { call := some ((gather_Gather_Nodes_v yL0_9).ren (sel [1]), preOf (sel [1]) 0 (gather_Gather_Nodes_objs (T_gather_Gather.mk yL0_3.2.2.1 yL0_3.2.2.2.1 yL0_3.2.2.2.2.1 yL0_3.2.2.2.2.2.1 yL0_3.2.2.2.2.2.2)), upOf (sel [1]) (gather_Gather_Nodes_up (T_gather_Gather.mk yL0_3.2.2.1 yL0_3.2.2.2.1 yL0_3.2.2.2.2.1 yL0_3.2.2.2.2.2.1 yL0_3.2.2.2.2.2.2) yL0_9)) }), (13, { v := some (.bool false) }), (15, { call := some ((gather_Gather_Enough_v yL0_12).ren (sel [1]), preOf (sel [1]) 0 (gather_Gather_Enough_objs (T_gather_Gather.mk yL0_3.2.2.1 yL0_3.2.2.2.1 yL0_3.2.2.2.2.1 yL0_3.2.2.2.2.2.1 yL0_3.2.2.2.2.2.2)), upOf (sel [1]) (gather_Gather_Enough_up (T_gather_Gather.mk yL0_3.2.2.1 yL0_3.2.2.2.1 yL0_3.2.2.2.2.1 yL0_3.2.2.2.2.2.1 yL0_3.2.2.2.2.2.2) yL0_12)) }), (16, { v := some (.bool false) })], .reg []])
                (a_ (r1_ (a_ (a_ tr (a_ (leB cL0_1) tr)) tr)) (a_ (r1_ (a_ (a_ (a_ tr (le_ 11 11 rfl)) tr) (r2_ (a_ (a_ (a_ (parrellaw19_gathered_okB mode c a c yL0_3.2.2 yL0_3.2.1 (altB eL0_2 cL0_4) (sel [0, 1]) (sel_inj rfl rfl)) (a_ (LO.Le.ofVar (c_T_api_Config c)) tr)) tr) (a_ (a_ (a_ tr (le_ 11 11 rfl)) tr) (r2_ (a_ (a_ (a_ (parrellaw19_gathered_okB 2 c b c yL0_6.2.2 yL0_6.2.1 (altB eL0_5 cL0_7) (sel [0, 2]) (sel_inj rfl rfl)) (a_ (LO.Le.ofVar (c_T_api_Config c)) tr)) tr) (r2_ tr)))))))) (a_ (r8_ (a_ (a_ (a_ (gather_Gather_Nodes_ok (T_gather_Gather.mk yL0_3.2.2.1 yL0_3.2.2.2.1 yL0_3.2.2.2.2.1 yL0_3.2.2.2.2.2.1 yL0_3.2.2.2.2.2.2) yL0_9 eL0_8 (sel [1]) (sel_inj rfl rfl)) (a_ (LO.Le.refl (.var (c_T_gather_Gather (T_gather_Gather.mk yL0_3.2.2.1 yL0_3.2.2.2.1 yL0_3.2.2.2.2.1 yL0_3.2.2.2.2.2.1 yL0_3.2.2.2.2.2.2)))) tr)) tr) (r1_ (a_ (a_ (ne0 256 rfl) tr) (r2_ (a_ (a_ tr (a_ (leB cL0_10) tr)) (r1_ (a_ (a_ (a_ (gather_Gather_Enough_ok (T_gather_Gather.mk yL0_3.2.2.1 yL0_3.2.2.2.1 yL0_3.2.2.2.2.1 yL0_3.2.2.2.2.2.1 yL0_3.2.2.2.2.2.2) yL0_12 eL0_11 (sel [1]) (sel_inj rfl rfl)) (a_ (LO.Le.refl (.var (c_T_gather_Gather (T_gather_Gather.mk yL0_3.2.2.1 yL0_3.2.2.2.1 yL0_3.2.2.2.2.1 yL0_3.2.2.2.2.2.1 yL0_3.2.2.2.2.2.2)))) tr)) tr) (a_ (a_ tr (a_ (leB cL0_13) tr)) (t2_ (r2_ (t2_ (t4_ (r2_ tr)))))))))))))) (a_ (r1_ (r2_ tr)) tr)))) (ih _ r h) (by kernel_rfl) ⟨rfl, trivial⟩
    · skip
      obtain ⟨yL0_4, eL0_2, h⟩ := bind_some h
      obtain rfl := Option.some.inj h
      exact run_ret mixed (L := []) (n := 19) (s := [.go, .reg [(1, { v := some (.bool false) })], .reg [(0, { call := some (parrellaw19_alive_v yL0_4, [], []) })]])
        (a_ (a_ (r1_ (a_ (a_ tr (a_ (leB cL0_1) tr)) tr)) (a_ (a_ (a_ (a_ (parrellaw19_alive_tri  yL0_4 eL0_2) tr) tr) (r1_ tr)) tr)) tr) (by kernel_rfl) rfl

theorem parrellaw19_GatherMeets_ok (c : T_api_Config) (a : Int) (b : Int) (r : (Bool)) (h : parrellaw19_GatherMeets c a b = some r) : ∀ σ, Inj 0 σ → FnTri Tryd.prog 3 (renL σ [v_T_api_Config c, .int .u64 a, .int .u64 b]) (preOf σ 0 []) ((parrellaw19_GatherMeets_v r).ren σ) (upOf σ []) := by
  refine fn_of Tryd.func3 (by kernel_rfl) (by kernel_rfl) (by kernel_rfl) trivial (by kernel_rfl) trivial (by kernel_rfl) ?_
  intro w0 W μ0 hμ
  unfold parrellaw19_GatherMeets at h
  obtain ⟨y2, e1, h⟩ := bind_some h
  rcases itb_some h with ⟨c3, h⟩ | ⟨c3, h⟩
  · skip
    obtain ⟨y5, e4, h⟩ := bind_some h
    obtain rfl := Option.some.inj h
    exact run_ret mixed (L := []) (n := 20) (s := [.reg [], .reg [(1, { call := some (parrelref06_May_v y2, [], []) }), (2, { v := some (.bool true) })], .reg [(0, { call := some (parrellaw19_alive_v y5, [], []) })]])
      (a_ (a_ (r2_ tr) (a_ (a_ (a_ (a_ tr (le_ 11 11 rfl)) tr) (a_ (a_ (a_ (parrelref06_May_tri c y2 e1) tr) tr) (a_ (a_ tr (a_ (leB c3) tr)) tr))) (a_ (a_ (a_ (a_ (parrellaw19_alive_tri  y5 e4) tr) tr) (r1_ tr)) tr))) tr) (by kernel_rfl) rfl
  · skip
    exact run_to mixed hμ (L := [0]) (n := 27) (s := [.reg [], .reg [(1, { call := some (parrelref06_May_v y2, [], []) }), (2, { v := some (.bool false) })], .reg [], .reg []])
      (a_ (r2_ tr) (a_ (a_ (a_ (a_ tr (le_ 11 11 rfl)) tr) (a_ (a_ (a_ (parrelref06_May_tri c y2 e1) tr) tr) (a_ (a_ tr (a_ (leB c3) tr)) tr))) (a_ (r2_ tr) (a_ (r1_ tr) tr)))) (parrellaw19_GatherMeets_l0_ok hμ c a b  big _ r h) (by kernel_rfl) ⟨rfl, trivial⟩

theorem parrellaw19_GatherMeets_tri (c : T_api_Config) (a : Int) (b : Int) (r : (Bool)) (h : parrellaw19_GatherMeets c a b = some r) : FnTri Tryd.prog 3 [v_T_api_Config c, .int .u64 a, .int .u64 b] [] (parrellaw19_GatherMeets_v r) [] := FnTri.none (parrellaw19_GatherMeets_ok c a b r h) rfl rfl

/-- parrel/parrelref01.power -/

def parrelref01_power_v (r : (Int)) : LV := .int .u64 r

def parrelref01_power_T0 (x_n : Int) (p : Int) (i : Int) : List LV := [.int .i64 x_n, .any, .any, .int .u64 p, .int .i64 i, .any, .any, .any, .any, .any, .any, .any, .any]

def parrelref01_power_H0 (x_n : Int) (p : Int) (i : Int) : Heap := []

def parrelref01_power_l0 (x_n : Int)  : Nat → (Int) → (Int) → Option ((Int))
  | 0, _, _ => none
  | fuel + 1, p, i =>
    if ((decide (i < x_n)) : Bool) then
      parrelref01_power_l0 x_n  fuel (IntKind.wrap .u64 (p * 2)) (IntKind.wrap .i64 (i + 1))
    else
      some p

def parrelref01_power (x_n : Int) : Option ((Int)) :=
  parrelref01_power_l0 x_n  big 1 0

theorem parrelref01_power_l0_ok {w0 : World} {W : Nat → Prop} {μ0 : Emb} (hμ : ∀ c p, μ0 c = some p → c < 0) (x_n : Int)  : ∀ (fuel : Nat) (p : Int) (i : Int) (r : (Int)), parrelref01_power_l0 x_n  fuel p i = some r → kont Tryd.prog w0 W μ0 (FnPost Tryd.prog Tryd.f61 0 0 (parrelref01_power_v r) []) (kAt (bodyOf Tryd.f61) 0) none (parrelref01_power_T0 x_n p i) (parrelref01_power_H0 x_n p i) := by
  intro fuel
  induction fuel with
  | zero => intro p i r h; rw [parrelref01_power_l0] at h; cases h
  | succ fuel ih =>
    intro p i r h
    rw [parrelref01_power_l0] at h
    rcases itb_some h with ⟨cL0_1, h⟩ | ⟨cL0_1, h⟩
    · skip
      exact run_to mixed hμ (L := []) (n := 23) (s := [.go, .reg [(2, { v := some (.bool true) })], .reg [], .reg []])
        (a_ (r2_ (a_ (a_ tr (a_ (leB cL0_1) tr)) tr)) (a_ (r1_ (r2_ tr)) (a_ (r1_ (r2_ tr)) tr))) (ih _ _ r h) (by kernel_rfl) trivial
    · skip
      obtain rfl := Option.some.inj h
      exact run_ret mixed (L := []) (n := 19) (s := [.go, .reg [(2, { v := some (.bool false) })], .reg []])
        (a_ (a_ (r2_ (a_ (a_ tr (a_ (leB cL0_1) tr)) tr)) (a_ (r2_ tr) tr)) tr) (by kernel_rfl) rfl

theorem parrelref01_power_ok (x_n : Int) (r : (Int)) (h : parrelref01_power x_n = some r) : ∀ σ, Inj 0 σ → FnTri Tryd.prog 61 (renL σ [.int .i64 x_n]) (preOf σ 0 []) ((parrelref01_power_v r).ren σ) (upOf σ []) := by
  refine fn_of Tryd.func61 (by kernel_rfl) (by kernel_rfl) (by kernel_rfl) trivial (by kernel_rfl) trivial (by kernel_rfl) ?_
  intro w0 W μ0 hμ
  unfold parrelref01_power at h
  exact run_to mixed hμ (L := []) (n := 21) (s := [.reg [], .reg [], .reg []])
    (a_ (r1_ tr) (a_ (r1_ tr) (a_ (r1_ tr) tr))) (parrelref01_power_l0_ok hμ x_n  big _ _ r h) (by kernel_rfl) trivial

theorem parrelref01_power_tri (x_n : Int) (r : (Int)) (h : parrelref01_power x_n = some r) : FnTri Tryd.prog 61 [.int .i64 x_n] [] (parrelref01_power_v r) [] := FnTri.none (parrelref01_power_ok x_n r h) rfl rfl

/-- parrel/parrelref01.Has -/

def parrelref01_Has_v (r : (Bool)) : LV := .bool r

def parrelref01_Has (set : Int) (x_n : Int) : Option ((Bool)) :=
  if ((decide (0 ≤ x_n)) : Bool) then
    if ((decide (x_n < 64)) : Bool) then
      (parrelref01_power x_n).bind fun y4 =>
      if y4 ≠ 0 then
      some ((Int.tmod (IntKind.wrap .u64 (Int.tdiv set y4)) 2) == 1)
      else none
    else
      some false
  else
    some false

theorem parrelref01_Has_ok (set : Int) (x_n : Int) (r : (Bool)) (h : parrelref01_Has set x_n = some r) : ∀ σ, Inj 0 σ → FnTri Tryd.prog 44 (renL σ [.int .u64 set, .int .i64 x_n]) (preOf σ 0 []) ((parrelref01_Has_v r).ren σ) (upOf σ []) := by
  refine fn_of Tryd.func44 (by kernel_rfl) (by kernel_rfl) (by kernel_rfl) trivial (by kernel_rfl) trivial (by kernel_rfl) ?_
  intro w0 W μ0 hμ
  unfold parrelref01_Has at h
  rcases itb_some h with ⟨c1, h⟩ | ⟨c1, h⟩
  · skip
    rcases itb_some h with ⟨c2, h⟩ | ⟨c2, h⟩
    · skip
      obtain ⟨y4, e3, h⟩ := bind_some h
      obtain ⟨g5, h⟩ := guard_some h
      obtain rfl := Option.some.inj h
      exact run_ret mixed (L := []) (n := 15) (s := [.reg [], .reg [(2, { v := some (.bool true) }), (6, { v := some (.bool true) }), (9, { call := some (parrelref01_power_v y4, [], []) })]])
        (a_ (a_ (r1_ tr) (a_ (r2_ (a_ (a_ tr (a_ (leB c1) tr)) (r1_ (r2_ (a_ (a_ tr (a_ (leB c2) tr)) (r2_ (a_ (a_ (a_ (parrelref01_power_tri x_n y4 e3) tr) tr) (a_ (a_ g5 tr) (a_ (a_ (ne0 2 rfl) tr) (r1_ (r2_ tr))))))))))) tr)) tr) (by kernel_rfl) rfl
    · skip
      obtain rfl := Option.some.inj h
      exact run_ret mixed (L := []) (n := 15) (s := [.reg [], .reg [(2, { v := some (.bool true) }), (6, { v := some (.bool false) })]])
        (a_ (a_ (r1_ tr) (a_ (r2_ (a_ (a_ tr (a_ (leB c1) tr)) (r1_ (r2_ (a_ (a_ tr (a_ (leB c2) tr)) (t2_ (t4_ (r2_ tr)))))))) tr)) tr) (by kernel_rfl) rfl
  · skip
    obtain rfl := Option.some.inj h
    exact run_ret mixed (L := []) (n := 15) (s := [.reg [], .reg [(2, { v := some (.bool false) })]])
      (a_ (a_ (r1_ tr) (a_ (r2_ (a_ (a_ tr (a_ (leB c1) tr)) (t2_ (r2_ (t2_ (t4_ (r2_ tr))))))) tr)) tr) (by kernel_rfl) rfl

theorem parrelref01_Has_tri (set : Int) (x_n : Int) (r : (Bool)) (h : parrelref01_Has set x_n = some r) : FnTri Tryd.prog 44 [.int .u64 set, .int .i64 x_n] [] (parrelref01_Has_v r) [] := FnTri.none (parrelref01_Has_ok set x_n r h) rfl rfl

/-- parrel/parrelref06.Of -/

def parrelref06_Of_v (r : (Int)) : LV := .int .i64 r

def parrelref06_Of_T0 (c : T_api_Config) (set : Int) (x_n : Int) (i : Int) : List LV := [.any, .int .u64 set, .ptr 0 0 0, .any, .any, .int .i64 x_n, .int .i64 i, .any, .any, .any, .any, .any, .any, .any, .any, .any, .any, .any, .any, .any, .any, .any]

def parrelref06_Of_H0 (c : T_api_Config) (set : Int) (x_n : Int) (i : Int) : Heap := [some (.var (c_T_api_Config c))]

def parrelref06_Of_l0 (c : T_api_Config) (set : Int)  : Nat → (Int) → (Int) → Option ((Int))
  | 0, _, _ => none
  | fuel + 1, x_n, i =>
    if ((decide (i < 8)) : Bool) then
      (parrelref01_Has set i).bind fun yL0_3 =>
      if (yL0_3 : Bool) then
        if 0 ≤ i ∧ i < 8 then
        parrelref06_Of_l0 c set  fuel (IntKind.wrap .i64 (x_n + (IntKind.wrap .i64 (A8.get c.f_Votes i.toNat)))) (IntKind.wrap .i64 (i + 1))
        else none
      else
        parrelref06_Of_l0 c set  fuel x_n (IntKind.wrap .i64 (i + 1))
    else
      some x_n

def parrelref06_Of (c : T_api_Config) (set : Int) : Option ((Int)) :=
  parrelref06_Of_l0 c set  big 0 0

theorem parrelref06_Of_l0_ok {w0 : World} {W : Nat → Prop} {μ0 : Emb} (hμ : ∀ c p, μ0 c = some p → c < 0) (c : T_api_Config) (set : Int)  : ∀ (fuel : Nat) (x_n : Int) (i : Int) (r : (Int)), parrelref06_Of_l0 c set  fuel x_n i = some r → kont Tryd.prog w0 W μ0 (FnPost Tryd.prog Tryd.f17 0 0 (parrelref06_Of_v r) []) (kAt (bodyOf Tryd.f17) 0) none (parrelref06_Of_T0 c set x_n i) (parrelref06_Of_H0 c set x_n i) := by
  intro fuel
  induction fuel with
  | zero => intro x_n i r h; rw [parrelref06_Of_l0] at h; cases h
  | succ fuel ih =>
    intro x_n i r h
    rw [parrelref06_Of_l0] at h
    rcases itb_some h with ⟨cL0_1, h⟩ | ⟨cL0_1, h⟩
    · skip
      obtain ⟨yL0_3, eL0_2, h⟩ := bind_some h
      rcases itb_some h with ⟨cL0_4, h⟩ | ⟨cL0_4, h⟩
      · skip
        obtain ⟨gL0_5, h⟩ := guard_some h
        exact run_to mixed hμ (L := [0]) (n := 27) (s := [.go, .reg [(1, { v := some (.bool true) })], .reg [(2, { call := some (parrelref01_Has_v yL0_3, [], []), v := some (.bool true) })], .reg [(4, { v := some (.int .u8 (A8.get c.f_Votes i.toNat)) })], .reg []])
          (a_ (r1_ (a_ (a_ tr (a_ (leB cL0_1) tr)) tr)) (a_ (r2_ (a_ (a_ (a_ (parrelref01_Has_tri set i yL0_3 eL0_2) tr) (a_ (leB cL0_4) tr)) tr)) (a_ (r1_ (r2_ (a_ (a_ gL0_5 tr) (a_ (a_ (a_ tr (arrLt (len := 8) gL0_5 3 1 11 rfl rfl)) (a_ (ld8s (cInt .u8) 1 (fun _ => rfl) c.f_Votes [.int .u32 c.f_Epoch, .int .u8 c.f_R, .int .u8 c.f_W] [] 3 rfl i.toNat (lt8N gL0_5) (le_ (0 + 1) 1 rfl)) tr)) (r1_ (r2_ tr)))))) (a_ (r1_ (r2_ tr)) tr)))) (ih _ _ r h) (by kernel_rfl) ⟨rfl, trivial⟩
      · skip
        exact run_to mixed hμ (L := [0]) (n := 26) (s := [.go, .reg [(1, { v := some (.bool true) })], .reg [(2, { call := some (parrelref01_Has_v yL0_3, [], []), v := some (.bool false) })], .reg []])
          (a_ (r1_ (a_ (a_ tr (a_ (leB cL0_1) tr)) tr)) (a_ (r2_ (a_ (a_ (a_ (parrelref01_Has_tri set i yL0_3 eL0_2) tr) (a_ (leB cL0_4) tr)) tr)) (a_ (r1_ (r2_ tr)) tr))) (ih _ _ r h) (by kernel_rfl) ⟨rfl, trivial⟩
    · skip
      obtain rfl := Option.some.inj h
      exact run_ret mixed (L := []) (n := 19) (s := [.go, .reg [(1, { v := some (.bool false) })], .reg []])
        (a_ (a_ (r1_ (a_ (a_ tr (a_ (leB cL0_1) tr)) tr)) (a_ (r2_ tr) tr)) tr) (by kernel_rfl) rfl

theorem parrelref06_Of_ok (c : T_api_Config) (set : Int) (r : (Int)) (h : parrelref06_Of c set = some r) : ∀ σ, Inj 0 σ → FnTri Tryd.prog 17 (renL σ [v_T_api_Config c, .int .u64 set]) (preOf σ 0 []) ((parrelref06_Of_v r).ren σ) (upOf σ []) := by
  refine fn_of Tryd.func17 (by kernel_rfl) (by kernel_rfl) (by kernel_rfl) trivial (by kernel_rfl) trivial (by kernel_rfl) ?_
  intro w0 W μ0 hμ
  unfold parrelref06_Of at h
  exact run_to mixed hμ (L := [0]) (n := 21) (s := [.reg [], .reg [], .reg []])
    (a_ (r2_ tr) (a_ (r1_ tr) (a_ (r1_ tr) tr))) (parrelref06_Of_l0_ok hμ c set  big _ _ r h) (by kernel_rfl) ⟨rfl, trivial⟩

theorem parrelref06_Of_tri (c : T_api_Config) (set : Int) (r : (Int)) (h : parrelref06_Of c set = some r) : FnTri Tryd.prog 17 [v_T_api_Config c, .int .u64 set] [] (parrelref06_Of_v r) [] := FnTri.none (parrelref06_Of_ok c set r h) rfl rfl

/-- parrel/parrellaw19.GatherChains$1 -/

def parrellaw19_GatherChains_L1_v (r : (T_api_Item)) : LV := v_T_api_Item r

def parrellaw19_GatherChains_L1_up (x_n : Int) (x1 : Int) (x2 : T_api_Config) (x3 : T_api_Config) (r : (T_api_Item)) : Upd := []

def parrellaw19_GatherChains_L1_objs (x_n : Int) (x1 : Int) (x2 : T_api_Config) (x3 : T_api_Config) : List LO := [.row 1 1 (fun _ => [.int .u64 x1]) false, .row 11 1 (fun _ => c_T_api_Config x2) false, .row 11 1 (fun _ => c_T_api_Config x3) false]

def parrellaw19_GatherChains_L1 (x_n : Int) (x1 : Int) (x2 : T_api_Config) (x3 : T_api_Config) : Option ((T_api_Item)) :=
  if 0 ≤ x_n then
  if (((IntKind.wrap .u64 ((BitVec.ofInt (IntKind.bits .u64) (Int.fdiv x1 (2 ^ (min (Int.toNat x_n) (IntKind.bits .u64)))) &&& BitVec.ofInt (IntKind.bits .u64) 1).toNat : Int)) == 1) : Bool) then
    some (T_api_Item.mk 2 [] x2)
  else
    some (T_api_Item.mk 1 [] x3)
  else none

theorem parrellaw19_GatherChains_L1_ok (x_n : Int) (x1 : Int) (x2 : T_api_Config) (x3 : T_api_Config) (r : (T_api_Item)) (h : parrellaw19_GatherChains_L1 x_n x1 x2 x3 = some r) : ∀ σ, Inj 3 σ → FnTri Tryd.prog 34 (renL σ [.int .u8 x_n, .ptr 0 0 0, .ptr 1 0 0, .ptr 2 0 0]) (preOf σ 0 (parrellaw19_GatherChains_L1_objs x_n x1 x2 x3)) ((parrellaw19_GatherChains_L1_v r).ren σ) (upOf σ (parrellaw19_GatherChains_L1_up x_n x1 x2 x3 r)) := by
  refine fn_of Tryd.func34 (by kernel_rfl) (by kernel_rfl) (by kernel_rfl) ⟨fun _ _ => rfl, fun _ _ => rfl, fun _ _ => rfl, trivial⟩ (by kernel_rfl) trivial (by kernel_rfl) ?_
  intro w0 W μ0 hμ
  unfold parrellaw19_GatherChains_L1 at h
  obtain ⟨g1, h⟩ := guard_some h
  rcases itb_some h with ⟨c2, h⟩ | ⟨c2, h⟩
  · skip
    obtain rfl := Option.some.inj h
    exact run_ret mixed (L := []) (n := 20) (s := [.reg [], .reg [(4, { v := some (.bool true) })], .reg []])
      (a_ (a_ (r1_ tr) (a_ (a_ (a_ (a_ (lt_ 0 1 rfl) (lt_ 0 1 rfl)) tr) (r1_ (a_ (a_ g1 tr) (r1_ (a_ (a_ tr (a_ (leB c2) tr)) tr))))) (a_ (a_ (a_ (a_ (lt_ 0 1 rfl) (le_ 11 11 rfl)) tr) (a_ (a_ (Eq.refl true) tr) (a_ (a_ (a_ (Eq.refl 13) (a_ (le_ 13 13 rfl) (Eq.refl 0))) tr) tr))) tr))) (a_ (a_ tr (le_ 13 13 rfl)) tr)) (by kernel_rfl) rfl
  · skip
    obtain rfl := Option.some.inj h
    exact run_ret mixed (L := []) (n := 21) (s := [.reg [], .reg [(4, { v := some (.bool false) })], .reg []])
      (a_ (a_ (r1_ tr) (a_ (a_ (a_ (a_ (lt_ 0 1 rfl) (lt_ 0 1 rfl)) tr) (r1_ (a_ (a_ g1 tr) (r1_ (a_ (a_ tr (a_ (leB c2) tr)) tr))))) (a_ (a_ (a_ (a_ (lt_ 0 1 rfl) (le_ 11 11 rfl)) tr) (a_ (a_ (Eq.refl true) tr) (a_ (a_ (a_ (Eq.refl 13) (a_ (le_ 13 13 rfl) (Eq.refl 0))) tr) tr))) tr))) (a_ (a_ tr (le_ 13 13 rfl)) tr)) (by kernel_rfl) rfl

/-- parrel/parrellaw19.gathered -/

def parrellaw19_gathered_2_vA (r : Unit) : LV := .nilptr

def parrellaw19_gathered_2_upA (mode : Int) (c : T_api_Config) (set : Int) (c2 : Int) (c3 : T_api_Config) (c4 : T_api_Config) (r : Unit) : Upd := []

def parrellaw19_gathered_2_vB (r : (Int) × (T_api_Config) × (List (T_api_Config)) × (A8 (T_gather_Got)) × (Int)) : LV := .ptr 3 0 0

def parrellaw19_gathered_2_upB (mode : Int) (c : T_api_Config) (set : Int) (c2 : Int) (c3 : T_api_Config) (c4 : T_api_Config) (r : (Int) × (T_api_Config) × (List (T_api_Config)) × (A8 (T_gather_Got)) × (Int)) : Upd := [(3, some (.var (c_T_gather_Gather (T_gather_Gather.mk r.1 r.2.1 r.2.2.1 r.2.2.2.1 r.2.2.2.2))))]

def parrellaw19_gathered_2_objs (mode : Int) (c : T_api_Config) (set : Int) (c2 : Int) (c3 : T_api_Config) (c4 : T_api_Config) : List LO := [.row 1 1 (fun _ => [.int .u64 c2]) false, .row 11 1 (fun _ => c_T_api_Config c3) false, .row 11 1 (fun _ => c_T_api_Config c4) false]

def parrellaw19_gathered_2_T0 (set : Int) (c2 : Int) (c3 : T_api_Config) (c4 : T_api_Config) (t21 : Int) (mode2 : Int) (Epoch : T_api_Config) (more : List (T_api_Config)) (Node : A8 (T_gather_Got)) (nodes : Int) : List LV := [.any, .any, .int .u64 set, .fn 34 [] [.ptr 0 0 0, .ptr 1 0 0, .ptr 2 0 0], .any, .any, .any, .any, .any, .ptr 3 0 0, .any, .any, .any, .any, .any, .any, .any, .any, .any, .any, .any, .int .u8 t21, .any, .any, .any, .any, .any, .any, .any, .any, .any, .any, .any, .any, .any, .any, .any, .any, .any]

def parrellaw19_gathered_2_H0 (set : Int) (c2 : Int) (c3 : T_api_Config) (c4 : T_api_Config) (t21 : Int) (mode2 : Int) (Epoch : T_api_Config) (more : List (T_api_Config)) (Node : A8 (T_gather_Got)) (nodes : Int) : Heap := [some (.row 1 1 (fun _ => [.int .u64 c2]) false), some (.row 11 1 (fun _ => c_T_api_Config c3) false), some (.row 11 1 (fun _ => c_T_api_Config c4) false), some (.var (c_T_gather_Gather (T_gather_Gather.mk mode2 Epoch more Node nodes)))]

def parrellaw19_gathered_2_l0 (mode : Int) (c : T_api_Config) (set : Int) (c2 : Int) (c3 : T_api_Config) (c4 : T_api_Config)  : Nat → (Int) → (Int) → (T_api_Config) → (List (T_api_Config)) → (A8 (T_gather_Got)) → (Int) → Option (Bool × (Unit) × ((Int) × (T_api_Config) × (List (T_api_Config)) × (A8 (T_gather_Got)) × (Int)))
  | 0, _, _, _, _, _, _ => none
  | fuel + 1, t21, mode2, Epoch, more, Node, nodes =>
    if ((decide (t21 < 8)) : Bool) then
      if 0 ≤ t21 then
      if (((IntKind.wrap .u64 ((BitVec.ofInt (IntKind.bits .u64) (Int.fdiv set (2 ^ (min (Int.toNat t21) (IntKind.bits .u64)))) &&& BitVec.ofInt (IntKind.bits .u64) 1).toNat : Int)) == 1) : Bool) then
        (parrellaw19_GatherChains_L1 t21 c2 c3 c4).bind fun yL0_5 =>
        (gather_Gather_Grant (T_gather_Gather.mk mode2 Epoch more Node nodes) (T_gather_Got.mk t21 (T_api_Reg.mk 1 1) yL0_5)).bind fun yL0_7 =>
        parrellaw19_gathered_2_l0 mode c set c2 c3 c4  fuel (IntKind.wrap .u8 (t21 + 1)) yL0_7.2.1 yL0_7.2.2.1 yL0_7.2.2.2.1 yL0_7.2.2.2.2.1 yL0_7.2.2.2.2.2
      else
        parrellaw19_gathered_2_l0 mode c set c2 c3 c4  fuel (IntKind.wrap .u8 (t21 + 1)) mode2 Epoch more Node nodes
      else none
    else
      some (false, default, (mode2, Epoch, more, Node, nodes))

def parrellaw19_gathered_2 (mode : Int) (c : T_api_Config) (set : Int) (c2 : Int) (c3 : T_api_Config) (c4 : T_api_Config) : Option (Bool × (Unit) × ((Int) × (T_api_Config) × (List (T_api_Config)) × (A8 (T_gather_Got)) × (Int))) :=
  (gather_New (A8.mk 97 0 0 0 0 0 0 0) mode c ([] : List (T_api_Config))).bind fun y2 =>
  if (y2.1 : Bool) then
    some (true, (), default)
  else
    parrellaw19_gathered_2_l0 mode c set c2 c3 c4  big 0 y2.2.2.1 y2.2.2.2.1 y2.2.2.2.2.1 y2.2.2.2.2.2 0

theorem parrellaw19_gathered_2_l0_okA {w0 : World} {W : Nat → Prop} {μ0 : Emb} (hμ : ∀ c p, μ0 c = some p → c < 3) (mode : Int) (c : T_api_Config) (set : Int) (c2 : Int) (c3 : T_api_Config) (c4 : T_api_Config)  : ∀ (fuel : Nat) (t21 : Int) (mode2 : Int) (Epoch : T_api_Config) (more : List (T_api_Config)) (Node : A8 (T_gather_Got)) (nodes : Int) (r : Unit) (r_ : (Int) × (T_api_Config) × (List (T_api_Config)) × (A8 (T_gather_Got)) × (Int)), parrellaw19_gathered_2_l0 mode c set c2 c3 c4  fuel t21 mode2 Epoch more Node nodes = some (true, r, r_) → kont Tryd.prog w0 W μ0 (FnPost Tryd.prog Tryd.f12 3 3 (parrellaw19_gathered_2_vA r) (parrellaw19_gathered_2_upA mode c set c2 c3 c4 r)) (kAt (bodyOf Tryd.f12) 0) none (parrellaw19_gathered_2_T0 set c2 c3 c4 t21 mode2 Epoch more Node nodes) (parrellaw19_gathered_2_H0 set c2 c3 c4 t21 mode2 Epoch more Node nodes) := by
  intro fuel
  induction fuel with
  | zero => intro t21 mode2 Epoch more Node nodes r r_ h; rw [parrellaw19_gathered_2_l0] at h; cases h
  | succ fuel ih =>
    intro t21 mode2 Epoch more Node nodes r r_ h
    rw [parrellaw19_gathered_2_l0] at h
    rcases itb_some h with ⟨cL0_1, h⟩ | ⟨cL0_1, h⟩
    · skip
      obtain ⟨gL0_2, h⟩ := guard_some h
      rcases itb_some h with ⟨cL0_3, h⟩ | ⟨cL0_3, h⟩
      · skip
        obtain ⟨yL0_5, eL0_4, h⟩ := bind_some h
        obtain ⟨yL0_7, eL0_6, h⟩ := bind_some h
        exact run_to mixed hμ (L := [3]) (n := 30) (s := [.go, .reg [(0, { v := some (.bool true) })], .reg [], .reg [(4, { v := some (.bool true) })], .reg [(5, { call := some ((parrellaw19_GatherChains_L1_v yL0_5).ren (sel [0, 1, 2]), preOf (sel [0, 1, 2]) 0 (parrellaw19_GatherChains_L1_objs t21 c2 c3 c4), upOf (sel [0, 1, 2]) (parrellaw19_GatherChains_L1_up t21 c2 c3 c4 yL0_5)) }), (7, { call := some ((gather_Gather_Grant_v yL0_7).ren (sel [3]), preOf (sel [3]) 0 (gather_Gather_Grant_objs (T_gather_Gather.mk mode2 Epoch more Node nodes) (T_gather_Got.mk t21 (T_api_Reg.mk 1 1) yL0_5)), upOf (sel [3]) (gather_Gather_Grant_up (T_gather_Gather.mk mode2 Epoch more Node nodes) (T_gather_Got.mk t21 (T_api_Reg.mk 1 1) yL0_5) yL0_7)) })], .reg []])
          (a_ (a_ (a_ tr (a_ (leB cL0_1) tr)) tr) (a_ (r2_ tr) (a_ (r2_ (a_ (a_ gL0_2 tr) (r1_ (a_ (a_ tr (a_ (leB cL0_3) tr)) tr)))) (a_ (r2_ (a_ (a_ (Eq.refl true) tr) (r2_ (a_ (a_ (a_ (parrellaw19_GatherChains_L1_ok t21 c2 c3 c4 yL0_5 eL0_4 (sel [0, 1, 2]) (sel_inj rfl rfl)) (a_ (LO.Le.refl (.row 1 1 (fun _ => [.int .u64 c2]) false)) (a_ (LO.Le.refl (.row 11 1 (fun _ => c_T_api_Config c3) false)) (a_ (LO.Le.refl (.row 11 1 (fun _ => c_T_api_Config c4) false)) tr)))) tr) (a_ (a_ (Eq.refl true) tr) (a_ (a_ (a_ (gather_Gather_Grant_ok (T_gather_Gather.mk mode2 Epoch more Node nodes) (T_gather_Got.mk t21 (T_api_Reg.mk 1 1) yL0_5) yL0_7 eL0_6 (sel [3]) (sel_inj rfl rfl)) (a_ (LO.Le.refl (.var (c_T_gather_Gather (T_gather_Gather.mk mode2 Epoch more Node nodes)))) tr)) tr) tr)))))) (a_ (r2_ tr) tr))))) (ih _ _ _ _ _ _ r r_ h) (by kernel_rfl) ⟨fun _ _ => rfl, fun _ _ => rfl, fun _ _ => rfl, rfl, trivial⟩
      · skip
        exact run_to mixed hμ (L := [3]) (n := 29) (s := [.go, .reg [(0, { v := some (.bool true) })], .reg [], .reg [(4, { v := some (.bool false) })], .reg []])
          (a_ (a_ (a_ tr (a_ (leB cL0_1) tr)) tr) (a_ (r2_ tr) (a_ (r2_ (a_ (a_ gL0_2 tr) (r1_ (a_ (a_ tr (a_ (leB cL0_3) tr)) tr)))) (a_ (r2_ tr) tr)))) (ih _ _ _ _ _ _ r r_ h) (by kernel_rfl) ⟨fun _ _ => rfl, fun _ _ => rfl, fun _ _ => rfl, rfl, trivial⟩
    · skip
      cases h

theorem parrellaw19_gathered_2_okA (mode : Int) (c : T_api_Config) (set : Int) (c2 : Int) (c3 : T_api_Config) (c4 : T_api_Config) (r : Unit) (r_ : (Int) × (T_api_Config) × (List (T_api_Config)) × (A8 (T_gather_Got)) × (Int)) (h : parrellaw19_gathered_2 mode c set c2 c3 c4 = some (true, r, r_)) : ∀ σ, Inj 3 σ → FnTri Tryd.prog 12 (renL σ [.int .u8 mode, v_T_api_Config c, .int .u64 set, .fn 34 [] [.ptr 0 0 0, .ptr 1 0 0, .ptr 2 0 0]]) (preOf σ 0 (parrellaw19_gathered_2_objs mode c set c2 c3 c4)) ((parrellaw19_gathered_2_vA r).ren σ) (upOf σ (parrellaw19_gathered_2_upA mode c set c2 c3 c4 r)) := by
  refine fn_of Tryd.func12 (by kernel_rfl) (by kernel_rfl) (by kernel_rfl) ⟨fun _ _ => rfl, fun _ _ => rfl, fun _ _ => rfl, trivial⟩ (by kernel_rfl) trivial (by kernel_rfl) ?_
  intro w0 W μ0 hμ
  unfold parrellaw19_gathered_2 at h
  obtain ⟨y2, e1, h⟩ := bind_some h
  rcases itb_some h with ⟨c3_, h⟩ | ⟨c3_, h⟩
  · skip
    have h := congrArg (fun z => z.2.1) (Option.some.inj h)
    dsimp only at h
    subst h
    exact run_ret mixed (L := []) (n := 23) (s := [.reg [], .reg [(3, { call := some (gather_New_vA y2.2.1, [], []), cargs := some [.agg [.int .u8 (A8.mk 97 0 0 0 0 0 0 0).a0, .int .u8 (A8.mk 97 0 0 0 0 0 0 0).a1, .int .u8 (A8.mk 97 0 0 0 0 0 0 0).a2, .int .u8 (A8.mk 97 0 0 0 0 0 0 0).a3, .int .u8 (A8.mk 97 0 0 0 0 0 0 0).a4, .int .u8 (A8.mk 97 0 0 0 0 0 0 0).a5, .int .u8 (A8.mk 97 0 0 0 0 0 0 0).a6, .int .u8 (A8.mk 97 0 0 0 0 0 0 0).a7], .int .u8 mode, v_T_api_Config c, .ds 11 (([] : List (T_api_Config))).length (rowF c_T_api_Config default ([] : List (T_api_Config)))] })], .reg [], .reg []])
      (a_ (a_ (r2_ tr) (a_ (a_ (a_ (Eq.refl true) tr) (r1_ (a_ (a_ (a_ tr (le_ 11 11 rfl)) tr) (a_ (a_ (a_ (gather_New_triA (A8.mk 97 0 0 0 0 0 0 0) mode c ([] : List (T_api_Config)) y2.2.1 y2.2.2 (altA e1 c3_)) (a_ (a_ (LV.Le.refl (.agg [.int .u8 97, .int .u8 0, .int .u8 0, .int .u8 0, .int .u8 0, .int .u8 0, .int .u8 0, .int .u8 0])) (a_ (LV.Le.refl (.int .u8 mode)) (a_ (LV.Le.refl (v_T_api_Config c)) (a_ (le_nil_ds 11 (rowF c_T_api_Config default [])) tr)))) tr)) tr) (r1_ (r4_ tr)))))) (a_ (r2_ tr) (a_ (r1_ tr) tr)))) tr) (by kernel_rfl) rfl
  · skip
    exact run_to mixed hμ (L := [4]) (n := 27) (s := [.reg [], .reg [(3, { call := some ((gather_New_vB y2.2.2).ren (sel [4]), preOf (sel [4]) 0 [], upOf (sel [4]) (gather_New_upB (A8.mk 97 0 0 0 0 0 0 0) mode c ([] : List (T_api_Config)) y2.2.2)), cargs := some [.agg [.int .u8 (A8.mk 97 0 0 0 0 0 0 0).a0, .int .u8 (A8.mk 97 0 0 0 0 0 0 0).a1, .int .u8 (A8.mk 97 0 0 0 0 0 0 0).a2, .int .u8 (A8.mk 97 0 0 0 0 0 0 0).a3, .int .u8 (A8.mk 97 0 0 0 0 0 0 0).a4, .int .u8 (A8.mk 97 0 0 0 0 0 0 0).a5, .int .u8 (A8.mk 97 0 0 0 0 0 0 0).a6, .int .u8 (A8.mk 97 0 0 0 0 0 0 0).a7], .int .u8 mode, v_T_api_Config c, .ds 11 (([] : List (T_api_Config))).length (rowF c_T_api_Config default ([] : List (T_api_Config)))] })], .reg [], .reg []])
      (a_ (r2_ tr) (a_ (a_ (a_ (Eq.refl true) tr) (r1_ (a_ (a_ (a_ tr (le_ 11 11 rfl)) tr) (a_ (a_ (a_ (gather_New_okB (A8.mk 97 0 0 0 0 0 0 0) mode c ([] : List (T_api_Config)) y2.2.2 y2.2.1 (altB e1 c3_) (sel [4]) (sel_inj rfl rfl)) (a_ (a_ (LV.Le.refl (.agg [.int .u8 97, .int .u8 0, .int .u8 0, .int .u8 0, .int .u8 0, .int .u8 0, .int .u8 0, .int .u8 0])) (a_ (LV.Le.refl (.int .u8 mode)) (a_ (LV.Le.refl (v_T_api_Config c)) (a_ (le_nil_ds 11 (rowF c_T_api_Config default [])) tr)))) tr)) tr) (r1_ (r4_ tr)))))) (a_ (r2_ tr) (a_ (r1_ tr) tr)))) (parrellaw19_gathered_2_l0_okA hμ mode c set c2 c3 c4  big _ _ _ _ _ _ r r_ h) (by kernel_rfl) ⟨fun _ _ => rfl, fun _ _ => rfl, fun _ _ => rfl, rfl, trivial⟩

theorem parrellaw19_gathered_2_l0_okB {w0 : World} {W : Nat → Prop} {μ0 : Emb} (hμ : ∀ c p, μ0 c = some p → c < 3) (mode : Int) (c : T_api_Config) (set : Int) (c2 : Int) (c3 : T_api_Config) (c4 : T_api_Config)  : ∀ (fuel : Nat) (t21 : Int) (mode2 : Int) (Epoch : T_api_Config) (more : List (T_api_Config)) (Node : A8 (T_gather_Got)) (nodes : Int) (r : (Int) × (T_api_Config) × (List (T_api_Config)) × (A8 (T_gather_Got)) × (Int)) (r_ : Unit), parrellaw19_gathered_2_l0 mode c set c2 c3 c4  fuel t21 mode2 Epoch more Node nodes = some (false, r_, r) → kont Tryd.prog w0 W μ0 (FnPost Tryd.prog Tryd.f12 3 4 (parrellaw19_gathered_2_vB r) (parrellaw19_gathered_2_upB mode c set c2 c3 c4 r)) (kAt (bodyOf Tryd.f12) 0) none (parrellaw19_gathered_2_T0 set c2 c3 c4 t21 mode2 Epoch more Node nodes) (parrellaw19_gathered_2_H0 set c2 c3 c4 t21 mode2 Epoch more Node nodes) := by
  intro fuel
  induction fuel with
  | zero => intro t21 mode2 Epoch more Node nodes r r_ h; rw [parrellaw19_gathered_2_l0] at h; cases h
  | succ fuel ih =>
    intro t21 mode2 Epoch more Node nodes r r_ h
    rw [parrellaw19_gathered_2_l0] at h
    rcases itb_some h with ⟨cL0_1, h⟩ | ⟨cL0_1, h⟩
    · skip
      obtain ⟨gL0_2, h⟩ := guard_some h
      rcases itb_some h with ⟨cL0_3, h⟩ | ⟨cL0_3, h⟩
      · skip
        obtain ⟨yL0_5, eL0_4, h⟩ := bind_some h
        obtain ⟨yL0_7, eL0_6, h⟩ := bind_some h
        exact run_to mixed hμ (L := [3]) (n := 30) (s := [.go, .reg [(0, { v := some (.bool true) })], .reg [], .reg [(4, { v := some (.bool true) })], .reg [(5, { call := some ((parrellaw19_GatherChains_L1_v yL0_5).ren (sel [0, 1, 2]), preOf (sel [0, 1, 2]) 0 (parrellaw19_GatherChains_L1_objs t21 c2 c3 c4), upOf (sel [0, 1, 2]) (parrellaw19_GatherChains_L1_up t21 c2 c3 c4 yL0_5)) }), (7, { call := some ((gather_Gather_Grant_v yL0_7).ren (sel [3]), preOf (sel [3]) 0 (gather_Gather_Grant_objs (T_gather_Gather.mk mode2 Epoch more Node nodes) (T_gather_Got.mk t21 (T_api_Reg.mk 1 1) yL0_5)), upOf (sel [3]) (gather_Gather_Grant_up (T_gather_Gather.mk mode2 Epoch more Node nodes) (T_gather_Got.mk t21 (T_api_Reg.mk 1 1) yL0_5) yL0_7)) })], .reg []])
          (a_ (a_ (a_ tr (a_ (leB cL0_1) tr)) tr) (a_ (r2_ tr) (a_ (r2_ (a_ (a_ gL0_2 tr) (r1_ (a_ (a_ tr (a_ (leB cL0_3) tr)) tr)))) (a_ (r2_ (a_ (a_ (Eq.refl true) tr) (r2_ (a_ (a_ (a_ (parrellaw19_GatherChains_L1_ok t21 c2 c3 c4 yL0_5 eL0_4 (sel [0, 1, 2]) (sel_inj rfl rfl)) (a_ (LO.Le.refl (.row 1 1 (fun _ => [.int .u64 c2]) false)) (a_ (LO.Le.refl (.row 11 1 (fun _ => c_T_api_Config c3) false)) (a_ (LO.Le.refl (.row 11 1 (fun _ => c_T_api_Config c4) false)) tr)))) tr) (a_ (a_ (Eq.refl true) tr) (a_ (a_ (a_ (gather_Gather_Grant_ok (T_gather_Gather.mk mode2 Epoch more Node nodes) (T_gather_Got.mk t21 (T_api_Reg.mk 1 1) yL0_5) yL0_7 eL0_6 (sel [3]) (sel_inj rfl rfl)) (a_ (LO.Le.refl (.var (c_T_gather_Gather (T_gather_Gather.mk mode2 Epoch more Node nodes)))) tr)) tr) tr)))))) (a_ (r2_ tr) tr))))) (ih _ _ _ _ _ _ r r_ h) (by kernel_rfl) ⟨fun _ _ => rfl, fun _ _ => rfl, fun _ _ => rfl, rfl, trivial⟩
      · skip
        exact run_to mixed hμ (L := [3]) (n := 29) (s := [.go, .reg [(0, { v := some (.bool true) })], .reg [], .reg [(4, { v := some (.bool false) })], .reg []])
          (a_ (a_ (a_ tr (a_ (leB cL0_1) tr)) tr) (a_ (r2_ tr) (a_ (r2_ (a_ (a_ gL0_2 tr) (r1_ (a_ (a_ tr (a_ (leB cL0_3) tr)) tr)))) (a_ (r2_ tr) tr)))) (ih _ _ _ _ _ _ r r_ h) (by kernel_rfl) ⟨fun _ _ => rfl, fun _ _ => rfl, fun _ _ => rfl, rfl, trivial⟩
    · skip
      have h := congrArg (fun z => z.2.2) (Option.some.inj h)
      dsimp only at h
      subst h
      exact run_ret mixed (L := [3]) (n := 19) (s := [.go, .reg [(0, { v := some (.bool false) })], .reg []])
        (a_ (a_ (a_ (a_ tr (a_ (leB cL0_1) tr)) tr) (a_ (r2_ tr) tr)) tr) (by kernel_rfl) rfl

theorem parrellaw19_gathered_2_okB (mode : Int) (c : T_api_Config) (set : Int) (c2 : Int) (c3 : T_api_Config) (c4 : T_api_Config) (r : (Int) × (T_api_Config) × (List (T_api_Config)) × (A8 (T_gather_Got)) × (Int)) (r_ : Unit) (h : parrellaw19_gathered_2 mode c set c2 c3 c4 = some (false, r_, r)) : ∀ σ, Inj 4 σ → FnTri Tryd.prog 12 (renL σ [.int .u8 mode, v_T_api_Config c, .int .u64 set, .fn 34 [] [.ptr 0 0 0, .ptr 1 0 0, .ptr 2 0 0]]) (preOf σ 0 (parrellaw19_gathered_2_objs mode c set c2 c3 c4)) ((parrellaw19_gathered_2_vB r).ren σ) (upOf σ (parrellaw19_gathered_2_upB mode c set c2 c3 c4 r)) := by
  refine fn_of Tryd.func12 (by kernel_rfl) (by kernel_rfl) (by kernel_rfl) ⟨fun _ _ => rfl, fun _ _ => rfl, fun _ _ => rfl, trivial⟩ (by kernel_rfl) ⟨rfl, trivial⟩ (by kernel_rfl) ?_
  intro w0 W μ0 hμ
  unfold parrellaw19_gathered_2 at h
  obtain ⟨y2, e1, h⟩ := bind_some h
  rcases itb_some h with ⟨c3_, h⟩ | ⟨c3_, h⟩
  · skip
    cases h
  · skip
    exact run_to mixed hμ (L := [4]) (n := 27) (s := [.reg [], .reg [(3, { call := some ((gather_New_vB y2.2.2).ren (sel [4]), preOf (sel [4]) 0 [], upOf (sel [4]) (gather_New_upB (A8.mk 97 0 0 0 0 0 0 0) mode c ([] : List (T_api_Config)) y2.2.2)), cargs := some [.agg [.int .u8 (A8.mk 97 0 0 0 0 0 0 0).a0, .int .u8 (A8.mk 97 0 0 0 0 0 0 0).a1, .int .u8 (A8.mk 97 0 0 0 0 0 0 0).a2, .int .u8 (A8.mk 97 0 0 0 0 0 0 0).a3, .int .u8 (A8.mk 97 0 0 0 0 0 0 0).a4, .int .u8 (A8.mk 97 0 0 0 0 0 0 0).a5, .int .u8 (A8.mk 97 0 0 0 0 0 0 0).a6, .int .u8 (A8.mk 97 0 0 0 0 0 0 0).a7], .int .u8 mode, v_T_api_Config c, .ds 11 (([] : List (T_api_Config))).length (rowF c_T_api_Config default ([] : List (T_api_Config)))] })], .reg [], .reg []])
      (a_ (r2_ tr) (a_ (a_ (a_ (Eq.refl true) tr) (r1_ (a_ (a_ (a_ tr (le_ 11 11 rfl)) tr) (a_ (a_ (a_ (gather_New_okB (A8.mk 97 0 0 0 0 0 0 0) mode c ([] : List (T_api_Config)) y2.2.2 y2.2.1 (altB e1 c3_) (sel [4]) (sel_inj rfl rfl)) (a_ (a_ (LV.Le.refl (.agg [.int .u8 97, .int .u8 0, .int .u8 0, .int .u8 0, .int .u8 0, .int .u8 0, .int .u8 0, .int .u8 0])) (a_ (LV.Le.refl (.int .u8 mode)) (a_ (LV.Le.refl (v_T_api_Config c)) (a_ (le_nil_ds 11 (rowF c_T_api_Config default [])) tr)))) tr)) tr) (r1_ (r4_ tr)))))) (a_ (r2_ tr) (a_ (r1_ tr) tr)))) (parrellaw19_gathered_2_l0_okB hμ mode c set c2 c3 c4  big _ _ _ _ _ _ r r_ h) (by kernel_rfl) ⟨fun _ _ => rfl, fun _ _ => rfl, fun _ _ => rfl, rfl, trivial⟩

/-- (*parrel/gather.Gather).Conf -/

def gather_Gather_Conf_v (r : (T_api_Config)) : LV := v_T_api_Config r

def gather_Gather_Conf_up (g : T_gather_Gather) (r : (T_api_Config)) : Upd := [(0, some (.var (c_T_gather_Gather g)))]

def gather_Gather_Conf_objs (g : T_gather_Gather) : List LO := [.var (c_T_gather_Gather g)]

def gather_Gather_Conf (g : T_gather_Gather) : Option ((T_api_Config)) :=
  (gather_Gather_ok g).bind fun y2 =>
  if ((!y2) : Bool) then
    some (T_api_Config.mk 0 0 0 (A8.mk 0 0 0 0 0 0 0 0))
  else
    some g.f_conf

theorem gather_Gather_Conf_ok (g : T_gather_Gather) (r : (T_api_Config)) (h : gather_Gather_Conf g = some r) : ∀ σ, Inj 1 σ → FnTri Tryd.prog 25 (renL σ [.ptr 0 0 0]) (preOf σ 0 (gather_Gather_Conf_objs g)) ((gather_Gather_Conf_v r).ren σ) (upOf σ (gather_Gather_Conf_up g r)) := by
  refine fn_of Tryd.func25 (by kernel_rfl) (by kernel_rfl) (by kernel_rfl) ⟨rfl, trivial⟩ (by kernel_rfl) ⟨rfl, trivial⟩ (by kernel_rfl) ?_
  intro w0 W μ0 hμ
  unfold gather_Gather_Conf at h
  obtain ⟨y2, e1, h⟩ := bind_some h
  rcases itb_some h with ⟨c3, h⟩ | ⟨c3, h⟩
  · skip
    obtain rfl := Option.some.inj h
    exact run_ret mixed (L := []) (n := 20) (s := [.reg [], .reg [(1, { call := some ((gather_Gather_ok_v y2).ren (sel [0]), preOf (sel [0]) 0 (gather_Gather_ok_objs g), upOf (sel [0]) (gather_Gather_ok_up g y2)) }), (2, { v := some (.bool true) })], .reg []])
      (a_ (a_ (r1_ tr) (a_ (r1_ (a_ (a_ (a_ (gather_Gather_ok_ok g y2 e1 (sel [0]) (sel_inj rfl rfl)) (a_ (LO.Le.refl (.var (c_T_gather_Gather g))) tr)) tr) (a_ (a_ tr (a_ (leB c3) tr)) tr))) (a_ (a_ (a_ (Eq.refl true) tr) (a_ (a_ (a_ (Eq.refl 11) (a_ (le_ 11 11 rfl) (Eq.refl 0))) tr) tr)) tr))) (a_ (a_ tr (le_ 11 11 rfl)) tr)) (by kernel_rfl) rfl
  · skip
    obtain rfl := Option.some.inj h
    exact run_ret mixed (L := []) (n := 21) (s := [.reg [], .reg [(1, { call := some ((gather_Gather_ok_v y2).ren (sel [0]), preOf (sel [0]) 0 (gather_Gather_ok_objs g), upOf (sel [0]) (gather_Gather_ok_up g y2)) }), (2, { v := some (.bool false) })], .reg []])
      (a_ (a_ (r1_ tr) (a_ (r1_ (a_ (a_ (a_ (gather_Gather_ok_ok g y2 e1 (sel [0]) (sel_inj rfl rfl)) (a_ (LO.Le.refl (.var (c_T_gather_Gather g))) tr)) tr) (a_ (a_ tr (a_ (leB c3) tr)) tr))) (a_ (r1_ (r2_ (a_ (a_ (a_ tr (le_ 12 142 rfl)) tr) (a_ (a_ (a_ (Eq.refl 11) (a_ (le_ 11 11 rfl) (Eq.refl 0))) tr) tr)))) tr))) (a_ (a_ tr (le_ 11 11 rfl)) tr)) (by kernel_rfl) rfl

/-- parrel/parrellaw19.GatherChains -/

def parrellaw19_GatherChains_v (r : (Bool)) : LV := .bool r

def parrellaw19_GatherChains (old : T_api_Config) (young : T_api_Config) (sets : A2 (Int)) : Option ((Bool)) :=
  (parrelref06_May old).bind fun y2 =>
  if ((!y2) : Bool) then
    (parrellaw19_alive).bind fun y5 =>
    some y5
  else
    (parrelref06_May young).bind fun y5 =>
    if ((!y5) : Bool) then
      (parrellaw19_alive).bind fun y8 =>
      some y8
    else
      if ((decide (young.f_Epoch ≤ old.f_Epoch)) : Bool) then
        (parrellaw19_alive).bind fun y9 =>
        some y9
      else
        (parrelref06_Of old sets.a0).bind fun y10 =>
        if ((decide (y10 < (IntKind.wrap .i64 old.f_W))) : Bool) then
          (parrellaw19_alive).bind fun y13 =>
          some y13
        else
          (parrellaw19_gathered_2 1 old sets.a1 sets.a0 young old).bind fun y14 =>
          if (y14.1 : Bool) then
            some false
          else
            (gather_Gather_Enough (T_gather_Gather.mk y14.2.2.1 y14.2.2.2.1 y14.2.2.2.2.1 y14.2.2.2.2.2.1 y14.2.2.2.2.2.2)).bind fun y17 =>
            if ((!y17) : Bool) then
              (gather_Gather_Conf (T_gather_Gather.mk y14.2.2.1 y14.2.2.2.1 y14.2.2.2.2.1 y14.2.2.2.2.2.1 y14.2.2.2.2.2.2)).bind fun y20 =>
              if ((decide (y20 = young)) : Bool) then
                (parrellaw19_alive).bind fun y23 =>
                some y23
              else
                (gather_Gather_Conf (T_gather_Gather.mk y14.2.2.1 y14.2.2.2.1 y14.2.2.2.2.1 y14.2.2.2.2.2.1 y14.2.2.2.2.2.2)).bind fun y24 =>
                if ((decide (y24 = old)) : Bool) then
                  (parrellaw19_alive).bind fun y27 =>
                  some y27
                else
                  some false
            else
              (gather_Gather_Conf (T_gather_Gather.mk y14.2.2.1 y14.2.2.2.1 y14.2.2.2.2.1 y14.2.2.2.2.2.1 y14.2.2.2.2.2.2)).bind fun y20 =>
              if ((decide (y20 = young)) : Bool) then
                (gather_Gather_Conf (T_gather_Gather.mk y14.2.2.1 y14.2.2.2.1 y14.2.2.2.2.1 y14.2.2.2.2.2.1 y14.2.2.2.2.2.2)).bind fun y24 =>
                if ((decide (y24 = young)) : Bool) then
                  (parrellaw19_alive).bind fun y27 =>
                  some y27
                else
                  (gather_Gather_Conf (T_gather_Gather.mk y14.2.2.1 y14.2.2.2.1 y14.2.2.2.2.1 y14.2.2.2.2.2.1 y14.2.2.2.2.2.2)).bind fun y28 =>
                  if ((decide (y28 = old)) : Bool) then
                    (parrellaw19_alive).bind fun y31 =>
                    some y31
                  else
                    some false
              else
                some false

theorem parrellaw19_GatherChains_ok (old : T_api_Config) (young : T_api_Config) (sets : A2 (Int)) (r : (Bool)) (h : parrellaw19_GatherChains old young sets = some r) : ∀ σ, Inj 0 σ → FnTri Tryd.prog 7 (renL σ [v_T_api_Config old, v_T_api_Config young, .agg [.int .u64 sets.a0, .int .u64 sets.a1]]) (preOf σ 0 []) ((parrellaw19_GatherChains_v r).ren σ) (upOf σ []) := by
  refine fn_of Tryd.func7 (by kernel_rfl) (by kernel_rfl) (by kernel_rfl) trivial (by kernel_rfl) trivial (by kernel_rfl) ?_
  intro w0 W μ0 hμ
  unfold parrellaw19_GatherChains at h
  obtain ⟨y2, e1, h⟩ := bind_some h
  rcases itb_some h with ⟨c3, h⟩ | ⟨c3, h⟩
  · skip
    obtain ⟨y5, e4, h⟩ := bind_some h
    obtain rfl := Option.some.inj h
    exact run_ret mixed (L := []) (n := 20) (s := [.reg [], .reg [(1, { call := some (parrelref06_May_v y2, [], []) }), (3, { v := some (.bool true) })], .reg [(0, { call := some (parrellaw19_alive_v y5, [], []) })]])
      (a_ (a_ (r4_ tr) (a_ (a_ (a_ (a_ tr (le_ 11 11 rfl)) tr) (a_ (a_ (a_ (parrelref06_May_tri old y2 e1) tr) tr) (r1_ (a_ (a_ tr (a_ (leB c3) tr)) (a_ tr (t2_ (r2_ (a_ tr (t4_ (r1_ tr)))))))))) (a_ (a_ (a_ (a_ (parrellaw19_alive_tri  y5 e4) tr) tr) (r1_ tr)) tr))) tr) (by kernel_rfl) rfl
  · skip
    obtain ⟨y5, e4, h⟩ := bind_some h
    rcases itb_some h with ⟨c6, h⟩ | ⟨c6, h⟩
    · skip
      obtain ⟨y8, e7, h⟩ := bind_some h
      obtain rfl := Option.some.inj h
      exact run_ret mixed (L := []) (n := 20) (s := [.reg [], .reg [(1, { call := some (parrelref06_May_v y2, [], []) }), (3, { v := some (.bool false) }), (5, { call := some (parrelref06_May_v y5, [], []) }), (8, { v := some (.bool true) })], .reg [(0, { call := some (parrellaw19_alive_v y8, [], []) })]])
        (a_ (a_ (r4_ tr) (a_ (a_ (a_ (a_ tr (le_ 11 11 rfl)) tr) (a_ (a_ (a_ (parrelref06_May_tri old y2 e1) tr) tr) (r1_ (a_ (a_ tr (a_ (leB c3) tr)) (a_ (a_ (a_ tr (le_ 11 11 rfl)) tr) (a_ (a_ (a_ (parrelref06_May_tri young y5 e4) tr) tr) (r2_ (a_ (a_ tr (a_ (leB c6) tr)) (a_ tr (t4_ (r1_ tr))))))))))) (a_ (a_ (a_ (a_ (parrellaw19_alive_tri  y8 e7) tr) tr) (r1_ tr)) tr))) tr) (by kernel_rfl) rfl
    · skip
      rcases itb_some h with ⟨c7, h⟩ | ⟨c7, h⟩
      · skip
        obtain ⟨y9, e8, h⟩ := bind_some h
        obtain rfl := Option.some.inj h
        exact run_ret mixed (L := []) (n := 20) (s := [.reg [], .reg [(1, { call := some (parrelref06_May_v y2, [], []) }), (3, { v := some (.bool false) }), (5, { call := some (parrelref06_May_v y5, [], []) }), (8, { v := some (.bool false) }), (14, { v := some (.bool true) })], .reg [(0, { call := some (parrellaw19_alive_v y9, [], []) })]])
          (a_ (a_ (r4_ tr) (a_ (a_ (a_ (a_ tr (le_ 11 11 rfl)) tr) (a_ (a_ (a_ (parrelref06_May_tri old y2 e1) tr) tr) (r1_ (a_ (a_ tr (a_ (leB c3) tr)) (a_ (a_ (a_ tr (le_ 11 11 rfl)) tr) (a_ (a_ (a_ (parrelref06_May_tri young y5 e4) tr) tr) (r2_ (a_ (a_ tr (a_ (leB c6) tr)) (r1_ (a_ (a_ (a_ tr (lt_ 0 11 rfl)) tr) (r1_ (a_ (a_ (a_ tr (lt_ 0 11 rfl)) tr) (r1_ (a_ (a_ tr (a_ (leB c7) tr)) tr)))))))))))))) (a_ (a_ (a_ (a_ (parrellaw19_alive_tri  y9 e8) tr) tr) (r1_ tr)) tr))) tr) (by kernel_rfl) rfl
      · skip
        obtain ⟨y10, e8, h⟩ := bind_some h
        rcases itb_some h with ⟨c11, h⟩ | ⟨c11, h⟩
        · skip
          obtain ⟨y13, e12, h⟩ := bind_some h
          obtain rfl := Option.some.inj h
          exact run_ret mixed (L := []) (n := 29) (s := [.reg [], .reg [(1, { call := some (parrelref06_May_v y2, [], []) }), (3, { v := some (.bool false) }), (5, { call := some (parrelref06_May_v y5, [], []) }), (8, { v := some (.bool false) }), (14, { v := some (.bool false) })], .reg [], .reg [(2, { call := some (parrelref06_Of_v y10, [], []) }), (6, { v := some (.bool true) })], .reg [(0, { call := some (parrellaw19_alive_v y13, [], []) })]])
            (a_ (a_ (r4_ tr) (a_ (a_ (a_ (a_ tr (le_ 11 11 rfl)) tr) (a_ (a_ (a_ (parrelref06_May_tri old y2 e1) tr) tr) (r1_ (a_ (a_ tr (a_ (leB c3) tr)) (a_ (a_ (a_ tr (le_ 11 11 rfl)) tr) (a_ (a_ (a_ (parrelref06_May_tri young y5 e4) tr) tr) (r2_ (a_ (a_ tr (a_ (leB c6) tr)) (r1_ (a_ (a_ (a_ tr (lt_ 0 11 rfl)) tr) (r1_ (a_ (a_ (a_ tr (lt_ 0 11 rfl)) tr) (r1_ (a_ (a_ tr (a_ (leB c7) tr)) tr)))))))))))))) (a_ (a_ (a_ (a_ (lei_ 0 0 rfl) (lti_ 0 2 rfl)) tr) (a_ (a_ (a_ tr (lt_ 0 2 rfl)) tr) (a_ (a_ (a_ (lei_ 0 1 rfl) (lti_ 1 2 rfl)) tr) (a_ (a_ (a_ tr (lt_ 1 2 rfl)) tr) (r1_ (a_ (a_ (a_ (Eq.refl 1) (a_ (le_ 1 1 rfl) (Eq.refl 0))) tr) (r1_ tr))))))) (a_ (a_ (a_ (a_ tr (le_ 11 11 rfl)) tr) (a_ (a_ (a_ tr (lt_ 0 1 rfl)) tr) (a_ (a_ (a_ (parrelref06_Of_tri old sets.a0 y10 e8) tr) tr) (r1_ (a_ (a_ (a_ tr (lt_ 2 11 rfl)) tr) (r1_ (a_ (a_ tr (a_ (leB c11) tr)) tr))))))) (a_ (a_ (a_ (a_ (parrellaw19_alive_tri  y13 e12) tr) tr) (r1_ tr)) tr))))) tr) (by kernel_rfl) rfl
        · skip
          obtain ⟨y14, e12, h⟩ := bind_some h
          rcases itb_some h with ⟨c15, h⟩ | ⟨c15, h⟩
          · skip
            obtain rfl := Option.some.inj h
            exact run_ret mixed (L := []) (n := 41) (s := [.reg [], .reg [(1, { call := some (parrelref06_May_v y2, [], []) }), (3, { v := some (.bool false) }), (5, { call := some (parrelref06_May_v y5, [], []) }), (8, { v := some (.bool false) }), (14, { v := some (.bool false) })], .reg [], .reg [(2, { call := some (parrelref06_Of_v y10, [], []) }), (6, { v := some (.bool false) })], .reg [], .reg [(3, { call := some ((parrellaw19_gathered_2_vA y14.2.1).ren (sel [3, 1, 0]), preOf (sel [3, 1, 0]) 0 (parrellaw19_gathered_2_objs 1 old sets.a1 sets.a0 young old), upOf (sel [3, 1, 0]) (parrellaw19_gathered_2_upA 1 old sets.a1 sets.a0 young old y14.2.1)) })], .reg [], .reg []])
              (a_ (a_ (r4_ tr) (a_ (a_ (a_ (a_ tr (le_ 11 11 rfl)) tr) (a_ (a_ (a_ (parrelref06_May_tri old y2 e1) tr) tr) (r1_ (a_ (a_ tr (a_ (leB c3) tr)) (a_ (a_ (a_ tr (le_ 11 11 rfl)) tr) (a_ (a_ (a_ (parrelref06_May_tri young y5 e4) tr) tr) (r2_ (a_ (a_ tr (a_ (leB c6) tr)) (r1_ (a_ (a_ (a_ tr (lt_ 0 11 rfl)) tr) (r1_ (a_ (a_ (a_ tr (lt_ 0 11 rfl)) tr) (r1_ (a_ (a_ tr (a_ (leB c7) tr)) tr)))))))))))))) (a_ (a_ (a_ (a_ (lei_ 0 0 rfl) (lti_ 0 2 rfl)) tr) (a_ (a_ (a_ tr (lt_ 0 2 rfl)) tr) (a_ (a_ (a_ (lei_ 0 1 rfl) (lti_ 1 2 rfl)) tr) (a_ (a_ (a_ tr (lt_ 1 2 rfl)) tr) (r1_ (a_ (a_ (a_ (Eq.refl 1) (a_ (le_ 1 1 rfl) (Eq.refl 0))) tr) (r1_ tr))))))) (a_ (a_ (a_ (a_ tr (le_ 11 11 rfl)) tr) (a_ (a_ (a_ tr (lt_ 0 1 rfl)) tr) (a_ (a_ (a_ (parrelref06_Of_tri old sets.a0 y10 e8) tr) tr) (r1_ (a_ (a_ (a_ tr (lt_ 2 11 rfl)) tr) (r1_ (a_ (a_ tr (a_ (leB c11) tr)) tr))))))) (a_ (r2_ tr) (a_ (a_ (a_ (a_ tr (le_ 11 11 rfl)) tr) (r2_ (a_ (a_ (a_ (parrellaw19_gathered_2_okA 1 old sets.a1 sets.a0 young old y14.2.1 y14.2.2 (altA e12 c15) (sel [3, 1, 0]) (sel_inj rfl rfl)) (a_ (LO.Le.ofVar ([.int .u64 sets.a0])) (a_ (LO.Le.ofVar (c_T_api_Config young)) (a_ (LO.Le.ofVar (c_T_api_Config old)) tr)))) tr) (r1_ tr)))) (a_ (r2_ tr) (a_ (r1_ tr) tr)))))))) tr) (by kernel_rfl) rfl
          · skip
            obtain ⟨y17, e16, h⟩ := bind_some h
            rcases itb_some h with ⟨c18, h⟩ | ⟨c18, h⟩
            · skip
              obtain ⟨y20, e19, h⟩ := bind_some h
              rcases itb_some h with ⟨c21, h⟩ | ⟨c21, h⟩
              · skip
                obtain ⟨y23, e22, h⟩ := bind_some h
                obtain rfl := Option.some.inj h
                exact run_ret mixed (L := []) (n := 42) (s := [.reg [], .reg [(1, { call := some (parrelref06_May_v y2, [], []) }), (3, { v := some (.bool false) }), (5, { call := some (parrelref06_May_v y5, [], []) }), (8, { v := some (.bool false) }), (14, { v := some (.bool false) })], .reg [], .reg [(2, { call := some (parrelref06_Of_v y10, [], []) }), (6, { v := some (.bool false) })], .reg [], .reg [(3, { call := some ((parrellaw19_gathered_2_vB y14.2.2).ren (sel [3, 1, 0, 4]), preOf (sel [3, 1, 0, 4]) 0 (parrellaw19_gathered_2_objs 1 old sets.a1 sets.a0 young old), upOf (sel [3, 1, 0, 4]) (parrellaw19_gathered_2_upB 1 old sets.a1 sets.a0 young old y14.2.2)) })], .reg [], .reg [(1, { call := some ((gather_Gather_Enough_v y17).ren (sel [4]), preOf (sel [4]) 0 (gather_Gather_Enough_objs (T_gather_Gather.mk y14.2.2.1 y14.2.2.2.1 y14.2.2.2.2.1 y14.2.2.2.2.2.1 y14.2.2.2.2.2.2)), upOf (sel [4]) (gather_Gather_Enough_up (T_gather_Gather.mk y14.2.2.1 y14.2.2.2.1 y14.2.2.2.2.1 y14.2.2.2.2.2.1 y14.2.2.2.2.2.2) y17)) }), (3, { v := some (.bool true) }), (11, { call := some ((gather_Gather_Conf_v y20).ren (sel [4]), preOf (sel [4]) 0 (gather_Gather_Conf_objs (T_gather_Gather.mk y14.2.2.1 y14.2.2.2.1 y14.2.2.2.2.1 y14.2.2.2.2.2.1 y14.2.2.2.2.2.2)), upOf (sel [4]) (gather_Gather_Conf_up (T_gather_Gather.mk y14.2.2.1 y14.2.2.2.1 y14.2.2.2.2.1 y14.2.2.2.2.2.1 y14.2.2.2.2.2.2) y20)) }), (13, { v := some (.bool (decide (y20 = young))) }), (14, { v := some (.bool true) }), (22, { call := some (parrellaw19_alive_v y23, [], []) })]])
                  (a_ (a_ (r4_ tr) (a_ (a_ (a_ (a_ tr (le_ 11 11 rfl)) tr) (a_ (a_ (a_ (parrelref06_May_tri old y2 e1) tr) tr) (r1_ (a_ (a_ tr (a_ (leB c3) tr)) (a_ (a_ (a_ tr (le_ 11 11 rfl)) tr) (a_ (a_ (a_ (parrelref06_May_tri young y5 e4) tr) tr) (r2_ (a_ (a_ tr (a_ (leB c6) tr)) (r1_ (a_ (a_ (a_ tr (lt_ 0 11 rfl)) tr) (r1_ (a_ (a_ (a_ tr (lt_ 0 11 rfl)) tr) (r1_ (a_ (a_ tr (a_ (leB c7) tr)) tr)))))))))))))) (a_ (a_ (a_ (a_ (lei_ 0 0 rfl) (lti_ 0 2 rfl)) tr) (a_ (a_ (a_ tr (lt_ 0 2 rfl)) tr) (a_ (a_ (a_ (lei_ 0 1 rfl) (lti_ 1 2 rfl)) tr) (a_ (a_ (a_ tr (lt_ 1 2 rfl)) tr) (r1_ (a_ (a_ (a_ (Eq.refl 1) (a_ (le_ 1 1 rfl) (Eq.refl 0))) tr) (r1_ tr))))))) (a_ (a_ (a_ (a_ tr (le_ 11 11 rfl)) tr) (a_ (a_ (a_ tr (lt_ 0 1 rfl)) tr) (a_ (a_ (a_ (parrelref06_Of_tri old sets.a0 y10 e8) tr) tr) (r1_ (a_ (a_ (a_ tr (lt_ 2 11 rfl)) tr) (r1_ (a_ (a_ tr (a_ (leB c11) tr)) tr))))))) (a_ (r2_ tr) (a_ (a_ (a_ (a_ tr (le_ 11 11 rfl)) tr) (r2_ (a_ (a_ (a_ (parrellaw19_gathered_2_okB 1 old sets.a1 sets.a0 young old y14.2.2 y14.2.1 (altB e12 c15) (sel [3, 1, 0, 4]) (sel_inj rfl rfl)) (a_ (LO.Le.ofVar ([.int .u64 sets.a0])) (a_ (LO.Le.ofVar (c_T_api_Config young)) (a_ (LO.Le.ofVar (c_T_api_Config old)) tr)))) tr) (r1_ tr)))) (a_ (r2_ tr) (a_ (r1_ (a_ (a_ (a_ (gather_Gather_Enough_ok (T_gather_Gather.mk y14.2.2.1 y14.2.2.2.1 y14.2.2.2.2.1 y14.2.2.2.2.2.1 y14.2.2.2.2.2.2) y17 e16 (sel [4]) (sel_inj rfl rfl)) (a_ (LO.Le.refl (.var (c_T_gather_Gather (T_gather_Gather.mk y14.2.2.1 y14.2.2.2.1 y14.2.2.2.2.1 y14.2.2.2.2.2.1 y14.2.2.2.2.2.2)))) tr)) tr) (r1_ (a_ (a_ tr (a_ (leB c18) tr)) (t4_ (r1_ (r2_ (a_ (a_ (a_ (gather_Gather_Conf_ok (T_gather_Gather.mk y14.2.2.1 y14.2.2.2.1 y14.2.2.2.2.1 y14.2.2.2.2.2.1 y14.2.2.2.2.2.2) y20 e19 (sel [4]) (sel_inj rfl rfl)) (a_ (LO.Le.refl (.var (c_T_gather_Gather (T_gather_Gather.mk y14.2.2.1 y14.2.2.2.1 y14.2.2.2.2.1 y14.2.2.2.2.2.1 y14.2.2.2.2.2.2)))) tr)) tr) (a_ (a_ (a_ tr (le_ 11 11 rfl)) tr) (a_ (a_ tr (a_ (leB (k_T_api_Config y20 young)) tr)) (a_ (a_ tr (a_ (leB c21) tr)) (t4_ (r1_ (r2_ (a_ (a_ (a_ (parrellaw19_alive_tri  y23 e22) tr) tr) (r2_ tr)))))))))))))))) tr)))))))) tr) (by kernel_rfl) rfl
              · skip
                obtain ⟨y24, e22, h⟩ := bind_some h
                rcases itb_some h with ⟨c25, h⟩ | ⟨c25, h⟩
                · skip
                  obtain ⟨y27, e26, h⟩ := bind_some h
                  obtain rfl := Option.some.inj h
                  exact run_ret mixed (L := []) (n := 42) (s := [.reg [], .reg [(1, { call := some (parrelref06_May_v y2, [], []) }), (3, { v := some (.bool false) }), (5, { call := some (parrelref06_May_v y5, [], []) }), (8, { v := some (.bool false) }), (14, { v := some (.bool false) })], .reg [], .reg [(2, { call := some (parrelref06_Of_v y10, [], []) }), (6, { v := some (.bool false) })], .reg [], .reg [(3, { call := some ((parrellaw19_gathered_2_vB y14.2.2).ren (sel [3, 1, 0, 4]), preOf (sel [3, 1, 0, 4]) 0 (parrellaw19_gathered_2_objs 1 old sets.a1 sets.a0 young old), upOf (sel [3, 1, 0, 4]) (parrellaw19_gathered_2_upB 1 old sets.a1 sets.a0 young old y14.2.2)) })], .reg [], .reg [(1, { call := some ((gather_Gather_Enough_v y17).ren (sel [4]), preOf (sel [4]) 0 (gather_Gather_Enough_objs (T_gather_Gather.mk y14.2.2.1 y14.2.2.2.1 y14.2.2.2.2.1 y14.2.2.2.2.2.1 y14.2.2.2.2.2.2)), upOf (sel [4]) (gather_Gather_Enough_up (T_gather_Gather.mk y14.2.2.1 y14.2.2.2.1 y14.2.2.2.2.1 y14.2.2.2.2.2.1 y14.2.2.2.2.2.2) y17)) }), (3, { v := some (.bool true) }), (11, { call := some ((gather_Gather_Conf_v y20).ren (sel [4]), preOf (sel [4]) 0 (gather_Gather_Conf_objs (T_gather_Gather.mk y14.2.2.1 y14.2.2.2.1 y14.2.2.2.2.1 y14.2.2.2.2.2.1 y14.2.2.2.2.2.2)), upOf (sel [4]) (gather_Gather_Conf_up (T_gather_Gather.mk y14.2.2.1 y14.2.2.2.1 y14.2.2.2.2.1 y14.2.2.2.2.2.1 y14.2.2.2.2.2.2) y20)) }), (13, { v := some (.bool (decide (y20 = young))) }), (14, { v := some (.bool false) }), (16, { call := some ((gather_Gather_Conf_v y24).ren (sel [4]), preOf (sel [4]) 0 (gather_Gather_Conf_objs (T_gather_Gather.mk y14.2.2.1 y14.2.2.2.1 y14.2.2.2.2.1 y14.2.2.2.2.2.1 y14.2.2.2.2.2.2)), upOf (sel [4]) (gather_Gather_Conf_up (T_gather_Gather.mk y14.2.2.1 y14.2.2.2.1 y14.2.2.2.2.1 y14.2.2.2.2.2.1 y14.2.2.2.2.2.2) y24)) }), (18, { v := some (.bool (decide (y24 = old))) }), (21, { v := some (.bool true) }), (22, { call := some (parrellaw19_alive_v y27, [], []) })]])
                    (a_ (a_ (r4_ tr) (a_ (a_ (a_ (a_ tr (le_ 11 11 rfl)) tr) (a_ (a_ (a_ (parrelref06_May_tri old y2 e1) tr) tr) (r1_ (a_ (a_ tr (a_ (leB c3) tr)) (a_ (a_ (a_ tr (le_ 11 11 rfl)) tr) (a_ (a_ (a_ (parrelref06_May_tri young y5 e4) tr) tr) (r2_ (a_ (a_ tr (a_ (leB c6) tr)) (r1_ (a_ (a_ (a_ tr (lt_ 0 11 rfl)) tr) (r1_ (a_ (a_ (a_ tr (lt_ 0 11 rfl)) tr) (r1_ (a_ (a_ tr (a_ (leB c7) tr)) tr)))))))))))))) (a_ (a_ (a_ (a_ (lei_ 0 0 rfl) (lti_ 0 2 rfl)) tr) (a_ (a_ (a_ tr (lt_ 0 2 rfl)) tr) (a_ (a_ (a_ (lei_ 0 1 rfl) (lti_ 1 2 rfl)) tr) (a_ (a_ (a_ tr (lt_ 1 2 rfl)) tr) (r1_ (a_ (a_ (a_ (Eq.refl 1) (a_ (le_ 1 1 rfl) (Eq.refl 0))) tr) (r1_ tr))))))) (a_ (a_ (a_ (a_ tr (le_ 11 11 rfl)) tr) (a_ (a_ (a_ tr (lt_ 0 1 rfl)) tr) (a_ (a_ (a_ (parrelref06_Of_tri old sets.a0 y10 e8) tr) tr) (r1_ (a_ (a_ (a_ tr (lt_ 2 11 rfl)) tr) (r1_ (a_ (a_ tr (a_ (leB c11) tr)) tr))))))) (a_ (r2_ tr) (a_ (a_ (a_ (a_ tr (le_ 11 11 rfl)) tr) (r2_ (a_ (a_ (a_ (parrellaw19_gathered_2_okB 1 old sets.a1 sets.a0 young old y14.2.2 y14.2.1 (altB e12 c15) (sel [3, 1, 0, 4]) (sel_inj rfl rfl)) (a_ (LO.Le.ofVar ([.int .u64 sets.a0])) (a_ (LO.Le.ofVar (c_T_api_Config young)) (a_ (LO.Le.ofVar (c_T_api_Config old)) tr)))) tr) (r1_ tr)))) (a_ (r2_ tr) (a_ (r1_ (a_ (a_ (a_ (gather_Gather_Enough_ok (T_gather_Gather.mk y14.2.2.1 y14.2.2.2.1 y14.2.2.2.2.1 y14.2.2.2.2.2.1 y14.2.2.2.2.2.2) y17 e16 (sel [4]) (sel_inj rfl rfl)) (a_ (LO.Le.refl (.var (c_T_gather_Gather (T_gather_Gather.mk y14.2.2.1 y14.2.2.2.1 y14.2.2.2.2.1 y14.2.2.2.2.2.1 y14.2.2.2.2.2.2)))) tr)) tr) (r1_ (a_ (a_ tr (a_ (leB c18) tr)) (t4_ (r1_ (r2_ (a_ (a_ (a_ (gather_Gather_Conf_ok (T_gather_Gather.mk y14.2.2.1 y14.2.2.2.1 y14.2.2.2.2.1 y14.2.2.2.2.2.1 y14.2.2.2.2.2.2) y20 e19 (sel [4]) (sel_inj rfl rfl)) (a_ (LO.Le.refl (.var (c_T_gather_Gather (T_gather_Gather.mk y14.2.2.1 y14.2.2.2.1 y14.2.2.2.2.1 y14.2.2.2.2.2.1 y14.2.2.2.2.2.2)))) tr)) tr) (a_ (a_ (a_ tr (le_ 11 11 rfl)) tr) (a_ (a_ tr (a_ (leB (k_T_api_Config y20 young)) tr)) (a_ (a_ tr (a_ (leB c21) tr)) (r1_ (a_ (a_ (a_ (gather_Gather_Conf_ok (T_gather_Gather.mk y14.2.2.1 y14.2.2.2.1 y14.2.2.2.2.1 y14.2.2.2.2.2.1 y14.2.2.2.2.2.2) y24 e22 (sel [4]) (sel_inj rfl rfl)) (a_ (LO.Le.refl (.var (c_T_gather_Gather (T_gather_Gather.mk y14.2.2.1 y14.2.2.2.1 y14.2.2.2.2.1 y14.2.2.2.2.2.1 y14.2.2.2.2.2.2)))) tr)) tr) (a_ (a_ (a_ tr (le_ 11 11 rfl)) tr) (a_ (a_ tr (a_ (leB (k_T_api_Config y24 old)) tr)) (r2_ (a_ (a_ tr (a_ (leB c25) tr)) (a_ (a_ (a_ (parrellaw19_alive_tri  y27 e26) tr) tr) (r2_ tr))))))))))))))))))) tr)))))))) tr) (by kernel_rfl) rfl
                · skip
                  obtain rfl := Option.some.inj h
                  exact run_ret mixed (L := []) (n := 42) (s := [.reg [], .reg [(1, { call := some (parrelref06_May_v y2, [], []) }), (3, { v := some (.bool false) }), (5, { call := some (parrelref06_May_v y5, [], []) }), (8, { v := some (.bool false) }), (14, { v := some (.bool false) })], .reg [], .reg [(2, { call := some (parrelref06_Of_v y10, [], []) }), (6, { v := some (.bool false) })], .reg [], .reg [(3, { call := some ((parrellaw19_gathered_2_vB y14.2.2).ren (sel [3, 1, 0, 4]), preOf (sel [3, 1, 0, 4]) 0 (parrellaw19_gathered_2_objs 1 old sets.a1 sets.a0 young old), upOf (sel [3, 1, 0, 4]) (parrellaw19_gathered_2_upB 1 old sets.a1 sets.a0 young old y14.2.2)) })], .reg [], .reg [(1, { call := some ((gather_Gather_Enough_v y17).ren (sel [4]), preOf (sel [4]) 0 (gather_Gather_Enough_objs (T_gather_Gather.mk y14.2.2.1 y14.2.2.2.1 y14.2.2.2.2.1 y14.2.2.2.2.2.1 y14.2.2.2.2.2.2)), upOf (sel [4]) (gather_Gather_Enough_up (T_gather_Gather.mk y14.2.2.1 y14.2.2.2.1 y14.2.2.2.2.1 y14.2.2.2.2.2.1 y14.2.2.2.2.2.2) y17)) }), (3, { v := some (.bool true) }), (11, { call := some ((gather_Gather_Conf_v y20).ren (sel [4]), preOf (sel [4]) 0 (gather_Gather_Conf_objs (T_gather_Gather.mk y14.2.2.1 y14.2.2.2.1 y14.2.2.2.2.1 y14.2.2.2.2.2.1 y14.2.2.2.2.2.2)), upOf (sel [4]) (gather_Gather_Conf_up (T_gather_Gather.mk y14.2.2.1 y14.2.2.2.1 y14.2.2.2.2.1 y14.2.2.2.2.2.1 y14.2.2.2.2.2.2) y20)) }), (13, { v := some (.bool (decide (y20 = young))) }), (14, { v := some (.bool false) }), (16, { call := some ((gather_Gather_Conf_v y24).ren (sel [4]), preOf (sel [4]) 0 (gather_Gather_Conf_objs (T_gather_Gather.mk y14.2.2.1 y14.2.2.2.1 y14.2.2.2.2.1 y14.2.2.2.2.2.1 y14.2.2.2.2.2.2)), upOf (sel [4]) (gather_Gather_Conf_up (T_gather_Gather.mk y14.2.2.1 y14.2.2.2.1 y14.2.2.2.2.1 y14.2.2.2.2.2.1 y14.2.2.2.2.2.2) y24)) }), (18, { v := some (.bool (decide (y24 = old))) }), (21, { v := some (.bool false) })]])
                    (a_ (a_ (r4_ tr) (a_ (a_ (a_ (a_ tr (le_ 11 11 rfl)) tr) (a_ (a_ (a_ (parrelref06_May_tri old y2 e1) tr) tr) (r1_ (a_ (a_ tr (a_ (leB c3) tr)) (a_ (a_ (a_ tr (le_ 11 11 rfl)) tr) (a_ (a_ (a_ (parrelref06_May_tri young y5 e4) tr) tr) (r2_ (a_ (a_ tr (a_ (leB c6) tr)) (r1_ (a_ (a_ (a_ tr (lt_ 0 11 rfl)) tr) (r1_ (a_ (a_ (a_ tr (lt_ 0 11 rfl)) tr) (r1_ (a_ (a_ tr (a_ (leB c7) tr)) tr)))))))))))))) (a_ (a_ (a_ (a_ (lei_ 0 0 rfl) (lti_ 0 2 rfl)) tr) (a_ (a_ (a_ tr (lt_ 0 2 rfl)) tr) (a_ (a_ (a_ (lei_ 0 1 rfl) (lti_ 1 2 rfl)) tr) (a_ (a_ (a_ tr (lt_ 1 2 rfl)) tr) (r1_ (a_ (a_ (a_ (Eq.refl 1) (a_ (le_ 1 1 rfl) (Eq.refl 0))) tr) (r1_ tr))))))) (a_ (a_ (a_ (a_ tr (le_ 11 11 rfl)) tr) (a_ (a_ (a_ tr (lt_ 0 1 rfl)) tr) (a_ (a_ (a_ (parrelref06_Of_tri old sets.a0 y10 e8) tr) tr) (r1_ (a_ (a_ (a_ tr (lt_ 2 11 rfl)) tr) (r1_ (a_ (a_ tr (a_ (leB c11) tr)) tr))))))) (a_ (r2_ tr) (a_ (a_ (a_ (a_ tr (le_ 11 11 rfl)) tr) (r2_ (a_ (a_ (a_ (parrellaw19_gathered_2_okB 1 old sets.a1 sets.a0 young old y14.2.2 y14.2.1 (altB e12 c15) (sel [3, 1, 0, 4]) (sel_inj rfl rfl)) (a_ (LO.Le.ofVar ([.int .u64 sets.a0])) (a_ (LO.Le.ofVar (c_T_api_Config young)) (a_ (LO.Le.ofVar (c_T_api_Config old)) tr)))) tr) (r1_ tr)))) (a_ (r2_ tr) (a_ (r1_ (a_ (a_ (a_ (gather_Gather_Enough_ok (T_gather_Gather.mk y14.2.2.1 y14.2.2.2.1 y14.2.2.2.2.1 y14.2.2.2.2.2.1 y14.2.2.2.2.2.2) y17 e16 (sel [4]) (sel_inj rfl rfl)) (a_ (LO.Le.refl (.var (c_T_gather_Gather (T_gather_Gather.mk y14.2.2.1 y14.2.2.2.1 y14.2.2.2.2.1 y14.2.2.2.2.2.1 y14.2.2.2.2.2.2)))) tr)) tr) (r1_ (a_ (a_ tr (a_ (leB c18) tr)) (t4_ (r1_ (r2_ (a_ (a_ (a_ (gather_Gather_Conf_ok (T_gather_Gather.mk y14.2.2.1 y14.2.2.2.1 y14.2.2.2.2.1 y14.2.2.2.2.2.1 y14.2.2.2.2.2.2) y20 e19 (sel [4]) (sel_inj rfl rfl)) (a_ (LO.Le.refl (.var (c_T_gather_Gather (T_gather_Gather.mk y14.2.2.1 y14.2.2.2.1 y14.2.2.2.2.1 y14.2.2.2.2.2.1 y14.2.2.2.2.2.2)))) tr)) tr) (a_ (a_ (a_ tr (le_ 11 11 rfl)) tr) (a_ (a_ tr (a_ (leB (k_T_api_Config y20 young)) tr)) (a_ (a_ tr (a_ (leB c21) tr)) (r1_ (a_ (a_ (a_ (gather_Gather_Conf_ok (T_gather_Gather.mk y14.2.2.1 y14.2.2.2.1 y14.2.2.2.2.1 y14.2.2.2.2.2.1 y14.2.2.2.2.2.2) y24 e22 (sel [4]) (sel_inj rfl rfl)) (a_ (LO.Le.refl (.var (c_T_gather_Gather (T_gather_Gather.mk y14.2.2.1 y14.2.2.2.1 y14.2.2.2.2.1 y14.2.2.2.2.2.1 y14.2.2.2.2.2.2)))) tr)) tr) (a_ (a_ (a_ tr (le_ 11 11 rfl)) tr) (a_ (a_ tr (a_ (leB (k_T_api_Config y24 old)) tr)) (r2_ (a_ (a_ tr (a_ (leB c25) tr)) (a_ tr (r2_ tr))))))))))))))))))) tr)))))))) tr) (by kernel_rfl) rfl
            · skip
              obtain ⟨y20, e19, h⟩ := bind_some h
              rcases itb_some h with ⟨c21, h⟩ | ⟨c21, h⟩
              · skip
                obtain ⟨y24, e22, h⟩ := bind_some h
                rcases itb_some h with ⟨c25, h⟩ | ⟨c25, h⟩
                · skip
                  obtain ⟨y27, e26, h⟩ := bind_some h
                  obtain rfl := Option.some.inj h
                  exact run_ret mixed (L := []) (n := 42) (s := [.reg [], .reg [(1, { call := some (parrelref06_May_v y2, [], []) }), (3, { v := some (.bool false) }), (5, { call := some (parrelref06_May_v y5, [], []) }), (8, { v := some (.bool false) }), (14, { v := some (.bool false) })], .reg [], .reg [(2, { call := some (parrelref06_Of_v y10, [], []) }), (6, { v := some (.bool false) })], .reg [], .reg [(3, { call := some ((parrellaw19_gathered_2_vB y14.2.2).ren (sel [3, 1, 0, 4]), preOf (sel [3, 1, 0, 4]) 0 (parrellaw19_gathered_2_objs 1 old sets.a1 sets.a0 young old), upOf (sel [3, 1, 0, 4]) (parrellaw19_gathered_2_upB 1 old sets.a1 sets.a0 young old y14.2.2)) })], .reg [], .reg [(1, { call := some ((gather_Gather_Enough_v y17).ren (sel [4]), preOf (sel [4]) 0 (gather_Gather_Enough_objs (T_gather_Gather.mk y14.2.2.1 y14.2.2.2.1 y14.2.2.2.2.1 y14.2.2.2.2.2.1 y14.2.2.2.2.2.2)), upOf (sel [4]) (gather_Gather_Enough_up (T_gather_Gather.mk y14.2.2.1 y14.2.2.2.1 y14.2.2.2.2.1 y14.2.2.2.2.2.1 y14.2.2.2.2.2.2) y17)) }), (3, { v := some (.bool false) }), (5, { call := some ((gather_Gather_Conf_v y20).ren (sel [4]), preOf (sel [4]) 0 (gather_Gather_Conf_objs (T_gather_Gather.mk y14.2.2.1 y14.2.2.2.1 y14.2.2.2.2.1 y14.2.2.2.2.2.1 y14.2.2.2.2.2.2)), upOf (sel [4]) (gather_Gather_Conf_up (T_gather_Gather.mk y14.2.2.1 y14.2.2.2.1 y14.2.2.2.2.1 y14.2.2.2.2.2.1 y14.2.2.2.2.2.2) y20)) }), (7, { v := some (.bool (decide (y20 = young))) }), (9, { v := some (.bool true) }), (11, { call := some ((gather_Gather_Conf_v y24).ren (sel [4]), preOf (sel [4]) 0 (gather_Gather_Conf_objs (T_gather_Gather.mk y14.2.2.1 y14.2.2.2.1 y14.2.2.2.2.1 y14.2.2.2.2.2.1 y14.2.2.2.2.2.2)), upOf (sel [4]) (gather_Gather_Conf_up (T_gather_Gather.mk y14.2.2.1 y14.2.2.2.1 y14.2.2.2.2.1 y14.2.2.2.2.2.1 y14.2.2.2.2.2.2) y24)) }), (13, { v := some (.bool (decide (y24 = young))) }), (14, { v := some (.bool true) }), (22, { call := some (parrellaw19_alive_v y27, [], []) })]])
                    (a_ (a_ (r4_ tr) (a_ (a_ (a_ (a_ tr (le_ 11 11 rfl)) tr) (a_ (a_ (a_ (parrelref06_May_tri old y2 e1) tr) tr) (r1_ (a_ (a_ tr (a_ (leB c3) tr)) (a_ (a_ (a_ tr (le_ 11 11 rfl)) tr) (a_ (a_ (a_ (parrelref06_May_tri young y5 e4) tr) tr) (r2_ (a_ (a_ tr (a_ (leB c6) tr)) (r1_ (a_ (a_ (a_ tr (lt_ 0 11 rfl)) tr) (r1_ (a_ (a_ (a_ tr (lt_ 0 11 rfl)) tr) (r1_ (a_ (a_ tr (a_ (leB c7) tr)) tr)))))))))))))) (a_ (a_ (a_ (a_ (lei_ 0 0 rfl) (lti_ 0 2 rfl)) tr) (a_ (a_ (a_ tr (lt_ 0 2 rfl)) tr) (a_ (a_ (a_ (lei_ 0 1 rfl) (lti_ 1 2 rfl)) tr) (a_ (a_ (a_ tr (lt_ 1 2 rfl)) tr) (r1_ (a_ (a_ (a_ (Eq.refl 1) (a_ (le_ 1 1 rfl) (Eq.refl 0))) tr) (r1_ tr))))))) (a_ (a_ (a_ (a_ tr (le_ 11 11 rfl)) tr) (a_ (a_ (a_ tr (lt_ 0 1 rfl)) tr) (a_ (a_ (a_ (parrelref06_Of_tri old sets.a0 y10 e8) tr) tr) (r1_ (a_ (a_ (a_ tr (lt_ 2 11 rfl)) tr) (r1_ (a_ (a_ tr (a_ (leB c11) tr)) tr))))))) (a_ (r2_ tr) (a_ (a_ (a_ (a_ tr (le_ 11 11 rfl)) tr) (r2_ (a_ (a_ (a_ (parrellaw19_gathered_2_okB 1 old sets.a1 sets.a0 young old y14.2.2 y14.2.1 (altB e12 c15) (sel [3, 1, 0, 4]) (sel_inj rfl rfl)) (a_ (LO.Le.ofVar ([.int .u64 sets.a0])) (a_ (LO.Le.ofVar (c_T_api_Config young)) (a_ (LO.Le.ofVar (c_T_api_Config old)) tr)))) tr) (r1_ tr)))) (a_ (r2_ tr) (a_ (r1_ (a_ (a_ (a_ (gather_Gather_Enough_ok (T_gather_Gather.mk y14.2.2.1 y14.2.2.2.1 y14.2.2.2.2.1 y14.2.2.2.2.2.1 y14.2.2.2.2.2.2) y17 e16 (sel [4]) (sel_inj rfl rfl)) (a_ (LO.Le.refl (.var (c_T_gather_Gather (T_gather_Gather.mk y14.2.2.1 y14.2.2.2.1 y14.2.2.2.2.1 y14.2.2.2.2.2.1 y14.2.2.2.2.2.2)))) tr)) tr) (r1_ (a_ (a_ tr (a_ (leB c18) tr)) (r1_ (a_ (a_ (a_ (gather_Gather_Conf_ok (T_gather_Gather.mk y14.2.2.1 y14.2.2.2.1 y14.2.2.2.2.1 y14.2.2.2.2.2.1 y14.2.2.2.2.2.2) y20 e19 (sel [4]) (sel_inj rfl rfl)) (a_ (LO.Le.refl (.var (c_T_gather_Gather (T_gather_Gather.mk y14.2.2.1 y14.2.2.2.1 y14.2.2.2.2.1 y14.2.2.2.2.2.1 y14.2.2.2.2.2.2)))) tr)) tr) (a_ (a_ (a_ tr (le_ 11 11 rfl)) tr) (a_ (a_ tr (a_ (leB (k_T_api_Config y20 young)) tr)) (r1_ (a_ (a_ tr (a_ (leB c21) tr)) (r1_ (a_ (a_ (a_ (gather_Gather_Conf_ok (T_gather_Gather.mk y14.2.2.1 y14.2.2.2.1 y14.2.2.2.2.1 y14.2.2.2.2.2.1 y14.2.2.2.2.2.2) y24 e22 (sel [4]) (sel_inj rfl rfl)) (a_ (LO.Le.refl (.var (c_T_gather_Gather (T_gather_Gather.mk y14.2.2.1 y14.2.2.2.1 y14.2.2.2.2.1 y14.2.2.2.2.2.1 y14.2.2.2.2.2.2)))) tr)) tr) (a_ (a_ (a_ tr (le_ 11 11 rfl)) tr) (a_ (a_ tr (a_ (leB (k_T_api_Config y24 young)) tr)) (a_ (a_ tr (a_ (leB c25) tr)) (t4_ (r1_ (r2_ (a_ (a_ (a_ (parrellaw19_alive_tri  y27 e26) tr) tr) (r2_ tr)))))))))))))))))))) tr)))))))) tr) (by kernel_rfl) rfl
                · skip
                  obtain ⟨y28, e26, h⟩ := bind_some h
                  rcases itb_some h with ⟨c29, h⟩ | ⟨c29, h⟩
                  · skip
                    obtain ⟨y31, e30, h⟩ := bind_some h
                    obtain rfl := Option.some.inj h
                    exact run_ret mixed (L := []) (n := 42) (s := [.reg [], .reg [(1, { call := some (parrelref06_May_v y2, [], []) }), (3, { v := some (.bool false) }), (5, { call := some (parrelref06_May_v y5, [], []) }), (8, { v := some (.bool false) }), (14, { v := some (.bool false) })], .reg [], .reg [(2, { call := some (parrelref06_Of_v y10, [], []) }), (6, { v := some (.bool false) })], .reg [], .reg [(3, { call := some ((parrellaw19_gathered_2_vB y14.2.2).ren (sel [3, 1, 0, 4]), preOf (sel [3, 1, 0, 4]) 0 (parrellaw19_gathered_2_objs 1 old sets.a1 sets.a0 young old), upOf (sel [3, 1, 0, 4]) (parrellaw19_gathered_2_upB 1 old sets.a1 sets.a0 young old y14.2.2)) })], .reg [], .reg [(1, { call := some ((gather_Gather_Enough_v y17).ren (sel [4]), preOf (sel [4]) 0 (gather_Gather_Enough_objs (T_gather_Gather.mk y14.2.2.1 y14.2.2.2.1 y14.2.2.2.2.1 y14.2.2.2.2.2.1 y14.2.2.2.2.2.2)), upOf (sel [4]) (gather_Gather_Enough_up (T_gather_Gather.mk y14.2.2.1 y14.2.2.2.1 y14.2.2.2.2.1 y14.2.2.2.2.2.1 y14.2.2.2.2.2.2) y17)) }), (3, { v := some (.bool false) }), (5, { call := some ((gather_Gather_Conf_v y20).ren (sel [4]), preOf (sel [4]) 0 (gather_Gather_Conf_objs (T_gather_Gather.mk y14.2.2.1 y14.2.2.2.1 y14.2.2.2.2.1 y14.2.2.2.2.2.1 y14.2.2.2.2.2.2)), upOf (sel [4]) (gather_Gather_Conf_up (T_gather_Gather.mk y14.2.2.1 y14.2.2.2.1 y14.2.2.2.2.1 y14.2.2.2.2.2.1 y14.2.2.2.2.2.2) y20)) }), (7, { v := some (.bool (decide (y20 = young))) }), (9, { v := some (.bool true) }), (11, { call := some ((gather_Gather_Conf_v y24).ren (sel [4]), preOf (sel [4]) 0 (gather_Gather_Conf_objs (T_gather_Gather.mk y14.2.2.1 y14.2.2.2.1 y14.2.2.2.2.1 y14.2.2.2.2.2.1 y14.2.2.2.2.2.2)), upOf (sel [4]) (gather_Gather_Conf_up (T_gather_Gather.mk y14.2.2.1 y14.2.2.2.1 y14.2.2.2.2.1 y14.2.2.2.2.2.1 y14.2.2.2.2.2.2) y24)) }), (13, { v := some (.bool (decide (y24 = young))) }), (14, { v := some (.bool false) }), (16, { call := some ((gather_Gather_Conf_v y28).ren (sel [4]), preOf (sel [4]) 0 (gather_Gather_Conf_objs (T_gather_Gather.mk y14.2.2.1 y14.2.2.2.1 y14.2.2.2.2.1 y14.2.2.2.2.2.1 y14.2.2.2.2.2.2)), upOf (sel [4]) (gather_Gather_Conf_up (T_gather_Gather.mk y14.2.2.1 y14.2.2.2.1 y14.2.2.2.2.1 y14.2.2.2.2.2.1 y14.2.2.2.2.2.2) y28)) }), (18, { v := some (.bool (decide (y28 = old))) }), (21, { v := some (.bool true) }), (22, { call := some (parrellaw19_alive_v y31, [], []) })]])
                      (a_ (a_ (r4_ tr) (a_ (a_ (a_ (a_ tr (le_ 11 11 rfl)) tr) (a_ (a_ (a_ (parrelref06_May_tri old y2 e1) tr) tr) (r1_ (a_ (a_ tr (a_ (leB c3) tr)) (a_ (a_ (a_ tr (le_ 11 11 rfl)) tr) (a_ (a_ (a_ (parrelref06_May_tri young y5 e4) tr) tr) (r2_ (a_ (a_ tr (a_ (leB c6) tr)) (r1_ (a_ (a_ (a_ tr (lt_ 0 11 rfl)) tr) (r1_ (a_ (a_ (a_ tr (lt_ 0 11 rfl)) tr) (r1_ (a_ (a_ tr (a_ (leB c7) tr)) tr)))))))))))))) (a_ (a_ (a_ (a_ (lei_ 0 0 rfl) (lti_ 0 2 rfl)) tr) (a_ (a_ (a_ tr (lt_ 0 2 rfl)) tr) (a_ (a_ (a_ (lei_ 0 1 rfl) (lti_ 1 2 rfl)) tr) (a_ (a_ (a_ tr (lt_ 1 2 rfl)) tr) (r1_ (a_ (a_ (a_ (Eq.refl 1) (a_ (le_ 1 1 rfl) (Eq.refl 0))) tr) (r1_ tr))))))) (a_ (a_ (a_ (a_ tr (le_ 11 11 rfl)) tr) (a_ (a_ (a_ tr (lt_ 0 1 rfl)) tr) (a_ (a_ (a_ (parrelref06_Of_tri old sets.a0 y10 e8) tr) tr) (r1_ (a_ (a_ (a_ tr (lt_ 2 11 rfl)) tr) (r1_ (a_ (a_ tr (a_ (leB c11) tr)) tr))))))) (a_ (r2_ tr) (a_ (a_ (a_ (a_ tr (le_ 11 11 rfl)) tr) (r2_ (a_ (a_ (a_ (parrellaw19_gathered_2_okB 1 old sets.a1 sets.a0 young old y14.2.2 y14.2.1 (altB e12 c15) (sel [3, 1, 0, 4]) (sel_inj rfl rfl)) (a_ (LO.Le.ofVar ([.int .u64 sets.a0])) (a_ (LO.Le.ofVar (c_T_api_Config young)) (a_ (LO.Le.ofVar (c_T_api_Config old)) tr)))) tr) (r1_ tr)))) (a_ (r2_ tr) (a_ (r1_ (a_ (a_ (a_ (gather_Gather_Enough_ok (T_gather_Gather.mk y14.2.2.1 y14.2.2.2.1 y14.2.2.2.2.1 y14.2.2.2.2.2.1 y14.2.2.2.2.2.2) y17 e16 (sel [4]) (sel_inj rfl rfl)) (a_ (LO.Le.refl (.var (c_T_gather_Gather (T_gather_Gather.mk y14.2.2.1 y14.2.2.2.1 y14.2.2.2.2.1 y14.2.2.2.2.2.1 y14.2.2.2.2.2.2)))) tr)) tr) (r1_ (a_ (a_ tr (a_ (leB c18) tr)) (r1_ (a_ (a_ (a_ (gather_Gather_Conf_ok (T_gather_Gather.mk y14.2.2.1 y14.2.2.2.1 y14.2.2.2.2.1 y14.2.2.2.2.2.1 y14.2.2.2.2.2.2) y20 e19 (sel [4]) (sel_inj rfl rfl)) (a_ (LO.Le.refl (.var (c_T_gather_Gather (T_gather_Gather.mk y14.2.2.1 y14.2.2.2.1 y14.2.2.2.2.1 y14.2.2.2.2.2.1 y14.2.2.2.2.2.2)))) tr)) tr) (a_ (a_ (a_ tr (le_ 11 11 rfl)) tr) (a_ (a_ tr (a_ (leB (k_T_api_Config y20 young)) tr)) (r1_ (a_ (a_ tr (a_ (leB c21) tr)) (r1_ (a_ (a_ (a_ (gather_Gather_Conf_ok (T_gather_Gather.mk y14.2.2.1 y14.2.2.2.1 y14.2.2.2.2.1 y14.2.2.2.2.2.1 y14.2.2.2.2.2.2) y24 e22 (sel [4]) (sel_inj rfl rfl)) (a_ (LO.Le.refl (.var (c_T_gather_Gather (T_gather_Gather.mk y14.2.2.1 y14.2.2.2.1 y14.2.2.2.2.1 y14.2.2.2.2.2.1 y14.2.2.2.2.2.2)))) tr)) tr) (a_ (a_ (a_ tr (le_ 11 11 rfl)) tr) (a_ (a_ tr (a_ (leB (k_T_api_Config y24 young)) tr)) (a_ (a_ tr (a_ (leB c25) tr)) (r1_ (a_ (a_ (a_ (gather_Gather_Conf_ok (T_gather_Gather.mk y14.2.2.1 y14.2.2.2.1 y14.2.2.2.2.1 y14.2.2.2.2.2.1 y14.2.2.2.2.2.2) y28 e26 (sel [4]) (sel_inj rfl rfl)) (a_ (LO.Le.refl (.var (c_T_gather_Gather (T_gather_Gather.mk y14.2.2.1 y14.2.2.2.1 y14.2.2.2.2.1 y14.2.2.2.2.2.1 y14.2.2.2.2.2.2)))) tr)) tr) (a_ (a_ (a_ tr (le_ 11 11 rfl)) tr) (a_ (a_ tr (a_ (leB (k_T_api_Config y28 old)) tr)) (r2_ (a_ (a_ tr (a_ (leB c29) tr)) (a_ (a_ (a_ (parrellaw19_alive_tri  y31 e30) tr) tr) (r2_ tr))))))))))))))))))))))) tr)))))))) tr) (by kernel_rfl) rfl
                  · skip
                    obtain rfl := Option.some.inj h
                    exact run_ret mixed (L := []) (n := 42) (s := [.reg [], .reg [(1, { call := some (parrelref06_May_v y2, [], []) }), (3, { v := some (.bool false) }), (5, { call := some (parrelref06_May_v y5, [], []) }), (8, { v := some (.bool false) }), (14, { v := some (.bool false) })], .reg [], .reg [(2, { call := some (parrelref06_Of_v y10, [], []) }), (6, { v := some (.bool false) })], .reg [], .reg [(3, { call := some ((parrellaw19_gathered_2_vB y14.2.2).ren (sel [3, 1, 0, 4]), preOf (sel [3, 1, 0, 4]) 0 (parrellaw19_gathered_2_objs 1 old sets.a1 sets.a0 young old), upOf (sel [3, 1, 0, 4]) (parrellaw19_gathered_2_upB 1 old sets.a1 sets.a0 young old y14.2.2)) })], .reg [], .reg [(1, { call := some ((gather_Gather_Enough_v y17).ren (sel [4]), preOf (sel [4]) 0 (gather_Gather_Enough_objs (T_gather_Gather.mk y14.2.2.1 y14.2.2.2.1 y14.2.2.2.2.1 y14.2.2.2.2.2.1 y14.2.2.2.2.2.2)), upOf (sel [4]) (gather_Gather_Enough_up (T_gather_Gather.mk y14.2.2.1 y14.2.2.2.1 y14.2.2.2.2.1 y14.2.2.2.2.2.1 y14.2.2.2.2.2.2) y17)) }), (3, { v := some (.bool false) }), (5, { call := some ((gather_Gather_Conf_v y20).ren (sel [4]), preOf (sel [4]) 0 (gather_Gather_Conf_objs (T_gather_Gather.mk y14.2.2.1 y14.2.2.2.1 y14.2.2.2.2.1 y14.2.2.2.2.2.1 y14.2.2.2.2.2.2)), upOf (sel [4]) (gather_Gather_Conf_up (T_gather_Gather.mk y14.2.2.1 y14.2.2.2.1 y14.2.2.2.2.1 y14.2.2.2.2.2.1 y14.2.2.2.2.2.2) y20)) }), (7, { v := some (.bool (decide (y20 = young))) }), (9, { v := some (.bool true) }), (11, { call := some ((gather_Gather_Conf_v y24).ren (sel [4]), preOf (sel [4]) 0 (gather_Gather_Conf_objs (T_gather_Gather.mk y14.2.2.1 y14.2.2.2.1 y14.2.2.2.2.1 y14.2.2.2.2.2.1 y14.2.2.2.2.2.2)), upOf (sel [4]) (gather_Gather_Conf_up (T_gather_Gather.mk y14.2.2.1 y14.2.2.2.1 y14.2.2.2.2.1 y14.2.2.2.2.2.1 y14.2.2.2.2.2.2) y24)) }), (13, { v := some (.bool (decide (y24 = young))) }), (14, { v := some (.bool false) }), (16, { call := some ((gather_Gather_Conf_v y28).ren (sel [4]), preOf (sel [4]) 0 (gather_Gather_Conf_objs (T_gather_Gather.mk y14.2.2.1 y14.2.2.2.1 y14.2.2.2.2.1 y14.2.2.2.2.2.1 y14.2.2.2.2.2.2)), upOf (sel [4]) (gather_Gather_Conf_up (T_gather_Gather.mk y14.2.2.1 y14.2.2.2.1 y14.2.2.2.2.1 y14.2.2.2.2.2.1 y14.2.2.2.2.2.2) y28)) }), (18, { v := some (.bool (decide (y28 = old))) }), (21, { v := some (.bool false) })]])
                      (a_ (a_ (r4_ tr) (a_ (a_ (a_ (a_ tr (le_ 11 11 rfl)) tr) (a_ (a_ (a_ (parrelref06_May_tri old y2 e1) tr) tr) (r1_ (a_ (a_ tr (a_ (leB c3) tr)) (a_ (a_ (a_ tr (le_ 11 11 rfl)) tr) (a_ (a_ (a_ (parrelref06_May_tri young y5 e4) tr) tr) (r2_ (a_ (a_ tr (a_ (leB c6) tr)) (r1_ (a_ (a_ (a_ tr (lt_ 0 11 rfl)) tr) (r1_ (a_ (a_ (a_ tr (lt_ 0 11 rfl)) tr) (r1_ (a_ (a_ tr (a_ (leB c7) tr)) tr)))))))))))))) (a_ (a_ (a_ (a_ (lei_ 0 0 rfl) (lti_ 0 2 rfl)) tr) (a_ (a_ (a_ tr (lt_ 0 2 rfl)) tr) (a_ (a_ (a_ (lei_ 0 1 rfl) (lti_ 1 2 rfl)) tr) (a_ (a_ (a_ tr (lt_ 1 2 rfl)) tr) (r1_ (a_ (a_ (a_ (Eq.refl 1) (a_ (le_ 1 1 rfl) (Eq.refl 0))) tr) (r1_ tr))))))) (a_ (a_ (a_ (a_ tr (le_ 11 11 rfl)) tr) (a_ (a_ (a_ tr (lt_ 0 1 rfl)) tr) (a_ (a_ (a_ (parrelref06_Of_tri old sets.a0 y10 e8) tr) tr) (r1_ (a_ (a_ (a_ tr (lt_ 2 11 rfl)) tr) (r1_ (a_ (a_ tr (a_ (leB c11) tr)) tr))))))) (a_ (r2_ tr) (a_ (a_ (a_ (a_ tr (le_ 11 11 rfl)) tr) (r2_ (a_ (a_ (a_ (parrellaw19_gathered_2_okB 1 old sets.a1 sets.a0 young old y14.2.2 y14.2.1 (altB e12 c15) (sel [3, 1, 0, 4]) (sel_inj rfl rfl)) (a_ (LO.Le.ofVar ([.int .u64 sets.a0])) (a_ (LO.Le.ofVar (c_T_api_Config young)) (a_ (LO.Le.ofVar (c_T_api_Config old)) tr)))) tr) (r1_ tr)))) (a_ (r2_ tr) (a_ (r1_ (a_ (a_ (a_ (gather_Gather_Enough_ok (T_gather_Gather.mk y14.2.2.1 y14.2.2.2.1 y14.2.2.2.2.1 y14.2.2.2.2.2.1 y14.2.2.2.2.2.2) y17 e16 (sel [4]) (sel_inj rfl rfl)) (a_ (LO.Le.refl (.var (c_T_gather_Gather (T_gather_Gather.mk y14.2.2.1 y14.2.2.2.1 y14.2.2.2.2.1 y14.2.2.2.2.2.1 y14.2.2.2.2.2.2)))) tr)) tr) (r1_ (a_ (a_ tr (a_ (leB c18) tr)) (r1_ (a_ (a_ (a_ (gather_Gather_Conf_ok (T_gather_Gather.mk y14.2.2.1 y14.2.2.2.1 y14.2.2.2.2.1 y14.2.2.2.2.2.1 y14.2.2.2.2.2.2) y20 e19 (sel [4]) (sel_inj rfl rfl)) (a_ (LO.Le.refl (.var (c_T_gather_Gather (T_gather_Gather.mk y14.2.2.1 y14.2.2.2.1 y14.2.2.2.2.1 y14.2.2.2.2.2.1 y14.2.2.2.2.2.2)))) tr)) tr) (a_ (a_ (a_ tr (le_ 11 11 rfl)) tr) (a_ (a_ tr (a_ (leB (k_T_api_Config y20 young)) tr)) (r1_ (a_ (a_ tr (a_ (leB c21) tr)) (r1_ (a_ (a_ (a_ (gather_Gather_Conf_ok (T_gather_Gather.mk y14.2.2.1 y14.2.2.2.1 y14.2.2.2.2.1 y14.2.2.2.2.2.1 y14.2.2.2.2.2.2) y24 e22 (sel [4]) (sel_inj rfl rfl)) (a_ (LO.Le.refl (.var (c_T_gather_Gather (T_gather_Gather.mk y14.2.2.1 y14.2.2.2.1 y14.2.2.2.2.1 y14.2.2.2.2.2.1 y14.2.2.2.2.2.2)))) tr)) tr) (a_ (a_ (a_ tr (le_ 11 11 rfl)) tr) (a_ (a_ tr (a_ (leB (k_T_api_Config y24 young)) tr)) (a_ (a_ tr (a_ (leB c25) tr)) (r1_ (a_ (a_ (a_ (gather_Gather_Conf_ok (T_gather_Gather.mk y14.2.2.1 y14.2.2.2.1 y14.2.2.2.2.1 y14.2.2.2.2.2.1 y14.2.2.2.2.2.2) y28 e26 (sel [4]) (sel_inj rfl rfl)) (a_ (LO.Le.refl (.var (c_T_gather_Gather (T_gather_Gather.mk y14.2.2.1 y14.2.2.2.1 y14.2.2.2.2.1 y14.2.2.2.2.2.1 y14.2.2.2.2.2.2)))) tr)) tr) (a_ (a_ (a_ tr (le_ 11 11 rfl)) tr) (a_ (a_ tr (a_ (leB (k_T_api_Config y28 old)) tr)) (r2_ (a_ (a_ tr (a_ (leB c29) tr)) (a_ tr (r2_ tr))))))))))))))))))))))) tr)))))))) tr) (by kernel_rfl) rfl
              · skip
                obtain rfl := Option.some.inj h
                exact run_ret mixed (L := []) (n := 42) (s := [.reg [], .reg [(1, { call := some (parrelref06_May_v y2, [], []) }), (3, { v := some (.bool false) }), (5, { call := some (parrelref06_May_v y5, [], []) }), (8, { v := some (.bool false) }), (14, { v := some (.bool false) })], .reg [], .reg [(2, { call := some (parrelref06_Of_v y10, [], []) }), (6, { v := some (.bool false) })], .reg [], .reg [(3, { call := some ((parrellaw19_gathered_2_vB y14.2.2).ren (sel [3, 1, 0, 4]), preOf (sel [3, 1, 0, 4]) 0 (parrellaw19_gathered_2_objs 1 old sets.a1 sets.a0 young old), upOf (sel [3, 1, 0, 4]) (parrellaw19_gathered_2_upB 1 old sets.a1 sets.a0 young old y14.2.2)) })], .reg [], .reg [(1, { call := some ((gather_Gather_Enough_v y17).ren (sel [4]), preOf (sel [4]) 0 (gather_Gather_Enough_objs (T_gather_Gather.mk y14.2.2.1 y14.2.2.2.1 y14.2.2.2.2.1 y14.2.2.2.2.2.1 y14.2.2.2.2.2.2)), upOf (sel [4]) (gather_Gather_Enough_up (T_gather_Gather.mk y14.2.2.1 y14.2.2.2.1 y14.2.2.2.2.1 y14.2.2.2.2.2.1 y14.2.2.2.2.2.2) y17)) }), (3, { v := some (.bool false) }), (5, { call := some ((gather_Gather_Conf_v y20).ren (sel [4]), preOf (sel [4]) 0 (gather_Gather_Conf_objs (T_gather_Gather.mk y14.2.2.1 y14.2.2.2.1 y14.2.2.2.2.1 y14.2.2.2.2.2.1 y14.2.2.2.2.2.2)), upOf (sel [4]) (gather_Gather_Conf_up (T_gather_Gather.mk y14.2.2.1 y14.2.2.2.1 y14.2.2.2.2.1 y14.2.2.2.2.2.1 y14.2.2.2.2.2.2) y20)) }), (7, { v := some (.bool (decide (y20 = young))) }), (9, { v := some (.bool false) })]])
                  (a_ (a_ (r4_ tr) (a_ (a_ (a_ (a_ tr (le_ 11 11 rfl)) tr) (a_ (a_ (a_ (parrelref06_May_tri old y2 e1) tr) tr) (r1_ (a_ (a_ tr (a_ (leB c3) tr)) (a_ (a_ (a_ tr (le_ 11 11 rfl)) tr) (a_ (a_ (a_ (parrelref06_May_tri young y5 e4) tr) tr) (r2_ (a_ (a_ tr (a_ (leB c6) tr)) (r1_ (a_ (a_ (a_ tr (lt_ 0 11 rfl)) tr) (r1_ (a_ (a_ (a_ tr (lt_ 0 11 rfl)) tr) (r1_ (a_ (a_ tr (a_ (leB c7) tr)) tr)))))))))))))) (a_ (a_ (a_ (a_ (lei_ 0 0 rfl) (lti_ 0 2 rfl)) tr) (a_ (a_ (a_ tr (lt_ 0 2 rfl)) tr) (a_ (a_ (a_ (lei_ 0 1 rfl) (lti_ 1 2 rfl)) tr) (a_ (a_ (a_ tr (lt_ 1 2 rfl)) tr) (r1_ (a_ (a_ (a_ (Eq.refl 1) (a_ (le_ 1 1 rfl) (Eq.refl 0))) tr) (r1_ tr))))))) (a_ (a_ (a_ (a_ tr (le_ 11 11 rfl)) tr) (a_ (a_ (a_ tr (lt_ 0 1 rfl)) tr) (a_ (a_ (a_ (parrelref06_Of_tri old sets.a0 y10 e8) tr) tr) (r1_ (a_ (a_ (a_ tr (lt_ 2 11 rfl)) tr) (r1_ (a_ (a_ tr (a_ (leB c11) tr)) tr))))))) (a_ (r2_ tr) (a_ (a_ (a_ (a_ tr (le_ 11 11 rfl)) tr) (r2_ (a_ (a_ (a_ (parrellaw19_gathered_2_okB 1 old sets.a1 sets.a0 young old y14.2.2 y14.2.1 (altB e12 c15) (sel [3, 1, 0, 4]) (sel_inj rfl rfl)) (a_ (LO.Le.ofVar ([.int .u64 sets.a0])) (a_ (LO.Le.ofVar (c_T_api_Config young)) (a_ (LO.Le.ofVar (c_T_api_Config old)) tr)))) tr) (r1_ tr)))) (a_ (r2_ tr) (a_ (r1_ (a_ (a_ (a_ (gather_Gather_Enough_ok (T_gather_Gather.mk y14.2.2.1 y14.2.2.2.1 y14.2.2.2.2.1 y14.2.2.2.2.2.1 y14.2.2.2.2.2.2) y17 e16 (sel [4]) (sel_inj rfl rfl)) (a_ (LO.Le.refl (.var (c_T_gather_Gather (T_gather_Gather.mk y14.2.2.1 y14.2.2.2.1 y14.2.2.2.2.1 y14.2.2.2.2.2.1 y14.2.2.2.2.2.2)))) tr)) tr) (r1_ (a_ (a_ tr (a_ (leB c18) tr)) (r1_ (a_ (a_ (a_ (gather_Gather_Conf_ok (T_gather_Gather.mk y14.2.2.1 y14.2.2.2.1 y14.2.2.2.2.1 y14.2.2.2.2.2.1 y14.2.2.2.2.2.2) y20 e19 (sel [4]) (sel_inj rfl rfl)) (a_ (LO.Le.refl (.var (c_T_gather_Gather (T_gather_Gather.mk y14.2.2.1 y14.2.2.2.1 y14.2.2.2.2.1 y14.2.2.2.2.2.1 y14.2.2.2.2.2.2)))) tr)) tr) (a_ (a_ (a_ tr (le_ 11 11 rfl)) tr) (a_ (a_ tr (a_ (leB (k_T_api_Config y20 young)) tr)) (r1_ (a_ (a_ tr (a_ (leB c21) tr)) (t2_ (t8_ (r2_ (a_ tr (r2_ tr))))))))))))))) tr)))))))) tr) (by kernel_rfl) rfl

theorem parrellaw19_GatherChains_tri (old : T_api_Config) (young : T_api_Config) (sets : A2 (Int)) (r : (Bool)) (h : parrellaw19_GatherChains old young sets = some r) : FnTri Tryd.prog 7 [v_T_api_Config old, v_T_api_Config young, .agg [.int .u64 sets.a0, .int .u64 sets.a1]] [] (parrellaw19_GatherChains_v r) [] := FnTri.none (parrellaw19_GatherChains_ok old young sets r h) rfl rfl

end
end Go.Proofs.YtffmmflapagkhaaDoor.Wk
