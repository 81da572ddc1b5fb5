/- Printed by tr.py: Go functions as Lean functions, with the proofs that they walk so. -/
import Derived.Test.YtdchgoaokceomaaDoorScrWb
namespace Go.Proofs.YtdchgoaokceomaaDoor.Wk
open Go Go.Cn
set_option maxRecDepth 100000
set_option maxHeartbeats 4000000
set_option linter.unusedVariables false
set_option linter.unusedSimpArgs false
/-- parrel/parrelref27.kept -/

def parrelref27_kept_v (r : (T_parrelref27_Step)) : LV := v_T_parrelref27_Step r

def parrelref27_kept_T1000019 (s : T_parrelref27_Step)  : List LV := [.any, .any, .ptr 0 0 0, .ptr 1 0 0, .any, .any, .any, .any, .any, .any, .any, .any, .any, .any, .any, .any, .any, .any, .any, .any, .any, .any, .any, .any, .any, .any, .any, .any, .any, .any, .any, .any, .any, .any, .any, .any, .any, .any, .any, .any, .any, .any, .any, .any, .any, .any, .any, .any, .any, .any, .any, .any, .any, .any, .any, .any, .any, .any, .any, .any, .any, .any, .any, .any, .any, .any]

def parrelref27_kept_H1000019 (s : T_parrelref27_Step)  : Heap := [some (.var [.int .u8 0, .int .i64 0, .int .i64 0, .int .i64 0, .bool false, .int .u8 0, .int .u32 0, .int .u8 0, .int .u8 0, .int .u32 0, .int .u32 0, .int .u8 0, .int .u8 0, .int .u8 0, .int .u8 0, .int .u8 0, .int .u8 0, .int .u8 0, .int .u8 0, .str [], .int .u8 0, .int .u8 0, .nilsl, .int .i64 0, .nilsl]), some (.var [.int .u8 s.f_Kind, .int .i64 0, .int .i64 s.f_Wire, .int .i64 0, .bool false, .int .u8 0, .int .u32 0, .int .u8 0, .int .u8 0, .int .u32 0, .int .u32 0, .int .u8 0, .int .u8 0, .int .u8 0, .int .u8 0, .int .u8 0, .int .u8 0, .int .u8 0, .int .u8 0, .str [], .int .u8 0, .int .u8 0, .nilsl, .int .i64 0, .nilsl])]

def parrelref27_kept_T1001019 (s : T_parrelref27_Step)  : List LV := [.any, .any, .ptr 0 0 0, .ptr 1 0 0, .any, .any, .any, .any, .any, .any, .any, .any, .any, .any, .any, .any, .any, .any, .any, .any, .any, .any, .any, .any, .any, .any, .any, .any, .any, .any, .any, .any, .any, .any, .any, .any, .any, .any, .any, .any, .any, .any, .any, .any, .any, .any, .any, .any, .any, .any, .any, .any, .any, .any, .any, .any, .any, .any, .any, .any, .any, .any, .any, .any, .any, .any]

def parrelref27_kept_H1001019 (s : T_parrelref27_Step)  : Heap := [some (.var [.int .u8 0, .int .i64 0, .int .i64 0, .int .i64 0, .bool false, .int .u8 0, .int .u32 0, .int .u8 0, .int .u8 0, .int .u32 0, .int .u32 0, .int .u8 0, .int .u8 0, .int .u8 0, .int .u8 0, .int .u8 0, .int .u8 0, .int .u8 0, .int .u8 0, .str [], .int .u8 0, .int .u8 0, .nilsl, .int .i64 0, .nilsl]), some (.var [.int .u8 s.f_Kind, .int .i64 s.f_Node, .int .i64 0, .int .i64 0, .bool false, .int .u8 0, .int .u32 0, .int .u8 0, .int .u8 0, .int .u32 0, .int .u32 0, .int .u8 0, .int .u8 0, .int .u8 0, .int .u8 0, .int .u8 0, .int .u8 0, .int .u8 0, .int .u8 0, .str [], .int .u8 0, .int .u8 0, .nilsl, .int .i64 0, .nilsl])]

def parrelref27_kept_T1000014 (s : T_parrelref27_Step)  : List LV := [.any, .ptr 0 0 0, .ptr 1 0 0, .ptr 2 0 0, .any, .any, .any, .any, .any, .any, .any, .any, .any, .any, .any, .any, .any, .any, .any, .any, .any, .any, .any, .any, .any, .any, .any, .any, .any, .any, .any, .any, .any, .any, .any, .any, .any, .any, .any, .any, .any, .any, .any, .any, .any, .any, .any, .any, .any, .any, .any, .any, .any, .any, .any, .any, .any, .any, .any, .any, .any, .any, .any, .any, .any, .any]

def parrelref27_kept_H1000014 (s : T_parrelref27_Step)  : Heap := [some (.var (c_T_parrelref27_Step s)), some (.var [.int .u8 0, .int .i64 0, .int .i64 0, .int .i64 0, .bool false, .int .u8 0, .int .u32 0, .int .u8 0, .int .u8 0, .int .u32 0, .int .u32 0, .int .u8 0, .int .u8 0, .int .u8 0, .int .u8 0, .int .u8 0, .int .u8 0, .int .u8 0, .int .u8 0, .str [], .int .u8 0, .int .u8 0, .nilsl, .int .i64 0, .nilsl]), some (.var [.int .u8 s.f_Kind, .int .i64 0, .int .i64 0, .int .i64 0, .bool false, .int .u8 0, .int .u32 0, .int .u8 0, .int .u8 0, .int .u32 0, .int .u32 0, .int .u8 0, .int .u8 0, .int .u8 0, .int .u8 0, .int .u8 0, .int .u8 0, .int .u8 0, .int .u8 0, .str [], .int .u8 0, .int .u8 0, .nilsl, .int .i64 0, .nilsl])]

def parrelref27_kept_T1000015 (s : T_parrelref27_Step)  : List LV := [.any, .ptr 0 0 0, .ptr 1 0 0, .ptr 2 0 0, .any, .any, .any, .any, .int .u8 s.f_Kind, .any, .any, .any, .any, .any, .any, .any, .any, .any, .any, .any, .any, .any, .any, .any, .any, .any, .any, .any, .any, .any, .any, .any, .any, .any, .any, .any, .any, .any, .any, .any, .any, .any, .any, .any, .any, .any, .any, .any, .any, .any, .any, .any, .any, .any, .any, .any, .any, .any, .any, .any, .any, .any, .any, .any, .any, .any]

def parrelref27_kept_H1000015 (s : T_parrelref27_Step)  : Heap := [some (.var (c_T_parrelref27_Step s)), some (.var [.int .u8 0, .int .i64 0, .int .i64 0, .int .i64 0, .bool false, .int .u8 0, .int .u32 0, .int .u8 0, .int .u8 0, .int .u32 0, .int .u32 0, .int .u8 0, .int .u8 0, .int .u8 0, .int .u8 0, .int .u8 0, .int .u8 0, .int .u8 0, .int .u8 0, .str [], .int .u8 0, .int .u8 0, .nilsl, .int .i64 0, .nilsl]), some (.var [.int .u8 s.f_Kind, .int .i64 0, .int .i64 0, .int .i64 0, .bool false, .int .u8 0, .int .u32 0, .int .u8 0, .int .u8 0, .int .u32 0, .int .u32 0, .int .u8 0, .int .u8 0, .int .u8 0, .int .u8 0, .int .u8 0, .int .u8 0, .int .u8 0, .int .u8 0, .str [], .int .u8 0, .int .u8 0, .nilsl, .int .i64 0, .nilsl])]

def parrelref27_kept_c19 (s : T_parrelref27_Step)   : Option ((T_parrelref27_Step)) :=
  some (T_parrelref27_Step.mk s.f_Kind 0 s.f_Wire 0 false (T_parrelref27_Call.mk 0 0 0 (T_api_Tx.mk 0 0 0) (A8.mk 0 0 0 0 0 0 0 0) [] 0 0 ([] : List (Int))) 0 ([] : List (Int)))

def parrelref27_kept_c1019 (s : T_parrelref27_Step)   : Option ((T_parrelref27_Step)) :=
  some (T_parrelref27_Step.mk s.f_Kind s.f_Node 0 0 false (T_parrelref27_Call.mk 0 0 0 (T_api_Tx.mk 0 0 0) (A8.mk 0 0 0 0 0 0 0 0) [] 0 0 ([] : List (Int))) 0 ([] : List (Int)))

def parrelref27_kept_c14 (s : T_parrelref27_Step)   : Option ((T_parrelref27_Step)) :=
  some (T_parrelref27_Step.mk s.f_Kind s.f_Node 0 s.f_N s.f_Cut (T_parrelref27_Call.mk 0 0 0 (T_api_Tx.mk 0 0 0) (A8.mk 0 0 0 0 0 0 0 0) [] 0 0 ([] : List (Int))) 0 s.f_Bytes)

def parrelref27_kept_c15 (s : T_parrelref27_Step)   : Option ((T_parrelref27_Step)) :=
  if ((s.f_Kind == 9) : Bool) then
    some (T_parrelref27_Step.mk s.f_Kind s.f_Node 0 s.f_N false (T_parrelref27_Call.mk 0 0 0 (T_api_Tx.mk 0 0 0) (A8.mk 0 0 0 0 0 0 0 0) [] 0 0 ([] : List (Int))) 0 ([] : List (Int)))
  else
    if ((s.f_Kind == 10) : Bool) then
      some (T_parrelref27_Step.mk s.f_Kind s.f_Node 0 0 false (T_parrelref27_Call.mk 0 0 0 (T_api_Tx.mk 0 0 0) (A8.mk 0 0 0 0 0 0 0 0) [] 0 0 ([] : List (Int))) s.f_To s.f_Bytes)
    else
      some (T_parrelref27_Step.mk s.f_Kind 0 0 0 false (T_parrelref27_Call.mk 0 0 0 (T_api_Tx.mk 0 0 0) (A8.mk 0 0 0 0 0 0 0 0) [] 0 0 ([] : List (Int))) 0 ([] : List (Int)))

def parrelref27_kept (s : T_parrelref27_Step) : Option ((T_parrelref27_Step)) :=
  if ((s.f_Kind == 1) : Bool) then
    (parrelref27_call s.f_Call).bind fun y3 =>
    some (T_parrelref27_Step.mk s.f_Kind s.f_Node 0 0 false y3 0 ([] : List (Int)))
  else
    if ((s.f_Kind == 2) : Bool) then
      some (T_parrelref27_Step.mk s.f_Kind 0 s.f_Wire 0 false (T_parrelref27_Call.mk 0 0 0 (T_api_Tx.mk 0 0 0) (A8.mk 0 0 0 0 0 0 0 0) [] 0 0 ([] : List (Int))) 0 ([] : List (Int)))
    else
      if ((s.f_Kind == 3) : Bool) then
        some (T_parrelref27_Step.mk s.f_Kind 0 s.f_Wire 0 false (T_parrelref27_Call.mk 0 0 0 (T_api_Tx.mk 0 0 0) (A8.mk 0 0 0 0 0 0 0 0) [] 0 0 ([] : List (Int))) 0 ([] : List (Int)))
      else
        if ((s.f_Kind == 4) : Bool) then
          some (T_parrelref27_Step.mk s.f_Kind 0 s.f_Wire 0 false (T_parrelref27_Call.mk 0 0 0 (T_api_Tx.mk 0 0 0) (A8.mk 0 0 0 0 0 0 0 0) [] 0 0 ([] : List (Int))) 0 ([] : List (Int)))
        else
          if ((s.f_Kind == 5) : Bool) then
            parrelref27_kept_c19 s  
          else
            if ((s.f_Kind == 6) : Bool) then
              parrelref27_kept_c1019 s  
            else
              if ((s.f_Kind == 7) : Bool) then
                parrelref27_kept_c1019 s  
              else
                if ((s.f_Kind == 8) : Bool) then
                  parrelref27_kept_c14 s  
                else
                  parrelref27_kept_c15 s  

theorem parrelref27_kept_c19_ok {w0 : World} {W : Nat → Prop} {μ0 : Emb} (hμ : ∀ c p, μ0 c = some p → c < 0) (s : T_parrelref27_Step)   (r : (T_parrelref27_Step)) (h : parrelref27_kept_c19 s   = some r) : kont Tryd.prog w0 W μ0 (FnPost Tryd.prog Tryd.f31 0 0 (parrelref27_kept_v r) []) (kAtR (bodyOf Tryd.f31) 19) none (parrelref27_kept_T1000019 s ) (parrelref27_kept_H1000019 s ) := by
  unfold parrelref27_kept_c19 at h
  obtain rfl := Option.some.inj h
  exact run_ret mixed (L := []) (n := 13) (s := [.reg [], .wk [] [(0, .var [.int .u8 s.f_Kind, .int .i64 0, .int .i64 s.f_Wire, .int .i64 0, .bool false, .int .u8 0, .int .u32 0, .int .u8 0, .int .u8 0, .int .u32 0, .int .u32 0, .int .u8 0, .int .u8 0, .int .u8 0, .int .u8 0, .int .u8 0, .int .u8 0, .int .u8 0, .int .u8 0, .str [], .int .u8 0, .int .u8 0, .ds 1 (([] : List (Int))).length (rowF (cInt .u8) default ([] : List (Int))), .int .i64 0, .nilsl])], .wk [] [(0, .var (c_T_parrelref27_Step (T_parrelref27_Step.mk s.f_Kind 0 s.f_Wire 0 false (T_parrelref27_Call.mk 0 0 0 (T_api_Tx.mk 0 0 0) (A8.mk 0 0 0 0 0 0 0 0) [] 0 0 ([] : List (Int))) 0 ([] : List (Int)))))]])
    (a_ (a_ (m_ 25 25 rfl (a_ (a_ (a_ (Eq.refl 25) (a_ (le_ 25 25 rfl) (Eq.refl 0))) tr) tr)) (a_ (a_ tr (a_ (LO.Sub.var (lel_set [.int .u8 s.f_Kind, .int .i64 0, .int .i64 s.f_Wire, .int .i64 0, .bool false, .int .u8 0, .int .u32 0, .int .u8 0, .int .u8 0, .int .u32 0, .int .u32 0, .int .u8 0, .int .u8 0, .int .u8 0, .int .u8 0, .int .u8 0, .int .u8 0, .int .u8 0, .int .u8 0, .str [], .int .u8 0, .int .u8 0, .nilsl, .int .i64 0, .nilsl] 22 .nilsl (.ds 1 (([] : List (Int))).length (rowF (cInt .u8) default ([] : List (Int)))) rfl (le_nil_ds 1 (rowF (cInt .u8) default [])))) tr)) (a_ (a_ tr (a_ (LO.Sub.var (lel_set [.int .u8 s.f_Kind, .int .i64 0, .int .i64 s.f_Wire, .int .i64 0, .bool false, .int .u8 0, .int .u32 0, .int .u8 0, .int .u8 0, .int .u32 0, .int .u32 0, .int .u8 0, .int .u8 0, .int .u8 0, .int .u8 0, .int .u8 0, .int .u8 0, .int .u8 0, .int .u8 0, .str [], .int .u8 0, .int .u8 0, .ds 1 (([] : List (Int))).length (rowF (cInt .u8) default ([] : List (Int))), .int .i64 0, .nilsl] 24 .nilsl (.ds 1 (([] : List (Int))).length (rowF (cInt .u8) default ([] : List (Int)))) rfl (le_nil_ds 1 (rowF (cInt .u8) default [])))) tr)) tr))) (a_ (a_ tr (le_ 25 25 rfl)) tr)) (by kernel_rfl) rfl

theorem parrelref27_kept_c1019_ok {w0 : World} {W : Nat → Prop} {μ0 : Emb} (hμ : ∀ c p, μ0 c = some p → c < 0) (s : T_parrelref27_Step)   (r : (T_parrelref27_Step)) (h : parrelref27_kept_c1019 s   = some r) : kont Tryd.prog w0 W μ0 (FnPost Tryd.prog Tryd.f31 0 0 (parrelref27_kept_v r) []) (kAtR (bodyOf Tryd.f31) 19) none (parrelref27_kept_T1001019 s ) (parrelref27_kept_H1001019 s ) := by
  unfold parrelref27_kept_c1019 at h
  obtain rfl := Option.some.inj h
  exact run_ret mixed (L := []) (n := 13) (s := [.reg [], .wk [] [(0, .var [.int .u8 s.f_Kind, .int .i64 s.f_Node, .int .i64 0, .int .i64 0, .bool false, .int .u8 0, .int .u32 0, .int .u8 0, .int .u8 0, .int .u32 0, .int .u32 0, .int .u8 0, .int .u8 0, .int .u8 0, .int .u8 0, .int .u8 0, .int .u8 0, .int .u8 0, .int .u8 0, .str [], .int .u8 0, .int .u8 0, .ds 1 (([] : List (Int))).length (rowF (cInt .u8) default ([] : List (Int))), .int .i64 0, .nilsl])], .wk [] [(0, .var (c_T_parrelref27_Step (T_parrelref27_Step.mk s.f_Kind s.f_Node 0 0 false (T_parrelref27_Call.mk 0 0 0 (T_api_Tx.mk 0 0 0) (A8.mk 0 0 0 0 0 0 0 0) [] 0 0 ([] : List (Int))) 0 ([] : List (Int)))))]])
    (a_ (a_ (m_ 25 25 rfl (a_ (a_ (a_ (Eq.refl 25) (a_ (le_ 25 25 rfl) (Eq.refl 0))) tr) tr)) (a_ (a_ tr (a_ (LO.Sub.var (lel_set [.int .u8 s.f_Kind, .int .i64 s.f_Node, .int .i64 0, .int .i64 0, .bool false, .int .u8 0, .int .u32 0, .int .u8 0, .int .u8 0, .int .u32 0, .int .u32 0, .int .u8 0, .int .u8 0, .int .u8 0, .int .u8 0, .int .u8 0, .int .u8 0, .int .u8 0, .int .u8 0, .str [], .int .u8 0, .int .u8 0, .nilsl, .int .i64 0, .nilsl] 22 .nilsl (.ds 1 (([] : List (Int))).length (rowF (cInt .u8) default ([] : List (Int)))) rfl (le_nil_ds 1 (rowF (cInt .u8) default [])))) tr)) (a_ (a_ tr (a_ (LO.Sub.var (lel_set [.int .u8 s.f_Kind, .int .i64 s.f_Node, .int .i64 0, .int .i64 0, .bool false, .int .u8 0, .int .u32 0, .int .u8 0, .int .u8 0, .int .u32 0, .int .u32 0, .int .u8 0, .int .u8 0, .int .u8 0, .int .u8 0, .int .u8 0, .int .u8 0, .int .u8 0, .int .u8 0, .str [], .int .u8 0, .int .u8 0, .ds 1 (([] : List (Int))).length (rowF (cInt .u8) default ([] : List (Int))), .int .i64 0, .nilsl] 24 .nilsl (.ds 1 (([] : List (Int))).length (rowF (cInt .u8) default ([] : List (Int)))) rfl (le_nil_ds 1 (rowF (cInt .u8) default [])))) tr)) tr))) (a_ (a_ tr (le_ 25 25 rfl)) tr)) (by kernel_rfl) rfl

theorem parrelref27_kept_c14_ok {w0 : World} {W : Nat → Prop} {μ0 : Emb} (hμ : ∀ c p, μ0 c = some p → c < 0) (s : T_parrelref27_Step)   (r : (T_parrelref27_Step)) (h : parrelref27_kept_c14 s   = some r) : kont Tryd.prog w0 W μ0 (FnPost Tryd.prog Tryd.f31 0 0 (parrelref27_kept_v r) []) (kAtR (bodyOf Tryd.f31) 14) none (parrelref27_kept_T1000014 s ) (parrelref27_kept_H1000014 s ) := by
  unfold parrelref27_kept_c14 at h
  obtain rfl := Option.some.inj h
  exact run_ret mixed (L := []) (n := 16) (s := [.reg [], .reg [], .wk [] [(1, .var (c_T_parrelref27_Step (T_parrelref27_Step.mk s.f_Kind s.f_Node 0 s.f_N s.f_Cut (T_parrelref27_Call.mk 0 0 0 (T_api_Tx.mk 0 0 0) (A8.mk 0 0 0 0 0 0 0 0) [] 0 0 ([] : List (Int))) 0 s.f_Bytes)))]])
    (a_ (a_ (r1_ (l_ 1 25 rfl (r1_ (l_ 3 25 rfl (r1_ (l_ 4 25 rfl (r1_ (l_ 24 25 rfl (r1_ (a_ (a_ (a_ (Eq.refl 1) (a_ (le_ 2 25 rfl) (Eq.refl 0))) tr) (r1_ (a_ (a_ (a_ (Eq.refl 1) (a_ (le_ 4 25 rfl) (Eq.refl 0))) tr) (r1_ (a_ (a_ (a_ (Eq.refl 1) (a_ (le_ 5 25 rfl) (Eq.refl 0))) tr) (r1_ (a_ (a_ (a_ (Eq.refl 1) (a_ (le_ 25 25 rfl) (Eq.refl 0))) tr) tr)))))))))))))))) (a_ (m_ 25 25 rfl (a_ (a_ (a_ (Eq.refl 25) (a_ (le_ 25 25 rfl) (Eq.refl 0))) tr) tr)) (a_ (a_ tr (a_ (LO.Sub.var (lel_set [.int .u8 s.f_Kind, .int .i64 s.f_Node, .int .i64 0, .int .i64 s.f_N, .bool s.f_Cut, .int .u8 0, .int .u32 0, .int .u8 0, .int .u8 0, .int .u32 0, .int .u32 0, .int .u8 0, .int .u8 0, .int .u8 0, .int .u8 0, .int .u8 0, .int .u8 0, .int .u8 0, .int .u8 0, .str [], .int .u8 0, .int .u8 0, .nilsl, .int .i64 0, .ds 1 (s.f_Bytes).length (rowF (cInt .u8) default s.f_Bytes)] 22 .nilsl (.ds 1 (([] : List (Int))).length (rowF (cInt .u8) default ([] : List (Int)))) rfl (le_nil_ds 1 (rowF (cInt .u8) default [])))) tr)) tr))) (a_ (a_ tr (le_ 25 25 rfl)) tr)) (by kernel_rfl) rfl

theorem parrelref27_kept_c15_ok {w0 : World} {W : Nat → Prop} {μ0 : Emb} (hμ : ∀ c p, μ0 c = some p → c < 0) (s : T_parrelref27_Step)   (r : (T_parrelref27_Step)) (h : parrelref27_kept_c15 s   = some r) : kont Tryd.prog w0 W μ0 (FnPost Tryd.prog Tryd.f31 0 0 (parrelref27_kept_v r) []) (kAtR (bodyOf Tryd.f31) 15) none (parrelref27_kept_T1000015 s ) (parrelref27_kept_H1000015 s ) := by
  unfold parrelref27_kept_c15 at h
  rcases itb_some h with ⟨cC15_1, h⟩ | ⟨cC15_1, h⟩
  · skip
    obtain rfl := Option.some.inj h
    exact run_ret mixed (L := []) (n := 20) (s := [.reg [(1, hT)], .reg [], .reg [], .wk [] [(1, .var [.int .u8 s.f_Kind, .int .i64 s.f_Node, .int .i64 0, .int .i64 s.f_N, .bool false, .int .u8 0, .int .u32 0, .int .u8 0, .int .u8 0, .int .u32 0, .int .u32 0, .int .u8 0, .int .u8 0, .int .u8 0, .int .u8 0, .int .u8 0, .int .u8 0, .int .u8 0, .int .u8 0, .str [], .int .u8 0, .int .u8 0, .ds 1 (([] : List (Int))).length (rowF (cInt .u8) default ([] : List (Int))), .int .i64 0, .nilsl])], .wk [] [(1, .var (c_T_parrelref27_Step (T_parrelref27_Step.mk s.f_Kind s.f_Node 0 s.f_N false (T_parrelref27_Call.mk 0 0 0 (T_api_Tx.mk 0 0 0) (A8.mk 0 0 0 0 0 0 0 0) [] 0 0 ([] : List (Int))) 0 ([] : List (Int)))))]])
      (a_ (a_ (r1_ (f_ cC15_1 tr)) (a_ (r1_ (l_ 1 25 rfl (r1_ (l_ 3 25 rfl (r1_ (a_ (a_ (a_ (Eq.refl 1) (a_ (le_ 2 25 rfl) (Eq.refl 0))) tr) (r1_ (a_ (a_ (a_ (Eq.refl 1) (a_ (le_ 4 25 rfl) (Eq.refl 0))) tr) tr)))))))) (a_ (m_ 25 25 rfl (a_ (a_ (a_ (Eq.refl 25) (a_ (le_ 25 25 rfl) (Eq.refl 0))) tr) tr)) (a_ (a_ tr (a_ (LO.Sub.var (lel_set [.int .u8 s.f_Kind, .int .i64 s.f_Node, .int .i64 0, .int .i64 s.f_N, .bool false, .int .u8 0, .int .u32 0, .int .u8 0, .int .u8 0, .int .u32 0, .int .u32 0, .int .u8 0, .int .u8 0, .int .u8 0, .int .u8 0, .int .u8 0, .int .u8 0, .int .u8 0, .int .u8 0, .str [], .int .u8 0, .int .u8 0, .nilsl, .int .i64 0, .nilsl] 22 .nilsl (.ds 1 (([] : List (Int))).length (rowF (cInt .u8) default ([] : List (Int)))) rfl (le_nil_ds 1 (rowF (cInt .u8) default [])))) tr)) (a_ (a_ tr (a_ (LO.Sub.var (lel_set [.int .u8 s.f_Kind, .int .i64 s.f_Node, .int .i64 0, .int .i64 s.f_N, .bool false, .int .u8 0, .int .u32 0, .int .u8 0, .int .u8 0, .int .u32 0, .int .u32 0, .int .u8 0, .int .u8 0, .int .u8 0, .int .u8 0, .int .u8 0, .int .u8 0, .int .u8 0, .int .u8 0, .str [], .int .u8 0, .int .u8 0, .ds 1 (([] : List (Int))).length (rowF (cInt .u8) default ([] : List (Int))), .int .i64 0, .nilsl] 24 .nilsl (.ds 1 (([] : List (Int))).length (rowF (cInt .u8) default ([] : List (Int)))) rfl (le_nil_ds 1 (rowF (cInt .u8) default [])))) tr)) tr))))) (a_ (a_ tr (le_ 25 25 rfl)) tr)) (by kernel_rfl) rfl
  · skip
    rcases itb_some h with ⟨cC15_2, h⟩ | ⟨cC15_2, h⟩
    · skip
      obtain rfl := Option.some.inj h
      exact run_ret mixed (L := []) (n := 23) (s := [.reg [(1, hF)], .reg [(1, hT)], .reg [], .reg [], .wk [] [(1, .var (c_T_parrelref27_Step (T_parrelref27_Step.mk s.f_Kind s.f_Node 0 0 false (T_parrelref27_Call.mk 0 0 0 (T_api_Tx.mk 0 0 0) (A8.mk 0 0 0 0 0 0 0 0) [] 0 0 ([] : List (Int))) s.f_To s.f_Bytes)))]])
        (a_ (a_ (r1_ (f_ cC15_1 tr)) (a_ (r1_ (f_ cC15_2 tr)) (a_ (r1_ (l_ 1 25 rfl (r1_ (l_ 23 25 rfl (r1_ (l_ 24 25 rfl (r1_ (a_ (a_ (a_ (Eq.refl 1) (a_ (le_ 2 25 rfl) (Eq.refl 0))) tr) (r1_ (a_ (a_ (a_ (Eq.refl 1) (a_ (le_ 24 25 rfl) (Eq.refl 0))) tr) (r1_ (a_ (a_ (a_ (Eq.refl 1) (a_ (le_ 25 25 rfl) (Eq.refl 0))) tr) tr)))))))))))) (a_ (m_ 25 25 rfl (a_ (a_ (a_ (Eq.refl 25) (a_ (le_ 25 25 rfl) (Eq.refl 0))) tr) tr)) (a_ (a_ tr (a_ (LO.Sub.var (lel_set [.int .u8 s.f_Kind, .int .i64 s.f_Node, .int .i64 0, .int .i64 0, .bool false, .int .u8 0, .int .u32 0, .int .u8 0, .int .u8 0, .int .u32 0, .int .u32 0, .int .u8 0, .int .u8 0, .int .u8 0, .int .u8 0, .int .u8 0, .int .u8 0, .int .u8 0, .int .u8 0, .str [], .int .u8 0, .int .u8 0, .nilsl, .int .i64 s.f_To, .ds 1 (s.f_Bytes).length (rowF (cInt .u8) default s.f_Bytes)] 22 .nilsl (.ds 1 (([] : List (Int))).length (rowF (cInt .u8) default ([] : List (Int)))) rfl (le_nil_ds 1 (rowF (cInt .u8) default [])))) tr)) tr))))) (a_ (a_ tr (le_ 25 25 rfl)) tr)) (by kernel_rfl) rfl
    · skip
      obtain rfl := Option.some.inj h
      exact run_ret mixed (L := []) (n := 23) (s := [.reg [(1, hF)], .reg [(1, hF)], .reg [], .wk [] [(1, .var [.int .u8 s.f_Kind, .int .i64 0, .int .i64 0, .int .i64 0, .bool false, .int .u8 0, .int .u32 0, .int .u8 0, .int .u8 0, .int .u32 0, .int .u32 0, .int .u8 0, .int .u8 0, .int .u8 0, .int .u8 0, .int .u8 0, .int .u8 0, .int .u8 0, .int .u8 0, .str [], .int .u8 0, .int .u8 0, .ds 1 (([] : List (Int))).length (rowF (cInt .u8) default ([] : List (Int))), .int .i64 0, .nilsl])], .wk [] [(1, .var (c_T_parrelref27_Step (T_parrelref27_Step.mk s.f_Kind 0 0 0 false (T_parrelref27_Call.mk 0 0 0 (T_api_Tx.mk 0 0 0) (A8.mk 0 0 0 0 0 0 0 0) [] 0 0 ([] : List (Int))) 0 ([] : List (Int)))))]])
        (a_ (a_ (r1_ (f_ cC15_1 tr)) (a_ (r1_ (f_ cC15_2 tr)) (a_ (m_ 25 25 rfl (a_ (a_ (a_ (Eq.refl 25) (a_ (le_ 25 25 rfl) (Eq.refl 0))) tr) tr)) (a_ (a_ tr (a_ (LO.Sub.var (lel_set [.int .u8 s.f_Kind, .int .i64 0, .int .i64 0, .int .i64 0, .bool false, .int .u8 0, .int .u32 0, .int .u8 0, .int .u8 0, .int .u32 0, .int .u32 0, .int .u8 0, .int .u8 0, .int .u8 0, .int .u8 0, .int .u8 0, .int .u8 0, .int .u8 0, .int .u8 0, .str [], .int .u8 0, .int .u8 0, .nilsl, .int .i64 0, .nilsl] 22 .nilsl (.ds 1 (([] : List (Int))).length (rowF (cInt .u8) default ([] : List (Int)))) rfl (le_nil_ds 1 (rowF (cInt .u8) default [])))) tr)) (a_ (a_ tr (a_ (LO.Sub.var (lel_set [.int .u8 s.f_Kind, .int .i64 0, .int .i64 0, .int .i64 0, .bool false, .int .u8 0, .int .u32 0, .int .u8 0, .int .u8 0, .int .u32 0, .int .u32 0, .int .u8 0, .int .u8 0, .int .u8 0, .int .u8 0, .int .u8 0, .int .u8 0, .int .u8 0, .int .u8 0, .str [], .int .u8 0, .int .u8 0, .ds 1 (([] : List (Int))).length (rowF (cInt .u8) default ([] : List (Int))), .int .i64 0, .nilsl] 24 .nilsl (.ds 1 (([] : List (Int))).length (rowF (cInt .u8) default ([] : List (Int)))) rfl (le_nil_ds 1 (rowF (cInt .u8) default [])))) tr)) tr))))) (a_ (a_ tr (le_ 25 25 rfl)) tr)) (by kernel_rfl) rfl

theorem parrelref27_kept_ok (s : T_parrelref27_Step) (r : (T_parrelref27_Step)) (h : parrelref27_kept s = some r) : ∀ σ, Inj 0 σ → FnTri Tryd.prog 31 (renL σ [v_T_parrelref27_Step s]) (preOf σ 0 []) ((parrelref27_kept_v r).ren σ) (upOf σ []) := by
  refine fn_of Tryd.func31 (by kernel_rfl) (by kernel_rfl) (by kernel_rfl) trivial (by kernel_rfl) trivial (by kernel_rfl) ?_
  intro w0 W μ0 hμ
  unfold parrelref27_kept at h
  rcases itb_some h with ⟨c1, h⟩ | ⟨c1, h⟩
  · skip
    obtain ⟨y3, e2, h⟩ := bind_some h
    obtain rfl := Option.some.inj h
    exact run_ret mixed (L := []) (n := 31) (s := [.reg [], .reg [], .reg [], .reg [(1, hT)], .reg [(4, hC (parrelref27_call_v y3))], .reg [], .wk [] [(1, .var (c_T_parrelref27_Step (T_parrelref27_Step.mk s.f_Kind s.f_Node 0 0 false y3 0 ([] : List (Int)))))]])
      (a_ (a_ (r2_ tr) (a_ (r1_ (l_ 0 25 rfl (a_ (a_ (Eq.refl true) tr) (r1_ (a_ (a_ (a_ (Eq.refl 25) (a_ (le_ 25 25 rfl) (Eq.refl 0))) tr) tr))))) (a_ (r1_ (l_ 0 25 rfl tr)) (a_ (r1_ (f_ c1 tr)) (a_ (r1_ (l_ 1 25 rfl (r1_ (m_ 23 25 rfl (c_ (parrelref27_call_tri s.f_Call y3 e2) (r1_ (a_ (a_ (a_ (Eq.refl 1) (a_ (le_ 2 25 rfl) (Eq.refl 0))) tr) (r1_ (a_ (a_ (a_ (Eq.refl 18) (a_ (le_ 23 25 rfl) (Eq.refl 0))) tr) tr))))))))) (a_ (m_ 25 25 rfl (a_ (a_ (a_ (Eq.refl 25) (a_ (le_ 25 25 rfl) (Eq.refl 0))) tr) tr)) (a_ (a_ tr (a_ (LO.Sub.var (lel_set [.int .u8 s.f_Kind, .int .i64 s.f_Node, .int .i64 0, .int .i64 0, .bool false, .int .u8 y3.f_Client, .int .u32 y3.f_Seq, .int .u8 y3.f_Kind, .int .u8 y3.f_Tx.f_Node, .int .u32 y3.f_Tx.f_Boot, .int .u32 y3.f_Tx.f_Num, .int .u8 y3.f_Key.a0, .int .u8 y3.f_Key.a1, .int .u8 y3.f_Key.a2, .int .u8 y3.f_Key.a3, .int .u8 y3.f_Key.a4, .int .u8 y3.f_Key.a5, .int .u8 y3.f_Key.a6, .int .u8 y3.f_Key.a7, .str y3.f_Value, .int .u8 y3.f_R, .int .u8 y3.f_W, .ds 1 (y3.f_Votes).length (rowF (cInt .u8) default y3.f_Votes), .int .i64 0, .nilsl] 24 .nilsl (.ds 1 (([] : List (Int))).length (rowF (cInt .u8) default ([] : List (Int)))) rfl (le_nil_ds 1 (rowF (cInt .u8) default [])))) tr)) tr))))))) (a_ (a_ tr (le_ 25 25 rfl)) tr)) (by kernel_rfl) rfl
  · skip
    rcases itb_some h with ⟨c2, h⟩ | ⟨c2, h⟩
    · skip
      obtain rfl := Option.some.inj h
      exact run_ret mixed (L := []) (n := 39) (s := [.reg [], .reg [], .reg [], .reg [(1, hF)], .reg [(1, hT)], .reg [], .reg [], .wk [] [(1, .var [.int .u8 s.f_Kind, .int .i64 0, .int .i64 s.f_Wire, .int .i64 0, .bool false, .int .u8 0, .int .u32 0, .int .u8 0, .int .u8 0, .int .u32 0, .int .u32 0, .int .u8 0, .int .u8 0, .int .u8 0, .int .u8 0, .int .u8 0, .int .u8 0, .int .u8 0, .int .u8 0, .str [], .int .u8 0, .int .u8 0, .ds 1 (([] : List (Int))).length (rowF (cInt .u8) default ([] : List (Int))), .int .i64 0, .nilsl])], .wk [] [(1, .var (c_T_parrelref27_Step (T_parrelref27_Step.mk s.f_Kind 0 s.f_Wire 0 false (T_parrelref27_Call.mk 0 0 0 (T_api_Tx.mk 0 0 0) (A8.mk 0 0 0 0 0 0 0 0) [] 0 0 ([] : List (Int))) 0 ([] : List (Int)))))]])
        (a_ (a_ (r2_ tr) (a_ (r1_ (l_ 0 25 rfl (a_ (a_ (Eq.refl true) tr) (r1_ (a_ (a_ (a_ (Eq.refl 25) (a_ (le_ 25 25 rfl) (Eq.refl 0))) tr) tr))))) (a_ (r1_ (l_ 0 25 rfl tr)) (a_ (r1_ (f_ c1 tr)) (a_ (r1_ (f_ c2 tr)) (a_ (r1_ (l_ 2 25 rfl (r1_ (a_ (a_ (a_ (Eq.refl 1) (a_ (le_ 3 25 rfl) (Eq.refl 0))) tr) tr)))) (a_ (m_ 25 25 rfl (a_ (a_ (a_ (Eq.refl 25) (a_ (le_ 25 25 rfl) (Eq.refl 0))) tr) tr)) (a_ (a_ tr (a_ (LO.Sub.var (lel_set [.int .u8 s.f_Kind, .int .i64 0, .int .i64 s.f_Wire, .int .i64 0, .bool false, .int .u8 0, .int .u32 0, .int .u8 0, .int .u8 0, .int .u32 0, .int .u32 0, .int .u8 0, .int .u8 0, .int .u8 0, .int .u8 0, .int .u8 0, .int .u8 0, .int .u8 0, .int .u8 0, .str [], .int .u8 0, .int .u8 0, .nilsl, .int .i64 0, .nilsl] 22 .nilsl (.ds 1 (([] : List (Int))).length (rowF (cInt .u8) default ([] : List (Int)))) rfl (le_nil_ds 1 (rowF (cInt .u8) default [])))) tr)) (a_ (a_ tr (a_ (LO.Sub.var (lel_set [.int .u8 s.f_Kind, .int .i64 0, .int .i64 s.f_Wire, .int .i64 0, .bool false, .int .u8 0, .int .u32 0, .int .u8 0, .int .u8 0, .int .u32 0, .int .u32 0, .int .u8 0, .int .u8 0, .int .u8 0, .int .u8 0, .int .u8 0, .int .u8 0, .int .u8 0, .int .u8 0, .str [], .int .u8 0, .int .u8 0, .ds 1 (([] : List (Int))).length (rowF (cInt .u8) default ([] : List (Int))), .int .i64 0, .nilsl] 24 .nilsl (.ds 1 (([] : List (Int))).length (rowF (cInt .u8) default ([] : List (Int)))) rfl (le_nil_ds 1 (rowF (cInt .u8) default [])))) tr)) tr))))))))) (a_ (a_ tr (le_ 25 25 rfl)) tr)) (by kernel_rfl) rfl
    · skip
      rcases itb_some h with ⟨c3, h⟩ | ⟨c3, h⟩
      · skip
        obtain rfl := Option.some.inj h
        exact run_ret mixed (L := []) (n := 43) (s := [.reg [], .reg [], .reg [], .reg [(1, hF)], .reg [(1, hF)], .reg [(1, hT)], .reg [], .reg [], .wk [] [(1, .var [.int .u8 s.f_Kind, .int .i64 0, .int .i64 s.f_Wire, .int .i64 0, .bool false, .int .u8 0, .int .u32 0, .int .u8 0, .int .u8 0, .int .u32 0, .int .u32 0, .int .u8 0, .int .u8 0, .int .u8 0, .int .u8 0, .int .u8 0, .int .u8 0, .int .u8 0, .int .u8 0, .str [], .int .u8 0, .int .u8 0, .ds 1 (([] : List (Int))).length (rowF (cInt .u8) default ([] : List (Int))), .int .i64 0, .nilsl])], .wk [] [(1, .var (c_T_parrelref27_Step (T_parrelref27_Step.mk s.f_Kind 0 s.f_Wire 0 false (T_parrelref27_Call.mk 0 0 0 (T_api_Tx.mk 0 0 0) (A8.mk 0 0 0 0 0 0 0 0) [] 0 0 ([] : List (Int))) 0 ([] : List (Int)))))]])
          (a_ (a_ (r2_ tr) (a_ (r1_ (l_ 0 25 rfl (a_ (a_ (Eq.refl true) tr) (r1_ (a_ (a_ (a_ (Eq.refl 25) (a_ (le_ 25 25 rfl) (Eq.refl 0))) tr) tr))))) (a_ (r1_ (l_ 0 25 rfl tr)) (a_ (r1_ (f_ c1 tr)) (a_ (r1_ (f_ c2 tr)) (a_ (r1_ (f_ c3 tr)) (a_ (r1_ (l_ 2 25 rfl (r1_ (a_ (a_ (a_ (Eq.refl 1) (a_ (le_ 3 25 rfl) (Eq.refl 0))) tr) tr)))) (a_ (m_ 25 25 rfl (a_ (a_ (a_ (Eq.refl 25) (a_ (le_ 25 25 rfl) (Eq.refl 0))) tr) tr)) (a_ (a_ tr (a_ (LO.Sub.var (lel_set [.int .u8 s.f_Kind, .int .i64 0, .int .i64 s.f_Wire, .int .i64 0, .bool false, .int .u8 0, .int .u32 0, .int .u8 0, .int .u8 0, .int .u32 0, .int .u32 0, .int .u8 0, .int .u8 0, .int .u8 0, .int .u8 0, .int .u8 0, .int .u8 0, .int .u8 0, .int .u8 0, .str [], .int .u8 0, .int .u8 0, .nilsl, .int .i64 0, .nilsl] 22 .nilsl (.ds 1 (([] : List (Int))).length (rowF (cInt .u8) default ([] : List (Int)))) rfl (le_nil_ds 1 (rowF (cInt .u8) default [])))) tr)) (a_ (a_ tr (a_ (LO.Sub.var (lel_set [.int .u8 s.f_Kind, .int .i64 0, .int .i64 s.f_Wire, .int .i64 0, .bool false, .int .u8 0, .int .u32 0, .int .u8 0, .int .u8 0, .int .u32 0, .int .u32 0, .int .u8 0, .int .u8 0, .int .u8 0, .int .u8 0, .int .u8 0, .int .u8 0, .int .u8 0, .int .u8 0, .str [], .int .u8 0, .int .u8 0, .ds 1 (([] : List (Int))).length (rowF (cInt .u8) default ([] : List (Int))), .int .i64 0, .nilsl] 24 .nilsl (.ds 1 (([] : List (Int))).length (rowF (cInt .u8) default ([] : List (Int)))) rfl (le_nil_ds 1 (rowF (cInt .u8) default [])))) tr)) tr)))))))))) (a_ (a_ tr (le_ 25 25 rfl)) tr)) (by kernel_rfl) rfl
      · skip
        rcases itb_some h with ⟨c4, h⟩ | ⟨c4, h⟩
        · skip
          obtain rfl := Option.some.inj h
          exact run_ret mixed (L := []) (n := 47) (s := [.reg [], .reg [], .reg [], .reg [(1, hF)], .reg [(1, hF)], .reg [(1, hF)], .reg [(1, hT)], .reg [], .reg [], .wk [] [(1, .var [.int .u8 s.f_Kind, .int .i64 0, .int .i64 s.f_Wire, .int .i64 0, .bool false, .int .u8 0, .int .u32 0, .int .u8 0, .int .u8 0, .int .u32 0, .int .u32 0, .int .u8 0, .int .u8 0, .int .u8 0, .int .u8 0, .int .u8 0, .int .u8 0, .int .u8 0, .int .u8 0, .str [], .int .u8 0, .int .u8 0, .ds 1 (([] : List (Int))).length (rowF (cInt .u8) default ([] : List (Int))), .int .i64 0, .nilsl])], .wk [] [(1, .var (c_T_parrelref27_Step (T_parrelref27_Step.mk s.f_Kind 0 s.f_Wire 0 false (T_parrelref27_Call.mk 0 0 0 (T_api_Tx.mk 0 0 0) (A8.mk 0 0 0 0 0 0 0 0) [] 0 0 ([] : List (Int))) 0 ([] : List (Int)))))]])
            (a_ (a_ (r2_ tr) (a_ (r1_ (l_ 0 25 rfl (a_ (a_ (Eq.refl true) tr) (r1_ (a_ (a_ (a_ (Eq.refl 25) (a_ (le_ 25 25 rfl) (Eq.refl 0))) tr) tr))))) (a_ (r1_ (l_ 0 25 rfl tr)) (a_ (r1_ (f_ c1 tr)) (a_ (r1_ (f_ c2 tr)) (a_ (r1_ (f_ c3 tr)) (a_ (r1_ (f_ c4 tr)) (a_ (r1_ (l_ 2 25 rfl (r1_ (a_ (a_ (a_ (Eq.refl 1) (a_ (le_ 3 25 rfl) (Eq.refl 0))) tr) tr)))) (a_ (m_ 25 25 rfl (a_ (a_ (a_ (Eq.refl 25) (a_ (le_ 25 25 rfl) (Eq.refl 0))) tr) tr)) (a_ (a_ tr (a_ (LO.Sub.var (lel_set [.int .u8 s.f_Kind, .int .i64 0, .int .i64 s.f_Wire, .int .i64 0, .bool false, .int .u8 0, .int .u32 0, .int .u8 0, .int .u8 0, .int .u32 0, .int .u32 0, .int .u8 0, .int .u8 0, .int .u8 0, .int .u8 0, .int .u8 0, .int .u8 0, .int .u8 0, .int .u8 0, .str [], .int .u8 0, .int .u8 0, .nilsl, .int .i64 0, .nilsl] 22 .nilsl (.ds 1 (([] : List (Int))).length (rowF (cInt .u8) default ([] : List (Int)))) rfl (le_nil_ds 1 (rowF (cInt .u8) default [])))) tr)) (a_ (a_ tr (a_ (LO.Sub.var (lel_set [.int .u8 s.f_Kind, .int .i64 0, .int .i64 s.f_Wire, .int .i64 0, .bool false, .int .u8 0, .int .u32 0, .int .u8 0, .int .u8 0, .int .u32 0, .int .u32 0, .int .u8 0, .int .u8 0, .int .u8 0, .int .u8 0, .int .u8 0, .int .u8 0, .int .u8 0, .int .u8 0, .str [], .int .u8 0, .int .u8 0, .ds 1 (([] : List (Int))).length (rowF (cInt .u8) default ([] : List (Int))), .int .i64 0, .nilsl] 24 .nilsl (.ds 1 (([] : List (Int))).length (rowF (cInt .u8) default ([] : List (Int)))) rfl (le_nil_ds 1 (rowF (cInt .u8) default [])))) tr)) tr))))))))))) (a_ (a_ tr (le_ 25 25 rfl)) tr)) (by kernel_rfl) rfl
        · skip
          rcases itb_some h with ⟨c5, h⟩ | ⟨c5, h⟩
          · skip
            exact run_to mixed hμ (L := [1, 2]) (n := 44) (s := [.reg [], .reg [], .reg [], .reg [(1, hF)], .reg [(1, hF)], .reg [(1, hF)], .reg [(1, hF)], .reg [(1, hT)], .reg []])
              (a_ (r2_ tr) (a_ (r1_ (l_ 0 25 rfl (a_ (a_ (Eq.refl true) tr) (r1_ (a_ (a_ (a_ (Eq.refl 25) (a_ (le_ 25 25 rfl) (Eq.refl 0))) tr) tr))))) (a_ (r1_ (l_ 0 25 rfl tr)) (a_ (r1_ (f_ c1 tr)) (a_ (r1_ (f_ c2 tr)) (a_ (r1_ (f_ c3 tr)) (a_ (r1_ (f_ c4 tr)) (a_ (r1_ (f_ c5 tr)) (a_ (r1_ (l_ 2 25 rfl (r1_ (a_ (a_ (a_ (Eq.refl 1) (a_ (le_ 3 25 rfl) (Eq.refl 0))) tr) tr)))) tr))))))))) (parrelref27_kept_c19_ok hμ s   r h) (by kernel_rfl) ⟨rfl, rfl, trivial⟩
          · skip
            rcases itb_some h with ⟨c6, h⟩ | ⟨c6, h⟩
            · skip
              exact run_to mixed hμ (L := [1, 2]) (n := 51) (s := [.reg [], .reg [], .reg [], .reg [(1, hF)], .reg [(1, hF)], .reg [(1, hF)], .reg [(1, hF)], .reg [(1, hF)], .reg [(1, hT)], .reg []])
                (a_ (r2_ tr) (a_ (r1_ (l_ 0 25 rfl (a_ (a_ (Eq.refl true) tr) (r1_ (a_ (a_ (a_ (Eq.refl 25) (a_ (le_ 25 25 rfl) (Eq.refl 0))) tr) tr))))) (a_ (r1_ (l_ 0 25 rfl tr)) (a_ (r1_ (f_ c1 tr)) (a_ (r1_ (f_ c2 tr)) (a_ (r1_ (f_ c3 tr)) (a_ (r1_ (f_ c4 tr)) (a_ (r1_ (f_ c5 tr)) (a_ (r1_ (f_ c6 tr)) (a_ (r1_ (l_ 1 25 rfl (r1_ (a_ (a_ (a_ (Eq.refl 1) (a_ (le_ 2 25 rfl) (Eq.refl 0))) tr) tr)))) tr)))))))))) (parrelref27_kept_c1019_ok hμ s   r h) (by kernel_rfl) ⟨rfl, rfl, trivial⟩
            · skip
              rcases itb_some h with ⟨c7, h⟩ | ⟨c7, h⟩
              · skip
                exact run_to mixed hμ (L := [1, 2]) (n := 52) (s := [.reg [], .reg [], .reg [], .reg [(1, hF)], .reg [(1, hF)], .reg [(1, hF)], .reg [(1, hF)], .reg [(1, hF)], .reg [(1, hF)], .reg [(1, hT)], .reg []])
                  (a_ (r2_ tr) (a_ (r1_ (l_ 0 25 rfl (a_ (a_ (Eq.refl true) tr) (r1_ (a_ (a_ (a_ (Eq.refl 25) (a_ (le_ 25 25 rfl) (Eq.refl 0))) tr) tr))))) (a_ (r1_ (l_ 0 25 rfl tr)) (a_ (r1_ (f_ c1 tr)) (a_ (r1_ (f_ c2 tr)) (a_ (r1_ (f_ c3 tr)) (a_ (r1_ (f_ c4 tr)) (a_ (r1_ (f_ c5 tr)) (a_ (r1_ (f_ c6 tr)) (a_ (r1_ (f_ c7 tr)) (a_ (r1_ (l_ 1 25 rfl (r1_ (a_ (a_ (a_ (Eq.refl 1) (a_ (le_ 2 25 rfl) (Eq.refl 0))) tr) tr)))) tr))))))))))) (parrelref27_kept_c1019_ok hμ s   r h) (by kernel_rfl) ⟨rfl, rfl, trivial⟩
              · skip
                rcases itb_some h with ⟨c8, h⟩ | ⟨c8, h⟩
                · skip
                  exact run_to mixed hμ (L := [0, 1, 2]) (n := 52) (s := [.reg [], .reg [], .reg [], .reg [(1, hF)], .reg [(1, hF)], .reg [(1, hF)], .reg [(1, hF)], .reg [(1, hF)], .reg [(1, hF)], .reg [(1, hF)], .reg [(1, hT)]])
                    (a_ (r2_ tr) (a_ (r1_ (l_ 0 25 rfl (a_ (a_ (Eq.refl true) tr) (r1_ (a_ (a_ (a_ (Eq.refl 25) (a_ (le_ 25 25 rfl) (Eq.refl 0))) tr) tr))))) (a_ (r1_ (l_ 0 25 rfl tr)) (a_ (r1_ (f_ c1 tr)) (a_ (r1_ (f_ c2 tr)) (a_ (r1_ (f_ c3 tr)) (a_ (r1_ (f_ c4 tr)) (a_ (r1_ (f_ c5 tr)) (a_ (r1_ (f_ c6 tr)) (a_ (r1_ (f_ c7 tr)) (a_ (r1_ (f_ c8 tr)) tr))))))))))) (parrelref27_kept_c14_ok hμ s   r h) (by kernel_rfl) ⟨rfl, rfl, rfl, trivial⟩
                · skip
                  exact run_to mixed hμ (L := [0, 1, 2]) (n := 53) (s := [.reg [], .reg [], .reg [], .reg [(1, hF)], .reg [(1, hF)], .reg [(1, hF)], .reg [(1, hF)], .reg [(1, hF)], .reg [(1, hF)], .reg [(1, hF)], .reg [(1, hF)]])
                    (a_ (r2_ tr) (a_ (r1_ (l_ 0 25 rfl (a_ (a_ (Eq.refl true) tr) (r1_ (a_ (a_ (a_ (Eq.refl 25) (a_ (le_ 25 25 rfl) (Eq.refl 0))) tr) tr))))) (a_ (r1_ (l_ 0 25 rfl tr)) (a_ (r1_ (f_ c1 tr)) (a_ (r1_ (f_ c2 tr)) (a_ (r1_ (f_ c3 tr)) (a_ (r1_ (f_ c4 tr)) (a_ (r1_ (f_ c5 tr)) (a_ (r1_ (f_ c6 tr)) (a_ (r1_ (f_ c7 tr)) (a_ (r1_ (f_ c8 tr)) tr))))))))))) (parrelref27_kept_c15_ok hμ s   r h) (by kernel_rfl) ⟨rfl, rfl, rfl, trivial⟩

theorem parrelref27_kept_tri (s : T_parrelref27_Step) (r : (T_parrelref27_Step)) (h : parrelref27_kept s = some r) : FnTri Tryd.prog 31 [v_T_parrelref27_Step s] [] (parrelref27_kept_v r) [] := FnTri.none (parrelref27_kept_ok s r h) rfl rfl

/-- parrel/parrelref27.SameCall -/

def parrelref27_SameCall_v (r : (Bool)) : LV := .bool r

def parrelref27_SameCall (a : T_parrelref27_Call) (b : T_parrelref27_Call) : Option ((Bool)) :=
  if ((a.f_Client == b.f_Client) : Bool) then
    if ((a.f_Seq == b.f_Seq) : Bool) then
      if ((a.f_Kind == b.f_Kind) : Bool) then
        if ((decide (a.f_Tx = b.f_Tx)) : Bool) then
          if ((decide (a.f_Key = b.f_Key)) : Bool) then
            if ((a.f_Value == b.f_Value) : Bool) then
              if ((a.f_R == b.f_R) : Bool) then
                if ((a.f_W == b.f_W) : Bool) then
                  some ((strI a.f_Votes) == (strI b.f_Votes))
                else
                  some false
              else
                some false
            else
              some false
          else
            some false
        else
          some false
      else
        some false
    else
      some false
  else
    some false

theorem parrelref27_SameCall_ok (a : T_parrelref27_Call) (b : T_parrelref27_Call) (r : (Bool)) (h : parrelref27_SameCall a b = some r) : ∀ σ, Inj 0 σ → FnTri Tryd.prog 36 (renL σ [v_T_parrelref27_Call a, v_T_parrelref27_Call b]) (preOf σ 0 []) ((parrelref27_SameCall_v r).ren σ) (upOf σ []) := by
  refine fn_of Tryd.func36 (by kernel_rfl) (by kernel_rfl) (by kernel_rfl) trivial (by kernel_rfl) trivial (by kernel_rfl) ?_
  intro w0 W μ0 hμ
  unfold parrelref27_SameCall at h
  rcases itb_some h with ⟨c1, h⟩ | ⟨c1, h⟩
  · skip
    rcases itb_some h with ⟨c2, h⟩ | ⟨c2, h⟩
    · skip
      rcases itb_some h with ⟨c3, h⟩ | ⟨c3, h⟩
      · skip
        rcases itb_some h with ⟨c4, h⟩ | ⟨c4, h⟩
        · skip
          rcases itb_some h with ⟨c5, h⟩ | ⟨c5, h⟩
          · skip
            rcases itb_some h with ⟨c6, h⟩ | ⟨c6, h⟩
            · skip
              rcases itb_some h with ⟨c7, h⟩ | ⟨c7, h⟩
              · skip
                rcases itb_some h with ⟨c8, h⟩ | ⟨c8, h⟩
                · skip
                  obtain rfl := Option.some.inj h
                  exact run_ret mixed (L := []) (n := 15) (s := [.reg [], .reg [(5, hT), (12, hT), (19, hT), (24, { v := some (.bool (decide (a.f_Tx = b.f_Tx))) }), (26, hT), (31, { v := some (.bool (decide (a.f_Key = b.f_Key))) }), (33, hT), (40, hT), (47, hT), (54, hT), (57, { v := some (.str (strI a.f_Votes)) }), (60, { v := some (.str (strI b.f_Votes)) })]])
                    (a_ (a_ (r1_ (r2_ tr)) (a_ (r1_ (l_ 0 18 rfl (r1_ (l_ 0 18 rfl (r1_ (f_ c1 (r1_ (l_ 1 18 rfl (r1_ (l_ 1 18 rfl (r2_ (f_ c2 (r1_ (l_ 2 18 rfl (r1_ (l_ 2 18 rfl (r2_ (f_ c3 (r1_ (m_ 6 18 rfl (r1_ (m_ 6 18 rfl (a_ (a_ tr (a_ (leB (k_T_api_Tx a.f_Tx b.f_Tx)) tr)) (r1_ (f_ c4 (r1_ (m_ 14 18 rfl (r1_ (m_ 14 18 rfl (a_ (a_ tr (a_ (leB ((k_arr8 .u8) a.f_Key b.f_Key)) tr)) (r1_ (f_ c5 (r1_ (l_ 14 18 rfl (r1_ (l_ 14 18 rfl (r2_ (f_ c6 (r1_ (l_ 15 18 rfl (r1_ (l_ 15 18 rfl (r2_ (f_ c7 (r1_ (l_ 16 18 rfl (r1_ (l_ 16 18 rfl (r2_ (f_ c8 (r1_ (l_ 17 18 rfl (a_ (a_ (a_ (Eq.refl 1) (str_ob a.f_Votes)) (a_ (le_str a.f_Votes) tr)) (r1_ (l_ 17 18 rfl (a_ (a_ (a_ (Eq.refl 1) (str_ob b.f_Votes)) (a_ (le_str b.f_Votes) tr)) (r1_ (r2_ tr)))))))))))))))))))))))))))))))))))))))))))))))))))))))))) tr)) tr) (by kernel_rfl) rfl
                · skip
                  obtain rfl := Option.some.inj h
                  exact run_ret mixed (L := []) (n := 15) (s := [.reg [], .reg [(5, hT), (12, hT), (19, hT), (24, { v := some (.bool (decide (a.f_Tx = b.f_Tx))) }), (26, hT), (31, { v := some (.bool (decide (a.f_Key = b.f_Key))) }), (33, hT), (40, hT), (47, hT), (54, hF)]])
                    (a_ (a_ (r1_ (r2_ tr)) (a_ (r1_ (l_ 0 18 rfl (r1_ (l_ 0 18 rfl (r1_ (f_ c1 (r1_ (l_ 1 18 rfl (r1_ (l_ 1 18 rfl (r2_ (f_ c2 (r1_ (l_ 2 18 rfl (r1_ (l_ 2 18 rfl (r2_ (f_ c3 (r1_ (m_ 6 18 rfl (r1_ (m_ 6 18 rfl (a_ (a_ tr (a_ (leB (k_T_api_Tx a.f_Tx b.f_Tx)) tr)) (r1_ (f_ c4 (r1_ (m_ 14 18 rfl (r1_ (m_ 14 18 rfl (a_ (a_ tr (a_ (leB ((k_arr8 .u8) a.f_Key b.f_Key)) tr)) (r1_ (f_ c5 (r1_ (l_ 14 18 rfl (r1_ (l_ 14 18 rfl (r2_ (f_ c6 (r1_ (l_ 15 18 rfl (r1_ (l_ 15 18 rfl (r2_ (f_ c7 (r1_ (l_ 16 18 rfl (r1_ (l_ 16 18 rfl (r2_ (f_ c8 (a_ tr (t2_ (t4_ (r2_ tr)))))))))))))))))))))))))))))))))))))))))))))))))))))) tr)) tr) (by kernel_rfl) rfl
              · skip
                obtain rfl := Option.some.inj h
                exact run_ret mixed (L := []) (n := 15) (s := [.reg [], .reg [(5, hT), (12, hT), (19, hT), (24, { v := some (.bool (decide (a.f_Tx = b.f_Tx))) }), (26, hT), (31, { v := some (.bool (decide (a.f_Key = b.f_Key))) }), (33, hT), (40, hT), (47, hF)]])
                  (a_ (a_ (r1_ (r2_ tr)) (a_ (r1_ (l_ 0 18 rfl (r1_ (l_ 0 18 rfl (r1_ (f_ c1 (r1_ (l_ 1 18 rfl (r1_ (l_ 1 18 rfl (r2_ (f_ c2 (r1_ (l_ 2 18 rfl (r1_ (l_ 2 18 rfl (r2_ (f_ c3 (r1_ (m_ 6 18 rfl (r1_ (m_ 6 18 rfl (a_ (a_ tr (a_ (leB (k_T_api_Tx a.f_Tx b.f_Tx)) tr)) (r1_ (f_ c4 (r1_ (m_ 14 18 rfl (r1_ (m_ 14 18 rfl (a_ (a_ tr (a_ (leB ((k_arr8 .u8) a.f_Key b.f_Key)) tr)) (r1_ (f_ c5 (r1_ (l_ 14 18 rfl (r1_ (l_ 14 18 rfl (r2_ (f_ c6 (r1_ (l_ 15 18 rfl (r1_ (l_ 15 18 rfl (r2_ (f_ c7 (a_ tr (t4_ (r2_ (a_ tr (t2_ (t4_ (r2_ tr))))))))))))))))))))))))))))))))))))))))))))))))))) tr)) tr) (by kernel_rfl) rfl
            · skip
              obtain rfl := Option.some.inj h
              exact run_ret mixed (L := []) (n := 15) (s := [.reg [], .reg [(5, hT), (12, hT), (19, hT), (24, { v := some (.bool (decide (a.f_Tx = b.f_Tx))) }), (26, hT), (31, { v := some (.bool (decide (a.f_Key = b.f_Key))) }), (33, hT), (40, hF)]])
                (a_ (a_ (r1_ (r2_ tr)) (a_ (r1_ (l_ 0 18 rfl (r1_ (l_ 0 18 rfl (r1_ (f_ c1 (r1_ (l_ 1 18 rfl (r1_ (l_ 1 18 rfl (r2_ (f_ c2 (r1_ (l_ 2 18 rfl (r1_ (l_ 2 18 rfl (r2_ (f_ c3 (r1_ (m_ 6 18 rfl (r1_ (m_ 6 18 rfl (a_ (a_ tr (a_ (leB (k_T_api_Tx a.f_Tx b.f_Tx)) tr)) (r1_ (f_ c4 (r1_ (m_ 14 18 rfl (r1_ (m_ 14 18 rfl (a_ (a_ tr (a_ (leB ((k_arr8 .u8) a.f_Key b.f_Key)) tr)) (r1_ (f_ c5 (r1_ (l_ 14 18 rfl (r1_ (l_ 14 18 rfl (r2_ (f_ c6 (a_ tr (t4_ (r2_ (a_ tr (t4_ (r2_ (a_ tr (t2_ (t4_ (r2_ tr)))))))))))))))))))))))))))))))))))))))))))))))) tr)) tr) (by kernel_rfl) rfl
          · skip
            obtain rfl := Option.some.inj h
            exact run_ret mixed (L := []) (n := 15) (s := [.reg [], .reg [(5, hT), (12, hT), (19, hT), (24, { v := some (.bool (decide (a.f_Tx = b.f_Tx))) }), (26, hT), (31, { v := some (.bool (decide (a.f_Key = b.f_Key))) }), (33, hF)]])
              (a_ (a_ (r1_ (r2_ tr)) (a_ (r1_ (l_ 0 18 rfl (r1_ (l_ 0 18 rfl (r1_ (f_ c1 (r1_ (l_ 1 18 rfl (r1_ (l_ 1 18 rfl (r2_ (f_ c2 (r1_ (l_ 2 18 rfl (r1_ (l_ 2 18 rfl (r2_ (f_ c3 (r1_ (m_ 6 18 rfl (r1_ (m_ 6 18 rfl (a_ (a_ tr (a_ (leB (k_T_api_Tx a.f_Tx b.f_Tx)) tr)) (r1_ (f_ c4 (r1_ (m_ 14 18 rfl (r1_ (m_ 14 18 rfl (a_ (a_ tr (a_ (leB ((k_arr8 .u8) a.f_Key b.f_Key)) tr)) (r1_ (f_ c5 (a_ tr (t4_ (r2_ (a_ tr (t4_ (r2_ (a_ tr (t4_ (r2_ (a_ tr (t2_ (t4_ (r2_ tr))))))))))))))))))))))))))))))))))))))))))))) tr)) tr) (by kernel_rfl) rfl
        · skip
          obtain rfl := Option.some.inj h
          exact run_ret mixed (L := []) (n := 15) (s := [.reg [], .reg [(5, hT), (12, hT), (19, hT), (24, { v := some (.bool (decide (a.f_Tx = b.f_Tx))) }), (26, hF)]])
            (a_ (a_ (r1_ (r2_ tr)) (a_ (r1_ (l_ 0 18 rfl (r1_ (l_ 0 18 rfl (r1_ (f_ c1 (r1_ (l_ 1 18 rfl (r1_ (l_ 1 18 rfl (r2_ (f_ c2 (r1_ (l_ 2 18 rfl (r1_ (l_ 2 18 rfl (r2_ (f_ c3 (r1_ (m_ 6 18 rfl (r1_ (m_ 6 18 rfl (a_ (a_ tr (a_ (leB (k_T_api_Tx a.f_Tx b.f_Tx)) tr)) (r1_ (f_ c4 (a_ tr (t4_ (r2_ (a_ tr (t4_ (r2_ (a_ tr (t4_ (r2_ (a_ tr (t4_ (r2_ (a_ tr (t2_ (t4_ (r2_ tr))))))))))))))))))))))))))))))))))))))))) tr)) tr) (by kernel_rfl) rfl
      · skip
        obtain rfl := Option.some.inj h
        exact run_ret mixed (L := []) (n := 15) (s := [.reg [], .reg [(5, hT), (12, hT), (19, hF)]])
          (a_ (a_ (r1_ (r2_ tr)) (a_ (r1_ (l_ 0 18 rfl (r1_ (l_ 0 18 rfl (r1_ (f_ c1 (r1_ (l_ 1 18 rfl (r1_ (l_ 1 18 rfl (r2_ (f_ c2 (r1_ (l_ 2 18 rfl (r1_ (l_ 2 18 rfl (r2_ (f_ c3 (a_ tr (t4_ (r2_ (a_ tr (t4_ (r2_ (a_ tr (t4_ (r2_ (a_ tr (t4_ (r2_ (a_ tr (t4_ (r2_ (a_ tr (t2_ (t4_ (r2_ tr))))))))))))))))))))))))))))))))))))) tr)) tr) (by kernel_rfl) rfl
    · skip
      obtain rfl := Option.some.inj h
      exact run_ret mixed (L := []) (n := 15) (s := [.reg [], .reg [(5, hT), (12, hF)]])
        (a_ (a_ (r1_ (r2_ tr)) (a_ (r1_ (l_ 0 18 rfl (r1_ (l_ 0 18 rfl (r1_ (f_ c1 (r1_ (l_ 1 18 rfl (r1_ (l_ 1 18 rfl (r2_ (f_ c2 (a_ tr (t4_ (r2_ (a_ tr (t4_ (r2_ (a_ tr (t4_ (r2_ (a_ tr (t4_ (r2_ (a_ tr (t4_ (r2_ (a_ tr (t4_ (r2_ (a_ tr (t2_ (t4_ (r2_ tr)))))))))))))))))))))))))))))))))) tr)) tr) (by kernel_rfl) rfl
  · skip
    obtain rfl := Option.some.inj h
    exact run_ret mixed (L := []) (n := 15) (s := [.reg [], .reg [(5, hF)]])
      (a_ (a_ (r1_ (r2_ tr)) (a_ (r1_ (l_ 0 18 rfl (r1_ (l_ 0 18 rfl (r1_ (f_ c1 (a_ tr (t4_ (r2_ (a_ tr (t4_ (r2_ (a_ tr (t4_ (r2_ (a_ tr (t4_ (r2_ (a_ tr (t4_ (r2_ (a_ tr (t4_ (r2_ (a_ tr (t4_ (r2_ (a_ tr (t2_ (t4_ (r2_ tr))))))))))))))))))))))))))))))) tr)) tr) (by kernel_rfl) rfl

theorem parrelref27_SameCall_tri (a : T_parrelref27_Call) (b : T_parrelref27_Call) (r : (Bool)) (h : parrelref27_SameCall a b = some r) : FnTri Tryd.prog 36 [v_T_parrelref27_Call a, v_T_parrelref27_Call b] [] (parrelref27_SameCall_v r) [] := FnTri.none (parrelref27_SameCall_ok a b r h) rfl rfl

/-- parrel/parrelref27.Same -/

def parrelref27_Same_v (r : (Bool)) : LV := .bool r

def parrelref27_Same (a : T_parrelref27_Step) (b : T_parrelref27_Step) : Option ((Bool)) :=
  if ((a.f_Kind == b.f_Kind) : Bool) then
    if ((a.f_Node == b.f_Node) : Bool) then
      if ((a.f_Wire == b.f_Wire) : Bool) then
        if ((a.f_N == b.f_N) : Bool) then
          if ((a.f_Cut == b.f_Cut) : Bool) then
            (parrelref27_SameCall a.f_Call b.f_Call).bind fun y7 =>
            if (y7 : Bool) then
              if ((a.f_To == b.f_To) : Bool) then
                some ((strI a.f_Bytes) == (strI b.f_Bytes))
              else
                some false
            else
              some false
          else
            some false
        else
          some false
      else
        some false
    else
      some false
  else
    some false

theorem parrelref27_Same_ok (a : T_parrelref27_Step) (b : T_parrelref27_Step) (r : (Bool)) (h : parrelref27_Same a b = some r) : ∀ σ, Inj 0 σ → FnTri Tryd.prog 15 (renL σ [v_T_parrelref27_Step a, v_T_parrelref27_Step b]) (preOf σ 0 []) ((parrelref27_Same_v r).ren σ) (upOf σ []) := by
  refine fn_of Tryd.func15 (by kernel_rfl) (by kernel_rfl) (by kernel_rfl) trivial (by kernel_rfl) trivial (by kernel_rfl) ?_
  intro w0 W μ0 hμ
  unfold parrelref27_Same at h
  rcases itb_some h with ⟨c1, h⟩ | ⟨c1, h⟩
  · skip
    rcases itb_some h with ⟨c2, h⟩ | ⟨c2, h⟩
    · skip
      rcases itb_some h with ⟨c3, h⟩ | ⟨c3, h⟩
      · skip
        rcases itb_some h with ⟨c4, h⟩ | ⟨c4, h⟩
        · skip
          rcases itb_some h with ⟨c5, h⟩ | ⟨c5, h⟩
          · skip
            obtain ⟨y7, e6, h⟩ := bind_some h
            rcases itb_some h with ⟨c8, h⟩ | ⟨c8, h⟩
            · skip
              rcases itb_some h with ⟨c9, h⟩ | ⟨c9, h⟩
              · skip
                obtain rfl := Option.some.inj h
                exact run_ret mixed (L := []) (n := 15) (s := [.reg [], .reg [(5, hT), (12, hT), (19, hT), (26, hT), (33, hT), (38, hC (parrelref27_SameCall_v y7)), (40, hT), (47, hT), (50, { v := some (.str (strI a.f_Bytes)) }), (53, { v := some (.str (strI b.f_Bytes)) })]])
                  (a_ (a_ (r1_ (r2_ tr)) (a_ (r1_ (l_ 0 25 rfl (r1_ (l_ 0 25 rfl (r1_ (f_ c1 (r1_ (l_ 1 25 rfl (r1_ (l_ 1 25 rfl (r2_ (f_ c2 (r1_ (l_ 2 25 rfl (r1_ (l_ 2 25 rfl (r2_ (f_ c3 (r1_ (l_ 3 25 rfl (r1_ (l_ 3 25 rfl (r2_ (f_ c4 (r1_ (l_ 4 25 rfl (r1_ (l_ 4 25 rfl (r2_ (f_ c5 (r1_ (m_ 23 25 rfl (r1_ (m_ 23 25 rfl (c_ (parrelref27_SameCall_tri a.f_Call b.f_Call y7 e6) (r1_ (f_ c8 (r1_ (l_ 23 25 rfl (r1_ (l_ 23 25 rfl (r2_ (f_ c9 (r1_ (l_ 24 25 rfl (a_ (a_ (a_ (Eq.refl 1) (str_ob a.f_Bytes)) (a_ (le_str a.f_Bytes) tr)) (r1_ (l_ 24 25 rfl (a_ (a_ (a_ (Eq.refl 1) (str_ob b.f_Bytes)) (a_ (le_str b.f_Bytes) tr)) (r1_ (r2_ tr))))))))))))))))))))))))))))))))))))))))))))))))))) tr)) tr) (by kernel_rfl) rfl
              · skip
                obtain rfl := Option.some.inj h
                exact run_ret mixed (L := []) (n := 15) (s := [.reg [], .reg [(5, hT), (12, hT), (19, hT), (26, hT), (33, hT), (38, hC (parrelref27_SameCall_v y7)), (40, hT), (47, hF)]])
                  (a_ (a_ (r1_ (r2_ tr)) (a_ (r1_ (l_ 0 25 rfl (r1_ (l_ 0 25 rfl (r1_ (f_ c1 (r1_ (l_ 1 25 rfl (r1_ (l_ 1 25 rfl (r2_ (f_ c2 (r1_ (l_ 2 25 rfl (r1_ (l_ 2 25 rfl (r2_ (f_ c3 (r1_ (l_ 3 25 rfl (r1_ (l_ 3 25 rfl (r2_ (f_ c4 (r1_ (l_ 4 25 rfl (r1_ (l_ 4 25 rfl (r2_ (f_ c5 (r1_ (m_ 23 25 rfl (r1_ (m_ 23 25 rfl (c_ (parrelref27_SameCall_tri a.f_Call b.f_Call y7 e6) (r1_ (f_ c8 (r1_ (l_ 23 25 rfl (r1_ (l_ 23 25 rfl (r2_ (f_ c9 (a_ tr (t2_ (t4_ (r2_ tr))))))))))))))))))))))))))))))))))))))))))))))) tr)) tr) (by kernel_rfl) rfl
            · skip
              obtain rfl := Option.some.inj h
              exact run_ret mixed (L := []) (n := 15) (s := [.reg [], .reg [(5, hT), (12, hT), (19, hT), (26, hT), (33, hT), (38, hC (parrelref27_SameCall_v y7)), (40, hF)]])
                (a_ (a_ (r1_ (r2_ tr)) (a_ (r1_ (l_ 0 25 rfl (r1_ (l_ 0 25 rfl (r1_ (f_ c1 (r1_ (l_ 1 25 rfl (r1_ (l_ 1 25 rfl (r2_ (f_ c2 (r1_ (l_ 2 25 rfl (r1_ (l_ 2 25 rfl (r2_ (f_ c3 (r1_ (l_ 3 25 rfl (r1_ (l_ 3 25 rfl (r2_ (f_ c4 (r1_ (l_ 4 25 rfl (r1_ (l_ 4 25 rfl (r2_ (f_ c5 (r1_ (m_ 23 25 rfl (r1_ (m_ 23 25 rfl (c_ (parrelref27_SameCall_tri a.f_Call b.f_Call y7 e6) (r1_ (f_ c8 (a_ tr (t4_ (r2_ (a_ tr (t2_ (t4_ (r2_ tr)))))))))))))))))))))))))))))))))))))))))))) tr)) tr) (by kernel_rfl) rfl
          · skip
            obtain rfl := Option.some.inj h
            exact run_ret mixed (L := []) (n := 15) (s := [.reg [], .reg [(5, hT), (12, hT), (19, hT), (26, hT), (33, hF)]])
              (a_ (a_ (r1_ (r2_ tr)) (a_ (r1_ (l_ 0 25 rfl (r1_ (l_ 0 25 rfl (r1_ (f_ c1 (r1_ (l_ 1 25 rfl (r1_ (l_ 1 25 rfl (r2_ (f_ c2 (r1_ (l_ 2 25 rfl (r1_ (l_ 2 25 rfl (r2_ (f_ c3 (r1_ (l_ 3 25 rfl (r1_ (l_ 3 25 rfl (r2_ (f_ c4 (r1_ (l_ 4 25 rfl (r1_ (l_ 4 25 rfl (r2_ (f_ c5 (a_ tr (t4_ (r2_ (a_ tr (t4_ (r2_ (a_ tr (t2_ (t4_ (r2_ tr)))))))))))))))))))))))))))))))))))))))) tr)) tr) (by kernel_rfl) rfl
        · skip
          obtain rfl := Option.some.inj h
          exact run_ret mixed (L := []) (n := 15) (s := [.reg [], .reg [(5, hT), (12, hT), (19, hT), (26, hF)]])
            (a_ (a_ (r1_ (r2_ tr)) (a_ (r1_ (l_ 0 25 rfl (r1_ (l_ 0 25 rfl (r1_ (f_ c1 (r1_ (l_ 1 25 rfl (r1_ (l_ 1 25 rfl (r2_ (f_ c2 (r1_ (l_ 2 25 rfl (r1_ (l_ 2 25 rfl (r2_ (f_ c3 (r1_ (l_ 3 25 rfl (r1_ (l_ 3 25 rfl (r2_ (f_ c4 (a_ tr (t4_ (r2_ (a_ tr (t4_ (r2_ (a_ tr (t4_ (r2_ (a_ tr (t2_ (t4_ (r2_ tr))))))))))))))))))))))))))))))))))))) tr)) tr) (by kernel_rfl) rfl
      · skip
        obtain rfl := Option.some.inj h
        exact run_ret mixed (L := []) (n := 15) (s := [.reg [], .reg [(5, hT), (12, hT), (19, hF)]])
          (a_ (a_ (r1_ (r2_ tr)) (a_ (r1_ (l_ 0 25 rfl (r1_ (l_ 0 25 rfl (r1_ (f_ c1 (r1_ (l_ 1 25 rfl (r1_ (l_ 1 25 rfl (r2_ (f_ c2 (r1_ (l_ 2 25 rfl (r1_ (l_ 2 25 rfl (r2_ (f_ c3 (a_ tr (t4_ (r2_ (a_ tr (t4_ (r2_ (a_ tr (t4_ (r2_ (a_ tr (t4_ (r2_ (a_ tr (t2_ (t4_ (r2_ tr)))))))))))))))))))))))))))))))))) tr)) tr) (by kernel_rfl) rfl
    · skip
      obtain rfl := Option.some.inj h
      exact run_ret mixed (L := []) (n := 15) (s := [.reg [], .reg [(5, hT), (12, hF)]])
        (a_ (a_ (r1_ (r2_ tr)) (a_ (r1_ (l_ 0 25 rfl (r1_ (l_ 0 25 rfl (r1_ (f_ c1 (r1_ (l_ 1 25 rfl (r1_ (l_ 1 25 rfl (r2_ (f_ c2 (a_ tr (t4_ (r2_ (a_ tr (t4_ (r2_ (a_ tr (t4_ (r2_ (a_ tr (t4_ (r2_ (a_ tr (t4_ (r2_ (a_ tr (t2_ (t4_ (r2_ tr))))))))))))))))))))))))))))))) tr)) tr) (by kernel_rfl) rfl
  · skip
    obtain rfl := Option.some.inj h
    exact run_ret mixed (L := []) (n := 15) (s := [.reg [], .reg [(5, hF)]])
      (a_ (a_ (r1_ (r2_ tr)) (a_ (r1_ (l_ 0 25 rfl (r1_ (l_ 0 25 rfl (r1_ (f_ c1 (a_ tr (t4_ (r2_ (a_ tr (t4_ (r2_ (a_ tr (t4_ (r2_ (a_ tr (t4_ (r2_ (a_ tr (t4_ (r2_ (a_ tr (t4_ (r2_ (a_ tr (t2_ (t4_ (r2_ tr)))))))))))))))))))))))))))) tr)) tr) (by kernel_rfl) rfl

theorem parrelref27_Same_tri (a : T_parrelref27_Step) (b : T_parrelref27_Step) (r : (Bool)) (h : parrelref27_Same a b = some r) : FnTri Tryd.prog 15 [v_T_parrelref27_Step a, v_T_parrelref27_Step b] [] (parrelref27_Same_v r) [] := FnTri.none (parrelref27_Same_ok a b r h) rfl rfl

/-- parrel/parrelref05.Name -/

def parrelref05_Name_v (r : (List UInt8) × (Bool)) : LV := .tup [.str r.1, .bool r.2]

def parrelref05_Name_T1 (x_k : A8 (Int)) (x_n : Int) (i : Int) : List LV := [.any, .ptr 0 0 0, .any, .any, .int .i64 x_n, .int .i64 i, .any, .any, .any, .any, .any, .any, .any, .any, .any, .any, .any, .any, .any, .any, .any, .any, .any, .any, .any, .any, .any, .any, .any, .any]

def parrelref05_Name_H1 (x_k : A8 (Int)) (x_n : Int) (i : Int) : Heap := [some (.var [.int .u8 x_k.a0, .int .u8 x_k.a1, .int .u8 x_k.a2, .int .u8 x_k.a3, .int .u8 x_k.a4, .int .u8 x_k.a5, .int .u8 x_k.a6, .int .u8 x_k.a7])]

def parrelref05_Name_T0 (x_k : A8 (Int)) (x_n : Int) : List LV := [.any, .ptr 0 0 0, .any, .any, .int .i64 x_n, .any, .any, .any, .any, .any, .any, .any, .any, .any, .any, .any, .any, .any, .any, .any, .any, .any, .any, .any, .any, .any, .any, .any, .any, .any]

def parrelref05_Name_H0 (x_k : A8 (Int)) (x_n : Int) : Heap := [some (.var [.int .u8 x_k.a0, .int .u8 x_k.a1, .int .u8 x_k.a2, .int .u8 x_k.a3, .int .u8 x_k.a4, .int .u8 x_k.a5, .int .u8 x_k.a6, .int .u8 x_k.a7])]

def parrelref05_Name_l1 (x_k : A8 (Int)) (x_n : Int)  : Nat → (Int) → Option ((List UInt8) × (Bool))
  | 0, _ => none
  | fuel + 1, i =>
    if ((decide (i < 8)) : Bool) then
      if 0 ≤ i ∧ i < 8 then
      if (((A8.get x_k i.toNat) != 0) : Bool) then
        some ([], false)
      else
        parrelref05_Name_l1 x_k x_n  fuel (IntKind.wrap .i64 (i + 1))
      else none
    else
      if ((x_n == 0) : Bool) then
        some ([], false)
      else
        if 0 ≤ (0 : Int) ∧ 0 ≤ x_n ∧ x_n ≤ 8 then
        some ((strI (([x_k.a0, x_k.a1, x_k.a2, x_k.a3, x_k.a4, x_k.a5, x_k.a6, x_k.a7] : List Int).take (x_n.toNat))), true)
        else none

def parrelref05_Name_l0 (x_k : A8 (Int))  : Nat → (Int) → Option ((List UInt8) × (Bool))
  | 0, _ => none
  | fuel + 1, x_n =>
    if ((decide (x_n < 8)) : Bool) then
      if 0 ≤ x_n ∧ x_n < 8 then
      if (((A8.get x_k x_n.toNat) != 0) : Bool) then
        parrelref05_Name_l0 x_k  fuel (IntKind.wrap .i64 (x_n + 1))
      else
        parrelref05_Name_l1 x_k x_n  big x_n
      else none
    else
      parrelref05_Name_l1 x_k x_n  big x_n

def parrelref05_Name (x_k : A8 (Int)) : Option ((List UInt8) × (Bool)) :=
  parrelref05_Name_l0 x_k  big 0

theorem parrelref05_Name_l1_ok {w0 : World} {W : Nat → Prop} {μ0 : Emb} (hμ : ∀ c p, μ0 c = some p → c < 0) (x_k : A8 (Int)) (x_n : Int)  : ∀ (fuel : Nat) (i : Int) (r : (List UInt8) × (Bool)), parrelref05_Name_l1 x_k x_n  fuel i = some r → kont Tryd.prog w0 W μ0 (FnPost Tryd.prog Tryd.f54 0 0 (parrelref05_Name_v r) []) (kAt (bodyOf Tryd.f54) 1) none (parrelref05_Name_T1 x_k x_n i) (parrelref05_Name_H1 x_k x_n i) := by
  intro fuel
  induction fuel with
  | zero => intro i r h; rw [parrelref05_Name_l1] at h; cases h
  | succ fuel ih =>
    intro i r h
    rw [parrelref05_Name_l1] at h
    rcases itb_some h with ⟨cL1_1, h⟩ | ⟨cL1_1, h⟩
    · skip
      obtain ⟨gL1_2, h⟩ := guard_some h
      rcases itb_some h with ⟨cL1_3, h⟩ | ⟨cL1_3, h⟩
      · skip
        obtain rfl := Option.some.inj h
        exact run_ret mixed (L := []) (n := 25) (s := [.go, .reg [(1, hT)], .reg [(2, { v := some (.int .u8 (A8.get x_k i.toNat)) }), (3, hT)], .reg []])
          (a_ (a_ (r1_ (f_ cL1_1 tr)) (a_ (r1_ (a_ (a_ gL1_2 tr) (a_ (a_ (a_ tr (arrLt (len := 8) gL1_2 0 1 8 rfl rfl)) (a_ (ld8s (cInt .u8) 1 (fun _ => rfl) x_k [] [] 0 rfl i.toNat (lt8N gL1_2) (le_ (0 + 1) 1 rfl)) tr)) (f_ cL1_3 tr)))) (a_ (r2_ tr) tr))) tr) (by kernel_rfl) rfl
      · skip
        exact run_to mixed hμ (L := [0]) (n := 26) (s := [.go, .reg [(1, hT)], .reg [(2, { v := some (.int .u8 (A8.get x_k i.toNat)) }), (3, hF)], .reg []])
          (a_ (r1_ (f_ cL1_1 tr)) (a_ (r1_ (a_ (a_ gL1_2 tr) (a_ (a_ (a_ tr (arrLt (len := 8) gL1_2 0 1 8 rfl rfl)) (a_ (ld8s (cInt .u8) 1 (fun _ => rfl) x_k [] [] 0 rfl i.toNat (lt8N gL1_2) (le_ (0 + 1) 1 rfl)) tr)) (f_ cL1_3 tr)))) (a_ (r1_ (r2_ tr)) tr))) (ih _ r h) (by kernel_rfl) ⟨rfl, trivial⟩
    · skip
      rcases itb_some h with ⟨cL1_2, h⟩ | ⟨cL1_2, h⟩
      · skip
        obtain rfl := Option.some.inj h
        exact run_ret mixed (L := []) (n := 24) (s := [.go, .reg [(1, hF)], .reg [(1, hT)], .reg []])
          (a_ (a_ (r1_ (f_ cL1_1 tr)) (a_ (r1_ (f_ cL1_2 tr)) (a_ (r2_ tr) tr))) tr) (by kernel_rfl) rfl
      · skip
        obtain ⟨gL1_3, h⟩ := guard_some h
        obtain rfl := Option.some.inj h
        exact run_ret mixed (L := []) (n := 25) (s := [.go, .reg [(1, hF)], .reg [(1, hF)], .reg [(2, { v := some (.str (strI (([x_k.a0, x_k.a1, x_k.a2, x_k.a3, x_k.a4, x_k.a5, x_k.a6, x_k.a7] : List Int).take (x_n.toNat)))) })]])
          (a_ (a_ (r1_ (f_ cL1_1 tr)) (a_ (r1_ (f_ cL1_2 tr)) (a_ (r1_ (a_ (a_ gL1_3 tr) (a_ (a_ (arr_ob [x_k.a0, x_k.a1, x_k.a2, x_k.a3, x_k.a4, x_k.a5, x_k.a6, x_k.a7] (x_n.toNat) 8 (toN_le (n := 8) gL1_3.2.2) rfl) (a_ (le_arr [x_k.a0, x_k.a1, x_k.a2, x_k.a3, x_k.a4, x_k.a5, x_k.a6, x_k.a7] (x_n.toNat) 8 (toN_le (n := 8) gL1_3.2.2) rfl) tr)) (r2_ tr)))) tr))) tr) (by kernel_rfl) rfl

theorem parrelref05_Name_l0_ok {w0 : World} {W : Nat → Prop} {μ0 : Emb} (hμ : ∀ c p, μ0 c = some p → c < 0) (x_k : A8 (Int))  : ∀ (fuel : Nat) (x_n : Int) (r : (List UInt8) × (Bool)), parrelref05_Name_l0 x_k  fuel x_n = some r → kont Tryd.prog w0 W μ0 (FnPost Tryd.prog Tryd.f54 0 0 (parrelref05_Name_v r) []) (kAt (bodyOf Tryd.f54) 0) none (parrelref05_Name_T0 x_k x_n) (parrelref05_Name_H0 x_k x_n) := by
  intro fuel
  induction fuel with
  | zero => intro x_n r h; rw [parrelref05_Name_l0] at h; cases h
  | succ fuel ih =>
    intro x_n r h
    rw [parrelref05_Name_l0] at h
    rcases itb_some h with ⟨cL0_1, h⟩ | ⟨cL0_1, h⟩
    · skip
      obtain ⟨gL0_2, h⟩ := guard_some h
      rcases itb_some h with ⟨cL0_3, h⟩ | ⟨cL0_3, h⟩
      · skip
        exact run_to mixed hμ (L := [0]) (n := 20) (s := [.go, .reg [(2, hT), (5, { v := some (.int .u8 (A8.get x_k x_n.toNat)) }), (7, hT)], .reg []])
          (a_ (r2_ (f_ cL0_1 (r1_ (a_ (a_ gL0_2 tr) (a_ (a_ (a_ tr (arrLt (len := 8) gL0_2 0 1 8 rfl rfl)) (a_ (ld8s (cInt .u8) 1 (fun _ => rfl) x_k [] [] 0 rfl x_n.toNat (lt8N gL0_2) (le_ (0 + 1) 1 rfl)) tr)) (r1_ (f_ cL0_3 tr))))))) (a_ (r1_ (r2_ tr)) tr)) (ih _ r h) (by kernel_rfl) ⟨rfl, trivial⟩
      · skip
        exact run_to mixed hμ (L := [0]) (n := 22) (s := [.go, .reg [(2, hT), (5, { v := some (.int .u8 (A8.get x_k x_n.toNat)) }), (7, hF)], .reg []])
          (a_ (r2_ (f_ cL0_1 (r1_ (a_ (a_ gL0_2 tr) (a_ (a_ (a_ tr (arrLt (len := 8) gL0_2 0 1 8 rfl rfl)) (a_ (ld8s (cInt .u8) 1 (fun _ => rfl) x_k [] [] 0 rfl x_n.toNat (lt8N gL0_2) (le_ (0 + 1) 1 rfl)) tr)) (r1_ (f_ cL0_3 tr))))))) (a_ (r2_ tr) tr)) (parrelref05_Name_l1_ok hμ x_k x_n  big _ r h) (by kernel_rfl) ⟨rfl, trivial⟩
    · skip
      exact run_to mixed hμ (L := [0]) (n := 22) (s := [.go, .reg [(2, hF)], .reg []])
        (a_ (r2_ (f_ cL0_1 (t4_ (r1_ tr)))) (a_ (r2_ tr) tr)) (parrelref05_Name_l1_ok hμ x_k x_n  big _ r h) (by kernel_rfl) ⟨rfl, trivial⟩

theorem parrelref05_Name_ok (x_k : A8 (Int)) (r : (List UInt8) × (Bool)) (h : parrelref05_Name x_k = some r) : ∀ σ, Inj 0 σ → FnTri Tryd.prog 54 (renL σ [.agg [.int .u8 x_k.a0, .int .u8 x_k.a1, .int .u8 x_k.a2, .int .u8 x_k.a3, .int .u8 x_k.a4, .int .u8 x_k.a5, .int .u8 x_k.a6, .int .u8 x_k.a7]]) (preOf σ 0 []) ((parrelref05_Name_v r).ren σ) (upOf σ []) := by
  refine fn_of Tryd.func54 (by kernel_rfl) (by kernel_rfl) (by kernel_rfl) trivial (by kernel_rfl) trivial (by kernel_rfl) ?_
  intro w0 W μ0 hμ
  unfold parrelref05_Name at h
  exact run_to mixed hμ (L := [0]) (n := 18) (s := [.reg [], .reg []])
    (a_ (r1_ (r2_ tr)) (a_ (r1_ tr) tr)) (parrelref05_Name_l0_ok hμ x_k  big _ r h) (by kernel_rfl) ⟨rfl, trivial⟩

theorem parrelref05_Name_tri (x_k : A8 (Int)) (r : (List UInt8) × (Bool)) (h : parrelref05_Name x_k = some r) : FnTri Tryd.prog 54 [.agg [.int .u8 x_k.a0, .int .u8 x_k.a1, .int .u8 x_k.a2, .int .u8 x_k.a3, .int .u8 x_k.a4, .int .u8 x_k.a5, .int .u8 x_k.a6, .int .u8 x_k.a7]] [] (parrelref05_Name_v r) [] := FnTri.none (parrelref05_Name_ok x_k r h) rfl rfl

/-- parrel/parrelref10.KeyMay -/

def parrelref10_KeyMay_v (r : (Bool)) : LV := .bool r

def parrelref10_KeyMay (x_k : A8 (Int)) : Option ((Bool)) :=
  (parrelref05_Name x_k).bind fun y2 =>
  some y2.2

theorem parrelref10_KeyMay_ok (x_k : A8 (Int)) (r : (Bool)) (h : parrelref10_KeyMay x_k = some r) : ∀ σ, Inj 0 σ → FnTri Tryd.prog 32 (renL σ [.agg [.int .u8 x_k.a0, .int .u8 x_k.a1, .int .u8 x_k.a2, .int .u8 x_k.a3, .int .u8 x_k.a4, .int .u8 x_k.a5, .int .u8 x_k.a6, .int .u8 x_k.a7]]) (preOf σ 0 []) ((parrelref10_KeyMay_v r).ren σ) (upOf σ []) := by
  refine fn_of Tryd.func32 (by kernel_rfl) (by kernel_rfl) (by kernel_rfl) trivial (by kernel_rfl) trivial (by kernel_rfl) ?_
  intro w0 W μ0 hμ
  unfold parrelref10_KeyMay at h
  obtain ⟨y2, e1, h⟩ := bind_some h
  obtain rfl := Option.some.inj h
  exact run_ret mixed (L := []) (n := 18) (s := [.reg [], .reg [(1, hC (parrelref05_Name_v y2))], .reg []])
    (a_ (a_ (r2_ tr) (a_ (m_ 8 8 rfl (c_ (parrelref05_Name_tri x_k y2 e1) (r1_ (r4_ tr)))) (a_ (r2_ tr) tr))) tr) (by kernel_rfl) rfl

theorem parrelref10_KeyMay_tri (x_k : A8 (Int)) (r : (Bool)) (h : parrelref10_KeyMay x_k = some r) : FnTri Tryd.prog 32 [.agg [.int .u8 x_k.a0, .int .u8 x_k.a1, .int .u8 x_k.a2, .int .u8 x_k.a3, .int .u8 x_k.a4, .int .u8 x_k.a5, .int .u8 x_k.a6, .int .u8 x_k.a7]] [] (parrelref10_KeyMay_v r) [] := FnTri.none (parrelref10_KeyMay_ok x_k r h) rfl rfl

/-- parrel/parrelref27.number -/

def parrelref27_number_v (r : (Bool)) : LV := .bool r

def parrelref27_number (x_n : Int) : Option ((Bool)) :=
  if ((decide (0 ≤ x_n)) : Bool) then
    some (decide (x_n ≤ 2147483647))
  else
    some false

theorem parrelref27_number_ok (x_n : Int) (r : (Bool)) (h : parrelref27_number x_n = some r) : ∀ σ, Inj 0 σ → FnTri Tryd.prog 33 (renL σ [.int .i64 x_n]) (preOf σ 0 []) ((parrelref27_number_v r).ren σ) (upOf σ []) := by
  refine fn_of Tryd.func33 (by kernel_rfl) (by kernel_rfl) (by kernel_rfl) trivial (by kernel_rfl) trivial (by kernel_rfl) ?_
  intro w0 W μ0 hμ
  unfold parrelref27_number at h
  rcases itb_some h with ⟨c1, h⟩ | ⟨c1, h⟩
  · skip
    obtain rfl := Option.some.inj h
    exact run_ret mixed (L := []) (n := 15) (s := [.reg [], .reg [(2, hT)]])
      (a_ (a_ (r1_ tr) (a_ (r2_ (f_ c1 (r4_ tr))) tr)) tr) (by kernel_rfl) rfl
  · skip
    obtain rfl := Option.some.inj h
    exact run_ret mixed (L := []) (n := 15) (s := [.reg [], .reg [(2, hF)]])
      (a_ (a_ (r1_ tr) (a_ (r2_ (f_ c1 (t2_ (r2_ tr)))) tr)) tr) (by kernel_rfl) rfl

theorem parrelref27_number_tri (x_n : Int) (r : (Bool)) (h : parrelref27_number x_n = some r) : FnTri Tryd.prog 33 [.int .i64 x_n] [] (parrelref27_number_v r) [] := FnTri.none (parrelref27_number_ok x_n r h) rfl rfl

/-- parrel/parrelref27.May -/

def parrelref27_May_v (r : (Bool)) : LV := .bool r

def parrelref27_May_T1000008 (s : T_parrelref27_Step)  : List LV := [.any, .ptr 0 0 0, .any, .any, .any, .any, .any, .any, .any, .any, .any, .any, .any, .any, .any, .any, .any, .any, .any, .any, .any, .any, .any, .any, .any, .any, .any, .any, .any, .any, .any, .any, .any, .any, .any, .any, .any, .any, .any, .any, .any, .any, .any, .any, .any, .any, .any, .any, .any, .any, .any, .any, .any, .any, .any, .any, .any, .any, .any, .any, .any, .any, .any, .any, .any, .any, .any, .any, .any, .any, .any, .any, .any, .any, .any, .any, .any, .any, .any, .any, .any, .any, .any, .any, .any, .any, .any, .any, .any, .any, .any, .any, .any, .any, .any, .any, .any, .any, .any, .any, .any, .any, .any, .any, .any, .any, .any, .any, .any, .any, .any, .any, .any]

def parrelref27_May_H1000008 (s : T_parrelref27_Step)  : Heap := [some (.var (c_T_parrelref27_Step s))]

def parrelref27_May_T1000007   : List LV := [.any, .any, .any, .any, .any, .any, .any, .any, .any, .any, .any, .any, .any, .any, .any, .any, .any, .any, .any, .any, .any, .any, .any, .any, .any, .any, .any, .any, .any, .any, .any, .any, .any, .any, .any, .any, .any, .any, .any, .any, .any, .any, .any, .any, .any, .any, .any, .any, .any, .any, .any, .any, .any, .any, .any, .any, .any, .any, .any, .any, .any, .any, .any, .any, .any, .any, .any, .any, .any, .any, .any, .any, .any, .any, .any, .any, .any, .any, .any, .any, .any, .any, .any, .any, .any, .any, .any, .any, .any, .any, .any, .any, .any, .any, .any, .any, .any, .any, .any, .any, .any, .any, .any, .any, .any, .any, .any, .any, .any, .any, .any, .any, .any]

def parrelref27_May_H1000007   : Heap := []

def parrelref27_May_T1000004 (s : T_parrelref27_Step)  : List LV := [.any, .ptr 0 0 0, .any, .ptr 1 0 0, .any, .any, .any, .any, .any, .any, .any, .any, .any, .any, .any, .any, .any, .any, .any, .any, .any, .any, .any, .any, .any, .any, .any, .any, .any, .any, .any, .any, .any, .any, .any, .any, .any, .any, .any, .any, .any, .any, .any, .any, .any, .any, .any, .any, .any, .any, .any, .any, .any, .any, .any, .any, .any, .any, .any, .any, .any, .any, .any, .any, .any, .any, .any, .any, .any, .any, .any, .any, .any, .any, .any, .any, .any, .any, .any, .any, .any, .any, .any, .any, .any, .any, .any, .any, .any, .any, .any, .any, .any, .any, .any, .any, .any, .any, .any, .any, .any, .any, .any, .any, .any, .any, .any, .any, .any, .any, .any, .any, .any]

def parrelref27_May_H1000004 (s : T_parrelref27_Step)  : Heap := [some (.var (c_T_parrelref27_Step s)), some (.var (c_T_parrelref27_Call s.f_Call))]

def parrelref27_May_c8 (s : T_parrelref27_Step)   : Option ((Bool)) :=
  (parrelref27_number s.f_Node).bind fun yC8_2 =>
  if (yC8_2 : Bool) then
    (parrelref27_number s.f_Wire).bind fun yC8_5 =>
    if (yC8_5 : Bool) then
      (parrelref27_number s.f_To).bind fun yC8_8 =>
      if (yC8_8 : Bool) then
        (parrelref27_number s.f_N).bind fun yC8_11 =>
        if (yC8_11 : Bool) then
          some (decide (((s.f_Bytes).length : Int) ≤ 4096))
        else
          if ((s.f_N == (-1)) : Bool) then
            some (decide (((s.f_Bytes).length : Int) ≤ 4096))
          else
            some false
      else
        some false
    else
      some false
  else
    some false

def parrelref27_May_c7    : Option ((Bool)) :=
  some false

def parrelref27_May_c4 (s : T_parrelref27_Step)   : Option ((Bool)) :=
  if ((s.f_Kind == 1) : Bool) then
    if ((s.f_Call.f_Kind == 2) : Bool) then
      if ((decide (s.f_Call.f_Kind < 1)) : Bool) then
        some false
      else
        if ((decide (6 < s.f_Call.f_Kind)) : Bool) then
          some false
        else
          (parrelref10_KeyMay s.f_Call.f_Key).bind fun yC4_6 =>
          if ((!yC4_6) : Bool) then
            parrelref27_May_c7   
          else
            if ((decide (2147483647 < s.f_Call.f_Seq)) : Bool) then
              parrelref27_May_c7   
            else
              if ((decide (2147483647 < s.f_Call.f_Tx.f_Boot)) : Bool) then
                parrelref27_May_c7   
              else
                if ((decide (2147483647 < s.f_Call.f_Tx.f_Num)) : Bool) then
                  parrelref27_May_c7   
                else
                  if ((decide (8 < ((s.f_Call.f_Votes).length : Int))) : Bool) then
                    parrelref27_May_c7   
                  else
                    if ((decide (64 < ((s.f_Call.f_Value).length : Int))) : Bool) then
                      parrelref27_May_c7   
                    else
                      parrelref27_May_c8 s  
    else
      if ((s.f_Call.f_Kind == 3) : Bool) then
        if ((decide (s.f_Call.f_Kind < 1)) : Bool) then
          some false
        else
          if ((decide (6 < s.f_Call.f_Kind)) : Bool) then
            some false
          else
            (parrelref10_KeyMay s.f_Call.f_Key).bind fun yC4_7 =>
            if ((!yC4_7) : Bool) then
              parrelref27_May_c7   
            else
              if ((decide (2147483647 < s.f_Call.f_Seq)) : Bool) then
                parrelref27_May_c7   
              else
                if ((decide (2147483647 < s.f_Call.f_Tx.f_Boot)) : Bool) then
                  parrelref27_May_c7   
                else
                  if ((decide (2147483647 < s.f_Call.f_Tx.f_Num)) : Bool) then
                    parrelref27_May_c7   
                  else
                    if ((decide (8 < ((s.f_Call.f_Votes).length : Int))) : Bool) then
                      parrelref27_May_c7   
                    else
                      if ((decide (64 < ((s.f_Call.f_Value).length : Int))) : Bool) then
                        parrelref27_May_c7   
                      else
                        parrelref27_May_c8 s  
      else
        if ((decide (s.f_Call.f_Kind < 1)) : Bool) then
          some false
        else
          if ((decide (6 < s.f_Call.f_Kind)) : Bool) then
            some false
          else
            if ((s.f_Call.f_Kind == 6) : Bool) then
              (parrelref10_KeyMay s.f_Call.f_Key).bind fun yC4_8 =>
              if ((!yC4_8) : Bool) then
                parrelref27_May_c7   
              else
                if ((decide (2147483647 < s.f_Call.f_Seq)) : Bool) then
                  parrelref27_May_c7   
                else
                  if ((decide (2147483647 < s.f_Call.f_Tx.f_Boot)) : Bool) then
                    parrelref27_May_c7   
                  else
                    if ((decide (2147483647 < s.f_Call.f_Tx.f_Num)) : Bool) then
                      parrelref27_May_c7   
                    else
                      if ((decide (8 < ((s.f_Call.f_Votes).length : Int))) : Bool) then
                        parrelref27_May_c7   
                      else
                        if ((decide (64 < ((s.f_Call.f_Value).length : Int))) : Bool) then
                          parrelref27_May_c7   
                        else
                          parrelref27_May_c8 s  
            else
              if ((decide (2147483647 < s.f_Call.f_Seq)) : Bool) then
                parrelref27_May_c7   
              else
                if ((decide (2147483647 < s.f_Call.f_Tx.f_Boot)) : Bool) then
                  parrelref27_May_c7   
                else
                  if ((decide (2147483647 < s.f_Call.f_Tx.f_Num)) : Bool) then
                    parrelref27_May_c7   
                  else
                    if ((decide (8 < ((s.f_Call.f_Votes).length : Int))) : Bool) then
                      parrelref27_May_c7   
                    else
                      if ((decide (64 < ((s.f_Call.f_Value).length : Int))) : Bool) then
                        parrelref27_May_c7   
                      else
                        parrelref27_May_c8 s  
  else
    (parrelref27_number s.f_Node).bind fun yC4_3 =>
    if (yC4_3 : Bool) then
      (parrelref27_number s.f_Wire).bind fun yC4_6 =>
      if (yC4_6 : Bool) then
        (parrelref27_number s.f_To).bind fun yC4_9 =>
        if (yC4_9 : Bool) then
          (parrelref27_number s.f_N).bind fun yC4_12 =>
          if (yC4_12 : Bool) then
            some (decide (((s.f_Bytes).length : Int) ≤ 4096))
          else
            if ((s.f_N == (-1)) : Bool) then
              some (decide (((s.f_Bytes).length : Int) ≤ 4096))
            else
              some false
        else
          some false
      else
        some false
    else
      some false

def parrelref27_May (s : T_parrelref27_Step) : Option ((Bool)) :=
  if ((decide (s.f_Kind < 1)) : Bool) then
    some false
  else
    if ((decide (10 < s.f_Kind)) : Bool) then
      some false
    else
      (parrelref27_kept s).bind fun y4 =>
      (parrelref27_Same y4 s).bind fun y6 =>
      if ((!y6) : Bool) then
        some false
      else
        parrelref27_May_c4 s  

theorem parrelref27_May_c8_ok {w0 : World} {W : Nat → Prop} {μ0 : Emb} (hμ : ∀ c p, μ0 c = some p → c < 0) (s : T_parrelref27_Step)   (r : (Bool)) (h : parrelref27_May_c8 s   = some r) : kont Tryd.prog w0 W μ0 (FnPost Tryd.prog Tryd.f13 0 0 (parrelref27_May_v r) []) (kAtR (bodyOf Tryd.f13) 8) none (parrelref27_May_T1000008 s ) (parrelref27_May_H1000008 s ) := by
  unfold parrelref27_May_c8 at h
  obtain ⟨yC8_2, eC8_1, h⟩ := bind_some h
  rcases itb_some h with ⟨cC8_3, h⟩ | ⟨cC8_3, h⟩
  · skip
    obtain ⟨yC8_5, eC8_4, h⟩ := bind_some h
    rcases itb_some h with ⟨cC8_6, h⟩ | ⟨cC8_6, h⟩
    · skip
      obtain ⟨yC8_8, eC8_7, h⟩ := bind_some h
      rcases itb_some h with ⟨cC8_9, h⟩ | ⟨cC8_9, h⟩
      · skip
        obtain ⟨yC8_11, eC8_10, h⟩ := bind_some h
        rcases itb_some h with ⟨cC8_12, h⟩ | ⟨cC8_12, h⟩
        · skip
          obtain rfl := Option.some.inj h
          exact run_ret mixed (L := []) (n := 11) (s := [.reg [(2, hC (parrelref27_number_v yC8_2)), (3, hT), (6, hC (parrelref27_number_v yC8_5)), (8, hT), (11, hC (parrelref27_number_v yC8_8)), (13, hT), (16, hC (parrelref27_number_v yC8_11)), (17, hT)]])
            (a_ (a_ (r1_ (l_ 1 25 rfl (c_ (parrelref27_number_tri s.f_Node yC8_2 eC8_1) (f_ cC8_3 (r1_ (l_ 2 25 rfl (c_ (parrelref27_number_tri s.f_Wire yC8_5 eC8_4) (r1_ (f_ cC8_6 (r1_ (l_ 23 25 rfl (c_ (parrelref27_number_tri s.f_To yC8_8 eC8_7) (r1_ (f_ cC8_9 (r1_ (l_ 3 25 rfl (c_ (parrelref27_number_tri s.f_N yC8_11 eC8_10) (f_ cC8_12 (a_ tr (t2_ (r4_ (l_ 24 25 rfl (r4_ tr))))))))))))))))))))))) tr) tr) (by kernel_rfl) rfl
        · skip
          rcases itb_some h with ⟨cC8_13, h⟩ | ⟨cC8_13, h⟩
          · skip
            obtain rfl := Option.some.inj h
            exact run_ret mixed (L := []) (n := 11) (s := [.reg [(2, hC (parrelref27_number_v yC8_2)), (3, hT), (6, hC (parrelref27_number_v yC8_5)), (8, hT), (11, hC (parrelref27_number_v yC8_8)), (13, hT), (16, hC (parrelref27_number_v yC8_11)), (17, hF), (23, hT)]])
              (a_ (a_ (r1_ (l_ 1 25 rfl (c_ (parrelref27_number_tri s.f_Node yC8_2 eC8_1) (f_ cC8_3 (r1_ (l_ 2 25 rfl (c_ (parrelref27_number_tri s.f_Wire yC8_5 eC8_4) (r1_ (f_ cC8_6 (r1_ (l_ 23 25 rfl (c_ (parrelref27_number_tri s.f_To yC8_8 eC8_7) (r1_ (f_ cC8_9 (r1_ (l_ 3 25 rfl (c_ (parrelref27_number_tri s.f_N yC8_11 eC8_10) (f_ cC8_12 (r1_ (l_ 3 25 rfl (r1_ (r2_ (f_ cC8_13 (r1_ (l_ 24 25 rfl (r4_ tr)))))))))))))))))))))))))) tr) tr) (by kernel_rfl) rfl
          · skip
            obtain rfl := Option.some.inj h
            exact run_ret mixed (L := []) (n := 11) (s := [.reg [(2, hC (parrelref27_number_v yC8_2)), (3, hT), (6, hC (parrelref27_number_v yC8_5)), (8, hT), (11, hC (parrelref27_number_v yC8_8)), (13, hT), (16, hC (parrelref27_number_v yC8_11)), (17, hF), (23, hF)]])
              (a_ (a_ (r1_ (l_ 1 25 rfl (c_ (parrelref27_number_tri s.f_Node yC8_2 eC8_1) (f_ cC8_3 (r1_ (l_ 2 25 rfl (c_ (parrelref27_number_tri s.f_Wire yC8_5 eC8_4) (r1_ (f_ cC8_6 (r1_ (l_ 23 25 rfl (c_ (parrelref27_number_tri s.f_To yC8_8 eC8_7) (r1_ (f_ cC8_9 (r1_ (l_ 3 25 rfl (c_ (parrelref27_number_tri s.f_N yC8_11 eC8_10) (f_ cC8_12 (r1_ (l_ 3 25 rfl (r1_ (r2_ (f_ cC8_13 (t4_ (r2_ tr))))))))))))))))))))))))) tr) tr) (by kernel_rfl) rfl
      · skip
        obtain rfl := Option.some.inj h
        exact run_ret mixed (L := []) (n := 11) (s := [.reg [(2, hC (parrelref27_number_v yC8_2)), (3, hT), (6, hC (parrelref27_number_v yC8_5)), (8, hT), (11, hC (parrelref27_number_v yC8_8)), (13, hF)]])
          (a_ (a_ (r1_ (l_ 1 25 rfl (c_ (parrelref27_number_tri s.f_Node yC8_2 eC8_1) (f_ cC8_3 (r1_ (l_ 2 25 rfl (c_ (parrelref27_number_tri s.f_Wire yC8_5 eC8_4) (r1_ (f_ cC8_6 (r1_ (l_ 23 25 rfl (c_ (parrelref27_number_tri s.f_To yC8_8 eC8_7) (r1_ (f_ cC8_9 (t8_ (r2_ (t4_ (r2_ tr)))))))))))))))))) tr) tr) (by kernel_rfl) rfl
    · skip
      obtain rfl := Option.some.inj h
      exact run_ret mixed (L := []) (n := 11) (s := [.reg [(2, hC (parrelref27_number_v yC8_2)), (3, hT), (6, hC (parrelref27_number_v yC8_5)), (8, hF)]])
        (a_ (a_ (r1_ (l_ 1 25 rfl (c_ (parrelref27_number_tri s.f_Node yC8_2 eC8_1) (f_ cC8_3 (r1_ (l_ 2 25 rfl (c_ (parrelref27_number_tri s.f_Wire yC8_5 eC8_4) (r1_ (f_ cC8_6 (a_ tr (t2_ (r2_ (t8_ (r2_ (t4_ (r2_ tr)))))))))))))))) tr) tr) (by kernel_rfl) rfl
  · skip
    obtain rfl := Option.some.inj h
    exact run_ret mixed (L := []) (n := 11) (s := [.reg [(2, hC (parrelref27_number_v yC8_2)), (3, hF)]])
      (a_ (a_ (r1_ (l_ 1 25 rfl (c_ (parrelref27_number_tri s.f_Node yC8_2 eC8_1) (f_ cC8_3 (a_ tr (t2_ (r2_ (a_ tr (t2_ (r2_ (t8_ (r2_ (t4_ (r2_ tr)))))))))))))) tr) tr) (by kernel_rfl) rfl

theorem parrelref27_May_c7_ok {w0 : World} {W : Nat → Prop} {μ0 : Emb} (hμ : ∀ c p, μ0 c = some p → c < 0)    (r : (Bool)) (h : parrelref27_May_c7    = some r) : kont Tryd.prog w0 W μ0 (FnPost Tryd.prog Tryd.f13 0 0 (parrelref27_May_v r) []) (kAtR (bodyOf Tryd.f13) 7) none (parrelref27_May_T1000007  ) (parrelref27_May_H1000007  ) := by
  unfold parrelref27_May_c7 at h
  obtain rfl := Option.some.inj h
  exact run_ret mixed (L := []) (n := 11) (s := [.reg []])
    (a_ (a_ (r1_ tr) tr) tr) (by kernel_rfl) rfl

theorem parrelref27_May_c4_ok {w0 : World} {W : Nat → Prop} {μ0 : Emb} (hμ : ∀ c p, μ0 c = some p → c < 0) (s : T_parrelref27_Step)   (r : (Bool)) (h : parrelref27_May_c4 s   = some r) : kont Tryd.prog w0 W μ0 (FnPost Tryd.prog Tryd.f13 0 0 (parrelref27_May_v r) []) (kAtR (bodyOf Tryd.f13) 4) none (parrelref27_May_T1000004 s ) (parrelref27_May_H1000004 s ) := by
  unfold parrelref27_May_c4 at h
  rcases itb_some h with ⟨cC4_1, h⟩ | ⟨cC4_1, h⟩
  · skip
    rcases itb_some h with ⟨cC4_2, h⟩ | ⟨cC4_2, h⟩
    · skip
      rcases itb_some h with ⟨cC4_3, h⟩ | ⟨cC4_3, h⟩
      · skip
        obtain rfl := Option.some.inj h
        exact run_ret mixed (L := []) (n := 22) (s := [.reg [(2, hT)], .reg [(3, hT)], .reg [(3, hT)], .reg []])
          (a_ (a_ (r1_ (l_ 0 25 rfl (f_ cC4_1 tr))) (a_ (r1_ (l_ 2 18 rfl (r1_ (f_ cC4_2 (a_ tr (t2_ (r2_ (a_ tr (t2_ (r2_ tr)))))))))) (a_ (r1_ (l_ 2 18 rfl (r1_ (f_ cC4_3 (a_ tr (t2_ (r2_ (a_ tr (t2_ (t4_ (r2_ (a_ tr (t2_ (r2_ (t4_ (r2_ (t4_ (r2_ (t4_ (r2_ (t4_ (r1_ tr)))))))))))))))))))))) (a_ (r1_ tr) tr)))) tr) (by kernel_rfl) rfl
      · skip
        rcases itb_some h with ⟨cC4_4, h⟩ | ⟨cC4_4, h⟩
        · skip
          obtain rfl := Option.some.inj h
          exact run_ret mixed (L := []) (n := 22) (s := [.reg [(2, hT)], .reg [(3, hT)], .reg [(3, hF), (8, hT)], .reg []])
            (a_ (a_ (r1_ (l_ 0 25 rfl (f_ cC4_1 tr))) (a_ (r1_ (l_ 2 18 rfl (r1_ (f_ cC4_2 (a_ tr (t2_ (r2_ (a_ tr (t2_ (r2_ tr)))))))))) (a_ (r1_ (l_ 2 18 rfl (r1_ (f_ cC4_3 (r1_ (l_ 2 18 rfl (r2_ (f_ cC4_4 (a_ tr (t2_ (t4_ (r2_ (a_ tr (t2_ (r2_ (t4_ (r2_ (t4_ (r2_ (t4_ (r2_ (t4_ (r1_ tr))))))))))))))))))))))) (a_ (r1_ tr) tr)))) tr) (by kernel_rfl) rfl
        · skip
          obtain ⟨yC4_6, eC4_5, h⟩ := bind_some h
          rcases itb_some h with ⟨cC4_7, h⟩ | ⟨cC4_7, h⟩
          · skip
            exact run_to mixed hμ (L := []) (n := 20) (s := [.reg [(2, hT)], .reg [(3, hT)], .reg [(3, hF), (8, hF), (13, hC (parrelref10_KeyMay_v yC4_6)), (17, hT)]])
              (a_ (r1_ (l_ 0 25 rfl (f_ cC4_1 tr))) (a_ (r1_ (l_ 2 18 rfl (r1_ (f_ cC4_2 (a_ tr (t2_ (r2_ (a_ tr (t2_ (r2_ tr)))))))))) (a_ (r1_ (l_ 2 18 rfl (r1_ (f_ cC4_3 (r1_ (l_ 2 18 rfl (r2_ (f_ cC4_4 (r1_ (r2_ (m_ 14 18 rfl (c_ (parrelref10_KeyMay_tri s.f_Call.f_Key yC4_6 eC4_5) (r1_ (r2_ (f_ cC4_7 (a_ tr (t2_ (r2_ (t4_ (r2_ (t4_ (r2_ (t4_ (r2_ (t4_ (r1_ tr)))))))))))))))))))))))))) tr))) (parrelref27_May_c7_ok hμ    r h) (by kernel_rfl) trivial
          · skip
            rcases itb_some h with ⟨cC4_8, h⟩ | ⟨cC4_8, h⟩
            · skip
              exact run_to mixed hμ (L := []) (n := 20) (s := [.reg [(2, hT)], .reg [(3, hT)], .reg [(3, hF), (8, hF), (13, hC (parrelref10_KeyMay_v yC4_6)), (17, hF), (22, hT)]])
                (a_ (r1_ (l_ 0 25 rfl (f_ cC4_1 tr))) (a_ (r1_ (l_ 2 18 rfl (r1_ (f_ cC4_2 (a_ tr (t2_ (r2_ (a_ tr (t2_ (r2_ tr)))))))))) (a_ (r1_ (l_ 2 18 rfl (r1_ (f_ cC4_3 (r1_ (l_ 2 18 rfl (r2_ (f_ cC4_4 (r1_ (r2_ (m_ 14 18 rfl (c_ (parrelref10_KeyMay_tri s.f_Call.f_Key yC4_6 eC4_5) (r1_ (r2_ (f_ cC4_7 (r1_ (l_ 1 18 rfl (r2_ (f_ cC4_8 (t4_ (r2_ (t4_ (r2_ (t4_ (r2_ (t4_ (r1_ tr))))))))))))))))))))))))))) tr))) (parrelref27_May_c7_ok hμ    r h) (by kernel_rfl) trivial
            · skip
              rcases itb_some h with ⟨cC4_9, h⟩ | ⟨cC4_9, h⟩
              · skip
                exact run_to mixed hμ (L := []) (n := 20) (s := [.reg [(2, hT)], .reg [(3, hT)], .reg [(3, hF), (8, hF), (13, hC (parrelref10_KeyMay_v yC4_6)), (17, hF), (22, hF), (28, hT)]])
                  (a_ (r1_ (l_ 0 25 rfl (f_ cC4_1 tr))) (a_ (r1_ (l_ 2 18 rfl (r1_ (f_ cC4_2 (a_ tr (t2_ (r2_ (a_ tr (t2_ (r2_ tr)))))))))) (a_ (r1_ (l_ 2 18 rfl (r1_ (f_ cC4_3 (r1_ (l_ 2 18 rfl (r2_ (f_ cC4_4 (r1_ (r2_ (m_ 14 18 rfl (c_ (parrelref10_KeyMay_tri s.f_Call.f_Key yC4_6 eC4_5) (r1_ (r2_ (f_ cC4_7 (r1_ (l_ 1 18 rfl (r2_ (f_ cC4_8 (r2_ (l_ 4 18 rfl (r2_ (f_ cC4_9 (t4_ (r2_ (t4_ (r2_ (t4_ (r1_ tr))))))))))))))))))))))))))))) tr))) (parrelref27_May_c7_ok hμ    r h) (by kernel_rfl) trivial
              · skip
                rcases itb_some h with ⟨cC4_10, h⟩ | ⟨cC4_10, h⟩
                · skip
                  exact run_to mixed hμ (L := []) (n := 20) (s := [.reg [(2, hT)], .reg [(3, hT)], .reg [(3, hF), (8, hF), (13, hC (parrelref10_KeyMay_v yC4_6)), (17, hF), (22, hF), (28, hF), (34, hT)]])
                    (a_ (r1_ (l_ 0 25 rfl (f_ cC4_1 tr))) (a_ (r1_ (l_ 2 18 rfl (r1_ (f_ cC4_2 (a_ tr (t2_ (r2_ (a_ tr (t2_ (r2_ tr)))))))))) (a_ (r1_ (l_ 2 18 rfl (r1_ (f_ cC4_3 (r1_ (l_ 2 18 rfl (r2_ (f_ cC4_4 (r1_ (r2_ (m_ 14 18 rfl (c_ (parrelref10_KeyMay_tri s.f_Call.f_Key yC4_6 eC4_5) (r1_ (r2_ (f_ cC4_7 (r1_ (l_ 1 18 rfl (r2_ (f_ cC4_8 (r2_ (l_ 4 18 rfl (r2_ (f_ cC4_9 (r2_ (l_ 5 18 rfl (r2_ (f_ cC4_10 (t4_ (r2_ (t4_ (r1_ tr))))))))))))))))))))))))))))))) tr))) (parrelref27_May_c7_ok hμ    r h) (by kernel_rfl) trivial
                · skip
                  rcases itb_some h with ⟨cC4_11, h⟩ | ⟨cC4_11, h⟩
                  · skip
                    exact run_to mixed hμ (L := []) (n := 20) (s := [.reg [(2, hT)], .reg [(3, hT)], .reg [(3, hF), (8, hF), (13, hC (parrelref10_KeyMay_v yC4_6)), (17, hF), (22, hF), (28, hF), (34, hF), (40, hT)]])
                      (a_ (r1_ (l_ 0 25 rfl (f_ cC4_1 tr))) (a_ (r1_ (l_ 2 18 rfl (r1_ (f_ cC4_2 (a_ tr (t2_ (r2_ (a_ tr (t2_ (r2_ tr)))))))))) (a_ (r1_ (l_ 2 18 rfl (r1_ (f_ cC4_3 (r1_ (l_ 2 18 rfl (r2_ (f_ cC4_4 (r1_ (r2_ (m_ 14 18 rfl (c_ (parrelref10_KeyMay_tri s.f_Call.f_Key yC4_6 eC4_5) (r1_ (r2_ (f_ cC4_7 (r1_ (l_ 1 18 rfl (r2_ (f_ cC4_8 (r2_ (l_ 4 18 rfl (r2_ (f_ cC4_9 (r2_ (l_ 5 18 rfl (r2_ (f_ cC4_10 (r1_ (l_ 17 18 rfl (r1_ (r2_ (f_ cC4_11 (t4_ (r1_ tr)))))))))))))))))))))))))))))))))) tr))) (parrelref27_May_c7_ok hμ    r h) (by kernel_rfl) trivial
                  · skip
                    rcases itb_some h with ⟨cC4_12, h⟩ | ⟨cC4_12, h⟩
                    · skip
                      exact run_to mixed hμ (L := []) (n := 20) (s := [.reg [(2, hT)], .reg [(3, hT)], .reg [(3, hF), (8, hF), (13, hC (parrelref10_KeyMay_v yC4_6)), (17, hF), (22, hF), (28, hF), (34, hF), (40, hF), (45, hT)]])
                        (a_ (r1_ (l_ 0 25 rfl (f_ cC4_1 tr))) (a_ (r1_ (l_ 2 18 rfl (r1_ (f_ cC4_2 (a_ tr (t2_ (r2_ (a_ tr (t2_ (r2_ tr)))))))))) (a_ (r1_ (l_ 2 18 rfl (r1_ (f_ cC4_3 (r1_ (l_ 2 18 rfl (r2_ (f_ cC4_4 (r1_ (r2_ (m_ 14 18 rfl (c_ (parrelref10_KeyMay_tri s.f_Call.f_Key yC4_6 eC4_5) (r1_ (r2_ (f_ cC4_7 (r1_ (l_ 1 18 rfl (r2_ (f_ cC4_8 (r2_ (l_ 4 18 rfl (r2_ (f_ cC4_9 (r2_ (l_ 5 18 rfl (r2_ (f_ cC4_10 (r1_ (l_ 17 18 rfl (r1_ (r2_ (f_ cC4_11 (r1_ (l_ 14 18 rfl (r2_ (f_ cC4_12 tr)))))))))))))))))))))))))))))))))))) tr))) (parrelref27_May_c7_ok hμ    r h) (by kernel_rfl) trivial
                    · skip
                      exact run_to mixed hμ (L := [0]) (n := 21) (s := [.reg [(2, hT)], .reg [(3, hT)], .reg [(3, hF), (8, hF), (13, hC (parrelref10_KeyMay_v yC4_6)), (17, hF), (22, hF), (28, hF), (34, hF), (40, hF), (45, hF)]])
                        (a_ (r1_ (l_ 0 25 rfl (f_ cC4_1 tr))) (a_ (r1_ (l_ 2 18 rfl (r1_ (f_ cC4_2 (a_ tr (t2_ (r2_ (a_ tr (t2_ (r2_ tr)))))))))) (a_ (r1_ (l_ 2 18 rfl (r1_ (f_ cC4_3 (r1_ (l_ 2 18 rfl (r2_ (f_ cC4_4 (r1_ (r2_ (m_ 14 18 rfl (c_ (parrelref10_KeyMay_tri s.f_Call.f_Key yC4_6 eC4_5) (r1_ (r2_ (f_ cC4_7 (r1_ (l_ 1 18 rfl (r2_ (f_ cC4_8 (r2_ (l_ 4 18 rfl (r2_ (f_ cC4_9 (r2_ (l_ 5 18 rfl (r2_ (f_ cC4_10 (r1_ (l_ 17 18 rfl (r1_ (r2_ (f_ cC4_11 (r1_ (l_ 14 18 rfl (r2_ (f_ cC4_12 tr)))))))))))))))))))))))))))))))))))) tr))) (parrelref27_May_c8_ok hμ s   r h) (by kernel_rfl) ⟨rfl, trivial⟩
    · skip
      rcases itb_some h with ⟨cC4_3, h⟩ | ⟨cC4_3, h⟩
      · skip
        rcases itb_some h with ⟨cC4_4, h⟩ | ⟨cC4_4, h⟩
        · skip
          obtain rfl := Option.some.inj h
          exact run_ret mixed (L := []) (n := 22) (s := [.reg [(2, hT)], .reg [(3, hF), (8, hT)], .reg [(3, hT)], .reg []])
            (a_ (a_ (r1_ (l_ 0 25 rfl (f_ cC4_1 tr))) (a_ (r1_ (l_ 2 18 rfl (r1_ (f_ cC4_2 (r1_ (l_ 2 18 rfl (r2_ (f_ cC4_3 (a_ tr (t2_ (r2_ tr))))))))))) (a_ (r1_ (l_ 2 18 rfl (r1_ (f_ cC4_4 (a_ tr (t2_ (r2_ (a_ tr (t2_ (t4_ (r2_ (a_ tr (t2_ (r2_ (t4_ (r2_ (t4_ (r2_ (t4_ (r2_ (t4_ (r1_ tr)))))))))))))))))))))) (a_ (r1_ tr) tr)))) tr) (by kernel_rfl) rfl
        · skip
          rcases itb_some h with ⟨cC4_5, h⟩ | ⟨cC4_5, h⟩
          · skip
            obtain rfl := Option.some.inj h
            exact run_ret mixed (L := []) (n := 22) (s := [.reg [(2, hT)], .reg [(3, hF), (8, hT)], .reg [(3, hF), (8, hT)], .reg []])
              (a_ (a_ (r1_ (l_ 0 25 rfl (f_ cC4_1 tr))) (a_ (r1_ (l_ 2 18 rfl (r1_ (f_ cC4_2 (r1_ (l_ 2 18 rfl (r2_ (f_ cC4_3 (a_ tr (t2_ (r2_ tr))))))))))) (a_ (r1_ (l_ 2 18 rfl (r1_ (f_ cC4_4 (r1_ (l_ 2 18 rfl (r2_ (f_ cC4_5 (a_ tr (t2_ (t4_ (r2_ (a_ tr (t2_ (r2_ (t4_ (r2_ (t4_ (r2_ (t4_ (r2_ (t4_ (r1_ tr))))))))))))))))))))))) (a_ (r1_ tr) tr)))) tr) (by kernel_rfl) rfl
          · skip
            obtain ⟨yC4_7, eC4_6, h⟩ := bind_some h
            rcases itb_some h with ⟨cC4_8, h⟩ | ⟨cC4_8, h⟩
            · skip
              exact run_to mixed hμ (L := []) (n := 20) (s := [.reg [(2, hT)], .reg [(3, hF), (8, hT)], .reg [(3, hF), (8, hF), (13, hC (parrelref10_KeyMay_v yC4_7)), (17, hT)]])
                (a_ (r1_ (l_ 0 25 rfl (f_ cC4_1 tr))) (a_ (r1_ (l_ 2 18 rfl (r1_ (f_ cC4_2 (r1_ (l_ 2 18 rfl (r2_ (f_ cC4_3 (a_ tr (t2_ (r2_ tr))))))))))) (a_ (r1_ (l_ 2 18 rfl (r1_ (f_ cC4_4 (r1_ (l_ 2 18 rfl (r2_ (f_ cC4_5 (r1_ (r2_ (m_ 14 18 rfl (c_ (parrelref10_KeyMay_tri s.f_Call.f_Key yC4_7 eC4_6) (r1_ (r2_ (f_ cC4_8 (a_ tr (t2_ (r2_ (t4_ (r2_ (t4_ (r2_ (t4_ (r2_ (t4_ (r1_ tr)))))))))))))))))))))))))) tr))) (parrelref27_May_c7_ok hμ    r h) (by kernel_rfl) trivial
            · skip
              rcases itb_some h with ⟨cC4_9, h⟩ | ⟨cC4_9, h⟩
              · skip
                exact run_to mixed hμ (L := []) (n := 20) (s := [.reg [(2, hT)], .reg [(3, hF), (8, hT)], .reg [(3, hF), (8, hF), (13, hC (parrelref10_KeyMay_v yC4_7)), (17, hF), (22, hT)]])
                  (a_ (r1_ (l_ 0 25 rfl (f_ cC4_1 tr))) (a_ (r1_ (l_ 2 18 rfl (r1_ (f_ cC4_2 (r1_ (l_ 2 18 rfl (r2_ (f_ cC4_3 (a_ tr (t2_ (r2_ tr))))))))))) (a_ (r1_ (l_ 2 18 rfl (r1_ (f_ cC4_4 (r1_ (l_ 2 18 rfl (r2_ (f_ cC4_5 (r1_ (r2_ (m_ 14 18 rfl (c_ (parrelref10_KeyMay_tri s.f_Call.f_Key yC4_7 eC4_6) (r1_ (r2_ (f_ cC4_8 (r1_ (l_ 1 18 rfl (r2_ (f_ cC4_9 (t4_ (r2_ (t4_ (r2_ (t4_ (r2_ (t4_ (r1_ tr))))))))))))))))))))))))))) tr))) (parrelref27_May_c7_ok hμ    r h) (by kernel_rfl) trivial
              · skip
                rcases itb_some h with ⟨cC4_10, h⟩ | ⟨cC4_10, h⟩
                · skip
                  exact run_to mixed hμ (L := []) (n := 20) (s := [.reg [(2, hT)], .reg [(3, hF), (8, hT)], .reg [(3, hF), (8, hF), (13, hC (parrelref10_KeyMay_v yC4_7)), (17, hF), (22, hF), (28, hT)]])
                    (a_ (r1_ (l_ 0 25 rfl (f_ cC4_1 tr))) (a_ (r1_ (l_ 2 18 rfl (r1_ (f_ cC4_2 (r1_ (l_ 2 18 rfl (r2_ (f_ cC4_3 (a_ tr (t2_ (r2_ tr))))))))))) (a_ (r1_ (l_ 2 18 rfl (r1_ (f_ cC4_4 (r1_ (l_ 2 18 rfl (r2_ (f_ cC4_5 (r1_ (r2_ (m_ 14 18 rfl (c_ (parrelref10_KeyMay_tri s.f_Call.f_Key yC4_7 eC4_6) (r1_ (r2_ (f_ cC4_8 (r1_ (l_ 1 18 rfl (r2_ (f_ cC4_9 (r2_ (l_ 4 18 rfl (r2_ (f_ cC4_10 (t4_ (r2_ (t4_ (r2_ (t4_ (r1_ tr))))))))))))))))))))))))))))) tr))) (parrelref27_May_c7_ok hμ    r h) (by kernel_rfl) trivial
                · skip
                  rcases itb_some h with ⟨cC4_11, h⟩ | ⟨cC4_11, h⟩
                  · skip
                    exact run_to mixed hμ (L := []) (n := 20) (s := [.reg [(2, hT)], .reg [(3, hF), (8, hT)], .reg [(3, hF), (8, hF), (13, hC (parrelref10_KeyMay_v yC4_7)), (17, hF), (22, hF), (28, hF), (34, hT)]])
                      (a_ (r1_ (l_ 0 25 rfl (f_ cC4_1 tr))) (a_ (r1_ (l_ 2 18 rfl (r1_ (f_ cC4_2 (r1_ (l_ 2 18 rfl (r2_ (f_ cC4_3 (a_ tr (t2_ (r2_ tr))))))))))) (a_ (r1_ (l_ 2 18 rfl (r1_ (f_ cC4_4 (r1_ (l_ 2 18 rfl (r2_ (f_ cC4_5 (r1_ (r2_ (m_ 14 18 rfl (c_ (parrelref10_KeyMay_tri s.f_Call.f_Key yC4_7 eC4_6) (r1_ (r2_ (f_ cC4_8 (r1_ (l_ 1 18 rfl (r2_ (f_ cC4_9 (r2_ (l_ 4 18 rfl (r2_ (f_ cC4_10 (r2_ (l_ 5 18 rfl (r2_ (f_ cC4_11 (t4_ (r2_ (t4_ (r1_ tr))))))))))))))))))))))))))))))) tr))) (parrelref27_May_c7_ok hμ    r h) (by kernel_rfl) trivial
                  · skip
                    rcases itb_some h with ⟨cC4_12, h⟩ | ⟨cC4_12, h⟩
                    · skip
                      exact run_to mixed hμ (L := []) (n := 20) (s := [.reg [(2, hT)], .reg [(3, hF), (8, hT)], .reg [(3, hF), (8, hF), (13, hC (parrelref10_KeyMay_v yC4_7)), (17, hF), (22, hF), (28, hF), (34, hF), (40, hT)]])
                        (a_ (r1_ (l_ 0 25 rfl (f_ cC4_1 tr))) (a_ (r1_ (l_ 2 18 rfl (r1_ (f_ cC4_2 (r1_ (l_ 2 18 rfl (r2_ (f_ cC4_3 (a_ tr (t2_ (r2_ tr))))))))))) (a_ (r1_ (l_ 2 18 rfl (r1_ (f_ cC4_4 (r1_ (l_ 2 18 rfl (r2_ (f_ cC4_5 (r1_ (r2_ (m_ 14 18 rfl (c_ (parrelref10_KeyMay_tri s.f_Call.f_Key yC4_7 eC4_6) (r1_ (r2_ (f_ cC4_8 (r1_ (l_ 1 18 rfl (r2_ (f_ cC4_9 (r2_ (l_ 4 18 rfl (r2_ (f_ cC4_10 (r2_ (l_ 5 18 rfl (r2_ (f_ cC4_11 (r1_ (l_ 17 18 rfl (r1_ (r2_ (f_ cC4_12 (t4_ (r1_ tr)))))))))))))))))))))))))))))))))) tr))) (parrelref27_May_c7_ok hμ    r h) (by kernel_rfl) trivial
                    · skip
                      rcases itb_some h with ⟨cC4_13, h⟩ | ⟨cC4_13, h⟩
                      · skip
                        exact run_to mixed hμ (L := []) (n := 20) (s := [.reg [(2, hT)], .reg [(3, hF), (8, hT)], .reg [(3, hF), (8, hF), (13, hC (parrelref10_KeyMay_v yC4_7)), (17, hF), (22, hF), (28, hF), (34, hF), (40, hF), (45, hT)]])
                          (a_ (r1_ (l_ 0 25 rfl (f_ cC4_1 tr))) (a_ (r1_ (l_ 2 18 rfl (r1_ (f_ cC4_2 (r1_ (l_ 2 18 rfl (r2_ (f_ cC4_3 (a_ tr (t2_ (r2_ tr))))))))))) (a_ (r1_ (l_ 2 18 rfl (r1_ (f_ cC4_4 (r1_ (l_ 2 18 rfl (r2_ (f_ cC4_5 (r1_ (r2_ (m_ 14 18 rfl (c_ (parrelref10_KeyMay_tri s.f_Call.f_Key yC4_7 eC4_6) (r1_ (r2_ (f_ cC4_8 (r1_ (l_ 1 18 rfl (r2_ (f_ cC4_9 (r2_ (l_ 4 18 rfl (r2_ (f_ cC4_10 (r2_ (l_ 5 18 rfl (r2_ (f_ cC4_11 (r1_ (l_ 17 18 rfl (r1_ (r2_ (f_ cC4_12 (r1_ (l_ 14 18 rfl (r2_ (f_ cC4_13 tr)))))))))))))))))))))))))))))))))))) tr))) (parrelref27_May_c7_ok hμ    r h) (by kernel_rfl) trivial
                      · skip
                        exact run_to mixed hμ (L := [0]) (n := 21) (s := [.reg [(2, hT)], .reg [(3, hF), (8, hT)], .reg [(3, hF), (8, hF), (13, hC (parrelref10_KeyMay_v yC4_7)), (17, hF), (22, hF), (28, hF), (34, hF), (40, hF), (45, hF)]])
                          (a_ (r1_ (l_ 0 25 rfl (f_ cC4_1 tr))) (a_ (r1_ (l_ 2 18 rfl (r1_ (f_ cC4_2 (r1_ (l_ 2 18 rfl (r2_ (f_ cC4_3 (a_ tr (t2_ (r2_ tr))))))))))) (a_ (r1_ (l_ 2 18 rfl (r1_ (f_ cC4_4 (r1_ (l_ 2 18 rfl (r2_ (f_ cC4_5 (r1_ (r2_ (m_ 14 18 rfl (c_ (parrelref10_KeyMay_tri s.f_Call.f_Key yC4_7 eC4_6) (r1_ (r2_ (f_ cC4_8 (r1_ (l_ 1 18 rfl (r2_ (f_ cC4_9 (r2_ (l_ 4 18 rfl (r2_ (f_ cC4_10 (r2_ (l_ 5 18 rfl (r2_ (f_ cC4_11 (r1_ (l_ 17 18 rfl (r1_ (r2_ (f_ cC4_12 (r1_ (l_ 14 18 rfl (r2_ (f_ cC4_13 tr)))))))))))))))))))))))))))))))))))) tr))) (parrelref27_May_c8_ok hμ s   r h) (by kernel_rfl) ⟨rfl, trivial⟩
      · skip
        rcases itb_some h with ⟨cC4_4, h⟩ | ⟨cC4_4, h⟩
        · skip
          obtain rfl := Option.some.inj h
          exact run_ret mixed (L := []) (n := 22) (s := [.reg [(2, hT)], .reg [(3, hF), (8, hF)], .reg [(3, hT)], .reg []])
            (a_ (a_ (r1_ (l_ 0 25 rfl (f_ cC4_1 tr))) (a_ (r1_ (l_ 2 18 rfl (r1_ (f_ cC4_2 (r1_ (l_ 2 18 rfl (r2_ (f_ cC4_3 (r1_ (l_ 2 18 rfl (r1_ (r2_ tr)))))))))))) (a_ (r1_ (l_ 2 18 rfl (r1_ (f_ cC4_4 (a_ tr (t2_ (r2_ (a_ tr (t2_ (t4_ (r2_ (a_ tr (t2_ (r2_ (t4_ (r2_ (t4_ (r2_ (t4_ (r2_ (t4_ (r1_ tr)))))))))))))))))))))) (a_ (r1_ tr) tr)))) tr) (by kernel_rfl) rfl
        · skip
          rcases itb_some h with ⟨cC4_5, h⟩ | ⟨cC4_5, h⟩
          · skip
            obtain rfl := Option.some.inj h
            exact run_ret mixed (L := []) (n := 22) (s := [.reg [(2, hT)], .reg [(3, hF), (8, hF)], .reg [(3, hF), (8, hT)], .reg []])
              (a_ (a_ (r1_ (l_ 0 25 rfl (f_ cC4_1 tr))) (a_ (r1_ (l_ 2 18 rfl (r1_ (f_ cC4_2 (r1_ (l_ 2 18 rfl (r2_ (f_ cC4_3 (r1_ (l_ 2 18 rfl (r1_ (r2_ tr)))))))))))) (a_ (r1_ (l_ 2 18 rfl (r1_ (f_ cC4_4 (r1_ (l_ 2 18 rfl (r2_ (f_ cC4_5 (a_ tr (t2_ (t4_ (r2_ (a_ tr (t2_ (r2_ (t4_ (r2_ (t4_ (r2_ (t4_ (r2_ (t4_ (r1_ tr))))))))))))))))))))))) (a_ (r1_ tr) tr)))) tr) (by kernel_rfl) rfl
          · skip
            rcases itb_some h with ⟨cC4_6, h⟩ | ⟨cC4_6, h⟩
            · skip
              obtain ⟨yC4_8, eC4_7, h⟩ := bind_some h
              rcases itb_some h with ⟨cC4_9, h⟩ | ⟨cC4_9, h⟩
              · skip
                exact run_to mixed hμ (L := []) (n := 20) (s := [.reg [(2, hT)], .reg [(3, hF), (8, hF)], .reg [(3, hF), (8, hF), (10, hT), (13, hC (parrelref10_KeyMay_v yC4_8)), (17, hT)]])
                  (a_ (r1_ (l_ 0 25 rfl (f_ cC4_1 tr))) (a_ (r1_ (l_ 2 18 rfl (r1_ (f_ cC4_2 (r1_ (l_ 2 18 rfl (r2_ (f_ cC4_3 (r1_ (l_ 2 18 rfl (r1_ (r2_ tr)))))))))))) (a_ (r1_ (l_ 2 18 rfl (r1_ (f_ cC4_4 (r1_ (l_ 2 18 rfl (r2_ (f_ cC4_5 (r1_ (f_ cC4_6 (r1_ (m_ 14 18 rfl (c_ (parrelref10_KeyMay_tri s.f_Call.f_Key yC4_8 eC4_7) (r1_ (r2_ (f_ cC4_9 (a_ tr (t2_ (r2_ (t4_ (r2_ (t4_ (r2_ (t4_ (r2_ (t4_ (r1_ tr))))))))))))))))))))))))))) tr))) (parrelref27_May_c7_ok hμ    r h) (by kernel_rfl) trivial
              · skip
                rcases itb_some h with ⟨cC4_10, h⟩ | ⟨cC4_10, h⟩
                · skip
                  exact run_to mixed hμ (L := []) (n := 20) (s := [.reg [(2, hT)], .reg [(3, hF), (8, hF)], .reg [(3, hF), (8, hF), (10, hT), (13, hC (parrelref10_KeyMay_v yC4_8)), (17, hF), (22, hT)]])
                    (a_ (r1_ (l_ 0 25 rfl (f_ cC4_1 tr))) (a_ (r1_ (l_ 2 18 rfl (r1_ (f_ cC4_2 (r1_ (l_ 2 18 rfl (r2_ (f_ cC4_3 (r1_ (l_ 2 18 rfl (r1_ (r2_ tr)))))))))))) (a_ (r1_ (l_ 2 18 rfl (r1_ (f_ cC4_4 (r1_ (l_ 2 18 rfl (r2_ (f_ cC4_5 (r1_ (f_ cC4_6 (r1_ (m_ 14 18 rfl (c_ (parrelref10_KeyMay_tri s.f_Call.f_Key yC4_8 eC4_7) (r1_ (r2_ (f_ cC4_9 (r1_ (l_ 1 18 rfl (r2_ (f_ cC4_10 (t4_ (r2_ (t4_ (r2_ (t4_ (r2_ (t4_ (r1_ tr)))))))))))))))))))))))))))) tr))) (parrelref27_May_c7_ok hμ    r h) (by kernel_rfl) trivial
                · skip
                  rcases itb_some h with ⟨cC4_11, h⟩ | ⟨cC4_11, h⟩
                  · skip
                    exact run_to mixed hμ (L := []) (n := 20) (s := [.reg [(2, hT)], .reg [(3, hF), (8, hF)], .reg [(3, hF), (8, hF), (10, hT), (13, hC (parrelref10_KeyMay_v yC4_8)), (17, hF), (22, hF), (28, hT)]])
                      (a_ (r1_ (l_ 0 25 rfl (f_ cC4_1 tr))) (a_ (r1_ (l_ 2 18 rfl (r1_ (f_ cC4_2 (r1_ (l_ 2 18 rfl (r2_ (f_ cC4_3 (r1_ (l_ 2 18 rfl (r1_ (r2_ tr)))))))))))) (a_ (r1_ (l_ 2 18 rfl (r1_ (f_ cC4_4 (r1_ (l_ 2 18 rfl (r2_ (f_ cC4_5 (r1_ (f_ cC4_6 (r1_ (m_ 14 18 rfl (c_ (parrelref10_KeyMay_tri s.f_Call.f_Key yC4_8 eC4_7) (r1_ (r2_ (f_ cC4_9 (r1_ (l_ 1 18 rfl (r2_ (f_ cC4_10 (r2_ (l_ 4 18 rfl (r2_ (f_ cC4_11 (t4_ (r2_ (t4_ (r2_ (t4_ (r1_ tr)))))))))))))))))))))))))))))) tr))) (parrelref27_May_c7_ok hμ    r h) (by kernel_rfl) trivial
                  · skip
                    rcases itb_some h with ⟨cC4_12, h⟩ | ⟨cC4_12, h⟩
                    · skip
                      exact run_to mixed hμ (L := []) (n := 20) (s := [.reg [(2, hT)], .reg [(3, hF), (8, hF)], .reg [(3, hF), (8, hF), (10, hT), (13, hC (parrelref10_KeyMay_v yC4_8)), (17, hF), (22, hF), (28, hF), (34, hT)]])
                        (a_ (r1_ (l_ 0 25 rfl (f_ cC4_1 tr))) (a_ (r1_ (l_ 2 18 rfl (r1_ (f_ cC4_2 (r1_ (l_ 2 18 rfl (r2_ (f_ cC4_3 (r1_ (l_ 2 18 rfl (r1_ (r2_ tr)))))))))))) (a_ (r1_ (l_ 2 18 rfl (r1_ (f_ cC4_4 (r1_ (l_ 2 18 rfl (r2_ (f_ cC4_5 (r1_ (f_ cC4_6 (r1_ (m_ 14 18 rfl (c_ (parrelref10_KeyMay_tri s.f_Call.f_Key yC4_8 eC4_7) (r1_ (r2_ (f_ cC4_9 (r1_ (l_ 1 18 rfl (r2_ (f_ cC4_10 (r2_ (l_ 4 18 rfl (r2_ (f_ cC4_11 (r2_ (l_ 5 18 rfl (r2_ (f_ cC4_12 (t4_ (r2_ (t4_ (r1_ tr)))))))))))))))))))))))))))))))) tr))) (parrelref27_May_c7_ok hμ    r h) (by kernel_rfl) trivial
                    · skip
                      rcases itb_some h with ⟨cC4_13, h⟩ | ⟨cC4_13, h⟩
                      · skip
                        exact run_to mixed hμ (L := []) (n := 20) (s := [.reg [(2, hT)], .reg [(3, hF), (8, hF)], .reg [(3, hF), (8, hF), (10, hT), (13, hC (parrelref10_KeyMay_v yC4_8)), (17, hF), (22, hF), (28, hF), (34, hF), (40, hT)]])
                          (a_ (r1_ (l_ 0 25 rfl (f_ cC4_1 tr))) (a_ (r1_ (l_ 2 18 rfl (r1_ (f_ cC4_2 (r1_ (l_ 2 18 rfl (r2_ (f_ cC4_3 (r1_ (l_ 2 18 rfl (r1_ (r2_ tr)))))))))))) (a_ (r1_ (l_ 2 18 rfl (r1_ (f_ cC4_4 (r1_ (l_ 2 18 rfl (r2_ (f_ cC4_5 (r1_ (f_ cC4_6 (r1_ (m_ 14 18 rfl (c_ (parrelref10_KeyMay_tri s.f_Call.f_Key yC4_8 eC4_7) (r1_ (r2_ (f_ cC4_9 (r1_ (l_ 1 18 rfl (r2_ (f_ cC4_10 (r2_ (l_ 4 18 rfl (r2_ (f_ cC4_11 (r2_ (l_ 5 18 rfl (r2_ (f_ cC4_12 (r1_ (l_ 17 18 rfl (r1_ (r2_ (f_ cC4_13 (t4_ (r1_ tr))))))))))))))))))))))))))))))))))) tr))) (parrelref27_May_c7_ok hμ    r h) (by kernel_rfl) trivial
                      · skip
                        rcases itb_some h with ⟨cC4_14, h⟩ | ⟨cC4_14, h⟩
                        · skip
                          exact run_to mixed hμ (L := []) (n := 20) (s := [.reg [(2, hT)], .reg [(3, hF), (8, hF)], .reg [(3, hF), (8, hF), (10, hT), (13, hC (parrelref10_KeyMay_v yC4_8)), (17, hF), (22, hF), (28, hF), (34, hF), (40, hF), (45, hT)]])
                            (a_ (r1_ (l_ 0 25 rfl (f_ cC4_1 tr))) (a_ (r1_ (l_ 2 18 rfl (r1_ (f_ cC4_2 (r1_ (l_ 2 18 rfl (r2_ (f_ cC4_3 (r1_ (l_ 2 18 rfl (r1_ (r2_ tr)))))))))))) (a_ (r1_ (l_ 2 18 rfl (r1_ (f_ cC4_4 (r1_ (l_ 2 18 rfl (r2_ (f_ cC4_5 (r1_ (f_ cC4_6 (r1_ (m_ 14 18 rfl (c_ (parrelref10_KeyMay_tri s.f_Call.f_Key yC4_8 eC4_7) (r1_ (r2_ (f_ cC4_9 (r1_ (l_ 1 18 rfl (r2_ (f_ cC4_10 (r2_ (l_ 4 18 rfl (r2_ (f_ cC4_11 (r2_ (l_ 5 18 rfl (r2_ (f_ cC4_12 (r1_ (l_ 17 18 rfl (r1_ (r2_ (f_ cC4_13 (r1_ (l_ 14 18 rfl (r2_ (f_ cC4_14 tr))))))))))))))))))))))))))))))))))))) tr))) (parrelref27_May_c7_ok hμ    r h) (by kernel_rfl) trivial
                        · skip
                          exact run_to mixed hμ (L := [0]) (n := 21) (s := [.reg [(2, hT)], .reg [(3, hF), (8, hF)], .reg [(3, hF), (8, hF), (10, hT), (13, hC (parrelref10_KeyMay_v yC4_8)), (17, hF), (22, hF), (28, hF), (34, hF), (40, hF), (45, hF)]])
                            (a_ (r1_ (l_ 0 25 rfl (f_ cC4_1 tr))) (a_ (r1_ (l_ 2 18 rfl (r1_ (f_ cC4_2 (r1_ (l_ 2 18 rfl (r2_ (f_ cC4_3 (r1_ (l_ 2 18 rfl (r1_ (r2_ tr)))))))))))) (a_ (r1_ (l_ 2 18 rfl (r1_ (f_ cC4_4 (r1_ (l_ 2 18 rfl (r2_ (f_ cC4_5 (r1_ (f_ cC4_6 (r1_ (m_ 14 18 rfl (c_ (parrelref10_KeyMay_tri s.f_Call.f_Key yC4_8 eC4_7) (r1_ (r2_ (f_ cC4_9 (r1_ (l_ 1 18 rfl (r2_ (f_ cC4_10 (r2_ (l_ 4 18 rfl (r2_ (f_ cC4_11 (r2_ (l_ 5 18 rfl (r2_ (f_ cC4_12 (r1_ (l_ 17 18 rfl (r1_ (r2_ (f_ cC4_13 (r1_ (l_ 14 18 rfl (r2_ (f_ cC4_14 tr))))))))))))))))))))))))))))))))))))) tr))) (parrelref27_May_c8_ok hμ s   r h) (by kernel_rfl) ⟨rfl, trivial⟩
            · skip
              rcases itb_some h with ⟨cC4_7, h⟩ | ⟨cC4_7, h⟩
              · skip
                exact run_to mixed hμ (L := []) (n := 20) (s := [.reg [(2, hT)], .reg [(3, hF), (8, hF)], .reg [(3, hF), (8, hF), (10, hF), (22, hT)]])
                  (a_ (r1_ (l_ 0 25 rfl (f_ cC4_1 tr))) (a_ (r1_ (l_ 2 18 rfl (r1_ (f_ cC4_2 (r1_ (l_ 2 18 rfl (r2_ (f_ cC4_3 (r1_ (l_ 2 18 rfl (r1_ (r2_ tr)))))))))))) (a_ (r1_ (l_ 2 18 rfl (r1_ (f_ cC4_4 (r1_ (l_ 2 18 rfl (r2_ (f_ cC4_5 (r1_ (f_ cC4_6 (t4_ (r4_ (l_ 1 18 rfl (r2_ (f_ cC4_7 (t4_ (r2_ (t4_ (r2_ (t4_ (r2_ (t4_ (r1_ tr))))))))))))))))))))))) tr))) (parrelref27_May_c7_ok hμ    r h) (by kernel_rfl) trivial
              · skip
                rcases itb_some h with ⟨cC4_8, h⟩ | ⟨cC4_8, h⟩
                · skip
                  exact run_to mixed hμ (L := []) (n := 20) (s := [.reg [(2, hT)], .reg [(3, hF), (8, hF)], .reg [(3, hF), (8, hF), (10, hF), (22, hF), (28, hT)]])
                    (a_ (r1_ (l_ 0 25 rfl (f_ cC4_1 tr))) (a_ (r1_ (l_ 2 18 rfl (r1_ (f_ cC4_2 (r1_ (l_ 2 18 rfl (r2_ (f_ cC4_3 (r1_ (l_ 2 18 rfl (r1_ (r2_ tr)))))))))))) (a_ (r1_ (l_ 2 18 rfl (r1_ (f_ cC4_4 (r1_ (l_ 2 18 rfl (r2_ (f_ cC4_5 (r1_ (f_ cC4_6 (t4_ (r4_ (l_ 1 18 rfl (r2_ (f_ cC4_7 (r2_ (l_ 4 18 rfl (r2_ (f_ cC4_8 (t4_ (r2_ (t4_ (r2_ (t4_ (r1_ tr))))))))))))))))))))))))) tr))) (parrelref27_May_c7_ok hμ    r h) (by kernel_rfl) trivial
                · skip
                  rcases itb_some h with ⟨cC4_9, h⟩ | ⟨cC4_9, h⟩
                  · skip
                    exact run_to mixed hμ (L := []) (n := 20) (s := [.reg [(2, hT)], .reg [(3, hF), (8, hF)], .reg [(3, hF), (8, hF), (10, hF), (22, hF), (28, hF), (34, hT)]])
                      (a_ (r1_ (l_ 0 25 rfl (f_ cC4_1 tr))) (a_ (r1_ (l_ 2 18 rfl (r1_ (f_ cC4_2 (r1_ (l_ 2 18 rfl (r2_ (f_ cC4_3 (r1_ (l_ 2 18 rfl (r1_ (r2_ tr)))))))))))) (a_ (r1_ (l_ 2 18 rfl (r1_ (f_ cC4_4 (r1_ (l_ 2 18 rfl (r2_ (f_ cC4_5 (r1_ (f_ cC4_6 (t4_ (r4_ (l_ 1 18 rfl (r2_ (f_ cC4_7 (r2_ (l_ 4 18 rfl (r2_ (f_ cC4_8 (r2_ (l_ 5 18 rfl (r2_ (f_ cC4_9 (t4_ (r2_ (t4_ (r1_ tr))))))))))))))))))))))))))) tr))) (parrelref27_May_c7_ok hμ    r h) (by kernel_rfl) trivial
                  · skip
                    rcases itb_some h with ⟨cC4_10, h⟩ | ⟨cC4_10, h⟩
                    · skip
                      exact run_to mixed hμ (L := []) (n := 20) (s := [.reg [(2, hT)], .reg [(3, hF), (8, hF)], .reg [(3, hF), (8, hF), (10, hF), (22, hF), (28, hF), (34, hF), (40, hT)]])
                        (a_ (r1_ (l_ 0 25 rfl (f_ cC4_1 tr))) (a_ (r1_ (l_ 2 18 rfl (r1_ (f_ cC4_2 (r1_ (l_ 2 18 rfl (r2_ (f_ cC4_3 (r1_ (l_ 2 18 rfl (r1_ (r2_ tr)))))))))))) (a_ (r1_ (l_ 2 18 rfl (r1_ (f_ cC4_4 (r1_ (l_ 2 18 rfl (r2_ (f_ cC4_5 (r1_ (f_ cC4_6 (t4_ (r4_ (l_ 1 18 rfl (r2_ (f_ cC4_7 (r2_ (l_ 4 18 rfl (r2_ (f_ cC4_8 (r2_ (l_ 5 18 rfl (r2_ (f_ cC4_9 (r1_ (l_ 17 18 rfl (r1_ (r2_ (f_ cC4_10 (t4_ (r1_ tr)))))))))))))))))))))))))))))) tr))) (parrelref27_May_c7_ok hμ    r h) (by kernel_rfl) trivial
                    · skip
                      rcases itb_some h with ⟨cC4_11, h⟩ | ⟨cC4_11, h⟩
                      · skip
                        exact run_to mixed hμ (L := []) (n := 20) (s := [.reg [(2, hT)], .reg [(3, hF), (8, hF)], .reg [(3, hF), (8, hF), (10, hF), (22, hF), (28, hF), (34, hF), (40, hF), (45, hT)]])
                          (a_ (r1_ (l_ 0 25 rfl (f_ cC4_1 tr))) (a_ (r1_ (l_ 2 18 rfl (r1_ (f_ cC4_2 (r1_ (l_ 2 18 rfl (r2_ (f_ cC4_3 (r1_ (l_ 2 18 rfl (r1_ (r2_ tr)))))))))))) (a_ (r1_ (l_ 2 18 rfl (r1_ (f_ cC4_4 (r1_ (l_ 2 18 rfl (r2_ (f_ cC4_5 (r1_ (f_ cC4_6 (t4_ (r4_ (l_ 1 18 rfl (r2_ (f_ cC4_7 (r2_ (l_ 4 18 rfl (r2_ (f_ cC4_8 (r2_ (l_ 5 18 rfl (r2_ (f_ cC4_9 (r1_ (l_ 17 18 rfl (r1_ (r2_ (f_ cC4_10 (r1_ (l_ 14 18 rfl (r2_ (f_ cC4_11 tr)))))))))))))))))))))))))))))))) tr))) (parrelref27_May_c7_ok hμ    r h) (by kernel_rfl) trivial
                      · skip
                        exact run_to mixed hμ (L := [0]) (n := 21) (s := [.reg [(2, hT)], .reg [(3, hF), (8, hF)], .reg [(3, hF), (8, hF), (10, hF), (22, hF), (28, hF), (34, hF), (40, hF), (45, hF)]])
                          (a_ (r1_ (l_ 0 25 rfl (f_ cC4_1 tr))) (a_ (r1_ (l_ 2 18 rfl (r1_ (f_ cC4_2 (r1_ (l_ 2 18 rfl (r2_ (f_ cC4_3 (r1_ (l_ 2 18 rfl (r1_ (r2_ tr)))))))))))) (a_ (r1_ (l_ 2 18 rfl (r1_ (f_ cC4_4 (r1_ (l_ 2 18 rfl (r2_ (f_ cC4_5 (r1_ (f_ cC4_6 (t4_ (r4_ (l_ 1 18 rfl (r2_ (f_ cC4_7 (r2_ (l_ 4 18 rfl (r2_ (f_ cC4_8 (r2_ (l_ 5 18 rfl (r2_ (f_ cC4_9 (r1_ (l_ 17 18 rfl (r1_ (r2_ (f_ cC4_10 (r1_ (l_ 14 18 rfl (r2_ (f_ cC4_11 tr)))))))))))))))))))))))))))))))) tr))) (parrelref27_May_c8_ok hμ s   r h) (by kernel_rfl) ⟨rfl, trivial⟩
  · skip
    obtain ⟨yC4_3, eC4_2, h⟩ := bind_some h
    rcases itb_some h with ⟨cC4_4, h⟩ | ⟨cC4_4, h⟩
    · skip
      obtain ⟨yC4_6, eC4_5, h⟩ := bind_some h
      rcases itb_some h with ⟨cC4_7, h⟩ | ⟨cC4_7, h⟩
      · skip
        obtain ⟨yC4_9, eC4_8, h⟩ := bind_some h
        rcases itb_some h with ⟨cC4_10, h⟩ | ⟨cC4_10, h⟩
        · skip
          obtain ⟨yC4_12, eC4_11, h⟩ := bind_some h
          rcases itb_some h with ⟨cC4_13, h⟩ | ⟨cC4_13, h⟩
          · skip
            obtain rfl := Option.some.inj h
            exact run_ret mixed (L := []) (n := 16) (s := [.reg [(2, hF)], .reg [(2, hC (parrelref27_number_v yC4_3)), (3, hT), (6, hC (parrelref27_number_v yC4_6)), (8, hT), (11, hC (parrelref27_number_v yC4_9)), (13, hT), (16, hC (parrelref27_number_v yC4_12)), (17, hT)]])
              (a_ (a_ (r1_ (l_ 0 25 rfl (f_ cC4_1 tr))) (a_ (r1_ (l_ 1 25 rfl (c_ (parrelref27_number_tri s.f_Node yC4_3 eC4_2) (f_ cC4_4 (r1_ (l_ 2 25 rfl (c_ (parrelref27_number_tri s.f_Wire yC4_6 eC4_5) (r1_ (f_ cC4_7 (r1_ (l_ 23 25 rfl (c_ (parrelref27_number_tri s.f_To yC4_9 eC4_8) (r1_ (f_ cC4_10 (r1_ (l_ 3 25 rfl (c_ (parrelref27_number_tri s.f_N yC4_12 eC4_11) (f_ cC4_13 (a_ tr (t2_ (r4_ (l_ 24 25 rfl (r4_ tr))))))))))))))))))))))) tr)) tr) (by kernel_rfl) rfl
          · skip
            rcases itb_some h with ⟨cC4_14, h⟩ | ⟨cC4_14, h⟩
            · skip
              obtain rfl := Option.some.inj h
              exact run_ret mixed (L := []) (n := 16) (s := [.reg [(2, hF)], .reg [(2, hC (parrelref27_number_v yC4_3)), (3, hT), (6, hC (parrelref27_number_v yC4_6)), (8, hT), (11, hC (parrelref27_number_v yC4_9)), (13, hT), (16, hC (parrelref27_number_v yC4_12)), (17, hF), (23, hT)]])
                (a_ (a_ (r1_ (l_ 0 25 rfl (f_ cC4_1 tr))) (a_ (r1_ (l_ 1 25 rfl (c_ (parrelref27_number_tri s.f_Node yC4_3 eC4_2) (f_ cC4_4 (r1_ (l_ 2 25 rfl (c_ (parrelref27_number_tri s.f_Wire yC4_6 eC4_5) (r1_ (f_ cC4_7 (r1_ (l_ 23 25 rfl (c_ (parrelref27_number_tri s.f_To yC4_9 eC4_8) (r1_ (f_ cC4_10 (r1_ (l_ 3 25 rfl (c_ (parrelref27_number_tri s.f_N yC4_12 eC4_11) (f_ cC4_13 (r1_ (l_ 3 25 rfl (r1_ (r2_ (f_ cC4_14 (r1_ (l_ 24 25 rfl (r4_ tr)))))))))))))))))))))))))) tr)) tr) (by kernel_rfl) rfl
            · skip
              obtain rfl := Option.some.inj h
              exact run_ret mixed (L := []) (n := 16) (s := [.reg [(2, hF)], .reg [(2, hC (parrelref27_number_v yC4_3)), (3, hT), (6, hC (parrelref27_number_v yC4_6)), (8, hT), (11, hC (parrelref27_number_v yC4_9)), (13, hT), (16, hC (parrelref27_number_v yC4_12)), (17, hF), (23, hF)]])
                (a_ (a_ (r1_ (l_ 0 25 rfl (f_ cC4_1 tr))) (a_ (r1_ (l_ 1 25 rfl (c_ (parrelref27_number_tri s.f_Node yC4_3 eC4_2) (f_ cC4_4 (r1_ (l_ 2 25 rfl (c_ (parrelref27_number_tri s.f_Wire yC4_6 eC4_5) (r1_ (f_ cC4_7 (r1_ (l_ 23 25 rfl (c_ (parrelref27_number_tri s.f_To yC4_9 eC4_8) (r1_ (f_ cC4_10 (r1_ (l_ 3 25 rfl (c_ (parrelref27_number_tri s.f_N yC4_12 eC4_11) (f_ cC4_13 (r1_ (l_ 3 25 rfl (r1_ (r2_ (f_ cC4_14 (t4_ (r2_ tr))))))))))))))))))))))))) tr)) tr) (by kernel_rfl) rfl
        · skip
          obtain rfl := Option.some.inj h
          exact run_ret mixed (L := []) (n := 16) (s := [.reg [(2, hF)], .reg [(2, hC (parrelref27_number_v yC4_3)), (3, hT), (6, hC (parrelref27_number_v yC4_6)), (8, hT), (11, hC (parrelref27_number_v yC4_9)), (13, hF)]])
            (a_ (a_ (r1_ (l_ 0 25 rfl (f_ cC4_1 tr))) (a_ (r1_ (l_ 1 25 rfl (c_ (parrelref27_number_tri s.f_Node yC4_3 eC4_2) (f_ cC4_4 (r1_ (l_ 2 25 rfl (c_ (parrelref27_number_tri s.f_Wire yC4_6 eC4_5) (r1_ (f_ cC4_7 (r1_ (l_ 23 25 rfl (c_ (parrelref27_number_tri s.f_To yC4_9 eC4_8) (r1_ (f_ cC4_10 (t8_ (r2_ (t4_ (r2_ tr)))))))))))))))))) tr)) tr) (by kernel_rfl) rfl
      · skip
        obtain rfl := Option.some.inj h
        exact run_ret mixed (L := []) (n := 16) (s := [.reg [(2, hF)], .reg [(2, hC (parrelref27_number_v yC4_3)), (3, hT), (6, hC (parrelref27_number_v yC4_6)), (8, hF)]])
          (a_ (a_ (r1_ (l_ 0 25 rfl (f_ cC4_1 tr))) (a_ (r1_ (l_ 1 25 rfl (c_ (parrelref27_number_tri s.f_Node yC4_3 eC4_2) (f_ cC4_4 (r1_ (l_ 2 25 rfl (c_ (parrelref27_number_tri s.f_Wire yC4_6 eC4_5) (r1_ (f_ cC4_7 (a_ tr (t2_ (r2_ (t8_ (r2_ (t4_ (r2_ tr)))))))))))))))) tr)) tr) (by kernel_rfl) rfl
    · skip
      obtain rfl := Option.some.inj h
      exact run_ret mixed (L := []) (n := 16) (s := [.reg [(2, hF)], .reg [(2, hC (parrelref27_number_v yC4_3)), (3, hF)]])
        (a_ (a_ (r1_ (l_ 0 25 rfl (f_ cC4_1 tr))) (a_ (r1_ (l_ 1 25 rfl (c_ (parrelref27_number_tri s.f_Node yC4_3 eC4_2) (f_ cC4_4 (a_ tr (t2_ (r2_ (a_ tr (t2_ (r2_ (t8_ (r2_ (t4_ (r2_ tr)))))))))))))) tr)) tr) (by kernel_rfl) rfl

theorem parrelref27_May_ok (s : T_parrelref27_Step) (r : (Bool)) (h : parrelref27_May s = some r) : ∀ σ, Inj 0 σ → FnTri Tryd.prog 13 (renL σ [v_T_parrelref27_Step s]) (preOf σ 0 []) ((parrelref27_May_v r).ren σ) (upOf σ []) := by
  refine fn_of Tryd.func13 (by kernel_rfl) (by kernel_rfl) (by kernel_rfl) trivial (by kernel_rfl) trivial (by kernel_rfl) ?_
  intro w0 W μ0 hμ
  unfold parrelref27_May at h
  rcases itb_some h with ⟨c1, h⟩ | ⟨c1, h⟩
  · skip
    obtain rfl := Option.some.inj h
    exact run_ret mixed (L := []) (n := 20) (s := [.reg [], .reg [(3, hT)], .reg []])
      (a_ (a_ (r2_ tr) (a_ (r1_ (l_ 0 25 rfl (r1_ (f_ c1 (a_ tr (t2_ (r2_ (a_ tr (t4_ (r1_ tr)))))))))) (a_ (r1_ tr) tr))) tr) (by kernel_rfl) rfl
  · skip
    rcases itb_some h with ⟨c2, h⟩ | ⟨c2, h⟩
    · skip
      obtain rfl := Option.some.inj h
      exact run_ret mixed (L := []) (n := 20) (s := [.reg [], .reg [(3, hF), (8, hT)], .reg []])
        (a_ (a_ (r2_ tr) (a_ (r1_ (l_ 0 25 rfl (r1_ (f_ c1 (r1_ (l_ 0 25 rfl (r2_ (f_ c2 (a_ tr (t4_ (r1_ tr))))))))))) (a_ (r1_ tr) tr))) tr) (by kernel_rfl) rfl
    · skip
      obtain ⟨y4, e3, h⟩ := bind_some h
      obtain ⟨y6, e5, h⟩ := bind_some h
      rcases itb_some h with ⟨c7, h⟩ | ⟨c7, h⟩
      · skip
        obtain rfl := Option.some.inj h
        exact run_ret mixed (L := []) (n := 20) (s := [.reg [], .reg [(3, hF), (8, hF), (10, hC (parrelref27_kept_v y4)), (12, hC (parrelref27_Same_v y6)), (14, hT)], .reg []])
          (a_ (a_ (r2_ tr) (a_ (r1_ (l_ 0 25 rfl (r1_ (f_ c1 (r1_ (l_ 0 25 rfl (r2_ (f_ c2 (m_ 25 25 rfl (c_ (parrelref27_kept_tri s y4 e3) (m_ 25 25 rfl (c_ (parrelref27_Same_tri y4 s y6 e5) (r1_ (f_ c7 tr)))))))))))))) (a_ (r1_ tr) tr))) tr) (by kernel_rfl) rfl
      · skip
        exact run_to mixed hμ (L := [0, 1]) (n := 23) (s := [.reg [], .reg [(3, hF), (8, hF), (10, hC (parrelref27_kept_v y4)), (12, hC (parrelref27_Same_v y6)), (14, hF)], .reg []])
          (a_ (r2_ tr) (a_ (r1_ (l_ 0 25 rfl (r1_ (f_ c1 (r1_ (l_ 0 25 rfl (r2_ (f_ c2 (m_ 25 25 rfl (c_ (parrelref27_kept_tri s y4 e3) (m_ 25 25 rfl (c_ (parrelref27_Same_tri y4 s y6 e5) (r1_ (f_ c7 tr)))))))))))))) (a_ (r1_ (m_ 23 25 rfl (r1_ (a_ (a_ (a_ (Eq.refl 18) (a_ (le_ 18 18 rfl) (Eq.refl 0))) tr) tr)))) tr))) (parrelref27_May_c4_ok hμ s   r h) (by kernel_rfl) ⟨rfl, rfl, trivial⟩

theorem parrelref27_May_tri (s : T_parrelref27_Step) (r : (Bool)) (h : parrelref27_May s = some r) : FnTri Tryd.prog 13 [v_T_parrelref27_Step s] [] (parrelref27_May_v r) [] := FnTri.none (parrelref27_May_ok s r h) rfl rfl

/-- parrel/parrelref27.digits -/

def parrelref27_digits_v (r : (List UInt8)) : LV := .str r

def parrelref27_digits_T0  (x_n2 : Int) (s : List UInt8) : List LV := [.int .u64 x_n2, .any, .any, .str s, .any, .any, .any, .any, .any, .any, .any, .any, .any, .any, .any, .any, .any]

def parrelref27_digits_H0  (x_n2 : Int) (s : List UInt8) : Heap := []

def parrelref27_digits_l0   : Nat → (Int) → (List UInt8) → Option ((List UInt8))
  | 0, _, _ => none
  | fuel + 1, x_n2, s =>
    if ((strI ([(IntKind.wrap .u8 (IntKind.wrap .u64 (48 + (Int.tmod x_n2 10))))] : List (Int)))).length + (s).length ≤ 9223372036854775807 then
    if (((IntKind.wrap .u64 (Int.tdiv x_n2 10)) == 0) : Bool) then
      some ((strI ([(IntKind.wrap .u8 (IntKind.wrap .u64 (48 + (Int.tmod x_n2 10))))] : List (Int))) ++ s)
    else
      parrelref27_digits_l0   fuel (IntKind.wrap .u64 (Int.tdiv x_n2 10)) ((strI ([(IntKind.wrap .u8 (IntKind.wrap .u64 (48 + (Int.tmod x_n2 10))))] : List (Int))) ++ s)
    else none

def parrelref27_digits (x_n : Int) : Option ((List UInt8)) :=
  parrelref27_digits_l0   big x_n ([])

theorem parrelref27_digits_l0_ok {w0 : World} {W : Nat → Prop} {μ0 : Emb} (hμ : ∀ c p, μ0 c = some p → c < 0)   : ∀ (fuel : Nat) (x_n2 : Int) (s : List UInt8) (r : (List UInt8)), parrelref27_digits_l0   fuel x_n2 s = some r → kont Tryd.prog w0 W μ0 (FnPost Tryd.prog Tryd.f24 0 0 (parrelref27_digits_v r) []) (kAt (bodyOf Tryd.f24) 0) none (parrelref27_digits_T0  x_n2 s) (parrelref27_digits_H0  x_n2 s) := by
  intro fuel
  induction fuel with
  | zero => intro x_n2 s r h; rw [parrelref27_digits_l0] at h; cases h
  | succ fuel ih =>
    intro x_n2 s r h
    rw [parrelref27_digits_l0] at h
    obtain ⟨gL0_1, h⟩ := guard_some h
    rcases itb_some h with ⟨cL0_2, h⟩ | ⟨cL0_2, h⟩
    · skip
      obtain rfl := Option.some.inj h
      exact run_ret mixed (L := []) (n := 24) (s := [.go, .reg [(4, { os := [(0, .gr 1 (([(IntKind.wrap .u8 (IntKind.wrap .u64 (48 + (Int.tmod x_n2 10))))] : List (Int))).length (rowF (cInt .u8) default ([(IntKind.wrap .u8 (IntKind.wrap .u64 (48 + (Int.tmod x_n2 10))))] : List (Int))))], v := some (.gs 0 (([(IntKind.wrap .u8 (IntKind.wrap .u64 (48 + (Int.tmod x_n2 10))))] : List (Int))).length), fz := true }), (5, { v := some (.str (strI ([(IntKind.wrap .u8 (IntKind.wrap .u64 (48 + (Int.tmod x_n2 10))))] : List (Int)))) })], .reg [], .reg [(1, hT)], .reg []])
        (a_ (a_ (r1_ (a_ (a_ (ne0 10 rfl) tr) (r2_ (a_ (a_ (a_ (a_ (Eq.refl true) (a_ (Eq.refl 1) (a_ (lt_ 0 1 rfl) (le_ 1 16777216 rfl)))) (a_ (le_sl_gs 0 1 (some 1) rfl) (a_ (sub_lit (cInt .u8) default 1 (fun _ => rfl) ([(IntKind.wrap .u8 (IntKind.wrap .u64 (48 + (Int.tmod x_n2 10))))] : List (Int))) tr))) (a_ (Nat.le_refl (([(IntKind.wrap .u8 (IntKind.wrap .u64 (48 + (Int.tmod x_n2 10))))] : List (Int))).length) (fz_row (enc := (cInt .u8)) (d := default) (fun _ => rfl) ([(IntKind.wrap .u8 (IntKind.wrap .u64 (48 + (Int.tmod x_n2 10))))] : List (Int))))) (a_ (a_ (a_ (Eq.refl 1) (str_ob ([(IntKind.wrap .u8 (IntKind.wrap .u64 (48 + (Int.tmod x_n2 10))))] : List (Int)))) (a_ (le_str ([(IntKind.wrap .u8 (IntKind.wrap .u64 (48 + (Int.tmod x_n2 10))))] : List (Int))) tr)) (r1_ (a_ (a_ gL0_1 tr) (r1_ tr)))))))) (a_ (r1_ (a_ (a_ (ne0 10 rfl) tr) (r1_ tr))) (a_ (r1_ (f_ cL0_2 tr)) (a_ (r2_ tr) tr)))) tr) (by kernel_rfl) rfl
    · skip
      exact run_to mixed hμ (L := []) (n := 23) (s := [.go, .reg [(4, { os := [(0, .gr 1 (([(IntKind.wrap .u8 (IntKind.wrap .u64 (48 + (Int.tmod x_n2 10))))] : List (Int))).length (rowF (cInt .u8) default ([(IntKind.wrap .u8 (IntKind.wrap .u64 (48 + (Int.tmod x_n2 10))))] : List (Int))))], v := some (.gs 0 (([(IntKind.wrap .u8 (IntKind.wrap .u64 (48 + (Int.tmod x_n2 10))))] : List (Int))).length), fz := true }), (5, { v := some (.str (strI ([(IntKind.wrap .u8 (IntKind.wrap .u64 (48 + (Int.tmod x_n2 10))))] : List (Int)))) })], .reg [], .reg [(1, hF)]])
        (a_ (r1_ (a_ (a_ (ne0 10 rfl) tr) (r2_ (a_ (a_ (a_ (a_ (Eq.refl true) (a_ (Eq.refl 1) (a_ (lt_ 0 1 rfl) (le_ 1 16777216 rfl)))) (a_ (le_sl_gs 0 1 (some 1) rfl) (a_ (sub_lit (cInt .u8) default 1 (fun _ => rfl) ([(IntKind.wrap .u8 (IntKind.wrap .u64 (48 + (Int.tmod x_n2 10))))] : List (Int))) tr))) (a_ (Nat.le_refl (([(IntKind.wrap .u8 (IntKind.wrap .u64 (48 + (Int.tmod x_n2 10))))] : List (Int))).length) (fz_row (enc := (cInt .u8)) (d := default) (fun _ => rfl) ([(IntKind.wrap .u8 (IntKind.wrap .u64 (48 + (Int.tmod x_n2 10))))] : List (Int))))) (a_ (a_ (a_ (Eq.refl 1) (str_ob ([(IntKind.wrap .u8 (IntKind.wrap .u64 (48 + (Int.tmod x_n2 10))))] : List (Int)))) (a_ (le_str ([(IntKind.wrap .u8 (IntKind.wrap .u64 (48 + (Int.tmod x_n2 10))))] : List (Int))) tr)) (r1_ (a_ (a_ gL0_1 tr) (r1_ tr)))))))) (a_ (r1_ (a_ (a_ (ne0 10 rfl) tr) (r1_ tr))) (a_ (r1_ (f_ cL0_2 tr)) tr))) (ih _ _ r h) (by kernel_rfl) trivial

theorem parrelref27_digits_ok (x_n : Int) (r : (List UInt8)) (h : parrelref27_digits x_n = some r) : ∀ σ, Inj 0 σ → FnTri Tryd.prog 24 (renL σ [.int .u64 x_n]) (preOf σ 0 []) ((parrelref27_digits_v r).ren σ) (upOf σ []) := by
  refine fn_of Tryd.func24 (by kernel_rfl) (by kernel_rfl) (by kernel_rfl) trivial (by kernel_rfl) trivial (by kernel_rfl) ?_
  intro w0 W μ0 hμ
  unfold parrelref27_digits at h
  exact run_to mixed hμ (L := []) (n := 17) (s := [.reg [], .reg []])
    (a_ (r1_ tr) (a_ (r1_ tr) tr)) (parrelref27_digits_l0_ok hμ   big _ _ r h) (by kernel_rfl) trivial

theorem parrelref27_digits_tri (x_n : Int) (r : (List UInt8)) (h : parrelref27_digits x_n = some r) : FnTri Tryd.prog 24 [.int .u64 x_n] [] (parrelref27_digits_v r) [] := FnTri.none (parrelref27_digits_ok x_n r h) rfl rfl

/-- parrel/parrelref27.name -/

def parrelref27_name_v (r : (List UInt8)) : LV := .str r

def parrelref27_name (t : T_api_Tx) : Option ((List UInt8)) :=
  (parrelref27_digits (IntKind.wrap .u64 t.f_Node)).bind fun y2 =>
  if (y2).length + (([46] : List UInt8)).length ≤ 9223372036854775807 then
  (parrelref27_digits (IntKind.wrap .u64 t.f_Boot)).bind fun y5 =>
  if ((y2 ++ ([46] : List UInt8))).length + (y5).length ≤ 9223372036854775807 then
  if (((y2 ++ ([46] : List UInt8)) ++ y5)).length + (([46] : List UInt8)).length ≤ 9223372036854775807 then
  (parrelref27_digits (IntKind.wrap .u64 t.f_Num)).bind fun y9 =>
  if ((((y2 ++ ([46] : List UInt8)) ++ y5) ++ ([46] : List UInt8))).length + (y9).length ≤ 9223372036854775807 then
  some ((((y2 ++ ([46] : List UInt8)) ++ y5) ++ ([46] : List UInt8)) ++ y9)
  else none
  else none
  else none
  else none

theorem parrelref27_name_ok (t : T_api_Tx) (r : (List UInt8)) (h : parrelref27_name t = some r) : ∀ σ, Inj 0 σ → FnTri Tryd.prog 50 (renL σ [v_T_api_Tx t]) (preOf σ 0 []) ((parrelref27_name_v r).ren σ) (upOf σ []) := by
  refine fn_of Tryd.func50 (by kernel_rfl) (by kernel_rfl) (by kernel_rfl) trivial (by kernel_rfl) trivial (by kernel_rfl) ?_
  intro w0 W μ0 hμ
  unfold parrelref27_name at h
  obtain ⟨y2, e1, h⟩ := bind_some h
  obtain ⟨g3, h⟩ := guard_some h
  obtain ⟨y5, e4, h⟩ := bind_some h
  obtain ⟨g6, h⟩ := guard_some h
  obtain ⟨g7, h⟩ := guard_some h
  obtain ⟨y9, e8, h⟩ := bind_some h
  obtain ⟨g10, h⟩ := guard_some h
  obtain rfl := Option.some.inj h
  exact run_ret mixed (L := []) (n := 15) (s := [.reg [], .reg [(3, hC (parrelref27_digits_v y2)), (8, hC (parrelref27_digits_v y5)), (14, hC (parrelref27_digits_v y9))]])
    (a_ (a_ (r2_ tr) (a_ (r1_ (l_ 0 3 rfl (r1_ (a_ (a_ (a_ (parrelref27_digits_tri (IntKind.wrap .u64 t.f_Node) y2 e1) tr) tr) (a_ (a_ g3 tr) (r1_ (l_ 1 3 rfl (r1_ (a_ (a_ (a_ (parrelref27_digits_tri (IntKind.wrap .u64 t.f_Boot) y5 e4) tr) tr) (a_ (a_ g6 tr) (a_ (a_ g7 tr) (r1_ (l_ 2 3 rfl (r1_ (a_ (a_ (a_ (parrelref27_digits_tri (IntKind.wrap .u64 t.f_Num) y9 e8) tr) tr) (a_ (a_ g10 tr) (r1_ tr))))))))))))))))) tr)) tr) (by kernel_rfl) rfl

theorem parrelref27_name_tri (t : T_api_Tx) (r : (List UInt8)) (h : parrelref27_name t = some r) : FnTri Tryd.prog 50 [v_T_api_Tx t] [] (parrelref27_name_v r) [] := FnTri.none (parrelref27_name_ok t r h) rfl rfl

/-- parrel/parrelref27.hex -/

def parrelref27_hex_v (r : (List UInt8)) : LV := .str r

def parrelref27_hex_T0 (b : List UInt8) (s : List UInt8) (i : Int) : List LV := [.str b, .any, .any, .str ([48, 49, 50, 51, 52, 53, 54, 55, 56, 57, 97, 98, 99, 100, 101, 102] : List UInt8), .str s, .int .i64 i, .any, .any, .any, .any, .any, .any, .any, .any, .any, .any, .any, .any, .any, .any, .any, .any, .any, .any, .any, .any, .any, .any, .any, .any, .any]

def parrelref27_hex_H0 (b : List UInt8) (s : List UInt8) (i : Int) : Heap := []

def parrelref27_hex_l0 (b : List UInt8)  : Nat → (List UInt8) → (Int) → Option ((List UInt8))
  | 0, _, _ => none
  | fuel + 1, s, i =>
    if ((decide (i < ((b).length : Int))) : Bool) then
      if 0 ≤ i ∧ i < (((b).length : Nat) : Int) then
      if 0 ≤ (IntKind.wrap .u8 (Int.tdiv ((b.getD i.toNat 0).toNat : Int) 16)) ∧ (IntKind.wrap .u8 (Int.tdiv ((b.getD i.toNat 0).toNat : Int) 16)) < (((([48, 49, 50, 51, 52, 53, 54, 55, 56, 57, 97, 98, 99, 100, 101, 102] : List UInt8)).length : Nat) : Int) then
      if 0 ≤ (Int.tmod ((b.getD i.toNat 0).toNat : Int) 16) ∧ (Int.tmod ((b.getD i.toNat 0).toNat : Int) 16) < (((([48, 49, 50, 51, 52, 53, 54, 55, 56, 57, 97, 98, 99, 100, 101, 102] : List UInt8)).length : Nat) : Int) then
      if (s).length + ((strI ([((([48, 49, 50, 51, 52, 53, 54, 55, 56, 57, 97, 98, 99, 100, 101, 102] : List UInt8).getD ((IntKind.wrap .u8 (Int.tdiv ((b.getD i.toNat 0).toNat : Int) 16))).toNat 0).toNat : Int), ((([48, 49, 50, 51, 52, 53, 54, 55, 56, 57, 97, 98, 99, 100, 101, 102] : List UInt8).getD ((Int.tmod ((b.getD i.toNat 0).toNat : Int) 16)).toNat 0).toNat : Int)] : List (Int)))).length ≤ 9223372036854775807 then
      parrelref27_hex_l0 b  fuel (s ++ (strI ([((([48, 49, 50, 51, 52, 53, 54, 55, 56, 57, 97, 98, 99, 100, 101, 102] : List UInt8).getD ((IntKind.wrap .u8 (Int.tdiv ((b.getD i.toNat 0).toNat : Int) 16))).toNat 0).toNat : Int), ((([48, 49, 50, 51, 52, 53, 54, 55, 56, 57, 97, 98, 99, 100, 101, 102] : List UInt8).getD ((Int.tmod ((b.getD i.toNat 0).toNat : Int) 16)).toNat 0).toNat : Int)] : List (Int)))) (IntKind.wrap .i64 (i + 1))
      else none
      else none
      else none
      else none
    else
      some s

def parrelref27_hex (b : List UInt8) : Option ((List UInt8)) :=
  if ((b == []) : Bool) then
    some ([45] : List UInt8)
  else
    parrelref27_hex_l0 b  big ([]) 0

theorem parrelref27_hex_l0_ok {w0 : World} {W : Nat → Prop} {μ0 : Emb} (hμ : ∀ c p, μ0 c = some p → c < 0) (b : List UInt8)  : ∀ (fuel : Nat) (s : List UInt8) (i : Int) (r : (List UInt8)), parrelref27_hex_l0 b  fuel s i = some r → kont Tryd.prog w0 W μ0 (FnPost Tryd.prog Tryd.f27 0 0 (parrelref27_hex_v r) []) (kAt (bodyOf Tryd.f27) 0) none (parrelref27_hex_T0 b s i) (parrelref27_hex_H0 b s i) := by
  intro fuel
  induction fuel with
  | zero => intro s i r h; rw [parrelref27_hex_l0] at h; cases h
  | succ fuel ih =>
    intro s i r h
    rw [parrelref27_hex_l0] at h
    rcases itb_some h with ⟨cL0_1, h⟩ | ⟨cL0_1, h⟩
    · skip
      obtain ⟨gL0_2, h⟩ := guard_some h
      obtain ⟨gL0_3, h⟩ := guard_some h
      obtain ⟨gL0_4, h⟩ := guard_some h
      obtain ⟨gL0_5, h⟩ := guard_some h
      exact run_to mixed hμ (L := []) (n := 23) (s := [.go, .reg [(3, hT)], .reg [(13, { os := [(0, .gr 1 (([((([48, 49, 50, 51, 52, 53, 54, 55, 56, 57, 97, 98, 99, 100, 101, 102] : List UInt8).getD ((IntKind.wrap .u8 (Int.tdiv ((b.getD i.toNat 0).toNat : Int) 16))).toNat 0).toNat : Int), ((([48, 49, 50, 51, 52, 53, 54, 55, 56, 57, 97, 98, 99, 100, 101, 102] : List UInt8).getD ((Int.tmod ((b.getD i.toNat 0).toNat : Int) 16)).toNat 0).toNat : Int)] : List (Int))).length (rowF (cInt .u8) default ([((([48, 49, 50, 51, 52, 53, 54, 55, 56, 57, 97, 98, 99, 100, 101, 102] : List UInt8).getD ((IntKind.wrap .u8 (Int.tdiv ((b.getD i.toNat 0).toNat : Int) 16))).toNat 0).toNat : Int), ((([48, 49, 50, 51, 52, 53, 54, 55, 56, 57, 97, 98, 99, 100, 101, 102] : List UInt8).getD ((Int.tmod ((b.getD i.toNat 0).toNat : Int) 16)).toNat 0).toNat : Int)] : List (Int))))], v := some (.gs 0 (([((([48, 49, 50, 51, 52, 53, 54, 55, 56, 57, 97, 98, 99, 100, 101, 102] : List UInt8).getD ((IntKind.wrap .u8 (Int.tdiv ((b.getD i.toNat 0).toNat : Int) 16))).toNat 0).toNat : Int), ((([48, 49, 50, 51, 52, 53, 54, 55, 56, 57, 97, 98, 99, 100, 101, 102] : List UInt8).getD ((Int.tmod ((b.getD i.toNat 0).toNat : Int) 16)).toNat 0).toNat : Int)] : List (Int))).length), fz := true }), (14, { v := some (.str (strI ([((([48, 49, 50, 51, 52, 53, 54, 55, 56, 57, 97, 98, 99, 100, 101, 102] : List UInt8).getD ((IntKind.wrap .u8 (Int.tdiv ((b.getD i.toNat 0).toNat : Int) 16))).toNat 0).toNat : Int), ((([48, 49, 50, 51, 52, 53, 54, 55, 56, 57, 97, 98, 99, 100, 101, 102] : List UInt8).getD ((Int.tmod ((b.getD i.toNat 0).toNat : Int) 16)).toNat 0).toNat : Int)] : List (Int)))) })], .reg []])
        (a_ (r1_ (r2_ (f_ cL0_1 tr))) (a_ (r4_ (a_ (a_ gL0_2 tr) (a_ (a_ (ne0 16 rfl) tr) (a_ (a_ gL0_3 tr) (r1_ (r2_ (a_ (a_ gL0_2 tr) (a_ (a_ (ne0 16 rfl) tr) (a_ (a_ gL0_4 tr) (a_ (a_ (a_ (a_ (Eq.refl true) (a_ (Eq.refl 1) (a_ (lt_ 0 1 rfl) (le_ 2 16777216 rfl)))) (a_ (le_sl_gs 0 2 (some 2) rfl) (a_ (sub_lit (cInt .u8) default 1 (fun _ => rfl) ([((([48, 49, 50, 51, 52, 53, 54, 55, 56, 57, 97, 98, 99, 100, 101, 102] : List UInt8).getD ((IntKind.wrap .u8 (Int.tdiv ((b.getD i.toNat 0).toNat : Int) 16))).toNat 0).toNat : Int), ((([48, 49, 50, 51, 52, 53, 54, 55, 56, 57, 97, 98, 99, 100, 101, 102] : List UInt8).getD ((Int.tmod ((b.getD i.toNat 0).toNat : Int) 16)).toNat 0).toNat : Int)] : List (Int))) tr))) (a_ (Nat.le_refl (([((([48, 49, 50, 51, 52, 53, 54, 55, 56, 57, 97, 98, 99, 100, 101, 102] : List UInt8).getD ((IntKind.wrap .u8 (Int.tdiv ((b.getD i.toNat 0).toNat : Int) 16))).toNat 0).toNat : Int), ((([48, 49, 50, 51, 52, 53, 54, 55, 56, 57, 97, 98, 99, 100, 101, 102] : List UInt8).getD ((Int.tmod ((b.getD i.toNat 0).toNat : Int) 16)).toNat 0).toNat : Int)] : List (Int))).length) (fz_row (enc := (cInt .u8)) (d := default) (fun _ => rfl) ([((([48, 49, 50, 51, 52, 53, 54, 55, 56, 57, 97, 98, 99, 100, 101, 102] : List UInt8).getD ((IntKind.wrap .u8 (Int.tdiv ((b.getD i.toNat 0).toNat : Int) 16))).toNat 0).toNat : Int), ((([48, 49, 50, 51, 52, 53, 54, 55, 56, 57, 97, 98, 99, 100, 101, 102] : List UInt8).getD ((Int.tmod ((b.getD i.toNat 0).toNat : Int) 16)).toNat 0).toNat : Int)] : List (Int))))) (a_ (a_ (a_ (Eq.refl 1) (str_ob ([((([48, 49, 50, 51, 52, 53, 54, 55, 56, 57, 97, 98, 99, 100, 101, 102] : List UInt8).getD ((IntKind.wrap .u8 (Int.tdiv ((b.getD i.toNat 0).toNat : Int) 16))).toNat 0).toNat : Int), ((([48, 49, 50, 51, 52, 53, 54, 55, 56, 57, 97, 98, 99, 100, 101, 102] : List UInt8).getD ((Int.tmod ((b.getD i.toNat 0).toNat : Int) 16)).toNat 0).toNat : Int)] : List (Int)))) (a_ (le_str ([((([48, 49, 50, 51, 52, 53, 54, 55, 56, 57, 97, 98, 99, 100, 101, 102] : List UInt8).getD ((IntKind.wrap .u8 (Int.tdiv ((b.getD i.toNat 0).toNat : Int) 16))).toNat 0).toNat : Int), ((([48, 49, 50, 51, 52, 53, 54, 55, 56, 57, 97, 98, 99, 100, 101, 102] : List UInt8).getD ((Int.tmod ((b.getD i.toNat 0).toNat : Int) 16)).toNat 0).toNat : Int)] : List (Int))) tr)) (a_ (a_ gL0_5 tr) (r1_ tr))))))))))))) (a_ (r1_ (r2_ tr)) tr))) (ih _ _ r h) (by kernel_rfl) trivial
    · skip
      obtain rfl := Option.some.inj h
      exact run_ret mixed (L := []) (n := 19) (s := [.go, .reg [(3, hF)], .reg []])
        (a_ (a_ (r1_ (r2_ (f_ cL0_1 tr))) (a_ (r2_ tr) tr)) tr) (by kernel_rfl) rfl

theorem parrelref27_hex_ok (b : List UInt8) (r : (List UInt8)) (h : parrelref27_hex b = some r) : ∀ σ, Inj 0 σ → FnTri Tryd.prog 27 (renL σ [.str b]) (preOf σ 0 []) ((parrelref27_hex_v r).ren σ) (upOf σ []) := by
  refine fn_of Tryd.func27 (by kernel_rfl) (by kernel_rfl) (by kernel_rfl) trivial (by kernel_rfl) trivial (by kernel_rfl) ?_
  intro w0 W μ0 hμ
  unfold parrelref27_hex at h
  rcases itb_some h with ⟨c1, h⟩ | ⟨c1, h⟩
  · skip
    obtain rfl := Option.some.inj h
    exact run_ret mixed (L := []) (n := 20) (s := [.reg [], .reg [(1, hT)], .reg []])
      (a_ (a_ (r1_ tr) (a_ (r1_ (f_ c1 tr)) (a_ (r1_ tr) tr))) tr) (by kernel_rfl) rfl
  · skip
    exact run_to mixed hμ (L := []) (n := 30) (s := [.reg [], .reg [(1, hF)], .reg [], .reg [], .reg []])
      (a_ (r1_ tr) (a_ (r1_ (f_ c1 tr)) (a_ (r1_ tr) (a_ (r1_ tr) (a_ (r1_ tr) tr))))) (parrelref27_hex_l0_ok hμ b  big _ _ r h) (by kernel_rfl) trivial

theorem parrelref27_hex_tri (b : List UInt8) (r : (List UInt8)) (h : parrelref27_hex b = some r) : FnTri Tryd.prog 27 [.str b] [] (parrelref27_hex_v r) [] := FnTri.none (parrelref27_hex_ok b r h) rfl rfl

/-- parrel/parrelref27.key -/

def parrelref27_key_v (r : (List UInt8)) : LV := .str r

def parrelref27_key_T0 (x_k : A8 (Int)) (x_n : Int) : List LV := [.any, .ptr 0 0 0, .any, .int .i64 x_n, .any, .any, .any, .any, .any, .any, .any, .any, .any, .any, .any, .any, .any, .any]

def parrelref27_key_H0 (x_k : A8 (Int)) (x_n : Int) : Heap := [some (.var [.int .u8 x_k.a0, .int .u8 x_k.a1, .int .u8 x_k.a2, .int .u8 x_k.a3, .int .u8 x_k.a4, .int .u8 x_k.a5, .int .u8 x_k.a6, .int .u8 x_k.a7])]

def parrelref27_key_l0 (x_k : A8 (Int))  : Nat → (Int) → Option ((List UInt8))
  | 0, _ => none
  | fuel + 1, x_n =>
    if ((decide (x_n < 8)) : Bool) then
      if 0 ≤ x_n ∧ x_n < 8 then
      if (((A8.get x_k x_n.toNat) != 0) : Bool) then
        parrelref27_key_l0 x_k  fuel (IntKind.wrap .i64 (x_n + 1))
      else
        if 0 ≤ (0 : Int) ∧ 0 ≤ x_n ∧ x_n ≤ 8 then
        (parrelref27_hex (strI (([x_k.a0, x_k.a1, x_k.a2, x_k.a3, x_k.a4, x_k.a5, x_k.a6, x_k.a7] : List Int).take (x_n.toNat)))).bind fun yL0_6 =>
        some yL0_6
        else none
      else none
    else
      if 0 ≤ (0 : Int) ∧ 0 ≤ x_n ∧ x_n ≤ 8 then
      (parrelref27_hex (strI (([x_k.a0, x_k.a1, x_k.a2, x_k.a3, x_k.a4, x_k.a5, x_k.a6, x_k.a7] : List Int).take (x_n.toNat)))).bind fun yL0_4 =>
      some yL0_4
      else none

def parrelref27_key (x_k : A8 (Int)) : Option ((List UInt8)) :=
  parrelref27_key_l0 x_k  big 0

theorem parrelref27_key_l0_ok {w0 : World} {W : Nat → Prop} {μ0 : Emb} (hμ : ∀ c p, μ0 c = some p → c < 0) (x_k : A8 (Int))  : ∀ (fuel : Nat) (x_n : Int) (r : (List UInt8)), parrelref27_key_l0 x_k  fuel x_n = some r → kont Tryd.prog w0 W μ0 (FnPost Tryd.prog Tryd.f51 0 0 (parrelref27_key_v r) []) (kAt (bodyOf Tryd.f51) 0) none (parrelref27_key_T0 x_k x_n) (parrelref27_key_H0 x_k x_n) := by
  intro fuel
  induction fuel with
  | zero => intro x_n r h; rw [parrelref27_key_l0] at h; cases h
  | succ fuel ih =>
    intro x_n r h
    rw [parrelref27_key_l0] at h
    rcases itb_some h with ⟨cL0_1, h⟩ | ⟨cL0_1, h⟩
    · skip
      obtain ⟨gL0_2, h⟩ := guard_some h
      rcases itb_some h with ⟨cL0_3, h⟩ | ⟨cL0_3, h⟩
      · skip
        exact run_to mixed hμ (L := [0]) (n := 20) (s := [.go, .reg [(2, hT), (5, { v := some (.int .u8 (A8.get x_k x_n.toNat)) }), (7, hT)], .reg []])
          (a_ (r2_ (f_ cL0_1 (r1_ (a_ (a_ gL0_2 tr) (a_ (a_ (a_ tr (arrLt (len := 8) gL0_2 0 1 8 rfl rfl)) (a_ (ld8s (cInt .u8) 1 (fun _ => rfl) x_k [] [] 0 rfl x_n.toNat (lt8N gL0_2) (le_ (0 + 1) 1 rfl)) tr)) (r1_ (f_ cL0_3 tr))))))) (a_ (r1_ (r2_ tr)) tr)) (ih _ r h) (by kernel_rfl) ⟨rfl, trivial⟩
      · skip
        obtain ⟨gL0_4, h⟩ := guard_some h
        obtain ⟨yL0_6, eL0_5, h⟩ := bind_some h
        obtain rfl := Option.some.inj h
        exact run_ret mixed (L := []) (n := 19) (s := [.go, .reg [(2, hT), (5, { v := some (.int .u8 (A8.get x_k x_n.toNat)) }), (7, hF)], .reg [(2, { v := some (.str (strI (([x_k.a0, x_k.a1, x_k.a2, x_k.a3, x_k.a4, x_k.a5, x_k.a6, x_k.a7] : List Int).take (x_n.toNat)))) }), (3, hC (parrelref27_hex_v yL0_6))]])
          (a_ (a_ (r2_ (f_ cL0_1 (r1_ (a_ (a_ gL0_2 tr) (a_ (a_ (a_ tr (arrLt (len := 8) gL0_2 0 1 8 rfl rfl)) (a_ (ld8s (cInt .u8) 1 (fun _ => rfl) x_k [] [] 0 rfl x_n.toNat (lt8N gL0_2) (le_ (0 + 1) 1 rfl)) tr)) (r1_ (f_ cL0_3 tr))))))) (a_ (r1_ (a_ (a_ gL0_4 tr) (a_ (a_ (arr_ob [x_k.a0, x_k.a1, x_k.a2, x_k.a3, x_k.a4, x_k.a5, x_k.a6, x_k.a7] (x_n.toNat) 8 (toN_le (n := 8) gL0_4.2.2) rfl) (a_ (le_arr [x_k.a0, x_k.a1, x_k.a2, x_k.a3, x_k.a4, x_k.a5, x_k.a6, x_k.a7] (x_n.toNat) 8 (toN_le (n := 8) gL0_4.2.2) rfl) tr)) (a_ (a_ (a_ (parrelref27_hex_tri (strI (([x_k.a0, x_k.a1, x_k.a2, x_k.a3, x_k.a4, x_k.a5, x_k.a6, x_k.a7] : List Int).take (x_n.toNat))) yL0_6 eL0_5) tr) tr) (r1_ tr))))) tr)) tr) (by kernel_rfl) rfl
    · skip
      obtain ⟨gL0_2, h⟩ := guard_some h
      obtain ⟨yL0_4, eL0_3, h⟩ := bind_some h
      obtain rfl := Option.some.inj h
      exact run_ret mixed (L := []) (n := 19) (s := [.go, .reg [(2, hF)], .reg [(2, { v := some (.str (strI (([x_k.a0, x_k.a1, x_k.a2, x_k.a3, x_k.a4, x_k.a5, x_k.a6, x_k.a7] : List Int).take (x_n.toNat)))) }), (3, hC (parrelref27_hex_v yL0_4))]])
        (a_ (a_ (r2_ (f_ cL0_1 (t4_ (r1_ tr)))) (a_ (r1_ (a_ (a_ gL0_2 tr) (a_ (a_ (arr_ob [x_k.a0, x_k.a1, x_k.a2, x_k.a3, x_k.a4, x_k.a5, x_k.a6, x_k.a7] (x_n.toNat) 8 (toN_le (n := 8) gL0_2.2.2) rfl) (a_ (le_arr [x_k.a0, x_k.a1, x_k.a2, x_k.a3, x_k.a4, x_k.a5, x_k.a6, x_k.a7] (x_n.toNat) 8 (toN_le (n := 8) gL0_2.2.2) rfl) tr)) (a_ (a_ (a_ (parrelref27_hex_tri (strI (([x_k.a0, x_k.a1, x_k.a2, x_k.a3, x_k.a4, x_k.a5, x_k.a6, x_k.a7] : List Int).take (x_n.toNat))) yL0_4 eL0_3) tr) tr) (r1_ tr))))) tr)) tr) (by kernel_rfl) rfl

theorem parrelref27_key_ok (x_k : A8 (Int)) (r : (List UInt8)) (h : parrelref27_key x_k = some r) : ∀ σ, Inj 0 σ → FnTri Tryd.prog 51 (renL σ [.agg [.int .u8 x_k.a0, .int .u8 x_k.a1, .int .u8 x_k.a2, .int .u8 x_k.a3, .int .u8 x_k.a4, .int .u8 x_k.a5, .int .u8 x_k.a6, .int .u8 x_k.a7]]) (preOf σ 0 []) ((parrelref27_key_v r).ren σ) (upOf σ []) := by
  refine fn_of Tryd.func51 (by kernel_rfl) (by kernel_rfl) (by kernel_rfl) trivial (by kernel_rfl) trivial (by kernel_rfl) ?_
  intro w0 W μ0 hμ
  unfold parrelref27_key at h
  exact run_to mixed hμ (L := [0]) (n := 18) (s := [.reg [], .reg []])
    (a_ (r2_ tr) (a_ (r1_ tr) tr)) (parrelref27_key_l0_ok hμ x_k  big _ r h) (by kernel_rfl) ⟨rfl, trivial⟩

theorem parrelref27_key_tri (x_k : A8 (Int)) (r : (List UInt8)) (h : parrelref27_key x_k = some r) : FnTri Tryd.prog 51 [.agg [.int .u8 x_k.a0, .int .u8 x_k.a1, .int .u8 x_k.a2, .int .u8 x_k.a3, .int .u8 x_k.a4, .int .u8 x_k.a5, .int .u8 x_k.a6, .int .u8 x_k.a7]] [] (parrelref27_key_v r) [] := FnTri.none (parrelref27_key_ok x_k r h) rfl rfl

/-- parrel/parrelref27.words -/

def parrelref27_words_v (r : (List UInt8)) : LV := .str r

def parrelref27_words_T0 (c : T_parrelref27_Call) (s : List UInt8) (i : Int) : List LV := [.any, .ptr 0 0 0, .any, .str s, .int .i64 i, .any, .any, .any, .any, .any, .any, .any, .any, .any, .any, .any, .any, .any, .any, .any, .any, .any, .any, .any, .any, .any, .any, .any, .any, .any, .any, .any, .any, .any, .any, .any, .any, .any, .any, .any, .any, .any, .any, .any, .any, .any, .any, .any, .any, .any, .any, .any, .any, .any, .any, .any, .any, .any, .any, .any, .any, .any, .any, .any, .any, .any, .any, .any, .any, .any, .any, .any, .any, .any, .any, .any, .any, .any, .any, .any, .any, .any, .any, .any, .any, .any, .any]

def parrelref27_words_H0 (c : T_parrelref27_Call) (s : List UInt8) (i : Int) : Heap := [some (.var (c_T_parrelref27_Call c))]

def parrelref27_words_T1000013 (c : T_parrelref27_Call) (y7 : (List UInt8)) (y11 : (List UInt8)) (y15 : (List UInt8)) (y19 : (List UInt8))  : List LV := [.any, .ptr 0 0 0, .any, .str (((((((([99, 104, 97, 110, 103, 101, 32] : List UInt8) ++ y7) ++ ([32] : List UInt8)) ++ y11) ++ ([32] : List UInt8)) ++ y15) ++ ([32] : List UInt8)) ++ y19), .any, .any, .any, .any, .any, .any, .any, .any, .any, .any, .any, .any, .any, .any, .any, .any, .any, .any, .any, .any, .any, .any, .any, .any, .any, .any, .any, .any, .any, .any, .any, .any, .any, .any, .any, .any, .any, .any, .any, .any, .any, .any, .any, .any, .any, .any, .any, .any, .any, .any, .any, .any, .any, .any, .any, .any, .any, .any, .any, .any, .any, .any, .any, .any, .any, .any, .any, .any, .any, .any, .any, .any, .any, .any, .any, .any, .any, .any, .any, .any, .any, .any, .any]

def parrelref27_words_H1000013 (c : T_parrelref27_Call) (y7 : (List UInt8)) (y11 : (List UInt8)) (y15 : (List UInt8)) (y19 : (List UInt8))  : Heap := [some (.var (c_T_parrelref27_Call c))]

def parrelref27_words_l0 (c : T_parrelref27_Call)  : Nat → (List UInt8) → (Int) → Option ((List UInt8))
  | 0, _, _ => none
  | fuel + 1, s, i =>
    if ((decide (i < ((c.f_Votes).length : Int))) : Bool) then
      if 0 ≤ i ∧ i < (((c.f_Votes).length : Nat) : Int) then
      (parrelref27_digits (IntKind.wrap .u64 (c.f_Votes.getD i.toNat default))).bind fun yL0_4 =>
      if (([32] : List UInt8)).length + (yL0_4).length ≤ 9223372036854775807 then
      if (s).length + ((([32] : List UInt8) ++ yL0_4)).length ≤ 9223372036854775807 then
      parrelref27_words_l0 c  fuel (s ++ (([32] : List UInt8) ++ yL0_4)) (IntKind.wrap .i64 (i + 1))
      else none
      else none
      else none
    else
      some s

def parrelref27_words_c13 (c : T_parrelref27_Call) (y7 : (List UInt8)) (y11 : (List UInt8)) (y15 : (List UInt8)) (y19 : (List UInt8))   : Option ((List UInt8)) :=
  parrelref27_words_l0 c  big (((((((([99, 104, 97, 110, 103, 101, 32] : List UInt8) ++ y7) ++ ([32] : List UInt8)) ++ y11) ++ ([32] : List UInt8)) ++ y15) ++ ([32] : List UInt8)) ++ y19) 0

def parrelref27_words (c : T_parrelref27_Call) : Option ((List UInt8)) :=
  if ((c.f_Kind == 1) : Bool) then
    some ([98, 101, 103, 105, 110] : List UInt8)
  else
    if ((c.f_Kind == 2) : Bool) then
      (parrelref27_name c.f_Tx).bind fun y4 =>
      if (([114, 101, 97, 100, 32] : List UInt8)).length + (y4).length ≤ 9223372036854775807 then
      if ((([114, 101, 97, 100, 32] : List UInt8) ++ y4)).length + (([32] : List UInt8)).length ≤ 9223372036854775807 then
      (parrelref27_key c.f_Key).bind fun y8 =>
      if (((([114, 101, 97, 100, 32] : List UInt8) ++ y4) ++ ([32] : List UInt8))).length + (y8).length ≤ 9223372036854775807 then
      some (((([114, 101, 97, 100, 32] : List UInt8) ++ y4) ++ ([32] : List UInt8)) ++ y8)
      else none
      else none
      else none
    else
      if ((c.f_Kind == 3) : Bool) then
        (parrelref27_name c.f_Tx).bind fun y5 =>
        if (([119, 114, 105, 116, 101, 32] : List UInt8)).length + (y5).length ≤ 9223372036854775807 then
        if ((([119, 114, 105, 116, 101, 32] : List UInt8) ++ y5)).length + (([32] : List UInt8)).length ≤ 9223372036854775807 then
        (parrelref27_key c.f_Key).bind fun y9 =>
        if (((([119, 114, 105, 116, 101, 32] : List UInt8) ++ y5) ++ ([32] : List UInt8))).length + (y9).length ≤ 9223372036854775807 then
        if ((((([119, 114, 105, 116, 101, 32] : List UInt8) ++ y5) ++ ([32] : List UInt8)) ++ y9)).length + (([32] : List UInt8)).length ≤ 9223372036854775807 then
        (parrelref27_hex c.f_Value).bind fun y13 =>
        if (((((([119, 114, 105, 116, 101, 32] : List UInt8) ++ y5) ++ ([32] : List UInt8)) ++ y9) ++ ([32] : List UInt8))).length + (y13).length ≤ 9223372036854775807 then
        some (((((([119, 114, 105, 116, 101, 32] : List UInt8) ++ y5) ++ ([32] : List UInt8)) ++ y9) ++ ([32] : List UInt8)) ++ y13)
        else none
        else none
        else none
        else none
        else none
      else
        if ((c.f_Kind == 4) : Bool) then
          (parrelref27_name c.f_Tx).bind fun y6 =>
          if (([99, 111, 109, 109, 105, 116, 32] : List UInt8)).length + (y6).length ≤ 9223372036854775807 then
          some (([99, 111, 109, 109, 105, 116, 32] : List UInt8) ++ y6)
          else none
        else
          if ((c.f_Kind == 5) : Bool) then
            (parrelref27_name c.f_Tx).bind fun y7 =>
            if (([97, 98, 111, 114, 116, 32] : List UInt8)).length + (y7).length ≤ 9223372036854775807 then
            some (([97, 98, 111, 114, 116, 32] : List UInt8) ++ y7)
            else none
          else
            (parrelref27_name c.f_Tx).bind fun y7 =>
            if (([99, 104, 97, 110, 103, 101, 32] : List UInt8)).length + (y7).length ≤ 9223372036854775807 then
            if ((([99, 104, 97, 110, 103, 101, 32] : List UInt8) ++ y7)).length + (([32] : List UInt8)).length ≤ 9223372036854775807 then
            (parrelref27_key c.f_Key).bind fun y11 =>
            if (((([99, 104, 97, 110, 103, 101, 32] : List UInt8) ++ y7) ++ ([32] : List UInt8))).length + (y11).length ≤ 9223372036854775807 then
            if ((((([99, 104, 97, 110, 103, 101, 32] : List UInt8) ++ y7) ++ ([32] : List UInt8)) ++ y11)).length + (([32] : List UInt8)).length ≤ 9223372036854775807 then
            (parrelref27_digits (IntKind.wrap .u64 c.f_R)).bind fun y15 =>
            if (((((([99, 104, 97, 110, 103, 101, 32] : List UInt8) ++ y7) ++ ([32] : List UInt8)) ++ y11) ++ ([32] : List UInt8))).length + (y15).length ≤ 9223372036854775807 then
            if ((((((([99, 104, 97, 110, 103, 101, 32] : List UInt8) ++ y7) ++ ([32] : List UInt8)) ++ y11) ++ ([32] : List UInt8)) ++ y15)).length + (([32] : List UInt8)).length ≤ 9223372036854775807 then
            (parrelref27_digits (IntKind.wrap .u64 c.f_W)).bind fun y19 =>
            if (((((((([99, 104, 97, 110, 103, 101, 32] : List UInt8) ++ y7) ++ ([32] : List UInt8)) ++ y11) ++ ([32] : List UInt8)) ++ y15) ++ ([32] : List UInt8))).length + (y19).length ≤ 9223372036854775807 then
            parrelref27_words_c13 c y7 y11 y15 y19  
            else none
            else none
            else none
            else none
            else none
            else none
            else none

theorem parrelref27_words_l0_ok {w0 : World} {W : Nat → Prop} {μ0 : Emb} (hμ : ∀ c p, μ0 c = some p → c < 0) (c : T_parrelref27_Call)  : ∀ (fuel : Nat) (s : List UInt8) (i : Int) (r : (List UInt8)), parrelref27_words_l0 c  fuel s i = some r → kont Tryd.prog w0 W μ0 (FnPost Tryd.prog Tryd.f25 0 0 (parrelref27_words_v r) []) (kAt (bodyOf Tryd.f25) 0) none (parrelref27_words_T0 c s i) (parrelref27_words_H0 c s i) := by
  intro fuel
  induction fuel with
  | zero => intro s i r h; rw [parrelref27_words_l0] at h; cases h
  | succ fuel ih =>
    intro s i r h
    rw [parrelref27_words_l0] at h
    rcases itb_some h with ⟨cL0_1, h⟩ | ⟨cL0_1, h⟩
    · skip
      obtain ⟨gL0_2, h⟩ := guard_some h
      obtain ⟨yL0_4, eL0_3, h⟩ := bind_some h
      obtain ⟨gL0_5, h⟩ := guard_some h
      obtain ⟨gL0_6, h⟩ := guard_some h
      exact run_to mixed hμ (L := [0]) (n := 23) (s := [.go, .reg [(4, hT)], .reg [(7, hC (parrelref27_digits_v yL0_4))], .reg []])
        (a_ (r2_ (l_ 17 18 rfl (r1_ (f_ cL0_1 tr)))) (a_ (r2_ (l_ 17 18 rfl (r1_ (a_ (a_ (a_ (Eq.refl 1) gL0_2) tr) (a_ (a_ (lt_ 0 1 rfl) tr) (r1_ (a_ (a_ (a_ (parrelref27_digits_tri (IntKind.wrap .u64 (c.f_Votes.getD i.toNat default)) yL0_4 eL0_3) tr) tr) (a_ (a_ gL0_5 tr) (a_ (a_ gL0_6 tr) (r1_ tr)))))))))) (a_ (r1_ (r2_ tr)) tr))) (ih _ _ r h) (by kernel_rfl) ⟨rfl, trivial⟩
    · skip
      obtain rfl := Option.some.inj h
      exact run_ret mixed (L := []) (n := 19) (s := [.go, .reg [(4, hF)], .reg []])
        (a_ (a_ (r2_ (l_ 17 18 rfl (r1_ (f_ cL0_1 tr)))) (a_ (r2_ tr) tr)) tr) (by kernel_rfl) rfl

theorem parrelref27_words_c13_ok {w0 : World} {W : Nat → Prop} {μ0 : Emb} (hμ : ∀ c p, μ0 c = some p → c < 0) (c : T_parrelref27_Call) (y7 : (List UInt8)) (y11 : (List UInt8)) (y15 : (List UInt8)) (y19 : (List UInt8))   (r : (List UInt8)) (h : parrelref27_words_c13 c y7 y11 y15 y19   = some r) : kont Tryd.prog w0 W μ0 (FnPost Tryd.prog Tryd.f25 0 0 (parrelref27_words_v r) []) (kAtR (bodyOf Tryd.f25) 13) none (parrelref27_words_T1000013 c y7 y11 y15 y19 ) (parrelref27_words_H1000013 c y7 y11 y15 y19 ) := by
  unfold parrelref27_words_c13 at h
  exact run_to mixed hμ (L := [0]) (n := 13) (s := [.reg []])
    (a_ (r1_ tr) tr) (parrelref27_words_l0_ok hμ c  big _ _ r h) (by kernel_rfl) ⟨rfl, trivial⟩

theorem parrelref27_words_ok (c : T_parrelref27_Call) (r : (List UInt8)) (h : parrelref27_words c = some r) : ∀ σ, Inj 0 σ → FnTri Tryd.prog 25 (renL σ [v_T_parrelref27_Call c]) (preOf σ 0 []) ((parrelref27_words_v r).ren σ) (upOf σ []) := by
  refine fn_of Tryd.func25 (by kernel_rfl) (by kernel_rfl) (by kernel_rfl) trivial (by kernel_rfl) trivial (by kernel_rfl) ?_
  intro w0 W μ0 hμ
  unfold parrelref27_words at h
  rcases itb_some h with ⟨c1, h⟩ | ⟨c1, h⟩
  · skip
    obtain rfl := Option.some.inj h
    exact run_ret mixed (L := []) (n := 24) (s := [.reg [], .reg [], .reg [(1, hT)], .reg []])
      (a_ (a_ (r2_ tr) (a_ (r1_ (l_ 2 18 rfl tr)) (a_ (r1_ (f_ c1 tr)) (a_ (r1_ tr) tr)))) tr) (by kernel_rfl) rfl
  · skip
    rcases itb_some h with ⟨c2, h⟩ | ⟨c2, h⟩
    · skip
      obtain ⟨y4, e3, h⟩ := bind_some h
      obtain ⟨g5, h⟩ := guard_some h
      obtain ⟨g6, h⟩ := guard_some h
      obtain ⟨y8, e7, h⟩ := bind_some h
      obtain ⟨g9, h⟩ := guard_some h
      obtain rfl := Option.some.inj h
      exact run_ret mixed (L := []) (n := 28) (s := [.reg [], .reg [], .reg [(1, hF)], .reg [(1, hT)], .reg [(2, hC (parrelref27_name_v y4)), (7, hC (parrelref27_key_v y8))]])
        (a_ (a_ (r2_ tr) (a_ (r1_ (l_ 2 18 rfl tr)) (a_ (r1_ (f_ c1 tr)) (a_ (r1_ (f_ c2 tr)) (a_ (r1_ (m_ 6 18 rfl (c_ (parrelref27_name_tri c.f_Tx y4 e3) (a_ (a_ g5 tr) (a_ (a_ g6 tr) (r1_ (m_ 14 18 rfl (c_ (parrelref27_key_tri c.f_Key y8 e7) (a_ (a_ g9 tr) (r1_ tr)))))))))) tr))))) tr) (by kernel_rfl) rfl
    · skip
      rcases itb_some h with ⟨c3, h⟩ | ⟨c3, h⟩
      · skip
        obtain ⟨y5, e4, h⟩ := bind_some h
        obtain ⟨g6, h⟩ := guard_some h
        obtain ⟨g7, h⟩ := guard_some h
        obtain ⟨y9, e8, h⟩ := bind_some h
        obtain ⟨g10, h⟩ := guard_some h
        obtain ⟨g11, h⟩ := guard_some h
        obtain ⟨y13, e12, h⟩ := bind_some h
        obtain ⟨g14, h⟩ := guard_some h
        obtain rfl := Option.some.inj h
        exact run_ret mixed (L := []) (n := 32) (s := [.reg [], .reg [], .reg [(1, hF)], .reg [(1, hF)], .reg [(1, hT)], .reg [(2, hC (parrelref27_name_v y5)), (7, hC (parrelref27_key_v y9)), (12, hC (parrelref27_hex_v y13))]])
          (a_ (a_ (r2_ tr) (a_ (r1_ (l_ 2 18 rfl tr)) (a_ (r1_ (f_ c1 tr)) (a_ (r1_ (f_ c2 tr)) (a_ (r1_ (f_ c3 tr)) (a_ (r1_ (m_ 6 18 rfl (c_ (parrelref27_name_tri c.f_Tx y5 e4) (a_ (a_ g6 tr) (a_ (a_ g7 tr) (r1_ (m_ 14 18 rfl (c_ (parrelref27_key_tri c.f_Key y9 e8) (a_ (a_ g10 tr) (a_ (a_ g11 tr) (r1_ (l_ 14 18 rfl (c_ (parrelref27_hex_tri c.f_Value y13 e12) (a_ (a_ g14 tr) (r1_ tr))))))))))))))) tr)))))) tr) (by kernel_rfl) rfl
      · skip
        rcases itb_some h with ⟨c4, h⟩ | ⟨c4, h⟩
        · skip
          obtain ⟨y6, e5, h⟩ := bind_some h
          obtain ⟨g7, h⟩ := guard_some h
          obtain rfl := Option.some.inj h
          exact run_ret mixed (L := []) (n := 36) (s := [.reg [], .reg [], .reg [(1, hF)], .reg [(1, hF)], .reg [(1, hF)], .reg [(1, hT)], .reg [(2, hC (parrelref27_name_v y6))]])
            (a_ (a_ (r2_ tr) (a_ (r1_ (l_ 2 18 rfl tr)) (a_ (r1_ (f_ c1 tr)) (a_ (r1_ (f_ c2 tr)) (a_ (r1_ (f_ c3 tr)) (a_ (r1_ (f_ c4 tr)) (a_ (r1_ (m_ 6 18 rfl (c_ (parrelref27_name_tri c.f_Tx y6 e5) (a_ (a_ g7 tr) (r1_ tr))))) tr))))))) tr) (by kernel_rfl) rfl
        · skip
          rcases itb_some h with ⟨c5, h⟩ | ⟨c5, h⟩
          · skip
            obtain ⟨y7, e6, h⟩ := bind_some h
            obtain ⟨g8, h⟩ := guard_some h
            obtain rfl := Option.some.inj h
            exact run_ret mixed (L := []) (n := 40) (s := [.reg [], .reg [], .reg [(1, hF)], .reg [(1, hF)], .reg [(1, hF)], .reg [(1, hF)], .reg [(1, hT)], .reg [(2, hC (parrelref27_name_v y7))]])
              (a_ (a_ (r2_ tr) (a_ (r1_ (l_ 2 18 rfl tr)) (a_ (r1_ (f_ c1 tr)) (a_ (r1_ (f_ c2 tr)) (a_ (r1_ (f_ c3 tr)) (a_ (r1_ (f_ c4 tr)) (a_ (r1_ (f_ c5 tr)) (a_ (r1_ (m_ 6 18 rfl (c_ (parrelref27_name_tri c.f_Tx y7 e6) (a_ (a_ g8 tr) (r1_ tr))))) tr)))))))) tr) (by kernel_rfl) rfl
          · skip
            obtain ⟨y7, e6, h⟩ := bind_some h
            obtain ⟨g8, h⟩ := guard_some h
            obtain ⟨g9, h⟩ := guard_some h
            obtain ⟨y11, e10, h⟩ := bind_some h
            obtain ⟨g12, h⟩ := guard_some h
            obtain ⟨g13, h⟩ := guard_some h
            obtain ⟨y15, e14, h⟩ := bind_some h
            obtain ⟨g16, h⟩ := guard_some h
            obtain ⟨g17, h⟩ := guard_some h
            obtain ⟨y19, e18, h⟩ := bind_some h
            obtain ⟨g20, h⟩ := guard_some h
            exact run_to mixed hμ (L := [0]) (n := 44) (s := [.reg [], .reg [], .reg [(1, hF)], .reg [(1, hF)], .reg [(1, hF)], .reg [(1, hF)], .reg [(1, hF)], .reg [(2, hC (parrelref27_name_v y7)), (7, hC (parrelref27_key_v y11)), (13, hC (parrelref27_digits_v y15)), (19, hC (parrelref27_digits_v y19))]])
              (a_ (r2_ tr) (a_ (r1_ (l_ 2 18 rfl tr)) (a_ (r1_ (f_ c1 tr)) (a_ (r1_ (f_ c2 tr)) (a_ (r1_ (f_ c3 tr)) (a_ (r1_ (f_ c4 tr)) (a_ (r1_ (f_ c5 tr)) (a_ (r1_ (m_ 6 18 rfl (c_ (parrelref27_name_tri c.f_Tx y7 e6) (a_ (a_ g8 tr) (a_ (a_ g9 tr) (r1_ (m_ 14 18 rfl (c_ (parrelref27_key_tri c.f_Key y11 e10) (a_ (a_ g12 tr) (a_ (a_ g13 tr) (r1_ (l_ 15 18 rfl (r1_ (a_ (a_ (a_ (parrelref27_digits_tri (IntKind.wrap .u64 c.f_R) y15 e14) tr) tr) (a_ (a_ g16 tr) (a_ (a_ g17 tr) (r1_ (l_ 16 18 rfl (r1_ (a_ (a_ (a_ (parrelref27_digits_tri (IntKind.wrap .u64 c.f_W) y19 e18) tr) tr) (a_ (a_ g20 tr) (r1_ tr)))))))))))))))))))))) tr)))))))) (parrelref27_words_c13_ok hμ c y7 y11 y15 y19   r h) (by kernel_rfl) ⟨rfl, trivial⟩

theorem parrelref27_words_tri (c : T_parrelref27_Call) (r : (List UInt8)) (h : parrelref27_words c = some r) : FnTri Tryd.prog 25 [v_T_parrelref27_Call c] [] (parrelref27_words_v r) [] := FnTri.none (parrelref27_words_ok c r h) rfl rfl

/-- parrel/parrelref27.signed -/

def parrelref27_signed_v (r : (List UInt8)) : LV := .str r

def parrelref27_signed (x_n : Int) : Option ((List UInt8)) :=
  if ((decide (x_n < 0)) : Bool) then
    some ([45, 49] : List UInt8)
  else
    (parrelref27_digits (IntKind.wrap .u64 x_n)).bind fun y3 =>
    some y3

theorem parrelref27_signed_ok (x_n : Int) (r : (List UInt8)) (h : parrelref27_signed x_n = some r) : ∀ σ, Inj 0 σ → FnTri Tryd.prog 26 (renL σ [.int .i64 x_n]) (preOf σ 0 []) ((parrelref27_signed_v r).ren σ) (upOf σ []) := by
  refine fn_of Tryd.func26 (by kernel_rfl) (by kernel_rfl) (by kernel_rfl) trivial (by kernel_rfl) trivial (by kernel_rfl) ?_
  intro w0 W μ0 hμ
  unfold parrelref27_signed at h
  rcases itb_some h with ⟨c1, h⟩ | ⟨c1, h⟩
  · skip
    obtain rfl := Option.some.inj h
    exact run_ret mixed (L := []) (n := 20) (s := [.reg [], .reg [(1, hT)], .reg []])
      (a_ (a_ (r1_ tr) (a_ (r1_ (f_ c1 tr)) (a_ (r1_ tr) tr))) tr) (by kernel_rfl) rfl
  · skip
    obtain ⟨y3, e2, h⟩ := bind_some h
    obtain rfl := Option.some.inj h
    exact run_ret mixed (L := []) (n := 21) (s := [.reg [], .reg [(1, hF)], .reg [(2, hC (parrelref27_digits_v y3))]])
      (a_ (a_ (r1_ tr) (a_ (r1_ (f_ c1 tr)) (a_ (r2_ (a_ (a_ (a_ (parrelref27_digits_tri (IntKind.wrap .u64 x_n) y3 e2) tr) tr) (r1_ tr))) tr))) tr) (by kernel_rfl) rfl

theorem parrelref27_signed_tri (x_n : Int) (r : (List UInt8)) (h : parrelref27_signed x_n = some r) : FnTri Tryd.prog 26 [.int .i64 x_n] [] (parrelref27_signed_v r) [] := FnTri.none (parrelref27_signed_ok x_n r h) rfl rfl

/-- parrel/parrelref27.Line -/

def parrelref27_Line_v (r : (List UInt8) × (Int)) : LV := .tup [.str r.1, .int .i64 r.2]

def parrelref27_Line_T1000006 (s : T_parrelref27_Step) (y5 : (List UInt8))  : List LV := [.any, .ptr 0 0 0, .any, .any, .str y5, .any, .any, .any, .any, .any, .any, .any, .any, .any, .any, .any, .any, .any, .any, .any, .any, .any, .any, .any, .any, .any, .any, .any, .any, .any, .any, .any, .any, .any, .any, .any, .any, .any, .any, .any, .any, .any, .any, .any, .any, .any, .any, .any, .any, .any, .any, .any, .any, .any, .any, .any, .any, .any, .any, .any, .any, .any, .any, .any, .any, .any, .any, .any, .any, .any, .any, .any, .any, .any, .any, .any, .any, .any, .any, .any, .any, .any, .any, .any, .any, .any, .any, .any, .any, .any, .any, .any, .any, .any, .any, .any, .any, .any, .any, .any, .any, .any, .any, .any, .any, .any, .any, .any]

def parrelref27_Line_H1000006 (s : T_parrelref27_Step) (y5 : (List UInt8))  : Heap := [some (.var (c_T_parrelref27_Step s))]

def parrelref27_Line_T1000007 (s : T_parrelref27_Step) (y5 : (List UInt8)) (y7 : (List UInt8))  : List LV := [.any, .ptr 0 0 0, .any, .any, .str y5, .str y7, .any, .any, .any, .any, .any, .any, .any, .any, .any, .any, .any, .any, .any, .int .u8 s.f_Kind, .any, .any, .any, .any, .any, .any, .any, .any, .any, .any, .any, .any, .any, .any, .any, .any, .any, .any, .any, .any, .any, .any, .any, .any, .any, .any, .any, .any, .any, .any, .any, .any, .any, .any, .any, .any, .any, .any, .any, .any, .any, .any, .any, .any, .any, .any, .any, .any, .any, .any, .any, .any, .any, .any, .any, .any, .any, .any, .any, .any, .any, .any, .any, .any, .any, .any, .any, .any, .any, .any, .any, .any, .any, .any, .any, .any, .any, .any, .any, .any, .any, .any, .any, .any, .any, .any, .any, .any]

def parrelref27_Line_H1000007 (s : T_parrelref27_Step) (y5 : (List UInt8)) (y7 : (List UInt8))  : Heap := [some (.var (c_T_parrelref27_Step s))]

def parrelref27_Line_c6 (s : T_parrelref27_Step) (y5 : (List UInt8))   : Option ((List UInt8) × (Int)) :=
  if (([100, 111, 32] : List UInt8)).length + (y5).length ≤ 9223372036854775807 then
  if ((([100, 111, 32] : List UInt8) ++ y5)).length + (([32] : List UInt8)).length ≤ 9223372036854775807 then
  (parrelref27_digits (IntKind.wrap .u64 s.f_Call.f_Client)).bind fun yC6_4 =>
  if (((([100, 111, 32] : List UInt8) ++ y5) ++ ([32] : List UInt8))).length + (yC6_4).length ≤ 9223372036854775807 then
  if ((((([100, 111, 32] : List UInt8) ++ y5) ++ ([32] : List UInt8)) ++ yC6_4)).length + (([32] : List UInt8)).length ≤ 9223372036854775807 then
  (parrelref27_digits (IntKind.wrap .u64 s.f_Call.f_Seq)).bind fun yC6_8 =>
  if (((((([100, 111, 32] : List UInt8) ++ y5) ++ ([32] : List UInt8)) ++ yC6_4) ++ ([32] : List UInt8))).length + (yC6_8).length ≤ 9223372036854775807 then
  if ((((((([100, 111, 32] : List UInt8) ++ y5) ++ ([32] : List UInt8)) ++ yC6_4) ++ ([32] : List UInt8)) ++ yC6_8)).length + (([32] : List UInt8)).length ≤ 9223372036854775807 then
  (parrelref27_words s.f_Call).bind fun yC6_12 =>
  if (((((((([100, 111, 32] : List UInt8) ++ y5) ++ ([32] : List UInt8)) ++ yC6_4) ++ ([32] : List UInt8)) ++ yC6_8) ++ ([32] : List UInt8))).length + (yC6_12).length ≤ 9223372036854775807 then
  some ((((((((([100, 111, 32] : List UInt8) ++ y5) ++ ([32] : List UInt8)) ++ yC6_4) ++ ([32] : List UInt8)) ++ yC6_8) ++ ([32] : List UInt8)) ++ yC6_12), 0)
  else none
  else none
  else none
  else none
  else none
  else none
  else none

def parrelref27_Line_c7 (s : T_parrelref27_Step) (y5 : (List UInt8)) (y7 : (List UInt8))   : Option ((List UInt8) × (Int)) :=
  if ((s.f_Kind == 2) : Bool) then
    if (([100, 101, 108, 105, 118, 101, 114, 32] : List UInt8)).length + (y7).length ≤ 9223372036854775807 then
    some ((([100, 101, 108, 105, 118, 101, 114, 32] : List UInt8) ++ y7), 0)
    else none
  else
    if ((s.f_Kind == 3) : Bool) then
      if (([100, 114, 111, 112, 32] : List UInt8)).length + (y7).length ≤ 9223372036854775807 then
      some ((([100, 114, 111, 112, 32] : List UInt8) ++ y7), 0)
      else none
    else
      if ((s.f_Kind == 4) : Bool) then
        if (([116, 119, 105, 99, 101, 32] : List UInt8)).length + (y7).length ≤ 9223372036854775807 then
        some ((([116, 119, 105, 99, 101, 32] : List UInt8) ++ y7), 0)
        else none
      else
        if ((s.f_Kind == 5) : Bool) then
          if (([108, 97, 116, 101, 32] : List UInt8)).length + (y7).length ≤ 9223372036854775807 then
          some ((([108, 97, 116, 101, 32] : List UInt8) ++ y7), 0)
          else none
        else
          if ((s.f_Kind == 6) : Bool) then
            if (([116, 105, 99, 107, 32] : List UInt8)).length + (y5).length ≤ 9223372036854775807 then
            some ((([116, 105, 99, 107, 32] : List UInt8) ++ y5), 0)
            else none
          else
            if ((s.f_Kind == 7) : Bool) then
              if (([99, 114, 97, 115, 104, 32] : List UInt8)).length + (y5).length ≤ 9223372036854775807 then
              some ((([99, 114, 97, 115, 104, 32] : List UInt8) ++ y5), 0)
              else none
            else
              if ((s.f_Kind == 8) : Bool) then
                if (s.f_Cut : Bool) then
                  if (([115, 116, 97, 114, 116, 32] : List UInt8)).length + (y5).length ≤ 9223372036854775807 then
                  if ((([115, 116, 97, 114, 116, 32] : List UInt8) ++ y5)).length + (([32] : List UInt8)).length ≤ 9223372036854775807 then
                  (parrelref27_signed s.f_N).bind fun yC7_12 =>
                  if (((([115, 116, 97, 114, 116, 32] : List UInt8) ++ y5) ++ ([32] : List UInt8))).length + (yC7_12).length ≤ 9223372036854775807 then
                  if ((((([115, 116, 97, 114, 116, 32] : List UInt8) ++ y5) ++ ([32] : List UInt8)) ++ yC7_12)).length + (([32, 99, 117, 116, 32] : List UInt8)).length ≤ 9223372036854775807 then
                  (parrelref27_hex (strI s.f_Bytes)).bind fun yC7_16 =>
                  if (((((([115, 116, 97, 114, 116, 32] : List UInt8) ++ y5) ++ ([32] : List UInt8)) ++ yC7_12) ++ ([32, 99, 117, 116, 32] : List UInt8))).length + (yC7_16).length ≤ 9223372036854775807 then
                  some ((((((([115, 116, 97, 114, 116, 32] : List UInt8) ++ y5) ++ ([32] : List UInt8)) ++ yC7_12) ++ ([32, 99, 117, 116, 32] : List UInt8)) ++ yC7_16), 0)
                  else none
                  else none
                  else none
                  else none
                  else none
                else
                  if (([115, 116, 97, 114, 116, 32] : List UInt8)).length + (y5).length ≤ 9223372036854775807 then
                  if ((([115, 116, 97, 114, 116, 32] : List UInt8) ++ y5)).length + (([32] : List UInt8)).length ≤ 9223372036854775807 then
                  (parrelref27_signed s.f_N).bind fun yC7_12 =>
                  if (((([115, 116, 97, 114, 116, 32] : List UInt8) ++ y5) ++ ([32] : List UInt8))).length + (yC7_12).length ≤ 9223372036854775807 then
                  if ((((([115, 116, 97, 114, 116, 32] : List UInt8) ++ y5) ++ ([32] : List UInt8)) ++ yC7_12)).length + (([32, 119, 104, 111, 108, 101, 32] : List UInt8)).length ≤ 9223372036854775807 then
                  (parrelref27_hex (strI s.f_Bytes)).bind fun yC7_16 =>
                  if (((((([115, 116, 97, 114, 116, 32] : List UInt8) ++ y5) ++ ([32] : List UInt8)) ++ yC7_12) ++ ([32, 119, 104, 111, 108, 101, 32] : List UInt8))).length + (yC7_16).length ≤ 9223372036854775807 then
                  some ((((((([115, 116, 97, 114, 116, 32] : List UInt8) ++ y5) ++ ([32] : List UInt8)) ++ yC7_12) ++ ([32, 119, 104, 111, 108, 101, 32] : List UInt8)) ++ yC7_16), 0)
                  else none
                  else none
                  else none
                  else none
                  else none
              else
                if ((s.f_Kind == 9) : Bool) then
                  if (([97, 114, 109, 32] : List UInt8)).length + (y5).length ≤ 9223372036854775807 then
                  if ((([97, 114, 109, 32] : List UInt8) ++ y5)).length + (([32] : List UInt8)).length ≤ 9223372036854775807 then
                  (parrelref27_signed s.f_N).bind fun yC7_12 =>
                  if (((([97, 114, 109, 32] : List UInt8) ++ y5) ++ ([32] : List UInt8))).length + (yC7_12).length ≤ 9223372036854775807 then
                  some ((((([97, 114, 109, 32] : List UInt8) ++ y5) ++ ([32] : List UInt8)) ++ yC7_12), 0)
                  else none
                  else none
                  else none
                else
                  if (([105, 110, 106, 101, 99, 116, 32] : List UInt8)).length + (y5).length ≤ 9223372036854775807 then
                  if ((([105, 110, 106, 101, 99, 116, 32] : List UInt8) ++ y5)).length + (([32] : List UInt8)).length ≤ 9223372036854775807 then
                  (parrelref27_digits (IntKind.wrap .u64 s.f_To)).bind fun yC7_12 =>
                  if (((([105, 110, 106, 101, 99, 116, 32] : List UInt8) ++ y5) ++ ([32] : List UInt8))).length + (yC7_12).length ≤ 9223372036854775807 then
                  if ((((([105, 110, 106, 101, 99, 116, 32] : List UInt8) ++ y5) ++ ([32] : List UInt8)) ++ yC7_12)).length + (([32] : List UInt8)).length ≤ 9223372036854775807 then
                  (parrelref27_hex (strI s.f_Bytes)).bind fun yC7_16 =>
                  if (((((([105, 110, 106, 101, 99, 116, 32] : List UInt8) ++ y5) ++ ([32] : List UInt8)) ++ yC7_12) ++ ([32] : List UInt8))).length + (yC7_16).length ≤ 9223372036854775807 then
                  some ((((((([105, 110, 106, 101, 99, 116, 32] : List UInt8) ++ y5) ++ ([32] : List UInt8)) ++ yC7_12) ++ ([32] : List UInt8)) ++ yC7_16), 0)
                  else none
                  else none
                  else none
                  else none
                  else none

def parrelref27_Line (s : T_parrelref27_Step) : Option ((List UInt8) × (Int)) :=
  (parrelref27_May s).bind fun y2 =>
  if ((!y2) : Bool) then
    some ([], 1)
  else
    (parrelref27_digits (IntKind.wrap .u64 s.f_Node)).bind fun y5 =>
    (parrelref27_digits (IntKind.wrap .u64 s.f_Wire)).bind fun y7 =>
    if ((s.f_Kind == 1) : Bool) then
      parrelref27_Line_c6 s y5  
    else
      parrelref27_Line_c7 s y5 y7  

theorem parrelref27_Line_c6_ok {w0 : World} {W : Nat → Prop} {μ0 : Emb} (hμ : ∀ c p, μ0 c = some p → c < 0) (s : T_parrelref27_Step) (y5 : (List UInt8))   (r : (List UInt8) × (Int)) (h : parrelref27_Line_c6 s y5   = some r) : kont Tryd.prog w0 W μ0 (FnPost Tryd.prog Tryd.f11 0 0 (parrelref27_Line_v r) []) (kAtR (bodyOf Tryd.f11) 6) none (parrelref27_Line_T1000006 s y5 ) (parrelref27_Line_H1000006 s y5 ) := by
  unfold parrelref27_Line_c6 at h
  obtain ⟨gC6_1, h⟩ := guard_some h
  obtain ⟨gC6_2, h⟩ := guard_some h
  obtain ⟨yC6_4, eC6_3, h⟩ := bind_some h
  obtain ⟨gC6_5, h⟩ := guard_some h
  obtain ⟨gC6_6, h⟩ := guard_some h
  obtain ⟨yC6_8, eC6_7, h⟩ := bind_some h
  obtain ⟨gC6_9, h⟩ := guard_some h
  obtain ⟨gC6_10, h⟩ := guard_some h
  obtain ⟨yC6_12, eC6_11, h⟩ := bind_some h
  obtain ⟨gC6_13, h⟩ := guard_some h
  obtain rfl := Option.some.inj h
  exact run_ret mixed (L := []) (n := 11) (s := [.reg [(7, hC (parrelref27_digits_v yC6_4)), (14, hC (parrelref27_digits_v yC6_8)), (19, hC (parrelref27_words_v yC6_12))]])
    (a_ (a_ (r1_ (a_ (a_ gC6_1 tr) (a_ (a_ gC6_2 tr) (r2_ (l_ 5 25 rfl (r1_ (a_ (a_ (a_ (parrelref27_digits_tri (IntKind.wrap .u64 s.f_Call.f_Client) yC6_4 eC6_3) tr) tr) (a_ (a_ gC6_5 tr) (a_ (a_ gC6_6 tr) (r2_ (l_ 6 25 rfl (r1_ (a_ (a_ (a_ (parrelref27_digits_tri (IntKind.wrap .u64 s.f_Call.f_Seq) yC6_8 eC6_7) tr) tr) (a_ (a_ gC6_9 tr) (a_ (a_ gC6_10 tr) (r1_ (m_ 23 25 rfl (c_ (parrelref27_words_tri s.f_Call yC6_12 eC6_11) (a_ (a_ gC6_13 tr) (r2_ tr)))))))))))))))))))) tr) tr) (by kernel_rfl) rfl

theorem parrelref27_Line_c7_ok {w0 : World} {W : Nat → Prop} {μ0 : Emb} (hμ : ∀ c p, μ0 c = some p → c < 0) (s : T_parrelref27_Step) (y5 : (List UInt8)) (y7 : (List UInt8))   (r : (List UInt8) × (Int)) (h : parrelref27_Line_c7 s y5 y7   = some r) : kont Tryd.prog w0 W μ0 (FnPost Tryd.prog Tryd.f11 0 0 (parrelref27_Line_v r) []) (kAtR (bodyOf Tryd.f11) 7) none (parrelref27_Line_T1000007 s y5 y7 ) (parrelref27_Line_H1000007 s y5 y7 ) := by
  unfold parrelref27_Line_c7 at h
  rcases itb_some h with ⟨cC7_1, h⟩ | ⟨cC7_1, h⟩
  · skip
    obtain ⟨gC7_2, h⟩ := guard_some h
    obtain rfl := Option.some.inj h
    exact run_ret mixed (L := []) (n := 15) (s := [.reg [(1, hT)], .reg []])
      (a_ (a_ (r1_ (f_ cC7_1 tr)) (a_ (r1_ (a_ (a_ gC7_2 tr) (r2_ tr))) tr)) tr) (by kernel_rfl) rfl
  · skip
    rcases itb_some h with ⟨cC7_2, h⟩ | ⟨cC7_2, h⟩
    · skip
      obtain ⟨gC7_3, h⟩ := guard_some h
      obtain rfl := Option.some.inj h
      exact run_ret mixed (L := []) (n := 19) (s := [.reg [(1, hF)], .reg [(1, hT)], .reg []])
        (a_ (a_ (r1_ (f_ cC7_1 tr)) (a_ (r1_ (f_ cC7_2 tr)) (a_ (r1_ (a_ (a_ gC7_3 tr) (r2_ tr))) tr))) tr) (by kernel_rfl) rfl
    · skip
      rcases itb_some h with ⟨cC7_3, h⟩ | ⟨cC7_3, h⟩
      · skip
        obtain ⟨gC7_4, h⟩ := guard_some h
        obtain rfl := Option.some.inj h
        exact run_ret mixed (L := []) (n := 23) (s := [.reg [(1, hF)], .reg [(1, hF)], .reg [(1, hT)], .reg []])
          (a_ (a_ (r1_ (f_ cC7_1 tr)) (a_ (r1_ (f_ cC7_2 tr)) (a_ (r1_ (f_ cC7_3 tr)) (a_ (r1_ (a_ (a_ gC7_4 tr) (r2_ tr))) tr)))) tr) (by kernel_rfl) rfl
      · skip
        rcases itb_some h with ⟨cC7_4, h⟩ | ⟨cC7_4, h⟩
        · skip
          obtain ⟨gC7_5, h⟩ := guard_some h
          obtain rfl := Option.some.inj h
          exact run_ret mixed (L := []) (n := 27) (s := [.reg [(1, hF)], .reg [(1, hF)], .reg [(1, hF)], .reg [(1, hT)], .reg []])
            (a_ (a_ (r1_ (f_ cC7_1 tr)) (a_ (r1_ (f_ cC7_2 tr)) (a_ (r1_ (f_ cC7_3 tr)) (a_ (r1_ (f_ cC7_4 tr)) (a_ (r1_ (a_ (a_ gC7_5 tr) (r2_ tr))) tr))))) tr) (by kernel_rfl) rfl
        · skip
          rcases itb_some h with ⟨cC7_5, h⟩ | ⟨cC7_5, h⟩
          · skip
            obtain ⟨gC7_6, h⟩ := guard_some h
            obtain rfl := Option.some.inj h
            exact run_ret mixed (L := []) (n := 31) (s := [.reg [(1, hF)], .reg [(1, hF)], .reg [(1, hF)], .reg [(1, hF)], .reg [(1, hT)], .reg []])
              (a_ (a_ (r1_ (f_ cC7_1 tr)) (a_ (r1_ (f_ cC7_2 tr)) (a_ (r1_ (f_ cC7_3 tr)) (a_ (r1_ (f_ cC7_4 tr)) (a_ (r1_ (f_ cC7_5 tr)) (a_ (r1_ (a_ (a_ gC7_6 tr) (r2_ tr))) tr)))))) tr) (by kernel_rfl) rfl
          · skip
            rcases itb_some h with ⟨cC7_6, h⟩ | ⟨cC7_6, h⟩
            · skip
              obtain ⟨gC7_7, h⟩ := guard_some h
              obtain rfl := Option.some.inj h
              exact run_ret mixed (L := []) (n := 35) (s := [.reg [(1, hF)], .reg [(1, hF)], .reg [(1, hF)], .reg [(1, hF)], .reg [(1, hF)], .reg [(1, hT)], .reg []])
                (a_ (a_ (r1_ (f_ cC7_1 tr)) (a_ (r1_ (f_ cC7_2 tr)) (a_ (r1_ (f_ cC7_3 tr)) (a_ (r1_ (f_ cC7_4 tr)) (a_ (r1_ (f_ cC7_5 tr)) (a_ (r1_ (f_ cC7_6 tr)) (a_ (r1_ (a_ (a_ gC7_7 tr) (r2_ tr))) tr))))))) tr) (by kernel_rfl) rfl
            · skip
              rcases itb_some h with ⟨cC7_7, h⟩ | ⟨cC7_7, h⟩
              · skip
                rcases itb_some h with ⟨cC7_8, h⟩ | ⟨cC7_8, h⟩
                · skip
                  obtain ⟨gC7_9, h⟩ := guard_some h
                  obtain ⟨gC7_10, h⟩ := guard_some h
                  obtain ⟨yC7_12, eC7_11, h⟩ := bind_some h
                  obtain ⟨gC7_13, h⟩ := guard_some h
                  obtain ⟨gC7_14, h⟩ := guard_some h
                  obtain ⟨yC7_16, eC7_15, h⟩ := bind_some h
                  obtain ⟨gC7_17, h⟩ := guard_some h
                  obtain rfl := Option.some.inj h
                  exact run_ret mixed (L := []) (n := 49) (s := [.reg [(1, hF)], .reg [(1, hF)], .reg [(1, hF)], .reg [(1, hF)], .reg [(1, hF)], .reg [(1, hF)], .reg [(1, hT)], .reg [], .reg [(1, hT)], .reg [], .reg [(5, hC (parrelref27_signed_v yC7_12)), (11, { v := some (.str (strI s.f_Bytes)) }), (12, hC (parrelref27_hex_v yC7_16))]])
                    (a_ (a_ (r1_ (f_ cC7_1 tr)) (a_ (r1_ (f_ cC7_2 tr)) (a_ (r1_ (f_ cC7_3 tr)) (a_ (r1_ (f_ cC7_4 tr)) (a_ (r1_ (f_ cC7_5 tr)) (a_ (r1_ (f_ cC7_6 tr)) (a_ (r1_ (f_ cC7_7 tr)) (a_ (r1_ tr) (a_ (r1_ (a_ (a_ (a_ tr (lt_ 4 25 rfl)) (a_ (leB cC7_8) tr)) tr)) (a_ (r1_ tr) (a_ (r1_ (a_ (a_ gC7_9 tr) (a_ (a_ gC7_10 tr) (r1_ (l_ 3 25 rfl (c_ (parrelref27_signed_tri s.f_N yC7_12 eC7_11) (a_ (a_ gC7_13 tr) (r1_ (a_ (a_ gC7_14 tr) (r1_ (l_ 24 25 rfl (a_ (a_ (a_ (Eq.refl 1) (str_ob s.f_Bytes)) (a_ (le_str s.f_Bytes) tr)) (a_ (a_ (a_ (parrelref27_hex_tri (strI s.f_Bytes) yC7_16 eC7_15) tr) tr) (a_ (a_ gC7_17 tr) (r2_ tr))))))))))))))) tr))))))))))) tr) (by kernel_rfl) rfl
                · skip
                  obtain ⟨gC7_9, h⟩ := guard_some h
                  obtain ⟨gC7_10, h⟩ := guard_some h
                  obtain ⟨yC7_12, eC7_11, h⟩ := bind_some h
                  obtain ⟨gC7_13, h⟩ := guard_some h
                  obtain ⟨gC7_14, h⟩ := guard_some h
                  obtain ⟨yC7_16, eC7_15, h⟩ := bind_some h
                  obtain ⟨gC7_17, h⟩ := guard_some h
                  obtain rfl := Option.some.inj h
                  exact run_ret mixed (L := []) (n := 48) (s := [.reg [(1, hF)], .reg [(1, hF)], .reg [(1, hF)], .reg [(1, hF)], .reg [(1, hF)], .reg [(1, hF)], .reg [(1, hT)], .reg [], .reg [(1, hF)], .reg [(5, hC (parrelref27_signed_v yC7_12)), (11, { v := some (.str (strI s.f_Bytes)) }), (12, hC (parrelref27_hex_v yC7_16))]])
                    (a_ (a_ (r1_ (f_ cC7_1 tr)) (a_ (r1_ (f_ cC7_2 tr)) (a_ (r1_ (f_ cC7_3 tr)) (a_ (r1_ (f_ cC7_4 tr)) (a_ (r1_ (f_ cC7_5 tr)) (a_ (r1_ (f_ cC7_6 tr)) (a_ (r1_ (f_ cC7_7 tr)) (a_ (r1_ tr) (a_ (r1_ (a_ (a_ (a_ tr (lt_ 4 25 rfl)) (a_ (leB cC7_8) tr)) tr)) (a_ (r1_ (a_ (a_ gC7_9 tr) (a_ (a_ gC7_10 tr) (r1_ (l_ 3 25 rfl (c_ (parrelref27_signed_tri s.f_N yC7_12 eC7_11) (a_ (a_ gC7_13 tr) (r1_ (a_ (a_ gC7_14 tr) (r1_ (l_ 24 25 rfl (a_ (a_ (a_ (Eq.refl 1) (str_ob s.f_Bytes)) (a_ (le_str s.f_Bytes) tr)) (a_ (a_ (a_ (parrelref27_hex_tri (strI s.f_Bytes) yC7_16 eC7_15) tr) tr) (a_ (a_ gC7_17 tr) (r2_ tr))))))))))))))) tr)))))))))) tr) (by kernel_rfl) rfl
              · skip
                rcases itb_some h with ⟨cC7_8, h⟩ | ⟨cC7_8, h⟩
                · skip
                  obtain ⟨gC7_9, h⟩ := guard_some h
                  obtain ⟨gC7_10, h⟩ := guard_some h
                  obtain ⟨yC7_12, eC7_11, h⟩ := bind_some h
                  obtain ⟨gC7_13, h⟩ := guard_some h
                  obtain rfl := Option.some.inj h
                  exact run_ret mixed (L := []) (n := 43) (s := [.reg [(1, hF)], .reg [(1, hF)], .reg [(1, hF)], .reg [(1, hF)], .reg [(1, hF)], .reg [(1, hF)], .reg [(1, hF)], .reg [(1, hT)], .reg [(5, hC (parrelref27_signed_v yC7_12))]])
                    (a_ (a_ (r1_ (f_ cC7_1 tr)) (a_ (r1_ (f_ cC7_2 tr)) (a_ (r1_ (f_ cC7_3 tr)) (a_ (r1_ (f_ cC7_4 tr)) (a_ (r1_ (f_ cC7_5 tr)) (a_ (r1_ (f_ cC7_6 tr)) (a_ (r1_ (f_ cC7_7 tr)) (a_ (r1_ (f_ cC7_8 tr)) (a_ (r1_ (a_ (a_ gC7_9 tr) (a_ (a_ gC7_10 tr) (r1_ (l_ 3 25 rfl (c_ (parrelref27_signed_tri s.f_N yC7_12 eC7_11) (a_ (a_ gC7_13 tr) (r2_ tr)))))))) tr))))))))) tr) (by kernel_rfl) rfl
                · skip
                  obtain ⟨gC7_9, h⟩ := guard_some h
                  obtain ⟨gC7_10, h⟩ := guard_some h
                  obtain ⟨yC7_12, eC7_11, h⟩ := bind_some h
                  obtain ⟨gC7_13, h⟩ := guard_some h
                  obtain ⟨gC7_14, h⟩ := guard_some h
                  obtain ⟨yC7_16, eC7_15, h⟩ := bind_some h
                  obtain ⟨gC7_17, h⟩ := guard_some h
                  obtain rfl := Option.some.inj h
                  exact run_ret mixed (L := []) (n := 45) (s := [.reg [(1, hF)], .reg [(1, hF)], .reg [(1, hF)], .reg [(1, hF)], .reg [(1, hF)], .reg [(1, hF)], .reg [(1, hF)], .reg [(1, hF)], .reg [(6, hC (parrelref27_digits_v yC7_12)), (11, { v := some (.str (strI s.f_Bytes)) }), (12, hC (parrelref27_hex_v yC7_16))]])
                    (a_ (a_ (r1_ (f_ cC7_1 tr)) (a_ (r1_ (f_ cC7_2 tr)) (a_ (r1_ (f_ cC7_3 tr)) (a_ (r1_ (f_ cC7_4 tr)) (a_ (r1_ (f_ cC7_5 tr)) (a_ (r1_ (f_ cC7_6 tr)) (a_ (r1_ (f_ cC7_7 tr)) (a_ (r1_ (f_ cC7_8 tr)) (a_ (r1_ (a_ (a_ gC7_9 tr) (a_ (a_ gC7_10 tr) (r1_ (l_ 23 25 rfl (r1_ (a_ (a_ (a_ (parrelref27_digits_tri (IntKind.wrap .u64 s.f_To) yC7_12 eC7_11) tr) tr) (a_ (a_ gC7_13 tr) (a_ (a_ gC7_14 tr) (r1_ (l_ 24 25 rfl (a_ (a_ (a_ (Eq.refl 1) (str_ob s.f_Bytes)) (a_ (le_str s.f_Bytes) tr)) (a_ (a_ (a_ (parrelref27_hex_tri (strI s.f_Bytes) yC7_16 eC7_15) tr) tr) (a_ (a_ gC7_17 tr) (r2_ tr))))))))))))))) tr))))))))) tr) (by kernel_rfl) rfl

theorem parrelref27_Line_ok (s : T_parrelref27_Step) (r : (List UInt8) × (Int)) (h : parrelref27_Line s = some r) : ∀ σ, Inj 0 σ → FnTri Tryd.prog 11 (renL σ [v_T_parrelref27_Step s]) (preOf σ 0 []) ((parrelref27_Line_v r).ren σ) (upOf σ []) := by
  refine fn_of Tryd.func11 (by kernel_rfl) (by kernel_rfl) (by kernel_rfl) trivial (by kernel_rfl) trivial (by kernel_rfl) ?_
  intro w0 W μ0 hμ
  unfold parrelref27_Line at h
  obtain ⟨y2, e1, h⟩ := bind_some h
  rcases itb_some h with ⟨c3, h⟩ | ⟨c3, h⟩
  · skip
    obtain rfl := Option.some.inj h
    exact run_ret mixed (L := []) (n := 20) (s := [.reg [], .reg [(1, hC (parrelref27_May_v y2)), (2, hT)], .reg []])
      (a_ (a_ (r1_ (r2_ tr)) (a_ (m_ 25 25 rfl (c_ (parrelref27_May_tri s y2 e1) (f_ c3 tr))) (a_ (r2_ tr) tr))) tr) (by kernel_rfl) rfl
  · skip
    obtain ⟨y5, e4, h⟩ := bind_some h
    obtain ⟨y7, e6, h⟩ := bind_some h
    rcases itb_some h with ⟨c8, h⟩ | ⟨c8, h⟩
    · skip
      exact run_to mixed hμ (L := [0]) (n := 31) (s := [.reg [], .reg [(1, hC (parrelref27_May_v y2)), (2, hF)], .reg [(3, hC (parrelref27_digits_v y5)), (7, hC (parrelref27_digits_v y7))], .reg [], .reg [(1, hT)]])
        (a_ (r1_ (r2_ tr)) (a_ (m_ 25 25 rfl (c_ (parrelref27_May_tri s y2 e1) (f_ c3 tr))) (a_ (r1_ (l_ 1 25 rfl (r1_ (a_ (a_ (a_ (parrelref27_digits_tri (IntKind.wrap .u64 s.f_Node) y5 e4) tr) tr) (r1_ (l_ 2 25 rfl (r1_ (a_ (a_ (a_ (parrelref27_digits_tri (IntKind.wrap .u64 s.f_Wire) y7 e6) tr) tr) (r2_ tr))))))))) (a_ (r1_ (l_ 0 25 rfl tr)) (a_ (r1_ (f_ c8 tr)) tr))))) (parrelref27_Line_c6_ok hμ s y5   r h) (by kernel_rfl) ⟨rfl, trivial⟩
    · skip
      exact run_to mixed hμ (L := [0]) (n := 31) (s := [.reg [], .reg [(1, hC (parrelref27_May_v y2)), (2, hF)], .reg [(3, hC (parrelref27_digits_v y5)), (7, hC (parrelref27_digits_v y7))], .reg [], .reg [(1, hF)]])
        (a_ (r1_ (r2_ tr)) (a_ (m_ 25 25 rfl (c_ (parrelref27_May_tri s y2 e1) (f_ c3 tr))) (a_ (r1_ (l_ 1 25 rfl (r1_ (a_ (a_ (a_ (parrelref27_digits_tri (IntKind.wrap .u64 s.f_Node) y5 e4) tr) tr) (r1_ (l_ 2 25 rfl (r1_ (a_ (a_ (a_ (parrelref27_digits_tri (IntKind.wrap .u64 s.f_Wire) y7 e6) tr) tr) (r2_ tr))))))))) (a_ (r1_ (l_ 0 25 rfl tr)) (a_ (r1_ (f_ c8 tr)) tr))))) (parrelref27_Line_c7_ok hμ s y5 y7   r h) (by kernel_rfl) ⟨rfl, trivial⟩

theorem parrelref27_Line_tri (s : T_parrelref27_Step) (r : (List UInt8) × (Int)) (h : parrelref27_Line s = some r) : FnTri Tryd.prog 11 [v_T_parrelref27_Step s] [] (parrelref27_Line_v r) [] := FnTri.none (parrelref27_Line_ok s r h) rfl rfl

/-- parrel/parrellaw27.ScriptLines -/

def parrellaw27_ScriptLines_v (r : (Bool)) : LV := .bool r

def parrellaw27_ScriptLines_T1000005 (a : T_parrelref27_Step) (b : T_parrelref27_Step) (y11 : (List UInt8) × (Int)) (y13 : (List UInt8) × (Int))  : List LV := [.any, .any, .ptr 0 0 0, .ptr 1 0 0, .any, .str y11.1, .int .i64 y11.2, .str y13.1, .int .i64 y13.2, .any, .any, .any, .any, .any, .any, .any, .any, .any, .any, .any, .any, .any, .any, .any, .any, .any, .any, .any, .any, .any, .any, .any, .any, .any, .any, .any, .any, .any, .any, .any, .any, .any, .any, .any, .any, .any, .any, .any, .any, .any, .any, .any, .any, .any, .any, .any, .any]

def parrellaw27_ScriptLines_H1000005 (a : T_parrelref27_Step) (b : T_parrelref27_Step) (y11 : (List UInt8) × (Int)) (y13 : (List UInt8) × (Int))  : Heap := [some (.var (c_T_parrelref27_Step a)), some (.var (c_T_parrelref27_Step b))]

def parrellaw27_ScriptLines_c5 (a : T_parrelref27_Step) (b : T_parrelref27_Step) (y11 : (List UInt8) × (Int)) (y13 : (List UInt8) × (Int))   : Option ((Bool)) :=
  (parrellaw27_theirs a).bind fun yC5_2 =>
  (script_May yC5_2).bind fun yC5_4 =>
  (parrelref27_May a).bind fun yC5_6 =>
  if ((yC5_4 == yC5_6) : Bool) then
    (parrellaw27_theirs a).bind fun yC5_9 =>
    (parrellaw27_theirs b).bind fun yC5_11 =>
    (script_Same yC5_9 yC5_11).bind fun yC5_13 =>
    (parrelref27_Same a b).bind fun yC5_15 =>
    if ((yC5_13 == yC5_15) : Bool) then
      if ((y11.1 == y13.1) : Bool) then
        if ((y11.2 == y13.2) : Bool) then
          (parrellaw27_alive).bind fun yC5_20 =>
          some yC5_20
        else
          some false
      else
        some false
    else
      some false
  else
    some false

def parrellaw27_ScriptLines (a : T_parrelref27_Step) (b : T_parrelref27_Step) : Option ((Bool)) :=
  (parrellaw27_long a).bind fun y2 =>
  if (y2 : Bool) then
    (parrellaw27_alive).bind fun y5 =>
    some y5
  else
    (parrellaw27_long b).bind fun y5 =>
    if (y5 : Bool) then
      (parrellaw27_alive).bind fun y8 =>
      some y8
    else
      (parrellaw27_theirs a).bind fun y9 =>
      (script_Line y9).bind fun y11 =>
      (parrelref27_Line a).bind fun y13 =>
      parrellaw27_ScriptLines_c5 a b y11 y13  

theorem parrellaw27_ScriptLines_c5_ok {w0 : World} {W : Nat → Prop} {μ0 : Emb} (hμ : ∀ c p, μ0 c = some p → c < 0) (a : T_parrelref27_Step) (b : T_parrelref27_Step) (y11 : (List UInt8) × (Int)) (y13 : (List UInt8) × (Int))   (r : (Bool)) (h : parrellaw27_ScriptLines_c5 a b y11 y13   = some r) : kont Tryd.prog w0 W μ0 (FnPost Tryd.prog Tryd.f3 0 0 (parrellaw27_ScriptLines_v r) []) (kAtR (bodyOf Tryd.f3) 5) none (parrellaw27_ScriptLines_T1000005 a b y11 y13 ) (parrellaw27_ScriptLines_H1000005 a b y11 y13 ) := by
  unfold parrellaw27_ScriptLines_c5 at h
  obtain ⟨yC5_2, eC5_1, h⟩ := bind_some h
  obtain ⟨yC5_4, eC5_3, h⟩ := bind_some h
  obtain ⟨yC5_6, eC5_5, h⟩ := bind_some h
  rcases itb_some h with ⟨cC5_7, h⟩ | ⟨cC5_7, h⟩
  · skip
    obtain ⟨yC5_9, eC5_8, h⟩ := bind_some h
    obtain ⟨yC5_11, eC5_10, h⟩ := bind_some h
    obtain ⟨yC5_13, eC5_12, h⟩ := bind_some h
    obtain ⟨yC5_15, eC5_14, h⟩ := bind_some h
    rcases itb_some h with ⟨cC5_16, h⟩ | ⟨cC5_16, h⟩
    · skip
      rcases itb_some h with ⟨cC5_17, h⟩ | ⟨cC5_17, h⟩
      · skip
        rcases itb_some h with ⟨cC5_18, h⟩ | ⟨cC5_18, h⟩
        · skip
          obtain ⟨yC5_20, eC5_19, h⟩ := bind_some h
          obtain rfl := Option.some.inj h
          exact run_ret mixed (L := []) (n := 11) (s := [.reg [(1, hC (parrellaw27_theirs_v yC5_2)), (2, hC (script_May_v yC5_4)), (4, hC (parrelref27_May_v yC5_6)), (6, hT), (8, hC (parrellaw27_theirs_v yC5_9)), (10, hC (parrellaw27_theirs_v yC5_11)), (11, hC (script_Same_v yC5_13)), (14, hC (parrelref27_Same_v yC5_15)), (17, hT), (22, hT), (27, hT), (28, hC (parrellaw27_alive_v yC5_20))]])
            (a_ (a_ (m_ 25 25 rfl (c_ (parrellaw27_theirs_tri a yC5_2 eC5_1) (c_ (script_May_tri yC5_2 yC5_4 eC5_3) (m_ 25 25 rfl (c_ (parrelref27_May_tri a yC5_6 eC5_5) (r1_ (f_ cC5_7 (m_ 25 25 rfl (c_ (parrellaw27_theirs_tri a yC5_9 eC5_8) (m_ 25 25 rfl (c_ (parrellaw27_theirs_tri b yC5_11 eC5_10) (c_ (script_Same_tri yC5_9 yC5_11 yC5_13 eC5_12) (m_ 25 25 rfl (m_ 25 25 rfl (c_ (parrelref27_Same_tri a b yC5_15 eC5_14) (r2_ (f_ cC5_16 (r4_ (f_ cC5_17 (r4_ (f_ cC5_18 (c_ (parrellaw27_alive_tri  yC5_20 eC5_19) (r2_ tr))))))))))))))))))))))) tr) tr) (by kernel_rfl) rfl
        · skip
          obtain rfl := Option.some.inj h
          exact run_ret mixed (L := []) (n := 11) (s := [.reg [(1, hC (parrellaw27_theirs_v yC5_2)), (2, hC (script_May_v yC5_4)), (4, hC (parrelref27_May_v yC5_6)), (6, hT), (8, hC (parrellaw27_theirs_v yC5_9)), (10, hC (parrellaw27_theirs_v yC5_11)), (11, hC (script_Same_v yC5_13)), (14, hC (parrelref27_Same_v yC5_15)), (17, hT), (22, hT), (27, hF)]])
            (a_ (a_ (m_ 25 25 rfl (c_ (parrellaw27_theirs_tri a yC5_2 eC5_1) (c_ (script_May_tri yC5_2 yC5_4 eC5_3) (m_ 25 25 rfl (c_ (parrelref27_May_tri a yC5_6 eC5_5) (r1_ (f_ cC5_7 (m_ 25 25 rfl (c_ (parrellaw27_theirs_tri a yC5_9 eC5_8) (m_ 25 25 rfl (c_ (parrellaw27_theirs_tri b yC5_11 eC5_10) (c_ (script_Same_tri yC5_9 yC5_11 yC5_13 eC5_12) (m_ 25 25 rfl (m_ 25 25 rfl (c_ (parrelref27_Same_tri a b yC5_15 eC5_14) (r2_ (f_ cC5_16 (r4_ (f_ cC5_17 (r4_ (f_ cC5_18 (a_ tr (r2_ tr))))))))))))))))))))))) tr) tr) (by kernel_rfl) rfl
      · skip
        obtain rfl := Option.some.inj h
        exact run_ret mixed (L := []) (n := 11) (s := [.reg [(1, hC (parrellaw27_theirs_v yC5_2)), (2, hC (script_May_v yC5_4)), (4, hC (parrelref27_May_v yC5_6)), (6, hT), (8, hC (parrellaw27_theirs_v yC5_9)), (10, hC (parrellaw27_theirs_v yC5_11)), (11, hC (script_Same_v yC5_13)), (14, hC (parrelref27_Same_v yC5_15)), (17, hT), (22, hF)]])
          (a_ (a_ (m_ 25 25 rfl (c_ (parrellaw27_theirs_tri a yC5_2 eC5_1) (c_ (script_May_tri yC5_2 yC5_4 eC5_3) (m_ 25 25 rfl (c_ (parrelref27_May_tri a yC5_6 eC5_5) (r1_ (f_ cC5_7 (m_ 25 25 rfl (c_ (parrellaw27_theirs_tri a yC5_9 eC5_8) (m_ 25 25 rfl (c_ (parrellaw27_theirs_tri b yC5_11 eC5_10) (c_ (script_Same_tri yC5_9 yC5_11 yC5_13 eC5_12) (m_ 25 25 rfl (m_ 25 25 rfl (c_ (parrelref27_Same_tri a b yC5_15 eC5_14) (r2_ (f_ cC5_16 (r4_ (f_ cC5_17 (a_ tr (t2_ (r2_ (a_ tr (r2_ tr)))))))))))))))))))))))) tr) tr) (by kernel_rfl) rfl
    · skip
      obtain rfl := Option.some.inj h
      exact run_ret mixed (L := []) (n := 11) (s := [.reg [(1, hC (parrellaw27_theirs_v yC5_2)), (2, hC (script_May_v yC5_4)), (4, hC (parrelref27_May_v yC5_6)), (6, hT), (8, hC (parrellaw27_theirs_v yC5_9)), (10, hC (parrellaw27_theirs_v yC5_11)), (11, hC (script_Same_v yC5_13)), (14, hC (parrelref27_Same_v yC5_15)), (17, hF)]])
        (a_ (a_ (m_ 25 25 rfl (c_ (parrellaw27_theirs_tri a yC5_2 eC5_1) (c_ (script_May_tri yC5_2 yC5_4 eC5_3) (m_ 25 25 rfl (c_ (parrelref27_May_tri a yC5_6 eC5_5) (r1_ (f_ cC5_7 (m_ 25 25 rfl (c_ (parrellaw27_theirs_tri a yC5_9 eC5_8) (m_ 25 25 rfl (c_ (parrellaw27_theirs_tri b yC5_11 eC5_10) (c_ (script_Same_tri yC5_9 yC5_11 yC5_13 eC5_12) (m_ 25 25 rfl (m_ 25 25 rfl (c_ (parrelref27_Same_tri a b yC5_15 eC5_14) (r2_ (f_ cC5_16 (a_ tr (t2_ (r2_ (a_ tr (t2_ (r2_ (a_ tr (r2_ tr))))))))))))))))))))))))) tr) tr) (by kernel_rfl) rfl
  · skip
    obtain rfl := Option.some.inj h
    exact run_ret mixed (L := []) (n := 11) (s := [.reg [(1, hC (parrellaw27_theirs_v yC5_2)), (2, hC (script_May_v yC5_4)), (4, hC (parrelref27_May_v yC5_6)), (6, hF)]])
      (a_ (a_ (m_ 25 25 rfl (c_ (parrellaw27_theirs_tri a yC5_2 eC5_1) (c_ (script_May_tri yC5_2 yC5_4 eC5_3) (m_ 25 25 rfl (c_ (parrelref27_May_tri a yC5_6 eC5_5) (r1_ (f_ cC5_7 (a_ tr (t8_ (r2_ (a_ tr (t2_ (r2_ (a_ tr (t2_ (r2_ (a_ tr (r2_ tr)))))))))))))))))) tr) tr) (by kernel_rfl) rfl

theorem parrellaw27_ScriptLines_ok (a : T_parrelref27_Step) (b : T_parrelref27_Step) (r : (Bool)) (h : parrellaw27_ScriptLines a b = some r) : ∀ σ, Inj 0 σ → FnTri Tryd.prog 3 (renL σ [v_T_parrelref27_Step a, v_T_parrelref27_Step b]) (preOf σ 0 []) ((parrellaw27_ScriptLines_v r).ren σ) (upOf σ []) := by
  refine fn_of Tryd.func3 (by kernel_rfl) (by kernel_rfl) (by kernel_rfl) trivial (by kernel_rfl) trivial (by kernel_rfl) ?_
  intro w0 W μ0 hμ
  unfold parrellaw27_ScriptLines at h
  obtain ⟨y2, e1, h⟩ := bind_some h
  rcases itb_some h with ⟨c3, h⟩ | ⟨c3, h⟩
  · skip
    obtain ⟨y5, e4, h⟩ := bind_some h
    obtain rfl := Option.some.inj h
    exact run_ret mixed (L := []) (n := 20) (s := [.reg [], .reg [(1, hC (parrellaw27_long_v y2)), (2, hT)], .reg [(0, hC (parrellaw27_alive_v y5))]])
      (a_ (a_ (r1_ (r2_ tr)) (a_ (m_ 25 25 rfl (c_ (parrellaw27_long_tri a y2 e1) (f_ c3 (t2_ (r1_ tr))))) (a_ (c_ (parrellaw27_alive_tri  y5 e4) (r1_ tr)) tr))) tr) (by kernel_rfl) rfl
  · skip
    obtain ⟨y5, e4, h⟩ := bind_some h
    rcases itb_some h with ⟨c6, h⟩ | ⟨c6, h⟩
    · skip
      obtain ⟨y8, e7, h⟩ := bind_some h
      obtain rfl := Option.some.inj h
      exact run_ret mixed (L := []) (n := 20) (s := [.reg [], .reg [(1, hC (parrellaw27_long_v y2)), (2, hF), (4, hC (parrellaw27_long_v y5)), (5, hT)], .reg [(0, hC (parrellaw27_alive_v y8))]])
        (a_ (a_ (r1_ (r2_ tr)) (a_ (m_ 25 25 rfl (c_ (parrellaw27_long_tri a y2 e1) (f_ c3 (m_ 25 25 rfl (c_ (parrellaw27_long_tri b y5 e4) (f_ c6 tr)))))) (a_ (c_ (parrellaw27_alive_tri  y8 e7) (r1_ tr)) tr))) tr) (by kernel_rfl) rfl
    · skip
      obtain ⟨y9, e7, h⟩ := bind_some h
      obtain ⟨y11, e10, h⟩ := bind_some h
      obtain ⟨y13, e12, h⟩ := bind_some h
      exact run_to mixed hμ (L := [0, 1]) (n := 25) (s := [.reg [], .reg [(1, hC (parrellaw27_long_v y2)), (2, hF), (4, hC (parrellaw27_long_v y5)), (5, hF)], .reg [(1, hC (parrellaw27_theirs_v y9)), (2, hC (script_Line_v y11))], .reg [(1, hC (parrelref27_Line_v y13))]])
        (a_ (r1_ (r2_ tr)) (a_ (m_ 25 25 rfl (c_ (parrellaw27_long_tri a y2 e1) (f_ c3 (m_ 25 25 rfl (c_ (parrellaw27_long_tri b y5 e4) (f_ c6 tr)))))) (a_ (m_ 25 25 rfl (c_ (parrellaw27_theirs_tri a y9 e7) (c_ (script_Line_tri y9 y11 e10) (r1_ (r4_ tr))))) (a_ (m_ 25 25 rfl (c_ (parrelref27_Line_tri a y13 e12) (r1_ (r4_ tr)))) tr)))) (parrellaw27_ScriptLines_c5_ok hμ a b y11 y13   r h) (by kernel_rfl) ⟨rfl, rfl, trivial⟩

theorem parrellaw27_ScriptLines_tri (a : T_parrelref27_Step) (b : T_parrelref27_Step) (r : (Bool)) (h : parrellaw27_ScriptLines a b = some r) : FnTri Tryd.prog 3 [v_T_parrelref27_Step a, v_T_parrelref27_Step b] [] (parrellaw27_ScriptLines_v r) [] := FnTri.none (parrellaw27_ScriptLines_ok a b r h) rfl rfl

end Go.Proofs.YtdchgoaokceomaaDoor.Wk
