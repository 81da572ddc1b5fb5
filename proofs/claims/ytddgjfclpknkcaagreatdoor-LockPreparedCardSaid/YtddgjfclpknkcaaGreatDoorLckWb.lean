import Derived.Test.YtddgjfclpknkcaaGreatDoorLckWa
namespace Go.Proofs.YtddgjfclpknkcaaGreatDoor.Wk
open Go Go.Cn Go.RowKit
set_option maxRecDepth 100000
set_option maxHeartbeats 4000000
set_option linter.unusedVariables false
set_option linter.unusedSimpArgs false
noncomputable section
variable (w0 : World) (W : Nat → Prop) (μ0 : Emb)
def sO2_up (bb : Bool) (data : LE bb) (uu : UT) (hh ww : PT) (r : (Int) × (Int) × (Int)) : Upd := [(0, some (gE_ bb data)), (1, some (.var [.int .i64 r.2.2])), (2, some (.var [.map 3, .map 4, .map 5])), (3, some (oP1 uu [])), (4, some (oM3 hh)), (5, some (oM3 ww))]
def sO2_objs (bb : Bool) (data : LE bb) (swaps : Int) (uu : UT) (hh ww : PT) : List LO := [gE_ bb data, .var [.int .i64 swaps], .var [.map 3, .map 4, .map 5], oP1 uu [], oM3 hh, oM3 ww]
theorem sO2_ok (bb : Bool) (data : LE bb) (a b swaps : Int) (uu : UT) (hh ww : PT) (r : (Int) × (Int) × (Int)) (h : sO2 bb data a b swaps uu hh ww = some r) : ∀ σ, Inj 6 σ → FnTri Tryz.prog (n135_147 bb) (renL σ [.gs 0 (data).length, .int .i64 a, .int .i64 b, .ptr 1 0 0, .fn (n53_65 bb) [.ptr 2 0 0] []]) (preOf σ 0 (sO2_objs bb data swaps uu hh ww)) ((sO2_v bb r).ren σ) (upOf σ (sO2_up bb data uu hh ww r)) := by
 refine fn_of (q_func135 bb) (by cases bb <;> kernel_rfl) (by cases bb <;> kernel_rfl) (by cases bb <;> kernel_rfl) ⟨fun _ _ => by cases bb <;> rfl, rfl, rfl, uP, trivial, trivial, trivial⟩ (by cases bb <;> kernel_rfl) ⟨fun _ _ => by cases bb <;> rfl, rfl, rfl, uP, trivial, trivial, trivial⟩ (by cases bb <;> kernel_rfl) ?_
 intro w0 W μ0 hμ
 unfold sO2 at h
 obtain ⟨g1, h⟩ := gs_ h
 obtain ⟨g2, h⟩ := gs_ h
 obtain ⟨y4, e3, h⟩ := bs_ h
 rcases it_ h with ⟨c5, h⟩ | ⟨c5, h⟩
 ·obtain rfl := si_ h
  exact rrb_ [] 23 [.reg [], .reg [(9, hk_ (hK_ [2, 3, 4, 5] (cmp__v bb y4) (cmp__objs bb uu hh ww) (cmp__up bb uu hh ww y4))), (10, hT)], .reg [], .reg []]
   (q16 (r2_ tr) (q2 (ld_ (z_ bb) g1 tr (r2_ (ld_ (z_ bb) g2 tr (a_ (a_ (a_ (cmp__ok bb uu hh ww (data.getD b.toNat default) (data.getD a.toNat default) y4 e3 (sel [2, 3, 4, 5]) sj_) (o4_ [.map 3, .map 4, .map 5] uu hh ww)) tr) (f_ c5 tr)))))) (r2_ (l_ 0 1 rfl (r2_ (a_ (a_ (a_ (Eq.refl 1) (a_ (le_ 1 1 rfl) (Eq.refl 0))) tr) tr)))) (q1 (r4_ tr)))
 ·obtain rfl := si_ h
  exact rrb_ [] 21 [.reg [], .reg [(9, hk_ (hK_ [2, 3, 4, 5] (cmp__v bb y4) (cmp__objs bb uu hh ww) (cmp__up bb uu hh ww y4))), (10, hF)], .reg []]
   (q16 (r2_ tr) (q2 (ld_ (z_ bb) g1 tr (r2_ (ld_ (z_ bb) g2 tr (a_ (a_ (a_ (cmp__ok bb uu hh ww (data.getD b.toNat default) (data.getD a.toNat default) y4 e3 (sel [2, 3, 4, 5]) sj_) (o4_ [.map 3, .map 4, .map 5] uu hh ww)) tr) (f_ c5 tr)))))) (r4_ tr) tr)
theorem sME_ok (bb : Bool) (data : LE bb) (a b : Int) (c swaps : Int) (uu : UT) (hh ww : PT) (r : (Int) × (Int)) (h : sME bb data a b c swaps uu hh ww = some r) : ∀ σ, Inj 6 σ → FnTri Tryz.prog (n121_142 bb) (renL σ [.gs 0 (data).length, .int .i64 a, .int .i64 b, .int .i64 c, .ptr 1 0 0, .fn (n53_65 bb) [.ptr 2 0 0] []]) (preOf σ 0 (sME_objs bb data swaps uu hh ww)) ((sME_v bb r).ren σ) (upOf σ (sME_up bb data uu hh ww r)) := by
 refine fn_of (q_func121 bb) (by cases bb <;> kernel_rfl) (by cases bb <;> kernel_rfl) (by cases bb <;> kernel_rfl) ⟨fun _ _ => by cases bb <;> rfl, rfl, rfl, uP, trivial, trivial, trivial⟩ (by cases bb <;> kernel_rfl) ⟨fun _ _ => by cases bb <;> rfl, rfl, rfl, uP, trivial, trivial, trivial⟩ (by cases bb <;> kernel_rfl) ?_
 intro w0 W μ0 hμ
 unfold sME at h
 obtain ⟨y2, e1, h⟩ := bs_ h
 obtain ⟨y4, e3, h⟩ := bs_ h
 obtain ⟨y6, e5, h⟩ := bs_ h
 obtain rfl := si_ h
 exact rrb_ [] 24 [.reg [], .reg [(5, hk_ (hK_ [0, 1, 2, 3, 4, 5] (sO2_v bb y2) (sO2_objs bb data swaps uu hh ww) (sO2_up bb data uu hh ww y2)))], .reg [(5, hk_ (hK_ [0, 1, 2, 3, 4, 5] (sO2_v bb y4) (sO2_objs bb data y2.2.2 uu hh ww) (sO2_up bb data uu hh ww y4)))], .reg [(5, hk_ (hK_ [0, 1, 2, 3, 4, 5] (sO2_v bb y6) (sO2_objs bb data y4.2.2 uu hh ww) (sO2_up bb data uu hh ww y6)))], .reg []]
  (q10 (q12 (q0 (sO2_ok bb data a b swaps uu hh ww y2 e1 (sel [0, 1, 2, 3, 4, 5]) sj_) (rl_ (gE_ bb data)) (rl_ (.var [.int .i64 swaps])) (o4_ [.map 3, .map 4, .map 5] uu hh ww))) (q12 (q0 (sO2_ok bb data y2.2.1 c y2.2.2 uu hh ww y4 e3 (sel [0, 1, 2, 3, 4, 5]) sj_) (rl_ (gE_ bb data)) (rl_ (.var [.int .i64 y2.2.2])) (o4_ [.map 3, .map 4, .map 5] uu hh ww))) (q27 (q12 (q0 (sO2_ok bb data y2.1 y4.1 y4.2.2 uu hh ww y6 e5 (sel [0, 1, 2, 3, 4, 5]) sj_) (rl_ (gE_ bb data)) (rl_ (.var [.int .i64 y4.2.2])) (o4_ [.map 3, .map 4, .map 5] uu hh ww))) (r2_ tr)))
def sMA_v (bb : Bool) (r : (Int) × (Int)) : LV := .int .i64 r.1
def sMA_up (bb : Bool) (data : LE bb) (uu : UT) (hh ww : PT) (r : (Int) × (Int)) : Upd := [(0, some (gE_ bb data)), (1, some (.var [.int .i64 r.2])), (2, some (.var [.map 3, .map 4, .map 5])), (3, some (oP1 uu [])), (4, some (oM3 hh)), (5, some (oM3 ww))]
def sMA_objs (bb : Bool) (data : LE bb) (swaps : Int) (uu : UT) (hh ww : PT) : List LO := [gE_ bb data, .var [.int .i64 swaps], .var [.map 3, .map 4, .map 5], oP1 uu [], oM3 hh, oM3 ww]
theorem sMA_ok (bb : Bool) (data : LE bb) (a swaps : Int) (uu : UT) (hh ww : PT) (r : (Int) × (Int)) (h : sMA bb data a swaps uu hh ww = some r) : ∀ σ, Inj 6 σ → FnTri Tryz.prog (n120_141 bb) (renL σ [.gs 0 (data).length, .int .i64 a, .ptr 1 0 0, .fn (n53_65 bb) [.ptr 2 0 0] []]) (preOf σ 0 (sMA_objs bb data swaps uu hh ww)) ((sMA_v bb r).ren σ) (upOf σ (sMA_up bb data uu hh ww r)) := by
 refine fn_of (q_func120 bb) (by cases bb <;> kernel_rfl) (by cases bb <;> kernel_rfl) (by cases bb <;> kernel_rfl) ⟨fun _ _ => by cases bb <;> rfl, rfl, rfl, uP, trivial, trivial, trivial⟩ (by cases bb <;> kernel_rfl) ⟨fun _ _ => by cases bb <;> rfl, rfl, rfl, uP, trivial, trivial, trivial⟩ (by cases bb <;> kernel_rfl) ?_
 intro w0 W μ0 hμ
 unfold sMA at h
 obtain ⟨y2, e1, h⟩ := bs_ h
 obtain rfl := si_ h
 exact rrb_ [] 15 [.reg [], .reg [(8, hk_ (hK_ [0, 1, 2, 3, 4, 5] (sME_v bb y2) (sME_objs bb data swaps uu hh ww) (sME_up bb data uu hh ww y2)))]]
  (q28 (r8_ (a_ (a_ (a_ (sME_ok bb data (IntKind.wrap .i64 (a - 1)) a (IntKind.wrap .i64 (a + 1)) swaps uu hh ww y2 e1 (sel [0, 1, 2, 3, 4, 5]) sj_) (a_ (rl_ (gE_ bb data)) (a_ (rl_ (.var [.int .i64 swaps])) (o4_ [.map 3, .map 4, .map 5] uu hh ww)))) tr) (r1_ tr))))
abbrev sCP_K1000008 (bb : Bool) (data : LE bb) (uu : UT) (hh ww : PT) (y3 y5 y7 : Int) (r : (Int) × (Int)) : Prop := Kt_ w0 W μ0 (q_f104 bb) 5 5 (sCP_v bb r) (sCP_up bb data uu hh ww r) (kAtR (bodyOf (q_f104 bb)) 8) ((.gs 0 (data).length) :: .any :: .any :: (.fn (n53_65 bb) [.ptr 1 0 0] []) :: n_ 7 ((.ptr 5 0 0) :: (.int .i64 y3) :: (.int .i64 y5) :: (.int .i64 y7) :: n_ 48 [])) [some (gE_ bb data), some (.var [.map 2, .map 3, .map 4]), some (oP1 uu []), some (oM3 hh), some (oM3 ww), some (.var [.int .i64 0])]
abbrev sCP_K1000017 (bb : Bool) (data : LE bb) (uu : UT) (hh ww : PT) (y8 r : (Int) × (Int)) : Prop := Kt_ w0 W μ0 (q_f104 bb) 5 5 (sCP_v bb r) (sCP_up bb data uu hh ww r) (kAtR (bodyOf (q_f104 bb)) 17) (n_ 13 ((.int .i64 y8.1) :: n_ 49 [])) [some (gE_ bb data), some (.var [.map 2, .map 3, .map 4]), some (oP1 uu []), some (oM3 hh), some (oM3 ww)]
theorem sCP_c17_ok (bb : Bool) {w0 W μ0} (hμ : Lt_ μ0 5) (data : LE bb) (a b : Int) (uu : UT) (hh ww : PT) (y8 : (Int) × (Int)) (r : (Int) × (Int)) (h : sCP_c17 bb data a b uu hh ww y8 = some r) : sCP_K1000017 w0 W μ0 bb data uu hh ww y8 r := by
 unfold sCP_c17 at h
 obtain rfl := si_ h
 exact rrb_ [] 11 [.reg []]
  (q6 (q2 tr))
abbrev sCP_K1000013 (bb : Bool) (data : LE bb) (uu : UT) (hh ww : PT) (y8 r : (Int) × (Int)) : Prop := Kt_ w0 W μ0 (q_f104 bb) 5 5 (sCP_v bb r) (sCP_up bb data uu hh ww r) (kAtR (bodyOf (q_f104 bb)) 13) (n_ 13 ((.int .i64 y8.1) :: n_ 49 [])) [some (gE_ bb data), some (.var [.map 2, .map 3, .map 4]), some (oP1 uu []), some (oM3 hh), some (oM3 ww)]
theorem sCP_c13_ok (bb : Bool) {w0 W μ0} (hμ : Lt_ μ0 5) (data : LE bb) (a b : Int) (uu : UT) (hh ww : PT) (y8 : (Int) × (Int)) (r : (Int) × (Int)) (h : sCP_c13 bb data a b uu hh ww y8 = some r) : sCP_K1000013 w0 W μ0 bb data uu hh ww y8 r := by
 unfold sCP_c13 at h
 obtain rfl := si_ h
 exact rrb_ [] 11 [.reg []]
  (q6 (q2 tr))
theorem sCP_c8_ok (bb : Bool) {w0 W μ0} (hμ : Lt_ μ0 5) (data : LE bb) (a b : Int) (uu : UT) (hh ww : PT) (y3 y5 y7 : Int) (r : (Int) × (Int)) (h : sCP_c8 bb data a b uu hh ww y3 y5 y7 = some r) : sCP_K1000008 w0 W μ0 bb data uu hh ww y3 y5 y7 r := by
 unfold sCP_c8 at h
 obtain ⟨y2, E1, h⟩ := bs_ h
 obtain ⟨y4, E3, h⟩ := bs_ h
 obtain ⟨y6, E5, h⟩ := bs_ h
 obtain ⟨y8, E7, h⟩ := bs_ h
 rcases it_ h with ⟨C9, h⟩ | ⟨C9, h⟩
 ·obtain rfl := si_ h
  exact rrb_ [] 29 [.reg [(3, hk_ (hK_ [0, 5, 1, 2, 3, 4] (sMA_v bb y2) (sMA_objs bb data 0 uu hh ww) (sMA_up bb data uu hh ww y2)))], .reg [(3, hk_ (hK_ [0, 5, 1, 2, 3, 4] (sMA_v bb y4) (sMA_objs bb data y2.2 uu hh ww) (sMA_up bb data uu hh ww y4)))], .reg [(3, hk_ (hK_ [0, 5, 1, 2, 3, 4] (sMA_v bb y6) (sMA_objs bb data y4.2 uu hh ww) (sMA_up bb data uu hh ww y6)))], .reg [(5, hk_ (hK_ [0, 5, 1, 2, 3, 4] (sME_v bb y8) (sME_objs bb data y6.2 uu hh ww) (sME_up bb data uu hh ww y8)))], .reg [], .reg [(1, hT)], .reg []]
   (q16 (q2 (q4 (q0 (sMA_ok bb data y3 0 uu hh ww y2 E1 (sel [0, 5, 1, 2, 3, 4]) sj_) (rl_ (gE_ bb data)) (rl_ (.var [.int .i64 0])) (o4_ [.map 2, .map 3, .map 4] uu hh ww)) tr)) (q2 (q4 (q0 (sMA_ok bb data y5 y2.2 uu hh ww y4 E3 (sel [0, 5, 1, 2, 3, 4]) sj_) (rl_ (gE_ bb data)) (rl_ (.var [.int .i64 y2.2])) (o4_ [.map 2, .map 3, .map 4] uu hh ww)) tr)) (q2 (q4 (q0 (sMA_ok bb data y7 y4.2 uu hh ww y6 E5 (sel [0, 5, 1, 2, 3, 4]) sj_) (rl_ (gE_ bb data)) (rl_ (.var [.int .i64 y4.2])) (o4_ [.map 2, .map 3, .map 4] uu hh ww)) tr)) (q11 (r1_ (r4_ (q4 (q0 (sME_ok bb data y2.1 y4.1 y6.1 y6.2 uu hh ww y8 E7 (sel [0, 5, 1, 2, 3, 4]) sj_) (rl_ (gE_ bb data)) (rl_ (.var [.int .i64 y6.2])) (o4_ [.map 2, .map 3, .map 4] uu hh ww)) tr))) (l_ 0 1 rfl tr) (f_ C9 tr) (q17 tr)))
 ·rcases it_ h with ⟨C10, h⟩ | ⟨C10, h⟩
  ·exact rtb_ hμ [] 31 [.reg [(3, hk_ (hK_ [0, 5, 1, 2, 3, 4] (sMA_v bb y2) (sMA_objs bb data 0 uu hh ww) (sMA_up bb data uu hh ww y2)))], .reg [(3, hk_ (hK_ [0, 5, 1, 2, 3, 4] (sMA_v bb y4) (sMA_objs bb data y2.2 uu hh ww) (sMA_up bb data uu hh ww y4)))], .reg [(3, hk_ (hK_ [0, 5, 1, 2, 3, 4] (sMA_v bb y6) (sMA_objs bb data y4.2 uu hh ww) (sMA_up bb data uu hh ww y6)))], .reg [(5, hk_ (hK_ [0, 5, 1, 2, 3, 4] (sME_v bb y8) (sME_objs bb data y6.2 uu hh ww) (sME_up bb data uu hh ww y8)))], .reg [], .reg [(1, hF)], .reg [(1, hT)]]
    (q0 (q2 (q4 (q0 (sMA_ok bb data y3 0 uu hh ww y2 E1 (sel [0, 5, 1, 2, 3, 4]) sj_) (rl_ (gE_ bb data)) (rl_ (.var [.int .i64 0])) (o4_ [.map 2, .map 3, .map 4] uu hh ww)) tr)) (q2 (q4 (q0 (sMA_ok bb data y5 y2.2 uu hh ww y4 E3 (sel [0, 5, 1, 2, 3, 4]) sj_) (rl_ (gE_ bb data)) (rl_ (.var [.int .i64 y2.2])) (o4_ [.map 2, .map 3, .map 4] uu hh ww)) tr)) (q2 (q4 (q0 (sMA_ok bb data y7 y4.2 uu hh ww y6 E5 (sel [0, 5, 1, 2, 3, 4]) sj_) (rl_ (gE_ bb data)) (rl_ (.var [.int .i64 y4.2])) (o4_ [.map 2, .map 3, .map 4] uu hh ww)) tr)) (q11 (r1_ (r4_ (q4 (q0 (sME_ok bb data y2.1 y4.1 y6.1 y6.2 uu hh ww y8 E7 (sel [0, 5, 1, 2, 3, 4]) sj_) (rl_ (gE_ bb data)) (rl_ (.var [.int .i64 y6.2])) (o4_ [.map 2, .map 3, .map 4] uu hh ww)) tr))) (l_ 0 1 rfl tr) (f_ C9 tr) (q19 (f_ C10 tr)))) (sCP_c17_ok bb hμ data a b uu hh ww y8 r h) uS
  ·exact rtb_ hμ [] 31 [.reg [(3, hk_ (hK_ [0, 5, 1, 2, 3, 4] (sMA_v bb y2) (sMA_objs bb data 0 uu hh ww) (sMA_up bb data uu hh ww y2)))], .reg [(3, hk_ (hK_ [0, 5, 1, 2, 3, 4] (sMA_v bb y4) (sMA_objs bb data y2.2 uu hh ww) (sMA_up bb data uu hh ww y4)))], .reg [(3, hk_ (hK_ [0, 5, 1, 2, 3, 4] (sMA_v bb y6) (sMA_objs bb data y4.2 uu hh ww) (sMA_up bb data uu hh ww y6)))], .reg [(5, hk_ (hK_ [0, 5, 1, 2, 3, 4] (sME_v bb y8) (sME_objs bb data y6.2 uu hh ww) (sME_up bb data uu hh ww y8)))], .reg [], .reg [(1, hF)], .reg [(1, hF)]]
    (q0 (q2 (q4 (q0 (sMA_ok bb data y3 0 uu hh ww y2 E1 (sel [0, 5, 1, 2, 3, 4]) sj_) (rl_ (gE_ bb data)) (rl_ (.var [.int .i64 0])) (o4_ [.map 2, .map 3, .map 4] uu hh ww)) tr)) (q2 (q4 (q0 (sMA_ok bb data y5 y2.2 uu hh ww y4 E3 (sel [0, 5, 1, 2, 3, 4]) sj_) (rl_ (gE_ bb data)) (rl_ (.var [.int .i64 y2.2])) (o4_ [.map 2, .map 3, .map 4] uu hh ww)) tr)) (q2 (q4 (q0 (sMA_ok bb data y7 y4.2 uu hh ww y6 E5 (sel [0, 5, 1, 2, 3, 4]) sj_) (rl_ (gE_ bb data)) (rl_ (.var [.int .i64 y4.2])) (o4_ [.map 2, .map 3, .map 4] uu hh ww)) tr)) (q11 (r1_ (r4_ (q4 (q0 (sME_ok bb data y2.1 y4.1 y6.1 y6.2 uu hh ww y8 E7 (sel [0, 5, 1, 2, 3, 4]) sj_) (rl_ (gE_ bb data)) (rl_ (.var [.int .i64 y6.2])) (o4_ [.map 2, .map 3, .map 4] uu hh ww)) tr))) (l_ 0 1 rfl tr) (f_ C9 tr) (q19 (f_ C10 tr)))) (sCP_c13_ok bb hμ data a b uu hh ww y8 r h) uS
abbrev sCP_K1000011 (bb : Bool) (data : LE bb) (uu : UT) (hh ww : PT) (y3 y5 y7 : Int) (r : (Int) × (Int)) : Prop := Kt_ w0 W μ0 (q_f104 bb) 5 5 (sCP_v bb r) (sCP_up bb data uu hh ww r) (kAtR (bodyOf (q_f104 bb)) 11) ((.gs 0 (data).length) :: .any :: .any :: (.fn (n53_65 bb) [.ptr 1 0 0] []) :: n_ 7 ((.ptr 5 0 0) :: (.int .i64 y3) :: (.int .i64 y5) :: (.int .i64 y7) :: n_ 48 [])) [some (gE_ bb data), some (.var [.map 2, .map 3, .map 4]), some (oP1 uu []), some (oM3 hh), some (oM3 ww), some (.var [.int .i64 0])]
abbrev sCP_K1001017 (bb : Bool) (data : LE bb) (uu : UT) (hh ww : PT) (y2 r : (Int) × (Int)) : Prop := Kt_ w0 W μ0 (q_f104 bb) 5 5 (sCP_v bb r) (sCP_up bb data uu hh ww r) (kAtR (bodyOf (q_f104 bb)) 17) (n_ 13 ((.int .i64 y2.1) :: n_ 49 [])) [some (gE_ bb data), some (.var [.map 2, .map 3, .map 4]), some (oP1 uu []), some (oM3 hh), some (oM3 ww)]
theorem sCP_c1017_ok (bb : Bool) {w0 W μ0} (hμ : Lt_ μ0 5) (data : LE bb) (a b : Int) (uu : UT) (hh ww : PT) (y2 : (Int) × (Int)) (r : (Int) × (Int)) (h : sCP_c1017 bb data a b uu hh ww y2 = some r) : sCP_K1001017 w0 W μ0 bb data uu hh ww y2 r := by
 unfold sCP_c1017 at h
 obtain rfl := si_ h
 exact rrb_ [] 11 [.reg []]
  (q6 (q2 tr))
abbrev sCP_K1001013 (bb : Bool) (data : LE bb) (uu : UT) (hh ww : PT) (y2 r : (Int) × (Int)) : Prop := Kt_ w0 W μ0 (q_f104 bb) 5 5 (sCP_v bb r) (sCP_up bb data uu hh ww r) (kAtR (bodyOf (q_f104 bb)) 13) (n_ 13 ((.int .i64 y2.1) :: n_ 49 [])) [some (gE_ bb data), some (.var [.map 2, .map 3, .map 4]), some (oP1 uu []), some (oM3 hh), some (oM3 ww)]
theorem sCP_c1013_ok (bb : Bool) {w0 W μ0} (hμ : Lt_ μ0 5) (data : LE bb) (a b : Int) (uu : UT) (hh ww : PT) (y2 : (Int) × (Int)) (r : (Int) × (Int)) (h : sCP_c1013 bb data a b uu hh ww y2 = some r) : sCP_K1001013 w0 W μ0 bb data uu hh ww y2 r := by
 unfold sCP_c1013 at h
 obtain rfl := si_ h
 exact rrb_ [] 11 [.reg []]
  (q6 (q2 tr))
theorem sCP_c11_ok (bb : Bool) {w0 W μ0} (hμ : Lt_ μ0 5) (data : LE bb) (a b : Int) (uu : UT) (hh ww : PT) (y3 y5 y7 : Int) (r : (Int) × (Int)) (h : sCP_c11 bb data a b uu hh ww y3 y5 y7 = some r) : sCP_K1000011 w0 W μ0 bb data uu hh ww y3 y5 y7 r := by
 unfold sCP_c11 at h
 obtain ⟨y2, E1, h⟩ := bs_ h
 rcases it_ h with ⟨C3, h⟩ | ⟨C3, h⟩
 ·obtain rfl := si_ h
  exact rrb_ [] 22 [.reg [(5, hk_ (hK_ [0, 5, 1, 2, 3, 4] (sME_v bb y2) (sME_objs bb data 0 uu hh ww) (sME_up bb data uu hh ww y2)))], .reg [], .reg [(1, hT)], .reg []]
   (q1 (q11 (r1_ (r4_ (q4 (q0 (sME_ok bb data y3 y5 y7 0 uu hh ww y2 E1 (sel [0, 5, 1, 2, 3, 4]) sj_) (rl_ (gE_ bb data)) (rl_ (.var [.int .i64 0])) (o4_ [.map 2, .map 3, .map 4] uu hh ww)) tr))) (l_ 0 1 rfl tr) (f_ C3 tr) (q17 tr)))
 ·rcases it_ h with ⟨C4, h⟩ | ⟨C4, h⟩
  ·exact rtb_ hμ [] 24 [.reg [(5, hk_ (hK_ [0, 5, 1, 2, 3, 4] (sME_v bb y2) (sME_objs bb data 0 uu hh ww) (sME_up bb data uu hh ww y2)))], .reg [], .reg [(1, hF)], .reg [(1, hT)]]
    (q11 (r1_ (r4_ (q4 (q0 (sME_ok bb data y3 y5 y7 0 uu hh ww y2 E1 (sel [0, 5, 1, 2, 3, 4]) sj_) (rl_ (gE_ bb data)) (rl_ (.var [.int .i64 0])) (o4_ [.map 2, .map 3, .map 4] uu hh ww)) tr))) (l_ 0 1 rfl tr) (f_ C3 tr) (q19 (f_ C4 tr))) (sCP_c1017_ok bb hμ data a b uu hh ww y2 r h) uS
  ·exact rtb_ hμ [] 24 [.reg [(5, hk_ (hK_ [0, 5, 1, 2, 3, 4] (sME_v bb y2) (sME_objs bb data 0 uu hh ww) (sME_up bb data uu hh ww y2)))], .reg [], .reg [(1, hF)], .reg [(1, hF)]]
    (q11 (r1_ (r4_ (q4 (q0 (sME_ok bb data y3 y5 y7 0 uu hh ww y2 E1 (sel [0, 5, 1, 2, 3, 4]) sj_) (rl_ (gE_ bb data)) (rl_ (.var [.int .i64 0])) (o4_ [.map 2, .map 3, .map 4] uu hh ww)) tr))) (l_ 0 1 rfl tr) (f_ C3 tr) (q19 (f_ C4 tr))) (sCP_c1013_ok bb hμ data a b uu hh ww y2 r h) uS
theorem sCP_ok (bb : Bool) (data : LE bb) (a b : Int) (uu : UT) (hh ww : PT) (r : (Int) × (Int)) (h : sCP bb data a b uu hh ww = some r) : ∀ σ, Inj 5 σ → FnTri Tryz.prog (n104_130 bb) (renL σ [.gs 0 (data).length, .int .i64 a, .int .i64 b, .fn (n53_65 bb) [.ptr 1 0 0] []]) (preOf σ 0 (sCP_objs bb data uu hh ww)) ((sCP_v bb r).ren σ) (upOf σ (sCP_up bb data uu hh ww r)) := by
 refine fn_of (q_func104 bb) (by cases bb <;> kernel_rfl) (by cases bb <;> kernel_rfl) (by cases bb <;> kernel_rfl) ⟨fun _ _ => by cases bb <;> rfl, rfl, uP, trivial, trivial, trivial⟩ (by cases bb <;> kernel_rfl) ⟨fun _ _ => by cases bb <;> rfl, rfl, uP, trivial, trivial, trivial⟩ (by cases bb <;> kernel_rfl) ?_
 intro w0 W μ0 hμ
 unfold sCP at h
 obtain ⟨y1, e2, h⟩ := bs_ h
 obtain ⟨y3, e4, h⟩ := bs_ h
 obtain ⟨y5, e6, h⟩ := bs_ h
 obtain ⟨y7, e8, h⟩ := bs_ h
 rcases it_ h with ⟨c9, h⟩ | ⟨c9, h⟩
 ·rcases it_ h with ⟨c10, h⟩ | ⟨c10, h⟩
  ·exact rtb_ hμ [5] 38 [.reg [], .reg [], .reg [], .reg [(2, hv_ (.int .i64 y1)), (4, hv_ (.int .i64 y3))], .reg [(2, hv_ (.int .i64 y1)), (4, hv_ (.int .i64 y5))], .reg [(2, hv_ (.int .i64 y1)), (4, hv_ (.int .i64 y7))], .reg [(1, hT)], .reg [(1, hT)]]
    (q11 (r2_ tr) (r4_ tr) tr (q0 (r2_ (q5 (ne0 4 rfl) (le_nm (LV.int .i64) e2) (q21 (le_nm (LV.int .i64) e4)))) (r2_ (q5 (ne0 4 rfl) (le_nm (LV.int .i64) e2) (q21 (le_nm (LV.int .i64) e6)))) (r2_ (q5 (ne0 4 rfl) (le_nm (LV.int .i64) e2) (q21 (le_nm (LV.int .i64) e8)))) (q27 (f_ c9 tr) (r1_ (f_ c10 tr))))) (sCP_c8_ok bb hμ data a b uu hh ww y3 y5 y7 r h) ⟨fun _ _ => by cases bb <;> rfl, rfl, uP, trivial, trivial, rfl, trivial⟩
  ·exact rtb_ hμ [5] 38 [.reg [], .reg [], .reg [], .reg [(2, hv_ (.int .i64 y1)), (4, hv_ (.int .i64 y3))], .reg [(2, hv_ (.int .i64 y1)), (4, hv_ (.int .i64 y5))], .reg [(2, hv_ (.int .i64 y1)), (4, hv_ (.int .i64 y7))], .reg [(1, hT)], .reg [(1, hF)]]
    (q11 (r2_ tr) (r4_ tr) tr (q0 (r2_ (q5 (ne0 4 rfl) (le_nm (LV.int .i64) e2) (q21 (le_nm (LV.int .i64) e4)))) (r2_ (q5 (ne0 4 rfl) (le_nm (LV.int .i64) e2) (q21 (le_nm (LV.int .i64) e6)))) (r2_ (q5 (ne0 4 rfl) (le_nm (LV.int .i64) e2) (q21 (le_nm (LV.int .i64) e8)))) (q27 (f_ c9 tr) (r1_ (f_ c10 tr))))) (sCP_c11_ok bb hμ data a b uu hh ww y3 y5 y7 r h) ⟨fun _ _ => by cases bb <;> rfl, rfl, uP, trivial, trivial, rfl, trivial⟩
 ·obtain rfl := si_ h
  exact rrb_ [] 44 [.reg [], .reg [], .reg [], .reg [(2, hv_ (.int .i64 y1)), (4, hv_ (.int .i64 y3))], .reg [(2, hv_ (.int .i64 y1)), (4, hv_ (.int .i64 y5))], .reg [(2, hv_ (.int .i64 y1)), (4, hv_ (.int .i64 y7))], .reg [(1, hF)], .reg [], .reg [], .reg []]
   (q1 (q11 (r2_ tr) (r4_ tr) tr (q0 (r2_ (q5 (ne0 4 rfl) (le_nm (LV.int .i64) e2) (q21 (le_nm (LV.int .i64) e4)))) (r2_ (q5 (ne0 4 rfl) (le_nm (LV.int .i64) e2) (q21 (le_nm (LV.int .i64) e6)))) (r2_ (q5 (ne0 4 rfl) (le_nm (LV.int .i64) e2) (q21 (le_nm (LV.int .i64) e8)))) (q0 (r1_ (f_ c9 tr)) (l_ 0 1 rfl tr) (r2_ tr) (q17 tr)))))
abbrev sPD_b_K0 (bb : Bool) (uu : UT) (hh ww : PT) (a2 b2 limit2 : Int) (wasBalanced wasPartitioned : Bool) (l : LE bb) (r : (LE bb)) : Prop := Kt_ w0 W μ0 (q_f82 bb) 5 5 (sPD_b_v bb r) (sPD_b_up bb uu hh ww r) (kAt (bodyOf (q_f82 bb)) 0) ((.gs 0 (l).length) :: (.int .i64 a2) :: (.int .i64 b2) :: (.int .i64 limit2) :: (.fn (n53_65 bb) [.ptr 1 0 0] []) :: n_ 5 ((.bool wasBalanced) :: (.bool wasPartitioned) :: n_ 136 [])) [some (gE_ bb l), some (.var [.map 2, .map 3, .map 4]), some (oP1 uu []), some (oM3 hh), some (oM3 ww)]
def sRR_v (bb : Bool) (r : (LE bb)) : LV := .tup []
def sRR_up (bb : Bool) (uu : UT) (hh ww : PT) (r : (LE bb)) : Upd := [(0, some (gE_ bb r)), (1, some (.var [.map 2, .map 3, .map 4])), (2, some (oP1 uu [])), (3, some (oM3 hh)), (4, some (oM3 ww))]
def sRR_objs (bb : Bool) (data : LE bb) (uu : UT) (hh ww : PT) : List LO := [gE_ bb data, .var [.map 2, .map 3, .map 4], oP1 uu [], oM3 hh, oM3 ww]
abbrev sRR_K0 (bb : Bool) (uu : UT) (hh ww : PT) (i j : Int) (l : LE bb) (r : (LE bb)) : Prop := Kt_ w0 W μ0 (q_f105 bb) 5 5 (sRR_v bb r) (sRR_up bb uu hh ww r) (kAt (bodyOf (q_f105 bb)) 0) ((.gs 0 (l).length) :: n_ 7 ((.int .i64 i) :: (.int .i64 j) :: n_ 24 [])) [some (gE_ bb l), some (.var [.map 2, .map 3, .map 4]), some (oP1 uu []), some (oM3 hh), some (oM3 ww)]
theorem sRR_l0_ok (bb : Bool) {w0 W μ0} (hμ : Lt_ μ0 5) (data : LE bb) (a b : Int) (uu : UT) (hh ww : PT) : ∀ (fuel : Nat) (i j : Int) (l : LE bb) (r : (LE bb)), sRR_l0 bb data a b uu hh ww fuel i j l = some r → sRR_K0 w0 W μ0 bb uu hh ww i j l r := by
 intro fuel
 induction fuel with
 | zero => intro i j l r h; rw [sRR_l0] at h; cases h
 | succ fuel ih =>
  intro i j l r h
  rw [sRR_l0] at h
  rcases it_ h with ⟨C1, h⟩ | ⟨C1, h⟩
  ·obtain ⟨G2, h⟩ := gs_ h
   obtain ⟨G3, h⟩ := gs_ h
   obtain ⟨G4, h⟩ := gs_ h
   obtain ⟨y5, E6, h⟩ := bs_ h
   exact rtb_ hμ [] 27 [.go, .reg [(2, hT)], .reg [(13, { os := [(0, gE_ bb ((l.set i.toNat (l.getD j.toNat default))))] }), (15, { os := [(0, gE_ bb y5)] })], .reg [], .reg [], .wk [(0, .gs 0 (y5).length)] []]
    (q0 (r2_ (f_ C1 tr)) (q23 (ld_ (z_ bb) G2 tr (r2_ (ld_ (z_ bb) G3 tr (a_ (a_ (a_ (Eq.refl (z_ bb)) G3) tr) (a_ (a_ (a_ (Eq.refl (z_ bb)) (a_ (Nat.le_refl (z_ bb)) (ltN G3))) (a_ (sub_set_gr (c_E_ bb) default (z_ bb) l i.toNat (l.getD j.toNat default) (ltN G3) (splL (rowF (c_E_ bb) default l i.toNat) 0 ((c_E_ bb) (l.getD j.toNat default))) (by cases bb <;> kernel_rfl)) tr)) (a_ (a_ (a_ (Eq.refl (z_ bb)) G2) tr) (a_ (a_ (a_ (Eq.refl (z_ bb)) (a_ (Nat.le_refl (z_ bb)) G4)) (a_ (LO.Sub.trans (sub_set_gr (c_E_ bb) default (z_ bb) (l.set i.toNat (l.getD j.toNat default)) j.toNat (l.getD i.toNat default) G4 (splL (rowF (c_E_ bb) default (l.set i.toNat (l.getD j.toNat default)) j.toNat) 0 ((c_E_ bb) (l.getD i.toNat default))) (by cases bb <;> kernel_rfl)) (ng_ bb E6)) tr)) tr)))))))) (q2 tr) (q3 (q2 tr) (q6 (le_gs 0 (show (l).length = (y5).length from by simp [← si_ E6]))))) (ih _ _ _ r h) uS
  ·obtain rfl := si_ h
   exact rrb_ [] 16 [.go, .reg [(2, hF)]]
    (q6 (r2_ (f_ C1 tr)))
theorem sRR_ok (bb : Bool) (data : LE bb) (a b : Int) (uu : UT) (hh ww : PT) (r : (LE bb)) (h : sRR bb data a b uu hh ww = some r) : ∀ σ, Inj 5 σ → FnTri Tryz.prog (n105_131 bb) (renL σ [.gs 0 (data).length, .int .i64 a, .int .i64 b, .fn (n53_65 bb) [.ptr 1 0 0] []]) (preOf σ 0 (sRR_objs bb data uu hh ww)) ((sRR_v bb r).ren σ) (upOf σ (sRR_up bb uu hh ww r)) := by
 refine fn_of (q_func105 bb) (by cases bb <;> kernel_rfl) (by cases bb <;> kernel_rfl) (by cases bb <;> kernel_rfl) ⟨fun _ _ => by cases bb <;> rfl, rfl, uP, trivial, trivial, trivial⟩ (by cases bb <;> kernel_rfl) ⟨fun _ _ => by cases bb <;> rfl, rfl, uP, trivial, trivial, trivial⟩ (by cases bb <;> kernel_rfl) ?_
 intro w0 W μ0 hμ
 unfold sRR at h
 exact rtb_ hμ [] 17 [.reg [], .reg []]
  (q3 (r2_ tr) (q2 tr)) (sRR_l0_ok bb hμ data a b uu hh ww big _ _ _ r h) uS
abbrev sPD_b_K1000009 (bb : Bool) (uu : UT) (hh ww : PT) (a2 b2 limit2 : Int) (wasBalanced wasPartitioned : Bool) (y5 r : (LE bb)) : Prop := Kt_ w0 W μ0 (q_f82 bb) 5 5 (sPD_b_v bb r) (sPD_b_up bb uu hh ww r) (kAtR (bodyOf (q_f82 bb)) 9) ((.gs 0 (y5).length) :: (.int .i64 a2) :: (.int .i64 b2) :: (.int .i64 limit2) :: (.fn (n53_65 bb) [.ptr 1 0 0] []) :: n_ 5 ((.bool wasBalanced) :: (.bool wasPartitioned) :: (.int .i64 (IntKind.wrap .i64 (b2 - a2))) :: n_ 135 [])) [some (gE_ bb y5), some (.var [.map 2, .map 3, .map 4]), some (oP1 uu []), some (oM3 hh), some (oM3 ww)]
def sPI_v (bb : Bool) (r : (Bool) × (LE bb)) : LV := .bool r.1
def sPI_up (bb : Bool) (uu : UT) (hh ww : PT) (r : (Bool) × (LE bb)) : Upd := [(0, some (gE_ bb (r.2))), (1, some (.var [.map 2, .map 3, .map 4])), (2, some (oP1 uu [])), (3, some (oM3 hh)), (4, some (oM3 ww))]
def sPI_objs (bb : Bool) (data : LE bb) (uu : UT) (hh ww : PT) : List LO := [gE_ bb data, .var [.map 2, .map 3, .map 4], oP1 uu [], oM3 hh, oM3 ww]
abbrev sPI_K0 (bb : Bool) (a b : Int) (uu : UT) (hh ww : PT) (i j : Int) (l : LE bb) (r : (Bool) × (LE bb)) : Prop := Kt_ w0 W μ0 (q_f106 bb) 5 5 (sPI_v bb r) (sPI_up bb uu hh ww r) (kAt (bodyOf (q_f106 bb)) 0) ((.gs 0 (l).length) :: (.int .i64 a) :: (.int .i64 b) :: (.fn (n53_65 bb) [.ptr 1 0 0] []) :: n_ 5 ((.int .i64 i) :: (.int .i64 j) :: n_ 130 [])) [some (gE_ bb l), some (.var [.map 2, .map 3, .map 4]), some (oP1 uu []), some (oM3 hh), some (oM3 ww)]
abbrev sPI_K1 (bb : Bool) (a b : Int) (uu : UT) (hh ww : PT) (j : Int) (l : LE bb) (i2 : Int) (r : (Bool) × (LE bb)) : Prop := Kt_ w0 W μ0 (q_f106 bb) 5 5 (sPI_v bb r) (sPI_up bb uu hh ww r) (kAt (bodyOf (q_f106 bb)) 1) ((.gs 0 (l).length) :: (.int .i64 a) :: (.int .i64 b) :: (.fn (n53_65 bb) [.ptr 1 0 0] []) :: n_ 5 ((.int .i64 i2) :: (.int .i64 j) :: n_ 130 [])) [some (gE_ bb l), some (.var [.map 2, .map 3, .map 4]), some (oP1 uu []), some (oM3 hh), some (oM3 ww)]
abbrev sPI_K1000012 (bb : Bool) (a b : Int) (uu : UT) (hh ww : PT) (j i2 : Int) (l2 : LE bb) (r : (Bool) × (LE bb)) : Prop := Kt_ w0 W μ0 (q_f106 bb) 5 5 (sPI_v bb r) (sPI_up bb uu hh ww r) (kAtR (bodyOf (q_f106 bb)) 12) ((.gs 0 (l2).length) :: (.int .i64 a) :: (.int .i64 b) :: (.fn (n53_65 bb) [.ptr 1 0 0] []) :: n_ 5 ((.int .i64 i2) :: (.int .i64 j) :: n_ 130 [])) [some (gE_ bb l2), some (.var [.map 2, .map 3, .map 4]), some (oP1 uu []), some (oM3 hh), some (oM3 ww)]
abbrev sPI_K3 (bb : Bool) (a b : Int) (uu : UT) (hh ww : PT) (j i2 j3 : Int) (l4 : LE bb) (r : (Bool) × (LE bb)) : Prop := Kt_ w0 W μ0 (q_f106 bb) 5 5 (sPI_v bb r) (sPI_up bb uu hh ww r) (kAt (bodyOf (q_f106 bb)) 3) ((.gs 0 (l4).length) :: (.int .i64 a) :: (.int .i64 b) :: (.fn (n53_65 bb) [.ptr 1 0 0] []) :: n_ 5 ((.int .i64 i2) :: (.int .i64 j) :: .any :: (.int .i64 j3) :: n_ 128 [])) [some (gE_ bb l4), some (.var [.map 2, .map 3, .map 4]), some (oP1 uu []), some (oM3 hh), some (oM3 ww)]
abbrev sPI_K1000004 (bb : Bool) (a b : Int) (uu : UT) (hh ww : PT) (j i2 : Int) (l4 : LE bb) (r : (Bool) × (LE bb)) : Prop := Kt_ w0 W μ0 (q_f106 bb) 5 5 (sPI_v bb r) (sPI_up bb uu hh ww r) (kAtR (bodyOf (q_f106 bb)) 4) ((.gs 0 (l4).length) :: (.int .i64 a) :: (.int .i64 b) :: (.fn (n53_65 bb) [.ptr 1 0 0] []) :: n_ 5 ((.int .i64 i2) :: (.int .i64 j) :: n_ 130 [])) [some (gE_ bb l4), some (.var [.map 2, .map 3, .map 4]), some (oP1 uu []), some (oM3 hh), some (oM3 ww)]
theorem sPI_c4_ok (bb : Bool) {w0 W μ0} (hμ : Lt_ μ0 5) (data : LE bb) (a b : Int) (uu : UT) (hh ww : PT) (j i2 : Int) (l4 : LE bb) (k0 : (Int) → (Int) → (LE bb) → Option ((Bool) × (LE bb))) (hk0 : ∀ (i j : Int) (l : LE bb) (r : (Bool) × (LE bb)), k0 i j l = some r → sPI_K0 w0 W μ0 bb a b uu hh ww i j l r) (r : (Bool) × (LE bb)) (h : sPI_c4 bb data a b uu hh ww j i2 l4 k0 = some r) : sPI_K1000004 w0 W μ0 bb a b uu hh ww j i2 l4 r := by
 unfold sPI_c4 at h
 exact rtb_ hμ [] 11 [.reg []]
  (q17 tr) (hk0 _ _ _ r h) uS
abbrev sPI_K1000023 (bb : Bool) (a b : Int) (uu : UT) (hh ww : PT) (j i2 j3 : Int) (l4 : LE bb) (r : (Bool) × (LE bb)) : Prop := Kt_ w0 W μ0 (q_f106 bb) 5 5 (sPI_v bb r) (sPI_up bb uu hh ww r) (kAtR (bodyOf (q_f106 bb)) 23) ((.gs 0 (l4).length) :: (.int .i64 a) :: (.int .i64 b) :: (.fn (n53_65 bb) [.ptr 1 0 0] []) :: n_ 5 ((.int .i64 i2) :: (.int .i64 j) :: .any :: (.int .i64 j3) :: n_ 128 [])) [some (gE_ bb l4), some (.var [.map 2, .map 3, .map 4]), some (oP1 uu []), some (oM3 hh), some (oM3 ww)]
theorem sPI_c23_ok (bb : Bool) {w0 W μ0} (hμ : Lt_ μ0 5) (data : LE bb) (a b : Int) (uu : UT) (hh ww : PT) (j i2 j3 : Int) (l4 : LE bb) (k3 : (Int) → (LE bb) → Option ((Bool) × (LE bb))) (hk3 : ∀ (j3 : Int) (l4 : LE bb) (r : (Bool) × (LE bb)), k3 j3 l4 = some r → sPI_K3 w0 W μ0 bb a b uu hh ww j i2 j3 l4 r) (r : (Bool) × (LE bb)) (h : sPI_c23 bb data a b uu hh ww j i2 j3 l4 k3 = some r) : sPI_K1000023 w0 W μ0 bb a b uu hh ww j i2 j3 l4 r := by
 unfold sPI_c23 at h
 obtain ⟨G1, h⟩ := gs_ h
 obtain ⟨y2, E3, h⟩ := bs_ h
 obtain ⟨G4, h⟩ := gs_ h
 obtain ⟨G5, h⟩ := gs_ h
 obtain ⟨y6, E7, h⟩ := bs_ h
 exact rtb_ hμ [] 15 [.reg [(9, hv_ ((v_E_ bb) y2)), (15, { os := [(0, gE_ bb ((l4.set j3.toNat y2)))] }), (17, { os := [(0, gE_ bb y6)] })], .reg [], .wk [(0, .gs 0 (y6).length)] []]
  (q0 (r8_ (ld_ (z_ bb) G1 (a_ (le_nm (v_E_ bb) E3) tr) (r2_ (ld_ (z_ bb) G4 tr (a_ (a_ (a_ (Eq.refl (z_ bb)) G4) tr) (a_ (a_ (a_ (Eq.refl (z_ bb)) (a_ (Nat.le_refl (z_ bb)) (ltN G4))) (a_ (sub_set_gr (c_E_ bb) default (z_ bb) l4 j3.toNat y2 (ltN G4) (splL (rowF (c_E_ bb) default l4 j3.toNat) 0 ((c_E_ bb) y2)) (by cases bb <;> kernel_rfl)) tr)) (a_ (a_ (a_ (Eq.refl (z_ bb)) G1) tr) (a_ (a_ (a_ (Eq.refl (z_ bb)) (a_ (Nat.le_refl (z_ bb)) G5)) (a_ (LO.Sub.trans (sub_set_gr (c_E_ bb) default (z_ bb) (l4.set j3.toNat y2) ((IntKind.wrap .i64 (j3 - 1))).toNat (l4.getD j3.toNat default) G5 (splL (rowF (c_E_ bb) default (l4.set j3.toNat y2) ((IntKind.wrap .i64 (j3 - 1))).toNat) 0 ((c_E_ bb) (l4.getD j3.toNat default))) (by cases bb <;> kernel_rfl)) (ng_ bb E7)) tr)) tr)))))))) (q2 tr) (q6 (le_gs 0 (show (l4).length = (y6).length from by simp [← si_ E7]))) tr) (hk3 _ _ r h) uS
theorem sPI_l3_ok (bb : Bool) {w0 W μ0} (hμ : Lt_ μ0 5) (data : LE bb) (a b : Int) (uu : UT) (hh ww : PT) (j i2 : Int) (k0 : (Int) → (Int) → (LE bb) → Option ((Bool) × (LE bb))) (hk0 : ∀ (i j : Int) (l : LE bb) (r : (Bool) × (LE bb)), k0 i j l = some r → sPI_K0 w0 W μ0 bb a b uu hh ww i j l r) : ∀ (fuel : Nat) (j3 : Int) (l4 : LE bb) (r : (Bool) × (LE bb)), sPI_l3 bb data a b uu hh ww j i2 k0 fuel j3 l4 = some r → sPI_K3 w0 W μ0 bb a b uu hh ww j i2 j3 l4 r := by
 intro fuel
 induction fuel with
 | zero => intro j3 l4 r h; rw [sPI_l3] at h; cases h
 | succ fuel ih =>
  intro j3 l4 r h
  rw [sPI_l3] at h
  rcases it_ h with ⟨C1, h⟩ | ⟨C1, h⟩
  ·obtain ⟨G2, h⟩ := gs_ h
   obtain ⟨G3, h⟩ := gs_ h
   obtain ⟨y4, E5, h⟩ := bs_ h
   obtain ⟨y7, E6, h⟩ := bs_ h
   rcases it_ h with ⟨C8, h⟩ | ⟨C8, h⟩
   ·exact rtb_ hμ [] 25 [.go, .reg [(2, hT)], .reg [(9, hv_ ((v_E_ bb) y4)), (10, hk_ (hK_ [1, 2, 3, 4] (cmp__v bb y7) (cmp__objs bb uu hh ww) (cmp__up bb uu hh ww y7))), (12, hT)]]
     (q3 (r2_ (f_ C1 tr)) (q2 (ld_ (z_ bb) G2 tr (r1_ (r2_ (ld_ (z_ bb) G3 (a_ (le_nm (v_E_ bb) E5) tr) (a_ (a_ (a_ (cmp__ok bb uu hh ww (l4.getD j3.toNat default) y4 y7 E6 (sel [1, 2, 3, 4]) sj_) (o4_ [.map 2, .map 3, .map 4] uu hh ww)) tr) (r1_ (f_ C8 tr))))))))) (sPI_c4_ok bb hμ data a b uu hh ww j i2 l4 k0 hk0 r h) uS
   ·exact rtb_ hμ [] 24 [.go, .reg [(2, hT)], .reg [(9, hv_ ((v_E_ bb) y4)), (10, hk_ (hK_ [1, 2, 3, 4] (cmp__v bb y7) (cmp__objs bb uu hh ww) (cmp__up bb uu hh ww y7))), (12, hF)]]
     (q3 (r2_ (f_ C1 tr)) (q2 (ld_ (z_ bb) G2 tr (r1_ (r2_ (ld_ (z_ bb) G3 (a_ (le_nm (v_E_ bb) E5) tr) (a_ (a_ (a_ (cmp__ok bb uu hh ww (l4.getD j3.toNat default) y4 y7 E6 (sel [1, 2, 3, 4]) sj_) (o4_ [.map 2, .map 3, .map 4] uu hh ww)) tr) (r1_ (f_ C8 tr))))))))) (sPI_c23_ok bb hμ data a b uu hh ww j i2 j3 l4 (sPI_l3 bb data a b uu hh ww j i2 k0 fuel) ih r h) uS
  ·exact rtb_ hμ [] 19 [.go, .reg [(2, hF)], .reg []]
    (q3 (r2_ (f_ C1 tr)) (q2 tr)) (hk0 _ _ _ r h) uS
abbrev sPI_K2 (bb : Bool) (a b : Int) (uu : UT) (hh ww : PT) (j i2 j2 : Int) (l3 : LE bb) (r : (Bool) × (LE bb)) : Prop := Kt_ w0 W μ0 (q_f106 bb) 5 5 (sPI_v bb r) (sPI_up bb uu hh ww r) (kAt (bodyOf (q_f106 bb)) 2) ((.gs 0 (l3).length) :: (.int .i64 a) :: (.int .i64 b) :: (.fn (n53_65 bb) [.ptr 1 0 0] []) :: n_ 5 ((.int .i64 i2) :: (.int .i64 j) :: (.int .i64 j2) :: n_ 129 [])) [some (gE_ bb l3), some (.var [.map 2, .map 3, .map 4]), some (oP1 uu []), some (oM3 hh), some (oM3 ww)]
abbrev sPI_K1000017 (bb : Bool) (a b : Int) (uu : UT) (hh ww : PT) (j i2 j2 : Int) (l3 : LE bb) (r : (Bool) × (LE bb)) : Prop := Kt_ w0 W μ0 (q_f106 bb) 5 5 (sPI_v bb r) (sPI_up bb uu hh ww r) (kAtR (bodyOf (q_f106 bb)) 17) ((.gs 0 (l3).length) :: (.int .i64 a) :: (.int .i64 b) :: (.fn (n53_65 bb) [.ptr 1 0 0] []) :: n_ 5 ((.int .i64 i2) :: (.int .i64 j) :: (.int .i64 j2) :: n_ 129 [])) [some (gE_ bb l3), some (.var [.map 2, .map 3, .map 4]), some (oP1 uu []), some (oM3 hh), some (oM3 ww)]
theorem sPI_c17_ok (bb : Bool) {w0 W μ0} (hμ : Lt_ μ0 5) (data : LE bb) (a b : Int) (uu : UT) (hh ww : PT) (j i2 j2 : Int) (l3 : LE bb) (k2 : (Int) → (LE bb) → Option ((Bool) × (LE bb))) (hk2 : ∀ (j2 : Int) (l3 : LE bb) (r : (Bool) × (LE bb)), k2 j2 l3 = some r → sPI_K2 w0 W μ0 bb a b uu hh ww j i2 j2 l3 r) (r : (Bool) × (LE bb)) (h : sPI_c17 bb data a b uu hh ww j i2 j2 l3 k2 = some r) : sPI_K1000017 w0 W μ0 bb a b uu hh ww j i2 j2 l3 r := by
 unfold sPI_c17 at h
 obtain ⟨G1, h⟩ := gs_ h
 obtain ⟨y2, E3, h⟩ := bs_ h
 obtain ⟨G4, h⟩ := gs_ h
 obtain ⟨G5, h⟩ := gs_ h
 obtain ⟨y6, E7, h⟩ := bs_ h
 exact rtb_ hμ [] 15 [.reg [(9, hv_ ((v_E_ bb) y2)), (15, { os := [(0, gE_ bb ((l3.set j2.toNat y2)))] }), (17, { os := [(0, gE_ bb y6)] })], .reg [], .wk [(0, .gs 0 (y6).length)] []]
  (q0 (r8_ (ld_ (z_ bb) G1 (a_ (le_nm (v_E_ bb) E3) tr) (r2_ (ld_ (z_ bb) G4 tr (a_ (a_ (a_ (Eq.refl (z_ bb)) G4) tr) (a_ (a_ (a_ (Eq.refl (z_ bb)) (a_ (Nat.le_refl (z_ bb)) (ltN G4))) (a_ (sub_set_gr (c_E_ bb) default (z_ bb) l3 j2.toNat y2 (ltN G4) (splL (rowF (c_E_ bb) default l3 j2.toNat) 0 ((c_E_ bb) y2)) (by cases bb <;> kernel_rfl)) tr)) (a_ (a_ (a_ (Eq.refl (z_ bb)) G1) tr) (a_ (a_ (a_ (Eq.refl (z_ bb)) (a_ (Nat.le_refl (z_ bb)) G5)) (a_ (LO.Sub.trans (sub_set_gr (c_E_ bb) default (z_ bb) (l3.set j2.toNat y2) ((IntKind.wrap .i64 (j2 - 1))).toNat (l3.getD j2.toNat default) G5 (splL (rowF (c_E_ bb) default (l3.set j2.toNat y2) ((IntKind.wrap .i64 (j2 - 1))).toNat) 0 ((c_E_ bb) (l3.getD j2.toNat default))) (by cases bb <;> kernel_rfl)) (ng_ bb E7)) tr)) tr)))))))) (q2 tr) (q6 (le_gs 0 (show (l3).length = (y6).length from by simp [← si_ E7]))) tr) (hk2 _ _ r h) uS
abbrev sPI_K1000018 (bb : Bool) (a b : Int) (uu : UT) (hh ww : PT) (j i2 : Int) (l3 : LE bb) (r : (Bool) × (LE bb)) : Prop := Kt_ w0 W μ0 (q_f106 bb) 5 5 (sPI_v bb r) (sPI_up bb uu hh ww r) (kAtR (bodyOf (q_f106 bb)) 18) ((.gs 0 (l3).length) :: (.int .i64 a) :: (.int .i64 b) :: (.fn (n53_65 bb) [.ptr 1 0 0] []) :: n_ 5 ((.int .i64 i2) :: (.int .i64 j) :: n_ 130 [])) [some (gE_ bb l3), some (.var [.map 2, .map 3, .map 4]), some (oP1 uu []), some (oM3 hh), some (oM3 ww)]
theorem sPI_c18_ok (bb : Bool) {w0 W μ0} (hμ : Lt_ μ0 5) (data : LE bb) (a b : Int) (uu : UT) (hh ww : PT) (j i2 : Int) (l3 : LE bb) (k0 : (Int) → (Int) → (LE bb) → Option ((Bool) × (LE bb))) (hk0 : ∀ (i j : Int) (l : LE bb) (r : (Bool) × (LE bb)), k0 i j l = some r → sPI_K0 w0 W μ0 bb a b uu hh ww i j l r) (r : (Bool) × (LE bb)) (h : sPI_c18 bb data a b uu hh ww j i2 l3 k0 = some r) : sPI_K1000018 w0 W μ0 bb a b uu hh ww j i2 l3 r := by
 unfold sPI_c18 at h
 rcases it_ h with ⟨C1, h⟩ | ⟨C1, h⟩
 ·exact rtb_ hμ [] 17 [.reg [(3, hT)], .reg []]
   (q3 (q2 (f_ C1 tr)) (q2 tr)) (sPI_l3_ok bb hμ data a b uu hh ww j i2 k0 hk0 big _ _ r h) uS
 ·exact rtb_ hμ [] 16 [.reg [(3, hF)], .reg []]
   (q3 (q2 (f_ C1 tr)) (q2 tr)) (hk0 _ _ _ r h) uS
theorem sPI_l2_ok (bb : Bool) {w0 W μ0} (hμ : Lt_ μ0 5) (data : LE bb) (a b : Int) (uu : UT) (hh ww : PT) (j i2 : Int) (k0 : (Int) → (Int) → (LE bb) → Option ((Bool) × (LE bb))) (hk0 : ∀ (i j : Int) (l : LE bb) (r : (Bool) × (LE bb)), k0 i j l = some r → sPI_K0 w0 W μ0 bb a b uu hh ww i j l r) : ∀ (fuel : Nat) (j2 : Int) (l3 : LE bb) (r : (Bool) × (LE bb)), sPI_l2 bb data a b uu hh ww j i2 k0 fuel j2 l3 = some r → sPI_K2 w0 W μ0 bb a b uu hh ww j i2 j2 l3 r := by
 intro fuel
 induction fuel with
 | zero => intro j2 l3 r h; rw [sPI_l2] at h; cases h
 | succ fuel ih =>
  intro j2 l3 r h
  rw [sPI_l2] at h
  rcases it_ h with ⟨C1, h⟩ | ⟨C1, h⟩
  ·obtain ⟨G2, h⟩ := gs_ h
   obtain ⟨G3, h⟩ := gs_ h
   obtain ⟨y4, E5, h⟩ := bs_ h
   obtain ⟨y7, E6, h⟩ := bs_ h
   rcases it_ h with ⟨C8, h⟩ | ⟨C8, h⟩
   ·exact rtb_ hμ [] 25 [.go, .reg [(1, hT)], .reg [(9, hv_ ((v_E_ bb) y4)), (10, hk_ (hK_ [1, 2, 3, 4] (cmp__v bb y7) (cmp__objs bb uu hh ww) (cmp__up bb uu hh ww y7))), (12, hT)]]
     (q27 (f_ C1 tr) (q2 (ld_ (z_ bb) G2 tr (r1_ (r2_ (ld_ (z_ bb) G3 (a_ (le_nm (v_E_ bb) E5) tr) (a_ (a_ (a_ (cmp__ok bb uu hh ww (l3.getD j2.toNat default) y4 y7 E6 (sel [1, 2, 3, 4]) sj_) (o4_ [.map 2, .map 3, .map 4] uu hh ww)) tr) (r1_ (f_ C8 tr))))))))) (sPI_c18_ok bb hμ data a b uu hh ww j i2 l3 k0 hk0 r h) uS
   ·exact rtb_ hμ [] 24 [.go, .reg [(1, hT)], .reg [(9, hv_ ((v_E_ bb) y4)), (10, hk_ (hK_ [1, 2, 3, 4] (cmp__v bb y7) (cmp__objs bb uu hh ww) (cmp__up bb uu hh ww y7))), (12, hF)]]
     (q27 (f_ C1 tr) (q2 (ld_ (z_ bb) G2 tr (r1_ (r2_ (ld_ (z_ bb) G3 (a_ (le_nm (v_E_ bb) E5) tr) (a_ (a_ (a_ (cmp__ok bb uu hh ww (l3.getD j2.toNat default) y4 y7 E6 (sel [1, 2, 3, 4]) sj_) (o4_ [.map 2, .map 3, .map 4] uu hh ww)) tr) (r1_ (f_ C8 tr))))))))) (sPI_c17_ok bb hμ data a b uu hh ww j i2 j2 l3 (sPI_l2 bb data a b uu hh ww j i2 k0 fuel) ih r h) uS
  ·rcases it_ h with ⟨C2, h⟩ | ⟨C2, h⟩
   ·exact rtb_ hμ [] 25 [.go, .reg [(1, hF)], .reg [(3, hT)], .reg []]
     (q0 (r1_ (f_ C1 tr)) (q2 (f_ C2 tr)) (q2 tr) tr) (sPI_l3_ok bb hμ data a b uu hh ww j i2 k0 hk0 big _ _ r h) uS
   ·exact rtb_ hμ [] 24 [.go, .reg [(1, hF)], .reg [(3, hF)], .reg []]
     (q0 (r1_ (f_ C1 tr)) (q2 (f_ C2 tr)) (q2 tr) tr) (hk0 _ _ _ r h) uS
theorem sPI_c12_ok (bb : Bool) {w0 W μ0} (hμ : Lt_ μ0 5) (data : LE bb) (a b : Int) (uu : UT) (hh ww : PT) (j i2 : Int) (k0 : (Int) → (Int) → (LE bb) → Option ((Bool) × (LE bb))) (hk0 : ∀ (i j : Int) (l : LE bb) (r : (Bool) × (LE bb)), k0 i j l = some r → sPI_K0 w0 W μ0 bb a b uu hh ww i j l r) (l2 : LE bb) (r : (Bool) × (LE bb)) (h : sPI_c12 bb data a b uu hh ww j i2 k0 l2 = some r) : sPI_K1000012 w0 W μ0 bb a b uu hh ww j i2 l2 r := by
 unfold sPI_c12 at h
 rcases it_ h with ⟨C1, h⟩ | ⟨C1, h⟩
 ·exact rtb_ hμ [] 17 [.reg [(3, hT)], .reg []]
   (q3 (q2 (f_ C1 tr)) (q2 tr)) (sPI_l2_ok bb hμ data a b uu hh ww j i2 k0 hk0 big _ _ r h) uS
 ·rcases it_ h with ⟨C2, h⟩ | ⟨C2, h⟩
  ·exact rtb_ hμ [] 22 [.reg [(3, hF)], .reg [(3, hT)], .reg []]
    (q0 (q2 (f_ C1 tr)) (q2 (f_ C2 tr)) (q2 tr) tr) (sPI_l3_ok bb hμ data a b uu hh ww j i2 k0 hk0 big _ _ r h) uS
  ·exact rtb_ hμ [] 21 [.reg [(3, hF)], .reg [(3, hF)], .reg []]
    (q0 (q2 (f_ C1 tr)) (q2 (f_ C2 tr)) (q2 tr) tr) (hk0 _ _ _ r h) uS
abbrev sPI_K1000006 (bb : Bool) (a b : Int) (uu : UT) (hh ww : PT) (j : Int) (l : LE bb) (i2 : Int) (r : (Bool) × (LE bb)) : Prop := Kt_ w0 W μ0 (q_f106 bb) 5 5 (sPI_v bb r) (sPI_up bb uu hh ww r) (kAtR (bodyOf (q_f106 bb)) 6) ((.gs 0 (l).length) :: (.int .i64 a) :: (.int .i64 b) :: (.fn (n53_65 bb) [.ptr 1 0 0] []) :: n_ 5 ((.int .i64 i2) :: (.int .i64 j) :: n_ 130 [])) [some (gE_ bb l), some (.var [.map 2, .map 3, .map 4]), some (oP1 uu []), some (oM3 hh), some (oM3 ww)]
theorem sPI_c6_ok (bb : Bool) {w0 W μ0} (hμ : Lt_ μ0 5) (data : LE bb) (a b : Int) (uu : UT) (hh ww : PT) (j : Int) (l : LE bb) (i2 : Int) (k1 : (Int) → Option ((Bool) × (LE bb))) (hk1 : ∀ (i2 : Int) (r : (Bool) × (LE bb)), k1 i2 = some r → sPI_K1 w0 W μ0 bb a b uu hh ww j l i2 r) (r : (Bool) × (LE bb)) (h : sPI_c6 bb data a b uu hh ww j l i2 k1 = some r) : sPI_K1000006 w0 W μ0 bb a b uu hh ww j l i2 r := by
 unfold sPI_c6 at h
 exact rtb_ hμ [] 12 [.reg []]
  (q17 tr) (hk1 _ r h) uS
abbrev sPI_K1000007 (bb : Bool) (a b : Int) (uu : UT) (hh ww : PT) (j : Int) (l : LE bb) (i2 : Int) (r : (Bool) × (LE bb)) : Prop := Kt_ w0 W μ0 (q_f106 bb) 5 5 (sPI_v bb r) (sPI_up bb uu hh ww r) (kAtR (bodyOf (q_f106 bb)) 7) ((.gs 0 (l).length) :: (.int .i64 a) :: (.int .i64 b) :: (.fn (n53_65 bb) [.ptr 1 0 0] []) :: n_ 5 ((.int .i64 i2) :: (.int .i64 j) :: n_ 130 [])) [some (gE_ bb l), some (.var [.map 2, .map 3, .map 4]), some (oP1 uu []), some (oM3 hh), some (oM3 ww)]
theorem sPI_c7_ok (bb : Bool) {w0 W μ0} (hμ : Lt_ μ0 5) (data : LE bb) (a b : Int) (uu : UT) (hh ww : PT) (j : Int) (l : LE bb) (i2 : Int) (k0 : (Int) → (Int) → (LE bb) → Option ((Bool) × (LE bb))) (hk0 : ∀ (i j : Int) (l : LE bb) (r : (Bool) × (LE bb)), k0 i j l = some r → sPI_K0 w0 W μ0 bb a b uu hh ww i j l r) (r : (Bool) × (LE bb)) (h : sPI_c7 bb data a b uu hh ww j l i2 k0 = some r) : sPI_K1000007 w0 W μ0 bb a b uu hh ww j l i2 r := by
 unfold sPI_c7 at h
 rcases it_ h with ⟨C1, h⟩ | ⟨C1, h⟩
 ·obtain rfl := si_ h
  exact rrb_ [] 15 [.reg [(2, hT)], .reg []]
   (q9 (r2_ (f_ C1 tr)) (r1_ tr))
 ·rcases it_ h with ⟨C2, h⟩ | ⟨C2, h⟩
  ·obtain rfl := si_ h
   exact rrb_ [] 21 [.reg [(2, hF)], .reg [(3, hT)], .reg []]
    (q1 (q11 (r2_ (f_ C1 tr)) (q2 (f_ C2 tr)) tr tr))
  ·obtain ⟨G3, h⟩ := gs_ h
   obtain ⟨y4, E5, h⟩ := bs_ h
   obtain ⟨G6, h⟩ := gs_ h
   obtain ⟨G7, h⟩ := gs_ h
   obtain ⟨y8, E9, h⟩ := bs_ h
   exact rtb_ hμ [] 25 [.reg [(2, hF)], .reg [(3, hF)], .reg [(9, hv_ ((v_E_ bb) y4)), (15, { os := [(0, gE_ bb ((l.set i2.toNat y4)))] }), (17, { os := [(0, gE_ bb y8)] })], .wk [(0, .gs 0 (y8).length)] []]
    (q0 (r2_ (f_ C1 tr)) (q2 (f_ C2 tr)) (r8_ (ld_ (z_ bb) G3 (a_ (le_nm (v_E_ bb) E5) tr) (r2_ (ld_ (z_ bb) G6 tr (a_ (a_ (a_ (Eq.refl (z_ bb)) G6) tr) (a_ (a_ (a_ (Eq.refl (z_ bb)) (a_ (Nat.le_refl (z_ bb)) (ltN G6))) (a_ (sub_set_gr (c_E_ bb) default (z_ bb) l i2.toNat y4 (ltN G6) (splL (rowF (c_E_ bb) default l i2.toNat) 0 ((c_E_ bb) y4)) (by cases bb <;> kernel_rfl)) tr)) (a_ (a_ (a_ (Eq.refl (z_ bb)) G3) tr) (a_ (a_ (a_ (Eq.refl (z_ bb)) (a_ (Nat.le_refl (z_ bb)) G7)) (a_ (LO.Sub.trans (sub_set_gr (c_E_ bb) default (z_ bb) (l.set i2.toNat y4) ((IntKind.wrap .i64 (i2 - 1))).toNat (l.getD i2.toNat default) G7 (splL (rowF (c_E_ bb) default (l.set i2.toNat y4) ((IntKind.wrap .i64 (i2 - 1))).toNat) 0 ((c_E_ bb) (l.getD i2.toNat default))) (by cases bb <;> kernel_rfl)) (ng_ bb E9)) tr)) tr)))))))) (q6 (q1 (le_gs 0 (show (l).length = (y8).length from by simp [← si_ E9]))))) (sPI_c12_ok bb hμ data a b uu hh ww j i2 k0 hk0 _ r h) uS
theorem sPI_l1_ok (bb : Bool) {w0 W μ0} (hμ : Lt_ μ0 5) (data : LE bb) (a b : Int) (uu : UT) (hh ww : PT) (j : Int) (l : LE bb) (k0 : (Int) → (Int) → (LE bb) → Option ((Bool) × (LE bb))) (hk0 : ∀ (i j : Int) (l : LE bb) (r : (Bool) × (LE bb)), k0 i j l = some r → sPI_K0 w0 W μ0 bb a b uu hh ww i j l r) : ∀ (fuel : Nat) (i2 : Int) (r : (Bool) × (LE bb)), sPI_l1 bb data a b uu hh ww j l k0 fuel i2 = some r → sPI_K1 w0 W μ0 bb a b uu hh ww j l i2 r := by
 intro fuel
 induction fuel with
 | zero => intro i2 r h; rw [sPI_l1] at h; cases h
 | succ fuel ih =>
  intro i2 r h
  rw [sPI_l1] at h
  rcases it_ h with ⟨C1, h⟩ | ⟨C1, h⟩
  ·obtain ⟨G2, h⟩ := gs_ h
   obtain ⟨G3, h⟩ := gs_ h
   obtain ⟨y4, E5, h⟩ := bs_ h
   obtain ⟨y7, E6, h⟩ := bs_ h
   rcases it_ h with ⟨C8, h⟩ | ⟨C8, h⟩
   ·exact rtb_ hμ [] 17 [.go, .reg [(3, hT), (13, hv_ ((v_E_ bb) y4)), (14, hk_ (hK_ [1, 2, 3, 4] (cmp__v bb y7) (cmp__objs bb uu hh ww) (cmp__up bb uu hh ww y7))), (17, hT)]]
     (q17 (f_ C1 (r1_ (r2_ (ld_ (z_ bb) G2 tr (r1_ (r2_ (ld_ (z_ bb) G3 (a_ (le_nm (v_E_ bb) E5) tr) (a_ (a_ (a_ (cmp__ok bb uu hh ww (l.getD i2.toNat default) y4 y7 E6 (sel [1, 2, 3, 4]) sj_) (o4_ [.map 2, .map 3, .map 4] uu hh ww)) tr) (r2_ (f_ C8 tr))))))))))) (sPI_c6_ok bb hμ data a b uu hh ww j l i2 (sPI_l1 bb data a b uu hh ww j l k0 fuel) ih r h) uS
   ·exact rtb_ hμ [] 18 [.go, .reg [(3, hT), (13, hv_ ((v_E_ bb) y4)), (14, hk_ (hK_ [1, 2, 3, 4] (cmp__v bb y7) (cmp__objs bb uu hh ww) (cmp__up bb uu hh ww y7))), (17, hF)]]
     (q17 (f_ C1 (r1_ (r2_ (ld_ (z_ bb) G2 tr (r1_ (r2_ (ld_ (z_ bb) G3 (a_ (le_nm (v_E_ bb) E5) tr) (a_ (a_ (a_ (cmp__ok bb uu hh ww (l.getD i2.toNat default) y4 y7 E6 (sel [1, 2, 3, 4]) sj_) (o4_ [.map 2, .map 3, .map 4] uu hh ww)) tr) (r2_ (f_ C8 tr))))))))))) (sPI_c7_ok bb hμ data a b uu hh ww j l i2 k0 hk0 r h) uS
  ·rcases it_ h with ⟨C2, h⟩ | ⟨C2, h⟩
   ·obtain rfl := si_ h
    exact rrb_ [] 24 [.go, .reg [(3, hF)], .reg [(2, hT)], .reg []]
     (q1 (q11 (q2 (f_ C1 (a_ tr (t4_ (t8_ (r1_ tr)))))) (r2_ (f_ C2 tr)) tr tr))
   ·rcases it_ h with ⟨C3, h⟩ | ⟨C3, h⟩
    ·obtain rfl := si_ h
     exact rrb_ [] 30 [.go, .reg [(3, hF)], .reg [(2, hF)], .reg [(3, hT)], .reg []]
      (q16 (q2 (f_ C1 (a_ tr (t4_ (t8_ (r1_ tr)))))) (r2_ (f_ C2 tr)) (q2 (f_ C3 tr)) (q19 tr))
    ·obtain ⟨G4, h⟩ := gs_ h
     obtain ⟨y5, E6, h⟩ := bs_ h
     obtain ⟨G7, h⟩ := gs_ h
     obtain ⟨G8, h⟩ := gs_ h
     obtain ⟨y9, E10, h⟩ := bs_ h
     exact rtb_ hμ [] 34 [.go, .reg [(3, hF)], .reg [(2, hF)], .reg [(3, hF)], .reg [(9, hv_ ((v_E_ bb) y5)), (15, { os := [(0, gE_ bb ((l.set i2.toNat y5)))] }), (17, { os := [(0, gE_ bb y9)] })], .wk [(0, .gs 0 (y9).length)] []]
      (q0 (q2 (f_ C1 (a_ tr (t4_ (t8_ (r1_ tr)))))) (r2_ (f_ C2 tr)) (q2 (f_ C3 tr)) (q3 (r8_ (ld_ (z_ bb) G4 (a_ (le_nm (v_E_ bb) E6) tr) (r2_ (ld_ (z_ bb) G7 tr (a_ (a_ (a_ (Eq.refl (z_ bb)) G7) tr) (a_ (a_ (a_ (Eq.refl (z_ bb)) (a_ (Nat.le_refl (z_ bb)) (ltN G7))) (a_ (sub_set_gr (c_E_ bb) default (z_ bb) l i2.toNat y5 (ltN G7) (splL (rowF (c_E_ bb) default l i2.toNat) 0 ((c_E_ bb) y5)) (by cases bb <;> kernel_rfl)) tr)) (a_ (a_ (a_ (Eq.refl (z_ bb)) G4) tr) (a_ (a_ (a_ (Eq.refl (z_ bb)) (a_ (Nat.le_refl (z_ bb)) G8)) (a_ (LO.Sub.trans (sub_set_gr (c_E_ bb) default (z_ bb) (l.set i2.toNat y5) ((IntKind.wrap .i64 (i2 - 1))).toNat (l.getD i2.toNat default) G8 (splL (rowF (c_E_ bb) default (l.set i2.toNat y5) ((IntKind.wrap .i64 (i2 - 1))).toNat) 0 ((c_E_ bb) (l.getD i2.toNat default))) (by cases bb <;> kernel_rfl)) (ng_ bb E10)) tr)) tr)))))))) (q6 (le_gs 0 (show (l).length = (y9).length from by simp [← si_ E10]))))) (sPI_c12_ok bb hμ data a b uu hh ww j i2 k0 hk0 _ r h) uS
theorem sPI_l0_ok (bb : Bool) {w0 W μ0} (hμ : Lt_ μ0 5) (data : LE bb) (a b : Int) (uu : UT) (hh ww : PT) : ∀ (fuel : Nat) (i j : Int) (l : LE bb) (r : (Bool) × (LE bb)), sPI_l0 bb data a b uu hh ww fuel i j l = some r → sPI_K0 w0 W μ0 bb a b uu hh ww i j l r := by
 intro fuel
 induction fuel with
 | zero => intro i j l r h; rw [sPI_l0] at h; cases h
 | succ fuel ih =>
  intro i j l r h
  rw [sPI_l0] at h
  rcases it_ h with ⟨C1, h⟩ | ⟨C1, h⟩
  ·exact rtb_ hμ [] 21 [.go, .reg [(1, hT)]]
    (q19 (f_ C1 tr)) (sPI_l1_ok bb hμ data a b uu hh ww j l (sPI_l0 bb data a b uu hh ww fuel) ih big _ r h) uS
  ·obtain rfl := si_ h
   exact rrb_ [] 19 [.go, .reg [(1, hF)], .reg []]
    (q9 (r1_ (f_ C1 tr)) (r1_ tr))
theorem sPI_ok (bb : Bool) (data : LE bb) (a b : Int) (uu : UT) (hh ww : PT) (r : (Bool) × (LE bb)) (h : sPI bb data a b uu hh ww = some r) : ∀ σ, Inj 5 σ → FnTri Tryz.prog (n106_132 bb) (renL σ [.gs 0 (data).length, .int .i64 a, .int .i64 b, .fn (n53_65 bb) [.ptr 1 0 0] []]) (preOf σ 0 (sPI_objs bb data uu hh ww)) ((sPI_v bb r).ren σ) (upOf σ (sPI_up bb uu hh ww r)) := by
 refine fn_of (q_func106 bb) (by cases bb <;> kernel_rfl) (by cases bb <;> kernel_rfl) (by cases bb <;> kernel_rfl) ⟨fun _ _ => by cases bb <;> rfl, rfl, uP, trivial, trivial, trivial⟩ (by cases bb <;> kernel_rfl) ⟨fun _ _ => by cases bb <;> rfl, rfl, uP, trivial, trivial, trivial⟩ (by cases bb <;> kernel_rfl) ?_
 intro w0 W μ0 hμ
 unfold sPI at h
 exact rtb_ hμ [] 21 [.reg [], .reg [], .reg []]
  (q11 (r1_ tr) (q2 tr) tr tr) (sPI_l0_ok bb hμ data a b uu hh ww big _ _ _ r h) uS
abbrev sPD_b_K1000016 (bb : Bool) (uu : UT) (hh ww : PT) (a2 b2 : Int) (wasBalanced wasPartitioned : Bool) (limit3 pivot : Int) (l2 : LE bb) (r : (LE bb)) : Prop := Kt_ w0 W μ0 (q_f82 bb) 5 5 (sPD_b_v bb r) (sPD_b_up bb uu hh ww r) (kAtR (bodyOf (q_f82 bb)) 16) ((.gs 0 (l2).length) :: (.int .i64 a2) :: (.int .i64 b2) :: (.int .i64 limit3) :: (.fn (n53_65 bb) [.ptr 1 0 0] []) :: n_ 5 ((.bool wasBalanced) :: (.bool wasPartitioned) :: (.int .i64 (IntKind.wrap .i64 (b2 - a2))) :: (.int .i64 pivot) :: n_ 134 [])) [some (gE_ bb l2), some (.var [.map 2, .map 3, .map 4]), some (oP1 uu []), some (oM3 hh), some (oM3 ww)]
def sPE_v (bb : Bool) (r : (Int) × (LE bb)) : LV := .int .i64 r.1
def sPE_up (bb : Bool) (uu : UT) (hh ww : PT) (r : (Int) × (LE bb)) : Upd := [(0, some (gE_ bb (r.2))), (1, some (.var [.map 2, .map 3, .map 4])), (2, some (oP1 uu [])), (3, some (oM3 hh)), (4, some (oM3 ww))]
def sPE_objs (bb : Bool) (data : LE bb) (uu : UT) (hh ww : PT) : List LO := [gE_ bb data, .var [.map 2, .map 3, .map 4], oP1 uu [], oM3 hh, oM3 ww]
abbrev sPE_K0 (bb : Bool) (a : Int) (uu : UT) (hh ww : PT) (i j : Int) (l : LE bb) (r : (Int) × (LE bb)) : Prop := Kt_ w0 W μ0 (q_f107 bb) 5 5 (sPE_v bb r) (sPE_up bb uu hh ww r) (kAt (bodyOf (q_f107 bb)) 0) ((.gs 0 (l).length) :: (.int .i64 a) :: .any :: .any :: (.fn (n53_65 bb) [.ptr 1 0 0] []) :: n_ 6 ((.int .i64 i) :: (.int .i64 j) :: n_ 77 [])) [some (gE_ bb l), some (.var [.map 2, .map 3, .map 4]), some (oP1 uu []), some (oM3 hh), some (oM3 ww)]
abbrev sPE_K1 (bb : Bool) (a : Int) (uu : UT) (hh ww : PT) (j : Int) (l : LE bb) (i2 : Int) (r : (Int) × (LE bb)) : Prop := Kt_ w0 W μ0 (q_f107 bb) 5 5 (sPE_v bb r) (sPE_up bb uu hh ww r) (kAt (bodyOf (q_f107 bb)) 1) ((.gs 0 (l).length) :: (.int .i64 a) :: .any :: .any :: (.fn (n53_65 bb) [.ptr 1 0 0] []) :: n_ 6 ((.int .i64 i2) :: (.int .i64 j) :: n_ 77 [])) [some (gE_ bb l), some (.var [.map 2, .map 3, .map 4]), some (oP1 uu []), some (oM3 hh), some (oM3 ww)]
abbrev sPE_K2 (bb : Bool) (a : Int) (uu : UT) (hh ww : PT) (l : LE bb) (i2 j2 : Int) (r : (Int) × (LE bb)) : Prop := Kt_ w0 W μ0 (q_f107 bb) 5 5 (sPE_v bb r) (sPE_up bb uu hh ww r) (kAt (bodyOf (q_f107 bb)) 2) ((.gs 0 (l).length) :: (.int .i64 a) :: .any :: .any :: (.fn (n53_65 bb) [.ptr 1 0 0] []) :: n_ 6 ((.int .i64 i2) :: (.int .i64 j2) :: n_ 77 [])) [some (gE_ bb l), some (.var [.map 2, .map 3, .map 4]), some (oP1 uu []), some (oM3 hh), some (oM3 ww)]
abbrev sPE_K1000009 (bb : Bool) (a : Int) (uu : UT) (hh ww : PT) (i2 j2 : Int) (y6 : LE bb) (r : (Int) × (LE bb)) : Prop := Kt_ w0 W μ0 (q_f107 bb) 5 5 (sPE_v bb r) (sPE_up bb uu hh ww r) (kAtR (bodyOf (q_f107 bb)) 9) ((.gs 0 (y6).length) :: (.int .i64 a) :: .any :: .any :: (.fn (n53_65 bb) [.ptr 1 0 0] []) :: n_ 6 ((.int .i64 i2) :: (.int .i64 j2) :: n_ 77 [])) [some (gE_ bb y6), some (.var [.map 2, .map 3, .map 4]), some (oP1 uu []), some (oM3 hh), some (oM3 ww)]
theorem sPE_c9_ok (bb : Bool) {w0 W μ0} (hμ : Lt_ μ0 5) (data : LE bb) (a b pivot : Int) (uu : UT) (hh ww : PT) (i2 j2 : Int) (y6 : LE bb) (k0 : (Int) → (Int) → (LE bb) → Option ((Int) × (LE bb))) (hk0 : ∀ (i j : Int) (l : LE bb) (r : (Int) × (LE bb)), k0 i j l = some r → sPE_K0 w0 W μ0 bb a uu hh ww i j l r) (r : (Int) × (LE bb)) (h : sPE_c9 bb data a b pivot uu hh ww i2 j2 y6 k0 = some r) : sPE_K1000009 w0 W μ0 bb a uu hh ww i2 j2 y6 r := by
 unfold sPE_c9 at h
 exact rtb_ hμ [] 14 [.reg [], .reg []]
  (q3 (q2 tr) (q2 tr)) (hk0 _ _ _ r h) uS
abbrev sPE_K1000006 (bb : Bool) (a : Int) (uu : UT) (hh ww : PT) (l : LE bb) (i2 j2 : Int) (r : (Int) × (LE bb)) : Prop := Kt_ w0 W μ0 (q_f107 bb) 5 5 (sPE_v bb r) (sPE_up bb uu hh ww r) (kAtR (bodyOf (q_f107 bb)) 6) ((.gs 0 (l).length) :: (.int .i64 a) :: .any :: .any :: (.fn (n53_65 bb) [.ptr 1 0 0] []) :: n_ 6 ((.int .i64 i2) :: (.int .i64 j2) :: n_ 77 [])) [some (gE_ bb l), some (.var [.map 2, .map 3, .map 4]), some (oP1 uu []), some (oM3 hh), some (oM3 ww)]
theorem sPE_c6_ok (bb : Bool) {w0 W μ0} (hμ : Lt_ μ0 5) (data : LE bb) (a b pivot : Int) (uu : UT) (hh ww : PT) (l : LE bb) (i2 j2 : Int) (k2 : (Int) → Option ((Int) × (LE bb))) (hk2 : ∀ (j2 : Int) (r : (Int) × (LE bb)), k2 j2 = some r → sPE_K2 w0 W μ0 bb a uu hh ww l i2 j2 r) (r : (Int) × (LE bb)) (h : sPE_c6 bb data a b pivot uu hh ww l i2 j2 k2 = some r) : sPE_K1000006 w0 W μ0 bb a uu hh ww l i2 j2 r := by
 unfold sPE_c6 at h
 exact rtb_ hμ [] 12 [.reg []]
  (q17 tr) (hk2 _ r h) uS
abbrev sPE_K1000007 (bb : Bool) (a : Int) (uu : UT) (hh ww : PT) (l : LE bb) (i2 j2 : Int) (r : (Int) × (LE bb)) : Prop := Kt_ w0 W μ0 (q_f107 bb) 5 5 (sPE_v bb r) (sPE_up bb uu hh ww r) (kAtR (bodyOf (q_f107 bb)) 7) ((.gs 0 (l).length) :: (.int .i64 a) :: .any :: .any :: (.fn (n53_65 bb) [.ptr 1 0 0] []) :: n_ 6 ((.int .i64 i2) :: (.int .i64 j2) :: n_ 77 [])) [some (gE_ bb l), some (.var [.map 2, .map 3, .map 4]), some (oP1 uu []), some (oM3 hh), some (oM3 ww)]
theorem sPE_c7_ok (bb : Bool) {w0 W μ0} (hμ : Lt_ μ0 5) (data : LE bb) (a b pivot : Int) (uu : UT) (hh ww : PT) (l : LE bb) (i2 j2 : Int) (k0 : (Int) → (Int) → (LE bb) → Option ((Int) × (LE bb))) (hk0 : ∀ (i j : Int) (l : LE bb) (r : (Int) × (LE bb)), k0 i j l = some r → sPE_K0 w0 W μ0 bb a uu hh ww i j l r) (r : (Int) × (LE bb)) (h : sPE_c7 bb data a b pivot uu hh ww l i2 j2 k0 = some r) : sPE_K1000007 w0 W μ0 bb a uu hh ww l i2 j2 r := by
 unfold sPE_c7 at h
 rcases it_ h with ⟨C1, h⟩ | ⟨C1, h⟩
 ·obtain rfl := si_ h
  exact rrb_ [] 16 [.reg [(2, hT)], .reg []]
   (q9 (r2_ (f_ C1 tr)) (r2_ tr))
 ·obtain ⟨G2, h⟩ := gs_ h
  obtain ⟨G3, h⟩ := gs_ h
  obtain ⟨G4, h⟩ := gs_ h
  obtain ⟨y5, E6, h⟩ := bs_ h
  exact rtb_ hμ [] 23 [.reg [(2, hF)], .reg [(13, { os := [(0, gE_ bb ((l.set i2.toNat (l.getD j2.toNat default))))] }), (15, { os := [(0, gE_ bb y5)] })], .reg [], .reg [], .wk [(0, .gs 0 (y5).length)] []]
   (q0 (r2_ (f_ C1 tr)) (q23 (ld_ (z_ bb) G2 tr (r2_ (ld_ (z_ bb) G3 tr (a_ (a_ (a_ (Eq.refl (z_ bb)) G3) tr) (a_ (a_ (a_ (Eq.refl (z_ bb)) (a_ (Nat.le_refl (z_ bb)) (ltN G3))) (a_ (sub_set_gr (c_E_ bb) default (z_ bb) l i2.toNat (l.getD j2.toNat default) (ltN G3) (splL (rowF (c_E_ bb) default l i2.toNat) 0 ((c_E_ bb) (l.getD j2.toNat default))) (by cases bb <;> kernel_rfl)) tr)) (a_ (a_ (a_ (Eq.refl (z_ bb)) G2) tr) (a_ (a_ (a_ (Eq.refl (z_ bb)) (a_ (Nat.le_refl (z_ bb)) G4)) (a_ (LO.Sub.trans (sub_set_gr (c_E_ bb) default (z_ bb) (l.set i2.toNat (l.getD j2.toNat default)) j2.toNat (l.getD i2.toNat default) G4 (splL (rowF (c_E_ bb) default (l.set i2.toNat (l.getD j2.toNat default)) j2.toNat) 0 ((c_E_ bb) (l.getD i2.toNat default))) (by cases bb <;> kernel_rfl)) (ng_ bb E6)) tr)) tr)))))))) (q2 tr) (q3 (q2 tr) (q6 (le_gs 0 (show (l).length = (y5).length from by simp [← si_ E6]))))) (hk0 _ _ _ r h) uS
theorem sPE_l2_ok (bb : Bool) {w0 W μ0} (hμ : Lt_ μ0 5) (data : LE bb) (a b pivot : Int) (uu : UT) (hh ww : PT) (l : LE bb) (i2 : Int) (k0 : (Int) → (Int) → (LE bb) → Option ((Int) × (LE bb))) (hk0 : ∀ (i j : Int) (l : LE bb) (r : (Int) × (LE bb)), k0 i j l = some r → sPE_K0 w0 W μ0 bb a uu hh ww i j l r) : ∀ (fuel : Nat) (j2 : Int) (r : (Int) × (LE bb)), sPE_l2 bb data a b pivot uu hh ww l i2 k0 fuel j2 = some r → sPE_K2 w0 W μ0 bb a uu hh ww l i2 j2 r := by
 intro fuel
 induction fuel with
 | zero => intro j2 r h; rw [sPE_l2] at h; cases h
 | succ fuel ih =>
  intro j2 r h
  rw [sPE_l2] at h
  rcases it_ h with ⟨C1, h⟩ | ⟨C1, h⟩
  ·obtain ⟨G2, h⟩ := gs_ h
   obtain ⟨G3, h⟩ := gs_ h
   obtain ⟨y5, E4, h⟩ := bs_ h
   rcases it_ h with ⟨C6, h⟩ | ⟨C6, h⟩
   ·exact rtb_ hμ [] 17 [.go, .reg [(3, hT), (13, hk_ (hK_ [1, 2, 3, 4] (cmp__v bb y5) (cmp__objs bb uu hh ww) (cmp__up bb uu hh ww y5))), (15, hT)]]
     (q17 (f_ C1 (r1_ (r2_ (ld_ (z_ bb) G2 tr (r2_ (ld_ (z_ bb) G3 tr (a_ (a_ (a_ (cmp__ok bb uu hh ww (l.getD a.toNat default) (l.getD j2.toNat default) y5 E4 (sel [1, 2, 3, 4]) sj_) (o4_ [.map 2, .map 3, .map 4] uu hh ww)) tr) (r1_ (f_ C6 tr)))))))))) (sPE_c6_ok bb hμ data a b pivot uu hh ww l i2 j2 (sPE_l2 bb data a b pivot uu hh ww l i2 k0 fuel) ih r h) uS
   ·exact rtb_ hμ [] 18 [.go, .reg [(3, hT), (13, hk_ (hK_ [1, 2, 3, 4] (cmp__v bb y5) (cmp__objs bb uu hh ww) (cmp__up bb uu hh ww y5))), (15, hF)]]
     (q17 (f_ C1 (r1_ (r2_ (ld_ (z_ bb) G2 tr (r2_ (ld_ (z_ bb) G3 tr (a_ (a_ (a_ (cmp__ok bb uu hh ww (l.getD a.toNat default) (l.getD j2.toNat default) y5 E4 (sel [1, 2, 3, 4]) sj_) (o4_ [.map 2, .map 3, .map 4] uu hh ww)) tr) (r1_ (f_ C6 tr)))))))))) (sPE_c7_ok bb hμ data a b pivot uu hh ww l i2 j2 k0 hk0 r h) uS
  ·rcases it_ h with ⟨C2, h⟩ | ⟨C2, h⟩
   ·obtain rfl := si_ h
    exact rrb_ [] 25 [.go, .reg [(3, hF)], .reg [(2, hT)], .reg []]
     (q16 (q2 (f_ C1 (a_ tr (t2_ (t8_ (r1_ tr)))))) (r2_ (f_ C2 tr)) (r2_ tr) tr)
   ·obtain ⟨G3, h⟩ := gs_ h
    obtain ⟨G4, h⟩ := gs_ h
    obtain ⟨G5, h⟩ := gs_ h
    obtain ⟨y6, E7, h⟩ := bs_ h
    exact rtb_ hμ [] 27 [.go, .reg [(3, hF)], .reg [(2, hF)], .reg [(13, { os := [(0, gE_ bb ((l.set i2.toNat (l.getD j2.toNat default))))] }), (15, { os := [(0, gE_ bb y6)] })], .wk [(0, .gs 0 (y6).length)] []]
     (q0 (q2 (f_ C1 (a_ tr (t2_ (t8_ (r1_ tr)))))) (r2_ (f_ C2 tr)) (q23 (ld_ (z_ bb) G3 tr (r2_ (ld_ (z_ bb) G4 tr (a_ (a_ (a_ (Eq.refl (z_ bb)) G4) tr) (a_ (a_ (a_ (Eq.refl (z_ bb)) (a_ (Nat.le_refl (z_ bb)) (ltN G4))) (a_ (sub_set_gr (c_E_ bb) default (z_ bb) l i2.toNat (l.getD j2.toNat default) (ltN G4) (splL (rowF (c_E_ bb) default l i2.toNat) 0 ((c_E_ bb) (l.getD j2.toNat default))) (by cases bb <;> kernel_rfl)) tr)) (a_ (a_ (a_ (Eq.refl (z_ bb)) G3) tr) (a_ (a_ (a_ (Eq.refl (z_ bb)) (a_ (Nat.le_refl (z_ bb)) G5)) (a_ (LO.Sub.trans (sub_set_gr (c_E_ bb) default (z_ bb) (l.set i2.toNat (l.getD j2.toNat default)) j2.toNat (l.getD i2.toNat default) G5 (splL (rowF (c_E_ bb) default (l.set i2.toNat (l.getD j2.toNat default)) j2.toNat) 0 ((c_E_ bb) (l.getD i2.toNat default))) (by cases bb <;> kernel_rfl)) (ng_ bb E7)) tr)) tr)))))))) (q6 (q1 (le_gs 0 (show (l).length = (y6).length from by simp [← si_ E7]))))) (sPE_c9_ok bb hμ data a b pivot uu hh ww i2 j2 y6 k0 hk0 r h) uS
abbrev sPE_K1000004 (bb : Bool) (a : Int) (uu : UT) (hh ww : PT) (j : Int) (l : LE bb) (i2 : Int) (r : (Int) × (LE bb)) : Prop := Kt_ w0 W μ0 (q_f107 bb) 5 5 (sPE_v bb r) (sPE_up bb uu hh ww r) (kAtR (bodyOf (q_f107 bb)) 4) ((.gs 0 (l).length) :: (.int .i64 a) :: .any :: .any :: (.fn (n53_65 bb) [.ptr 1 0 0] []) :: n_ 6 ((.int .i64 i2) :: (.int .i64 j) :: n_ 77 [])) [some (gE_ bb l), some (.var [.map 2, .map 3, .map 4]), some (oP1 uu []), some (oM3 hh), some (oM3 ww)]
theorem sPE_c4_ok (bb : Bool) {w0 W μ0} (hμ : Lt_ μ0 5) (data : LE bb) (a b pivot : Int) (uu : UT) (hh ww : PT) (j : Int) (l : LE bb) (i2 : Int) (k1 : (Int) → Option ((Int) × (LE bb))) (hk1 : ∀ (i2 : Int) (r : (Int) × (LE bb)), k1 i2 = some r → sPE_K1 w0 W μ0 bb a uu hh ww j l i2 r) (r : (Int) × (LE bb)) (h : sPE_c4 bb data a b pivot uu hh ww j l i2 k1 = some r) : sPE_K1000004 w0 W μ0 bb a uu hh ww j l i2 r := by
 unfold sPE_c4 at h
 exact rtb_ hμ [] 12 [.reg []]
  (q17 tr) (hk1 _ r h) uS
theorem sPE_l1_ok (bb : Bool) {w0 W μ0} (hμ : Lt_ μ0 5) (data : LE bb) (a b pivot : Int) (uu : UT) (hh ww : PT) (j : Int) (l : LE bb) (k0 : (Int) → (Int) → (LE bb) → Option ((Int) × (LE bb))) (hk0 : ∀ (i j : Int) (l : LE bb) (r : (Int) × (LE bb)), k0 i j l = some r → sPE_K0 w0 W μ0 bb a uu hh ww i j l r) : ∀ (fuel : Nat) (i2 : Int) (r : (Int) × (LE bb)), sPE_l1 bb data a b pivot uu hh ww j l k0 fuel i2 = some r → sPE_K1 w0 W μ0 bb a uu hh ww j l i2 r := by
 intro fuel
 induction fuel with
 | zero => intro i2 r h; rw [sPE_l1] at h; cases h
 | succ fuel ih =>
  intro i2 r h
  rw [sPE_l1] at h
  rcases it_ h with ⟨C1, h⟩ | ⟨C1, h⟩
  ·obtain ⟨G2, h⟩ := gs_ h
   obtain ⟨G3, h⟩ := gs_ h
   obtain ⟨y5, E4, h⟩ := bs_ h
   rcases it_ h with ⟨C6, h⟩ | ⟨C6, h⟩
   ·exact rtb_ hμ [] 17 [.go, .reg [(3, hT), (13, hk_ (hK_ [1, 2, 3, 4] (cmp__v bb y5) (cmp__objs bb uu hh ww) (cmp__up bb uu hh ww y5))), (16, hT)]]
     (q17 (f_ C1 (r1_ (r2_ (ld_ (z_ bb) G2 tr (r2_ (ld_ (z_ bb) G3 tr (a_ (a_ (a_ (cmp__ok bb uu hh ww (l.getD a.toNat default) (l.getD i2.toNat default) y5 E4 (sel [1, 2, 3, 4]) sj_) (o4_ [.map 2, .map 3, .map 4] uu hh ww)) tr) (r2_ (f_ C6 tr)))))))))) (sPE_c4_ok bb hμ data a b pivot uu hh ww j l i2 (sPE_l1 bb data a b pivot uu hh ww j l k0 fuel) ih r h) uS
   ·exact rtb_ hμ [] 19 [.go, .reg [(3, hT), (13, hk_ (hK_ [1, 2, 3, 4] (cmp__v bb y5) (cmp__objs bb uu hh ww) (cmp__up bb uu hh ww y5))), (16, hF)]]
     (q17 (f_ C1 (r1_ (r2_ (ld_ (z_ bb) G2 tr (r2_ (ld_ (z_ bb) G3 tr (a_ (a_ (a_ (cmp__ok bb uu hh ww (l.getD a.toNat default) (l.getD i2.toNat default) y5 E4 (sel [1, 2, 3, 4]) sj_) (o4_ [.map 2, .map 3, .map 4] uu hh ww)) tr) (r2_ (f_ C6 tr)))))))))) (sPE_l2_ok bb hμ data a b pivot uu hh ww l i2 k0 hk0 big _ r h) uS
  ·exact rtb_ hμ [] 19 [.go, .reg [(3, hF)]]
    (q17 (f_ C1 (t4_ (t8_ (r1_ tr))))) (sPE_l2_ok bb hμ data a b pivot uu hh ww l i2 k0 hk0 big _ r h) uS
theorem sPE_l0_ok (bb : Bool) {w0 W μ0} (hμ : Lt_ μ0 5) (data : LE bb) (a b pivot : Int) (uu : UT) (hh ww : PT) : ∀ (fuel : Nat) (i j : Int) (l : LE bb) (r : (Int) × (LE bb)), sPE_l0 bb data a b pivot uu hh ww fuel i j l = some r → sPE_K0 w0 W μ0 bb a uu hh ww i j l r := by
 intro fuel
 induction fuel with
 | zero => intro i j l r h; rw [sPE_l0] at h; cases h
 | succ fuel ih =>
  intro i j l r h
  rw [sPE_l0] at h
  exact rtb_ hμ [] 14 [.go]
   tr (sPE_l1_ok bb hμ data a b pivot uu hh ww j l (sPE_l0 bb data a b pivot uu hh ww fuel) ih big _ r h) uS
theorem sPE_ok (bb : Bool) (data : LE bb) (a b pivot : Int) (uu : UT) (hh ww : PT) (r : (Int) × (LE bb)) (h : sPE bb data a b pivot uu hh ww = some r) : ∀ σ, Inj 5 σ → FnTri Tryz.prog (n107_133 bb) (renL σ [.gs 0 (data).length, .int .i64 a, .int .i64 b, .int .i64 pivot, .fn (n53_65 bb) [.ptr 1 0 0] []]) (preOf σ 0 (sPE_objs bb data uu hh ww)) ((sPE_v bb r).ren σ) (upOf σ (sPE_up bb uu hh ww r)) := by
 refine fn_of (q_func107 bb) (by cases bb <;> kernel_rfl) (by cases bb <;> kernel_rfl) (by cases bb <;> kernel_rfl) ⟨fun _ _ => by cases bb <;> rfl, rfl, uP, trivial, trivial, trivial⟩ (by cases bb <;> kernel_rfl) ⟨fun _ _ => by cases bb <;> rfl, rfl, uP, trivial, trivial, trivial⟩ (by cases bb <;> kernel_rfl) ?_
 intro w0 W μ0 hμ
 unfold sPE at h
 obtain ⟨g1, h⟩ := gs_ h
 obtain ⟨g2, h⟩ := gs_ h
 obtain ⟨y3, e4, h⟩ := bs_ h
 obtain ⟨g5, h⟩ := gs_ h
 exact rtb_ hμ [] 22 [.reg [], .reg [(13, { os := [(0, gE_ bb y3)] }), (15, { os := [(0, gE_ bb ((y3.set pivot.toNat (data.getD a.toNat default))))] })], .reg [], .wk [(0, .gs 0 ((y3.set pivot.toNat (data.getD a.toNat default))).length)] []]
  (q0 (r1_ tr) (q23 (ld_ (z_ bb) g1 tr (r2_ (ld_ (z_ bb) g2 tr (a_ (a_ (a_ (Eq.refl (z_ bb)) g2) tr) (a_ (a_ (a_ (Eq.refl (z_ bb)) (a_ (Nat.le_refl (z_ bb)) (ltN g2))) (a_ (LO.Sub.trans (sub_set_gr (c_E_ bb) default (z_ bb) data a.toNat (data.getD pivot.toNat default) (ltN g2) (splL (rowF (c_E_ bb) default data a.toNat) 0 ((c_E_ bb) (data.getD pivot.toNat default))) (by cases bb <;> kernel_rfl)) (ng_ bb e4)) tr)) (a_ (a_ (a_ (Eq.refl (z_ bb)) g1) tr) (a_ (a_ (a_ (Eq.refl (z_ bb)) (a_ (Nat.le_refl (z_ bb)) g5)) (a_ (sub_set_gr (c_E_ bb) default (z_ bb) y3 pivot.toNat (data.getD a.toNat default) g5 (splL (rowF (c_E_ bb) default y3 pivot.toNat) 0 ((c_E_ bb) (data.getD a.toNat default))) (by cases bb <;> kernel_rfl)) tr)) tr)))))))) (q23 tr) (q6 (q1 (le_gs 0 (show (data).length = ((y3.set pivot.toNat (data.getD a.toNat default))).length from by simp [← si_ e4]))))) (sPE_l0_ok bb hμ data a b pivot uu hh ww big _ _ _ r h) uS
abbrev sPD_b_K1000018 (bb : Bool) (uu : UT) (hh ww : PT) (a2 b2 : Int) (wasBalanced wasPartitioned : Bool) (limit5 pivot3 : Int) (l4 : LE bb) (r : (LE bb)) : Prop := Kt_ w0 W μ0 (q_f82 bb) 5 5 (sPD_b_v bb r) (sPD_b_up bb uu hh ww r) (kAtR (bodyOf (q_f82 bb)) 18) ((.gs 0 (l4).length) :: (.int .i64 a2) :: (.int .i64 b2) :: (.int .i64 limit5) :: (.fn (n53_65 bb) [.ptr 1 0 0] []) :: n_ 5 ((.bool wasBalanced) :: (.bool wasPartitioned) :: .any :: (.int .i64 pivot3) :: n_ 134 [])) [some (gE_ bb l4), some (.var [.map 2, .map 3, .map 4]), some (oP1 uu []), some (oM3 hh), some (oM3 ww)]
theorem sPD_b_c18_ok (bb : Bool) {w0 W μ0} (hμ : Lt_ μ0 5) (data : LE bb) (a b limit : Int) (uu : UT) (hh ww : PT) (self_ : (LE bb) → (Int) → (Int) → (Int) → (UT) → (PT) → (PT) → Option ((LE bb))) (a2 b2 : Int) (wasBalanced wasPartitioned : Bool) (hself : ∀ (data : LE bb) (a b limit : Int) (uu : UT) (hh ww : PT) (r : (LE bb)), self_ data a b limit uu hh ww = some r → ∀ σ, Inj 5 σ → FnTri Tryz.prog (n82_114 bb) (renL σ [.gs 0 (data).length, .int .i64 a, .int .i64 b, .int .i64 limit, .fn (n53_65 bb) [.ptr 1 0 0] []]) (preOf σ 0 (sPD_objs bb data uu hh ww)) ((sPD_v bb r).ren σ) (upOf σ (sPD_up bb uu hh ww r))) (k0 : (Int) → (Int) → (Int) → (Bool) → (Bool) → (LE bb) → Option ((LE bb))) (hk0 : ∀ (a2 b2 limit2 : Int) (wasBalanced wasPartitioned : Bool) (l : LE bb) (r : (LE bb)), k0 a2 b2 limit2 wasBalanced wasPartitioned l = some r → sPD_b_K0 w0 W μ0 bb uu hh ww a2 b2 limit2 wasBalanced wasPartitioned l r) (limit5 pivot3 : Int) (l4 : LE bb) (r : (LE bb)) (h : sPD_b_c18 bb data a b limit uu hh ww self_ a2 b2 wasBalanced wasPartitioned k0 limit5 pivot3 l4 = some r) : sPD_b_K1000018 w0 W μ0 bb uu hh ww a2 b2 wasBalanced wasPartitioned limit5 pivot3 l4 r := by
 unfold sPD_b_c18 at h
 obtain ⟨y2, E1, h⟩ := bs_ h
 obtain ⟨G3, h⟩ := gs_ h
 exact rtb_ hμ [] 16 [.reg [(5, hk_ (hK_ [0, 1, 2, 3, 4] (sPE_v bb y2) (sPE_objs bb l4 uu hh ww) (sPE_up bb uu hh ww y2)))], .reg [], .wk [(0, .gs 0 (y2.2).length)] []]
  (q0 (r1_ (r4_ (q4 (q8 (sPE_ok bb l4 a2 b2 pivot3 uu hh ww y2 E1 (sel [0, 1, 2, 3, 4]) sj_) (rl_ (gE_ bb l4)) (o4_ [.map 2, .map 3, .map 4] uu hh ww)) tr))) (r2_ tr) (q6 (le_gs 0 G3)) tr) (hk0 _ _ _ _ _ _ r h) uS
def sPA_v (bb : Bool) (r : (Int) × (Bool) × (LE bb)) : LV := .tup [.int .i64 r.1, .bool r.2.1]
def sPA_up (bb : Bool) (uu : UT) (hh ww : PT) (r : (Int) × (Bool) × (LE bb)) : Upd := [(0, some (gE_ bb (r.2.2))), (1, some (.var [.map 2, .map 3, .map 4])), (2, some (oP1 uu [])), (3, some (oM3 hh)), (4, some (oM3 ww))]
def sPA_objs (bb : Bool) (data : LE bb) (uu : UT) (hh ww : PT) : List LO := [gE_ bb data, .var [.map 2, .map 3, .map 4], oP1 uu [], oM3 hh, oM3 ww]
abbrev sPA_K0 (bb : Bool) (data : LE bb) (a b pivot : Int) (uu : UT) (hh ww : PT) (y3 : LE bb) (i : Int) (r : (Int) × (Bool) × (LE bb)) : Prop := Kt_ w0 W μ0 (q_f108 bb) 5 5 (sPA_v bb r) (sPA_up bb uu hh ww r) (kAt (bodyOf (q_f108 bb)) 0) ((.gs 0 ((y3.set pivot.toNat (data.getD a.toNat default))).length) :: (.int .i64 a) :: .any :: .any :: (.fn (n53_65 bb) [.ptr 1 0 0] []) :: n_ 7 ((.int .i64 i) :: (.int .i64 (IntKind.wrap .i64 (b - 1))) :: n_ 164 [])) [some (gE_ bb ((y3.set pivot.toNat (data.getD a.toNat default)))), some (.var [.map 2, .map 3, .map 4]), some (oP1 uu []), some (oM3 hh), some (oM3 ww)]
abbrev sPA_K1 (bb : Bool) (data : LE bb) (a pivot : Int) (uu : UT) (hh ww : PT) (i : Int) (y3 : LE bb) (j : Int) (r : (Int) × (Bool) × (LE bb)) : Prop := Kt_ w0 W μ0 (q_f108 bb) 5 5 (sPA_v bb r) (sPA_up bb uu hh ww r) (kAt (bodyOf (q_f108 bb)) 1) ((.gs 0 ((y3.set pivot.toNat (data.getD a.toNat default))).length) :: (.int .i64 a) :: .any :: .any :: (.fn (n53_65 bb) [.ptr 1 0 0] []) :: n_ 7 ((.int .i64 i) :: (.int .i64 j) :: n_ 164 [])) [some (gE_ bb ((y3.set pivot.toNat (data.getD a.toNat default)))), some (.var [.map 2, .map 3, .map 4]), some (oP1 uu []), some (oM3 hh), some (oM3 ww)]
abbrev sPA_K1000009 (bb : Bool) (a : Int) (uu : UT) (hh ww : PT) (j : Int) (y7 : (E_ bb)) (y10 : LE bb) (r : (Int) × (Bool) × (LE bb)) : Prop := Kt_ w0 W μ0 (q_f108 bb) 5 5 (sPA_v bb r) (sPA_up bb uu hh ww r) (kAtR (bodyOf (q_f108 bb)) 9) (n_ 13 ((.int .i64 j) :: n_ 164 [])) [some (gE_ bb ((y10.set a.toNat y7))), some (.var [.map 2, .map 3, .map 4]), some (oP1 uu []), some (oM3 hh), some (oM3 ww)]
theorem sPA_c9_ok (bb : Bool) {w0 W μ0} (hμ : Lt_ μ0 5) (data : LE bb) (a b pivot : Int) (uu : UT) (hh ww : PT) (j : Int) (y7 : (E_ bb)) (y10 : LE bb) (r : (Int) × (Bool) × (LE bb)) (h : sPA_c9 bb data a b pivot uu hh ww j y7 y10 = some r) : sPA_K1000009 w0 W μ0 bb a uu hh ww j y7 y10 r := by
 unfold sPA_c9 at h
 obtain rfl := si_ h
 exact rrb_ [] 11 [.reg []]
  (q6 (q2 tr))
abbrev sPA_K1000011 (bb : Bool) (a : Int) (uu : UT) (hh ww : PT) (i j : Int) (y7 : (E_ bb)) (y10 : LE bb) (r : (Int) × (Bool) × (LE bb)) : Prop := Kt_ w0 W μ0 (q_f108 bb) 5 5 (sPA_v bb r) (sPA_up bb uu hh ww r) (kAtR (bodyOf (q_f108 bb)) 11) ((.gs 0 ((y10.set j.toNat y7)).length) :: (.int .i64 a) :: .any :: .any :: (.fn (n53_65 bb) [.ptr 1 0 0] []) :: n_ 7 ((.int .i64 i) :: (.int .i64 j) :: n_ 164 [])) [some (gE_ bb ((y10.set j.toNat y7))), some (.var [.map 2, .map 3, .map 4]), some (oP1 uu []), some (oM3 hh), some (oM3 ww)]
abbrev sPA_K2 (bb : Bool) (a : Int) (uu : UT) (hh ww : PT) (i2 j2 : Int) (l : LE bb) (r : (Int) × (Bool) × (LE bb)) : Prop := Kt_ w0 W μ0 (q_f108 bb) 5 5 (sPA_v bb r) (sPA_up bb uu hh ww r) (kAt (bodyOf (q_f108 bb)) 2) ((.gs 0 (l).length) :: (.int .i64 a) :: .any :: .any :: (.fn (n53_65 bb) [.ptr 1 0 0] []) :: n_ 7 ((.int .i64 i2) :: (.int .i64 j2) :: n_ 164 [])) [some (gE_ bb l), some (.var [.map 2, .map 3, .map 4]), some (oP1 uu []), some (oM3 hh), some (oM3 ww)]
abbrev sPA_K3 (bb : Bool) (a : Int) (uu : UT) (hh ww : PT) (j2 : Int) (l : LE bb) (i3 : Int) (r : (Int) × (Bool) × (LE bb)) : Prop := Kt_ w0 W μ0 (q_f108 bb) 5 5 (sPA_v bb r) (sPA_up bb uu hh ww r) (kAt (bodyOf (q_f108 bb)) 3) ((.gs 0 (l).length) :: (.int .i64 a) :: .any :: .any :: (.fn (n53_65 bb) [.ptr 1 0 0] []) :: n_ 7 ((.int .i64 i3) :: (.int .i64 j2) :: n_ 164 [])) [some (gE_ bb l), some (.var [.map 2, .map 3, .map 4]), some (oP1 uu []), some (oM3 hh), some (oM3 ww)]
abbrev sPA_K4 (bb : Bool) (a : Int) (uu : UT) (hh ww : PT) (l : LE bb) (i3 j3 : Int) (r : (Int) × (Bool) × (LE bb)) : Prop := Kt_ w0 W μ0 (q_f108 bb) 5 5 (sPA_v bb r) (sPA_up bb uu hh ww r) (kAt (bodyOf (q_f108 bb)) 4) ((.gs 0 (l).length) :: (.int .i64 a) :: .any :: .any :: (.fn (n53_65 bb) [.ptr 1 0 0] []) :: n_ 7 ((.int .i64 i3) :: (.int .i64 j3) :: n_ 164 [])) [some (gE_ bb l), some (.var [.map 2, .map 3, .map 4]), some (oP1 uu []), some (oM3 hh), some (oM3 ww)]
abbrev sPA_K1000016 (bb : Bool) (a : Int) (uu : UT) (hh ww : PT) (l : LE bb) (i3 j3 : Int) (r : (Int) × (Bool) × (LE bb)) : Prop := Kt_ w0 W μ0 (q_f108 bb) 5 5 (sPA_v bb r) (sPA_up bb uu hh ww r) (kAtR (bodyOf (q_f108 bb)) 16) ((.gs 0 (l).length) :: (.int .i64 a) :: .any :: .any :: (.fn (n53_65 bb) [.ptr 1 0 0] []) :: n_ 7 ((.int .i64 i3) :: (.int .i64 j3) :: n_ 164 [])) [some (gE_ bb l), some (.var [.map 2, .map 3, .map 4]), some (oP1 uu []), some (oM3 hh), some (oM3 ww)]
theorem sPA_c16_ok (bb : Bool) {w0 W μ0} (hμ : Lt_ μ0 5) (data : LE bb) (a b pivot : Int) (uu : UT) (hh ww : PT) (l : LE bb) (i3 j3 : Int) (k4 : (Int) → Option ((Int) × (Bool) × (LE bb))) (hk4 : ∀ (j3 : Int) (r : (Int) × (Bool) × (LE bb)), k4 j3 = some r → sPA_K4 w0 W μ0 bb a uu hh ww l i3 j3 r) (r : (Int) × (Bool) × (LE bb)) (h : sPA_c16 bb data a b pivot uu hh ww l i3 j3 k4 = some r) : sPA_K1000016 w0 W μ0 bb a uu hh ww l i3 j3 r := by
 unfold sPA_c16 at h
 exact rtb_ hμ [] 12 [.reg []]
  (q17 tr) (hk4 _ r h) uS
abbrev sPA_K1000017 (bb : Bool) (a : Int) (uu : UT) (hh ww : PT) (l : LE bb) (i3 j3 : Int) (r : (Int) × (Bool) × (LE bb)) : Prop := Kt_ w0 W μ0 (q_f108 bb) 5 5 (sPA_v bb r) (sPA_up bb uu hh ww r) (kAtR (bodyOf (q_f108 bb)) 17) ((.gs 0 (l).length) :: (.int .i64 a) :: .any :: .any :: (.fn (n53_65 bb) [.ptr 1 0 0] []) :: n_ 7 ((.int .i64 i3) :: (.int .i64 j3) :: n_ 164 [])) [some (gE_ bb l), some (.var [.map 2, .map 3, .map 4]), some (oP1 uu []), some (oM3 hh), some (oM3 ww)]
theorem sPA_c17_ok (bb : Bool) {w0 W μ0} (hμ : Lt_ μ0 5) (data : LE bb) (a b pivot : Int) (uu : UT) (hh ww : PT) (l : LE bb) (i3 j3 : Int) (k2 : (Int) → (Int) → (LE bb) → Option ((Int) × (Bool) × (LE bb))) (hk2 : ∀ (i2 j2 : Int) (l : LE bb) (r : (Int) × (Bool) × (LE bb)), k2 i2 j2 l = some r → sPA_K2 w0 W μ0 bb a uu hh ww i2 j2 l r) (r : (Int) × (Bool) × (LE bb)) (h : sPA_c17 bb data a b pivot uu hh ww l i3 j3 k2 = some r) : sPA_K1000017 w0 W μ0 bb a uu hh ww l i3 j3 r := by
 unfold sPA_c17 at h
 rcases it_ h with ⟨C1, h⟩ | ⟨C1, h⟩
 ·obtain ⟨G2, h⟩ := gs_ h
  obtain ⟨G3, h⟩ := gs_ h
  obtain ⟨G4, h⟩ := gs_ h
  obtain ⟨y5, E6, h⟩ := bs_ h
  obtain rfl := si_ h
  exact rrb_ [] 19 [.reg [(2, hT)], .reg [(13, { os := [(0, gE_ bb ((l.set j3.toNat (l.getD a.toNat default))))] }), (15, { os := [(0, gE_ bb y5)] })], .reg []]
   (q16 (r2_ (f_ C1 tr)) (q23 (ld_ (z_ bb) G2 tr (r2_ (ld_ (z_ bb) G3 tr (a_ (a_ (a_ (Eq.refl (z_ bb)) G3) tr) (a_ (a_ (a_ (Eq.refl (z_ bb)) (a_ (Nat.le_refl (z_ bb)) (ltN G3))) (a_ (sub_set_gr (c_E_ bb) default (z_ bb) l j3.toNat (l.getD a.toNat default) (ltN G3) (splL (rowF (c_E_ bb) default l j3.toNat) 0 ((c_E_ bb) (l.getD a.toNat default))) (by cases bb <;> kernel_rfl)) tr)) (a_ (a_ (a_ (Eq.refl (z_ bb)) G2) tr) (a_ (a_ (a_ (Eq.refl (z_ bb)) (a_ (Nat.le_refl (z_ bb)) G4)) (a_ (LO.Sub.trans (sub_set_gr (c_E_ bb) default (z_ bb) (l.set j3.toNat (l.getD a.toNat default)) a.toNat (l.getD j3.toNat default) G4 (splL (rowF (c_E_ bb) default (l.set j3.toNat (l.getD a.toNat default)) a.toNat) 0 ((c_E_ bb) (l.getD j3.toNat default))) (by cases bb <;> kernel_rfl)) (ng_ bb E6)) tr)) tr)))))))) (q2 tr) tr)
 ·obtain ⟨G2, h⟩ := gs_ h
  obtain ⟨G3, h⟩ := gs_ h
  obtain ⟨G4, h⟩ := gs_ h
  obtain ⟨y5, E6, h⟩ := bs_ h
  exact rtb_ hμ [] 23 [.reg [(2, hF)], .reg [(13, { os := [(0, gE_ bb ((l.set i3.toNat (l.getD j3.toNat default))))] }), (15, { os := [(0, gE_ bb y5)] })], .reg [], .reg [], .wk [(0, .gs 0 (y5).length)] []]
   (q0 (r2_ (f_ C1 tr)) (q23 (ld_ (z_ bb) G2 tr (r2_ (ld_ (z_ bb) G3 tr (a_ (a_ (a_ (Eq.refl (z_ bb)) G3) tr) (a_ (a_ (a_ (Eq.refl (z_ bb)) (a_ (Nat.le_refl (z_ bb)) (ltN G3))) (a_ (sub_set_gr (c_E_ bb) default (z_ bb) l i3.toNat (l.getD j3.toNat default) (ltN G3) (splL (rowF (c_E_ bb) default l i3.toNat) 0 ((c_E_ bb) (l.getD j3.toNat default))) (by cases bb <;> kernel_rfl)) tr)) (a_ (a_ (a_ (Eq.refl (z_ bb)) G2) tr) (a_ (a_ (a_ (Eq.refl (z_ bb)) (a_ (Nat.le_refl (z_ bb)) G4)) (a_ (LO.Sub.trans (sub_set_gr (c_E_ bb) default (z_ bb) (l.set i3.toNat (l.getD j3.toNat default)) j3.toNat (l.getD i3.toNat default) G4 (splL (rowF (c_E_ bb) default (l.set i3.toNat (l.getD j3.toNat default)) j3.toNat) 0 ((c_E_ bb) (l.getD i3.toNat default))) (by cases bb <;> kernel_rfl)) (ng_ bb E6)) tr)) tr)))))))) (q2 tr) (q3 (q2 tr) (q6 (le_gs 0 (show (l).length = (y5).length from by simp [← si_ E6]))))) (hk2 _ _ _ r h) uS
abbrev sPA_K1000019 (bb : Bool) (a : Int) (uu : UT) (hh ww : PT) (i3 j3 : Int) (y6 : LE bb) (r : (Int) × (Bool) × (LE bb)) : Prop := Kt_ w0 W μ0 (q_f108 bb) 5 5 (sPA_v bb r) (sPA_up bb uu hh ww r) (kAtR (bodyOf (q_f108 bb)) 19) ((.gs 0 (y6).length) :: (.int .i64 a) :: .any :: .any :: (.fn (n53_65 bb) [.ptr 1 0 0] []) :: n_ 7 ((.int .i64 i3) :: (.int .i64 j3) :: n_ 164 [])) [some (gE_ bb y6), some (.var [.map 2, .map 3, .map 4]), some (oP1 uu []), some (oM3 hh), some (oM3 ww)]
theorem sPA_c19_ok (bb : Bool) {w0 W μ0} (hμ : Lt_ μ0 5) (data : LE bb) (a b pivot : Int) (uu : UT) (hh ww : PT) (i3 j3 : Int) (y6 : LE bb) (k2 : (Int) → (Int) → (LE bb) → Option ((Int) × (Bool) × (LE bb))) (hk2 : ∀ (i2 j2 : Int) (l : LE bb) (r : (Int) × (Bool) × (LE bb)), k2 i2 j2 l = some r → sPA_K2 w0 W μ0 bb a uu hh ww i2 j2 l r) (r : (Int) × (Bool) × (LE bb)) (h : sPA_c19 bb data a b pivot uu hh ww i3 j3 y6 k2 = some r) : sPA_K1000019 w0 W μ0 bb a uu hh ww i3 j3 y6 r := by
 unfold sPA_c19 at h
 exact rtb_ hμ [] 14 [.reg [], .reg []]
  (q3 (q2 tr) (q2 tr)) (hk2 _ _ _ r h) uS
abbrev sPA_K1000022 (bb : Bool) (uu : UT) (hh ww : PT) (j3 : Int) (y6 : LE bb) (r : (Int) × (Bool) × (LE bb)) : Prop := Kt_ w0 W μ0 (q_f108 bb) 5 5 (sPA_v bb r) (sPA_up bb uu hh ww r) (kAtR (bodyOf (q_f108 bb)) 22) (n_ 13 ((.int .i64 j3) :: n_ 164 [])) [some (gE_ bb y6), some (.var [.map 2, .map 3, .map 4]), some (oP1 uu []), some (oM3 hh), some (oM3 ww)]
theorem sPA_c22_ok (bb : Bool) {w0 W μ0} (hμ : Lt_ μ0 5) (data : LE bb) (a b pivot : Int) (uu : UT) (hh ww : PT) (j3 : Int) (y6 : LE bb) (r : (Int) × (Bool) × (LE bb)) (h : sPA_c22 bb data a b pivot uu hh ww j3 y6 = some r) : sPA_K1000022 w0 W μ0 bb uu hh ww j3 y6 r := by
 unfold sPA_c22 at h
 obtain rfl := si_ h
 exact rrb_ [] 11 [.reg []]
  (q6 (q2 tr))
theorem sPA_l4_ok (bb : Bool) {w0 W μ0} (hμ : Lt_ μ0 5) (data : LE bb) (a b pivot : Int) (uu : UT) (hh ww : PT) (l : LE bb) (i3 : Int) (k2 : (Int) → (Int) → (LE bb) → Option ((Int) × (Bool) × (LE bb))) (hk2 : ∀ (i2 j2 : Int) (l : LE bb) (r : (Int) × (Bool) × (LE bb)), k2 i2 j2 l = some r → sPA_K2 w0 W μ0 bb a uu hh ww i2 j2 l r) : ∀ (fuel : Nat) (j3 : Int) (r : (Int) × (Bool) × (LE bb)), sPA_l4 bb data a b pivot uu hh ww l i3 k2 fuel j3 = some r → sPA_K4 w0 W μ0 bb a uu hh ww l i3 j3 r := by
 intro fuel
 induction fuel with
 | zero => intro j3 r h; rw [sPA_l4] at h; cases h
 | succ fuel ih =>
  intro j3 r h
  rw [sPA_l4] at h
  rcases it_ h with ⟨C1, h⟩ | ⟨C1, h⟩
  ·obtain ⟨G2, h⟩ := gs_ h
   obtain ⟨G3, h⟩ := gs_ h
   obtain ⟨y5, E4, h⟩ := bs_ h
   rcases it_ h with ⟨C6, h⟩ | ⟨C6, h⟩
   ·exact rtb_ hμ [] 17 [.go, .reg [(3, hT), (13, hk_ (hK_ [1, 2, 3, 4] (cmp__v bb y5) (cmp__objs bb uu hh ww) (cmp__up bb uu hh ww y5))), (16, hT)]]
     (q17 (f_ C1 (r1_ (r2_ (ld_ (z_ bb) G2 tr (r2_ (ld_ (z_ bb) G3 tr (a_ (a_ (a_ (cmp__ok bb uu hh ww (l.getD j3.toNat default) (l.getD a.toNat default) y5 E4 (sel [1, 2, 3, 4]) sj_) (o4_ [.map 2, .map 3, .map 4] uu hh ww)) tr) (r2_ (f_ C6 tr)))))))))) (sPA_c16_ok bb hμ data a b pivot uu hh ww l i3 j3 (sPA_l4 bb data a b pivot uu hh ww l i3 k2 fuel) ih r h) uS
   ·exact rtb_ hμ [] 18 [.go, .reg [(3, hT), (13, hk_ (hK_ [1, 2, 3, 4] (cmp__v bb y5) (cmp__objs bb uu hh ww) (cmp__up bb uu hh ww y5))), (16, hF)]]
     (q17 (f_ C1 (r1_ (r2_ (ld_ (z_ bb) G2 tr (r2_ (ld_ (z_ bb) G3 tr (a_ (a_ (a_ (cmp__ok bb uu hh ww (l.getD j3.toNat default) (l.getD a.toNat default) y5 E4 (sel [1, 2, 3, 4]) sj_) (o4_ [.map 2, .map 3, .map 4] uu hh ww)) tr) (r2_ (f_ C6 tr)))))))))) (sPA_c17_ok bb hμ data a b pivot uu hh ww l i3 j3 k2 hk2 r h) uS
  ·rcases it_ h with ⟨C2, h⟩ | ⟨C2, h⟩
   ·obtain ⟨G3, h⟩ := gs_ h
    obtain ⟨G4, h⟩ := gs_ h
    obtain ⟨G5, h⟩ := gs_ h
    obtain ⟨y6, E7, h⟩ := bs_ h
    exact rtb_ hμ [] 26 [.go, .reg [(3, hF)], .reg [(2, hT)], .reg [(13, { os := [(0, gE_ bb ((l.set j3.toNat (l.getD a.toNat default))))] }), (15, { os := [(0, gE_ bb y6)] })]]
     (q0 (q2 (f_ C1 (t4_ (t8_ (r1_ tr))))) (r2_ (f_ C2 tr)) (q23 (ld_ (z_ bb) G3 tr (r2_ (ld_ (z_ bb) G4 tr (a_ (a_ (a_ (Eq.refl (z_ bb)) G4) tr) (a_ (a_ (a_ (Eq.refl (z_ bb)) (a_ (Nat.le_refl (z_ bb)) (ltN G4))) (a_ (sub_set_gr (c_E_ bb) default (z_ bb) l j3.toNat (l.getD a.toNat default) (ltN G4) (splL (rowF (c_E_ bb) default l j3.toNat) 0 ((c_E_ bb) (l.getD a.toNat default))) (by cases bb <;> kernel_rfl)) tr)) (a_ (a_ (a_ (Eq.refl (z_ bb)) G3) tr) (a_ (a_ (a_ (Eq.refl (z_ bb)) (a_ (Nat.le_refl (z_ bb)) G5)) (a_ (LO.Sub.trans (sub_set_gr (c_E_ bb) default (z_ bb) (l.set j3.toNat (l.getD a.toNat default)) a.toNat (l.getD j3.toNat default) G5 (splL (rowF (c_E_ bb) default (l.set j3.toNat (l.getD a.toNat default)) a.toNat) 0 ((c_E_ bb) (l.getD j3.toNat default))) (by cases bb <;> kernel_rfl)) (ng_ bb E7)) tr)) tr)))))))) tr) (sPA_c22_ok bb hμ data a b pivot uu hh ww j3 y6 r h) uS
   ·obtain ⟨G3, h⟩ := gs_ h
    obtain ⟨G4, h⟩ := gs_ h
    obtain ⟨G5, h⟩ := gs_ h
    obtain ⟨y6, E7, h⟩ := bs_ h
    exact rtb_ hμ [] 27 [.go, .reg [(3, hF)], .reg [(2, hF)], .reg [(13, { os := [(0, gE_ bb ((l.set i3.toNat (l.getD j3.toNat default))))] }), (15, { os := [(0, gE_ bb y6)] })], .wk [(0, .gs 0 (y6).length)] []]
     (q0 (q2 (f_ C1 (t4_ (t8_ (r1_ tr))))) (r2_ (f_ C2 tr)) (q23 (ld_ (z_ bb) G3 tr (r2_ (ld_ (z_ bb) G4 tr (a_ (a_ (a_ (Eq.refl (z_ bb)) G4) tr) (a_ (a_ (a_ (Eq.refl (z_ bb)) (a_ (Nat.le_refl (z_ bb)) (ltN G4))) (a_ (sub_set_gr (c_E_ bb) default (z_ bb) l i3.toNat (l.getD j3.toNat default) (ltN G4) (splL (rowF (c_E_ bb) default l i3.toNat) 0 ((c_E_ bb) (l.getD j3.toNat default))) (by cases bb <;> kernel_rfl)) tr)) (a_ (a_ (a_ (Eq.refl (z_ bb)) G3) tr) (a_ (a_ (a_ (Eq.refl (z_ bb)) (a_ (Nat.le_refl (z_ bb)) G5)) (a_ (LO.Sub.trans (sub_set_gr (c_E_ bb) default (z_ bb) (l.set i3.toNat (l.getD j3.toNat default)) j3.toNat (l.getD i3.toNat default) G5 (splL (rowF (c_E_ bb) default (l.set i3.toNat (l.getD j3.toNat default)) j3.toNat) 0 ((c_E_ bb) (l.getD i3.toNat default))) (by cases bb <;> kernel_rfl)) (ng_ bb E7)) tr)) tr)))))))) (q6 (q1 (le_gs 0 (show (l).length = (y6).length from by simp [← si_ E7]))))) (sPA_c19_ok bb hμ data a b pivot uu hh ww i3 j3 y6 k2 hk2 r h) uS
abbrev sPA_K1000014 (bb : Bool) (a : Int) (uu : UT) (hh ww : PT) (j2 : Int) (l : LE bb) (i3 : Int) (r : (Int) × (Bool) × (LE bb)) : Prop := Kt_ w0 W μ0 (q_f108 bb) 5 5 (sPA_v bb r) (sPA_up bb uu hh ww r) (kAtR (bodyOf (q_f108 bb)) 14) ((.gs 0 (l).length) :: (.int .i64 a) :: .any :: .any :: (.fn (n53_65 bb) [.ptr 1 0 0] []) :: n_ 7 ((.int .i64 i3) :: (.int .i64 j2) :: n_ 164 [])) [some (gE_ bb l), some (.var [.map 2, .map 3, .map 4]), some (oP1 uu []), some (oM3 hh), some (oM3 ww)]
theorem sPA_c14_ok (bb : Bool) {w0 W μ0} (hμ : Lt_ μ0 5) (data : LE bb) (a b pivot : Int) (uu : UT) (hh ww : PT) (j2 : Int) (l : LE bb) (i3 : Int) (k3 : (Int) → Option ((Int) × (Bool) × (LE bb))) (hk3 : ∀ (i3 : Int) (r : (Int) × (Bool) × (LE bb)), k3 i3 = some r → sPA_K3 w0 W μ0 bb a uu hh ww j2 l i3 r) (r : (Int) × (Bool) × (LE bb)) (h : sPA_c14 bb data a b pivot uu hh ww j2 l i3 k3 = some r) : sPA_K1000014 w0 W μ0 bb a uu hh ww j2 l i3 r := by
 unfold sPA_c14 at h
 exact rtb_ hμ [] 12 [.reg []]
  (q17 tr) (hk3 _ r h) uS
theorem sPA_l3_ok (bb : Bool) {w0 W μ0} (hμ : Lt_ μ0 5) (data : LE bb) (a b pivot : Int) (uu : UT) (hh ww : PT) (j2 : Int) (l : LE bb) (k2 : (Int) → (Int) → (LE bb) → Option ((Int) × (Bool) × (LE bb))) (hk2 : ∀ (i2 j2 : Int) (l : LE bb) (r : (Int) × (Bool) × (LE bb)), k2 i2 j2 l = some r → sPA_K2 w0 W μ0 bb a uu hh ww i2 j2 l r) : ∀ (fuel : Nat) (i3 : Int) (r : (Int) × (Bool) × (LE bb)), sPA_l3 bb data a b pivot uu hh ww j2 l k2 fuel i3 = some r → sPA_K3 w0 W μ0 bb a uu hh ww j2 l i3 r := by
 intro fuel
 induction fuel with
 | zero => intro i3 r h; rw [sPA_l3] at h; cases h
 | succ fuel ih =>
  intro i3 r h
  rw [sPA_l3] at h
  rcases it_ h with ⟨C1, h⟩ | ⟨C1, h⟩
  ·obtain ⟨G2, h⟩ := gs_ h
   obtain ⟨G3, h⟩ := gs_ h
   obtain ⟨y5, E4, h⟩ := bs_ h
   rcases it_ h with ⟨C6, h⟩ | ⟨C6, h⟩
   ·exact rtb_ hμ [] 17 [.go, .reg [(3, hT), (13, hk_ (hK_ [1, 2, 3, 4] (cmp__v bb y5) (cmp__objs bb uu hh ww) (cmp__up bb uu hh ww y5))), (15, hT)]]
     (q17 (f_ C1 (r1_ (r2_ (ld_ (z_ bb) G2 tr (r2_ (ld_ (z_ bb) G3 tr (a_ (a_ (a_ (cmp__ok bb uu hh ww (l.getD i3.toNat default) (l.getD a.toNat default) y5 E4 (sel [1, 2, 3, 4]) sj_) (o4_ [.map 2, .map 3, .map 4] uu hh ww)) tr) (r1_ (f_ C6 tr)))))))))) (sPA_c14_ok bb hμ data a b pivot uu hh ww j2 l i3 (sPA_l3 bb data a b pivot uu hh ww j2 l k2 fuel) ih r h) uS
   ·exact rtb_ hμ [] 19 [.go, .reg [(3, hT), (13, hk_ (hK_ [1, 2, 3, 4] (cmp__v bb y5) (cmp__objs bb uu hh ww) (cmp__up bb uu hh ww y5))), (15, hF)]]
     (q17 (f_ C1 (r1_ (r2_ (ld_ (z_ bb) G2 tr (r2_ (ld_ (z_ bb) G3 tr (a_ (a_ (a_ (cmp__ok bb uu hh ww (l.getD i3.toNat default) (l.getD a.toNat default) y5 E4 (sel [1, 2, 3, 4]) sj_) (o4_ [.map 2, .map 3, .map 4] uu hh ww)) tr) (r1_ (f_ C6 tr)))))))))) (sPA_l4_ok bb hμ data a b pivot uu hh ww l i3 k2 hk2 big _ r h) uS
  ·exact rtb_ hμ [] 19 [.go, .reg [(3, hF)]]
    (q17 (f_ C1 (a_ tr (t2_ (t8_ (r1_ tr)))))) (sPA_l4_ok bb hμ data a b pivot uu hh ww l i3 k2 hk2 big _ r h) uS
theorem sPA_l2_ok (bb : Bool) {w0 W μ0} (hμ : Lt_ μ0 5) (data : LE bb) (a b pivot : Int) (uu : UT) (hh ww : PT) : ∀ (fuel : Nat) (i2 j2 : Int) (l : LE bb) (r : (Int) × (Bool) × (LE bb)), sPA_l2 bb data a b pivot uu hh ww fuel i2 j2 l = some r → sPA_K2 w0 W μ0 bb a uu hh ww i2 j2 l r := by
 intro fuel
 induction fuel with
 | zero => intro i2 j2 l r h; rw [sPA_l2] at h; cases h
 | succ fuel ih =>
  intro i2 j2 l r h
  rw [sPA_l2] at h
  exact rtb_ hμ [] 14 [.go]
   tr (sPA_l3_ok bb hμ data a b pivot uu hh ww j2 l (sPA_l2 bb data a b pivot uu hh ww fuel) ih big _ r h) uS
theorem sPA_c11_ok (bb : Bool) {w0 W μ0} (hμ : Lt_ μ0 5) (data : LE bb) (a b pivot : Int) (uu : UT) (hh ww : PT) (i j : Int) (y7 : (E_ bb)) (y10 : LE bb) (r : (Int) × (Bool) × (LE bb)) (h : sPA_c11 bb data a b pivot uu hh ww i j y7 y10 = some r) : sPA_K1000011 w0 W μ0 bb a uu hh ww i j y7 y10 r := by
 unfold sPA_c11 at h
 exact rtb_ hμ [] 17 [.reg [], .reg []]
  (q3 (q2 tr) (q2 tr)) (sPA_l2_ok bb hμ data a b pivot uu hh ww big _ _ _ r h) uS
abbrev sPA_K1000006 (bb : Bool) (data : LE bb) (a pivot : Int) (uu : UT) (hh ww : PT) (i j : Int) (y3 : LE bb) (r : (Int) × (Bool) × (LE bb)) : Prop := Kt_ w0 W μ0 (q_f108 bb) 5 5 (sPA_v bb r) (sPA_up bb uu hh ww r) (kAtR (bodyOf (q_f108 bb)) 6) ((.gs 0 ((y3.set pivot.toNat (data.getD a.toNat default))).length) :: (.int .i64 a) :: .any :: .any :: (.fn (n53_65 bb) [.ptr 1 0 0] []) :: n_ 7 ((.int .i64 i) :: (.int .i64 j) :: n_ 164 [])) [some (gE_ bb ((y3.set pivot.toNat (data.getD a.toNat default)))), some (.var [.map 2, .map 3, .map 4]), some (oP1 uu []), some (oM3 hh), some (oM3 ww)]
theorem sPA_c6_ok (bb : Bool) {w0 W μ0} (hμ : Lt_ μ0 5) (data : LE bb) (a b pivot : Int) (uu : UT) (hh ww : PT) (i j : Int) (y3 : LE bb) (k1 : (Int) → Option ((Int) × (Bool) × (LE bb))) (hk1 : ∀ (j : Int) (r : (Int) × (Bool) × (LE bb)), k1 j = some r → sPA_K1 w0 W μ0 bb data a pivot uu hh ww i y3 j r) (r : (Int) × (Bool) × (LE bb)) (h : sPA_c6 bb data a b pivot uu hh ww i j y3 k1 = some r) : sPA_K1000006 w0 W μ0 bb data a pivot uu hh ww i j y3 r := by
 unfold sPA_c6 at h
 exact rtb_ hμ [] 12 [.reg []]
  (q17 tr) (hk1 _ r h) uS
abbrev sPA_K1000007 (bb : Bool) (data : LE bb) (a pivot : Int) (uu : UT) (hh ww : PT) (i j : Int) (y3 : LE bb) (r : (Int) × (Bool) × (LE bb)) : Prop := Kt_ w0 W μ0 (q_f108 bb) 5 5 (sPA_v bb r) (sPA_up bb uu hh ww r) (kAtR (bodyOf (q_f108 bb)) 7) ((.gs 0 ((y3.set pivot.toNat (data.getD a.toNat default))).length) :: (.int .i64 a) :: .any :: .any :: (.fn (n53_65 bb) [.ptr 1 0 0] []) :: n_ 7 ((.int .i64 i) :: (.int .i64 j) :: n_ 164 [])) [some (gE_ bb ((y3.set pivot.toNat (data.getD a.toNat default)))), some (.var [.map 2, .map 3, .map 4]), some (oP1 uu []), some (oM3 hh), some (oM3 ww)]
theorem sPA_c7_ok (bb : Bool) {w0 W μ0} (hμ : Lt_ μ0 5) (data : LE bb) (a b pivot : Int) (uu : UT) (hh ww : PT) (i j : Int) (y3 : LE bb) (r : (Int) × (Bool) × (LE bb)) (h : sPA_c7 bb data a b pivot uu hh ww i j y3 = some r) : sPA_K1000007 w0 W μ0 bb data a pivot uu hh ww i j y3 r := by
 unfold sPA_c7 at h
 rcases it_ h with ⟨C1, h⟩ | ⟨C1, h⟩
 ·obtain ⟨G2, h⟩ := gs_ h
  obtain ⟨yC7_3, E4, h⟩ := bs_ h
  obtain ⟨G5, h⟩ := gs_ h
  obtain ⟨y6, E7, h⟩ := bs_ h
  obtain ⟨y8, E9, h⟩ := bs_ h
  obtain ⟨G10, h⟩ := gs_ h
  obtain rfl := si_ h
  exact rrb_ [] 18 [.reg [(2, hT)], .reg [(7, hv_ ((v_E_ bb) yC7_3)), (11, hv_ ((v_E_ bb) y6)), (13, { os := [(0, gE_ bb y8)] }), (15, { os := [(0, gE_ bb ((y8.set a.toNat y6)))] })], .reg []]
   (q16 (r2_ (f_ C1 tr)) (q23 (ld_ (z_ bb) G2 (a_ (le_nm (v_E_ bb) E4) tr) (r2_ (ld_ (z_ bb) G5 (a_ (le_nm (v_E_ bb) E7) tr) (a_ (a_ (a_ (Eq.refl (z_ bb)) G5) tr) (a_ (a_ (a_ (Eq.refl (z_ bb)) (a_ (Nat.le_refl (z_ bb)) (ltN G5))) (a_ (LO.Sub.trans (sub_set_gr (c_E_ bb) default (z_ bb) (y3.set pivot.toNat (data.getD a.toNat default)) j.toNat yC7_3 (ltN G5) (splL (rowF (c_E_ bb) default (y3.set pivot.toNat (data.getD a.toNat default)) j.toNat) 0 ((c_E_ bb) yC7_3)) (by cases bb <;> kernel_rfl)) (ng_ bb E9)) tr)) (a_ (a_ (a_ (Eq.refl (z_ bb)) G2) tr) (a_ (a_ (a_ (Eq.refl (z_ bb)) (a_ (Nat.le_refl (z_ bb)) G10)) (a_ (sub_set_gr (c_E_ bb) default (z_ bb) y8 a.toNat y6 G10 (splL (rowF (c_E_ bb) default y8 a.toNat) 0 ((c_E_ bb) y6)) (by cases bb <;> kernel_rfl)) tr)) tr)))))))) (q2 tr) tr)
 ·obtain ⟨G2, h⟩ := gs_ h
  obtain ⟨yC7_3, E4, h⟩ := bs_ h
  obtain ⟨G5, h⟩ := gs_ h
  obtain ⟨y6, E7, h⟩ := bs_ h
  obtain ⟨y8, E9, h⟩ := bs_ h
  obtain ⟨G10, h⟩ := gs_ h
  exact rtb_ hμ [] 26 [.reg [(2, hF)], .reg [(7, hv_ ((v_E_ bb) yC7_3)), (11, hv_ ((v_E_ bb) y6)), (13, { os := [(0, gE_ bb y8)] }), (15, { os := [(0, gE_ bb ((y8.set j.toNat y6)))] })], .reg [], .reg [], .wk [(0, .gs 0 ((y8.set j.toNat y6)).length)] []]
   (q0 (r2_ (f_ C1 tr)) (q23 (ld_ (z_ bb) G2 (a_ (le_nm (v_E_ bb) E4) tr) (r2_ (ld_ (z_ bb) G5 (a_ (le_nm (v_E_ bb) E7) tr) (a_ (a_ (a_ (Eq.refl (z_ bb)) G5) tr) (a_ (a_ (a_ (Eq.refl (z_ bb)) (a_ (Nat.le_refl (z_ bb)) (ltN G5))) (a_ (LO.Sub.trans (sub_set_gr (c_E_ bb) default (z_ bb) (y3.set pivot.toNat (data.getD a.toNat default)) i.toNat yC7_3 (ltN G5) (splL (rowF (c_E_ bb) default (y3.set pivot.toNat (data.getD a.toNat default)) i.toNat) 0 ((c_E_ bb) yC7_3)) (by cases bb <;> kernel_rfl)) (ng_ bb E9)) tr)) (a_ (a_ (a_ (Eq.refl (z_ bb)) G2) tr) (a_ (a_ (a_ (Eq.refl (z_ bb)) (a_ (Nat.le_refl (z_ bb)) G10)) (a_ (sub_set_gr (c_E_ bb) default (z_ bb) y8 j.toNat y6 G10 (splL (rowF (c_E_ bb) default y8 j.toNat) 0 ((c_E_ bb) y6)) (by cases bb <;> kernel_rfl)) tr)) tr)))))))) (q2 tr) (q3 (q2 tr) (q6 (le_gs 0 (show ((y3.set pivot.toNat (data.getD a.toNat default))).length = ((y8.set j.toNat y6)).length from by simp [← si_ E9]))))) (sPA_l2_ok bb hμ data a b pivot uu hh ww big _ _ _ r h) uS
theorem sPA_l1_ok (bb : Bool) {w0 W μ0} (hμ : Lt_ μ0 5) (data : LE bb) (a b pivot : Int) (uu : UT) (hh ww : PT) (i : Int) (y3 : LE bb) : ∀ (fuel : Nat) (j : Int) (r : (Int) × (Bool) × (LE bb)), sPA_l1 bb data a b pivot uu hh ww i y3 fuel j = some r → sPA_K1 w0 W μ0 bb data a pivot uu hh ww i y3 j r := by
 intro fuel
 induction fuel with
 | zero => intro j r h; rw [sPA_l1] at h; cases h
 | succ fuel ih =>
  intro j r h
  rw [sPA_l1] at h
  rcases it_ h with ⟨C1, h⟩ | ⟨C1, h⟩
  ·obtain ⟨G2, h⟩ := gs_ h
   obtain ⟨yL1_3, E4, h⟩ := bs_ h
   obtain ⟨G5, h⟩ := gs_ h
   obtain ⟨y6, E7, h⟩ := bs_ h
   obtain ⟨y9, E8, h⟩ := bs_ h
   rcases it_ h with ⟨C10, h⟩ | ⟨C10, h⟩
   ·exact rtb_ hμ [] 17 [.go, .reg [(3, hT), (8, hv_ ((v_E_ bb) yL1_3)), (12, hv_ ((v_E_ bb) y6)), (13, hk_ (hK_ [1, 2, 3, 4] (cmp__v bb y9) (cmp__objs bb uu hh ww) (cmp__up bb uu hh ww y9))), (16, hT)]]
     (q17 (f_ C1 (r1_ (r2_ (ld_ (z_ bb) G2 (a_ (le_nm (v_E_ bb) E4) tr) (r2_ (ld_ (z_ bb) G5 (a_ (le_nm (v_E_ bb) E7) tr) (a_ (a_ (a_ (cmp__ok bb uu hh ww yL1_3 y6 y9 E8 (sel [1, 2, 3, 4]) sj_) (o4_ [.map 2, .map 3, .map 4] uu hh ww)) tr) (r2_ (f_ C10 tr)))))))))) (sPA_c6_ok bb hμ data a b pivot uu hh ww i j y3 (sPA_l1 bb data a b pivot uu hh ww i y3 fuel) ih r h) uS
   ·exact rtb_ hμ [] 18 [.go, .reg [(3, hT), (8, hv_ ((v_E_ bb) yL1_3)), (12, hv_ ((v_E_ bb) y6)), (13, hk_ (hK_ [1, 2, 3, 4] (cmp__v bb y9) (cmp__objs bb uu hh ww) (cmp__up bb uu hh ww y9))), (16, hF)]]
     (q17 (f_ C1 (r1_ (r2_ (ld_ (z_ bb) G2 (a_ (le_nm (v_E_ bb) E4) tr) (r2_ (ld_ (z_ bb) G5 (a_ (le_nm (v_E_ bb) E7) tr) (a_ (a_ (a_ (cmp__ok bb uu hh ww yL1_3 y6 y9 E8 (sel [1, 2, 3, 4]) sj_) (o4_ [.map 2, .map 3, .map 4] uu hh ww)) tr) (r2_ (f_ C10 tr)))))))))) (sPA_c7_ok bb hμ data a b pivot uu hh ww i j y3 r h) uS
  ·rcases it_ h with ⟨C2, h⟩ | ⟨C2, h⟩
   ·obtain ⟨G3, h⟩ := gs_ h
    obtain ⟨y4, E5, h⟩ := bs_ h
    obtain ⟨G6, h⟩ := gs_ h
    obtain ⟨y7, E8, h⟩ := bs_ h
    obtain ⟨y10, E11, h⟩ := bs_ h
    obtain ⟨G12, h⟩ := gs_ h
    exact rtb_ hμ [] 25 [.go, .reg [(3, hF)], .reg [(2, hT)], .reg [(7, hv_ ((v_E_ bb) y4)), (11, hv_ ((v_E_ bb) y7)), (13, { os := [(0, gE_ bb y10)] }), (15, { os := [(0, gE_ bb ((y10.set a.toNat y7)))] })]]
     (q0 (q2 (f_ C1 (t4_ (t8_ (r1_ tr))))) (r2_ (f_ C2 tr)) (q23 (ld_ (z_ bb) G3 (a_ (le_nm (v_E_ bb) E5) tr) (r2_ (ld_ (z_ bb) G6 (a_ (le_nm (v_E_ bb) E8) tr) (a_ (a_ (a_ (Eq.refl (z_ bb)) G6) tr) (a_ (a_ (a_ (Eq.refl (z_ bb)) (a_ (Nat.le_refl (z_ bb)) (ltN G6))) (a_ (LO.Sub.trans (sub_set_gr (c_E_ bb) default (z_ bb) (y3.set pivot.toNat (data.getD a.toNat default)) j.toNat y4 (ltN G6) (splL (rowF (c_E_ bb) default (y3.set pivot.toNat (data.getD a.toNat default)) j.toNat) 0 ((c_E_ bb) y4)) (by cases bb <;> kernel_rfl)) (ng_ bb E11)) tr)) (a_ (a_ (a_ (Eq.refl (z_ bb)) G3) tr) (a_ (a_ (a_ (Eq.refl (z_ bb)) (a_ (Nat.le_refl (z_ bb)) G12)) (a_ (sub_set_gr (c_E_ bb) default (z_ bb) y10 a.toNat y7 G12 (splL (rowF (c_E_ bb) default y10 a.toNat) 0 ((c_E_ bb) y7)) (by cases bb <;> kernel_rfl)) tr)) tr)))))))) tr) (sPA_c9_ok bb hμ data a b pivot uu hh ww j y7 y10 r h) uS
   ·obtain ⟨G3, h⟩ := gs_ h
    obtain ⟨y4, E5, h⟩ := bs_ h
    obtain ⟨G6, h⟩ := gs_ h
    obtain ⟨y7, E8, h⟩ := bs_ h
    obtain ⟨y10, E11, h⟩ := bs_ h
    obtain ⟨G12, h⟩ := gs_ h
    exact rtb_ hμ [] 27 [.go, .reg [(3, hF)], .reg [(2, hF)], .reg [(7, hv_ ((v_E_ bb) y4)), (11, hv_ ((v_E_ bb) y7)), (13, { os := [(0, gE_ bb y10)] }), (15, { os := [(0, gE_ bb ((y10.set j.toNat y7)))] })], .wk [(0, .gs 0 ((y10.set j.toNat y7)).length)] []]
     (q0 (q2 (f_ C1 (t4_ (t8_ (r1_ tr))))) (r2_ (f_ C2 tr)) (q23 (ld_ (z_ bb) G3 (a_ (le_nm (v_E_ bb) E5) tr) (r2_ (ld_ (z_ bb) G6 (a_ (le_nm (v_E_ bb) E8) tr) (a_ (a_ (a_ (Eq.refl (z_ bb)) G6) tr) (a_ (a_ (a_ (Eq.refl (z_ bb)) (a_ (Nat.le_refl (z_ bb)) (ltN G6))) (a_ (LO.Sub.trans (sub_set_gr (c_E_ bb) default (z_ bb) (y3.set pivot.toNat (data.getD a.toNat default)) i.toNat y4 (ltN G6) (splL (rowF (c_E_ bb) default (y3.set pivot.toNat (data.getD a.toNat default)) i.toNat) 0 ((c_E_ bb) y4)) (by cases bb <;> kernel_rfl)) (ng_ bb E11)) tr)) (a_ (a_ (a_ (Eq.refl (z_ bb)) G3) tr) (a_ (a_ (a_ (Eq.refl (z_ bb)) (a_ (Nat.le_refl (z_ bb)) G12)) (a_ (sub_set_gr (c_E_ bb) default (z_ bb) y10 j.toNat y7 G12 (splL (rowF (c_E_ bb) default y10 j.toNat) 0 ((c_E_ bb) y7)) (by cases bb <;> kernel_rfl)) tr)) tr)))))))) (q6 (q1 (le_gs 0 (show ((y3.set pivot.toNat (data.getD a.toNat default))).length = ((y10.set j.toNat y7)).length from by simp [← si_ E11]))))) (sPA_c11_ok bb hμ data a b pivot uu hh ww i j y7 y10 r h) uS
abbrev sPA_K1000004 (bb : Bool) (data : LE bb) (a b pivot : Int) (uu : UT) (hh ww : PT) (i : Int) (y3 : LE bb) (r : (Int) × (Bool) × (LE bb)) : Prop := Kt_ w0 W μ0 (q_f108 bb) 5 5 (sPA_v bb r) (sPA_up bb uu hh ww r) (kAtR (bodyOf (q_f108 bb)) 4) ((.gs 0 ((y3.set pivot.toNat (data.getD a.toNat default))).length) :: (.int .i64 a) :: .any :: .any :: (.fn (n53_65 bb) [.ptr 1 0 0] []) :: n_ 7 ((.int .i64 i) :: (.int .i64 (IntKind.wrap .i64 (b - 1))) :: n_ 164 [])) [some (gE_ bb ((y3.set pivot.toNat (data.getD a.toNat default)))), some (.var [.map 2, .map 3, .map 4]), some (oP1 uu []), some (oM3 hh), some (oM3 ww)]
theorem sPA_c4_ok (bb : Bool) {w0 W μ0} (hμ : Lt_ μ0 5) (data : LE bb) (a b pivot : Int) (uu : UT) (hh ww : PT) (i : Int) (y3 : LE bb) (k0 : (Int) → Option ((Int) × (Bool) × (LE bb))) (hk0 : ∀ (i : Int) (r : (Int) × (Bool) × (LE bb)), k0 i = some r → sPA_K0 w0 W μ0 bb data a b pivot uu hh ww y3 i r) (r : (Int) × (Bool) × (LE bb)) (h : sPA_c4 bb data a b pivot uu hh ww i y3 k0 = some r) : sPA_K1000004 w0 W μ0 bb data a b pivot uu hh ww i y3 r := by
 unfold sPA_c4 at h
 exact rtb_ hμ [] 12 [.reg []]
  (q17 tr) (hk0 _ r h) uS
theorem sPA_l0_ok (bb : Bool) {w0 W μ0} (hμ : Lt_ μ0 5) (data : LE bb) (a b pivot : Int) (uu : UT) (hh ww : PT) (y3 : LE bb) : ∀ (fuel : Nat) (i : Int) (r : (Int) × (Bool) × (LE bb)), sPA_l0 bb data a b pivot uu hh ww y3 fuel i = some r → sPA_K0 w0 W μ0 bb data a b pivot uu hh ww y3 i r := by
 intro fuel
 induction fuel with
 | zero => intro i r h; rw [sPA_l0] at h; cases h
 | succ fuel ih =>
  intro i r h
  rw [sPA_l0] at h
  rcases it_ h with ⟨C1, h⟩ | ⟨C1, h⟩
  ·obtain ⟨G2, h⟩ := gs_ h
   obtain ⟨yL0_3, E4, h⟩ := bs_ h
   obtain ⟨G5, h⟩ := gs_ h
   obtain ⟨y6, E7, h⟩ := bs_ h
   obtain ⟨y9, E8, h⟩ := bs_ h
   rcases it_ h with ⟨C10, h⟩ | ⟨C10, h⟩
   ·exact rtb_ hμ [] 17 [.go, .reg [(3, hT), (8, hv_ ((v_E_ bb) yL0_3)), (12, hv_ ((v_E_ bb) y6)), (13, hk_ (hK_ [1, 2, 3, 4] (cmp__v bb y9) (cmp__objs bb uu hh ww) (cmp__up bb uu hh ww y9))), (15, hT)]]
     (q17 (f_ C1 (r1_ (r2_ (ld_ (z_ bb) G2 (a_ (le_nm (v_E_ bb) E4) tr) (r2_ (ld_ (z_ bb) G5 (a_ (le_nm (v_E_ bb) E7) tr) (a_ (a_ (a_ (cmp__ok bb uu hh ww yL0_3 y6 y9 E8 (sel [1, 2, 3, 4]) sj_) (o4_ [.map 2, .map 3, .map 4] uu hh ww)) tr) (r1_ (f_ C10 tr)))))))))) (sPA_c4_ok bb hμ data a b pivot uu hh ww i y3 (sPA_l0 bb data a b pivot uu hh ww y3 fuel) ih r h) uS
   ·exact rtb_ hμ [] 19 [.go, .reg [(3, hT), (8, hv_ ((v_E_ bb) yL0_3)), (12, hv_ ((v_E_ bb) y6)), (13, hk_ (hK_ [1, 2, 3, 4] (cmp__v bb y9) (cmp__objs bb uu hh ww) (cmp__up bb uu hh ww y9))), (15, hF)]]
     (q17 (f_ C1 (r1_ (r2_ (ld_ (z_ bb) G2 (a_ (le_nm (v_E_ bb) E4) tr) (r2_ (ld_ (z_ bb) G5 (a_ (le_nm (v_E_ bb) E7) tr) (a_ (a_ (a_ (cmp__ok bb uu hh ww yL0_3 y6 y9 E8 (sel [1, 2, 3, 4]) sj_) (o4_ [.map 2, .map 3, .map 4] uu hh ww)) tr) (r1_ (f_ C10 tr)))))))))) (sPA_l1_ok bb hμ data a b pivot uu hh ww i y3 big _ r h) uS
  ·exact rtb_ hμ [] 19 [.go, .reg [(3, hF)]]
    (q17 (f_ C1 (a_ tr (t2_ (t8_ (r1_ tr)))))) (sPA_l1_ok bb hμ data a b pivot uu hh ww i y3 big _ r h) uS
theorem sPA_ok (bb : Bool) (data : LE bb) (a b pivot : Int) (uu : UT) (hh ww : PT) (r : (Int) × (Bool) × (LE bb)) (h : sPA bb data a b pivot uu hh ww = some r) : ∀ σ, Inj 5 σ → FnTri Tryz.prog (n108_134 bb) (renL σ [.gs 0 (data).length, .int .i64 a, .int .i64 b, .int .i64 pivot, .fn (n53_65 bb) [.ptr 1 0 0] []]) (preOf σ 0 (sPA_objs bb data uu hh ww)) ((sPA_v bb r).ren σ) (upOf σ (sPA_up bb uu hh ww r)) := by
 refine fn_of (q_func108 bb) (by cases bb <;> kernel_rfl) (by cases bb <;> kernel_rfl) (by cases bb <;> kernel_rfl) ⟨fun _ _ => by cases bb <;> rfl, rfl, uP, trivial, trivial, trivial⟩ (by cases bb <;> kernel_rfl) ⟨fun _ _ => by cases bb <;> rfl, rfl, uP, trivial, trivial, trivial⟩ (by cases bb <;> kernel_rfl) ?_
 intro w0 W μ0 hμ
 unfold sPA at h
 obtain ⟨g1, h⟩ := gs_ h
 obtain ⟨g2, h⟩ := gs_ h
 obtain ⟨y3, e4, h⟩ := bs_ h
 obtain ⟨g5, h⟩ := gs_ h
 exact rtb_ hμ [] 22 [.reg [], .reg [(13, { os := [(0, gE_ bb y3)] }), (15, { os := [(0, gE_ bb ((y3.set pivot.toNat (data.getD a.toNat default))))] })], .reg [], .wk [(0, .gs 0 ((y3.set pivot.toNat (data.getD a.toNat default))).length)] []]
  (q0 (r2_ tr) (q23 (ld_ (z_ bb) g1 tr (r2_ (ld_ (z_ bb) g2 tr (a_ (a_ (a_ (Eq.refl (z_ bb)) g2) tr) (a_ (a_ (a_ (Eq.refl (z_ bb)) (a_ (Nat.le_refl (z_ bb)) (ltN g2))) (a_ (LO.Sub.trans (sub_set_gr (c_E_ bb) default (z_ bb) data a.toNat (data.getD pivot.toNat default) (ltN g2) (splL (rowF (c_E_ bb) default data a.toNat) 0 ((c_E_ bb) (data.getD pivot.toNat default))) (by cases bb <;> kernel_rfl)) (ng_ bb e4)) tr)) (a_ (a_ (a_ (Eq.refl (z_ bb)) g1) tr) (a_ (a_ (a_ (Eq.refl (z_ bb)) (a_ (Nat.le_refl (z_ bb)) g5)) (a_ (sub_set_gr (c_E_ bb) default (z_ bb) y3 pivot.toNat (data.getD a.toNat default) g5 (splL (rowF (c_E_ bb) default y3 pivot.toNat) 0 ((c_E_ bb) (data.getD a.toNat default))) (by cases bb <;> kernel_rfl)) tr)) tr)))))))) (q23 tr) (q6 (q1 (le_gs 0 (show (data).length = ((y3.set pivot.toNat (data.getD a.toNat default))).length from by simp [← si_ e4]))))) (sPA_l0_ok bb hμ data a b pivot uu hh ww y3 big _ r h) uS
abbrev sPD_b_K1000020 (bb : Bool) (uu : UT) (hh ww : PT) (a2 b2 : Int) (limit6 pivot4 : Int) (l5 : LE bb) (r : (LE bb)) : Prop := Kt_ w0 W μ0 (q_f82 bb) 5 5 (sPD_b_v bb r) (sPD_b_up bb uu hh ww r) (kAtR (bodyOf (q_f82 bb)) 20) ((.gs 0 (l5).length) :: (.int .i64 a2) :: (.int .i64 b2) :: (.int .i64 limit6) :: (.fn (n53_65 bb) [.ptr 1 0 0] []) :: n_ 7 ((.int .i64 (IntKind.wrap .i64 (b2 - a2))) :: (.int .i64 pivot4) :: n_ 134 [])) [some (gE_ bb l5), some (.var [.map 2, .map 3, .map 4]), some (oP1 uu []), some (oM3 hh), some (oM3 ww)]
theorem sPD_b_c20_ok (bb : Bool) {w0 W μ0} (hμ : Lt_ μ0 5) (data : LE bb) (a b limit : Int) (uu : UT) (hh ww : PT) (self_ : (LE bb) → (Int) → (Int) → (Int) → (UT) → (PT) → (PT) → Option ((LE bb))) (a2 b2 : Int) (hself : ∀ (data : LE bb) (a b limit : Int) (uu : UT) (hh ww : PT) (r : (LE bb)), self_ data a b limit uu hh ww = some r → ∀ σ, Inj 5 σ → FnTri Tryz.prog (n82_114 bb) (renL σ [.gs 0 (data).length, .int .i64 a, .int .i64 b, .int .i64 limit, .fn (n53_65 bb) [.ptr 1 0 0] []]) (preOf σ 0 (sPD_objs bb data uu hh ww)) ((sPD_v bb r).ren σ) (upOf σ (sPD_up bb uu hh ww r))) (k0 : (Int) → (Int) → (Int) → (Bool) → (Bool) → (LE bb) → Option ((LE bb))) (hk0 : ∀ (a2 b2 limit2 : Int) (wasBalanced wasPartitioned : Bool) (l : LE bb) (r : (LE bb)), k0 a2 b2 limit2 wasBalanced wasPartitioned l = some r → sPD_b_K0 w0 W μ0 bb uu hh ww a2 b2 limit2 wasBalanced wasPartitioned l r) (limit6 pivot4 : Int) (l5 : LE bb) (r : (LE bb)) (h : sPD_b_c20 bb data a b limit uu hh ww self_ a2 b2 k0 limit6 pivot4 l5 = some r) : sPD_b_K1000020 w0 W μ0 bb uu hh ww a2 b2 limit6 pivot4 l5 r := by
 unfold sPD_b_c20 at h
 obtain ⟨y2, E1, h⟩ := bs_ h
 obtain ⟨y3, E4, h⟩ := bs_ h
 rcases it_ h with ⟨C5, h⟩ | ⟨C5, h⟩
 ·obtain ⟨G6, h⟩ := gs_ h
  obtain ⟨y8, E7, h⟩ := bs_ h
  obtain ⟨G9, h⟩ := gs_ h
  exact rtb_ hμ [] 34 [.reg [(5, hk_ (hK_ [0, 1, 2, 3, 4] (sPA_v bb y2) (sPA_objs bb l5 uu hh ww) (sPA_up bb uu hh ww y2)))], .reg [], .reg [], .reg [(1, hv_ (.int .i64 y3))], .reg [(2, hT)], .reg [], .reg [(5, { call := some (hK_ [0, 1, 2, 3, 4] (sPD_v bb y8) (sPD_objs bb y2.2.2 uu hh ww) (sPD_up bb uu hh ww y8)), cargs := some [.gs 0 (y2.2.2).length, .int .i64 a2, .int .i64 y2.1, .int .i64 limit6, .fn (n53_65 bb) [.ptr 1 0 0] []] })], .reg [], .wk [(0, .gs 0 (y8).length)] []]
   (q0 (r1_ (q12 (q8 (sPA_ok bb l5 a2 b2 pivot4 uu hh ww y2 E1 (sel [0, 1, 2, 3, 4]) sj_) (rl_ (gE_ bb l5)) (o4_ [.map 2, .map 3, .map 4] uu hh ww)))) (r2_ tr) (r8_ tr) (q0 (r1_ (q5 (ne0 8 rfl) (le_nm (LV.int .i64) E4) tr)) (r2_ (f_ C5 tr)) (r4_ tr) (q0 (r1_ (r4_ (q6 (q0 (hself y2.2.2 a2 y2.1 limit6 uu hh ww y8 E7 (sel [0, 1, 2, 3, 4]) sj_) (q0 (le_gs 0 G6) (LV.Le.refl (.int .i64 a2)) (LV.Le.refl (.int .i64 y2.1)) (q3 (LV.Le.refl (.int .i64 limit6)) (LV.Le.refl (.fn (n53_65 bb) [.ptr 1 0 0] [])))) (rl_ (gE_ bb (y2.2.2))) (o4_ [.map 2, .map 3, .map 4] uu hh ww))))) (q2 tr) (q6 (le_gs 0 G9)) tr))) (hk0 _ _ _ _ _ _ r h) uS
 ·obtain ⟨G6, h⟩ := gs_ h
  obtain ⟨y8, E7, h⟩ := bs_ h
  obtain ⟨G9, h⟩ := gs_ h
  exact rtb_ hμ [] 34 [.reg [(5, hk_ (hK_ [0, 1, 2, 3, 4] (sPA_v bb y2) (sPA_objs bb l5 uu hh ww) (sPA_up bb uu hh ww y2)))], .reg [], .reg [], .reg [(1, hv_ (.int .i64 y3))], .reg [(2, hF)], .reg [], .reg [(6, { call := some (hK_ [0, 1, 2, 3, 4] (sPD_v bb y8) (sPD_objs bb y2.2.2 uu hh ww) (sPD_up bb uu hh ww y8)), cargs := some [.gs 0 (y2.2.2).length, .int .i64 (IntKind.wrap .i64 (y2.1 + 1)), .int .i64 b2, .int .i64 limit6, .fn (n53_65 bb) [.ptr 1 0 0] []] })], .reg [], .wk [(0, .gs 0 (y8).length)] []]
   (q0 (r1_ (q12 (q8 (sPA_ok bb l5 a2 b2 pivot4 uu hh ww y2 E1 (sel [0, 1, 2, 3, 4]) sj_) (rl_ (gE_ bb l5)) (o4_ [.map 2, .map 3, .map 4] uu hh ww)))) (r2_ tr) (r8_ tr) (q0 (r1_ (q5 (ne0 8 rfl) (le_nm (LV.int .i64) E4) tr)) (r2_ (f_ C5 tr)) (r4_ tr) (q0 (q23 (q6 (q0 (hself y2.2.2 (IntKind.wrap .i64 (y2.1 + 1)) b2 limit6 uu hh ww y8 E7 (sel [0, 1, 2, 3, 4]) sj_) (q0 (le_gs 0 G6) (LV.Le.refl (.int .i64 (IntKind.wrap .i64 (y2.1 + 1)))) (LV.Le.refl (.int .i64 b2)) (q3 (LV.Le.refl (.int .i64 limit6)) (LV.Le.refl (.fn (n53_65 bb) [.ptr 1 0 0] [])))) (rl_ (gE_ bb (y2.2.2))) (o4_ [.map 2, .map 3, .map 4] uu hh ww)))) (r2_ tr) (q6 (le_gs 0 G9)) tr))) (hk0 _ _ _ _ _ _ r h) uS
theorem sPD_b_c16_ok (bb : Bool) {w0 W μ0} (hμ : Lt_ μ0 5) (data : LE bb) (a b limit : Int) (uu : UT) (hh ww : PT) (self_ : (LE bb) → (Int) → (Int) → (Int) → (UT) → (PT) → (PT) → Option ((LE bb))) (a2 b2 : Int) (wasBalanced wasPartitioned : Bool) (hself : ∀ (data : LE bb) (a b limit : Int) (uu : UT) (hh ww : PT) (r : (LE bb)), self_ data a b limit uu hh ww = some r → ∀ σ, Inj 5 σ → FnTri Tryz.prog (n82_114 bb) (renL σ [.gs 0 (data).length, .int .i64 a, .int .i64 b, .int .i64 limit, .fn (n53_65 bb) [.ptr 1 0 0] []]) (preOf σ 0 (sPD_objs bb data uu hh ww)) ((sPD_v bb r).ren σ) (upOf σ (sPD_up bb uu hh ww r))) (k0 : (Int) → (Int) → (Int) → (Bool) → (Bool) → (LE bb) → Option ((LE bb))) (hk0 : ∀ (a2 b2 limit2 : Int) (wasBalanced wasPartitioned : Bool) (l : LE bb) (r : (LE bb)), k0 a2 b2 limit2 wasBalanced wasPartitioned l = some r → sPD_b_K0 w0 W μ0 bb uu hh ww a2 b2 limit2 wasBalanced wasPartitioned l r) (limit3 pivot : Int) (l2 : LE bb) (r : (LE bb)) (h : sPD_b_c16 bb data a b limit uu hh ww self_ a2 b2 wasBalanced wasPartitioned k0 limit3 pivot l2 = some r) : sPD_b_K1000016 w0 W μ0 bb uu hh ww a2 b2 wasBalanced wasPartitioned limit3 pivot l2 r := by
 unfold sPD_b_c16 at h
 obtain ⟨y2, E1, h⟩ := bs_ h
 rcases it_ h with ⟨C3, h⟩ | ⟨C3, h⟩
 ·obtain rfl := si_ h
  exact rrb_ [] 12 [.reg [(4, { call := some (hK_ [0, 1, 2, 3, 4] (sPI_v bb y2) (sPI_objs bb l2 uu hh ww) (sPI_up bb uu hh ww y2)), v := some (.bool true) })]]
   (q6 (r4_ (q9 (q8 (sPI_ok bb l2 a2 b2 uu hh ww y2 E1 (sel [0, 1, 2, 3, 4]) sj_) (rl_ (gE_ bb l2)) (o4_ [.map 2, .map 3, .map 4] uu hh ww)) (leB C3))))
 ·rcases it_ h with ⟨C4, h⟩ | ⟨C4, h⟩
  ·obtain ⟨G5, h⟩ := gs_ h
   obtain ⟨G6, h⟩ := gs_ h
   obtain ⟨y7, E8, h⟩ := bs_ h
   obtain ⟨G9, h⟩ := gs_ h
   obtain ⟨G10, h⟩ := gs_ h
   obtain ⟨y12, E11, h⟩ := bs_ h
   rcases it_ h with ⟨C13, h⟩ | ⟨C13, h⟩
   ·obtain ⟨G14, h⟩ := gs_ h
    exact rtb_ hμ [] 20 [.reg [(4, { call := some (hK_ [0, 1, 2, 3, 4] (sPI_v bb y2) (sPI_objs bb l2 uu hh ww) (sPI_up bb uu hh ww y2)), v := some (.bool false) })], .reg [(2, hT), (8, hv_ ((v_E_ bb) y7)), (13, hk_ (hK_ [1, 2, 3, 4] (cmp__v bb y12) (cmp__objs bb uu hh ww) (cmp__up bb uu hh ww y12))), (16, hT)], .wk [(0, .gs 0 (y2.2).length)] []]
     (q0 (r4_ (q9 (q8 (sPI_ok bb l2 a2 b2 uu hh ww y2 E1 (sel [0, 1, 2, 3, 4]) sj_) (rl_ (gE_ bb l2)) (o4_ [.map 2, .map 3, .map 4] uu hh ww)) (leB C3))) (r2_ (f_ C4 (r4_ (a_ (a_ (a_ (Eq.refl (z_ bb)) G5) tr) (a_ (a_ (a_ G6 (Nat.le_refl (z_ bb))) (a_ (le_nm (v_E_ bb) E8) tr)) (r2_ (a_ (a_ (a_ (Eq.refl (z_ bb)) G9) tr) (a_ (a_ (a_ G10 (Nat.le_refl (z_ bb))) tr) (a_ (a_ (a_ (cmp__ok bb uu hh ww y7 (y2.2.getD pivot.toNat default) y12 E11 (sel [1, 2, 3, 4]) sj_) (o4_ [.map 2, .map 3, .map 4] uu hh ww)) tr) (r2_ (f_ C13 tr))))))))))) (q6 (le_gs 0 G14)) tr) (sPD_b_c18_ok bb hμ data a b limit uu hh ww self_ a2 b2 wasBalanced wasPartitioned hself k0 hk0 _ _ _ r h) uS
   ·obtain ⟨G14, h⟩ := gs_ h
    exact rtb_ hμ [] 21 [.reg [(4, { call := some (hK_ [0, 1, 2, 3, 4] (sPI_v bb y2) (sPI_objs bb l2 uu hh ww) (sPI_up bb uu hh ww y2)), v := some (.bool false) })], .reg [(2, hT), (8, hv_ ((v_E_ bb) y7)), (13, hk_ (hK_ [1, 2, 3, 4] (cmp__v bb y12) (cmp__objs bb uu hh ww) (cmp__up bb uu hh ww y12))), (16, hF)], .wk [(0, .gs 0 (y2.2).length)] []]
     (q0 (r4_ (q9 (q8 (sPI_ok bb l2 a2 b2 uu hh ww y2 E1 (sel [0, 1, 2, 3, 4]) sj_) (rl_ (gE_ bb l2)) (o4_ [.map 2, .map 3, .map 4] uu hh ww)) (leB C3))) (r2_ (f_ C4 (r4_ (a_ (a_ (a_ (Eq.refl (z_ bb)) G5) tr) (a_ (a_ (a_ G6 (Nat.le_refl (z_ bb))) (a_ (le_nm (v_E_ bb) E8) tr)) (r2_ (a_ (a_ (a_ (Eq.refl (z_ bb)) G9) tr) (a_ (a_ (a_ G10 (Nat.le_refl (z_ bb))) tr) (a_ (a_ (a_ (cmp__ok bb uu hh ww y7 (y2.2.getD pivot.toNat default) y12 E11 (sel [1, 2, 3, 4]) sj_) (o4_ [.map 2, .map 3, .map 4] uu hh ww)) tr) (r2_ (f_ C13 tr))))))))))) (q6 (le_gs 0 G14)) tr) (sPD_b_c20_ok bb hμ data a b limit uu hh ww self_ a2 b2 hself k0 hk0 _ _ _ r h) uS
  ·obtain ⟨G5, h⟩ := gs_ h
   exact rtb_ hμ [] 21 [.reg [(4, { call := some (hK_ [0, 1, 2, 3, 4] (sPI_v bb y2) (sPI_objs bb l2 uu hh ww) (sPI_up bb uu hh ww y2)), v := some (.bool false) })], .reg [(2, hF)], .wk [(0, .gs 0 (y2.2).length)] []]
    (q0 (r4_ (q9 (q8 (sPI_ok bb l2 a2 b2 uu hh ww y2 E1 (sel [0, 1, 2, 3, 4]) sj_) (rl_ (gE_ bb l2)) (o4_ [.map 2, .map 3, .map 4] uu hh ww)) (leB C3))) (r2_ (f_ C4 (a_ tr (t4_ (t8_ (r1_ tr)))))) (q6 (le_gs 0 G5)) tr) (sPD_b_c20_ok bb hμ data a b limit uu hh ww self_ a2 b2 hself k0 hk0 _ _ _ r h) uS
abbrev sPD_b_K1000017 (bb : Bool) (uu : UT) (hh ww : PT) (a2 b2 : Int) (wasBalanced wasPartitioned : Bool) (limit4 pivot2 : Int) (l3 : LE bb) (r : (LE bb)) : Prop := Kt_ w0 W μ0 (q_f82 bb) 5 5 (sPD_b_v bb r) (sPD_b_up bb uu hh ww r) (kAtR (bodyOf (q_f82 bb)) 17) ((.gs 0 (l3).length) :: (.int .i64 a2) :: (.int .i64 b2) :: (.int .i64 limit4) :: (.fn (n53_65 bb) [.ptr 1 0 0] []) :: n_ 5 ((.bool wasBalanced) :: (.bool wasPartitioned) :: (.int .i64 (IntKind.wrap .i64 (b2 - a2))) :: (.int .i64 pivot2) :: n_ 134 [])) [some (gE_ bb l3), some (.var [.map 2, .map 3, .map 4]), some (oP1 uu []), some (oM3 hh), some (oM3 ww)]
abbrev sPD_b_K1000025 (bb : Bool) (uu : UT) (hh ww : PT) (a2 b2 limit7 : Int) (wasPartitioned2 : Bool) (mid leftLen balanceThreshold : Int) (l6 : LE bb) (r : (LE bb)) : Prop := Kt_ w0 W μ0 (q_f82 bb) 5 5 (sPD_b_v bb r) (sPD_b_up bb uu hh ww r) (kAtR (bodyOf (q_f82 bb)) 25) ((.gs 0 (l6).length) :: (.int .i64 a2) :: (.int .i64 b2) :: (.int .i64 limit7) :: (.fn (n53_65 bb) [.ptr 1 0 0] []) :: n_ 6 ((.bool wasPartitioned2) :: n_ 4 ((.int .i64 mid) :: .any :: (.int .i64 leftLen) :: .any :: (.int .i64 balanceThreshold) :: n_ 127 []))) [some (gE_ bb l6), some (.var [.map 2, .map 3, .map 4]), some (oP1 uu []), some (oM3 hh), some (oM3 ww)]
theorem sPD_b_c25_ok (bb : Bool) {w0 W μ0} (hμ : Lt_ μ0 5) (data : LE bb) (a b limit : Int) (uu : UT) (hh ww : PT) (self_ : (LE bb) → (Int) → (Int) → (Int) → (UT) → (PT) → (PT) → Option ((LE bb))) (a2 b2 : Int) (hself : ∀ (data : LE bb) (a b limit : Int) (uu : UT) (hh ww : PT) (r : (LE bb)), self_ data a b limit uu hh ww = some r → ∀ σ, Inj 5 σ → FnTri Tryz.prog (n82_114 bb) (renL σ [.gs 0 (data).length, .int .i64 a, .int .i64 b, .int .i64 limit, .fn (n53_65 bb) [.ptr 1 0 0] []]) (preOf σ 0 (sPD_objs bb data uu hh ww)) ((sPD_v bb r).ren σ) (upOf σ (sPD_up bb uu hh ww r))) (k0 : (Int) → (Int) → (Int) → (Bool) → (Bool) → (LE bb) → Option ((LE bb))) (hk0 : ∀ (a2 b2 limit2 : Int) (wasBalanced wasPartitioned : Bool) (l : LE bb) (r : (LE bb)), k0 a2 b2 limit2 wasBalanced wasPartitioned l = some r → sPD_b_K0 w0 W μ0 bb uu hh ww a2 b2 limit2 wasBalanced wasPartitioned l r) (limit7 : Int) (wasPartitioned2 : Bool) (mid leftLen balanceThreshold : Int) (l6 : LE bb) (r : (LE bb)) (h : sPD_b_c25 bb data a b limit uu hh ww self_ a2 b2 k0 limit7 wasPartitioned2 mid leftLen balanceThreshold l6 = some r) : sPD_b_K1000025 w0 W μ0 bb uu hh ww a2 b2 limit7 wasPartitioned2 mid leftLen balanceThreshold l6 r := by
 unfold sPD_b_c25 at h
 obtain ⟨y2, E1, h⟩ := bs_ h
 obtain ⟨G3, h⟩ := gs_ h
 exact rtb_ hμ [] 18 [.reg [], .reg [(5, hk_ (hK_ [0, 1, 2, 3, 4] (sPD_v bb y2) (sPD_objs bb l6 uu hh ww) (sPD_up bb uu hh ww y2)))], .reg [], .wk [(0, .gs 0 (y2).length)] []]
  (q7 (r4_ tr) (r4_ (q18 (hself l6 a2 mid limit7 uu hh ww y2 E1 (sel [0, 1, 2, 3, 4]) sj_) (rl_ (gE_ bb l6)) (o4_ [.map 2, .map 3, .map 4] uu hh ww))) (q2 tr) (q6 (q1 (le_gs 0 G3)))) (hk0 _ _ _ _ _ _ r h) uS
abbrev sPD_b_K1000028 (bb : Bool) (uu : UT) (hh ww : PT) (a2 b2 limit8 : Int) (wasPartitioned3 : Bool) (mid2 rightLen balanceThreshold2 : Int) (l7 : LE bb) (r : (LE bb)) : Prop := Kt_ w0 W μ0 (q_f82 bb) 5 5 (sPD_b_v bb r) (sPD_b_up bb uu hh ww r) (kAtR (bodyOf (q_f82 bb)) 28) ((.gs 0 (l7).length) :: (.int .i64 a2) :: (.int .i64 b2) :: (.int .i64 limit8) :: (.fn (n53_65 bb) [.ptr 1 0 0] []) :: n_ 6 ((.bool wasPartitioned3) :: n_ 4 ((.int .i64 mid2) :: .any :: .any :: (.int .i64 rightLen) :: (.int .i64 balanceThreshold2) :: n_ 127 []))) [some (gE_ bb l7), some (.var [.map 2, .map 3, .map 4]), some (oP1 uu []), some (oM3 hh), some (oM3 ww)]
theorem sPD_b_c28_ok (bb : Bool) {w0 W μ0} (hμ : Lt_ μ0 5) (data : LE bb) (a b limit : Int) (uu : UT) (hh ww : PT) (self_ : (LE bb) → (Int) → (Int) → (Int) → (UT) → (PT) → (PT) → Option ((LE bb))) (a2 b2 : Int) (hself : ∀ (data : LE bb) (a b limit : Int) (uu : UT) (hh ww : PT) (r : (LE bb)), self_ data a b limit uu hh ww = some r → ∀ σ, Inj 5 σ → FnTri Tryz.prog (n82_114 bb) (renL σ [.gs 0 (data).length, .int .i64 a, .int .i64 b, .int .i64 limit, .fn (n53_65 bb) [.ptr 1 0 0] []]) (preOf σ 0 (sPD_objs bb data uu hh ww)) ((sPD_v bb r).ren σ) (upOf σ (sPD_up bb uu hh ww r))) (k0 : (Int) → (Int) → (Int) → (Bool) → (Bool) → (LE bb) → Option ((LE bb))) (hk0 : ∀ (a2 b2 limit2 : Int) (wasBalanced wasPartitioned : Bool) (l : LE bb) (r : (LE bb)), k0 a2 b2 limit2 wasBalanced wasPartitioned l = some r → sPD_b_K0 w0 W μ0 bb uu hh ww a2 b2 limit2 wasBalanced wasPartitioned l r) (limit8 : Int) (wasPartitioned3 : Bool) (mid2 rightLen balanceThreshold2 : Int) (l7 : LE bb) (r : (LE bb)) (h : sPD_b_c28 bb data a b limit uu hh ww self_ a2 b2 k0 limit8 wasPartitioned3 mid2 rightLen balanceThreshold2 l7 = some r) : sPD_b_K1000028 w0 W μ0 bb uu hh ww a2 b2 limit8 wasPartitioned3 mid2 rightLen balanceThreshold2 l7 r := by
 unfold sPD_b_c28 at h
 obtain ⟨y2, E1, h⟩ := bs_ h
 obtain ⟨G3, h⟩ := gs_ h
 exact rtb_ hμ [] 18 [.reg [], .reg [(6, hk_ (hK_ [0, 1, 2, 3, 4] (sPD_v bb y2) (sPD_objs bb l7 uu hh ww) (sPD_up bb uu hh ww y2)))], .reg [], .wk [(0, .gs 0 (y2).length)] []]
  (q0 (r4_ tr) (q23 (q18 (hself l7 (IntKind.wrap .i64 (mid2 + 1)) b2 limit8 uu hh ww y2 E1 (sel [0, 1, 2, 3, 4]) sj_) (rl_ (gE_ bb l7)) (o4_ [.map 2, .map 3, .map 4] uu hh ww))) (r2_ tr) (q6 (q1 (le_gs 0 G3)))) (hk0 _ _ _ _ _ _ r h) uS
theorem sPD_b_c17_ok (bb : Bool) {w0 W μ0} (hμ : Lt_ μ0 5) (data : LE bb) (a b limit : Int) (uu : UT) (hh ww : PT) (self_ : (LE bb) → (Int) → (Int) → (Int) → (UT) → (PT) → (PT) → Option ((LE bb))) (a2 b2 : Int) (wasBalanced wasPartitioned : Bool) (hself : ∀ (data : LE bb) (a b limit : Int) (uu : UT) (hh ww : PT) (r : (LE bb)), self_ data a b limit uu hh ww = some r → ∀ σ, Inj 5 σ → FnTri Tryz.prog (n82_114 bb) (renL σ [.gs 0 (data).length, .int .i64 a, .int .i64 b, .int .i64 limit, .fn (n53_65 bb) [.ptr 1 0 0] []]) (preOf σ 0 (sPD_objs bb data uu hh ww)) ((sPD_v bb r).ren σ) (upOf σ (sPD_up bb uu hh ww r))) (k0 : (Int) → (Int) → (Int) → (Bool) → (Bool) → (LE bb) → Option ((LE bb))) (hk0 : ∀ (a2 b2 limit2 : Int) (wasBalanced wasPartitioned : Bool) (l : LE bb) (r : (LE bb)), k0 a2 b2 limit2 wasBalanced wasPartitioned l = some r → sPD_b_K0 w0 W μ0 bb uu hh ww a2 b2 limit2 wasBalanced wasPartitioned l r) (limit4 pivot2 : Int) (l3 : LE bb) (r : (LE bb)) (h : sPD_b_c17 bb data a b limit uu hh ww self_ a2 b2 wasBalanced wasPartitioned k0 limit4 pivot2 l3 = some r) : sPD_b_K1000017 w0 W μ0 bb uu hh ww a2 b2 wasBalanced wasPartitioned limit4 pivot2 l3 r := by
 unfold sPD_b_c17 at h
 rcases it_ h with ⟨C1, h⟩ | ⟨C1, h⟩
 ·obtain ⟨G2, h⟩ := gs_ h
  obtain ⟨y3, E4, h⟩ := bs_ h
  obtain ⟨G5, h⟩ := gs_ h
  obtain ⟨y7, E6, h⟩ := bs_ h
  rcases it_ h with ⟨C8, h⟩ | ⟨C8, h⟩
  ·exact rtb_ hμ [] 13 [.reg [(2, hT), (8, hv_ ((v_E_ bb) y3)), (13, hk_ (hK_ [1, 2, 3, 4] (cmp__v bb y7) (cmp__objs bb uu hh ww) (cmp__up bb uu hh ww y7))), (16, hT)]]
    (q14 (f_ C1 (r4_ (ld_ (z_ bb) G2 (a_ (le_nm (v_E_ bb) E4) tr) (r2_ (ld_ (z_ bb) G5 tr (a_ (a_ (a_ (cmp__ok bb uu hh ww y3 (l3.getD pivot2.toNat default) y7 E6 (sel [1, 2, 3, 4]) sj_) (o4_ [.map 2, .map 3, .map 4] uu hh ww)) tr) (r2_ (f_ C8 tr))))))))) (sPD_b_c18_ok bb hμ data a b limit uu hh ww self_ a2 b2 wasBalanced wasPartitioned hself k0 hk0 _ _ _ r h) uS
  ·exact rtb_ hμ [] 14 [.reg [(2, hT), (8, hv_ ((v_E_ bb) y3)), (13, hk_ (hK_ [1, 2, 3, 4] (cmp__v bb y7) (cmp__objs bb uu hh ww) (cmp__up bb uu hh ww y7))), (16, hF)]]
    (q14 (f_ C1 (r4_ (ld_ (z_ bb) G2 (a_ (le_nm (v_E_ bb) E4) tr) (r2_ (ld_ (z_ bb) G5 tr (a_ (a_ (a_ (cmp__ok bb uu hh ww y3 (l3.getD pivot2.toNat default) y7 E6 (sel [1, 2, 3, 4]) sj_) (o4_ [.map 2, .map 3, .map 4] uu hh ww)) tr) (r2_ (f_ C8 tr))))))))) (sPD_b_c20_ok bb hμ data a b limit uu hh ww self_ a2 b2 hself k0 hk0 _ _ _ r h) uS
 ·obtain ⟨y4, E2, h⟩ := bs_ h
  obtain ⟨y5, E6, h⟩ := bs_ h
  rcases it_ h with ⟨C7, h⟩ | ⟨C7, h⟩
  ·obtain ⟨G8, h⟩ := gs_ h
   exact rtb_ hμ [] 31 [.reg [(2, hF)], .reg [(5, hk_ (hK_ [0, 1, 2, 3, 4] (sPA_v bb y4) (sPA_objs bb l3 uu hh ww) (sPA_up bb uu hh ww y4)))], .reg [], .reg [], .reg [(1, hv_ (.int .i64 y5))], .reg [(2, hT)], .wk [(0, .gs 0 (y4.2.2).length)] []]
    (q7 (r2_ (f_ C1 (a_ tr (t4_ (t8_ (r1_ tr)))))) (q12 (q8 (sPA_ok bb l3 a2 b2 pivot2 uu hh ww y4 E2 (sel [0, 1, 2, 3, 4]) sj_) (rl_ (gE_ bb l3)) (o4_ [.map 2, .map 3, .map 4] uu hh ww))) (r2_ tr) (q7 (r8_ tr) (q5 (ne0 8 rfl) (le_nm (LV.int .i64) E6) tr) (r2_ (f_ C7 tr)) (q6 (q1 (le_gs 0 G8))))) (sPD_b_c25_ok bb hμ data a b limit uu hh ww self_ a2 b2 hself k0 hk0 _ _ _ _ _ _ r h) uS
  ·obtain ⟨G8, h⟩ := gs_ h
   exact rtb_ hμ [] 31 [.reg [(2, hF)], .reg [(5, hk_ (hK_ [0, 1, 2, 3, 4] (sPA_v bb y4) (sPA_objs bb l3 uu hh ww) (sPA_up bb uu hh ww y4)))], .reg [], .reg [], .reg [(1, hv_ (.int .i64 y5))], .reg [(2, hF)], .wk [(0, .gs 0 (y4.2.2).length)] []]
    (q7 (r2_ (f_ C1 (a_ tr (t4_ (t8_ (r1_ tr)))))) (q12 (q8 (sPA_ok bb l3 a2 b2 pivot2 uu hh ww y4 E2 (sel [0, 1, 2, 3, 4]) sj_) (rl_ (gE_ bb l3)) (o4_ [.map 2, .map 3, .map 4] uu hh ww))) (r2_ tr) (q7 (r8_ tr) (q5 (ne0 8 rfl) (le_nm (LV.int .i64) E6) tr) (r2_ (f_ C7 tr)) (q6 (q1 (le_gs 0 G8))))) (sPD_b_c28_ok bb hμ data a b limit uu hh ww self_ a2 b2 hself k0 hk0 _ _ _ _ _ _ r h) uS
theorem sPD_b_c9_ok (bb : Bool) {w0 W μ0} (hμ : Lt_ μ0 5) (data : LE bb) (a b limit : Int) (uu : UT) (hh ww : PT) (self_ : (LE bb) → (Int) → (Int) → (Int) → (UT) → (PT) → (PT) → Option ((LE bb))) (a2 b2 limit2 : Int) (wasBalanced wasPartitioned : Bool) (yL0_5 : (LE bb)) (hself : ∀ (data : LE bb) (a b limit : Int) (uu : UT) (hh ww : PT) (r : (LE bb)), self_ data a b limit uu hh ww = some r → ∀ σ, Inj 5 σ → FnTri Tryz.prog (n82_114 bb) (renL σ [.gs 0 (data).length, .int .i64 a, .int .i64 b, .int .i64 limit, .fn (n53_65 bb) [.ptr 1 0 0] []]) (preOf σ 0 (sPD_objs bb data uu hh ww)) ((sPD_v bb r).ren σ) (upOf σ (sPD_up bb uu hh ww r))) (k0 : (Int) → (Int) → (Int) → (Bool) → (Bool) → (LE bb) → Option ((LE bb))) (hk0 : ∀ (a2 b2 limit2 : Int) (wasBalanced wasPartitioned : Bool) (l : LE bb) (r : (LE bb)), k0 a2 b2 limit2 wasBalanced wasPartitioned l = some r → sPD_b_K0 w0 W μ0 bb uu hh ww a2 b2 limit2 wasBalanced wasPartitioned l r) (r : (LE bb)) (h : sPD_b_c9 bb data a b limit uu hh ww self_ a2 b2 limit2 wasBalanced wasPartitioned yL0_5 k0 = some r) : sPD_b_K1000009 w0 W μ0 bb uu hh ww a2 b2 limit2 wasBalanced wasPartitioned yL0_5 r := by
 unfold sPD_b_c9 at h
 obtain ⟨y2, E1, h⟩ := bs_ h
 rcases it_ h with ⟨C3, h⟩ | ⟨C3, h⟩
 ·obtain ⟨yC9_5, E4, h⟩ := bs_ h
  obtain ⟨y6, E7, h⟩ := bs_ h
  rcases it_ h with ⟨C8, h⟩ | ⟨C8, h⟩
  ·rcases it_ h with ⟨C9, h⟩ | ⟨C9, h⟩
   ·obtain ⟨G10, h⟩ := gs_ h
    exact rtb_ hμ [] 34 [.reg [], .reg [(4, hk_ (hK_ [0, 1, 2, 3, 4] (sCP_v bb y2) (sCP_objs bb yL0_5 uu hh ww) (sCP_up bb yL0_5 uu hh ww y2)))], .reg [(1, hT)], .reg [(4, hk_ (hK_ [0, 1, 2, 3, 4] (sRR_v bb yC9_5) (sRR_objs bb yL0_5 uu hh ww) (sRR_up bb uu hh ww yC9_5)))], .reg [(5, hv_ (.int .i64 y6))], .reg [], .reg [(1, hT), (4, hT)], .wk [(0, .gs 0 (yC9_5).length)] []]
     (q11 (q2 tr) (q12 (q8 (sCP_ok bb yL0_5 a2 b2 uu hh ww y2 E1 (sel [0, 1, 2, 3, 4]) sj_) (rl_ (gE_ bb yL0_5)) (o4_ [.map 2, .map 3, .map 4] uu hh ww))) (f_ C3 tr) (q7 (r4_ (q18 (sRR_ok bb yL0_5 a2 b2 uu hh ww yC9_5 E4 (sel [0, 1, 2, 3, 4]) sj_) (rl_ (gE_ bb yL0_5)) (o4_ [.map 2, .map 3, .map 4] uu hh ww))) (r4_ (q21 (le_nm (LV.int .i64) E7))) (r1_ tr) (q27 (f_ C8 (r2_ (f_ C9 (r1_ (r2_ tr))))) (q6 (le_gs 0 G10))))) (sPD_b_c16_ok bb hμ data a b limit uu hh ww self_ a2 b2 wasBalanced wasPartitioned hself k0 hk0 _ _ _ r h) uS
   ·obtain ⟨G10, h⟩ := gs_ h
    exact rtb_ hμ [] 36 [.reg [], .reg [(4, hk_ (hK_ [0, 1, 2, 3, 4] (sCP_v bb y2) (sCP_objs bb yL0_5 uu hh ww) (sCP_up bb yL0_5 uu hh ww y2)))], .reg [(1, hT)], .reg [(4, hk_ (hK_ [0, 1, 2, 3, 4] (sRR_v bb yC9_5) (sRR_objs bb yL0_5 uu hh ww) (sRR_up bb uu hh ww yC9_5)))], .reg [(5, hv_ (.int .i64 y6))], .reg [], .reg [(1, hT), (4, hF)], .wk [(0, .gs 0 (yC9_5).length)] []]
     (q11 (q2 tr) (q12 (q8 (sCP_ok bb yL0_5 a2 b2 uu hh ww y2 E1 (sel [0, 1, 2, 3, 4]) sj_) (rl_ (gE_ bb yL0_5)) (o4_ [.map 2, .map 3, .map 4] uu hh ww))) (f_ C3 tr) (q7 (r4_ (q18 (sRR_ok bb yL0_5 a2 b2 uu hh ww yC9_5 E4 (sel [0, 1, 2, 3, 4]) sj_) (rl_ (gE_ bb yL0_5)) (o4_ [.map 2, .map 3, .map 4] uu hh ww))) (r4_ (q21 (le_nm (LV.int .i64) E7))) (r1_ tr) (q27 (f_ C8 (r2_ (f_ C9 (t2_ (r1_ tr))))) (q6 (le_gs 0 G10))))) (sPD_b_c17_ok bb hμ data a b limit uu hh ww self_ a2 b2 wasBalanced wasPartitioned hself k0 hk0 _ _ _ r h) uS
  ·obtain ⟨G9, h⟩ := gs_ h
   exact rtb_ hμ [] 36 [.reg [], .reg [(4, hk_ (hK_ [0, 1, 2, 3, 4] (sCP_v bb y2) (sCP_objs bb yL0_5 uu hh ww) (sCP_up bb yL0_5 uu hh ww y2)))], .reg [(1, hT)], .reg [(4, hk_ (hK_ [0, 1, 2, 3, 4] (sRR_v bb yC9_5) (sRR_objs bb yL0_5 uu hh ww) (sRR_up bb uu hh ww yC9_5)))], .reg [(5, hv_ (.int .i64 y6))], .reg [], .reg [(1, hF)], .wk [(0, .gs 0 (yC9_5).length)] []]
    (q11 (q2 tr) (q12 (q8 (sCP_ok bb yL0_5 a2 b2 uu hh ww y2 E1 (sel [0, 1, 2, 3, 4]) sj_) (rl_ (gE_ bb yL0_5)) (o4_ [.map 2, .map 3, .map 4] uu hh ww))) (f_ C3 tr) (q7 (r4_ (q18 (sRR_ok bb yL0_5 a2 b2 uu hh ww yC9_5 E4 (sel [0, 1, 2, 3, 4]) sj_) (rl_ (gE_ bb yL0_5)) (o4_ [.map 2, .map 3, .map 4] uu hh ww))) (r4_ (q21 (le_nm (LV.int .i64) E7))) (r1_ tr) (q27 (f_ C8 (a_ tr (r2_ (t2_ (r1_ tr))))) (q6 (le_gs 0 G9))))) (sPD_b_c17_ok bb hμ data a b limit uu hh ww self_ a2 b2 wasBalanced wasPartitioned hself k0 hk0 _ _ _ r h) uS
 ·rcases it_ h with ⟨C4, h⟩ | ⟨C4, h⟩
  ·rcases it_ h with ⟨C5, h⟩ | ⟨C5, h⟩
   ·rcases it_ h with ⟨C6, h⟩ | ⟨C6, h⟩
    ·exact rtb_ hμ [] 26 [.reg [], .reg [(4, hk_ (hK_ [0, 1, 2, 3, 4] (sCP_v bb y2) (sCP_objs bb yL0_5 uu hh ww) (sCP_up bb yL0_5 uu hh ww y2)))], .reg [(1, hF)], .reg [(1, hT), (4, hT), (7, hT)]]
      (q11 (q2 tr) (q12 (q8 (sCP_ok bb yL0_5 a2 b2 uu hh ww y2 E1 (sel [0, 1, 2, 3, 4]) sj_) (rl_ (gE_ bb yL0_5)) (o4_ [.map 2, .map 3, .map 4] uu hh ww))) (f_ C3 tr) (q19 (f_ C4 (r2_ (f_ C5 (r2_ (f_ C6 tr))))))) (sPD_b_c16_ok bb hμ data a b limit uu hh ww self_ a2 b2 wasBalanced wasPartitioned hself k0 hk0 _ _ _ r h) uS
    ·exact rtb_ hμ [] 28 [.reg [], .reg [(4, hk_ (hK_ [0, 1, 2, 3, 4] (sCP_v bb y2) (sCP_objs bb yL0_5 uu hh ww) (sCP_up bb yL0_5 uu hh ww y2)))], .reg [(1, hF)], .reg [(1, hT), (4, hT), (7, hF)]]
      (q11 (q2 tr) (q12 (q8 (sCP_ok bb yL0_5 a2 b2 uu hh ww y2 E1 (sel [0, 1, 2, 3, 4]) sj_) (rl_ (gE_ bb yL0_5)) (o4_ [.map 2, .map 3, .map 4] uu hh ww))) (f_ C3 tr) (q19 (f_ C4 (r2_ (f_ C5 (r2_ (f_ C6 tr))))))) (sPD_b_c17_ok bb hμ data a b limit uu hh ww self_ a2 b2 wasBalanced wasPartitioned hself k0 hk0 _ _ _ r h) uS
   ·exact rtb_ hμ [] 28 [.reg [], .reg [(4, hk_ (hK_ [0, 1, 2, 3, 4] (sCP_v bb y2) (sCP_objs bb yL0_5 uu hh ww) (sCP_up bb yL0_5 uu hh ww y2)))], .reg [(1, hF)], .reg [(1, hT), (4, hF)]]
     (q11 (q2 tr) (q12 (q8 (sCP_ok bb yL0_5 a2 b2 uu hh ww y2 E1 (sel [0, 1, 2, 3, 4]) sj_) (rl_ (gE_ bb yL0_5)) (o4_ [.map 2, .map 3, .map 4] uu hh ww))) (f_ C3 tr) (q19 (f_ C4 (r2_ (f_ C5 (t2_ (r1_ tr))))))) (sPD_b_c17_ok bb hμ data a b limit uu hh ww self_ a2 b2 wasBalanced wasPartitioned hself k0 hk0 _ _ _ r h) uS
  ·exact rtb_ hμ [] 28 [.reg [], .reg [(4, hk_ (hK_ [0, 1, 2, 3, 4] (sCP_v bb y2) (sCP_objs bb yL0_5 uu hh ww) (sCP_up bb yL0_5 uu hh ww y2)))], .reg [(1, hF)], .reg [(1, hF)]]
    (q11 (q2 tr) (q12 (q8 (sCP_ok bb yL0_5 a2 b2 uu hh ww y2 E1 (sel [0, 1, 2, 3, 4]) sj_) (rl_ (gE_ bb yL0_5)) (o4_ [.map 2, .map 3, .map 4] uu hh ww))) (f_ C3 tr) (q19 (f_ C4 (a_ tr (r2_ (t2_ (r1_ tr))))))) (sPD_b_c17_ok bb hμ data a b limit uu hh ww self_ a2 b2 wasBalanced wasPartitioned hself k0 hk0 _ _ _ r h) uS
abbrev sPD_b_K1000011 (bb : Bool) (uu : UT) (hh ww : PT) (a2 b2 limit2 : Int) (wasBalanced wasPartitioned : Bool) (l : LE bb) (y6 : (Int) × (Int)) (r : (LE bb)) : Prop := Kt_ w0 W μ0 (q_f82 bb) 5 5 (sPD_b_v bb r) (sPD_b_up bb uu hh ww r) (kAtR (bodyOf (q_f82 bb)) 11) ((.gs 0 (l).length) :: (.int .i64 a2) :: (.int .i64 b2) :: (.int .i64 limit2) :: (.fn (n53_65 bb) [.ptr 1 0 0] []) :: n_ 5 ((.bool wasBalanced) :: (.bool wasPartitioned) :: (.int .i64 (IntKind.wrap .i64 (b2 - a2))) :: (.int .i64 y6.1) :: (.int .i64 y6.2) :: n_ 133 [])) [some (gE_ bb l), some (.var [.map 2, .map 3, .map 4]), some (oP1 uu []), some (oM3 hh), some (oM3 ww)]
abbrev sPD_b_K1000021 (bb : Bool) (uu : UT) (hh ww : PT) (a2 b2 limit2 : Int) (y8 : (Int) × (Bool) × (LE bb)) (r : (LE bb)) : Prop := Kt_ w0 W μ0 (q_f82 bb) 5 5 (sPD_b_v bb r) (sPD_b_up bb uu hh ww r) (kAtR (bodyOf (q_f82 bb)) 21) ((.gs 0 (y8.2.2).length) :: (.int .i64 a2) :: (.int .i64 b2) :: (.int .i64 limit2) :: (.fn (n53_65 bb) [.ptr 1 0 0] []) :: n_ 7 ((.int .i64 (IntKind.wrap .i64 (b2 - a2))) :: .any :: .any :: .any :: (.int .i64 y8.1) :: (.bool y8.2.1) :: n_ 130 [])) [some (gE_ bb (y8.2.2)), some (.var [.map 2, .map 3, .map 4]), some (oP1 uu []), some (oM3 hh), some (oM3 ww)]
theorem sPD_b_c21_ok (bb : Bool) {w0 W μ0} (hμ : Lt_ μ0 5) (data : LE bb) (a b limit : Int) (uu : UT) (hh ww : PT) (self_ : (LE bb) → (Int) → (Int) → (Int) → (UT) → (PT) → (PT) → Option ((LE bb))) (a2 b2 limit2 : Int) (y8 : (Int) × (Bool) × (LE bb)) (hself : ∀ (data : LE bb) (a b limit : Int) (uu : UT) (hh ww : PT) (r : (LE bb)), self_ data a b limit uu hh ww = some r → ∀ σ, Inj 5 σ → FnTri Tryz.prog (n82_114 bb) (renL σ [.gs 0 (data).length, .int .i64 a, .int .i64 b, .int .i64 limit, .fn (n53_65 bb) [.ptr 1 0 0] []]) (preOf σ 0 (sPD_objs bb data uu hh ww)) ((sPD_v bb r).ren σ) (upOf σ (sPD_up bb uu hh ww r))) (k0 : (Int) → (Int) → (Int) → (Bool) → (Bool) → (LE bb) → Option ((LE bb))) (hk0 : ∀ (a2 b2 limit2 : Int) (wasBalanced wasPartitioned : Bool) (l : LE bb) (r : (LE bb)), k0 a2 b2 limit2 wasBalanced wasPartitioned l = some r → sPD_b_K0 w0 W μ0 bb uu hh ww a2 b2 limit2 wasBalanced wasPartitioned l r) (r : (LE bb)) (h : sPD_b_c21 bb data a b limit uu hh ww self_ a2 b2 limit2 y8 k0 = some r) : sPD_b_K1000021 w0 W μ0 bb uu hh ww a2 b2 limit2 y8 r := by
 unfold sPD_b_c21 at h
 obtain ⟨y1, E2, h⟩ := bs_ h
 rcases it_ h with ⟨C3, h⟩ | ⟨C3, h⟩
 ·obtain ⟨y5, E4, h⟩ := bs_ h
  obtain ⟨G6, h⟩ := gs_ h
  exact rtb_ hμ [] 31 [.reg [], .reg [], .reg [(1, hv_ (.int .i64 y1))], .reg [(2, hT)], .reg [], .reg [(5, hk_ (hK_ [0, 1, 2, 3, 4] (sPD_v bb y5) (sPD_objs bb y8.2.2 uu hh ww) (sPD_up bb uu hh ww y5)))], .reg [], .wk [(0, .gs 0 (y5).length)] []]
   (q11 (r2_ tr) (r8_ tr) (q5 (ne0 8 rfl) (le_nm (LV.int .i64) E2) tr) (q11 (r2_ (f_ C3 tr)) (r4_ tr) (r4_ (q18 (hself y8.2.2 a2 y8.1 limit2 uu hh ww y5 E4 (sel [0, 1, 2, 3, 4]) sj_) (rl_ (gE_ bb (y8.2.2))) (o4_ [.map 2, .map 3, .map 4] uu hh ww))) (q3 (q2 tr) (q6 (le_gs 0 G6))))) (hk0 _ _ _ _ _ _ r h) uS
 ·obtain ⟨y5, E4, h⟩ := bs_ h
  obtain ⟨G6, h⟩ := gs_ h
  exact rtb_ hμ [] 31 [.reg [], .reg [], .reg [(1, hv_ (.int .i64 y1))], .reg [(2, hF)], .reg [], .reg [(6, hk_ (hK_ [0, 1, 2, 3, 4] (sPD_v bb y5) (sPD_objs bb y8.2.2 uu hh ww) (sPD_up bb uu hh ww y5)))], .reg [], .wk [(0, .gs 0 (y5).length)] []]
   (q11 (r2_ tr) (r8_ tr) (q5 (ne0 8 rfl) (le_nm (LV.int .i64) E2) tr) (q0 (r2_ (f_ C3 tr)) (r4_ tr) (q23 (q18 (hself y8.2.2 (IntKind.wrap .i64 (y8.1 + 1)) b2 limit2 uu hh ww y5 E4 (sel [0, 1, 2, 3, 4]) sj_) (rl_ (gE_ bb (y8.2.2))) (o4_ [.map 2, .map 3, .map 4] uu hh ww))) (q3 (r2_ tr) (q6 (le_gs 0 G6))))) (hk0 _ _ _ _ _ _ r h) uS
theorem sPD_b_c11_ok (bb : Bool) {w0 W μ0} (hμ : Lt_ μ0 5) (data : LE bb) (a b limit : Int) (uu : UT) (hh ww : PT) (self_ : (LE bb) → (Int) → (Int) → (Int) → (UT) → (PT) → (PT) → Option ((LE bb))) (a2 b2 limit2 : Int) (wasBalanced wasPartitioned : Bool) (l : LE bb) (yL0_6 : (Int) × (Int)) (hself : ∀ (data : LE bb) (a b limit : Int) (uu : UT) (hh ww : PT) (r : (LE bb)), self_ data a b limit uu hh ww = some r → ∀ σ, Inj 5 σ → FnTri Tryz.prog (n82_114 bb) (renL σ [.gs 0 (data).length, .int .i64 a, .int .i64 b, .int .i64 limit, .fn (n53_65 bb) [.ptr 1 0 0] []]) (preOf σ 0 (sPD_objs bb data uu hh ww)) ((sPD_v bb r).ren σ) (upOf σ (sPD_up bb uu hh ww r))) (k0 : (Int) → (Int) → (Int) → (Bool) → (Bool) → (LE bb) → Option ((LE bb))) (hk0 : ∀ (a2 b2 limit2 : Int) (wasBalanced wasPartitioned : Bool) (l : LE bb) (r : (LE bb)), k0 a2 b2 limit2 wasBalanced wasPartitioned l = some r → sPD_b_K0 w0 W μ0 bb uu hh ww a2 b2 limit2 wasBalanced wasPartitioned l r) (r : (LE bb)) (h : sPD_b_c11 bb data a b limit uu hh ww self_ a2 b2 limit2 wasBalanced wasPartitioned l yL0_6 k0 = some r) : sPD_b_K1000011 w0 W μ0 bb uu hh ww a2 b2 limit2 wasBalanced wasPartitioned l yL0_6 r := by
 unfold sPD_b_c11 at h
 rcases it_ h with ⟨C1, h⟩ | ⟨C1, h⟩
 ·obtain ⟨y3, E2, h⟩ := bs_ h
  obtain ⟨y4, E5, h⟩ := bs_ h
  rcases it_ h with ⟨C6, h⟩ | ⟨C6, h⟩
  ·rcases it_ h with ⟨C7, h⟩ | ⟨C7, h⟩
   ·obtain ⟨G8, h⟩ := gs_ h
    exact rtb_ hμ [] 27 [.reg [(1, hT)], .reg [(4, hk_ (hK_ [0, 1, 2, 3, 4] (sRR_v bb y3) (sRR_objs bb l uu hh ww) (sRR_up bb uu hh ww y3)))], .reg [(5, hv_ (.int .i64 y4))], .reg [], .reg [(1, hT), (4, hT)], .wk [(0, .gs 0 (y3).length)] []]
     (q11 (r1_ (f_ C1 tr)) (r4_ (q18 (sRR_ok bb l a2 b2 uu hh ww y3 E2 (sel [0, 1, 2, 3, 4]) sj_) (rl_ (gE_ bb l)) (o4_ [.map 2, .map 3, .map 4] uu hh ww))) (r4_ (q21 (le_nm (LV.int .i64) E5))) (q25 tr (f_ C6 (r2_ (f_ C7 (r1_ (r2_ tr))))) (q6 (le_gs 0 G8)) tr)) (sPD_b_c16_ok bb hμ data a b limit uu hh ww self_ a2 b2 wasBalanced wasPartitioned hself k0 hk0 _ _ _ r h) uS
   ·obtain ⟨G8, h⟩ := gs_ h
    exact rtb_ hμ [] 29 [.reg [(1, hT)], .reg [(4, hk_ (hK_ [0, 1, 2, 3, 4] (sRR_v bb y3) (sRR_objs bb l uu hh ww) (sRR_up bb uu hh ww y3)))], .reg [(5, hv_ (.int .i64 y4))], .reg [], .reg [(1, hT), (4, hF)], .wk [(0, .gs 0 (y3).length)] []]
     (q11 (r1_ (f_ C1 tr)) (r4_ (q18 (sRR_ok bb l a2 b2 uu hh ww y3 E2 (sel [0, 1, 2, 3, 4]) sj_) (rl_ (gE_ bb l)) (o4_ [.map 2, .map 3, .map 4] uu hh ww))) (r4_ (q21 (le_nm (LV.int .i64) E5))) (q25 tr (f_ C6 (r2_ (f_ C7 (t2_ (r1_ tr))))) (q6 (le_gs 0 G8)) tr)) (sPD_b_c17_ok bb hμ data a b limit uu hh ww self_ a2 b2 wasBalanced wasPartitioned hself k0 hk0 _ _ _ r h) uS
  ·obtain ⟨G7, h⟩ := gs_ h
   exact rtb_ hμ [] 29 [.reg [(1, hT)], .reg [(4, hk_ (hK_ [0, 1, 2, 3, 4] (sRR_v bb y3) (sRR_objs bb l uu hh ww) (sRR_up bb uu hh ww y3)))], .reg [(5, hv_ (.int .i64 y4))], .reg [], .reg [(1, hF)], .wk [(0, .gs 0 (y3).length)] []]
    (q11 (r1_ (f_ C1 tr)) (r4_ (q18 (sRR_ok bb l a2 b2 uu hh ww y3 E2 (sel [0, 1, 2, 3, 4]) sj_) (rl_ (gE_ bb l)) (o4_ [.map 2, .map 3, .map 4] uu hh ww))) (r4_ (q21 (le_nm (LV.int .i64) E5))) (q25 tr (f_ C6 (a_ tr (r2_ (t2_ (r1_ tr))))) (q6 (le_gs 0 G7)) tr)) (sPD_b_c17_ok bb hμ data a b limit uu hh ww self_ a2 b2 wasBalanced wasPartitioned hself k0 hk0 _ _ _ r h) uS
 ·rcases it_ h with ⟨C2, h⟩ | ⟨C2, h⟩
  ·rcases it_ h with ⟨C3, h⟩ | ⟨C3, h⟩
   ·rcases it_ h with ⟨C4, h⟩ | ⟨C4, h⟩
    ·obtain ⟨yC11_6, E5, h⟩ := bs_ h
     rcases it_ h with ⟨C7, h⟩ | ⟨C7, h⟩
     ·obtain rfl := si_ h
      exact rrb_ [] 22 [.reg [(1, hF)], .reg [(1, hT), (4, hT), (7, hT)], .reg [(4, { call := some (hK_ [0, 1, 2, 3, 4] (sPI_v bb yC11_6) (sPI_objs bb l uu hh ww) (sPI_up bb uu hh ww yC11_6)), v := some (.bool true) })]]
       (q1 (q25 (f_ C1 tr) (f_ C2 (r2_ (f_ C3 (r2_ (f_ C4 tr))))) (r4_ (q9 (q8 (sPI_ok bb l a2 b2 uu hh ww yC11_6 E5 (sel [0, 1, 2, 3, 4]) sj_) (rl_ (gE_ bb l)) (o4_ [.map 2, .map 3, .map 4] uu hh ww)) (leB C7))) tr))
     ·obtain ⟨G8, h⟩ := gs_ h
      exact rtb_ hμ [] 26 [.reg [(1, hF)], .reg [(1, hT), (4, hT), (7, hT)], .reg [(4, { call := some (hK_ [0, 1, 2, 3, 4] (sPI_v bb yC11_6) (sPI_objs bb l uu hh ww) (sPI_up bb uu hh ww yC11_6)), v := some (.bool false) })], .wk [(0, .gs 0 (yC11_6.2).length)] []]
       (q25 (f_ C1 tr) (f_ C2 (r2_ (f_ C3 (r2_ (f_ C4 tr))))) (r4_ (q9 (q8 (sPI_ok bb l a2 b2 uu hh ww yC11_6 E5 (sel [0, 1, 2, 3, 4]) sj_) (rl_ (gE_ bb l)) (o4_ [.map 2, .map 3, .map 4] uu hh ww)) (leB C7))) (q6 (q1 (le_gs 0 G8)))) (sPD_b_c17_ok bb hμ data a b limit uu hh ww self_ a2 b2 wasBalanced wasPartitioned hself k0 hk0 _ _ _ r h) uS
    ·rcases it_ h with ⟨C5, h⟩ | ⟨C5, h⟩
     ·obtain ⟨G6, h⟩ := gs_ h
      obtain ⟨y7, E8, h⟩ := bs_ h
      obtain ⟨G9, h⟩ := gs_ h
      obtain ⟨y11, E10, h⟩ := bs_ h
      rcases it_ h with ⟨C12, h⟩ | ⟨C12, h⟩
      ·exact rtb_ hμ [] 25 [.reg [(1, hF)], .reg [(1, hT), (4, hT), (7, hF)], .reg [(2, hT), (8, hv_ ((v_E_ bb) y7)), (13, hk_ (hK_ [1, 2, 3, 4] (cmp__v bb y11) (cmp__objs bb uu hh ww) (cmp__up bb uu hh ww y11))), (16, hT)]]
        (q25 (f_ C1 tr) (f_ C2 (r2_ (f_ C3 (r2_ (f_ C4 tr))))) (r2_ (f_ C5 (r4_ (ld_ (z_ bb) G6 (a_ (le_nm (v_E_ bb) E8) tr) (r2_ (ld_ (z_ bb) G9 tr (a_ (a_ (a_ (cmp__ok bb uu hh ww y7 (l.getD yL0_6.1.toNat default) y11 E10 (sel [1, 2, 3, 4]) sj_) (o4_ [.map 2, .map 3, .map 4] uu hh ww)) tr) (r2_ (f_ C12 tr))))))))) tr) (sPD_b_c18_ok bb hμ data a b limit uu hh ww self_ a2 b2 wasBalanced wasPartitioned hself k0 hk0 _ _ _ r h) uS
      ·exact rtb_ hμ [] 26 [.reg [(1, hF)], .reg [(1, hT), (4, hT), (7, hF)], .reg [(2, hT), (8, hv_ ((v_E_ bb) y7)), (13, hk_ (hK_ [1, 2, 3, 4] (cmp__v bb y11) (cmp__objs bb uu hh ww) (cmp__up bb uu hh ww y11))), (16, hF)]]
        (q25 (f_ C1 tr) (f_ C2 (r2_ (f_ C3 (r2_ (f_ C4 tr))))) (r2_ (f_ C5 (r4_ (ld_ (z_ bb) G6 (a_ (le_nm (v_E_ bb) E8) tr) (r2_ (ld_ (z_ bb) G9 tr (a_ (a_ (a_ (cmp__ok bb uu hh ww y7 (l.getD yL0_6.1.toNat default) y11 E10 (sel [1, 2, 3, 4]) sj_) (o4_ [.map 2, .map 3, .map 4] uu hh ww)) tr) (r2_ (f_ C12 tr))))))))) tr) (sPD_b_c20_ok bb hμ data a b limit uu hh ww self_ a2 b2 hself k0 hk0 _ _ _ r h) uS
     ·obtain ⟨y8, E6, h⟩ := bs_ h
      obtain ⟨G9, h⟩ := gs_ h
      exact rtb_ hμ [] 30 [.reg [(1, hF)], .reg [(1, hT), (4, hT), (7, hF)], .reg [(2, hF)], .reg [(5, hk_ (hK_ [0, 1, 2, 3, 4] (sPA_v bb y8) (sPA_objs bb l uu hh ww) (sPA_up bb uu hh ww y8)))], .wk [(0, .gs 0 (y8.2.2).length)] []]
       (q25 (f_ C1 tr) (f_ C2 (r2_ (f_ C3 (r2_ (f_ C4 tr))))) (r2_ (f_ C5 (a_ tr (t4_ (t8_ (r1_ tr)))))) (q27 (q12 (q8 (sPA_ok bb l a2 b2 yL0_6.1 uu hh ww y8 E6 (sel [0, 1, 2, 3, 4]) sj_) (rl_ (gE_ bb l)) (o4_ [.map 2, .map 3, .map 4] uu hh ww))) (q6 (le_gs 0 G9)))) (sPD_b_c21_ok bb hμ data a b limit uu hh ww self_ a2 b2 limit2 y8 hself k0 hk0 r h) uS
   ·rcases it_ h with ⟨C4, h⟩ | ⟨C4, h⟩
    ·obtain ⟨G5, h⟩ := gs_ h
     obtain ⟨y7, E8, h⟩ := bs_ h
     obtain ⟨G9, h⟩ := gs_ h
     obtain ⟨y11, E10, h⟩ := bs_ h
     rcases it_ h with ⟨C12, h⟩ | ⟨C12, h⟩
     ·exact rtb_ hμ [] 25 [.reg [(1, hF)], .reg [(1, hT), (4, hF)], .reg [(2, hT), (8, hv_ ((v_E_ bb) y7)), (13, hk_ (hK_ [1, 2, 3, 4] (cmp__v bb y11) (cmp__objs bb uu hh ww) (cmp__up bb uu hh ww y11))), (16, hT)]]
       (q25 (f_ C1 tr) (f_ C2 (r2_ (f_ C3 (t2_ (r1_ tr))))) (r2_ (f_ C4 (r4_ (ld_ (z_ bb) G5 (a_ (le_nm (v_E_ bb) E8) tr) (r2_ (ld_ (z_ bb) G9 tr (a_ (a_ (a_ (cmp__ok bb uu hh ww y7 (l.getD yL0_6.1.toNat default) y11 E10 (sel [1, 2, 3, 4]) sj_) (o4_ [.map 2, .map 3, .map 4] uu hh ww)) tr) (r2_ (f_ C12 tr))))))))) tr) (sPD_b_c18_ok bb hμ data a b limit uu hh ww self_ a2 b2 wasBalanced wasPartitioned hself k0 hk0 _ _ _ r h) uS
     ·exact rtb_ hμ [] 26 [.reg [(1, hF)], .reg [(1, hT), (4, hF)], .reg [(2, hT), (8, hv_ ((v_E_ bb) y7)), (13, hk_ (hK_ [1, 2, 3, 4] (cmp__v bb y11) (cmp__objs bb uu hh ww) (cmp__up bb uu hh ww y11))), (16, hF)]]
       (q25 (f_ C1 tr) (f_ C2 (r2_ (f_ C3 (t2_ (r1_ tr))))) (r2_ (f_ C4 (r4_ (ld_ (z_ bb) G5 (a_ (le_nm (v_E_ bb) E8) tr) (r2_ (ld_ (z_ bb) G9 tr (a_ (a_ (a_ (cmp__ok bb uu hh ww y7 (l.getD yL0_6.1.toNat default) y11 E10 (sel [1, 2, 3, 4]) sj_) (o4_ [.map 2, .map 3, .map 4] uu hh ww)) tr) (r2_ (f_ C12 tr))))))))) tr) (sPD_b_c20_ok bb hμ data a b limit uu hh ww self_ a2 b2 hself k0 hk0 _ _ _ r h) uS
    ·obtain ⟨y8, E5, h⟩ := bs_ h
     obtain ⟨G9, h⟩ := gs_ h
     exact rtb_ hμ [] 30 [.reg [(1, hF)], .reg [(1, hT), (4, hF)], .reg [(2, hF)], .reg [(5, hk_ (hK_ [0, 1, 2, 3, 4] (sPA_v bb y8) (sPA_objs bb l uu hh ww) (sPA_up bb uu hh ww y8)))], .wk [(0, .gs 0 (y8.2.2).length)] []]
      (q25 (f_ C1 tr) (f_ C2 (r2_ (f_ C3 (t2_ (r1_ tr))))) (r2_ (f_ C4 (a_ tr (t4_ (t8_ (r1_ tr)))))) (q27 (q12 (q8 (sPA_ok bb l a2 b2 yL0_6.1 uu hh ww y8 E5 (sel [0, 1, 2, 3, 4]) sj_) (rl_ (gE_ bb l)) (o4_ [.map 2, .map 3, .map 4] uu hh ww))) (q6 (le_gs 0 G9)))) (sPD_b_c21_ok bb hμ data a b limit uu hh ww self_ a2 b2 limit2 y8 hself k0 hk0 r h) uS
  ·rcases it_ h with ⟨C3, h⟩ | ⟨C3, h⟩
   ·obtain ⟨G4, h⟩ := gs_ h
    obtain ⟨y5, E6, h⟩ := bs_ h
    obtain ⟨G7, h⟩ := gs_ h
    obtain ⟨y9, E8, h⟩ := bs_ h
    rcases it_ h with ⟨C10, h⟩ | ⟨C10, h⟩
    ·exact rtb_ hμ [] 25 [.reg [(1, hF)], .reg [(1, hF)], .reg [(2, hT), (8, hv_ ((v_E_ bb) y5)), (13, hk_ (hK_ [1, 2, 3, 4] (cmp__v bb y9) (cmp__objs bb uu hh ww) (cmp__up bb uu hh ww y9))), (16, hT)]]
      (q25 (f_ C1 tr) (f_ C2 (a_ tr (r2_ (t2_ (r1_ tr))))) (r2_ (f_ C3 (r4_ (ld_ (z_ bb) G4 (a_ (le_nm (v_E_ bb) E6) tr) (r2_ (ld_ (z_ bb) G7 tr (a_ (a_ (a_ (cmp__ok bb uu hh ww y5 (l.getD yL0_6.1.toNat default) y9 E8 (sel [1, 2, 3, 4]) sj_) (o4_ [.map 2, .map 3, .map 4] uu hh ww)) tr) (r2_ (f_ C10 tr))))))))) tr) (sPD_b_c18_ok bb hμ data a b limit uu hh ww self_ a2 b2 wasBalanced wasPartitioned hself k0 hk0 _ _ _ r h) uS
    ·exact rtb_ hμ [] 26 [.reg [(1, hF)], .reg [(1, hF)], .reg [(2, hT), (8, hv_ ((v_E_ bb) y5)), (13, hk_ (hK_ [1, 2, 3, 4] (cmp__v bb y9) (cmp__objs bb uu hh ww) (cmp__up bb uu hh ww y9))), (16, hF)]]
      (q25 (f_ C1 tr) (f_ C2 (a_ tr (r2_ (t2_ (r1_ tr))))) (r2_ (f_ C3 (r4_ (ld_ (z_ bb) G4 (a_ (le_nm (v_E_ bb) E6) tr) (r2_ (ld_ (z_ bb) G7 tr (a_ (a_ (a_ (cmp__ok bb uu hh ww y5 (l.getD yL0_6.1.toNat default) y9 E8 (sel [1, 2, 3, 4]) sj_) (o4_ [.map 2, .map 3, .map 4] uu hh ww)) tr) (r2_ (f_ C10 tr))))))))) tr) (sPD_b_c20_ok bb hμ data a b limit uu hh ww self_ a2 b2 hself k0 hk0 _ _ _ r h) uS
   ·obtain ⟨y8, E4, h⟩ := bs_ h
    obtain ⟨G9, h⟩ := gs_ h
    exact rtb_ hμ [] 30 [.reg [(1, hF)], .reg [(1, hF)], .reg [(2, hF)], .reg [(5, hk_ (hK_ [0, 1, 2, 3, 4] (sPA_v bb y8) (sPA_objs bb l uu hh ww) (sPA_up bb uu hh ww y8)))], .wk [(0, .gs 0 (y8.2.2).length)] []]
     (q25 (f_ C1 tr) (f_ C2 (a_ tr (r2_ (t2_ (r1_ tr))))) (r2_ (f_ C3 (a_ tr (t4_ (t8_ (r1_ tr)))))) (q27 (q12 (q8 (sPA_ok bb l a2 b2 yL0_6.1 uu hh ww y8 E4 (sel [0, 1, 2, 3, 4]) sj_) (rl_ (gE_ bb l)) (o4_ [.map 2, .map 3, .map 4] uu hh ww))) (q6 (le_gs 0 G9)))) (sPD_b_c21_ok bb hμ data a b limit uu hh ww self_ a2 b2 limit2 y8 hself k0 hk0 r h) uS
theorem sPD_b_l0_ok (bb : Bool) {w0 W μ0} (hμ : Lt_ μ0 5) (data : LE bb) (a b limit : Int) (uu : UT) (hh ww : PT) (self_ : (LE bb) → (Int) → (Int) → (Int) → (UT) → (PT) → (PT) → Option ((LE bb))) (hself : ∀ (data : LE bb) (a b limit : Int) (uu : UT) (hh ww : PT) (r : (LE bb)), self_ data a b limit uu hh ww = some r → ∀ σ, Inj 5 σ → FnTri Tryz.prog (n82_114 bb) (renL σ [.gs 0 (data).length, .int .i64 a, .int .i64 b, .int .i64 limit, .fn (n53_65 bb) [.ptr 1 0 0] []]) (preOf σ 0 (sPD_objs bb data uu hh ww)) ((sPD_v bb r).ren σ) (upOf σ (sPD_up bb uu hh ww r))) : ∀ (fuel : Nat) (a2 b2 limit2 : Int) (wasBalanced wasPartitioned : Bool) (l : LE bb) (r : (LE bb)), sPD_b_l0 bb data a b limit uu hh ww self_ fuel a2 b2 limit2 wasBalanced wasPartitioned l = some r → sPD_b_K0 w0 W μ0 bb uu hh ww a2 b2 limit2 wasBalanced wasPartitioned l r := by
 intro fuel
 induction fuel with
 | zero => intro a2 b2 limit2 wasBalanced wasPartitioned l r h; rw [sPD_b_l0] at h; cases h
 | succ fuel ih =>
  intro a2 b2 limit2 wasBalanced wasPartitioned l r h
  rw [sPD_b_l0] at h
  rcases it_ h with ⟨C1, h⟩ | ⟨C1, h⟩
  ·obtain ⟨y3, E2, h⟩ := bs_ h
   obtain rfl := si_ h
   exact rrb_ [] 22 [.go, .reg [], .reg [(1, hT)], .reg [(4, hk_ (hK_ [0, 1, 2, 3, 4] (sIN_v bb y3) (sIN_objs bb l uu hh ww) (sIN_up bb uu hh ww y3)))]]
    (q1 (q7 (r4_ tr) (f_ C1 tr) (r4_ (q18 (sIN_ok bb l a2 b2 uu hh ww y3 E2 (sel [0, 1, 2, 3, 4]) sj_) (rl_ (gE_ bb l)) (o4_ [.map 2, .map 3, .map 4] uu hh ww))) tr))
  ·rcases it_ h with ⟨C2, h⟩ | ⟨C2, h⟩
   ·obtain ⟨y4, E3, h⟩ := bs_ h
    obtain rfl := si_ h
    exact rrb_ [] 28 [.go, .reg [], .reg [(1, hF)], .reg [(1, hT)], .reg [(4, hk_ (hK_ [0, 1, 2, 3, 4] (sHP_v bb y4) (sHP_objs bb l uu hh ww) (sHP_up bb uu hh ww y4)))]]
     (q1 (q7 (r4_ tr) (f_ C1 tr) (r1_ (f_ C2 tr)) (q1 (r4_ (q18 (sHP_ok bb l a2 b2 uu hh ww y4 E3 (sel [0, 1, 2, 3, 4]) sj_) (rl_ (gE_ bb l)) (o4_ [.map 2, .map 3, .map 4] uu hh ww))))))
   ·rcases it_ h with ⟨C3, h⟩ | ⟨C3, h⟩
    ·obtain ⟨y5, E4, h⟩ := bs_ h
     obtain ⟨G6, h⟩ := gs_ h
     exact rtb_ hμ [] 35 [.go, .reg [], .reg [(1, hF)], .reg [(1, hF)], .reg [(1, hT)], .reg [(4, hk_ (hK_ [0, 1, 2, 3, 4] (sBP_v bb y5) (sBP_objs bb l uu hh ww) (sBP_up bb uu hh ww y5)))], .wk [(0, .gs 0 (y5).length)] []]
      (q7 (r4_ tr) (f_ C1 tr) (r1_ (f_ C2 tr)) (q0 (r1_ (f_ C3 tr)) (r4_ (q18 (sBP_ok bb l a2 b2 uu hh ww y5 E4 (sel [0, 1, 2, 3, 4]) sj_) (rl_ (gE_ bb l)) (o4_ [.map 2, .map 3, .map 4] uu hh ww))) (q6 (le_gs 0 G6)) tr)) (sPD_b_c9_ok bb hμ data a b limit uu hh ww self_ a2 b2 limit2 wasBalanced wasPartitioned y5 hself (sPD_b_l0 bb data a b limit uu hh ww self_ fuel) ih r h) uS
    ·obtain ⟨y6, E4, h⟩ := bs_ h
     exact rtb_ hμ [] 37 [.go, .reg [], .reg [(1, hF)], .reg [(1, hF)], .reg [(1, hF)], .reg [(4, hk_ (hK_ [0, 1, 2, 3, 4] (sCP_v bb y6) (sCP_objs bb l uu hh ww) (sCP_up bb l uu hh ww y6)))]]
      (q7 (r4_ tr) (f_ C1 tr) (r1_ (f_ C2 tr)) (q27 (f_ C3 tr) (q12 (q8 (sCP_ok bb l a2 b2 uu hh ww y6 E4 (sel [0, 1, 2, 3, 4]) sj_) (rl_ (gE_ bb l)) (o4_ [.map 2, .map 3, .map 4] uu hh ww))))) (sPD_b_c11_ok bb hμ data a b limit uu hh ww self_ a2 b2 limit2 wasBalanced wasPartitioned l y6 hself (sPD_b_l0 bb data a b limit uu hh ww self_ fuel) ih r h) uS
theorem sPD_b_ok (bb : Bool) (data : LE bb) (a b limit : Int) (uu : UT) (hh ww : PT) (self_ : (LE bb) → (Int) → (Int) → (Int) → (UT) → (PT) → (PT) → Option ((LE bb))) (hself : ∀ (data : LE bb) (a b limit : Int) (uu : UT) (hh ww : PT) (r : (LE bb)), self_ data a b limit uu hh ww = some r → ∀ σ, Inj 5 σ → FnTri Tryz.prog (n82_114 bb) (renL σ [.gs 0 (data).length, .int .i64 a, .int .i64 b, .int .i64 limit, .fn (n53_65 bb) [.ptr 1 0 0] []]) (preOf σ 0 (sPD_objs bb data uu hh ww)) ((sPD_v bb r).ren σ) (upOf σ (sPD_up bb uu hh ww r))) (r : (LE bb)) (h : sPD_b bb data a b limit uu hh ww self_ = some r) : ∀ σ, Inj 5 σ → FnTri Tryz.prog (n82_114 bb) (renL σ [.gs 0 (data).length, .int .i64 a, .int .i64 b, .int .i64 limit, .fn (n53_65 bb) [.ptr 1 0 0] []]) (preOf σ 0 (sPD_b_objs bb data uu hh ww)) ((sPD_b_v bb r).ren σ) (upOf σ (sPD_b_up bb uu hh ww r)) := by
 refine fn_of (q_func82 bb) (by cases bb <;> kernel_rfl) (by cases bb <;> kernel_rfl) (by cases bb <;> kernel_rfl) ⟨fun _ _ => by cases bb <;> rfl, rfl, uP, trivial, trivial, trivial⟩ (by cases bb <;> kernel_rfl) ⟨fun _ _ => by cases bb <;> rfl, rfl, uP, trivial, trivial, trivial⟩ (by cases bb <;> kernel_rfl) ?_
 intro w0 W μ0 hμ
 unfold sPD_b at h
 exact rtb_ hμ [] 17 [.reg [], .reg []]
  (q27 tr (r1_ tr)) (sPD_b_l0_ok bb hμ data a b limit uu hh ww self_ hself big _ _ _ _ _ _ r h) uS
theorem sPD_f_ok (bb : Bool) : ∀ n_ (data : LE bb) (a b limit : Int) (uu : UT) (hh ww : PT) (r : (LE bb)), sPD_f bb n_ data a b limit uu hh ww = some r → ∀ σ, Inj 5 σ → FnTri Tryz.prog (n82_114 bb) (renL σ [.gs 0 (data).length, .int .i64 a, .int .i64 b, .int .i64 limit, .fn (n53_65 bb) [.ptr 1 0 0] []]) (preOf σ 0 (sPD_objs bb data uu hh ww)) ((sPD_v bb r).ren σ) (upOf σ (sPD_up bb uu hh ww r)) := by
 intro n_
 induction n_ with
 | zero => intro data a b limit uu hh ww r h; cases h
 | succ n_ ih => intro data a b limit uu hh ww r h; exact sPD_b_ok bb data a b limit uu hh ww (sPD_f bb n_) ih r h
theorem sPD_ok (bb : Bool) (data : LE bb) (a b limit : Int) (uu : UT) (hh ww : PT) (r : (LE bb)) (h : sPD bb data a b limit uu hh ww = some r) : ∀ σ, Inj 5 σ → FnTri Tryz.prog (n82_114 bb) (renL σ [.gs 0 (data).length, .int .i64 a, .int .i64 b, .int .i64 limit, .fn (n53_65 bb) [.ptr 1 0 0] []]) (preOf σ 0 (sPD_objs bb data uu hh ww)) ((sPD_v bb r).ren σ) (upOf σ (sPD_up bb uu hh ww r)) := sPD_f_ok bb big data a b limit uu hh ww r h
theorem sFA_ok (x : List (TX)) (uu : UT) (hh ww : PT) (r : (List (TX))) (h : sFA x uu hh ww = some r) : ∀ σ, Inj 5 σ → FnTri Tryz.prog 52 (renL σ [.gs 0 (x).length, .fn 53 [.ptr 1 0 0] []]) (preOf σ 0 (sFA_objs x uu hh ww)) ((sFA_v r).ren σ) (upOf σ (sFA_up uu hh ww r)) := by
 refine fo_ Tryz.func52 ⟨fun _ _ => rfl, rfl, uP, trivial, trivial, trivial⟩ ⟨fun _ _ => rfl, rfl, uP, trivial, trivial, trivial⟩ ?_
 intro w0 W μ0 hμ
 unfold sFA at h
 obtain ⟨y2, e1, h⟩ := bs_ h
 obtain ⟨y4, e3, h⟩ := bs_ h
 obtain rfl := si_ h
 exact rr_ [] 14 [.reg [], .reg [(4, hC (mb_Len_v y2)), (6, hk_ (hK_ [0, 1, 2, 3, 4] (sPD_v false y4) (sPD_objs false x uu hh ww) (sPD_up false uu hh ww y4)))]]
  (q9 (q2 tr) (r4_ (q4 (q1 (mb_Len_tri (IntKind.wrap .u64 ((x).length : Int)) y2 e1)) (q18 (sPD_ok false x 0 ((x).length : Int) y2 uu hh ww y4 e3 (sel [0, 1, 2, 3, 4]) sj_) (rl_ (.gr 3 (x).length (rowF c_TX default x))) (o4_ [.map 2, .map 3, .map 4] uu hh ww)))))
def lock_every_v (r : Unit) : LV := .bool true
def lock_every (x0 : Int) : Option (Unit) :=
 some ()
theorem lock_every_ok (x0 : Int) (r : Unit) (h : lock_every x0 = some r) : ∀ σ, Inj 0 σ → FnTri Tryz.prog 72 (renL σ [.int .u8 x0]) (preOf σ 0 []) ((lock_every_v r).ren σ) (upOf σ []) := by
 refine fo_ Tryz.func72 trivial trivial ?_
 intro w0 W μ0 hμ
 unfold lock_every at h
 obtain rfl := si_ h
 exact rr_ [] 15 [.reg [], .reg []]
  (q28 (r1_ tr))
theorem lock_every_tri (x0 : Int) (r : Unit) (h : lock_every x0 = some r) : FnTri Tryz.prog 72 [.int .u8 x0] [] (lock_every_v r) [] := FnTri.none (lock_every_ok x0 r h) rfl rfl
def lP_drop_L1_v (r : (Bool)) : LV := .bool r
def lP_drop_L1_up (x2 : TX) (r : (Bool)) : Upd := [(0, some (.var (c_TX x2))), (1, some (.var [.fn 72 [] []]))]
def lP_drop_L1_objs (x2 : TX) : List LO := [.var (c_TX x2), .var [.fn 72 [] []]]
def lP_drop_L1 (s : TL) (mode : Int) (x2 : TX) : Option ((Bool)) :=
 if ((decide (s.f_tx = x2)) : Bool) then
  (lock_every mode).bind fun y3 =>
  some true
 else
  some false
theorem lP_drop_L1_ok (s : TL) (mode : Int) (x2 : TX) (r : (Bool)) (h : lP_drop_L1 s mode x2 = some r) : ∀ σ, Inj 2 σ → FnTri Tryz.prog 62 (renL σ [v_TL s, .int .u8 mode, .ptr 0 0 0, .ptr 1 0 0]) (preOf σ 0 (lP_drop_L1_objs x2)) ((lP_drop_L1_v r).ren σ) (upOf σ (lP_drop_L1_up x2 r)) := by
 refine fo_ Tryz.func62 ⟨rfl, rfl, trivial⟩ ⟨rfl, rfl, trivial⟩ ?_
 intro w0 W μ0 hμ
 unfold lP_drop_L1 at h
 rcases it_ h with ⟨c1, h⟩ | ⟨c1, h⟩
 ·obtain ⟨y3, e2, h⟩ := bs_ h
  obtain rfl := si_ h
  exact rr_ [] 15 [.reg [], .reg [(3, hv_ (.bool (decide (s.f_tx = x2)))), (4, hT), (7, hC (lock_every_v y3))]]
   (q20 (m_ 3 11 rfl (m_ 3 3 rfl (a_ (a_ tr (a_ (leB (k_TX s.f_tx x2)) tr)) (f_ c1 (l_ 0 1 rfl (r1_ (c_ (lock_every_tri mode y3 e2) (r2_ tr)))))))))
 ·obtain rfl := si_ h
  exact rr_ [] 15 [.reg [], .reg [(3, hv_ (.bool (decide (s.f_tx = x2)))), (4, hF)]]
   (q20 (m_ 3 11 rfl (m_ 3 3 rfl (a_ (a_ tr (a_ (leB (k_TX s.f_tx x2)) tr)) (f_ c1 (a_ tr (t2_ (r2_ tr))))))))
def mDF_v (r : (PT)) : LV := .tup []
def mDF_up (c : TX) (r : (PT)) : Upd := [(0, some (oM3 r)), (1, some (.var (c_TX c))), (2, some (.var [.fn 72 [] []]))]
def mDF_objs (m : PT) (c : TX) : List LO := [oM3 m, .var (c_TX c), .var [.fn 72 [] []]]
def mDF_l0 (m : PT) (c : TX) : Nat → (PT) → (PT) → Option ((PT))
 | 0, _, _ => none
 | fuel + 1, m2, rest =>
  if ((List.isEmpty rest) : Bool) then
   some m2
  else agree rest fun a1 rs2 =>
   (lP_drop_L1 a1.1 a1.2 c).bind fun y4 =>
   if (y4 : Bool) then
    if mget rs2 a1.1 = none then
    mDF_l0 m c fuel (mdel m2 a1.1) rs2
    else none
   else
    mDF_l0 m c fuel m2 rs2
def mDF (m : PT) (c : TX) : Option ((PT)) :=
 mDF_l0 m c big m m
abbrev mDF_K0 (c : TX) (m2 rest : PT) (r : (PT)) : Prop := Kt_ w0 W μ0 Tryz.f61 3 3 (mDF_v r) (mDF_up c r) (kAt (bodyOf Tryz.f61) 0) ((.map 0) :: (.fn 62 [] [.ptr 1 0 0, .ptr 2 0 0]) :: n_ 5 ((.ptr 3 0 0) :: n_ 11 [])) [none, some (.var (c_TX c)), some (.var [.fn 72 [] []]), some (.mit 0 true ks2 (encM v_TL (LV.int .u8) m2) none (encM v_TL (LV.int .u8) rest))]
theorem mDF_l0_ok {w0 W μ0} (hμ : Lt_ μ0 3) (m : PT) (c : TX) : ∀ (fuel : Nat) (m2 rest : PT) (r : (PT)), mDF_l0 m c fuel m2 rest = some r → mDF_K0 w0 W μ0 c m2 rest r := by
 intro fuel
 induction fuel with
 | zero => intro m2 rest r h; rw [mDF_l0] at h; cases h
 | succ fuel ih =>
  intro m2 rest r h
  rw [mDF_l0] at h
  refine k_nextT (it := 7) (t1 := 8) (t2 := 9) (d := 3) (m := 0) (ag := true) (ks := ks2) (es := encM v_TL (LV.int .u8) m2) v_TL (LV.int .u8) rest (by kernel_rfl) (by kernel_rfl) (by kernel_rfl) (by kernel_rfl) (fun hn_ => ?_) (fun i_ a1 hi_ => ?_)
  ·rw [if_pos (rest_none hn_)] at h
   refine k_x (t := .mitz 3) (foot := [3]) (up := [(3, none), (0, some (.map true ks2 (encM v_TL (LV.int .u8) m2)))]) rfl (by kernel_rfl) (show 0 ≠ 3 from by decide) ?_
   obtain rfl := si_ h
   exact rr_ [] 12 []
    (q1 tr)
  ·rw [if_neg (rest_some hi_)] at h
   replace h := agree_some h hi_
   generalize rest.eraseIdx i_ = rs2 at h ⊢
   obtain ⟨y4, E3, h⟩ := bs_ h
   rcases it_ h with ⟨C5, h⟩ | ⟨C5, h⟩
   ·obtain ⟨G6, h⟩ := gs_ h
    exact rt_ hμ [3] 23 [.reg [], .reg [(3, { call := some (hK_ [1, 2] (lP_drop_L1_v y4) (lP_drop_L1_objs c) (lP_drop_L1_up c y4)), v := some (.bool true) })], .reg [(2, { app := 1003, os := [(3, .mit 0 true ks2 (encM v_TL (LV.int .u8) (mdel m2 a1.1)) none (encM v_TL (LV.int .u8) rs2))] })]]
     (q7 (r4_ (q4 (q8 (Eq.refl 11) (le_ 11 11 rfl) (Eq.refl 0)) tr)) (m_ 11 11 rfl (r1_ (a_ (a_ (a_ (lP_drop_L1_ok a1.1 a1.2 c y4 E3 (sel [1, 2]) sj_) (a_ (rl_ (.var (c_TX c))) (a_ (rl_ (.var [.fn 72 [] []])) tr))) (a_ (leB C5) tr)) tr))) (r1_ (m_ 11 11 rfl (a_ (a_ (delmit_ob (ev := (LV.int .u8)) (ag := true) (ks := ks2) v_TL k_TL (fun _ => rfl) G6) (a_ (mit_del v_TL k_TL (ev := (LV.int .u8)) 0 true ks2 m2 rs2 a1.1) tr)) tr))) tr) (ih _ _ r h) ⟨rfl, rfl, lt_ 0 4 rfl, trivial⟩
   ·exact rt_ hμ [3] 23 [.reg [], .reg [(3, { call := some (hK_ [1, 2] (lP_drop_L1_v y4) (lP_drop_L1_objs c) (lP_drop_L1_up c y4)), v := some (.bool false) })], .x (.mitn 3)]
     (q7 (r4_ (q4 (q8 (Eq.refl 11) (le_ 11 11 rfl) (Eq.refl 0)) tr)) (m_ 11 11 rfl (r1_ (a_ (a_ (a_ (lP_drop_L1_ok a1.1 a1.2 c y4 E3 (sel [1, 2]) sj_) (a_ (rl_ (.var (c_TX c))) (a_ (rl_ (.var [.fn 72 [] []])) tr))) (a_ (leB C5) tr)) tr))) tr tr) (ih _ _ r h) ⟨rfl, rfl, lt_ 0 4 rfl, trivial⟩
theorem mDF_ok (m : PT) (c : TX) (r : (PT)) (h : mDF m c = some r) : ∀ σ, Inj 3 σ → FnTri Tryz.prog 61 (renL σ [.map 0, .fn 62 [] [.ptr 1 0 0, .ptr 2 0 0]]) (preOf σ 0 (mDF_objs m c)) ((mDF_v r).ren σ) (upOf σ (mDF_up c r)) := by
 refine fo_ Tryz.func61 ⟨trivial, rfl, rfl, trivial⟩ ⟨trivial, rfl, rfl, trivial⟩ ?_
 intro w0 W μ0 hμ
 unfold mDF at h
 exact rt_ hμ [3] 14 [.reg []]
  (q14 tr) (mDF_l0_ok hμ m c big _ _ r h) ⟨rfl, rfl, lt_ 0 4 rfl, trivial⟩
def lP_drop_v (r : (PT)) : LV := .tup []
def lP_drop_up (r : (PT)) : Upd := [(0, some (oM3 r))]
def lP_drop_objs (p : PT) : List LO := [oM3 p]
def lP_drop (p : PT) (x : TX) : Option ((PT)) :=
 (mDF p x).bind fun y2 =>
 some y2
theorem lP_drop_ok (p : PT) (x : TX) (r : (PT)) (h : lP_drop p x = some r) : ∀ σ, Inj 1 σ → FnTri Tryz.prog 37 (renL σ [.map 0, v_TX x, .fn 72 [] []]) (preOf σ 0 (lP_drop_objs p)) ((lP_drop_v r).ren σ) (upOf σ (lP_drop_up r)) := by
 refine fo_ Tryz.func37 ⟨trivial, trivial⟩ ⟨trivial, trivial⟩ ?_
 intro w0 W μ0 hμ
 unfold lP_drop at h
 obtain ⟨y2, e1, h⟩ := bs_ h
 obtain rfl := si_ h
 exact rr_ [] 14 [.reg [], .reg [(2, hk_ (hK_ [0, 1, 2] (mDF_v y2) (mDF_objs p x) (mDF_up x y2)))]]
  (q9 (r2_ tr) (r2_ (q6 (q0 (mDF_ok p x y2 e1 (sel [0, 1, 2]) sj_) (rl_ (oM3 p)) (rl_ (.var (c_TX x))) (q1 (rl_ (.var [.fn 72 [] []])))))))
def lT_gone_v (r : (UT) × (PT) × (PT)) : LV := .tup []
def lT_gone_up (r : (UT) × (PT) × (PT)) : Upd := [(0, some (.var [.map 1, .map 2, .map 3])), (1, some (oP1 r.1 [])), (2, some (oM3 r.2.1)), (3, some (oM3 r.2.2))]
def lT_gone_objs (uu : UT) (hh ww : PT) : List LO := [.var [.map 1, .map 2, .map 3], oP1 uu [], oM3 hh, oM3 ww]
def lT_gone (uu : UT) (hh ww : PT) (x : TX) : Option ((UT) × (PT) × (PT)) :=
 (lP_drop hh x).bind fun y2 =>
 (lP_drop ww x).bind fun y4 =>
 some ((mdel uu x), y2, y4)
end
end Go.Proofs.YtddgjfclpknkcaaGreatDoor.Wk
