import Derived.Test.YtddgjfclpknkcaaGreatDoorLckWa
namespace Go.Proofs.YtddgjfclpknkcaaGreatDoor.Wk
open Go Go.Cn Go.RowKit
set_option maxRecDepth 100000
set_option maxHeartbeats 4000000
set_option linter.unusedVariables false
set_option linter.unusedSimpArgs false
noncomputable section
variable (w0:World)(W:Nat->Prop)(μ0:d5)
theorem c5n(bb:Bool)(data:LE bb)(a b:Int)(uu:UT)(hh ww:PT)(r:(LE bb))(h:sBP bb data a b uu hh ww=some r):∀σ,p8 5 σ->j9 Tryz.prog (b6N bb) (n7 σ [.gs 0 data.length,.int .i64 a,.int .i64 b,.fn (w6 bb) [.ptr 1 0 0] []]) (p5 σ 0 (b7X bb data uu hh ww)) ((a7X bb r).ren σ) (p6 σ (a7W bb uu hh ww r)):=by
 refine o_ (c4U bb) (by cases bb<;>kernel_rfl) (by cases bb<;>kernel_rfl) (by cases bb<;>kernel_rfl) ⟨λ_ _=>by cases bb<;>rfl,rfl,uP,tr,tr,tr⟩ (by cases bb<;>kernel_rfl) ⟨λ_ _=>by cases bb<;>rfl,rfl,uP,tr,tr,tr⟩ (by cases bb<;>kernel_rfl) ?_;intro w0 W μ0 hμ;unfold sBP at h;rcases i5 h with⟨c1,h⟩|⟨c1,h⟩
 ·obtain⟨y3,e2,h⟩:=d6 h
  obtain⟨y4,e5,h⟩:=d6 h;obtain⟨y6,e7,h⟩:=d6 h;exact t7 hμ [5] 27 [.reg [],.reg [(1,hT)],.reg [],.reg [(1,hC (b3V y3))],.reg [(2,j5 (.int .i64 y4)),(4,j5 (.int .i64 y6))]]
   (q6 (l9 tr) (f_ c1 tr) (q2 (q4 (e_ 1) (a_ (d8 1 1 rfl) (e_ 0)) tr)) (q7 (q8 (I2 (q3 (c6E (IntKind.wrap .i64 (b - a)) y3 e2)))) (b5 (q5 (K7 4 rfl) (n0 (LV.int .i64) e5) (q8 (q5 tr (n0 (LV.int .i64) e7) (b5 tr))))))) (c5m bb hμ data a b uu hh ww y3 big _ _ _ r h) ⟨λ_ _=>by cases bb<;>rfl,rfl,uP,tr,tr,rfl,tr⟩
 ·obtain rfl:=i7 h
  exact I9 [] 17 [.reg [],.reg [(1,hF)]]
   (F8 (l9 tr) (q8 (f_ c1 tr)))
def Z4(bb:Bool)(r:Int×Int):LV:=.tup [.int .i64 r.1,.int .i64 r.2]
def Z3(bb:Bool)(data:LE bb)(uu:UT)(hh ww:PT)(r:Int×Int):i9:=[(0,some (m6 bb data)),(1,some (.var [.map 2,.map 3,.map 4])),(2,some (m7 uu [])),(3,some (b9 hh)),(4,some (b9 ww))]
def a1K(bb:Bool)(data:LE bb)(uu:UT)(hh ww:PT):List LO:=[m6 bb data,.var [.map 2,.map 3,.map 4],m7 uu [],b9 hh,b9 ww]
def a27(bb:Bool)(r:Int×Int):LV:=.int .i64 r.1
def a26(bb:Bool)(data:LE bb)(uu:UT)(hh ww:PT)(r:Int×Int):i9:=[(0,some (m6 bb data)),(1,some (.var [.int .i64 r.2])),(2,some (.var [.map 3,.map 4,.map 5])),(3,some (m7 uu [])),(4,some (b9 hh)),(5,some (b9 ww))]
def a24(bb:Bool)(data:LE bb)(swaps:Int)(uu:UT)(hh ww:PT):List LO:=[m6 bb data,.var [.int .i64 swaps],.var [.map 3,.map 4,.map 5],m7 uu [],b9 hh,b9 ww]
def a99(bb:Bool)(r:Int×Int×Int):LV:=.tup [.int .i64 r.1,.int .i64 r.2.1]
def a98(bb:Bool)(data:LE bb)(uu:UT)(hh ww:PT)(r:Int×Int×Int):i9:=[(0,some (m6 bb data)),(1,some (.var [.int .i64 r.2.2])),(2,some (.var [.map 3,.map 4,.map 5])),(3,some (m7 uu [])),(4,some (b9 hh)),(5,some (b9 ww))]
def a97(bb:Bool)(data:LE bb)(swaps:Int)(uu:UT)(hh ww:PT):List LO:=[m6 bb data,.var [.int .i64 swaps],.var [.map 3,.map 4,.map 5],m7 uu [],b9 hh,b9 ww]
theorem b3F(bb:Bool)(data:LE bb)(a b swaps:Int)(uu:UT)(hh ww:PT)(r:Int×Int×Int)(h:sO2 bb data a b swaps uu hh ww=some r):∀σ,p8 6 σ->j9 Tryz.prog (b6W bb) (n7 σ [.gs 0 data.length,.int .i64 a,.int .i64 b,.ptr 1 0 0,.fn (w6 bb) [.ptr 2 0 0] []]) (p5 σ 0 (a97 bb data swaps uu hh ww)) ((a99 bb r).ren σ) (p6 σ (a98 bb data uu hh ww r)):=by
 refine o_ (c43 bb) (by cases bb<;>kernel_rfl) (by cases bb<;>kernel_rfl) (by cases bb<;>kernel_rfl) ⟨λ_ _=>by cases bb<;>rfl,rfl,rfl,uP,tr,tr,tr⟩ (by cases bb<;>kernel_rfl) ⟨λ_ _=>by cases bb<;>rfl,rfl,rfl,uP,tr,tr,tr⟩ (by cases bb<;>kernel_rfl) ?_;intro w0 W μ0 hμ;unfold sO2 at h;obtain⟨g1,h⟩:=j6 h;obtain⟨g2,h⟩:=j6 h;obtain⟨y4,e3,h⟩:=d6 h;rcases i5 h with⟨c5,h⟩|⟨c5,h⟩
 ·obtain rfl:=i7 h
  exact I9 [] 23 [.reg [],.reg [(9,i6 (g9 [2,3,4,5] (H3 bb y4) (G0 bb uu hh ww) (H2 bb uu hh ww y4))),(10,hT)],.reg [],.reg []]
   (q3 (E0 (b5 tr) (q2 (o8 (z_ bb) g1 tr (b5 (o8 (z_ bb) g2 tr (a_ (a_ (a_ (H4 bb uu hh ww (data.getD b.toNat default) (data.getD a.toNat default) y4 e3 (f8 [2,3,4,5]) i1) (n4 [.map 3,.map 4,.map 5] uu hh ww)) tr) (f_ c5 tr)))))) (b5 (l_ 0 1 rfl (b5 (a_ (a_ (a_ (e_ 1) (a_ (d8 1 1 rfl) (e_ 0))) tr) tr)))) (l9 tr)))
 ·obtain rfl:=i7 h
  exact I9 [] 21 [.reg [],.reg [(9,i6 (g9 [2,3,4,5] (H3 bb y4) (G0 bb uu hh ww) (H2 bb uu hh ww y4))),(10,hF)],.reg []]
   (q3 (q0 (b5 tr) (q2 (o8 (z_ bb) g1 tr (b5 (o8 (z_ bb) g2 tr (a_ (a_ (a_ (H4 bb uu hh ww (data.getD b.toNat default) (data.getD a.toNat default) y4 e3 (f8 [2,3,4,5]) i1) (n4 [.map 3,.map 4,.map 5] uu hh ww)) tr) (f_ c5 tr)))))) (l9 tr) tr))
theorem a4B(bb:Bool)(data:LE bb)(a b:Int)(c swaps:Int)(uu:UT)(hh ww:PT)(r:Int×Int)(h:sME bb data a b c swaps uu hh ww=some r):∀σ,p8 6 σ->j9 Tryz.prog (b6V bb) (n7 σ [.gs 0 data.length,.int .i64 a,.int .i64 b,.int .i64 c,.ptr 1 0 0,.fn (w6 bb) [.ptr 2 0 0] []]) (p5 σ 0 (a24 bb data swaps uu hh ww)) ((a27 bb r).ren σ) (p6 σ (a26 bb data uu hh ww r)):=by
 refine o_ (c42 bb) (by cases bb<;>kernel_rfl) (by cases bb<;>kernel_rfl) (by cases bb<;>kernel_rfl) ⟨λ_ _=>by cases bb<;>rfl,rfl,rfl,uP,tr,tr,tr⟩ (by cases bb<;>kernel_rfl) ⟨λ_ _=>by cases bb<;>rfl,rfl,rfl,uP,tr,tr,tr⟩ (by cases bb<;>kernel_rfl) ?_;intro w0 W μ0 hμ;unfold sME at h;obtain⟨y2,e1,h⟩:=d6 h;obtain⟨y4,e3,h⟩:=d6 h;obtain⟨y6,e5,h⟩:=d6 h;obtain rfl:=i7 h;exact I9 [] 24 [.reg [],.reg [(5,i6 (g9 [0,1,2,3,4,5] (a99 bb y2) (a97 bb data swaps uu hh ww) (a98 bb data uu hh ww y2)))],.reg [(5,i6 (g9 [0,1,2,3,4,5] (a99 bb y4) (a97 bb data y2.2.2 uu hh ww) (a98 bb data uu hh ww y4)))],.reg [(5,i6 (g9 [0,1,2,3,4,5] (a99 bb y6) (a97 bb data y4.2.2 uu hh ww) (a98 bb data uu hh ww y6)))],.reg []]
  (V0 (l9 (q9 (q0 (b3F bb data a b swaps uu hh ww y2 e1 (f8 [0,1,2,3,4,5]) i1) (l0 (m6 bb data)) (l0 (.var [.int .i64 swaps])) (n4 [.map 3,.map 4,.map 5] uu hh ww)) (N7 tr))) (l9 (q9 (q0 (b3F bb data y2.2.1 c y2.2.2 uu hh ww y4 e3 (f8 [0,1,2,3,4,5]) i1) (l0 (m6 bb data)) (l0 (.var [.int .i64 y2.2.2])) (n4 [.map 3,.map 4,.map 5] uu hh ww)) (N7 tr))) (q7 (N7 (q9 (q0 (b3F bb data y2.1 y4.1 y4.2.2 uu hh ww y6 e5 (f8 [0,1,2,3,4,5]) i1) (l0 (m6 bb data)) (l0 (.var [.int .i64 y4.2.2])) (n4 [.map 3,.map 4,.map 5] uu hh ww)) (N7 tr))) (b5 tr)))
def a0Z(bb:Bool)(r:Int×Int):LV:=.int .i64 r.1
def a0Y(bb:Bool)(data:LE bb)(uu:UT)(hh ww:PT)(r:Int×Int):i9:=[(0,some (m6 bb data)),(1,some (.var [.int .i64 r.2])),(2,some (.var [.map 3,.map 4,.map 5])),(3,some (m7 uu [])),(4,some (b9 hh)),(5,some (b9 ww))]
def a0X(bb:Bool)(data:LE bb)(swaps:Int)(uu:UT)(hh ww:PT):List LO:=[m6 bb data,.var [.int .i64 swaps],.var [.map 3,.map 4,.map 5],m7 uu [],b9 hh,b9 ww]
theorem a1M(bb:Bool)(data:LE bb)(a swaps:Int)(uu:UT)(hh ww:PT)(r:Int×Int)(h:sMA bb data a swaps uu hh ww=some r):∀σ,p8 6 σ->j9 Tryz.prog (b6U bb) (n7 σ [.gs 0 data.length,.int .i64 a,.ptr 1 0 0,.fn (w6 bb) [.ptr 2 0 0] []]) (p5 σ 0 (a0X bb data swaps uu hh ww)) ((a0Z bb r).ren σ) (p6 σ (a0Y bb data uu hh ww r)):=by
 refine o_ (c41 bb) (by cases bb<;>kernel_rfl) (by cases bb<;>kernel_rfl) (by cases bb<;>kernel_rfl) ⟨λ_ _=>by cases bb<;>rfl,rfl,rfl,uP,tr,tr,tr⟩ (by cases bb<;>kernel_rfl) ⟨λ_ _=>by cases bb<;>rfl,rfl,rfl,uP,tr,tr,tr⟩ (by cases bb<;>kernel_rfl) ?_;intro w0 W μ0 hμ;unfold sMA at h;obtain⟨y2,e1,h⟩:=d6 h;obtain rfl:=i7 h;exact I9 [] 15 [.reg [],.reg [(8,i6 (g9 [0,1,2,3,4,5] (a27 bb y2) (a24 bb data swaps uu hh ww) (a26 bb data uu hh ww y2)))]]
  (Y9 (X2 (a_ (a_ (a_ (a4B bb data (IntKind.wrap .i64 (a - 1)) a (IntKind.wrap .i64 (a+1)) swaps uu hh ww y2 e1 (f8 [0,1,2,3,4,5]) i1) (a_ (l0 (m6 bb data)) (a_ (l0 (.var [.int .i64 swaps])) (n4 [.map 3,.map 4,.map 5] uu hh ww)))) tr) (b4 tr))))
theorem c5v(bb:Bool){w0 W μ0}(hμ:p4 μ0 5)(data:LE bb)(a b:Int)(uu:UT)(hh ww:PT)(y8:Int×Int)(r:Int×Int)(h:b3y bb data a b uu hh ww y8=some r):p3 w0 W μ0 (F_ bb) 5 5 (Z4 bb r) (Z3 bb data uu hh ww r) (z7 (o9 (F_ bb)) 17) (n_ 13 ((.int .i64 y8.1)::n_ 49 [])) [some (m6 bb data),some (.var [.map 2,.map 3,.map 4]),some (m7 uu []),some (b9 hh),some (b9 ww)]:=by
 unfold b3y at h;obtain rfl:=i7 h;exact I9 [] 11 [.reg []]
  (q9 (q2 tr) tr)
theorem c5u(bb:Bool){w0 W μ0}(hμ:p4 μ0 5)(data:LE bb)(a b:Int)(uu:UT)(hh ww:PT)(y8:Int×Int)(r:Int×Int)(h:b3x bb data a b uu hh ww y8=some r):p3 w0 W μ0 (F_ bb) 5 5 (Z4 bb r) (Z3 bb data uu hh ww r) (z7 (o9 (F_ bb)) 13) (n_ 13 ((.int .i64 y8.1)::n_ 49 [])) [some (m6 bb data),some (.var [.map 2,.map 3,.map 4]),some (m7 uu []),some (b9 hh),some (b9 ww)]:=by
 unfold b3x at h;obtain rfl:=i7 h;exact I9 [] 11 [.reg []]
  (q9 (q2 tr) tr)
theorem c5w(bb:Bool){w0 W μ0}(hμ:p4 μ0 5)(data:LE bb)(a b:Int)(uu:UT)(hh ww:PT)(y3 y5 y7:Int)(r:Int×Int)(h:a91 bb data a b uu hh ww y3 y5 y7=some r):p3 w0 W μ0 (F_ bb) 5 5 (Z4 bb r) (Z3 bb data uu hh ww r) (z7 (o9 (F_ bb)) 8) ((.gs 0 data.length):: .any:: .any::(.fn (w6 bb) [.ptr 1 0 0] [])::n_ 7 ((.ptr 5 0 0)::(.int .i64 y3)::(.int .i64 y5)::(.int .i64 y7)::n_ 48 [])) [some (m6 bb data),some (.var [.map 2,.map 3,.map 4]),some (m7 uu []),some (b9 hh),some (b9 ww),some (.var [.int .i64 0])]:=by
 unfold a91 at h;obtain⟨y2,E1,h⟩:=d6 h;obtain⟨y4,E3,h⟩:=d6 h;obtain⟨y6,E5,h⟩:=d6 h;obtain⟨y8,E7,h⟩:=d6 h;rcases i5 h with⟨C9,h⟩|⟨C9,h⟩
 ·obtain rfl:=i7 h
  exact I9 [] 29 [.reg [(3,i6 (g9 [0,5,1,2,3,4] (a0Z bb y2) (a0X bb data 0 uu hh ww) (a0Y bb data uu hh ww y2)))],.reg [(3,i6 (g9 [0,5,1,2,3,4] (a0Z bb y4) (a0X bb data y2.2 uu hh ww) (a0Y bb data uu hh ww y4)))],.reg [(3,i6 (g9 [0,5,1,2,3,4] (a0Z bb y6) (a0X bb data y4.2 uu hh ww) (a0Y bb data uu hh ww y6)))],.reg [(5,i6 (g9 [0,5,1,2,3,4] (a27 bb y8) (a24 bb data y6.2 uu hh ww) (a26 bb data uu hh ww y8)))],.reg [],.reg [(1,hT)],.reg []]
   (q3 (q0 (q2 (I2 (q0 (a1M bb data y3 0 uu hh ww y2 E1 (f8 [0,5,1,2,3,4]) i1) (l0 (m6 bb data)) (l0 (.var [.int .i64 0])) (n4 [.map 2,.map 3,.map 4] uu hh ww)))) (q2 (I2 (q0 (a1M bb data y5 y2.2 uu hh ww y4 E3 (f8 [0,5,1,2,3,4]) i1) (l0 (m6 bb data)) (l0 (.var [.int .i64 y2.2])) (n4 [.map 2,.map 3,.map 4] uu hh ww)))) (q2 (I2 (q0 (a1M bb data y7 y4.2 uu hh ww y6 E5 (f8 [0,5,1,2,3,4]) i1) (l0 (m6 bb data)) (l0 (.var [.int .i64 y4.2])) (n4 [.map 2,.map 3,.map 4] uu hh ww)))) (R6 (N7 (I2 (q0 (a4B bb data y2.1 y4.1 y6.1 y6.2 uu hh ww y8 E7 (f8 [0,5,1,2,3,4]) i1) (l0 (m6 bb data)) (l0 (.var [.int .i64 y6.2])) (n4 [.map 2,.map 3,.map 4] uu hh ww)))) (l_ 0 1 rfl tr) (q8 (f_ C9 tr)))))
 ·rcases i5 h with⟨C10,h⟩|⟨C10,h⟩
  ·exact t7 hμ [] 31 [.reg [(3,i6 (g9 [0,5,1,2,3,4] (a0Z bb y2) (a0X bb data 0 uu hh ww) (a0Y bb data uu hh ww y2)))],.reg [(3,i6 (g9 [0,5,1,2,3,4] (a0Z bb y4) (a0X bb data y2.2 uu hh ww) (a0Y bb data uu hh ww y4)))],.reg [(3,i6 (g9 [0,5,1,2,3,4] (a0Z bb y6) (a0X bb data y4.2 uu hh ww) (a0Y bb data uu hh ww y6)))],.reg [(5,i6 (g9 [0,5,1,2,3,4] (a27 bb y8) (a24 bb data y6.2 uu hh ww) (a26 bb data uu hh ww y8)))],.reg [],.reg [(1,hF)],.reg [(1,hT)]]
    (q0 (q2 (I2 (q0 (a1M bb data y3 0 uu hh ww y2 E1 (f8 [0,5,1,2,3,4]) i1) (l0 (m6 bb data)) (l0 (.var [.int .i64 0])) (n4 [.map 2,.map 3,.map 4] uu hh ww)))) (q2 (I2 (q0 (a1M bb data y5 y2.2 uu hh ww y4 E3 (f8 [0,5,1,2,3,4]) i1) (l0 (m6 bb data)) (l0 (.var [.int .i64 y2.2])) (n4 [.map 2,.map 3,.map 4] uu hh ww)))) (q2 (I2 (q0 (a1M bb data y7 y4.2 uu hh ww y6 E5 (f8 [0,5,1,2,3,4]) i1) (l0 (m6 bb data)) (l0 (.var [.int .i64 y4.2])) (n4 [.map 2,.map 3,.map 4] uu hh ww)))) (E0 (N7 (I2 (q0 (a4B bb data y2.1 y4.1 y6.1 y6.2 uu hh ww y8 E7 (f8 [0,5,1,2,3,4]) i1) (l0 (m6 bb data)) (l0 (.var [.int .i64 y6.2])) (n4 [.map 2,.map 3,.map 4] uu hh ww)))) (l_ 0 1 rfl tr) (q8 (f_ C9 tr)) (q8 (f_ C10 tr)))) (c5v bb hμ data a b uu hh ww y8 r h) uS
  ·exact t7 hμ [] 31 [.reg [(3,i6 (g9 [0,5,1,2,3,4] (a0Z bb y2) (a0X bb data 0 uu hh ww) (a0Y bb data uu hh ww y2)))],.reg [(3,i6 (g9 [0,5,1,2,3,4] (a0Z bb y4) (a0X bb data y2.2 uu hh ww) (a0Y bb data uu hh ww y4)))],.reg [(3,i6 (g9 [0,5,1,2,3,4] (a0Z bb y6) (a0X bb data y4.2 uu hh ww) (a0Y bb data uu hh ww y6)))],.reg [(5,i6 (g9 [0,5,1,2,3,4] (a27 bb y8) (a24 bb data y6.2 uu hh ww) (a26 bb data uu hh ww y8)))],.reg [],.reg [(1,hF)],.reg [(1,hF)]]
    (q0 (q2 (I2 (q0 (a1M bb data y3 0 uu hh ww y2 E1 (f8 [0,5,1,2,3,4]) i1) (l0 (m6 bb data)) (l0 (.var [.int .i64 0])) (n4 [.map 2,.map 3,.map 4] uu hh ww)))) (q2 (I2 (q0 (a1M bb data y5 y2.2 uu hh ww y4 E3 (f8 [0,5,1,2,3,4]) i1) (l0 (m6 bb data)) (l0 (.var [.int .i64 y2.2])) (n4 [.map 2,.map 3,.map 4] uu hh ww)))) (q2 (I2 (q0 (a1M bb data y7 y4.2 uu hh ww y6 E5 (f8 [0,5,1,2,3,4]) i1) (l0 (m6 bb data)) (l0 (.var [.int .i64 y4.2])) (n4 [.map 2,.map 3,.map 4] uu hh ww)))) (E0 (N7 (I2 (q0 (a4B bb data y2.1 y4.1 y6.1 y6.2 uu hh ww y8 E7 (f8 [0,5,1,2,3,4]) i1) (l0 (m6 bb data)) (l0 (.var [.int .i64 y6.2])) (n4 [.map 2,.map 3,.map 4] uu hh ww)))) (l_ 0 1 rfl tr) (q8 (f_ C9 tr)) (q8 (f_ C10 tr)))) (c5u bb hμ data a b uu hh ww y8 r h) uS
theorem c5s(bb:Bool){w0 W μ0}(hμ:p4 μ0 5)(data:LE bb)(a b:Int)(uu:UT)(hh ww:PT)(y2:Int×Int)(r:Int×Int)(h:b3w bb data a b uu hh ww y2=some r):p3 w0 W μ0 (F_ bb) 5 5 (Z4 bb r) (Z3 bb data uu hh ww r) (z7 (o9 (F_ bb)) 17) (n_ 13 ((.int .i64 y2.1)::n_ 49 [])) [some (m6 bb data),some (.var [.map 2,.map 3,.map 4]),some (m7 uu []),some (b9 hh),some (b9 ww)]:=by
 unfold b3w at h;obtain rfl:=i7 h;exact I9 [] 11 [.reg []]
  (q9 (q2 tr) tr)
theorem c5r(bb:Bool){w0 W μ0}(hμ:p4 μ0 5)(data:LE bb)(a b:Int)(uu:UT)(hh ww:PT)(y2:Int×Int)(r:Int×Int)(h:b3v bb data a b uu hh ww y2=some r):p3 w0 W μ0 (F_ bb) 5 5 (Z4 bb r) (Z3 bb data uu hh ww r) (z7 (o9 (F_ bb)) 13) (n_ 13 ((.int .i64 y2.1)::n_ 49 [])) [some (m6 bb data),some (.var [.map 2,.map 3,.map 4]),some (m7 uu []),some (b9 hh),some (b9 ww)]:=by
 unfold b3v at h;obtain rfl:=i7 h;exact I9 [] 11 [.reg []]
  (q9 (q2 tr) tr)
theorem c5t(bb:Bool){w0 W μ0}(hμ:p4 μ0 5)(data:LE bb)(a b:Int)(uu:UT)(hh ww:PT)(y3 y5 y7:Int)(r:Int×Int)(h:a90 bb data a b uu hh ww y3 y5 y7=some r):p3 w0 W μ0 (F_ bb) 5 5 (Z4 bb r) (Z3 bb data uu hh ww r) (z7 (o9 (F_ bb)) 11) ((.gs 0 data.length):: .any:: .any::(.fn (w6 bb) [.ptr 1 0 0] [])::n_ 7 ((.ptr 5 0 0)::(.int .i64 y3)::(.int .i64 y5)::(.int .i64 y7)::n_ 48 [])) [some (m6 bb data),some (.var [.map 2,.map 3,.map 4]),some (m7 uu []),some (b9 hh),some (b9 ww),some (.var [.int .i64 0])]:=by
 unfold a90 at h;obtain⟨y2,E1,h⟩:=d6 h;rcases i5 h with⟨C3,h⟩|⟨C3,h⟩
 ·obtain rfl:=i7 h
  exact I9 [] 22 [.reg [(5,i6 (g9 [0,5,1,2,3,4] (a27 bb y2) (a24 bb data 0 uu hh ww) (a26 bb data uu hh ww y2)))],.reg [],.reg [(1,hT)],.reg []]
   (q3 (R6 (N7 (I2 (q0 (a4B bb data y3 y5 y7 0 uu hh ww y2 E1 (f8 [0,5,1,2,3,4]) i1) (l0 (m6 bb data)) (l0 (.var [.int .i64 0])) (n4 [.map 2,.map 3,.map 4] uu hh ww)))) (l_ 0 1 rfl tr) (q8 (f_ C3 tr))))
 ·rcases i5 h with⟨C4,h⟩|⟨C4,h⟩
  ·exact t7 hμ [] 24 [.reg [(5,i6 (g9 [0,5,1,2,3,4] (a27 bb y2) (a24 bb data 0 uu hh ww) (a26 bb data uu hh ww y2)))],.reg [],.reg [(1,hF)],.reg [(1,hT)]]
    (E0 (N7 (I2 (q0 (a4B bb data y3 y5 y7 0 uu hh ww y2 E1 (f8 [0,5,1,2,3,4]) i1) (l0 (m6 bb data)) (l0 (.var [.int .i64 0])) (n4 [.map 2,.map 3,.map 4] uu hh ww)))) (l_ 0 1 rfl tr) (q8 (f_ C3 tr)) (q8 (f_ C4 tr))) (c5s bb hμ data a b uu hh ww y2 r h) uS
  ·exact t7 hμ [] 24 [.reg [(5,i6 (g9 [0,5,1,2,3,4] (a27 bb y2) (a24 bb data 0 uu hh ww) (a26 bb data uu hh ww y2)))],.reg [],.reg [(1,hF)],.reg [(1,hF)]]
    (E0 (N7 (I2 (q0 (a4B bb data y3 y5 y7 0 uu hh ww y2 E1 (f8 [0,5,1,2,3,4]) i1) (l0 (m6 bb data)) (l0 (.var [.int .i64 0])) (n4 [.map 2,.map 3,.map 4] uu hh ww)))) (l_ 0 1 rfl tr) (q8 (f_ C3 tr)) (q8 (f_ C4 tr))) (c5r bb hμ data a b uu hh ww y2 r h) uS
theorem a2Z(bb:Bool)(data:LE bb)(a b:Int)(uu:UT)(hh ww:PT)(r:Int×Int)(h:sCP bb data a b uu hh ww=some r):∀σ,p8 5 σ->j9 Tryz.prog (b6O bb) (n7 σ [.gs 0 data.length,.int .i64 a,.int .i64 b,.fn (w6 bb) [.ptr 1 0 0] []]) (p5 σ 0 (a1K bb data uu hh ww)) ((Z4 bb r).ren σ) (p6 σ (Z3 bb data uu hh ww r)):=by
 refine o_ (c4V bb) (by cases bb<;>kernel_rfl) (by cases bb<;>kernel_rfl) (by cases bb<;>kernel_rfl) ⟨λ_ _=>by cases bb<;>rfl,rfl,uP,tr,tr,tr⟩ (by cases bb<;>kernel_rfl) ⟨λ_ _=>by cases bb<;>rfl,rfl,uP,tr,tr,tr⟩ (by cases bb<;>kernel_rfl) ?_;intro w0 W μ0 hμ;unfold sCP at h;obtain⟨y1,e2,h⟩:=d6 h;obtain⟨y3,e4,h⟩:=d6 h;obtain⟨y5,e6,h⟩:=d6 h;obtain⟨y7,e8,h⟩:=d6 h;rcases i5 h with⟨c9,h⟩|⟨c9,h⟩
 ·rcases i5 h with⟨c10,h⟩|⟨c10,h⟩
  ·exact t7 hμ [5] 38 [.reg [],.reg [],.reg [],.reg [(2,j5 (.int .i64 y1)),(4,j5 (.int .i64 y3))],.reg [(2,j5 (.int .i64 y1)),(4,j5 (.int .i64 y5))],.reg [(2,j5 (.int .i64 y1)),(4,j5 (.int .i64 y7))],.reg [(1,hT)],.reg [(1,hT)]]
    (P0 (b5 tr) (l9 tr) (J4 (q5 (K7 4 rfl) (n0 (LV.int .i64) e2) (J7 tr (n0 (LV.int .i64) e4))) (q5 (K7 4 rfl) (n0 (LV.int .i64) e2) (J7 tr (n0 (LV.int .i64) e6))) (b5 (q5 (K7 4 rfl) (n0 (LV.int .i64) e2) (J7 tr (n0 (LV.int .i64) e8)))) (q7 (q8 (f_ c9 tr)) (q8 (f_ c10 tr))))) (c5w bb hμ data a b uu hh ww y3 y5 y7 r h) ⟨λ_ _=>by cases bb<;>rfl,rfl,uP,tr,tr,rfl,tr⟩
  ·exact t7 hμ [5] 38 [.reg [],.reg [],.reg [],.reg [(2,j5 (.int .i64 y1)),(4,j5 (.int .i64 y3))],.reg [(2,j5 (.int .i64 y1)),(4,j5 (.int .i64 y5))],.reg [(2,j5 (.int .i64 y1)),(4,j5 (.int .i64 y7))],.reg [(1,hT)],.reg [(1,hF)]]
    (P0 (b5 tr) (l9 tr) (J4 (q5 (K7 4 rfl) (n0 (LV.int .i64) e2) (J7 tr (n0 (LV.int .i64) e4))) (q5 (K7 4 rfl) (n0 (LV.int .i64) e2) (J7 tr (n0 (LV.int .i64) e6))) (b5 (q5 (K7 4 rfl) (n0 (LV.int .i64) e2) (J7 tr (n0 (LV.int .i64) e8)))) (q7 (q8 (f_ c9 tr)) (q8 (f_ c10 tr))))) (c5t bb hμ data a b uu hh ww y3 y5 y7 r h) ⟨λ_ _=>by cases bb<;>rfl,rfl,uP,tr,tr,rfl,tr⟩
 ·obtain rfl:=i7 h
  exact I9 [] 44 [.reg [],.reg [],.reg [],.reg [(2,j5 (.int .i64 y1)),(4,j5 (.int .i64 y3))],.reg [(2,j5 (.int .i64 y1)),(4,j5 (.int .i64 y5))],.reg [(2,j5 (.int .i64 y1)),(4,j5 (.int .i64 y7))],.reg [(1,hF)],.reg [],.reg [],.reg []]
   (q3 (P0 (b5 tr) (l9 tr) (J4 (q5 (K7 4 rfl) (n0 (LV.int .i64) e2) (J7 tr (n0 (LV.int .i64) e4))) (q5 (K7 4 rfl) (n0 (LV.int .i64) e2) (J7 tr (n0 (LV.int .i64) e6))) (b5 (q5 (K7 4 rfl) (n0 (LV.int .i64) e2) (J7 tr (n0 (LV.int .i64) e8)))) (R6 (q8 (f_ c9 tr)) (l_ 0 1 rfl tr) (b5 tr)))))
abbrev a00(bb:Bool)(uu:UT)(hh ww:PT)(a2 b2 limit2:Int)(wasBalanced wasPartitioned:Bool)(l:LE bb)(r:(LE bb)):Prop:=p3 w0 W μ0 (Q2 bb) 5 5 (a0v bb r) (a0u bb uu hh ww r) (z6 (o9 (Q2 bb)) 0) ((.gs 0 l.length)::(.int .i64 a2)::(.int .i64 b2)::(.int .i64 limit2)::(.fn (w6 bb) [.ptr 1 0 0] [])::n_ 5 ((.bool wasBalanced)::(.bool wasPartitioned)::n_ 136 [])) [some (m6 bb l),some (.var [.map 2,.map 3,.map 4]),some (m7 uu []),some (b9 hh),some (b9 ww)]
def a3k(bb:Bool)(r:(LE bb)):LV:=.tup []
def a3j(bb:Bool)(uu:UT)(hh ww:PT)(r:(LE bb)):i9:=[(0,some (m6 bb r)),(1,some (.var [.map 2,.map 3,.map 4])),(2,some (m7 uu [])),(3,some (b9 hh)),(4,some (b9 ww))]
def a4G(bb:Bool)(data:LE bb)(uu:UT)(hh ww:PT):List LO:=[m6 bb data,.var [.map 2,.map 3,.map 4],m7 uu [],b9 hh,b9 ww]
abbrev c6m(bb:Bool)(uu:UT)(hh ww:PT)(i j:Int)(l:LE bb)(r:(LE bb)):Prop:=p3 w0 W μ0 (b3j bb) 5 5 (a3k bb r) (a3j bb uu hh ww r) (z6 (o9 (b3j bb)) 0) ((.gs 0 l.length)::n_ 7 ((.int .i64 i)::(.int .i64 j)::n_ 24 [])) [some (m6 bb l),some (.var [.map 2,.map 3,.map 4]),some (m7 uu []),some (b9 hh),some (b9 ww)]
theorem c6n(bb:Bool){w0 W μ0}(hμ:p4 μ0 5)(data:LE bb)(a b:Int)(uu:UT)(hh ww:PT):∀(fuel:Nat) (i j:Int) (l:LE bb) (r:(LE bb)),a4F bb data a b uu hh ww fuel i j l=some r->c6m w0 W μ0 bb uu hh ww i j l r:=by
 intro fuel
 induction fuel with
 |zero=>intro i j l r h;rw[a4F] at h;cases h
 |succ fuel ih=>
  intro i j l r h;rw[a4F] at h;rcases i5 h with⟨C1,h⟩|⟨C1,h⟩
  ·obtain⟨G2,h⟩:=j6 h
   obtain⟨G3,h⟩:=j6 h;obtain⟨G4,h⟩:=j6 h;obtain⟨y5,E6,h⟩:=d6 h;exact t7 hμ [] 27 [.go,.reg [(2,hT)],.reg [(13,{os:=[(0,m6 bb ((l.set i.toNat (l.getD j.toNat default))))]}),(15,{os:=[(0,m6 bb y5)]})],.reg [],.reg [],.wk [(0,.gs 0 y5.length)] []]
    (J4 (f_ C1 tr) (l9 (o8 (z_ bb) G2 tr (b5 (o8 (z_ bb) G3 tr (a_ (a_ (a_ (e_ (z_ bb)) G3) tr) (a_ (a_ (a_ (e_ (z_ bb)) (a_ (m8 (z_ bb)) (D1 G3))) (a_ (D5 (o5 bb) default (z_ bb) l i.toNat (l.getD j.toNat default) (D1 G3) (B2 (b6 (o5 bb) default l i.toNat) 0 ((o5 bb) (l.getD j.toNat default))) (by cases bb<;>kernel_rfl)) tr)) (a_ (a_ (a_ (e_ (z_ bb)) G2) tr) (a_ (a_ (a_ (e_ (z_ bb)) (a_ (m8 (z_ bb)) G4)) (a_ (LO.Sub.trans (D5 (o5 bb) default (z_ bb) (l.set i.toNat (l.getD j.toNat default)) j.toNat (l.getD i.toNat default) G4 (B2 (b6 (o5 bb) default (l.set i.toNat (l.getD j.toNat default)) j.toNat) 0 ((o5 bb) (l.getD i.toNat default))) (by cases bb<;>kernel_rfl)) (M0 bb E6)) tr)) tr)))))))) (q2 tr) (a_ (q2 tr) (K3 (A5 0 (show l.length=y5.length from by simp[<-i7 E6]))))) (ih _ _ _ r h) uS
  ·obtain rfl:=i7 h
   exact I9 [] 16 [.go,.reg [(2,hF)]]
    (q9 (b5 (f_ C1 tr)) tr)
theorem a6g(bb:Bool)(data:LE bb)(a b:Int)(uu:UT)(hh ww:PT)(r:(LE bb))(h:sRR bb data a b uu hh ww=some r):∀σ,p8 5 σ->j9 Tryz.prog (b6P bb) (n7 σ [.gs 0 data.length,.int .i64 a,.int .i64 b,.fn (w6 bb) [.ptr 1 0 0] []]) (p5 σ 0 (a4G bb data uu hh ww)) ((a3k bb r).ren σ) (p6 σ (a3j bb uu hh ww r)):=by
 refine o_ (c4W bb) (by cases bb<;>kernel_rfl) (by cases bb<;>kernel_rfl) (by cases bb<;>kernel_rfl) ⟨λ_ _=>by cases bb<;>rfl,rfl,uP,tr,tr,tr⟩ (by cases bb<;>kernel_rfl) ⟨λ_ _=>by cases bb<;>rfl,rfl,uP,tr,tr,tr⟩ (by cases bb<;>kernel_rfl) ?_;intro w0 W μ0 hμ;unfold sRR at h;exact t7 hμ [] 17 [.reg [],.reg []]
  (X1 (b5 tr)) (c6n bb hμ data a b uu hh ww big _ _ _ r h) uS
abbrev c5W(bb:Bool)(uu:UT)(hh ww:PT)(a2 b2 limit2:Int)(wasBalanced wasPartitioned:Bool)(y5 r:(LE bb)):Prop:=p3 w0 W μ0 (Q2 bb) 5 5 (a0v bb r) (a0u bb uu hh ww r) (z7 (o9 (Q2 bb)) 9) ((.gs 0 y5.length)::(.int .i64 a2)::(.int .i64 b2)::(.int .i64 limit2)::(.fn (w6 bb) [.ptr 1 0 0] [])::n_ 5 ((.bool wasBalanced)::(.bool wasPartitioned)::(.int .i64 (IntKind.wrap .i64 (b2 - a2)))::n_ 135 [])) [some (m6 bb y5),some (.var [.map 2,.map 3,.map 4]),some (m7 uu []),some (b9 hh),some (b9 ww)]
def T9(bb:Bool)(r:Bool×(LE bb)):LV:=.bool r.1
def T8(bb:Bool)(uu:UT)(hh ww:PT)(r:Bool×(LE bb)):i9:=[(0,some (m6 bb r.2)),(1,some (.var [.map 2,.map 3,.map 4])),(2,some (m7 uu [])),(3,some (b9 hh)),(4,some (b9 ww))]
def a4E(bb:Bool)(data:LE bb)(uu:UT)(hh ww:PT):List LO:=[m6 bb data,.var [.map 2,.map 3,.map 4],m7 uu [],b9 hh,b9 ww]
abbrev a3g(bb:Bool)(a b:Int)(uu:UT)(hh ww:PT)(i j:Int)(l:LE bb)(r:Bool×(LE bb)):Prop:=p3 w0 W μ0 (N8 bb) 5 5 (T9 bb r) (T8 bb uu hh ww r) (z6 (o9 (N8 bb)) 0) ((.gs 0 l.length)::(.int .i64 a)::(.int .i64 b)::(.fn (w6 bb) [.ptr 1 0 0] [])::n_ 5 ((.int .i64 i)::(.int .i64 j)::n_ 130 [])) [some (m6 bb l),some (.var [.map 2,.map 3,.map 4]),some (m7 uu []),some (b9 hh),some (b9 ww)]
abbrev b8j(bb:Bool)(a b:Int)(uu:UT)(hh ww:PT)(j:Int)(l:LE bb)(i2:Int)(r:Bool×(LE bb)):Prop:=p3 w0 W μ0 (N8 bb) 5 5 (T9 bb r) (T8 bb uu hh ww r) (z6 (o9 (N8 bb)) 1) ((.gs 0 l.length)::(.int .i64 a)::(.int .i64 b)::(.fn (w6 bb) [.ptr 1 0 0] [])::n_ 5 ((.int .i64 i2)::(.int .i64 j)::n_ 130 [])) [some (m6 bb l),some (.var [.map 2,.map 3,.map 4]),some (m7 uu []),some (b9 hh),some (b9 ww)]
abbrev b8l(bb:Bool)(a b:Int)(uu:UT)(hh ww:PT)(j i2 j3:Int)(l4:LE bb)(r:Bool×(LE bb)):Prop:=p3 w0 W μ0 (N8 bb) 5 5 (T9 bb r) (T8 bb uu hh ww r) (z6 (o9 (N8 bb)) 3) ((.gs 0 l4.length)::(.int .i64 a)::(.int .i64 b)::(.fn (w6 bb) [.ptr 1 0 0] [])::n_ 5 ((.int .i64 i2)::(.int .i64 j):: .any::(.int .i64 j3)::n_ 128 [])) [some (m6 bb l4),some (.var [.map 2,.map 3,.map 4]),some (m7 uu []),some (b9 hh),some (b9 ww)]
theorem c6g(bb:Bool){w0 W μ0}(hμ:p4 μ0 5)(data:LE bb)(a b:Int)(uu:UT)(hh ww:PT)(j i2:Int)(l4:LE bb)(k0:Int->Int->(LE bb)->Option (Bool×(LE bb)))(hk0:∀(i j:Int) (l:LE bb) (r:Bool×(LE bb)),k0 i j l=some r->a3g w0 W μ0 bb a b uu hh ww i j l r)(r:Bool×(LE bb))(h:b3N bb data a b uu hh ww j i2 l4 k0=some r):p3 w0 W μ0 (N8 bb) 5 5 (T9 bb r) (T8 bb uu hh ww r) (z7 (o9 (N8 bb)) 4) ((.gs 0 l4.length)::(.int .i64 a)::(.int .i64 b)::(.fn (w6 bb) [.ptr 1 0 0] [])::n_ 5 ((.int .i64 i2)::(.int .i64 j)::n_ 130 [])) [some (m6 bb l4),some (.var [.map 2,.map 3,.map 4]),some (m7 uu []),some (b9 hh),some (b9 ww)]:=by
 unfold b3N at h;exact t7 hμ [] 11 [.reg []]
  (I3 tr) (hk0 _ _ _ r h) uS
theorem c6f(bb:Bool){w0 W μ0}(hμ:p4 μ0 5)(data:LE bb)(a b:Int)(uu:UT)(hh ww:PT)(j i2 j3:Int)(l4:LE bb)(k3:Int->(LE bb)->Option (Bool×(LE bb)))(hk3:∀(j3:Int) (l4:LE bb) (r:Bool×(LE bb)),k3 j3 l4=some r->b8l w0 W μ0 bb a b uu hh ww j i2 j3 l4 r)(r:Bool×(LE bb))(h:b0k bb data a b uu hh ww j i2 j3 l4 k3=some r):p3 w0 W μ0 (N8 bb) 5 5 (T9 bb r) (T8 bb uu hh ww r) (z7 (o9 (N8 bb)) 23) ((.gs 0 l4.length)::(.int .i64 a)::(.int .i64 b)::(.fn (w6 bb) [.ptr 1 0 0] [])::n_ 5 ((.int .i64 i2)::(.int .i64 j):: .any::(.int .i64 j3)::n_ 128 [])) [some (m6 bb l4),some (.var [.map 2,.map 3,.map 4]),some (m7 uu []),some (b9 hh),some (b9 ww)]:=by
 unfold b0k at h;obtain⟨G1,h⟩:=j6 h;obtain⟨y2,E3,h⟩:=d6 h;obtain⟨G4,h⟩:=j6 h;obtain⟨G5,h⟩:=j6 h;obtain⟨y6,E7,h⟩:=d6 h;exact t7 hμ [] 15 [.reg [(9,j5 ((u4 bb) y2)),(15,{os:=[(0,m6 bb ((l4.set j3.toNat y2)))]}),(17,{os:=[(0,m6 bb y6)]})],.reg [],.wk [(0,.gs 0 y6.length)] []]
  (q0 (X2 (o8 (z_ bb) G1 (a_ (n0 (u4 bb) E3) tr) (b5 (o8 (z_ bb) G4 tr (a_ (a_ (a_ (e_ (z_ bb)) G4) tr) (a_ (a_ (a_ (e_ (z_ bb)) (a_ (m8 (z_ bb)) (D1 G4))) (a_ (D5 (o5 bb) default (z_ bb) l4 j3.toNat y2 (D1 G4) (B2 (b6 (o5 bb) default l4 j3.toNat) 0 ((o5 bb) y2)) (by cases bb<;>kernel_rfl)) tr)) (a_ (a_ (a_ (e_ (z_ bb)) G1) tr) (a_ (a_ (a_ (e_ (z_ bb)) (a_ (m8 (z_ bb)) G5)) (a_ (LO.Sub.trans (D5 (o5 bb) default (z_ bb) (l4.set j3.toNat y2) ((IntKind.wrap .i64 (j3 - 1))).toNat (l4.getD j3.toNat default) G5 (B2 (b6 (o5 bb) default (l4.set j3.toNat y2) ((IntKind.wrap .i64 (j3 - 1))).toNat) 0 ((o5 bb) (l4.getD j3.toNat default))) (by cases bb<;>kernel_rfl)) (M0 bb E7)) tr)) tr)))))))) (q2 tr) (q9 (A5 0 (show l4.length=y6.length from by simp[<-i7 E7])) tr) tr) (hk3 _ _ r h) uS
theorem b3O(bb:Bool){w0 W μ0}(hμ:p4 μ0 5)(data:LE bb)(a b:Int)(uu:UT)(hh ww:PT)(j i2:Int)(k0:Int->Int->(LE bb)->Option (Bool×(LE bb)))(hk0:∀(i j:Int) (l:LE bb) (r:Bool×(LE bb)),k0 i j l=some r->a3g w0 W μ0 bb a b uu hh ww i j l r):∀(fuel:Nat) (j3:Int) (l4:LE bb) (r:Bool×(LE bb)),a01 bb data a b uu hh ww j i2 k0 fuel j3 l4=some r->b8l w0 W μ0 bb a b uu hh ww j i2 j3 l4 r:=by
 intro fuel
 induction fuel with
 |zero=>intro j3 l4 r h;rw[a01] at h;cases h
 |succ fuel ih=>
  intro j3 l4 r h;rw[a01] at h;rcases i5 h with⟨C1,h⟩|⟨C1,h⟩
  ·obtain⟨G2,h⟩:=j6 h
   obtain⟨G3,h⟩:=j6 h;obtain⟨y4,E5,h⟩:=d6 h;obtain⟨y7,E6,h⟩:=d6 h;rcases i5 h with⟨C8,h⟩|⟨C8,h⟩
   ·exact t7 hμ [] 25 [.go,.reg [(2,hT)],.reg [(9,j5 ((u4 bb) y4)),(10,i6 (g9 [1,2,3,4] (H3 bb y7) (G0 bb uu hh ww) (H2 bb uu hh ww y7))),(12,hT)]]
     (q7 (b5 (f_ C1 tr)) (q2 (o8 (z_ bb) G2 tr (b4 (b5 (o8 (z_ bb) G3 (a_ (n0 (u4 bb) E5) tr) (a_ (a_ (a_ (H4 bb uu hh ww (l4.getD j3.toNat default) y4 y7 E6 (f8 [1,2,3,4]) i1) (n4 [.map 2,.map 3,.map 4] uu hh ww)) tr) (b4 (f_ C8 tr))))))))) (c6g bb hμ data a b uu hh ww j i2 l4 k0 hk0 r h) uS
   ·exact t7 hμ [] 24 [.go,.reg [(2,hT)],.reg [(9,j5 ((u4 bb) y4)),(10,i6 (g9 [1,2,3,4] (H3 bb y7) (G0 bb uu hh ww) (H2 bb uu hh ww y7))),(12,hF)]]
     (q7 (b5 (f_ C1 tr)) (q2 (o8 (z_ bb) G2 tr (b4 (b5 (o8 (z_ bb) G3 (a_ (n0 (u4 bb) E5) tr) (a_ (a_ (a_ (H4 bb uu hh ww (l4.getD j3.toNat default) y4 y7 E6 (f8 [1,2,3,4]) i1) (n4 [.map 2,.map 3,.map 4] uu hh ww)) tr) (b4 (f_ C8 tr))))))))) (c6f bb hμ data a b uu hh ww j i2 j3 l4 (a01 bb data a b uu hh ww j i2 k0 fuel) ih r h) uS
  ·exact t7 hμ [] 19 [.go,.reg [(2,hF)],.reg []]
    (X1 (b5 (f_ C1 tr))) (hk0 _ _ _ r h) uS
abbrev b8k(bb:Bool)(a b:Int)(uu:UT)(hh ww:PT)(j i2 j2:Int)(l3:LE bb)(r:Bool×(LE bb)):Prop:=p3 w0 W μ0 (N8 bb) 5 5 (T9 bb r) (T8 bb uu hh ww r) (z6 (o9 (N8 bb)) 2) ((.gs 0 l3.length)::(.int .i64 a)::(.int .i64 b)::(.fn (w6 bb) [.ptr 1 0 0] [])::n_ 5 ((.int .i64 i2)::(.int .i64 j)::(.int .i64 j2)::n_ 129 [])) [some (m6 bb l3),some (.var [.map 2,.map 3,.map 4]),some (m7 uu []),some (b9 hh),some (b9 ww)]
theorem c6d(bb:Bool){w0 W μ0}(hμ:p4 μ0 5)(data:LE bb)(a b:Int)(uu:UT)(hh ww:PT)(j i2 j2:Int)(l3:LE bb)(k2:Int->(LE bb)->Option (Bool×(LE bb)))(hk2:∀(j2:Int) (l3:LE bb) (r:Bool×(LE bb)),k2 j2 l3=some r->b8k w0 W μ0 bb a b uu hh ww j i2 j2 l3 r)(r:Bool×(LE bb))(h:b0j bb data a b uu hh ww j i2 j2 l3 k2=some r):p3 w0 W μ0 (N8 bb) 5 5 (T9 bb r) (T8 bb uu hh ww r) (z7 (o9 (N8 bb)) 17) ((.gs 0 l3.length)::(.int .i64 a)::(.int .i64 b)::(.fn (w6 bb) [.ptr 1 0 0] [])::n_ 5 ((.int .i64 i2)::(.int .i64 j)::(.int .i64 j2)::n_ 129 [])) [some (m6 bb l3),some (.var [.map 2,.map 3,.map 4]),some (m7 uu []),some (b9 hh),some (b9 ww)]:=by
 unfold b0j at h;obtain⟨G1,h⟩:=j6 h;obtain⟨y2,E3,h⟩:=d6 h;obtain⟨G4,h⟩:=j6 h;obtain⟨G5,h⟩:=j6 h;obtain⟨y6,E7,h⟩:=d6 h;exact t7 hμ [] 15 [.reg [(9,j5 ((u4 bb) y2)),(15,{os:=[(0,m6 bb ((l3.set j2.toNat y2)))]}),(17,{os:=[(0,m6 bb y6)]})],.reg [],.wk [(0,.gs 0 y6.length)] []]
  (q0 (X2 (o8 (z_ bb) G1 (a_ (n0 (u4 bb) E3) tr) (b5 (o8 (z_ bb) G4 tr (a_ (a_ (a_ (e_ (z_ bb)) G4) tr) (a_ (a_ (a_ (e_ (z_ bb)) (a_ (m8 (z_ bb)) (D1 G4))) (a_ (D5 (o5 bb) default (z_ bb) l3 j2.toNat y2 (D1 G4) (B2 (b6 (o5 bb) default l3 j2.toNat) 0 ((o5 bb) y2)) (by cases bb<;>kernel_rfl)) tr)) (a_ (a_ (a_ (e_ (z_ bb)) G1) tr) (a_ (a_ (a_ (e_ (z_ bb)) (a_ (m8 (z_ bb)) G5)) (a_ (LO.Sub.trans (D5 (o5 bb) default (z_ bb) (l3.set j2.toNat y2) ((IntKind.wrap .i64 (j2 - 1))).toNat (l3.getD j2.toNat default) G5 (B2 (b6 (o5 bb) default (l3.set j2.toNat y2) ((IntKind.wrap .i64 (j2 - 1))).toNat) 0 ((o5 bb) (l3.getD j2.toNat default))) (by cases bb<;>kernel_rfl)) (M0 bb E7)) tr)) tr)))))))) (q2 tr) (q9 (A5 0 (show l3.length=y6.length from by simp[<-i7 E7])) tr) tr) (hk2 _ _ r h) uS
theorem c6e(bb:Bool){w0 W μ0}(hμ:p4 μ0 5)(data:LE bb)(a b:Int)(uu:UT)(hh ww:PT)(j i2:Int)(l3:LE bb)(k0:Int->Int->(LE bb)->Option (Bool×(LE bb)))(hk0:∀(i j:Int) (l:LE bb) (r:Bool×(LE bb)),k0 i j l=some r->a3g w0 W μ0 bb a b uu hh ww i j l r)(r:Bool×(LE bb))(h:a3h bb data a b uu hh ww j i2 l3 k0=some r):p3 w0 W μ0 (N8 bb) 5 5 (T9 bb r) (T8 bb uu hh ww r) (z7 (o9 (N8 bb)) 18) ((.gs 0 l3.length)::(.int .i64 a)::(.int .i64 b)::(.fn (w6 bb) [.ptr 1 0 0] [])::n_ 5 ((.int .i64 i2)::(.int .i64 j)::n_ 130 [])) [some (m6 bb l3),some (.var [.map 2,.map 3,.map 4]),some (m7 uu []),some (b9 hh),some (b9 ww)]:=by
 unfold a3h at h;rcases i5 h with⟨C1,h⟩|⟨C1,h⟩
 ·exact t7 hμ [] 17 [.reg [(3,hT)],.reg []]
   (X1 (q2 (f_ C1 tr))) (b3O bb hμ data a b uu hh ww j i2 k0 hk0 big _ _ r h) uS
 ·exact t7 hμ [] 16 [.reg [(3,hF)],.reg []]
   (X1 (q2 (f_ C1 tr))) (hk0 _ _ _ r h) uS
theorem c6l(bb:Bool){w0 W μ0}(hμ:p4 μ0 5)(data:LE bb)(a b:Int)(uu:UT)(hh ww:PT)(j i2:Int)(k0:Int->Int->(LE bb)->Option (Bool×(LE bb)))(hk0:∀(i j:Int) (l:LE bb) (r:Bool×(LE bb)),k0 i j l=some r->a3g w0 W μ0 bb a b uu hh ww i j l r):∀(fuel:Nat) (j2:Int) (l3:LE bb) (r:Bool×(LE bb)),a1Q bb data a b uu hh ww j i2 k0 fuel j2 l3=some r->b8k w0 W μ0 bb a b uu hh ww j i2 j2 l3 r:=by
 intro fuel
 induction fuel with
 |zero=>intro j2 l3 r h;rw[a1Q] at h;cases h
 |succ fuel ih=>
  intro j2 l3 r h;rw[a1Q] at h;rcases i5 h with⟨C1,h⟩|⟨C1,h⟩
  ·obtain⟨G2,h⟩:=j6 h
   obtain⟨G3,h⟩:=j6 h;obtain⟨y4,E5,h⟩:=d6 h;obtain⟨y7,E6,h⟩:=d6 h;rcases i5 h with⟨C8,h⟩|⟨C8,h⟩
   ·exact t7 hμ [] 25 [.go,.reg [(1,hT)],.reg [(9,j5 ((u4 bb) y4)),(10,i6 (g9 [1,2,3,4] (H3 bb y7) (G0 bb uu hh ww) (H2 bb uu hh ww y7))),(12,hT)]]
     (q7 (q8 (f_ C1 tr)) (q2 (o8 (z_ bb) G2 tr (b4 (b5 (o8 (z_ bb) G3 (a_ (n0 (u4 bb) E5) tr) (a_ (a_ (a_ (H4 bb uu hh ww (l3.getD j2.toNat default) y4 y7 E6 (f8 [1,2,3,4]) i1) (n4 [.map 2,.map 3,.map 4] uu hh ww)) tr) (b4 (f_ C8 tr))))))))) (c6e bb hμ data a b uu hh ww j i2 l3 k0 hk0 r h) uS
   ·exact t7 hμ [] 24 [.go,.reg [(1,hT)],.reg [(9,j5 ((u4 bb) y4)),(10,i6 (g9 [1,2,3,4] (H3 bb y7) (G0 bb uu hh ww) (H2 bb uu hh ww y7))),(12,hF)]]
     (q7 (q8 (f_ C1 tr)) (q2 (o8 (z_ bb) G2 tr (b4 (b5 (o8 (z_ bb) G3 (a_ (n0 (u4 bb) E5) tr) (a_ (a_ (a_ (H4 bb uu hh ww (l3.getD j2.toNat default) y4 y7 E6 (f8 [1,2,3,4]) i1) (n4 [.map 2,.map 3,.map 4] uu hh ww)) tr) (b4 (f_ C8 tr))))))))) (c6d bb hμ data a b uu hh ww j i2 j2 l3 (a1Q bb data a b uu hh ww j i2 k0 fuel) ih r h) uS
  ·rcases i5 h with⟨C2,h⟩|⟨C2,h⟩
   ·exact t7 hμ [] 25 [.go,.reg [(1,hF)],.reg [(3,hT)],.reg []]
     (V2 (q8 (f_ C1 tr)) (q2 (f_ C2 tr))) (b3O bb hμ data a b uu hh ww j i2 k0 hk0 big _ _ r h) uS
   ·exact t7 hμ [] 24 [.go,.reg [(1,hF)],.reg [(3,hF)],.reg []]
     (V2 (q8 (f_ C1 tr)) (q2 (f_ C2 tr))) (hk0 _ _ _ r h) uS
theorem b8m(bb:Bool){w0 W μ0}(hμ:p4 μ0 5)(data:LE bb)(a b:Int)(uu:UT)(hh ww:PT)(j i2:Int)(k0:Int->Int->(LE bb)->Option (Bool×(LE bb)))(hk0:∀(i j:Int) (l:LE bb) (r:Bool×(LE bb)),k0 i j l=some r->a3g w0 W μ0 bb a b uu hh ww i j l r)(l2:LE bb)(r:Bool×(LE bb))(h:a6e bb data a b uu hh ww j i2 k0 l2=some r):p3 w0 W μ0 (N8 bb) 5 5 (T9 bb r) (T8 bb uu hh ww r) (z7 (o9 (N8 bb)) 12) ((.gs 0 l2.length)::(.int .i64 a)::(.int .i64 b)::(.fn (w6 bb) [.ptr 1 0 0] [])::n_ 5 ((.int .i64 i2)::(.int .i64 j)::n_ 130 [])) [some (m6 bb l2),some (.var [.map 2,.map 3,.map 4]),some (m7 uu []),some (b9 hh),some (b9 ww)]:=by
 unfold a6e at h;rcases i5 h with⟨C1,h⟩|⟨C1,h⟩
 ·exact t7 hμ [] 17 [.reg [(3,hT)],.reg []]
   (X1 (q2 (f_ C1 tr))) (c6l bb hμ data a b uu hh ww j i2 k0 hk0 big _ _ r h) uS
 ·rcases i5 h with⟨C2,h⟩|⟨C2,h⟩
  ·exact t7 hμ [] 22 [.reg [(3,hF)],.reg [(3,hT)],.reg []]
    (V2 (q2 (f_ C1 tr)) (q2 (f_ C2 tr))) (b3O bb hμ data a b uu hh ww j i2 k0 hk0 big _ _ r h) uS
  ·exact t7 hμ [] 21 [.reg [(3,hF)],.reg [(3,hF)],.reg []]
    (V2 (q2 (f_ C1 tr)) (q2 (f_ C2 tr))) (hk0 _ _ _ r h) uS
theorem c6h(bb:Bool){w0 W μ0}(hμ:p4 μ0 5)(data:LE bb)(a b:Int)(uu:UT)(hh ww:PT)(j:Int)(l:LE bb)(i2:Int)(k1:Int->Option (Bool×(LE bb)))(hk1:∀(i2:Int) (r:Bool×(LE bb)),k1 i2=some r->b8j w0 W μ0 bb a b uu hh ww j l i2 r)(r:Bool×(LE bb))(h:b0l bb data a b uu hh ww j l i2 k1=some r):p3 w0 W μ0 (N8 bb) 5 5 (T9 bb r) (T8 bb uu hh ww r) (z7 (o9 (N8 bb)) 6) ((.gs 0 l.length)::(.int .i64 a)::(.int .i64 b)::(.fn (w6 bb) [.ptr 1 0 0] [])::n_ 5 ((.int .i64 i2)::(.int .i64 j)::n_ 130 [])) [some (m6 bb l),some (.var [.map 2,.map 3,.map 4]),some (m7 uu []),some (b9 hh),some (b9 ww)]:=by
 unfold b0l at h;exact t7 hμ [] 12 [.reg []]
  (I3 tr) (hk1 _ r h) uS
theorem c6i(bb:Bool){w0 W μ0}(hμ:p4 μ0 5)(data:LE bb)(a b:Int)(uu:UT)(hh ww:PT)(j:Int)(l:LE bb)(i2:Int)(k0:Int->Int->(LE bb)->Option (Bool×(LE bb)))(hk0:∀(i j:Int) (l:LE bb) (r:Bool×(LE bb)),k0 i j l=some r->a3g w0 W μ0 bb a b uu hh ww i j l r)(r:Bool×(LE bb))(h:a4D bb data a b uu hh ww j l i2 k0=some r):p3 w0 W μ0 (N8 bb) 5 5 (T9 bb r) (T8 bb uu hh ww r) (z7 (o9 (N8 bb)) 7) ((.gs 0 l.length)::(.int .i64 a)::(.int .i64 b)::(.fn (w6 bb) [.ptr 1 0 0] [])::n_ 5 ((.int .i64 i2)::(.int .i64 j)::n_ 130 [])) [some (m6 bb l),some (.var [.map 2,.map 3,.map 4]),some (m7 uu []),some (b9 hh),some (b9 ww)]:=by
 unfold a4D at h;rcases i5 h with⟨C1,h⟩|⟨C1,h⟩
 ·obtain rfl:=i7 h
  exact I9 [] 15 [.reg [(2,hT)],.reg []]
   (F8 (b5 (f_ C1 tr)) (q8 tr))
 ·rcases i5 h with⟨C2,h⟩|⟨C2,h⟩
  ·obtain rfl:=i7 h
   exact I9 [] 21 [.reg [(2,hF)],.reg [(3,hT)],.reg []]
    (q3 (P0 (b5 (f_ C1 tr)) (q2 (f_ C2 tr)) tr))
  ·obtain⟨G3,h⟩:=j6 h
   obtain⟨y4,E5,h⟩:=d6 h;obtain⟨G6,h⟩:=j6 h;obtain⟨G7,h⟩:=j6 h;obtain⟨y8,E9,h⟩:=d6 h;exact t7 hμ [] 25 [.reg [(2,hF)],.reg [(3,hF)],.reg [(9,j5 ((u4 bb) y4)),(15,{os:=[(0,m6 bb ((l.set i2.toNat y4)))]}),(17,{os:=[(0,m6 bb y8)]})],.wk [(0,.gs 0 y8.length)] []]
    (q0 (b5 (f_ C1 tr)) (q2 (f_ C2 tr)) (X2 (o8 (z_ bb) G3 (a_ (n0 (u4 bb) E5) tr) (b5 (o8 (z_ bb) G6 tr (a_ (a_ (a_ (e_ (z_ bb)) G6) tr) (a_ (a_ (a_ (e_ (z_ bb)) (a_ (m8 (z_ bb)) (D1 G6))) (a_ (D5 (o5 bb) default (z_ bb) l i2.toNat y4 (D1 G6) (B2 (b6 (o5 bb) default l i2.toNat) 0 ((o5 bb) y4)) (by cases bb<;>kernel_rfl)) tr)) (a_ (a_ (a_ (e_ (z_ bb)) G3) tr) (a_ (a_ (a_ (e_ (z_ bb)) (a_ (m8 (z_ bb)) G7)) (a_ (LO.Sub.trans (D5 (o5 bb) default (z_ bb) (l.set i2.toNat y4) ((IntKind.wrap .i64 (i2 - 1))).toNat (l.getD i2.toNat default) G7 (B2 (b6 (o5 bb) default (l.set i2.toNat y4) ((IntKind.wrap .i64 (i2 - 1))).toNat) 0 ((o5 bb) (l.getD i2.toNat default))) (by cases bb<;>kernel_rfl)) (M0 bb E9)) tr)) tr)))))))) (K3 (A5 0 (show l.length=y8.length from by simp[<-i7 E9])))) (b8m bb hμ data a b uu hh ww j i2 k0 hk0 _ r h) uS
theorem c6k(bb:Bool){w0 W μ0}(hμ:p4 μ0 5)(data:LE bb)(a b:Int)(uu:UT)(hh ww:PT)(j:Int)(l:LE bb)(k0:Int->Int->(LE bb)->Option (Bool×(LE bb)))(hk0:∀(i j:Int) (l:LE bb) (r:Bool×(LE bb)),k0 i j l=some r->a3g w0 W μ0 bb a b uu hh ww i j l r):∀(fuel:Nat) (i2:Int) (r:Bool×(LE bb)),a3i bb data a b uu hh ww j l k0 fuel i2=some r->b8j w0 W μ0 bb a b uu hh ww j l i2 r:=by
 intro fuel
 induction fuel with
 |zero=>intro i2 r h;rw[a3i] at h;cases h
 |succ fuel ih=>
  intro i2 r h;rw[a3i] at h;rcases i5 h with⟨C1,h⟩|⟨C1,h⟩
  ·obtain⟨G2,h⟩:=j6 h
   obtain⟨G3,h⟩:=j6 h;obtain⟨y4,E5,h⟩:=d6 h;obtain⟨y7,E6,h⟩:=d6 h;rcases i5 h with⟨C8,h⟩|⟨C8,h⟩
   ·exact t7 hμ [] 17 [.go,.reg [(3,hT),(13,j5 ((u4 bb) y4)),(14,i6 (g9 [1,2,3,4] (H3 bb y7) (G0 bb uu hh ww) (H2 bb uu hh ww y7))),(17,hT)]]
     (I3 (f_ C1 (b4 (b5 (o8 (z_ bb) G2 tr (b4 (b5 (o8 (z_ bb) G3 (a_ (n0 (u4 bb) E5) tr) (a_ (a_ (a_ (H4 bb uu hh ww (l.getD i2.toNat default) y4 y7 E6 (f8 [1,2,3,4]) i1) (n4 [.map 2,.map 3,.map 4] uu hh ww)) tr) (b5 (f_ C8 tr))))))))))) (c6h bb hμ data a b uu hh ww j l i2 (a3i bb data a b uu hh ww j l k0 fuel) ih r h) uS
   ·exact t7 hμ [] 18 [.go,.reg [(3,hT),(13,j5 ((u4 bb) y4)),(14,i6 (g9 [1,2,3,4] (H3 bb y7) (G0 bb uu hh ww) (H2 bb uu hh ww y7))),(17,hF)]]
     (I3 (f_ C1 (b4 (b5 (o8 (z_ bb) G2 tr (b4 (b5 (o8 (z_ bb) G3 (a_ (n0 (u4 bb) E5) tr) (a_ (a_ (a_ (H4 bb uu hh ww (l.getD i2.toNat default) y4 y7 E6 (f8 [1,2,3,4]) i1) (n4 [.map 2,.map 3,.map 4] uu hh ww)) tr) (b5 (f_ C8 tr))))))))))) (c6i bb hμ data a b uu hh ww j l i2 k0 hk0 r h) uS
  ·rcases i5 h with⟨C2,h⟩|⟨C2,h⟩
   ·obtain rfl:=i7 h
    exact I9 [] 24 [.go,.reg [(3,hF)],.reg [(2,hT)],.reg []]
     (q3 (B6 (q2 (f_ C1 (a_ tr (z8 (B3 (b4 tr)))))) (f_ C2 tr) (q8 tr) tr))
   ·rcases i5 h with⟨C3,h⟩|⟨C3,h⟩
    ·obtain rfl:=i7 h
     exact I9 [] 30 [.go,.reg [(3,hF)],.reg [(2,hF)],.reg [(3,hT)],.reg []]
      (q3 (B6 (q2 (f_ C1 (a_ tr (z8 (B3 (b4 tr)))))) (f_ C2 tr) (q2 (f_ C3 tr)) (q3 (q8 tr))))
    ·obtain⟨G4,h⟩:=j6 h
     obtain⟨y5,E6,h⟩:=d6 h;obtain⟨G7,h⟩:=j6 h;obtain⟨G8,h⟩:=j6 h;obtain⟨y9,E10,h⟩:=d6 h;exact t7 hμ [] 34 [.go,.reg [(3,hF)],.reg [(2,hF)],.reg [(3,hF)],.reg [(9,j5 ((u4 bb) y5)),(15,{os:=[(0,m6 bb ((l.set i2.toNat y5)))]}),(17,{os:=[(0,m6 bb y9)]})],.wk [(0,.gs 0 y9.length)] []]
      (B6 (q2 (f_ C1 (a_ tr (z8 (B3 (b4 tr)))))) (f_ C2 tr) (q2 (f_ C3 tr)) (a_ (X2 (o8 (z_ bb) G4 (a_ (n0 (u4 bb) E6) tr) (b5 (o8 (z_ bb) G7 tr (a_ (a_ (a_ (e_ (z_ bb)) G7) tr) (a_ (a_ (a_ (e_ (z_ bb)) (a_ (m8 (z_ bb)) (D1 G7))) (a_ (D5 (o5 bb) default (z_ bb) l i2.toNat y5 (D1 G7) (B2 (b6 (o5 bb) default l i2.toNat) 0 ((o5 bb) y5)) (by cases bb<;>kernel_rfl)) tr)) (a_ (a_ (a_ (e_ (z_ bb)) G4) tr) (a_ (a_ (a_ (e_ (z_ bb)) (a_ (m8 (z_ bb)) G8)) (a_ (LO.Sub.trans (D5 (o5 bb) default (z_ bb) (l.set i2.toNat y5) ((IntKind.wrap .i64 (i2 - 1))).toNat (l.getD i2.toNat default) G8 (B2 (b6 (o5 bb) default (l.set i2.toNat y5) ((IntKind.wrap .i64 (i2 - 1))).toNat) 0 ((o5 bb) (l.getD i2.toNat default))) (by cases bb<;>kernel_rfl)) (M0 bb E10)) tr)) tr)))))))) (K3 (A5 0 (show l.length=y9.length from by simp[<-i7 E10]))))) (b8m bb hμ data a b uu hh ww j i2 k0 hk0 _ r h) uS
theorem c6j(bb:Bool){w0 W μ0}(hμ:p4 μ0 5)(data:LE bb)(a b:Int)(uu:UT)(hh ww:PT):∀(fuel:Nat) (i j:Int) (l:LE bb) (r:Bool×(LE bb)),a0x bb data a b uu hh ww fuel i j l=some r->a3g w0 W μ0 bb a b uu hh ww i j l r:=by
 intro fuel
 induction fuel with
 |zero=>intro i j l r h;rw[a0x] at h;cases h
 |succ fuel ih=>
  intro i j l r h;rw[a0x] at h;rcases i5 h with⟨C1,h⟩|⟨C1,h⟩
  ·exact t7 hμ [] 21 [.go,.reg [(1,hT)]]
    (q3 (q8 (f_ C1 tr))) (c6k bb hμ data a b uu hh ww j l (a0x bb data a b uu hh ww fuel) ih big _ r h) uS
  ·obtain rfl:=i7 h
   exact I9 [] 19 [.go,.reg [(1,hF)],.reg []]
    (F8 (q8 (f_ C1 tr)) (q8 tr))
theorem a6f(bb:Bool)(data:LE bb)(a b:Int)(uu:UT)(hh ww:PT)(r:Bool×(LE bb))(h:sPI bb data a b uu hh ww=some r):∀σ,p8 5 σ->j9 Tryz.prog (b6Q bb) (n7 σ [.gs 0 data.length,.int .i64 a,.int .i64 b,.fn (w6 bb) [.ptr 1 0 0] []]) (p5 σ 0 (a4E bb data uu hh ww)) ((T9 bb r).ren σ) (p6 σ (T8 bb uu hh ww r)):=by
 refine o_ (c4X bb) (by cases bb<;>kernel_rfl) (by cases bb<;>kernel_rfl) (by cases bb<;>kernel_rfl) ⟨λ_ _=>by cases bb<;>rfl,rfl,uP,tr,tr,tr⟩ (by cases bb<;>kernel_rfl) ⟨λ_ _=>by cases bb<;>rfl,rfl,uP,tr,tr,tr⟩ (by cases bb<;>kernel_rfl) ?_;intro w0 W μ0 hμ;unfold sPI at h;exact t7 hμ [] 21 [.reg [],.reg [],.reg []]
  (P0 (q8 tr) (q2 tr) tr) (c6j bb hμ data a b uu hh ww big _ _ _ r h) uS
def a1P(bb:Bool)(r:Int×(LE bb)):LV:=.int .i64 r.1
def a1O(bb:Bool)(uu:UT)(hh ww:PT)(r:Int×(LE bb)):i9:=[(0,some (m6 bb r.2)),(1,some (.var [.map 2,.map 3,.map 4])),(2,some (m7 uu [])),(3,some (b9 hh)),(4,some (b9 ww))]
def b8i(bb:Bool)(data:LE bb)(uu:UT)(hh ww:PT):List LO:=[m6 bb data,.var [.map 2,.map 3,.map 4],m7 uu [],b9 hh,b9 ww]
abbrev a75(bb:Bool)(a:Int)(uu:UT)(hh ww:PT)(i j:Int)(l:LE bb)(r:Int×(LE bb)):Prop:=p3 w0 W μ0 (Z1 bb) 5 5 (a1P bb r) (a1O bb uu hh ww r) (z6 (o9 (Z1 bb)) 0) ((.gs 0 l.length)::(.int .i64 a):: .any:: .any::(.fn (w6 bb) [.ptr 1 0 0] [])::n_ 6 ((.int .i64 i)::(.int .i64 j)::n_ 77 [])) [some (m6 bb l),some (.var [.map 2,.map 3,.map 4]),some (m7 uu []),some (b9 hh),some (b9 ww)]
abbrev b8f(bb:Bool)(a:Int)(uu:UT)(hh ww:PT)(j:Int)(l:LE bb)(i2:Int)(r:Int×(LE bb)):Prop:=p3 w0 W μ0 (Z1 bb) 5 5 (a1P bb r) (a1O bb uu hh ww r) (z6 (o9 (Z1 bb)) 1) ((.gs 0 l.length)::(.int .i64 a):: .any:: .any::(.fn (w6 bb) [.ptr 1 0 0] [])::n_ 6 ((.int .i64 i2)::(.int .i64 j)::n_ 77 [])) [some (m6 bb l),some (.var [.map 2,.map 3,.map 4]),some (m7 uu []),some (b9 hh),some (b9 ww)]
abbrev b8g(bb:Bool)(a:Int)(uu:UT)(hh ww:PT)(l:LE bb)(i2 j2:Int)(r:Int×(LE bb)):Prop:=p3 w0 W μ0 (Z1 bb) 5 5 (a1P bb r) (a1O bb uu hh ww r) (z6 (o9 (Z1 bb)) 2) ((.gs 0 l.length)::(.int .i64 a):: .any:: .any::(.fn (w6 bb) [.ptr 1 0 0] [])::n_ 6 ((.int .i64 i2)::(.int .i64 j2)::n_ 77 [])) [some (m6 bb l),some (.var [.map 2,.map 3,.map 4]),some (m7 uu []),some (b9 hh),some (b9 ww)]
theorem c59(bb:Bool){w0 W μ0}(hμ:p4 μ0 5)(data:LE bb)(a b pivot:Int)(uu:UT)(hh ww:PT)(i2 j2:Int)(y6:LE bb)(k0:Int->Int->(LE bb)->Option (Int×(LE bb)))(hk0:∀(i j:Int) (l:LE bb) (r:Int×(LE bb)),k0 i j l=some r->a75 w0 W μ0 bb a uu hh ww i j l r)(r:Int×(LE bb))(h:b3M bb data a b pivot uu hh ww i2 j2 y6 k0=some r):p3 w0 W μ0 (Z1 bb) 5 5 (a1P bb r) (a1O bb uu hh ww r) (z7 (o9 (Z1 bb)) 9) ((.gs 0 y6.length)::(.int .i64 a):: .any:: .any::(.fn (w6 bb) [.ptr 1 0 0] [])::n_ 6 ((.int .i64 i2)::(.int .i64 j2)::n_ 77 [])) [some (m6 bb y6),some (.var [.map 2,.map 3,.map 4]),some (m7 uu []),some (b9 hh),some (b9 ww)]:=by
 unfold b3M at h;exact t7 hμ [] 14 [.reg [],.reg []]
  (X1 (q2 tr)) (hk0 _ _ _ r h) uS
theorem c57(bb:Bool){w0 W μ0}(hμ:p4 μ0 5)(data:LE bb)(a b pivot:Int)(uu:UT)(hh ww:PT)(l:LE bb)(i2 j2:Int)(k2:Int->Option (Int×(LE bb)))(hk2:∀(j2:Int) (r:Int×(LE bb)),k2 j2=some r->b8g w0 W μ0 bb a uu hh ww l i2 j2 r)(r:Int×(LE bb))(h:b0i bb data a b pivot uu hh ww l i2 j2 k2=some r):p3 w0 W μ0 (Z1 bb) 5 5 (a1P bb r) (a1O bb uu hh ww r) (z7 (o9 (Z1 bb)) 6) ((.gs 0 l.length)::(.int .i64 a):: .any:: .any::(.fn (w6 bb) [.ptr 1 0 0] [])::n_ 6 ((.int .i64 i2)::(.int .i64 j2)::n_ 77 [])) [some (m6 bb l),some (.var [.map 2,.map 3,.map 4]),some (m7 uu []),some (b9 hh),some (b9 ww)]:=by
 unfold b0i at h;exact t7 hμ [] 12 [.reg []]
  (I3 tr) (hk2 _ r h) uS
theorem c58(bb:Bool){w0 W μ0}(hμ:p4 μ0 5)(data:LE bb)(a b pivot:Int)(uu:UT)(hh ww:PT)(l:LE bb)(i2 j2:Int)(k0:Int->Int->(LE bb)->Option (Int×(LE bb)))(hk0:∀(i j:Int) (l:LE bb) (r:Int×(LE bb)),k0 i j l=some r->a75 w0 W μ0 bb a uu hh ww i j l r)(r:Int×(LE bb))(h:a78 bb data a b pivot uu hh ww l i2 j2 k0=some r):p3 w0 W μ0 (Z1 bb) 5 5 (a1P bb r) (a1O bb uu hh ww r) (z7 (o9 (Z1 bb)) 7) ((.gs 0 l.length)::(.int .i64 a):: .any:: .any::(.fn (w6 bb) [.ptr 1 0 0] [])::n_ 6 ((.int .i64 i2)::(.int .i64 j2)::n_ 77 [])) [some (m6 bb l),some (.var [.map 2,.map 3,.map 4]),some (m7 uu []),some (b9 hh),some (b9 ww)]:=by
 unfold a78 at h;rcases i5 h with⟨C1,h⟩|⟨C1,h⟩
 ·obtain rfl:=i7 h
  exact I9 [] 16 [.reg [(2,hT)],.reg []]
   (F8 (b5 (f_ C1 tr)) (b5 tr))
 ·obtain⟨G2,h⟩:=j6 h
  obtain⟨G3,h⟩:=j6 h;obtain⟨G4,h⟩:=j6 h;obtain⟨y5,E6,h⟩:=d6 h;exact t7 hμ [] 23 [.reg [(2,hF)],.reg [(13,{os:=[(0,m6 bb ((l.set i2.toNat (l.getD j2.toNat default))))]}),(15,{os:=[(0,m6 bb y5)]})],.reg [],.reg [],.wk [(0,.gs 0 y5.length)] []]
   (J4 (f_ C1 tr) (l9 (o8 (z_ bb) G2 tr (b5 (o8 (z_ bb) G3 tr (a_ (a_ (a_ (e_ (z_ bb)) G3) tr) (a_ (a_ (a_ (e_ (z_ bb)) (a_ (m8 (z_ bb)) (D1 G3))) (a_ (D5 (o5 bb) default (z_ bb) l i2.toNat (l.getD j2.toNat default) (D1 G3) (B2 (b6 (o5 bb) default l i2.toNat) 0 ((o5 bb) (l.getD j2.toNat default))) (by cases bb<;>kernel_rfl)) tr)) (a_ (a_ (a_ (e_ (z_ bb)) G2) tr) (a_ (a_ (a_ (e_ (z_ bb)) (a_ (m8 (z_ bb)) G4)) (a_ (LO.Sub.trans (D5 (o5 bb) default (z_ bb) (l.set i2.toNat (l.getD j2.toNat default)) j2.toNat (l.getD i2.toNat default) G4 (B2 (b6 (o5 bb) default (l.set i2.toNat (l.getD j2.toNat default)) j2.toNat) 0 ((o5 bb) (l.getD i2.toNat default))) (by cases bb<;>kernel_rfl)) (M0 bb E6)) tr)) tr)))))))) (q2 tr) (a_ (q2 tr) (K3 (A5 0 (show l.length=y5.length from by simp[<-i7 E6]))))) (hk0 _ _ _ r h) uS
theorem b8h(bb:Bool){w0 W μ0}(hμ:p4 μ0 5)(data:LE bb)(a b pivot:Int)(uu:UT)(hh ww:PT)(l:LE bb)(i2:Int)(k0:Int->Int->(LE bb)->Option (Int×(LE bb)))(hk0:∀(i j:Int) (l:LE bb) (r:Int×(LE bb)),k0 i j l=some r->a75 w0 W μ0 bb a uu hh ww i j l r):∀(fuel:Nat) (j2:Int) (r:Int×(LE bb)),a0w bb data a b pivot uu hh ww l i2 k0 fuel j2=some r->b8g w0 W μ0 bb a uu hh ww l i2 j2 r:=by
 intro fuel
 induction fuel with
 |zero=>intro j2 r h;rw[a0w] at h;cases h
 |succ fuel ih=>
  intro j2 r h;rw[a0w] at h;rcases i5 h with⟨C1,h⟩|⟨C1,h⟩
  ·obtain⟨G2,h⟩:=j6 h
   obtain⟨G3,h⟩:=j6 h;obtain⟨y5,E4,h⟩:=d6 h;rcases i5 h with⟨C6,h⟩|⟨C6,h⟩
   ·exact t7 hμ [] 17 [.go,.reg [(3,hT),(13,i6 (g9 [1,2,3,4] (H3 bb y5) (G0 bb uu hh ww) (H2 bb uu hh ww y5))),(15,hT)]]
     (I3 (f_ C1 (b4 (b5 (o8 (z_ bb) G2 tr (b5 (o8 (z_ bb) G3 tr (a_ (a_ (a_ (H4 bb uu hh ww (l.getD a.toNat default) (l.getD j2.toNat default) y5 E4 (f8 [1,2,3,4]) i1) (n4 [.map 2,.map 3,.map 4] uu hh ww)) tr) (b4 (f_ C6 tr)))))))))) (c57 bb hμ data a b pivot uu hh ww l i2 j2 (a0w bb data a b pivot uu hh ww l i2 k0 fuel) ih r h) uS
   ·exact t7 hμ [] 18 [.go,.reg [(3,hT),(13,i6 (g9 [1,2,3,4] (H3 bb y5) (G0 bb uu hh ww) (H2 bb uu hh ww y5))),(15,hF)]]
     (I3 (f_ C1 (b4 (b5 (o8 (z_ bb) G2 tr (b5 (o8 (z_ bb) G3 tr (a_ (a_ (a_ (H4 bb uu hh ww (l.getD a.toNat default) (l.getD j2.toNat default) y5 E4 (f8 [1,2,3,4]) i1) (n4 [.map 2,.map 3,.map 4] uu hh ww)) tr) (b4 (f_ C6 tr)))))))))) (c58 bb hμ data a b pivot uu hh ww l i2 j2 k0 hk0 r h) uS
  ·rcases i5 h with⟨C2,h⟩|⟨C2,h⟩
   ·obtain rfl:=i7 h
    exact I9 [] 25 [.go,.reg [(3,hF)],.reg [(2,hT)],.reg []]
     (q3 (B6 (q2 (f_ C1 (a_ tr (u5 (B3 (b4 tr)))))) (f_ C2 tr) (b5 tr) tr))
   ·obtain⟨G3,h⟩:=j6 h
    obtain⟨G4,h⟩:=j6 h;obtain⟨G5,h⟩:=j6 h;obtain⟨y6,E7,h⟩:=d6 h;exact t7 hμ [] 27 [.go,.reg [(3,hF)],.reg [(2,hF)],.reg [(13,{os:=[(0,m6 bb ((l.set i2.toNat (l.getD j2.toNat default))))]}),(15,{os:=[(0,m6 bb y6)]})],.wk [(0,.gs 0 y6.length)] []]
     (B6 (q2 (f_ C1 (a_ tr (u5 (B3 (b4 tr)))))) (f_ C2 tr) (b5 (l9 (o8 (z_ bb) G3 tr (b5 (o8 (z_ bb) G4 tr (a_ (a_ (a_ (e_ (z_ bb)) G4) tr) (a_ (a_ (a_ (e_ (z_ bb)) (a_ (m8 (z_ bb)) (D1 G4))) (a_ (D5 (o5 bb) default (z_ bb) l i2.toNat (l.getD j2.toNat default) (D1 G4) (B2 (b6 (o5 bb) default l i2.toNat) 0 ((o5 bb) (l.getD j2.toNat default))) (by cases bb<;>kernel_rfl)) tr)) (a_ (a_ (a_ (e_ (z_ bb)) G3) tr) (a_ (a_ (a_ (e_ (z_ bb)) (a_ (m8 (z_ bb)) G5)) (a_ (LO.Sub.trans (D5 (o5 bb) default (z_ bb) (l.set i2.toNat (l.getD j2.toNat default)) j2.toNat (l.getD i2.toNat default) G5 (B2 (b6 (o5 bb) default (l.set i2.toNat (l.getD j2.toNat default)) j2.toNat) 0 ((o5 bb) (l.getD i2.toNat default))) (by cases bb<;>kernel_rfl)) (M0 bb E7)) tr)) tr))))))))) (K3 (A5 0 (show l.length=y6.length from by simp[<-i7 E7])))) (c59 bb hμ data a b pivot uu hh ww i2 j2 y6 k0 hk0 r h) uS
theorem c56(bb:Bool){w0 W μ0}(hμ:p4 μ0 5)(data:LE bb)(a b pivot:Int)(uu:UT)(hh ww:PT)(j:Int)(l:LE bb)(i2:Int)(k1:Int->Option (Int×(LE bb)))(hk1:∀(i2:Int) (r:Int×(LE bb)),k1 i2=some r->b8f w0 W μ0 bb a uu hh ww j l i2 r)(r:Int×(LE bb))(h:b0h bb data a b pivot uu hh ww j l i2 k1=some r):p3 w0 W μ0 (Z1 bb) 5 5 (a1P bb r) (a1O bb uu hh ww r) (z7 (o9 (Z1 bb)) 4) ((.gs 0 l.length)::(.int .i64 a):: .any:: .any::(.fn (w6 bb) [.ptr 1 0 0] [])::n_ 6 ((.int .i64 i2)::(.int .i64 j)::n_ 77 [])) [some (m6 bb l),some (.var [.map 2,.map 3,.map 4]),some (m7 uu []),some (b9 hh),some (b9 ww)]:=by
 unfold b0h at h;exact t7 hμ [] 12 [.reg []]
  (I3 tr) (hk1 _ r h) uS
theorem c6b(bb:Bool){w0 W μ0}(hμ:p4 μ0 5)(data:LE bb)(a b pivot:Int)(uu:UT)(hh ww:PT)(j:Int)(l:LE bb)(k0:Int->Int->(LE bb)->Option (Int×(LE bb)))(hk0:∀(i j:Int) (l:LE bb) (r:Int×(LE bb)),k0 i j l=some r->a75 w0 W μ0 bb a uu hh ww i j l r):∀(fuel:Nat) (i2:Int) (r:Int×(LE bb)),a3f bb data a b pivot uu hh ww j l k0 fuel i2=some r->b8f w0 W μ0 bb a uu hh ww j l i2 r:=by
 intro fuel
 induction fuel with
 |zero=>intro i2 r h;rw[a3f] at h;cases h
 |succ fuel ih=>
  intro i2 r h;rw[a3f] at h;rcases i5 h with⟨C1,h⟩|⟨C1,h⟩
  ·obtain⟨G2,h⟩:=j6 h
   obtain⟨G3,h⟩:=j6 h;obtain⟨y5,E4,h⟩:=d6 h;rcases i5 h with⟨C6,h⟩|⟨C6,h⟩
   ·exact t7 hμ [] 17 [.go,.reg [(3,hT),(13,i6 (g9 [1,2,3,4] (H3 bb y5) (G0 bb uu hh ww) (H2 bb uu hh ww y5))),(16,hT)]]
     (I3 (f_ C1 (b4 (b5 (o8 (z_ bb) G2 tr (b5 (o8 (z_ bb) G3 tr (a_ (a_ (a_ (H4 bb uu hh ww (l.getD a.toNat default) (l.getD i2.toNat default) y5 E4 (f8 [1,2,3,4]) i1) (n4 [.map 2,.map 3,.map 4] uu hh ww)) tr) (b5 (f_ C6 tr)))))))))) (c56 bb hμ data a b pivot uu hh ww j l i2 (a3f bb data a b pivot uu hh ww j l k0 fuel) ih r h) uS
   ·exact t7 hμ [] 19 [.go,.reg [(3,hT),(13,i6 (g9 [1,2,3,4] (H3 bb y5) (G0 bb uu hh ww) (H2 bb uu hh ww y5))),(16,hF)]]
     (I3 (f_ C1 (b4 (b5 (o8 (z_ bb) G2 tr (b5 (o8 (z_ bb) G3 tr (a_ (a_ (a_ (H4 bb uu hh ww (l.getD a.toNat default) (l.getD i2.toNat default) y5 E4 (f8 [1,2,3,4]) i1) (n4 [.map 2,.map 3,.map 4] uu hh ww)) tr) (b5 (f_ C6 tr)))))))))) (b8h bb hμ data a b pivot uu hh ww l i2 k0 hk0 big _ r h) uS
  ·exact t7 hμ [] 19 [.go,.reg [(3,hF)]]
    (I3 (f_ C1 (z8 (B3 (b4 tr))))) (b8h bb hμ data a b pivot uu hh ww l i2 k0 hk0 big _ r h) uS
theorem c6a(bb:Bool){w0 W μ0}(hμ:p4 μ0 5)(data:LE bb)(a b pivot:Int)(uu:UT)(hh ww:PT):∀(fuel:Nat) (i j:Int) (l:LE bb) (r:Int×(LE bb)),a3e bb data a b pivot uu hh ww fuel i j l=some r->a75 w0 W μ0 bb a uu hh ww i j l r:=by
 intro fuel
 induction fuel with
 |zero=>intro i j l r h;rw[a3e] at h;cases h
 |succ fuel ih=>
  intro i j l r h;rw[a3e] at h;exact t7 hμ [] 14 [.go]
   tr (c6b bb hμ data a b pivot uu hh ww j l (a3e bb data a b pivot uu hh ww fuel) ih big _ r h) uS
theorem c6c(bb:Bool)(data:LE bb)(a b pivot:Int)(uu:UT)(hh ww:PT)(r:Int×(LE bb))(h:sPE bb data a b pivot uu hh ww=some r):∀σ,p8 5 σ->j9 Tryz.prog (b6R bb) (n7 σ [.gs 0 data.length,.int .i64 a,.int .i64 b,.int .i64 pivot,.fn (w6 bb) [.ptr 1 0 0] []]) (p5 σ 0 (b8i bb data uu hh ww)) ((a1P bb r).ren σ) (p6 σ (a1O bb uu hh ww r)):=by
 refine o_ (c4Y bb) (by cases bb<;>kernel_rfl) (by cases bb<;>kernel_rfl) (by cases bb<;>kernel_rfl) ⟨λ_ _=>by cases bb<;>rfl,rfl,uP,tr,tr,tr⟩ (by cases bb<;>kernel_rfl) ⟨λ_ _=>by cases bb<;>rfl,rfl,uP,tr,tr,tr⟩ (by cases bb<;>kernel_rfl) ?_;intro w0 W μ0 hμ;unfold sPE at h;obtain⟨g1,h⟩:=j6 h;obtain⟨g2,h⟩:=j6 h;obtain⟨y3,e4,h⟩:=d6 h;obtain⟨g5,h⟩:=j6 h;exact t7 hμ [] 22 [.reg [],.reg [(13,{os:=[(0,m6 bb y3)]}),(15,{os:=[(0,m6 bb ((y3.set pivot.toNat (data.getD a.toNat default))))]})],.reg [],.wk [(0,.gs 0 ((y3.set pivot.toNat (data.getD a.toNat default))).length)] []]
  (B6 (q8 tr) (l9 (o8 (z_ bb) g1 tr (b5 (o8 (z_ bb) g2 tr (a_ (a_ (a_ (e_ (z_ bb)) g2) tr) (a_ (a_ (a_ (e_ (z_ bb)) (a_ (m8 (z_ bb)) (D1 g2))) (a_ (LO.Sub.trans (D5 (o5 bb) default (z_ bb) data a.toNat (data.getD pivot.toNat default) (D1 g2) (B2 (b6 (o5 bb) default data a.toNat) 0 ((o5 bb) (data.getD pivot.toNat default))) (by cases bb<;>kernel_rfl)) (M0 bb e4)) tr)) (a_ (a_ (a_ (e_ (z_ bb)) g1) tr) (a_ (a_ (a_ (e_ (z_ bb)) (a_ (m8 (z_ bb)) g5)) (a_ (D5 (o5 bb) default (z_ bb) y3 pivot.toNat (data.getD a.toNat default) g5 (B2 (b6 (o5 bb) default y3 pivot.toNat) 0 ((o5 bb) (data.getD a.toNat default))) (by cases bb<;>kernel_rfl)) tr)) tr)))))))) (b5 (l9 tr)) (K3 (A5 0 (show data.length=((y3.set pivot.toNat (data.getD a.toNat default))).length from by simp[<-i7 e4])))) (c6a bb hμ data a b pivot uu hh ww big _ _ _ r h) uS
theorem a73(bb:Bool){w0 W μ0}(hμ:p4 μ0 5)(data:LE bb)(a b limit:Int)(uu:UT)(hh ww:PT)(self_:(LE bb)->Int->Int->Int->UT->PT->PT->Option ((LE bb)))(a2 b2:Int)(wasBalanced wasPartitioned:Bool)(hself:∀(data:LE bb) (a b limit:Int) (uu:UT) (hh ww:PT) (r:(LE bb)),self_ data a b limit uu hh ww=some r->∀σ,p8 5 σ->j9 Tryz.prog (Y2 bb) (n7 σ [.gs 0 data.length,.int .i64 a,.int .i64 b,.int .i64 limit,.fn (w6 bb) [.ptr 1 0 0] []]) (p5 σ 0 (Q3 bb data uu hh ww)) ((Q5 bb r).ren σ) (p6 σ (Q4 bb uu hh ww r)))(k0:Int->Int->Int->Bool->Bool->(LE bb)->Option ((LE bb)))(hk0:∀(a2 b2 limit2:Int) (wasBalanced wasPartitioned:Bool) (l:LE bb) (r:(LE bb)),k0 a2 b2 limit2 wasBalanced wasPartitioned l=some r->a00 w0 W μ0 bb uu hh ww a2 b2 limit2 wasBalanced wasPartitioned l r)(limit5 pivot3:Int)(l4:LE bb)(r:(LE bb))(h:a0s bb data a b limit uu hh ww self_ a2 b2 wasBalanced wasPartitioned k0 limit5 pivot3 l4=some r):p3 w0 W μ0 (Q2 bb) 5 5 (a0v bb r) (a0u bb uu hh ww r) (z7 (o9 (Q2 bb)) 18) ((.gs 0 l4.length)::(.int .i64 a2)::(.int .i64 b2)::(.int .i64 limit5)::(.fn (w6 bb) [.ptr 1 0 0] [])::n_ 5 ((.bool wasBalanced)::(.bool wasPartitioned):: .any::(.int .i64 pivot3)::n_ 134 [])) [some (m6 bb l4),some (.var [.map 2,.map 3,.map 4]),some (m7 uu []),some (b9 hh),some (b9 ww)]:=by
 unfold a0s at h;obtain⟨y2,E1,h⟩:=d6 h;obtain⟨G3,h⟩:=j6 h;exact t7 hμ [] 16 [.reg [(5,i6 (g9 [0,1,2,3,4] (a1P bb y2) (b8i bb l4 uu hh ww) (a1O bb uu hh ww y2)))],.reg [],.wk [(0,.gs 0 y2.2.length)] []]
  (B6 (q8 (J1 (c6c bb l4 a2 b2 pivot3 uu hh ww y2 E1 (f8 [0,1,2,3,4]) i1) (a_ (l0 (m6 bb l4)) (n4 [.map 2,.map 3,.map 4] uu hh ww)) tr)) tr (q9 (A5 0 G3) tr) tr) (hk0 _ _ _ _ _ _ r h) uS
def O0(bb:Bool)(r:Int×Bool×(LE bb)):LV:=.tup [.int .i64 r.1,.bool r.2.1]
def N9(bb:Bool)(uu:UT)(hh ww:PT)(r:Int×Bool×(LE bb)):i9:=[(0,some (m6 bb r.2.2)),(1,some (.var [.map 2,.map 3,.map 4])),(2,some (m7 uu [])),(3,some (b9 hh)),(4,some (b9 ww))]
def a3a(bb:Bool)(data:LE bb)(uu:UT)(hh ww:PT):List LO:=[m6 bb data,.var [.map 2,.map 3,.map 4],m7 uu [],b9 hh,b9 ww]
abbrev b77(bb:Bool)(data:LE bb)(a b pivot:Int)(uu:UT)(hh ww:PT)(y3:LE bb)(i:Int)(r:Int×Bool×(LE bb)):Prop:=p3 w0 W μ0 (J8 bb) 5 5 (O0 bb r) (N9 bb uu hh ww r) (z6 (o9 (J8 bb)) 0) ((.gs 0 ((y3.set pivot.toNat (data.getD a.toNat default))).length)::(.int .i64 a):: .any:: .any::(.fn (w6 bb) [.ptr 1 0 0] [])::n_ 7 ((.int .i64 i)::(.int .i64 (IntKind.wrap .i64 (b - 1)))::n_ 164 [])) [some (m6 bb ((y3.set pivot.toNat (data.getD a.toNat default)))),some (.var [.map 2,.map 3,.map 4]),some (m7 uu []),some (b9 hh),some (b9 ww)]
abbrev b78(bb:Bool)(data:LE bb)(a pivot:Int)(uu:UT)(hh ww:PT)(i:Int)(y3:LE bb)(j:Int)(r:Int×Bool×(LE bb)):Prop:=p3 w0 W μ0 (J8 bb) 5 5 (O0 bb r) (N9 bb uu hh ww r) (z6 (o9 (J8 bb)) 1) ((.gs 0 ((y3.set pivot.toNat (data.getD a.toNat default))).length)::(.int .i64 a):: .any:: .any::(.fn (w6 bb) [.ptr 1 0 0] [])::n_ 7 ((.int .i64 i)::(.int .i64 j)::n_ 164 [])) [some (m6 bb ((y3.set pivot.toNat (data.getD a.toNat default)))),some (.var [.map 2,.map 3,.map 4]),some (m7 uu []),some (b9 hh),some (b9 ww)]
theorem c5T(bb:Bool){w0 W μ0}(hμ:p4 μ0 5)(data:LE bb)(a b pivot:Int)(uu:UT)(hh ww:PT)(j:Int)(y7:(E_ bb))(y10:LE bb)(r:Int×Bool×(LE bb))(h:b3J bb data a b pivot uu hh ww j y7 y10=some r):p3 w0 W μ0 (J8 bb) 5 5 (O0 bb r) (N9 bb uu hh ww r) (z7 (o9 (J8 bb)) 9) (n_ 13 ((.int .i64 j)::n_ 164 [])) [some (m6 bb ((y10.set a.toNat y7))),some (.var [.map 2,.map 3,.map 4]),some (m7 uu []),some (b9 hh),some (b9 ww)]:=by
 unfold b3J at h;obtain rfl:=i7 h;exact I9 [] 11 [.reg []]
  (q9 (q2 tr) tr)
abbrev a7Y(bb:Bool)(a:Int)(uu:UT)(hh ww:PT)(i2 j2:Int)(l:LE bb)(r:Int×Bool×(LE bb)):Prop:=p3 w0 W μ0 (J8 bb) 5 5 (O0 bb r) (N9 bb uu hh ww r) (z6 (o9 (J8 bb)) 2) ((.gs 0 l.length)::(.int .i64 a):: .any:: .any::(.fn (w6 bb) [.ptr 1 0 0] [])::n_ 7 ((.int .i64 i2)::(.int .i64 j2)::n_ 164 [])) [some (m6 bb l),some (.var [.map 2,.map 3,.map 4]),some (m7 uu []),some (b9 hh),some (b9 ww)]
abbrev b79(bb:Bool)(a:Int)(uu:UT)(hh ww:PT)(j2:Int)(l:LE bb)(i3:Int)(r:Int×Bool×(LE bb)):Prop:=p3 w0 W μ0 (J8 bb) 5 5 (O0 bb r) (N9 bb uu hh ww r) (z6 (o9 (J8 bb)) 3) ((.gs 0 l.length)::(.int .i64 a):: .any:: .any::(.fn (w6 bb) [.ptr 1 0 0] [])::n_ 7 ((.int .i64 i3)::(.int .i64 j2)::n_ 164 [])) [some (m6 bb l),some (.var [.map 2,.map 3,.map 4]),some (m7 uu []),some (b9 hh),some (b9 ww)]
abbrev b8a(bb:Bool)(a:Int)(uu:UT)(hh ww:PT)(l:LE bb)(i3 j3:Int)(r:Int×Bool×(LE bb)):Prop:=p3 w0 W μ0 (J8 bb) 5 5 (O0 bb r) (N9 bb uu hh ww r) (z6 (o9 (J8 bb)) 4) ((.gs 0 l.length)::(.int .i64 a):: .any:: .any::(.fn (w6 bb) [.ptr 1 0 0] [])::n_ 7 ((.int .i64 i3)::(.int .i64 j3)::n_ 164 [])) [some (m6 bb l),some (.var [.map 2,.map 3,.map 4]),some (m7 uu []),some (b9 hh),some (b9 ww)]
theorem c5M(bb:Bool){w0 W μ0}(hμ:p4 μ0 5)(data:LE bb)(a b pivot:Int)(uu:UT)(hh ww:PT)(l:LE bb)(i3 j3:Int)(k4:Int->Option (Int×Bool×(LE bb)))(hk4:∀(j3:Int) (r:Int×Bool×(LE bb)),k4 j3=some r->b8a w0 W μ0 bb a uu hh ww l i3 j3 r)(r:Int×Bool×(LE bb))(h:b0b bb data a b pivot uu hh ww l i3 j3 k4=some r):p3 w0 W μ0 (J8 bb) 5 5 (O0 bb r) (N9 bb uu hh ww r) (z7 (o9 (J8 bb)) 16) ((.gs 0 l.length)::(.int .i64 a):: .any:: .any::(.fn (w6 bb) [.ptr 1 0 0] [])::n_ 7 ((.int .i64 i3)::(.int .i64 j3)::n_ 164 [])) [some (m6 bb l),some (.var [.map 2,.map 3,.map 4]),some (m7 uu []),some (b9 hh),some (b9 ww)]:=by
 unfold b0b at h;exact t7 hμ [] 12 [.reg []]
  (I3 tr) (hk4 _ r h) uS
theorem c5N(bb:Bool){w0 W μ0}(hμ:p4 μ0 5)(data:LE bb)(a b pivot:Int)(uu:UT)(hh ww:PT)(l:LE bb)(i3 j3:Int)(k2:Int->Int->(LE bb)->Option (Int×Bool×(LE bb)))(hk2:∀(i2 j2:Int) (l:LE bb) (r:Int×Bool×(LE bb)),k2 i2 j2 l=some r->a7Y w0 W μ0 bb a uu hh ww i2 j2 l r)(r:Int×Bool×(LE bb))(h:a7Z bb data a b pivot uu hh ww l i3 j3 k2=some r):p3 w0 W μ0 (J8 bb) 5 5 (O0 bb r) (N9 bb uu hh ww r) (z7 (o9 (J8 bb)) 17) ((.gs 0 l.length)::(.int .i64 a):: .any:: .any::(.fn (w6 bb) [.ptr 1 0 0] [])::n_ 7 ((.int .i64 i3)::(.int .i64 j3)::n_ 164 [])) [some (m6 bb l),some (.var [.map 2,.map 3,.map 4]),some (m7 uu []),some (b9 hh),some (b9 ww)]:=by
 unfold a7Z at h;rcases i5 h with⟨C1,h⟩|⟨C1,h⟩
 ·obtain⟨G2,h⟩:=j6 h
  obtain⟨G3,h⟩:=j6 h;obtain⟨G4,h⟩:=j6 h;obtain⟨y5,E6,h⟩:=d6 h;obtain rfl:=i7 h;exact I9 [] 19 [.reg [(2,hT)],.reg [(13,{os:=[(0,m6 bb ((l.set j3.toNat (l.getD a.toNat default))))]}),(15,{os:=[(0,m6 bb y5)]})],.reg []]
   (q3 (J4 (f_ C1 tr) (l9 (o8 (z_ bb) G2 tr (b5 (o8 (z_ bb) G3 tr (a_ (a_ (a_ (e_ (z_ bb)) G3) tr) (a_ (a_ (a_ (e_ (z_ bb)) (a_ (m8 (z_ bb)) (D1 G3))) (a_ (D5 (o5 bb) default (z_ bb) l j3.toNat (l.getD a.toNat default) (D1 G3) (B2 (b6 (o5 bb) default l j3.toNat) 0 ((o5 bb) (l.getD a.toNat default))) (by cases bb<;>kernel_rfl)) tr)) (a_ (a_ (a_ (e_ (z_ bb)) G2) tr) (a_ (a_ (a_ (e_ (z_ bb)) (a_ (m8 (z_ bb)) G4)) (a_ (LO.Sub.trans (D5 (o5 bb) default (z_ bb) (l.set j3.toNat (l.getD a.toNat default)) a.toNat (l.getD j3.toNat default) G4 (B2 (b6 (o5 bb) default (l.set j3.toNat (l.getD a.toNat default)) a.toNat) 0 ((o5 bb) (l.getD j3.toNat default))) (by cases bb<;>kernel_rfl)) (M0 bb E6)) tr)) tr)))))))) (q2 tr) tr))
 ·obtain⟨G2,h⟩:=j6 h
  obtain⟨G3,h⟩:=j6 h;obtain⟨G4,h⟩:=j6 h;obtain⟨y5,E6,h⟩:=d6 h;exact t7 hμ [] 23 [.reg [(2,hF)],.reg [(13,{os:=[(0,m6 bb ((l.set i3.toNat (l.getD j3.toNat default))))]}),(15,{os:=[(0,m6 bb y5)]})],.reg [],.reg [],.wk [(0,.gs 0 y5.length)] []]
   (J4 (f_ C1 tr) (l9 (o8 (z_ bb) G2 tr (b5 (o8 (z_ bb) G3 tr (a_ (a_ (a_ (e_ (z_ bb)) G3) tr) (a_ (a_ (a_ (e_ (z_ bb)) (a_ (m8 (z_ bb)) (D1 G3))) (a_ (D5 (o5 bb) default (z_ bb) l i3.toNat (l.getD j3.toNat default) (D1 G3) (B2 (b6 (o5 bb) default l i3.toNat) 0 ((o5 bb) (l.getD j3.toNat default))) (by cases bb<;>kernel_rfl)) tr)) (a_ (a_ (a_ (e_ (z_ bb)) G2) tr) (a_ (a_ (a_ (e_ (z_ bb)) (a_ (m8 (z_ bb)) G4)) (a_ (LO.Sub.trans (D5 (o5 bb) default (z_ bb) (l.set i3.toNat (l.getD j3.toNat default)) j3.toNat (l.getD i3.toNat default) G4 (B2 (b6 (o5 bb) default (l.set i3.toNat (l.getD j3.toNat default)) j3.toNat) 0 ((o5 bb) (l.getD i3.toNat default))) (by cases bb<;>kernel_rfl)) (M0 bb E6)) tr)) tr)))))))) (q2 tr) (a_ (q2 tr) (K3 (A5 0 (show l.length=y5.length from by simp[<-i7 E6]))))) (hk2 _ _ _ r h) uS
theorem c5O(bb:Bool){w0 W μ0}(hμ:p4 μ0 5)(data:LE bb)(a b pivot:Int)(uu:UT)(hh ww:PT)(i3 j3:Int)(y6:LE bb)(k2:Int->Int->(LE bb)->Option (Int×Bool×(LE bb)))(hk2:∀(i2 j2:Int) (l:LE bb) (r:Int×Bool×(LE bb)),k2 i2 j2 l=some r->a7Y w0 W μ0 bb a uu hh ww i2 j2 l r)(r:Int×Bool×(LE bb))(h:b3H bb data a b pivot uu hh ww i3 j3 y6 k2=some r):p3 w0 W μ0 (J8 bb) 5 5 (O0 bb r) (N9 bb uu hh ww r) (z7 (o9 (J8 bb)) 19) ((.gs 0 y6.length)::(.int .i64 a):: .any:: .any::(.fn (w6 bb) [.ptr 1 0 0] [])::n_ 7 ((.int .i64 i3)::(.int .i64 j3)::n_ 164 [])) [some (m6 bb y6),some (.var [.map 2,.map 3,.map 4]),some (m7 uu []),some (b9 hh),some (b9 ww)]:=by
 unfold b3H at h;exact t7 hμ [] 14 [.reg [],.reg []]
  (X1 (q2 tr)) (hk2 _ _ _ r h) uS
theorem c5P(bb:Bool){w0 W μ0}(hμ:p4 μ0 5)(data:LE bb)(a b pivot:Int)(uu:UT)(hh ww:PT)(j3:Int)(y6:LE bb)(r:Int×Bool×(LE bb))(h:b3I bb data a b pivot uu hh ww j3 y6=some r):p3 w0 W μ0 (J8 bb) 5 5 (O0 bb r) (N9 bb uu hh ww r) (z7 (o9 (J8 bb)) 22) (n_ 13 ((.int .i64 j3)::n_ 164 [])) [some (m6 bb y6),some (.var [.map 2,.map 3,.map 4]),some (m7 uu []),some (b9 hh),some (b9 ww)]:=by
 unfold b3I at h;obtain rfl:=i7 h;exact I9 [] 11 [.reg []]
  (q9 (q2 tr) tr)
theorem b8d(bb:Bool){w0 W μ0}(hμ:p4 μ0 5)(data:LE bb)(a b pivot:Int)(uu:UT)(hh ww:PT)(l:LE bb)(i3:Int)(k2:Int->Int->(LE bb)->Option (Int×Bool×(LE bb)))(hk2:∀(i2 j2:Int) (l:LE bb) (r:Int×Bool×(LE bb)),k2 i2 j2 l=some r->a7Y w0 W μ0 bb a uu hh ww i2 j2 l r):∀(fuel:Nat) (j3:Int) (r:Int×Bool×(LE bb)),a0r bb data a b pivot uu hh ww l i3 k2 fuel j3=some r->b8a w0 W μ0 bb a uu hh ww l i3 j3 r:=by
 intro fuel
 induction fuel with
 |zero=>intro j3 r h;rw[a0r] at h;cases h
 |succ fuel ih=>
  intro j3 r h;rw[a0r] at h;rcases i5 h with⟨C1,h⟩|⟨C1,h⟩
  ·obtain⟨G2,h⟩:=j6 h
   obtain⟨G3,h⟩:=j6 h;obtain⟨y5,E4,h⟩:=d6 h;rcases i5 h with⟨C6,h⟩|⟨C6,h⟩
   ·exact t7 hμ [] 17 [.go,.reg [(3,hT),(13,i6 (g9 [1,2,3,4] (H3 bb y5) (G0 bb uu hh ww) (H2 bb uu hh ww y5))),(16,hT)]]
     (I3 (f_ C1 (b4 (b5 (o8 (z_ bb) G2 tr (b5 (o8 (z_ bb) G3 tr (a_ (a_ (a_ (H4 bb uu hh ww (l.getD j3.toNat default) (l.getD a.toNat default) y5 E4 (f8 [1,2,3,4]) i1) (n4 [.map 2,.map 3,.map 4] uu hh ww)) tr) (b5 (f_ C6 tr)))))))))) (c5M bb hμ data a b pivot uu hh ww l i3 j3 (a0r bb data a b pivot uu hh ww l i3 k2 fuel) ih r h) uS
   ·exact t7 hμ [] 18 [.go,.reg [(3,hT),(13,i6 (g9 [1,2,3,4] (H3 bb y5) (G0 bb uu hh ww) (H2 bb uu hh ww y5))),(16,hF)]]
     (I3 (f_ C1 (b4 (b5 (o8 (z_ bb) G2 tr (b5 (o8 (z_ bb) G3 tr (a_ (a_ (a_ (H4 bb uu hh ww (l.getD j3.toNat default) (l.getD a.toNat default) y5 E4 (f8 [1,2,3,4]) i1) (n4 [.map 2,.map 3,.map 4] uu hh ww)) tr) (b5 (f_ C6 tr)))))))))) (c5N bb hμ data a b pivot uu hh ww l i3 j3 k2 hk2 r h) uS
  ·rcases i5 h with⟨C2,h⟩|⟨C2,h⟩
   ·obtain⟨G3,h⟩:=j6 h
    obtain⟨G4,h⟩:=j6 h;obtain⟨G5,h⟩:=j6 h;obtain⟨y6,E7,h⟩:=d6 h;exact t7 hμ [] 26 [.go,.reg [(3,hF)],.reg [(2,hT)],.reg [(13,{os:=[(0,m6 bb ((l.set j3.toNat (l.getD a.toNat default))))]}),(15,{os:=[(0,m6 bb y6)]})]]
     (B6 (q2 (f_ C1 (z8 (B3 (b4 tr))))) (f_ C2 tr) (b5 (l9 (o8 (z_ bb) G3 tr (b5 (o8 (z_ bb) G4 tr (a_ (a_ (a_ (e_ (z_ bb)) G4) tr) (a_ (a_ (a_ (e_ (z_ bb)) (a_ (m8 (z_ bb)) (D1 G4))) (a_ (D5 (o5 bb) default (z_ bb) l j3.toNat (l.getD a.toNat default) (D1 G4) (B2 (b6 (o5 bb) default l j3.toNat) 0 ((o5 bb) (l.getD a.toNat default))) (by cases bb<;>kernel_rfl)) tr)) (a_ (a_ (a_ (e_ (z_ bb)) G3) tr) (a_ (a_ (a_ (e_ (z_ bb)) (a_ (m8 (z_ bb)) G5)) (a_ (LO.Sub.trans (D5 (o5 bb) default (z_ bb) (l.set j3.toNat (l.getD a.toNat default)) a.toNat (l.getD j3.toNat default) G5 (B2 (b6 (o5 bb) default (l.set j3.toNat (l.getD a.toNat default)) a.toNat) 0 ((o5 bb) (l.getD j3.toNat default))) (by cases bb<;>kernel_rfl)) (M0 bb E7)) tr)) tr))))))))) tr) (c5P bb hμ data a b pivot uu hh ww j3 y6 r h) uS
   ·obtain⟨G3,h⟩:=j6 h
    obtain⟨G4,h⟩:=j6 h;obtain⟨G5,h⟩:=j6 h;obtain⟨y6,E7,h⟩:=d6 h;exact t7 hμ [] 27 [.go,.reg [(3,hF)],.reg [(2,hF)],.reg [(13,{os:=[(0,m6 bb ((l.set i3.toNat (l.getD j3.toNat default))))]}),(15,{os:=[(0,m6 bb y6)]})],.wk [(0,.gs 0 y6.length)] []]
     (B6 (q2 (f_ C1 (z8 (B3 (b4 tr))))) (f_ C2 tr) (b5 (l9 (o8 (z_ bb) G3 tr (b5 (o8 (z_ bb) G4 tr (a_ (a_ (a_ (e_ (z_ bb)) G4) tr) (a_ (a_ (a_ (e_ (z_ bb)) (a_ (m8 (z_ bb)) (D1 G4))) (a_ (D5 (o5 bb) default (z_ bb) l i3.toNat (l.getD j3.toNat default) (D1 G4) (B2 (b6 (o5 bb) default l i3.toNat) 0 ((o5 bb) (l.getD j3.toNat default))) (by cases bb<;>kernel_rfl)) tr)) (a_ (a_ (a_ (e_ (z_ bb)) G3) tr) (a_ (a_ (a_ (e_ (z_ bb)) (a_ (m8 (z_ bb)) G5)) (a_ (LO.Sub.trans (D5 (o5 bb) default (z_ bb) (l.set i3.toNat (l.getD j3.toNat default)) j3.toNat (l.getD i3.toNat default) G5 (B2 (b6 (o5 bb) default (l.set i3.toNat (l.getD j3.toNat default)) j3.toNat) 0 ((o5 bb) (l.getD i3.toNat default))) (by cases bb<;>kernel_rfl)) (M0 bb E7)) tr)) tr))))))))) (K3 (A5 0 (show l.length=y6.length from by simp[<-i7 E7])))) (c5O bb hμ data a b pivot uu hh ww i3 j3 y6 k2 hk2 r h) uS
theorem c5L(bb:Bool){w0 W μ0}(hμ:p4 μ0 5)(data:LE bb)(a b pivot:Int)(uu:UT)(hh ww:PT)(j2:Int)(l:LE bb)(i3:Int)(k3:Int->Option (Int×Bool×(LE bb)))(hk3:∀(i3:Int) (r:Int×Bool×(LE bb)),k3 i3=some r->b79 w0 W μ0 bb a uu hh ww j2 l i3 r)(r:Int×Bool×(LE bb))(h:b0a bb data a b pivot uu hh ww j2 l i3 k3=some r):p3 w0 W μ0 (J8 bb) 5 5 (O0 bb r) (N9 bb uu hh ww r) (z7 (o9 (J8 bb)) 14) ((.gs 0 l.length)::(.int .i64 a):: .any:: .any::(.fn (w6 bb) [.ptr 1 0 0] [])::n_ 7 ((.int .i64 i3)::(.int .i64 j2)::n_ 164 [])) [some (m6 bb l),some (.var [.map 2,.map 3,.map 4]),some (m7 uu []),some (b9 hh),some (b9 ww)]:=by
 unfold b0a at h;exact t7 hμ [] 12 [.reg []]
  (I3 tr) (hk3 _ r h) uS
theorem c5V(bb:Bool){w0 W μ0}(hμ:p4 μ0 5)(data:LE bb)(a b pivot:Int)(uu:UT)(hh ww:PT)(j2:Int)(l:LE bb)(k2:Int->Int->(LE bb)->Option (Int×Bool×(LE bb)))(hk2:∀(i2 j2:Int) (l:LE bb) (r:Int×Bool×(LE bb)),k2 i2 j2 l=some r->a7Y w0 W μ0 bb a uu hh ww i2 j2 l r):∀(fuel:Nat) (i3:Int) (r:Int×Bool×(LE bb)),a29 bb data a b pivot uu hh ww j2 l k2 fuel i3=some r->b79 w0 W μ0 bb a uu hh ww j2 l i3 r:=by
 intro fuel
 induction fuel with
 |zero=>intro i3 r h;rw[a29] at h;cases h
 |succ fuel ih=>
  intro i3 r h;rw[a29] at h;rcases i5 h with⟨C1,h⟩|⟨C1,h⟩
  ·obtain⟨G2,h⟩:=j6 h
   obtain⟨G3,h⟩:=j6 h;obtain⟨y5,E4,h⟩:=d6 h;rcases i5 h with⟨C6,h⟩|⟨C6,h⟩
   ·exact t7 hμ [] 17 [.go,.reg [(3,hT),(13,i6 (g9 [1,2,3,4] (H3 bb y5) (G0 bb uu hh ww) (H2 bb uu hh ww y5))),(15,hT)]]
     (I3 (f_ C1 (b4 (b5 (o8 (z_ bb) G2 tr (b5 (o8 (z_ bb) G3 tr (a_ (a_ (a_ (H4 bb uu hh ww (l.getD i3.toNat default) (l.getD a.toNat default) y5 E4 (f8 [1,2,3,4]) i1) (n4 [.map 2,.map 3,.map 4] uu hh ww)) tr) (b4 (f_ C6 tr)))))))))) (c5L bb hμ data a b pivot uu hh ww j2 l i3 (a29 bb data a b pivot uu hh ww j2 l k2 fuel) ih r h) uS
   ·exact t7 hμ [] 19 [.go,.reg [(3,hT),(13,i6 (g9 [1,2,3,4] (H3 bb y5) (G0 bb uu hh ww) (H2 bb uu hh ww y5))),(15,hF)]]
     (I3 (f_ C1 (b4 (b5 (o8 (z_ bb) G2 tr (b5 (o8 (z_ bb) G3 tr (a_ (a_ (a_ (H4 bb uu hh ww (l.getD i3.toNat default) (l.getD a.toNat default) y5 E4 (f8 [1,2,3,4]) i1) (n4 [.map 2,.map 3,.map 4] uu hh ww)) tr) (b4 (f_ C6 tr)))))))))) (b8d bb hμ data a b pivot uu hh ww l i3 k2 hk2 big _ r h) uS
  ·exact t7 hμ [] 19 [.go,.reg [(3,hF)]]
    (I3 (f_ C1 (a_ tr (u5 (B3 (b4 tr)))))) (b8d bb hμ data a b pivot uu hh ww l i3 k2 hk2 big _ r h) uS
theorem b8c(bb:Bool){w0 W μ0}(hμ:p4 μ0 5)(data:LE bb)(a b pivot:Int)(uu:UT)(hh ww:PT):∀(fuel:Nat) (i2 j2:Int) (l:LE bb) (r:Int×Bool×(LE bb)),a1N bb data a b pivot uu hh ww fuel i2 j2 l=some r->a7Y w0 W μ0 bb a uu hh ww i2 j2 l r:=by
 intro fuel
 induction fuel with
 |zero=>intro i2 j2 l r h;rw[a1N] at h;cases h
 |succ fuel ih=>
  intro i2 j2 l r h;rw[a1N] at h;exact t7 hμ [] 14 [.go]
   tr (c5V bb hμ data a b pivot uu hh ww j2 l (a1N bb data a b pivot uu hh ww fuel) ih big _ r h) uS
theorem c5K(bb:Bool){w0 W μ0}(hμ:p4 μ0 5)(data:LE bb)(a b pivot:Int)(uu:UT)(hh ww:PT)(i j:Int)(y7:(E_ bb))(y10:LE bb)(r:Int×Bool×(LE bb))(h:b3G bb data a b pivot uu hh ww i j y7 y10=some r):p3 w0 W μ0 (J8 bb) 5 5 (O0 bb r) (N9 bb uu hh ww r) (z7 (o9 (J8 bb)) 11) ((.gs 0 ((y10.set j.toNat y7)).length)::(.int .i64 a):: .any:: .any::(.fn (w6 bb) [.ptr 1 0 0] [])::n_ 7 ((.int .i64 i)::(.int .i64 j)::n_ 164 [])) [some (m6 bb ((y10.set j.toNat y7))),some (.var [.map 2,.map 3,.map 4]),some (m7 uu []),some (b9 hh),some (b9 ww)]:=by
 unfold b3G at h;exact t7 hμ [] 17 [.reg [],.reg []]
  (X1 (q2 tr)) (b8c bb hμ data a b pivot uu hh ww big _ _ _ r h) uS
theorem c5R(bb:Bool){w0 W μ0}(hμ:p4 μ0 5)(data:LE bb)(a b pivot:Int)(uu:UT)(hh ww:PT)(i j:Int)(y3:LE bb)(k1:Int->Option (Int×Bool×(LE bb)))(hk1:∀(j:Int) (r:Int×Bool×(LE bb)),k1 j=some r->b78 w0 W μ0 bb data a pivot uu hh ww i y3 j r)(r:Int×Bool×(LE bb))(h:b0d bb data a b pivot uu hh ww i j y3 k1=some r):p3 w0 W μ0 (J8 bb) 5 5 (O0 bb r) (N9 bb uu hh ww r) (z7 (o9 (J8 bb)) 6) ((.gs 0 ((y3.set pivot.toNat (data.getD a.toNat default))).length)::(.int .i64 a):: .any:: .any::(.fn (w6 bb) [.ptr 1 0 0] [])::n_ 7 ((.int .i64 i)::(.int .i64 j)::n_ 164 [])) [some (m6 bb ((y3.set pivot.toNat (data.getD a.toNat default)))),some (.var [.map 2,.map 3,.map 4]),some (m7 uu []),some (b9 hh),some (b9 ww)]:=by
 unfold b0d at h;exact t7 hμ [] 12 [.reg []]
  (I3 tr) (hk1 _ r h) uS
theorem c5S(bb:Bool){w0 W μ0}(hμ:p4 μ0 5)(data:LE bb)(a b pivot:Int)(uu:UT)(hh ww:PT)(i j:Int)(y3:LE bb)(r:Int×Bool×(LE bb))(h:a71 bb data a b pivot uu hh ww i j y3=some r):p3 w0 W μ0 (J8 bb) 5 5 (O0 bb r) (N9 bb uu hh ww r) (z7 (o9 (J8 bb)) 7) ((.gs 0 ((y3.set pivot.toNat (data.getD a.toNat default))).length)::(.int .i64 a):: .any:: .any::(.fn (w6 bb) [.ptr 1 0 0] [])::n_ 7 ((.int .i64 i)::(.int .i64 j)::n_ 164 [])) [some (m6 bb ((y3.set pivot.toNat (data.getD a.toNat default)))),some (.var [.map 2,.map 3,.map 4]),some (m7 uu []),some (b9 hh),some (b9 ww)]:=by
 unfold a71 at h;rcases i5 h with⟨C1,h⟩|⟨C1,h⟩
 ·obtain⟨G2,h⟩:=j6 h
  obtain⟨yC7_3,E4,h⟩:=d6 h;obtain⟨G5,h⟩:=j6 h;obtain⟨y6,E7,h⟩:=d6 h;obtain⟨y8,E9,h⟩:=d6 h;obtain⟨G10,h⟩:=j6 h;obtain rfl:=i7 h;exact I9 [] 18 [.reg [(2,hT)],.reg [(7,j5 ((u4 bb) yC7_3)),(11,j5 ((u4 bb) y6)),(13,{os:=[(0,m6 bb y8)]}),(15,{os:=[(0,m6 bb ((y8.set a.toNat y6)))]})],.reg []]
   (q3 (J4 (f_ C1 tr) (l9 (o8 (z_ bb) G2 (a_ (n0 (u4 bb) E4) tr) (b5 (o8 (z_ bb) G5 (a_ (n0 (u4 bb) E7) tr) (a_ (a_ (a_ (e_ (z_ bb)) G5) tr) (a_ (a_ (a_ (e_ (z_ bb)) (a_ (m8 (z_ bb)) (D1 G5))) (a_ (LO.Sub.trans (D5 (o5 bb) default (z_ bb) (y3.set pivot.toNat (data.getD a.toNat default)) j.toNat yC7_3 (D1 G5) (B2 (b6 (o5 bb) default (y3.set pivot.toNat (data.getD a.toNat default)) j.toNat) 0 ((o5 bb) yC7_3)) (by cases bb<;>kernel_rfl)) (M0 bb E9)) tr)) (a_ (a_ (a_ (e_ (z_ bb)) G2) tr) (a_ (a_ (a_ (e_ (z_ bb)) (a_ (m8 (z_ bb)) G10)) (a_ (D5 (o5 bb) default (z_ bb) y8 a.toNat y6 G10 (B2 (b6 (o5 bb) default y8 a.toNat) 0 ((o5 bb) y6)) (by cases bb<;>kernel_rfl)) tr)) tr)))))))) (q2 tr) tr))
 ·obtain⟨G2,h⟩:=j6 h
  obtain⟨yC7_3,E4,h⟩:=d6 h;obtain⟨G5,h⟩:=j6 h;obtain⟨y6,E7,h⟩:=d6 h;obtain⟨y8,E9,h⟩:=d6 h;obtain⟨G10,h⟩:=j6 h;exact t7 hμ [] 26 [.reg [(2,hF)],.reg [(7,j5 ((u4 bb) yC7_3)),(11,j5 ((u4 bb) y6)),(13,{os:=[(0,m6 bb y8)]}),(15,{os:=[(0,m6 bb ((y8.set j.toNat y6)))]})],.reg [],.reg [],.wk [(0,.gs 0 ((y8.set j.toNat y6)).length)] []]
   (J4 (f_ C1 tr) (l9 (o8 (z_ bb) G2 (a_ (n0 (u4 bb) E4) tr) (b5 (o8 (z_ bb) G5 (a_ (n0 (u4 bb) E7) tr) (a_ (a_ (a_ (e_ (z_ bb)) G5) tr) (a_ (a_ (a_ (e_ (z_ bb)) (a_ (m8 (z_ bb)) (D1 G5))) (a_ (LO.Sub.trans (D5 (o5 bb) default (z_ bb) (y3.set pivot.toNat (data.getD a.toNat default)) i.toNat yC7_3 (D1 G5) (B2 (b6 (o5 bb) default (y3.set pivot.toNat (data.getD a.toNat default)) i.toNat) 0 ((o5 bb) yC7_3)) (by cases bb<;>kernel_rfl)) (M0 bb E9)) tr)) (a_ (a_ (a_ (e_ (z_ bb)) G2) tr) (a_ (a_ (a_ (e_ (z_ bb)) (a_ (m8 (z_ bb)) G10)) (a_ (D5 (o5 bb) default (z_ bb) y8 j.toNat y6 G10 (B2 (b6 (o5 bb) default y8 j.toNat) 0 ((o5 bb) y6)) (by cases bb<;>kernel_rfl)) tr)) tr)))))))) (q2 tr) (a_ (q2 tr) (K3 (A5 0 (show((y3.set pivot.toNat (data.getD a.toNat default))).length=((y8.set j.toNat y6)).length from by simp[<-i7 E9]))))) (b8c bb hμ data a b pivot uu hh ww big _ _ _ r h) uS
theorem b8b(bb:Bool){w0 W μ0}(hμ:p4 μ0 5)(data:LE bb)(a b pivot:Int)(uu:UT)(hh ww:PT)(i:Int)(y3:LE bb):∀(fuel:Nat) (j:Int) (r:Int×Bool×(LE bb)),a0q bb data a b pivot uu hh ww i y3 fuel j=some r->b78 w0 W μ0 bb data a pivot uu hh ww i y3 j r:=by
 intro fuel
 induction fuel with
 |zero=>intro j r h;rw[a0q] at h;cases h
 |succ fuel ih=>
  intro j r h;rw[a0q] at h;rcases i5 h with⟨C1,h⟩|⟨C1,h⟩
  ·obtain⟨G2,h⟩:=j6 h
   obtain⟨yL1_3,E4,h⟩:=d6 h;obtain⟨G5,h⟩:=j6 h;obtain⟨y6,E7,h⟩:=d6 h;obtain⟨y9,E8,h⟩:=d6 h;rcases i5 h with⟨C10,h⟩|⟨C10,h⟩
   ·exact t7 hμ [] 17 [.go,.reg [(3,hT),(8,j5 ((u4 bb) yL1_3)),(12,j5 ((u4 bb) y6)),(13,i6 (g9 [1,2,3,4] (H3 bb y9) (G0 bb uu hh ww) (H2 bb uu hh ww y9))),(16,hT)]]
     (I3 (f_ C1 (b4 (b5 (o8 (z_ bb) G2 (a_ (n0 (u4 bb) E4) tr) (b5 (o8 (z_ bb) G5 (a_ (n0 (u4 bb) E7) tr) (a_ (a_ (a_ (H4 bb uu hh ww yL1_3 y6 y9 E8 (f8 [1,2,3,4]) i1) (n4 [.map 2,.map 3,.map 4] uu hh ww)) tr) (b5 (f_ C10 tr)))))))))) (c5R bb hμ data a b pivot uu hh ww i j y3 (a0q bb data a b pivot uu hh ww i y3 fuel) ih r h) uS
   ·exact t7 hμ [] 18 [.go,.reg [(3,hT),(8,j5 ((u4 bb) yL1_3)),(12,j5 ((u4 bb) y6)),(13,i6 (g9 [1,2,3,4] (H3 bb y9) (G0 bb uu hh ww) (H2 bb uu hh ww y9))),(16,hF)]]
     (I3 (f_ C1 (b4 (b5 (o8 (z_ bb) G2 (a_ (n0 (u4 bb) E4) tr) (b5 (o8 (z_ bb) G5 (a_ (n0 (u4 bb) E7) tr) (a_ (a_ (a_ (H4 bb uu hh ww yL1_3 y6 y9 E8 (f8 [1,2,3,4]) i1) (n4 [.map 2,.map 3,.map 4] uu hh ww)) tr) (b5 (f_ C10 tr)))))))))) (c5S bb hμ data a b pivot uu hh ww i j y3 r h) uS
  ·rcases i5 h with⟨C2,h⟩|⟨C2,h⟩
   ·obtain⟨G3,h⟩:=j6 h
    obtain⟨y4,E5,h⟩:=d6 h;obtain⟨G6,h⟩:=j6 h;obtain⟨y7,E8,h⟩:=d6 h;obtain⟨y10,E11,h⟩:=d6 h;obtain⟨G12,h⟩:=j6 h;exact t7 hμ [] 25 [.go,.reg [(3,hF)],.reg [(2,hT)],.reg [(7,j5 ((u4 bb) y4)),(11,j5 ((u4 bb) y7)),(13,{os:=[(0,m6 bb y10)]}),(15,{os:=[(0,m6 bb ((y10.set a.toNat y7)))]})]]
     (B6 (q2 (f_ C1 (z8 (B3 (b4 tr))))) (f_ C2 tr) (b5 (l9 (o8 (z_ bb) G3 (a_ (n0 (u4 bb) E5) tr) (b5 (o8 (z_ bb) G6 (a_ (n0 (u4 bb) E8) tr) (a_ (a_ (a_ (e_ (z_ bb)) G6) tr) (a_ (a_ (a_ (e_ (z_ bb)) (a_ (m8 (z_ bb)) (D1 G6))) (a_ (LO.Sub.trans (D5 (o5 bb) default (z_ bb) (y3.set pivot.toNat (data.getD a.toNat default)) j.toNat y4 (D1 G6) (B2 (b6 (o5 bb) default (y3.set pivot.toNat (data.getD a.toNat default)) j.toNat) 0 ((o5 bb) y4)) (by cases bb<;>kernel_rfl)) (M0 bb E11)) tr)) (a_ (a_ (a_ (e_ (z_ bb)) G3) tr) (a_ (a_ (a_ (e_ (z_ bb)) (a_ (m8 (z_ bb)) G12)) (a_ (D5 (o5 bb) default (z_ bb) y10 a.toNat y7 G12 (B2 (b6 (o5 bb) default y10 a.toNat) 0 ((o5 bb) y7)) (by cases bb<;>kernel_rfl)) tr)) tr))))))))) tr) (c5T bb hμ data a b pivot uu hh ww j y7 y10 r h) uS
   ·obtain⟨G3,h⟩:=j6 h
    obtain⟨y4,E5,h⟩:=d6 h;obtain⟨G6,h⟩:=j6 h;obtain⟨y7,E8,h⟩:=d6 h;obtain⟨y10,E11,h⟩:=d6 h;obtain⟨G12,h⟩:=j6 h;exact t7 hμ [] 27 [.go,.reg [(3,hF)],.reg [(2,hF)],.reg [(7,j5 ((u4 bb) y4)),(11,j5 ((u4 bb) y7)),(13,{os:=[(0,m6 bb y10)]}),(15,{os:=[(0,m6 bb ((y10.set j.toNat y7)))]})],.wk [(0,.gs 0 ((y10.set j.toNat y7)).length)] []]
     (B6 (q2 (f_ C1 (z8 (B3 (b4 tr))))) (f_ C2 tr) (b5 (l9 (o8 (z_ bb) G3 (a_ (n0 (u4 bb) E5) tr) (b5 (o8 (z_ bb) G6 (a_ (n0 (u4 bb) E8) tr) (a_ (a_ (a_ (e_ (z_ bb)) G6) tr) (a_ (a_ (a_ (e_ (z_ bb)) (a_ (m8 (z_ bb)) (D1 G6))) (a_ (LO.Sub.trans (D5 (o5 bb) default (z_ bb) (y3.set pivot.toNat (data.getD a.toNat default)) i.toNat y4 (D1 G6) (B2 (b6 (o5 bb) default (y3.set pivot.toNat (data.getD a.toNat default)) i.toNat) 0 ((o5 bb) y4)) (by cases bb<;>kernel_rfl)) (M0 bb E11)) tr)) (a_ (a_ (a_ (e_ (z_ bb)) G3) tr) (a_ (a_ (a_ (e_ (z_ bb)) (a_ (m8 (z_ bb)) G12)) (a_ (D5 (o5 bb) default (z_ bb) y10 j.toNat y7 G12 (B2 (b6 (o5 bb) default y10 j.toNat) 0 ((o5 bb) y7)) (by cases bb<;>kernel_rfl)) tr)) tr))))))))) (K3 (A5 0 (show((y3.set pivot.toNat (data.getD a.toNat default))).length=((y10.set j.toNat y7)).length from by simp[<-i7 E11])))) (c5K bb hμ data a b pivot uu hh ww i j y7 y10 r h) uS
theorem c5Q(bb:Bool){w0 W μ0}(hμ:p4 μ0 5)(data:LE bb)(a b pivot:Int)(uu:UT)(hh ww:PT)(i:Int)(y3:LE bb)(k0:Int->Option (Int×Bool×(LE bb)))(hk0:∀(i:Int) (r:Int×Bool×(LE bb)),k0 i=some r->b77 w0 W μ0 bb data a b pivot uu hh ww y3 i r)(r:Int×Bool×(LE bb))(h:b0c bb data a b pivot uu hh ww i y3 k0=some r):p3 w0 W μ0 (J8 bb) 5 5 (O0 bb r) (N9 bb uu hh ww r) (z7 (o9 (J8 bb)) 4) ((.gs 0 ((y3.set pivot.toNat (data.getD a.toNat default))).length)::(.int .i64 a):: .any:: .any::(.fn (w6 bb) [.ptr 1 0 0] [])::n_ 7 ((.int .i64 i)::(.int .i64 (IntKind.wrap .i64 (b - 1)))::n_ 164 [])) [some (m6 bb ((y3.set pivot.toNat (data.getD a.toNat default)))),some (.var [.map 2,.map 3,.map 4]),some (m7 uu []),some (b9 hh),some (b9 ww)]:=by
 unfold b0c at h;exact t7 hμ [] 12 [.reg []]
  (I3 tr) (hk0 _ r h) uS
theorem c5U(bb:Bool){w0 W μ0}(hμ:p4 μ0 5)(data:LE bb)(a b pivot:Int)(uu:UT)(hh ww:PT)(y3:LE bb):∀(fuel:Nat) (i:Int) (r:Int×Bool×(LE bb)),a28 bb data a b pivot uu hh ww y3 fuel i=some r->b77 w0 W μ0 bb data a b pivot uu hh ww y3 i r:=by
 intro fuel
 induction fuel with
 |zero=>intro i r h;rw[a28] at h;cases h
 |succ fuel ih=>
  intro i r h;rw[a28] at h;rcases i5 h with⟨C1,h⟩|⟨C1,h⟩
  ·obtain⟨G2,h⟩:=j6 h
   obtain⟨yL0_3,E4,h⟩:=d6 h;obtain⟨G5,h⟩:=j6 h;obtain⟨y6,E7,h⟩:=d6 h;obtain⟨y9,E8,h⟩:=d6 h;rcases i5 h with⟨C10,h⟩|⟨C10,h⟩
   ·exact t7 hμ [] 17 [.go,.reg [(3,hT),(8,j5 ((u4 bb) yL0_3)),(12,j5 ((u4 bb) y6)),(13,i6 (g9 [1,2,3,4] (H3 bb y9) (G0 bb uu hh ww) (H2 bb uu hh ww y9))),(15,hT)]]
     (I3 (f_ C1 (b4 (b5 (o8 (z_ bb) G2 (a_ (n0 (u4 bb) E4) tr) (b5 (o8 (z_ bb) G5 (a_ (n0 (u4 bb) E7) tr) (a_ (a_ (a_ (H4 bb uu hh ww yL0_3 y6 y9 E8 (f8 [1,2,3,4]) i1) (n4 [.map 2,.map 3,.map 4] uu hh ww)) tr) (b4 (f_ C10 tr)))))))))) (c5Q bb hμ data a b pivot uu hh ww i y3 (a28 bb data a b pivot uu hh ww y3 fuel) ih r h) uS
   ·exact t7 hμ [] 19 [.go,.reg [(3,hT),(8,j5 ((u4 bb) yL0_3)),(12,j5 ((u4 bb) y6)),(13,i6 (g9 [1,2,3,4] (H3 bb y9) (G0 bb uu hh ww) (H2 bb uu hh ww y9))),(15,hF)]]
     (I3 (f_ C1 (b4 (b5 (o8 (z_ bb) G2 (a_ (n0 (u4 bb) E4) tr) (b5 (o8 (z_ bb) G5 (a_ (n0 (u4 bb) E7) tr) (a_ (a_ (a_ (H4 bb uu hh ww yL0_3 y6 y9 E8 (f8 [1,2,3,4]) i1) (n4 [.map 2,.map 3,.map 4] uu hh ww)) tr) (b4 (f_ C10 tr)))))))))) (b8b bb hμ data a b pivot uu hh ww i y3 big _ r h) uS
  ·exact t7 hμ [] 19 [.go,.reg [(3,hF)]]
    (I3 (f_ C1 (a_ tr (u5 (B3 (b4 tr)))))) (b8b bb hμ data a b pivot uu hh ww i y3 big _ r h) uS
theorem a4C(bb:Bool)(data:LE bb)(a b pivot:Int)(uu:UT)(hh ww:PT)(r:Int×Bool×(LE bb))(h:sPA bb data a b pivot uu hh ww=some r):∀σ,p8 5 σ->j9 Tryz.prog (b6S bb) (n7 σ [.gs 0 data.length,.int .i64 a,.int .i64 b,.int .i64 pivot,.fn (w6 bb) [.ptr 1 0 0] []]) (p5 σ 0 (a3a bb data uu hh ww)) ((O0 bb r).ren σ) (p6 σ (N9 bb uu hh ww r)):=by
 refine o_ (c4Z bb) (by cases bb<;>kernel_rfl) (by cases bb<;>kernel_rfl) (by cases bb<;>kernel_rfl) ⟨λ_ _=>by cases bb<;>rfl,rfl,uP,tr,tr,tr⟩ (by cases bb<;>kernel_rfl) ⟨λ_ _=>by cases bb<;>rfl,rfl,uP,tr,tr,tr⟩ (by cases bb<;>kernel_rfl) ?_;intro w0 W μ0 hμ;unfold sPA at h;obtain⟨g1,h⟩:=j6 h;obtain⟨g2,h⟩:=j6 h;obtain⟨y3,e4,h⟩:=d6 h;obtain⟨g5,h⟩:=j6 h;exact t7 hμ [] 22 [.reg [],.reg [(13,{os:=[(0,m6 bb y3)]}),(15,{os:=[(0,m6 bb ((y3.set pivot.toNat (data.getD a.toNat default))))]})],.reg [],.wk [(0,.gs 0 ((y3.set pivot.toNat (data.getD a.toNat default))).length)] []]
  (J4 tr (l9 (o8 (z_ bb) g1 tr (b5 (o8 (z_ bb) g2 tr (a_ (a_ (a_ (e_ (z_ bb)) g2) tr) (a_ (a_ (a_ (e_ (z_ bb)) (a_ (m8 (z_ bb)) (D1 g2))) (a_ (LO.Sub.trans (D5 (o5 bb) default (z_ bb) data a.toNat (data.getD pivot.toNat default) (D1 g2) (B2 (b6 (o5 bb) default data a.toNat) 0 ((o5 bb) (data.getD pivot.toNat default))) (by cases bb<;>kernel_rfl)) (M0 bb e4)) tr)) (a_ (a_ (a_ (e_ (z_ bb)) g1) tr) (a_ (a_ (a_ (e_ (z_ bb)) (a_ (m8 (z_ bb)) g5)) (a_ (D5 (o5 bb) default (z_ bb) y3 pivot.toNat (data.getD a.toNat default) g5 (B2 (b6 (o5 bb) default y3 pivot.toNat) 0 ((o5 bb) (data.getD a.toNat default))) (by cases bb<;>kernel_rfl)) tr)) tr)))))))) (b5 (l9 tr)) (K3 (A5 0 (show data.length=((y3.set pivot.toNat (data.getD a.toNat default))).length from by simp[<-i7 e4])))) (c5U bb hμ data a b pivot uu hh ww y3 big _ r h) uS
theorem a6c(bb:Bool){w0 W μ0}(hμ:p4 μ0 5)(data:LE bb)(a b limit:Int)(uu:UT)(hh ww:PT)(self_:(LE bb)->Int->Int->Int->UT->PT->PT->Option ((LE bb)))(a2 b2:Int)(hself:∀(data:LE bb) (a b limit:Int) (uu:UT) (hh ww:PT) (r:(LE bb)),self_ data a b limit uu hh ww=some r->∀σ,p8 5 σ->j9 Tryz.prog (Y2 bb) (n7 σ [.gs 0 data.length,.int .i64 a,.int .i64 b,.int .i64 limit,.fn (w6 bb) [.ptr 1 0 0] []]) (p5 σ 0 (Q3 bb data uu hh ww)) ((Q5 bb r).ren σ) (p6 σ (Q4 bb uu hh ww r)))(k0:Int->Int->Int->Bool->Bool->(LE bb)->Option ((LE bb)))(hk0:∀(a2 b2 limit2:Int) (wasBalanced wasPartitioned:Bool) (l:LE bb) (r:(LE bb)),k0 a2 b2 limit2 wasBalanced wasPartitioned l=some r->a00 w0 W μ0 bb uu hh ww a2 b2 limit2 wasBalanced wasPartitioned l r)(limit6 pivot4:Int)(l5:LE bb)(r:(LE bb))(h:Y_ bb data a b limit uu hh ww self_ a2 b2 k0 limit6 pivot4 l5=some r):p3 w0 W μ0 (Q2 bb) 5 5 (a0v bb r) (a0u bb uu hh ww r) (z7 (o9 (Q2 bb)) 20) ((.gs 0 l5.length)::(.int .i64 a2)::(.int .i64 b2)::(.int .i64 limit6)::(.fn (w6 bb) [.ptr 1 0 0] [])::n_ 7 ((.int .i64 (IntKind.wrap .i64 (b2 - a2)))::(.int .i64 pivot4)::n_ 134 [])) [some (m6 bb l5),some (.var [.map 2,.map 3,.map 4]),some (m7 uu []),some (b9 hh),some (b9 ww)]:=by
 unfold Y_ at h;obtain⟨y2,E1,h⟩:=d6 h;obtain⟨y3,E4,h⟩:=d6 h;rcases i5 h with⟨C5,h⟩|⟨C5,h⟩
 ·obtain⟨G6,h⟩:=j6 h
  obtain⟨y8,E7,h⟩:=d6 h;obtain⟨G9,h⟩:=j6 h;exact t7 hμ [] 34 [.reg [(5,i6 (g9 [0,1,2,3,4] (O0 bb y2) (a3a bb l5 uu hh ww) (N9 bb uu hh ww y2)))],.reg [],.reg [],.reg [(1,j5 (.int .i64 y3))],.reg [(2,hT)],.reg [],.reg [(5,{call:=some (g9 [0,1,2,3,4] (Q5 bb y8) (Q3 bb y2.2.2 uu hh ww) (Q4 bb uu hh ww y8)),cargs:=some [.gs 0 y2.2.2.length,.int .i64 a2,.int .i64 y2.1,.int .i64 limit6,.fn (w6 bb) [.ptr 1 0 0] []]})],.reg [],.wk [(0,.gs 0 y8.length)] []]
   (B6 (q8 (Y8 (a4C bb l5 a2 b2 pivot4 uu hh ww y2 E1 (f8 [0,1,2,3,4]) i1) (l0 (m6 bb l5)) (n4 [.map 2,.map 3,.map 4] uu hh ww))) tr (X2 tr) (B6 (J7 (K7 8 rfl) (n0 (LV.int .i64) E4)) (f_ C5 tr) (l9 tr) (q0 (N7 (q9 (q0 (hself y2.2.2 a2 y2.1 limit6 uu hh ww y8 E7 (f8 [0,1,2,3,4]) i1) (q0 (A5 0 G6) (LV.Le.refl (.int .i64 a2)) (LV.Le.refl (.int .i64 y2.1)) (q7 (LV.Le.refl (.int .i64 limit6)) (LV.Le.refl (.fn (w6 bb) [.ptr 1 0 0] [])))) (l0 (m6 bb y2.2.2)) (n4 [.map 2,.map 3,.map 4] uu hh ww)) tr)) (q2 tr) (q9 (A5 0 G9) tr) tr))) (hk0 _ _ _ _ _ _ r h) uS
 ·obtain⟨G6,h⟩:=j6 h
  obtain⟨y8,E7,h⟩:=d6 h;obtain⟨G9,h⟩:=j6 h;exact t7 hμ [] 34 [.reg [(5,i6 (g9 [0,1,2,3,4] (O0 bb y2) (a3a bb l5 uu hh ww) (N9 bb uu hh ww y2)))],.reg [],.reg [],.reg [(1,j5 (.int .i64 y3))],.reg [(2,hF)],.reg [],.reg [(6,{call:=some (g9 [0,1,2,3,4] (Q5 bb y8) (Q3 bb y2.2.2 uu hh ww) (Q4 bb uu hh ww y8)),cargs:=some [.gs 0 y2.2.2.length,.int .i64 (IntKind.wrap .i64 (y2.1+1)),.int .i64 b2,.int .i64 limit6,.fn (w6 bb) [.ptr 1 0 0] []]})],.reg [],.wk [(0,.gs 0 y8.length)] []]
   (B6 (q8 (Y8 (a4C bb l5 a2 b2 pivot4 uu hh ww y2 E1 (f8 [0,1,2,3,4]) i1) (l0 (m6 bb l5)) (n4 [.map 2,.map 3,.map 4] uu hh ww))) tr (X2 tr) (B6 (J7 (K7 8 rfl) (n0 (LV.int .i64) E4)) (f_ C5 tr) (l9 tr) (J4 (l9 (q9 (q0 (hself y2.2.2 (IntKind.wrap .i64 (y2.1+1)) b2 limit6 uu hh ww y8 E7 (f8 [0,1,2,3,4]) i1) (q0 (A5 0 G6) (LV.Le.refl (.int .i64 (IntKind.wrap .i64 (y2.1+1)))) (LV.Le.refl (.int .i64 b2)) (q7 (LV.Le.refl (.int .i64 limit6)) (LV.Le.refl (.fn (w6 bb) [.ptr 1 0 0] [])))) (l0 (m6 bb y2.2.2)) (n4 [.map 2,.map 3,.map 4] uu hh ww)) tr)) tr (q9 (A5 0 G9) tr) tr))) (hk0 _ _ _ _ _ _ r h) uS
theorem b3K(bb:Bool){w0 W μ0}(hμ:p4 μ0 5)(data:LE bb)(a b limit:Int)(uu:UT)(hh ww:PT)(self_:(LE bb)->Int->Int->Int->UT->PT->PT->Option ((LE bb)))(a2 b2:Int)(wasBalanced wasPartitioned:Bool)(hself:∀(data:LE bb) (a b limit:Int) (uu:UT) (hh ww:PT) (r:(LE bb)),self_ data a b limit uu hh ww=some r->∀σ,p8 5 σ->j9 Tryz.prog (Y2 bb) (n7 σ [.gs 0 data.length,.int .i64 a,.int .i64 b,.int .i64 limit,.fn (w6 bb) [.ptr 1 0 0] []]) (p5 σ 0 (Q3 bb data uu hh ww)) ((Q5 bb r).ren σ) (p6 σ (Q4 bb uu hh ww r)))(k0:Int->Int->Int->Bool->Bool->(LE bb)->Option ((LE bb)))(hk0:∀(a2 b2 limit2:Int) (wasBalanced wasPartitioned:Bool) (l:LE bb) (r:(LE bb)),k0 a2 b2 limit2 wasBalanced wasPartitioned l=some r->a00 w0 W μ0 bb uu hh ww a2 b2 limit2 wasBalanced wasPartitioned l r)(limit3 pivot:Int)(l2:LE bb)(r:(LE bb))(h:a3b bb data a b limit uu hh ww self_ a2 b2 wasBalanced wasPartitioned k0 limit3 pivot l2=some r):p3 w0 W μ0 (Q2 bb) 5 5 (a0v bb r) (a0u bb uu hh ww r) (z7 (o9 (Q2 bb)) 16) ((.gs 0 l2.length)::(.int .i64 a2)::(.int .i64 b2)::(.int .i64 limit3)::(.fn (w6 bb) [.ptr 1 0 0] [])::n_ 5 ((.bool wasBalanced)::(.bool wasPartitioned)::(.int .i64 (IntKind.wrap .i64 (b2 - a2)))::(.int .i64 pivot)::n_ 134 [])) [some (m6 bb l2),some (.var [.map 2,.map 3,.map 4]),some (m7 uu []),some (b9 hh),some (b9 ww)]:=by
 unfold a3b at h;obtain⟨y2,E1,h⟩:=d6 h;rcases i5 h with⟨C3,h⟩|⟨C3,h⟩
 ·obtain rfl:=i7 h
  exact I9 [] 12 [.reg [(4,{call:=some (g9 [0,1,2,3,4] (T9 bb y2) (a4E bb l2 uu hh ww) (T8 bb uu hh ww y2)),v:=some (.bool true)})]]
   (q9 (l9 (F8 (a_ (a6f bb l2 a2 b2 uu hh ww y2 E1 (f8 [0,1,2,3,4]) i1) (a_ (l0 (m6 bb l2)) (n4 [.map 2,.map 3,.map 4] uu hh ww))) (v6 C3))) tr)
 ·rcases i5 h with⟨C4,h⟩|⟨C4,h⟩
  ·obtain⟨G5,h⟩:=j6 h
   obtain⟨G6,h⟩:=j6 h;obtain⟨y7,E8,h⟩:=d6 h;obtain⟨G9,h⟩:=j6 h;obtain⟨G10,h⟩:=j6 h;obtain⟨y12,E11,h⟩:=d6 h;rcases i5 h with⟨C13,h⟩|⟨C13,h⟩
   ·obtain⟨G14,h⟩:=j6 h
    exact t7 hμ [] 20 [.reg [(4,{call:=some (g9 [0,1,2,3,4] (T9 bb y2) (a4E bb l2 uu hh ww) (T8 bb uu hh ww y2)),v:=some (.bool false)})],.reg [(2,hT),(8,j5 ((u4 bb) y7)),(13,i6 (g9 [1,2,3,4] (H3 bb y12) (G0 bb uu hh ww) (H2 bb uu hh ww y12))),(16,hT)],.wk [(0,.gs 0 y2.2.length)] []]
     (B6 (l9 (F8 (a_ (a6f bb l2 a2 b2 uu hh ww y2 E1 (f8 [0,1,2,3,4]) i1) (a_ (l0 (m6 bb l2)) (n4 [.map 2,.map 3,.map 4] uu hh ww))) (v6 C3))) (f_ C4 (l9 (a_ (a_ (a_ (e_ (z_ bb)) G5) tr) (a_ (a_ (a_ G6 (m8 (z_ bb))) (a_ (n0 (u4 bb) E8) tr)) (b5 (a_ (a_ (a_ (e_ (z_ bb)) G9) tr) (a_ (a_ (a_ G10 (m8 (z_ bb))) tr) (a_ (a_ (a_ (H4 bb uu hh ww y7 (y2.2.getD pivot.toNat default) y12 E11 (f8 [1,2,3,4]) i1) (n4 [.map 2,.map 3,.map 4] uu hh ww)) tr) (b5 (f_ C13 tr)))))))))) (q9 (A5 0 G14) tr) tr) (a73 bb hμ data a b limit uu hh ww self_ a2 b2 wasBalanced wasPartitioned hself k0 hk0 _ _ _ r h) uS
   ·obtain⟨G14,h⟩:=j6 h
    exact t7 hμ [] 21 [.reg [(4,{call:=some (g9 [0,1,2,3,4] (T9 bb y2) (a4E bb l2 uu hh ww) (T8 bb uu hh ww y2)),v:=some (.bool false)})],.reg [(2,hT),(8,j5 ((u4 bb) y7)),(13,i6 (g9 [1,2,3,4] (H3 bb y12) (G0 bb uu hh ww) (H2 bb uu hh ww y12))),(16,hF)],.wk [(0,.gs 0 y2.2.length)] []]
     (B6 (l9 (F8 (a_ (a6f bb l2 a2 b2 uu hh ww y2 E1 (f8 [0,1,2,3,4]) i1) (a_ (l0 (m6 bb l2)) (n4 [.map 2,.map 3,.map 4] uu hh ww))) (v6 C3))) (f_ C4 (l9 (a_ (a_ (a_ (e_ (z_ bb)) G5) tr) (a_ (a_ (a_ G6 (m8 (z_ bb))) (a_ (n0 (u4 bb) E8) tr)) (b5 (a_ (a_ (a_ (e_ (z_ bb)) G9) tr) (a_ (a_ (a_ G10 (m8 (z_ bb))) tr) (a_ (a_ (a_ (H4 bb uu hh ww y7 (y2.2.getD pivot.toNat default) y12 E11 (f8 [1,2,3,4]) i1) (n4 [.map 2,.map 3,.map 4] uu hh ww)) tr) (b5 (f_ C13 tr)))))))))) (q9 (A5 0 G14) tr) tr) (a6c bb hμ data a b limit uu hh ww self_ a2 b2 hself k0 hk0 _ _ _ r h) uS
  ·obtain⟨G5,h⟩:=j6 h
   exact t7 hμ [] 21 [.reg [(4,{call:=some (g9 [0,1,2,3,4] (T9 bb y2) (a4E bb l2 uu hh ww) (T8 bb uu hh ww y2)),v:=some (.bool false)})],.reg [(2,hF)],.wk [(0,.gs 0 y2.2.length)] []]
    (B6 (l9 (F8 (a_ (a6f bb l2 a2 b2 uu hh ww y2 E1 (f8 [0,1,2,3,4]) i1) (a_ (l0 (m6 bb l2)) (n4 [.map 2,.map 3,.map 4] uu hh ww))) (v6 C3))) (f_ C4 (a_ tr (z8 (B3 (b4 tr))))) (q9 (A5 0 G5) tr) tr) (a6c bb hμ data a b limit uu hh ww self_ a2 b2 hself k0 hk0 _ _ _ r h) uS
theorem c5Z(bb:Bool){w0 W μ0}(hμ:p4 μ0 5)(data:LE bb)(a b limit:Int)(uu:UT)(hh ww:PT)(self_:(LE bb)->Int->Int->Int->UT->PT->PT->Option ((LE bb)))(a2 b2:Int)(hself:∀(data:LE bb) (a b limit:Int) (uu:UT) (hh ww:PT) (r:(LE bb)),self_ data a b limit uu hh ww=some r->∀σ,p8 5 σ->j9 Tryz.prog (Y2 bb) (n7 σ [.gs 0 data.length,.int .i64 a,.int .i64 b,.int .i64 limit,.fn (w6 bb) [.ptr 1 0 0] []]) (p5 σ 0 (Q3 bb data uu hh ww)) ((Q5 bb r).ren σ) (p6 σ (Q4 bb uu hh ww r)))(k0:Int->Int->Int->Bool->Bool->(LE bb)->Option ((LE bb)))(hk0:∀(a2 b2 limit2:Int) (wasBalanced wasPartitioned:Bool) (l:LE bb) (r:(LE bb)),k0 a2 b2 limit2 wasBalanced wasPartitioned l=some r->a00 w0 W μ0 bb uu hh ww a2 b2 limit2 wasBalanced wasPartitioned l r)(limit7:Int)(wasPartitioned2:Bool)(mid leftLen balanceThreshold:Int)(l6:LE bb)(r:(LE bb))(h:b0f bb data a b limit uu hh ww self_ a2 b2 k0 limit7 wasPartitioned2 mid leftLen balanceThreshold l6=some r):p3 w0 W μ0 (Q2 bb) 5 5 (a0v bb r) (a0u bb uu hh ww r) (z7 (o9 (Q2 bb)) 25) ((.gs 0 l6.length)::(.int .i64 a2)::(.int .i64 b2)::(.int .i64 limit7)::(.fn (w6 bb) [.ptr 1 0 0] [])::n_ 6 ((.bool wasPartitioned2)::n_ 4 ((.int .i64 mid):: .any::(.int .i64 leftLen):: .any::(.int .i64 balanceThreshold)::n_ 127 []))) [some (m6 bb l6),some (.var [.map 2,.map 3,.map 4]),some (m7 uu []),some (b9 hh),some (b9 ww)]:=by
 unfold b0f at h;obtain⟨y2,E1,h⟩:=d6 h;obtain⟨G3,h⟩:=j6 h;exact t7 hμ [] 18 [.reg [],.reg [(5,i6 (g9 [0,1,2,3,4] (Q5 bb y2) (Q3 bb l6 uu hh ww) (Q4 bb uu hh ww y2)))],.reg [],.wk [(0,.gs 0 y2.length)] []]
  (q6 (l9 tr) (V1 (hself l6 a2 mid limit7 uu hh ww y2 E1 (f8 [0,1,2,3,4]) i1) (l0 (m6 bb l6)) (n4 [.map 2,.map 3,.map 4] uu hh ww)) (q2 tr) (K3 (A5 0 G3))) (hk0 _ _ _ _ _ _ r h) uS
theorem c50(bb:Bool){w0 W μ0}(hμ:p4 μ0 5)(data:LE bb)(a b limit:Int)(uu:UT)(hh ww:PT)(self_:(LE bb)->Int->Int->Int->UT->PT->PT->Option ((LE bb)))(a2 b2:Int)(hself:∀(data:LE bb) (a b limit:Int) (uu:UT) (hh ww:PT) (r:(LE bb)),self_ data a b limit uu hh ww=some r->∀σ,p8 5 σ->j9 Tryz.prog (Y2 bb) (n7 σ [.gs 0 data.length,.int .i64 a,.int .i64 b,.int .i64 limit,.fn (w6 bb) [.ptr 1 0 0] []]) (p5 σ 0 (Q3 bb data uu hh ww)) ((Q5 bb r).ren σ) (p6 σ (Q4 bb uu hh ww r)))(k0:Int->Int->Int->Bool->Bool->(LE bb)->Option ((LE bb)))(hk0:∀(a2 b2 limit2:Int) (wasBalanced wasPartitioned:Bool) (l:LE bb) (r:(LE bb)),k0 a2 b2 limit2 wasBalanced wasPartitioned l=some r->a00 w0 W μ0 bb uu hh ww a2 b2 limit2 wasBalanced wasPartitioned l r)(limit8:Int)(wasPartitioned3:Bool)(mid2 rightLen balanceThreshold2:Int)(l7:LE bb)(r:(LE bb))(h:b0g bb data a b limit uu hh ww self_ a2 b2 k0 limit8 wasPartitioned3 mid2 rightLen balanceThreshold2 l7=some r):p3 w0 W μ0 (Q2 bb) 5 5 (a0v bb r) (a0u bb uu hh ww r) (z7 (o9 (Q2 bb)) 28) ((.gs 0 l7.length)::(.int .i64 a2)::(.int .i64 b2)::(.int .i64 limit8)::(.fn (w6 bb) [.ptr 1 0 0] [])::n_ 6 ((.bool wasPartitioned3)::n_ 4 ((.int .i64 mid2):: .any:: .any::(.int .i64 rightLen)::(.int .i64 balanceThreshold2)::n_ 127 []))) [some (m6 bb l7),some (.var [.map 2,.map 3,.map 4]),some (m7 uu []),some (b9 hh),some (b9 ww)]:=by
 unfold b0g at h;obtain⟨y2,E1,h⟩:=d6 h;obtain⟨G3,h⟩:=j6 h;exact t7 hμ [] 18 [.reg [],.reg [(6,i6 (g9 [0,1,2,3,4] (Q5 bb y2) (Q3 bb l7 uu hh ww) (Q4 bb uu hh ww y2)))],.reg [],.wk [(0,.gs 0 y2.length)] []]
  (B6 (l9 tr) (V1 (hself l7 (IntKind.wrap .i64 (mid2+1)) b2 limit8 uu hh ww y2 E1 (f8 [0,1,2,3,4]) i1) (l0 (m6 bb l7)) (n4 [.map 2,.map 3,.map 4] uu hh ww)) (b5 tr) (K3 (A5 0 G3))) (hk0 _ _ _ _ _ _ r h) uS
theorem a3c(bb:Bool){w0 W μ0}(hμ:p4 μ0 5)(data:LE bb)(a b limit:Int)(uu:UT)(hh ww:PT)(self_:(LE bb)->Int->Int->Int->UT->PT->PT->Option ((LE bb)))(a2 b2:Int)(wasBalanced wasPartitioned:Bool)(hself:∀(data:LE bb) (a b limit:Int) (uu:UT) (hh ww:PT) (r:(LE bb)),self_ data a b limit uu hh ww=some r->∀σ,p8 5 σ->j9 Tryz.prog (Y2 bb) (n7 σ [.gs 0 data.length,.int .i64 a,.int .i64 b,.int .i64 limit,.fn (w6 bb) [.ptr 1 0 0] []]) (p5 σ 0 (Q3 bb data uu hh ww)) ((Q5 bb r).ren σ) (p6 σ (Q4 bb uu hh ww r)))(k0:Int->Int->Int->Bool->Bool->(LE bb)->Option ((LE bb)))(hk0:∀(a2 b2 limit2:Int) (wasBalanced wasPartitioned:Bool) (l:LE bb) (r:(LE bb)),k0 a2 b2 limit2 wasBalanced wasPartitioned l=some r->a00 w0 W μ0 bb uu hh ww a2 b2 limit2 wasBalanced wasPartitioned l r)(limit4 pivot2:Int)(l3:LE bb)(r:(LE bb))(h:X3 bb data a b limit uu hh ww self_ a2 b2 wasBalanced wasPartitioned k0 limit4 pivot2 l3=some r):p3 w0 W μ0 (Q2 bb) 5 5 (a0v bb r) (a0u bb uu hh ww r) (z7 (o9 (Q2 bb)) 17) ((.gs 0 l3.length)::(.int .i64 a2)::(.int .i64 b2)::(.int .i64 limit4)::(.fn (w6 bb) [.ptr 1 0 0] [])::n_ 5 ((.bool wasBalanced)::(.bool wasPartitioned)::(.int .i64 (IntKind.wrap .i64 (b2 - a2)))::(.int .i64 pivot2)::n_ 134 [])) [some (m6 bb l3),some (.var [.map 2,.map 3,.map 4]),some (m7 uu []),some (b9 hh),some (b9 ww)]:=by
 unfold X3 at h;rcases i5 h with⟨C1,h⟩|⟨C1,h⟩
 ·obtain⟨G2,h⟩:=j6 h
  obtain⟨y3,E4,h⟩:=d6 h;obtain⟨G5,h⟩:=j6 h;obtain⟨y7,E6,h⟩:=d6 h;rcases i5 h with⟨C8,h⟩|⟨C8,h⟩
  ·exact t7 hμ [] 13 [.reg [(2,hT),(8,j5 ((u4 bb) y3)),(13,i6 (g9 [1,2,3,4] (H3 bb y7) (G0 bb uu hh ww) (H2 bb uu hh ww y7))),(16,hT)]]
    (q3 (b5 (f_ C1 (l9 (o8 (z_ bb) G2 (a_ (n0 (u4 bb) E4) tr) (b5 (o8 (z_ bb) G5 tr (a_ (a_ (a_ (H4 bb uu hh ww y3 (l3.getD pivot2.toNat default) y7 E6 (f8 [1,2,3,4]) i1) (n4 [.map 2,.map 3,.map 4] uu hh ww)) tr) (b5 (f_ C8 tr)))))))))) (a73 bb hμ data a b limit uu hh ww self_ a2 b2 wasBalanced wasPartitioned hself k0 hk0 _ _ _ r h) uS
  ·exact t7 hμ [] 14 [.reg [(2,hT),(8,j5 ((u4 bb) y3)),(13,i6 (g9 [1,2,3,4] (H3 bb y7) (G0 bb uu hh ww) (H2 bb uu hh ww y7))),(16,hF)]]
    (q3 (b5 (f_ C1 (l9 (o8 (z_ bb) G2 (a_ (n0 (u4 bb) E4) tr) (b5 (o8 (z_ bb) G5 tr (a_ (a_ (a_ (H4 bb uu hh ww y3 (l3.getD pivot2.toNat default) y7 E6 (f8 [1,2,3,4]) i1) (n4 [.map 2,.map 3,.map 4] uu hh ww)) tr) (b5 (f_ C8 tr)))))))))) (a6c bb hμ data a b limit uu hh ww self_ a2 b2 hself k0 hk0 _ _ _ r h) uS
 ·obtain⟨y4,E2,h⟩:=d6 h
  obtain⟨y5,E6,h⟩:=d6 h;rcases i5 h with⟨C7,h⟩|⟨C7,h⟩
  ·obtain⟨G8,h⟩:=j6 h
   exact t7 hμ [] 31 [.reg [(2,hF)],.reg [(5,i6 (g9 [0,1,2,3,4] (O0 bb y4) (a3a bb l3 uu hh ww) (N9 bb uu hh ww y4)))],.reg [],.reg [],.reg [(1,j5 (.int .i64 y5))],.reg [(2,hT)],.wk [(0,.gs 0 y4.2.2.length)] []]
    (q6 (b5 (f_ C1 (a_ tr (z8 (B3 (b4 tr)))))) (Y8 (a4C bb l3 a2 b2 pivot2 uu hh ww y4 E2 (f8 [0,1,2,3,4]) i1) (l0 (m6 bb l3)) (n4 [.map 2,.map 3,.map 4] uu hh ww)) (b5 tr) (q6 (X2 tr) (S6 (K7 8 rfl) (n0 (LV.int .i64) E6)) (b5 (f_ C7 tr)) (K3 (A5 0 G8)))) (c5Z bb hμ data a b limit uu hh ww self_ a2 b2 hself k0 hk0 _ _ _ _ _ _ r h) uS
  ·obtain⟨G8,h⟩:=j6 h
   exact t7 hμ [] 31 [.reg [(2,hF)],.reg [(5,i6 (g9 [0,1,2,3,4] (O0 bb y4) (a3a bb l3 uu hh ww) (N9 bb uu hh ww y4)))],.reg [],.reg [],.reg [(1,j5 (.int .i64 y5))],.reg [(2,hF)],.wk [(0,.gs 0 y4.2.2.length)] []]
    (q6 (b5 (f_ C1 (a_ tr (z8 (B3 (b4 tr)))))) (Y8 (a4C bb l3 a2 b2 pivot2 uu hh ww y4 E2 (f8 [0,1,2,3,4]) i1) (l0 (m6 bb l3)) (n4 [.map 2,.map 3,.map 4] uu hh ww)) (b5 tr) (q6 (X2 tr) (S6 (K7 8 rfl) (n0 (LV.int .i64) E6)) (b5 (f_ C7 tr)) (K3 (A5 0 G8)))) (c50 bb hμ data a b limit uu hh ww self_ a2 b2 hself k0 hk0 _ _ _ _ _ _ r h) uS
theorem c51(bb:Bool){w0 W μ0}(hμ:p4 μ0 5)(data:LE bb)(a b limit:Int)(uu:UT)(hh ww:PT)(self_:(LE bb)->Int->Int->Int->UT->PT->PT->Option ((LE bb)))(a2 b2 limit2:Int)(wasBalanced wasPartitioned:Bool)(yL0_5:(LE bb))(hself:∀(data:LE bb) (a b limit:Int) (uu:UT) (hh ww:PT) (r:(LE bb)),self_ data a b limit uu hh ww=some r->∀σ,p8 5 σ->j9 Tryz.prog (Y2 bb) (n7 σ [.gs 0 data.length,.int .i64 a,.int .i64 b,.int .i64 limit,.fn (w6 bb) [.ptr 1 0 0] []]) (p5 σ 0 (Q3 bb data uu hh ww)) ((Q5 bb r).ren σ) (p6 σ (Q4 bb uu hh ww r)))(k0:Int->Int->Int->Bool->Bool->(LE bb)->Option ((LE bb)))(hk0:∀(a2 b2 limit2:Int) (wasBalanced wasPartitioned:Bool) (l:LE bb) (r:(LE bb)),k0 a2 b2 limit2 wasBalanced wasPartitioned l=some r->a00 w0 W μ0 bb uu hh ww a2 b2 limit2 wasBalanced wasPartitioned l r)(r:(LE bb))(h:a74 bb data a b limit uu hh ww self_ a2 b2 limit2 wasBalanced wasPartitioned yL0_5 k0=some r):c5W w0 W μ0 bb uu hh ww a2 b2 limit2 wasBalanced wasPartitioned yL0_5 r:=by
 unfold a74 at h;obtain⟨y2,E1,h⟩:=d6 h;rcases i5 h with⟨C3,h⟩|⟨C3,h⟩
 ·obtain⟨yC9_5,E4,h⟩:=d6 h
  obtain⟨y6,E7,h⟩:=d6 h;rcases i5 h with⟨C8,h⟩|⟨C8,h⟩
  ·rcases i5 h with⟨C9,h⟩|⟨C9,h⟩
   ·obtain⟨G10,h⟩:=j6 h
    exact t7 hμ [] 34 [.reg [],.reg [(4,i6 (g9 [0,1,2,3,4] (Z4 bb y2) (a1K bb yL0_5 uu hh ww) (Z3 bb yL0_5 uu hh ww y2)))],.reg [(1,hT)],.reg [(4,i6 (g9 [0,1,2,3,4] (a3k bb yC9_5) (a4G bb yL0_5 uu hh ww) (a3j bb uu hh ww yC9_5)))],.reg [(5,j5 (.int .i64 y6))],.reg [],.reg [(1,hT),(4,hT)],.wk [(0,.gs 0 yC9_5.length)] []]
     (q0 (q2 tr) (Y8 (a2Z bb yL0_5 a2 b2 uu hh ww y2 E1 (f8 [0,1,2,3,4]) i1) (l0 (m6 bb yL0_5)) (n4 [.map 2,.map 3,.map 4] uu hh ww)) (q8 (f_ C3 tr)) (q6 (V1 (a6g bb yL0_5 a2 b2 uu hh ww yC9_5 E4 (f8 [0,1,2,3,4]) i1) (l0 (m6 bb yL0_5)) (n4 [.map 2,.map 3,.map 4] uu hh ww)) (l9 (S6 tr (n0 (LV.int .i64) E7))) (q8 tr) (a_ (q8 (f_ C8 (b5 (f_ C9 (b4 (b5 tr)))))) (K3 (A5 0 G10))))) (b3K bb hμ data a b limit uu hh ww self_ a2 b2 wasBalanced wasPartitioned hself k0 hk0 _ _ _ r h) uS
   ·obtain⟨G10,h⟩:=j6 h
    exact t7 hμ [] 36 [.reg [],.reg [(4,i6 (g9 [0,1,2,3,4] (Z4 bb y2) (a1K bb yL0_5 uu hh ww) (Z3 bb yL0_5 uu hh ww y2)))],.reg [(1,hT)],.reg [(4,i6 (g9 [0,1,2,3,4] (a3k bb yC9_5) (a4G bb yL0_5 uu hh ww) (a3j bb uu hh ww yC9_5)))],.reg [(5,j5 (.int .i64 y6))],.reg [],.reg [(1,hT),(4,hF)],.wk [(0,.gs 0 yC9_5.length)] []]
     (q0 (q2 tr) (Y8 (a2Z bb yL0_5 a2 b2 uu hh ww y2 E1 (f8 [0,1,2,3,4]) i1) (l0 (m6 bb yL0_5)) (n4 [.map 2,.map 3,.map 4] uu hh ww)) (q8 (f_ C3 tr)) (q6 (V1 (a6g bb yL0_5 a2 b2 uu hh ww yC9_5 E4 (f8 [0,1,2,3,4]) i1) (l0 (m6 bb yL0_5)) (n4 [.map 2,.map 3,.map 4] uu hh ww)) (l9 (S6 tr (n0 (LV.int .i64) E7))) (q8 tr) (a_ (q8 (f_ C8 (b5 (f_ C9 (u5 (b4 tr)))))) (K3 (A5 0 G10))))) (a3c bb hμ data a b limit uu hh ww self_ a2 b2 wasBalanced wasPartitioned hself k0 hk0 _ _ _ r h) uS
  ·obtain⟨G9,h⟩:=j6 h
   exact t7 hμ [] 36 [.reg [],.reg [(4,i6 (g9 [0,1,2,3,4] (Z4 bb y2) (a1K bb yL0_5 uu hh ww) (Z3 bb yL0_5 uu hh ww y2)))],.reg [(1,hT)],.reg [(4,i6 (g9 [0,1,2,3,4] (a3k bb yC9_5) (a4G bb yL0_5 uu hh ww) (a3j bb uu hh ww yC9_5)))],.reg [(5,j5 (.int .i64 y6))],.reg [],.reg [(1,hF)],.wk [(0,.gs 0 yC9_5.length)] []]
    (q0 (q2 tr) (Y8 (a2Z bb yL0_5 a2 b2 uu hh ww y2 E1 (f8 [0,1,2,3,4]) i1) (l0 (m6 bb yL0_5)) (n4 [.map 2,.map 3,.map 4] uu hh ww)) (q8 (f_ C3 tr)) (q6 (V1 (a6g bb yL0_5 a2 b2 uu hh ww yC9_5 E4 (f8 [0,1,2,3,4]) i1) (l0 (m6 bb yL0_5)) (n4 [.map 2,.map 3,.map 4] uu hh ww)) (l9 (S6 tr (n0 (LV.int .i64) E7))) (q8 tr) (a_ (q8 (f_ C8 (a_ tr (b5 (u5 (b4 tr)))))) (K3 (A5 0 G9))))) (a3c bb hμ data a b limit uu hh ww self_ a2 b2 wasBalanced wasPartitioned hself k0 hk0 _ _ _ r h) uS
 ·rcases i5 h with⟨C4,h⟩|⟨C4,h⟩
  ·rcases i5 h with⟨C5,h⟩|⟨C5,h⟩
   ·rcases i5 h with⟨C6,h⟩|⟨C6,h⟩
    ·exact t7 hμ [] 26 [.reg [],.reg [(4,i6 (g9 [0,1,2,3,4] (Z4 bb y2) (a1K bb yL0_5 uu hh ww) (Z3 bb yL0_5 uu hh ww y2)))],.reg [(1,hF)],.reg [(1,hT),(4,hT),(7,hT)]]
      (E0 (q2 tr) (Y8 (a2Z bb yL0_5 a2 b2 uu hh ww y2 E1 (f8 [0,1,2,3,4]) i1) (l0 (m6 bb yL0_5)) (n4 [.map 2,.map 3,.map 4] uu hh ww)) (q8 (f_ C3 tr)) (q8 (f_ C4 (b5 (f_ C5 (b5 (f_ C6 tr))))))) (b3K bb hμ data a b limit uu hh ww self_ a2 b2 wasBalanced wasPartitioned hself k0 hk0 _ _ _ r h) uS
    ·exact t7 hμ [] 28 [.reg [],.reg [(4,i6 (g9 [0,1,2,3,4] (Z4 bb y2) (a1K bb yL0_5 uu hh ww) (Z3 bb yL0_5 uu hh ww y2)))],.reg [(1,hF)],.reg [(1,hT),(4,hT),(7,hF)]]
      (E0 (q2 tr) (Y8 (a2Z bb yL0_5 a2 b2 uu hh ww y2 E1 (f8 [0,1,2,3,4]) i1) (l0 (m6 bb yL0_5)) (n4 [.map 2,.map 3,.map 4] uu hh ww)) (q8 (f_ C3 tr)) (q8 (f_ C4 (b5 (f_ C5 (b5 (f_ C6 tr))))))) (a3c bb hμ data a b limit uu hh ww self_ a2 b2 wasBalanced wasPartitioned hself k0 hk0 _ _ _ r h) uS
   ·exact t7 hμ [] 28 [.reg [],.reg [(4,i6 (g9 [0,1,2,3,4] (Z4 bb y2) (a1K bb yL0_5 uu hh ww) (Z3 bb yL0_5 uu hh ww y2)))],.reg [(1,hF)],.reg [(1,hT),(4,hF)]]
     (E0 (q2 tr) (Y8 (a2Z bb yL0_5 a2 b2 uu hh ww y2 E1 (f8 [0,1,2,3,4]) i1) (l0 (m6 bb yL0_5)) (n4 [.map 2,.map 3,.map 4] uu hh ww)) (q8 (f_ C3 tr)) (q8 (f_ C4 (b5 (f_ C5 (u5 (b4 tr))))))) (a3c bb hμ data a b limit uu hh ww self_ a2 b2 wasBalanced wasPartitioned hself k0 hk0 _ _ _ r h) uS
  ·exact t7 hμ [] 28 [.reg [],.reg [(4,i6 (g9 [0,1,2,3,4] (Z4 bb y2) (a1K bb yL0_5 uu hh ww) (Z3 bb yL0_5 uu hh ww y2)))],.reg [(1,hF)],.reg [(1,hF)]]
    (E0 (q2 tr) (Y8 (a2Z bb yL0_5 a2 b2 uu hh ww y2 E1 (f8 [0,1,2,3,4]) i1) (l0 (m6 bb yL0_5)) (n4 [.map 2,.map 3,.map 4] uu hh ww)) (q8 (f_ C3 tr)) (q8 (f_ C4 (a_ tr (b5 (u5 (b4 tr))))))) (a3c bb hμ data a b limit uu hh ww self_ a2 b2 wasBalanced wasPartitioned hself k0 hk0 _ _ _ r h) uS
abbrev c5X(bb:Bool)(uu:UT)(hh ww:PT)(a2 b2 limit2:Int)(wasBalanced wasPartitioned:Bool)(l:LE bb)(y6:Int×Int)(r:(LE bb)):Prop:=p3 w0 W μ0 (Q2 bb) 5 5 (a0v bb r) (a0u bb uu hh ww r) (z7 (o9 (Q2 bb)) 11) ((.gs 0 l.length)::(.int .i64 a2)::(.int .i64 b2)::(.int .i64 limit2)::(.fn (w6 bb) [.ptr 1 0 0] [])::n_ 5 ((.bool wasBalanced)::(.bool wasPartitioned)::(.int .i64 (IntKind.wrap .i64 (b2 - a2)))::(.int .i64 y6.1)::(.int .i64 y6.2)::n_ 133 [])) [some (m6 bb l),some (.var [.map 2,.map 3,.map 4]),some (m7 uu []),some (b9 hh),some (b9 ww)]
theorem b3L(bb:Bool){w0 W μ0}(hμ:p4 μ0 5)(data:LE bb)(a b limit:Int)(uu:UT)(hh ww:PT)(self_:(LE bb)->Int->Int->Int->UT->PT->PT->Option ((LE bb)))(a2 b2 limit2:Int)(y8:Int×Bool×(LE bb))(hself:∀(data:LE bb) (a b limit:Int) (uu:UT) (hh ww:PT) (r:(LE bb)),self_ data a b limit uu hh ww=some r->∀σ,p8 5 σ->j9 Tryz.prog (Y2 bb) (n7 σ [.gs 0 data.length,.int .i64 a,.int .i64 b,.int .i64 limit,.fn (w6 bb) [.ptr 1 0 0] []]) (p5 σ 0 (Q3 bb data uu hh ww)) ((Q5 bb r).ren σ) (p6 σ (Q4 bb uu hh ww r)))(k0:Int->Int->Int->Bool->Bool->(LE bb)->Option ((LE bb)))(hk0:∀(a2 b2 limit2:Int) (wasBalanced wasPartitioned:Bool) (l:LE bb) (r:(LE bb)),k0 a2 b2 limit2 wasBalanced wasPartitioned l=some r->a00 w0 W μ0 bb uu hh ww a2 b2 limit2 wasBalanced wasPartitioned l r)(r:(LE bb))(h:a3d bb data a b limit uu hh ww self_ a2 b2 limit2 y8 k0=some r):p3 w0 W μ0 (Q2 bb) 5 5 (a0v bb r) (a0u bb uu hh ww r) (z7 (o9 (Q2 bb)) 21) ((.gs 0 y8.2.2.length)::(.int .i64 a2)::(.int .i64 b2)::(.int .i64 limit2)::(.fn (w6 bb) [.ptr 1 0 0] [])::n_ 7 ((.int .i64 (IntKind.wrap .i64 (b2 - a2))):: .any:: .any:: .any::(.int .i64 y8.1)::(.bool y8.2.1)::n_ 130 [])) [some (m6 bb y8.2.2),some (.var [.map 2,.map 3,.map 4]),some (m7 uu []),some (b9 hh),some (b9 ww)]:=by
 unfold a3d at h;obtain⟨y1,E2,h⟩:=d6 h;rcases i5 h with⟨C3,h⟩|⟨C3,h⟩
 ·obtain⟨y5,E4,h⟩:=d6 h
  obtain⟨G6,h⟩:=j6 h;exact t7 hμ [] 31 [.reg [],.reg [],.reg [(1,j5 (.int .i64 y1))],.reg [(2,hT)],.reg [],.reg [(5,i6 (g9 [0,1,2,3,4] (Q5 bb y5) (Q3 bb y8.2.2 uu hh ww) (Q4 bb uu hh ww y5)))],.reg [],.wk [(0,.gs 0 y5.length)] []]
   (q0 (b5 tr) (X2 tr) (J7 (K7 8 rfl) (n0 (LV.int .i64) E2)) (q0 (b5 (f_ C3 tr)) (l9 tr) (q8 (V1 (hself y8.2.2 a2 y8.1 limit2 uu hh ww y5 E4 (f8 [0,1,2,3,4]) i1) (l0 (m6 bb y8.2.2)) (n4 [.map 2,.map 3,.map 4] uu hh ww))) (a_ (q2 tr) (K3 (A5 0 G6))))) (hk0 _ _ _ _ _ _ r h) uS
 ·obtain⟨y5,E4,h⟩:=d6 h
  obtain⟨G6,h⟩:=j6 h;exact t7 hμ [] 31 [.reg [],.reg [],.reg [(1,j5 (.int .i64 y1))],.reg [(2,hF)],.reg [],.reg [(6,i6 (g9 [0,1,2,3,4] (Q5 bb y5) (Q3 bb y8.2.2 uu hh ww) (Q4 bb uu hh ww y5)))],.reg [],.wk [(0,.gs 0 y5.length)] []]
   (q0 (b5 tr) (X2 tr) (J7 (K7 8 rfl) (n0 (LV.int .i64) E2)) (q0 (b5 (f_ C3 tr)) (l9 tr) (b5 (V1 (hself y8.2.2 (IntKind.wrap .i64 (y8.1+1)) b2 limit2 uu hh ww y5 E4 (f8 [0,1,2,3,4]) i1) (l0 (m6 bb y8.2.2)) (n4 [.map 2,.map 3,.map 4] uu hh ww))) (a_ (b5 tr) (K3 (A5 0 G6))))) (hk0 _ _ _ _ _ _ r h) uS
theorem c5Y(bb:Bool){w0 W μ0}(hμ:p4 μ0 5)(data:LE bb)(a b limit:Int)(uu:UT)(hh ww:PT)(self_:(LE bb)->Int->Int->Int->UT->PT->PT->Option ((LE bb)))(a2 b2 limit2:Int)(wasBalanced wasPartitioned:Bool)(l:LE bb)(yL0_6:Int×Int)(hself:∀(data:LE bb) (a b limit:Int) (uu:UT) (hh ww:PT) (r:(LE bb)),self_ data a b limit uu hh ww=some r->∀σ,p8 5 σ->j9 Tryz.prog (Y2 bb) (n7 σ [.gs 0 data.length,.int .i64 a,.int .i64 b,.int .i64 limit,.fn (w6 bb) [.ptr 1 0 0] []]) (p5 σ 0 (Q3 bb data uu hh ww)) ((Q5 bb r).ren σ) (p6 σ (Q4 bb uu hh ww r)))(k0:Int->Int->Int->Bool->Bool->(LE bb)->Option ((LE bb)))(hk0:∀(a2 b2 limit2:Int) (wasBalanced wasPartitioned:Bool) (l:LE bb) (r:(LE bb)),k0 a2 b2 limit2 wasBalanced wasPartitioned l=some r->a00 w0 W μ0 bb uu hh ww a2 b2 limit2 wasBalanced wasPartitioned l r)(r:(LE bb))(h:a72 bb data a b limit uu hh ww self_ a2 b2 limit2 wasBalanced wasPartitioned l yL0_6 k0=some r):c5X w0 W μ0 bb uu hh ww a2 b2 limit2 wasBalanced wasPartitioned l yL0_6 r:=by
 unfold a72 at h;rcases i5 h with⟨C1,h⟩|⟨C1,h⟩
 ·obtain⟨y3,E2,h⟩:=d6 h
  obtain⟨y4,E5,h⟩:=d6 h;rcases i5 h with⟨C6,h⟩|⟨C6,h⟩
  ·rcases i5 h with⟨C7,h⟩|⟨C7,h⟩
   ·obtain⟨G8,h⟩:=j6 h
    exact t7 hμ [] 27 [.reg [(1,hT)],.reg [(4,i6 (g9 [0,1,2,3,4] (a3k bb y3) (a4G bb l uu hh ww) (a3j bb uu hh ww y3)))],.reg [(5,j5 (.int .i64 y4))],.reg [],.reg [(1,hT),(4,hT)],.wk [(0,.gs 0 y3.length)] []]
     (q0 (q8 (f_ C1 tr)) (V1 (a6g bb l a2 b2 uu hh ww y3 E2 (f8 [0,1,2,3,4]) i1) (l0 (m6 bb l)) (n4 [.map 2,.map 3,.map 4] uu hh ww)) (N7 (S6 tr (n0 (LV.int .i64) E5))) (N6 tr (f_ C6 (b5 (f_ C7 (b4 (b5 tr))))) (q9 (A5 0 G8) tr))) (b3K bb hμ data a b limit uu hh ww self_ a2 b2 wasBalanced wasPartitioned hself k0 hk0 _ _ _ r h) uS
   ·obtain⟨G8,h⟩:=j6 h
    exact t7 hμ [] 29 [.reg [(1,hT)],.reg [(4,i6 (g9 [0,1,2,3,4] (a3k bb y3) (a4G bb l uu hh ww) (a3j bb uu hh ww y3)))],.reg [(5,j5 (.int .i64 y4))],.reg [],.reg [(1,hT),(4,hF)],.wk [(0,.gs 0 y3.length)] []]
     (q0 (q8 (f_ C1 tr)) (V1 (a6g bb l a2 b2 uu hh ww y3 E2 (f8 [0,1,2,3,4]) i1) (l0 (m6 bb l)) (n4 [.map 2,.map 3,.map 4] uu hh ww)) (N7 (S6 tr (n0 (LV.int .i64) E5))) (N6 tr (f_ C6 (b5 (f_ C7 (u5 (b4 tr))))) (q9 (A5 0 G8) tr))) (a3c bb hμ data a b limit uu hh ww self_ a2 b2 wasBalanced wasPartitioned hself k0 hk0 _ _ _ r h) uS
  ·obtain⟨G7,h⟩:=j6 h
   exact t7 hμ [] 29 [.reg [(1,hT)],.reg [(4,i6 (g9 [0,1,2,3,4] (a3k bb y3) (a4G bb l uu hh ww) (a3j bb uu hh ww y3)))],.reg [(5,j5 (.int .i64 y4))],.reg [],.reg [(1,hF)],.wk [(0,.gs 0 y3.length)] []]
    (q0 (q8 (f_ C1 tr)) (V1 (a6g bb l a2 b2 uu hh ww y3 E2 (f8 [0,1,2,3,4]) i1) (l0 (m6 bb l)) (n4 [.map 2,.map 3,.map 4] uu hh ww)) (N7 (S6 tr (n0 (LV.int .i64) E5))) (N6 tr (f_ C6 (a_ tr (b5 (u5 (b4 tr))))) (q9 (A5 0 G7) tr))) (a3c bb hμ data a b limit uu hh ww self_ a2 b2 wasBalanced wasPartitioned hself k0 hk0 _ _ _ r h) uS
 ·rcases i5 h with⟨C2,h⟩|⟨C2,h⟩
  ·rcases i5 h with⟨C3,h⟩|⟨C3,h⟩
   ·rcases i5 h with⟨C4,h⟩|⟨C4,h⟩
    ·obtain⟨yC11_6,E5,h⟩:=d6 h
     rcases i5 h with⟨C7,h⟩|⟨C7,h⟩
     ·obtain rfl:=i7 h
      exact I9 [] 22 [.reg [(1,hF)],.reg [(1,hT),(4,hT),(7,hT)],.reg [(4,{call:=some (g9 [0,1,2,3,4] (T9 bb yC11_6) (a4E bb l uu hh ww) (T8 bb uu hh ww yC11_6)),v:=some (.bool true)})]]
       (q3 (N6 (f_ C1 tr) (f_ C2 (b5 (f_ C3 (b5 (f_ C4 tr))))) (l9 (F8 (a_ (a6f bb l a2 b2 uu hh ww yC11_6 E5 (f8 [0,1,2,3,4]) i1) (a_ (l0 (m6 bb l)) (n4 [.map 2,.map 3,.map 4] uu hh ww))) (v6 C7)))))
     ·obtain⟨G8,h⟩:=j6 h
      exact t7 hμ [] 26 [.reg [(1,hF)],.reg [(1,hT),(4,hT),(7,hT)],.reg [(4,{call:=some (g9 [0,1,2,3,4] (T9 bb yC11_6) (a4E bb l uu hh ww) (T8 bb uu hh ww yC11_6)),v:=some (.bool false)})],.wk [(0,.gs 0 yC11_6.2.length)] []]
       (q6 (q8 (f_ C1 tr)) (f_ C2 (b5 (f_ C3 (b5 (f_ C4 tr))))) (l9 (F8 (a_ (a6f bb l a2 b2 uu hh ww yC11_6 E5 (f8 [0,1,2,3,4]) i1) (a_ (l0 (m6 bb l)) (n4 [.map 2,.map 3,.map 4] uu hh ww))) (v6 C7))) (K3 (A5 0 G8))) (a3c bb hμ data a b limit uu hh ww self_ a2 b2 wasBalanced wasPartitioned hself k0 hk0 _ _ _ r h) uS
    ·rcases i5 h with⟨C5,h⟩|⟨C5,h⟩
     ·obtain⟨G6,h⟩:=j6 h
      obtain⟨y7,E8,h⟩:=d6 h;obtain⟨G9,h⟩:=j6 h;obtain⟨y11,E10,h⟩:=d6 h;rcases i5 h with⟨C12,h⟩|⟨C12,h⟩
      ·exact t7 hμ [] 25 [.reg [(1,hF)],.reg [(1,hT),(4,hT),(7,hF)],.reg [(2,hT),(8,j5 ((u4 bb) y7)),(13,i6 (g9 [1,2,3,4] (H3 bb y11) (G0 bb uu hh ww) (H2 bb uu hh ww y11))),(16,hT)]]
        (N6 (f_ C1 tr) (f_ C2 (b5 (f_ C3 (b5 (f_ C4 tr))))) (b5 (f_ C5 (l9 (o8 (z_ bb) G6 (a_ (n0 (u4 bb) E8) tr) (b5 (o8 (z_ bb) G9 tr (a_ (a_ (a_ (H4 bb uu hh ww y7 (l.getD yL0_6.1.toNat default) y11 E10 (f8 [1,2,3,4]) i1) (n4 [.map 2,.map 3,.map 4] uu hh ww)) tr) (b5 (f_ C12 tr)))))))))) (a73 bb hμ data a b limit uu hh ww self_ a2 b2 wasBalanced wasPartitioned hself k0 hk0 _ _ _ r h) uS
      ·exact t7 hμ [] 26 [.reg [(1,hF)],.reg [(1,hT),(4,hT),(7,hF)],.reg [(2,hT),(8,j5 ((u4 bb) y7)),(13,i6 (g9 [1,2,3,4] (H3 bb y11) (G0 bb uu hh ww) (H2 bb uu hh ww y11))),(16,hF)]]
        (N6 (f_ C1 tr) (f_ C2 (b5 (f_ C3 (b5 (f_ C4 tr))))) (b5 (f_ C5 (l9 (o8 (z_ bb) G6 (a_ (n0 (u4 bb) E8) tr) (b5 (o8 (z_ bb) G9 tr (a_ (a_ (a_ (H4 bb uu hh ww y7 (l.getD yL0_6.1.toNat default) y11 E10 (f8 [1,2,3,4]) i1) (n4 [.map 2,.map 3,.map 4] uu hh ww)) tr) (b5 (f_ C12 tr)))))))))) (a6c bb hμ data a b limit uu hh ww self_ a2 b2 hself k0 hk0 _ _ _ r h) uS
     ·obtain⟨y8,E6,h⟩:=d6 h
      obtain⟨G9,h⟩:=j6 h;exact t7 hμ [] 30 [.reg [(1,hF)],.reg [(1,hT),(4,hT),(7,hF)],.reg [(2,hF)],.reg [(5,i6 (g9 [0,1,2,3,4] (O0 bb y8) (a3a bb l uu hh ww) (N9 bb uu hh ww y8)))],.wk [(0,.gs 0 y8.2.2.length)] []]
       (q6 (q8 (f_ C1 tr)) (f_ C2 (b5 (f_ C3 (b5 (f_ C4 tr))))) (b5 (f_ C5 (a_ tr (z8 (B3 (b4 tr)))))) (a_ (q8 (Y8 (a4C bb l a2 b2 yL0_6.1 uu hh ww y8 E6 (f8 [0,1,2,3,4]) i1) (l0 (m6 bb l)) (n4 [.map 2,.map 3,.map 4] uu hh ww))) (K3 (A5 0 G9)))) (b3L bb hμ data a b limit uu hh ww self_ a2 b2 limit2 y8 hself k0 hk0 r h) uS
   ·rcases i5 h with⟨C4,h⟩|⟨C4,h⟩
    ·obtain⟨G5,h⟩:=j6 h
     obtain⟨y7,E8,h⟩:=d6 h;obtain⟨G9,h⟩:=j6 h;obtain⟨y11,E10,h⟩:=d6 h;rcases i5 h with⟨C12,h⟩|⟨C12,h⟩
     ·exact t7 hμ [] 25 [.reg [(1,hF)],.reg [(1,hT),(4,hF)],.reg [(2,hT),(8,j5 ((u4 bb) y7)),(13,i6 (g9 [1,2,3,4] (H3 bb y11) (G0 bb uu hh ww) (H2 bb uu hh ww y11))),(16,hT)]]
       (N6 (f_ C1 tr) (f_ C2 (b5 (f_ C3 (u5 (b4 tr))))) (b5 (f_ C4 (l9 (o8 (z_ bb) G5 (a_ (n0 (u4 bb) E8) tr) (b5 (o8 (z_ bb) G9 tr (a_ (a_ (a_ (H4 bb uu hh ww y7 (l.getD yL0_6.1.toNat default) y11 E10 (f8 [1,2,3,4]) i1) (n4 [.map 2,.map 3,.map 4] uu hh ww)) tr) (b5 (f_ C12 tr)))))))))) (a73 bb hμ data a b limit uu hh ww self_ a2 b2 wasBalanced wasPartitioned hself k0 hk0 _ _ _ r h) uS
     ·exact t7 hμ [] 26 [.reg [(1,hF)],.reg [(1,hT),(4,hF)],.reg [(2,hT),(8,j5 ((u4 bb) y7)),(13,i6 (g9 [1,2,3,4] (H3 bb y11) (G0 bb uu hh ww) (H2 bb uu hh ww y11))),(16,hF)]]
       (N6 (f_ C1 tr) (f_ C2 (b5 (f_ C3 (u5 (b4 tr))))) (b5 (f_ C4 (l9 (o8 (z_ bb) G5 (a_ (n0 (u4 bb) E8) tr) (b5 (o8 (z_ bb) G9 tr (a_ (a_ (a_ (H4 bb uu hh ww y7 (l.getD yL0_6.1.toNat default) y11 E10 (f8 [1,2,3,4]) i1) (n4 [.map 2,.map 3,.map 4] uu hh ww)) tr) (b5 (f_ C12 tr)))))))))) (a6c bb hμ data a b limit uu hh ww self_ a2 b2 hself k0 hk0 _ _ _ r h) uS
    ·obtain⟨y8,E5,h⟩:=d6 h
     obtain⟨G9,h⟩:=j6 h;exact t7 hμ [] 30 [.reg [(1,hF)],.reg [(1,hT),(4,hF)],.reg [(2,hF)],.reg [(5,i6 (g9 [0,1,2,3,4] (O0 bb y8) (a3a bb l uu hh ww) (N9 bb uu hh ww y8)))],.wk [(0,.gs 0 y8.2.2.length)] []]
      (q6 (q8 (f_ C1 tr)) (f_ C2 (b5 (f_ C3 (u5 (b4 tr))))) (b5 (f_ C4 (a_ tr (z8 (B3 (b4 tr)))))) (a_ (q8 (Y8 (a4C bb l a2 b2 yL0_6.1 uu hh ww y8 E5 (f8 [0,1,2,3,4]) i1) (l0 (m6 bb l)) (n4 [.map 2,.map 3,.map 4] uu hh ww))) (K3 (A5 0 G9)))) (b3L bb hμ data a b limit uu hh ww self_ a2 b2 limit2 y8 hself k0 hk0 r h) uS
  ·rcases i5 h with⟨C3,h⟩|⟨C3,h⟩
   ·obtain⟨G4,h⟩:=j6 h
    obtain⟨y5,E6,h⟩:=d6 h;obtain⟨G7,h⟩:=j6 h;obtain⟨y9,E8,h⟩:=d6 h;rcases i5 h with⟨C10,h⟩|⟨C10,h⟩
    ·exact t7 hμ [] 25 [.reg [(1,hF)],.reg [(1,hF)],.reg [(2,hT),(8,j5 ((u4 bb) y5)),(13,i6 (g9 [1,2,3,4] (H3 bb y9) (G0 bb uu hh ww) (H2 bb uu hh ww y9))),(16,hT)]]
      (N6 (f_ C1 tr) (f_ C2 (a_ tr (b5 (u5 (b4 tr))))) (b5 (f_ C3 (l9 (o8 (z_ bb) G4 (a_ (n0 (u4 bb) E6) tr) (b5 (o8 (z_ bb) G7 tr (a_ (a_ (a_ (H4 bb uu hh ww y5 (l.getD yL0_6.1.toNat default) y9 E8 (f8 [1,2,3,4]) i1) (n4 [.map 2,.map 3,.map 4] uu hh ww)) tr) (b5 (f_ C10 tr)))))))))) (a73 bb hμ data a b limit uu hh ww self_ a2 b2 wasBalanced wasPartitioned hself k0 hk0 _ _ _ r h) uS
    ·exact t7 hμ [] 26 [.reg [(1,hF)],.reg [(1,hF)],.reg [(2,hT),(8,j5 ((u4 bb) y5)),(13,i6 (g9 [1,2,3,4] (H3 bb y9) (G0 bb uu hh ww) (H2 bb uu hh ww y9))),(16,hF)]]
      (N6 (f_ C1 tr) (f_ C2 (a_ tr (b5 (u5 (b4 tr))))) (b5 (f_ C3 (l9 (o8 (z_ bb) G4 (a_ (n0 (u4 bb) E6) tr) (b5 (o8 (z_ bb) G7 tr (a_ (a_ (a_ (H4 bb uu hh ww y5 (l.getD yL0_6.1.toNat default) y9 E8 (f8 [1,2,3,4]) i1) (n4 [.map 2,.map 3,.map 4] uu hh ww)) tr) (b5 (f_ C10 tr)))))))))) (a6c bb hμ data a b limit uu hh ww self_ a2 b2 hself k0 hk0 _ _ _ r h) uS
   ·obtain⟨y8,E4,h⟩:=d6 h
    obtain⟨G9,h⟩:=j6 h;exact t7 hμ [] 30 [.reg [(1,hF)],.reg [(1,hF)],.reg [(2,hF)],.reg [(5,i6 (g9 [0,1,2,3,4] (O0 bb y8) (a3a bb l uu hh ww) (N9 bb uu hh ww y8)))],.wk [(0,.gs 0 y8.2.2.length)] []]
     (q6 (q8 (f_ C1 tr)) (f_ C2 (a_ tr (b5 (u5 (b4 tr))))) (b5 (f_ C3 (a_ tr (z8 (B3 (b4 tr)))))) (a_ (q8 (Y8 (a4C bb l a2 b2 yL0_6.1 uu hh ww y8 E4 (f8 [0,1,2,3,4]) i1) (l0 (m6 bb l)) (n4 [.map 2,.map 3,.map 4] uu hh ww))) (K3 (A5 0 G9)))) (b3L bb hμ data a b limit uu hh ww self_ a2 b2 limit2 y8 hself k0 hk0 r h) uS
theorem c52(bb:Bool){w0 W μ0}(hμ:p4 μ0 5)(data:LE bb)(a b limit:Int)(uu:UT)(hh ww:PT)(self_:(LE bb)->Int->Int->Int->UT->PT->PT->Option ((LE bb)))(hself:∀(data:LE bb) (a b limit:Int) (uu:UT) (hh ww:PT) (r:(LE bb)),self_ data a b limit uu hh ww=some r->∀σ,p8 5 σ->j9 Tryz.prog (Y2 bb) (n7 σ [.gs 0 data.length,.int .i64 a,.int .i64 b,.int .i64 limit,.fn (w6 bb) [.ptr 1 0 0] []]) (p5 σ 0 (Q3 bb data uu hh ww)) ((Q5 bb r).ren σ) (p6 σ (Q4 bb uu hh ww r))):∀(fuel:Nat) (a2 b2 limit2:Int) (wasBalanced wasPartitioned:Bool) (l:LE bb) (r:(LE bb)),a0t bb data a b limit uu hh ww self_ fuel a2 b2 limit2 wasBalanced wasPartitioned l=some r->a00 w0 W μ0 bb uu hh ww a2 b2 limit2 wasBalanced wasPartitioned l r:=by
 intro fuel
 induction fuel with
 |zero=>intro a2 b2 limit2 wasBalanced wasPartitioned l r h;rw[a0t] at h;cases h
 |succ fuel ih=>
  intro a2 b2 limit2 wasBalanced wasPartitioned l r h;rw[a0t] at h;rcases i5 h with⟨C1,h⟩|⟨C1,h⟩
  ·obtain⟨y3,E2,h⟩:=d6 h
   obtain rfl:=i7 h;exact I9 [] 22 [.go,.reg [],.reg [(1,hT)],.reg [(4,i6 (g9 [0,1,2,3,4] (a6b bb y3) (b76 bb l uu hh ww) (a6a bb uu hh ww y3)))]]
    (q3 (q6 (l9 tr) (f_ C1 tr) (V1 (c5J bb l a2 b2 uu hh ww y3 E2 (f8 [0,1,2,3,4]) i1) (l0 (m6 bb l)) (n4 [.map 2,.map 3,.map 4] uu hh ww)) tr))
  ·rcases i5 h with⟨C2,h⟩|⟨C2,h⟩
   ·obtain⟨y4,E3,h⟩:=d6 h
    obtain rfl:=i7 h;exact I9 [] 28 [.go,.reg [],.reg [(1,hF)],.reg [(1,hT)],.reg [(4,i6 (g9 [0,1,2,3,4] (a94 bb y4) (b74 bb l uu hh ww) (a93 bb uu hh ww y4)))]]
     (q3 (q6 (l9 tr) (f_ C1 tr) (q8 (f_ C2 tr)) (q3 (V1 (c5E bb l a2 b2 uu hh ww y4 E3 (f8 [0,1,2,3,4]) i1) (l0 (m6 bb l)) (n4 [.map 2,.map 3,.map 4] uu hh ww)))))
   ·rcases i5 h with⟨C3,h⟩|⟨C3,h⟩
    ·obtain⟨y5,E4,h⟩:=d6 h
     obtain⟨G6,h⟩:=j6 h;exact t7 hμ [] 35 [.go,.reg [],.reg [(1,hF)],.reg [(1,hF)],.reg [(1,hT)],.reg [(4,i6 (g9 [0,1,2,3,4] (a7X bb y5) (b7X bb l uu hh ww) (a7W bb uu hh ww y5)))],.wk [(0,.gs 0 y5.length)] []]
      (q6 (l9 tr) (f_ C1 tr) (q8 (f_ C2 tr)) (q0 (q8 (f_ C3 tr)) (V1 (c5n bb l a2 b2 uu hh ww y5 E4 (f8 [0,1,2,3,4]) i1) (l0 (m6 bb l)) (n4 [.map 2,.map 3,.map 4] uu hh ww)) (q9 (A5 0 G6) tr) tr)) (c51 bb hμ data a b limit uu hh ww self_ a2 b2 limit2 wasBalanced wasPartitioned y5 hself (a0t bb data a b limit uu hh ww self_ fuel) ih r h) uS
    ·obtain⟨y6,E4,h⟩:=d6 h
     exact t7 hμ [] 37 [.go,.reg [],.reg [(1,hF)],.reg [(1,hF)],.reg [(1,hF)],.reg [(4,i6 (g9 [0,1,2,3,4] (Z4 bb y6) (a1K bb l uu hh ww) (Z3 bb l uu hh ww y6)))]]
      (q6 (l9 tr) (f_ C1 tr) (q8 (f_ C2 tr)) (q7 (q8 (f_ C3 tr)) (Y8 (a2Z bb l a2 b2 uu hh ww y6 E4 (f8 [0,1,2,3,4]) i1) (l0 (m6 bb l)) (n4 [.map 2,.map 3,.map 4] uu hh ww)))) (c5Y bb hμ data a b limit uu hh ww self_ a2 b2 limit2 wasBalanced wasPartitioned l y6 hself (a0t bb data a b limit uu hh ww self_ fuel) ih r h) uS
theorem c54(bb:Bool)(data:LE bb)(a b limit:Int)(uu:UT)(hh ww:PT)(self_:(LE bb)->Int->Int->Int->UT->PT->PT->Option ((LE bb)))(hself:∀(data:LE bb) (a b limit:Int) (uu:UT) (hh ww:PT) (r:(LE bb)),self_ data a b limit uu hh ww=some r->∀σ,p8 5 σ->j9 Tryz.prog (Y2 bb) (n7 σ [.gs 0 data.length,.int .i64 a,.int .i64 b,.int .i64 limit,.fn (w6 bb) [.ptr 1 0 0] []]) (p5 σ 0 (Q3 bb data uu hh ww)) ((Q5 bb r).ren σ) (p6 σ (Q4 bb uu hh ww r)))(r:(LE bb))(h:b0e bb data a b limit uu hh ww self_=some r):∀σ,p8 5 σ->j9 Tryz.prog (Y2 bb) (n7 σ [.gs 0 data.length,.int .i64 a,.int .i64 b,.int .i64 limit,.fn (w6 bb) [.ptr 1 0 0] []]) (p5 σ 0 (c53 bb data uu hh ww)) ((a0v bb r).ren σ) (p6 σ (a0u bb uu hh ww r)):=by
 refine o_ (c44 bb) (by cases bb<;>kernel_rfl) (by cases bb<;>kernel_rfl) (by cases bb<;>kernel_rfl) ⟨λ_ _=>by cases bb<;>rfl,rfl,uP,tr,tr,tr⟩ (by cases bb<;>kernel_rfl) ⟨λ_ _=>by cases bb<;>rfl,rfl,uP,tr,tr,tr⟩ (by cases bb<;>kernel_rfl) ?_;intro w0 W μ0 hμ;unfold b0e at h;exact t7 hμ [] 17 [.reg [],.reg []]
  (T7 (q8 tr)) (c52 bb hμ data a b limit uu hh ww self_ hself big _ _ _ _ _ _ r h) uS
theorem c55(bb:Bool):∀n_ (data:LE bb) (a b limit:Int) (uu:UT) (hh ww:PT) (r:(LE bb)),a6d bb n_ data a b limit uu hh ww=some r->∀σ,p8 5 σ->j9 Tryz.prog (Y2 bb) (n7 σ [.gs 0 data.length,.int .i64 a,.int .i64 b,.int .i64 limit,.fn (w6 bb) [.ptr 1 0 0] []]) (p5 σ 0 (Q3 bb data uu hh ww)) ((Q5 bb r).ren σ) (p6 σ (Q4 bb uu hh ww r)):=by
 intro n_
 induction n_ with
 |zero=>intro data a b limit uu hh ww r h;cases h
 |succ n_ ih=>intro data a b limit uu hh ww r h;exact c54 bb data a b limit uu hh ww (a6d bb n_) ih r h
theorem b8e(bb:Bool)(data:LE bb)(a b limit:Int)(uu:UT)(hh ww:PT)(r:(LE bb))(h:sPD bb data a b limit uu hh ww=some r):∀σ,p8 5 σ->j9 Tryz.prog (Y2 bb) (n7 σ [.gs 0 data.length,.int .i64 a,.int .i64 b,.int .i64 limit,.fn (w6 bb) [.ptr 1 0 0] []]) (p5 σ 0 (Q3 bb data uu hh ww)) ((Q5 bb r).ren σ) (p6 σ (Q4 bb uu hh ww r)):=c55 bb big data a b limit uu hh ww r h
theorem b7Z(x:List TX)(uu:UT)(hh ww:PT)(r:(List TX))(h:sFA x uu hh ww=some r):∀σ,p8 5 σ->j9 Tryz.prog 52 (n7 σ [.gs 0 x.length,.fn 53 [.ptr 1 0 0] []]) (p5 σ 0 (b3z x uu hh ww)) ((b3B r).ren σ) (p6 σ (b3A uu hh ww r)):=by
 refine u7 Tryz.func52 ⟨λ_ _=>rfl,rfl,uP,tr,tr,tr⟩ ⟨λ_ _=>rfl,rfl,uP,tr,tr,tr⟩ ?_;intro w0 W μ0 hμ;unfold sFA at h;obtain⟨y2,e1,h⟩:=d6 h;obtain⟨y4,e3,h⟩:=d6 h;obtain rfl:=i7 h;exact l8 [] 14 [.reg [],.reg [(4,hC (a7g y2)),(6,i6 (g9 [0,1,2,3,4] (Q5 false y4) (Q3 false x uu hh ww) (Q4 false uu hh ww y4)))]]
  (Z0 (l9 (K1 (q3 (b2B (IntKind.wrap .u64 (x.length:Int)) y2 e1)) (b8e false x 0 (x.length:Int) y2 uu hh ww y4 e3 (f8 [0,1,2,3,4]) i1) (l0 (.gr 3 x.length (b6 f5 default x))) (n4 [.map 2,.map 3,.map 4] uu hh ww))))
def b2s(r:Unit):LV:=.bool true
def a7e(x0:Int):Option Unit:=
 some ()
theorem c2B(x0:Int)(r:Unit)(h:a7e x0=some r):∀σ,p8 0 σ->j9 Tryz.prog 72 (n7 σ [.int .u8 x0]) (p5 σ 0 []) ((b2s r).ren σ) (p6 σ []):=by
 refine u7 Tryz.func72 tr tr ?_;intro w0 W μ0 hμ;unfold a7e at h;obtain rfl:=i7 h;exact l8 [] 15 [.reg [],.reg []]
  (Y9 (q8 tr))
theorem c2C(x0:Int)(r:Unit)(h:a7e x0=some r):j9 Tryz.prog 72 [.int .u8 x0] [] (b2s r) []:=j9.none (c2B x0 r h) rfl rfl
def b16(r:Bool):LV:=.bool r
def b15(x2:TX)(r:Bool):i9:=[(0,some (.var (f5 x2))),(1,some (.var [.fn 72 [] []]))]
def b14(x2:TX):List LO:=[.var (f5 x2),.var [.fn 72 [] []]]
def a8U(s:TL)(mode:Int)(x2:TX):Option Bool:=
 if decide (s.m9=x2) then
  (a7e mode).bind λy3=>
  some true
 else
  some false
theorem b6c(s:TL)(mode:Int)(x2:TX)(r:Bool)(h:a8U s mode x2=some r):∀σ,p8 2 σ->j9 Tryz.prog 62 (n7 σ [p9 s,.int .u8 mode,.ptr 0 0 0,.ptr 1 0 0]) (p5 σ 0 (b14 x2)) ((b16 r).ren σ) (p6 σ (b15 x2 r)):=by
 refine u7 Tryz.func62 ⟨rfl,rfl,tr⟩ ⟨rfl,rfl,tr⟩ ?_;intro w0 W μ0 hμ;unfold a8U at h;rcases i5 h with⟨c1,h⟩|⟨c1,h⟩
 ·obtain⟨y3,e2,h⟩:=d6 h
  obtain rfl:=i7 h;exact l8 [] 15 [.reg [],.reg [(3,j5 (.bool (decide (s.m9=x2)))),(4,hT),(7,hC (b2s y3))]]
   (X0 (m_ 3 11 rfl (m_ 3 3 rfl (a_ (a_ tr (a_ (v6 (t6 s.m9 x2)) tr)) (f_ c1 (l_ 0 1 rfl (b4 (c_ (c2C mode y3 e2) (b5 tr)))))))))
 ·obtain rfl:=i7 h
  exact l8 [] 15 [.reg [],.reg [(3,j5 (.bool (decide (s.m9=x2)))),(4,hF)]]
   (X0 (m_ 3 11 rfl (m_ 3 3 rfl (a_ (a_ tr (a_ (v6 (t6 s.m9 x2)) tr)) (f_ c1 (a_ tr (u5 (b5 tr))))))))
def b2x(r:PT):LV:=.tup []
def b2w(c:TX)(r:PT):i9:=[(0,some (b9 r)),(1,some (.var (f5 c))),(2,some (.var [.fn 72 [] []]))]
def b6z(m:PT)(c:TX):List LO:=[b9 m,.var (f5 c),.var [.fn 72 [] []]]
def a2v(m:PT)(c:TX):Nat->PT->PT->Option PT
 |0,_,_=>none
 |fuel+1,m2,rest=>
  if List.isEmpty rest then
   some m2
  else a0B rest λa1 rs2=>
   (a8U a1.1 a1.2 c).bind λy4=>
   if y4 then
    if f9 rs2 a1.1=none then
    a2v m c fuel (B1 m2 a1.1) rs2
    else none
   else
    a2v m c fuel m2 rs2
def mDF(m:PT)(c:TX):Option PT:=
 a2v m c big m m
abbrev c2L(c:TX)(m2 rest:PT)(r:PT):Prop:=p3 w0 W μ0 Tryz.f61 3 3 (b2x r) (b2w c r) (z6 (o9 Tryz.f61) 0) ((.map 0)::(.fn 62 [] [.ptr 1 0 0,.ptr 2 0 0])::n_ 5 ((.ptr 3 0 0)::n_ 11 [])) [none,some (.var (f5 c)),some (.var [.fn 72 [] []]),some (.mit 0 true x5 (x9 p9 (LV.int .u8) m2) none (x9 p9 (LV.int .u8) rest))]
theorem c2M{w0 W μ0}(hμ:p4 μ0 3)(m:PT)(c:TX):∀(fuel:Nat) (m2 rest:PT) (r:PT),a2v m c fuel m2 rest=some r->c2L w0 W μ0 c m2 rest r:=by
 intro fuel
 induction fuel with
 |zero=>intro m2 rest r h;rw[a2v] at h;cases h
 |succ fuel ih=>
  intro m2 rest r h;rw[a2v] at h;refine a6Y (it:=7) (t1:=8) (t2:=9) (d:=3) (m:=0) (ag:=true) (ks:=x5) (es:=x9 p9 (LV.int .u8) m2) p9 (LV.int .u8) rest (by kernel_rfl) (by kernel_rfl) (by kernel_rfl) (by kernel_rfl) (λhn_=>?_) (λi_ a1 hi_=>?_)
  ·rw[if_pos (a7T hn_)] at h
   refine k_x (t:=.mitz 3) (foot:=[3]) (up:=[(3,none),(0,some (.map true x5 (x9 p9 (LV.int .u8) m2)))]) rfl (by kernel_rfl) (show 0≠3 from by decide) ?_;obtain rfl:=i7 h;exact l8 [] 12 []
    (q3 tr)
  ·rw[if_neg (a7U hi_)] at h
   replace h:=a6x h hi_
   generalize rest.eraseIdx i_=rs2 at h⊢;obtain⟨y4,E3,h⟩:=d6 h;rcases i5 h with⟨C5,h⟩|⟨C5,h⟩
   ·obtain⟨G6,h⟩:=j6 h
    exact n3 hμ [3] 23 [.reg [],.reg [(3,{call:=some (g9 [1,2] (b16 y4) (b14 c) (b15 c y4)),v:=some (.bool true)})],.reg [(2,{app:=1003,os:=[(3,.mit 0 true x5 (x9 p9 (LV.int .u8) (B1 m2 a1.1)) none (x9 p9 (LV.int .u8) rs2))]})]]
     (q6 (J1 (e_ 11) (a_ (d8 11 11 rfl) (e_ 0)) tr) (m_ 11 11 rfl (b4 (a_ (a_ (a_ (b6c a1.1 a1.2 c y4 E3 (f8 [1,2]) i1) (a_ (l0 (.var (f5 c))) (a_ (l0 (.var [.fn 72 [] []])) tr))) (a_ (v6 C5) tr)) tr))) (q8 (m_ 11 11 rfl (a_ (a_ (b4P (ev:=(LV.int .u8)) (ag:=true) (ks:=x5) p9 L9 (λ_=>rfl) G6) (a_ (b6K p9 L9 (ev:=(LV.int .u8)) 0 true x5 m2 rs2 a1.1) tr)) tr))) tr) (ih _ _ r h) ⟨rfl,rfl,j4 0 4 rfl,tr⟩
   ·exact n3 hμ [3] 23 [.reg [],.reg [(3,{call:=some (g9 [1,2] (b16 y4) (b14 c) (b15 c y4)),v:=some (.bool false)})],.x (.mitn 3)]
     (q6 (J1 (e_ 11) (a_ (d8 11 11 rfl) (e_ 0)) tr) (m_ 11 11 rfl (b4 (a_ (a_ (a_ (b6c a1.1 a1.2 c y4 E3 (f8 [1,2]) i1) (a_ (l0 (.var (f5 c))) (a_ (l0 (.var [.fn 72 [] []])) tr))) (a_ (v6 C5) tr)) tr))) tr tr) (ih _ _ r h) ⟨rfl,rfl,j4 0 4 rfl,tr⟩
end
end Go.Proofs.YtddgjfclpknkcaaGreatDoor.Wk
