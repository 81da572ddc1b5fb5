import Derived.Test.YtddgjfclpknkcaaGreatDoorLckWb
namespace Go.Proofs.YtddgjfclpknkcaaGreatDoor.Wk
open Go Go.Cn Go.RowKit
set_option maxRecDepth 100000
set_option maxHeartbeats 4000000
set_option linter.unusedVariables false
set_option linter.unusedSimpArgs false
noncomputable section
variable (w0:World)(W:Nat->Prop)(μ0:d5)
theorem c2N(m:PT)(c:TX)(r:PT)(h:mDF m c=some r):∀σ,p8 3 σ->j9 Tryz.prog 61 (n7 σ [.map 0,.fn 62 [] [.ptr 1 0 0,.ptr 2 0 0]]) (p5 σ 0 (b6z m c)) ((b2x r).ren σ) (p6 σ (b2w c r)):=by
 refine u7 Tryz.func61 ⟨tr,rfl,rfl,tr⟩ ⟨tr,rfl,rfl,tr⟩ ?_;intro w0 W μ0 hμ;unfold mDF at h;exact n3 hμ [3] 14 [.reg []]
  (q3 (b5 tr)) (c2M hμ m c big _ _ r h) ⟨rfl,rfl,j4 0 4 rfl,tr⟩
def b19(r:PT):LV:=.tup []
def b18(r:PT):i9:=[(0,some (b9 r))]
def b17(p:PT):List LO:=[b9 p]
def a5c(p:PT)(x:TX):Option PT:=
 (mDF p x).bind λy2=>
 some y2
theorem b6d(p:PT)(x:TX)(r:PT)(h:a5c p x=some r):∀σ,p8 1 σ->j9 Tryz.prog 37 (n7 σ [.map 0,i8 x,.fn 72 [] []]) (p5 σ 0 (b17 p)) ((b19 r).ren σ) (p6 σ (b18 r)):=by
 refine u7 Tryz.func37 ⟨tr,tr⟩ ⟨tr,tr⟩ ?_;intro w0 W μ0 hμ;unfold a5c at h;obtain⟨y2,e1,h⟩:=d6 h;obtain rfl:=i7 h;exact l8 [] 14 [.reg [],.reg [(2,i6 (g9 [0,1,2] (b2x y2) (b6z p x) (b2w x y2)))]]
  (F8 (b5 tr) (b5 (q9 (E0 (c2N p x y2 e1 (f8 [0,1,2]) i1) (l0 (b9 p)) (l0 (.var (f5 x))) (l0 (.var [.fn 72 [] []]))) tr)))
def b2o(r:UT×PT×PT):LV:=.tup []
def b2n(r:UT×PT×PT):i9:=[(0,some (.var [.map 1,.map 2,.map 3])),(1,some (m7 r.1 [])),(2,some (b9 r.2.1)),(3,some (b9 r.2.2))]
def b2m(uu:UT)(hh ww:PT):List LO:=[.var [.map 1,.map 2,.map 3],m7 uu [],b9 hh,b9 ww]
def a5q(uu:UT)(hh ww:PT)(x:TX):Option (UT×PT×PT):=
 (a5c hh x).bind λy2=>
 (a5c ww x).bind λy4=>
 some ((B1 uu x),y2,y4)
theorem b6n(uu:UT)(hh ww:PT)(x:TX)(r:UT×PT×PT)(h:a5q uu hh ww x=some r):∀σ,p8 4 σ->j9 Tryz.prog 44 (n7 σ [.ptr 0 0 0,i8 x]) (p5 σ 0 (b2m uu hh ww)) ((b2o r).ren σ) (p6 σ (b2n r)):=by
 refine u7 Tryz.func44 ⟨rfl,uP,tr,tr,tr⟩ ⟨rfl,uP,tr,tr,tr⟩ ?_;intro w0 W μ0 hμ;unfold a5q at h;obtain⟨y2,e1,h⟩:=d6 h;obtain⟨y4,e3,h⟩:=d6 h;obtain rfl:=i7 h;exact l8 [] 20 [.reg [],.reg [(5,{os:=[(1,m7 (B1 uu x) [])]})],.reg [(5,i6 (g9 [2] (b19 y2) (b17 hh) (b18 y2)))],.reg [(5,i6 (g9 [3] (b19 y4) (b17 ww) (b18 y4)))]]
  (q3 (E0 (q8 tr) (q2 (l_ 0 3 rfl (m_ 3 3 rfl (a_ (a_ (e_ true) (a_ (c3V i8 n9 t6 true F1 [] uu x) tr)) tr)))) (q2 (l_ 1 3 rfl (m_ 3 3 rfl (a_ (a_ (a_ (b6d hh x y2 e1 (f8 [2]) i1) (a_ (l0 (b9 hh)) tr)) tr) tr)))) (q2 (l_ 2 3 rfl (m_ 3 3 rfl (a_ (a_ (a_ (b6d ww x y4 e3 (f8 [3]) i1) (a_ (l0 (b9 ww)) tr)) tr) tr))))))
def a5u(r:(List TX)×UT×PT×PT):LV:=.ds 3 r.1.length (b6 f5 default r.1)
def a5t(r:(List TX)×UT×PT×PT):i9:=[(0,some (.var [.map 1,.map 2,.map 3])),(1,some (m7 r.2.1 [])),(2,some (b9 r.2.2.1)),(3,some (b9 r.2.2.2))]
def b2q(uu:UT)(hh ww:PT):List LO:=[.var [.map 1,.map 2,.map 3],m7 uu [],b9 hh,b9 ww]
def a3Z(uu:UT)(hh ww:PT)(s:TL)(l:List TX)(y3:(List TX)):Nat->Int->UT->PT->PT->Option ((List TX)×UT×PT×PT)
 |0,_,_,_,_=>none
 |fuel+1,t77,us,m,m2=>
  if decide (t77<(l.length:Int)) then
   if 0<=t77/\t77<(y3.length:Int) then
   (a5q us m m2 (y3.getD t77.toNat default)).bind λy4=>
   a3Z uu hh ww s l y3 fuel (IntKind.wrap .i64 (t77+1)) y4.1 y4.2.1 y4.2.2
   else none
  else
   some (y3,us,m,m2)
def a0h(uu:UT)(hh ww:PT)(s:TL)(y2:(j7 TX))(l1:List TX):Nat->Int->(List TX)->Option ((List TX)×UT×PT×PT)
 |0,_,_=>none
 |fuel+1,t25,l=>
  if decide (t25<(y2.length:Int)) then
   if 0<=t25/\t25<(l1.length:Int) then
   if !decide ((l1.getD t25.toNat default)=s.m9) then
    if(f9 uu (l1.getD t25.toNat default)).isSome then
     (f9 uu (l1.getD t25.toNat default)).bind λy5=>
     if !y5.a07 then
      (a69 uu (l1.getD t25.toNat default) y5 hh ww s.m9 (l1.getD t25.toNat default)).bind λy9=>
      if decide (y9<0) then
       (some (TL.mk (l1.getD t25.toNat default) s.o7)).bind λy11=>
       (a2r ((f9 ww s).getD default) ((f9 hh y11).getD default)).bind λy14=>
       if y14 then
        if(l.length+(([(l1.getD t25.toNat default)]:List TX)).length) * 12<=140737488351232 then
        a0h uu hh ww s y2 l1 fuel (IntKind.wrap .i64 (t25+1)) (l++([(l1.getD t25.toNat default)]:List TX))
        else none
       else
        a0h uu hh ww s y2 l1 fuel (IntKind.wrap .i64 (t25+1)) l
      else
       a0h uu hh ww s y2 l1 fuel (IntKind.wrap .i64 (t25+1)) l
     else
      a0h uu hh ww s y2 l1 fuel (IntKind.wrap .i64 (t25+1)) l
    else
     none
   else
    a0h uu hh ww s y2 l1 fuel (IntKind.wrap .i64 (t25+1)) l
   else none
  else
   (sFA l uu hh ww).bind λy3=>
   if l.length=y3.length then
   a3Z uu hh ww s l y3 big 0 uu hh ww
   else none
def a9a(uu:UT)(hh ww:PT)(s:TL)(y2:(j7 TX))(q:j7 TX):Option ((List TX)×UT×PT×PT):=
 a0e q λl1=>
 a0h uu hh ww s y2 l1 big 0 ([]:List TX)
def a3Y(uu:UT)(hh ww:PT)(s:TL):Option ((List TX)×UT×PT×PT):=
 (a1j hh s.o7).bind λy2=>
 a9a uu hh ww s y2 y2
abbrev c2o(l:List TX)(y3:(List TX))(t77:Int)(us:UT)(m m2:PT)(r:(List TX)×UT×PT×PT):Prop:=p3 w0 W μ0 Tryz.f59 4 4 (a5u r) (a5t r) (z6 (o9 Tryz.f59) 1) ((.ptr 0 0 0)::n_ 5 ((.gs 4 y3.length)::n_ 68 ((.gs 4 y3.length)::(.int .i64 (l.length:Int))::(.int .i64 t77)::n_ 8 []))) [some (.var [.map 1,.map 2,.map 3]),some (m7 us []),some (b9 m),some (b9 m2),some (.gr 3 y3.length (b6 f5 default y3))]
abbrev c2n(uu:UT)(hh ww:PT)(s:TL)(y2:(j7 TX))(l1:List TX)(t25:Int)(l:List TX)(r:(List TX)×UT×PT×PT):Prop:=p3 w0 W μ0 Tryz.f59 4 4 (a5u r) (a5t r) (z6 (o9 Tryz.f59) 0) ((.ptr 0 0 0):: .any:: .any::(.ptr 4 0 0):: .any::(.int .u8 ((f9 ww s).getD default))::(.gs 5 l.length)::n_ 16 ((.gs 6 l1.length)::(.int .i64 (y2.length:Int))::(.int .i64 t25)::n_ 60 [])) [some (.var [.map 1,.map 2,.map 3]),some (m7 uu []),some (b9 hh),some (b9 ww),some (.var (L1 s)),some (.gr 3 l.length (b6 f5 default l)),some (.gr 3 l1.length (b6 f5 default l1))]
theorem c2r{w0 W μ0}(hμ:p4 μ0 4)(uu:UT)(hh ww:PT)(s:TL)(l:List TX)(y3:(List TX)):∀(fuel:Nat) (t77:Int) (us:UT) (m m2:PT) (r:(List TX)×UT×PT×PT),a3Z uu hh ww s l y3 fuel t77 us m m2=some r->c2o w0 W μ0 l y3 t77 us m m2 r:=by
 intro fuel
 induction fuel with
 |zero=>intro t77 us m m2 r h;rw[a3Z] at h;cases h
 |succ fuel ih=>
  intro t77 us m m2 r h;rw[a3Z] at h;rcases i5 h with⟨C1,h⟩|⟨C1,h⟩
  ·obtain⟨G2,h⟩:=j6 h
   obtain⟨y4,E3,h⟩:=d6 h;exact n3 hμ [4] 26 [.go,.reg [(0,hT)],.reg [],.reg [(2,i6 (g9 [0,1,2,3] (b2o y4) (b2m us m m2) (b2n y4)))],.reg []]
    (V3 (f_ C1 tr) (o8 3 G2 tr (b4 (a_ (a_ (a_ (e_ 3) (a_ (d8 3 3 rfl) (e_ 0))) tr) tr))) (q8 (m_ 3 3 rfl (a_ (a_ (a_ (b6n us m m2 (y3.getD t77.toNat default) y4 E3 (f8 [0,1,2,3]) i1) (n4 [.map 1,.map 2,.map 3] us m m2)) tr) tr)))) (ih _ _ _ _ r h) ⟨rfl,uP,tr,tr,λ_ _=>rfl,tr⟩
  ·obtain rfl:=i7 h
   exact l8 [] 20 [.go,.reg [(0,hF)],.reg [],.frz 4]
    (q3 (B6 (f_ C1 tr) tr (q0 (J2 (enc:=f5) (d:=default) (λ_=>rfl) y3) (m8 y3.length) (m8 y3.length) (q7 (m8 y3.length) (m8 y3.length))) tr))
theorem c2q{w0 W μ0}(hμ:p4 μ0 4)(uu:UT)(hh ww:PT)(s:TL)(y2:(j7 TX))(l1:List TX):∀(fuel:Nat) (t25:Int) (l:List TX) (r:(List TX)×UT×PT×PT),a0h uu hh ww s y2 l1 fuel t25 l=some r->c2n w0 W μ0 uu hh ww s y2 l1 t25 l r:=by
 intro fuel
 induction fuel with
 |zero=>intro t25 l r h;rw[a0h] at h;cases h
 |succ fuel ih=>
  intro t25 l r h;rw[a0h] at h;rcases i5 h with⟨C1,h⟩|⟨C1,h⟩
  ·obtain⟨G2,h⟩:=j6 h
   rcases i5 h with⟨C3,h⟩|⟨C3,h⟩
   ·rcases i5 h with⟨C4,h⟩|⟨C4,h⟩
    ·obtain⟨y5,E6,h⟩:=d6 h
     rcases i5 h with⟨C7,h⟩|⟨C7,h⟩
     ·obtain⟨y9,E8,h⟩:=d6 h
      rcases i5 h with⟨C10,h⟩|⟨C10,h⟩
      ·obtain⟨y11,E12,h⟩:=d6 h
       obtain⟨y14,E13,h⟩:=d6 h;rcases i5 h with⟨C15,h⟩|⟨C15,h⟩
       ·obtain⟨G16,h⟩:=j6 h
        exact n3 hμ [4,10,6] 33 [.go,.reg [(0,hT)],.reg [],.x (.p (.po 1 (i8 (l1.getD t25.toNat default)) (n9 y5))),.reg [(3,j5 (.bool (!decide ((l1.getD t25.toNat default)=s.m9)))),(4,hT),(10,{look:=some (.ptr 8 0 0)}),(16,hT),(21,i6 (g9 [0,1,8,2,3] (a86 y9) (a84 uu (l1.getD t25.toNat default) y5 hh ww) (a85 uu (l1.getD t25.toNat default) y5 hh ww y9))),(24,hT),(33,j5 (p9 y11)),(34,{look:=((f9 hh y11).map (LV.int .u8)),v:=some (.int .u8 ((f9 hh y11).getD default))}),(35,hC (a2s y14)),(36,hT)],.x (.p (.pc 1)),.wk [] [(1,m7 uu [])],.reg [(2,{os:=[(9,.gr 3 (([(l1.getD t25.toNat default)]:List TX)).length (b6 f5 default ([(l1.getD t25.toNat default)]:List TX)))],v:=some (.gs 9 (([(l1.getD t25.toNat default)]:List TX)).length)}),(3,{app:=3,os:=[(10,.gr 3 ((l++([(l1.getD t25.toNat default)]:List TX))).length (b6 f5 default (l++([(l1.getD t25.toNat default)]:List TX))))],v:=some (.gs 10 ((l++([(l1.getD t25.toNat default)]:List TX))).length)})],.reg []]
         (q0 (f_ C1 tr) (o8 3 G2 tr (b4 (a_ (a_ (a_ (e_ 3) (a_ (d8 3 3 rfl) (e_ 0))) tr) tr))) (a_ (Q0 i8 n9 E6) (Q1 i8 (l1.getD t25.toNat default))) (q0 (m_ 3 3 rfl (b4 (m_ 3 11 rfl (a_ (a_ tr (a_ (v6 (congrArg not (t6 (l1.getD t25.toNat default) s.m9))) tr)) (f_ C3 (b4 (b5 (l_ 0 3 rfl (m_ 3 3 rfl (a_ (a_ (a_ (e_ true) (a_ (N5 i8 n9 t6 uu (l1.getD t25.toNat default) (isS E6)) (List.mem_cons_self (a:=((i8 (l1.getD t25.toNat default),8):LV×Nat)) (l:=[])))) tr) (b5 (l_ 4 5 rfl (b5 (f_ C7 (b5 (m_ 3 11 rfl (m_ 3 3 rfl (a_ (a_ (a_ (b2l uu (l1.getD t25.toNat default) y5 hh ww s.m9 (l1.getD t25.toNat default) y9 E8 (f8 [0,1,8,2,3]) i1) (a_ (l0 (.var [.map 1,.map 2,.map 3])) (a_ (e_ (m7 uu [(i8 (l1.getD t25.toNat default),8)]:LO)) (a_ (l0 (.var (n9 y5))) (a_ (l0 (b9 hh)) (a_ (l0 (b9 ww)) tr)))))) tr) (b5 (f_ C10 (l9 (l_ 1 3 rfl (m_ 3 3 rfl (b4 (m_ 11 11 rfl (a_ (a_ (e_ true) (a_ (n0 p9 E12) tr)) (a_ (a_ (a_ (e_ true) (Q8 p9 (LV.int .u8) L9 hh y11)) (a_ (R1 (LV.int .u8) (f9 hh y11) default) tr)) (a_ (a_ (a_ (a5w ((f9 ww s).getD default) ((f9 hh y11).getD default) y14 E13) tr) tr) (f_ C15 tr))))))))))))))))))))))))))))) (q0 (P8 i8 n9 t6 uu (l1.getD t25.toNat default) E6) (e_ true) (e_ true) (show 1≠8 from by decide)) (q7 tr (R2 i8 n9 t6 true F1 [] (m:=uu) (k:=(l1.getD t25.toNat default)) E6)) (q7 (q8 (m_ 3 3 rfl (a_ (a_ (a_ (e_ true) (a_ (e_ 3) (a_ (j4 0 3 rfl) (d8 3 16777216 rfl)))) (a_ (L5 9 1 (some 1) rfl) (a_ (L6 f5 default 3 (λ_=>rfl) ([(l1.getD t25.toNat default)]:List TX)) tr))) (a_ (a_ (a_ (a_ (e_ 3) (m8 (([(l1.getD t25.toNat default)]:List TX)).length)) (a_ (a_ (j4 0 3 rfl) (a_ (j4 0 12 rfl) (a_ G16 (a_ (e_ 3) (e_ true))))) (a_ (e_ 3) (m8 l.length)))) (a_ (J6 10 l ([(l1.getD t25.toNat default)]:List TX)) (a_ (J9 f5 default 3 l ([(l1.getD t25.toNat default)]:List TX)) tr))) (b4 tr))))) (b5 tr)))) (ih _ _ r h) ⟨rfl,uP,tr,tr,rfl,λ_ _=>rfl,λ_ _=>rfl,tr⟩
       ·exact n3 hμ [4,5,6] 32 [.go,.reg [(0,hT)],.reg [],.x (.p (.po 1 (i8 (l1.getD t25.toNat default)) (n9 y5))),.reg [(3,j5 (.bool (!decide ((l1.getD t25.toNat default)=s.m9)))),(4,hT),(10,{look:=some (.ptr 8 0 0)}),(16,hT),(21,i6 (g9 [0,1,8,2,3] (a86 y9) (a84 uu (l1.getD t25.toNat default) y5 hh ww) (a85 uu (l1.getD t25.toNat default) y5 hh ww y9))),(24,hT),(33,j5 (p9 y11)),(34,{look:=((f9 hh y11).map (LV.int .u8)),v:=some (.int .u8 ((f9 hh y11).getD default))}),(35,hC (a2s y14)),(36,hF)],.x (.p (.pc 1)),.wk [] [(1,m7 uu [])],.reg []]
         (q0 (f_ C1 tr) (o8 3 G2 tr (b4 (a_ (a_ (a_ (e_ 3) (a_ (d8 3 3 rfl) (e_ 0))) tr) tr))) (a_ (Q0 i8 n9 E6) (Q1 i8 (l1.getD t25.toNat default))) (V3 (m_ 3 3 rfl (b4 (m_ 3 11 rfl (a_ (a_ tr (a_ (v6 (congrArg not (t6 (l1.getD t25.toNat default) s.m9))) tr)) (f_ C3 (b4 (b5 (l_ 0 3 rfl (m_ 3 3 rfl (a_ (a_ (a_ (e_ true) (a_ (N5 i8 n9 t6 uu (l1.getD t25.toNat default) (isS E6)) (List.mem_cons_self (a:=((i8 (l1.getD t25.toNat default),8):LV×Nat)) (l:=[])))) tr) (b5 (l_ 4 5 rfl (b5 (f_ C7 (b5 (m_ 3 11 rfl (m_ 3 3 rfl (a_ (a_ (a_ (b2l uu (l1.getD t25.toNat default) y5 hh ww s.m9 (l1.getD t25.toNat default) y9 E8 (f8 [0,1,8,2,3]) i1) (a_ (l0 (.var [.map 1,.map 2,.map 3])) (a_ (e_ (m7 uu [(i8 (l1.getD t25.toNat default),8)]:LO)) (a_ (l0 (.var (n9 y5))) (a_ (l0 (b9 hh)) (a_ (l0 (b9 ww)) tr)))))) tr) (b5 (f_ C10 (l9 (l_ 1 3 rfl (m_ 3 3 rfl (b4 (m_ 11 11 rfl (a_ (a_ (e_ true) (a_ (n0 p9 E12) tr)) (a_ (a_ (a_ (e_ true) (Q8 p9 (LV.int .u8) L9 hh y11)) (a_ (R1 (LV.int .u8) (f9 hh y11) default) tr)) (a_ (a_ (a_ (a5w ((f9 ww s).getD default) ((f9 hh y11).getD default) y14 E13) tr) tr) (f_ C15 tr))))))))))))))))))))))))))))) (q0 (P8 i8 n9 t6 uu (l1.getD t25.toNat default) E6) (e_ true) (e_ true) (show 1≠8 from by decide)) (q7 tr (R2 i8 n9 t6 true F1 [] (m:=uu) (k:=(l1.getD t25.toNat default)) E6)))) (ih _ _ r h) ⟨rfl,uP,tr,tr,rfl,λ_ _=>rfl,λ_ _=>rfl,tr⟩
      ·exact n3 hμ [4,5,6] 32 [.go,.reg [(0,hT)],.reg [],.x (.p (.po 1 (i8 (l1.getD t25.toNat default)) (n9 y5))),.reg [(3,j5 (.bool (!decide ((l1.getD t25.toNat default)=s.m9)))),(4,hT),(10,{look:=some (.ptr 8 0 0)}),(16,hT),(21,i6 (g9 [0,1,8,2,3] (a86 y9) (a84 uu (l1.getD t25.toNat default) y5 hh ww) (a85 uu (l1.getD t25.toNat default) y5 hh ww y9))),(24,hF)],.x (.p (.pc 1)),.wk [] [(1,m7 uu [])],.reg []]
        (q0 (f_ C1 tr) (o8 3 G2 tr (b4 (a_ (a_ (a_ (e_ 3) (a_ (d8 3 3 rfl) (e_ 0))) tr) tr))) (a_ (Q0 i8 n9 E6) (Q1 i8 (l1.getD t25.toNat default))) (V3 (m_ 3 3 rfl (b4 (m_ 3 11 rfl (a_ (a_ tr (a_ (v6 (congrArg not (t6 (l1.getD t25.toNat default) s.m9))) tr)) (f_ C3 (b4 (b5 (l_ 0 3 rfl (m_ 3 3 rfl (a_ (a_ (a_ (e_ true) (a_ (N5 i8 n9 t6 uu (l1.getD t25.toNat default) (isS E6)) (List.mem_cons_self (a:=((i8 (l1.getD t25.toNat default),8):LV×Nat)) (l:=[])))) tr) (b5 (l_ 4 5 rfl (b5 (f_ C7 (b5 (m_ 3 11 rfl (m_ 3 3 rfl (a_ (a_ (a_ (b2l uu (l1.getD t25.toNat default) y5 hh ww s.m9 (l1.getD t25.toNat default) y9 E8 (f8 [0,1,8,2,3]) i1) (a_ (l0 (.var [.map 1,.map 2,.map 3])) (a_ (e_ (m7 uu [(i8 (l1.getD t25.toNat default),8)]:LO)) (a_ (l0 (.var (n9 y5))) (a_ (l0 (b9 hh)) (a_ (l0 (b9 ww)) tr)))))) tr) (b5 (f_ C10 (a_ tr (u5 (B3 (b4 tr)))))))))))))))))))))))) (q0 (P8 i8 n9 t6 uu (l1.getD t25.toNat default) E6) (e_ true) (e_ true) (show 1≠8 from by decide)) (q7 tr (R2 i8 n9 t6 true F1 [] (m:=uu) (k:=(l1.getD t25.toNat default)) E6)))) (ih _ _ r h) ⟨rfl,uP,tr,tr,rfl,λ_ _=>rfl,λ_ _=>rfl,tr⟩
     ·exact n3 hμ [4,5,6] 32 [.go,.reg [(0,hT)],.reg [],.x (.p (.po 1 (i8 (l1.getD t25.toNat default)) (n9 y5))),.reg [(3,j5 (.bool (!decide ((l1.getD t25.toNat default)=s.m9)))),(4,hT),(10,{look:=some (.ptr 8 0 0)}),(16,hF)],.x (.p (.pc 1)),.wk [] [(1,m7 uu [])],.reg []]
       (q0 (f_ C1 tr) (o8 3 G2 tr (b4 (a_ (a_ (a_ (e_ 3) (a_ (d8 3 3 rfl) (e_ 0))) tr) tr))) (a_ (Q0 i8 n9 E6) (Q1 i8 (l1.getD t25.toNat default))) (V3 (m_ 3 3 rfl (b4 (m_ 3 11 rfl (a_ (a_ tr (a_ (v6 (congrArg not (t6 (l1.getD t25.toNat default) s.m9))) tr)) (f_ C3 (b4 (b5 (l_ 0 3 rfl (m_ 3 3 rfl (a_ (a_ (a_ (e_ true) (a_ (N5 i8 n9 t6 uu (l1.getD t25.toNat default) (isS E6)) (List.mem_cons_self (a:=((i8 (l1.getD t25.toNat default),8):LV×Nat)) (l:=[])))) tr) (b5 (l_ 4 5 rfl (b5 (f_ C7 (u5 (z8 (b5 (a_ tr (u5 (B3 (b4 tr))))))))))))))))))))) (q0 (P8 i8 n9 t6 uu (l1.getD t25.toNat default) E6) (e_ true) (e_ true) (show 1≠8 from by decide)) (q7 tr (R2 i8 n9 t6 true F1 [] (m:=uu) (k:=(l1.getD t25.toNat default)) E6)))) (ih _ _ r h) ⟨rfl,uP,tr,tr,rfl,λ_ _=>rfl,λ_ _=>rfl,tr⟩
    ·cases h
   ·exact n3 hμ [4,5,6] 29 [.go,.reg [(0,hT)],.reg [],.reg [(3,j5 (.bool (!decide ((l1.getD t25.toNat default)=s.m9)))),(4,hF)],.reg []]
     (V3 (f_ C1 tr) (o8 3 G2 tr (b4 (a_ (a_ (a_ (e_ 3) (a_ (d8 3 3 rfl) (e_ 0))) tr) tr))) (m_ 3 3 rfl (b4 (m_ 3 11 rfl (a_ (a_ tr (a_ (v6 (congrArg not (t6 (l1.getD t25.toNat default) s.m9))) tr)) (f_ C3 (u5 (B3 (b5 (u5 (z8 (b5 (a_ tr (u5 (B3 (b4 tr)))))))))))))))) (ih _ _ r h) ⟨rfl,uP,tr,tr,rfl,λ_ _=>rfl,λ_ _=>rfl,tr⟩
  ·obtain⟨y3,E2,h⟩:=d6 h
   obtain⟨G4,h⟩:=j6 h;exact n3 hμ [5] 26 [.go,.reg [(0,hF)],.reg [(3,i6 (g9 [5,0,1,2,3] (b3B y3) (b3z l uu hh ww) (b3A uu hh ww y3)))],.reg [],.wk [(6,.gs 5 y3.length),(75,.gs 5 y3.length)] []]
    (q0 (f_ C1 tr) (q2 (q4 (b7Z l uu hh ww y3 E2 (f8 [5,0,1,2,3]) i1) (a_ (l0 (.gr 3 l.length (b6 f5 default l))) (n4 [.map 1,.map 2,.map 3] uu hh ww)) tr)) (q2 tr) (q4 (A5 5 G4) (q3 (A5 5 G4)) tr)) (c2r hμ uu hh ww s l y3 big _ _ _ _ r h) ⟨rfl,uP,tr,tr,λ_ _=>rfl,tr⟩
theorem c2p{w0 W μ0}(hμ:p4 μ0 4)(uu:UT)(hh ww:PT)(s:TL)(y2:(j7 TX))(q:j7 TX)(r:(List TX)×UT×PT×PT)(h:a9a uu hh ww s y2 q=some r):p3 w0 W μ0 Tryz.f59 4 4 (a5u r) (a5t r) (z6 (o9 Tryz.f59) 0) ((.ptr 0 0 0):: .any:: .any::(.ptr 4 0 0):: .any::(.int .u8 ((f9 ww s).getD default))::(.gs 5 (([]:List TX)).length)::n_ 16 ((.gs 6 q.length)::(.int .i64 (y2.length:Int))::(.int .i64 0)::n_ 60 [])) [some (.var [.map 1,.map 2,.map 3]),some (m7 uu []),some (b9 hh),some (b9 ww),some (.var (L1 s)),some (.gr 3 (([]:List TX)).length (b6 f5 default ([]:List TX))),some (.bag 3 (j7.map f5 q))]:=by
 unfold a9a at h;refine a6X f5 default (sz:=3) (c:=6) (q:=q) (by kernel_rfl) (by kernel_rfl) (λl1 hC2000000_2=>?_)
 replace h:=a3t h hC2000000_2
 subst hC2000000_2;exact n3 hμ [4,5,6] 8 []
  tr (c2q hμ uu hh ww s y2 l1 big _ _ r h) ⟨rfl,uP,tr,tr,rfl,λ_ _=>rfl,λ_ _=>rfl,tr⟩
theorem b6s(uu:UT)(hh ww:PT)(s:TL)(r:(List TX)×UT×PT×PT)(h:a3Y uu hh ww s=some r):∀σ,p8 4 σ->j9 Tryz.prog 59 (n7 σ [.ptr 0 0 0,p9 s]) (p5 σ 0 (b2q uu hh ww)) ((a5u r).ren σ) (p6 σ (a5t r)):=by
 refine u7 Tryz.func59 ⟨rfl,uP,tr,tr,tr⟩ ⟨rfl,uP,tr,tr,tr⟩ ?_;intro w0 W μ0 hμ;unfold a3Y at h;obtain⟨y2,e1,h⟩:=d6 h;exact n3 hμ [4,5,6] 25 [.reg [(1,j5 (.ds 3 (([]:List TX)).length (b6 f5 default ([]:List TX))))],.reg [(5,{look:=((f9 ww s).map (LV.int .u8)),v:=some (.int .u8 ((f9 ww s).getD default))})],.void (.gr 3 (([]:List TX)).length (b6 f5 default ([]:List TX))),.reg [(0,j5 (.gs 5 (([]:List TX)).length))],.reg [(6,i6 (g9 [2,6] (a3J y2) (a5b hh) (a3I hh y2)))]]
  (q0 (q8 (D4 (A6 3 (b6 f5 default [])))) (q2 (l_ 2 3 rfl (m_ 11 11 rfl (a_ (a_ (a_ (e_ true) (Q8 p9 (LV.int .u8) L9 ww s)) (a_ (R1 (LV.int .u8) (f9 ww s) default) tr)) (b4 tr))))) (e_ 0) (q4 tr (q3 (q_ 5)) (I3 (l_ 1 3 rfl (b4 (m_ 11 11 rfl (a_ (a_ (a_ (a60 hh s.o7 y2 e1 (f8 [2,6]) i1) (a_ (l0 (b9 hh)) tr)) tr) (b5 tr)))))))) (c2p hμ uu hh ww s y2 _ r h) ⟨rfl,uP,tr,tr,rfl,λ_ _=>rfl,tr,tr⟩
def b6C(r:Unit):LV:=.fn 90 [] [.ptr 1 0 0]
def b6B(m:PT)(r:Unit):i9:=[(0,some (b9 m)),(1,some (.var [.map 0]))]
def b6A(m:PT):List LO:=[b9 m]
def mKP(m:PT):Option Unit:=
 some ()
theorem c2O(m:PT)(r:Unit)(h:mKP m=some r):∀σ,p8 2 σ->j9 Tryz.prog 64 (n7 σ [.map 0]) (p5 σ 0 (b6A m)) ((b6C r).ren σ) (p6 σ (b6B m r)):=by
 refine u7 Tryz.func64 ⟨tr,tr⟩ ⟨tr,rfl,tr⟩ ?_;intro w0 W μ0 hμ;unfold mKP at h;obtain rfl:=i7 h;exact l8 [1] 15 [.reg [],.reg []]
  (F8 (b5 tr) (b5 tr))
def a0a(x:TL):List Value:=[.int .u8 x.m9.F3,.int .u32 x.m9.D6,.int .u32 x.m9.F5,.int .u8 x.o7.a0,.int .u8 x.o7.a1,.int .u8 x.o7.a2,.int .u8 x.o7.a3,.int .u8 x.o7.a4,.int .u8 x.o7.a5,.int .u8 x.o7.a6,.int .u8 x.o7.a7]
def t_(x:TL):Value:=.agg #[.int .u8 x.m9.F3,.int .u32 x.m9.D6,.int .u32 x.m9.F5,.int .u8 x.o7.a0,.int .u8 x.o7.a1,.int .u8 x.o7.a2,.int .u8 x.o7.a3,.int .u8 x.o7.a4,.int .u8 x.o7.a5,.int .u8 x.o7.a6,.int .u8 x.o7.a7]
def b8C(v:Value):TL:=
 match v with
 | .agg cs=>match cs.toList with
  |[.int _ a0,.int _ a1,.int _ a2,.int _ a3,.int _ a4,.int _ a5,.int _ a6,.int _ a7,.int _ a8,.int _ a9,.int _ a10]=>(TL.mk (TX.mk a0 a1 a2) (A8.mk a3 a4 a5 a6 a7 a8 a9 a10))
  |_=>default
 |_=>default
theorem c6V(x:TL):b8C (t_ x)=x:=rfl
theorem c6W(x:TL):(a0a x).length=11:=rfl
theorem c6X(x:TL):∀v∈a0a x,v.oneCell' =true:=by
 intro u hu;simp only[a0a,List.mem_cons,List.not_mem_nil,or_false] at hu;rcases hu with rfl|rfl|rfl|rfl|rfl|rfl|rfl|rfl|rfl|rfl|rfl<;>rfl
theorem c6T(φ:K5)(x:TL):A3 φ (L1 x) (a0a x):=⟨_,_,rfl,rfl,⟨_,_,rfl,rfl,⟨_,_,rfl,rfl,⟨_,_,rfl,rfl,⟨_,_,rfl,rfl,⟨_,_,rfl,rfl,⟨_,_,rfl,rfl,⟨_,_,rfl,rfl,⟨_,_,rfl,rfl,⟨_,_,rfl,rfl,⟨_,_,rfl,rfl,rfl⟩⟩⟩⟩⟩⟩⟩⟩⟩⟩⟩
theorem c6S(φ:K5)(x:TL)(v:Value)(h:D8 φ (.agg (L1 x)) v):v=t_ x:=by
 obtain⟨vs,rfl,h⟩:=h;have key:∀(l:List Value),A3 φ (L1 x) l->l=a0a x:=by
  intro l h;obtain⟨r0,e0,h0⟩:=j_ h;obtain⟨r1,e1,h1⟩:=j_ h0;obtain⟨r2,e2,h2⟩:=j_ h1;obtain⟨r3,e3,h3⟩:=j_ h2;obtain⟨r4,e4,h4⟩:=j_ h3;obtain⟨r5,e5,h5⟩:=j_ h4;obtain⟨r6,e6,h6⟩:=j_ h5;obtain⟨r7,e7,h7⟩:=j_ h6;obtain⟨r8,e8,h8⟩:=j_ h7;obtain⟨r9,e9,h9⟩:=j_ h8;obtain⟨r10,e10,h10⟩:=j_ h9;have e:_=[]:=h10;subst e
  subst_vars
  rfl
 have:=key _ h;rw[<-Array.toArray_toList (xs:=vs),this];rfl
theorem c6U:∃i,Tryz.prog.info? 87=some i/\i.zero=some (.agg #[.int .u8 0,.int .u32 0,.int .u32 0,.int .u8 0,.int .u8 0,.int .u8 0,.int .u8 0,.int .u8 0,.int .u8 0,.int .u8 0,.int .u8 0])/\i.size=11/\i.bytes=20:=by
 have h:(Tryz.prog.info? 87).map (λi=>(i.zero,i.size,i.bytes))=some (some (.agg #[.int .u8 0,.int .u32 0,.int .u32 0,.int .u8 0,.int .u8 0,.int .u8 0,.int .u8 0,.int .u8 0,.int .u8 0,.int .u8 0,.int .u8 0]),11,20):=by kernel_rfl
 obtain⟨i,h1,h2⟩:=Option.map_eq_some_iff.1 h;exact⟨i,h1,congrArg (·.1) h2,congrArg (·.2.1) h2,congrArg (·.2.2) h2⟩
def a4L(w:World)(pre:List TL)(W:World):Prop:=
 (∃v,Boxed W w.heap.size 113 v/\W.ownsRow w.heap.size 87 11 v pre.length (pre.flatMap a0a)/\(v=.slice none 0 0↔pre=[]))/\Below w.heap.size w W/\w.drawn<=W.drawn
theorem a4L.own(w:World)(B:Nat)(hB:w.heap.size<=B):Q7 B (a4L w):=
 Q7.and (OwnFrom.d ((holdsRow_own w.heap.size w.heap.size 113 87 11 (λ(pre:List TL)=>pre.length) (λpre=>pre.flatMap a0a) (λpre v=>v=.slice none 0 0↔pre=[])).from B)) (Q7.and (OwnFrom.d (ownFrom_below (m8 _) hB)) (b66 B _))
theorem c6Q(n:Nat)(hn:2<=n)(g:Nat)(lb:Array Value)(eg:∀args w,(callFunc g args).run Tryz.prog w=.ok (.enter g args) w)(S:List TL->Prop)(N:Nat)(hN:N<=maxLen)(hNb:N * 20<=140737488355328)
  (w:World) (hseq:a17 Fence.wide (n - 1) Tryz.prog g lb t_ S N w):
  CallsIn Fence.wide n Tryz.prog 113 #[.slice none 0 0,.func (.func g) #[] lb] w λe w' =>∃(v:Value) (ss:List TL),e=.returned v/\S ss/\w'.ownsRow w.heap.size 87 11 v ss.length (ss.flatMap a0a)/\(v=.slice none 0 0↔ss=[])/\Below w.heap.size w w' /\w.drawn<=w'.drawn:=by
 have h1:1<=n:=by omega
 refine callsIn_of_wp_marks Tryz.func113 rfl tr ?_ rfl;simp only[Tryz.ntmps113,List.size_toArray,List.length_cons,List.length_nil,Nat.reduceAdd,Nat.reduceSub,Array.replicate_succ,Array.replicate_zero,List.push_toArray,List.append_toArray,List.nil_append,List.cons_append]
 gi_wp2
 obtain⟨W0,hW0⟩:∃W0,w.alloc (.cells #[.slice none 0 0] 113)=W0:=⟨_,rfl⟩
 have hs0:W0.heap.size=w.heap.size+1:=by rw[<-hW0];simp
 have hB0:Boxed W0 w.heap.size 113 (.slice none 0 0):=by rw[<-hW0];exact Boxed.new w _ _
 have hb0:Below w.heap.size w W0:=by rw[<-hW0];exact(Below.refl _ w).alloc (m8 _) _
 rw[hW0];refine b7H rfl h1 (gf:=g) (lb:=lb) rfl tr eg hseq hb0 rfl (a4L w) (a4L.own w _ (by omega)) ⟨⟨_,hB0,World.ownsRow_nil _ _ _ _,by simp⟩,hb0,by rw[<-hW0];exact m8 _⟩
  (λpre x a1 W=>a4L w pre W/\∃bx,W.heap[bx]?=some (.cells #[.int .u8 x.m9.F3,.int .u32 x.m9.D6,.int .u32 x.m9.F5,.int .u8 x.o7.a0,.int .u8 x.o7.a1,.int .u8 x.o7.a2,.int .u8 x.o7.a3,.int .u8 x.o7.a4,.int .u8 x.o7.a5,.int .u8 x.o7.a6,.int .u8 x.o7.a7] 87 (0,0))/\
   a1={tmps:=#[.slice none 0 0,.func (.func g) #[] lb,.pointer (some ⟨w.heap.size,0,none⟩),undef,.slice none 0 0,.pointer (some ⟨bx,0,none⟩),.func (.func g) #[] lb,t_ x,undef,undef,undef,undef,undef],defers:=[]})
  (λx a1=>Q7.and (a4L.own w _ (by omega)) (λs X Y row hs hg _ hr=>by
   obtain⟨bx,hx,e⟩:=hs;exact⟨bx,(grownBy_keeps_cells hg (λr e=>(hr r e).2) hx rfl).trans hx,e⟩)) ?assign ?body ?done
 case assign=>
  intro l pre x W hI hlen;unfold t_
  gi_wp2_with (rw[Oper.semAt_eq _ _ _ (λc h=>by cases h)];go_simp;try go_bits)
  exact⟨⟨(a4L.own w w.heap.size (m8 _)).alloc _ hI,W.heap.size,World.alloc_heap_new W _,rfl⟩,KeepsOthers.alloc _ _⟩
 case body=>
  rintro l pre x a1 W ⟨⟨⟨v,hv,hrow,hnil⟩,hB,hD0⟩,bx,hbx,rfl⟩ hlen;obtain⟨i0,hi,hz0,hz1,hz2⟩:=c6U;have hc:=hv.cell;have hf:=hv.frozen;have hx0:W.cell? ⟨bx,0,none⟩=some (.int .u8 x.m9.F3):=by simp[World.cell?,hbx]
  have hx1:W.cell? ⟨bx,1,none⟩=some (.int .u32 x.m9.D6):=by simp[World.cell?,hbx]
  have hx2:W.cell? ⟨bx,2,none⟩=some (.int .u32 x.m9.F5):=by simp[World.cell?,hbx]
  have hx3:W.cell? ⟨bx,3,none⟩=some (.int .u8 x.o7.a0):=by simp[World.cell?,hbx]
  have hx4:W.cell? ⟨bx,4,none⟩=some (.int .u8 x.o7.a1):=by simp[World.cell?,hbx]
  have hx5:W.cell? ⟨bx,5,none⟩=some (.int .u8 x.o7.a2):=by simp[World.cell?,hbx]
  have hx6:W.cell? ⟨bx,6,none⟩=some (.int .u8 x.o7.a3):=by simp[World.cell?,hbx]
  have hx7:W.cell? ⟨bx,7,none⟩=some (.int .u8 x.o7.a4):=by simp[World.cell?,hbx]
  have hx8:W.cell? ⟨bx,8,none⟩=some (.int .u8 x.o7.a5):=by simp[World.cell?,hbx]
  have hx9:W.cell? ⟨bx,9,none⟩=some (.int .u8 x.o7.a6):=by simp[World.cell?,hbx]
  have hx10:W.cell? ⟨bx,10,none⟩=some (.int .u8 x.o7.a7):=by simp[World.cell?,hbx]
  have hbs:=hB.size;unfold t_
  gi_wp2_with (first
 |(gi_at_builtin;refine b9l _ rfl _ _ 113 rfl w.heap.size 87 i0 _ 11 20 Tryz.underlying113 hi hz0 hz1 hz2 rfl (by decide) _ _ _ rfl (hrow.alloc _) ⟨W.heap.size,0,none⟩ 1 1 (a0a x) rfl rfl ?_ ?_ (by omega) (by omega) (by simp;omega) ?_)
 |(rw[Oper.semAt_eq _ _ _ (λc h=>by cases h)];go_simp;try go_bits))
  ·exact λj u hj=>b4z W (a0a x) 87 j u hj
  ·intro u hu
   simp only[a0a,List.mem_cons,List.not_mem_nil,or_false] at hu;rcases hu with rfl|rfl|rfl|rfl|rfl|rfl|rfl|rfl|rfl|rfl|rfl<;>rfl
  ·intro v' w3 hown' hg3 hd3 hnil3
   obtain⟨hv3,hv4,hrow4,hko,hbe⟩:=hv.appended (by decide) hrow hbs (m8 _) hown' hg3;have hc3:=hv3.cell;have hf3:=hv3.frozen;obtain⟨g',cap',hv'⟩:=ownsRow_succ hown';subst hv'
   gi_wp2_with (rw[Oper.semAt_eq _ _ _ (λc h=>by cases h)];go_simp;try go_bits)
   refine⟨⟨_,hv4,?_,by simp⟩,hB.trans hbe,Nat.le_trans hD0 hd3⟩;rw[List.length_append,List.flatMap_append];simpa using hrow4
 case done=>
  rintro D ss W hD hS ⟨⟨v,hv,hrow,hnil⟩,hB,hD0⟩ hK;have hc:=hv.cell;have hf:=hv.frozen
  gi_wp2
  refine⟨by simp,.inl ⟨_,_,rfl,run_takeDeferred hK,?_⟩⟩;exact⟨_,results_tmp rfl _ _ _,v,ss,rfl,hS,ownsRow_putObj hrow _ hK rfl,hnil,hB.grown (grownBy_putObj' _ _ _) hB.size (λk e=>by cases e;omega),hD0⟩
theorem c6R(n:Nat)(hn:3<=n)(g:Nat)(lb:Array Value)(eg:∀args w,(callFunc g args).run Tryz.prog w=.ok (.enter g args) w)(S:List TL->Prop)(N:Nat)(hN:N<=maxLen)(hNb:N * 20<=140737488355328)
  (w:World) (hseq:a17 Fence.wide (n - 1 - 1) Tryz.prog g lb t_ S N w):
  CallsIn Fence.wide n Tryz.prog 88 #[.func (.func g) #[] lb] w λe w' =>∃(v:Value) (ss:List TL),e=.returned v/\S ss/\w'.ownsRow w.heap.size 87 11 v ss.length (ss.flatMap a0a)/\(v=.slice none 0 0↔ss=[])/\Below w.heap.size w w' /\w.drawn<=w'.drawn:=by
 have h1:1<=n:=by omega
 have F78:Fence.wide.fn 113:=tr;refine callsIn_of_wp Tryz.func88 rfl tr ?_ rfl;simp only[Tryz.ntmps88,List.size_toArray,List.length_cons,List.length_nil,Nat.reduceAdd,Nat.reduceSub,Array.replicate_succ,Array.replicate_zero,List.push_toArray,List.append_toArray,List.nil_append,List.cons_append]
 gi_wp2_with (gi_at_call 113;refine(c6Q (n - 1) (by omega) g lb eg S N hN hNb _ hseq).mono ?_;rintro e w' ⟨v,ss,rfl,hS,hrow,hnil,hb⟩)
 go_ret
 exact⟨v,ss,rfl,hS,hrow,hnil,hb⟩
theorem c60(n:Nat)(Bm b:Nat)(es:Array MapEntry)(clock:Nat)(ks:List TL)(w:World)(off:Nat)(hm:w.cell? ⟨Bm,off,none⟩=some (.map (some b)))(hBm:Bm<w.heap.size)(hb:w.heap[b]?=some (.map es clock))
  (hold:∀x∈es.toList,x.born<clock) (hnd:(es.toList.map (·.born)).Nodup) (hk:es.toList.map (·.key)=ks.map t_):
  a17 Fence.wide n Tryz.prog 90 #[.pointer (some ⟨Bm,off,none⟩)] t_ (λxs=>xs.Perm ks) es.size w:=λl J W hW hJ hY h0=>by
 have hbW:W.heap[b]?=some (.map es clock):=(hW.block b (Array.getElem?_eq_some_iff.1 hb).1).trans hb;have hc:W.cell? ⟨Bm,off,none⟩=some (.map (some b)):=(World.cell?_of_block (hW.block Bm hBm)).trans hm;refine callsIn_of_wp Tryz.func90 rfl tr ?_ rfl;simp only[Tryz.ntmps90,List.size_toArray,List.length_cons,List.length_nil,Nat.reduceAdd,Nat.reduceSub,Array.replicate_succ,Array.replicate_zero,List.push_toArray,List.append_toArray,List.nil_append,List.cons_append]
 gi_wp2_with (first
 |(gi_at_range;refine b9n _ rfl _ 71 rfl 87 5 Tryz.underlying71 b es clock rfl hbW ?_)
 |gi_in)
 go_frame
 have hrg0:Rg (W.alloc (.mapIter (some b) clock #[] clock)) b W.heap.size es clock []:=
  ⟨(Below.heap_alloc _ _ b (Array.getElem?_eq_some_iff.1 hbW).1).trans hbW,World.alloc_heap_new W _,(λd hd=>by cases hd),List.nodup_nil⟩
 have hJ0:J [] (W.alloc (.mapIter (some b) clock #[] clock)):=hJ [] W _ none h0 (World.grownBy_alloc W _ none) (m8 _) (λr e=>by cases e)
 gi_loopw [3] (λ_ wr=>∃(ds:List MapEntry) (xs:List TL),Rg wr b W.heap.size es clock ds/\ds.map (·.key)=xs.map t_/\J xs wr)
  (λ_ wr=>a8R b W.heap.size wr)
 case atStart=>exact⟨[],[],hrg0,rfl,hJ0⟩
 case round=>
  obtain⟨ds,xs,hrg,hdx,hJs⟩:=hrel
  gi_wp2_with (first
 |(gi_at_next;refine b9m _ rfl _ rfl b W.heap.size es clock ds rfl hrg hold hnd ?_ ?_)
 |gi_in)
  ·intro hall
   gi_wp2
   go_end0
   refine⟨⟨_,rfl⟩,xs,?_,hJs⟩;have hp:=(hrg.perm hnd (λx hx=>hall x (by simpa using hx))).map (·.key);rw[hdx,hk] at hp;exact b7d t_ b8C c6V hp
  ·intro e w2 he hrg2 hg2 hd2 hs2 hen
   obtain⟨x,hx⟩:∃x,e.key=t_ x:=by
    have:e.key∈es.toList.map (·.key):=List.mem_map.2 ⟨e,by simpa using he,rfl⟩;rw[hk] at this;obtain⟨x,_,hx⟩:=List.mem_map.1 this;exact⟨x,hx.symm⟩
   rw[hx] at hen⊢;have hJ2:J xs w2:=hJ xs wr w2 _ hJs hg2 hd2 (λr e=>by cases e;exact⟨m8 _,_,hrg.it,rfl⟩);have hlt2:xs.length<es.size:=by
    have h1:=hrg2.len hnd;have h2:=congrArg List.length hdx;simp only[List.length_map,List.length_append,List.length_cons,List.length_nil] at h1 h2;omega
   have hJ3:J xs (w2.alloc (.cells #[.int .u8 x.m9.F3,.int .u32 x.m9.D6,.int .u32 x.m9.F5,.int .u8 x.o7.a0,.int .u8 x.o7.a1,.int .u8 x.o7.a2,.int .u8 x.o7.a3,.int .u8 x.o7.a4,.int .u8 x.o7.a5,.int .u8 x.o7.a6,.int .u8 x.o7.a7] 87)):=hJ xs w2 _ none hJ2 (World.grownBy_alloc w2 _ none) (m8 _) (λr e=>by cases e);obtain⟨fn,tmps,assign,body,hy,hR⟩:=hY xs x _ hJ3 hlt2;unfold t_ at hen hy⊢;clear hs2 hd2
   gi_wp2
   refine⟨λh=>absurd h (by simp[Fence.wide]),hR.mono ?_⟩;rintro e' W4 ⟨rfl,hJ4,hk4⟩
   gi_wp2
   have hrg4:=(hrg2.walks (KeepsWalks.alloc _ _)).walks hk4
   go_roundw
   case rel=>exact⟨ds++[e],xs++[x],hrg4,by rw[List.map_append,List.map_append,hdx,List.map_cons,hx];rfl,hJ4⟩
   case measure=>
    rw[hrg4.left,hrg.left];have:=hrg2.len hnd;simp only[List.length_append,List.length_cons,List.length_nil] at this⊢;omega
theorem c6Z(φ:K5)(x:TL)(v:Value)(h:D8 φ (p9 x) v):v=t_ x:=c6S φ x v h
theorem c6Y(b c new:Nat)(hnb:new≠b)(hnc:new≠c)(m:List (TL×Int))(h1:m.length<=maxLen)(h2:m.length * 20<=140737488355328):
  j9 Tryz.prog 88 [.fn 90 [] [.ptr b 0 0]] [(b,LO.var [.map c]),(c,LO.mapR true x5 (x9 p9 (LV.int .u8) m))] (.gs new (m.map (·.1)).length) [(new,some (.bag 11 (j7.map L1 (j7.of (m.map (·.1))))))]:=by
 refine⟨⟨_,Tryz.func88,by kernel_rfl,by kernel_rfl⟩,fun μ w vals hr hp hf=>?_⟩;obtain⟨v0,r0,rfl,⟨a0,b0,rfl,ha,hb⟩,rfl⟩:=hr;obtain rfl:=b3n ha;obtain⟨p,hpb,rfl⟩:=b7J hb;have hb1:(b,LO.var [.map c])∈[(b,LO.var [.map c]),(c,LO.mapR true x5 (x9 p9 (LV.int .u8) m))]:=List.mem_cons_self;have hc1:(c,LO.mapR true x5 (x9 p9 (LV.int .u8) m))∈[(b,LO.var [.map c]),(c,LO.mapR true x5 (x9 p9 (LV.int .u8) m))]:=List.mem_cons_of_mem _ List.mem_cons_self;have hn:μ new=none:=by
  rcases hf new (by simp[i9.has]) with⟨o,ho,_⟩|h
  ·simp only[List.mem_cons,Prod.mk.injEq,List.not_mem_nil,or_false] at ho
   rcases ho with⟨e,_⟩|⟨e,_⟩
   ·exact absurd e hnb
   ·exact absurd e hnc
  ·exact h
 obtain⟨p',hpb',hok⟩:=hp.obj b _ hb1;obtain rfl:=i7 (hpb.symm.trans hpb');obtain⟨vm,hvm,hcell,hlt⟩:=b9c hok;obtain⟨q,hq,rfl⟩:=hvm;obtain⟨q',hq',hok2⟩:=hp.obj c _ hc1;obtain rfl:=i7 (hq.symm.trans hq');obtain⟨⟨es,clock,hes,hF2,hnd,hborn⟩,_⟩:=hok2;have hlen:es.size=(m.map (·.1)).length:=by
  have:=b1y _ _ hF2;rw[List.length_map];simpa using this
 have hseq:=c60 8 p.rb q.rb es clock (m.map (·.1)) w _ hcell hlt hes hborn hnd (b1x c6Z _ _ hF2);rw[hlen] at hseq;have hc:=callsIn_wide.1 (c6R 10 (by omega) 90 _ (enters_of Tryz.func90 (by kernel_rfl) rfl) _ (m.map (·.1)).length (by rw[List.length_map];exact h1) (by rw[List.length_map];exact h2) w hseq);refine hc.mono ?_;rintro e w' ⟨v,ss,rfl,hS,hrow,hnil,hB,hD⟩;obtain⟨μ',g1,g2⟩:=b9V c6T c6W c6X hn hp hB hD hrow hnil hS;exact⟨v,μ',rfl,g1,g2⟩
def b73(r:(List TL)):LV:=.tup []
def b72(uu:UT)(hh ww:PT)(r:(List TL)):i9:=[(0,some (.gr 11 r.length (b6 L1 default r))),(1,some (.var [.map 2,.map 3,.map 4])),(2,some (m7 uu [])),(3,some (b9 hh)),(4,some (b9 ww))]
def b71(x:List TL)(uu:UT)(hh ww:PT):List LO:=[.gr 11 x.length (b6 L1 default x),.var [.map 2,.map 3,.map 4],m7 uu [],b9 hh,b9 ww]
def sFS(x:List TL)(uu:UT)(hh ww:PT):Option ((List TL)):=
 (a2w (IntKind.wrap .u64 (x.length:Int))).bind λy2=>
 (sPD true x 0 (x.length:Int) y2 uu hh ww).bind λy4=>
 some y4
theorem c5z(x:List TL)(uu:UT)(hh ww:PT)(r:(List TL))(h:sFS x uu hh ww=some r):∀σ,p8 5 σ->j9 Tryz.prog 89 (n7 σ [.gs 0 x.length,.fn 65 [.ptr 1 0 0] []]) (p5 σ 0 (b71 x uu hh ww)) ((b73 r).ren σ) (p6 σ (b72 uu hh ww r)):=by
 refine u7 Tryz.func89 ⟨λ_ _=>rfl,rfl,uP,tr,tr,tr⟩ ⟨λ_ _=>rfl,rfl,uP,tr,tr,tr⟩ ?_;intro w0 W μ0 hμ;unfold sFS at h;obtain⟨y2,e1,h⟩:=d6 h;obtain⟨y4,e3,h⟩:=d6 h;obtain rfl:=i7 h;exact l8 [] 14 [.reg [],.reg [(4,hC (a7g y2)),(6,i6 (g9 [0,1,2,3,4] (Q5 true y4) (Q3 true x uu hh ww) (Q4 true uu hh ww y4)))]]
  (Z0 (l9 (K1 (q3 (b2B (IntKind.wrap .u64 (x.length:Int)) y2 e1)) (b8e true x 0 (x.length:Int) y2 uu hh ww y4 e3 (f8 [0,1,2,3,4]) i1) (l0 (.gr 11 x.length (b6 L1 default x))) (n4 [.map 2,.map 3,.map 4] uu hh ww))))
def b3D(r:(List TL)):LV:=.ds 11 r.length (b6 L1 default r)
def b3C(x:PT)(uu:UT)(hh:PT)(r:(List TL)):i9:=[(0,some (.var [.map 1])),(1,some (b9 x)),(2,some (.var [.map 3,.map 4,.map 1])),(3,some (m7 uu [])),(4,some (b9 hh))]
def b70(x:PT)(uu:UT)(hh:PT):List LO:=[.var [.map 1],b9 x,.var [.map 3,.map 4,.map 1],m7 uu [],b9 hh]
def a92(x:PT)(uu:UT)(hh:PT)(q:j7 TL):Option ((List TL)):=
 a0e q λl1=>
 (sFS l1 uu hh x).bind λy4=>
 if l1.length=y4.length then
 some y4
 else none
def sFO(x:PT)(uu:UT)(hh:PT):Option ((List TL)):=
 if x.length<=maxLen then
 if x.length * 20<=140737488355328 then
 a92 x uu hh (j7.of (x.map (·.1)))
 else none
 else none
theorem c5x{w0 W μ0}(hμ:p4 μ0 5)(x:PT)(uu:UT)(hh:PT)(q:j7 TL)(r:(List TL))(h:a92 x uu hh q=some r):p3 w0 W μ0 Tryz.f63 5 5 (b3D r) (b3C x uu hh r) (z7 (o9 Tryz.f63) 2) (.any::(.fn 65 [.ptr 2 0 0] []):: .any:: .any:: .any::(.gs 5 q.length)::n_ 6 []) [some (.var [.map 1]),some (b9 x),some (.var [.map 3,.map 4,.map 1]),some (m7 uu []),some (b9 hh),some (.bag 11 (j7.map L1 q))]:=by
 unfold a92 at h;refine a6X L1 default (sz:=11) (c:=5) (q:=q) (by kernel_rfl) (by kernel_rfl) (λl1 hC2_2=>?_)
 replace h:=a3t h hC2_2
 subst hC2_2;obtain⟨y4,E3,h⟩:=d6 h;obtain⟨G5,h⟩:=j6 h;obtain rfl:=i7 h;exact l8 [] 16 [.reg [(2,i6 (g9 [5,2,3,4,1] (b73 y4) (b71 l1 uu hh x) (b72 uu hh x y4)))],.reg [],.wk [(4,.gs 5 y4.length),(5,.gs 5 y4.length),(8,.gs 5 y4.length),(11,.gs 5 y4.length)] [],.frz 5]
  (q3 (J4 (q4 (c5z l1 uu hh x y4 E3 (f8 [5,2,3,4,1]) i1) (a_ (l0 (.gr 11 l1.length (b6 L1 default l1))) (n4 [.map 3,.map 4,.map 1] uu hh x)) tr) tr (q3 (E0 (A5 5 G5) (A5 5 G5) (A5 5 G5) (A5 5 G5))) (q3 (q0 (J2 (enc:=L1) (d:=default) (λ_=>rfl) y4) (m8 y4.length) (m8 y4.length) (q7 (m8 y4.length) (m8 y4.length))))))
theorem c5y(x:PT)(uu:UT)(hh:PT)(r:(List TL))(h:sFO x uu hh=some r):∀σ,p8 5 σ->j9 Tryz.prog 63 (n7 σ [.fn 90 [] [.ptr 0 0 0],.fn 65 [.ptr 2 0 0] []]) (p5 σ 0 (b70 x uu hh)) ((b3D r).ren σ) (p6 σ (b3C x uu hh r)):=by
 refine u7 Tryz.func63 ⟨rfl,tr,rfl,uP,tr,tr⟩ ⟨rfl,tr,rfl,uP,tr,tr⟩ ?_;intro w0 W μ0 hμ;unfold sFO at h;obtain⟨g1,h⟩:=j6 h;obtain⟨g2,h⟩:=j6 h;exact n3 hμ [5] 16 [.reg [(0,j5 (.ds 11 (([]:List TL)).length (b6 L1 default ([]:List TL))))],.reg [(1,{call:=some (.gs 5 (x.map (·.1)).length,[(0,.var [.map 1]),(1,.mapR true x5 (x9 p9 (LV.int .u8) x))],[(5,some (.bag 11 (j7.map L1 (j7.of (x.map (·.1))))))])})]]
  (q4 tr (q3 (A6 11 (b6 L1 default []))) (q3 (q8 (I2 (q0 (c6Y 0 1 5 (by decide) (by decide) x g1 g2) (l0 (.var [.map 1])) (c2u (ag:=true) (ks:=x5) (es:=x9 p9 (LV.int .u8) x)) tr))))) (c5x hμ x uu hh _ r h) ⟨rfl,tr,rfl,uP,tr,tr,tr⟩
def a3X(r:Bool):LV:=.bool r
def a3W(uu:UT)(hh ww:PT)(r:Bool):i9:=[(0,some (.var [.map 1,.map 2,.map 3])),(1,some (m7 uu [])),(2,some (b9 hh)),(3,some (b9 ww))]
def b2p(uu:UT)(hh ww:PT):List LO:=[.var [.map 1,.map 2,.map 3],m7 uu [],b9 hh,b9 ww]
def a1l(uu:UT)(hh ww:PT)(s:TL)(y3:(j7 TX))(l1:List TX):Nat->Int->Option Bool
 |0,_=>none
 |fuel+1,t54=>
  if decide (t54<(y3.length:Int)) then
   if 0<=t54/\t54<(l1.length:Int) then
   if !decide ((l1.getD t54.toNat default)=s.m9) then
    (a3V uu hh ww (l1.getD t54.toNat default) s.m9).bind λy5=>
    if decide (y5<0) then
     (some (TL.mk (l1.getD t54.toNat default) s.o7)).bind λy7=>
     (a2r ((f9 ww s).getD default) ((f9 ww y7).getD default)).bind λy10=>
     if y10 then
      some false
     else
      a1l uu hh ww s y3 l1 fuel (IntKind.wrap .i64 (t54+1))
    else
     a1l uu hh ww s y3 l1 fuel (IntKind.wrap .i64 (t54+1))
   else
    a1l uu hh ww s y3 l1 fuel (IntKind.wrap .i64 (t54+1))
   else none
  else
   some true
def a88(uu:UT)(hh ww:PT)(s:TL)(y3:(j7 TX))(q2:j7 TX):Option Bool:=
 a0e q2 λl1=>
 a1l uu hh ww s y3 l1 big 0
def a2n(uu:UT)(hh ww:PT)(s:TL)(y2:(j7 TX))(l1:List TX):Nat->Int->Option Bool
 |0,_=>none
 |fuel+1,t24=>
  if decide (t24<(y2.length:Int)) then
   if 0<=t24/\t24<(l1.length:Int) then
   if !decide ((l1.getD t24.toNat default)=s.m9) then
    (some (TL.mk (l1.getD t24.toNat default) s.o7)).bind λy4=>
    (a2r ((f9 ww s).getD default) ((f9 hh y4).getD default)).bind λy7=>
    if y7 then
     some false
    else
     a2n uu hh ww s y2 l1 fuel (IntKind.wrap .i64 (t24+1))
   else
    a2n uu hh ww s y2 l1 fuel (IntKind.wrap .i64 (t24+1))
   else none
  else
   (a1j ww s.o7).bind λy3=>
   a88 uu hh ww s y3 y3
def a87(uu:UT)(hh ww:PT)(s:TL)(y2:(j7 TX))(q:j7 TX):Option Bool:=
 a0e q λl1=>
 a2n uu hh ww s y2 l1 big 0
def a7b(uu:UT)(hh ww:PT)(s:TL):Option Bool:=
 (a1j hh s.o7).bind λy2=>
 a87 uu hh ww s y2 y2
abbrev c2f(uu:UT)(hh ww:PT)(s:TL)(y3:(j7 TX))(l1:List TX)(t54:Int)(r:Bool):Prop:=p3 w0 W μ0 Tryz.f66 4 4 (a3X r) (a3W uu hh ww r) (z6 (o9 Tryz.f66) 1) ((.ptr 0 0 0):: .any:: .any::(.ptr 4 0 0):: .any::(.int .u8 ((f9 ww s).getD default))::n_ 46 ((.gs 5 l1.length)::(.int .i64 (y3.length:Int))::(.int .i64 t54)::n_ 29 [])) [some (.var [.map 1,.map 2,.map 3]),some (m7 uu []),some (b9 hh),some (b9 ww),some (.var (L1 s)),some (.gr 3 l1.length (b6 f5 default l1))]
abbrev c2e(uu:UT)(hh ww:PT)(s:TL)(y2:(j7 TX))(l1:List TX)(t24:Int)(r:Bool):Prop:=p3 w0 W μ0 Tryz.f66 4 4 (a3X r) (a3W uu hh ww r) (z6 (o9 Tryz.f66) 0) ((.ptr 0 0 0):: .any:: .any::(.ptr 4 0 0):: .any::(.int .u8 ((f9 ww s).getD default))::n_ 16 ((.gs 5 l1.length)::(.int .i64 (y2.length:Int))::(.int .i64 t24)::n_ 59 [])) [some (.var [.map 1,.map 2,.map 3]),some (m7 uu []),some (b9 hh),some (b9 ww),some (.var (L1 s)),some (.gr 3 l1.length (b6 f5 default l1))]
theorem c2j{w0 W μ0}(hμ:p4 μ0 4)(uu:UT)(hh ww:PT)(s:TL)(y3:(j7 TX))(l1:List TX):∀(fuel:Nat) (t54:Int) (r:Bool),a1l uu hh ww s y3 l1 fuel t54=some r->c2f w0 W μ0 uu hh ww s y3 l1 t54 r:=by
 intro fuel
 induction fuel with
 |zero=>intro t54 r h;rw[a1l] at h;cases h
 |succ fuel ih=>
  intro t54 r h;rw[a1l] at h;rcases i5 h with⟨C1,h⟩|⟨C1,h⟩
  ·obtain⟨G2,h⟩:=j6 h
   rcases i5 h with⟨C3,h⟩|⟨C3,h⟩
   ·obtain⟨y5,E4,h⟩:=d6 h
    rcases i5 h with⟨C6,h⟩|⟨C6,h⟩
    ·obtain⟨y7,E8,h⟩:=d6 h
     obtain⟨y10,E9,h⟩:=d6 h;rcases i5 h with⟨C11,h⟩|⟨C11,h⟩
     ·obtain rfl:=i7 h
      exact l8 [] 28 [.go,.reg [(0,hT)],.reg [],.reg [(3,j5 (.bool (!decide ((l1.getD t54.toNat default)=s.m9)))),(4,hT),(9,i6 (g9 [0,1,2,3] (a5p y5) (a5n uu hh ww) (a5o uu hh ww y5))),(12,hT),(21,j5 (p9 y7)),(22,{look:=((f9 ww y7).map (LV.int .u8)),v:=some (.int .u8 ((f9 ww y7).getD default))}),(23,hC (a2s y10)),(24,hT)],.reg []]
       (q3 (E0 (f_ C1 tr) (o8 3 G2 tr (b4 (a_ (a_ (a_ (e_ 3) (a_ (d8 3 3 rfl) (e_ 0))) tr) tr))) (m_ 3 3 rfl (b4 (m_ 3 11 rfl (a_ (a_ tr (a_ (v6 (congrArg not (t6 (l1.getD t54.toNat default) s.m9))) tr)) (f_ C3 (b4 (m_ 3 3 rfl (b4 (m_ 3 11 rfl (a_ (a_ (a_ (a7a uu hh ww (l1.getD t54.toNat default) s.m9 y5 E4 (f8 [0,1,2,3]) i1) (n4 [.map 1,.map 2,.map 3] uu hh ww)) tr) (b5 (f_ C6 (l9 (l_ 2 3 rfl (m_ 3 3 rfl (b4 (m_ 11 11 rfl (a_ (a_ (e_ true) (a_ (n0 p9 E8) tr)) (a_ (a_ (a_ (e_ true) (Q8 p9 (LV.int .u8) L9 ww y7)) (a_ (R1 (LV.int .u8) (f9 ww y7) default) tr)) (a_ (a_ (a_ (a5w ((f9 ww s).getD default) ((f9 ww y7).getD default) y10 E9) tr) tr) (f_ C11 tr))))))))))))))))))))) (q8 tr)))
     ·exact n3 hμ [4,5] 29 [.go,.reg [(0,hT)],.reg [],.reg [(3,j5 (.bool (!decide ((l1.getD t54.toNat default)=s.m9)))),(4,hT),(9,i6 (g9 [0,1,2,3] (a5p y5) (a5n uu hh ww) (a5o uu hh ww y5))),(12,hT),(21,j5 (p9 y7)),(22,{look:=((f9 ww y7).map (LV.int .u8)),v:=some (.int .u8 ((f9 ww y7).getD default))}),(23,hC (a2s y10)),(24,hF)],.reg []]
       (V3 (f_ C1 tr) (o8 3 G2 tr (b4 (a_ (a_ (a_ (e_ 3) (a_ (d8 3 3 rfl) (e_ 0))) tr) tr))) (m_ 3 3 rfl (b4 (m_ 3 11 rfl (a_ (a_ tr (a_ (v6 (congrArg not (t6 (l1.getD t54.toNat default) s.m9))) tr)) (f_ C3 (b4 (m_ 3 3 rfl (b4 (m_ 3 11 rfl (a_ (a_ (a_ (a7a uu hh ww (l1.getD t54.toNat default) s.m9 y5 E4 (f8 [0,1,2,3]) i1) (n4 [.map 1,.map 2,.map 3] uu hh ww)) tr) (b5 (f_ C6 (l9 (l_ 2 3 rfl (m_ 3 3 rfl (b4 (m_ 11 11 rfl (a_ (a_ (e_ true) (a_ (n0 p9 E8) tr)) (a_ (a_ (a_ (e_ true) (Q8 p9 (LV.int .u8) L9 ww y7)) (a_ (R1 (LV.int .u8) (f9 ww y7) default) tr)) (a_ (a_ (a_ (a5w ((f9 ww s).getD default) ((f9 ww y7).getD default) y10 E9) tr) tr) (f_ C11 tr)))))))))))))))))))))) (ih _ r h) ⟨rfl,uP,tr,tr,rfl,λ_ _=>rfl,tr⟩
    ·exact n3 hμ [4,5] 29 [.go,.reg [(0,hT)],.reg [],.reg [(3,j5 (.bool (!decide ((l1.getD t54.toNat default)=s.m9)))),(4,hT),(9,i6 (g9 [0,1,2,3] (a5p y5) (a5n uu hh ww) (a5o uu hh ww y5))),(12,hF)],.reg []]
      (V3 (f_ C1 tr) (o8 3 G2 tr (b4 (a_ (a_ (a_ (e_ 3) (a_ (d8 3 3 rfl) (e_ 0))) tr) tr))) (m_ 3 3 rfl (b4 (m_ 3 11 rfl (a_ (a_ tr (a_ (v6 (congrArg not (t6 (l1.getD t54.toNat default) s.m9))) tr)) (f_ C3 (b4 (m_ 3 3 rfl (b4 (m_ 3 11 rfl (a_ (a_ (a_ (a7a uu hh ww (l1.getD t54.toNat default) s.m9 y5 E4 (f8 [0,1,2,3]) i1) (n4 [.map 1,.map 2,.map 3] uu hh ww)) tr) (b5 (f_ C6 (a_ tr (u5 (B3 (b4 tr))))))))))))))))) (ih _ r h) ⟨rfl,uP,tr,tr,rfl,λ_ _=>rfl,tr⟩
   ·exact n3 hμ [4,5] 29 [.go,.reg [(0,hT)],.reg [],.reg [(3,j5 (.bool (!decide ((l1.getD t54.toNat default)=s.m9)))),(4,hF)],.reg []]
     (V3 (f_ C1 tr) (o8 3 G2 tr (b4 (a_ (a_ (a_ (e_ 3) (a_ (d8 3 3 rfl) (e_ 0))) tr) tr))) (m_ 3 3 rfl (b4 (m_ 3 11 rfl (a_ (a_ tr (a_ (v6 (congrArg not (t6 (l1.getD t54.toNat default) s.m9))) tr)) (f_ C3 (u5 (z8 (b5 (a_ tr (u5 (B3 (b4 tr))))))))))))) (ih _ r h) ⟨rfl,uP,tr,tr,rfl,λ_ _=>rfl,tr⟩
  ·obtain rfl:=i7 h
   exact l8 [] 19 [.go,.reg [(0,hF)],.reg []]
    (F8 (f_ C1 tr) (q8 tr))
theorem c2h{w0 W μ0}(hμ:p4 μ0 4)(uu:UT)(hh ww:PT)(s:TL)(y3:(j7 TX))(q2:j7 TX)(r:Bool)(h:a88 uu hh ww s y3 q2=some r):p3 w0 W μ0 Tryz.f66 4 4 (a3X r) (a3W uu hh ww r) (z6 (o9 Tryz.f66) 1) ((.ptr 0 0 0):: .any:: .any::(.ptr 4 0 0):: .any::(.int .u8 ((f9 ww s).getD default))::n_ 46 ((.gs 5 q2.length)::(.int .i64 (y3.length:Int))::(.int .i64 0)::n_ 29 [])) [some (.var [.map 1,.map 2,.map 3]),some (m7 uu []),some (b9 hh),some (b9 ww),some (.var (L1 s)),some (.bag 3 (j7.map f5 q2))]:=by
 unfold a88 at h;refine a6X f5 default (sz:=3) (c:=5) (q:=q2) (by kernel_rfl) (by kernel_rfl) (λl1 hC2000001_2=>?_)
 replace h:=a3t h hC2000001_2
 subst hC2000001_2;exact n3 hμ [4,5] 8 []
  tr (c2j hμ uu hh ww s y3 l1 big _ r h) ⟨rfl,uP,tr,tr,rfl,λ_ _=>rfl,tr⟩
theorem c2i{w0 W μ0}(hμ:p4 μ0 4)(uu:UT)(hh ww:PT)(s:TL)(y2:(j7 TX))(l1:List TX):∀(fuel:Nat) (t24:Int) (r:Bool),a2n uu hh ww s y2 l1 fuel t24=some r->c2e w0 W μ0 uu hh ww s y2 l1 t24 r:=by
 intro fuel
 induction fuel with
 |zero=>intro t24 r h;rw[a2n] at h;cases h
 |succ fuel ih=>
  intro t24 r h;rw[a2n] at h;rcases i5 h with⟨C1,h⟩|⟨C1,h⟩
  ·obtain⟨G2,h⟩:=j6 h
   rcases i5 h with⟨C3,h⟩|⟨C3,h⟩
   ·obtain⟨y4,E5,h⟩:=d6 h
    obtain⟨y7,E6,h⟩:=d6 h;rcases i5 h with⟨C8,h⟩|⟨C8,h⟩
    ·obtain rfl:=i7 h
     exact l8 [] 28 [.go,.reg [(0,hT)],.reg [],.reg [(3,j5 (.bool (!decide ((l1.getD t24.toNat default)=s.m9)))),(4,hT),(13,j5 (p9 y4)),(14,{look:=((f9 hh y4).map (LV.int .u8)),v:=some (.int .u8 ((f9 hh y4).getD default))}),(15,hC (a2s y7)),(16,hT)],.reg []]
      (q3 (E0 (f_ C1 tr) (o8 3 G2 tr (b4 (a_ (a_ (a_ (e_ 3) (a_ (d8 3 3 rfl) (e_ 0))) tr) tr))) (m_ 3 3 rfl (b4 (m_ 3 11 rfl (a_ (a_ tr (a_ (v6 (congrArg not (t6 (l1.getD t24.toNat default) s.m9))) tr)) (f_ C3 (l9 (l_ 1 3 rfl (m_ 3 3 rfl (b4 (m_ 11 11 rfl (a_ (a_ (e_ true) (a_ (n0 p9 E5) tr)) (a_ (a_ (a_ (e_ true) (Q8 p9 (LV.int .u8) L9 hh y4)) (a_ (R1 (LV.int .u8) (f9 hh y4) default) tr)) (a_ (a_ (a_ (a5w ((f9 ww s).getD default) ((f9 hh y4).getD default) y7 E6) tr) tr) (f_ C8 tr)))))))))))))) (q8 tr)))
    ·exact n3 hμ [4,5] 29 [.go,.reg [(0,hT)],.reg [],.reg [(3,j5 (.bool (!decide ((l1.getD t24.toNat default)=s.m9)))),(4,hT),(13,j5 (p9 y4)),(14,{look:=((f9 hh y4).map (LV.int .u8)),v:=some (.int .u8 ((f9 hh y4).getD default))}),(15,hC (a2s y7)),(16,hF)],.reg []]
      (V3 (f_ C1 tr) (o8 3 G2 tr (b4 (a_ (a_ (a_ (e_ 3) (a_ (d8 3 3 rfl) (e_ 0))) tr) tr))) (m_ 3 3 rfl (b4 (m_ 3 11 rfl (a_ (a_ tr (a_ (v6 (congrArg not (t6 (l1.getD t24.toNat default) s.m9))) tr)) (f_ C3 (l9 (l_ 1 3 rfl (m_ 3 3 rfl (b4 (m_ 11 11 rfl (a_ (a_ (e_ true) (a_ (n0 p9 E5) tr)) (a_ (a_ (a_ (e_ true) (Q8 p9 (LV.int .u8) L9 hh y4)) (a_ (R1 (LV.int .u8) (f9 hh y4) default) tr)) (a_ (a_ (a_ (a5w ((f9 ww s).getD default) ((f9 hh y4).getD default) y7 E6) tr) tr) (f_ C8 tr))))))))))))))) (ih _ r h) ⟨rfl,uP,tr,tr,rfl,λ_ _=>rfl,tr⟩
   ·exact n3 hμ [4,5] 29 [.go,.reg [(0,hT)],.reg [],.reg [(3,j5 (.bool (!decide ((l1.getD t24.toNat default)=s.m9)))),(4,hF)],.reg []]
     (V3 (f_ C1 tr) (o8 3 G2 tr (b4 (a_ (a_ (a_ (e_ 3) (a_ (d8 3 3 rfl) (e_ 0))) tr) tr))) (m_ 3 3 rfl (b4 (m_ 3 11 rfl (a_ (a_ tr (a_ (v6 (congrArg not (t6 (l1.getD t24.toNat default) s.m9))) tr)) (f_ C3 (a_ tr (u5 (B3 (b4 tr)))))))))) (ih _ r h) ⟨rfl,uP,tr,tr,rfl,λ_ _=>rfl,tr⟩
  ·obtain⟨y3,E2,h⟩:=d6 h
   exact n3 hμ [4,6] 22 [.go,.reg [(0,hF)],.reg [(6,i6 (g9 [3,6] (a3J y3) (a5b ww) (a3I ww y3)))]]
    (q7 (f_ C1 tr) (q2 (l_ 2 3 rfl (b4 (m_ 11 11 rfl (a_ (a_ (a_ (a60 ww s.o7 y3 E2 (f8 [3,6]) i1) (a_ (l0 (b9 ww)) tr)) tr) (b5 tr))))))) (c2h hμ uu hh ww s y3 _ r h) ⟨rfl,uP,tr,tr,rfl,tr,tr⟩
theorem c2g{w0 W μ0}(hμ:p4 μ0 4)(uu:UT)(hh ww:PT)(s:TL)(y2:(j7 TX))(q:j7 TX)(r:Bool)(h:a87 uu hh ww s y2 q=some r):p3 w0 W μ0 Tryz.f66 4 4 (a3X r) (a3W uu hh ww r) (z6 (o9 Tryz.f66) 0) ((.ptr 0 0 0):: .any:: .any::(.ptr 4 0 0):: .any::(.int .u8 ((f9 ww s).getD default))::n_ 16 ((.gs 5 q.length)::(.int .i64 (y2.length:Int))::(.int .i64 0)::n_ 59 [])) [some (.var [.map 1,.map 2,.map 3]),some (m7 uu []),some (b9 hh),some (b9 ww),some (.var (L1 s)),some (.bag 3 (j7.map f5 q))]:=by
 unfold a87 at h;refine a6X f5 default (sz:=3) (c:=5) (q:=q) (by kernel_rfl) (by kernel_rfl) (λl1 hC2000000_2=>?_)
 replace h:=a3t h hC2000000_2
 subst hC2000000_2;exact n3 hμ [4,5] 8 []
  tr (c2i hμ uu hh ww s y2 l1 big _ r h) ⟨rfl,uP,tr,tr,rfl,λ_ _=>rfl,tr⟩
theorem b6o(uu:UT)(hh ww:PT)(s:TL)(r:Bool)(h:a7b uu hh ww s=some r):∀σ,p8 4 σ->j9 Tryz.prog 66 (n7 σ [.ptr 0 0 0,p9 s]) (p5 σ 0 (b2p uu hh ww)) ((a3X r).ren σ) (p6 σ (a3W uu hh ww r)):=by
 refine u7 Tryz.func66 ⟨rfl,uP,tr,tr,tr⟩ ⟨rfl,uP,tr,tr,tr⟩ ?_;intro w0 W μ0 hμ;unfold a7b at h;obtain⟨y2,e1,h⟩:=d6 h;exact n3 hμ [4,5] 21 [.reg [],.reg [(5,{look:=((f9 ww s).map (LV.int .u8)),v:=some (.int .u8 ((f9 ww s).getD default))})],.reg [(6,i6 (g9 [2,5] (a3J y2) (a5b hh) (a3I hh y2)))]]
  (q0 (b5 tr) (q2 (l_ 2 3 rfl (m_ 11 11 rfl (a_ (a_ (a_ (e_ true) (Q8 p9 (LV.int .u8) L9 ww s)) (a_ (R1 (LV.int .u8) (f9 ww s) default) tr)) (b4 tr))))) (q2 (l_ 1 3 rfl (b4 (m_ 11 11 rfl (a_ (a_ (a_ (a60 hh s.o7 y2 e1 (f8 [2,5]) i1) (a_ (l0 (b9 hh)) tr)) tr) (b5 tr)))))) tr) (c2g hμ uu hh ww s y2 _ r h) ⟨rfl,uP,tr,tr,rfl,tr,tr⟩
def a5s(r:(List TG)×PT×PT):LV:=.ds 12 r.1.length (b6 H8 default r.1)
def a5r(uu:UT)(r:(List TG)×PT×PT):i9:=[(0,some (.var [.map 1,.map 2,.map 3])),(1,some (m7 uu [])),(2,some (b9 r.2.1)),(3,some (b9 r.2.2))]
def a7c(uu:UT)(hh ww:PT):List LO:=[.var [.map 1,.map 2,.map 3],m7 uu [],b9 hh,b9 ww]
def a2o(uu:UT)(hh ww:PT)(y4:(List TL)):Nat->Int->PT->PT->(List TG)->Option ((List TG)×PT×PT)
 |0,_,_,_,_=>none
 |fuel+1,t16,m,m2,l=>
  if decide (t16<(y4.length:Int)) then
   if 0<=t16/\t16<(y4.length:Int) then
   (a7b uu m m2 (y4.getD t16.toNat default)).bind λyL0_4=>
   if !yL0_4 then
    a2o uu hh ww y4 fuel (IntKind.wrap .i64 (t16+1)) m m2 l
   else
    (some ((f9 m2 (y4.getD t16.toNat default)).getD default)).bind λy6=>
    (some ((f9 m (y4.getD t16.toNat default)).getD default)).bind λy8=>
    (some (p7 m (y4.getD t16.toNat default) (if y8>y6 then y8 else y6))).bind λy10=>
    (some (TG.mk (y4.getD t16.toNat default).m9 (y4.getD t16.toNat default).o7 (if y8>y6 then y8 else y6))).bind λy12=>
    if(l.length+(([y12]:List TG)).length) * 24<=140737488351232 then
    a2o uu hh ww y4 fuel (IntKind.wrap .i64 (t16+1)) y10 (B1 m2 (y4.getD t16.toNat default)) (l++([y12]:List TG))
    else none
   else none
  else
   some (l,m,m2)
def a1m(uu:UT)(hh ww:PT):Option ((List TG)×PT×PT):=
 (mKP ww).bind λy2=>
 (sFO ww uu hh).bind λy4=>
 a2o uu hh ww y4 big 0 hh ww ([]:List TG)
abbrev c2k(uu:UT)(y4:(List TL))(t16:Int)(m m2:PT)(l:List TG)(r:(List TG)×PT×PT):Prop:=p3 w0 W μ0 Tryz.f39 4 4 (a5s r) (a5r uu r) (z6 (o9 Tryz.f39) 0) ((.ptr 0 0 0):: .any:: .any::(.gs 4 l.length)::n_ 10 ((.ds 11 y4.length (b6 L1 default y4))::(.int .i64 (y4.length:Int))::(.int .i64 t16)::n_ 42 [])) [some (.var [.map 1,.map 2,.map 3]),some (m7 uu []),some (b9 m),some (b9 m2),some (.gr 12 l.length (b6 H8 default l))]
theorem c2l{w0 W μ0}(hμ:p4 μ0 4)(uu:UT)(hh ww:PT)(y4:(List TL)):∀(fuel:Nat) (t16:Int) (m m2:PT) (l:List TG) (r:(List TG)×PT×PT),a2o uu hh ww y4 fuel t16 m m2 l=some r->c2k w0 W μ0 uu y4 t16 m m2 l r:=by
 intro fuel
 induction fuel with
 |zero=>intro t16 m m2 l r h;rw[a2o] at h;cases h
 |succ fuel ih=>
  intro t16 m m2 l r h;rw[a2o] at h;rcases i5 h with⟨C1,h⟩|⟨C1,h⟩
  ·obtain⟨G2,h⟩:=j6 h
   obtain⟨yL0_4,E3,h⟩:=d6 h;rcases i5 h with⟨C5,h⟩|⟨C5,h⟩
   ·exact n3 hμ [4] 29 [.go,.reg [(0,hT)],.reg [],.reg [(2,i6 (g9 [0,1,2,3] (a3X yL0_4) (b2p uu m m2) (a3W uu m m2 yL0_4))),(3,hT)],.reg []]
     (V3 (f_ C1 tr) (q4 (e_ 11) G2 (K1 (d8 11 11 rfl) (e_ 11) (d8 11 11 rfl) (e_ 0))) (q8 (m_ 11 11 rfl (a_ (a_ (a_ (b6o uu m m2 (y4.getD t16.toNat default) yL0_4 E3 (f8 [0,1,2,3]) i1) (n4 [.map 1,.map 2,.map 3] uu m m2)) tr) (f_ C5 tr))))) (ih _ _ _ _ r h) ⟨rfl,uP,tr,tr,λ_ _=>rfl,tr⟩
   ·obtain⟨y6,E7,h⟩:=d6 h
    obtain⟨y8,E9,h⟩:=d6 h;obtain⟨y10,E11,h⟩:=d6 h;obtain⟨y12,E13,h⟩:=d6 h;obtain⟨G14,h⟩:=j6 h;exact n3 hμ [7] 41 [.go,.reg [(0,hT)],.reg [],.reg [(2,i6 (g9 [0,1,2,3] (a3X yL0_4) (b2p uu m m2) (a3W uu m m2 yL0_4))),(3,hF)],.reg [(5,{look:=((f9 m2 (y4.getD t16.toNat default)).map (LV.int .u8)),v:=some (.int .u8 y6)}),(11,{look:=((f9 m (y4.getD t16.toNat default)).map (LV.int .u8)),v:=some (.int .u8 y8)})],.reg [(5,{os:=[(3,b9 (B1 m2 (y4.getD t16.toNat default)))]})],.reg [(6,{os:=[(2,b9 y10)]})],.reg [(6,j5 (b9b y12)),(7,{os:=[(6,.gr 12 (([y12]:List TG)).length (b6 H8 default ([y12]:List TG)))],v:=some (.gs 6 (([y12]:List TG)).length)}),(8,{app:=3,os:=[(7,.gr 12 ((l++([y12]:List TG))).length (b6 H8 default (l++([y12]:List TG))))],v:=some (.gs 7 ((l++([y12]:List TG))).length)})],.reg []]
     (q0 (f_ C1 tr) (q4 (e_ 11) G2 (K1 (d8 11 11 rfl) (e_ 11) (d8 11 11 rfl) (e_ 0))) (q8 (m_ 11 11 rfl (a_ (a_ (a_ (b6o uu m m2 (y4.getD t16.toNat default) yL0_4 E3 (f8 [0,1,2,3]) i1) (n4 [.map 1,.map 2,.map 3] uu m m2)) tr) (f_ C5 tr)))) (q0 (q2 (l_ 2 3 rfl (m_ 11 11 rfl (a_ (a_ (a_ (e_ true) (Q8 p9 (LV.int .u8) L9 m2 (y4.getD t16.toNat default))) (a_ (LV.Le.trans (R1 (LV.int .u8) (f9 m2 (y4.getD t16.toNat default)) default) (n0 (LV.int .u8) E7)) tr)) (b4 (b5 (l_ 1 3 rfl (m_ 11 11 rfl (a_ (a_ (a_ (e_ true) (Q8 p9 (LV.int .u8) L9 m (y4.getD t16.toNat default))) (a_ (LV.Le.trans (R1 (LV.int .u8) (f9 m (y4.getD t16.toNat default)) default) (n0 (LV.int .u8) E9)) tr)) (b5 tr)))))))))) (q2 (l_ 2 3 rfl (m_ 11 11 rfl (a_ (a_ (e_ true) (a_ (c7k p9 (LV.int .u8) L9 true x5 m2 (y4.getD t16.toNat default)) tr)) tr)))) (q2 (l_ 1 3 rfl (m_ 11 11 rfl (b4 (a_ (a_ (a_ (e_ true) (e_ true)) (a_ (LO.Sub.trans (a6p p9 (LV.int .u8) L9 true x5 m (y4.getD t16.toNat default) (if y8>y6 then y8 else y6)) (LO.Sub.of_eq (a31 b9 E11))) tr)) tr))))) (q7 (b5 (m_ 3 11 rfl (b4 (m_ 11 11 rfl (b4 (a_ (a_ (e_ true) (a_ (n0 b9b E13) tr)) (a_ (a_ (a_ (e_ true) (a_ (e_ 12) (a_ (j4 0 12 rfl) (d8 12 16777216 rfl)))) (a_ (L5 6 1 (some 1) rfl) (a_ (L6 H8 default 12 (λ_=>rfl) ([y12]:List TG)) tr))) (a_ (a_ (a_ (a_ (e_ 12) (m8 (([y12]:List TG)).length)) (a_ (a_ (j4 0 12 rfl) (a_ (j4 0 24 rfl) (a_ G14 (a_ (e_ 12) (e_ true))))) (a_ (e_ 12) (m8 l.length)))) (a_ (J6 7 l ([y12]:List TG)) (a_ (J9 H8 default 12 l ([y12]:List TG)) tr))) (b4 tr))))))))) (b5 tr)))) (ih _ _ _ _ r h) ⟨rfl,uP,tr,tr,λ_ _=>rfl,tr⟩
  ·obtain rfl:=i7 h
   exact l8 [] 20 [.go,.reg [(0,hF)],.reg [],.frz 4]
    (q3 (B6 (f_ C1 tr) tr (E0 (J2 (enc:=H8) (d:=default) (λ_=>rfl) l) (m8 l.length) (m8 l.length) (m8 l.length)) tr))
theorem a89(uu:UT)(hh ww:PT)(r:(List TG)×PT×PT)(h:a1m uu hh ww=some r):∀σ,p8 4 σ->j9 Tryz.prog 39 (n7 σ [.ptr 0 0 0]) (p5 σ 0 (a7c uu hh ww)) ((a5s r).ren σ) (p6 σ (a5r uu r)):=by
 refine u7 Tryz.func39 ⟨rfl,uP,tr,tr,tr⟩ ⟨rfl,uP,tr,tr,tr⟩ ?_;intro w0 W μ0 hμ;unfold a1m at h;obtain⟨y2,e1,h⟩:=d6 h;obtain⟨y4,e3,h⟩:=d6 h;exact n3 hμ [4] 22 [.reg [(0,j5 (.ds 12 (([]:List TG)).length (b6 H8 default ([]:List TG))))],.void (.gr 12 (([]:List TG)).length (b6 H8 default ([]:List TG))),.reg [(0,j5 (.gs 4 (([]:List TG)).length))],.reg [(4,i6 (g9 [3,5] (b6C y2) (b6A ww) (b6B ww y2))),(7,i6 (g9 [5,3,0,1,2] (b3D y4) (b70 ww uu hh) (b3C ww uu hh y4)))]]
  (E0 (D4 (A6 12 (b6 H8 default []))) (e_ 0) (D4 (q_ 4)) (q2 (l_ 2 3 rfl (a_ (a_ (a_ (c2O ww y2 e1 (f8 [3,5]) i1) (a_ (l0 (b9 ww)) tr)) tr) (b5 (a_ (a_ (a_ (c5y ww uu hh y4 e3 (f8 [5,3,0,1,2]) i1) (a_ (l0 (.var [.map 3])) (a_ (l0 (b9 ww)) (a_ (l0 (.var [.map 1,.map 2,.map 3])) (a_ (e_ (m7 uu []:LO)) (a_ (l0 (b9 hh)) tr)))))) tr) (b5 tr))))))) (c2l hμ uu hh ww y4 big _ _ _ _ r h) ⟨rfl,uP,tr,tr,λ_ _=>rfl,tr⟩
def N3(r:TO×Int×UT×PT×PT):LV:=.tup [a6u r.1,.int .i64 r.2.1]
def N2(r:TO×Int×UT×PT×PT):i9:=[(0,some (.var [.map 1,.map 2,.map 3])),(1,some (m7 r.2.2.1 [])),(2,some (b9 r.2.2.2.1)),(3,some (b9 r.2.2.2.2))]
def W8(uu:UT)(hh ww:PT):List LO:=[.var [.map 1,.map 2,.map 3],m7 uu [],b9 hh,b9 ww]
def a5d(uu:UT)(hh ww:PT)(s:TS)(x_k:A8 Int)(mode:Int):Option (TO×Int×UT×PT×PT):=
 some ((TO.mk ([]:List TX) ([]:List TG)),1,uu,hh,ww)
def b2e(uu:UT)(hh ww:PT)(s:TS)(x_k:A8 Int)(mode:Int):Option (TO×Int×UT×PT×PT):=
 some ((TO.mk ([]:List TX) ([]:List TG)),11,uu,hh,ww)
def b2c(uu:UT)(hh ww:PT)(s:TS)(x_k:A8 Int)(mode:Int):Option (TO×Int×UT×PT×PT):=
 some ((TO.mk ([]:List TX) ([]:List TG)),5,uu,hh,ww)
def a8X(uu:UT)(hh ww:PT)(s:TS)(x_k:A8 Int)(mode:Int):Option (TO×Int×UT×PT×PT):=
 (some ((f9 hh (TL.mk s.b7 x_k)).getD default)).bind λy1=>
 if decide (mode<=y1) then
  some ((TO.mk ([]:List TX) ([]:List TG)),0,uu,hh,ww)
 else
  (some ((f9 ww (TL.mk s.b7 x_k)).getD default)).bind λy4=>
  (some (p7 ww (TL.mk s.b7 x_k) (if mode>y4 then mode else y4))).bind λy6=>
  (a3Y (p7 uu s.b7 (TU.mk s false)) hh y6 (TL.mk s.b7 x_k)).bind λy9=>
  (a1m y9.2.1 y9.2.2.1 y9.2.2.2).bind λy11=>
  some ((TO.mk y9.1 y11.1),0,y9.2.1,y11.2.1,y11.2.2)
def b2d(uu:UT)(hh ww:PT)(s:TS)(x_k:A8 Int)(mode:Int):Option (TO×Int×UT×PT×PT):=
 some ((TO.mk ([]:List TX) ([]:List TG)),0,uu,hh,ww)
def a8Y(uu:UT)(hh ww:PT)(s:TS)(x_k:A8 Int)(mode:Int):Option (TO×Int×UT×PT×PT):=
 (some ((f9 ww (TL.mk s.b7 x_k)).getD default)).bind λy1=>
 (some (p7 ww (TL.mk s.b7 x_k) (if mode>y1 then mode else y1))).bind λy3=>
 (a3Y uu hh y3 (TL.mk s.b7 x_k)).bind λy6=>
 (a1m y6.2.1 y6.2.2.1 y6.2.2.2).bind λy8=>
 some ((TO.mk y6.1 y8.1),0,y6.2.1,y8.2.1,y8.2.2)
def a5e(uu:UT)(hh ww:PT)(s:TS)(x_k:A8 Int)(mode:Int):Option (TO×Int×UT×PT×PT):=
 if(f9 uu s.b7).isSome then
  (f9 uu s.b7).bind λy2=>
  if y2.a07 then
   b2e uu hh ww s x_k mode
  else
   (some ((f9 hh (TL.mk s.b7 x_k)).getD default)).bind λy5=>
   if decide (mode<=y5) then
    b2d uu hh ww s x_k mode
   else
    a8Y uu hh ww s x_k mode
 else
  if(uu.length:Int)==64 then
   b2c uu hh ww s x_k mode
  else
   a8X uu hh ww s x_k mode
def a3L(uu:UT)(hh ww:PT)(s:TS)(x_k:A8 Int)(mode:Int):Option (TO×Int×UT×PT×PT):=
 (P9 uu hh ww).bind λy2=>
 (a48 s).bind λy4=>
 if !y4 then
  some ((TO.mk ([]:List TX) ([]:List TG)),1,uu,hh,ww)
 else
  (a0M x_k).bind λy7=>
  if !y7 then
   a5d uu hh ww s x_k mode
  else
   if mode !=1 then
    if mode !=2 then
     a5d uu hh ww s x_k mode
    else
     a5e uu hh ww s x_k mode
   else
    a5e uu hh ww s x_k mode
theorem b6f{w0 W μ0}(hμ:p4 μ0 4)(uu:UT)(hh ww:PT)(s:TS)(x_k:A8 Int)(mode:Int)(r:TO×Int×UT×PT×PT)(h:a5d uu hh ww s x_k mode=some r):p3 w0 W μ0 Tryz.f33 4 4 (N3 r) (N2 r) (z7 (o9 Tryz.f33) 4) (n_ 8 ((.ptr 4 0 0)::n_ 101 [])) [some (.var [.map 1,.map 2,.map 3]),some (m7 uu []),some (b9 hh),some (b9 ww),some (.var [.nilsl,.nilsl])]:=by
 unfold a5d at h;obtain rfl:=i7 h;exact l8 [] 13 [.reg [],.wk [] [(4,.var [.ds 3 (([]:List TX)).length (b6 f5 default ([]:List TX)),.nilsl])],.wk [] [(4,.var (Z9 (TO.mk ([]:List TX) ([]:List TG))))]]
  (F9 (W9 (R5 (e_ true) (e_ 2) (d8 2 2 rfl) (e_ 0)) (LO.Sub.var (a:=[.nilsl,.nilsl]) (b:=[.ds 3 (([]:List TX)).length (b6 f5 default ([]:List TX)),.nilsl]) (a_ (A6 3 (b6 f5 default [])) (a_ (LV.Le.refl (.nilsl)) tr))) (LO.Sub.var (a:=[.ds 3 (([]:List TX)).length (b6 f5 default ([]:List TX)),.nilsl]) (b:=[.ds 3 (([]:List TX)).length (b6 f5 default ([]:List TX)),.ds 12 (([]:List TG)).length (b6 H8 default ([]:List TG))]) (a_ (LV.Le.refl (.ds 3 (([]:List TX)).length (b6 f5 default ([]:List TX)))) (a_ (A6 12 (b6 H8 default [])) tr)))) (d8 2 2 rfl))
theorem c1U{w0 W μ0}(hμ:p4 μ0 4)(uu:UT)(hh ww:PT)(s:TS)(x_k:A8 Int)(mode:Int)(r:TO×Int×UT×PT×PT)(h:b2e uu hh ww s x_k mode=some r):p3 w0 W μ0 Tryz.f33 4 4 (N3 r) (N2 r) (z7 (o9 Tryz.f33) 8) (n_ 8 ((.ptr 4 0 0)::n_ 101 [])) [some (.var [.map 1,.map 2,.map 3]),some (m7 uu []),some (b9 hh),some (b9 ww),some (.var [.nilsl,.nilsl])]:=by
 unfold b2e at h;obtain rfl:=i7 h;exact l8 [] 13 [.reg [],.wk [] [(4,.var [.ds 3 (([]:List TX)).length (b6 f5 default ([]:List TX)),.nilsl])],.wk [] [(4,.var (Z9 (TO.mk ([]:List TX) ([]:List TG))))]]
  (F9 (W9 (R5 (e_ true) (e_ 2) (d8 2 2 rfl) (e_ 0)) (LO.Sub.var (a:=[.nilsl,.nilsl]) (b:=[.ds 3 (([]:List TX)).length (b6 f5 default ([]:List TX)),.nilsl]) (a_ (A6 3 (b6 f5 default [])) (a_ (LV.Le.refl (.nilsl)) tr))) (LO.Sub.var (a:=[.ds 3 (([]:List TX)).length (b6 f5 default ([]:List TX)),.nilsl]) (b:=[.ds 3 (([]:List TX)).length (b6 f5 default ([]:List TX)),.ds 12 (([]:List TG)).length (b6 H8 default ([]:List TG))]) (a_ (LV.Le.refl (.ds 3 (([]:List TX)).length (b6 f5 default ([]:List TX)))) (a_ (A6 12 (b6 H8 default [])) tr)))) (d8 2 2 rfl))
theorem c1Q{w0 W μ0}(hμ:p4 μ0 4)(uu:UT)(hh ww:PT)(s:TS)(x_k:A8 Int)(mode:Int)(r:TO×Int×UT×PT×PT)(h:b2c uu hh ww s x_k mode=some r):p3 w0 W μ0 Tryz.f33 4 4 (N3 r) (N2 r) (z7 (o9 Tryz.f33) 10) (n_ 8 ((.ptr 4 0 0)::n_ 101 [])) [some (.var [.map 1,.map 2,.map 3]),some (m7 uu []),some (b9 hh),some (b9 ww),some (.var [.nilsl,.nilsl])]:=by
 unfold b2c at h;obtain rfl:=i7 h;exact l8 [] 13 [.reg [],.wk [] [(4,.var [.ds 3 (([]:List TX)).length (b6 f5 default ([]:List TX)),.nilsl])],.wk [] [(4,.var (Z9 (TO.mk ([]:List TX) ([]:List TG))))]]
  (F9 (W9 (R5 (e_ true) (e_ 2) (d8 2 2 rfl) (e_ 0)) (LO.Sub.var (a:=[.nilsl,.nilsl]) (b:=[.ds 3 (([]:List TX)).length (b6 f5 default ([]:List TX)),.nilsl]) (a_ (A6 3 (b6 f5 default [])) (a_ (LV.Le.refl (.nilsl)) tr))) (LO.Sub.var (a:=[.ds 3 (([]:List TX)).length (b6 f5 default ([]:List TX)),.nilsl]) (b:=[.ds 3 (([]:List TX)).length (b6 f5 default ([]:List TX)),.ds 12 (([]:List TG)).length (b6 H8 default ([]:List TG))]) (a_ (LV.Le.refl (.ds 3 (([]:List TX)).length (b6 f5 default ([]:List TX)))) (a_ (A6 12 (b6 H8 default [])) tr)))) (d8 2 2 rfl))
theorem c1R{w0 W μ0}(hμ:p4 μ0 4)(uu:UT)(hh ww:PT)(s:TS)(x_k:A8 Int)(mode:Int)(r:TO×Int×UT×PT×PT)(h:a8X uu hh ww s x_k mode=some r):p3 w0 W μ0 Tryz.f33 4 4 (N3 r) (N2 r) (z7 (o9 Tryz.f33) 11) ((.ptr 0 0 0):: .any:: .any::(.int .u8 mode):: .any::(.ptr 4 0 0):: .any:: .any::(.ptr 5 0 0):: .any::(.ptr 6 0 0):: .nilptr::n_ 98 []) [some (.var [.map 1,.map 2,.map 3]),some (m7 uu []),some (b9 hh),some (b9 ww),some (.var (a6C s)),some (.var [.nilsl,.nilsl]),some (.var (L1 (TL.mk s.b7 x_k)))]:=by
 unfold a8X at h;obtain⟨y1,E2,h⟩:=d6 h;rcases i5 h with⟨C3,h⟩|⟨C3,h⟩
 ·obtain rfl:=i7 h
  exact l8 [] 17 [.reg [(5,{look:=((f9 hh (TL.mk s.b7 x_k)).map (LV.int .u8)),v:=some (.int .u8 y1)}),(8,hT)],.reg [],.wk [] [(5,.var [.ds 3 (([]:List TX)).length (b6 f5 default ([]:List TX)),.nilsl])],.wk [] [(5,.var (Z9 (TO.mk ([]:List TX) ([]:List TG))))]]
   (F9 (q0 (q2 (l_ 1 3 rfl (m_ 11 11 rfl (a_ (a_ (a_ (e_ true) (Q8 p9 (LV.int .u8) L9 hh (TL.mk s.b7 x_k))) (a_ (LV.Le.trans (R1 (LV.int .u8) (f9 hh (TL.mk s.b7 x_k)) default) (n0 (LV.int .u8) E2)) tr)) (b5 (f_ C3 tr)))))) (R5 (e_ true) (e_ 2) (d8 2 2 rfl) (e_ 0)) (q7 tr (LO.Sub.var (a:=[.nilsl,.nilsl]) (b:=[.ds 3 (([]:List TX)).length (b6 f5 default ([]:List TX)),.nilsl]) (a_ (A6 3 (b6 f5 default [])) (a_ (LV.Le.refl (.nilsl)) tr)))) (D4 (LO.Sub.var (a:=[.ds 3 (([]:List TX)).length (b6 f5 default ([]:List TX)),.nilsl]) (b:=[.ds 3 (([]:List TX)).length (b6 f5 default ([]:List TX)),.ds 12 (([]:List TG)).length (b6 H8 default ([]:List TG))]) (a_ (LV.Le.refl (.ds 3 (([]:List TX)).length (b6 f5 default ([]:List TX)))) (a_ (A6 12 (b6 H8 default [])) tr))))) (d8 2 2 rfl))
 ·obtain⟨y4,E5,h⟩:=d6 h
  obtain⟨y6,E7,h⟩:=d6 h;obtain⟨y9,E8,h⟩:=d6 h;obtain⟨y11,E10,h⟩:=d6 h;obtain rfl:=i7 h;exact l8 [] 30 [.reg [(5,{look:=((f9 hh (TL.mk s.b7 x_k)).map (LV.int .u8)),v:=some (.int .u8 y1)}),(8,hF)],.reg [],.reg [(9,{os:=[(1,m7 (p7 uu s.b7 (TU.mk s false)) [])]})],.reg [(10,{look:=((f9 ww (TL.mk s.b7 x_k)).map (LV.int .u8)),v:=some (.int .u8 y4)}),(13,{os:=[(3,b9 y6)]})],.reg [(2,i6 (g9 [0,1,2,3] (a5u y9) (b2q (p7 uu s.b7 (TU.mk s false)) hh y6) (a5t y9)))],.reg [(2,i6 (g9 [0,1,2,3] (a5s y11) (a7c y9.2.1 y9.2.2.1 y9.2.2.2) (a5r y9.2.1 y11)))]]
   (F9 (B6 (q2 (l_ 1 3 rfl (m_ 11 11 rfl (a_ (a_ (a_ (e_ true) (Q8 p9 (LV.int .u8) L9 hh (TL.mk s.b7 x_k))) (a_ (LV.Le.trans (R1 (LV.int .u8) (f9 hh (TL.mk s.b7 x_k)) default) (n0 (LV.int .u8) E2)) tr)) (b5 (f_ C3 tr)))))) tr (q2 (l_ 0 3 rfl (b4 (m_ 4 4 rfl (m_ 4 4 rfl (a_ (a_ (e_ true) tr) (b4 (a_ (a_ (a_ (e_ true) (a_ (e_ true) (show 1≠7 from by decide))) (a_ (b2Z i8 n9 t6 true F1 [] uu s.b7 (TU.mk s false)) tr)) tr)))))))) (q6 (q2 (l_ 2 3 rfl (m_ 11 11 rfl (b4 (b5 (l_ 2 3 rfl (m_ 11 11 rfl (a_ (a_ (a_ (e_ true) (Q8 p9 (LV.int .u8) L9 ww (TL.mk s.b7 x_k))) (a_ (LV.Le.trans (R1 (LV.int .u8) (f9 ww (TL.mk s.b7 x_k)) default) (n0 (LV.int .u8) E5)) tr)) (b5 (a_ (a_ (a_ (e_ true) (e_ true)) (a_ (LO.Sub.trans (a6p p9 (LV.int .u8) L9 true x5 ww (TL.mk s.b7 x_k) (if mode>y4 then mode else y4)) (LO.Sub.of_eq (a31 b9 E7))) tr)) tr)))))))))) (m_ 11 11 rfl (a_ (a_ (a_ (b6s (p7 uu s.b7 (TU.mk s false)) hh y6 (TL.mk s.b7 x_k) y9 E8 (f8 [0,1,2,3]) i1) (a_ (l0 (.var [.map 1,.map 2,.map 3])) (a_ (e_ (m7 (p7 uu s.b7 (TU.mk s false)) []:LO)) (a_ (l0 (b9 hh)) (a_ (l0 (b9 y6)) tr))))) tr) (b4 tr))) (b5 (q0 (q1 (a89 y9.2.1 y9.2.2.1 y9.2.2.2 y11 E10 (f8 [0,1,2,3]) i1) (n4 [.map 1,.map 2,.map 3] y9.2.1 y9.2.2.1 y9.2.2.2) tr) (q3 (e_ true)) (q1 (e_ 2) (a_ (d8 2 2 rfl) (e_ 0)) tr) (q8 tr))) tr)) (d8 2 2 rfl))
theorem c1S{w0 W μ0}(hμ:p4 μ0 4)(uu:UT)(hh ww:PT)(s:TS)(x_k:A8 Int)(mode:Int)(r:TO×Int×UT×PT×PT)(h:b2d uu hh ww s x_k mode=some r):p3 w0 W μ0 Tryz.f33 4 4 (N3 r) (N2 r) (z7 (o9 Tryz.f33) 12) (n_ 8 ((.ptr 4 0 0)::n_ 101 [])) [some (.var [.map 1,.map 2,.map 3]),some (m7 uu []),some (b9 hh),some (b9 ww),some (.var [.nilsl,.nilsl])]:=by
 unfold b2d at h;obtain rfl:=i7 h;exact l8 [] 13 [.reg [],.wk [] [(4,.var [.ds 3 (([]:List TX)).length (b6 f5 default ([]:List TX)),.nilsl])],.wk [] [(4,.var (Z9 (TO.mk ([]:List TX) ([]:List TG))))]]
  (F9 (W9 (R5 (e_ true) (e_ 2) (d8 2 2 rfl) (e_ 0)) (LO.Sub.var (a:=[.nilsl,.nilsl]) (b:=[.ds 3 (([]:List TX)).length (b6 f5 default ([]:List TX)),.nilsl]) (a_ (A6 3 (b6 f5 default [])) (a_ (LV.Le.refl (.nilsl)) tr))) (LO.Sub.var (a:=[.ds 3 (([]:List TX)).length (b6 f5 default ([]:List TX)),.nilsl]) (b:=[.ds 3 (([]:List TX)).length (b6 f5 default ([]:List TX)),.ds 12 (([]:List TG)).length (b6 H8 default ([]:List TG))]) (a_ (LV.Le.refl (.ds 3 (([]:List TX)).length (b6 f5 default ([]:List TX)))) (a_ (A6 12 (b6 H8 default [])) tr)))) (d8 2 2 rfl))
theorem c1T{w0 W μ0}(hμ:p4 μ0 4)(uu:UT)(hh ww:PT)(s:TS)(x_k:A8 Int)(mode:Int)(r:TO×Int×UT×PT×PT)(h:a8Y uu hh ww s x_k mode=some r):p3 w0 W μ0 Tryz.f33 4 4 (N3 r) (N2 r) (z7 (o9 Tryz.f33) 15) ((.ptr 0 0 0):: .any:: .any::(.int .u8 mode)::n_ 4 ((.ptr 4 0 0):: .any::(.ptr 5 0 0)::n_ 99 [])) [some (.var [.map 1,.map 2,.map 3]),some (m7 uu []),some (b9 hh),some (b9 ww),some (.var [.nilsl,.nilsl]),some (.var (L1 (TL.mk s.b7 x_k)))]:=by
 unfold a8Y at h;obtain⟨y1,E2,h⟩:=d6 h;obtain⟨y3,E4,h⟩:=d6 h;obtain⟨y6,E5,h⟩:=d6 h;obtain⟨y8,E7,h⟩:=d6 h;obtain rfl:=i7 h;exact l8 [] 17 [.reg [(10,{look:=((f9 ww (TL.mk s.b7 x_k)).map (LV.int .u8)),v:=some (.int .u8 y1)}),(13,{os:=[(3,b9 y3)]})],.reg [(2,i6 (g9 [0,1,2,3] (a5u y6) (b2q uu hh y3) (a5t y6)))],.reg [(2,i6 (g9 [0,1,2,3] (a5s y8) (a7c y6.2.1 y6.2.2.1 y6.2.2.2) (a5r y6.2.1 y8)))]]
  (F9 (q6 (q2 (l_ 2 3 rfl (m_ 11 11 rfl (b4 (b5 (l_ 2 3 rfl (m_ 11 11 rfl (a_ (a_ (a_ (e_ true) (Q8 p9 (LV.int .u8) L9 ww (TL.mk s.b7 x_k))) (a_ (LV.Le.trans (R1 (LV.int .u8) (f9 ww (TL.mk s.b7 x_k)) default) (n0 (LV.int .u8) E2)) tr)) (b5 (a_ (a_ (a_ (e_ true) (e_ true)) (a_ (LO.Sub.trans (a6p p9 (LV.int .u8) L9 true x5 ww (TL.mk s.b7 x_k) (if mode>y1 then mode else y1)) (LO.Sub.of_eq (a31 b9 E4))) tr)) tr)))))))))) (m_ 11 11 rfl (a_ (a_ (a_ (b6s uu hh y3 (TL.mk s.b7 x_k) y6 E5 (f8 [0,1,2,3]) i1) (n4 [.map 1,.map 2,.map 3] uu hh y3)) tr) (b4 tr))) (b5 (q0 (q1 (a89 y6.2.1 y6.2.2.1 y6.2.2.2 y8 E7 (f8 [0,1,2,3]) i1) (n4 [.map 1,.map 2,.map 3] y6.2.1 y6.2.2.1 y6.2.2.2) tr) (q3 (e_ true)) (q1 (e_ 2) (a_ (d8 2 2 rfl) (e_ 0)) tr) (q8 tr))) tr) (d8 2 2 rfl))
theorem b6g{w0 W μ0}(hμ:p4 μ0 4)(uu:UT)(hh ww:PT)(s:TS)(x_k:A8 Int)(mode:Int)(r:TO×Int×UT×PT×PT)(h:a5e uu hh ww s x_k mode=some r):p3 w0 W μ0 Tryz.f33 4 4 (N3 r) (N2 r) (z7 (o9 Tryz.f33) 5) ((.ptr 0 0 0):: .any:: .any::(.int .u8 mode):: .any::(.ptr 4 0 0)::(.ptr 5 0 0):: .any::(.ptr 6 0 0)::n_ 101 []) [some (.var [.map 1,.map 2,.map 3]),some (m7 uu []),some (b9 hh),some (b9 ww),some (.var (a6C s)),some (.var [.int .u8 x_k.a0,.int .u8 x_k.a1,.int .u8 x_k.a2,.int .u8 x_k.a3,.int .u8 x_k.a4,.int .u8 x_k.a5,.int .u8 x_k.a6,.int .u8 x_k.a7]),some (.var [.nilsl,.nilsl])]:=by
 unfold a5e at h;rcases i5 h with⟨C1,h⟩|⟨C1,h⟩
 ·obtain⟨y2,E3,h⟩:=d6 h
  rcases i5 h with⟨C4,h⟩|⟨C4,h⟩
  ·exact n3 hμ [6] 24 [.reg [],.x (.p (.po 1 (i8 s.b7) (n9 y2))),.reg [(6,{look:=some (.ptr 8 0 0)})],.reg [(8,hT)],.x (.p (.pc 1)),.wk [] [(1,m7 uu [])]]
    (q0 (q8 (m_ 4 4 rfl (m_ 8 8 rfl (a_ (a_ (e_ true) tr) (b4 (a_ (a_ (a_ (e_ 11) (a_ (d8 11 11 rfl) (e_ 0))) tr) tr)))))) (a_ (Q0 i8 n9 E3) (Q1 i8 s.b7)) (q2 (l_ 0 3 rfl (b4 (m_ 4 4 rfl (a_ (a_ (a_ (e_ true) (a_ (N5 i8 n9 t6 uu s.b7 (isS E3)) (List.mem_cons_self (a:=((i8 s.b7,8):LV×Nat)) (l:=[])))) tr) (b4 tr)))))) (q0 (b5 (l9 (l_ 4 5 rfl (b4 (f_ C4 tr))))) (q0 (P8 i8 n9 t6 uu s.b7 E3) (e_ true) (e_ true) (show 1≠8 from by decide)) (q7 tr (R2 i8 n9 t6 true F1 [] (m:=uu) (k:=s.b7) E3)) tr)) (c1U hμ uu hh ww s x_k mode r h) ⟨rfl,uP,tr,tr,rfl,tr⟩
  ·obtain⟨y5,E6,h⟩:=d6 h
   rcases i5 h with⟨C7,h⟩|⟨C7,h⟩
   ·exact n3 hμ [6] 32 [.reg [],.x (.p (.po 1 (i8 s.b7) (n9 y2))),.reg [(6,{look:=some (.ptr 8 0 0)})],.reg [(8,hF)],.reg [],.reg [(5,{look:=((f9 hh (TL.mk s.b7 x_k)).map (LV.int .u8)),v:=some (.int .u8 y5)}),(8,hT)],.x (.p (.pc 1)),.wk [] [(1,m7 uu [])]]
     (q0 (q8 (m_ 4 4 rfl (m_ 8 8 rfl (a_ (a_ (e_ true) tr) (b4 (a_ (a_ (a_ (e_ 11) (a_ (d8 11 11 rfl) (e_ 0))) tr) tr)))))) (a_ (Q0 i8 n9 E3) (Q1 i8 s.b7)) (q2 (l_ 0 3 rfl (b4 (m_ 4 4 rfl (a_ (a_ (a_ (e_ true) (a_ (N5 i8 n9 t6 uu s.b7 (isS E3)) (List.mem_cons_self (a:=((i8 s.b7,8):LV×Nat)) (l:=[])))) tr) (b4 tr)))))) (q0 (b5 (l9 (l_ 4 5 rfl (b4 (f_ C4 tr))))) (q2 (u5 (z8 (b5 tr)))) (q2 (l_ 1 3 rfl (m_ 11 11 rfl (a_ (a_ (a_ (e_ true) (Q8 p9 (LV.int .u8) L9 hh (TL.mk s.b7 x_k))) (a_ (LV.Le.trans (R1 (LV.int .u8) (f9 hh (TL.mk s.b7 x_k)) default) (n0 (LV.int .u8) E6)) tr)) (b5 (f_ C7 tr)))))) (a_ (q0 (P8 i8 n9 t6 uu s.b7 E3) (e_ true) (e_ true) (show 1≠8 from by decide)) (D4 (R2 i8 n9 t6 true F1 [] (m:=uu) (k:=s.b7) E3))))) (c1S hμ uu hh ww s x_k mode r h) ⟨rfl,uP,tr,tr,rfl,tr⟩
   ·exact n3 hμ [6,7] 40 [.reg [],.x (.p (.po 1 (i8 s.b7) (n9 y2))),.reg [(6,{look:=some (.ptr 8 0 0)})],.reg [(8,hF)],.reg [],.reg [(5,{look:=((f9 hh (TL.mk s.b7 x_k)).map (LV.int .u8)),v:=some (.int .u8 y5)}),(8,hF)],.reg [],.x (.p (.pc 1)),.wk [] [(1,m7 uu [])]]
     (q0 (q8 (m_ 4 4 rfl (m_ 8 8 rfl (a_ (a_ (e_ true) tr) (b4 (a_ (a_ (a_ (e_ 11) (a_ (d8 11 11 rfl) (e_ 0))) tr) tr)))))) (a_ (Q0 i8 n9 E3) (Q1 i8 s.b7)) (q2 (l_ 0 3 rfl (b4 (m_ 4 4 rfl (a_ (a_ (a_ (e_ true) (a_ (N5 i8 n9 t6 uu s.b7 (isS E3)) (List.mem_cons_self (a:=((i8 s.b7,8):LV×Nat)) (l:=[])))) tr) (b4 tr)))))) (q0 (b5 (l9 (l_ 4 5 rfl (b4 (f_ C4 tr))))) (q2 (u5 (z8 (b5 tr)))) (q2 (l_ 1 3 rfl (m_ 11 11 rfl (a_ (a_ (a_ (e_ true) (Q8 p9 (LV.int .u8) L9 hh (TL.mk s.b7 x_k))) (a_ (LV.Le.trans (R1 (LV.int .u8) (f9 hh (TL.mk s.b7 x_k)) default) (n0 (LV.int .u8) E6)) tr)) (b5 (f_ C7 tr)))))) (q0 (b5 tr) (q0 (P8 i8 n9 t6 uu s.b7 E3) (e_ true) (e_ true) (show 1≠8 from by decide)) (q7 tr (R2 i8 n9 t6 true F1 [] (m:=uu) (k:=s.b7) E3)) tr))) (c1T hμ uu hh ww s x_k mode r h) ⟨rfl,uP,tr,tr,rfl,rfl,tr⟩
 ·rcases i5 h with⟨C2,h⟩|⟨C2,h⟩
  ·exact n3 hμ [6] 25 [.reg [],.reg [(6,{look:=none})],.reg [],.reg [(7,j5 (.int .i64 (uu.length:Int))),(10,hT)]]
    (E0 (q8 (m_ 4 4 rfl (m_ 8 8 rfl (a_ (a_ (e_ true) tr) (b4 (a_ (a_ (a_ (e_ 11) (a_ (d8 11 11 rfl) (e_ 0))) tr) tr)))))) (q2 (l_ 0 3 rfl (b4 (m_ 4 4 rfl (a_ (a_ (a_ (e_ true) (pmN i8 n9 t6 uu s.b7 C1)) tr) (b4 tr)))))) (q2 (z8 (b5 tr))) (b5 (l9 (l_ 0 3 rfl (a_ (a_ tr (a_ (a9d i8 n9 uu) tr)) (b5 (f_ C2 tr))))))) (c1Q hμ uu hh ww s x_k mode r h) ⟨rfl,uP,tr,tr,rfl,tr⟩
  ·exact n3 hμ [4,6,7] 25 [.reg [],.reg [(6,{look:=none})],.reg [],.reg [(7,j5 (.int .i64 (uu.length:Int))),(10,hF)]]
    (E0 (q8 (m_ 4 4 rfl (m_ 8 8 rfl (a_ (a_ (e_ true) tr) (b4 (a_ (a_ (a_ (e_ 11) (a_ (d8 11 11 rfl) (e_ 0))) tr) tr)))))) (q2 (l_ 0 3 rfl (b4 (m_ 4 4 rfl (a_ (a_ (a_ (e_ true) (pmN i8 n9 t6 uu s.b7 C1)) tr) (b4 tr)))))) (q2 (z8 (b5 tr))) (b5 (l9 (l_ 0 3 rfl (a_ (a_ tr (a_ (a9d i8 n9 uu) tr)) (b5 (f_ C2 tr))))))) (c1R hμ uu hh ww s x_k mode r h) ⟨rfl,uP,tr,tr,rfl,rfl,rfl,tr⟩
theorem X9(uu:UT)(hh ww:PT)(s:TS)(x_k:A8 Int)(mode:Int)(r:TO×Int×UT×PT×PT)(h:a3L uu hh ww s x_k mode=some r):∀σ,p8 4 σ->j9 Tryz.prog 33 (n7 σ [.ptr 0 0 0,V5 s,.agg [.int .u8 x_k.a0,.int .u8 x_k.a1,.int .u8 x_k.a2,.int .u8 x_k.a3,.int .u8 x_k.a4,.int .u8 x_k.a5,.int .u8 x_k.a6,.int .u8 x_k.a7],.int .u8 mode]) (p5 σ 0 (W8 uu hh ww)) ((N3 r).ren σ) (p6 σ (N2 r)):=by
 refine u7 Tryz.func33 ⟨rfl,uP,tr,tr,tr⟩ ⟨rfl,uP,tr,tr,tr⟩ ?_;intro w0 W μ0 hμ;unfold a3L at h;obtain⟨y2,e1,h⟩:=d6 h;obtain⟨y4,e3,h⟩:=d6 h;rcases i5 h with⟨c5,h⟩|⟨c5,h⟩
 ·obtain rfl:=i7 h
  exact l8 [] 27 [.reg [],.reg [(1,i6 (g9 [0,1,2,3] (T4 y2) (T2 uu hh ww) (T3 hh ww y2)))],.reg [(1,hC (a3E y4)),(3,hT)],.reg [],.wk [] [(6,.var [.ds 3 (([]:List TX)).length (b6 f5 default ([]:List TX)),.nilsl])],.wk [] [(6,.var (Z9 (TO.mk ([]:List TX) ([]:List TG))))]]
   (F9 (q6 (l9 tr) (q41 (U7 uu hh ww y2 e1 (f8 [0,1,2,3]) i1) (l0 (.var [.map 1,.map 2,.map 3])) (T5 i8 n9 (ag:=true) (ks:=F1) (m:=uu) (opn:=[])) (l0 (b9 hh)) (l0 (b9 ww))) (m_ 4 4 rfl (c_ (a6S s y4 e3) (b4 (f_ c5 (a_ tr (u5 (b5 (u5 (z8 (b5 tr)))))))))) (W9 (R5 (e_ true) (e_ 2) (d8 2 2 rfl) (e_ 0)) (LO.Sub.var (a:=[.nilsl,.nilsl]) (b:=[.ds 3 (([]:List TX)).length (b6 f5 default ([]:List TX)),.nilsl]) (a_ (A6 3 (b6 f5 default [])) (a_ (LV.Le.refl (.nilsl)) tr))) (LO.Sub.var (a:=[.ds 3 (([]:List TX)).length (b6 f5 default ([]:List TX)),.nilsl]) (b:=[.ds 3 (([]:List TX)).length (b6 f5 default ([]:List TX)),.ds 12 (([]:List TG)).length (b6 H8 default ([]:List TG))]) (a_ (LV.Le.refl (.ds 3 (([]:List TX)).length (b6 f5 default ([]:List TX)))) (a_ (A6 12 (b6 H8 default [])) tr))))) (d8 2 2 rfl))
 ·obtain⟨y7,e6,h⟩:=d6 h
  rcases i5 h with⟨c8,h⟩|⟨c8,h⟩
  ·exact n3 hμ [6] 23 [.reg [],.reg [(1,i6 (g9 [0,1,2,3] (T4 y2) (T2 uu hh ww) (T3 hh ww y2)))],.reg [(1,hC (a3E y4)),(3,hF),(5,hC (a0N y7)),(8,hT)]]
    (q6 (l9 tr) (q41 (U7 uu hh ww y2 e1 (f8 [0,1,2,3]) i1) (l0 (.var [.map 1,.map 2,.map 3])) (T5 i8 n9 (ag:=true) (ks:=F1) (m:=uu) (opn:=[])) (l0 (b9 hh)) (l0 (b9 ww))) (m_ 4 4 rfl (c_ (a6S s y4 e3) (b4 (f_ c5 (m_ 8 8 rfl (c_ (a2t x_k y7 e6) (b5 (f_ c8 (u5 (z8 (b5 tr))))))))))) tr) (b6f hμ uu hh ww s x_k mode r h) ⟨rfl,uP,tr,tr,rfl,tr⟩
  ·rcases i5 h with⟨c9,h⟩|⟨c9,h⟩
   ·rcases i5 h with⟨c10,h⟩|⟨c10,h⟩
    ·exact n3 hμ [6] 23 [.reg [],.reg [(1,i6 (g9 [0,1,2,3] (T4 y2) (T2 uu hh ww) (T3 hh ww y2)))],.reg [(1,hC (a3E y4)),(3,hF),(5,hC (a0N y7)),(8,hF),(11,hT),(16,hT)]]
      (q6 (l9 tr) (q41 (U7 uu hh ww y2 e1 (f8 [0,1,2,3]) i1) (l0 (.var [.map 1,.map 2,.map 3])) (T5 i8 n9 (ag:=true) (ks:=F1) (m:=uu) (opn:=[])) (l0 (b9 hh)) (l0 (b9 ww))) (m_ 4 4 rfl (c_ (a6S s y4 e3) (b4 (f_ c5 (m_ 8 8 rfl (c_ (a2t x_k y7 e6) (b5 (f_ c8 (b5 (f_ c9 (l9 (f_ c10 tr)))))))))))) tr) (b6f hμ uu hh ww s x_k mode r h) ⟨rfl,uP,tr,tr,rfl,tr⟩
    ·exact n3 hμ [4,5,6] 25 [.reg [],.reg [(1,i6 (g9 [0,1,2,3] (T4 y2) (T2 uu hh ww) (T3 hh ww y2)))],.reg [(1,hC (a3E y4)),(3,hF),(5,hC (a0N y7)),(8,hF),(11,hT),(16,hF)]]
      (q6 (l9 tr) (q41 (U7 uu hh ww y2 e1 (f8 [0,1,2,3]) i1) (l0 (.var [.map 1,.map 2,.map 3])) (T5 i8 n9 (ag:=true) (ks:=F1) (m:=uu) (opn:=[])) (l0 (b9 hh)) (l0 (b9 ww))) (m_ 4 4 rfl (c_ (a6S s y4 e3) (b4 (f_ c5 (m_ 8 8 rfl (c_ (a2t x_k y7 e6) (b5 (f_ c8 (b5 (f_ c9 (l9 (f_ c10 tr)))))))))))) tr) (b6g hμ uu hh ww s x_k mode r h) ⟨rfl,uP,tr,tr,rfl,rfl,rfl,tr⟩
   ·exact n3 hμ [4,5,6] 25 [.reg [],.reg [(1,i6 (g9 [0,1,2,3] (T4 y2) (T2 uu hh ww) (T3 hh ww y2)))],.reg [(1,hC (a3E y4)),(3,hF),(5,hC (a0N y7)),(8,hF),(11,hF)]]
     (q6 (l9 tr) (q41 (U7 uu hh ww y2 e1 (f8 [0,1,2,3]) i1) (l0 (.var [.map 1,.map 2,.map 3])) (T5 i8 n9 (ag:=true) (ks:=F1) (m:=uu) (opn:=[])) (l0 (b9 hh)) (l0 (b9 ww))) (m_ 4 4 rfl (c_ (a6S s y4 e3) (b4 (f_ c5 (m_ 8 8 rfl (c_ (a2t x_k y7 e6) (b5 (f_ c8 (b5 (f_ c9 (u5 (b4 (b5 tr))))))))))))) tr) (b6g hμ uu hh ww s x_k mode r h) ⟨rfl,uP,tr,tr,rfl,rfl,rfl,tr⟩
def a0J(r:Int):LV:=.int .u8 r
def a0I(uu:UT)(hh ww:PT)(r:Int):i9:=[(0,some (.var [.map 1,.map 2,.map 3])),(1,some (m7 uu [])),(2,some (b9 hh)),(3,some (b9 ww))]
def a0H(uu:UT)(hh ww:PT):List LO:=[.var [.map 1,.map 2,.map 3],m7 uu [],b9 hh,b9 ww]
def a3M(uu:UT)(hh ww:PT)(x:TX)(x_k:A8 Int):Option Int:=
 (P9 uu hh ww).bind λy2=>
 (some ((f9 hh (TL.mk x x_k)).getD default)).bind λy3=>
 some y3
theorem a1k(uu:UT)(hh ww:PT)(x:TX)(x_k:A8 Int)(r:Int)(h:a3M uu hh ww x x_k=some r):∀σ,p8 4 σ->j9 Tryz.prog 16 (n7 σ [.ptr 0 0 0,i8 x,.agg [.int .u8 x_k.a0,.int .u8 x_k.a1,.int .u8 x_k.a2,.int .u8 x_k.a3,.int .u8 x_k.a4,.int .u8 x_k.a5,.int .u8 x_k.a6,.int .u8 x_k.a7]]) (p5 σ 0 (a0H uu hh ww)) ((a0J r).ren σ) (p6 σ (a0I uu hh ww r)):=by
 refine u7 Tryz.func16 ⟨rfl,uP,tr,tr,tr⟩ ⟨rfl,uP,tr,tr,tr⟩ ?_;intro w0 W μ0 hμ;unfold a3M at h;obtain⟨y2,e1,h⟩:=d6 h;obtain⟨y3,e4,h⟩:=d6 h;obtain rfl:=i7 h;exact l8 [] 21 [.reg [],.reg [(1,i6 (g9 [0,1,2,3] (T4 y2) (T2 uu hh ww) (T3 hh ww y2)))],.reg [(7,{look:=((f9 hh (TL.mk x x_k)).map (LV.int .u8)),v:=some (.int .u8 y3)})]]
  (q3 (K8 (I2 (q0 (U7 uu hh ww y2 e1 (f8 [0,1,2,3]) i1) (l0 (.var [.map 1,.map 2,.map 3])) (T5 i8 n9 (ag:=true) (ks:=F1) (m:=uu) (opn:=[])) (q7 (l0 (b9 hh)) (l0 (b9 ww))))) (q2 (l_ 1 3 rfl (m_ 3 3 rfl (m_ 8 8 rfl (a_ (a_ (e_ true) tr) (a_ (a_ (a_ (e_ true) (Q8 p9 (LV.int .u8) L9 hh (TL.mk x x_k))) (a_ (LV.Le.trans (R1 (LV.int .u8) (f9 hh (TL.mk x x_k)) default) (n0 (LV.int .u8) e4)) tr)) (b4 tr))))))) tr))
def a9B(r:Bool):LV:=.bool r
def a4e:Option Bool:=
 a5v.bind λy2=>
 (a1u 5).bind λy4=>
 (a3L y2.1 y2.2.1 y2.2.2 y4 (A8.mk 97 0 0 0 0 0 0 0) 1).bind λy6=>
 (a1u 3).bind λy8=>
 (a3L y6.2.2.1 y6.2.2.2.1 y6.2.2.2.2 y8 (A8.mk 97 0 0 0 0 0 0 0) 2).bind λy10=>
 if y6.2.1==0 then
  if(y6.1.H5.length:Int)==1 then
   if y10.2.1==0 then
    if(y10.1.K2.length:Int)==1 then
     if(y10.1.H5.length:Int)==1 then
      (a1u 3).bind λy17=>
      (a3M y10.2.2.1 y10.2.2.2.1 y10.2.2.2.2 y17.b7 (A8.mk 97 0 0 0 0 0 0 0)).bind λy19=>
      if y19==2 then
       (a1u 5).bind λy22=>
       (a3M y10.2.2.1 y10.2.2.2.1 y10.2.2.2.2 y22.b7 (A8.mk 97 0 0 0 0 0 0 0)).bind λy24=>
       some (y24==0)
      else
       some false
     else
      some false
    else
     some false
   else
    some false
  else
   some false
 else
  some false
theorem c3L(r:Bool)(h:a4e=some r):∀σ,p8 0 σ->j9 Tryz.prog 11 (n7 σ []) (p5 σ 0 []) ((a9B r).ren σ) (p6 σ []):=by
 refine u7 Tryz.func11 tr tr ?_;intro w0 W μ0 hμ;unfold a4e at h;obtain⟨y2,e1,h⟩:=d6 h;obtain⟨y4,e3,h⟩:=d6 h;obtain⟨y6,e5,h⟩:=d6 h;obtain⟨y8,e7,h⟩:=d6 h;obtain⟨y10,e9,h⟩:=d6 h;rcases i5 h with⟨c11,h⟩|⟨c11,h⟩
 ·rcases i5 h with⟨c12,h⟩|⟨c12,h⟩
  ·rcases i5 h with⟨c13,h⟩|⟨c13,h⟩
   ·rcases i5 h with⟨c14,h⟩|⟨c14,h⟩
    ·rcases i5 h with⟨c15,h⟩|⟨c15,h⟩
     ·obtain⟨y17,e16,h⟩:=d6 h
      obtain⟨y19,e18,h⟩:=d6 h;rcases i5 h with⟨c20,h⟩|⟨c20,h⟩
      ·obtain⟨y22,e21,h⟩:=d6 h
       obtain⟨y24,e23,h⟩:=d6 h;obtain rfl:=i7 h;exact l8 [] 33 [.reg [],.reg [(0,i6 (g9 [0,1,2,3] (a0L y2) [] (a0K y2)))],.reg [],.reg [],.reg [(1,hC (S4 y4)),(3,i6 (g9 [0,1,2,3] (N3 y6) (W8 y2.1 y2.2.1 y2.2.2) (N2 y6)))],.reg [(1,hC (S4 y8)),(3,i6 (g9 [0,1,2,3] (N3 y10) (W8 y6.2.2.1 y6.2.2.2.1 y6.2.2.2.2) (N2 y10)))],.reg [(2,hT),(8,hT),(12,hT),(18,hT),(24,hT),(26,hC (S4 y17)),(29,i6 (g9 [0,1,2,3] (a0J y19) (a0H y10.2.2.1 y10.2.2.2.1 y10.2.2.2.2) (a0I y10.2.2.1 y10.2.2.2.1 y10.2.2.2.2 y19))),(32,hT),(34,hC (S4 y22)),(37,i6 (g9 [0,1,2,3] (a0J y24) (a0H y10.2.2.1 y10.2.2.2.1 y10.2.2.2.2) (a0I y10.2.2.1 y10.2.2.2.1 y10.2.2.2.2 y24)))]]
        (q3 (q0 (q8 tr) (I2 (q3 (a1o y2 e1 (f8 [0,1,2,3]) i1))) (K1 (e_ true) (e_ 8) (d8 8 8 rfl) (e_ 0)) (q42 (c_ (U9 5 y4 e3) (m_ 8 8 rfl (a_ (a_ (a_ (X9 y2.1 y2.2.1 y2.2.2 y4 (A8.mk 97 0 0 0 0 0 0 0) 1 y6 e5 (f8 [0,1,2,3]) i1) (n4 [.map 1,.map 2,.map 3] y2.1 y2.2.1 y2.2.2)) tr) (l9 (a_ (a_ (a_ (e_ 2) (a_ (d8 2 2 rfl) (e_ 0))) tr) (b4 tr)))))) (q8 (c_ (U9 3 y8 e7) (m_ 8 8 rfl (a_ (a_ (a_ (X9 y6.2.2.1 y6.2.2.2.1 y6.2.2.2.2 y8 (A8.mk 97 0 0 0 0 0 0 0) 2 y10 e9 (f8 [0,1,2,3]) i1) (n4 [.map 1,.map 2,.map 3] y6.2.2.1 y6.2.2.2.1 y6.2.2.2.2)) tr) (l9 (a_ (a_ (a_ (e_ 2) (a_ (d8 2 2 rfl) (e_ 0))) tr) (b4 tr))))))) (b5 (f_ c11 (b4 (l_ 1 2 rfl (b4 (b5 (f_ c12 (b4 (b5 (f_ c13 (b4 (l_ 0 2 rfl (b4 (b5 (f_ c14 (b4 (l_ 1 2 rfl (b4 (b5 (f_ c15 (b4 (c_ (U9 3 y17 e16) (b4 (m_ 8 8 rfl (a_ (a_ (a_ (a1k y10.2.2.1 y10.2.2.2.1 y10.2.2.2.2 y17.b7 (A8.mk 97 0 0 0 0 0 0 0) y19 e18 (f8 [0,1,2,3]) i1) (n4 [.map 1,.map 2,.map 3] y10.2.2.1 y10.2.2.2.1 y10.2.2.2.2)) tr) (b5 (f_ c20 (b4 (c_ (U9 5 y22 e21) (b4 (m_ 8 8 rfl (a_ (a_ (a_ (a1k y10.2.2.1 y10.2.2.2.1 y10.2.2.2.2 y22.b7 (A8.mk 97 0 0 0 0 0 0 0) y24 e23 (f8 [0,1,2,3]) i1) (n4 [.map 1,.map 2,.map 3] y10.2.2.1 y10.2.2.2.1 y10.2.2.2.2)) tr) (b4 (b5 tr)))))))))))))))))))))))))))))))))))))
      ·obtain rfl:=i7 h
       exact l8 [] 33 [.reg [],.reg [(0,i6 (g9 [0,1,2,3] (a0L y2) [] (a0K y2)))],.reg [],.reg [],.reg [(1,hC (S4 y4)),(3,i6 (g9 [0,1,2,3] (N3 y6) (W8 y2.1 y2.2.1 y2.2.2) (N2 y6)))],.reg [(1,hC (S4 y8)),(3,i6 (g9 [0,1,2,3] (N3 y10) (W8 y6.2.2.1 y6.2.2.2.1 y6.2.2.2.2) (N2 y10)))],.reg [(2,hT),(8,hT),(12,hT),(18,hT),(24,hT),(26,hC (S4 y17)),(29,i6 (g9 [0,1,2,3] (a0J y19) (a0H y10.2.2.1 y10.2.2.2.1 y10.2.2.2.2) (a0I y10.2.2.1 y10.2.2.2.1 y10.2.2.2.2 y19))),(32,hF)]]
        (q3 (q0 (q8 tr) (I2 (q3 (a1o y2 e1 (f8 [0,1,2,3]) i1))) (K1 (e_ true) (e_ 8) (d8 8 8 rfl) (e_ 0)) (q42 (c_ (U9 5 y4 e3) (m_ 8 8 rfl (a_ (a_ (a_ (X9 y2.1 y2.2.1 y2.2.2 y4 (A8.mk 97 0 0 0 0 0 0 0) 1 y6 e5 (f8 [0,1,2,3]) i1) (n4 [.map 1,.map 2,.map 3] y2.1 y2.2.1 y2.2.2)) tr) (l9 (a_ (a_ (a_ (e_ 2) (a_ (d8 2 2 rfl) (e_ 0))) tr) (b4 tr)))))) (q8 (c_ (U9 3 y8 e7) (m_ 8 8 rfl (a_ (a_ (a_ (X9 y6.2.2.1 y6.2.2.2.1 y6.2.2.2.2 y8 (A8.mk 97 0 0 0 0 0 0 0) 2 y10 e9 (f8 [0,1,2,3]) i1) (n4 [.map 1,.map 2,.map 3] y6.2.2.1 y6.2.2.2.1 y6.2.2.2.2)) tr) (l9 (a_ (a_ (a_ (e_ 2) (a_ (d8 2 2 rfl) (e_ 0))) tr) (b4 tr))))))) (b5 (f_ c11 (b4 (l_ 1 2 rfl (b4 (b5 (f_ c12 (b4 (b5 (f_ c13 (b4 (l_ 0 2 rfl (b4 (b5 (f_ c14 (b4 (l_ 1 2 rfl (b4 (b5 (f_ c15 (b4 (c_ (U9 3 y17 e16) (b4 (m_ 8 8 rfl (a_ (a_ (a_ (a1k y10.2.2.1 y10.2.2.2.1 y10.2.2.2.2 y17.b7 (A8.mk 97 0 0 0 0 0 0 0) y19 e18 (f8 [0,1,2,3]) i1) (n4 [.map 1,.map 2,.map 3] y10.2.2.1 y10.2.2.2.1 y10.2.2.2.2)) tr) (b5 (f_ c20 (u5 (z8 (b5 tr)))))))))))))))))))))))))))))))))
     ·obtain rfl:=i7 h
      exact l8 [] 33 [.reg [],.reg [(0,i6 (g9 [0,1,2,3] (a0L y2) [] (a0K y2)))],.reg [],.reg [],.reg [(1,hC (S4 y4)),(3,i6 (g9 [0,1,2,3] (N3 y6) (W8 y2.1 y2.2.1 y2.2.2) (N2 y6)))],.reg [(1,hC (S4 y8)),(3,i6 (g9 [0,1,2,3] (N3 y10) (W8 y6.2.2.1 y6.2.2.2.1 y6.2.2.2.2) (N2 y10)))],.reg [(2,hT),(8,hT),(12,hT),(18,hT),(24,hF)]]
       (q3 (q0 (q8 tr) (I2 (q3 (a1o y2 e1 (f8 [0,1,2,3]) i1))) (K1 (e_ true) (e_ 8) (d8 8 8 rfl) (e_ 0)) (q42 (c_ (U9 5 y4 e3) (m_ 8 8 rfl (a_ (a_ (a_ (X9 y2.1 y2.2.1 y2.2.2 y4 (A8.mk 97 0 0 0 0 0 0 0) 1 y6 e5 (f8 [0,1,2,3]) i1) (n4 [.map 1,.map 2,.map 3] y2.1 y2.2.1 y2.2.2)) tr) (l9 (a_ (a_ (a_ (e_ 2) (a_ (d8 2 2 rfl) (e_ 0))) tr) (b4 tr)))))) (q8 (c_ (U9 3 y8 e7) (m_ 8 8 rfl (a_ (a_ (a_ (X9 y6.2.2.1 y6.2.2.2.1 y6.2.2.2.2 y8 (A8.mk 97 0 0 0 0 0 0 0) 2 y10 e9 (f8 [0,1,2,3]) i1) (n4 [.map 1,.map 2,.map 3] y6.2.2.1 y6.2.2.2.1 y6.2.2.2.2)) tr) (l9 (a_ (a_ (a_ (e_ 2) (a_ (d8 2 2 rfl) (e_ 0))) tr) (b4 tr))))))) (b5 (f_ c11 (b4 (l_ 1 2 rfl (b4 (b5 (f_ c12 (b4 (b5 (f_ c13 (b4 (l_ 0 2 rfl (b4 (b5 (f_ c14 (b4 (l_ 1 2 rfl (b4 (b5 (f_ c15 (u5 (z8 (b5 (u5 (z8 (b5 tr)))))))))))))))))))))))))))))
    ·obtain rfl:=i7 h
     exact l8 [] 33 [.reg [],.reg [(0,i6 (g9 [0,1,2,3] (a0L y2) [] (a0K y2)))],.reg [],.reg [],.reg [(1,hC (S4 y4)),(3,i6 (g9 [0,1,2,3] (N3 y6) (W8 y2.1 y2.2.1 y2.2.2) (N2 y6)))],.reg [(1,hC (S4 y8)),(3,i6 (g9 [0,1,2,3] (N3 y10) (W8 y6.2.2.1 y6.2.2.2.1 y6.2.2.2.2) (N2 y10)))],.reg [(2,hT),(8,hT),(12,hT),(18,hF)]]
      (q3 (q0 (q8 tr) (I2 (q3 (a1o y2 e1 (f8 [0,1,2,3]) i1))) (K1 (e_ true) (e_ 8) (d8 8 8 rfl) (e_ 0)) (q42 (c_ (U9 5 y4 e3) (m_ 8 8 rfl (a_ (a_ (a_ (X9 y2.1 y2.2.1 y2.2.2 y4 (A8.mk 97 0 0 0 0 0 0 0) 1 y6 e5 (f8 [0,1,2,3]) i1) (n4 [.map 1,.map 2,.map 3] y2.1 y2.2.1 y2.2.2)) tr) (l9 (a_ (a_ (a_ (e_ 2) (a_ (d8 2 2 rfl) (e_ 0))) tr) (b4 tr)))))) (q8 (c_ (U9 3 y8 e7) (m_ 8 8 rfl (a_ (a_ (a_ (X9 y6.2.2.1 y6.2.2.2.1 y6.2.2.2.2 y8 (A8.mk 97 0 0 0 0 0 0 0) 2 y10 e9 (f8 [0,1,2,3]) i1) (n4 [.map 1,.map 2,.map 3] y6.2.2.1 y6.2.2.2.1 y6.2.2.2.2)) tr) (l9 (a_ (a_ (a_ (e_ 2) (a_ (d8 2 2 rfl) (e_ 0))) tr) (b4 tr))))))) (b5 (f_ c11 (b4 (l_ 1 2 rfl (b4 (b5 (f_ c12 (b4 (b5 (f_ c13 (b4 (l_ 0 2 rfl (b4 (b5 (f_ c14 (z8 (b5 (u5 (z8 (b5 (u5 (z8 (b5 tr))))))))))))))))))))))))))
   ·obtain rfl:=i7 h
    exact l8 [] 33 [.reg [],.reg [(0,i6 (g9 [0,1,2,3] (a0L y2) [] (a0K y2)))],.reg [],.reg [],.reg [(1,hC (S4 y4)),(3,i6 (g9 [0,1,2,3] (N3 y6) (W8 y2.1 y2.2.1 y2.2.2) (N2 y6)))],.reg [(1,hC (S4 y8)),(3,i6 (g9 [0,1,2,3] (N3 y10) (W8 y6.2.2.1 y6.2.2.2.1 y6.2.2.2.2) (N2 y10)))],.reg [(2,hT),(8,hT),(12,hF)]]
     (q3 (q0 (q8 tr) (I2 (q3 (a1o y2 e1 (f8 [0,1,2,3]) i1))) (K1 (e_ true) (e_ 8) (d8 8 8 rfl) (e_ 0)) (q42 (c_ (U9 5 y4 e3) (m_ 8 8 rfl (a_ (a_ (a_ (X9 y2.1 y2.2.1 y2.2.2 y4 (A8.mk 97 0 0 0 0 0 0 0) 1 y6 e5 (f8 [0,1,2,3]) i1) (n4 [.map 1,.map 2,.map 3] y2.1 y2.2.1 y2.2.2)) tr) (l9 (a_ (a_ (a_ (e_ 2) (a_ (d8 2 2 rfl) (e_ 0))) tr) (b4 tr)))))) (q8 (c_ (U9 3 y8 e7) (m_ 8 8 rfl (a_ (a_ (a_ (X9 y6.2.2.1 y6.2.2.2.1 y6.2.2.2.2 y8 (A8.mk 97 0 0 0 0 0 0 0) 2 y10 e9 (f8 [0,1,2,3]) i1) (n4 [.map 1,.map 2,.map 3] y6.2.2.1 y6.2.2.2.1 y6.2.2.2.2)) tr) (l9 (a_ (a_ (a_ (e_ 2) (a_ (d8 2 2 rfl) (e_ 0))) tr) (b4 tr))))))) (b5 (f_ c11 (b4 (l_ 1 2 rfl (b4 (b5 (f_ c12 (b4 (b5 (f_ c13 (z8 (b5 (z8 (b5 (u5 (z8 (b5 (u5 (z8 (b5 tr)))))))))))))))))))))))
  ·obtain rfl:=i7 h
   exact l8 [] 33 [.reg [],.reg [(0,i6 (g9 [0,1,2,3] (a0L y2) [] (a0K y2)))],.reg [],.reg [],.reg [(1,hC (S4 y4)),(3,i6 (g9 [0,1,2,3] (N3 y6) (W8 y2.1 y2.2.1 y2.2.2) (N2 y6)))],.reg [(1,hC (S4 y8)),(3,i6 (g9 [0,1,2,3] (N3 y10) (W8 y6.2.2.1 y6.2.2.2.1 y6.2.2.2.2) (N2 y10)))],.reg [(2,hT),(8,hF)]]
    (q3 (q0 (q8 tr) (I2 (q3 (a1o y2 e1 (f8 [0,1,2,3]) i1))) (K1 (e_ true) (e_ 8) (d8 8 8 rfl) (e_ 0)) (q42 (c_ (U9 5 y4 e3) (m_ 8 8 rfl (a_ (a_ (a_ (X9 y2.1 y2.2.1 y2.2.2 y4 (A8.mk 97 0 0 0 0 0 0 0) 1 y6 e5 (f8 [0,1,2,3]) i1) (n4 [.map 1,.map 2,.map 3] y2.1 y2.2.1 y2.2.2)) tr) (l9 (a_ (a_ (a_ (e_ 2) (a_ (d8 2 2 rfl) (e_ 0))) tr) (b4 tr)))))) (q8 (c_ (U9 3 y8 e7) (m_ 8 8 rfl (a_ (a_ (a_ (X9 y6.2.2.1 y6.2.2.2.1 y6.2.2.2.2 y8 (A8.mk 97 0 0 0 0 0 0 0) 2 y10 e9 (f8 [0,1,2,3]) i1) (n4 [.map 1,.map 2,.map 3] y6.2.2.1 y6.2.2.2.1 y6.2.2.2.2)) tr) (l9 (a_ (a_ (a_ (e_ 2) (a_ (d8 2 2 rfl) (e_ 0))) tr) (b4 tr))))))) (b5 (f_ c11 (b4 (l_ 1 2 rfl (b4 (b5 (f_ c12 (u5 (b5 (z8 (b5 (z8 (b5 (u5 (z8 (b5 (u5 (z8 (b5 tr))))))))))))))))))))))
 ·obtain rfl:=i7 h
  exact l8 [] 33 [.reg [],.reg [(0,i6 (g9 [0,1,2,3] (a0L y2) [] (a0K y2)))],.reg [],.reg [],.reg [(1,hC (S4 y4)),(3,i6 (g9 [0,1,2,3] (N3 y6) (W8 y2.1 y2.2.1 y2.2.2) (N2 y6)))],.reg [(1,hC (S4 y8)),(3,i6 (g9 [0,1,2,3] (N3 y10) (W8 y6.2.2.1 y6.2.2.2.1 y6.2.2.2.2) (N2 y10)))],.reg [(2,hF)]]
   (q3 (q0 (q8 tr) (I2 (q3 (a1o y2 e1 (f8 [0,1,2,3]) i1))) (K1 (e_ true) (e_ 8) (d8 8 8 rfl) (e_ 0)) (q42 (c_ (U9 5 y4 e3) (m_ 8 8 rfl (a_ (a_ (a_ (X9 y2.1 y2.2.1 y2.2.2 y4 (A8.mk 97 0 0 0 0 0 0 0) 1 y6 e5 (f8 [0,1,2,3]) i1) (n4 [.map 1,.map 2,.map 3] y2.1 y2.2.1 y2.2.2)) tr) (l9 (a_ (a_ (a_ (e_ 2) (a_ (d8 2 2 rfl) (e_ 0))) tr) (b4 tr)))))) (q8 (c_ (U9 3 y8 e7) (m_ 8 8 rfl (a_ (a_ (a_ (X9 y6.2.2.1 y6.2.2.2.1 y6.2.2.2.2 y8 (A8.mk 97 0 0 0 0 0 0 0) 2 y10 e9 (f8 [0,1,2,3]) i1) (n4 [.map 1,.map 2,.map 3] y6.2.2.1 y6.2.2.2.1 y6.2.2.2.2)) tr) (l9 (a_ (a_ (a_ (e_ 2) (a_ (d8 2 2 rfl) (e_ 0))) tr) (b4 tr))))))) (b5 (f_ c11 (z8 (b5 (u5 (b5 (z8 (b5 (z8 (b5 (u5 (z8 (b5 (u5 (z8 (b5 tr)))))))))))))))))))
theorem b7h(r:Bool)(h:a4e=some r):j9 Tryz.prog 11 [] [] (a9B r) []:=j9.none (c3L r h) rfl rfl
def b2b(r:Bool):LV:=.bool r
def b2a(p:PT)(r:Bool):i9:=[(0,some (b9 p))]
def b6e(p:PT):List LO:=[b9 p]
def a3K(p:PT)(x:TX):Nat->PT->Option Bool
 |0,_=>none
 |fuel+1,rest=>
  if List.isEmpty rest then
   some false
  else a0B rest λa1 rs2=>
   if decide (a1.1.m9=x) then
    some true
   else
    a3K p x fuel rs2
def a8W(p:PT)(x:TX):Option Bool:=
 a3K p x big p
abbrev c1N(p:PT)(x:TX)(rest:PT)(r:Bool):Prop:=p3 w0 W μ0 Tryz.f40 1 1 (b2b r) (b2a p r) (z6 (o9 Tryz.f40) 0) (.any:: .any:: .any::(.ptr 1 0 0):: .any:: .any:: .any::(.ptr 2 0 0)::n_ 8 []) [none,some (.var (f5 x)),some (.mit 0 true x5 (x9 p9 (LV.int .u8) p) none (x9 p9 (LV.int .u8) rest))]
theorem c1O{w0 W μ0}(hμ:p4 μ0 1)(p:PT)(x:TX):∀(fuel:Nat) (rest:PT) (r:Bool),a3K p x fuel rest=some r->c1N w0 W μ0 p x rest r:=by
 intro fuel
 induction fuel with
 |zero=>intro rest r h;rw[a3K] at h;cases h
 |succ fuel ih=>
  intro rest r h;rw[a3K] at h;refine a6Y (it:=7) (t1:=8) (t2:=9) (d:=2) (m:=0) (ag:=true) (ks:=x5) (es:=x9 p9 (LV.int .u8) p) p9 (LV.int .u8) rest (by kernel_rfl) (by kernel_rfl) (by kernel_rfl) (by kernel_rfl) (λhn_=>?_) (λi_ a1 hi_=>?_)
  ·rw[if_pos (a7T hn_)] at h
   obtain rfl:=i7 h;exact l8 [] 16 [.x (.mitz 2),.reg []]
    (F8 (show 0≠2 from by decide) (q8 tr))
  ·rw[if_neg (a7U hi_)] at h
   replace h:=a6x h hi_
   generalize rest.eraseIdx i_=rs2 at h⊢;rcases i5 h with⟨C3,h⟩|⟨C3,h⟩
   ·obtain rfl:=i7 h
    exact l8 [] 24 [.reg [],.reg [(3,hT)],.x (.mitz 2),.reg []]
     (q3 (q6 (q2 (q4 (e_ 11) (a_ (d8 11 11 rfl) (e_ 0)) tr)) (m_ 3 11 rfl (m_ 3 3 rfl (a_ (a_ tr (a_ (LV.Le.trans (v6 (t6 a1.1.m9 x)) (v6 C3)) tr)) tr))) (show 0≠2 from by decide) (q3 (q8 tr))))
   ·exact n3 hμ [1,2] 23 [.reg [],.reg [(3,hF)],.x (.mitn 2)]
     (q6 (q2 (q4 (e_ 11) (a_ (d8 11 11 rfl) (e_ 0)) tr)) (m_ 3 11 rfl (m_ 3 3 rfl (a_ (a_ tr (a_ (LV.Le.trans (v6 (t6 a1.1.m9 x)) (v6 C3)) tr)) tr))) tr tr) (ih _ r h) ⟨rfl,j4 0 3 rfl,tr⟩
theorem c1P(p:PT)(x:TX)(r:Bool)(h:a8W p x=some r):∀σ,p8 1 σ->j9 Tryz.prog 40 (n7 σ [.map 0,i8 x]) (p5 σ 0 (b6e p)) ((b2b r).ren σ) (p6 σ (b2a p r)):=by
 refine u7 Tryz.func40 ⟨tr,tr⟩ ⟨tr,tr⟩ ?_;intro w0 W μ0 hμ;unfold a8W at h;exact n3 hμ [1,2] 18 [.reg [],.reg []]
  (q7 (b5 tr) (b5 tr)) (c1O hμ p x big _ r h) ⟨rfl,j4 0 3 rfl,tr⟩
def a5m(r:Bool):LV:=.bool r
def a5l(uu:UT)(hh ww:PT)(r:Bool):i9:=[(0,some (.var [.map 1,.map 2,.map 3])),(1,some (m7 uu [])),(2,some (b9 hh)),(3,some (b9 ww))]
def a5k(uu:UT)(hh ww:PT):List LO:=[.var [.map 1,.map 2,.map 3],m7 uu [],b9 hh,b9 ww]
def a5j(uu:UT)(hh ww:PT)(x:TX):Option Bool:=
 (P9 uu hh ww).bind λy2=>
 (a8W ww x).bind λy4=>
 some y4
theorem a68(uu:UT)(hh ww:PT)(x:TX)(r:Bool)(h:a5j uu hh ww x=some r):∀σ,p8 4 σ->j9 Tryz.prog 18 (n7 σ [.ptr 0 0 0,i8 x]) (p5 σ 0 (a5k uu hh ww)) ((a5m r).ren σ) (p6 σ (a5l uu hh ww r)):=by
 refine u7 Tryz.func18 ⟨rfl,uP,tr,tr,tr⟩ ⟨rfl,uP,tr,tr,tr⟩ ?_;intro w0 W μ0 hμ;unfold a5j at h;obtain⟨y2,e1,h⟩:=d6 h;obtain⟨y4,e3,h⟩:=d6 h;obtain rfl:=i7 h;exact l8 [] 15 [.reg [],.reg [(1,i6 (g9 [0,1,2,3] (T4 y2) (T2 uu hh ww) (T3 hh ww y2))),(8,i6 (g9 [3] (b2b y4) (b6e ww) (b2a ww y4)))]]
  (X0 (q9 (q0 (U7 uu hh ww y2 e1 (f8 [0,1,2,3]) i1) (l0 (.var [.map 1,.map 2,.map 3])) (T5 i8 n9 (ag:=true) (ks:=F1) (m:=uu) (opn:=[])) (q7 (l0 (b9 hh)) (l0 (b9 ww)))) (l9 (l_ 2 3 rfl (m_ 3 3 rfl (a_ (a_ (a_ (c1P ww x y4 e3 (f8 [3]) i1) (a_ (l0 (b9 ww)) tr)) tr) (b5 tr)))))))
def b2t(r:Bool):LV:=.bool r
def a7f(mode:Int):Option Bool:=
 some (mode==1)
theorem c2E(mode:Int)(r:Bool)(h:a7f mode=some r):∀σ,p8 0 σ->j9 Tryz.prog 38 (n7 σ [.int .u8 mode]) (p5 σ 0 []) ((b2t r).ren σ) (p6 σ []):=by
 refine u7 Tryz.func38 tr tr ?_;intro w0 W μ0 hμ;unfold a7f at h;obtain rfl:=i7 h;exact l8 [] 15 [.reg [],.reg []]
  (Y9 (q2 tr))
theorem c2F(mode:Int)(r:Bool)(h:a7f mode=some r):j9 Tryz.prog 38 [.int .u8 mode] [] (b2t r) []:=j9.none (c2E mode r h) rfl rfl
def b13(r:Bool):LV:=.bool r
def b12(x2:TX)(r:Bool):i9:=[(0,some (.var (f5 x2))),(1,some (.var [.fn 38 [] []]))]
def b11(x2:TX):List LO:=[.var (f5 x2),.var [.fn 38 [] []]]
def a8V(s:TL)(mode:Int)(x2:TX):Option Bool:=
 if decide (s.m9=x2) then
  (a7f mode).bind λy3=>
  some y3
 else
  some false
theorem b6b(s:TL)(mode:Int)(x2:TX)(r:Bool)(h:a8V s mode x2=some r):∀σ,p8 2 σ->j9 Tryz.prog 62 (n7 σ [p9 s,.int .u8 mode,.ptr 0 0 0,.ptr 1 0 0]) (p5 σ 0 (b11 x2)) ((b13 r).ren σ) (p6 σ (b12 x2 r)):=by
 refine u7 Tryz.func62 ⟨rfl,rfl,tr⟩ ⟨rfl,rfl,tr⟩ ?_;intro w0 W μ0 hμ;unfold a8V at h;rcases i5 h with⟨c1,h⟩|⟨c1,h⟩
 ·obtain⟨y3,e2,h⟩:=d6 h
  obtain rfl:=i7 h;exact l8 [] 15 [.reg [],.reg [(3,j5 (.bool (decide (s.m9=x2)))),(4,hT),(7,hC (b2t y3))]]
   (X0 (m_ 3 11 rfl (m_ 3 3 rfl (a_ (a_ tr (a_ (v6 (t6 s.m9 x2)) tr)) (f_ c1 (l_ 0 1 rfl (b4 (c_ (c2F mode y3 e2) (b5 tr)))))))))
 ·obtain rfl:=i7 h
  exact l8 [] 15 [.reg [],.reg [(3,j5 (.bool (decide (s.m9=x2)))),(4,hF)]]
   (X0 (m_ 3 11 rfl (m_ 3 3 rfl (a_ (a_ tr (a_ (v6 (t6 s.m9 x2)) tr)) (f_ c1 (a_ tr (u5 (b5 tr))))))))
def b2v(r:PT):LV:=.tup []
def b2u(c:TX)(r:PT):i9:=[(0,some (b9 r)),(1,some (.var (f5 c))),(2,some (.var [.fn 38 [] []]))]
def b6y(m:PT)(c:TX):List LO:=[b9 m,.var (f5 c),.var [.fn 38 [] []]]
def a2u(m:PT)(c:TX):Nat->PT->PT->Option PT
 |0,_,_=>none
 |fuel+1,m2,rest=>
  if List.isEmpty rest then
   some m2
  else a0B rest λa1 rs2=>
   (a8V a1.1 a1.2 c).bind λy4=>
   if y4 then
    if f9 rs2 a1.1=none then
    a2u m c fuel (B1 m2 a1.1) rs2
    else none
   else
    a2u m c fuel m2 rs2
def a9h(m:PT)(c:TX):Option PT:=
 a2u m c big m m
abbrev c2I(c:TX)(m2 rest:PT)(r:PT):Prop:=p3 w0 W μ0 Tryz.f61 3 3 (b2v r) (b2u c r) (z6 (o9 Tryz.f61) 0) ((.map 0)::(.fn 62 [] [.ptr 1 0 0,.ptr 2 0 0])::n_ 5 ((.ptr 3 0 0)::n_ 11 [])) [none,some (.var (f5 c)),some (.var [.fn 38 [] []]),some (.mit 0 true x5 (x9 p9 (LV.int .u8) m2) none (x9 p9 (LV.int .u8) rest))]
theorem c2J{w0 W μ0}(hμ:p4 μ0 3)(m:PT)(c:TX):∀(fuel:Nat) (m2 rest:PT) (r:PT),a2u m c fuel m2 rest=some r->c2I w0 W μ0 c m2 rest r:=by
 intro fuel
 induction fuel with
 |zero=>intro m2 rest r h;rw[a2u] at h;cases h
 |succ fuel ih=>
  intro m2 rest r h;rw[a2u] at h;refine a6Y (it:=7) (t1:=8) (t2:=9) (d:=3) (m:=0) (ag:=true) (ks:=x5) (es:=x9 p9 (LV.int .u8) m2) p9 (LV.int .u8) rest (by kernel_rfl) (by kernel_rfl) (by kernel_rfl) (by kernel_rfl) (λhn_=>?_) (λi_ a1 hi_=>?_)
  ·rw[if_pos (a7T hn_)] at h
   refine k_x (t:=.mitz 3) (foot:=[3]) (up:=[(3,none),(0,some (.map true x5 (x9 p9 (LV.int .u8) m2)))]) rfl (by kernel_rfl) (show 0≠3 from by decide) ?_;obtain rfl:=i7 h;exact l8 [] 12 []
    (q3 tr)
  ·rw[if_neg (a7U hi_)] at h
   replace h:=a6x h hi_
   generalize rest.eraseIdx i_=rs2 at h⊢;obtain⟨y4,E3,h⟩:=d6 h;rcases i5 h with⟨C5,h⟩|⟨C5,h⟩
   ·obtain⟨G6,h⟩:=j6 h
    exact n3 hμ [3] 23 [.reg [],.reg [(3,{call:=some (g9 [1,2] (b13 y4) (b11 c) (b12 c y4)),v:=some (.bool true)})],.reg [(2,{app:=1003,os:=[(3,.mit 0 true x5 (x9 p9 (LV.int .u8) (B1 m2 a1.1)) none (x9 p9 (LV.int .u8) rs2))]})]]
     (q6 (J1 (e_ 11) (a_ (d8 11 11 rfl) (e_ 0)) tr) (m_ 11 11 rfl (b4 (a_ (a_ (a_ (b6b a1.1 a1.2 c y4 E3 (f8 [1,2]) i1) (a_ (l0 (.var (f5 c))) (a_ (l0 (.var [.fn 38 [] []])) tr))) (a_ (v6 C5) tr)) tr))) (q8 (m_ 11 11 rfl (a_ (a_ (b4P (ev:=(LV.int .u8)) (ag:=true) (ks:=x5) p9 L9 (λ_=>rfl) G6) (a_ (b6K p9 L9 (ev:=(LV.int .u8)) 0 true x5 m2 rs2 a1.1) tr)) tr))) tr) (ih _ _ r h) ⟨rfl,rfl,j4 0 4 rfl,tr⟩
   ·exact n3 hμ [3] 23 [.reg [],.reg [(3,{call:=some (g9 [1,2] (b13 y4) (b11 c) (b12 c y4)),v:=some (.bool false)})],.x (.mitn 3)]
     (q6 (J1 (e_ 11) (a_ (d8 11 11 rfl) (e_ 0)) tr) (m_ 11 11 rfl (b4 (a_ (a_ (a_ (b6b a1.1 a1.2 c y4 E3 (f8 [1,2]) i1) (a_ (l0 (.var (f5 c))) (a_ (l0 (.var [.fn 38 [] []])) tr))) (a_ (v6 C5) tr)) tr))) tr tr) (ih _ _ r h) ⟨rfl,rfl,j4 0 4 rfl,tr⟩
theorem c2K(m:PT)(c:TX)(r:PT)(h:a9h m c=some r):∀σ,p8 3 σ->j9 Tryz.prog 61 (n7 σ [.map 0,.fn 62 [] [.ptr 1 0 0,.ptr 2 0 0]]) (p5 σ 0 (b6y m c)) ((b2v r).ren σ) (p6 σ (b2u c r)):=by
 refine u7 Tryz.func61 ⟨tr,rfl,rfl,tr⟩ ⟨tr,rfl,rfl,tr⟩ ?_;intro w0 W μ0 hμ;unfold a9h at h;exact n3 hμ [3] 14 [.reg []]
  (q3 (b5 tr)) (c2J hμ m c big _ _ r h) ⟨rfl,rfl,j4 0 4 rfl,tr⟩
def b6a(r:PT):LV:=.tup []
def b59(r:PT):i9:=[(0,some (b9 r))]
def b58(p:PT):List LO:=[b9 p]
def a61(p:PT)(x:TX):Option PT:=
 (a9h p x).bind λy2=>
 some y2
theorem c1M(p:PT)(x:TX)(r:PT)(h:a61 p x=some r):∀σ,p8 1 σ->j9 Tryz.prog 37 (n7 σ [.map 0,i8 x,.fn 38 [] []]) (p5 σ 0 (b58 p)) ((b6a r).ren σ) (p6 σ (b59 r)):=by
 refine u7 Tryz.func37 ⟨tr,tr⟩ ⟨tr,tr⟩ ?_;intro w0 W μ0 hμ;unfold a61 at h;obtain⟨y2,e1,h⟩:=d6 h;obtain rfl:=i7 h;exact l8 [] 14 [.reg [],.reg [(2,i6 (g9 [0,1,2] (b2v y2) (b6y p x) (b2u x y2)))]]
  (F8 (b5 tr) (b5 (q9 (E0 (c2K p x y2 e1 (f8 [0,1,2]) i1) (l0 (b9 p)) (l0 (.var (f5 x))) (l0 (.var [.fn 38 [] []]))) tr)))
def a81(r:TO×Int×UT×PT×PT):LV:=.tup [a6u r.1,.int .i64 r.2.1]
def a80(r:TO×Int×UT×PT×PT):i9:=[(0,some (.var [.map 1,.map 2,.map 3])),(1,some (m7 r.2.2.1 [])),(2,some (b9 r.2.2.2.1)),(3,some (b9 r.2.2.2.2))]
def b6h(uu:UT)(hh ww:PT):List LO:=[.var [.map 1,.map 2,.map 3],m7 uu [],b9 hh,b9 ww]
def b2f(uu:UT)(hh ww:PT)(x:TX):Option (TO×Int×UT×PT×PT):=
 some ((TO.mk ([]:List TX) ([]:List TG)),11,uu,hh,ww)
def a8Z(uu:UT)(hh ww:PT)(x:TX):Option (TO×Int×UT×PT×PT):=
 if(f9 uu x).isSome then
  (f9 uu x).bind λy2=>
  (a61 hh x).bind λy5=>
  (a1m (p7 uu x (TU.mk y2.B7 true)) y5 ww).bind λy7=>
  some ((TO.mk ([]:List TX) y7.1),0,(p7 uu x (TU.mk y2.B7 true)),y7.2.1,y7.2.2)
 else
  none
def a5f(uu:UT)(hh ww:PT)(x:TX):Option (TO×Int×UT×PT×PT):=
 (P9 uu hh ww).bind λy2=>
 if(f9 uu x).isSome then
  (f9 uu x).bind λy4=>
  (a5j uu hh ww x).bind λy7=>
  if y7 then
   b2f uu hh ww x
  else
   a8Z uu hh ww x
 else
  some ((TO.mk ([]:List TX) ([]:List TG)),6,uu,hh,ww)
theorem c1V{w0 W μ0}(hμ:p4 μ0 4)(uu:UT)(hh ww:PT)(x:TX)(r:TO×Int×UT×PT×PT)(h:b2f uu hh ww x=some r):p3 w0 W μ0 Tryz.f14 4 4 (a81 r) (a80 r) (z7 (o9 Tryz.f14) 6) (n_ 4 ((.ptr 4 0 0)::n_ 37 [])) [some (.var [.map 1,.map 2,.map 3]),some (m7 uu []),some (b9 hh),some (b9 ww),some (.var [.nilsl,.nilsl])]:=by
 unfold b2f at h;obtain rfl:=i7 h;exact l8 [] 13 [.reg [],.wk [] [(4,.var [.ds 3 (([]:List TX)).length (b6 f5 default ([]:List TX)),.nilsl])],.wk [] [(4,.var (Z9 (TO.mk ([]:List TX) ([]:List TG))))]]
  (F9 (W9 (R5 (e_ true) (e_ 2) (d8 2 2 rfl) (e_ 0)) (LO.Sub.var (a:=[.nilsl,.nilsl]) (b:=[.ds 3 (([]:List TX)).length (b6 f5 default ([]:List TX)),.nilsl]) (a_ (A6 3 (b6 f5 default [])) (a_ (LV.Le.refl (.nilsl)) tr))) (LO.Sub.var (a:=[.ds 3 (([]:List TX)).length (b6 f5 default ([]:List TX)),.nilsl]) (b:=[.ds 3 (([]:List TX)).length (b6 f5 default ([]:List TX)),.ds 12 (([]:List TG)).length (b6 H8 default ([]:List TG))]) (a_ (LV.Le.refl (.ds 3 (([]:List TX)).length (b6 f5 default ([]:List TX)))) (a_ (A6 12 (b6 H8 default [])) tr)))) (d8 2 2 rfl))
theorem c1W{w0 W μ0}(hμ:p4 μ0 4)(uu:UT)(hh ww:PT)(x:TX)(r:TO×Int×UT×PT×PT)(h:a8Z uu hh ww x=some r):p3 w0 W μ0 Tryz.f14 4 4 (a81 r) (a80 r) (z7 (o9 Tryz.f14) 7) ((.ptr 0 0 0):: .any:: .any::(.ptr 4 0 0)::(.ptr 5 0 0)::n_ 37 []) [some (.var [.map 1,.map 2,.map 3]),some (m7 uu []),some (b9 hh),some (b9 ww),some (.var (f5 x)),some (.var [.nilsl,.nilsl])]:=by
 unfold a8Z at h;rcases i5 h with⟨C1,h⟩|⟨C1,h⟩
 ·obtain⟨y2,E3,h⟩:=d6 h
  obtain⟨y5,E4,h⟩:=d6 h;obtain⟨y7,E6,h⟩:=d6 h;obtain rfl:=i7 h;exact l8 [] 21 [.x (.p (.po 1 (i8 x) (n9 y2))),.reg [(5,{look:=some (.ptr 6 0 0)})],.x (.p (.pc 1)),.wk [] [(1,m7 (p7 uu x (TU.mk y2.B7 true)) [])],.reg [(5,i6 (g9 [2] (b6a y5) (b58 hh) (b59 y5)))],.reg [(1,i6 (g9 [0,1,2,3] (a5s y7) (a7c (p7 uu x (TU.mk y2.B7 true)) y5 ww) (a5r (p7 uu x (TU.mk y2.B7 true)) y7)))],.wk [] [(5,.var (Z9 (TO.mk ([]:List TX) y7.1)))]]
   (F9 (q0 (a_ (Q0 i8 n9 E3) (Q1 i8 x)) (q2 (l_ 0 3 rfl (m_ 3 3 rfl (a_ (a_ (a_ (e_ true) (a_ (N5 i8 n9 t6 uu x (isS E3)) (List.mem_cons_self (a:=((i8 x,6):LV×Nat)) (l:=[])))) tr) (b5 (a_ (a_ (a_ (e_ 1) (a_ (d8 5 5 rfl) (e_ 0))) tr) tr)))))) (q0 (P8 i8 n9 t6 uu x E3) (e_ true) (e_ true) (show 1≠6 from by decide)) (q0 (q7 tr (b2Z i8 n9 t6 true F1 [] uu x (TU.mk y2.B7 true))) (q2 (l_ 1 3 rfl (m_ 3 3 rfl (a_ (a_ (a_ (c1M hh x y5 E4 (f8 [2]) i1) (a_ (l0 (b9 hh)) tr)) tr) tr)))) (q8 (q0 (q3 (q0 (a89 (p7 uu x (TU.mk y2.B7 true)) y5 ww y7 E6 (f8 [0,1,2,3]) i1) (l0 (.var [.map 1,.map 2,.map 3])) (e_ (m7 (p7 uu x (TU.mk y2.B7 true)) []:LO)) (q7 (l0 (b9 y5)) (l0 (b9 ww))))) (q3 (e_ true)) (q1 (e_ 2) (a_ (d8 2 2 rfl) (e_ 0)) tr) (q8 tr))) (D4 (LO.Sub.var (a:=[.nilsl,.ds 12 y7.1.length (b6 H8 default y7.1)]) (b:=[.ds 3 (([]:List TX)).length (b6 f5 default ([]:List TX)),.ds 12 y7.1.length (b6 H8 default y7.1)]) (a_ (A6 3 (b6 f5 default [])) (a_ (LV.Le.refl (.ds 12 y7.1.length (b6 H8 default y7.1))) tr)))))) (d8 2 2 rfl))
 ·cases h
theorem c1X(uu:UT)(hh ww:PT)(x:TX)(r:TO×Int×UT×PT×PT)(h:a5f uu hh ww x=some r):∀σ,p8 4 σ->j9 Tryz.prog 14 (n7 σ [.ptr 0 0 0,i8 x]) (p5 σ 0 (b6h uu hh ww)) ((a81 r).ren σ) (p6 σ (a80 r)):=by
 refine u7 Tryz.func14 ⟨rfl,uP,tr,tr,tr⟩ ⟨rfl,uP,tr,tr,tr⟩ ?_;intro w0 W μ0 hμ;unfold a5f at h;obtain⟨y2,e1,h⟩:=d6 h;rcases i5 h with⟨c3,h⟩|⟨c3,h⟩
 ·obtain⟨y4,e5,h⟩:=d6 h
  obtain⟨y7,e6,h⟩:=d6 h;rcases i5 h with⟨c8,h⟩|⟨c8,h⟩
  ·exact n3 hμ [5] 30 [.reg [],.reg [(1,i6 (g9 [0,1,2,3] (T4 y2) (T2 uu hh ww) (T3 hh ww y2)))],.x (.p (.po 1 (i8 x) (n9 y4))),.reg [(5,{look:=some (.ptr 6 0 0)})],.x (.p (.pc 1)),.wk [] [(1,m7 uu [])],.reg [(2,i6 (g9 [0,1,2,3] (a5m y7) (a5k uu hh ww) (a5l uu hh ww y7))),(3,hT)]]
    (K8 (q41 (U7 uu hh ww y2 e1 (f8 [0,1,2,3]) i1) (l0 (.var [.map 1,.map 2,.map 3])) (T5 i8 n9 (ag:=true) (ks:=F1) (m:=uu) (opn:=[])) (l0 (b9 hh)) (l0 (b9 ww))) (a_ (Q0 i8 n9 e5) (Q1 i8 x)) (E0 (q2 (l_ 0 3 rfl (m_ 3 3 rfl (a_ (a_ (a_ (e_ true) (a_ (N5 i8 n9 t6 uu x (isS e5)) (List.mem_cons_self (a:=((i8 x,6):LV×Nat)) (l:=[])))) tr) (b5 tr))))) (q0 (P8 i8 n9 t6 uu x e5) (e_ true) (e_ true) (show 1≠6 from by decide)) (q7 tr (R2 i8 n9 t6 true F1 [] (m:=uu) (k:=x) e5)) (q8 (m_ 3 3 rfl (a_ (a_ (a_ (a68 uu hh ww x y7 e6 (f8 [0,1,2,3]) i1) (n4 [.map 1,.map 2,.map 3] uu hh ww)) tr) (f_ c8 tr)))))) (c1V hμ uu hh ww x r h) ⟨rfl,uP,tr,tr,rfl,tr⟩
  ·exact n3 hμ [4,5] 32 [.reg [],.reg [(1,i6 (g9 [0,1,2,3] (T4 y2) (T2 uu hh ww) (T3 hh ww y2)))],.x (.p (.po 1 (i8 x) (n9 y4))),.reg [(5,{look:=some (.ptr 6 0 0)})],.x (.p (.pc 1)),.wk [] [(1,m7 uu [])],.reg [(2,i6 (g9 [0,1,2,3] (a5m y7) (a5k uu hh ww) (a5l uu hh ww y7))),(3,hF)]]
    (K8 (q41 (U7 uu hh ww y2 e1 (f8 [0,1,2,3]) i1) (l0 (.var [.map 1,.map 2,.map 3])) (T5 i8 n9 (ag:=true) (ks:=F1) (m:=uu) (opn:=[])) (l0 (b9 hh)) (l0 (b9 ww))) (a_ (Q0 i8 n9 e5) (Q1 i8 x)) (E0 (q2 (l_ 0 3 rfl (m_ 3 3 rfl (a_ (a_ (a_ (e_ true) (a_ (N5 i8 n9 t6 uu x (isS e5)) (List.mem_cons_self (a:=((i8 x,6):LV×Nat)) (l:=[])))) tr) (b5 tr))))) (q0 (P8 i8 n9 t6 uu x e5) (e_ true) (e_ true) (show 1≠6 from by decide)) (q7 tr (R2 i8 n9 t6 true F1 [] (m:=uu) (k:=x) e5)) (q8 (m_ 3 3 rfl (a_ (a_ (a_ (a68 uu hh ww x y7 e6 (f8 [0,1,2,3]) i1) (n4 [.map 1,.map 2,.map 3] uu hh ww)) tr) (f_ c8 tr)))))) (c1W hμ uu hh ww x r h) ⟨rfl,uP,tr,tr,rfl,rfl,tr⟩
 ·obtain rfl:=i7 h
  exact l8 [] 27 [.reg [],.reg [(1,i6 (g9 [0,1,2,3] (T4 y2) (T2 uu hh ww) (T3 hh ww y2)))],.reg [(5,{look:=none})],.reg [],.wk [] [(5,.var [.ds 3 (([]:List TX)).length (b6 f5 default ([]:List TX)),.nilsl])],.wk [] [(5,.var (Z9 (TO.mk ([]:List TX) ([]:List TG))))]]
   (F9 (K8 (q41 (U7 uu hh ww y2 e1 (f8 [0,1,2,3]) i1) (l0 (.var [.map 1,.map 2,.map 3])) (T5 i8 n9 (ag:=true) (ks:=F1) (m:=uu) (opn:=[])) (l0 (b9 hh)) (l0 (b9 ww))) (q2 (l_ 0 3 rfl (m_ 3 3 rfl (a_ (a_ (a_ (e_ true) (pmN i8 n9 t6 uu x c3)) tr) (b5 tr))))) (W9 (R5 (e_ true) (e_ 2) (d8 2 2 rfl) (e_ 0)) (LO.Sub.var (a:=[.nilsl,.nilsl]) (b:=[.ds 3 (([]:List TX)).length (b6 f5 default ([]:List TX)),.nilsl]) (a_ (A6 3 (b6 f5 default [])) (a_ (LV.Le.refl (.nilsl)) tr))) (LO.Sub.var (a:=[.ds 3 (([]:List TX)).length (b6 f5 default ([]:List TX)),.nilsl]) (b:=[.ds 3 (([]:List TX)).length (b6 f5 default ([]:List TX)),.ds 12 (([]:List TG)).length (b6 H8 default ([]:List TG))]) (a_ (LV.Le.refl (.ds 3 (([]:List TX)).length (b6 f5 default ([]:List TX)))) (a_ (A6 12 (b6 H8 default [])) tr))))) (d8 2 2 rfl))
def b6l(r:TO×Int×UT×PT×PT):LV:=.tup [a6u r.1,.int .i64 r.2.1]
def b6k(r:TO×Int×UT×PT×PT):i9:=[(0,some (.var [.map 1,.map 2,.map 3])),(1,some (m7 r.2.2.1 [])),(2,some (b9 r.2.2.2.1)),(3,some (b9 r.2.2.2.2))]
def b6j(uu:UT)(hh ww:PT):List LO:=[.var [.map 1,.map 2,.map 3],m7 uu [],b9 hh,b9 ww]
def a5h(uu:UT)(hh ww:PT)(x:TX):Option (TO×Int×UT×PT×PT):=
 (P9 uu hh ww).bind λy2=>
 if(f9 uu x).isSome then
  (f9 uu x).bind λy4=>
  (a5q uu hh ww x).bind λy7=>
  (a1m y7.1 y7.2.1 y7.2.2).bind λy9=>
  some ((TO.mk ([]:List TX) y9.1),0,y7.1,y9.2.1,y9.2.2)
 else
  some ((TO.mk ([]:List TX) ([]:List TG)),6,uu,hh,ww)
theorem c1Z(uu:UT)(hh ww:PT)(x:TX)(r:TO×Int×UT×PT×PT)(h:a5h uu hh ww x=some r):∀σ,p8 4 σ->j9 Tryz.prog 21 (n7 σ [.ptr 0 0 0,i8 x]) (p5 σ 0 (b6j uu hh ww)) ((b6l r).ren σ) (p6 σ (b6k r)):=by
 refine u7 Tryz.func21 ⟨rfl,uP,tr,tr,tr⟩ ⟨rfl,uP,tr,tr,tr⟩ ?_;intro w0 W μ0 hμ;unfold a5h at h;obtain⟨y2,e1,h⟩:=d6 h;rcases i5 h with⟨c3,h⟩|⟨c3,h⟩
 ·obtain⟨y4,e5,h⟩:=d6 h
  obtain⟨y7,e6,h⟩:=d6 h;obtain⟨y9,e8,h⟩:=d6 h;obtain rfl:=i7 h;exact l8 [] 34 [.reg [],.reg [(1,i6 (g9 [0,1,2,3] (T4 y2) (T2 uu hh ww) (T3 hh ww y2)))],.x (.p (.po 1 (i8 x) (n9 y4))),.reg [(5,{look:=some (.ptr 6 0 0)})],.x (.p (.pc 1)),.wk [] [(1,m7 uu [])],.reg [(2,i6 (g9 [0,1,2,3] (b2o y7) (b2m uu hh ww) (b2n y7)))],.reg [(1,i6 (g9 [0,1,2,3] (a5s y9) (a7c y7.1 y7.2.1 y7.2.2) (a5r y7.1 y9)))],.wk [] [(5,.var (Z9 (TO.mk ([]:List TX) y9.1)))]]
   (F9 (K8 (q41 (U7 uu hh ww y2 e1 (f8 [0,1,2,3]) i1) (l0 (.var [.map 1,.map 2,.map 3])) (T5 i8 n9 (ag:=true) (ks:=F1) (m:=uu) (opn:=[])) (l0 (b9 hh)) (l0 (b9 ww))) (a_ (Q0 i8 n9 e5) (Q1 i8 x)) (q0 (q2 (l_ 0 3 rfl (m_ 3 3 rfl (a_ (a_ (a_ (e_ true) (a_ (N5 i8 n9 t6 uu x (isS e5)) (List.mem_cons_self (a:=((i8 x,6):LV×Nat)) (l:=[])))) tr) (b5 tr))))) (q0 (P8 i8 n9 t6 uu x e5) (e_ true) (e_ true) (show 1≠6 from by decide)) (q7 tr (R2 i8 n9 t6 true F1 [] (m:=uu) (k:=x) e5)) (N6 (m_ 3 3 rfl (a_ (a_ (a_ (b6n uu hh ww x y7 e6 (f8 [0,1,2,3]) i1) (n4 [.map 1,.map 2,.map 3] uu hh ww)) tr) tr)) (q0 (q1 (a89 y7.1 y7.2.1 y7.2.2 y9 e8 (f8 [0,1,2,3]) i1) (n4 [.map 1,.map 2,.map 3] y7.1 y7.2.1 y7.2.2) tr) (q3 (e_ true)) (q1 (e_ 2) (a_ (d8 2 2 rfl) (e_ 0)) tr) (q8 tr)) (q7 tr (LO.Sub.var (a:=[.nilsl,.ds 12 y9.1.length (b6 H8 default y9.1)]) (b:=[.ds 3 (([]:List TX)).length (b6 f5 default ([]:List TX)),.ds 12 y9.1.length (b6 H8 default y9.1)]) (a_ (A6 3 (b6 f5 default [])) (a_ (LV.Le.refl (.ds 12 y9.1.length (b6 H8 default y9.1))) tr))))))) (d8 2 2 rfl))
 ·obtain rfl:=i7 h
  exact l8 [] 27 [.reg [],.reg [(1,i6 (g9 [0,1,2,3] (T4 y2) (T2 uu hh ww) (T3 hh ww y2)))],.reg [(5,{look:=none})],.reg [],.wk [] [(5,.var [.ds 3 (([]:List TX)).length (b6 f5 default ([]:List TX)),.nilsl])],.wk [] [(5,.var (Z9 (TO.mk ([]:List TX) ([]:List TG))))]]
   (F9 (K8 (q41 (U7 uu hh ww y2 e1 (f8 [0,1,2,3]) i1) (l0 (.var [.map 1,.map 2,.map 3])) (T5 i8 n9 (ag:=true) (ks:=F1) (m:=uu) (opn:=[])) (l0 (b9 hh)) (l0 (b9 ww))) (q2 (l_ 0 3 rfl (m_ 3 3 rfl (a_ (a_ (a_ (e_ true) (pmN i8 n9 t6 uu x c3)) tr) (b5 tr))))) (W9 (R5 (e_ true) (e_ 2) (d8 2 2 rfl) (e_ 0)) (LO.Sub.var (a:=[.nilsl,.nilsl]) (b:=[.ds 3 (([]:List TX)).length (b6 f5 default ([]:List TX)),.nilsl]) (a_ (A6 3 (b6 f5 default [])) (a_ (LV.Le.refl (.nilsl)) tr))) (LO.Sub.var (a:=[.ds 3 (([]:List TX)).length (b6 f5 default ([]:List TX)),.nilsl]) (b:=[.ds 3 (([]:List TX)).length (b6 f5 default ([]:List TX)),.ds 12 (([]:List TG)).length (b6 H8 default ([]:List TG))]) (a_ (LV.Le.refl (.ds 3 (([]:List TX)).length (b6 f5 default ([]:List TX)))) (a_ (A6 12 (b6 H8 default [])) tr))))) (d8 2 2 rfl))
def a3R(r:Int×UT×(j7 (TL×Int))×(j7 (TL×Int))):LV:=.int .i64 r.1
def a3Q(r:Int×UT×(j7 (TL×Int))×(j7 (TL×Int))):i9:=[(0,some (.var [.map 1,.map 2,.map 3])),(1,some (m7 r.2.1 [])),(2,some (.mapq true x5 (j7.map (λe_=>(p9 e_.1,(LV.int .u8) e_.2)) r.2.2.1))),(3,some (.mapq true x5 (j7.map (λe_=>(p9 e_.1,(LV.int .u8) e_.2)) r.2.2.2)))]
def b6m(uu:UT)(hh ww:PT):List LO:=[.var [.map 1,.map 2,.map 3],m7 uu [],b9 hh,b9 ww]
def b2j(uu:UT)(hh ww:PT)(x:TX)(keys:List (A8 Int)):Option (Int×UT×(j7 (TL×Int))×(j7 (TL×Int))):=
 some (7,uu,(j7.of hh),(j7.of ww))
def b2k(uu:UT)(hh ww:PT)(x:TX)(keys:List (A8 Int)):Option (Int×UT×(j7 (TL×Int))×(j7 (TL×Int))):=
 some (5,uu,(j7.of hh),(j7.of ww))
def a3P(uu:UT)(hh ww:PT)(x:TX)(keys:List (A8 Int))(m:List (A8 Int×Bool))(y1:UT):Nat->PT->(List (A8 Int×Bool))->Option (Int×UT×(j7 (TL×Int))×(j7 (TL×Int)))
 |0,_,_=>none
 |fuel+1,m2,rest=>
  if List.isEmpty rest then
   some (0,y1,(j7.of m2),(j7.of ww))
  else a0B rest λa1 rs2=>
   a3P uu hh ww x keys m y1 fuel (p7 m2 (TL.mk x a1.1) 2) rs2
def a83(uu:UT)(hh ww:PT)(x:TX)(keys:List (A8 Int))(m:List (A8 Int×Bool)):Option (Int×UT×(j7 (TL×Int))×(j7 (TL×Int))):=
 (some (p7 uu x (TU.mk (TS.mk 0 x) true))).bind λy1=>
 a3P uu hh ww x keys m y1 big hh m
def a2m(uu:UT)(hh ww:PT)(x:TX)(keys:List (A8 Int)):Nat->Bool->Int->(List (A8 Int×Bool))->Option (Int×UT×(j7 (TL×Int))×(j7 (TL×Int)))
 |0,_,_,_=>none
 |fuel+1,held2,t18,m=>
  if decide (t18<(keys.length:Int)) then
   if 0<=t18/\t18<(keys.length:Int) then
   (a0M (keys.getD t18.toNat default)).bind λy4=>
   if !y4 then
    some (1,uu,(j7.of hh),(j7.of ww))
   else
    if(f9 m (keys.getD t18.toNat default)).getD default then
     some (1,uu,(j7.of hh),(j7.of ww))
    else
     if held2 then
      a2m uu hh ww x keys fuel true (IntKind.wrap .i64 (t18+1)) (p7 m (keys.getD t18.toNat default) true)
     else
      (a1j hh (keys.getD t18.toNat default)).bind λy9=>
      a2m uu hh ww x keys fuel (decide (0<(y9.length:Int))) (IntKind.wrap .i64 (t18+1)) (p7 m (keys.getD t18.toNat default) true)
   else none
  else
   (a3G x).bind λy3=>
   if !y3 then
    some (1,uu,(j7.of hh),(j7.of ww))
   else
    if(keys.length:Int)==0 then
     some (1,uu,(j7.of hh),(j7.of ww))
    else
     if(f9 uu x).isSome then
      (f9 uu x).bind λy7=>
      b2j uu hh ww x keys
     else
      if held2 then
       some (11,uu,(j7.of hh),(j7.of ww))
      else
       if(uu.length:Int)==64 then
        b2k uu hh ww x keys
       else
        a83 uu hh ww x keys m
def a65(uu:UT)(hh ww:PT)(x:TX)(keys:List (A8 Int)):Option (Int×UT×(j7 (TL×Int))×(j7 (TL×Int))):=
 (P9 uu hh ww).bind λy2=>
 a2m uu hh ww x keys big false 0 ([]:List (A8 Int×Bool))
abbrev c17(ww:PT)(x:TX)(m:List (A8 Int×Bool))(y1:UT)(m2:PT)(rest:List (A8 Int×Bool))(r:Int×UT×(j7 (TL×Int))×(j7 (TL×Int))):Prop:=p3 w0 W μ0 Tryz.f35 4 4 (a3R r) (a3Q r) (z6 (o9 Tryz.f35) 1) ((.ptr 0 0 0):: .any:: .any:: .any::(.ptr 4 0 0)::n_ 75 ((.ptr 5 0 0)::n_ 11 [])) [some (.var [.map 1,.map 2,.map 3]),some (m7 y1 []),some (b9 m2),some (b9 ww),some (.var (f5 x)),some (.mit 6 true ks4 (x9 (λz_:A8 Int=>LV.agg [.int .u8 z_.a0,.int .u8 z_.a1,.int .u8 z_.a2,.int .u8 z_.a3,.int .u8 z_.a4,.int .u8 z_.a5,.int .u8 z_.a6,.int .u8 z_.a7]) LV.bool m) none (x9 (λz_:A8 Int=>LV.agg [.int .u8 z_.a0,.int .u8 z_.a1,.int .u8 z_.a2,.int .u8 z_.a3,.int .u8 z_.a4,.int .u8 z_.a5,.int .u8 z_.a6,.int .u8 z_.a7]) LV.bool rest)),none]
abbrev c16(uu:UT)(hh ww:PT)(x:TX)(keys:List (A8 Int))(held2:Bool)(t18:Int)(m:List (A8 Int×Bool))(r:Int×UT×(j7 (TL×Int))×(j7 (TL×Int))):Prop:=p3 w0 W μ0 Tryz.f35 4 4 (a3R r) (a3Q r) (z6 (o9 Tryz.f35) 0) ((.ptr 0 0 0):: .any::(.ds 8 keys.length (b6 (λz_:A8 Int=>[.int .u8 z_.a0,.int .u8 z_.a1,.int .u8 z_.a2,.int .u8 z_.a3,.int .u8 z_.a4,.int .u8 z_.a5,.int .u8 z_.a6,.int .u8 z_.a7]) default keys)):: .any::(.ptr 4 0 0):: .any:: .any::(.map 5)::(.bool held2)::n_ 7 ((.ds 8 keys.length (b6 (λz_:A8 Int=>[.int .u8 z_.a0,.int .u8 z_.a1,.int .u8 z_.a2,.int .u8 z_.a3,.int .u8 z_.a4,.int .u8 z_.a5,.int .u8 z_.a6,.int .u8 z_.a7]) default keys))::(.int .i64 (keys.length:Int))::(.int .i64 t18)::n_ 73 [])) [some (.var [.map 1,.map 2,.map 3]),some (m7 uu []),some (b9 hh),some (b9 ww),some (.var (f5 x)),some (oM5 m)]
theorem c18{w0 W μ0}(hμ:p4 μ0 4)(uu:UT)(hh ww:PT)(x:TX)(keys:List (A8 Int))(r:Int×UT×(j7 (TL×Int))×(j7 (TL×Int)))(h:b2j uu hh ww x keys=some r):p3 w0 W μ0 Tryz.f35 4 4 (a3R r) (a3Q r) (z7 (o9 Tryz.f35) 16) (n_ 92 []) [some (.var [.map 1,.map 2,.map 3]),some (m7 uu []),some (b9 hh),some (b9 ww)]:=by
 unfold b2j at h;obtain rfl:=i7 h;exact l8 [] 13 [.reg [],.wk [] [(2,.mapq true x5 (j7.map (λe_=>(p9 e_.1,(LV.int .u8) e_.2)) (j7.of hh)))],.wk [] [(3,.mapq true x5 (j7.map (λe_=>(p9 e_.1,(LV.int .u8) e_.2)) (j7.of ww)))]]
  (q3 (W9 (q8 tr) (P4 p9 (LV.int .u8) true x5 hh) (P4 p9 (LV.int .u8) true x5 ww)))
theorem c19{w0 W μ0}(hμ:p4 μ0 4)(uu:UT)(hh ww:PT)(x:TX)(keys:List (A8 Int))(r:Int×UT×(j7 (TL×Int))×(j7 (TL×Int)))(h:b2k uu hh ww x keys=some r):p3 w0 W μ0 Tryz.f35 4 4 (a3R r) (a3Q r) (z7 (o9 Tryz.f35) 20) (n_ 92 []) [some (.var [.map 1,.map 2,.map 3]),some (m7 uu []),some (b9 hh),some (b9 ww)]:=by
 unfold b2k at h;obtain rfl:=i7 h;exact l8 [] 13 [.reg [],.wk [] [(2,.mapq true x5 (j7.map (λe_=>(p9 e_.1,(LV.int .u8) e_.2)) (j7.of hh)))],.wk [] [(3,.mapq true x5 (j7.map (λe_=>(p9 e_.1,(LV.int .u8) e_.2)) (j7.of ww)))]]
  (q3 (W9 (q8 tr) (P4 p9 (LV.int .u8) true x5 hh) (P4 p9 (LV.int .u8) true x5 ww)))
theorem c2c{w0 W μ0}(hμ:p4 μ0 4)(uu:UT)(hh ww:PT)(x:TX)(keys:List (A8 Int))(m:List (A8 Int×Bool))(y1:UT):∀(fuel:Nat) (m2:PT) (rest:List (A8 Int×Bool)) (r:Int×UT×(j7 (TL×Int))×(j7 (TL×Int))),a3P uu hh ww x keys m y1 fuel m2 rest=some r->c17 w0 W μ0 ww x m y1 m2 rest r:=by
 intro fuel
 induction fuel with
 |zero=>intro m2 rest r h;rw[a3P] at h;cases h
 |succ fuel ih=>
  intro m2 rest r h;rw[a3P] at h;refine a6Y (it:=80) (t1:=81) (t2:=82) (d:=5) (m:=6) (ag:=true) (ks:=ks4) (es:=x9 (λz_:A8 Int=>LV.agg [.int .u8 z_.a0,.int .u8 z_.a1,.int .u8 z_.a2,.int .u8 z_.a3,.int .u8 z_.a4,.int .u8 z_.a5,.int .u8 z_.a6,.int .u8 z_.a7]) LV.bool m) (λz_:A8 Int=>LV.agg [.int .u8 z_.a0,.int .u8 z_.a1,.int .u8 z_.a2,.int .u8 z_.a3,.int .u8 z_.a4,.int .u8 z_.a5,.int .u8 z_.a6,.int .u8 z_.a7]) LV.bool rest (by kernel_rfl) (by kernel_rfl) (by kernel_rfl) (by kernel_rfl) (λhn_=>?_) (λi_ a1 hi_=>?_)
  ·rw[if_pos (a7T hn_)] at h
   obtain rfl:=i7 h;exact l8 [] 18 [.x (.mitz 5),.reg [],.wk [] [(2,.mapq true x5 (j7.map (λe_=>(p9 e_.1,(LV.int .u8) e_.2)) (j7.of m2)))],.wk [] [(3,.mapq true x5 (j7.map (λe_=>(p9 e_.1,(LV.int .u8) e_.2)) (j7.of ww)))]]
    (q3 (q6 (show 6≠5 from by decide) tr (q7 tr (P4 p9 (LV.int .u8) true x5 m2)) (D4 (P4 p9 (LV.int .u8) true x5 ww))))
  ·rw[if_neg (a7U hi_)] at h
   replace h:=a6x h hi_
   generalize rest.eraseIdx i_=rs2 at h⊢;exact n3 hμ [4,5,6] 20 [.reg [],.reg [(7,{os:=[(2,b9 (p7 m2 (TL.mk x a1.1) 2))]})],.x (.mitn 5)]
    (q0 (q2 (q4 (e_ 8) (a_ (d8 8 8 rfl) (e_ 0)) tr)) (q2 (l_ 1 3 rfl (m_ 3 3 rfl (m_ 8 8 rfl (a_ (a_ (e_ true) tr) (a_ (a_ (a_ (e_ true) (e_ true)) (a_ (a6p p9 (LV.int .u8) L9 true x5 m2 (TL.mk x a1.1) 2) tr)) tr)))))) tr tr) (ih _ _ r h) ⟨rfl,uP,tr,tr,rfl,j4 6 7 rfl,tr⟩
theorem c2a{w0 W μ0}(hμ:p4 μ0 4)(uu:UT)(hh ww:PT)(x:TX)(keys:List (A8 Int))(m:List (A8 Int×Bool))(r:Int×UT×(j7 (TL×Int))×(j7 (TL×Int)))(h:a83 uu hh ww x keys m=some r):p3 w0 W μ0 Tryz.f35 4 4 (a3R r) (a3Q r) (z7 (o9 Tryz.f35) 21) ((.ptr 0 0 0):: .any:: .any:: .any::(.ptr 4 0 0):: .any:: .any::(.map 5)::n_ 84 []) [some (.var [.map 1,.map 2,.map 3]),some (m7 uu []),some (b9 hh),some (b9 ww),some (.var (f5 x)),some (oM5 m)]:=by
 unfold a83 at h;obtain⟨y1,E2,h⟩:=d6 h;exact n3 hμ [4,7,5] 17 [.reg [(9,{os:=[(1,m7 y1 [])]})],.reg []]
  (q7 (q2 (l_ 0 3 rfl (m_ 3 3 rfl (m_ 3 3 rfl (a_ (a_ (e_ true) tr) (a_ (a_ (e_ true) tr) (b4 (a_ (a_ (a_ (e_ true) (a_ (e_ true) (show 1≠6 from by decide))) (a_ (Eq.trans (b2Z i8 n9 t6 true F1 [] uu x (TU.mk (TS.mk 0 x) true)) (a31 (λl_=>m7 l_ []) E2)) tr)) tr)))))))) (b5 tr)) (c2c hμ uu hh ww x keys m y1 big _ _ r h) ⟨rfl,uP,tr,tr,rfl,j4 6 7 rfl,tr⟩
theorem c2b{w0 W μ0}(hμ:p4 μ0 4)(uu:UT)(hh ww:PT)(x:TX)(keys:List (A8 Int)):∀(fuel:Nat) (held2:Bool) (t18:Int) (m:List (A8 Int×Bool)) (r:Int×UT×(j7 (TL×Int))×(j7 (TL×Int))),a2m uu hh ww x keys fuel held2 t18 m=some r->c16 w0 W μ0 uu hh ww x keys held2 t18 m r:=by
 intro fuel
 induction fuel with
 |zero=>intro held2 t18 m r h;rw[a2m] at h;cases h
 |succ fuel ih=>
  intro held2 t18 m r h;rw[a2m] at h;rcases i5 h with⟨C1,h⟩|⟨C1,h⟩
  ·obtain⟨G2,h⟩:=j6 h
   obtain⟨y4,E3,h⟩:=d6 h;rcases i5 h with⟨C5,h⟩|⟨C5,h⟩
   ·obtain rfl:=i7 h
    exact l8 [] 31 [.go,.reg [(0,hT)],.reg [],.reg [(1,hC (a0N y4)),(3,hT)],.reg [],.wk [] [(2,.mapq true x5 (j7.map (λe_=>(p9 e_.1,(LV.int .u8) e_.2)) (j7.of hh)))],.wk [] [(3,.mapq true x5 (j7.map (λe_=>(p9 e_.1,(LV.int .u8) e_.2)) (j7.of ww)))]]
     (q3 (q0 (f_ C1 tr) (q4 (e_ 8) G2 (K1 (d8 8 8 rfl) (e_ 8) (d8 8 8 rfl) (e_ 0))) (m_ 8 8 rfl (a_ (a_ (a_ (a2t (keys.getD t18.toNat default) y4 E3) tr) tr) (b4 (f_ C5 (a_ tr (u5 (b4 tr))))))) (W9 (q8 tr) (P4 p9 (LV.int .u8) true x5 hh) (P4 p9 (LV.int .u8) true x5 ww))))
   ·rcases i5 h with⟨C6,h⟩|⟨C6,h⟩
    ·obtain rfl:=i7 h
     exact l8 [] 31 [.go,.reg [(0,hT)],.reg [],.reg [(1,hC (a0N y4)),(3,hF),(6,{look:=((f9 m (keys.getD t18.toNat default)).map LV.bool),v:=some (.bool ((f9 m (keys.getD t18.toNat default)).getD default))}),(7,hT)],.reg [],.wk [] [(2,.mapq true x5 (j7.map (λe_=>(p9 e_.1,(LV.int .u8) e_.2)) (j7.of hh)))],.wk [] [(3,.mapq true x5 (j7.map (λe_=>(p9 e_.1,(LV.int .u8) e_.2)) (j7.of ww)))]]
      (q3 (q0 (f_ C1 tr) (q4 (e_ 8) G2 (K1 (d8 8 8 rfl) (e_ 8) (d8 8 8 rfl) (e_ 0))) (m_ 8 8 rfl (a_ (a_ (a_ (a2t (keys.getD t18.toNat default) y4 E3) tr) tr) (b4 (f_ C5 (b4 (m_ 8 8 rfl (a_ (a_ (a_ (e_ true) (Q8 (λz_:A8 Int=>LV.agg [.int .u8 z_.a0,.int .u8 z_.a1,.int .u8 z_.a2,.int .u8 z_.a3,.int .u8 z_.a4,.int .u8 z_.a5,.int .u8 z_.a6,.int .u8 z_.a7]) LV.bool (J3 .u8) m (keys.getD t18.toNat default))) (a_ (R1 LV.bool (f9 m (keys.getD t18.toNat default)) default) tr)) (f_ C6 tr)))))))) (W9 (q8 tr) (P4 p9 (LV.int .u8) true x5 hh) (P4 p9 (LV.int .u8) true x5 ww))))
    ·rcases i5 h with⟨C7,h⟩|⟨C7,h⟩
     ·exact n3 hμ [4,5] 35 [.go,.reg [(0,hT)],.reg [],.reg [(1,hC (a0N y4)),(3,hF),(6,{look:=((f9 m (keys.getD t18.toNat default)).map LV.bool),v:=some (.bool ((f9 m (keys.getD t18.toNat default)).getD default))}),(7,hF)],.reg [(2,{os:=[(5,oM5 (p7 m (keys.getD t18.toNat default) true))]})],.reg [(1,hT)],.reg []]
       (q0 (f_ C1 tr) (q4 (e_ 8) G2 (K1 (d8 8 8 rfl) (e_ 8) (d8 8 8 rfl) (e_ 0))) (m_ 8 8 rfl (a_ (a_ (a_ (a2t (keys.getD t18.toNat default) y4 E3) tr) tr) (b4 (f_ C5 (b4 (m_ 8 8 rfl (a_ (a_ (a_ (e_ true) (Q8 (λz_:A8 Int=>LV.agg [.int .u8 z_.a0,.int .u8 z_.a1,.int .u8 z_.a2,.int .u8 z_.a3,.int .u8 z_.a4,.int .u8 z_.a5,.int .u8 z_.a6,.int .u8 z_.a7]) LV.bool (J3 .u8) m (keys.getD t18.toNat default))) (a_ (R1 LV.bool (f9 m (keys.getD t18.toNat default)) default) tr)) (f_ C6 tr)))))))) (N6 (m_ 8 8 rfl (a_ (a_ (a_ (e_ true) (e_ true)) (a_ (a6p (λz_:A8 Int=>LV.agg [.int .u8 z_.a0,.int .u8 z_.a1,.int .u8 z_.a2,.int .u8 z_.a3,.int .u8 z_.a4,.int .u8 z_.a5,.int .u8 z_.a6,.int .u8 z_.a7]) LV.bool (J3 .u8) true ks4 m (keys.getD t18.toNat default) true) tr)) tr)) (f_ C7 (B3 (b5 tr))) (b5 tr))) (ih _ _ _ r h) ⟨rfl,uP,tr,tr,rfl,tr,tr⟩
     ·obtain⟨y9,E8,h⟩:=d6 h
      exact n3 hμ [4,5] 35 [.go,.reg [(0,hT)],.reg [],.reg [(1,hC (a0N y4)),(3,hF),(6,{look:=((f9 m (keys.getD t18.toNat default)).map LV.bool),v:=some (.bool ((f9 m (keys.getD t18.toNat default)).getD default))}),(7,hF)],.reg [(2,{os:=[(5,oM5 (p7 m (keys.getD t18.toNat default) true))]})],.reg [(1,hF),(7,i6 (g9 [2,7] (a3J y9) (a5b hh) (a3I hh y9)))],.reg []]
       (q0 (f_ C1 tr) (q4 (e_ 8) G2 (K1 (d8 8 8 rfl) (e_ 8) (d8 8 8 rfl) (e_ 0))) (m_ 8 8 rfl (a_ (a_ (a_ (a2t (keys.getD t18.toNat default) y4 E3) tr) tr) (b4 (f_ C5 (b4 (m_ 8 8 rfl (a_ (a_ (a_ (e_ true) (Q8 (λz_:A8 Int=>LV.agg [.int .u8 z_.a0,.int .u8 z_.a1,.int .u8 z_.a2,.int .u8 z_.a3,.int .u8 z_.a4,.int .u8 z_.a5,.int .u8 z_.a6,.int .u8 z_.a7]) LV.bool (J3 .u8) m (keys.getD t18.toNat default))) (a_ (R1 LV.bool (f9 m (keys.getD t18.toNat default)) default) tr)) (f_ C6 tr)))))))) (N6 (m_ 8 8 rfl (a_ (a_ (a_ (e_ true) (e_ true)) (a_ (a6p (λz_:A8 Int=>LV.agg [.int .u8 z_.a0,.int .u8 z_.a1,.int .u8 z_.a2,.int .u8 z_.a3,.int .u8 z_.a4,.int .u8 z_.a5,.int .u8 z_.a6,.int .u8 z_.a7]) LV.bool (J3 .u8) true ks4 m (keys.getD t18.toNat default) true) tr)) tr)) (f_ C7 (b4 (b5 (l_ 1 3 rfl (m_ 8 8 rfl (a_ (a_ (a_ (a60 hh (keys.getD t18.toNat default) y9 E8 (f8 [2,7]) i1) (a_ (l0 (b9 hh)) tr)) tr) (l9 tr))))))) (b5 tr))) (ih _ _ _ r h) ⟨rfl,uP,tr,tr,rfl,tr,tr⟩
  ·obtain⟨y3,E2,h⟩:=d6 h
   rcases i5 h with⟨C4,h⟩|⟨C4,h⟩
   ·obtain rfl:=i7 h
    exact l8 [] 27 [.go,.reg [(0,hF)],.reg [(1,hC (a1h y3)),(3,hT)],.reg [],.wk [] [(2,.mapq true x5 (j7.map (λe_=>(p9 e_.1,(LV.int .u8) e_.2)) (j7.of hh)))],.wk [] [(3,.mapq true x5 (j7.map (λe_=>(p9 e_.1,(LV.int .u8) e_.2)) (j7.of ww)))]]
     (q3 (P0 (f_ C1 tr) (m_ 3 3 rfl (c_ (a3H x y3 E2) (b4 (f_ C4 (a_ tr (u5 (b5 tr))))))) (q5 tr (P4 p9 (LV.int .u8) true x5 hh) (D4 (P4 p9 (LV.int .u8) true x5 ww)))))
   ·rcases i5 h with⟨C5,h⟩|⟨C5,h⟩
    ·obtain rfl:=i7 h
     exact l8 [] 27 [.go,.reg [(0,hF)],.reg [(1,hC (a1h y3)),(3,hF),(8,hT)],.reg [],.wk [] [(2,.mapq true x5 (j7.map (λe_=>(p9 e_.1,(LV.int .u8) e_.2)) (j7.of hh)))],.wk [] [(3,.mapq true x5 (j7.map (λe_=>(p9 e_.1,(LV.int .u8) e_.2)) (j7.of ww)))]]
      (q3 (P0 (f_ C1 tr) (m_ 3 3 rfl (c_ (a3H x y3 E2) (b4 (f_ C4 (l9 (f_ C5 tr)))))) (q5 tr (P4 p9 (LV.int .u8) true x5 hh) (D4 (P4 p9 (LV.int .u8) true x5 ww)))))
    ·rcases i5 h with⟨C6,h⟩|⟨C6,h⟩
     ·obtain⟨y7,E8,h⟩:=d6 h
      exact n3 hμ [] 30 [.go,.reg [(0,hF)],.reg [(1,hC (a1h y3)),(3,hF),(8,hF)],.x (.p (.po 1 (i8 x) (n9 y7))),.reg [(5,{look:=some (.ptr 6 0 0)})],.x (.p (.pc 1)),.wk [] [(1,m7 uu [])]]
       (q0 (f_ C1 tr) (m_ 3 3 rfl (c_ (a3H x y3 E2) (b4 (f_ C4 (l9 (f_ C5 tr)))))) (a_ (Q0 i8 n9 E8) (Q1 i8 x)) (q0 (q2 (l_ 0 3 rfl (m_ 3 3 rfl (a_ (a_ (a_ (e_ true) (a_ (N5 i8 n9 t6 uu x (isS E8)) (List.mem_cons_self (a:=((i8 x,6):LV×Nat)) (l:=[])))) tr) (b5 tr))))) (q0 (P8 i8 n9 t6 uu x E8) (e_ true) (e_ true) (show 1≠6 from by decide)) (q7 tr (R2 i8 n9 t6 true F1 [] (m:=uu) (k:=x) E8)) tr)) (c18 hμ uu hh ww x keys r h) uT
     ·rcases i5 h with⟨C7,h⟩|⟨C7,h⟩
      ·obtain rfl:=i7 h
       exact l8 [] 35 [.go,.reg [(0,hF)],.reg [(1,hC (a1h y3)),(3,hF),(8,hF)],.reg [(5,{look:=none})],.reg [(1,hT)],.reg [],.wk [] [(2,.mapq true x5 (j7.map (λe_=>(p9 e_.1,(LV.int .u8) e_.2)) (j7.of hh)))],.wk [] [(3,.mapq true x5 (j7.map (λe_=>(p9 e_.1,(LV.int .u8) e_.2)) (j7.of ww)))]]
        (q3 (q0 (f_ C1 tr) (m_ 3 3 rfl (c_ (a3H x y3 E2) (b4 (f_ C4 (l9 (f_ C5 tr)))))) (q2 (l_ 0 3 rfl (m_ 3 3 rfl (a_ (a_ (a_ (e_ true) (pmN i8 n9 t6 uu x C6)) tr) (b5 tr))))) (q6 (q8 (f_ C7 tr)) tr (q7 tr (P4 p9 (LV.int .u8) true x5 hh)) (D4 (P4 p9 (LV.int .u8) true x5 ww)))))
      ·rcases i5 h with⟨C8,h⟩|⟨C8,h⟩
       ·exact n3 hμ [] 35 [.go,.reg [(0,hF)],.reg [(1,hC (a1h y3)),(3,hF),(8,hF)],.reg [(5,{look:=none})],.reg [(1,hF)],.reg [(4,j5 (.int .i64 (uu.length:Int))),(6,hT)]]
         (q0 (f_ C1 tr) (m_ 3 3 rfl (c_ (a3H x y3 E2) (b4 (f_ C4 (l9 (f_ C5 tr)))))) (q2 (l_ 0 3 rfl (m_ 3 3 rfl (a_ (a_ (a_ (e_ true) (pmN i8 n9 t6 uu x C6)) tr) (b5 tr))))) (q7 (q8 (f_ C7 tr)) (q2 (l_ 0 3 rfl (a_ (a_ tr (a_ (a9d i8 n9 uu) tr)) (b4 (f_ C8 tr))))))) (c19 hμ uu hh ww x keys r h) uT
       ·exact n3 hμ [4,5] 37 [.go,.reg [(0,hF)],.reg [(1,hC (a1h y3)),(3,hF),(8,hF)],.reg [(5,{look:=none})],.reg [(1,hF)],.reg [(4,j5 (.int .i64 (uu.length:Int))),(6,hF)]]
         (q0 (f_ C1 tr) (m_ 3 3 rfl (c_ (a3H x y3 E2) (b4 (f_ C4 (l9 (f_ C5 tr)))))) (q2 (l_ 0 3 rfl (m_ 3 3 rfl (a_ (a_ (a_ (e_ true) (pmN i8 n9 t6 uu x C6)) tr) (b5 tr))))) (q7 (q8 (f_ C7 tr)) (q2 (l_ 0 3 rfl (a_ (a_ tr (a_ (a9d i8 n9 uu) tr)) (b4 (f_ C8 tr))))))) (c2a hμ uu hh ww x keys m r h) ⟨rfl,uP,tr,tr,rfl,tr,tr⟩
theorem c2d(uu:UT)(hh ww:PT)(x:TX)(keys:List (A8 Int))(r:Int×UT×(j7 (TL×Int))×(j7 (TL×Int)))(h:a65 uu hh ww x keys=some r):∀σ,p8 4 σ->j9 Tryz.prog 35 (n7 σ [.ptr 0 0 0,i8 x,.ds 8 keys.length (b6 (λz_:A8 Int=>[.int .u8 z_.a0,.int .u8 z_.a1,.int .u8 z_.a2,.int .u8 z_.a3,.int .u8 z_.a4,.int .u8 z_.a5,.int .u8 z_.a6,.int .u8 z_.a7]) default keys)]) (p5 σ 0 (b6m uu hh ww)) ((a3R r).ren σ) (p6 σ (a3Q r)):=by
 refine u7 Tryz.func35 ⟨rfl,uP,tr,tr,tr⟩ ⟨rfl,uP,tr,tr,tr⟩ ?_;intro w0 W μ0 hμ;unfold a65 at h;obtain⟨y2,e1,h⟩:=d6 h;exact n3 hμ [4,5] 30 [.reg [],.reg [(1,i6 (g9 [0,1,2,3] (T4 y2) (T2 uu hh ww) (T3 hh ww y2)))],.reg [],.reg [],.reg []]
  (q6 (b5 tr) (I2 (q0 (U7 uu hh ww y2 e1 (f8 [0,1,2,3]) i1) (l0 (.var [.map 1,.map 2,.map 3])) (T5 i8 n9 (ag:=true) (ks:=F1) (m:=uu) (opn:=[])) (q7 (l0 (b9 hh)) (l0 (b9 ww))))) (b5 tr) (X1 (q8 tr))) (c2b hμ uu hh ww x keys big _ _ _ r h) ⟨rfl,uP,tr,tr,rfl,tr,tr⟩
def b7k(r:TO×Int×UT×(j7 (TL×Int))×(j7 (TL×Int))):LV:=.tup [a6u r.1,.int .i64 r.2.1]
def b7j(r:TO×Int×UT×(j7 (TL×Int))×(j7 (TL×Int))):i9:=[(0,some (.var [.map 1,.map 2,.map 3])),(1,some (m7 r.2.2.1 [])),(2,some (.mapq true x5 (j7.map (λe_=>(p9 e_.1,(LV.int .u8) e_.2)) r.2.2.2.1))),(3,some (.mapq true x5 (j7.map (λe_=>(p9 e_.1,(LV.int .u8) e_.2)) r.2.2.2.2)))]
def b7i(uu:UT)(hh ww:PT):List LO:=[.var [.map 1,.map 2,.map 3],m7 uu [],b9 hh,b9 ww]
def a7u(uu:UT)(hh ww:PT)(a:TA):Option (TO×Int×UT×(j7 (TL×Int))×(j7 (TL×Int))):=
 if(Int.tmod a.S0 5)==2 then
  (a5f uu hh ww a.n5.b7).bind λy3=>
  some (y3.1,y3.2.1,y3.2.2.1,(j7.of y3.2.2.2.1),(j7.of y3.2.2.2.2))
 else
  if(Int.tmod a.S0 5)==3 then
   (a5h uu hh ww a.n5.b7).bind λy4=>
   some (y4.1,y4.2.1,y4.2.2.1,(j7.of y4.2.2.2.1),(j7.of y4.2.2.2.2))
  else
   if(Int.tmod a.S0 5)==4 then
    (a65 uu hh ww a.n5.b7 a.K4).bind λy5=>
    some ((TO.mk ([]:List TX) ([]:List TG)),y5.1,y5.2.1,y5.2.2.1,y5.2.2.2)
   else
    (a3L uu hh ww a.n5 a.j8 a.v8).bind λy6=>
    some (y6.1,y6.2.1,y6.2.2.1,(j7.of y6.2.2.2.1),(j7.of y6.2.2.2.2))
theorem c3M(uu:UT)(hh ww:PT)(a:TA)(r:TO×Int×UT×(j7 (TL×Int))×(j7 (TL×Int)))(h:a7u uu hh ww a=some r):∀σ,p8 4 σ->j9 Tryz.prog 13 (n7 σ [.ptr 0 0 0,b9a a]) (p5 σ 0 (b7i uu hh ww)) ((b7k r).ren σ) (p6 σ (b7j r)):=by
 refine u7 Tryz.func13 ⟨rfl,uP,tr,tr,tr⟩ ⟨rfl,uP,tr,tr,tr⟩ ?_;intro w0 W μ0 hμ;unfold a7u at h;rcases i5 h with⟨c1,h⟩|⟨c1,h⟩
 ·obtain⟨y3,e2,h⟩:=d6 h
  obtain rfl:=i7 h;exact l8 [] 26 [.reg [],.reg [],.reg [(1,hT)],.reg [(4,i6 (g9 [0,1,2,3] (a81 y3) (b6h uu hh ww) (a80 y3)))],.wk [] [(2,.mapq true x5 (j7.map (λe_=>(p9 e_.1,(LV.int .u8) e_.2)) (j7.of y3.2.2.2.1)))],.wk [] [(3,.mapq true x5 (j7.map (λe_=>(p9 e_.1,(LV.int .u8) e_.2)) (j7.of y3.2.2.2.2)))]]
   (F9 (K8 (l_ 0 15 rfl (a_ (a_ (K7 5 rfl) tr) tr)) (q8 (f_ c1 tr)) (W9 (q2 (m_ 5 15 rfl (a_ (a_ (a_ (c1X uu hh ww a.n5.b7 y3 e2 (f8 [0,1,2,3]) i1) (n4 [.map 1,.map 2,.map 3] uu hh ww)) tr) (b5 (a_ (a_ (a_ (e_ 2) (a_ (d8 2 2 rfl) (e_ 0))) tr) (b4 tr)))))) (P4 p9 (LV.int .u8) true x5 y3.2.2.2.1) (P4 p9 (LV.int .u8) true x5 y3.2.2.2.2))) (d8 2 2 rfl))
 ·rcases i5 h with⟨c2,h⟩|⟨c2,h⟩
  ·obtain⟨y4,e3,h⟩:=d6 h
   obtain rfl:=i7 h;exact l8 [] 30 [.reg [],.reg [],.reg [(1,hF)],.reg [(1,hT)],.reg [(4,i6 (g9 [0,1,2,3] (b6l y4) (b6j uu hh ww) (b6k y4)))],.wk [] [(2,.mapq true x5 (j7.map (λe_=>(p9 e_.1,(LV.int .u8) e_.2)) (j7.of y4.2.2.2.1)))],.wk [] [(3,.mapq true x5 (j7.map (λe_=>(p9 e_.1,(LV.int .u8) e_.2)) (j7.of y4.2.2.2.2)))]]
    (F9 (K8 (l_ 0 15 rfl (a_ (a_ (K7 5 rfl) tr) tr)) (q8 (f_ c1 tr)) (q0 (q8 (f_ c2 tr)) (q2 (m_ 5 15 rfl (a_ (a_ (a_ (c1Z uu hh ww a.n5.b7 y4 e3 (f8 [0,1,2,3]) i1) (n4 [.map 1,.map 2,.map 3] uu hh ww)) tr) (b5 (a_ (a_ (a_ (e_ 2) (a_ (d8 2 2 rfl) (e_ 0))) tr) (b4 tr)))))) (q7 tr (P4 p9 (LV.int .u8) true x5 y4.2.2.2.1)) (D4 (P4 p9 (LV.int .u8) true x5 y4.2.2.2.2)))) (d8 2 2 rfl))
  ·rcases i5 h with⟨c3,h⟩|⟨c3,h⟩
   ·obtain⟨y5,e4,h⟩:=d6 h
    obtain rfl:=i7 h;exact l8 [] 34 [.reg [],.reg [],.reg [(1,hF)],.reg [(1,hF)],.reg [(1,hT)],.reg [(7,i6 (g9 [0,1,2,3] (a3R y5) (b6m uu hh ww) (a3Q y5)))],.wk [] [(5,.var [.ds 3 (([]:List TX)).length (b6 f5 default ([]:List TX)),.nilsl])],.wk [] [(5,.var (Z9 (TO.mk ([]:List TX) ([]:List TG))))]]
     (F9 (K8 (l_ 0 15 rfl (a_ (a_ (K7 5 rfl) tr) tr)) (q8 (f_ c1 tr)) (q6 (q8 (f_ c2 tr)) (f_ c3 tr) (q9 (e_ true) (q2 (m_ 5 15 rfl (b4 (l_ 14 15 rfl (a_ (a_ (a_ (c2d uu hh ww a.n5.b7 a.K4 y5 e4 (f8 [0,1,2,3]) i1) (n4 [.map 1,.map 2,.map 3] uu hh ww)) tr) (a_ (a_ (a_ (e_ 2) (a_ (d8 2 2 rfl) (e_ 0))) tr) (b4 tr)))))))) (q5 tr (LO.Sub.var (a:=[.nilsl,.nilsl]) (b:=[.ds 3 (([]:List TX)).length (b6 f5 default ([]:List TX)),.nilsl]) (a_ (A6 3 (b6 f5 default [])) (a_ (LV.Le.refl (.nilsl)) tr))) (D4 (LO.Sub.var (a:=[.ds 3 (([]:List TX)).length (b6 f5 default ([]:List TX)),.nilsl]) (b:=[.ds 3 (([]:List TX)).length (b6 f5 default ([]:List TX)),.ds 12 (([]:List TG)).length (b6 H8 default ([]:List TG))]) (a_ (LV.Le.refl (.ds 3 (([]:List TX)).length (b6 f5 default ([]:List TX)))) (a_ (A6 12 (b6 H8 default [])) tr))))))) (d8 2 2 rfl))
   ·obtain⟨y6,e4,h⟩:=d6 h
    obtain rfl:=i7 h;exact l8 [] 36 [.reg [],.reg [],.reg [(1,hF)],.reg [(1,hF)],.reg [(1,hF)],.reg [(7,i6 (g9 [0,1,2,3] (N3 y6) (W8 uu hh ww) (N2 y6)))],.wk [] [(2,.mapq true x5 (j7.map (λe_=>(p9 e_.1,(LV.int .u8) e_.2)) (j7.of y6.2.2.2.1)))],.wk [] [(3,.mapq true x5 (j7.map (λe_=>(p9 e_.1,(LV.int .u8) e_.2)) (j7.of y6.2.2.2.2)))]]
     (F9 (K8 (l_ 0 15 rfl (a_ (a_ (K7 5 rfl) tr) tr)) (q8 (f_ c1 tr)) (q6 (q8 (f_ c2 tr)) (f_ c3 tr) (b5 (m_ 5 15 rfl (b4 (m_ 13 15 rfl (b4 (l_ 13 15 rfl (a_ (a_ (a_ (X9 uu hh ww a.n5 a.j8 a.v8 y6 e4 (f8 [0,1,2,3]) i1) (n4 [.map 1,.map 2,.map 3] uu hh ww)) tr) (b5 (a_ (a_ (a_ (e_ 2) (a_ (d8 2 2 rfl) (e_ 0))) tr) (b4 tr)))))))))) (q5 tr (P4 p9 (LV.int .u8) true x5 y6.2.2.2.1) (D4 (P4 p9 (LV.int .u8) true x5 y6.2.2.2.2))))) (d8 2 2 rfl))
def R4(r:Int):LV:=.int .i64 r
def R3(r:Int):i9:=[]
def S5(t:f7):List LO:=[.row 3 1 (λ_=>n8 t) false]
def a2S(t:f7)(x:TX):Nat->Int->Option Int
 |0,_=>none
 |fuel+1,i=>
  if decide (i<(t.f_L.length:Int)) then
   if 0<=i/\i<(t.f_L.length:Int) then
   if decide ((t.f_L.getD i.toNat default).n5.b7=x) then
    some i
   else
    a2S t x fuel (IntKind.wrap .i64 (i+1))
   else none
  else
   some (-1)
def Y6(t:f7)(x:TX):Option Int:=
 a2S t x big 0
abbrev c4r(t:f7)(x:TX)(i:Int)(r:Int):Prop:=p3 w0 W μ0 Tryz.f56 1 1 (R4 r) (R3 r) (z6 (o9 Tryz.f56) 0) ((.ptr 0 0 0):: .any:: .any::(.ptr 1 0 0):: .any::(.int .i64 i)::n_ 21 []) [some (.row 3 1 (λ_=>n8 t) false),some (.var (f5 x))]
theorem c4s{w0 W μ0}(hμ:p4 μ0 1)(t:f7)(x:TX):∀(fuel:Nat) (i:Int) (r:Int),a2S t x fuel i=some r->c4r w0 W μ0 t x i r:=by
 intro fuel
 induction fuel with
 |zero=>intro i r h;rw[a2S] at h;cases h
 |succ fuel ih=>
  intro i r h;rw[a2S] at h;rcases i5 h with⟨C1,h⟩|⟨C1,h⟩
  ·obtain⟨G2,h⟩:=j6 h
   rcases i5 h with⟨C3,h⟩|⟨C3,h⟩
   ·obtain rfl:=i7 h
    exact l8 [] 25 [.go,.reg [(6,hT)],.reg [(10,hT)],.reg []]
     (q3 (q0 (J1 (j4 0 1 rfl) (j4 0 3 rfl) (f_ C1 tr)) (O9 (j4 0 1 rfl) (j4 0 3 rfl) (e_ 5) G2 (b5 (q9 (d8 3 4 rfl) (m_ 3 3 rfl (a_ (a_ tr (a_ (LV.Le.trans (v6 (t6 (t.f_L.getD i.toNat default).n5.b7 x)) (v6 C3)) tr)) tr))))) (b5 tr) tr))
   ·exact n3 hμ [1] 26 [.go,.reg [(6,hT)],.reg [(10,hF)],.reg []]
     (V2 (J1 (j4 0 1 rfl) (j4 0 3 rfl) (f_ C1 tr)) (O9 (j4 0 1 rfl) (j4 0 3 rfl) (e_ 5) G2 (b5 (q9 (d8 3 4 rfl) (m_ 3 3 rfl (a_ (a_ tr (a_ (LV.Le.trans (v6 (t6 (t.f_L.getD i.toNat default).n5.b7 x)) (v6 C3)) tr)) tr)))))) (ih _ r h) ⟨λ_ _=>rfl,rfl,tr⟩
  ·obtain rfl:=i7 h
   exact l8 [] 19 [.go,.reg [(6,hF)],.reg []]
    (F8 (J1 (j4 0 1 rfl) (j4 0 3 rfl) (f_ C1 tr)) (q8 tr))
theorem T6(t:f7)(x:TX)(r:Int)(h:Y6 t x=some r):∀σ,p8 1 σ->j9 Tryz.prog 56 (n7 σ [.ptr 0 0 0,i8 x]) (p5 σ 0 (S5 t)) ((R4 r).ren σ) (p6 σ (R3 r)):=by
 refine u7 Tryz.func56 ⟨λ_ _=>rfl,tr⟩ tr ?_;intro w0 W μ0 hμ;unfold Y6 at h;exact n3 hμ [1] 18 [.reg [],.reg []]
  (T7 (b5 tr)) (c4s hμ t x big _ r h) ⟨λ_ _=>rfl,rfl,tr⟩
def a57(r:(List b8)):LV:=.ds 12 r.length (b6 o4 default r)
def a2W(l:List b8)(x:TX):Nat->Int->(List b8)->Option ((List b8))
 |0,_,_=>none
 |fuel+1,i,l2=>
  if decide (i<(l.length:Int)) then
   if 0<=i/\i<(l.length:Int) then
   if !decide ((l.getD i.toNat default).b7=x) then
    if(l2.length+(([(l.getD i.toNat default)]:List b8)).length) * 24<=140737488351232 then
    a2W l x fuel (IntKind.wrap .i64 (i+1)) (l2++([(l.getD i.toNat default)]:List b8))
    else none
   else
    a2W l x fuel (IntKind.wrap .i64 (i+1)) l2
   else none
  else
   some l2
def a4u(l:List b8)(x:TX):Option ((List b8)):=
 a2W l x big 0 ([]:List b8)
abbrev c4I(l:List b8)(x:TX)(i:Int)(l2:List b8)(r:(List b8)):Prop:=p3 w0 W μ0 Tryz.f55 0 0 (a57 r) [] (z6 (o9 Tryz.f55) 0) ((.ds 12 l.length (b6 o4 default l)):: .any:: .any::(.ptr 0 0 0):: .any::(.gs 1 l2.length)::(.int .i64 i)::n_ 21 []) [some (.var (f5 x)),some (.gr 12 l2.length (b6 o4 default l2))]
theorem c4J{w0 W μ0}(hμ:p4 μ0 0)(l:List b8)(x:TX):∀(fuel:Nat) (i:Int) (l2:List b8) (r:(List b8)),a2W l x fuel i l2=some r->c4I w0 W μ0 l x i l2 r:=by
 intro fuel
 induction fuel with
 |zero=>intro i l2 r h;rw[a2W] at h;cases h
 |succ fuel ih=>
  intro i l2 r h;rw[a2W] at h;rcases i5 h with⟨C1,h⟩|⟨C1,h⟩
  ·obtain⟨G2,h⟩:=j6 h
   rcases i5 h with⟨C3,h⟩|⟨C3,h⟩
   ·obtain⟨G4,h⟩:=j6 h
    exact n3 hμ [0,3] 27 [.go,.reg [(3,hT)],.reg [(6,hT)],.reg [(5,{os:=[(2,.gr 12 (([(l.getD i.toNat default)]:List b8)).length (b6 o4 default ([(l.getD i.toNat default)]:List b8)))],v:=some (.gs 2 (([(l.getD i.toNat default)]:List b8)).length)}),(6,{app:=3,os:=[(3,.gr 12 ((l2++([(l.getD i.toNat default)]:List b8))).length (b6 o4 default (l2++([(l.getD i.toNat default)]:List b8))))],v:=some (.gs 3 ((l2++([(l.getD i.toNat default)]:List b8))).length)})],.reg []]
     (B6 (q2 (f_ C1 tr)) (q4 (e_ 12) G2 (q8 (q9 (d8 3 12 rfl) (m_ 3 3 rfl (a_ (a_ tr (a_ (LV.Le.trans (v6 (congrArg not (t6 (l.getD i.toNat default).b7 x))) (v6 C3)) tr)) tr))))) (q2 (q0 (q1 (e_ 12) G2 tr) (q3 (d8 12 12 rfl)) (q0 (q0 (e_ true) (e_ 12) (j4 0 12 rfl) (d8 12 16777216 rfl)) (L5 2 1 (some 1) rfl) (L6 o4 default 12 (λ_=>rfl) ([(l.getD i.toNat default)]:List b8)) tr) (a_ (q0 (q0 (a_ (e_ 12) (m8 (([(l.getD i.toNat default)]:List b8)).length)) (q0 (j4 0 12 rfl) (j4 0 24 rfl) G4 (a_ (e_ 12) (e_ true))) (e_ 12) (m8 l2.length)) (J6 3 l2 ([(l.getD i.toNat default)]:List b8)) (J9 o4 default 12 l2 ([(l.getD i.toNat default)]:List b8)) tr) (q8 tr)))) (I3 tr)) (ih _ _ r h) ⟨rfl,λ_ _=>rfl,tr⟩
   ·exact n3 hμ [0,1] 26 [.go,.reg [(3,hT)],.reg [(6,hF)],.reg []]
     (B6 (q2 (f_ C1 tr)) (q4 (e_ 12) G2 (q8 (q9 (d8 3 12 rfl) (m_ 3 3 rfl (a_ (a_ tr (a_ (LV.Le.trans (v6 (congrArg not (t6 (l.getD i.toNat default).b7 x))) (v6 C3)) tr)) tr))))) (q2 tr) tr) (ih _ _ r h) ⟨rfl,λ_ _=>rfl,tr⟩
  ·obtain rfl:=i7 h
   exact l8 [] 20 [.go,.reg [(3,hF)],.reg [],.frz 1]
    (q3 (B6 (q2 (f_ C1 tr)) tr (E0 (J2 (enc:=o4) (d:=default) (λ_=>rfl) l2) (m8 l2.length) (m8 l2.length) (m8 l2.length)) tr))
theorem c4K(l:List b8)(x:TX)(r:(List b8))(h:a4u l x=some r):∀σ,p8 0 σ->j9 Tryz.prog 55 (n7 σ [.ds 12 l.length (b6 o4 default l),i8 x]) (p5 σ 0 []) ((a57 r).ren σ) (p6 σ []):=by
 refine u7 Tryz.func55 tr tr ?_;intro w0 W μ0 hμ;unfold a4u at h;exact n3 hμ [0,1] 22 [.reg [(1,j5 (.ds 12 (([]:List b8)).length (b6 o4 default ([]:List b8))))],.void (.gr 12 (([]:List b8)).length (b6 o4 default ([]:List b8))),.reg [(0,j5 (.gs 1 (([]:List b8)).length))],.reg []]
  (E0 (q8 (D4 (A6 12 (b6 o4 default [])))) (e_ 0) (D4 (q_ 1)) (q8 tr)) (c4J hμ l x big _ _ r h) ⟨rfl,λ_ _=>rfl,tr⟩
theorem b3g(l:List b8)(x:TX)(r:(List b8))(h:a4u l x=some r):j9 Tryz.prog 55 [.ds 12 l.length (b6 o4 default l),i8 x] [] (a57 r) []:=j9.none (c4K l x r h) rfl rfl
def a5W(r:Bool):LV:=.bool r
def a5V(r:Bool):i9:=[]
def a5U(t:f7):List LO:=[.row 3 1 (λ_=>n8 t) false]
def a4k(t:f7)(x:TX):Option Bool:=
 (a4u t.f0 x).bind λy2=>
 some (decide ((y2.length:Int)<(t.f0.length:Int)))
theorem a7A(t:f7)(x:TX)(r:Bool)(h:a4k t x=some r):∀σ,p8 1 σ->j9 Tryz.prog 31 (n7 σ [.ptr 0 0 0,i8 x]) (p5 σ 0 (a5U t)) ((a5W r).ren σ) (p6 σ (a5V r)):=by
 refine u7 Tryz.func31 ⟨λ_ _=>rfl,tr⟩ tr ?_;intro w0 W μ0 hμ;unfold a4k at h;obtain⟨y2,e1,h⟩:=d6 h;obtain rfl:=i7 h;exact l8 [] 15 [.reg [],.reg [(5,hC (a57 y2))]]
  (F8 (b5 tr) (q2 (q4 (j4 0 1 rfl) (j4 2 3 rfl) (m_ 3 3 rfl (c_ (b3g t.f0 x y2 e1) (l9 (a_ (a_ (a_ (j4 0 1 rfl) (j4 2 3 rfl)) tr) (b4 (b5 tr)))))))))
def a0p(r:Bool):LV:=.bool r
def a2V(a b:b8):Option Bool:=
 if decide (a.b7=b.b7) then
  some true
 else
  if a.v8==1 then
   some (b.v8==1)
  else
   some false
theorem c4H(a b:b8)(r:Bool)(h:a2V a b=some r):∀σ,p8 0 σ->j9 Tryz.prog 100 (n7 σ [P5 a,P5 b]) (p5 σ 0 []) ((a0p r).ren σ) (p6 σ []):=by
 refine u7 Tryz.func100 tr tr ?_;intro w0 W μ0 hμ;unfold a2V at h;rcases i5 h with⟨c1,h⟩|⟨c1,h⟩
 ·obtain rfl:=i7 h
  exact l8 [] 15 [.reg [],.reg [(4,j5 (.bool (decide (a.b7=b.b7)))),(5,hT)]]
   (Z0 (q8 (m_ 3 12 rfl (b4 (m_ 3 12 rfl (a_ (a_ tr (a_ (v6 (t6 a.b7 b.b7)) tr)) (f_ c1 (B3 (b5 tr)))))))))
 ·rcases i5 h with⟨c2,h⟩|⟨c2,h⟩
  ·obtain rfl:=i7 h
   exact l8 [] 15 [.reg [],.reg [(4,j5 (.bool (decide (a.b7=b.b7)))),(5,hF),(9,hT)]]
    (Z0 (q8 (m_ 3 12 rfl (b4 (m_ 3 12 rfl (a_ (a_ tr (a_ (v6 (t6 a.b7 b.b7)) tr)) (f_ c1 (b4 (l_ 11 12 rfl (b4 (f_ c2 (b4 (l_ 11 12 rfl (l9 tr))))))))))))))
  ·obtain rfl:=i7 h
   exact l8 [] 15 [.reg [],.reg [(4,j5 (.bool (decide (a.b7=b.b7)))),(5,hF),(9,hF)]]
    (Z0 (q8 (m_ 3 12 rfl (b4 (m_ 3 12 rfl (a_ (a_ tr (a_ (v6 (t6 a.b7 b.b7)) tr)) (f_ c1 (b4 (l_ 11 12 rfl (b4 (f_ c2 (a_ tr (u5 (b4 (b5 tr)))))))))))))))
theorem a1F(a b:b8)(r:Bool)(h:a2V a b=some r):j9 Tryz.prog 100 [P5 a,P5 b] [] (a0p r) []:=j9.none (c4H a b r h) rfl rfl
def a5K(r:(List Int)):LV:=.ds 1 r.length (b6 (A4 .u32) default r)
def a1t(t:TX):Option ((List Int)):=
 some ([(IntKind.wrap .u32 t.F3),t.D6,t.F5]:List Int)
theorem c3A(t:TX)(r:(List Int))(h:a1t t=some r):∀σ,p8 0 σ->j9 Tryz.prog 46 (n7 σ [i8 t]) (p5 σ 0 []) ((a5K r).ren σ) (p6 σ []):=by
 refine u7 Tryz.func46 tr tr ?_;intro w0 W μ0 hμ;unfold a1t at h;obtain rfl:=i7 h;exact l8 [] 16 [.reg [(1,j5 (.ds 1 (([]:List Int)).length (b6 (A4 .u32) default ([]:List Int))))],.reg [(7,{os:=[(1,.gr 1 (([(IntKind.wrap .u32 t.F3),t.D6,t.F5]:List Int)).length (b6 (A4 .u32) default ([(IntKind.wrap .u32 t.F3),t.D6,t.F5]:List Int)))],v:=some (.gs 1 (([(IntKind.wrap .u32 t.F3),t.D6,t.F5]:List Int)).length)})],.frz 1]
  (q3 (N6 (D4 (A6 1 (b6 (A4 .u32) default []))) (l_ 0 3 rfl (b5 (l_ 1 3 rfl (b4 (l_ 2 3 rfl (a_ (a_ (a_ (e_ true) (a_ (e_ 1) (a_ (j4 0 1 rfl) (d8 3 16777216 rfl)))) (a_ (L5 1 3 (some 3) rfl) (a_ (L6 (A4 .u32) default 1 (λ_=>rfl) ([(IntKind.wrap .u32 t.F3),t.D6,t.F5]:List Int)) tr))) (b4 tr))))))) (q0 (J2 (enc:=(A4 .u32)) (d:=default) (λ_=>rfl) ([(IntKind.wrap .u32 t.F3),t.D6,t.F5]:List Int)) (m8 (([(IntKind.wrap .u32 t.F3),t.D6,t.F5]:List Int)).length) (m8 (([(IntKind.wrap .u32 t.F3),t.D6,t.F5]:List Int)).length) tr)))
theorem a9y(t:TX)(r:(List Int))(h:a1t t=some r):j9 Tryz.prog 46 [i8 t] [] (a5K r) []:=j9.none (c3A t r h) rfl rfl
def a5J(r:Int):LV:=.int .i64 r
def a4b(a b:List Int):Nat->Int->Option Int
 |0,_=>none
 |fuel+1,i=>
  if decide (i<(a.length:Int)) then
   if 0<=i/\i<(a.length:Int) then
   if 0<=i/\i<(b.length:Int) then
   if decide ((a.getD i.toNat default)<(b.getD i.toNat default)) then
    some (-1)
   else
    if decide ((b.getD i.toNat default)<(a.getD i.toNat default)) then
     some 1
    else
     a4b a b fuel (IntKind.wrap .i64 (i+1))
   else none
   else none
  else
   some 0
def a2C(a b:List Int):Option Int:=
 a4b a b big 0
abbrev c3x(a b:List Int)(i:Int)(r:Int):Prop:=p3 w0 W μ0 Tryz.f45 0 0 (a5J r) [] (z6 (o9 Tryz.f45) 0) ((.ds 1 a.length (b6 (A4 .u32) default a))::(.ds 1 b.length (b6 (A4 .u32) default b)):: .any:: .any:: .any::(.int .i64 i)::n_ 24 []) []
theorem c3y{w0 W μ0}(hμ:p4 μ0 0)(a b:List Int):∀(fuel:Nat) (i:Int) (r:Int),a4b a b fuel i=some r->c3x w0 W μ0 a b i r:=by
 intro fuel
 induction fuel with
 |zero=>intro i r h;rw[a4b] at h;cases h
 |succ fuel ih=>
  intro i r h;rw[a4b] at h;rcases i5 h with⟨C1,h⟩|⟨C1,h⟩
  ·obtain⟨G2,h⟩:=j6 h
   obtain⟨G3,h⟩:=j6 h;rcases i5 h with⟨C4,h⟩|⟨C4,h⟩
   ·obtain rfl:=i7 h
    exact l8 [] 26 [.go,.reg [(3,hT)],.reg [(8,hT)],.reg []]
     (q3 (B6 (q2 (f_ C1 tr)) (q4 (e_ 1) G2 (q9 (j4 0 1 rfl) (b5 (q4 (e_ 1) G3 (q9 (j4 0 1 rfl) (f_ C4 tr)))))) (q8 tr) tr))
   ·rcases i5 h with⟨C5,h⟩|⟨C5,h⟩
    ·obtain rfl:=i7 h
     exact l8 [] 31 [.go,.reg [(3,hT)],.reg [(8,hF)],.reg [(8,hT)],.reg []]
      (q3 (B6 (q2 (f_ C1 tr)) (q4 (e_ 1) G2 (q9 (j4 0 1 rfl) (b5 (q4 (e_ 1) G3 (q9 (j4 0 1 rfl) (f_ C4 tr)))))) (b5 (q4 (e_ 1) G2 (q9 (j4 0 1 rfl) (b5 (q4 (e_ 1) G3 (q9 (j4 0 1 rfl) (f_ C5 tr))))))) (q3 (q8 tr))))
    ·exact n3 hμ [] 32 [.go,.reg [(3,hT)],.reg [(8,hF)],.reg [(8,hF)],.reg []]
      (B6 (q2 (f_ C1 tr)) (q4 (e_ 1) G2 (q9 (j4 0 1 rfl) (b5 (q4 (e_ 1) G3 (q9 (j4 0 1 rfl) (f_ C4 tr)))))) (b5 (q4 (e_ 1) G2 (q9 (j4 0 1 rfl) (b5 (q4 (e_ 1) G3 (q9 (j4 0 1 rfl) (f_ C5 tr))))))) (I3 tr)) (ih _ r h) tr
  ·obtain rfl:=i7 h
   exact l8 [] 19 [.go,.reg [(3,hF)],.reg []]
    (F8 (q2 (f_ C1 tr)) (q8 tr))
theorem c3z(a b:List Int)(r:Int)(h:a2C a b=some r):∀σ,p8 0 σ->j9 Tryz.prog 45 (n7 σ [.ds 1 a.length (b6 (A4 .u32) default a),.ds 1 b.length (b6 (A4 .u32) default b)]) (p5 σ 0 []) ((a5J r).ren σ) (p6 σ []):=by
 refine u7 Tryz.func45 tr tr ?_;intro w0 W μ0 hμ;unfold a2C at h;exact n3 hμ [] 18 [.reg [],.reg []]
  (T7 (q8 tr)) (c3y hμ a b big _ r h) tr
theorem b2W(a b:List Int)(r:Int)(h:a2C a b=some r):j9 Tryz.prog 45 [.ds 1 a.length (b6 (A4 .u32) default a),.ds 1 b.length (b6 (A4 .u32) default b)] [] (a5J r) []:=j9.none (c3z a b r h) rfl rfl
def b2U(r:Int):LV:=.int .i64 r
def a5G(a b:TS):Option Int:=
 (a1t a.b7).bind λy2=>
 if((([a.B8]:List Int)).length+y2.length) * 4<=140737488351232 then
 (a1t b.b7).bind λy5=>
 if((([b.B8]:List Int)).length+y5.length) * 4<=140737488351232 then
 (a2C (([a.B8]:List Int)++y2) (([b.B8]:List Int)++y5)).bind λy8=>
 some y8
 else none
 else none
theorem c3s(a b:TS)(r:Int)(h:a5G a b=some r):∀σ,p8 0 σ->j9 Tryz.prog 22 (n7 σ [V5 a,V5 b]) (p5 σ 0 []) ((b2U r).ren σ) (p6 σ []):=by
 refine u7 Tryz.func22 tr tr ?_;intro w0 W μ0 hμ;unfold a5G at h;obtain⟨y2,e1,h⟩:=d6 h;obtain⟨g3,h⟩:=j6 h;obtain⟨y5,e4,h⟩:=d6 h;obtain⟨g6,h⟩:=j6 h;obtain⟨y8,e7,h⟩:=d6 h;obtain rfl:=i7 h;exact l8 [] 15 [.reg [],.reg [(2,{os:=[(2,.gr 1 (([a.B8]:List Int)).length (b6 (A4 .u32) default ([a.B8]:List Int)))],v:=some (.gs 2 (([a.B8]:List Int)).length)}),(5,hC (a5K y2)),(6,{app:=3,os:=[(3,.gr 1 ((([a.B8]:List Int)++y2)).length (b6 (A4 .u32) default (([a.B8]:List Int)++y2)))],v:=some (.gs 3 ((([a.B8]:List Int)++y2)).length),fz:=true}),(9,{os:=[(4,.gr 1 (([b.B8]:List Int)).length (b6 (A4 .u32) default ([b.B8]:List Int)))],v:=some (.gs 4 (([b.B8]:List Int)).length)}),(12,hC (a5K y5)),(13,{app:=3,os:=[(5,.gr 1 ((([b.B8]:List Int)++y5)).length (b6 (A4 .u32) default (([b.B8]:List Int)++y5)))],v:=some (.gs 5 ((([b.B8]:List Int)++y5)).length),fz:=true}),(14,hC (a5J y8))]]
  (Z0 (q8 (l_ 0 4 rfl (a_ (a_ (a_ (e_ true) (a_ (e_ 1) (a_ (j4 0 1 rfl) (d8 1 16777216 rfl)))) (a_ (L5 2 1 (some 1) rfl) (a_ (L6 (A4 .u32) default 1 (λ_=>rfl) ([a.B8]:List Int)) tr))) (b4 (m_ 4 4 rfl (c_ (a9y a.b7 y2 e1) (a_ (a_ (a_ (a_ (e_ 1) (a_ (a_ (j4 0 1 rfl) (a_ (j4 0 4 rfl) (a_ g3 (a_ (e_ 1) (e_ true))))) (a_ (e_ 1) (m8 (([a.B8]:List Int)).length)))) (a_ (J6 3 ([a.B8]:List Int) y2) (a_ (J9 (A4 .u32) default 1 ([a.B8]:List Int) y2) tr))) (a_ (m8 ((([a.B8]:List Int)++y2)).length) (J2 (enc:=(A4 .u32)) (d:=default) (λ_=>rfl) (([a.B8]:List Int)++y2)))) (b4 (l_ 0 4 rfl (a_ (a_ (a_ (e_ true) (a_ (e_ 1) (a_ (j4 0 1 rfl) (d8 1 16777216 rfl)))) (a_ (L5 4 1 (some 1) rfl) (a_ (L6 (A4 .u32) default 1 (λ_=>rfl) ([b.B8]:List Int)) tr))) (b4 (m_ 4 4 rfl (c_ (a9y b.b7 y5 e4) (a_ (a_ (a_ (a_ (e_ 1) (a_ (a_ (j4 0 1 rfl) (a_ (j4 0 4 rfl) (a_ g6 (a_ (e_ 1) (e_ true))))) (a_ (e_ 1) (m8 (([b.B8]:List Int)).length)))) (a_ (J6 5 ([b.B8]:List Int) y5) (a_ (J9 (A4 .u32) default 1 ([b.B8]:List Int) y5) tr))) (a_ (m8 ((([b.B8]:List Int)++y5)).length) (J2 (enc:=(A4 .u32)) (d:=default) (λ_=>rfl) (([b.B8]:List Int)++y5)))) (a_ (a_ (a_ (b2W (([a.B8]:List Int)++y2) (([b.B8]:List Int)++y5) y8 e7) tr) tr) (b4 tr)))))))))))))))))
theorem c3t(a b:TS)(r:Int)(h:a5G a b=some r):j9 Tryz.prog 22 [V5 a,V5 b] [] (b2U r) []:=j9.none (c3s a b r h) rfl rfl
def a0T(r:Bool):LV:=.bool r
def a0S(r:Bool):i9:=[]
def a0R(t:f7):List LO:=[.row 3 1 (λ_=>n8 t) false]
def a1C(t:f7)(a b:TX):Option Bool:=
 (Y6 t a).bind λy2=>
 if 0<=y2/\y2<(t.f_L.length:Int) then
 (Y6 t b).bind λy5=>
 if 0<=y5/\y5<(t.f_L.length:Int) then
 (a5G (t.f_L.getD y2.toNat default).n5 (t.f_L.getD y5.toNat default).n5).bind λy8=>
 some (decide (y8<0))
 else none
 else none
theorem a1D(t:f7)(a b:TX)(r:Bool)(h:a1C t a b=some r):∀σ,p8 1 σ->j9 Tryz.prog 54 (n7 σ [.ptr 0 0 0,i8 a,i8 b]) (p5 σ 0 (a0R t)) ((a0T r).ren σ) (p6 σ (a0S r)):=by
 refine u7 Tryz.func54 ⟨λ_ _=>rfl,tr⟩ tr ?_;intro w0 W μ0 hμ;unfold a1C at h;obtain⟨y2,e1,h⟩:=d6 h;obtain⟨g3,h⟩:=j6 h;obtain⟨y5,e4,h⟩:=d6 h;obtain⟨g6,h⟩:=j6 h;obtain⟨y8,e7,h⟩:=d6 h;obtain rfl:=i7 h;exact l8 [] 15 [.reg [],.reg [(6,i6 (g9 [0] (R4 y2) (S5 t) (R3 y2))),(16,i6 (g9 [0] (R4 y5) (S5 t) (R3 y5))),(20,hC (b2U y8))]]
  (Z0 (q2 (q4 (j4 0 1 rfl) (j4 0 3 rfl) (q8 (m_ 3 3 rfl (a_ (a_ (a_ (T6 t a y2 e1 (f8 [0]) i1) (a_ (l0 (.row 3 1 (λ_=>n8 t) false)) tr)) tr) (a_ (a_ (a_ (e_ 5) g3) tr) (b4 (a_ (a_ (d8 4 5 rfl) tr) (b4 (b5 (a_ (a_ (a_ (j4 0 1 rfl) (j4 0 3 rfl)) tr) (b4 (m_ 3 3 rfl (a_ (a_ (a_ (T6 t b y5 e4 (f8 [0]) i1) (a_ (l0 (.row 3 1 (λ_=>n8 t) false)) tr)) tr) (a_ (a_ (a_ (e_ 5) g6) tr) (b4 (a_ (a_ (d8 4 5 rfl) tr) (a_ (a_ (a_ (c3t (t.f_L.getD y2.toNat default).n5 (t.f_L.getD y5.toNat default).n5 y8 e7) tr) tr) (b5 tr))))))))))))))))))))
def a4q(r:Bool):LV:=.bool r
def a4p(r:Bool):i9:=[]
def a7K(t:f7):List LO:=[.row 3 1 (λ_=>n8 t) false]
end
end Go.Proofs.YtddgjfclpknkcaaGreatDoor.Wk
