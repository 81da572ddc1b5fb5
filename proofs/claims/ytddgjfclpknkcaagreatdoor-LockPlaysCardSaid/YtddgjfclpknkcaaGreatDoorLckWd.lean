import Derived.Test.YtddgjfclpknkcaaGreatDoorLckWc
namespace Go.Proofs.YtddgjfclpknkcaaGreatDoor.Wk
open Go Go.Cn Go.RowKit
set_option maxRecDepth 100000
set_option maxHeartbeats 4000000
set_option linter.unusedVariables false
set_option linter.unusedSimpArgs false
noncomputable section
variable (w0:World)(W:Nat->Prop)(μ0:d5)
def a1A(t:f7)(x_w:b8):Nat->Int->Option Bool
 |0,_=>none
 |fuel+1,i2=>
  if decide (i2<(t.f0.length:Int)) then
   if 0<=i2/\i2<(t.f0.length:Int) then
   if decide ((t.f0.getD i2.toNat default).j8=x_w.j8) then
    (a2V (t.f0.getD i2.toNat default) x_w).bind λy5=>
    if !y5 then
     (a1C t (t.f0.getD i2.toNat default).b7 x_w.b7).bind λy8=>
     if y8 then
      some false
     else
      a1A t x_w fuel (IntKind.wrap .i64 (i2+1))
    else
     a1A t x_w fuel (IntKind.wrap .i64 (i2+1))
   else
    a1A t x_w fuel (IntKind.wrap .i64 (i2+1))
   else none
  else
   some true
def a1z(t:f7)(x_w:b8):Nat->Int->Option Bool
 |0,_=>none
 |fuel+1,i=>
  if decide (i<(t.d9.length:Int)) then
   if 0<=i/\i<(t.d9.length:Int) then
   if decide ((t.d9.getD i.toNat default).j8=x_w.j8) then
    (a2V (t.d9.getD i.toNat default) x_w).bind λy5=>
    if !y5 then
     some false
    else
     a1z t x_w fuel (IntKind.wrap .i64 (i+1))
   else
    a1z t x_w fuel (IntKind.wrap .i64 (i+1))
   else none
  else
   a1A t x_w big 0
def a52(t:f7)(x_w:b8):Option Bool:=
 a1z t x_w big 0
abbrev c4u(t:f7)(x_w:b8)(i2:Int)(r:Bool):Prop:=p3 w0 W μ0 Tryz.f95 1 1 (a4q r) (a4p r) (z6 (o9 Tryz.f95) 1) ((.ptr 0 0 0):: .any:: .any::(.ptr 1 0 0):: .any:: .any::(.int .i64 i2)::n_ 68 []) [some (.row 3 1 (λ_=>n8 t) false),some (.var (o4 x_w))]
abbrev c4t(t:f7)(x_w:b8)(i:Int)(r:Bool):Prop:=p3 w0 W μ0 Tryz.f95 1 1 (a4q r) (a4p r) (z6 (o9 Tryz.f95) 0) ((.ptr 0 0 0):: .any:: .any::(.ptr 1 0 0):: .any::(.int .i64 i)::n_ 69 []) [some (.row 3 1 (λ_=>n8 t) false),some (.var (o4 x_w))]
theorem c4w{w0 W μ0}(hμ:p4 μ0 1)(t:f7)(x_w:b8):∀(fuel:Nat) (i2:Int) (r:Bool),a1A t x_w fuel i2=some r->c4u w0 W μ0 t x_w i2 r:=by
 intro fuel
 induction fuel with
 |zero=>intro i2 r h;rw[a1A] at h;cases h
 |succ fuel ih=>
  intro i2 r h;rw[a1A] at h;rcases i5 h with⟨C1,h⟩|⟨C1,h⟩
  ·obtain⟨G2,h⟩:=j6 h
   rcases i5 h with⟨C3,h⟩|⟨C3,h⟩
   ·obtain⟨y5,E4,h⟩:=d6 h
    rcases i5 h with⟨C6,h⟩|⟨C6,h⟩
    ·obtain⟨y8,E7,h⟩:=d6 h
     rcases i5 h with⟨C9,h⟩|⟨C9,h⟩
     ·obtain rfl:=i7 h
      exact l8 [] 28 [.go,.reg [(6,hT)],.reg [],.reg [(4,j5 (.bool (decide ((t.f0.getD i2.toNat default).j8=x_w.j8)))),(5,hT),(8,hC (a0p y5)),(11,hT),(17,i6 (g9 [0] (a0T y8) (a0R t) (a0S y8))),(18,hT)],.reg []]
       (q3 (E0 (J1 (j4 0 1 rfl) (j4 2 3 rfl) (f_ C1 tr)) (O9 (j4 0 1 rfl) (j4 2 3 rfl) (e_ 12) G2 (K1 (d8 12 12 rfl) (e_ 12) (d8 12 12 rfl) (e_ 0))) (q8 (m_ 11 12 rfl (b4 (m_ 11 12 rfl (a_ (a_ tr (a_ (v6 ((J3 .u8) (t.f0.getD i2.toNat default).j8 x_w.j8)) tr)) (f_ C3 (m_ 12 12 rfl (m_ 12 12 rfl (a_ (a_ (a_ (a1F (t.f0.getD i2.toNat default) x_w y5 E4) tr) tr) (b5 (f_ C6 (b5 (m_ 3 12 rfl (b4 (m_ 3 12 rfl (a_ (a_ (a_ (a1D t (t.f0.getD i2.toNat default).b7 x_w.b7 y8 E7 (f8 [0]) i1) (a_ (l0 (.row 3 1 (λ_=>n8 t) false)) tr)) tr) (f_ C9 tr))))))))))))))))) (q8 tr)))
     ·exact n3 hμ [1] 29 [.go,.reg [(6,hT)],.reg [],.reg [(4,j5 (.bool (decide ((t.f0.getD i2.toNat default).j8=x_w.j8)))),(5,hT),(8,hC (a0p y5)),(11,hT),(17,i6 (g9 [0] (a0T y8) (a0R t) (a0S y8))),(18,hF)],.reg []]
       (R6 (J1 (j4 0 1 rfl) (j4 2 3 rfl) (f_ C1 tr)) (O9 (j4 0 1 rfl) (j4 2 3 rfl) (e_ 12) G2 (K1 (d8 12 12 rfl) (e_ 12) (d8 12 12 rfl) (e_ 0))) (q8 (m_ 11 12 rfl (b4 (m_ 11 12 rfl (a_ (a_ tr (a_ (v6 ((J3 .u8) (t.f0.getD i2.toNat default).j8 x_w.j8)) tr)) (f_ C3 (m_ 12 12 rfl (m_ 12 12 rfl (a_ (a_ (a_ (a1F (t.f0.getD i2.toNat default) x_w y5 E4) tr) tr) (b5 (f_ C6 (b5 (m_ 3 12 rfl (b4 (m_ 3 12 rfl (a_ (a_ (a_ (a1D t (t.f0.getD i2.toNat default).b7 x_w.b7 y8 E7 (f8 [0]) i1) (a_ (l0 (.row 3 1 (λ_=>n8 t) false)) tr)) tr) (f_ C9 tr)))))))))))))))))) (ih _ r h) ⟨λ_ _=>rfl,rfl,tr⟩
    ·exact n3 hμ [1] 29 [.go,.reg [(6,hT)],.reg [],.reg [(4,j5 (.bool (decide ((t.f0.getD i2.toNat default).j8=x_w.j8)))),(5,hT),(8,hC (a0p y5)),(11,hF)],.reg []]
      (R6 (J1 (j4 0 1 rfl) (j4 2 3 rfl) (f_ C1 tr)) (O9 (j4 0 1 rfl) (j4 2 3 rfl) (e_ 12) G2 (K1 (d8 12 12 rfl) (e_ 12) (d8 12 12 rfl) (e_ 0))) (q8 (m_ 11 12 rfl (b4 (m_ 11 12 rfl (a_ (a_ tr (a_ (v6 ((J3 .u8) (t.f0.getD i2.toNat default).j8 x_w.j8)) tr)) (f_ C3 (m_ 12 12 rfl (m_ 12 12 rfl (a_ (a_ (a_ (a1F (t.f0.getD i2.toNat default) x_w y5 E4) tr) tr) (b5 (f_ C6 (u5 (z8 (b4 tr))))))))))))))) (ih _ r h) ⟨λ_ _=>rfl,rfl,tr⟩
   ·exact n3 hμ [1] 29 [.go,.reg [(6,hT)],.reg [],.reg [(4,j5 (.bool (decide ((t.f0.getD i2.toNat default).j8=x_w.j8)))),(5,hF)],.reg []]
     (R6 (J1 (j4 0 1 rfl) (j4 2 3 rfl) (f_ C1 tr)) (O9 (j4 0 1 rfl) (j4 2 3 rfl) (e_ 12) G2 (K1 (d8 12 12 rfl) (e_ 12) (d8 12 12 rfl) (e_ 0))) (q8 (m_ 11 12 rfl (b4 (m_ 11 12 rfl (a_ (a_ tr (a_ (v6 ((J3 .u8) (t.f0.getD i2.toNat default).j8 x_w.j8)) tr)) (f_ C3 (z8 (b5 (u5 (z8 (b4 tr)))))))))))) (ih _ r h) ⟨λ_ _=>rfl,rfl,tr⟩
  ·obtain rfl:=i7 h
   exact l8 [] 19 [.go,.reg [(6,hF)],.reg []]
    (F8 (J1 (j4 0 1 rfl) (j4 2 3 rfl) (f_ C1 tr)) (q8 tr))
theorem c4v{w0 W μ0}(hμ:p4 μ0 1)(t:f7)(x_w:b8):∀(fuel:Nat) (i:Int) (r:Bool),a1z t x_w fuel i=some r->c4t w0 W μ0 t x_w i r:=by
 intro fuel
 induction fuel with
 |zero=>intro i r h;rw[a1z] at h;cases h
 |succ fuel ih=>
  intro i r h;rw[a1z] at h;rcases i5 h with⟨C1,h⟩|⟨C1,h⟩
  ·obtain⟨G2,h⟩:=j6 h
   rcases i5 h with⟨C3,h⟩|⟨C3,h⟩
   ·obtain⟨y5,E4,h⟩:=d6 h
    rcases i5 h with⟨C6,h⟩|⟨C6,h⟩
    ·obtain rfl:=i7 h
     exact l8 [] 25 [.go,.reg [(6,hT)],.reg [(10,j5 (.bool (decide ((t.d9.getD i.toNat default).j8=x_w.j8)))),(11,hT),(20,hC (a0p y5)),(22,hT)],.reg []]
      (q3 (P0 (J1 (j4 0 1 rfl) (j4 1 3 rfl) (f_ C1 tr)) (O9 (j4 0 1 rfl) (j4 1 3 rfl) (e_ 12) G2 (q8 (q9 (d8 8 9 rfl) (q8 (m_ 11 12 rfl (a_ (a_ tr (a_ (v6 ((J3 .u8) (t.d9.getD i.toNat default).j8 x_w.j8)) tr)) (f_ C3 (b4 (b5 (a_ (a_ (a_ (j4 0 1 rfl) (j4 1 3 rfl)) tr) (b4 (a_ (a_ (a_ (e_ 12) G2) tr) (a_ (a_ (d8 12 12 rfl) tr) (m_ 12 12 rfl (a_ (a_ (a_ (a1F (t.d9.getD i.toNat default) x_w y5 E4) tr) tr) (b4 (f_ C6 tr))))))))))))))))) tr))
    ·exact n3 hμ [1] 26 [.go,.reg [(6,hT)],.reg [(10,j5 (.bool (decide ((t.d9.getD i.toNat default).j8=x_w.j8)))),(11,hT),(20,hC (a0p y5)),(22,hF)],.reg []]
      (V2 (J1 (j4 0 1 rfl) (j4 1 3 rfl) (f_ C1 tr)) (O9 (j4 0 1 rfl) (j4 1 3 rfl) (e_ 12) G2 (q8 (q9 (d8 8 9 rfl) (q8 (m_ 11 12 rfl (a_ (a_ tr (a_ (v6 ((J3 .u8) (t.d9.getD i.toNat default).j8 x_w.j8)) tr)) (f_ C3 (b4 (b5 (a_ (a_ (a_ (j4 0 1 rfl) (j4 1 3 rfl)) tr) (b4 (a_ (a_ (a_ (e_ 12) G2) tr) (a_ (a_ (d8 12 12 rfl) tr) (m_ 12 12 rfl (a_ (a_ (a_ (a1F (t.d9.getD i.toNat default) x_w y5 E4) tr) tr) (b4 (f_ C6 tr)))))))))))))))))) (ih _ r h) ⟨λ_ _=>rfl,rfl,tr⟩
   ·exact n3 hμ [1] 26 [.go,.reg [(6,hT)],.reg [(10,j5 (.bool (decide ((t.d9.getD i.toNat default).j8=x_w.j8)))),(11,hF)],.reg []]
     (V2 (J1 (j4 0 1 rfl) (j4 1 3 rfl) (f_ C1 tr)) (O9 (j4 0 1 rfl) (j4 1 3 rfl) (e_ 12) G2 (q8 (q9 (d8 8 9 rfl) (q8 (m_ 11 12 rfl (a_ (a_ tr (a_ (v6 ((J3 .u8) (t.d9.getD i.toNat default).j8 x_w.j8)) tr)) (f_ C3 (u5 (B3 (b4 tr))))))))))) (ih _ r h) ⟨λ_ _=>rfl,rfl,tr⟩
  ·exact n3 hμ [1] 22 [.go,.reg [(6,hF)],.reg []]
    (T7 (J1 (j4 0 1 rfl) (j4 1 3 rfl) (f_ C1 tr))) (c4w hμ t x_w big _ r h) ⟨λ_ _=>rfl,rfl,tr⟩
theorem a9K(t:f7)(x_w:b8)(r:Bool)(h:a52 t x_w=some r):∀σ,p8 1 σ->j9 Tryz.prog 95 (n7 σ [.ptr 0 0 0,P5 x_w]) (p5 σ 0 (a7K t)) ((a4q r).ren σ) (p6 σ (a4p r)):=by
 refine u7 Tryz.func95 ⟨λ_ _=>rfl,tr⟩ tr ?_;intro w0 W μ0 hμ;unfold a52 at h;exact n3 hμ [1] 18 [.reg [],.reg []]
  (T7 (b5 tr)) (c4v hμ t x_w big _ r h) ⟨λ_ _=>rfl,rfl,tr⟩
def a5E(r:Int):LV:=.int .i64 r
def a33(a b:A8 Int):Nat->Int->(List Int)->(List Int)->Option Int
 |0,_,_,_=>none
 |fuel+1,i,l,l2=>
  if decide (i<8) then
   if 0<=i/\i<8 then
   if(l.length+(([(IntKind.wrap .u32 (A8.get a i.toNat))]:List Int)).length) * 4<=140737488351232 then
   if(l2.length+(([(IntKind.wrap .u32 (A8.get b i.toNat))]:List Int)).length) * 4<=140737488351232 then
   a33 a b fuel (IntKind.wrap .i64 (i+1)) (l++([(IntKind.wrap .u32 (A8.get a i.toNat))]:List Int)) (l2++([(IntKind.wrap .u32 (A8.get b i.toNat))]:List Int))
   else none
   else none
   else none
  else
   (a2C l l2).bind λy3=>
   some y3
def a7p(a b:A8 Int):Option Int:=
 a33 a b big 0 ([]:List Int) ([]:List Int)
abbrev c3g(a b:A8 Int)(i:Int)(l l2:List Int)(r:Int):Prop:=p3 w0 W μ0 Tryz.f116 0 0 (a5E r) [] (z6 (o9 Tryz.f116) 0) (.any:: .any::(.ptr 0 0 0)::(.ptr 1 0 0):: .any::(.gs 2 l.length)::(.gs 3 l2.length)::(.int .i64 i)::n_ 21 []) [some (.var [.int .u8 a.a0,.int .u8 a.a1,.int .u8 a.a2,.int .u8 a.a3,.int .u8 a.a4,.int .u8 a.a5,.int .u8 a.a6,.int .u8 a.a7]),some (.var [.int .u8 b.a0,.int .u8 b.a1,.int .u8 b.a2,.int .u8 b.a3,.int .u8 b.a4,.int .u8 b.a5,.int .u8 b.a6,.int .u8 b.a7]),some (.gr 1 l.length (b6 (A4 .u32) default l)),some (.gr 1 l2.length (b6 (A4 .u32) default l2))]
theorem c3h{w0 W μ0}(hμ:p4 μ0 0)(a b:A8 Int):∀(fuel:Nat) (i:Int) (l l2:List Int) (r:Int),a33 a b fuel i l l2=some r->c3g w0 W μ0 a b i l l2 r:=by
 intro fuel
 induction fuel with
 |zero=>intro i l l2 r h;rw[a33] at h;cases h
 |succ fuel ih=>
  intro i l l2 r h;rw[a33] at h;rcases i5 h with⟨C1,h⟩|⟨C1,h⟩
  ·obtain⟨G2,h⟩:=j6 h
   obtain⟨G3,h⟩:=j6 h;obtain⟨G4,h⟩:=j6 h;exact n3 hμ [0,1,5,7] 26 [.go,.reg [(1,hT)],.reg [(3,j5 (.int .u8 (A8.get a i.toNat))),(5,{os:=[(4,.gr 1 (([(IntKind.wrap .u32 (A8.get a i.toNat))]:List Int)).length (b6 (A4 .u32) default ([(IntKind.wrap .u32 (A8.get a i.toNat))]:List Int)))],v:=some (.gs 4 (([(IntKind.wrap .u32 (A8.get a i.toNat))]:List Int)).length)}),(6,{app:=3,os:=[(5,.gr 1 ((l++([(IntKind.wrap .u32 (A8.get a i.toNat))]:List Int))).length (b6 (A4 .u32) default (l++([(IntKind.wrap .u32 (A8.get a i.toNat))]:List Int))))],v:=some (.gs 5 ((l++([(IntKind.wrap .u32 (A8.get a i.toNat))]:List Int))).length)})],.reg [(3,j5 (.int .u8 (A8.get b i.toNat))),(5,{os:=[(6,.gr 1 (([(IntKind.wrap .u32 (A8.get b i.toNat))]:List Int)).length (b6 (A4 .u32) default ([(IntKind.wrap .u32 (A8.get b i.toNat))]:List Int)))],v:=some (.gs 6 (([(IntKind.wrap .u32 (A8.get b i.toNat))]:List Int)).length)}),(6,{app:=3,os:=[(7,.gr 1 ((l2++([(IntKind.wrap .u32 (A8.get b i.toNat))]:List Int))).length (b6 (A4 .u32) default (l2++([(IntKind.wrap .u32 (A8.get b i.toNat))]:List Int))))],v:=some (.gs 7 ((l2++([(IntKind.wrap .u32 (A8.get b i.toNat))]:List Int))).length)})],.reg []]
    (B6 (q8 (f_ C1 tr)) (q9 G2 (q5 (a_ tr (a0f (len:=8) G2 0 1 8 rfl rfl)) (a0i (A4 .u8) 1 (λ_=>rfl) a [] [] 0 rfl i.toNat (a0j G2) (d8 (0+1) 1 rfl)) (q8 (a_ (q0 (q0 (e_ true) (e_ 1) (j4 0 1 rfl) (d8 1 16777216 rfl)) (L5 4 1 (some 1) rfl) (L6 (A4 .u32) default 1 (λ_=>rfl) ([(IntKind.wrap .u32 (A8.get a i.toNat))]:List Int)) tr) (a_ (q0 (q0 (a_ (e_ 1) (m8 (([(IntKind.wrap .u32 (A8.get a i.toNat))]:List Int)).length)) (q0 (j4 0 1 rfl) (j4 0 4 rfl) G3 (a_ (e_ 1) (e_ true))) (e_ 1) (m8 l.length)) (J6 5 l ([(IntKind.wrap .u32 (A8.get a i.toNat))]:List Int)) (J9 (A4 .u32) default 1 l ([(IntKind.wrap .u32 (A8.get a i.toNat))]:List Int)) tr) (q8 tr)))))) (b5 (q9 G2 (q5 (a_ tr (a0f (len:=8) G2 0 1 8 rfl rfl)) (a0i (A4 .u8) 1 (λ_=>rfl) b [] [] 0 rfl i.toNat (a0j G2) (d8 (0+1) 1 rfl)) (q8 (a_ (q0 (q0 (e_ true) (e_ 1) (j4 0 1 rfl) (d8 1 16777216 rfl)) (L5 6 1 (some 1) rfl) (L6 (A4 .u32) default 1 (λ_=>rfl) ([(IntKind.wrap .u32 (A8.get b i.toNat))]:List Int)) tr) (a_ (q0 (q0 (a_ (e_ 1) (m8 (([(IntKind.wrap .u32 (A8.get b i.toNat))]:List Int)).length)) (q0 (j4 0 1 rfl) (j4 0 4 rfl) G4 (a_ (e_ 1) (e_ true))) (e_ 1) (m8 l2.length)) (J6 7 l2 ([(IntKind.wrap .u32 (A8.get b i.toNat))]:List Int)) (J9 (A4 .u32) default 1 l2 ([(IntKind.wrap .u32 (A8.get b i.toNat))]:List Int)) tr) (q8 tr))))))) (I3 tr)) (ih _ _ _ r h) ⟨rfl,rfl,λ_ _=>rfl,λ_ _=>rfl,tr⟩
  ·obtain⟨y3,E2,h⟩:=d6 h
   obtain rfl:=i7 h;exact l8 [] 21 [.go,.reg [(1,hF)],.frz 2,.frz 3,.reg [(2,hC (a5J y3))]]
    (q3 (E0 (q8 (f_ C1 tr)) (q7 (J2 (enc:=(A4 .u32)) (d:=default) (λ_=>rfl) l) (m8 l.length)) (q7 (J2 (enc:=(A4 .u32)) (d:=default) (λ_=>rfl) l2) (m8 l2.length)) (b5 (c_ (b2W l l2 y3 E2) (b4 tr)))))
theorem c3i(a b:A8 Int)(r:Int)(h:a7p a b=some r):∀σ,p8 0 σ->j9 Tryz.prog 116 (n7 σ [.agg [.int .u8 a.a0,.int .u8 a.a1,.int .u8 a.a2,.int .u8 a.a3,.int .u8 a.a4,.int .u8 a.a5,.int .u8 a.a6,.int .u8 a.a7],.agg [.int .u8 b.a0,.int .u8 b.a1,.int .u8 b.a2,.int .u8 b.a3,.int .u8 b.a4,.int .u8 b.a5,.int .u8 b.a6,.int .u8 b.a7]]) (p5 σ 0 []) ((a5E r).ren σ) (p6 σ []):=by
 refine u7 Tryz.func116 tr tr ?_;intro w0 W μ0 hμ;unfold a7p at h;exact n3 hμ [0,1,2,3] 23 [.reg [],.void (.gr 1 (([]:List Int)).length (b6 (A4 .u32) default ([]:List Int))),.void (.gr 1 (([]:List Int)).length (b6 (A4 .u32) default ([]:List Int))),.reg [(0,j5 (.gs 2 (([]:List Int)).length)),(1,j5 (.gs 3 (([]:List Int)).length))],.reg []]
  (q0 (q2 tr) (e_ 0) (e_ 0) (q1 (q7 tr (q_ 2)) (D4 (q_ 3)) (q3 (q8 tr)))) (c3h hμ a b big _ _ _ r h) ⟨rfl,rfl,λ_ _=>rfl,λ_ _=>rfl,tr⟩
theorem b2T(a b:A8 Int)(r:Int)(h:a7p a b=some r):j9 Tryz.prog 116 [.agg [.int .u8 a.a0,.int .u8 a.a1,.int .u8 a.a2,.int .u8 a.a3,.int .u8 a.a4,.int .u8 a.a5,.int .u8 a.a6,.int .u8 a.a7],.agg [.int .u8 b.a0,.int .u8 b.a1,.int .u8 b.a2,.int .u8 b.a3,.int .u8 b.a4,.int .u8 b.a5,.int .u8 b.a6,.int .u8 b.a7]] [] (a5E r) []:=j9.none (c3i a b r h) rfl rfl
def b28(r:Bool):LV:=.bool r
def b27(r:Bool):i9:=[]
def b26(t:f7):List LO:=[.row 3 1 (λ_=>n8 t) false]
def a51(t:f7)(a b:b8):Option Bool:=
 (a7p a.j8 b.j8).bind λy2=>
 if decide (y2<0) then
  some true
 else
  if y2==0 then
   (a1C t a.b7 b.b7).bind λy6=>
   some y6
  else
   some false
theorem b7z(t:f7)(a b:b8)(r:Bool)(h:a51 t a b=some r):∀σ,p8 1 σ->j9 Tryz.prog 96 (n7 σ [.ptr 0 0 0,P5 a,P5 b]) (p5 σ 0 (b26 t)) ((b28 r).ren σ) (p6 σ (b27 r)):=by
 refine u7 Tryz.func96 ⟨λ_ _=>rfl,tr⟩ tr ?_;intro w0 W μ0 hμ;unfold a51 at h;obtain⟨y2,e1,h⟩:=d6 h;rcases i5 h with⟨c3,h⟩|⟨c3,h⟩
 ·obtain rfl:=i7 h
  exact l8 [] 18 [.reg [],.reg [(4,hC (a5E y2))],.reg [(2,hT)]]
   (q3 (K8 (m_ 11 12 rfl (b4 (m_ 11 12 rfl (c_ (b2T a.j8 b.j8 y2 e1) (b4 tr))))) (b5 (f_ c3 (u5 (B3 (b5 tr))))) tr))
 ·rcases i5 h with⟨c4,h⟩|⟨c4,h⟩
  ·obtain⟨y6,e5,h⟩:=d6 h
   obtain rfl:=i7 h;exact l8 [] 18 [.reg [],.reg [(4,hC (a5E y2))],.reg [(2,hF),(5,hT),(11,i6 (g9 [0] (a0T y6) (a0R t) (a0S y6)))]]
    (q3 (K8 (m_ 11 12 rfl (b4 (m_ 11 12 rfl (c_ (b2T a.j8 b.j8 y2 e1) (b4 tr))))) (b5 (f_ c3 (b5 (f_ c4 (b5 (m_ 3 12 rfl (b4 (m_ 3 12 rfl (a_ (a_ (a_ (a1D t a.b7 b.b7 y6 e5 (f8 [0]) i1) (a_ (l0 (.row 3 1 (λ_=>n8 t) false)) tr)) tr) (b4 (b5 tr))))))))))) tr))
  ·obtain rfl:=i7 h
   exact l8 [] 18 [.reg [],.reg [(4,hC (a5E y2))],.reg [(2,hF),(5,hF)]]
    (q3 (K8 (m_ 11 12 rfl (b4 (m_ 11 12 rfl (c_ (b2T a.j8 b.j8 y2 e1) (b4 tr))))) (b5 (f_ c3 (b5 (f_ c4 (u5 (z8 (b4 (b5 tr)))))))) tr))
def Y5(r:Int):LV:=.int .u8 r
def Y4(r:Int):i9:=[]
def s_(t:f7):List LO:=[.row 3 1 (λ_=>n8 t) false]
def a2J(t:f7)(x:TX)(x_k:A8 Int):Nat->Int->Option Int
 |0,_=>none
 |fuel+1,i=>
  if decide (i<(t.d9.length:Int)) then
   if 0<=i/\i<(t.d9.length:Int) then
   if decide ((t.d9.getD i.toNat default).b7=x) then
    if decide ((t.d9.getD i.toNat default).j8=x_k) then
     some (t.d9.getD i.toNat default).v8
    else
     a2J t x x_k fuel (IntKind.wrap .i64 (i+1))
   else
    a2J t x x_k fuel (IntKind.wrap .i64 (i+1))
   else none
  else
   some 0
def a0n(t:f7)(x:TX)(x_k:A8 Int):Option Int:=
 a2J t x x_k big 0
abbrev c32(t:f7)(x:TX)(x_k:A8 Int)(i:Int)(r:Int):Prop:=p3 w0 W μ0 Tryz.f30 1 1 (Y5 r) (Y4 r) (z6 (o9 Tryz.f30) 0) ((.ptr 0 0 0):: .any:: .any:: .any::(.ptr 1 0 0)::(.ptr 2 0 0):: .any::(.int .i64 i)::n_ 39 []) [some (.row 3 1 (λ_=>n8 t) false),some (.var (f5 x)),some (.var [.int .u8 x_k.a0,.int .u8 x_k.a1,.int .u8 x_k.a2,.int .u8 x_k.a3,.int .u8 x_k.a4,.int .u8 x_k.a5,.int .u8 x_k.a6,.int .u8 x_k.a7])]
theorem c33{w0 W μ0}(hμ:p4 μ0 1)(t:f7)(x:TX)(x_k:A8 Int):∀(fuel:Nat) (i:Int) (r:Int),a2J t x x_k fuel i=some r->c32 w0 W μ0 t x x_k i r:=by
 intro fuel
 induction fuel with
 |zero=>intro i r h;rw[a2J] at h;cases h
 |succ fuel ih=>
  intro i r h;rw[a2J] at h;rcases i5 h with⟨C1,h⟩|⟨C1,h⟩
  ·obtain⟨G2,h⟩:=j6 h
   rcases i5 h with⟨C3,h⟩|⟨C3,h⟩
   ·rcases i5 h with⟨C4,h⟩|⟨C4,h⟩
    ·obtain rfl:=i7 h
     exact l8 [] 25 [.go,.reg [(6,hT)],.reg [(9,j5 (.bool (decide ((t.d9.getD i.toNat default).b7=x)))),(10,hT),(20,j5 (.bool (decide ((t.d9.getD i.toNat default).j8=x_k)))),(21,hT)],.reg []]
      (q3 (q0 (J1 (j4 0 1 rfl) (j4 1 3 rfl) (f_ C1 tr)) (O9 (j4 0 1 rfl) (j4 1 3 rfl) (e_ 12) G2 (q8 (q9 (d8 3 12 rfl) (m_ 3 3 rfl (a_ (a_ tr (a_ (v6 (t6 (t.d9.getD i.toNat default).b7 x)) tr)) (f_ C3 (b4 (b5 (a_ (a_ (a_ (j4 0 1 rfl) (j4 1 3 rfl)) tr) (b4 (a_ (a_ (a_ (e_ 12) G2) tr) (b4 (a_ (a_ (d8 8 9 rfl) tr) (m_ 8 8 rfl (a_ (a_ tr (a_ (v6 ((J3 .u8) (t.d9.getD i.toNat default).j8 x_k)) tr)) (f_ C4 tr)))))))))))))))) (O9 (j4 0 1 rfl) (j4 1 3 rfl) (e_ 12) G2 (q8 (I2 (j4 0 1 rfl)))) tr))
    ·exact n3 hμ [1,2] 26 [.go,.reg [(6,hT)],.reg [(9,j5 (.bool (decide ((t.d9.getD i.toNat default).b7=x)))),(10,hT),(20,j5 (.bool (decide ((t.d9.getD i.toNat default).j8=x_k)))),(21,hF)],.reg []]
      (V2 (J1 (j4 0 1 rfl) (j4 1 3 rfl) (f_ C1 tr)) (O9 (j4 0 1 rfl) (j4 1 3 rfl) (e_ 12) G2 (q8 (q9 (d8 3 12 rfl) (m_ 3 3 rfl (a_ (a_ tr (a_ (v6 (t6 (t.d9.getD i.toNat default).b7 x)) tr)) (f_ C3 (b4 (b5 (a_ (a_ (a_ (j4 0 1 rfl) (j4 1 3 rfl)) tr) (b4 (a_ (a_ (a_ (e_ 12) G2) tr) (b4 (a_ (a_ (d8 8 9 rfl) tr) (m_ 8 8 rfl (a_ (a_ tr (a_ (v6 ((J3 .u8) (t.d9.getD i.toNat default).j8 x_k)) tr)) (f_ C4 tr))))))))))))))))) (ih _ r h) ⟨λ_ _=>rfl,rfl,rfl,tr⟩
   ·exact n3 hμ [1,2] 26 [.go,.reg [(6,hT)],.reg [(9,j5 (.bool (decide ((t.d9.getD i.toNat default).b7=x)))),(10,hF)],.reg []]
     (V2 (J1 (j4 0 1 rfl) (j4 1 3 rfl) (f_ C1 tr)) (O9 (j4 0 1 rfl) (j4 1 3 rfl) (e_ 12) G2 (q8 (q9 (d8 3 12 rfl) (m_ 3 3 rfl (a_ (a_ tr (a_ (v6 (t6 (t.d9.getD i.toNat default).b7 x)) tr)) (f_ C3 (u5 (B3 (b4 tr)))))))))) (ih _ r h) ⟨λ_ _=>rfl,rfl,rfl,tr⟩
  ·obtain rfl:=i7 h
   exact l8 [] 19 [.go,.reg [(6,hF)],.reg []]
    (F8 (J1 (j4 0 1 rfl) (j4 1 3 rfl) (f_ C1 tr)) (q8 tr))
theorem C_(t:f7)(x:TX)(x_k:A8 Int)(r:Int)(h:a0n t x x_k=some r):∀σ,p8 1 σ->j9 Tryz.prog 30 (n7 σ [.ptr 0 0 0,i8 x,.agg [.int .u8 x_k.a0,.int .u8 x_k.a1,.int .u8 x_k.a2,.int .u8 x_k.a3,.int .u8 x_k.a4,.int .u8 x_k.a5,.int .u8 x_k.a6,.int .u8 x_k.a7]]) (p5 σ 0 (s_ t)) ((Y5 r).ren σ) (p6 σ (Y4 r)):=by
 refine u7 Tryz.func30 ⟨λ_ _=>rfl,tr⟩ tr ?_;intro w0 W μ0 hμ;unfold a0n at h;exact n3 hμ [1,2] 18 [.reg [],.reg []]
  (T7 (q2 tr)) (c33 hμ t x x_k big _ r h) ⟨λ_ _=>rfl,rfl,rfl,tr⟩
def a9M(r:(List m0)×(List b8)×(List b8)):LV:=.tup []
def a9L(r:(List m0)×(List b8)×(List b8)):i9:=[(0,some (.var [.ds 5 r.1.length (b6 B5 default r.1),.gs 1 r.2.2.length,.ds 12 r.2.1.length (b6 o4 default r.2.1)])),(1,some (.gr 12 r.2.2.length (b6 o4 default r.2.2)))]
def b3c(t:f7):List LO:=[.var (n8 t)]
def a1B(t:f7)(g:b8):Nat->Int->(List b8)->Option ((List m0)×(List b8)×(List b8))
 |0,_,_=>none
 |fuel+1,i,l=>
  if decide (i<(t.d9.length:Int)) then
   if 0<=i/\i<(t.d9.length:Int) then
   if !decide ((t.d9.getD i.toNat default).b7=g.b7) then
    if(l.length+(([(t.d9.getD i.toNat default)]:List b8)).length) * 24<=140737488351232 then
    a1B t g fuel (IntKind.wrap .i64 (i+1)) (l++([(t.d9.getD i.toNat default)]:List b8))
    else none
   else
    if !decide ((t.d9.getD i.toNat default).j8=g.j8) then
     if(l.length+(([(t.d9.getD i.toNat default)]:List b8)).length) * 24<=140737488351232 then
     a1B t g fuel (IntKind.wrap .i64 (i+1)) (l++([(t.d9.getD i.toNat default)]:List b8))
     else none
    else
     a1B t g fuel (IntKind.wrap .i64 (i+1)) l
   else none
  else
   if(l.length+(([g]:List b8)).length) * 24<=140737488351232 then
   some (t.f_L,t.f0,(l++([g]:List b8)))
   else none
def a7L(t:f7)(g:b8):Option ((List m0)×(List b8)×(List b8)):=
 a1B t g big 0 ([]:List b8)
abbrev c4x(t:f7)(g:b8)(i:Int)(l:List b8)(r:(List m0)×(List b8)×(List b8)):Prop:=p3 w0 W μ0 Tryz.f78 1 2 (a9M r) (a9L r) (z6 (o9 Tryz.f78) 0) ((.ptr 0 0 0):: .any:: .any::(.ptr 1 0 0)::(.gs 2 l.length)::(.int .i64 i)::n_ 50 []) [some (.var (n8 t)),some (.var (o4 g)),some (.gr 12 l.length (b6 o4 default l))]
theorem c4y{w0 W μ0}(hμ:p4 μ0 1)(t:f7)(g:b8):∀(fuel:Nat) (i:Int) (l:List b8) (r:(List m0)×(List b8)×(List b8)),a1B t g fuel i l=some r->c4x w0 W μ0 t g i l r:=by
 intro fuel
 induction fuel with
 |zero=>intro i l r h;rw[a1B] at h;cases h
 |succ fuel ih=>
  intro i l r h;rw[a1B] at h;rcases i5 h with⟨C1,h⟩|⟨C1,h⟩
  ·obtain⟨G2,h⟩:=j6 h
   rcases i5 h with⟨C3,h⟩|⟨C3,h⟩
   ·obtain⟨G4,h⟩:=j6 h
    exact n3 hμ [1,4] 27 [.go,.reg [(6,hT)],.reg [(10,j5 (.bool (!decide ((t.d9.getD i.toNat default).b7=g.b7)))),(11,hT)],.reg [(8,{os:=[(3,.gr 12 (([(t.d9.getD i.toNat default)]:List b8)).length (b6 o4 default ([(t.d9.getD i.toNat default)]:List b8)))],v:=some (.gs 3 (([(t.d9.getD i.toNat default)]:List b8)).length)}),(9,{app:=3,os:=[(4,.gr 12 ((l++([(t.d9.getD i.toNat default)]:List b8))).length (b6 o4 default (l++([(t.d9.getD i.toNat default)]:List b8))))],v:=some (.gs 4 ((l++([(t.d9.getD i.toNat default)]:List b8))).length)})],.reg []]
     (R6 (l9 (l_ 1 3 rfl (b4 (f_ C1 tr)))) (q2 (l_ 1 3 rfl (b4 (a_ (a_ (a_ (e_ 12) G2) tr) (b4 (a_ (a_ (d8 3 12 rfl) tr) (b4 (m_ 3 12 rfl (a_ (a_ tr (a_ (v6 (congrArg not (t6 (t.d9.getD i.toNat default).b7 g.b7))) tr)) (f_ C3 (a_ tr (u5 (B3 (b4 tr)))))))))))))) (l9 (l_ 1 3 rfl (b4 (a_ (a_ (a_ (e_ 12) G2) tr) (a_ (a_ (d8 12 12 rfl) tr) (a_ (a_ (a_ (e_ true) (a_ (e_ 12) (a_ (j4 0 12 rfl) (d8 12 16777216 rfl)))) (a_ (L5 3 1 (some 1) rfl) (a_ (L6 o4 default 12 (λ_=>rfl) ([(t.d9.getD i.toNat default)]:List b8)) tr))) (a_ (a_ (a_ (a_ (e_ 12) (m8 (([(t.d9.getD i.toNat default)]:List b8)).length)) (a_ (a_ (j4 0 12 rfl) (a_ (j4 0 24 rfl) (a_ G4 (a_ (e_ 12) (e_ true))))) (a_ (e_ 12) (m8 l.length)))) (a_ (J6 4 l ([(t.d9.getD i.toNat default)]:List b8)) (a_ (J9 o4 default 12 l ([(t.d9.getD i.toNat default)]:List b8)) tr))) (b4 tr))))))))) (ih _ _ r h) ⟨rfl,rfl,λ_ _=>rfl,tr⟩
   ·rcases i5 h with⟨C4,h⟩|⟨C4,h⟩
    ·obtain⟨G5,h⟩:=j6 h
     exact n3 hμ [1,4] 27 [.go,.reg [(6,hT)],.reg [(10,j5 (.bool (!decide ((t.d9.getD i.toNat default).b7=g.b7)))),(11,hF),(22,j5 (.bool (!decide ((t.d9.getD i.toNat default).j8=g.j8)))),(23,hT)],.reg [(8,{os:=[(3,.gr 12 (([(t.d9.getD i.toNat default)]:List b8)).length (b6 o4 default ([(t.d9.getD i.toNat default)]:List b8)))],v:=some (.gs 3 (([(t.d9.getD i.toNat default)]:List b8)).length)}),(9,{app:=3,os:=[(4,.gr 12 ((l++([(t.d9.getD i.toNat default)]:List b8))).length (b6 o4 default (l++([(t.d9.getD i.toNat default)]:List b8))))],v:=some (.gs 4 ((l++([(t.d9.getD i.toNat default)]:List b8))).length)})],.reg []]
      (R6 (l9 (l_ 1 3 rfl (b4 (f_ C1 tr)))) (q2 (l_ 1 3 rfl (b4 (a_ (a_ (a_ (e_ 12) G2) tr) (b4 (a_ (a_ (d8 3 12 rfl) tr) (b4 (m_ 3 12 rfl (a_ (a_ tr (a_ (v6 (congrArg not (t6 (t.d9.getD i.toNat default).b7 g.b7))) tr)) (f_ C3 (b4 (b5 (l_ 1 3 rfl (b4 (a_ (a_ (a_ (e_ 12) G2) tr) (b4 (a_ (a_ (d8 8 9 rfl) tr) (b4 (m_ 11 12 rfl (a_ (a_ tr (a_ (v6 (congrArg not ((J3 .u8) (t.d9.getD i.toNat default).j8 g.j8))) tr)) (f_ C4 tr))))))))))))))))))))) (l9 (l_ 1 3 rfl (b4 (a_ (a_ (a_ (e_ 12) G2) tr) (a_ (a_ (d8 12 12 rfl) tr) (a_ (a_ (a_ (e_ true) (a_ (e_ 12) (a_ (j4 0 12 rfl) (d8 12 16777216 rfl)))) (a_ (L5 3 1 (some 1) rfl) (a_ (L6 o4 default 12 (λ_=>rfl) ([(t.d9.getD i.toNat default)]:List b8)) tr))) (a_ (a_ (a_ (a_ (e_ 12) (m8 (([(t.d9.getD i.toNat default)]:List b8)).length)) (a_ (a_ (j4 0 12 rfl) (a_ (j4 0 24 rfl) (a_ G5 (a_ (e_ 12) (e_ true))))) (a_ (e_ 12) (m8 l.length)))) (a_ (J6 4 l ([(t.d9.getD i.toNat default)]:List b8)) (a_ (J9 o4 default 12 l ([(t.d9.getD i.toNat default)]:List b8)) tr))) (b4 tr))))))))) (ih _ _ r h) ⟨rfl,rfl,λ_ _=>rfl,tr⟩
    ·exact n3 hμ [1,2] 26 [.go,.reg [(6,hT)],.reg [(10,j5 (.bool (!decide ((t.d9.getD i.toNat default).b7=g.b7)))),(11,hF),(22,j5 (.bool (!decide ((t.d9.getD i.toNat default).j8=g.j8)))),(23,hF)],.reg []]
      (V2 (l9 (l_ 1 3 rfl (b4 (f_ C1 tr)))) (q2 (l_ 1 3 rfl (b4 (a_ (a_ (a_ (e_ 12) G2) tr) (b4 (a_ (a_ (d8 3 12 rfl) tr) (b4 (m_ 3 12 rfl (a_ (a_ tr (a_ (v6 (congrArg not (t6 (t.d9.getD i.toNat default).b7 g.b7))) tr)) (f_ C3 (b4 (b5 (l_ 1 3 rfl (b4 (a_ (a_ (a_ (e_ 12) G2) tr) (b4 (a_ (a_ (d8 8 9 rfl) tr) (b4 (m_ 11 12 rfl (a_ (a_ tr (a_ (v6 (congrArg not ((J3 .u8) (t.d9.getD i.toNat default).j8 g.j8))) tr)) (f_ C4 tr)))))))))))))))))))))) (ih _ _ r h) ⟨rfl,rfl,λ_ _=>rfl,tr⟩
  ·obtain⟨G2,h⟩:=j6 h
   obtain rfl:=i7 h;exact l8 [4] 18 [.go,.reg [(6,hF)],.reg [(3,{os:=[(3,.gr 12 (([g]:List b8)).length (b6 o4 default ([g]:List b8)))],v:=some (.gs 3 (([g]:List b8)).length)}),(4,{app:=3,os:=[(4,.gr 12 ((l++([g]:List b8))).length (b6 o4 default (l++([g]:List b8))))],v:=some (.gs 4 ((l++([g]:List b8))).length)})]]
    (F8 (l9 (l_ 1 3 rfl (b4 (f_ C1 tr)))) (b5 (m_ 12 12 rfl (a_ (a_ (a_ (e_ true) (a_ (e_ 12) (a_ (j4 0 12 rfl) (d8 12 16777216 rfl)))) (a_ (L5 3 1 (some 1) rfl) (a_ (L6 o4 default 12 (λ_=>rfl) ([g]:List b8)) tr))) (a_ (a_ (a_ (a_ (e_ 12) (m8 (([g]:List b8)).length)) (a_ (a_ (j4 0 12 rfl) (a_ (j4 0 24 rfl) (a_ G2 (a_ (e_ 12) (e_ true))))) (a_ (e_ 12) (m8 l.length)))) (a_ (J6 4 l ([g]:List b8)) (a_ (J9 o4 default 12 l ([g]:List b8)) tr))) (b5 (a_ (a_ (a_ (e_ 1) (a_ (d8 2 3 rfl) (e_ 0))) tr) tr)))))))
theorem b7B(t:f7)(g:b8)(r:(List m0)×(List b8)×(List b8))(h:a7L t g=some r):∀σ,p8 2 σ->j9 Tryz.prog 78 (n7 σ [.ptr 0 0 0,P5 g]) (p5 σ 0 (b3c t)) ((a9M r).ren σ) (p6 σ (a9L r)):=by
 refine u7 Tryz.func78 ⟨rfl,tr⟩ ⟨rfl,λ_ _=>rfl,tr⟩ ?_;intro w0 W μ0 hμ;unfold a7L at h;exact n3 hμ [1,2] 22 [.reg [],.void (.gr 12 (([]:List b8)).length (b6 o4 default ([]:List b8))),.reg [(0,j5 (.gs 2 (([]:List b8)).length))],.reg []]
  (E0 (q8 tr) (e_ 0) (D4 (q_ 2)) (q8 tr)) (c4y hμ t g big _ _ r h) ⟨rfl,rfl,λ_ _=>rfl,tr⟩
def a56(r:(List b8)×(List m0)×(List b8)×(List b8)):LV:=.ds 12 r.1.length (b6 o4 default r.1)
def a54(r:(List b8)×(List m0)×(List b8)×(List b8)):i9:=[(0,some (.var (n8 (f7.mk r.2.1 r.2.2.1 r.2.2.2))))]
def a9N(t:f7):List LO:=[.var (n8 t)]
def W_(t:f7)(L:List m0)(Held Waits l:List b8)(k0:(List m0)->(List b8)->(List b8)->(List b8)->Option ((List b8)×(List m0)×(List b8)×(List b8))):Nat->Int->Int->Option ((List b8)×(List m0)×(List b8)×(List b8))
 |0,_,_=>none
 |fuel+1,best,i=>
  if decide (i<(Waits.length:Int)) then
   if 0<=i/\i<(Waits.length:Int) then
   (a52 (f7.mk L Held Waits) (Waits.getD i.toNat default)).bind λy4=>
   if y4 then
    if decide (best<0) then
     W_ t L Held Waits l k0 fuel i (IntKind.wrap .i64 (i+1))
    else
     if 0<=best/\best<(Waits.length:Int) then
     (a51 (f7.mk L Held Waits) (Waits.getD i.toNat default) (Waits.getD best.toNat default)).bind λy9=>
     if y9 then
      W_ t L Held Waits l k0 fuel i (IntKind.wrap .i64 (i+1))
     else
      W_ t L Held Waits l k0 fuel best (IntKind.wrap .i64 (i+1))
     else none
   else
    W_ t L Held Waits l k0 fuel best (IntKind.wrap .i64 (i+1))
   else none
  else
   if decide (best<0) then
    some (l,L,Held,Waits)
   else
    if 0<=best/\best<(Waits.length:Int) then
    if 0<=(0:Int)/\0<=best/\best<=(Waits.length:Int) then
    if(0+((Waits.take best.toNat)).length) * 24<=140737488351232 then
    if 0<=(IntKind.wrap .i64 (best+1))/\(IntKind.wrap .i64 (best+1))<=(Waits.length:Int)/\(Waits.length:Int)<=(Waits.length:Int) then
    if(((Waits.take best.toNat)).length+((Waits.drop ((IntKind.wrap .i64 (best+1))).toNat)).length) * 24<=140737488351232 then
    (a0n (f7.mk L Held ((Waits.take best.toNat)++(Waits.drop ((IntKind.wrap .i64 (best+1))).toNat))) (Waits.getD best.toNat default).b7 (Waits.getD best.toNat default).j8).bind λy10=>
    (some (if y10>(Waits.getD best.toNat default).v8 then y10 else(Waits.getD best.toNat default).v8)).bind λy11=>
    (some (b8.mk (Waits.getD best.toNat default).b7 (Waits.getD best.toNat default).j8 y11)).bind λy13=>
    (a7L (f7.mk L Held ((Waits.take best.toNat)++(Waits.drop ((IntKind.wrap .i64 (best+1))).toNat))) y13).bind λy16=>
    if(l.length+(([y13]:List b8)).length) * 24<=140737488351232 then
    k0 y16.1 y16.2.2 y16.2.1 (l++([y13]:List b8))
    else none
    else none
    else none
    else none
    else none
    else none
def V_(t:f7):Nat->(List m0)->(List b8)->(List b8)->(List b8)->Option ((List b8)×(List m0)×(List b8)×(List b8))
 |0,_,_,_,_=>none
 |fuel+1,L,Held,Waits,l=>
  W_ t L Held Waits l (V_ t fuel) big (-1) 0
def a1E(t:f7):Option ((List b8)×(List m0)×(List b8)×(List b8)):=
 V_ t big t.f_L t.d9 t.f0 ([]:List b8)
abbrev c4z(L:List m0)(Held Waits l:List b8)(best i:Int)(r:(List b8)×(List m0)×(List b8)×(List b8)):Prop:=p3 w0 W μ0 Tryz.f73 1 1 (a56 r) (a54 r) (z6 (o9 Tryz.f73) 1) ((.ptr 0 0 0):: .any:: .any::(.gs 1 l.length)::(.int .i64 best)::(.int .i64 i)::n_ 87 []) [some (.var (n8 (f7.mk L Held Waits))),some (.gr 12 l.length (b6 o4 default l))]
abbrev b7C(L:List m0)(Held Waits l:List b8)(r:(List b8)×(List m0)×(List b8)×(List b8)):Prop:=p3 w0 W μ0 Tryz.f73 1 1 (a56 r) (a54 r) (z6 (o9 Tryz.f73) 0) ((.ptr 0 0 0):: .any:: .any::(.gs 1 l.length)::n_ 89 []) [some (.var (n8 (f7.mk L Held Waits))),some (.gr 12 l.length (b6 o4 default l))]
theorem c4B{w0 W μ0}(hμ:p4 μ0 1)(t:f7)(L:List m0)(Held Waits l:List b8)(k0:(List m0)->(List b8)->(List b8)->(List b8)->Option ((List b8)×(List m0)×(List b8)×(List b8)))(hk0:∀(L:List m0) (Held Waits l:List b8) (r:(List b8)×(List m0)×(List b8)×(List b8)),k0 L Held Waits l=some r->b7C w0 W μ0 L Held Waits l r):∀(fuel:Nat) (best i:Int) (r:(List b8)×(List m0)×(List b8)×(List b8)),W_ t L Held Waits l k0 fuel best i=some r->c4z w0 W μ0 L Held Waits l best i r:=by
 intro fuel
 induction fuel with
 |zero=>intro best i r h;rw[W_] at h;cases h
 |succ fuel ih=>
  intro best i r h;rw[W_] at h;rcases i5 h with⟨C1,h⟩|⟨C1,h⟩
  ·obtain⟨G2,h⟩:=j6 h
   obtain⟨y4,E3,h⟩:=d6 h;rcases i5 h with⟨C5,h⟩|⟨C5,h⟩
   ·rcases i5 h with⟨C6,h⟩|⟨C6,h⟩
    ·exact n3 hμ [1] 27 [.go,.reg [(6,hT)],.reg [(8,i6 (g9 [0] (a4q y4) (a7K (f7.mk L Held Waits)) (a4p y4))),(9,hT),(12,hT)],.reg [],.reg []]
      (R6 (l9 (l_ 2 3 rfl (b4 (f_ C1 tr)))) (l9 (l_ 2 3 rfl (b4 (a_ (a_ (a_ (e_ 12) G2) tr) (a_ (a_ (d8 12 12 rfl) tr) (a_ (a_ (a_ (a9K (f7.mk L Held Waits) (Waits.getD i.toNat default) y4 E3 (f8 [0]) i1) (a_ (LO.Le.ofVar (n8 (f7.mk L Held Waits))) tr)) tr) (f_ C5 (b5 (f_ C6 (B3 (B3 (b5 tr)))))))))))) (b5 tr)) (ih _ _ r h) ⟨rfl,λ_ _=>rfl,tr⟩
    ·obtain⟨G7,h⟩:=j6 h
     obtain⟨y9,E8,h⟩:=d6 h;rcases i5 h with⟨C10,h⟩|⟨C10,h⟩
     ·exact n3 hμ [1] 27 [.go,.reg [(6,hT)],.reg [(8,i6 (g9 [0] (a4q y4) (a7K (f7.mk L Held Waits)) (a4p y4))),(9,hT),(12,hF),(28,i6 (g9 [0] (b28 y9) (b26 (f7.mk L Held Waits)) (b27 y9))),(30,hT)],.reg [],.reg []]
       (R6 (l9 (l_ 2 3 rfl (b4 (f_ C1 tr)))) (l9 (l_ 2 3 rfl (b4 (a_ (a_ (a_ (e_ 12) G2) tr) (a_ (a_ (d8 12 12 rfl) tr) (a_ (a_ (a_ (a9K (f7.mk L Held Waits) (Waits.getD i.toNat default) y4 E3 (f8 [0]) i1) (a_ (LO.Le.ofVar (n8 (f7.mk L Held Waits))) tr)) tr) (f_ C5 (b5 (f_ C6 (l9 (l_ 2 3 rfl (b4 (a_ (a_ (a_ (e_ 12) G2) tr) (a_ (a_ (d8 12 12 rfl) tr) (b4 (b5 (l_ 2 3 rfl (b4 (a_ (a_ (a_ (e_ 12) G7) tr) (a_ (a_ (d8 12 12 rfl) tr) (a_ (a_ (a_ (b7z (f7.mk L Held Waits) (Waits.getD i.toNat default) (Waits.getD best.toNat default) y9 E8 (f8 [0]) i1) (a_ (LO.Le.ofVar (n8 (f7.mk L Held Waits))) tr)) tr) (b4 (f_ C10 tr))))))))))))))))))))))) (b5 tr)) (ih _ _ r h) ⟨rfl,λ_ _=>rfl,tr⟩
     ·exact n3 hμ [1] 26 [.go,.reg [(6,hT)],.reg [(8,i6 (g9 [0] (a4q y4) (a7K (f7.mk L Held Waits)) (a4p y4))),(9,hT),(12,hF),(28,i6 (g9 [0] (b28 y9) (b26 (f7.mk L Held Waits)) (b27 y9))),(30,hF)],.reg []]
       (V2 (l9 (l_ 2 3 rfl (b4 (f_ C1 tr)))) (l9 (l_ 2 3 rfl (b4 (a_ (a_ (a_ (e_ 12) G2) tr) (a_ (a_ (d8 12 12 rfl) tr) (a_ (a_ (a_ (a9K (f7.mk L Held Waits) (Waits.getD i.toNat default) y4 E3 (f8 [0]) i1) (a_ (LO.Le.ofVar (n8 (f7.mk L Held Waits))) tr)) tr) (f_ C5 (b5 (f_ C6 (l9 (l_ 2 3 rfl (b4 (a_ (a_ (a_ (e_ 12) G2) tr) (a_ (a_ (d8 12 12 rfl) tr) (b4 (b5 (l_ 2 3 rfl (b4 (a_ (a_ (a_ (e_ 12) G7) tr) (a_ (a_ (d8 12 12 rfl) tr) (a_ (a_ (a_ (b7z (f7.mk L Held Waits) (Waits.getD i.toNat default) (Waits.getD best.toNat default) y9 E8 (f8 [0]) i1) (a_ (LO.Le.ofVar (n8 (f7.mk L Held Waits))) tr)) tr) (b4 (f_ C10 tr)))))))))))))))))))))))) (ih _ _ r h) ⟨rfl,λ_ _=>rfl,tr⟩
   ·exact n3 hμ [1] 26 [.go,.reg [(6,hT)],.reg [(8,i6 (g9 [0] (a4q y4) (a7K (f7.mk L Held Waits)) (a4p y4))),(9,hF)],.reg []]
     (V2 (l9 (l_ 2 3 rfl (b4 (f_ C1 tr)))) (l9 (l_ 2 3 rfl (b4 (a_ (a_ (a_ (e_ 12) G2) tr) (a_ (a_ (d8 12 12 rfl) tr) (a_ (a_ (a_ (a9K (f7.mk L Held Waits) (Waits.getD i.toNat default) y4 E3 (f8 [0]) i1) (a_ (LO.Le.ofVar (n8 (f7.mk L Held Waits))) tr)) tr) (f_ C5 (z8 (B3 (B3 (b4 tr)))))))))))) (ih _ _ r h) ⟨rfl,λ_ _=>rfl,tr⟩
  ·rcases i5 h with⟨C2,h⟩|⟨C2,h⟩
   ·obtain rfl:=i7 h
    exact l8 [] 25 [.go,.reg [(6,hF)],.reg [(1,hT)],.reg [],.frz 1]
     (q3 (q6 (l9 (l_ 2 3 rfl (b4 (f_ C1 tr)))) (f_ C2 tr) (b5 tr) (q3 (E0 (J2 (enc:=o4) (d:=default) (λ_=>rfl) l) (m8 l.length) (m8 l.length) (m8 l.length)))))
   ·obtain⟨G3,h⟩:=j6 h
    obtain⟨G4,h⟩:=j6 h;obtain⟨G5,h⟩:=j6 h;obtain⟨G6,h⟩:=j6 h;obtain⟨G7,h⟩:=j6 h;obtain⟨y10,E8,h⟩:=d6 h;obtain⟨y11,E12,h⟩:=d6 h;obtain⟨y13,E14,h⟩:=d6 h;obtain⟨y16,E15,h⟩:=d6 h;obtain⟨G17,h⟩:=j6 h;exact n3 hμ [7] 39 [.go,.reg [(6,hF)],.reg [(1,hF)],.reg [],.reg [(6,j5 (.ds 12 ((Waits.take best.toNat)).length (b6 o4 default (Waits.take best.toNat)))),(7,{app:=3}),(14,j5 (.ds 12 ((Waits.drop ((IntKind.wrap .i64 (best+1))).toNat)).length (b6 o4 default (Waits.drop ((IntKind.wrap .i64 (best+1))).toNat)))),(15,{app:=3,os:=[(4,.gr 12 (((Waits.take best.toNat)++(Waits.drop ((IntKind.wrap .i64 (best+1))).toNat))).length (b6 o4 default ((Waits.take best.toNat)++(Waits.drop ((IntKind.wrap .i64 (best+1))).toNat))))],v:=some (.gs 4 (((Waits.take best.toNat)++(Waits.drop ((IntKind.wrap .i64 (best+1))).toNat))).length)})],.frz 4,.reg [(7,i6 (g9 [0] (Y5 y10) (s_ (f7.mk L Held ((Waits.take best.toNat)++(Waits.drop ((IntKind.wrap .i64 (best+1))).toNat)))) (Y4 y10))),(8,j5 (.int .u8 y11))],.reg [(1,j5 (P5 y13)),(2,i6 (g9 [0,5] (a9M y16) (b3c (f7.mk L Held ((Waits.take best.toNat)++(Waits.drop ((IntKind.wrap .i64 (best+1))).toNat)))) (a9L y16)))],.reg [(1,j5 (P5 y13)),(2,{os:=[(6,.gr 12 (([y13]:List b8)).length (b6 o4 default ([y13]:List b8)))],v:=some (.gs 6 (([y13]:List b8)).length)}),(3,{app:=3,os:=[(7,.gr 12 ((l++([y13]:List b8))).length (b6 o4 default (l++([y13]:List b8))))],v:=some (.gs 7 ((l++([y13]:List b8))).length)})],.frz 5]
     (q6 (l9 (l_ 2 3 rfl (b4 (f_ C1 tr)))) (f_ C2 tr) (q2 (l_ 2 3 rfl (b4 (a_ (a_ (a_ (e_ 12) G3) tr) (a_ (a_ (d8 12 12 rfl) tr) (b4 (a_ (a_ (a_ (e_ 12) (a_ (d8 12 12 rfl) (e_ 0))) tr) tr))))))) (q0 (l9 (l_ 2 3 rfl (b4 (a_ (a_ (a_ (e_ 12) G4) (a_ (a1n o4 default 12 Waits best.toNat (S7 G4.2.2)) tr)) (a_ (a_ (a_ (e_ 12) (a_ (j4 0 12 rfl) (a_ (j4 0 24 rfl) (a_ G5 (a_ (e_ 12) (e_ true)))))) tr) (b4 (b5 (l_ 2 3 rfl (b5 (a_ (a_ (a_ (e_ 12) G6) (a_ (a2p o4 default 12 Waits ((IntKind.wrap .i64 (best+1))).toNat (S7 G6.2.1)) tr)) (a_ (a_ (a_ (e_ 12) (a_ (a_ (j4 0 12 rfl) (a_ (j4 0 24 rfl) (a_ G7 (a_ (e_ 12) (e_ true))))) (a_ (e_ 12) (m8 ((Waits.take best.toNat)).length)))) (a_ (J6 4 (Waits.take best.toNat) (Waits.drop ((IntKind.wrap .i64 (best+1))).toNat)) (a_ (J9 o4 default 12 (Waits.take best.toNat) (Waits.drop ((IntKind.wrap .i64 (best+1))).toNat)) tr))) (b5 (a_ (a_ (a_ (e_ 1) (a_ (d8 3 3 rfl) (e_ 0))) tr) tr))))))))))))) (q0 (J2 (enc:=o4) (d:=default) (λ_=>rfl) ((Waits.take best.toNat)++(Waits.drop ((IntKind.wrap .i64 (best+1))).toNat))) (m8 (((Waits.take best.toNat)++(Waits.drop ((IntKind.wrap .i64 (best+1))).toNat))).length) (m8 (((Waits.take best.toNat)++(Waits.drop ((IntKind.wrap .i64 (best+1))).toNat))).length) tr) (q8 (l_ 11 12 rfl (b5 (m_ 3 12 rfl (b4 (m_ 11 12 rfl (a_ (a_ (a_ (C_ (f7.mk L Held ((Waits.take best.toNat)++(Waits.drop ((IntKind.wrap .i64 (best+1))).toNat))) (Waits.getD best.toNat default).b7 (Waits.getD best.toNat default).j8 y10 E8 (f8 [0]) i1) (a_ (LO.Le.ofVar (n8 (f7.mk L Held ((Waits.take best.toNat)++(Waits.drop ((IntKind.wrap .i64 (best+1))).toNat))))) tr)) tr) (a_ (a_ tr (a_ (n0 (LV.int .u8) E12) tr)) (b4 (a_ (a_ (a_ (e_ 1) (a_ (d8 12 12 rfl) (e_ 0))) tr) tr)))))))))) (N6 (q5 (a_ tr (d8 12 12 rfl)) (n0 P5 E14) (q4 (b7B (f7.mk L Held ((Waits.take best.toNat)++(Waits.drop ((IntKind.wrap .i64 (best+1))).toNat))) y13 y16 E15 (f8 [0,5]) i1) (q3 (l0 (.var (n8 (f7.mk L Held ((Waits.take best.toNat)++(Waits.drop ((IntKind.wrap .i64 (best+1))).toNat))))))) tr)) (q0 (q1 tr (d8 12 12 rfl) (q3 (n0 P5 E14))) (q0 (q0 (e_ true) (e_ 12) (j4 0 12 rfl) (d8 12 16777216 rfl)) (L5 6 1 (some 1) rfl) (L6 o4 default 12 (λ_=>rfl) ([y13]:List b8)) tr) (q0 (q0 (a_ (e_ 12) (m8 (([y13]:List b8)).length)) (q0 (j4 0 12 rfl) (j4 0 24 rfl) G17 (a_ (e_ 12) (e_ true))) (e_ 12) (m8 l.length)) (J6 7 l ([y13]:List b8)) (J9 o4 default 12 l ([y13]:List b8)) tr) (q8 tr)) (q7 (J2 (enc:=o4) (d:=default) (λ_=>rfl) y16.2.2) (m8 y16.2.2.length))))) (hk0 _ _ _ _ r h) ⟨rfl,λ_ _=>rfl,tr⟩
theorem c4A{w0 W μ0}(hμ:p4 μ0 1)(t:f7):∀(fuel:Nat) (L:List m0) (Held Waits l:List b8) (r:(List b8)×(List m0)×(List b8)×(List b8)),V_ t fuel L Held Waits l=some r->b7C w0 W μ0 L Held Waits l r:=by
 intro fuel
 induction fuel with
 |zero=>intro L Held Waits l r h;rw[V_] at h;cases h
 |succ fuel ih=>
  intro L Held Waits l r h;rw[V_] at h;exact n3 hμ [1] 20 [.go,.reg [],.reg []]
   (T7 (q8 tr)) (c4B hμ t L Held Waits l (V_ t fuel) ih big _ _ r h) ⟨rfl,λ_ _=>rfl,tr⟩
theorem b3d(t:f7)(r:(List b8)×(List m0)×(List b8)×(List b8))(h:a1E t=some r):∀σ,p8 1 σ->j9 Tryz.prog 73 (n7 σ [.ptr 0 0 0]) (p5 σ 0 (a9N t)) ((a56 r).ren σ) (p6 σ (a54 r)):=by
 refine u7 Tryz.func73 ⟨rfl,tr⟩ ⟨rfl,tr⟩ ?_;intro w0 W μ0 hμ;unfold a1E at h;exact n3 hμ [1] 18 [.reg [(0,j5 (.ds 12 (([]:List b8)).length (b6 o4 default ([]:List b8))))],.void (.gr 12 (([]:List b8)).length (b6 o4 default ([]:List b8))),.reg [(0,j5 (.gs 1 (([]:List b8)).length))]]
  (q0 (D4 (A6 12 (b6 o4 default []))) (e_ 0) (D4 (q_ 1)) tr) (c4A hμ t big _ _ _ _ r h) ⟨rfl,λ_ _=>rfl,tr⟩
def a7D(r:w8×Int×(List m0)×(List b8)×(List b8)):LV:=.tup [a1Y r.1,.int .i64 r.2.1]
def a7C(r:w8×Int×(List m0)×(List b8)×(List b8)):i9:=[(0,some (.var (n8 (f7.mk r.2.2.1 r.2.2.2.1 r.2.2.2.2))))]
def b7s(t:f7):List LO:=[.var (n8 t)]
def b23(t:f7)(x:TX):Option (w8×Int×(List m0)×(List b8)×(List b8)):=
 some ((w8.mk ([]:List TX) ([]:List b8)),11,t.f_L,t.d9,t.f0)
def a0P(t:f7)(x:TX)(yC6_3:List m0):Nat->Int->(List b8)->Option (w8×Int×(List m0)×(List b8)×(List b8))
 |0,_,_=>none
 |fuel+1,j,l=>
  if decide (j<(t.d9.length:Int)) then
   if 0<=j/\j<(t.d9.length:Int) then
   if !decide ((t.d9.getD j.toNat default).b7=x) then
    if(l.length+(([(t.d9.getD j.toNat default)]:List b8)).length) * 24<=140737488351232 then
    a0P t x yC6_3 fuel (IntKind.wrap .i64 (j+1)) (l++([(t.d9.getD j.toNat default)]:List b8))
    else none
   else
    if(t.d9.getD j.toNat default).v8==2 then
     if(l.length+(([(t.d9.getD j.toNat default)]:List b8)).length) * 24<=140737488351232 then
     a0P t x yC6_3 fuel (IntKind.wrap .i64 (j+1)) (l++([(t.d9.getD j.toNat default)]:List b8))
     else none
    else
     a0P t x yC6_3 fuel (IntKind.wrap .i64 (j+1)) l
   else none
  else
   (a1E (f7.mk yC6_3 l t.f0)).bind λyL0_3=>
   some ((w8.mk ([]:List TX) yL0_3.1),0,yL0_3.2.1,yL0_3.2.2.1,yL0_3.2.2.2)
def a9G(t:f7)(x:TX)(y2:Int):Option (w8×Int×(List m0)×(List b8)×(List b8)):=
 if(0+t.f_L.length) * 20<=140737488351232 then
 if 0<=y2/\y2<(t.f_L.length:Int) then
 (some (t.f_L.set y2.toNat (m0.mk (t.f_L.getD y2.toNat default).n5 true))).bind λy3=>
 a0P t x y3 big 0 ([]:List b8)
 else none
 else none
def a7B(t:f7)(x:TX):Option (w8×Int×(List m0)×(List b8)×(List b8)):=
 (Y6 t x).bind λy2=>
 if decide (y2<0) then
  some ((w8.mk ([]:List TX) ([]:List b8)),6,t.f_L,t.d9,t.f0)
 else
  (a4k t x).bind λy5=>
  if y5 then
   b23 t x
  else
   a9G t x y2
abbrev c34(t:f7)(x:TX)(y3:List m0)(j:Int)(l:List b8)(r:w8×Int×(List m0)×(List b8)×(List b8)):Prop:=p3 w0 W μ0 Tryz.f47 1 1 (a7D r) (a7C r) (z6 (o9 Tryz.f47) 0) ((.ptr 0 0 0):: .any:: .any::(.ptr 1 0 0)::(.ptr 2 0 0):: .any:: .any:: .any::(.gs 3 l.length)::(.int .i64 j)::n_ 72 []) [some (.var [.gs 4 y3.length,.ds 12 t.d9.length (b6 o4 default t.d9),.ds 12 t.f0.length (b6 o4 default t.f0)]),some (.var (f5 x)),some (.var [.nilsl,.nilsl]),some (.gr 12 l.length (b6 o4 default l)),some (.gr 5 y3.length (b6 B5 default y3))]
theorem c35{w0 W μ0}(hμ:p4 μ0 1)(t:f7)(x:TX)(r:w8×Int×(List m0)×(List b8)×(List b8))(h:b23 t x=some r):p3 w0 W μ0 Tryz.f47 1 1 (a7D r) (a7C r) (z7 (o9 Tryz.f47) 5) (n_ 4 ((.ptr 1 0 0)::n_ 77 [])) [some (.var (n8 t)),some (.var [.nilsl,.nilsl])]:=by
 unfold b23 at h;obtain rfl:=i7 h;exact l8 [] 13 [.reg [],.wk [] [(1,.var [.ds 3 (([]:List TX)).length (b6 f5 default ([]:List TX)),.nilsl])],.wk [] [(1,.var (U2 (w8.mk ([]:List TX) ([]:List b8))))]]
  (F9 (W9 (R5 (e_ true) (e_ 2) (d8 2 2 rfl) (e_ 0)) (LO.Sub.var (a:=[.nilsl,.nilsl]) (b:=[.ds 3 (([]:List TX)).length (b6 f5 default ([]:List TX)),.nilsl]) (a_ (A6 3 (b6 f5 default [])) (a_ (LV.Le.refl (.nilsl)) tr))) (LO.Sub.var (a:=[.ds 3 (([]:List TX)).length (b6 f5 default ([]:List TX)),.nilsl]) (b:=[.ds 3 (([]:List TX)).length (b6 f5 default ([]:List TX)),.ds 12 (([]:List b8)).length (b6 o4 default ([]:List b8))]) (a_ (LV.Le.refl (.ds 3 (([]:List TX)).length (b6 f5 default ([]:List TX)))) (a_ (A6 12 (b6 o4 default [])) tr)))) (d8 2 2 rfl))
theorem c37{w0 W μ0}(hμ:p4 μ0 1)(t:f7)(x:TX)(yC6_3:List m0):∀(fuel:Nat) (j:Int) (l:List b8) (r:w8×Int×(List m0)×(List b8)×(List b8)),a0P t x yC6_3 fuel j l=some r->c34 w0 W μ0 t x yC6_3 j l r:=by
 intro fuel
 induction fuel with
 |zero=>intro j l r h;rw[a0P] at h;cases h
 |succ fuel ih=>
  intro j l r h;rw[a0P] at h;rcases i5 h with⟨C1,h⟩|⟨C1,h⟩
  ·obtain⟨G2,h⟩:=j6 h
   rcases i5 h with⟨C3,h⟩|⟨C3,h⟩
   ·obtain⟨G4,h⟩:=j6 h
    exact n3 hμ [1,2,6,4] 27 [.go,.reg [(6,hT)],.reg [(9,j5 (.bool (!decide ((t.d9.getD j.toNat default).b7=x)))),(10,hT)],.reg [(8,{os:=[(5,.gr 12 (([(t.d9.getD j.toNat default)]:List b8)).length (b6 o4 default ([(t.d9.getD j.toNat default)]:List b8)))],v:=some (.gs 5 (([(t.d9.getD j.toNat default)]:List b8)).length)}),(9,{app:=3,os:=[(6,.gr 12 ((l++([(t.d9.getD j.toNat default)]:List b8))).length (b6 o4 default (l++([(t.d9.getD j.toNat default)]:List b8))))],v:=some (.gs 6 ((l++([(t.d9.getD j.toNat default)]:List b8))).length)})],.reg []]
     (R6 (l9 (l_ 1 3 rfl (b4 (f_ C1 tr)))) (q2 (l_ 1 3 rfl (b4 (a_ (a_ (a_ (e_ 12) G2) tr) (b4 (a_ (a_ (d8 3 12 rfl) tr) (m_ 3 3 rfl (a_ (a_ tr (a_ (v6 (congrArg not (t6 (t.d9.getD j.toNat default).b7 x))) tr)) (f_ C3 (a_ tr (B3 (b4 tr)))))))))))) (l9 (l_ 1 3 rfl (b4 (a_ (a_ (a_ (e_ 12) G2) tr) (a_ (a_ (d8 12 12 rfl) tr) (a_ (a_ (a_ (e_ true) (a_ (e_ 12) (a_ (j4 0 12 rfl) (d8 12 16777216 rfl)))) (a_ (L5 5 1 (some 1) rfl) (a_ (L6 o4 default 12 (λ_=>rfl) ([(t.d9.getD j.toNat default)]:List b8)) tr))) (a_ (a_ (a_ (a_ (e_ 12) (m8 (([(t.d9.getD j.toNat default)]:List b8)).length)) (a_ (a_ (j4 0 12 rfl) (a_ (j4 0 24 rfl) (a_ G4 (a_ (e_ 12) (e_ true))))) (a_ (e_ 12) (m8 l.length)))) (a_ (J6 6 l ([(t.d9.getD j.toNat default)]:List b8)) (a_ (J9 o4 default 12 l ([(t.d9.getD j.toNat default)]:List b8)) tr))) (b4 tr))))))))) (ih _ _ r h) ⟨rfl,rfl,rfl,λ_ _=>rfl,λ_ _=>rfl,tr⟩
   ·rcases i5 h with⟨C4,h⟩|⟨C4,h⟩
    ·obtain⟨G5,h⟩:=j6 h
     exact n3 hμ [1,2,6,4] 27 [.go,.reg [(6,hT)],.reg [(9,j5 (.bool (!decide ((t.d9.getD j.toNat default).b7=x)))),(10,hF),(20,hT)],.reg [(8,{os:=[(5,.gr 12 (([(t.d9.getD j.toNat default)]:List b8)).length (b6 o4 default ([(t.d9.getD j.toNat default)]:List b8)))],v:=some (.gs 5 (([(t.d9.getD j.toNat default)]:List b8)).length)}),(9,{app:=3,os:=[(6,.gr 12 ((l++([(t.d9.getD j.toNat default)]:List b8))).length (b6 o4 default (l++([(t.d9.getD j.toNat default)]:List b8))))],v:=some (.gs 6 ((l++([(t.d9.getD j.toNat default)]:List b8))).length)})],.reg []]
      (R6 (l9 (l_ 1 3 rfl (b4 (f_ C1 tr)))) (q2 (l_ 1 3 rfl (b4 (a_ (a_ (a_ (e_ 12) G2) tr) (b4 (a_ (a_ (d8 3 12 rfl) tr) (m_ 3 3 rfl (a_ (a_ tr (a_ (v6 (congrArg not (t6 (t.d9.getD j.toNat default).b7 x))) tr)) (f_ C3 (b4 (b5 (l_ 1 3 rfl (b4 (a_ (a_ (a_ (e_ 12) G2) tr) (b4 (a_ (a_ (j4 0 1 rfl) tr) (b4 (f_ C4 tr)))))))))))))))))) (l9 (l_ 1 3 rfl (b4 (a_ (a_ (a_ (e_ 12) G2) tr) (a_ (a_ (d8 12 12 rfl) tr) (a_ (a_ (a_ (e_ true) (a_ (e_ 12) (a_ (j4 0 12 rfl) (d8 12 16777216 rfl)))) (a_ (L5 5 1 (some 1) rfl) (a_ (L6 o4 default 12 (λ_=>rfl) ([(t.d9.getD j.toNat default)]:List b8)) tr))) (a_ (a_ (a_ (a_ (e_ 12) (m8 (([(t.d9.getD j.toNat default)]:List b8)).length)) (a_ (a_ (j4 0 12 rfl) (a_ (j4 0 24 rfl) (a_ G5 (a_ (e_ 12) (e_ true))))) (a_ (e_ 12) (m8 l.length)))) (a_ (J6 6 l ([(t.d9.getD j.toNat default)]:List b8)) (a_ (J9 o4 default 12 l ([(t.d9.getD j.toNat default)]:List b8)) tr))) (b4 tr))))))))) (ih _ _ r h) ⟨rfl,rfl,rfl,λ_ _=>rfl,λ_ _=>rfl,tr⟩
    ·exact n3 hμ [1,2,3,4] 26 [.go,.reg [(6,hT)],.reg [(9,j5 (.bool (!decide ((t.d9.getD j.toNat default).b7=x)))),(10,hF),(20,hF)],.reg []]
      (V2 (l9 (l_ 1 3 rfl (b4 (f_ C1 tr)))) (q2 (l_ 1 3 rfl (b4 (a_ (a_ (a_ (e_ 12) G2) tr) (b4 (a_ (a_ (d8 3 12 rfl) tr) (m_ 3 3 rfl (a_ (a_ tr (a_ (v6 (congrArg not (t6 (t.d9.getD j.toNat default).b7 x))) tr)) (f_ C3 (b4 (b5 (l_ 1 3 rfl (b4 (a_ (a_ (a_ (e_ 12) G2) tr) (b4 (a_ (a_ (j4 0 1 rfl) tr) (b4 (f_ C4 tr))))))))))))))))))) (ih _ _ r h) ⟨rfl,rfl,rfl,λ_ _=>rfl,λ_ _=>rfl,tr⟩
  ·obtain⟨yL0_3,E2,h⟩:=d6 h
   obtain rfl:=i7 h;exact l8 [] 25 [.go,.reg [(6,hF)],.reg [],.frz 4,.frz 3,.reg [(1,i6 (g9 [0] (a56 yL0_3) (a9N (f7.mk yC6_3 l t.f0)) (a54 yL0_3)))],.wk [] [(2,.var (U2 (w8.mk ([]:List TX) yL0_3.1)))]]
    (F9 (q0 (l9 (l_ 1 3 rfl (b4 (f_ C1 tr)))) (V1 (e_ 1) (d8 2 3 rfl) (e_ 0)) (q7 (J2 (enc:=B5) (d:=default) (λ_=>rfl) yC6_3) (m8 yC6_3.length)) (q6 (E0 (J2 (enc:=o4) (d:=default) (λ_=>rfl) l) (m8 l.length) (m8 l.length) (m8 l.length)) (q0 (F8 (b3d (f7.mk yC6_3 l t.f0) yL0_3 E2 (f8 [0]) i1) (l0 (.var (n8 (f7.mk yC6_3 l t.f0))))) (q3 (e_ true)) (q1 (e_ 2) (a_ (d8 2 2 rfl) (e_ 0)) tr) (q8 tr)) (q7 tr (LO.Sub.var (a:=[.nilsl,.ds 12 yL0_3.1.length (b6 o4 default yL0_3.1)]) (b:=[.ds 3 (([]:List TX)).length (b6 f5 default ([]:List TX)),.ds 12 yL0_3.1.length (b6 o4 default yL0_3.1)]) (a_ (A6 3 (b6 f5 default [])) (a_ (LV.Le.refl (.ds 12 yL0_3.1.length (b6 o4 default yL0_3.1))) tr)))) tr)) (d8 2 2 rfl))
theorem c36{w0 W μ0}(hμ:p4 μ0 1)(t:f7)(x:TX)(y2:Int)(r:w8×Int×(List m0)×(List b8)×(List b8))(h:a9G t x y2=some r):p3 w0 W μ0 Tryz.f47 1 1 (a7D r) (a7C r) (z7 (o9 Tryz.f47) 6) ((.ptr 0 0 0):: .any:: .any::(.ptr 1 0 0)::(.ptr 2 0 0):: .any::(.int .i64 y2)::n_ 75 []) [some (.var (n8 t)),some (.var (f5 x)),some (.var [.nilsl,.nilsl])]:=by
 unfold a9G at h;obtain⟨G1,h⟩:=j6 h;obtain⟨G2,h⟩:=j6 h;obtain⟨y3,E4,h⟩:=d6 h;exact n3 hμ [1,2,4,3] 28 [.reg [(4,{app:=3})],.reg [(4,{os:=[(3,.gr 5 y3.length (b6 B5 default y3))]})],.reg [],.void (.gr 12 (([]:List b8)).length (b6 o4 default ([]:List b8))),.reg [(0,j5 (.gs 4 (([]:List b8)).length))],.reg [],.wk [] [(0,.var [.gs 3 y3.length,.ds 12 t.d9.length (b6 o4 default t.d9),.ds 12 t.f0.length (b6 o4 default t.f0)])]]
  (B6 (q2 (l_ 0 3 rfl (a_ (a_ (a_ (e_ 5) (a_ (j4 0 5 rfl) (a_ (j4 0 20 rfl) (a_ G1 (a_ (e_ 5) (e_ true)))))) tr) (b4 tr)))) (q4 (e_ 5) G2 (q8 (F8 (a_ (e_ 1) (a_ (d8 5 5 rfl) (D1 G2))) (LO.Sub.trans (D5 B5 default 5 t.f_L y2.toNat (m0.mk (t.f_L.getD y2.toNat default).n5 true) (D1 G2) (B2 (b6 B5 default t.f_L y2.toNat) 4 [.bool true]) (by kernel_rfl)) (LO.Sub.of_eq (a31 (λl_=> .gr 5 l_.length (b6 B5 default l_)) E4)))))) (V1 (e_ 1) (d8 1 3 rfl) (e_ 0)) (P0 (e_ 0) (D4 (q_ 4)) (D4 (LO.Sub.var (a:=[.gs 3 t.f_L.length,.ds 12 t.d9.length (b6 o4 default t.d9),.ds 12 t.f0.length (b6 o4 default t.f0)]) (b:=[.gs 3 y3.length,.ds 12 t.d9.length (b6 o4 default t.d9),.ds 12 t.f0.length (b6 o4 default t.f0)]) (a_ (A5 3 (show t.f_L.length=y3.length from by simp[<-i7 E4])) (a_ (LV.Le.refl (.ds 12 t.d9.length (b6 o4 default t.d9))) (a_ (LV.Le.refl (.ds 12 t.f0.length (b6 o4 default t.f0))) tr))))))) (c37 hμ t x y3 big _ _ r h) ⟨rfl,rfl,rfl,λ_ _=>rfl,λ_ _=>rfl,tr⟩
theorem c38(t:f7)(x:TX)(r:w8×Int×(List m0)×(List b8)×(List b8))(h:a7B t x=some r):∀σ,p8 1 σ->j9 Tryz.prog 47 (n7 σ [.ptr 0 0 0,i8 x]) (p5 σ 0 (b7s t)) ((a7D r).ren σ) (p6 σ (a7C r)):=by
 refine u7 Tryz.func47 ⟨rfl,tr⟩ ⟨rfl,tr⟩ ?_;intro w0 W μ0 hμ;unfold a7B at h;obtain⟨y2,e1,h⟩:=d6 h;rcases i5 h with⟨c3,h⟩|⟨c3,h⟩
 ·obtain rfl:=i7 h
  exact l8 [] 26 [.reg [],.reg [(2,i6 (g9 [0] (R4 y2) (S5 t) (R3 y2)))],.reg [(2,hT)],.reg [],.wk [] [(2,.var [.ds 3 (([]:List TX)).length (b6 f5 default ([]:List TX)),.nilsl])],.wk [] [(2,.var (U2 (w8.mk ([]:List TX) ([]:List b8))))]]
   (F9 (K8 (m_ 3 3 rfl (a_ (a_ (a_ (T6 t x y2 e1 (f8 [0]) i1) (a_ (LO.Le.ofVar (n8 t)) tr)) tr) (b4 tr))) (b5 (f_ c3 tr)) (W9 (R5 (e_ true) (e_ 2) (d8 2 2 rfl) (e_ 0)) (LO.Sub.var (a:=[.nilsl,.nilsl]) (b:=[.ds 3 (([]:List TX)).length (b6 f5 default ([]:List TX)),.nilsl]) (a_ (A6 3 (b6 f5 default [])) (a_ (LV.Le.refl (.nilsl)) tr))) (LO.Sub.var (a:=[.ds 3 (([]:List TX)).length (b6 f5 default ([]:List TX)),.nilsl]) (b:=[.ds 3 (([]:List TX)).length (b6 f5 default ([]:List TX)),.ds 12 (([]:List b8)).length (b6 o4 default ([]:List b8))]) (a_ (LV.Le.refl (.ds 3 (([]:List TX)).length (b6 f5 default ([]:List TX)))) (a_ (A6 12 (b6 o4 default [])) tr))))) (d8 2 2 rfl))
 ·obtain⟨y5,e4,h⟩:=d6 h
  rcases i5 h with⟨c6,h⟩|⟨c6,h⟩
  ·exact n3 hμ [2] 26 [.reg [],.reg [(2,i6 (g9 [0] (R4 y2) (S5 t) (R3 y2)))],.reg [(2,hF)],.reg [(2,i6 (g9 [0] (a5W y5) (a5U t) (a5V y5))),(3,hT)]]
    (K8 (m_ 3 3 rfl (a_ (a_ (a_ (T6 t x y2 e1 (f8 [0]) i1) (a_ (LO.Le.ofVar (n8 t)) tr)) tr) (b4 tr))) (b5 (f_ c3 tr)) (q3 (q8 (m_ 3 3 rfl (a_ (a_ (a_ (a7A t x y5 e4 (f8 [0]) i1) (a_ (LO.Le.ofVar (n8 t)) tr)) tr) (f_ c6 tr)))))) (c35 hμ t x r h) ⟨rfl,rfl,tr⟩
  ·exact n3 hμ [1,2] 28 [.reg [],.reg [(2,i6 (g9 [0] (R4 y2) (S5 t) (R3 y2)))],.reg [(2,hF)],.reg [(2,i6 (g9 [0] (a5W y5) (a5U t) (a5V y5))),(3,hF)]]
    (K8 (m_ 3 3 rfl (a_ (a_ (a_ (T6 t x y2 e1 (f8 [0]) i1) (a_ (LO.Le.ofVar (n8 t)) tr)) tr) (b4 tr))) (b5 (f_ c3 tr)) (q3 (q8 (m_ 3 3 rfl (a_ (a_ (a_ (a7A t x y5 e4 (f8 [0]) i1) (a_ (LO.Le.ofVar (n8 t)) tr)) tr) (f_ c6 tr)))))) (c36 hμ t x y2 r h) ⟨rfl,rfl,rfl,tr⟩
def b3b(r:(List b8)×(List b8)×(List m0)):LV:=.tup []
def b3a(r:(List b8)×(List b8)×(List m0)):i9:=[(0,some (.var [.gs 1 r.2.2.length,.ds 12 r.1.length (b6 o4 default r.1),.ds 12 r.2.1.length (b6 o4 default r.2.1)])),(1,some (.gr 5 r.2.2.length (b6 B5 default r.2.2)))]
def b29(t:f7):List LO:=[.var (n8 t)]
def a4r(t:f7)(x:TX):Option ((List b8)×(List b8)×(List m0)):=
 (Y6 t x).bind λy2=>
 if 0<=(0:Int)/\0<=y2/\y2<=(t.f_L.length:Int) then
 if(0+((t.f_L.take y2.toNat)).length) * 20<=140737488351232 then
 if 0<=(IntKind.wrap .i64 (y2+1))/\(IntKind.wrap .i64 (y2+1))<=(t.f_L.length:Int)/\(t.f_L.length:Int)<=(t.f_L.length:Int) then
 if(((t.f_L.take y2.toNat)).length+((t.f_L.drop ((IntKind.wrap .i64 (y2+1))).toNat)).length) * 20<=140737488351232 then
 (a4u t.d9 x).bind λy8=>
 (a4u t.f0 x).bind λy10=>
 some (y8,y10,((t.f_L.take y2.toNat)++(t.f_L.drop ((IntKind.wrap .i64 (y2+1))).toNat)))
 else none
 else none
 else none
 else none
theorem b7A(t:f7)(x:TX)(r:(List b8)×(List b8)×(List m0))(h:a4r t x=some r):∀σ,p8 2 σ->j9 Tryz.prog 74 (n7 σ [.ptr 0 0 0,i8 x]) (p5 σ 0 (b29 t)) ((b3b r).ren σ) (p6 σ (b3a r)):=by
 refine u7 Tryz.func74 ⟨rfl,tr⟩ ⟨rfl,λ_ _=>rfl,tr⟩ ?_;intro w0 W μ0 hμ;unfold a4r at h;obtain⟨y2,e1,h⟩:=d6 h;obtain⟨g3,h⟩:=j6 h;obtain⟨g4,h⟩:=j6 h;obtain⟨g5,h⟩:=j6 h;obtain⟨g6,h⟩:=j6 h;obtain⟨y8,e7,h⟩:=d6 h;obtain⟨y10,e9,h⟩:=d6 h;obtain rfl:=i7 h;exact l8 [3] 20 [.reg [],.reg [(2,i6 (g9 [0] (R4 y2) (S5 t) (R3 y2)))],.reg [(6,j5 (.ds 5 ((t.f_L.take y2.toNat)).length (b6 B5 default (t.f_L.take y2.toNat)))),(7,{app:=3}),(14,j5 (.ds 5 ((t.f_L.drop ((IntKind.wrap .i64 (y2+1))).toNat)).length (b6 B5 default (t.f_L.drop ((IntKind.wrap .i64 (y2+1))).toNat)))),(15,{app:=3,os:=[(3,.gr 5 (((t.f_L.take y2.toNat)++(t.f_L.drop ((IntKind.wrap .i64 (y2+1))).toNat))).length (b6 B5 default ((t.f_L.take y2.toNat)++(t.f_L.drop ((IntKind.wrap .i64 (y2+1))).toNat))))],v:=some (.gs 3 (((t.f_L.take y2.toNat)++(t.f_L.drop ((IntKind.wrap .i64 (y2+1))).toNat))).length)})],.reg [(7,hC (a57 y8)),(13,hC (a57 y10))]]
  (q3 (q6 (q8 tr) (m_ 3 3 rfl (a_ (a_ (a_ (T6 t x y2 e1 (f8 [0]) i1) (a_ (LO.Le.ofVar (n8 t)) tr)) tr) (b4 tr))) (l9 (l_ 0 3 rfl (b4 (a_ (a_ (a_ (e_ 5) g3) (a_ (a1n B5 default 5 t.f_L y2.toNat (S7 g3.2.2)) tr)) (a_ (a_ (a_ (e_ 5) (a_ (j4 0 5 rfl) (a_ (j4 0 20 rfl) (a_ g4 (a_ (e_ 5) (e_ true)))))) tr) (b4 (b5 (l_ 0 3 rfl (b5 (a_ (a_ (a_ (e_ 5) g5) (a_ (a2p B5 default 5 t.f_L ((IntKind.wrap .i64 (y2+1))).toNat (S7 g5.2.1)) tr)) (a_ (a_ (a_ (e_ 5) (a_ (a_ (j4 0 5 rfl) (a_ (j4 0 20 rfl) (a_ g6 (a_ (e_ 5) (e_ true))))) (a_ (e_ 5) (m8 ((t.f_L.take y2.toNat)).length)))) (a_ (J6 3 (t.f_L.take y2.toNat) (t.f_L.drop ((IntKind.wrap .i64 (y2+1))).toNat)) (a_ (J9 B5 default 5 (t.f_L.take y2.toNat) (t.f_L.drop ((IntKind.wrap .i64 (y2+1))).toNat)) tr))) (b5 (a_ (a_ (a_ (e_ 1) (a_ (d8 1 3 rfl) (e_ 0))) tr) tr))))))))))))) (q3 (N7 (l_ 1 3 rfl (m_ 3 3 rfl (c_ (b3g t.d9 x y8 e7) (b4 (b5 (l_ 2 3 rfl (m_ 3 3 rfl (c_ (b3g t.f0 x y10 e9) (b5 (a_ (a_ (a_ (e_ 1) (a_ (d8 2 3 rfl) (e_ 0))) tr) (b5 (a_ (a_ (a_ (e_ 1) (a_ (d8 3 3 rfl) (e_ 0))) tr) tr))))))))))))))))
def b7w(r:w8×Int×(List m0)×(List b8)×(List b8)):LV:=.tup [a1Y r.1,.int .i64 r.2.1]
def b7v(r:w8×Int×(List m0)×(List b8)×(List b8)):i9:=[(0,some (.var (n8 (f7.mk r.2.2.1 r.2.2.2.1 r.2.2.2.2))))]
def b7u(t:f7):List LO:=[.var (n8 t)]
def a7G(t:f7)(x:TX):Option (w8×Int×(List m0)×(List b8)×(List b8)):=
 (Y6 t x).bind λy2=>
 if decide (y2<0) then
  some ((w8.mk ([]:List TX) ([]:List b8)),6,t.f_L,t.d9,t.f0)
 else
  (a4r t x).bind λy5=>
  (a1E (f7.mk y5.2.2 y5.1 y5.2.1)).bind λy7=>
  some ((w8.mk ([]:List TX) y7.1),0,y7.2.1,y7.2.2.1,y7.2.2.2)
theorem c4c(t:f7)(x:TX)(r:w8×Int×(List m0)×(List b8)×(List b8))(h:a7G t x=some r):∀σ,p8 1 σ->j9 Tryz.prog 48 (n7 σ [.ptr 0 0 0,i8 x]) (p5 σ 0 (b7u t)) ((b7w r).ren σ) (p6 σ (b7v r)):=by
 refine u7 Tryz.func48 ⟨rfl,tr⟩ ⟨rfl,tr⟩ ?_;intro w0 W μ0 hμ;unfold a7G at h;obtain⟨y2,e1,h⟩:=d6 h;rcases i5 h with⟨c3,h⟩|⟨c3,h⟩
 ·obtain rfl:=i7 h
  exact l8 [] 22 [.reg [],.reg [(2,i6 (g9 [0] (R4 y2) (S5 t) (R3 y2))),(3,hT)],.reg [],.wk [] [(2,.var [.ds 3 (([]:List TX)).length (b6 f5 default ([]:List TX)),.nilsl])],.wk [] [(2,.var (U2 (w8.mk ([]:List TX) ([]:List b8))))]]
   (F9 (K8 (m_ 3 3 rfl (a_ (a_ (a_ (T6 t x y2 e1 (f8 [0]) i1) (a_ (LO.Le.ofVar (n8 t)) tr)) tr) (f_ c3 tr))) (R5 (e_ true) (e_ 2) (d8 2 2 rfl) (e_ 0)) (q5 tr (LO.Sub.var (a:=[.nilsl,.nilsl]) (b:=[.ds 3 (([]:List TX)).length (b6 f5 default ([]:List TX)),.nilsl]) (a_ (A6 3 (b6 f5 default [])) (a_ (LV.Le.refl (.nilsl)) tr))) (D4 (LO.Sub.var (a:=[.ds 3 (([]:List TX)).length (b6 f5 default ([]:List TX)),.nilsl]) (b:=[.ds 3 (([]:List TX)).length (b6 f5 default ([]:List TX)),.ds 12 (([]:List b8)).length (b6 o4 default ([]:List b8))]) (a_ (LV.Le.refl (.ds 3 (([]:List TX)).length (b6 f5 default ([]:List TX)))) (a_ (A6 12 (b6 o4 default [])) tr)))))) (d8 2 2 rfl))
 ·obtain⟨y5,e4,h⟩:=d6 h
  obtain⟨y7,e6,h⟩:=d6 h;obtain rfl:=i7 h;exact l8 [] 26 [.reg [],.reg [(2,i6 (g9 [0] (R4 y2) (S5 t) (R3 y2))),(3,hF)],.reg [(2,i6 (g9 [0,3] (b3b y5) (b29 t) (b3a y5)))],.frz 3,.reg [(1,i6 (g9 [0] (a56 y7) (a9N (f7.mk y5.2.2 y5.1 y5.2.1)) (a54 y7)))],.wk [] [(2,.var (U2 (w8.mk ([]:List TX) y7.1)))]]
   (F9 (K8 (m_ 3 3 rfl (a_ (a_ (a_ (T6 t x y2 e1 (f8 [0]) i1) (a_ (LO.Le.ofVar (n8 t)) tr)) tr) (f_ c3 tr))) (q8 (m_ 3 3 rfl (a_ (a_ (a_ (b7A t x y5 e4 (f8 [0,3]) i1) (a_ (l0 (.var (n8 t))) tr)) tr) tr))) (q6 (q7 (J2 (enc:=B5) (d:=default) (λ_=>rfl) y5.2.2) (m8 y5.2.2.length)) (q0 (F8 (b3d (f7.mk y5.2.2 y5.1 y5.2.1) y7 e6 (f8 [0]) i1) (l0 (.var (n8 (f7.mk y5.2.2 y5.1 y5.2.1))))) (q3 (e_ true)) (q1 (e_ 2) (a_ (d8 2 2 rfl) (e_ 0)) tr) (q8 tr)) (q7 tr (LO.Sub.var (a:=[.nilsl,.ds 12 y7.1.length (b6 o4 default y7.1)]) (b:=[.ds 3 (([]:List TX)).length (b6 f5 default ([]:List TX)),.ds 12 y7.1.length (b6 o4 default y7.1)]) (a_ (A6 3 (b6 f5 default [])) (a_ (LV.Le.refl (.ds 12 y7.1.length (b6 o4 default y7.1))) tr)))) tr)) (d8 2 2 rfl))
def a7s(r:Bool):LV:=.bool r
def a4a(x_n:Int):Option Bool:=
 if decide (1<=x_n) then
  some (decide (x_n<=2147483647))
 else
  some false
theorem c3w(x_n:Int)(r:Bool)(h:a4a x_n=some r):∀σ,p8 0 σ->j9 Tryz.prog 97 (n7 σ [.int .u32 x_n]) (p5 σ 0 []) ((a7s r).ren σ) (p6 σ []):=by
 refine u7 Tryz.func97 tr tr ?_;intro w0 W μ0 hμ;unfold a4a at h;rcases i5 h with⟨c1,h⟩|⟨c1,h⟩
 ·obtain rfl:=i7 h
  exact l8 [] 15 [.reg [],.reg [(2,hT)]]
   (Y9 (b5 (f_ c1 (l9 tr))))
 ·obtain rfl:=i7 h
  exact l8 [] 15 [.reg [],.reg [(2,hF)]]
   (Y9 (b5 (f_ c1 (u5 (b5 tr)))))
theorem b2V(x_n:Int)(r:Bool)(h:a4a x_n=some r):j9 Tryz.prog 97 [.int .u32 x_n] [] (a7s r) []:=j9.none (c3w x_n r h) rfl rfl
def a5H(r:Bool):LV:=.bool r
def a38(t:TX):Option Bool:=
 if decide (t.F3<8) then
  (a4a t.D6).bind λy3=>
  if y3 then
   (a4a t.F5).bind λy6=>
   some y6
  else
   some false
 else
  some false
theorem c3u(t:TX)(r:Bool)(h:a38 t=some r):∀σ,p8 0 σ->j9 Tryz.prog 75 (n7 σ [i8 t]) (p5 σ 0 []) ((a5H r).ren σ) (p6 σ []):=by
 refine u7 Tryz.func75 tr tr ?_;intro w0 W μ0 hμ;unfold a38 at h;rcases i5 h with⟨c1,h⟩|⟨c1,h⟩
 ·obtain⟨y3,e2,h⟩:=d6 h
  rcases i5 h with⟨c4,h⟩|⟨c4,h⟩
  ·obtain⟨y6,e5,h⟩:=d6 h
   obtain rfl:=i7 h;exact l8 [] 15 [.reg [],.reg [(3,hT),(6,hC (a7s y3)),(8,hT),(11,hC (a7s y6))]]
    (X0 (l_ 0 3 rfl (b4 (f_ c1 (b4 (l_ 1 3 rfl (c_ (b2V t.D6 y3 e2) (b4 (f_ c4 (b4 (l_ 2 3 rfl (c_ (b2V t.F5 y6 e5) (b5 tr)))))))))))))
  ·obtain rfl:=i7 h
   exact l8 [] 15 [.reg [],.reg [(3,hT),(6,hC (a7s y3)),(8,hF)]]
    (X0 (l_ 0 3 rfl (b4 (f_ c1 (b4 (l_ 1 3 rfl (c_ (b2V t.D6 y3 e2) (b4 (f_ c4 (a_ tr (u5 (b5 tr))))))))))))
 ·obtain rfl:=i7 h
  exact l8 [] 15 [.reg [],.reg [(3,hF)]]
   (X0 (l_ 0 3 rfl (b4 (f_ c1 (a_ tr (u5 (b5 (a_ tr (u5 (b5 tr))))))))))
theorem a9w(t:TX)(r:Bool)(h:a38 t=some r):j9 Tryz.prog 75 [i8 t] [] (a5H r) []:=j9.none (c3u t r h) rfl rfl
def a7q(r:(List UInt8)×Bool):LV:=.tup [.str r.1,.bool r.2]
def a1s(x_k:A8 Int)(x_n:Int):Nat->Int->Option ((List UInt8)×Bool)
 |0,_=>none
 |fuel+1,i=>
  if decide (i<8) then
   if 0<=i/\i<8 then
   if(A8.get x_k i.toNat) !=0 then
    some ([],false)
   else
    a1s x_k x_n fuel (IntKind.wrap .i64 (i+1))
   else none
  else
   if x_n==0 then
    some ([],false)
   else
    if 0<=(0:Int)/\0<=x_n/\x_n<=8 then
    some ((P3 (([x_k.a0,x_k.a1,x_k.a2,x_k.a3,x_k.a4,x_k.a5,x_k.a6,x_k.a7]:List Int).take x_n.toNat)),true)
    else none
def a35(x_k:A8 Int):Nat->Int->Option ((List UInt8)×Bool)
 |0,_=>none
 |fuel+1,x_n=>
  if decide (x_n<8) then
   if 0<=x_n/\x_n<8 then
   if(A8.get x_k x_n.toNat) !=0 then
    a35 x_k fuel (IntKind.wrap .i64 (x_n+1))
   else
    a1s x_k x_n big x_n
   else none
  else
   a1s x_k x_n big x_n
def a34(x_k:A8 Int):Option ((List UInt8)×Bool):=
 a35 x_k big 0
abbrev c3k(x_k:A8 Int)(x_n i:Int)(r:(List UInt8)×Bool):Prop:=p3 w0 W μ0 Tryz.f98 0 0 (a7q r) [] (z6 (o9 Tryz.f98) 1) (.any::(.ptr 0 0 0):: .any:: .any::(.int .i64 x_n)::(.int .i64 i)::n_ 24 []) [some (.var [.int .u8 x_k.a0,.int .u8 x_k.a1,.int .u8 x_k.a2,.int .u8 x_k.a3,.int .u8 x_k.a4,.int .u8 x_k.a5,.int .u8 x_k.a6,.int .u8 x_k.a7])]
abbrev c3j(x_k:A8 Int)(x_n:Int)(r:(List UInt8)×Bool):Prop:=p3 w0 W μ0 Tryz.f98 0 0 (a7q r) [] (z6 (o9 Tryz.f98) 0) (.any::(.ptr 0 0 0):: .any:: .any::(.int .i64 x_n)::n_ 25 []) [some (.var [.int .u8 x_k.a0,.int .u8 x_k.a1,.int .u8 x_k.a2,.int .u8 x_k.a3,.int .u8 x_k.a4,.int .u8 x_k.a5,.int .u8 x_k.a6,.int .u8 x_k.a7])]
theorem b7a{w0 W μ0}(hμ:p4 μ0 0)(x_k:A8 Int)(x_n:Int):∀(fuel:Nat) (i:Int) (r:(List UInt8)×Bool),a1s x_k x_n fuel i=some r->c3k w0 W μ0 x_k x_n i r:=by
 intro fuel
 induction fuel with
 |zero=>intro i r h;rw[a1s] at h;cases h
 |succ fuel ih=>
  intro i r h;rw[a1s] at h;rcases i5 h with⟨C1,h⟩|⟨C1,h⟩
  ·obtain⟨G2,h⟩:=j6 h
   rcases i5 h with⟨C3,h⟩|⟨C3,h⟩
   ·obtain rfl:=i7 h
    exact l8 [] 25 [.go,.reg [(1,hT)],.reg [(2,j5 (.int .u8 (A8.get x_k i.toNat))),(3,hT)],.reg []]
     (q3 (N6 (f_ C1 tr) (q9 G2 (q5 (a_ tr (a0f (len:=8) G2 0 1 8 rfl rfl)) (a0i (A4 .u8) 1 (λ_=>rfl) x_k [] [] 0 rfl i.toNat (a0j G2) (d8 (0+1) 1 rfl)) (f_ C3 tr))) (b5 tr)))
   ·exact n3 hμ [0] 26 [.go,.reg [(1,hT)],.reg [(2,j5 (.int .u8 (A8.get x_k i.toNat))),(3,hF)],.reg []]
     (N6 (f_ C1 tr) (q9 G2 (q5 (a_ tr (a0f (len:=8) G2 0 1 8 rfl rfl)) (a0i (A4 .u8) 1 (λ_=>rfl) x_k [] [] 0 rfl i.toNat (a0j G2) (d8 (0+1) 1 rfl)) (f_ C3 tr))) (q2 tr)) (ih _ r h) ⟨rfl,tr⟩
  ·rcases i5 h with⟨C2,h⟩|⟨C2,h⟩
   ·obtain rfl:=i7 h
    exact l8 [] 24 [.go,.reg [(1,hF)],.reg [(1,hT)],.reg []]
     (q3 (N6 (f_ C1 tr) (f_ C2 tr) (b5 tr)))
   ·obtain⟨G3,h⟩:=j6 h
    obtain rfl:=i7 h;exact l8 [] 25 [.go,.reg [(1,hF)],.reg [(1,hF)],.reg [(2,{v:=some (.str (P3 (([x_k.a0,x_k.a1,x_k.a2,x_k.a3,x_k.a4,x_k.a5,x_k.a6,x_k.a7]:List Int).take x_n.toNat)))})]]
     (q3 (N6 (f_ C1 tr) (f_ C2 tr) (q8 (q9 G3 (q5 (a8r [x_k.a0,x_k.a1,x_k.a2,x_k.a3,x_k.a4,x_k.a5,x_k.a6,x_k.a7] x_n.toNat 8 (S7 (n:=8) G3.2.2) rfl) (a9c [x_k.a0,x_k.a1,x_k.a2,x_k.a3,x_k.a4,x_k.a5,x_k.a6,x_k.a7] x_n.toNat 8 (S7 (n:=8) G3.2.2) rfl) (b5 tr))))))
theorem c3l{w0 W μ0}(hμ:p4 μ0 0)(x_k:A8 Int):∀(fuel:Nat) (x_n:Int) (r:(List UInt8)×Bool),a35 x_k fuel x_n=some r->c3j w0 W μ0 x_k x_n r:=by
 intro fuel
 induction fuel with
 |zero=>intro x_n r h;rw[a35] at h;cases h
 |succ fuel ih=>
  intro x_n r h;rw[a35] at h;rcases i5 h with⟨C1,h⟩|⟨C1,h⟩
  ·obtain⟨G2,h⟩:=j6 h
   rcases i5 h with⟨C3,h⟩|⟨C3,h⟩
   ·exact n3 hμ [0] 20 [.go,.reg [(2,hT),(5,j5 (.int .u8 (A8.get x_k x_n.toNat))),(7,hT)],.reg []]
     (X1 (b5 (f_ C1 (b4 (a_ (a_ G2 tr) (a_ (a_ (a_ tr (a0f (len:=8) G2 0 1 8 rfl rfl)) (a_ (a0i (A4 .u8) 1 (λ_=>rfl) x_k [] [] 0 rfl x_n.toNat (a0j G2) (d8 (0+1) 1 rfl)) tr)) (b4 (f_ C3 tr)))))))) (ih _ r h) ⟨rfl,tr⟩
   ·exact n3 hμ [0] 22 [.go,.reg [(2,hT),(5,j5 (.int .u8 (A8.get x_k x_n.toNat))),(7,hF)],.reg []]
     (q7 (b5 (f_ C1 (b4 (a_ (a_ G2 tr) (a_ (a_ (a_ tr (a0f (len:=8) G2 0 1 8 rfl rfl)) (a_ (a0i (A4 .u8) 1 (λ_=>rfl) x_k [] [] 0 rfl x_n.toNat (a0j G2) (d8 (0+1) 1 rfl)) tr)) (b4 (f_ C3 tr))))))) (b5 tr)) (b7a hμ x_k x_n big _ r h) ⟨rfl,tr⟩
  ·exact n3 hμ [0] 22 [.go,.reg [(2,hF)],.reg []]
    (q7 (b5 (f_ C1 (z8 (b4 tr)))) (b5 tr)) (b7a hμ x_k x_n big _ r h) ⟨rfl,tr⟩
theorem c3m(x_k:A8 Int)(r:(List UInt8)×Bool)(h:a34 x_k=some r):∀σ,p8 0 σ->j9 Tryz.prog 98 (n7 σ [.agg [.int .u8 x_k.a0,.int .u8 x_k.a1,.int .u8 x_k.a2,.int .u8 x_k.a3,.int .u8 x_k.a4,.int .u8 x_k.a5,.int .u8 x_k.a6,.int .u8 x_k.a7]]) (p5 σ 0 []) ((a7q r).ren σ) (p6 σ []):=by
 refine u7 Tryz.func98 tr tr ?_;intro w0 W μ0 hμ;unfold a34 at h;exact n3 hμ [0] 18 [.reg [],.reg []]
  (T7 (q2 tr)) (c3l hμ x_k big _ r h) ⟨rfl,tr⟩
theorem c3n(x_k:A8 Int)(r:(List UInt8)×Bool)(h:a34 x_k=some r):j9 Tryz.prog 98 [.agg [.int .u8 x_k.a0,.int .u8 x_k.a1,.int .u8 x_k.a2,.int .u8 x_k.a3,.int .u8 x_k.a4,.int .u8 x_k.a5,.int .u8 x_k.a6,.int .u8 x_k.a7]] [] (a7q r) []:=j9.none (c3m x_k r h) rfl rfl
def a2D(r:Bool):LV:=.bool r
def a4c(x_k:A8 Int):Option Bool:=
 (a34 x_k).bind λy2=>
 some y2.2
theorem c3B(x_k:A8 Int)(r:Bool)(h:a4c x_k=some r):∀σ,p8 0 σ->j9 Tryz.prog 76 (n7 σ [.agg [.int .u8 x_k.a0,.int .u8 x_k.a1,.int .u8 x_k.a2,.int .u8 x_k.a3,.int .u8 x_k.a4,.int .u8 x_k.a5,.int .u8 x_k.a6,.int .u8 x_k.a7]]) (p5 σ 0 []) ((a2D r).ren σ) (p6 σ []):=by
 refine u7 Tryz.func76 tr tr ?_;intro w0 W μ0 hμ;unfold a4c at h;obtain⟨y2,e1,h⟩:=d6 h;obtain rfl:=i7 h;exact l8 [] 18 [.reg [],.reg [(1,hC (a7q y2))],.reg []]
  (q3 (q0 (b5 tr) (m_ 8 8 rfl (c_ (c3n x_k y2 e1) (b4 (l9 tr)))) (b5 tr) tr))
theorem a5L(x_k:A8 Int)(r:Bool)(h:a4c x_k=some r):j9 Tryz.prog 76 [.agg [.int .u8 x_k.a0,.int .u8 x_k.a1,.int .u8 x_k.a2,.int .u8 x_k.a3,.int .u8 x_k.a4,.int .u8 x_k.a5,.int .u8 x_k.a6,.int .u8 x_k.a7]] [] (a2D r) []:=j9.none (c3B x_k r h) rfl rfl
def a9x(r:Int):LV:=.int .i64 r
def a5I(a b:TX):Option Int:=
 (a1t a).bind λy2=>
 (a1t b).bind λy4=>
 (a2C y2 y4).bind λy6=>
 some y6
theorem c3v(a b:TX)(r:Int)(h:a5I a b=some r):∀σ,p8 0 σ->j9 Tryz.prog 99 (n7 σ [i8 a,i8 b]) (p5 σ 0 []) ((a9x r).ren σ) (p6 σ []):=by
 refine u7 Tryz.func99 tr tr ?_;intro w0 W μ0 hμ;unfold a5I at h;obtain⟨y2,e1,h⟩:=d6 h;obtain⟨y4,e3,h⟩:=d6 h;obtain⟨y6,e5,h⟩:=d6 h;obtain rfl:=i7 h;exact l8 [] 15 [.reg [],.reg [(1,hC (a5K y2)),(3,hC (a5K y4)),(4,hC (a5J y6))]]
  (Z0 (m_ 3 3 rfl (c_ (a9y a y2 e1) (m_ 3 3 rfl (c_ (a9y b y4 e3) (c_ (b2W y2 y4 y6 e5) (b4 tr)))))))
theorem b7b(a b:TX)(r:Int)(h:a5I a b=some r):j9 Tryz.prog 99 [i8 a,i8 b] [] (a9x r) []:=j9.none (c3v a b r h) rfl rfl
def a9J(r:(List b8)×(List b8)×(List m0)):LV:=.tup []
def a9I(r:(List b8)×(List b8)×(List m0)):i9:=[(0,some (.var [.gs 1 r.2.2.length,.ds 12 r.1.length (b6 o4 default r.1),.ds 12 r.2.1.length (b6 o4 default r.2.1)])),(1,some (.gr 5 r.2.2.length (b6 B5 default r.2.2)))]
def b25(t:f7):List LO:=[.var (n8 t)]
def a4o(t:f7)(u:m0):Nat->Int->Option ((List b8)×(List b8)×(List m0))
 |0,_=>none
 |fuel+1,x_k=>
  if decide (x_k<(t.f_L.length:Int)) then
   if 0<=x_k/\x_k<(t.f_L.length:Int) then
   (a5I (t.f_L.getD x_k.toNat default).n5.b7 u.n5.b7).bind λy4=>
   if decide (y4<0) then
    a4o t u fuel (IntKind.wrap .i64 (x_k+1))
   else
    if 0<=(0:Int)/\0<=x_k/\x_k<=(t.f_L.length:Int) then
    if(0+((t.f_L.take x_k.toNat)).length) * 20<=140737488351232 then
    if(((t.f_L.take x_k.toNat)).length+(([u]:List m0)).length) * 20<=140737488351232 then
    if 0<=x_k/\x_k<=(t.f_L.length:Int)/\(t.f_L.length:Int)<=(t.f_L.length:Int) then
    if((((t.f_L.take x_k.toNat)++([u]:List m0))).length+((t.f_L.drop x_k.toNat)).length) * 20<=140737488351232 then
    some (t.d9,t.f0,(((t.f_L.take x_k.toNat)++([u]:List m0))++(t.f_L.drop x_k.toNat)))
    else none
    else none
    else none
    else none
    else none
   else none
  else
   if 0<=(0:Int)/\0<=x_k/\x_k<=(t.f_L.length:Int) then
   if(0+((t.f_L.take x_k.toNat)).length) * 20<=140737488351232 then
   if(((t.f_L.take x_k.toNat)).length+(([u]:List m0)).length) * 20<=140737488351232 then
   if 0<=x_k/\x_k<=(t.f_L.length:Int)/\(t.f_L.length:Int)<=(t.f_L.length:Int) then
   if((((t.f_L.take x_k.toNat)++([u]:List m0))).length+((t.f_L.drop x_k.toNat)).length) * 20<=140737488351232 then
   some (t.d9,t.f0,(((t.f_L.take x_k.toNat)++([u]:List m0))++(t.f_L.drop x_k.toNat)))
   else none
   else none
   else none
   else none
   else none
def a7J(t:f7)(u:m0):Option ((List b8)×(List b8)×(List m0)):=
 a4o t u big 0
abbrev c4p(t:f7)(u:m0)(x_k:Int)(r:(List b8)×(List b8)×(List m0)):Prop:=p3 w0 W μ0 Tryz.f77 1 2 (a9J r) (a9I r) (z6 (o9 Tryz.f77) 0) ((.ptr 0 0 0):: .any:: .any::(.ptr 1 0 0)::(.int .i64 x_k)::n_ 45 []) [some (.var (n8 t)),some (.var (B5 u))]
theorem c4q{w0 W μ0}(hμ:p4 μ0 1)(t:f7)(u:m0):∀(fuel:Nat) (x_k:Int) (r:(List b8)×(List b8)×(List m0)),a4o t u fuel x_k=some r->c4p w0 W μ0 t u x_k r:=by
 intro fuel
 induction fuel with
 |zero=>intro x_k r h;rw[a4o] at h;cases h
 |succ fuel ih=>
  intro x_k r h;rw[a4o] at h;rcases i5 h with⟨C1,h⟩|⟨C1,h⟩
  ·obtain⟨G2,h⟩:=j6 h
   obtain⟨y4,E3,h⟩:=d6 h;rcases i5 h with⟨C5,h⟩|⟨C5,h⟩
   ·exact n3 hμ [1] 20 [.go,.reg [(7,hT),(20,hC (a9x y4)),(22,hT)],.reg []]
     (X1 (l9 (l_ 0 3 rfl (b5 (f_ C1 (b4 (b5 (l_ 0 3 rfl (b4 (a_ (a_ (a_ (e_ 5) G2) tr) (b5 (a_ (a_ (d8 3 4 rfl) tr) (b5 (m_ 4 5 rfl (a_ (a_ (a_ (b7b (t.f_L.getD x_k.toNat default).n5.b7 u.n5.b7 y4 E3) tr) tr) (b4 (f_ C5 tr))))))))))))))))) (ih _ r h) ⟨rfl,rfl,tr⟩
   ·obtain⟨G6,h⟩:=j6 h
    obtain⟨G7,h⟩:=j6 h;obtain⟨G8,h⟩:=j6 h;obtain⟨G9,h⟩:=j6 h;obtain⟨G10,h⟩:=j6 h;obtain rfl:=i7 h;exact l8 [5] 18 [.go,.reg [(7,hT),(20,hC (a9x y4)),(22,hF)],.reg [(6,j5 (.ds 5 ((t.f_L.take x_k.toNat)).length (b6 B5 default (t.f_L.take x_k.toNat)))),(7,{app:=3}),(9,{os:=[(3,.gr 5 (([u]:List m0)).length (b6 B5 default ([u]:List m0)))],v:=some (.gs 3 (([u]:List m0)).length)}),(10,{app:=3,os:=[(4,.gr 5 (((t.f_L.take x_k.toNat)++([u]:List m0))).length (b6 B5 default ((t.f_L.take x_k.toNat)++([u]:List m0))))],v:=some (.gs 4 (((t.f_L.take x_k.toNat)++([u]:List m0))).length)}),(16,j5 (.ds 5 ((t.f_L.drop x_k.toNat)).length (b6 B5 default (t.f_L.drop x_k.toNat)))),(17,{app:=3,os:=[(5,.gr 5 ((((t.f_L.take x_k.toNat)++([u]:List m0))++(t.f_L.drop x_k.toNat))).length (b6 B5 default (((t.f_L.take x_k.toNat)++([u]:List m0))++(t.f_L.drop x_k.toNat))))],v:=some (.gs 5 ((((t.f_L.take x_k.toNat)++([u]:List m0))++(t.f_L.drop x_k.toNat))).length)})]]
     (F8 (l9 (l_ 0 3 rfl (b5 (f_ C1 (b4 (b5 (l_ 0 3 rfl (b4 (a_ (a_ (a_ (e_ 5) G2) tr) (b5 (a_ (a_ (d8 3 4 rfl) tr) (b5 (m_ 4 5 rfl (a_ (a_ (a_ (b7b (t.f_L.getD x_k.toNat default).n5.b7 u.n5.b7 y4 E3) tr) tr) (b4 (f_ C5 tr)))))))))))))))) (l9 (l_ 0 3 rfl (b4 (a_ (a_ (a_ (e_ 5) G6) (a_ (a1n B5 default 5 t.f_L x_k.toNat (S7 G6.2.2)) tr)) (a_ (a_ (a_ (e_ 5) (a_ (j4 0 5 rfl) (a_ (j4 0 20 rfl) (a_ G7 (a_ (e_ 5) (e_ true)))))) tr) (m_ 5 5 rfl (a_ (a_ (a_ (e_ true) (a_ (e_ 5) (a_ (j4 0 5 rfl) (d8 5 16777216 rfl)))) (a_ (L5 3 1 (some 1) rfl) (a_ (L6 B5 default 5 (λ_=>rfl) ([u]:List m0)) tr))) (a_ (a_ (a_ (a_ (e_ 5) (m8 (([u]:List m0)).length)) (a_ (a_ (j4 0 5 rfl) (a_ (j4 0 20 rfl) (a_ G8 (a_ (e_ 5) (e_ true))))) (a_ (e_ 5) (m8 ((t.f_L.take x_k.toNat)).length)))) (a_ (J6 4 (t.f_L.take x_k.toNat) ([u]:List m0)) (a_ (J9 B5 default 5 (t.f_L.take x_k.toNat) ([u]:List m0)) tr))) (b4 (b5 (l_ 0 3 rfl (b4 (a_ (a_ (a_ (e_ 5) G9) (a_ (a2p B5 default 5 t.f_L x_k.toNat (S7 G9.2.1)) tr)) (a_ (a_ (a_ (e_ 5) (a_ (a_ (j4 0 5 rfl) (a_ (j4 0 20 rfl) (a_ G10 (a_ (e_ 5) (e_ true))))) (a_ (e_ 5) (m8 (((t.f_L.take x_k.toNat)++([u]:List m0))).length)))) (a_ (J6 5 ((t.f_L.take x_k.toNat)++([u]:List m0)) (t.f_L.drop x_k.toNat)) (a_ (J9 B5 default 5 ((t.f_L.take x_k.toNat)++([u]:List m0)) (t.f_L.drop x_k.toNat)) tr))) (b5 (a_ (a_ (a_ (e_ 1) (a_ (d8 1 3 rfl) (e_ 0))) tr) tr)))))))))))))))))
  ·obtain⟨G2,h⟩:=j6 h
   obtain⟨G3,h⟩:=j6 h;obtain⟨G4,h⟩:=j6 h;obtain⟨G5,h⟩:=j6 h;obtain⟨G6,h⟩:=j6 h;obtain rfl:=i7 h;exact l8 [5] 18 [.go,.reg [(7,hF)],.reg [(6,j5 (.ds 5 ((t.f_L.take x_k.toNat)).length (b6 B5 default (t.f_L.take x_k.toNat)))),(7,{app:=3}),(9,{os:=[(3,.gr 5 (([u]:List m0)).length (b6 B5 default ([u]:List m0)))],v:=some (.gs 3 (([u]:List m0)).length)}),(10,{app:=3,os:=[(4,.gr 5 (((t.f_L.take x_k.toNat)++([u]:List m0))).length (b6 B5 default ((t.f_L.take x_k.toNat)++([u]:List m0))))],v:=some (.gs 4 (((t.f_L.take x_k.toNat)++([u]:List m0))).length)}),(16,j5 (.ds 5 ((t.f_L.drop x_k.toNat)).length (b6 B5 default (t.f_L.drop x_k.toNat)))),(17,{app:=3,os:=[(5,.gr 5 ((((t.f_L.take x_k.toNat)++([u]:List m0))++(t.f_L.drop x_k.toNat))).length (b6 B5 default (((t.f_L.take x_k.toNat)++([u]:List m0))++(t.f_L.drop x_k.toNat))))],v:=some (.gs 5 ((((t.f_L.take x_k.toNat)++([u]:List m0))++(t.f_L.drop x_k.toNat))).length)})]]
    (F8 (l9 (l_ 0 3 rfl (b5 (f_ C1 (u5 (z8 (B3 (b4 tr)))))))) (l9 (l_ 0 3 rfl (b4 (a_ (a_ (a_ (e_ 5) G2) (a_ (a1n B5 default 5 t.f_L x_k.toNat (S7 G2.2.2)) tr)) (a_ (a_ (a_ (e_ 5) (a_ (j4 0 5 rfl) (a_ (j4 0 20 rfl) (a_ G3 (a_ (e_ 5) (e_ true)))))) tr) (m_ 5 5 rfl (a_ (a_ (a_ (e_ true) (a_ (e_ 5) (a_ (j4 0 5 rfl) (d8 5 16777216 rfl)))) (a_ (L5 3 1 (some 1) rfl) (a_ (L6 B5 default 5 (λ_=>rfl) ([u]:List m0)) tr))) (a_ (a_ (a_ (a_ (e_ 5) (m8 (([u]:List m0)).length)) (a_ (a_ (j4 0 5 rfl) (a_ (j4 0 20 rfl) (a_ G4 (a_ (e_ 5) (e_ true))))) (a_ (e_ 5) (m8 ((t.f_L.take x_k.toNat)).length)))) (a_ (J6 4 (t.f_L.take x_k.toNat) ([u]:List m0)) (a_ (J9 B5 default 5 (t.f_L.take x_k.toNat) ([u]:List m0)) tr))) (b4 (b5 (l_ 0 3 rfl (b4 (a_ (a_ (a_ (e_ 5) G5) (a_ (a2p B5 default 5 t.f_L x_k.toNat (S7 G5.2.1)) tr)) (a_ (a_ (a_ (e_ 5) (a_ (a_ (j4 0 5 rfl) (a_ (j4 0 20 rfl) (a_ G6 (a_ (e_ 5) (e_ true))))) (a_ (e_ 5) (m8 (((t.f_L.take x_k.toNat)++([u]:List m0))).length)))) (a_ (J6 5 ((t.f_L.take x_k.toNat)++([u]:List m0)) (t.f_L.drop x_k.toNat)) (a_ (J9 B5 default 5 ((t.f_L.take x_k.toNat)++([u]:List m0)) (t.f_L.drop x_k.toNat)) tr))) (b5 (a_ (a_ (a_ (e_ 1) (a_ (d8 1 3 rfl) (e_ 0))) tr) tr)))))))))))))))))
theorem b7y(t:f7)(u:m0)(r:(List b8)×(List b8)×(List m0))(h:a7J t u=some r):∀σ,p8 2 σ->j9 Tryz.prog 77 (n7 σ [.ptr 0 0 0,b4a u]) (p5 σ 0 (b25 t)) ((a9J r).ren σ) (p6 σ (a9I r)):=by
 refine u7 Tryz.func77 ⟨rfl,tr⟩ ⟨rfl,λ_ _=>rfl,tr⟩ ?_;intro w0 W μ0 hμ;unfold a7J at h;exact n3 hμ [1] 18 [.reg [],.reg []]
  (T7 (q8 tr)) (c4q hμ t u big _ r h) ⟨rfl,rfl,tr⟩
def a2P(r:Int×(List m0)×(List b8)×(List b8)):LV:=.int .i64 r.1
def a2O(r:Int×(List m0)×(List b8)×(List b8)):i9:=[(0,some (.var (n8 (f7.mk r.2.1 r.2.2.1 r.2.2.2))))]
def b7x(t:f7):List LO:=[.var (n8 t)]
def a4l(t:f7)(x:TX)(keys:List (A8 Int)):Nat->Int->(List m0)->(List b8)->(List b8)->Option (Int×(List m0)×(List b8)×(List b8))
 |0,_,_,_,_=>none
 |fuel+1,i2,L,Held,Waits=>
  if decide (i2<(keys.length:Int)) then
   if 0<=i2/\i2<(keys.length:Int) then
   (some (b8.mk x (keys.getD i2.toNat default) 2)).bind λy3=>
   (a7L (f7.mk L Held Waits) y3).bind λy6=>
   a4l t x keys fuel (IntKind.wrap .i64 (i2+1)) y6.1 y6.2.2 y6.2.1
   else none
  else
   some (0,L,Held,Waits)
def a7I(t:f7)(x:TX)(keys:List (A8 Int)):Option (Int×(List m0)×(List b8)×(List b8)):=
 (some (m0.mk (TS.mk 0 x) true)).bind λy1=>
 (a7J t y1).bind λy4=>
 a4l t x keys big 0 y4.2.2 y4.1 y4.2.1
def a0Q(t:f7)(x:TX)(keys:List (A8 Int))(i:Int)(k0:Bool->Int->Option (Int×(List m0)×(List b8)×(List b8))):Nat->Bool->Int->Option (Int×(List m0)×(List b8)×(List b8))
 |0,_,_=>none
 |fuel+1,held2,x_k2=>
  if decide (x_k2<(t.d9.length:Int)) then
   if held2 then
    a0Q t x keys i k0 fuel true (IntKind.wrap .i64 (x_k2+1))
   else
    if 0<=x_k2/\x_k2<(t.d9.length:Int) then
    if 0<=i/\i<(keys.length:Int) then
    a0Q t x keys i k0 fuel (decide ((t.d9.getD x_k2.toNat default).j8=(keys.getD i.toNat default))) (IntKind.wrap .i64 (x_k2+1))
    else none
    else none
  else
   k0 held2 (IntKind.wrap .i64 (i+1))
def a2N(t:f7)(x:TX)(keys:List (A8 Int))(hh:Bool)(i:Int)(k0:Bool->Int->Option (Int×(List m0)×(List b8)×(List b8))):Nat->Int->Option (Int×(List m0)×(List b8)×(List b8))
 |0,_=>none
 |fuel+1,x_k=>
  if decide (x_k<i) then
   if 0<=x_k/\x_k<(keys.length:Int) then
   if 0<=i/\i<(keys.length:Int) then
   if decide ((keys.getD x_k.toNat default)=(keys.getD i.toNat default)) then
    some (1,t.f_L,t.d9,t.f0)
   else
    a2N t x keys hh i k0 fuel (IntKind.wrap .i64 (x_k+1))
   else none
   else none
  else
   a0Q t x keys i k0 big hh 0
def a9H(t:f7)(x:TX)(keys:List (A8 Int)):Option (Int×(List m0)×(List b8)×(List b8)):=
 some (5,t.f_L,t.d9,t.f0)
def a0o(t:f7)(x:TX)(keys:List (A8 Int)):Nat->Bool->Int->Option (Int×(List m0)×(List b8)×(List b8))
 |0,_,_=>none
 |fuel+1,hh,i=>
  if decide (i<(keys.length:Int)) then
   if 0<=i/\i<(keys.length:Int) then
   (a4c (keys.getD i.toNat default)).bind λy4=>
   if !y4 then
    some (1,t.f_L,t.d9,t.f0)
   else
    a2N t x keys hh i (a0o t x keys fuel) big 0
   else none
  else
   (Y6 t x).bind λy3=>
   if decide (0<=y3) then
    some (7,t.f_L,t.d9,t.f0)
   else
    if hh then
     some (11,t.f_L,t.d9,t.f0)
    else
     if decide (64<=(t.f_L.length:Int)) then
      a9H t x keys
     else
      a7I t x keys
def a7H(t:f7)(x:TX)(keys:List (A8 Int)):Option (Int×(List m0)×(List b8)×(List b8)):=
 (a38 x).bind λy2=>
 if !y2 then
  some (1,t.f_L,t.d9,t.f0)
 else
  if(keys.length:Int)==0 then
   some (1,t.f_L,t.d9,t.f0)
  else
   a0o t x keys big false 0
abbrev c4f(x:TX)(keys:List (A8 Int))(i2:Int)(L:List m0)(Held Waits:List b8)(r:Int×(List m0)×(List b8)×(List b8)):Prop:=p3 w0 W μ0 Tryz.f49 1 1 (a2P r) (a2O r) (z6 (o9 Tryz.f49) 3) ((.ptr 0 0 0):: .any::(.ds 8 keys.length (b6 (λz_:A8 Int=>[.int .u8 z_.a0,.int .u8 z_.a1,.int .u8 z_.a2,.int .u8 z_.a3,.int .u8 z_.a4,.int .u8 z_.a5,.int .u8 z_.a6,.int .u8 z_.a7]) default keys)):: .any::(.ptr 1 0 0)::n_ 6 ((.int .i64 i2)::n_ 92 [])) [some (.var (n8 (f7.mk L Held Waits))),some (.var (f5 x))]
abbrev c4e(t:f7)(x:TX)(keys:List (A8 Int))(i:Int)(held2:Bool)(x_k2:Int)(r:Int×(List m0)×(List b8)×(List b8)):Prop:=p3 w0 W μ0 Tryz.f49 1 1 (a2P r) (a2O r) (z6 (o9 Tryz.f49) 2) ((.ptr 0 0 0):: .any::(.ds 8 keys.length (b6 (λz_:A8 Int=>[.int .u8 z_.a0,.int .u8 z_.a1,.int .u8 z_.a2,.int .u8 z_.a3,.int .u8 z_.a4,.int .u8 z_.a5,.int .u8 z_.a6,.int .u8 z_.a7]) default keys)):: .any::(.ptr 1 0 0):: .any:: .any::(.bool held2)::(.int .i64 i):: .any::(.int .i64 x_k2)::n_ 93 []) [some (.var (n8 t)),some (.var (f5 x))]
abbrev c4d(t:f7)(x:TX)(keys:List (A8 Int))(hh:Bool)(i x_k:Int)(r:Int×(List m0)×(List b8)×(List b8)):Prop:=p3 w0 W μ0 Tryz.f49 1 1 (a2P r) (a2O r) (z6 (o9 Tryz.f49) 1) ((.ptr 0 0 0):: .any::(.ds 8 keys.length (b6 (λz_:A8 Int=>[.int .u8 z_.a0,.int .u8 z_.a1,.int .u8 z_.a2,.int .u8 z_.a3,.int .u8 z_.a4,.int .u8 z_.a5,.int .u8 z_.a6,.int .u8 z_.a7]) default keys)):: .any::(.ptr 1 0 0):: .any:: .any::(.bool hh)::(.int .i64 i)::(.int .i64 x_k)::n_ 94 []) [some (.var (n8 t)),some (.var (f5 x))]
abbrev b24(t:f7)(x:TX)(keys:List (A8 Int))(hh:Bool)(i:Int)(r:Int×(List m0)×(List b8)×(List b8)):Prop:=p3 w0 W μ0 Tryz.f49 1 1 (a2P r) (a2O r) (z6 (o9 Tryz.f49) 0) ((.ptr 0 0 0):: .any::(.ds 8 keys.length (b6 (λz_:A8 Int=>[.int .u8 z_.a0,.int .u8 z_.a1,.int .u8 z_.a2,.int .u8 z_.a3,.int .u8 z_.a4,.int .u8 z_.a5,.int .u8 z_.a6,.int .u8 z_.a7]) default keys)):: .any::(.ptr 1 0 0):: .any:: .any::(.bool hh)::(.int .i64 i)::n_ 95 []) [some (.var (n8 t)),some (.var (f5 x))]
theorem c4l{w0 W μ0}(hμ:p4 μ0 1)(t:f7)(x:TX)(keys:List (A8 Int)):∀(fuel:Nat) (i2:Int) (L:List m0) (Held Waits:List b8) (r:Int×(List m0)×(List b8)×(List b8)),a4l t x keys fuel i2 L Held Waits=some r->c4f w0 W μ0 x keys i2 L Held Waits r:=by
 intro fuel
 induction fuel with
 |zero=>intro i2 L Held Waits r h;rw[a4l] at h;cases h
 |succ fuel ih=>
  intro i2 L Held Waits r h;rw[a4l] at h;rcases i5 h with⟨C1,h⟩|⟨C1,h⟩
  ·obtain⟨G2,h⟩:=j6 h
   obtain⟨y3,E4,h⟩:=d6 h;obtain⟨y6,E5,h⟩:=d6 h;exact n3 hμ [1] 24 [.go,.reg [(3,hT)],.reg [(6,j5 (P5 y3)),(7,i6 (g9 [0,2] (a9M y6) (b3c (f7.mk L Held Waits)) (a9L y6)))],.reg [],.frz 2]
    (q6 (q2 (f_ C1 tr)) (m_ 3 3 rfl (b5 (a_ (a_ (a_ (e_ 8) G2) tr) (a_ (a_ (d8 8 8 rfl) tr) (a_ (a_ (e_ true) (a_ (n0 P5 E4) tr)) (a_ (a_ (a_ (b7B (f7.mk L Held Waits) y3 y6 E5 (f8 [0,2]) i1) (a_ (l0 (.var (n8 (f7.mk L Held Waits)))) tr)) tr) tr)))))) (q2 tr) (F8 (J2 (enc:=o4) (d:=default) (λ_=>rfl) y6.2.2) (m8 y6.2.2.length))) (ih _ _ _ _ r h) ⟨rfl,rfl,tr⟩
  ·obtain rfl:=i7 h
   exact l8 [] 19 [.go,.reg [(3,hF)],.reg []]
    (F8 (q2 (f_ C1 tr)) (q8 tr))
theorem c4h{w0 W μ0}(hμ:p4 μ0 1)(t:f7)(x:TX)(keys:List (A8 Int))(r:Int×(List m0)×(List b8)×(List b8))(h:a7I t x keys=some r):p3 w0 W μ0 Tryz.f49 1 1 (a2P r) (a2O r) (z7 (o9 Tryz.f49) 24) ((.ptr 0 0 0):: .any::(.ds 8 keys.length (b6 (λz_:A8 Int=>[.int .u8 z_.a0,.int .u8 z_.a1,.int .u8 z_.a2,.int .u8 z_.a3,.int .u8 z_.a4,.int .u8 z_.a5,.int .u8 z_.a6,.int .u8 z_.a7]) default keys)):: .any::(.ptr 1 0 0)::n_ 99 []) [some (.var (n8 t)),some (.var (f5 x))]:=by
 unfold a7I at h;obtain⟨y1,E2,h⟩:=d6 h;obtain⟨y4,E3,h⟩:=d6 h;exact n3 hμ [1] 18 [.reg [(3,j5 (b4a y1)),(4,i6 (g9 [0,2] (a9J y4) (b25 t) (a9I y4)))],.reg [],.frz 2]
  (N6 (m_ 3 3 rfl (a_ (a_ (e_ true) tr) (a_ (a_ (e_ true) (a_ (n0 b4a E2) tr)) (a_ (a_ (a_ (b7y t y1 y4 E3 (f8 [0,2]) i1) (a_ (l0 (.var (n8 t))) tr)) tr) tr)))) tr (q7 (J2 (enc:=B5) (d:=default) (λ_=>rfl) y4.2.2) (m8 y4.2.2.length))) (c4l hμ t x keys big _ _ _ _ r h) ⟨rfl,rfl,tr⟩
theorem c4k{w0 W μ0}(hμ:p4 μ0 1)(t:f7)(x:TX)(keys:List (A8 Int))(i:Int)(k0:Bool->Int->Option (Int×(List m0)×(List b8)×(List b8)))(hk0:∀(hh:Bool) (i:Int) (r:Int×(List m0)×(List b8)×(List b8)),k0 hh i=some r->b24 w0 W μ0 t x keys hh i r):∀(fuel:Nat) (held2:Bool) (x_k2:Int) (r:Int×(List m0)×(List b8)×(List b8)),a0Q t x keys i k0 fuel held2 x_k2=some r->c4e w0 W μ0 t x keys i held2 x_k2 r:=by
 intro fuel
 induction fuel with
 |zero=>intro held2 x_k2 r h;rw[a0Q] at h;cases h
 |succ fuel ih=>
  intro held2 x_k2 r h;rw[a0Q] at h;rcases i5 h with⟨C1,h⟩|⟨C1,h⟩
  ·rcases i5 h with⟨C2,h⟩|⟨C2,h⟩
   ·exact n3 hμ [1] 23 [.go,.reg [(6,hT)],.reg [(1,hT)],.reg []]
     (q6 (l9 (l_ 1 3 rfl (b4 (f_ C1 tr)))) (f_ C2 (a_ tr (z8 (B3 (b5 tr))))) (q2 tr) tr) (ih _ _ r h) ⟨rfl,rfl,tr⟩
   ·obtain⟨G3,h⟩:=j6 h
    obtain⟨G4,h⟩:=j6 h;exact n3 hμ [1] 23 [.go,.reg [(6,hT)],.reg [(1,hF),(14,j5 (.bool (decide ((t.d9.getD x_k2.toNat default).j8=(keys.getD i.toNat default)))))],.reg []]
     (q6 (l9 (l_ 1 3 rfl (b4 (f_ C1 tr)))) (f_ C2 (b4 (b5 (l_ 1 3 rfl (b4 (a_ (a_ (a_ (e_ 12) G3) tr) (b4 (a_ (a_ (d8 8 9 rfl) tr) (b5 (a_ (a_ (a_ (e_ 8) G4) tr) (a_ (a_ (d8 8 8 rfl) tr) (a_ (a_ tr (a_ (v6 ((J3 .u8) (t.d9.getD x_k2.toNat default).j8 (keys.getD i.toNat default))) tr)) (b5 tr))))))))))))) (q2 tr) tr) (ih _ _ r h) ⟨rfl,rfl,tr⟩
  ·exact n3 hμ [1] 19 [.go,.reg [(6,hF)],.reg []]
    (X1 (l9 (l_ 1 3 rfl (b4 (f_ C1 tr))))) (hk0 _ _ r h) ⟨rfl,rfl,tr⟩
theorem c4j{w0 W μ0}(hμ:p4 μ0 1)(t:f7)(x:TX)(keys:List (A8 Int))(hh:Bool)(i:Int)(k0:Bool->Int->Option (Int×(List m0)×(List b8)×(List b8)))(hk0:∀(hh:Bool) (i:Int) (r:Int×(List m0)×(List b8)×(List b8)),k0 hh i=some r->b24 w0 W μ0 t x keys hh i r):∀(fuel:Nat) (x_k:Int) (r:Int×(List m0)×(List b8)×(List b8)),a2N t x keys hh i k0 fuel x_k=some r->c4d w0 W μ0 t x keys hh i x_k r:=by
 intro fuel
 induction fuel with
 |zero=>intro x_k r h;rw[a2N] at h;cases h
 |succ fuel ih=>
  intro x_k r h;rw[a2N] at h;rcases i5 h with⟨C1,h⟩|⟨C1,h⟩
  ·obtain⟨G2,h⟩:=j6 h
   obtain⟨G3,h⟩:=j6 h;rcases i5 h with⟨C4,h⟩|⟨C4,h⟩
   ·obtain rfl:=i7 h
    exact l8 [] 25 [.go,.reg [(2,hT)],.reg [(8,hT)],.reg []]
     (q3 (J4 (f_ C1 tr) (q4 (e_ 8) G2 (q9 (d8 8 8 rfl) (b5 (q0 (q1 (e_ 8) G3 tr) (q3 (d8 8 8 rfl)) (q7 tr (LV.Le.trans (v6 ((J3 .u8) (keys.getD x_k.toNat default) (keys.getD i.toNat default))) (v6 C4))) tr)))) (q8 tr) tr))
   ·exact n3 hμ [1] 26 [.go,.reg [(2,hT)],.reg [(8,hF)],.reg []]
     (J4 (f_ C1 tr) (q4 (e_ 8) G2 (q9 (d8 8 8 rfl) (b5 (q0 (q1 (e_ 8) G3 tr) (q3 (d8 8 8 rfl)) (q7 tr (LV.Le.trans (v6 ((J3 .u8) (keys.getD x_k.toNat default) (keys.getD i.toNat default))) (v6 C4))) tr)))) (q2 tr) tr) (ih _ r h) ⟨rfl,rfl,tr⟩
  ·exact n3 hμ [1] 21 [.go,.reg [(2,hF)],.reg []]
    (T7 (b5 (f_ C1 tr))) (c4k hμ t x keys i k0 hk0 big _ _ r h) ⟨rfl,rfl,tr⟩
theorem c4g{w0 W μ0}(hμ:p4 μ0 1)(t:f7)(x:TX)(keys:List (A8 Int))(r:Int×(List m0)×(List b8)×(List b8))(h:a9H t x keys=some r):p3 w0 W μ0 Tryz.f49 1 1 (a2P r) (a2O r) (z7 (o9 Tryz.f49) 23) (n_ 104 []) [some (.var (n8 t))]:=by
 unfold a9H at h;obtain rfl:=i7 h;exact l8 [] 11 [.reg []]
  (q9 (q8 tr) tr)
theorem c4i{w0 W μ0}(hμ:p4 μ0 1)(t:f7)(x:TX)(keys:List (A8 Int)):∀(fuel:Nat) (hh:Bool) (i:Int) (r:Int×(List m0)×(List b8)×(List b8)),a0o t x keys fuel hh i=some r->b24 w0 W μ0 t x keys hh i r:=by
 intro fuel
 induction fuel with
 |zero=>intro hh i r h;rw[a0o] at h;cases h
 |succ fuel ih=>
  intro hh i r h;rw[a0o] at h;rcases i5 h with⟨C1,h⟩|⟨C1,h⟩
  ·obtain⟨G2,h⟩:=j6 h
   obtain⟨y4,E3,h⟩:=d6 h;rcases i5 h with⟨C5,h⟩|⟨C5,h⟩
   ·obtain rfl:=i7 h
    exact l8 [] 26 [.go,.reg [(3,hT)],.reg [(4,hC (a2D y4)),(5,hT)],.reg []]
     (q3 (B6 (q2 (f_ C1 tr)) (q0 (q1 (e_ 8) G2 tr) (q3 (d8 8 8 rfl)) (q9 (a5L (keys.getD i.toNat default) y4 E3) tr) (f_ C5 tr)) (q8 tr) tr))
   ·exact n3 hμ [1] 30 [.go,.reg [(3,hT)],.reg [(4,hC (a2D y4)),(5,hF)],.reg []]
     (B6 (q2 (f_ C1 tr)) (q0 (q1 (e_ 8) G2 tr) (q3 (d8 8 8 rfl)) (q9 (a5L (keys.getD i.toNat default) y4 E3) tr) (f_ C5 tr)) (q8 tr) tr) (c4j hμ t x keys hh i (a0o t x keys fuel) ih big _ r h) ⟨rfl,rfl,tr⟩
  ·obtain⟨y3,E2,h⟩:=d6 h
   rcases i5 h with⟨C4,h⟩|⟨C4,h⟩
   ·obtain rfl:=i7 h
    exact l8 [] 25 [.go,.reg [(3,hF)],.reg [(2,i6 (g9 [0] (R4 y3) (S5 t) (R3 y3))),(4,hT)],.reg []]
     (q3 (q6 (q2 (f_ C1 tr)) (m_ 3 3 rfl (a_ (a_ (a_ (T6 t x y3 E2 (f8 [0]) i1) (a_ (LO.Le.ofVar (n8 t)) tr)) tr) (b4 (f_ C4 tr)))) (q8 tr) tr))
   ·rcases i5 h with⟨C5,h⟩|⟨C5,h⟩
    ·obtain rfl:=i7 h
     exact l8 [] 29 [.go,.reg [(3,hF)],.reg [(2,i6 (g9 [0] (R4 y3) (S5 t) (R3 y3))),(4,hF)],.reg [(1,hT)],.reg []]
      (q3 (q6 (q2 (f_ C1 tr)) (m_ 3 3 rfl (a_ (a_ (a_ (T6 t x y3 E2 (f8 [0]) i1) (a_ (LO.Le.ofVar (n8 t)) tr)) tr) (b4 (f_ C4 tr)))) (q8 (f_ C5 tr)) (q3 (q8 tr))))
    ·rcases i5 h with⟨C6,h⟩|⟨C6,h⟩
     ·exact n3 hμ [] 31 [.go,.reg [(3,hF)],.reg [(2,i6 (g9 [0] (R4 y3) (S5 t) (R3 y3))),(4,hF)],.reg [(1,hF)],.reg [(6,hT)]]
       (q6 (q2 (f_ C1 tr)) (m_ 3 3 rfl (a_ (a_ (a_ (T6 t x y3 E2 (f8 [0]) i1) (a_ (LO.Le.ofVar (n8 t)) tr)) tr) (b4 (f_ C4 tr)))) (q8 (f_ C5 tr)) (I3 (l_ 0 3 rfl (b5 (f_ C6 tr))))) (c4g hμ t x keys r h) ⟨rfl,tr⟩
     ·exact n3 hμ [1] 33 [.go,.reg [(3,hF)],.reg [(2,i6 (g9 [0] (R4 y3) (S5 t) (R3 y3))),(4,hF)],.reg [(1,hF)],.reg [(6,hF)]]
       (q6 (q2 (f_ C1 tr)) (m_ 3 3 rfl (a_ (a_ (a_ (T6 t x y3 E2 (f8 [0]) i1) (a_ (LO.Le.ofVar (n8 t)) tr)) tr) (b4 (f_ C4 tr)))) (q8 (f_ C5 tr)) (I3 (l_ 0 3 rfl (b5 (f_ C6 tr))))) (c4h hμ t x keys r h) ⟨rfl,rfl,tr⟩
theorem c4m(t:f7)(x:TX)(keys:List (A8 Int))(r:Int×(List m0)×(List b8)×(List b8))(h:a7H t x keys=some r):∀σ,p8 1 σ->j9 Tryz.prog 49 (n7 σ [.ptr 0 0 0,i8 x,.ds 8 keys.length (b6 (λz_:A8 Int=>[.int .u8 z_.a0,.int .u8 z_.a1,.int .u8 z_.a2,.int .u8 z_.a3,.int .u8 z_.a4,.int .u8 z_.a5,.int .u8 z_.a6,.int .u8 z_.a7]) default keys)]) (p5 σ 0 (b7x t)) ((a2P r).ren σ) (p6 σ (a2O r)):=by
 refine u7 Tryz.func49 ⟨rfl,tr⟩ ⟨rfl,tr⟩ ?_;intro w0 W μ0 hμ;unfold a7H at h;obtain⟨y2,e1,h⟩:=d6 h;rcases i5 h with⟨c3,h⟩|⟨c3,h⟩
 ·obtain rfl:=i7 h
  exact l8 [] 20 [.reg [],.reg [(1,hC (a5H y2)),(3,hT)],.reg []]
   (q3 (P0 (b5 tr) (m_ 3 3 rfl (c_ (a9w x y2 e1) (b4 (f_ c3 (a_ tr (u5 (b4 tr))))))) tr))
 ·rcases i5 h with⟨c4,h⟩|⟨c4,h⟩
  ·obtain rfl:=i7 h
   exact l8 [] 20 [.reg [],.reg [(1,hC (a5H y2)),(3,hF),(7,hT)],.reg []]
    (q3 (P0 (b5 tr) (m_ 3 3 rfl (c_ (a9w x y2 e1) (b4 (f_ c3 (b4 (b5 (f_ c4 tr))))))) tr))
  ·exact n3 hμ [1] 27 [.reg [],.reg [(1,hC (a5H y2)),(3,hF),(7,hF)],.reg [],.reg []]
    (E0 (b5 tr) (m_ 3 3 rfl (c_ (a9w x y2 e1) (b4 (f_ c3 (b4 (b5 (f_ c4 tr))))))) (q8 tr) (q8 tr)) (c4i hμ t x keys big _ _ r h) ⟨rfl,rfl,tr⟩
def a37(r:Bool):LV:=.bool r
def a5F(s:TS):Option Bool:=
 if decide (s.B8<=2147483647) then
  (a38 s.b7).bind λy3=>
  some y3
 else
  some false
theorem c3r(s:TS)(r:Bool)(h:a5F s=some r):∀σ,p8 0 σ->j9 Tryz.prog 79 (n7 σ [V5 s]) (p5 σ 0 []) ((a37 r).ren σ) (p6 σ []):=by
 refine u7 Tryz.func79 tr tr ?_;intro w0 W μ0 hμ;unfold a5F at h;rcases i5 h with⟨c1,h⟩|⟨c1,h⟩
 ·obtain⟨y3,e2,h⟩:=d6 h
  obtain rfl:=i7 h;exact l8 [] 15 [.reg [],.reg [(3,hT),(6,hC (a5H y3))]]
   (X0 (l_ 0 4 rfl (b4 (f_ c1 (b4 (m_ 4 4 rfl (c_ (a9w s.b7 y3 e2) (b5 tr))))))))
 ·obtain rfl:=i7 h
  exact l8 [] 15 [.reg [],.reg [(3,hF)]]
   (X0 (l_ 0 4 rfl (b4 (f_ c1 (a_ tr (u5 (b5 tr)))))))
theorem a7r(s:TS)(r:Bool)(h:a5F s=some r):j9 Tryz.prog 79 [V5 s] [] (a37 r) []:=j9.none (c3r s r h) rfl rfl
def a9P(r:b8×(List m0)×(List b8)×(List b8)):LV:=P5 r.1
def a9O(r:b8×(List m0)×(List b8)×(List b8)):i9:=[(0,some (.var (n8 (f7.mk r.2.1 r.2.2.1 r.2.2.2))))]
def b3e(t:f7):List LO:=[.var (n8 t)]
def a2T(t:f7)(g:b8):Nat->Int->Option (b8×(List m0)×(List b8)×(List b8))
 |0,_=>none
 |fuel+1,i=>
  if decide (i<(t.f0.length:Int)) then
   if 0<=i/\i<(t.f0.length:Int) then
   if decide ((t.f0.getD i.toNat default).b7=g.b7) then
    if decide ((t.f0.getD i.toNat default).j8=g.j8) then
     (some (if(t.f0.getD i.toNat default).v8>g.v8 then(t.f0.getD i.toNat default).v8 else g.v8)).bind λy5=>
     if(0+t.f0.length) * 24<=140737488351232 then
     (some (t.f0.set i.toNat (b8.mk g.b7 g.j8 y5))).bind λy8=>
     some ((b8.mk g.b7 g.j8 y5),t.f_L,t.d9,y8)
     else none
    else
     a2T t g fuel (IntKind.wrap .i64 (i+1))
   else
    a2T t g fuel (IntKind.wrap .i64 (i+1))
   else none
  else
   if(0+t.f0.length) * 24<=140737488351232 then
   if(t.f0.length+(([g]:List b8)).length) * 24<=140737488351232 then
   some (g,t.f_L,t.d9,(t.f0++([g]:List b8)))
   else none
   else none
def a4s(t:f7)(g:b8):Option (b8×(List m0)×(List b8)×(List b8)):=
 a2T t g big 0
abbrev c4C(t:f7)(g:b8)(i:Int)(r:b8×(List m0)×(List b8)×(List b8)):Prop:=p3 w0 W μ0 Tryz.f80 1 1 (a9P r) (a9O r) (z6 (o9 Tryz.f80) 0) ((.ptr 0 0 0):: .any:: .any::(.ptr 1 0 0)::(.ptr 2 0 0)::(.int .i64 i)::n_ 72 []) [some (.var (n8 t)),some (.var (o4 g)),some (.var (o4 (b8.mk (TX.mk 0 0 0) (A8.mk 0 0 0 0 0 0 0 0) 0)))]
theorem c4D{w0 W μ0}(hμ:p4 μ0 1)(t:f7)(g:b8):∀(fuel:Nat) (i:Int) (r:b8×(List m0)×(List b8)×(List b8)),a2T t g fuel i=some r->c4C w0 W μ0 t g i r:=by
 intro fuel
 induction fuel with
 |zero=>intro i r h;rw[a2T] at h;cases h
 |succ fuel ih=>
  intro i r h;rw[a2T] at h;rcases i5 h with⟨C1,h⟩|⟨C1,h⟩
  ·obtain⟨G2,h⟩:=j6 h
   rcases i5 h with⟨C3,h⟩|⟨C3,h⟩
   ·rcases i5 h with⟨C4,h⟩|⟨C4,h⟩
    ·obtain⟨y5,E6,h⟩:=d6 h
     obtain⟨G7,h⟩:=j6 h;obtain⟨y8,E9,h⟩:=d6 h;obtain rfl:=i7 h;exact l8 [] 39 [.go,.reg [(6,hT)],.reg [(10,j5 (.bool (decide ((t.f0.getD i.toNat default).b7=g.b7)))),(11,hT),(22,j5 (.bool (decide ((t.f0.getD i.toNat default).j8=g.j8)))),(23,hT)],.reg [(10,j5 (.int .u8 y5))],.reg [(4,{app:=3})],.reg [(4,{os:=[(3,.gr 12 y8.length (b6 o4 default y8))]})],.reg [],.reg [],.wk [(6,.gs 3 y8.length),(56,.gs 3 y8.length),(57,.gs 3 y8.length),(62,.gs 3 y8.length)] [(0,.var [.ds 5 t.f_L.length (b6 B5 default t.f_L),.ds 12 t.d9.length (b6 o4 default t.d9),.gs 3 y8.length])],.frz 3]
      (F9 (q0 (l9 (l_ 2 3 rfl (b4 (f_ C1 tr)))) (q2 (l_ 2 3 rfl (b4 (a_ (a_ (a_ (e_ 12) G2) tr) (b4 (a_ (a_ (d8 3 12 rfl) tr) (b4 (m_ 3 12 rfl (a_ (a_ tr (a_ (v6 (t6 (t.f0.getD i.toNat default).b7 g.b7)) tr)) (f_ C3 (b4 (b5 (l_ 2 3 rfl (b4 (a_ (a_ (a_ (e_ 12) G2) tr) (b4 (a_ (a_ (d8 8 9 rfl) tr) (b4 (m_ 11 12 rfl (a_ (a_ tr (a_ (v6 ((J3 .u8) (t.f0.getD i.toNat default).j8 g.j8)) tr)) (f_ C4 tr))))))))))))))))))))) (q8 (l_ 11 12 rfl (b4 (b5 (l_ 2 3 rfl (b4 (a_ (a_ (a_ (e_ 12) G2) tr) (b4 (a_ (a_ (j4 0 1 rfl) tr) (a_ (a_ tr (a_ (n0 (LV.int .u8) E6) tr)) (b4 (a_ (a_ (a_ (e_ 1) (a_ (d8 12 12 rfl) (e_ 0))) tr) tr)))))))))))) (B6 (q2 (l_ 2 3 rfl (a_ (a_ (a_ (e_ 12) (a_ (j4 0 12 rfl) (a_ (j4 0 24 rfl) (a_ G7 (a_ (e_ 12) (e_ true)))))) tr) (b4 tr)))) (m_ 12 12 rfl (a_ (a_ (a_ (e_ 12) G2) tr) (a_ (a_ (a_ (e_ 12) (a_ (d8 12 12 rfl) (D1 G2))) (a_ (LO.Sub.trans (D5 o4 default 12 t.f0 i.toNat (b8.mk g.b7 g.j8 y5) (D1 G2) (B2 (b6 o4 default t.f0 i.toNat) 0 [.int .u8 g.b7.F3,.int .u32 g.b7.D6,.int .u32 g.b7.F5,.int .u8 g.j8.a0,.int .u8 g.j8.a1,.int .u8 g.j8.a2,.int .u8 g.j8.a3,.int .u8 g.j8.a4,.int .u8 g.j8.a5,.int .u8 g.j8.a6,.int .u8 g.j8.a7,.int .u8 y5]) (by kernel_rfl)) (LO.Sub.of_eq (a31 (λl_=> .gr 12 l_.length (b6 o4 default l_)) E9))) tr)) tr))) (V1 (e_ 1) (d8 3 3 rfl) (e_ 0)) (q0 (m_ 12 12 rfl (a_ (a_ (a_ (e_ 12) (a_ (d8 12 12 rfl) (e_ 0))) tr) tr)) (q7 (E0 (A5 3 (show t.f0.length=y8.length from by simp[<-i7 E9])) (A5 3 (show t.f0.length=y8.length from by simp[<-i7 E9])) (A5 3 (show t.f0.length=y8.length from by simp[<-i7 E9])) (A5 3 (show t.f0.length=y8.length from by simp[<-i7 E9]))) (LO.Sub.var (a:=[.ds 5 t.f_L.length (b6 B5 default t.f_L),.ds 12 t.d9.length (b6 o4 default t.d9),.gs 3 t.f0.length]) (b:=[.ds 5 t.f_L.length (b6 B5 default t.f_L),.ds 12 t.d9.length (b6 o4 default t.d9),.gs 3 y8.length]) (a_ (LV.Le.refl (.ds 5 t.f_L.length (b6 B5 default t.f_L))) (a_ (LV.Le.refl (.ds 12 t.d9.length (b6 o4 default t.d9))) (a_ (A5 3 (show t.f0.length=y8.length from by simp[<-i7 E9])) tr))))) (q0 (J2 (enc:=o4) (d:=default) (λ_=>rfl) y8) (m8 y8.length) (m8 y8.length) (q0 (m8 y8.length) (m8 y8.length) (m8 y8.length) tr)) tr))) (d8 12 12 rfl))
    ·exact n3 hμ [1,2] 26 [.go,.reg [(6,hT)],.reg [(10,j5 (.bool (decide ((t.f0.getD i.toNat default).b7=g.b7)))),(11,hT),(22,j5 (.bool (decide ((t.f0.getD i.toNat default).j8=g.j8)))),(23,hF)],.reg []]
      (V2 (l9 (l_ 2 3 rfl (b4 (f_ C1 tr)))) (q2 (l_ 2 3 rfl (b4 (a_ (a_ (a_ (e_ 12) G2) tr) (b4 (a_ (a_ (d8 3 12 rfl) tr) (b4 (m_ 3 12 rfl (a_ (a_ tr (a_ (v6 (t6 (t.f0.getD i.toNat default).b7 g.b7)) tr)) (f_ C3 (b4 (b5 (l_ 2 3 rfl (b4 (a_ (a_ (a_ (e_ 12) G2) tr) (b4 (a_ (a_ (d8 8 9 rfl) tr) (b4 (m_ 11 12 rfl (a_ (a_ tr (a_ (v6 ((J3 .u8) (t.f0.getD i.toNat default).j8 g.j8)) tr)) (f_ C4 tr)))))))))))))))))))))) (ih _ r h) ⟨rfl,rfl,rfl,tr⟩
   ·exact n3 hμ [1,2] 26 [.go,.reg [(6,hT)],.reg [(10,j5 (.bool (decide ((t.f0.getD i.toNat default).b7=g.b7)))),(11,hF)],.reg []]
     (V2 (l9 (l_ 2 3 rfl (b4 (f_ C1 tr)))) (q2 (l_ 2 3 rfl (b4 (a_ (a_ (a_ (e_ 12) G2) tr) (b4 (a_ (a_ (d8 3 12 rfl) tr) (b4 (m_ 3 12 rfl (a_ (a_ tr (a_ (v6 (t6 (t.f0.getD i.toNat default).b7 g.b7)) tr)) (f_ C3 (a_ tr (u5 (B3 (b4 tr))))))))))))))) (ih _ r h) ⟨rfl,rfl,rfl,tr⟩
  ·obtain⟨G2,h⟩:=j6 h
   obtain⟨G3,h⟩:=j6 h;obtain rfl:=i7 h;exact l8 [] 23 [.go,.reg [(6,hF)],.reg [(5,{app:=3}),(7,{os:=[(4,.gr 12 (([g]:List b8)).length (b6 o4 default ([g]:List b8)))],v:=some (.gs 4 (([g]:List b8)).length)}),(8,{app:=3,os:=[(5,.gr 12 ((t.f0++([g]:List b8))).length (b6 o4 default (t.f0++([g]:List b8))))],v:=some (.gs 5 ((t.f0++([g]:List b8))).length)})],.reg [],.frz 5]
    (F9 (E0 (l9 (l_ 2 3 rfl (b4 (f_ C1 tr)))) (l9 (l_ 2 3 rfl (a_ (a_ (a_ (e_ 12) (a_ (j4 0 12 rfl) (a_ (j4 0 24 rfl) (a_ G2 (a_ (e_ 12) (e_ true)))))) tr) (m_ 12 12 rfl (a_ (a_ (a_ (e_ true) (a_ (e_ 12) (a_ (j4 0 12 rfl) (d8 12 16777216 rfl)))) (a_ (L5 4 1 (some 1) rfl) (a_ (L6 o4 default 12 (λ_=>rfl) ([g]:List b8)) tr))) (a_ (a_ (a_ (a_ (e_ 12) (m8 (([g]:List b8)).length)) (a_ (a_ (j4 0 12 rfl) (a_ (j4 0 24 rfl) (a_ G3 (a_ (e_ 12) (e_ true))))) (a_ (e_ 12) (m8 t.f0.length)))) (a_ (J6 5 t.f0 ([g]:List b8)) (a_ (J9 o4 default 12 t.f0 ([g]:List b8)) tr))) (b5 (a_ (a_ (a_ (e_ 1) (a_ (d8 3 3 rfl) (e_ 0))) tr) tr)))))))) (m_ 12 12 rfl (a_ (a_ (a_ (e_ 12) (a_ (d8 12 12 rfl) (e_ 0))) tr) tr)) (q0 (J2 (enc:=o4) (d:=default) (λ_=>rfl) (t.f0++([g]:List b8))) (m8 ((t.f0++([g]:List b8))).length) (m8 ((t.f0++([g]:List b8))).length) tr)) (d8 12 12 rfl))
theorem b7D(t:f7)(g:b8)(r:b8×(List m0)×(List b8)×(List b8))(h:a4s t g=some r):∀σ,p8 1 σ->j9 Tryz.prog 80 (n7 σ [.ptr 0 0 0,P5 g]) (p5 σ 0 (b3e t)) ((a9P r).ren σ) (p6 σ (a9O r)):=by
 refine u7 Tryz.func80 ⟨rfl,tr⟩ ⟨rfl,tr⟩ ?_;intro w0 W μ0 hμ;unfold a4s at h;exact n3 hμ [1,2] 18 [.reg [],.reg []]
  (T7 (b5 tr)) (c4D hμ t g big _ r h) ⟨rfl,rfl,rfl,tr⟩
def a7N(r:(List TX)):LV:=.ds 3 r.length (b6 f5 default r)
def a7M(r:(List TX)):i9:=[]
def b3f(t:f7):List LO:=[.row 3 1 (λ_=>n8 t) false]
def a2U(t:f7)(x_w:b8)(i:Int)(l:List TX)(k0:Int->(List TX)->Option ((List TX))):Nat->Int->Option ((List TX))
 |0,_=>none
 |fuel+1,x_k=>
  if decide (x_k<(l.length:Int)) then
   if 0<=x_k/\x_k<(l.length:Int) then
   (a1C t (l.getD x_k.toNat default) (t.d9.getD i.toNat default).b7).bind λy4=>
   if y4 then
    a2U t x_w i l k0 fuel (IntKind.wrap .i64 (x_k+1))
   else
    if 0<=(0:Int)/\0<=x_k/\x_k<=(l.length:Int) then
    if(0+((l.take x_k.toNat)).length) * 12<=140737488351232 then
    if(((l.take x_k.toNat)).length+(([(t.d9.getD i.toNat default).b7]:List TX)).length) * 12<=140737488351232 then
    if 0<=x_k/\x_k<=(l.length:Int)/\(l.length:Int)<=(l.length:Int) then
    if((((l.take x_k.toNat)++([(t.d9.getD i.toNat default).b7]:List TX))).length+((l.drop x_k.toNat)).length) * 12<=140737488351232 then
    k0 (IntKind.wrap .i64 (i+1)) (((l.take x_k.toNat)++([(t.d9.getD i.toNat default).b7]:List TX))++(l.drop x_k.toNat))
    else none
    else none
    else none
    else none
    else none
   else none
  else
   if 0<=(0:Int)/\0<=x_k/\x_k<=(l.length:Int) then
   if(0+((l.take x_k.toNat)).length) * 12<=140737488351232 then
   if(((l.take x_k.toNat)).length+(([(t.d9.getD i.toNat default).b7]:List TX)).length) * 12<=140737488351232 then
   if 0<=x_k/\x_k<=(l.length:Int)/\(l.length:Int)<=(l.length:Int) then
   if((((l.take x_k.toNat)++([(t.d9.getD i.toNat default).b7]:List TX))).length+((l.drop x_k.toNat)).length) * 12<=140737488351232 then
   k0 (IntKind.wrap .i64 (i+1)) (((l.take x_k.toNat)++([(t.d9.getD i.toNat default).b7]:List TX))++(l.drop x_k.toNat))
   else none
   else none
   else none
   else none
   else none
def D_(t:f7)(x_w:b8):Nat->Int->(List TX)->Option ((List TX))
 |0,_,_=>none
 |fuel+1,i,l=>
  if decide (i<(t.d9.length:Int)) then
   if 0<=i/\i<(t.d9.length:Int) then
   if !decide ((t.d9.getD i.toNat default).j8=x_w.j8) then
    D_ t x_w fuel (IntKind.wrap .i64 (i+1)) l
   else
    (a2V (t.d9.getD i.toNat default) x_w).bind λy5=>
    if y5 then
     D_ t x_w fuel (IntKind.wrap .i64 (i+1)) l
    else
     (Y6 t (t.d9.getD i.toNat default).b7).bind λy8=>
     if 0<=y8/\y8<(t.f_L.length:Int) then
     if(t.f_L.getD y8.toNat default).L_ then
      D_ t x_w fuel (IntKind.wrap .i64 (i+1)) l
     else
      (a1C t x_w.b7 (t.d9.getD i.toNat default).b7).bind λy12=>
      if !y12 then
       D_ t x_w fuel (IntKind.wrap .i64 (i+1)) l
      else
       a2U t x_w i l (D_ t x_w fuel) big 0
     else none
   else none
  else
   some l
def a4t(t:f7)(x_w:b8):Option ((List TX)):=
 D_ t x_w big 0 ([]:List TX)
abbrev c4E(t:f7)(x_w:b8)(i:Int)(l:List TX)(x_k:Int)(r:(List TX)):Prop:=p3 w0 W μ0 Tryz.f81 1 1 (a7N r) (a7M r) (z6 (o9 Tryz.f81) 1) ((.ptr 0 0 0):: .any:: .any::(.ptr 1 0 0):: .any::(.gs 2 l.length)::(.int .i64 i)::(.ptr 3 0 0)::(.int .i64 x_k)::n_ 77 []) [some (.row 3 1 (λ_=>n8 t) false),some (.var (o4 x_w)),some (.gr 3 l.length (b6 f5 default l)),some (.var (o4 (t.d9.getD i.toNat default)))]
abbrev b7E(t:f7)(x_w:b8)(i:Int)(l:List TX)(r:(List TX)):Prop:=p3 w0 W μ0 Tryz.f81 1 1 (a7N r) (a7M r) (z6 (o9 Tryz.f81) 0) ((.ptr 0 0 0):: .any:: .any::(.ptr 1 0 0):: .any::(.gs 2 l.length)::(.int .i64 i)::n_ 79 []) [some (.row 3 1 (λ_=>n8 t) false),some (.var (o4 x_w)),some (.gr 3 l.length (b6 f5 default l))]
theorem c4G{w0 W μ0}(hμ:p4 μ0 1)(t:f7)(x_w:b8)(i:Int)(l:List TX)(k0:Int->(List TX)->Option ((List TX)))(hk0:∀(i:Int) (l:List TX) (r:(List TX)),k0 i l=some r->b7E w0 W μ0 t x_w i l r):∀(fuel:Nat) (x_k:Int) (r:(List TX)),a2U t x_w i l k0 fuel x_k=some r->c4E w0 W μ0 t x_w i l x_k r:=by
 intro fuel
 induction fuel with
 |zero=>intro x_k r h;rw[a2U] at h;cases h
 |succ fuel ih=>
  intro x_k r h;rw[a2U] at h;rcases i5 h with⟨C1,h⟩|⟨C1,h⟩
  ·obtain⟨G2,h⟩:=j6 h
   obtain⟨y4,E3,h⟩:=d6 h;rcases i5 h with⟨C5,h⟩|⟨C5,h⟩
   ·exact n3 hμ [1,2,3] 20 [.go,.reg [(4,hT),(12,i6 (g9 [0] (a0T y4) (a0R t) (a0S y4))),(13,hT)],.reg []]
     (X1 (l9 (f_ C1 (b4 (b5 (o8 3 G2 tr (b4 (m_ 3 12 rfl (a_ (a_ (a_ (a1D t (l.getD x_k.toNat default) (t.d9.getD i.toNat default).b7 y4 E3 (f8 [0]) i1) (a_ (l0 (.row 3 1 (λ_=>n8 t) false)) tr)) tr) (f_ C5 tr)))))))))) (ih _ r h) ⟨λ_ _=>rfl,rfl,λ_ _=>rfl,rfl,tr⟩
   ·obtain⟨G6,h⟩:=j6 h
    obtain⟨G7,h⟩:=j6 h;obtain⟨G8,h⟩:=j6 h;obtain⟨G9,h⟩:=j6 h;obtain⟨G10,h⟩:=j6 h;exact n3 hμ [1,7] 22 [.go,.reg [(4,hT),(12,i6 (g9 [0] (a0T y4) (a0R t) (a0S y4))),(13,hF)],.frz 2,.reg [(2,j5 (.ds 3 ((l.take x_k.toNat)).length (b6 f5 default (l.take x_k.toNat)))),(3,{app:=3}),(6,{os:=[(5,.gr 3 (([(t.d9.getD i.toNat default).b7]:List TX)).length (b6 f5 default ([(t.d9.getD i.toNat default).b7]:List TX)))],v:=some (.gs 5 (([(t.d9.getD i.toNat default).b7]:List TX)).length)}),(7,{app:=3,os:=[(6,.gr 3 (((l.take x_k.toNat)++([(t.d9.getD i.toNat default).b7]:List TX))).length (b6 f5 default ((l.take x_k.toNat)++([(t.d9.getD i.toNat default).b7]:List TX))))],v:=some (.gs 6 (((l.take x_k.toNat)++([(t.d9.getD i.toNat default).b7]:List TX))).length)}),(10,j5 (.ds 3 ((l.drop x_k.toNat)).length (b6 f5 default (l.drop x_k.toNat)))),(11,{app:=3,os:=[(7,.gr 3 ((((l.take x_k.toNat)++([(t.d9.getD i.toNat default).b7]:List TX))++(l.drop x_k.toNat))).length (b6 f5 default (((l.take x_k.toNat)++([(t.d9.getD i.toNat default).b7]:List TX))++(l.drop x_k.toNat))))],v:=some (.gs 7 ((((l.take x_k.toNat)++([(t.d9.getD i.toNat default).b7]:List TX))++(l.drop x_k.toNat))).length)})],.reg []]
     (R6 (l9 (f_ C1 (b4 (b5 (o8 3 G2 tr (b4 (m_ 3 12 rfl (a_ (a_ (a_ (a1D t (l.getD x_k.toNat default) (t.d9.getD i.toNat default).b7 y4 E3 (f8 [0]) i1) (a_ (l0 (.row 3 1 (λ_=>n8 t) false)) tr)) tr) (f_ C5 tr))))))))) (q0 (J2 (enc:=f5) (d:=default) (λ_=>rfl) l) (m8 l.length) (m8 l.length) (q7 (m8 l.length) (a32 (n8 t) 2 3 l.length (b6 f5 default l) rfl))) (b5 (q5 (a_ (e_ 3) G6) (a1n f5 default 3 l x_k.toNat (S7 G6.2.2)) (q9 (q0 (e_ 3) (j4 0 3 rfl) (j4 0 12 rfl) (a_ G7 (a_ (e_ 3) (e_ true)))) (q8 (m_ 3 12 rfl (a_ (a_ (a_ (e_ true) (a_ (e_ 3) (a_ (j4 0 3 rfl) (d8 3 16777216 rfl)))) (a_ (L5 5 1 (some 1) rfl) (a_ (L6 f5 default 3 (λ_=>rfl) ([(t.d9.getD i.toNat default).b7]:List TX)) tr))) (a_ (a_ (a_ (a_ (e_ 3) (m8 (([(t.d9.getD i.toNat default).b7]:List TX)).length)) (a_ (a_ (j4 0 3 rfl) (a_ (j4 0 12 rfl) (a_ G8 (a_ (e_ 3) (e_ true))))) (a_ (e_ 3) (m8 ((l.take x_k.toNat)).length)))) (a_ (J6 6 (l.take x_k.toNat) ([(t.d9.getD i.toNat default).b7]:List TX)) (a_ (J9 f5 default 3 (l.take x_k.toNat) ([(t.d9.getD i.toNat default).b7]:List TX)) tr))) (b5 (a_ (a_ (a_ (e_ 3) G9) (a_ (a2p f5 default 3 l x_k.toNat (S7 G9.2.1)) tr)) (a_ (a_ (a_ (e_ 3) (a_ (a_ (j4 0 3 rfl) (a_ (j4 0 12 rfl) (a_ G10 (a_ (e_ 3) (e_ true))))) (a_ (e_ 3) (m8 (((l.take x_k.toNat)++([(t.d9.getD i.toNat default).b7]:List TX))).length)))) (a_ (J6 7 ((l.take x_k.toNat)++([(t.d9.getD i.toNat default).b7]:List TX)) (l.drop x_k.toNat)) (a_ (J9 f5 default 3 ((l.take x_k.toNat)++([(t.d9.getD i.toNat default).b7]:List TX)) (l.drop x_k.toNat)) tr))) (b4 tr)))))))))))) (hk0 _ _ r h) ⟨λ_ _=>rfl,rfl,λ_ _=>rfl,tr⟩
  ·obtain⟨G2,h⟩:=j6 h
   obtain⟨G3,h⟩:=j6 h;obtain⟨G4,h⟩:=j6 h;obtain⟨G5,h⟩:=j6 h;obtain⟨G6,h⟩:=j6 h;exact n3 hμ [1,7] 22 [.go,.reg [(4,hF)],.frz 2,.reg [(2,j5 (.ds 3 ((l.take x_k.toNat)).length (b6 f5 default (l.take x_k.toNat)))),(3,{app:=3}),(6,{os:=[(5,.gr 3 (([(t.d9.getD i.toNat default).b7]:List TX)).length (b6 f5 default ([(t.d9.getD i.toNat default).b7]:List TX)))],v:=some (.gs 5 (([(t.d9.getD i.toNat default).b7]:List TX)).length)}),(7,{app:=3,os:=[(6,.gr 3 (((l.take x_k.toNat)++([(t.d9.getD i.toNat default).b7]:List TX))).length (b6 f5 default ((l.take x_k.toNat)++([(t.d9.getD i.toNat default).b7]:List TX))))],v:=some (.gs 6 (((l.take x_k.toNat)++([(t.d9.getD i.toNat default).b7]:List TX))).length)}),(10,j5 (.ds 3 ((l.drop x_k.toNat)).length (b6 f5 default (l.drop x_k.toNat)))),(11,{app:=3,os:=[(7,.gr 3 ((((l.take x_k.toNat)++([(t.d9.getD i.toNat default).b7]:List TX))++(l.drop x_k.toNat))).length (b6 f5 default (((l.take x_k.toNat)++([(t.d9.getD i.toNat default).b7]:List TX))++(l.drop x_k.toNat))))],v:=some (.gs 7 ((((l.take x_k.toNat)++([(t.d9.getD i.toNat default).b7]:List TX))++(l.drop x_k.toNat))).length)})],.reg []]
    (R6 (l9 (f_ C1 (B3 (b4 tr)))) (E0 (J2 (enc:=f5) (d:=default) (λ_=>rfl) l) (m8 l.length) (m8 l.length) (a32 (n8 t) 2 3 l.length (b6 f5 default l) rfl)) (b5 (q5 (a_ (e_ 3) G2) (a1n f5 default 3 l x_k.toNat (S7 G2.2.2)) (q9 (q0 (e_ 3) (j4 0 3 rfl) (j4 0 12 rfl) (a_ G3 (a_ (e_ 3) (e_ true)))) (q8 (m_ 3 12 rfl (a_ (a_ (a_ (e_ true) (a_ (e_ 3) (a_ (j4 0 3 rfl) (d8 3 16777216 rfl)))) (a_ (L5 5 1 (some 1) rfl) (a_ (L6 f5 default 3 (λ_=>rfl) ([(t.d9.getD i.toNat default).b7]:List TX)) tr))) (a_ (a_ (a_ (a_ (e_ 3) (m8 (([(t.d9.getD i.toNat default).b7]:List TX)).length)) (a_ (a_ (j4 0 3 rfl) (a_ (j4 0 12 rfl) (a_ G4 (a_ (e_ 3) (e_ true))))) (a_ (e_ 3) (m8 ((l.take x_k.toNat)).length)))) (a_ (J6 6 (l.take x_k.toNat) ([(t.d9.getD i.toNat default).b7]:List TX)) (a_ (J9 f5 default 3 (l.take x_k.toNat) ([(t.d9.getD i.toNat default).b7]:List TX)) tr))) (b5 (a_ (a_ (a_ (e_ 3) G5) (a_ (a2p f5 default 3 l x_k.toNat (S7 G5.2.1)) tr)) (a_ (a_ (a_ (e_ 3) (a_ (a_ (j4 0 3 rfl) (a_ (j4 0 12 rfl) (a_ G6 (a_ (e_ 3) (e_ true))))) (a_ (e_ 3) (m8 (((l.take x_k.toNat)++([(t.d9.getD i.toNat default).b7]:List TX))).length)))) (a_ (J6 7 ((l.take x_k.toNat)++([(t.d9.getD i.toNat default).b7]:List TX)) (l.drop x_k.toNat)) (a_ (J9 f5 default 3 ((l.take x_k.toNat)++([(t.d9.getD i.toNat default).b7]:List TX)) (l.drop x_k.toNat)) tr))) (b4 tr)))))))))))) (hk0 _ _ r h) ⟨λ_ _=>rfl,rfl,λ_ _=>rfl,tr⟩
theorem c4F{w0 W μ0}(hμ:p4 μ0 1)(t:f7)(x_w:b8):∀(fuel:Nat) (i:Int) (l:List TX) (r:(List TX)),D_ t x_w fuel i l=some r->b7E w0 W μ0 t x_w i l r:=by
 intro fuel
 induction fuel with
 |zero=>intro i l r h;rw[D_] at h;cases h
 |succ fuel ih=>
  intro i l r h;rw[D_] at h;rcases i5 h with⟨C1,h⟩|⟨C1,h⟩
  ·obtain⟨G2,h⟩:=j6 h
   rcases i5 h with⟨C3,h⟩|⟨C3,h⟩
   ·exact n3 hμ [1,2] 29 [.go,.reg [(6,hT)],.reg [],.reg [(4,j5 (.bool (!decide ((t.d9.getD i.toNat default).j8=x_w.j8)))),(5,hT)],.reg []]
     (R6 (J1 (j4 0 1 rfl) (j4 1 3 rfl) (f_ C1 tr)) (O9 (j4 0 1 rfl) (j4 1 3 rfl) (e_ 12) G2 (K1 (d8 12 12 rfl) (e_ 12) (d8 12 12 rfl) (e_ 0))) (q8 (m_ 11 12 rfl (b4 (m_ 11 12 rfl (a_ (a_ tr (a_ (v6 (congrArg not ((J3 .u8) (t.d9.getD i.toNat default).j8 x_w.j8))) tr)) (f_ C3 (a_ tr (u5 (b5 (a_ tr (u5 (B3 (b5 (a_ tr (u5 (z8 (b4 tr)))))))))))))))))) (ih _ _ r h) ⟨λ_ _=>rfl,rfl,λ_ _=>rfl,tr⟩
   ·obtain⟨y5,E4,h⟩:=d6 h
    rcases i5 h with⟨C6,h⟩|⟨C6,h⟩
    ·exact n3 hμ [1,2] 29 [.go,.reg [(6,hT)],.reg [],.reg [(4,j5 (.bool (!decide ((t.d9.getD i.toNat default).j8=x_w.j8)))),(5,hF),(8,hC (a0p y5)),(10,hT)],.reg []]
      (R6 (J1 (j4 0 1 rfl) (j4 1 3 rfl) (f_ C1 tr)) (O9 (j4 0 1 rfl) (j4 1 3 rfl) (e_ 12) G2 (K1 (d8 12 12 rfl) (e_ 12) (d8 12 12 rfl) (e_ 0))) (q8 (m_ 11 12 rfl (b4 (m_ 11 12 rfl (a_ (a_ tr (a_ (v6 (congrArg not ((J3 .u8) (t.d9.getD i.toNat default).j8 x_w.j8))) tr)) (f_ C3 (m_ 12 12 rfl (m_ 12 12 rfl (a_ (a_ (a_ (a1F (t.d9.getD i.toNat default) x_w y5 E4) tr) tr) (b4 (f_ C6 (a_ tr (u5 (B3 (b5 (a_ tr (u5 (z8 (b4 tr)))))))))))))))))))) (ih _ _ r h) ⟨λ_ _=>rfl,rfl,λ_ _=>rfl,tr⟩
    ·obtain⟨y8,E7,h⟩:=d6 h
     obtain⟨G9,h⟩:=j6 h;rcases i5 h with⟨C10,h⟩|⟨C10,h⟩
     ·exact n3 hμ [1,2] 29 [.go,.reg [(6,hT)],.reg [],.reg [(4,j5 (.bool (!decide ((t.d9.getD i.toNat default).j8=x_w.j8)))),(5,hF),(8,hC (a0p y5)),(10,hF),(18,i6 (g9 [0] (R4 y8) (S5 t) (R3 y8))),(23,hT)],.reg []]
       (R6 (J1 (j4 0 1 rfl) (j4 1 3 rfl) (f_ C1 tr)) (O9 (j4 0 1 rfl) (j4 1 3 rfl) (e_ 12) G2 (K1 (d8 12 12 rfl) (e_ 12) (d8 12 12 rfl) (e_ 0))) (q8 (m_ 11 12 rfl (b4 (m_ 11 12 rfl (a_ (a_ tr (a_ (v6 (congrArg not ((J3 .u8) (t.d9.getD i.toNat default).j8 x_w.j8))) tr)) (f_ C3 (m_ 12 12 rfl (m_ 12 12 rfl (a_ (a_ (a_ (a1F (t.d9.getD i.toNat default) x_w y5 E4) tr) tr) (b4 (f_ C6 (b4 (b5 (a_ (a_ (a_ (j4 0 1 rfl) (j4 0 3 rfl)) tr) (b5 (m_ 3 12 rfl (a_ (a_ (a_ (T6 t (t.d9.getD i.toNat default).b7 y8 E7 (f8 [0]) i1) (a_ (l0 (.row 3 1 (λ_=>n8 t) false)) tr)) tr) (a_ (a_ (a_ (e_ 5) G9) tr) (b4 (a_ (a_ (j4 0 1 rfl) tr) (b4 (f_ C10 (a_ tr (u5 (z8 (b4 tr))))))))))))))))))))))))))) (ih _ _ r h) ⟨λ_ _=>rfl,rfl,λ_ _=>rfl,tr⟩
     ·obtain⟨y12,E11,h⟩:=d6 h
      rcases i5 h with⟨C13,h⟩|⟨C13,h⟩
      ·exact n3 hμ [1,2] 29 [.go,.reg [(6,hT)],.reg [],.reg [(4,j5 (.bool (!decide ((t.d9.getD i.toNat default).j8=x_w.j8)))),(5,hF),(8,hC (a0p y5)),(10,hF),(18,i6 (g9 [0] (R4 y8) (S5 t) (R3 y8))),(23,hF),(29,i6 (g9 [0] (a0T y12) (a0R t) (a0S y12))),(31,hT)],.reg []]
        (R6 (J1 (j4 0 1 rfl) (j4 1 3 rfl) (f_ C1 tr)) (O9 (j4 0 1 rfl) (j4 1 3 rfl) (e_ 12) G2 (K1 (d8 12 12 rfl) (e_ 12) (d8 12 12 rfl) (e_ 0))) (q8 (m_ 11 12 rfl (b4 (m_ 11 12 rfl (a_ (a_ tr (a_ (v6 (congrArg not ((J3 .u8) (t.d9.getD i.toNat default).j8 x_w.j8))) tr)) (f_ C3 (m_ 12 12 rfl (m_ 12 12 rfl (a_ (a_ (a_ (a1F (t.d9.getD i.toNat default) x_w y5 E4) tr) tr) (b4 (f_ C6 (b4 (b5 (a_ (a_ (a_ (j4 0 1 rfl) (j4 0 3 rfl)) tr) (b5 (m_ 3 12 rfl (a_ (a_ (a_ (T6 t (t.d9.getD i.toNat default).b7 y8 E7 (f8 [0]) i1) (a_ (l0 (.row 3 1 (λ_=>n8 t) false)) tr)) tr) (a_ (a_ (a_ (e_ 5) G9) tr) (b4 (a_ (a_ (j4 0 1 rfl) tr) (b4 (f_ C10 (b5 (m_ 3 12 rfl (b4 (m_ 3 12 rfl (a_ (a_ (a_ (a1D t x_w.b7 (t.d9.getD i.toNat default).b7 y12 E11 (f8 [0]) i1) (a_ (l0 (.row 3 1 (λ_=>n8 t) false)) tr)) tr) (b4 (f_ C13 tr)))))))))))))))))))))))))))))) (ih _ _ r h) ⟨λ_ _=>rfl,rfl,λ_ _=>rfl,tr⟩
      ·exact n3 hμ [1,2,3] 33 [.go,.reg [(6,hT)],.reg [],.reg [(4,j5 (.bool (!decide ((t.d9.getD i.toNat default).j8=x_w.j8)))),(5,hF),(8,hC (a0p y5)),(10,hF),(18,i6 (g9 [0] (R4 y8) (S5 t) (R3 y8))),(23,hF),(29,i6 (g9 [0] (a0T y12) (a0R t) (a0S y12))),(31,hF)],.reg []]
        (E0 (J1 (j4 0 1 rfl) (j4 1 3 rfl) (f_ C1 tr)) (O9 (j4 0 1 rfl) (j4 1 3 rfl) (e_ 12) G2 (K1 (d8 12 12 rfl) (e_ 12) (d8 12 12 rfl) (e_ 0))) (q8 (m_ 11 12 rfl (b4 (m_ 11 12 rfl (a_ (a_ tr (a_ (v6 (congrArg not ((J3 .u8) (t.d9.getD i.toNat default).j8 x_w.j8))) tr)) (f_ C3 (m_ 12 12 rfl (m_ 12 12 rfl (a_ (a_ (a_ (a1F (t.d9.getD i.toNat default) x_w y5 E4) tr) tr) (b4 (f_ C6 (b4 (b5 (a_ (a_ (a_ (j4 0 1 rfl) (j4 0 3 rfl)) tr) (b5 (m_ 3 12 rfl (a_ (a_ (a_ (T6 t (t.d9.getD i.toNat default).b7 y8 E7 (f8 [0]) i1) (a_ (l0 (.row 3 1 (λ_=>n8 t) false)) tr)) tr) (a_ (a_ (a_ (e_ 5) G9) tr) (b4 (a_ (a_ (j4 0 1 rfl) tr) (b4 (f_ C10 (b5 (m_ 3 12 rfl (b4 (m_ 3 12 rfl (a_ (a_ (a_ (a1D t x_w.b7 (t.d9.getD i.toNat default).b7 y12 E11 (f8 [0]) i1) (a_ (l0 (.row 3 1 (λ_=>n8 t) false)) tr)) tr) (b4 (f_ C13 tr))))))))))))))))))))))))))))) (q8 tr)) (c4G hμ t x_w i l (D_ t x_w fuel) ih big _ r h) ⟨λ_ _=>rfl,rfl,λ_ _=>rfl,rfl,tr⟩
  ·obtain rfl:=i7 h
   exact l8 [] 20 [.go,.reg [(6,hF)],.reg [],.frz 2]
    (q3 (B6 (J1 (j4 0 1 rfl) (j4 1 3 rfl) (f_ C1 tr)) tr (q0 (J2 (enc:=f5) (d:=default) (λ_=>rfl) l) (m8 l.length) (m8 l.length) (q7 (m8 l.length) (a32 (n8 t) 2 3 l.length (b6 f5 default l) rfl))) tr))
theorem b7F(t:f7)(x_w:b8)(r:(List TX))(h:a4t t x_w=some r):∀σ,p8 1 σ->j9 Tryz.prog 81 (n7 σ [.ptr 0 0 0,P5 x_w]) (p5 σ 0 (b3f t)) ((a7N r).ren σ) (p6 σ (a7M r)):=by
 refine u7 Tryz.func81 ⟨λ_ _=>rfl,tr⟩ tr ?_;intro w0 W μ0 hμ;unfold a4t at h;exact n3 hμ [1,2] 22 [.reg [(1,j5 (.ds 3 (([]:List TX)).length (b6 f5 default ([]:List TX))))],.void (.gr 3 (([]:List TX)).length (b6 f5 default ([]:List TX))),.reg [(0,j5 (.gs 2 (([]:List TX)).length))],.reg []]
  (E0 (q8 (D4 (A6 3 (b6 f5 default [])))) (e_ 0) (D4 (q_ 2)) (q8 tr)) (c4F hμ t x_w big _ _ r h) ⟨λ_ _=>rfl,rfl,λ_ _=>rfl,tr⟩
def a5S(r:w8×Int×(List m0)×(List b8)×(List b8)):LV:=.tup [a1Y r.1,.int .i64 r.2.1]
def a5R(r:w8×Int×(List m0)×(List b8)×(List b8)):i9:=[(0,some (.var (n8 (f7.mk r.2.2.1 r.2.2.2.1 r.2.2.2.2))))]
def b7q(t:f7):List LO:=[.var (n8 t)]
def a5Q(t:f7)(s:TS)(x_k:A8 Int)(mode:Int):Option (w8×Int×(List m0)×(List b8)×(List b8)):=
 some ((w8.mk ([]:List TX) ([]:List b8)),0,t.f_L,t.d9,t.f0)
def a0O(t:f7)(s:TS)(x_k:A8 Int)(mode:Int):Nat->Int->(List m0)->(List b8)->(List b8)->(List TX)->Option (w8×Int×(List m0)×(List b8)×(List b8))
 |0,_,_,_,_,_=>none
 |fuel+1,j,L,Held,Waits,Wounded=>
  if decide (j<(Wounded.length:Int)) then
   if 0<=j/\j<(Wounded.length:Int) then
   (a4r (f7.mk L Held Waits) (Wounded.getD j.toNat default)).bind λy4=>
   a0O t s x_k mode fuel (IntKind.wrap .i64 (j+1)) y4.2.2 y4.1 y4.2.1 Wounded
   else none
  else
   (a1E (f7.mk L Held Waits)).bind λy3=>
   some ((w8.mk Wounded y3.1),0,y3.2.1,y3.2.2.1,y3.2.2.2)
def a2I(t:f7)(s:TS)(x_k:A8 Int)(mode:Int)(y10:Int):Option (w8×Int×(List m0)×(List b8)×(List b8)):=
 if decide (y10<0) then
  (a7J t (m0.mk s false)).bind λy3=>
  (a4s (f7.mk y3.2.2 y3.1 y3.2.1) (b8.mk s.b7 x_k mode)).bind λy5=>
  (a4t (f7.mk y5.2.1 y5.2.2.1 y5.2.2.2) y5.1).bind λy7=>
  a0O t s x_k mode big 0 y5.2.1 y5.2.2.1 y5.2.2.2 y7
 else
  (a4s t (b8.mk s.b7 x_k mode)).bind λy4=>
  (a4t (f7.mk y4.2.1 y4.2.2.1 y4.2.2.2) y4.1).bind λy6=>
  a0O t s x_k mode big 0 y4.2.1 y4.2.2.1 y4.2.2.2 y6
def a7z(t:f7)(s:TS)(x_k:A8 Int)(mode:Int)(y10:Int):Option (w8×Int×(List m0)×(List b8)×(List b8)):=
 if decide (0<=y10) then
  if 0<=y10/\y10<(t.f_L.length:Int) then
  if(t.f_L.getD y10.toNat default).L_ then
   some ((w8.mk ([]:List TX) ([]:List b8)),11,t.f_L,t.d9,t.f0)
  else
   if decide (y10<0) then
    if decide (64<=(t.f_L.length:Int)) then
     some ((w8.mk ([]:List TX) ([]:List b8)),5,t.f_L,t.d9,t.f0)
    else
     (a0n t s.b7 x_k).bind λy7=>
     if decide (mode<=y7) then
      a5Q t s x_k mode
     else
      a2I t s x_k mode y10
   else
    (a0n t s.b7 x_k).bind λy6=>
    if decide (mode<=y6) then
     a5Q t s x_k mode
    else
     a2I t s x_k mode y10
  else none
 else
  if decide (y10<0) then
   if decide (64<=(t.f_L.length:Int)) then
    some ((w8.mk ([]:List TX) ([]:List b8)),5,t.f_L,t.d9,t.f0)
   else
    (a0n t s.b7 x_k).bind λy5=>
    if decide (mode<=y5) then
     a5Q t s x_k mode
    else
     a2I t s x_k mode y10
  else
   (a0n t s.b7 x_k).bind λy4=>
   if decide (mode<=y4) then
    a5Q t s x_k mode
   else
    a2I t s x_k mode y10
def a7y(t:f7)(s:TS)(x_k:A8 Int)(mode:Int):Option (w8×Int×(List m0)×(List b8)×(List b8)):=
 (a5F s).bind λy2=>
 if !y2 then
  some ((w8.mk ([]:List TX) ([]:List b8)),1,t.f_L,t.d9,t.f0)
 else
  (a4c x_k).bind λy5=>
  if !y5 then
   some ((w8.mk ([]:List TX) ([]:List b8)),1,t.f_L,t.d9,t.f0)
  else
   if decide (mode<1) then
    some ((w8.mk ([]:List TX) ([]:List b8)),1,t.f_L,t.d9,t.f0)
   else
    if decide (2<mode) then
     some ((w8.mk ([]:List TX) ([]:List b8)),1,t.f_L,t.d9,t.f0)
    else
     (Y6 t s.b7).bind λy10=>
     a7z t s x_k mode y10
abbrev c3Z(j:Int)(L:List m0)(Held Waits:List b8)(Wounded:List TX)(r:w8×Int×(List m0)×(List b8)×(List b8)):Prop:=p3 w0 W μ0 Tryz.f50 1 1 (a5S r) (a5R r) (z6 (o9 Tryz.f50) 0) ((.ptr 0 0 0)::n_ 7 ((.ptr 1 0 0):: .any:: .any:: .any::(.ptr 2 0 0)::(.int .i64 j)::n_ 91 [])) [some (.var (n8 (f7.mk L Held Waits))),some (.var [.nilsl,.nilsl]),some (.var [.ds 3 Wounded.length (b6 f5 default Wounded),.nilsl])]
theorem a9F{w0 W μ0}(hμ:p4 μ0 1)(t:f7)(s:TS)(x_k:A8 Int)(mode:Int)(r:w8×Int×(List m0)×(List b8)×(List b8))(h:a5Q t s x_k mode=some r):p3 w0 W μ0 Tryz.f50 1 1 (a5S r) (a5R r) (z7 (o9 Tryz.f50) 9) (n_ 8 ((.ptr 1 0 0)::n_ 96 [])) [some (.var (n8 t)),some (.var [.nilsl,.nilsl])]:=by
 unfold a5Q at h;obtain rfl:=i7 h;exact l8 [] 13 [.reg [],.wk [] [(1,.var [.ds 3 (([]:List TX)).length (b6 f5 default ([]:List TX)),.nilsl])],.wk [] [(1,.var (U2 (w8.mk ([]:List TX) ([]:List b8))))]]
  (F9 (W9 (R5 (e_ true) (e_ 2) (d8 2 2 rfl) (e_ 0)) (LO.Sub.var (a:=[.nilsl,.nilsl]) (b:=[.ds 3 (([]:List TX)).length (b6 f5 default ([]:List TX)),.nilsl]) (a_ (A6 3 (b6 f5 default [])) (a_ (LV.Le.refl (.nilsl)) tr))) (LO.Sub.var (a:=[.ds 3 (([]:List TX)).length (b6 f5 default ([]:List TX)),.nilsl]) (b:=[.ds 3 (([]:List TX)).length (b6 f5 default ([]:List TX)),.ds 12 (([]:List b8)).length (b6 o4 default ([]:List b8))]) (a_ (LV.Le.refl (.ds 3 (([]:List TX)).length (b6 f5 default ([]:List TX)))) (a_ (A6 12 (b6 o4 default [])) tr)))) (d8 2 2 rfl))
theorem b7p{w0 W μ0}(hμ:p4 μ0 1)(t:f7)(s:TS)(x_k:A8 Int)(mode:Int):∀(fuel:Nat) (j:Int) (L:List m0) (Held Waits:List b8) (Wounded:List TX) (r:w8×Int×(List m0)×(List b8)×(List b8)),a0O t s x_k mode fuel j L Held Waits Wounded=some r->c3Z w0 W μ0 j L Held Waits Wounded r:=by
 intro fuel
 induction fuel with
 |zero=>intro j L Held Waits Wounded r h;rw[a0O] at h;cases h
 |succ fuel ih=>
  intro j L Held Waits Wounded r h;rw[a0O] at h;rcases i5 h with⟨C1,h⟩|⟨C1,h⟩
  ·obtain⟨G2,h⟩:=j6 h
   obtain⟨y4,E3,h⟩:=d6 h;exact n3 hμ [1,2] 24 [.go,.reg [(4,hT)],.reg [(6,i6 (g9 [0,3] (b3b y4) (b29 (f7.mk L Held Waits)) (b3a y4)))],.reg [],.frz 3]
    (J4 (l_ 0 2 rfl (b4 (f_ C1 tr))) (l_ 0 2 rfl (b4 (a_ (a_ (a_ (e_ 3) G2) tr) (a_ (a_ (d8 3 3 rfl) tr) (a_ (a_ (a_ (b7A (f7.mk L Held Waits) (Wounded.getD j.toNat default) y4 E3 (f8 [0,3]) i1) (a_ (l0 (.var (n8 (f7.mk L Held Waits)))) tr)) tr) tr))))) (q2 tr) (F8 (J2 (enc:=B5) (d:=default) (λ_=>rfl) y4.2.2) (m8 y4.2.2.length))) (ih _ _ _ _ _ r h) ⟨rfl,rfl,rfl,tr⟩
  ·obtain⟨y3,E2,h⟩:=d6 h
   obtain rfl:=i7 h;exact l8 [] 22 [.go,.reg [(4,hF)],.reg [(1,i6 (g9 [0] (a56 y3) (a9N (f7.mk L Held Waits)) (a54 y3)))],.reg []]
    (F9 (q6 (b5 (l_ 0 2 rfl (b4 (f_ C1 tr)))) (q4 (b3d (f7.mk L Held Waits) y3 E2 (f8 [0]) i1) (q3 (l0 (.var (n8 (f7.mk L Held Waits))))) (q8 (q4 (e_ 1) (a_ (d8 2 2 rfl) (e_ 0)) tr))) (m_ 2 2 rfl (a_ (a_ (a_ (e_ 2) (a_ (d8 2 2 rfl) (e_ 0))) tr) (b4 tr))) tr) (d8 2 2 rfl))
theorem a9E{w0 W μ0}(hμ:p4 μ0 1)(t:f7)(s:TS)(x_k:A8 Int)(mode:Int)(y10:Int)(r:w8×Int×(List m0)×(List b8)×(List b8))(h:a2I t s x_k mode y10=some r):p3 w0 W μ0 Tryz.f50 1 1 (a5S r) (a5R r) (z7 (o9 Tryz.f50) 10) ((.ptr 0 0 0):: .any:: .any::(.int .u8 mode):: .any::(.ptr 1 0 0)::(.ptr 2 0 0):: .any::(.ptr 3 0 0):: .any::(.int .i64 y10)::n_ 94 []) [some (.var (n8 t)),some (.var (a6C s)),some (.var [.int .u8 x_k.a0,.int .u8 x_k.a1,.int .u8 x_k.a2,.int .u8 x_k.a3,.int .u8 x_k.a4,.int .u8 x_k.a5,.int .u8 x_k.a6,.int .u8 x_k.a7]),some (.var [.nilsl,.nilsl])]:=by
 unfold a2I at h;rcases i5 h with⟨C1,h⟩|⟨C1,h⟩
 ·obtain⟨y3,E2,h⟩:=d6 h
  obtain⟨y5,E4,h⟩:=d6 h;obtain⟨y7,E6,h⟩:=d6 h;exact n3 hμ [3,6] 27 [.reg [(1,hT)],.reg [(3,i6 (g9 [0,4] (a9J y3) (b25 t) (a9I y3)))],.frz 4,.reg [(6,i6 (g9 [0] (a9P y5) (b3e (f7.mk y3.2.2 y3.1 y3.2.1)) (a9O y5)))],.reg [(2,i6 (g9 [0] (a7N y7) (b3f (f7.mk y5.2.1 y5.2.2.1 y5.2.2.2)) (a7M y7)))],.reg []]
   (q6 (q8 (f_ C1 tr)) (m_ 4 4 rfl (a_ (a_ (e_ true) tr) (a_ (a_ (a_ (b7y t (m0.mk s false) y3 E2 (f8 [0,4]) i1) (a_ (l0 (.var (n8 t))) tr)) tr) tr))) (q7 (J2 (enc:=B5) (d:=default) (λ_=>rfl) y3.2.2) (m8 y3.2.2.length)) (q6 (b5 (m_ 4 4 rfl (m_ 8 8 rfl (b4 (a_ (a_ (e_ true) tr) (a_ (a_ (a_ (b7D (f7.mk y3.2.2 y3.1 y3.2.1) (b8.mk s.b7 x_k mode) y5 E4 (f8 [0]) i1) (a_ (l0 (.var (n8 (f7.mk y3.2.2 y3.1 y3.2.1)))) tr)) tr) (b4 (a_ (a_ (a_ (e_ 12) (a_ (d8 12 12 rfl) (e_ 0))) tr) tr)))))))) (m_ 12 12 rfl (a_ (a_ (a_ (b7F (f7.mk y5.2.1 y5.2.2.1 y5.2.2.2) y5.1 y7 E6 (f8 [0]) i1) (a_ (LO.Le.ofVar (n8 (f7.mk y5.2.1 y5.2.2.1 y5.2.2.2))) tr)) tr) (a_ (a_ (e_ true) tr) (b4 (a_ (a_ (a_ (e_ 2) (a_ (d8 2 2 rfl) (e_ 0))) tr) tr))))) (q8 tr) tr)) (b7p hμ t s x_k mode big _ _ _ _ _ r h) ⟨rfl,rfl,rfl,tr⟩
 ·obtain⟨y4,E2,h⟩:=d6 h
  obtain⟨y6,E5,h⟩:=d6 h;exact n3 hμ [3,5] 25 [.reg [(1,hF)],.reg [(6,i6 (g9 [0] (a9P y4) (b3e t) (a9O y4)))],.reg [(2,i6 (g9 [0] (a7N y6) (b3f (f7.mk y4.2.1 y4.2.2.1 y4.2.2.2)) (a7M y6)))],.reg []]
   (B6 (q8 (f_ C1 tr)) (m_ 4 4 rfl (m_ 8 8 rfl (b4 (a_ (a_ (e_ true) tr) (a_ (a_ (a_ (b7D t (b8.mk s.b7 x_k mode) y4 E2 (f8 [0]) i1) (a_ (l0 (.var (n8 t))) tr)) tr) (b4 (a_ (a_ (a_ (e_ 12) (a_ (d8 12 12 rfl) (e_ 0))) tr) tr))))))) (q8 (m_ 12 12 rfl (a_ (a_ (a_ (b7F (f7.mk y4.2.1 y4.2.2.1 y4.2.2.2) y4.1 y6 E5 (f8 [0]) i1) (a_ (LO.Le.ofVar (n8 (f7.mk y4.2.1 y4.2.2.1 y4.2.2.2))) tr)) tr) (a_ (a_ (e_ true) tr) (b4 (a_ (a_ (a_ (e_ 2) (a_ (d8 2 2 rfl) (e_ 0))) tr) tr)))))) (q3 (q8 tr))) (b7p hμ t s x_k mode big _ _ _ _ _ r h) ⟨rfl,rfl,rfl,tr⟩
theorem c30{w0 W μ0}(hμ:p4 μ0 1)(t:f7)(s:TS)(x_k:A8 Int)(mode:Int)(y10:Int)(r:w8×Int×(List m0)×(List b8)×(List b8))(h:a7z t s x_k mode y10=some r):p3 w0 W μ0 Tryz.f50 1 1 (a5S r) (a5R r) (z7 (o9 Tryz.f50) 4) ((.ptr 0 0 0):: .any:: .any::(.int .u8 mode):: .any::(.ptr 1 0 0)::(.ptr 2 0 0):: .any::(.ptr 3 0 0):: .any::(.int .i64 y10)::n_ 94 []) [some (.var (n8 t)),some (.var (a6C s)),some (.var [.int .u8 x_k.a0,.int .u8 x_k.a1,.int .u8 x_k.a2,.int .u8 x_k.a3,.int .u8 x_k.a4,.int .u8 x_k.a5,.int .u8 x_k.a6,.int .u8 x_k.a7]),some (.var [.nilsl,.nilsl])]:=by
 unfold a7z at h;rcases i5 h with⟨C1,h⟩|⟨C1,h⟩
 ·obtain⟨G2,h⟩:=j6 h
  rcases i5 h with⟨C3,h⟩|⟨C3,h⟩
  ·obtain rfl:=i7 h
   exact l8 [] 17 [.reg [(2,hT),(12,hT)],.reg [],.wk [] [(3,.var [.ds 3 (([]:List TX)).length (b6 f5 default ([]:List TX)),.nilsl])],.wk [] [(3,.var (U2 (w8.mk ([]:List TX) ([]:List b8))))]]
    (F9 (q0 (b5 (f_ C1 (b4 (b5 (l_ 0 3 rfl (b4 (a_ (a_ (a_ (e_ 5) G2) tr) (b4 (a_ (a_ (j4 0 1 rfl) tr) (b4 (f_ C3 tr))))))))))) (R5 (e_ true) (e_ 2) (d8 2 2 rfl) (e_ 0)) (q7 tr (LO.Sub.var (a:=[.nilsl,.nilsl]) (b:=[.ds 3 (([]:List TX)).length (b6 f5 default ([]:List TX)),.nilsl]) (a_ (A6 3 (b6 f5 default [])) (a_ (LV.Le.refl (.nilsl)) tr)))) (D4 (LO.Sub.var (a:=[.ds 3 (([]:List TX)).length (b6 f5 default ([]:List TX)),.nilsl]) (b:=[.ds 3 (([]:List TX)).length (b6 f5 default ([]:List TX)),.ds 12 (([]:List b8)).length (b6 o4 default ([]:List b8))]) (a_ (LV.Le.refl (.ds 3 (([]:List TX)).length (b6 f5 default ([]:List TX)))) (a_ (A6 12 (b6 o4 default [])) tr))))) (d8 2 2 rfl))
  ·rcases i5 h with⟨C4,h⟩|⟨C4,h⟩
   ·rcases i5 h with⟨C5,h⟩|⟨C5,h⟩
    ·obtain rfl:=i7 h
     exact l8 [] 21 [.reg [(2,hT),(12,hF)],.reg [(2,hT),(10,hT)],.reg [],.wk [] [(3,.var [.ds 3 (([]:List TX)).length (b6 f5 default ([]:List TX)),.nilsl])],.wk [] [(3,.var (U2 (w8.mk ([]:List TX) ([]:List b8))))]]
      (F9 (J4 (f_ C1 (b4 (b5 (l_ 0 3 rfl (b4 (a_ (a_ (a_ (e_ 5) G2) tr) (b4 (a_ (a_ (j4 0 1 rfl) tr) (b4 (f_ C3 tr)))))))))) (f_ C4 (b4 (b5 (l_ 0 3 rfl (b4 (b5 (f_ C5 tr))))))) (R5 (e_ true) (e_ 2) (d8 2 2 rfl) (e_ 0)) (q5 tr (LO.Sub.var (a:=[.nilsl,.nilsl]) (b:=[.ds 3 (([]:List TX)).length (b6 f5 default ([]:List TX)),.nilsl]) (a_ (A6 3 (b6 f5 default [])) (a_ (LV.Le.refl (.nilsl)) tr))) (D4 (LO.Sub.var (a:=[.ds 3 (([]:List TX)).length (b6 f5 default ([]:List TX)),.nilsl]) (b:=[.ds 3 (([]:List TX)).length (b6 f5 default ([]:List TX)),.ds 12 (([]:List b8)).length (b6 o4 default ([]:List b8))]) (a_ (LV.Le.refl (.ds 3 (([]:List TX)).length (b6 f5 default ([]:List TX)))) (a_ (A6 12 (b6 o4 default [])) tr)))))) (d8 2 2 rfl))
    ·obtain⟨y7,E6,h⟩:=d6 h
     rcases i5 h with⟨C8,h⟩|⟨C8,h⟩
     ·exact n3 hμ [3] 21 [.reg [(2,hT),(12,hF)],.reg [(2,hT),(10,hF)],.reg [(4,i6 (g9 [0] (Y5 y7) (s_ t) (Y4 y7))),(7,hT)]]
       (J4 (f_ C1 (b4 (b5 (l_ 0 3 rfl (b4 (a_ (a_ (a_ (e_ 5) G2) tr) (b4 (a_ (a_ (j4 0 1 rfl) tr) (b4 (f_ C3 tr)))))))))) (f_ C4 (b4 (b5 (l_ 0 3 rfl (b4 (b5 (f_ C5 tr))))))) (b5 (m_ 4 4 rfl (m_ 8 8 rfl (a_ (a_ (a_ (C_ t s.b7 x_k y7 E6 (f8 [0]) i1) (a_ (LO.Le.ofVar (n8 t)) tr)) tr) (b5 (f_ C8 tr)))))) tr) (a9F hμ t s x_k mode r h) ⟨rfl,rfl,tr⟩
     ·exact n3 hμ [1,2,3] 24 [.reg [(2,hT),(12,hF)],.reg [(2,hT),(10,hF)],.reg [(4,i6 (g9 [0] (Y5 y7) (s_ t) (Y4 y7))),(7,hF)]]
       (J4 (f_ C1 (b4 (b5 (l_ 0 3 rfl (b4 (a_ (a_ (a_ (e_ 5) G2) tr) (b4 (a_ (a_ (j4 0 1 rfl) tr) (b4 (f_ C3 tr)))))))))) (f_ C4 (b4 (b5 (l_ 0 3 rfl (b4 (b5 (f_ C5 tr))))))) (b5 (m_ 4 4 rfl (m_ 8 8 rfl (a_ (a_ (a_ (C_ t s.b7 x_k y7 E6 (f8 [0]) i1) (a_ (LO.Le.ofVar (n8 t)) tr)) tr) (b5 (f_ C8 tr)))))) tr) (a9E hμ t s x_k mode y10 r h) ⟨rfl,rfl,rfl,rfl,tr⟩
   ·obtain⟨y6,E5,h⟩:=d6 h
    rcases i5 h with⟨C7,h⟩|⟨C7,h⟩
    ·exact n3 hμ [3] 21 [.reg [(2,hT),(12,hF)],.reg [(2,hF)],.reg [(4,i6 (g9 [0] (Y5 y6) (s_ t) (Y4 y6))),(7,hT)]]
      (J4 (f_ C1 (b4 (b5 (l_ 0 3 rfl (b4 (a_ (a_ (a_ (e_ 5) G2) tr) (b4 (a_ (a_ (j4 0 1 rfl) tr) (b4 (f_ C3 tr)))))))))) (f_ C4 (u5 (z8 (b5 tr)))) (b5 (m_ 4 4 rfl (m_ 8 8 rfl (a_ (a_ (a_ (C_ t s.b7 x_k y6 E5 (f8 [0]) i1) (a_ (LO.Le.ofVar (n8 t)) tr)) tr) (b5 (f_ C7 tr)))))) tr) (a9F hμ t s x_k mode r h) ⟨rfl,rfl,tr⟩
    ·exact n3 hμ [1,2,3] 24 [.reg [(2,hT),(12,hF)],.reg [(2,hF)],.reg [(4,i6 (g9 [0] (Y5 y6) (s_ t) (Y4 y6))),(7,hF)]]
      (J4 (f_ C1 (b4 (b5 (l_ 0 3 rfl (b4 (a_ (a_ (a_ (e_ 5) G2) tr) (b4 (a_ (a_ (j4 0 1 rfl) tr) (b4 (f_ C3 tr)))))))))) (f_ C4 (u5 (z8 (b5 tr)))) (b5 (m_ 4 4 rfl (m_ 8 8 rfl (a_ (a_ (a_ (C_ t s.b7 x_k y6 E5 (f8 [0]) i1) (a_ (LO.Le.ofVar (n8 t)) tr)) tr) (b5 (f_ C7 tr)))))) tr) (a9E hμ t s x_k mode y10 r h) ⟨rfl,rfl,rfl,rfl,tr⟩
 ·rcases i5 h with⟨C2,h⟩|⟨C2,h⟩
  ·rcases i5 h with⟨C3,h⟩|⟨C3,h⟩
   ·obtain rfl:=i7 h
    exact l8 [] 21 [.reg [(2,hF)],.reg [(2,hT),(10,hT)],.reg [],.wk [] [(3,.var [.ds 3 (([]:List TX)).length (b6 f5 default ([]:List TX)),.nilsl])],.wk [] [(3,.var (U2 (w8.mk ([]:List TX) ([]:List b8))))]]
     (F9 (J4 (f_ C1 (B3 (b5 tr))) (f_ C2 (b4 (b5 (l_ 0 3 rfl (b4 (b5 (f_ C3 tr))))))) (R5 (e_ true) (e_ 2) (d8 2 2 rfl) (e_ 0)) (q5 tr (LO.Sub.var (a:=[.nilsl,.nilsl]) (b:=[.ds 3 (([]:List TX)).length (b6 f5 default ([]:List TX)),.nilsl]) (a_ (A6 3 (b6 f5 default [])) (a_ (LV.Le.refl (.nilsl)) tr))) (D4 (LO.Sub.var (a:=[.ds 3 (([]:List TX)).length (b6 f5 default ([]:List TX)),.nilsl]) (b:=[.ds 3 (([]:List TX)).length (b6 f5 default ([]:List TX)),.ds 12 (([]:List b8)).length (b6 o4 default ([]:List b8))]) (a_ (LV.Le.refl (.ds 3 (([]:List TX)).length (b6 f5 default ([]:List TX)))) (a_ (A6 12 (b6 o4 default [])) tr)))))) (d8 2 2 rfl))
   ·obtain⟨y5,E4,h⟩:=d6 h
    rcases i5 h with⟨C6,h⟩|⟨C6,h⟩
    ·exact n3 hμ [3] 21 [.reg [(2,hF)],.reg [(2,hT),(10,hF)],.reg [(4,i6 (g9 [0] (Y5 y5) (s_ t) (Y4 y5))),(7,hT)]]
      (J4 (f_ C1 (B3 (b5 tr))) (f_ C2 (b4 (b5 (l_ 0 3 rfl (b4 (b5 (f_ C3 tr))))))) (b5 (m_ 4 4 rfl (m_ 8 8 rfl (a_ (a_ (a_ (C_ t s.b7 x_k y5 E4 (f8 [0]) i1) (a_ (LO.Le.ofVar (n8 t)) tr)) tr) (b5 (f_ C6 tr)))))) tr) (a9F hμ t s x_k mode r h) ⟨rfl,rfl,tr⟩
    ·exact n3 hμ [1,2,3] 24 [.reg [(2,hF)],.reg [(2,hT),(10,hF)],.reg [(4,i6 (g9 [0] (Y5 y5) (s_ t) (Y4 y5))),(7,hF)]]
      (J4 (f_ C1 (B3 (b5 tr))) (f_ C2 (b4 (b5 (l_ 0 3 rfl (b4 (b5 (f_ C3 tr))))))) (b5 (m_ 4 4 rfl (m_ 8 8 rfl (a_ (a_ (a_ (C_ t s.b7 x_k y5 E4 (f8 [0]) i1) (a_ (LO.Le.ofVar (n8 t)) tr)) tr) (b5 (f_ C6 tr)))))) tr) (a9E hμ t s x_k mode y10 r h) ⟨rfl,rfl,rfl,rfl,tr⟩
  ·obtain⟨y4,E3,h⟩:=d6 h
   rcases i5 h with⟨C5,h⟩|⟨C5,h⟩
   ·exact n3 hμ [3] 21 [.reg [(2,hF)],.reg [(2,hF)],.reg [(4,i6 (g9 [0] (Y5 y4) (s_ t) (Y4 y4))),(7,hT)]]
     (J4 (f_ C1 (B3 (b5 tr))) (f_ C2 (u5 (z8 (b5 tr)))) (b5 (m_ 4 4 rfl (m_ 8 8 rfl (a_ (a_ (a_ (C_ t s.b7 x_k y4 E3 (f8 [0]) i1) (a_ (LO.Le.ofVar (n8 t)) tr)) tr) (b5 (f_ C5 tr)))))) tr) (a9F hμ t s x_k mode r h) ⟨rfl,rfl,tr⟩
   ·exact n3 hμ [1,2,3] 24 [.reg [(2,hF)],.reg [(2,hF)],.reg [(4,i6 (g9 [0] (Y5 y4) (s_ t) (Y4 y4))),(7,hF)]]
     (J4 (f_ C1 (B3 (b5 tr))) (f_ C2 (u5 (z8 (b5 tr)))) (b5 (m_ 4 4 rfl (m_ 8 8 rfl (a_ (a_ (a_ (C_ t s.b7 x_k y4 E3 (f8 [0]) i1) (a_ (LO.Le.ofVar (n8 t)) tr)) tr) (b5 (f_ C5 tr)))))) tr) (a9E hμ t s x_k mode y10 r h) ⟨rfl,rfl,rfl,rfl,tr⟩
theorem c31(t:f7)(s:TS)(x_k:A8 Int)(mode:Int)(r:w8×Int×(List m0)×(List b8)×(List b8))(h:a7y t s x_k mode=some r):∀σ,p8 1 σ->j9 Tryz.prog 50 (n7 σ [.ptr 0 0 0,V5 s,.agg [.int .u8 x_k.a0,.int .u8 x_k.a1,.int .u8 x_k.a2,.int .u8 x_k.a3,.int .u8 x_k.a4,.int .u8 x_k.a5,.int .u8 x_k.a6,.int .u8 x_k.a7],.int .u8 mode]) (p5 σ 0 (b7q t)) ((a5S r).ren σ) (p6 σ (a5R r)):=by
 refine u7 Tryz.func50 ⟨rfl,tr⟩ ⟨rfl,tr⟩ ?_;intro w0 W μ0 hμ;unfold a7y at h;obtain⟨y2,e1,h⟩:=d6 h;rcases i5 h with⟨c3,h⟩|⟨c3,h⟩
 ·obtain rfl:=i7 h
  exact l8 [] 22 [.reg [],.reg [(1,hC (a37 y2)),(3,hT)],.reg [],.wk [] [(3,.var [.ds 3 (([]:List TX)).length (b6 f5 default ([]:List TX)),.nilsl])],.wk [] [(3,.var (U2 (w8.mk ([]:List TX) ([]:List b8))))]]
   (F9 (q0 (l9 tr) (m_ 4 4 rfl (c_ (a7r s y2 e1) (b4 (f_ c3 (a_ tr (u5 (b5 (u5 (b5 (u5 (b4 tr))))))))))) (R5 (e_ true) (e_ 2) (d8 2 2 rfl) (e_ 0)) (q5 tr (LO.Sub.var (a:=[.nilsl,.nilsl]) (b:=[.ds 3 (([]:List TX)).length (b6 f5 default ([]:List TX)),.nilsl]) (a_ (A6 3 (b6 f5 default [])) (a_ (LV.Le.refl (.nilsl)) tr))) (D4 (LO.Sub.var (a:=[.ds 3 (([]:List TX)).length (b6 f5 default ([]:List TX)),.nilsl]) (b:=[.ds 3 (([]:List TX)).length (b6 f5 default ([]:List TX)),.ds 12 (([]:List b8)).length (b6 o4 default ([]:List b8))]) (a_ (LV.Le.refl (.ds 3 (([]:List TX)).length (b6 f5 default ([]:List TX)))) (a_ (A6 12 (b6 o4 default [])) tr)))))) (d8 2 2 rfl))
 ·obtain⟨y5,e4,h⟩:=d6 h
  rcases i5 h with⟨c6,h⟩|⟨c6,h⟩
  ·obtain rfl:=i7 h
   exact l8 [] 22 [.reg [],.reg [(1,hC (a37 y2)),(3,hF),(5,hC (a2D y5)),(8,hT)],.reg [],.wk [] [(3,.var [.ds 3 (([]:List TX)).length (b6 f5 default ([]:List TX)),.nilsl])],.wk [] [(3,.var (U2 (w8.mk ([]:List TX) ([]:List b8))))]]
    (F9 (q0 (l9 tr) (m_ 4 4 rfl (c_ (a7r s y2 e1) (b4 (f_ c3 (m_ 8 8 rfl (c_ (a5L x_k y5 e4) (b5 (f_ c6 (u5 (b5 (u5 (b4 tr)))))))))))) (R5 (e_ true) (e_ 2) (d8 2 2 rfl) (e_ 0)) (q5 tr (LO.Sub.var (a:=[.nilsl,.nilsl]) (b:=[.ds 3 (([]:List TX)).length (b6 f5 default ([]:List TX)),.nilsl]) (a_ (A6 3 (b6 f5 default [])) (a_ (LV.Le.refl (.nilsl)) tr))) (D4 (LO.Sub.var (a:=[.ds 3 (([]:List TX)).length (b6 f5 default ([]:List TX)),.nilsl]) (b:=[.ds 3 (([]:List TX)).length (b6 f5 default ([]:List TX)),.ds 12 (([]:List b8)).length (b6 o4 default ([]:List b8))]) (a_ (LV.Le.refl (.ds 3 (([]:List TX)).length (b6 f5 default ([]:List TX)))) (a_ (A6 12 (b6 o4 default [])) tr)))))) (d8 2 2 rfl))
  ·rcases i5 h with⟨c7,h⟩|⟨c7,h⟩
   ·obtain rfl:=i7 h
    exact l8 [] 22 [.reg [],.reg [(1,hC (a37 y2)),(3,hF),(5,hC (a2D y5)),(8,hF),(12,hT)],.reg [],.wk [] [(3,.var [.ds 3 (([]:List TX)).length (b6 f5 default ([]:List TX)),.nilsl])],.wk [] [(3,.var (U2 (w8.mk ([]:List TX) ([]:List b8))))]]
     (F9 (q0 (l9 tr) (m_ 4 4 rfl (c_ (a7r s y2 e1) (b4 (f_ c3 (m_ 8 8 rfl (c_ (a5L x_k y5 e4) (b5 (f_ c6 (b4 (b5 (f_ c7 (u5 (b4 tr))))))))))))) (R5 (e_ true) (e_ 2) (d8 2 2 rfl) (e_ 0)) (q5 tr (LO.Sub.var (a:=[.nilsl,.nilsl]) (b:=[.ds 3 (([]:List TX)).length (b6 f5 default ([]:List TX)),.nilsl]) (a_ (A6 3 (b6 f5 default [])) (a_ (LV.Le.refl (.nilsl)) tr))) (D4 (LO.Sub.var (a:=[.ds 3 (([]:List TX)).length (b6 f5 default ([]:List TX)),.nilsl]) (b:=[.ds 3 (([]:List TX)).length (b6 f5 default ([]:List TX)),.ds 12 (([]:List b8)).length (b6 o4 default ([]:List b8))]) (a_ (LV.Le.refl (.ds 3 (([]:List TX)).length (b6 f5 default ([]:List TX)))) (a_ (A6 12 (b6 o4 default [])) tr)))))) (d8 2 2 rfl))
   ·rcases i5 h with⟨c8,h⟩|⟨c8,h⟩
    ·obtain rfl:=i7 h
     exact l8 [] 22 [.reg [],.reg [(1,hC (a37 y2)),(3,hF),(5,hC (a2D y5)),(8,hF),(12,hF),(15,hT)],.reg [],.wk [] [(3,.var [.ds 3 (([]:List TX)).length (b6 f5 default ([]:List TX)),.nilsl])],.wk [] [(3,.var (U2 (w8.mk ([]:List TX) ([]:List b8))))]]
      (F9 (q0 (l9 tr) (m_ 4 4 rfl (c_ (a7r s y2 e1) (b4 (f_ c3 (m_ 8 8 rfl (c_ (a5L x_k y5 e4) (b5 (f_ c6 (b4 (b5 (f_ c7 (b5 (f_ c8 tr))))))))))))) (R5 (e_ true) (e_ 2) (d8 2 2 rfl) (e_ 0)) (q5 tr (LO.Sub.var (a:=[.nilsl,.nilsl]) (b:=[.ds 3 (([]:List TX)).length (b6 f5 default ([]:List TX)),.nilsl]) (a_ (A6 3 (b6 f5 default [])) (a_ (LV.Le.refl (.nilsl)) tr))) (D4 (LO.Sub.var (a:=[.ds 3 (([]:List TX)).length (b6 f5 default ([]:List TX)),.nilsl]) (b:=[.ds 3 (([]:List TX)).length (b6 f5 default ([]:List TX)),.ds 12 (([]:List b8)).length (b6 o4 default ([]:List b8))]) (a_ (LV.Le.refl (.ds 3 (([]:List TX)).length (b6 f5 default ([]:List TX)))) (a_ (A6 12 (b6 o4 default [])) tr)))))) (d8 2 2 rfl))
    ·obtain⟨y10,e9,h⟩:=d6 h
     exact n3 hμ [1,2,3] 24 [.reg [],.reg [(1,hC (a37 y2)),(3,hF),(5,hC (a2D y5)),(8,hF),(12,hF),(15,hF)],.reg [(3,i6 (g9 [0] (R4 y10) (S5 t) (R3 y10)))]]
      (q0 (l9 tr) (m_ 4 4 rfl (c_ (a7r s y2 e1) (b4 (f_ c3 (m_ 8 8 rfl (c_ (a5L x_k y5 e4) (b5 (f_ c6 (b4 (b5 (f_ c7 (b5 (f_ c8 tr))))))))))))) (b5 (m_ 4 4 rfl (a_ (a_ (a_ (T6 t s.b7 y10 e9 (f8 [0]) i1) (a_ (LO.Le.ofVar (n8 t)) tr)) tr) (b4 tr)))) tr) (c30 hμ t s x_k mode y10 r h) ⟨rfl,rfl,rfl,rfl,tr⟩
def a1x(r:w8×Int×(List m0)×(List b8)×(List b8)):LV:=.tup [a1Y r.1,.int .i64 r.2.1]
def a1w(r:w8×Int×(List m0)×(List b8)×(List b8)):i9:=[(0,some (.var (n8 (f7.mk r.2.2.1 r.2.2.2.1 r.2.2.2.2))))]
def a1v(t:f7):List LO:=[.var (n8 t)]
def a5N(t:f7)(a:TA):Option (w8×Int×(List m0)×(List b8)×(List b8)):=
 if(Int.tmod a.S0 5)==2 then
  (a7B t a.n5.b7).bind λy3=>
  some (y3.1,y3.2.1,y3.2.2.1,y3.2.2.2.1,y3.2.2.2.2)
 else
  if(Int.tmod a.S0 5)==3 then
   (a7G t a.n5.b7).bind λy4=>
   some (y4.1,y4.2.1,y4.2.2.1,y4.2.2.2.1,y4.2.2.2.2)
  else
   if(Int.tmod a.S0 5)==4 then
    (a7H t a.n5.b7 a.K4).bind λy5=>
    some ((w8.mk ([]:List TX) ([]:List b8)),y5.1,y5.2.1,y5.2.2.1,y5.2.2.2)
   else
    (a7y t a.n5 a.j8 a.v8).bind λy6=>
    some (y6.1,y6.2.1,y6.2.2.1,y6.2.2.2.1,y6.2.2.2.2)
theorem a2G(t:f7)(a:TA)(r:w8×Int×(List m0)×(List b8)×(List b8))(h:a5N t a=some r):∀σ,p8 1 σ->j9 Tryz.prog 23 (n7 σ [.ptr 0 0 0,b9a a]) (p5 σ 0 (a1v t)) ((a1x r).ren σ) (p6 σ (a1w r)):=by
 refine u7 Tryz.func23 ⟨rfl,tr⟩ ⟨rfl,tr⟩ ?_;intro w0 W μ0 hμ;unfold a5N at h;rcases i5 h with⟨c1,h⟩|⟨c1,h⟩
 ·obtain⟨y3,e2,h⟩:=d6 h
  obtain rfl:=i7 h;exact l8 [] 24 [.reg [],.reg [],.reg [(1,hT)],.reg [(4,i6 (g9 [0] (a7D y3) (b7s t) (a7C y3)))]]
   (F9 (K8 (l_ 0 15 rfl (a_ (a_ (K7 5 rfl) tr) tr)) (q8 (f_ c1 tr)) (I3 (m_ 5 15 rfl (a_ (a_ (a_ (c38 t a.n5.b7 y3 e2 (f8 [0]) i1) (a_ (l0 (.var (n8 t))) tr)) tr) (b5 (a_ (a_ (a_ (e_ 2) (a_ (d8 2 2 rfl) (e_ 0))) tr) (b4 tr))))))) (d8 2 2 rfl))
 ·rcases i5 h with⟨c2,h⟩|⟨c2,h⟩
  ·obtain⟨y4,e3,h⟩:=d6 h
   obtain rfl:=i7 h;exact l8 [] 28 [.reg [],.reg [],.reg [(1,hF)],.reg [(1,hT)],.reg [(4,i6 (g9 [0] (b7w y4) (b7u t) (b7v y4)))]]
    (F9 (K8 (l_ 0 15 rfl (a_ (a_ (K7 5 rfl) tr) tr)) (q8 (f_ c1 tr)) (q7 (q8 (f_ c2 tr)) (q2 (m_ 5 15 rfl (a_ (a_ (a_ (c4c t a.n5.b7 y4 e3 (f8 [0]) i1) (a_ (l0 (.var (n8 t))) tr)) tr) (b5 (a_ (a_ (a_ (e_ 2) (a_ (d8 2 2 rfl) (e_ 0))) tr) (b4 tr)))))))) (d8 2 2 rfl))
  ·rcases i5 h with⟨c3,h⟩|⟨c3,h⟩
   ·obtain⟨y5,e4,h⟩:=d6 h
    obtain rfl:=i7 h;exact l8 [] 34 [.reg [],.reg [],.reg [(1,hF)],.reg [(1,hF)],.reg [(1,hT)],.reg [(7,i6 (g9 [0] (a2P y5) (b7x t) (a2O y5)))],.wk [] [(2,.var [.ds 3 (([]:List TX)).length (b6 f5 default ([]:List TX)),.nilsl])],.wk [] [(2,.var (U2 (w8.mk ([]:List TX) ([]:List b8))))]]
     (F9 (K8 (l_ 0 15 rfl (a_ (a_ (K7 5 rfl) tr) tr)) (q8 (f_ c1 tr)) (q6 (q8 (f_ c2 tr)) (f_ c3 tr) (q9 (e_ true) (q2 (m_ 5 15 rfl (b4 (l_ 14 15 rfl (a_ (a_ (a_ (c4m t a.n5.b7 a.K4 y5 e4 (f8 [0]) i1) (a_ (l0 (.var (n8 t))) tr)) tr) (a_ (a_ (a_ (e_ 2) (a_ (d8 2 2 rfl) (e_ 0))) tr) (b4 tr)))))))) (q5 tr (LO.Sub.var (a:=[.nilsl,.nilsl]) (b:=[.ds 3 (([]:List TX)).length (b6 f5 default ([]:List TX)),.nilsl]) (a_ (A6 3 (b6 f5 default [])) (a_ (LV.Le.refl (.nilsl)) tr))) (D4 (LO.Sub.var (a:=[.ds 3 (([]:List TX)).length (b6 f5 default ([]:List TX)),.nilsl]) (b:=[.ds 3 (([]:List TX)).length (b6 f5 default ([]:List TX)),.ds 12 (([]:List b8)).length (b6 o4 default ([]:List b8))]) (a_ (LV.Le.refl (.ds 3 (([]:List TX)).length (b6 f5 default ([]:List TX)))) (a_ (A6 12 (b6 o4 default [])) tr))))))) (d8 2 2 rfl))
   ·obtain⟨y6,e4,h⟩:=d6 h
    obtain rfl:=i7 h;exact l8 [] 34 [.reg [],.reg [],.reg [(1,hF)],.reg [(1,hF)],.reg [(1,hF)],.reg [(7,i6 (g9 [0] (a5S y6) (b7q t) (a5R y6)))]]
     (F9 (K8 (l_ 0 15 rfl (a_ (a_ (K7 5 rfl) tr) tr)) (q8 (f_ c1 tr)) (N6 (f_ c2 tr) (f_ c3 tr) (b5 (m_ 5 15 rfl (b4 (m_ 13 15 rfl (b4 (l_ 13 15 rfl (a_ (a_ (a_ (c31 t a.n5 a.j8 a.v8 y6 e4 (f8 [0]) i1) (a_ (l0 (.var (n8 t))) tr)) tr) (b5 (a_ (a_ (a_ (e_ 2) (a_ (d8 2 2 rfl) (e_ 0))) tr) (b4 tr)))))))))))) (d8 2 2 rfl))
def a0l(r:w8):LV:=a1Y r
def a4g(o:TO):Nat->Int->(List b8)->Option w8
 |0,_,_=>none
 |fuel+1,t12,l=>
  if decide (t12<(o.H5.length:Int)) then
   if 0<=t12/\t12<(o.H5.length:Int) then
   (some (b8.mk (o.H5.getD t12.toNat default).b7 (o.H5.getD t12.toNat default).j8 (o.H5.getD t12.toNat default).v8)).bind λy3=>
   if(l.length+(([y3]:List b8)).length) * 24<=140737488351232 then
   a4g o fuel (IntKind.wrap .i64 (t12+1)) (l++([y3]:List b8))
   else none
   else none
  else
   some (w8.mk o.K2 l)
def a7w(o:TO):Option w8:=
 a4g o big 0 ([]:List b8)
abbrev c3Q(o:TO)(t12:Int)(l:List b8)(r:w8):Prop:=p3 w0 W μ0 Tryz.f25 0 0 (a0l r) [] (z6 (o9 Tryz.f25) 0) (.any:: .any::(.ptr 0 0 0)::(.ptr 1 0 0)::n_ 6 ((.ds 12 o.H5.length (b6 H8 default o.H5))::(.int .i64 (o.H5.length:Int))::(.int .i64 t12)::n_ 17 [])) [some (.var [.nilsl,.nilsl]),some (.var [.ds 3 o.K2.length (b6 f5 default o.K2),.gs 2 l.length]),some (.gr 12 l.length (b6 o4 default l))]
theorem c3R{w0 W μ0}(hμ:p4 μ0 0)(o:TO):∀(fuel:Nat) (t12:Int) (l:List b8) (r:w8),a4g o fuel t12 l=some r->c3Q w0 W μ0 o t12 l r:=by
 intro fuel
 induction fuel with
 |zero=>intro t12 l r h;rw[a4g] at h;cases h
 |succ fuel ih=>
  intro t12 l r h;rw[a4g] at h;rcases i5 h with⟨C1,h⟩|⟨C1,h⟩
  ·obtain⟨G2,h⟩:=j6 h
   obtain⟨y3,E4,h⟩:=d6 h;obtain⟨G5,h⟩:=j6 h;exact n3 hμ [0,1,5] 26 [.go,.reg [(0,hT)],.reg [],.reg [(8,j5 (P5 y3)),(9,{os:=[(4,.gr 12 (([y3]:List b8)).length (b6 o4 default ([y3]:List b8)))],v:=some (.gs 4 (([y3]:List b8)).length)}),(10,{app:=3,os:=[(5,.gr 12 ((l++([y3]:List b8))).length (b6 o4 default (l++([y3]:List b8))))],v:=some (.gs 5 ((l++([y3]:List b8))).length)})],.reg []]
    (V3 (f_ C1 tr) (q4 (e_ 12) G2 (K1 (d8 12 12 rfl) (e_ 12) (d8 12 12 rfl) (e_ 0))) (q8 (l_ 1 2 rfl (b4 (m_ 3 12 rfl (b4 (m_ 11 12 rfl (b4 (l_ 11 12 rfl (a_ (a_ (e_ true) (a_ (n0 P5 E4) tr)) (a_ (a_ (a_ (e_ true) (a_ (e_ 12) (a_ (j4 0 12 rfl) (d8 12 16777216 rfl)))) (a_ (L5 4 1 (some 1) rfl) (a_ (L6 o4 default 12 (λ_=>rfl) ([y3]:List b8)) tr))) (a_ (a_ (a_ (a_ (e_ 12) (m8 (([y3]:List b8)).length)) (a_ (a_ (j4 0 12 rfl) (a_ (j4 0 24 rfl) (a_ G5 (a_ (e_ 12) (e_ true))))) (a_ (e_ 12) (m8 l.length)))) (a_ (J6 5 l ([y3]:List b8)) (a_ (J9 o4 default 12 l ([y3]:List b8)) tr))) (b4 (a_ (a_ (a_ (e_ 1) (a_ (d8 2 2 rfl) (e_ 0))) tr) tr)))))))))))))) (ih _ _ r h) ⟨rfl,rfl,λ_ _=>rfl,tr⟩
  ·obtain rfl:=i7 h
   exact l8 [] 20 [.go,.reg [(0,hF)],.reg [],.frz 2]
    (F9 (q0 (f_ C1 tr) (m_ 2 2 rfl (a_ (a_ (a_ (e_ 2) (a_ (d8 2 2 rfl) (e_ 0))) tr) tr)) (E0 (J2 (enc:=o4) (d:=default) (λ_=>rfl) l) (m8 l.length) (m8 l.length) (m8 l.length)) tr) (d8 2 2 rfl))
theorem c3S(o:TO)(r:w8)(h:a7w o=some r):∀σ,p8 0 σ->j9 Tryz.prog 25 (n7 σ [a6u o]) (p5 σ 0 []) ((a0l r).ren σ) (p6 σ []):=by
 refine u7 Tryz.func25 tr tr ?_;intro w0 W μ0 hμ;unfold a7w at h;exact n3 hμ [1,4,3] 23 [.reg [],.void (.gr 12 (([]:List b8)).length (b6 o4 default ([]:List b8))),.void (.gr 12 (([]:List b8)).length (b6 o4 default ([]:List b8))),.reg [(3,{os:=[(4,.var [.nilsl,.gs 2 (([]:List b8)).length])]}),(4,{os:=[(4,.var [.ds 3 o.K2.length (b6 f5 default o.K2),.gs 3 (([]:List b8)).length])]})],.reg []]
  (q0 (b5 tr) (e_ 0) (e_ 0) (q7 (q8 (l_ 0 2 rfl (a_ (a_ (e_ true) tr) (a_ (a_ tr (a_ (LO.Sub.var (a:=[.nilsl,.nilsl]) (b:=[.nilsl,.gs 2 (([]:List b8)).length]) (a_ (LV.Le.refl (.nilsl)) (a_ (q_ 2) tr))) tr)) (a_ (a_ (a_ (e_ 2) (a_ (d8 2 2 rfl) (e_ 0))) (a_ (LO.Sub.var (a:=[.ds 3 o.K2.length (b6 f5 default o.K2),.nilsl]) (b:=[.ds 3 o.K2.length (b6 f5 default o.K2),.gs 3 (([]:List b8)).length]) (a_ (LV.Le.refl (.ds 3 o.K2.length (b6 f5 default o.K2))) (a_ (q_ 3) tr))) tr)) tr))))) (q8 (l_ 1 2 rfl (b5 tr))))) (c3R hμ o big _ _ r h) ⟨rfl,rfl,λ_ _=>rfl,tr⟩
theorem a2F(o:TO)(r:w8)(h:a7w o=some r):j9 Tryz.prog 25 [a6u o] [] (a0l r) []:=j9.none (c3S o r h) rfl rfl
def U8(r:Bool):LV:=.bool r
def a36(a b:List TX):Nat->Int->Option Bool
 |0,_=>none
 |fuel+1,i=>
  if decide (i<(a.length:Int)) then
   if 0<=i/\i<(a.length:Int) then
   if 0<=i/\i<(b.length:Int) then
   if !decide ((a.getD i.toNat default)=(b.getD i.toNat default)) then
    some false
   else
    a36 a b fuel (IntKind.wrap .i64 (i+1))
   else none
   else none
  else
   some true
def a2B(a b:List TX):Option Bool:=
 if(a.length:Int) !=(b.length:Int) then
  some false
 else
  a36 a b big 0
abbrev c3o(a b:List TX)(i:Int)(r:Bool):Prop:=p3 w0 W μ0 Tryz.f26 0 0 (U8 r) [] (z6 (o9 Tryz.f26) 0) ((.ds 3 a.length (b6 f5 default a))::(.ds 3 b.length (b6 f5 default b)):: .any:: .any:: .any::(.int .i64 i)::n_ 20 []) []
theorem c3p{w0 W μ0}(hμ:p4 μ0 0)(a b:List TX):∀(fuel:Nat) (i:Int) (r:Bool),a36 a b fuel i=some r->c3o w0 W μ0 a b i r:=by
 intro fuel
 induction fuel with
 |zero=>intro i r h;rw[a36] at h;cases h
 |succ fuel ih=>
  intro i r h;rw[a36] at h;rcases i5 h with⟨C1,h⟩|⟨C1,h⟩
  ·obtain⟨G2,h⟩:=j6 h
   obtain⟨G3,h⟩:=j6 h;rcases i5 h with⟨C4,h⟩|⟨C4,h⟩
   ·obtain rfl:=i7 h
    exact l8 [] 25 [.go,.reg [(3,hT)],.reg [(8,hT)],.reg []]
     (q3 (B6 (q2 (f_ C1 tr)) (q4 (e_ 3) G2 (q9 (d8 3 3 rfl) (b5 (q0 (q1 (e_ 3) G3 tr) (q3 (d8 3 3 rfl)) (q7 tr (LV.Le.trans (v6 (congrArg not (t6 (a.getD i.toNat default) (b.getD i.toNat default)))) (v6 C4))) tr)))) (q8 tr) tr))
   ·exact n3 hμ [] 26 [.go,.reg [(3,hT)],.reg [(8,hF)],.reg []]
     (B6 (q2 (f_ C1 tr)) (q4 (e_ 3) G2 (q9 (d8 3 3 rfl) (b5 (q0 (q1 (e_ 3) G3 tr) (q3 (d8 3 3 rfl)) (q7 tr (LV.Le.trans (v6 (congrArg not (t6 (a.getD i.toNat default) (b.getD i.toNat default)))) (v6 C4))) tr)))) (q2 tr) tr) (ih _ r h) tr
  ·obtain rfl:=i7 h
   exact l8 [] 19 [.go,.reg [(3,hF)],.reg []]
    (F8 (q2 (f_ C1 tr)) (q8 tr))
theorem c3q(a b:List TX)(r:Bool)(h:a2B a b=some r):∀σ,p8 0 σ->j9 Tryz.prog 26 (n7 σ [.ds 3 a.length (b6 f5 default a),.ds 3 b.length (b6 f5 default b)]) (p5 σ 0 []) ((U8 r).ren σ) (p6 σ []):=by
 refine u7 Tryz.func26 tr tr ?_;intro w0 W μ0 hμ;unfold a2B at h;rcases i5 h with⟨c1,h⟩|⟨c1,h⟩
 ·obtain rfl:=i7 h
  exact l8 [] 20 [.reg [],.reg [(4,hT)],.reg []]
   (q3 (P0 (q8 tr) (l9 (f_ c1 tr)) tr))
 ·exact n3 hμ [] 24 [.reg [],.reg [(4,hF)],.reg []]
   (P0 (q8 tr) (l9 (f_ c1 tr)) tr) (c3p hμ a b big _ r h) tr
theorem r_(a b:List TX)(r:Bool)(h:a2B a b=some r):j9 Tryz.prog 26 [.ds 3 a.length (b6 f5 default a),.ds 3 b.length (b6 f5 default b)] [] (U8 r) []:=j9.none (c3q a b r h) rfl rfl
def a0m(r:Bool):LV:=.bool r
def a4j(a b:w8):Nat->Int->Option Bool
 |0,_=>none
 |fuel+1,i=>
  if decide (i<(a.H5.length:Int)) then
   if 0<=i/\i<(a.H5.length:Int) then
   if 0<=i/\i<(b.H5.length:Int) then
   if !decide ((a.H5.getD i.toNat default)=(b.H5.getD i.toNat default)) then
    some false
   else
    a4j a b fuel (IntKind.wrap .i64 (i+1))
   else none
   else none
  else
   some true
def a5P(a b:w8):Option Bool:=
 (a2B a.K2 b.K2).bind λy2=>
 if !y2 then
  some false
 else
  if(a.H5.length:Int) !=(b.H5.length:Int) then
   some false
  else
   a4j a b big 0
abbrev c3W(a b:w8)(i:Int)(r:Bool):Prop:=p3 w0 W μ0 Tryz.f24 0 0 (a0m r) [] (z6 (o9 Tryz.f24) 0) (.any:: .any::(.ptr 0 0 0)::(.ptr 1 0 0):: .any::(.int .i64 i)::n_ 33 []) [some (.var (U2 a)),some (.var (U2 b))]
theorem c3X{w0 W μ0}(hμ:p4 μ0 0)(a b:w8):∀(fuel:Nat) (i:Int) (r:Bool),a4j a b fuel i=some r->c3W w0 W μ0 a b i r:=by
 intro fuel
 induction fuel with
 |zero=>intro i r h;rw[a4j] at h;cases h
 |succ fuel ih=>
  intro i r h;rw[a4j] at h;rcases i5 h with⟨C1,h⟩|⟨C1,h⟩
  ·obtain⟨G2,h⟩:=j6 h
   obtain⟨G3,h⟩:=j6 h;rcases i5 h with⟨C4,h⟩|⟨C4,h⟩
   ·obtain rfl:=i7 h
    exact l8 [] 25 [.go,.reg [(4,hT)],.reg [(10,hT)],.reg []]
     (q3 (q6 (b5 (l_ 1 2 rfl (b4 (f_ C1 tr)))) (l_ 1 2 rfl (b4 (a_ (a_ (a_ (e_ 12) G2) tr) (a_ (a_ (d8 12 12 rfl) tr) (b4 (l_ 1 2 rfl (b4 (a_ (a_ (a_ (e_ 12) G3) tr) (a_ (a_ (d8 12 12 rfl) tr) (a_ (a_ tr (a_ (LV.Le.trans (v6 (congrArg not (b50 (a.H5.getD i.toNat default) (b.H5.getD i.toNat default)))) (v6 C4)) tr)) tr)))))))))) (q8 tr) tr))
   ·exact n3 hμ [0,1] 26 [.go,.reg [(4,hT)],.reg [(10,hF)],.reg []]
     (q6 (b5 (l_ 1 2 rfl (b4 (f_ C1 tr)))) (l_ 1 2 rfl (b4 (a_ (a_ (a_ (e_ 12) G2) tr) (a_ (a_ (d8 12 12 rfl) tr) (b4 (l_ 1 2 rfl (b4 (a_ (a_ (a_ (e_ 12) G3) tr) (a_ (a_ (d8 12 12 rfl) tr) (a_ (a_ tr (a_ (LV.Le.trans (v6 (congrArg not (b50 (a.H5.getD i.toNat default) (b.H5.getD i.toNat default)))) (v6 C4)) tr)) tr)))))))))) (q2 tr) tr) (ih _ r h) ⟨rfl,rfl,tr⟩
  ·obtain rfl:=i7 h
   exact l8 [] 19 [.go,.reg [(4,hF)],.reg []]
    (F8 (b5 (l_ 1 2 rfl (b4 (f_ C1 tr)))) (q8 tr))
theorem c3Y(a b:w8)(r:Bool)(h:a5P a b=some r):∀σ,p8 0 σ->j9 Tryz.prog 24 (n7 σ [a1Y a,a1Y b]) (p5 σ 0 []) ((a0m r).ren σ) (p6 σ []):=by
 refine u7 Tryz.func24 tr tr ?_;intro w0 W μ0 hμ;unfold a5P at h;obtain⟨y2,e1,h⟩:=d6 h;rcases i5 h with⟨c3,h⟩|⟨c3,h⟩
 ·obtain rfl:=i7 h
  exact l8 [] 20 [.reg [],.reg [(4,hC (U8 y2)),(6,hT)],.reg []]
   (q3 (K8 (l_ 0 2 rfl (b4 (l_ 0 2 rfl (c_ (r_ a.K2 b.K2 y2 e1) (b4 (f_ c3 (a_ tr (u5 (z8 (b4 tr)))))))))) (q8 tr) tr))
 ·rcases i5 h with⟨c4,h⟩|⟨c4,h⟩
  ·obtain rfl:=i7 h
   exact l8 [] 20 [.reg [],.reg [(4,hC (U8 y2)),(6,hF),(14,hT)],.reg []]
    (q3 (K8 (l_ 0 2 rfl (b4 (l_ 0 2 rfl (c_ (r_ a.K2 b.K2 y2 e1) (b4 (f_ c3 (b4 (l_ 1 2 rfl (b5 (l_ 1 2 rfl (b5 (f_ c4 tr)))))))))))) (q8 tr) tr))
  ·exact n3 hμ [0,1] 24 [.reg [],.reg [(4,hC (U8 y2)),(6,hF),(14,hF)],.reg []]
    (K8 (l_ 0 2 rfl (b4 (l_ 0 2 rfl (c_ (r_ a.K2 b.K2 y2 e1) (b4 (f_ c3 (b4 (l_ 1 2 rfl (b5 (l_ 1 2 rfl (b5 (f_ c4 tr)))))))))))) (q8 tr) tr) (c3X hμ a b big _ r h) ⟨rfl,rfl,tr⟩
theorem a2H(a b:w8)(r:Bool)(h:a5P a b=some r):j9 Tryz.prog 24 [a1Y a,a1Y b] [] (a0m r) []:=j9.none (c3Y a b r h) rfl rfl
def b6F(r:Unit):LV:=.fn 68 [] [.ptr 1 0 0]
def b6E(m:UT)(r:Unit):i9:=[(0,some (m7 m [])),(1,some (.var [.map 0]))]
def b6D(m:UT):List LO:=[m7 m []]
def mKU(m:UT):Option Unit:=
 some ()
theorem c2P(m:UT)(r:Unit)(h:mKU m=some r):∀σ,p8 2 σ->j9 Tryz.prog 42 (n7 σ [.map 0]) (p5 σ 0 (b6D m)) ((b6F r).ren σ) (p6 σ (b6E m r)):=by
 refine u7 Tryz.func42 ⟨uP,tr⟩ ⟨uP,rfl,tr⟩ ?_;intro w0 W μ0 hμ;unfold mKU at h;obtain rfl:=i7 h;exact l8 [1] 15 [.reg [],.reg []]
  (F8 (b5 tr) (b5 tr))
def R7(x:TX):List Value:=[.int .u8 x.F3,.int .u32 x.D6,.int .u32 x.F5]
def Z5(x:TX):Value:=.agg #[.int .u8 x.F3,.int .u32 x.D6,.int .u32 x.F5]
def b8z(v:Value):TX:=
 match v with
 | .agg cs=>match cs.toList with
  |[.int _ a0,.int _ a1,.int _ a2]=>(TX.mk a0 a1 a2)
  |_=>default
 |_=>default
theorem c6J(x:TX):b8z (Z5 x)=x:=rfl
theorem b0u(x:TX):(R7 x).length=3:=rfl
theorem b8B(x:TX):∀v∈R7 x,v.oneCell' =true:=by
 intro u hu;simp only[R7,List.mem_cons,List.not_mem_nil,or_false] at hu;rcases hu with rfl|rfl|rfl<;>rfl
theorem b8y(φ:K5)(x:TX):A3 φ (f5 x) (R7 x):=⟨_,_,rfl,rfl,⟨_,_,rfl,rfl,⟨_,_,rfl,rfl,rfl⟩⟩⟩
theorem c6H(φ:K5)(x:TX)(v:Value)(h:D8 φ (.agg (f5 x)) v):v=Z5 x:=by
 obtain⟨vs,rfl,h⟩:=h;have key:∀(l:List Value),A3 φ (f5 x) l->l=R7 x:=by
  intro l h;obtain⟨r0,e0,h0⟩:=j_ h;obtain⟨r1,e1,h1⟩:=j_ h0;obtain⟨r2,e2,h2⟩:=j_ h1;have e:_=[]:=h2;subst e
  subst_vars
  rfl
 have:=key _ h;rw[<-Array.toArray_toList (xs:=vs),this];rfl
theorem c6I:∃i,Tryz.prog.info? 25=some i/\i.zero=some (.agg #[.int .u8 0,.int .u32 0,.int .u32 0])/\i.size=3/\i.bytes=12:=by
 have h:(Tryz.prog.info? 25).map (λi=>(i.zero,i.size,i.bytes))=some (some (.agg #[.int .u8 0,.int .u32 0,.int .u32 0]),3,12):=by kernel_rfl
 obtain⟨i,h1,h2⟩:=Option.map_eq_some_iff.1 h;exact⟨i,h1,congrArg (·.1) h2,congrArg (·.2.1) h2,congrArg (·.2.2) h2⟩
def a4K(w:World)(pre:List TX)(W:World):Prop:=
 (∃v,Boxed W w.heap.size 38 v/\W.ownsRow w.heap.size 25 3 v pre.length (pre.flatMap R7)/\(v=.slice none 0 0↔pre=[]))/\Below w.heap.size w W/\w.drawn<=W.drawn
theorem a4K.own(w:World)(B:Nat)(hB:w.heap.size<=B):Q7 B (a4K w):=
 Q7.and (OwnFrom.d ((holdsRow_own w.heap.size w.heap.size 38 25 3 (λ(pre:List TX)=>pre.length) (λpre=>pre.flatMap R7) (λpre v=>v=.slice none 0 0↔pre=[])).from B)) (Q7.and (OwnFrom.d (ownFrom_below (m8 _) hB)) (b66 B _))
theorem c6F(n:Nat)(hn:2<=n)(g:Nat)(lb:Array Value)(eg:∀args w,(callFunc g args).run Tryz.prog w=.ok (.enter g args) w)(S:List TX->Prop)(N:Nat)(hN:N<=maxLen)(hNb:N * 12<=140737488355328)
  (w:World) (hseq:a17 Fence.wide (n - 1) Tryz.prog g lb Z5 S N w):
  CallsIn Fence.wide n Tryz.prog 92 #[.slice none 0 0,.func (.func g) #[] lb] w λe w' =>∃(v:Value) (ss:List TX),e=.returned v/\S ss/\w'.ownsRow w.heap.size 25 3 v ss.length (ss.flatMap R7)/\(v=.slice none 0 0↔ss=[])/\Below w.heap.size w w' /\w.drawn<=w'.drawn:=by
 have h1:1<=n:=by omega
 refine callsIn_of_wp_marks Tryz.func92 rfl tr ?_ rfl;simp only[Tryz.ntmps92,List.size_toArray,List.length_cons,List.length_nil,Nat.reduceAdd,Nat.reduceSub,Array.replicate_succ,Array.replicate_zero,List.push_toArray,List.append_toArray,List.nil_append,List.cons_append]
 gi_wp2
 obtain⟨W0,hW0⟩:∃W0,w.alloc (.cells #[.slice none 0 0] 38)=W0:=⟨_,rfl⟩
 have hs0:W0.heap.size=w.heap.size+1:=by rw[<-hW0];simp
 have hB0:Boxed W0 w.heap.size 38 (.slice none 0 0):=by rw[<-hW0];exact Boxed.new w _ _
 have hb0:Below w.heap.size w W0:=by rw[<-hW0];exact(Below.refl _ w).alloc (m8 _) _
 rw[hW0];refine b7H rfl h1 (gf:=g) (lb:=lb) rfl tr eg hseq hb0 rfl (a4K w) (a4K.own w _ (by omega)) ⟨⟨_,hB0,World.ownsRow_nil _ _ _ _,by simp⟩,hb0,by rw[<-hW0];exact m8 _⟩
  (λpre x a1 W=>a4K w pre W/\∃bx,W.heap[bx]?=some (.cells #[.int .u8 x.F3,.int .u32 x.D6,.int .u32 x.F5] 25 (0,0))/\
   a1={tmps:=#[.slice none 0 0,.func (.func g) #[] lb,.pointer (some ⟨w.heap.size,0,none⟩),undef,.slice none 0 0,.pointer (some ⟨bx,0,none⟩),.func (.func g) #[] lb,Z5 x,undef,undef,undef,undef,undef],defers:=[]})
  (λx a1=>Q7.and (a4K.own w _ (by omega)) (λs X Y row hs hg _ hr=>by
   obtain⟨bx,hx,e⟩:=hs;exact⟨bx,(grownBy_keeps_cells hg (λr e=>(hr r e).2) hx rfl).trans hx,e⟩)) ?assign ?body ?done
 case assign=>
  intro l pre x W hI hlen;unfold Z5
  gi_wp2_with (rw[Oper.semAt_eq _ _ _ (λc h=>by cases h)];go_simp;try go_bits)
  exact⟨⟨(a4K.own w w.heap.size (m8 _)).alloc _ hI,W.heap.size,World.alloc_heap_new W _,rfl⟩,KeepsOthers.alloc _ _⟩
 case body=>
  rintro l pre x a1 W ⟨⟨⟨v,hv,hrow,hnil⟩,hB,hD0⟩,bx,hbx,rfl⟩ hlen;obtain⟨i0,hi,hz0,hz1,hz2⟩:=c6I;have hc:=hv.cell;have hf:=hv.frozen;have hx0:W.cell? ⟨bx,0,none⟩=some (.int .u8 x.F3):=by simp[World.cell?,hbx]
  have hx1:W.cell? ⟨bx,1,none⟩=some (.int .u32 x.D6):=by simp[World.cell?,hbx]
  have hx2:W.cell? ⟨bx,2,none⟩=some (.int .u32 x.F5):=by simp[World.cell?,hbx]
  have hbs:=hB.size;unfold Z5
  gi_wp2_with (first
 |(gi_at_builtin;refine b9l _ rfl _ _ 38 rfl w.heap.size 25 i0 _ 3 12 Tryz.underlying38 hi hz0 hz1 hz2 rfl (by decide) _ _ _ rfl (hrow.alloc _) ⟨W.heap.size,0,none⟩ 1 1 (R7 x) rfl rfl ?_ ?_ (by omega) (by omega) (by simp;omega) ?_)
 |(rw[Oper.semAt_eq _ _ _ (λc h=>by cases h)];go_simp;try go_bits))
  ·exact λj u hj=>b4z W (R7 x) 25 j u hj
  ·intro u hu
   simp only[R7,List.mem_cons,List.not_mem_nil,or_false] at hu;rcases hu with rfl|rfl|rfl<;>rfl
  ·intro v' w3 hown' hg3 hd3 hnil3
   obtain⟨hv3,hv4,hrow4,hko,hbe⟩:=hv.appended (by decide) hrow hbs (m8 _) hown' hg3;have hc3:=hv3.cell;have hf3:=hv3.frozen;obtain⟨g',cap',hv'⟩:=ownsRow_succ hown';subst hv'
   gi_wp2_with (rw[Oper.semAt_eq _ _ _ (λc h=>by cases h)];go_simp;try go_bits)
   refine⟨⟨_,hv4,?_,by simp⟩,hB.trans hbe,Nat.le_trans hD0 hd3⟩;rw[List.length_append,List.flatMap_append];simpa using hrow4
 case done=>
  rintro D ss W hD hS ⟨⟨v,hv,hrow,hnil⟩,hB,hD0⟩ hK;have hc:=hv.cell;have hf:=hv.frozen
  gi_wp2
  refine⟨by simp,.inl ⟨_,_,rfl,run_takeDeferred hK,?_⟩⟩;exact⟨_,results_tmp rfl _ _ _,v,ss,rfl,hS,ownsRow_putObj hrow _ hK rfl,hnil,hB.grown (grownBy_putObj' _ _ _) hB.size (λk e=>by cases e;omega),hD0⟩
theorem c6G(n:Nat)(hn:3<=n)(g:Nat)(lb:Array Value)(eg:∀args w,(callFunc g args).run Tryz.prog w=.ok (.enter g args) w)(S:List TX->Prop)(N:Nat)(hN:N<=maxLen)(hNb:N * 12<=140737488355328)
  (w:World) (hseq:a17 Fence.wide (n - 1 - 1) Tryz.prog g lb Z5 S N w):
  CallsIn Fence.wide n Tryz.prog 67 #[.func (.func g) #[] lb] w λe w' =>∃(v:Value) (ss:List TX),e=.returned v/\S ss/\w'.ownsRow w.heap.size 25 3 v ss.length (ss.flatMap R7)/\(v=.slice none 0 0↔ss=[])/\Below w.heap.size w w' /\w.drawn<=w'.drawn:=by
 have h1:1<=n:=by omega
 have F78:Fence.wide.fn 92:=tr;refine callsIn_of_wp Tryz.func67 rfl tr ?_ rfl;simp only[Tryz.ntmps67,List.size_toArray,List.length_cons,List.length_nil,Nat.reduceAdd,Nat.reduceSub,Array.replicate_succ,Array.replicate_zero,List.push_toArray,List.append_toArray,List.nil_append,List.cons_append]
 gi_wp2_with (gi_at_call 92;refine(c6F (n - 1) (by omega) g lb eg S N hN hNb _ hseq).mono ?_;rintro e w' ⟨v,ss,rfl,hS,hrow,hnil,hb⟩)
 go_ret
 exact⟨v,ss,rfl,hS,hrow,hnil,hb⟩
def c6K:Go.Shelf.Ren:=⟨fun|6=>52|15=>83|14=>82|28=>109|29=>110|20=>101|21=>102|22=>103|23=>104|24=>105|25=>106|26=>107|27=>108|46=>117|47=>118|48=>119|49=>120|50=>121|57=>135|n=>n,fun|22=>38|24=>25|25=>92|3=>3|39=>131|0=>0|53=>23|55=>153|4=>4|46=>145|45=>144|50=>149|5=>5|9=>9|66=>161|70=>165|76=>180|77=>181|n=>n,fun|n=>n⟩
theorem b8A:Go.Proofs.SlLaysF0.n6 Tryz.prog c6K where
 b2H:=by kernel_rfl
 f6:=⟨Tryz.f52.name,by decide,Tryz.func52.trans (congrArg some (by kernel_rfl))⟩
 f14:=⟨Tryz.f82.name,by decide,Tryz.func82.trans (congrArg some (by kernel_rfl))⟩
 f15:=Tryz.func83.trans (congrArg some (by kernel_rfl))
 f20:=⟨Tryz.f101.name,by decide,Tryz.func101.trans (congrArg some (by kernel_rfl))⟩
 f21:=⟨Tryz.f102.name,by decide,Tryz.func102.trans (congrArg some (by kernel_rfl))⟩
 f22:=⟨Tryz.f103.name,by decide,Tryz.func103.trans (congrArg some (by kernel_rfl))⟩
 f23:=⟨Tryz.f104.name,by decide,Tryz.func104.trans (congrArg some (by kernel_rfl))⟩
 f24:=⟨Tryz.f105.name,by decide,Tryz.func105.trans (congrArg some (by kernel_rfl))⟩
 f25:=⟨Tryz.f106.name,by decide,Tryz.func106.trans (congrArg some (by kernel_rfl))⟩
 f26:=⟨Tryz.f107.name,by decide,Tryz.func107.trans (congrArg some (by kernel_rfl))⟩
 f27:=⟨Tryz.f108.name,by decide,Tryz.func108.trans (congrArg some (by kernel_rfl))⟩
 f28:=Tryz.func109.trans (congrArg some (by kernel_rfl))
 f29:=Tryz.func110.trans (congrArg some (by kernel_rfl))
 f46:=⟨Tryz.f117.name,by decide,Tryz.func117.trans (congrArg some (by kernel_rfl))⟩
 f47:=Tryz.func118.trans (congrArg some (by kernel_rfl))
 f48:=Tryz.func119.trans (congrArg some (by kernel_rfl))
 f49:=⟨Tryz.f120.name,by decide,Tryz.func120.trans (congrArg some (by kernel_rfl))⟩
 f50:=⟨Tryz.f121.name,by decide,Tryz.func121.trans (congrArg some (by kernel_rfl))⟩
 f57:=⟨Tryz.f135.name,by decide,Tryz.func135.trans (congrArg some (by kernel_rfl))⟩
 t0:=Tryz.underlying0
 a0:=Tryz.isAgg0
 z0:=Tryz.sizeOf0
 v0:=Tryz.zeroValue0
 t3:=Tryz.underlying3
 a3:=Tryz.isAgg3
 z3:=Tryz.sizeOf3
 v3:=Tryz.zeroValue3
 t4:=Tryz.underlying4
 a4:=Tryz.isAgg4
 z4:=Tryz.sizeOf4
 v4:=Tryz.zeroValue4
 t5:=Tryz.underlying5
 a5:=Tryz.isAgg5
 z5:=Tryz.sizeOf5
 v5:=Tryz.zeroValue5
 t9:=Tryz.underlying9
 a9:=Tryz.isAgg9
 z9:=Tryz.sizeOf9
 v9:=Tryz.zeroValue9
 t22:=Tryz.underlying38
 a22:=Tryz.isAgg38
 z22:=Tryz.sizeOf38
 v22:=Tryz.zeroValue38
 t25:=Tryz.underlying92
 a25:=Tryz.isAgg92
 z25:=Tryz.sizeOf92
 v25:=Tryz.zeroValue92
 t39:=Tryz.underlying131
 a39:=Tryz.isAgg131
 z39:=Tryz.sizeOf131
 v39:=Tryz.zeroValue131
 t45:=Tryz.underlying144
 a45:=Tryz.isAgg144
 z45:=Tryz.sizeOf144
 v45:=Tryz.zeroValue144
 t46:=Tryz.underlying145
 a46:=Tryz.isAgg145
 z46:=Tryz.sizeOf145
 v46:=Tryz.zeroValue145
 t50:=Tryz.underlying149
 a50:=Tryz.isAgg149
 z50:=Tryz.sizeOf149
 v50:=Tryz.zeroValue149
 t53:=Tryz.underlying23
 a53:=Tryz.isAgg23
 z53:=Tryz.sizeOf23
 v53:=Tryz.zeroValue23
 t55:=Tryz.underlying153
 a55:=Tryz.isAgg153
 z55:=Tryz.sizeOf153
 v55:=Tryz.zeroValue153
 t66:=Tryz.underlying161
 a66:=Tryz.isAgg161
 z66:=Tryz.sizeOf161
 v66:=Tryz.zeroValue161
 t70:=Tryz.underlying165
 a70:=Tryz.isAgg165
 z70:=Tryz.sizeOf165
 v70:=Tryz.zeroValue165
 t76:=Tryz.underlying180
 a76:=Tryz.isAgg180
 z76:=Tryz.sizeOf180
 v76:=Tryz.zeroValue180
 t77:=Tryz.underlying181
 a77:=Tryz.isAgg181
 z77:=Tryz.sizeOf181
 v77:=Tryz.zeroValue181
theorem c6L(k1 g:Nat)(lb lbg:Array Value)(e1:∀args w,(callFunc k1 args).run Tryz.prog w=.ok (.enter k1 args) w)(eg:∀args w,(callFunc g args).run Tryz.prog w=.ok (.enter g args) w)
  (cf:TX->TX->Int) (hT:a08 cf)
  (ks:List TX) (hN:ks.length<=maxLen) (hNb:ks.length * 12<=140737488355328) (w:World) (hcmp:∀w1 blk off size,Below w.heap.size w w1->w.heap.size<=blk->Go.Proofs.CmpLays Tryz.prog g lbg R7 3 cf blk off size w1) (hseq:a17 Fence.wide 8 Tryz.prog k1 lb Z5 (λxs=>xs.Perm ks) ks.length w):
  Calls Tryz.prog 41 #[.func (.func k1) #[] lb,.func (.func g) #[] lbg] w λe w' =>∃v,e=.returned v/\Below w.heap.size w w' /\w.drawn<=w'.drawn/\a8n R7 3 w w' v (Z6 cf ks):=by
 have hc:Calls Tryz.prog 67 #[.func (.func k1) #[] lb] w _:=callsIn_wide.1 (c6G 10 (by omega) k1 lb e1 _ ks.length hN hNb w hseq);have hsort:∀(w1:World) (v:Value) (ss:List TX),ss.Perm ks->w1.ownsRow w.heap.size 25 3 v ss.length (ss.flatMap R7)->(v=.slice none 0 0↔ss=[])->Below w.heap.size w w1->
   Calls Tryz.prog 52 #[v,.func (.func g) #[] lbg] w1 λe w' =>e=.returned (.tuple #[])/\Below w.heap.size w1 w' /\w1.drawn<=w'.drawn/\a8n R7 3 w w' v (Z6 cf ks):=by
  intro w1 v ss hS hrow hnil hb;by_cases hss:ss=[]
  ·subst hss
   rw[hnil.2 rfl];have hks:ks=[]:=List.length_eq_zero_iff.1 (by rw[<-hS.length_eq];rfl);have h:=Go.Proofs.AnyF.slices_SortFunc_none b8A none 0 (.func (.func g) #[] lbg) w1;change Calls Tryz.prog 52 _ _ _ at h;refine h.mono ?_;rintro e w' ⟨rfl,rfl⟩;exact⟨rfl,Below.refl _ _,m8 _,.inl ⟨rfl,by subst hks;exact List.eq_nil_of_length_eq_zero (b30 cf [])⟩⟩
  ·obtain⟨m,hm⟩:∃m,ss.length=m+1:=⟨ss.length - 1,by have:=List.length_pos_iff.2 hss;omega⟩
   obtain⟨blk,cap,hv⟩:=ownsRow_succ (by rw[hm] at hrow;exact hrow);rw[<-hm] at hv;subst hv;obtain⟨h1,h2,h3,h4,_⟩:=b5S b0u hrow;have hsz:ss.toArray.size<4611686018427387904:=by
    have:=hS.length_eq;simp only[List.size_toArray];omega
   have h:=Go.Proofs.AnyQ.slices_SortFunc_total b8A 3 Tryz.isAgg25 Tryz.sizeOf25 R7 b0u b8B cf hT.swo g lbg blk 0 cap ss.toArray w1 eg (hcmp w1 blk 0 _ hb h2) h1 h3 hsz hT.tot;change Calls Tryz.prog 52 _ _ _ at h;rw[List.size_toArray] at h;refine h.mono ?_;rintro e w' ⟨rfl,n,os,rfl⟩;have hbs:=b4u R7 3 w1 blk 0 n (Z6 cf ss).toArray os w.heap.size h2 hb.size;refine⟨rfl,hbs.1,hbs.2,?_⟩;rw[<-c62 hT hS];exact c66 b0u (by decide) (m8 _) hrow (b30 cf ss) hss rfl
 clear hseq hcmp
 go_enter Tryz.func41,Tryz.ntmps41
 go_wp2_with (first
 |(go_at_call 67;refine hc.mono ?_;rintro e w1 ⟨v,ss,rfl,hS,hrow,hnil,hb,hd⟩)
 |(go_at_call 52;refine(hsort w1 v ss hS hrow hnil hb).mono ?_;rintro e w2 ⟨rfl,hb2,hd2,hs2⟩))
 go_ret
 exact⟨v,rfl,hb.trans hb2,Nat.le_trans hd hd2,hs2⟩
theorem c6N(n:Nat)(Bm b:Nat)(es:Array MapEntry)(clock:Nat)(ks:List TX)(w:World)(off:Nat)(hm:w.cell? ⟨Bm,off,none⟩=some (.map (some b)))(hBm:Bm<w.heap.size)(hb:w.heap[b]?=some (.map es clock))
  (hold:∀x∈es.toList,x.born<clock) (hnd:(es.toList.map (·.born)).Nodup) (hk:es.toList.map (·.key)=ks.map Z5):
  a17 Fence.wide n Tryz.prog 68 #[.pointer (some ⟨Bm,off,none⟩)] Z5 (λxs=>xs.Perm ks) es.size w:=λl J W hW hJ hY h0=>by
 have hbW:W.heap[b]?=some (.map es clock):=(hW.block b (Array.getElem?_eq_some_iff.1 hb).1).trans hb;have hc:W.cell? ⟨Bm,off,none⟩=some (.map (some b)):=(World.cell?_of_block (hW.block Bm hBm)).trans hm;refine callsIn_of_wp Tryz.func68 rfl tr ?_ rfl;simp only[Tryz.ntmps68,List.size_toArray,List.length_cons,List.length_nil,Nat.reduceAdd,Nat.reduceSub,Array.replicate_succ,Array.replicate_zero,List.push_toArray,List.append_toArray,List.nil_append,List.cons_append]
 gi_wp2_with (first
 |(gi_at_range;refine b9n _ rfl _ 69 rfl 25 79 Tryz.underlying69 b es clock rfl hbW ?_)
 |gi_in)
 go_frame
 have hrg0:Rg (W.alloc (.mapIter (some b) clock #[] clock)) b W.heap.size es clock []:=
  ⟨(Below.heap_alloc _ _ b (Array.getElem?_eq_some_iff.1 hbW).1).trans hbW,World.alloc_heap_new W _,(λd hd=>by cases hd),List.nodup_nil⟩
 have hJ0:J [] (W.alloc (.mapIter (some b) clock #[] clock)):=hJ [] W _ none h0 (World.grownBy_alloc W _ none) (m8 _) (λr e=>by cases e)
 gi_loopw [3] (λ_ wr=>∃(ds:List MapEntry) (xs:List TX),Rg wr b W.heap.size es clock ds/\ds.map (·.key)=xs.map Z5/\J xs wr)
  (λ_ wr=>a8R b W.heap.size wr)
 case atStart=>exact⟨[],[],hrg0,rfl,hJ0⟩
 case round=>
  obtain⟨ds,xs,hrg,hdx,hJs⟩:=hrel
  gi_wp2_with (first
 |(gi_at_next;refine b9m _ rfl _ rfl b W.heap.size es clock ds rfl hrg hold hnd ?_ ?_)
 |gi_in)
  ·intro hall
   gi_wp2
   go_end0
   refine⟨⟨_,rfl⟩,xs,?_,hJs⟩;have hp:=(hrg.perm hnd (λx hx=>hall x (by simpa using hx))).map (·.key);rw[hdx,hk] at hp;exact b7d Z5 b8z c6J hp
  ·intro e w2 he hrg2 hg2 hd2 hs2 hen
   obtain⟨x,hx⟩:∃x,e.key=Z5 x:=by
    have:e.key∈es.toList.map (·.key):=List.mem_map.2 ⟨e,by simpa using he,rfl⟩;rw[hk] at this;obtain⟨x,_,hx⟩:=List.mem_map.1 this;exact⟨x,hx.symm⟩
   rw[hx] at hen⊢;have hJ2:J xs w2:=hJ xs wr w2 _ hJs hg2 hd2 (λr e=>by cases e;exact⟨m8 _,_,hrg.it,rfl⟩);have hlt2:xs.length<es.size:=by
    have h1:=hrg2.len hnd;have h2:=congrArg List.length hdx;simp only[List.length_map,List.length_append,List.length_cons,List.length_nil] at h1 h2;omega
   have hJ3:J xs (w2.alloc (.cells #[.int .u8 x.F3,.int .u32 x.D6,.int .u32 x.F5] 25)):=hJ xs w2 _ none hJ2 (World.grownBy_alloc w2 _ none) (m8 _) (λr e=>by cases e);obtain⟨fn,tmps,assign,body,hy,hR⟩:=hY xs x _ hJ3 hlt2;unfold Z5 at hen hy⊢;clear hs2 hd2
   gi_wp2
   refine⟨λh=>absurd h (by simp[Fence.wide]),hR.mono ?_⟩;rintro e' W4 ⟨rfl,hJ4,hk4⟩
   gi_wp2
   have hrg4:=(hrg2.walks (KeepsWalks.alloc _ _)).walks hk4
   go_roundw
   case rel=>exact⟨ds++[e],xs++[x],hrg4,by rw[List.map_append,List.map_append,hdx,List.map_cons,hx];rfl,hJ4⟩
   case measure=>
    rw[hrg4.left,hrg.left];have:=hrg2.len hnd;simp only[List.length_append,List.length_cons,List.length_nil] at this⊢;omega
theorem c6M(φ:K5)(x:TX)(v:Value)(h:D8 φ (i8 x) v):v=Z5 x:=c6H φ x v h
theorem c6O(μ:d5)(x:TX):i4 μ (i8 x) (.agg (R7 x).toArray):=⟨_,rfl,A3.rel (b8y μ.fro x)⟩
end
end Go.Proofs.YtddgjfclpknkcaaGreatDoor.Wk
