import Derived.Test.YtddgjfclpknkcaaGreatDoorLckWd
namespace Go.Proofs.YtddgjfclpknkcaaGreatDoor.Wk
open Go Go.Cn Go.RowKit
set_option maxRecDepth 100000
set_option maxHeartbeats 4000000
set_option linter.unusedVariables false
set_option linter.unusedSimpArgs false
noncomputable section
variable (w0:World)(W:Nat->Prop)(μ0:d5)
theorem c6P(g:FuncId)(cmp:TX->TX->Option Int)(r:List TX)(caps:List LV)(cpre full:u6)(hcmp:∀x y r,cmp x y=some r->j9 Tryz.prog g (i8 x::i8 y::caps) cpre (.int .i64 r) [])(hsub:∀z∈cpre,z∈full)(b c:Nat)(m:List (TX×TU))
  (hb1:(b,LO.var [.map c])∈full) (hc1:(c,LO.mapR true F1 (x9 i8 (λ_=>LV.any) m))∈full) (h:a6l cmp 12 (m.map (·.1))=some r):j9 Tryz.prog 41 [.fn 68 [] [.ptr b 0 0],.fn g [] caps] full (.ds 3 r.length (b6 f5 default r)) []:=by
 obtain⟨cf,hT,hcf,hL1,hL2,rfl⟩:=c64 h;have eg:=c0W (hcmp default default _ (hcf default default)).1;refine⟨⟨_,Tryz.func41,by kernel_rfl,by kernel_rfl⟩,fun μ w vals hr hp hf=>?_⟩;obtain⟨v0,r0,rfl,⟨a0,b0,rfl,ha,hb⟩,v1,r1,rfl,⟨a1,b1,rfl,ha1,hb1'⟩,rfl⟩:=hr;obtain rfl:=b3n ha;obtain rfl:=b3n ha1;obtain⟨p,hpb,rfl⟩:=b7J hb;obtain⟨p',hpb',hok⟩:=hp.obj b _ hb1;obtain rfl:=i7 (hpb.symm.trans hpb');obtain⟨vm,hvm,hcell,hlt⟩:=b9c hok;obtain⟨q,hq,rfl⟩:=hvm;obtain⟨q',hq',hok2⟩:=hp.obj c _ hc1;obtain rfl:=i7 (hq.symm.trans hq');obtain⟨⟨es,clock,hes,hF2,hnd,hborn⟩,_⟩:=hok2;have hlen:es.size=(m.map (·.1)).length:=by
  have:=b1y _ _ hF2;rw[List.length_map];simpa using this
 have hseq:=c6N 8 p.rb q.rb es clock (m.map (·.1)) w _ hcell hlt hes hborn hnd (b1x c6M _ _ hF2);rw[hlen] at hseq;have hcl:∀w1 blk off size,Below w.heap.size w w1->w.heap.size<=blk->Go.Proofs.CmpLays Tryz.prog g b1 R7 3 cf blk off size w1:=λw1 blk off size hB hblk=>by
  have:=b9U (ek:=i8) (λx y=>hcmp x y _ (hcf x y)) c6O (hp.sub hsub) hb1' hB hblk 3 off size;simpa using this
 refine(c6L 68 g _ b1 (enters_of Tryz.func68 (by kernel_rfl) rfl) eg cf hT (m.map (·.1)) hL1 hL2 w hcl hseq).mono ?_;rintro e w' ⟨v,rfl,hb',hd',hs'⟩;obtain⟨μ',h1,h2⟩:=c67 b8y b0u b8B hp hb' hd' hs';exact⟨v,μ',rfl,h1,h2⟩
def a3U(r:(List TX)):LV:=.ds 3 r.length (b6 f5 default r)
def a3T(uu:UT)(hh ww:PT)(r:(List TX)):i9:=[(0,some (.var [.map 1,.map 2,.map 3])),(1,some (m7 uu [])),(2,some (b9 hh)),(3,some (b9 ww))]
def a3S(uu:UT)(hh ww:PT):List LO:=[.var [.map 1,.map 2,.map 3],m7 uu [],b9 hh,b9 ww]
def a67(uu:UT)(hh ww:PT):Option ((List TX)):=
 (P9 uu hh ww).bind λy2=>
 (mKU uu).bind λy4=>
 (a6l a2k 12 (uu.map (·.1))).bind λy5=>
 some y5
theorem a5i(uu:UT)(hh ww:PT)(r:(List TX))(h:a67 uu hh ww=some r):∀σ,p8 4 σ->j9 Tryz.prog 19 (n7 σ [.ptr 0 0 0]) (p5 σ 0 (a3S uu hh ww)) ((a3U r).ren σ) (p6 σ (a3T uu hh ww r)):=by
 refine u7 Tryz.func19 ⟨rfl,uP,tr,tr,tr⟩ ⟨rfl,uP,tr,tr,tr⟩ ?_;intro w0 W μ0 hμ;unfold a67 at h;obtain⟨y2,e1,h⟩:=d6 h;obtain⟨y4,e3,h⟩:=d6 h;obtain⟨y5,e6,h⟩:=d6 h;obtain rfl:=i7 h;exact l8 [] 21 [.reg [(0,j5 (.ds 3 (([]:List TX)).length (b6 f5 default ([]:List TX))))],.reg [(1,i6 (g9 [0,1,2,3] (T4 y2) (T2 uu hh ww) (T3 hh ww y2)))],.reg [(4,i6 (g9 [1,4] (b6F y4) (b6D uu) (b6E uu y4))),(5,{call:=some (.ds 3 y5.length (b6 f5 default y5),[(4,.var [.map 1]),(1,.mapR true F1 (x9 i8 (λ_=>LV.any) uu))],[])})]]
  (q3 (q6 (D4 (A6 3 (b6 f5 default []))) (I2 (q0 (U7 uu hh ww y2 e1 (f8 [0,1,2,3]) i1) (l0 (.var [.map 1,.map 2,.map 3])) (T5 i8 n9 (ag:=true) (ks:=F1) (m:=uu) (opn:=[])) (q7 (l0 (b9 hh)) (l0 (b9 ww))))) (q2 (l_ 0 3 rfl (a_ (a_ (a_ (c2P uu y4 e3 (f8 [1,4]) i1) (a_ (e_ (m7 uu []:LO)) tr)) tr) (a_ (a_ (a_ (c6P 43 a2k y5 [] [] [(4,.var [.map 1]),(1,.mapR true F1 (x9 i8 (λ_=>LV.any) uu))] (λx y r h=>b5U x y r h) (λz hz=>List.mem_cons_of_mem _ (List.mem_cons_of_mem _ hz)) 4 1 uu List.mem_cons_self (List.mem_cons_of_mem _ List.mem_cons_self) e6) (a_ (l0 (.var [.map 1])) (a_ (T5 i8 n9 (ag:=true) (ks:=F1) (m:=uu) (opn:=[])) tr))) tr) (b4 tr))))) tr))
def a2R(r:(List TX)):LV:=.ds 3 r.length (b6 f5 default r)
def a2Q(r:(List TX)):i9:=[]
def a4n(t:f7):List LO:=[.row 3 1 (λ_=>n8 t) false]
def a4m(t:f7):Nat->Int->(List TX)->Option ((List TX))
 |0,_,_=>none
 |fuel+1,i,l=>
  if decide (i<(t.f_L.length:Int)) then
   if 0<=i/\i<(t.f_L.length:Int) then
   if(l.length+(([(t.f_L.getD i.toNat default).n5.b7]:List TX)).length) * 12<=140737488351232 then
   a4m t fuel (IntKind.wrap .i64 (i+1)) (l++([(t.f_L.getD i.toNat default).n5.b7]:List TX))
   else none
   else none
  else
   some l
def a5Y(t:f7):Option ((List TX)):=
 a4m t big 0 ([]:List TX)
abbrev c4n(t:f7)(i:Int)(l:List TX)(r:(List TX)):Prop:=p3 w0 W μ0 Tryz.f27 1 1 (a2R r) (a2Q r) (z6 (o9 Tryz.f27) 0) ((.ptr 0 0 0):: .any:: .any::(.gs 1 l.length)::(.int .i64 i)::n_ 22 []) [some (.row 3 1 (λ_=>n8 t) false),some (.gr 3 l.length (b6 f5 default l))]
theorem c4o{w0 W μ0}(hμ:p4 μ0 1)(t:f7):∀(fuel:Nat) (i:Int) (l:List TX) (r:(List TX)),a4m t fuel i l=some r->c4n w0 W μ0 t i l r:=by
 intro fuel
 induction fuel with
 |zero=>intro i l r h;rw[a4m] at h;cases h
 |succ fuel ih=>
  intro i l r h;rw[a4m] at h;rcases i5 h with⟨C1,h⟩|⟨C1,h⟩
  ·obtain⟨G2,h⟩:=j6 h
   obtain⟨G3,h⟩:=j6 h;exact n3 hμ [3] 23 [.go,.reg [(6,hT)],.reg [(10,{os:=[(2,.gr 3 (([(t.f_L.getD i.toNat default).n5.b7]:List TX)).length (b6 f5 default ([(t.f_L.getD i.toNat default).n5.b7]:List TX)))],v:=some (.gs 2 (([(t.f_L.getD i.toNat default).n5.b7]:List TX)).length)}),(11,{app:=3,os:=[(3,.gr 3 ((l++([(t.f_L.getD i.toNat default).n5.b7]:List TX))).length (b6 f5 default (l++([(t.f_L.getD i.toNat default).n5.b7]:List TX))))],v:=some (.gs 3 ((l++([(t.f_L.getD i.toNat default).n5.b7]:List TX))).length)})],.reg []]
    (V2 (J1 (j4 0 1 rfl) (j4 0 3 rfl) (f_ C1 tr)) (J1 (j4 0 1 rfl) (j4 0 3 rfl) (q4 (e_ 5) G2 (b5 (q0 (q3 (d8 3 4 rfl)) (q0 (q0 (e_ true) (e_ 3) (j4 0 3 rfl) (d8 3 16777216 rfl)) (L5 2 1 (some 1) rfl) (L6 f5 default 3 (λ_=>rfl) ([(t.f_L.getD i.toNat default).n5.b7]:List TX)) tr) (q0 (q0 (a_ (e_ 3) (m8 (([(t.f_L.getD i.toNat default).n5.b7]:List TX)).length)) (q0 (j4 0 3 rfl) (j4 0 12 rfl) G3 (a_ (e_ 3) (e_ true))) (e_ 3) (m8 l.length)) (J6 3 l ([(t.f_L.getD i.toNat default).n5.b7]:List TX)) (J9 f5 default 3 l ([(t.f_L.getD i.toNat default).n5.b7]:List TX)) tr) (q8 tr)))))) (ih _ _ r h) ⟨λ_ _=>rfl,λ_ _=>rfl,tr⟩
  ·obtain rfl:=i7 h
   exact l8 [] 20 [.go,.reg [(6,hF)],.reg [],.frz 1]
    (q3 (B6 (J1 (j4 0 1 rfl) (j4 0 3 rfl) (f_ C1 tr)) tr (q0 (J2 (enc:=f5) (d:=default) (λ_=>rfl) l) (m8 l.length) (m8 l.length) (q7 (m8 l.length) (a32 (n8 t) 1 3 l.length (b6 f5 default l) rfl))) tr))
theorem a5Z(t:f7)(r:(List TX))(h:a5Y t=some r):∀σ,p8 1 σ->j9 Tryz.prog 27 (n7 σ [.ptr 0 0 0]) (p5 σ 0 (a4n t)) ((a2R r).ren σ) (p6 σ (a2Q r)):=by
 refine u7 Tryz.func27 ⟨λ_ _=>rfl,tr⟩ tr ?_;intro w0 W μ0 hμ;unfold a5Y at h;exact n3 hμ [1] 22 [.reg [(0,j5 (.ds 3 (([]:List TX)).length (b6 f5 default ([]:List TX))))],.void (.gr 3 (([]:List TX)).length (b6 f5 default ([]:List TX))),.reg [(0,j5 (.gs 1 (([]:List TX)).length))],.reg []]
  (E0 (D4 (A6 3 (b6 f5 default []))) (e_ 0) (D4 (q_ 1)) (q8 tr)) (c4o hμ t big _ _ r h) ⟨λ_ _=>rfl,λ_ _=>rfl,tr⟩
def a3O(r:(List TX)):LV:=.ds 3 r.length (b6 f5 default r)
def a3N(uu:UT)(hh ww:PT)(r:(List TX)):i9:=[(0,some (.var [.map 1,.map 2,.map 3])),(1,some (m7 uu [])),(2,some (b9 hh)),(3,some (b9 ww))]
def a5g(uu:UT)(hh ww:PT):List LO:=[.var [.map 1,.map 2,.map 3],m7 uu [],b9 hh,b9 ww]
def a82(uu:UT)(hh ww:PT)(x_k:A8 Int)(q:j7 TX):Option ((List TX)):=
 a0e q λl1=>
 (sFA l1 uu hh ww).bind λy4=>
 if l1.length=y4.length then
 some y4
 else none
def a63(uu:UT)(hh ww:PT)(x_k:A8 Int):Option ((List TX)):=
 (P9 uu hh ww).bind λy2=>
 (a1j ww x_k).bind λy4=>
 a82 uu hh ww x_k y4
theorem c1Y{w0 W μ0}(hμ:p4 μ0 4)(uu:UT)(hh ww:PT)(x_k:A8 Int)(q:j7 TX)(r:(List TX))(h:a82 uu hh ww x_k q=some r):p3 w0 W μ0 Tryz.f28 4 4 (a3O r) (a3N uu hh ww r) (z7 (o9 Tryz.f28) 4) ((.ptr 0 0 0)::n_ 4 ((.gs 4 q.length)::n_ 14 [])) [some (.var [.map 1,.map 2,.map 3]),some (m7 uu []),some (b9 hh),some (b9 ww),some (.bag 3 (j7.map f5 q))]:=by
 unfold a82 at h;refine a6X f5 default (sz:=3) (c:=4) (q:=q) (by kernel_rfl) (by kernel_rfl) (λl1 hC4_2=>?_)
 replace h:=a3t h hC4_2
 subst hC4_2;obtain⟨y4,E3,h⟩:=d6 h;obtain⟨G5,h⟩:=j6 h;obtain rfl:=i7 h;exact l8 [] 16 [.reg [(3,i6 (g9 [4,0,1,2,3] (b3B y4) (b3z l1 uu hh ww) (b3A uu hh ww y4)))],.reg [],.wk [(4,.gs 4 y4.length),(5,.gs 4 y4.length),(15,.gs 4 y4.length),(19,.gs 4 y4.length)] [],.frz 4]
  (q3 (B6 (q2 (q4 (b7Z l1 uu hh ww y4 E3 (f8 [4,0,1,2,3]) i1) (a_ (l0 (.gr 3 l1.length (b6 f5 default l1))) (n4 [.map 1,.map 2,.map 3] uu hh ww)) tr)) tr (q3 (E0 (A5 4 G5) (A5 4 G5) (A5 4 G5) (A5 4 G5))) (q3 (q0 (J2 (enc:=f5) (d:=default) (λ_=>rfl) y4) (m8 y4.length) (m8 y4.length) (q7 (m8 y4.length) (m8 y4.length))))))
theorem a64(uu:UT)(hh ww:PT)(x_k:A8 Int)(r:(List TX))(h:a63 uu hh ww x_k=some r):∀σ,p8 4 σ->j9 Tryz.prog 28 (n7 σ [.ptr 0 0 0,.agg [.int .u8 x_k.a0,.int .u8 x_k.a1,.int .u8 x_k.a2,.int .u8 x_k.a3,.int .u8 x_k.a4,.int .u8 x_k.a5,.int .u8 x_k.a6,.int .u8 x_k.a7]]) (p5 σ 0 (a5g uu hh ww)) ((a3O r).ren σ) (p6 σ (a3N uu hh ww r)):=by
 refine u7 Tryz.func28 ⟨rfl,uP,tr,tr,tr⟩ ⟨rfl,uP,tr,tr,tr⟩ ?_;intro w0 W μ0 hμ;unfold a63 at h;obtain⟨y2,e1,h⟩:=d6 h;obtain⟨y4,e3,h⟩:=d6 h;exact n3 hμ [5] 22 [.reg [(1,j5 (.ds 3 (([]:List TX)).length (b6 f5 default ([]:List TX))))],.reg [(1,i6 (g9 [0,1,2,3] (T4 y2) (T2 uu hh ww) (T3 hh ww y2)))],.reg [(5,i6 (g9 [3,5] (a3J y4) (a5b ww) (a3I ww y4)))]]
  (N6 (D4 (A6 3 (b6 f5 default []))) (I2 (q0 (U7 uu hh ww y2 e1 (f8 [0,1,2,3]) i1) (l0 (.var [.map 1,.map 2,.map 3])) (T5 i8 n9 (ag:=true) (ks:=F1) (m:=uu) (opn:=[])) (q7 (l0 (b9 hh)) (l0 (b9 ww))))) (q2 (l_ 2 3 rfl (m_ 8 8 rfl (a_ (a_ (a_ (a60 ww x_k y4 e3 (f8 [3,5]) i1) (a_ (l0 (b9 ww)) tr)) tr) (b4 tr)))))) (c1Y hμ uu hh ww x_k _ r h) ⟨rfl,uP,tr,tr,tr,tr⟩
def a2M(r:(List TX)):LV:=.ds 3 r.length (b6 f5 default r)
def a2L(r:(List TX)):i9:=[]
def a5X(t:f7):List LO:=[.row 3 1 (λ_=>n8 t) false]
def a2K(t:f7)(x_k:A8 Int)(i:Int)(l:List TX)(k0:Int->(List TX)->Option ((List TX))):Nat->Int->Option ((List TX))
 |0,_=>none
 |fuel+1,j=>
  if decide (j<(l.length:Int)) then
   if 0<=j/\j<(l.length:Int) then
   if 0<=i/\i<(t.f0.length:Int) then
   (a1C t (l.getD j.toNat default) (t.f0.getD i.toNat default).b7).bind λy5=>
   if y5 then
    a2K t x_k i l k0 fuel (IntKind.wrap .i64 (j+1))
   else
    if 0<=(0:Int)/\0<=j/\j<=(l.length:Int) then
    if(0+((l.take j.toNat)).length) * 12<=140737488351232 then
    if(((l.take j.toNat)).length+(([(t.f0.getD i.toNat default).b7]:List TX)).length) * 12<=140737488351232 then
    if 0<=j/\j<=(l.length:Int)/\(l.length:Int)<=(l.length:Int) then
    if((((l.take j.toNat)++([(t.f0.getD i.toNat default).b7]:List TX))).length+((l.drop j.toNat)).length) * 12<=140737488351232 then
    k0 (IntKind.wrap .i64 (i+1)) (((l.take j.toNat)++([(t.f0.getD i.toNat default).b7]:List TX))++(l.drop j.toNat))
    else none
    else none
    else none
    else none
    else none
   else none
   else none
  else
   if 0<=(0:Int)/\0<=j/\j<=(l.length:Int) then
   if(0+((l.take j.toNat)).length) * 12<=140737488351232 then
   if 0<=i/\i<(t.f0.length:Int) then
   if(((l.take j.toNat)).length+(([(t.f0.getD i.toNat default).b7]:List TX)).length) * 12<=140737488351232 then
   if 0<=j/\j<=(l.length:Int)/\(l.length:Int)<=(l.length:Int) then
   if((((l.take j.toNat)++([(t.f0.getD i.toNat default).b7]:List TX))).length+((l.drop j.toNat)).length) * 12<=140737488351232 then
   k0 (IntKind.wrap .i64 (i+1)) (((l.take j.toNat)++([(t.f0.getD i.toNat default).b7]:List TX))++(l.drop j.toNat))
   else none
   else none
   else none
   else none
   else none
   else none
def a1y(t:f7)(x_k:A8 Int):Nat->Int->(List TX)->Option ((List TX))
 |0,_,_=>none
 |fuel+1,i,l=>
  if decide (i<(t.f0.length:Int)) then
   if 0<=i/\i<(t.f0.length:Int) then
   if !decide ((t.f0.getD i.toNat default).j8=x_k) then
    a1y t x_k fuel (IntKind.wrap .i64 (i+1)) l
   else
    a2K t x_k i l (a1y t x_k fuel) big 0
   else none
  else
   some l
def a7E(t:f7)(x_k:A8 Int):Option ((List TX)):=
 a1y t x_k big 0 ([]:List TX)
abbrev c39(t:f7)(x_k:A8 Int)(i:Int)(l:List TX)(j:Int)(r:(List TX)):Prop:=p3 w0 W μ0 Tryz.f29 1 1 (a2M r) (a2L r) (z6 (o9 Tryz.f29) 1) ((.ptr 0 0 0):: .any:: .any::(.ptr 1 0 0):: .any::(.gs 2 l.length)::(.int .i64 i)::(.int .i64 j)::n_ 60 []) [some (.row 3 1 (λ_=>n8 t) false),some (.var [.int .u8 x_k.a0,.int .u8 x_k.a1,.int .u8 x_k.a2,.int .u8 x_k.a3,.int .u8 x_k.a4,.int .u8 x_k.a5,.int .u8 x_k.a6,.int .u8 x_k.a7]),some (.gr 3 l.length (b6 f5 default l))]
abbrev b7t(t:f7)(x_k:A8 Int)(i:Int)(l:List TX)(r:(List TX)):Prop:=p3 w0 W μ0 Tryz.f29 1 1 (a2M r) (a2L r) (z6 (o9 Tryz.f29) 0) ((.ptr 0 0 0):: .any:: .any::(.ptr 1 0 0):: .any::(.gs 2 l.length)::(.int .i64 i)::n_ 61 []) [some (.row 3 1 (λ_=>n8 t) false),some (.var [.int .u8 x_k.a0,.int .u8 x_k.a1,.int .u8 x_k.a2,.int .u8 x_k.a3,.int .u8 x_k.a4,.int .u8 x_k.a5,.int .u8 x_k.a6,.int .u8 x_k.a7]),some (.gr 3 l.length (b6 f5 default l))]
theorem c4b{w0 W μ0}(hμ:p4 μ0 1)(t:f7)(x_k:A8 Int)(i:Int)(l:List TX)(k0:Int->(List TX)->Option ((List TX)))(hk0:∀(i:Int) (l:List TX) (r:(List TX)),k0 i l=some r->b7t w0 W μ0 t x_k i l r):∀(fuel:Nat) (j:Int) (r:(List TX)),a2K t x_k i l k0 fuel j=some r->c39 w0 W μ0 t x_k i l j r:=by
 intro fuel
 induction fuel with
 |zero=>intro j r h;rw[a2K] at h;cases h
 |succ fuel ih=>
  intro j r h;rw[a2K] at h;rcases i5 h with⟨C1,h⟩|⟨C1,h⟩
  ·obtain⟨G2,h⟩:=j6 h
   obtain⟨G3,h⟩:=j6 h;obtain⟨y5,E4,h⟩:=d6 h;rcases i5 h with⟨C6,h⟩|⟨C6,h⟩
   ·exact n3 hμ [1,2] 20 [.go,.reg [(4,hT),(18,i6 (g9 [0] (a0T y5) (a0R t) (a0S y5))),(19,hT)],.reg []]
     (X1 (l9 (f_ C1 (b4 (b5 (o8 3 G2 tr (b4 (b5 (a_ (a_ (a_ (j4 0 1 rfl) (j4 2 3 rfl)) tr) (b4 (a_ (a_ (a_ (e_ 12) G3) tr) (b4 (a_ (a_ (d8 3 12 rfl) tr) (a_ (a_ (a_ (a1D t (l.getD j.toNat default) (t.f0.getD i.toNat default).b7 y5 E4 (f8 [0]) i1) (a_ (l0 (.row 3 1 (λ_=>n8 t) false)) tr)) tr) (f_ C6 tr))))))))))))))) (ih _ r h) ⟨λ_ _=>rfl,rfl,λ_ _=>rfl,tr⟩
   ·obtain⟨G7,h⟩:=j6 h
    obtain⟨G8,h⟩:=j6 h;obtain⟨G9,h⟩:=j6 h;obtain⟨G10,h⟩:=j6 h;obtain⟨G11,h⟩:=j6 h;exact n3 hμ [1,6] 22 [.go,.reg [(4,hT),(18,i6 (g9 [0] (a0T y5) (a0R t) (a0S y5))),(19,hF)],.frz 2,.reg [(2,j5 (.ds 3 ((l.take j.toNat)).length (b6 f5 default (l.take j.toNat)))),(3,{app:=3}),(12,{os:=[(4,.gr 3 (([(t.f0.getD i.toNat default).b7]:List TX)).length (b6 f5 default ([(t.f0.getD i.toNat default).b7]:List TX)))],v:=some (.gs 4 (([(t.f0.getD i.toNat default).b7]:List TX)).length)}),(13,{app:=3,os:=[(5,.gr 3 (((l.take j.toNat)++([(t.f0.getD i.toNat default).b7]:List TX))).length (b6 f5 default ((l.take j.toNat)++([(t.f0.getD i.toNat default).b7]:List TX))))],v:=some (.gs 5 (((l.take j.toNat)++([(t.f0.getD i.toNat default).b7]:List TX))).length)}),(16,j5 (.ds 3 ((l.drop j.toNat)).length (b6 f5 default (l.drop j.toNat)))),(17,{app:=3,os:=[(6,.gr 3 ((((l.take j.toNat)++([(t.f0.getD i.toNat default).b7]:List TX))++(l.drop j.toNat))).length (b6 f5 default (((l.take j.toNat)++([(t.f0.getD i.toNat default).b7]:List TX))++(l.drop j.toNat))))],v:=some (.gs 6 ((((l.take j.toNat)++([(t.f0.getD i.toNat default).b7]:List TX))++(l.drop j.toNat))).length)})],.reg []]
     (R6 (l9 (f_ C1 (b4 (b5 (o8 3 G2 tr (b4 (b5 (a_ (a_ (a_ (j4 0 1 rfl) (j4 2 3 rfl)) tr) (b4 (a_ (a_ (a_ (e_ 12) G3) tr) (b4 (a_ (a_ (d8 3 12 rfl) tr) (a_ (a_ (a_ (a1D t (l.getD j.toNat default) (t.f0.getD i.toNat default).b7 y5 E4 (f8 [0]) i1) (a_ (l0 (.row 3 1 (λ_=>n8 t) false)) tr)) tr) (f_ C6 tr)))))))))))))) (q0 (J2 (enc:=f5) (d:=default) (λ_=>rfl) l) (m8 l.length) (m8 l.length) (q7 (m8 l.length) (a32 (n8 t) 2 3 l.length (b6 f5 default l) rfl))) (b5 (q5 (a_ (e_ 3) G7) (a1n f5 default 3 l j.toNat (S7 G7.2.2)) (q9 (q0 (e_ 3) (j4 0 3 rfl) (j4 0 12 rfl) (a_ G8 (a_ (e_ 3) (e_ true)))) (O9 (j4 0 1 rfl) (j4 2 3 rfl) (e_ 12) G3 (q8 (q0 (q3 (d8 3 12 rfl)) (q0 (q0 (e_ true) (e_ 3) (j4 0 3 rfl) (d8 3 16777216 rfl)) (L5 4 1 (some 1) rfl) (L6 f5 default 3 (λ_=>rfl) ([(t.f0.getD i.toNat default).b7]:List TX)) tr) (q0 (q0 (a_ (e_ 3) (m8 (([(t.f0.getD i.toNat default).b7]:List TX)).length)) (q0 (j4 0 3 rfl) (j4 0 12 rfl) G9 (a_ (e_ 3) (e_ true))) (e_ 3) (m8 ((l.take j.toNat)).length)) (J6 5 (l.take j.toNat) ([(t.f0.getD i.toNat default).b7]:List TX)) (J9 f5 default 3 (l.take j.toNat) ([(t.f0.getD i.toNat default).b7]:List TX)) tr) (b5 (q5 (a_ (e_ 3) G10) (a2p f5 default 3 l j.toNat (S7 G10.2.1)) (a_ (q0 (q0 (e_ 3) (q0 (j4 0 3 rfl) (j4 0 12 rfl) G11 (a_ (e_ 3) (e_ true))) (e_ 3) (m8 (((l.take j.toNat)++([(t.f0.getD i.toNat default).b7]:List TX))).length)) (J6 6 ((l.take j.toNat)++([(t.f0.getD i.toNat default).b7]:List TX)) (l.drop j.toNat)) (J9 f5 default 3 ((l.take j.toNat)++([(t.f0.getD i.toNat default).b7]:List TX)) (l.drop j.toNat)) tr) (q8 tr))))))))))) (hk0 _ _ r h) ⟨λ_ _=>rfl,rfl,λ_ _=>rfl,tr⟩
  ·obtain⟨G2,h⟩:=j6 h
   obtain⟨G3,h⟩:=j6 h;obtain⟨G4,h⟩:=j6 h;obtain⟨G5,h⟩:=j6 h;obtain⟨G6,h⟩:=j6 h;obtain⟨G7,h⟩:=j6 h;exact n3 hμ [1,6] 22 [.go,.reg [(4,hF)],.frz 2,.reg [(2,j5 (.ds 3 ((l.take j.toNat)).length (b6 f5 default (l.take j.toNat)))),(3,{app:=3}),(12,{os:=[(4,.gr 3 (([(t.f0.getD i.toNat default).b7]:List TX)).length (b6 f5 default ([(t.f0.getD i.toNat default).b7]:List TX)))],v:=some (.gs 4 (([(t.f0.getD i.toNat default).b7]:List TX)).length)}),(13,{app:=3,os:=[(5,.gr 3 (((l.take j.toNat)++([(t.f0.getD i.toNat default).b7]:List TX))).length (b6 f5 default ((l.take j.toNat)++([(t.f0.getD i.toNat default).b7]:List TX))))],v:=some (.gs 5 (((l.take j.toNat)++([(t.f0.getD i.toNat default).b7]:List TX))).length)}),(16,j5 (.ds 3 ((l.drop j.toNat)).length (b6 f5 default (l.drop j.toNat)))),(17,{app:=3,os:=[(6,.gr 3 ((((l.take j.toNat)++([(t.f0.getD i.toNat default).b7]:List TX))++(l.drop j.toNat))).length (b6 f5 default (((l.take j.toNat)++([(t.f0.getD i.toNat default).b7]:List TX))++(l.drop j.toNat))))],v:=some (.gs 6 ((((l.take j.toNat)++([(t.f0.getD i.toNat default).b7]:List TX))++(l.drop j.toNat))).length)})],.reg []]
    (R6 (l9 (f_ C1 (u5 (z8 (B3 (b4 tr)))))) (E0 (J2 (enc:=f5) (d:=default) (λ_=>rfl) l) (m8 l.length) (m8 l.length) (a32 (n8 t) 2 3 l.length (b6 f5 default l) rfl)) (b5 (q5 (a_ (e_ 3) G2) (a1n f5 default 3 l j.toNat (S7 G2.2.2)) (q9 (q0 (e_ 3) (j4 0 3 rfl) (j4 0 12 rfl) (a_ G3 (a_ (e_ 3) (e_ true)))) (O9 (j4 0 1 rfl) (j4 2 3 rfl) (e_ 12) G4 (q8 (q0 (q3 (d8 3 12 rfl)) (q0 (q0 (e_ true) (e_ 3) (j4 0 3 rfl) (d8 3 16777216 rfl)) (L5 4 1 (some 1) rfl) (L6 f5 default 3 (λ_=>rfl) ([(t.f0.getD i.toNat default).b7]:List TX)) tr) (q0 (q0 (a_ (e_ 3) (m8 (([(t.f0.getD i.toNat default).b7]:List TX)).length)) (q0 (j4 0 3 rfl) (j4 0 12 rfl) G5 (a_ (e_ 3) (e_ true))) (e_ 3) (m8 ((l.take j.toNat)).length)) (J6 5 (l.take j.toNat) ([(t.f0.getD i.toNat default).b7]:List TX)) (J9 f5 default 3 (l.take j.toNat) ([(t.f0.getD i.toNat default).b7]:List TX)) tr) (b5 (q5 (a_ (e_ 3) G6) (a2p f5 default 3 l j.toNat (S7 G6.2.1)) (a_ (q0 (q0 (e_ 3) (q0 (j4 0 3 rfl) (j4 0 12 rfl) G7 (a_ (e_ 3) (e_ true))) (e_ 3) (m8 (((l.take j.toNat)++([(t.f0.getD i.toNat default).b7]:List TX))).length)) (J6 6 ((l.take j.toNat)++([(t.f0.getD i.toNat default).b7]:List TX)) (l.drop j.toNat)) (J9 f5 default 3 ((l.take j.toNat)++([(t.f0.getD i.toNat default).b7]:List TX)) (l.drop j.toNat)) tr) (q8 tr))))))))))) (hk0 _ _ r h) ⟨λ_ _=>rfl,rfl,λ_ _=>rfl,tr⟩
theorem c4a{w0 W μ0}(hμ:p4 μ0 1)(t:f7)(x_k:A8 Int):∀(fuel:Nat) (i:Int) (l:List TX) (r:(List TX)),a1y t x_k fuel i l=some r->b7t w0 W μ0 t x_k i l r:=by
 intro fuel
 induction fuel with
 |zero=>intro i l r h;rw[a1y] at h;cases h
 |succ fuel ih=>
  intro i l r h;rw[a1y] at h;rcases i5 h with⟨C1,h⟩|⟨C1,h⟩
  ·obtain⟨G2,h⟩:=j6 h
   rcases i5 h with⟨C3,h⟩|⟨C3,h⟩
   ·exact n3 hμ [1,2] 26 [.go,.reg [(6,hT)],.reg [(9,hT)],.reg []]
     (V2 (J1 (j4 0 1 rfl) (j4 2 3 rfl) (f_ C1 tr)) (O9 (j4 0 1 rfl) (j4 2 3 rfl) (e_ 12) G2 (q8 (q9 (d8 8 9 rfl) (m_ 8 8 rfl (a_ (a_ tr (a_ (LV.Le.trans (v6 (congrArg not ((J3 .u8) (t.f0.getD i.toNat default).j8 x_k))) (v6 C3)) tr)) tr)))))) (ih _ _ r h) ⟨λ_ _=>rfl,rfl,λ_ _=>rfl,tr⟩
   ·exact n3 hμ [1,2] 30 [.go,.reg [(6,hT)],.reg [(9,hF)],.reg []]
     (P0 (J1 (j4 0 1 rfl) (j4 2 3 rfl) (f_ C1 tr)) (O9 (j4 0 1 rfl) (j4 2 3 rfl) (e_ 12) G2 (q8 (q9 (d8 8 9 rfl) (m_ 8 8 rfl (a_ (a_ tr (a_ (LV.Le.trans (v6 (congrArg not ((J3 .u8) (t.f0.getD i.toNat default).j8 x_k))) (v6 C3)) tr)) tr))))) tr) (c4b hμ t x_k i l (a1y t x_k fuel) ih big _ r h) ⟨λ_ _=>rfl,rfl,λ_ _=>rfl,tr⟩
  ·obtain rfl:=i7 h
   exact l8 [] 20 [.go,.reg [(6,hF)],.reg [],.frz 2]
    (q3 (B6 (J1 (j4 0 1 rfl) (j4 2 3 rfl) (f_ C1 tr)) tr (q0 (J2 (enc:=f5) (d:=default) (λ_=>rfl) l) (m8 l.length) (m8 l.length) (q7 (m8 l.length) (a32 (n8 t) 2 3 l.length (b6 f5 default l) rfl))) tr))
theorem a7F(t:f7)(x_k:A8 Int)(r:(List TX))(h:a7E t x_k=some r):∀σ,p8 1 σ->j9 Tryz.prog 29 (n7 σ [.ptr 0 0 0,.agg [.int .u8 x_k.a0,.int .u8 x_k.a1,.int .u8 x_k.a2,.int .u8 x_k.a3,.int .u8 x_k.a4,.int .u8 x_k.a5,.int .u8 x_k.a6,.int .u8 x_k.a7]]) (p5 σ 0 (a5X t)) ((a2M r).ren σ) (p6 σ (a2L r)):=by
 refine u7 Tryz.func29 ⟨λ_ _=>rfl,tr⟩ tr ?_;intro w0 W μ0 hμ;unfold a7E at h;exact n3 hμ [1,2] 22 [.reg [(1,j5 (.ds 3 (([]:List TX)).length (b6 f5 default ([]:List TX))))],.void (.gr 3 (([]:List TX)).length (b6 f5 default ([]:List TX))),.reg [(0,j5 (.gs 2 (([]:List TX)).length))],.reg []]
  (E0 (q8 (D4 (A6 3 (b6 f5 default [])))) (e_ 0) (D4 (q_ 2)) (q8 tr)) (c4a hμ t x_k big _ _ r h) ⟨λ_ _=>rfl,rfl,λ_ _=>rfl,tr⟩
def b2i(r:Bool):LV:=.bool r
def b2h(uu:UT)(hh ww:PT)(r:Bool):i9:=[(0,some (.var [.map 1,.map 2,.map 3])),(1,some (m7 uu [])),(2,some (b9 hh)),(3,some (b9 ww))]
def b2g(uu:UT)(hh ww:PT):List LO:=[.var [.map 1,.map 2,.map 3],m7 uu [],b9 hh,b9 ww]
def a62(uu:UT)(hh ww:PT)(x:TX):Option Bool:=
 (P9 uu hh ww).bind λy2=>
 if(f9 uu x).isSome then
  (f9 uu x).bind λy4=>
  some y4.a07
 else
  some false
theorem b6i(uu:UT)(hh ww:PT)(x:TX)(r:Bool)(h:a62 uu hh ww x=some r):∀σ,p8 4 σ->j9 Tryz.prog 17 (n7 σ [.ptr 0 0 0,i8 x]) (p5 σ 0 (b2g uu hh ww)) ((b2i r).ren σ) (p6 σ (b2h uu hh ww r)):=by
 refine u7 Tryz.func17 ⟨rfl,uP,tr,tr,tr⟩ ⟨rfl,uP,tr,tr,tr⟩ ?_;intro w0 W μ0 hμ;unfold a62 at h;obtain⟨y2,e1,h⟩:=d6 h;rcases i5 h with⟨c3,h⟩|⟨c3,h⟩
 ·obtain⟨y4,e5,h⟩:=d6 h
  obtain rfl:=i7 h;exact l8 [] 18 [.reg [],.x (.p (.po 1 (i8 x) (n9 y4))),.reg [(1,i6 (g9 [0,1,2,3] (T4 y2) (T2 uu hh ww) (T3 hh ww y2))),(8,{look:=some (.ptr 5 0 0)}),(17,{look:=some (.ptr 5 0 0)})],.x (.p (.pc 1)),.wk [] [(1,m7 uu [])]]
   (q3 (q0 (b5 tr) (a_ (Q0 i8 n9 e5) (Q1 i8 x)) (q8 (q9 (q0 (U7 uu hh ww y2 e1 (f8 [0,1,2,3]) i1) (l0 (.var [.map 1,.map 2,.map 3])) (T5 i8 n9 (ag:=true) (ks:=F1) (m:=uu) (opn:=[(i8 x,5)])) (q7 (l0 (b9 hh)) (l0 (b9 ww)))) (l9 (l_ 0 3 rfl (m_ 3 3 rfl (a_ (a_ (a_ (e_ true) (a_ (N5 i8 n9 t6 uu x (isS e5)) (List.mem_cons_self (a:=((i8 x,5):LV×Nat)) (l:=[])))) tr) (b5 (l9 (l_ 0 3 rfl (m_ 3 3 rfl (a_ (a_ (a_ (e_ true) (a_ (N5 i8 n9 t6 uu x (isS e5)) (List.mem_cons_self (a:=((i8 x,5):LV×Nat)) (l:=[])))) tr) (b5 (l_ 4 5 rfl (b5 tr)))))))))))))) (a_ (q0 (P8 i8 n9 t6 uu x e5) (e_ true) (e_ true) (show 1≠5 from by decide)) (D4 (R2 i8 n9 t6 true F1 [] (m:=uu) (k:=x) e5)))))
 ·obtain rfl:=i7 h
  exact l8 [] 15 [.reg [],.reg [(1,i6 (g9 [0,1,2,3] (T4 y2) (T2 uu hh ww) (T3 hh ww y2))),(8,{look:=none})]]
   (X0 (q9 (q0 (U7 uu hh ww y2 e1 (f8 [0,1,2,3]) i1) (l0 (.var [.map 1,.map 2,.map 3])) (T5 i8 n9 (ag:=true) (ks:=F1) (m:=uu) (opn:=[])) (q7 (l0 (b9 hh)) (l0 (b9 ww)))) (l9 (l_ 0 3 rfl (m_ 3 3 rfl (a_ (a_ (a_ (e_ true) (pmN i8 n9 t6 uu x c3)) tr) (b4 (b5 (a_ tr (B3 (b5 tr)))))))))))
def b22(r:Bool):LV:=.bool r
def b21(r:Bool):i9:=[]
def b20(t:f7):List LO:=[.row 3 1 (λ_=>n8 t) false]
def a5T(t:f7)(x:TX):Option Bool:=
 (Y6 t x).bind λy2=>
 if decide (0<=y2) then
  if 0<=y2/\y2<(t.f_L.length:Int) then
  some (t.f_L.getD y2.toNat default).L_
  else none
 else
  some false
theorem b7r(t:f7)(x:TX)(r:Bool)(h:a5T t x=some r):∀σ,p8 1 σ->j9 Tryz.prog 32 (n7 σ [.ptr 0 0 0,i8 x]) (p5 σ 0 (b20 t)) ((b22 r).ren σ) (p6 σ (b21 r)):=by
 refine u7 Tryz.func32 ⟨λ_ _=>rfl,tr⟩ tr ?_;intro w0 W μ0 hμ;unfold a5T at h;obtain⟨y2,e1,h⟩:=d6 h;rcases i5 h with⟨c3,h⟩|⟨c3,h⟩
 ·obtain⟨g4,h⟩:=j6 h
  obtain rfl:=i7 h;exact l8 [] 18 [.reg [],.reg [(2,i6 (g9 [0] (R4 y2) (S5 t) (R3 y2)))],.reg [(2,hT)]]
   (q3 (q6 (b5 tr) (m_ 3 3 rfl (a_ (a_ (a_ (T6 t x y2 e1 (f8 [0]) i1) (a_ (l0 (.row 3 1 (λ_=>n8 t) false)) tr)) tr) (b4 tr))) (b5 (f_ c3 (b4 (b5 (a_ (a_ (a_ (j4 0 1 rfl) (j4 0 3 rfl)) tr) (b4 (a_ (a_ (a_ (e_ 5) g4) tr) (b4 (a_ (a_ (j4 0 1 rfl) tr) (b5 tr)))))))))) tr))
 ·obtain rfl:=i7 h
  exact l8 [] 18 [.reg [],.reg [(2,i6 (g9 [0] (R4 y2) (S5 t) (R3 y2)))],.reg [(2,hF)]]
   (q3 (q6 (b5 tr) (m_ 3 3 rfl (a_ (a_ (a_ (T6 t x y2 e1 (f8 [0]) i1) (a_ (l0 (.row 3 1 (λ_=>n8 t) false)) tr)) tr) (b4 tr))) (b5 (f_ c3 (B3 (b5 tr)))) tr))
def pl_LockPlays_v(r:Bool):LV:=.bool r
def a9A(t29:Int)(L:List m0)(Held Waits:List b8)(y8:(List TA))(y4:TO×Int×UT×(j7 (TL×Int))×(j7 (TL×Int)))(k0:Int->(List m0)->(List b8)->(List b8)->UT->PT->PT->Option Bool)(q q2:j7 (TL×Int)):Option Bool:=
 a0e q λl1=>
 a0e q2 λl3=>
 (a5N (f7.mk L Held Waits) (y8.getD t29.toNat default)).bind λy6=>
 (a7w y4.1).bind λyC9_8=>
 (a5P yC9_8 y6.1).bind λy10=>
 if !y10 then
  some false
 else
  if y4.2.1 !=y6.2.1 then
   some false
  else
   (a67 y4.2.2.1 l1 l3).bind λy14=>
   (a5Y (f7.mk y6.2.2.1 y6.2.2.2.1 y6.2.2.2.2)).bind λy16=>
   (a2B y14 y16).bind λy18=>
   if !y18 then
    some false
   else
    (a63 y4.2.2.1 l1 l3 (y8.getD t29.toNat default).j8).bind λy21=>
    (a7E (f7.mk y6.2.2.1 y6.2.2.2.1 y6.2.2.2.2) (y8.getD t29.toNat default).j8).bind λy23=>
    (a2B y21 y23).bind λy25=>
    if !y25 then
     some false
    else
     (a3M y4.2.2.1 l1 l3 (y8.getD t29.toNat default).n5.b7 (y8.getD t29.toNat default).j8).bind λy28=>
     (a0n (f7.mk y6.2.2.1 y6.2.2.2.1 y6.2.2.2.2) (y8.getD t29.toNat default).n5.b7 (y8.getD t29.toNat default).j8).bind λy30=>
     if y28 !=y30 then
      some false
     else
      (a5j y4.2.2.1 l1 l3 (y8.getD t29.toNat default).n5.b7).bind λy33=>
      (a4k (f7.mk y6.2.2.1 y6.2.2.2.1 y6.2.2.2.2) (y8.getD t29.toNat default).n5.b7).bind λy35=>
      if !(y33==y35) then
       some false
      else
       (a62 y4.2.2.1 l1 l3 (y8.getD t29.toNat default).n5.b7).bind λy38=>
       (a5T (f7.mk y6.2.2.1 y6.2.2.2.1 y6.2.2.2.2) (y8.getD t29.toNat default).n5.b7).bind λy40=>
       if !(y38==y40) then
        some false
       else
        k0 (IntKind.wrap .i64 (t29+1)) y6.2.2.1 y6.2.2.2.1 y6.2.2.2.2 y4.2.2.1 l1 l3
def a4d(Held:List b8)(us:UT)(m m2:PT):Nat->Int->Option Bool
 |0,_=>none
 |fuel+1,t105=>
  if decide (t105<(Held.length:Int)) then
   if 0<=t105/\t105<(Held.length:Int) then
   (a3M us m m2 (Held.getD t105.toNat default).b7 (Held.getD t105.toNat default).j8).bind λy4=>
   if y4 !=(Held.getD t105.toNat default).v8 then
    some false
   else
    a4d Held us m m2 fuel (IntKind.wrap .i64 (t105+1))
   else none
  else
   a4e.bind λy3=>
   some y3
def a2E(y8:(List TA)):Nat->Int->(List m0)->(List b8)->(List b8)->UT->PT->PT->Option Bool
 |0,_,_,_,_,_,_,_=>none
 |fuel+1,t29,L,Held,Waits,us,m,m2=>
  if decide (t29<(y8.length:Int)) then
   if 0<=t29/\t29<(y8.length:Int) then
   (a7u us m m2 (y8.getD t29.toNat default)).bind λy4=>
   a9A t29 L Held Waits y8 y4 (a2E y8 fuel) y4.2.2.2.1 y4.2.2.2.2
   else none
  else
   a4d Held us m m2 big 0
def a7t(script:List TA):Option Bool:=
 a5v.bind λy2=>
 (a5M script).bind λy4=>
 if y4 then
  a4e.bind λy7=>
  some y7
 else
  (a4h script).bind λy8=>
  a2E y8 big 0 ([]:List m0) ([]:List b8) ([]:List b8) y2.1 y2.2.1 y2.2.2
abbrev c3G(Held:List b8)(us:UT)(m m2:PT)(t105:Int)(r:Bool):Prop:=p3 w0 W μ0 Tryz.f6 0 0 (pl_LockPlays_v r) [] (z6 (o9 Tryz.f6) 1) (.any:: .any:: .any::(.ptr 0 0 0)::n_ 99 ((.ds 12 Held.length (b6 o4 default Held))::(.int .i64 (Held.length:Int))::(.int .i64 t105)::n_ 14 [])) [some (.var [.map 1,.map 2,.map 3]),some (m7 us []),some (b9 m),some (b9 m2)]
abbrev b7g(y8:(List TA))(t29:Int)(L:List m0)(Held Waits:List b8)(us:UT)(m m2:PT)(r:Bool):Prop:=p3 w0 W μ0 Tryz.f6 0 0 (pl_LockPlays_v r) [] (z6 (o9 Tryz.f6) 0) (.any:: .any:: .any::(.ptr 0 0 0)::(.ptr 1 0 0)::n_ 22 ((.ds 15 y8.length (b6 W5 default y8))::(.int .i64 (y8.length:Int))::(.int .i64 t29)::n_ 90 [])) [some (.var [.map 2,.map 3,.map 4]),some (.var (n8 (f7.mk L Held Waits))),some (m7 us []),some (b9 m),some (b9 m2)]
theorem c3H{w0 W μ0}(hμ:p4 μ0 0)(t29:Int)(L:List m0)(Held Waits:List b8)(y8:(List TA))(y4:TO×Int×UT×(j7 (TL×Int))×(j7 (TL×Int)))(k0:Int->(List m0)->(List b8)->(List b8)->UT->PT->PT->Option Bool)(hk0:∀(t29:Int) (L:List m0) (Held Waits:List b8) (us:UT) (m m2:PT) (r:Bool),k0 t29 L Held Waits us m m2=some r->b7g w0 W μ0 y8 t29 L Held Waits us m m2 r)(q q2:j7 (TL×Int))(r:Bool)(h:a9A t29 L Held Waits y8 y4 k0 q q2=some r):p3 w0 W μ0 Tryz.f6 0 0 (pl_LockPlays_v r) [] (z7 (o9 Tryz.f6) 9) (.any:: .any:: .any::(.ptr 0 0 0)::(.ptr 1 0 0):: .any::(.ptr 2 0 0)::(.ptr 3 0 0)::(.int .i64 y4.2.1)::n_ 18 ((.ds 15 y8.length (b6 W5 default y8))::(.int .i64 (y8.length:Int))::(.int .i64 t29)::n_ 90 [])) [some (.var [.map 4,.map 5,.map 6]),some (.var (n8 (f7.mk L Held Waits))),some (.var (W5 (y8.getD t29.toNat default))),some (.var (Z9 y4.1)),some (m7 y4.2.2.1 []),some (.mapq true x5 (j7.map (λe_=>(p9 e_.1,(LV.int .u8) e_.2)) q)),some (.mapq true x5 (j7.map (λe_=>(p9 e_.1,(LV.int .u8) e_.2)) q2))]:=by
 unfold a9A at h;refine b51 p9 (LV.int .u8) (ag:=true) (ks:=x5) (c:=5) (q:=q) (by kernel_rfl) (by kernel_rfl) (λl1 hC9_2=>?_)
 replace h:=a3t h hC9_2
 subst hC9_2;refine b51 p9 (LV.int .u8) (ag:=true) (ks:=x5) (c:=6) (q:=q2) (by kernel_rfl) (by kernel_rfl) (λl3 hC9_4=>?_)
 replace h:=a3t h hC9_4
 subst hC9_4;obtain⟨y6,E5,h⟩:=d6 h;obtain⟨yC9_8,E7,h⟩:=d6 h;obtain⟨y10,E9,h⟩:=d6 h;rcases i5 h with⟨C11,h⟩|⟨C11,h⟩
 ·obtain rfl:=i7 h
  exact l8 [] 22 [.reg [(1,i6 (g9 [1] (a1x y6) (a1v (f7.mk L Held Waits)) (a1w y6)))],.reg [],.reg [(1,hC (a0l yC9_8)),(3,hC (a0m y10)),(5,hT)],.reg []]
   (q3 (B6 (m_ 15 15 rfl (a_ (a_ (a_ (a2G (f7.mk L Held Waits) (y8.getD t29.toNat default) y6 E5 (f8 [1]) i1) (a_ (l0 (.var (n8 (f7.mk L Held Waits)))) tr)) tr) (l9 (a_ (a_ (a_ (e_ 2) (a_ (d8 2 2 rfl) (e_ 0))) tr) (b4 tr))))) (m_ 5 15 rfl (b4 (a_ (a_ (a_ (e_ 3) (a_ (d8 3 3 rfl) (e_ 0))) tr) tr))) (m_ 2 2 rfl (c_ (a2F y4.1 yC9_8 E7) (m_ 2 2 rfl (c_ (a2H yC9_8 y6.1 y10 E9) (b4 (f_ C11 (a_ tr (u5 (b5 (a_ tr (z8 (b5 (a_ tr (B3 (b4 tr))))))))))))))) (q3 (q8 tr))))
 ·rcases i5 h with⟨C12,h⟩|⟨C12,h⟩
  ·obtain rfl:=i7 h
   exact l8 [] 22 [.reg [(1,i6 (g9 [1] (a1x y6) (a1v (f7.mk L Held Waits)) (a1w y6)))],.reg [],.reg [(1,hC (a0l yC9_8)),(3,hC (a0m y10)),(5,hF),(10,hT)],.reg []]
    (q3 (B6 (m_ 15 15 rfl (a_ (a_ (a_ (a2G (f7.mk L Held Waits) (y8.getD t29.toNat default) y6 E5 (f8 [1]) i1) (a_ (l0 (.var (n8 (f7.mk L Held Waits)))) tr)) tr) (l9 (a_ (a_ (a_ (e_ 2) (a_ (d8 2 2 rfl) (e_ 0))) tr) (b4 tr))))) (m_ 5 15 rfl (b4 (a_ (a_ (a_ (e_ 3) (a_ (d8 3 3 rfl) (e_ 0))) tr) tr))) (m_ 2 2 rfl (c_ (a2F y4.1 yC9_8 E7) (m_ 2 2 rfl (c_ (a2H yC9_8 y6.1 y10 E9) (b4 (f_ C11 (l9 (f_ C12 (a_ tr (z8 (b5 (a_ tr (B3 (b4 tr)))))))))))))) (q3 (q8 tr))))
  ·obtain⟨y14,E13,h⟩:=d6 h
   obtain⟨y16,E15,h⟩:=d6 h;obtain⟨y18,E17,h⟩:=d6 h;rcases i5 h with⟨C19,h⟩|⟨C19,h⟩
   ·obtain rfl:=i7 h
    exact l8 [] 22 [.reg [(1,i6 (g9 [1] (a1x y6) (a1v (f7.mk L Held Waits)) (a1w y6)))],.reg [],.reg [(1,hC (a0l yC9_8)),(3,hC (a0m y10)),(5,hF),(10,hF),(12,i6 (g9 [0,4,5,6] (a3U y14) (a3S y4.2.2.1 l1 l3) (a3T y4.2.2.1 l1 l3 y14))),(13,i6 (g9 [1] (a2R y16) (a4n (f7.mk y6.2.2.1 y6.2.2.2.1 y6.2.2.2.2)) (a2Q y16))),(14,hC (U8 y18)),(17,hT)],.reg []]
     (q3 (B6 (m_ 15 15 rfl (a_ (a_ (a_ (a2G (f7.mk L Held Waits) (y8.getD t29.toNat default) y6 E5 (f8 [1]) i1) (a_ (l0 (.var (n8 (f7.mk L Held Waits)))) tr)) tr) (l9 (a_ (a_ (a_ (e_ 2) (a_ (d8 2 2 rfl) (e_ 0))) tr) (b4 tr))))) (m_ 5 15 rfl (b4 (a_ (a_ (a_ (e_ 3) (a_ (d8 3 3 rfl) (e_ 0))) tr) tr))) (m_ 2 2 rfl (c_ (a2F y4.1 yC9_8 E7) (m_ 2 2 rfl (c_ (a2H yC9_8 y6.1 y10 E9) (b4 (f_ C11 (l9 (f_ C12 (b4 (a_ (a_ (a_ (a5i y4.2.2.1 l1 l3 y14 E13 (f8 [0,4,5,6]) i1) (n4 [.map 4,.map 5,.map 6] y4.2.2.1 l1 l3)) tr) (a_ (a_ (a_ (a5Z (f7.mk y6.2.2.1 y6.2.2.2.1 y6.2.2.2.2) y16 E15 (f8 [1]) i1) (a_ (LO.Le.ofVar (n8 (f7.mk y6.2.2.1 y6.2.2.2.1 y6.2.2.2.2))) tr)) tr) (c_ (r_ y14 y16 y18 E17) (b5 (f_ C19 (a_ tr (B3 (b4 tr))))))))))))))))) (q3 (q8 tr))))
   ·obtain⟨y21,E20,h⟩:=d6 h
    obtain⟨y23,E22,h⟩:=d6 h;obtain⟨y25,E24,h⟩:=d6 h;rcases i5 h with⟨C26,h⟩|⟨C26,h⟩
    ·obtain rfl:=i7 h
     exact l8 [] 22 [.reg [(1,i6 (g9 [1] (a1x y6) (a1v (f7.mk L Held Waits)) (a1w y6)))],.reg [],.reg [(1,hC (a0l yC9_8)),(3,hC (a0m y10)),(5,hF),(10,hF),(12,i6 (g9 [0,4,5,6] (a3U y14) (a3S y4.2.2.1 l1 l3) (a3T y4.2.2.1 l1 l3 y14))),(13,i6 (g9 [1] (a2R y16) (a4n (f7.mk y6.2.2.1 y6.2.2.2.1 y6.2.2.2.2)) (a2Q y16))),(14,hC (U8 y18)),(17,hF),(21,i6 (g9 [0,4,5,6] (a3O y21) (a5g y4.2.2.1 l1 l3) (a3N y4.2.2.1 l1 l3 y21))),(24,i6 (g9 [1] (a2M y23) (a5X (f7.mk y6.2.2.1 y6.2.2.2.1 y6.2.2.2.2)) (a2L y23))),(25,hC (U8 y25)),(27,hT)],.reg []]
      (q3 (B6 (m_ 15 15 rfl (a_ (a_ (a_ (a2G (f7.mk L Held Waits) (y8.getD t29.toNat default) y6 E5 (f8 [1]) i1) (a_ (l0 (.var (n8 (f7.mk L Held Waits)))) tr)) tr) (l9 (a_ (a_ (a_ (e_ 2) (a_ (d8 2 2 rfl) (e_ 0))) tr) (b4 tr))))) (m_ 5 15 rfl (b4 (a_ (a_ (a_ (e_ 3) (a_ (d8 3 3 rfl) (e_ 0))) tr) tr))) (m_ 2 2 rfl (c_ (a2F y4.1 yC9_8 E7) (m_ 2 2 rfl (c_ (a2H yC9_8 y6.1 y10 E9) (b4 (f_ C11 (l9 (f_ C12 (b4 (a_ (a_ (a_ (a5i y4.2.2.1 l1 l3 y14 E13 (f8 [0,4,5,6]) i1) (n4 [.map 4,.map 5,.map 6] y4.2.2.1 l1 l3)) tr) (a_ (a_ (a_ (a5Z (f7.mk y6.2.2.1 y6.2.2.2.1 y6.2.2.2.2) y16 E15 (f8 [1]) i1) (a_ (LO.Le.ofVar (n8 (f7.mk y6.2.2.1 y6.2.2.2.1 y6.2.2.2.2))) tr)) tr) (c_ (r_ y14 y16 y18 E17) (b5 (f_ C19 (b5 (m_ 13 15 rfl (a_ (a_ (a_ (a64 y4.2.2.1 l1 l3 (y8.getD t29.toNat default).j8 y21 E20 (f8 [0,4,5,6]) i1) (n4 [.map 4,.map 5,.map 6] y4.2.2.1 l1 l3)) tr) (b4 (m_ 13 15 rfl (a_ (a_ (a_ (a7F (f7.mk y6.2.2.1 y6.2.2.2.1 y6.2.2.2.2) (y8.getD t29.toNat default).j8 y23 E22 (f8 [1]) i1) (a_ (LO.Le.ofVar (n8 (f7.mk y6.2.2.1 y6.2.2.2.1 y6.2.2.2.2))) tr)) tr) (c_ (r_ y21 y23 y25 E24) (b4 (f_ C26 tr))))))))))))))))))))))) (q3 (q8 tr))))
    ·obtain⟨y28,E27,h⟩:=d6 h
     obtain⟨y30,E29,h⟩:=d6 h;rcases i5 h with⟨C31,h⟩|⟨C31,h⟩
     ·obtain rfl:=i7 h
      exact l8 [] 27 [.reg [(1,i6 (g9 [1] (a1x y6) (a1v (f7.mk L Held Waits)) (a1w y6)))],.reg [],.reg [(1,hC (a0l yC9_8)),(3,hC (a0m y10)),(5,hF),(10,hF),(12,i6 (g9 [0,4,5,6] (a3U y14) (a3S y4.2.2.1 l1 l3) (a3T y4.2.2.1 l1 l3 y14))),(13,i6 (g9 [1] (a2R y16) (a4n (f7.mk y6.2.2.1 y6.2.2.2.1 y6.2.2.2.2)) (a2Q y16))),(14,hC (U8 y18)),(17,hF),(21,i6 (g9 [0,4,5,6] (a3O y21) (a5g y4.2.2.1 l1 l3) (a3N y4.2.2.1 l1 l3 y21))),(24,i6 (g9 [1] (a2M y23) (a5X (f7.mk y6.2.2.1 y6.2.2.2.1 y6.2.2.2.2)) (a2L y23))),(25,hC (U8 y25)),(27,hF)],.reg [(4,i6 (g9 [0,4,5,6] (a0J y28) (a0H y4.2.2.1 l1 l3) (a0I y4.2.2.1 l1 l3 y28))),(8,i6 (g9 [1] (Y5 y30) (s_ (f7.mk y6.2.2.1 y6.2.2.2.1 y6.2.2.2.2)) (Y4 y30))),(10,hT)],.reg []]
       (q3 (B6 (m_ 15 15 rfl (a_ (a_ (a_ (a2G (f7.mk L Held Waits) (y8.getD t29.toNat default) y6 E5 (f8 [1]) i1) (a_ (l0 (.var (n8 (f7.mk L Held Waits)))) tr)) tr) (l9 (a_ (a_ (a_ (e_ 2) (a_ (d8 2 2 rfl) (e_ 0))) tr) (b4 tr))))) (m_ 5 15 rfl (b4 (a_ (a_ (a_ (e_ 3) (a_ (d8 3 3 rfl) (e_ 0))) tr) tr))) (m_ 2 2 rfl (c_ (a2F y4.1 yC9_8 E7) (m_ 2 2 rfl (c_ (a2H yC9_8 y6.1 y10 E9) (b4 (f_ C11 (l9 (f_ C12 (b4 (a_ (a_ (a_ (a5i y4.2.2.1 l1 l3 y14 E13 (f8 [0,4,5,6]) i1) (n4 [.map 4,.map 5,.map 6] y4.2.2.1 l1 l3)) tr) (a_ (a_ (a_ (a5Z (f7.mk y6.2.2.1 y6.2.2.2.1 y6.2.2.2.2) y16 E15 (f8 [1]) i1) (a_ (LO.Le.ofVar (n8 (f7.mk y6.2.2.1 y6.2.2.2.1 y6.2.2.2.2))) tr)) tr) (c_ (r_ y14 y16 y18 E17) (b5 (f_ C19 (b5 (m_ 13 15 rfl (a_ (a_ (a_ (a64 y4.2.2.1 l1 l3 (y8.getD t29.toNat default).j8 y21 E20 (f8 [0,4,5,6]) i1) (n4 [.map 4,.map 5,.map 6] y4.2.2.1 l1 l3)) tr) (b4 (m_ 13 15 rfl (a_ (a_ (a_ (a7F (f7.mk y6.2.2.1 y6.2.2.2.1 y6.2.2.2.2) (y8.getD t29.toNat default).j8 y23 E22 (f8 [1]) i1) (a_ (LO.Le.ofVar (n8 (f7.mk y6.2.2.1 y6.2.2.2.1 y6.2.2.2.2))) tr)) tr) (c_ (r_ y21 y23 y25 E24) (b4 (f_ C26 tr))))))))))))))))))))))) (T7 (q8 (m_ 3 3 rfl (b4 (m_ 13 15 rfl (a_ (a_ (a_ (a1k y4.2.2.1 l1 l3 (y8.getD t29.toNat default).n5.b7 (y8.getD t29.toNat default).j8 y28 E27 (f8 [0,4,5,6]) i1) (n4 [.map 4,.map 5,.map 6] y4.2.2.1 l1 l3)) tr) (m_ 3 3 rfl (b4 (m_ 13 15 rfl (a_ (a_ (a_ (C_ (f7.mk y6.2.2.1 y6.2.2.2.1 y6.2.2.2.2) (y8.getD t29.toNat default).n5.b7 (y8.getD t29.toNat default).j8 y30 E29 (f8 [1]) i1) (a_ (LO.Le.ofVar (n8 (f7.mk y6.2.2.1 y6.2.2.2.1 y6.2.2.2.2))) tr)) tr) (b4 (f_ C31 (u5 (z8 (b5 (u5 (z8 (b4 tr))))))))))))))))))))
     ·obtain⟨y33,E32,h⟩:=d6 h
      obtain⟨y35,E34,h⟩:=d6 h;rcases i5 h with⟨C36,h⟩|⟨C36,h⟩
      ·obtain rfl:=i7 h
       exact l8 [] 27 [.reg [(1,i6 (g9 [1] (a1x y6) (a1v (f7.mk L Held Waits)) (a1w y6)))],.reg [],.reg [(1,hC (a0l yC9_8)),(3,hC (a0m y10)),(5,hF),(10,hF),(12,i6 (g9 [0,4,5,6] (a3U y14) (a3S y4.2.2.1 l1 l3) (a3T y4.2.2.1 l1 l3 y14))),(13,i6 (g9 [1] (a2R y16) (a4n (f7.mk y6.2.2.1 y6.2.2.2.1 y6.2.2.2.2)) (a2Q y16))),(14,hC (U8 y18)),(17,hF),(21,i6 (g9 [0,4,5,6] (a3O y21) (a5g y4.2.2.1 l1 l3) (a3N y4.2.2.1 l1 l3 y21))),(24,i6 (g9 [1] (a2M y23) (a5X (f7.mk y6.2.2.1 y6.2.2.2.1 y6.2.2.2.2)) (a2L y23))),(25,hC (U8 y25)),(27,hF)],.reg [(4,i6 (g9 [0,4,5,6] (a0J y28) (a0H y4.2.2.1 l1 l3) (a0I y4.2.2.1 l1 l3 y28))),(8,i6 (g9 [1] (Y5 y30) (s_ (f7.mk y6.2.2.1 y6.2.2.2.1 y6.2.2.2.2)) (Y4 y30))),(10,hF),(13,i6 (g9 [0,4,5,6] (a5m y33) (a5k y4.2.2.1 l1 l3) (a5l y4.2.2.1 l1 l3 y33))),(15,i6 (g9 [1] (a5W y35) (a5U (f7.mk y6.2.2.1 y6.2.2.2.1 y6.2.2.2.2)) (a5V y35))),(18,hT)],.reg []]
        (q3 (B6 (m_ 15 15 rfl (a_ (a_ (a_ (a2G (f7.mk L Held Waits) (y8.getD t29.toNat default) y6 E5 (f8 [1]) i1) (a_ (l0 (.var (n8 (f7.mk L Held Waits)))) tr)) tr) (l9 (a_ (a_ (a_ (e_ 2) (a_ (d8 2 2 rfl) (e_ 0))) tr) (b4 tr))))) (m_ 5 15 rfl (b4 (a_ (a_ (a_ (e_ 3) (a_ (d8 3 3 rfl) (e_ 0))) tr) tr))) (m_ 2 2 rfl (c_ (a2F y4.1 yC9_8 E7) (m_ 2 2 rfl (c_ (a2H yC9_8 y6.1 y10 E9) (b4 (f_ C11 (l9 (f_ C12 (b4 (a_ (a_ (a_ (a5i y4.2.2.1 l1 l3 y14 E13 (f8 [0,4,5,6]) i1) (n4 [.map 4,.map 5,.map 6] y4.2.2.1 l1 l3)) tr) (a_ (a_ (a_ (a5Z (f7.mk y6.2.2.1 y6.2.2.2.1 y6.2.2.2.2) y16 E15 (f8 [1]) i1) (a_ (LO.Le.ofVar (n8 (f7.mk y6.2.2.1 y6.2.2.2.1 y6.2.2.2.2))) tr)) tr) (c_ (r_ y14 y16 y18 E17) (b5 (f_ C19 (b5 (m_ 13 15 rfl (a_ (a_ (a_ (a64 y4.2.2.1 l1 l3 (y8.getD t29.toNat default).j8 y21 E20 (f8 [0,4,5,6]) i1) (n4 [.map 4,.map 5,.map 6] y4.2.2.1 l1 l3)) tr) (b4 (m_ 13 15 rfl (a_ (a_ (a_ (a7F (f7.mk y6.2.2.1 y6.2.2.2.1 y6.2.2.2.2) (y8.getD t29.toNat default).j8 y23 E22 (f8 [1]) i1) (a_ (LO.Le.ofVar (n8 (f7.mk y6.2.2.1 y6.2.2.2.1 y6.2.2.2.2))) tr)) tr) (c_ (r_ y21 y23 y25 E24) (b4 (f_ C26 tr))))))))))))))))))))))) (T7 (q8 (m_ 3 3 rfl (b4 (m_ 13 15 rfl (a_ (a_ (a_ (a1k y4.2.2.1 l1 l3 (y8.getD t29.toNat default).n5.b7 (y8.getD t29.toNat default).j8 y28 E27 (f8 [0,4,5,6]) i1) (n4 [.map 4,.map 5,.map 6] y4.2.2.1 l1 l3)) tr) (m_ 3 3 rfl (b4 (m_ 13 15 rfl (a_ (a_ (a_ (C_ (f7.mk y6.2.2.1 y6.2.2.2.1 y6.2.2.2.2) (y8.getD t29.toNat default).n5.b7 (y8.getD t29.toNat default).j8 y30 E29 (f8 [1]) i1) (a_ (LO.Le.ofVar (n8 (f7.mk y6.2.2.1 y6.2.2.2.1 y6.2.2.2.2))) tr)) tr) (b4 (f_ C31 (b4 (m_ 3 3 rfl (a_ (a_ (a_ (a68 y4.2.2.1 l1 l3 (y8.getD t29.toNat default).n5.b7 y33 E32 (f8 [0,4,5,6]) i1) (n4 [.map 4,.map 5,.map 6] y4.2.2.1 l1 l3)) tr) (m_ 3 3 rfl (a_ (a_ (a_ (a7A (f7.mk y6.2.2.1 y6.2.2.2.1 y6.2.2.2.2) (y8.getD t29.toNat default).n5.b7 y35 E34 (f8 [1]) i1) (a_ (LO.Le.ofVar (n8 (f7.mk y6.2.2.1 y6.2.2.2.1 y6.2.2.2.2))) tr)) tr) (b5 (f_ C36 (u5 (z8 (b4 tr))))))))))))))))))))))))
      ·obtain⟨y38,E37,h⟩:=d6 h
       obtain⟨y40,E39,h⟩:=d6 h;rcases i5 h with⟨C41,h⟩|⟨C41,h⟩
       ·obtain rfl:=i7 h
        exact l8 [] 27 [.reg [(1,i6 (g9 [1] (a1x y6) (a1v (f7.mk L Held Waits)) (a1w y6)))],.reg [],.reg [(1,hC (a0l yC9_8)),(3,hC (a0m y10)),(5,hF),(10,hF),(12,i6 (g9 [0,4,5,6] (a3U y14) (a3S y4.2.2.1 l1 l3) (a3T y4.2.2.1 l1 l3 y14))),(13,i6 (g9 [1] (a2R y16) (a4n (f7.mk y6.2.2.1 y6.2.2.2.1 y6.2.2.2.2)) (a2Q y16))),(14,hC (U8 y18)),(17,hF),(21,i6 (g9 [0,4,5,6] (a3O y21) (a5g y4.2.2.1 l1 l3) (a3N y4.2.2.1 l1 l3 y21))),(24,i6 (g9 [1] (a2M y23) (a5X (f7.mk y6.2.2.1 y6.2.2.2.1 y6.2.2.2.2)) (a2L y23))),(25,hC (U8 y25)),(27,hF)],.reg [(4,i6 (g9 [0,4,5,6] (a0J y28) (a0H y4.2.2.1 l1 l3) (a0I y4.2.2.1 l1 l3 y28))),(8,i6 (g9 [1] (Y5 y30) (s_ (f7.mk y6.2.2.1 y6.2.2.2.1 y6.2.2.2.2)) (Y4 y30))),(10,hF),(13,i6 (g9 [0,4,5,6] (a5m y33) (a5k y4.2.2.1 l1 l3) (a5l y4.2.2.1 l1 l3 y33))),(15,i6 (g9 [1] (a5W y35) (a5U (f7.mk y6.2.2.1 y6.2.2.2.1 y6.2.2.2.2)) (a5V y35))),(18,hF),(21,i6 (g9 [0,4,5,6] (b2i y38) (b2g y4.2.2.1 l1 l3) (b2h y4.2.2.1 l1 l3 y38))),(23,i6 (g9 [1] (b22 y40) (b20 (f7.mk y6.2.2.1 y6.2.2.2.1 y6.2.2.2.2)) (b21 y40))),(25,hT)],.reg []]
         (q3 (B6 (m_ 15 15 rfl (a_ (a_ (a_ (a2G (f7.mk L Held Waits) (y8.getD t29.toNat default) y6 E5 (f8 [1]) i1) (a_ (l0 (.var (n8 (f7.mk L Held Waits)))) tr)) tr) (l9 (a_ (a_ (a_ (e_ 2) (a_ (d8 2 2 rfl) (e_ 0))) tr) (b4 tr))))) (m_ 5 15 rfl (b4 (a_ (a_ (a_ (e_ 3) (a_ (d8 3 3 rfl) (e_ 0))) tr) tr))) (m_ 2 2 rfl (c_ (a2F y4.1 yC9_8 E7) (m_ 2 2 rfl (c_ (a2H yC9_8 y6.1 y10 E9) (b4 (f_ C11 (l9 (f_ C12 (b4 (a_ (a_ (a_ (a5i y4.2.2.1 l1 l3 y14 E13 (f8 [0,4,5,6]) i1) (n4 [.map 4,.map 5,.map 6] y4.2.2.1 l1 l3)) tr) (a_ (a_ (a_ (a5Z (f7.mk y6.2.2.1 y6.2.2.2.1 y6.2.2.2.2) y16 E15 (f8 [1]) i1) (a_ (LO.Le.ofVar (n8 (f7.mk y6.2.2.1 y6.2.2.2.1 y6.2.2.2.2))) tr)) tr) (c_ (r_ y14 y16 y18 E17) (b5 (f_ C19 (b5 (m_ 13 15 rfl (a_ (a_ (a_ (a64 y4.2.2.1 l1 l3 (y8.getD t29.toNat default).j8 y21 E20 (f8 [0,4,5,6]) i1) (n4 [.map 4,.map 5,.map 6] y4.2.2.1 l1 l3)) tr) (b4 (m_ 13 15 rfl (a_ (a_ (a_ (a7F (f7.mk y6.2.2.1 y6.2.2.2.1 y6.2.2.2.2) (y8.getD t29.toNat default).j8 y23 E22 (f8 [1]) i1) (a_ (LO.Le.ofVar (n8 (f7.mk y6.2.2.1 y6.2.2.2.1 y6.2.2.2.2))) tr)) tr) (c_ (r_ y21 y23 y25 E24) (b4 (f_ C26 tr))))))))))))))))))))))) (T7 (q8 (m_ 3 3 rfl (b4 (m_ 13 15 rfl (a_ (a_ (a_ (a1k y4.2.2.1 l1 l3 (y8.getD t29.toNat default).n5.b7 (y8.getD t29.toNat default).j8 y28 E27 (f8 [0,4,5,6]) i1) (n4 [.map 4,.map 5,.map 6] y4.2.2.1 l1 l3)) tr) (m_ 3 3 rfl (b4 (m_ 13 15 rfl (a_ (a_ (a_ (C_ (f7.mk y6.2.2.1 y6.2.2.2.1 y6.2.2.2.2) (y8.getD t29.toNat default).n5.b7 (y8.getD t29.toNat default).j8 y30 E29 (f8 [1]) i1) (a_ (LO.Le.ofVar (n8 (f7.mk y6.2.2.1 y6.2.2.2.1 y6.2.2.2.2))) tr)) tr) (b4 (f_ C31 (b4 (m_ 3 3 rfl (a_ (a_ (a_ (a68 y4.2.2.1 l1 l3 (y8.getD t29.toNat default).n5.b7 y33 E32 (f8 [0,4,5,6]) i1) (n4 [.map 4,.map 5,.map 6] y4.2.2.1 l1 l3)) tr) (m_ 3 3 rfl (a_ (a_ (a_ (a7A (f7.mk y6.2.2.1 y6.2.2.2.1 y6.2.2.2.2) (y8.getD t29.toNat default).n5.b7 y35 E34 (f8 [1]) i1) (a_ (LO.Le.ofVar (n8 (f7.mk y6.2.2.1 y6.2.2.2.1 y6.2.2.2.2))) tr)) tr) (b5 (f_ C36 (b4 (m_ 3 3 rfl (a_ (a_ (a_ (b6i y4.2.2.1 l1 l3 (y8.getD t29.toNat default).n5.b7 y38 E37 (f8 [0,4,5,6]) i1) (n4 [.map 4,.map 5,.map 6] y4.2.2.1 l1 l3)) tr) (m_ 3 3 rfl (a_ (a_ (a_ (b7r (f7.mk y6.2.2.1 y6.2.2.2.1 y6.2.2.2.2) (y8.getD t29.toNat default).n5.b7 y40 E39 (f8 [1]) i1) (a_ (LO.Le.ofVar (n8 (f7.mk y6.2.2.1 y6.2.2.2.1 y6.2.2.2.2))) tr)) tr) (b4 (f_ C41 tr))))))))))))))))))))))))))))
       ·exact n3 hμ [0,1,4,5,6] 28 [.reg [(1,i6 (g9 [1] (a1x y6) (a1v (f7.mk L Held Waits)) (a1w y6)))],.reg [],.reg [(1,hC (a0l yC9_8)),(3,hC (a0m y10)),(5,hF),(10,hF),(12,i6 (g9 [0,4,5,6] (a3U y14) (a3S y4.2.2.1 l1 l3) (a3T y4.2.2.1 l1 l3 y14))),(13,i6 (g9 [1] (a2R y16) (a4n (f7.mk y6.2.2.1 y6.2.2.2.1 y6.2.2.2.2)) (a2Q y16))),(14,hC (U8 y18)),(17,hF),(21,i6 (g9 [0,4,5,6] (a3O y21) (a5g y4.2.2.1 l1 l3) (a3N y4.2.2.1 l1 l3 y21))),(24,i6 (g9 [1] (a2M y23) (a5X (f7.mk y6.2.2.1 y6.2.2.2.1 y6.2.2.2.2)) (a2L y23))),(25,hC (U8 y25)),(27,hF)],.reg [(4,i6 (g9 [0,4,5,6] (a0J y28) (a0H y4.2.2.1 l1 l3) (a0I y4.2.2.1 l1 l3 y28))),(8,i6 (g9 [1] (Y5 y30) (s_ (f7.mk y6.2.2.1 y6.2.2.2.1 y6.2.2.2.2)) (Y4 y30))),(10,hF),(13,i6 (g9 [0,4,5,6] (a5m y33) (a5k y4.2.2.1 l1 l3) (a5l y4.2.2.1 l1 l3 y33))),(15,i6 (g9 [1] (a5W y35) (a5U (f7.mk y6.2.2.1 y6.2.2.2.1 y6.2.2.2.2)) (a5V y35))),(18,hF),(21,i6 (g9 [0,4,5,6] (b2i y38) (b2g y4.2.2.1 l1 l3) (b2h y4.2.2.1 l1 l3 y38))),(23,i6 (g9 [1] (b22 y40) (b20 (f7.mk y6.2.2.1 y6.2.2.2.1 y6.2.2.2.2)) (b21 y40))),(25,hF)],.reg []]
         (B6 (m_ 15 15 rfl (a_ (a_ (a_ (a2G (f7.mk L Held Waits) (y8.getD t29.toNat default) y6 E5 (f8 [1]) i1) (a_ (l0 (.var (n8 (f7.mk L Held Waits)))) tr)) tr) (l9 (a_ (a_ (a_ (e_ 2) (a_ (d8 2 2 rfl) (e_ 0))) tr) (b4 tr))))) (m_ 5 15 rfl (b4 (a_ (a_ (a_ (e_ 3) (a_ (d8 3 3 rfl) (e_ 0))) tr) tr))) (m_ 2 2 rfl (c_ (a2F y4.1 yC9_8 E7) (m_ 2 2 rfl (c_ (a2H yC9_8 y6.1 y10 E9) (b4 (f_ C11 (l9 (f_ C12 (b4 (a_ (a_ (a_ (a5i y4.2.2.1 l1 l3 y14 E13 (f8 [0,4,5,6]) i1) (n4 [.map 4,.map 5,.map 6] y4.2.2.1 l1 l3)) tr) (a_ (a_ (a_ (a5Z (f7.mk y6.2.2.1 y6.2.2.2.1 y6.2.2.2.2) y16 E15 (f8 [1]) i1) (a_ (LO.Le.ofVar (n8 (f7.mk y6.2.2.1 y6.2.2.2.1 y6.2.2.2.2))) tr)) tr) (c_ (r_ y14 y16 y18 E17) (b5 (f_ C19 (b5 (m_ 13 15 rfl (a_ (a_ (a_ (a64 y4.2.2.1 l1 l3 (y8.getD t29.toNat default).j8 y21 E20 (f8 [0,4,5,6]) i1) (n4 [.map 4,.map 5,.map 6] y4.2.2.1 l1 l3)) tr) (b4 (m_ 13 15 rfl (a_ (a_ (a_ (a7F (f7.mk y6.2.2.1 y6.2.2.2.1 y6.2.2.2.2) (y8.getD t29.toNat default).j8 y23 E22 (f8 [1]) i1) (a_ (LO.Le.ofVar (n8 (f7.mk y6.2.2.1 y6.2.2.2.1 y6.2.2.2.2))) tr)) tr) (c_ (r_ y21 y23 y25 E24) (b4 (f_ C26 tr))))))))))))))))))))))) (q7 (q8 (m_ 3 3 rfl (b4 (m_ 13 15 rfl (a_ (a_ (a_ (a1k y4.2.2.1 l1 l3 (y8.getD t29.toNat default).n5.b7 (y8.getD t29.toNat default).j8 y28 E27 (f8 [0,4,5,6]) i1) (n4 [.map 4,.map 5,.map 6] y4.2.2.1 l1 l3)) tr) (m_ 3 3 rfl (b4 (m_ 13 15 rfl (a_ (a_ (a_ (C_ (f7.mk y6.2.2.1 y6.2.2.2.1 y6.2.2.2.2) (y8.getD t29.toNat default).n5.b7 (y8.getD t29.toNat default).j8 y30 E29 (f8 [1]) i1) (a_ (LO.Le.ofVar (n8 (f7.mk y6.2.2.1 y6.2.2.2.1 y6.2.2.2.2))) tr)) tr) (b4 (f_ C31 (b4 (m_ 3 3 rfl (a_ (a_ (a_ (a68 y4.2.2.1 l1 l3 (y8.getD t29.toNat default).n5.b7 y33 E32 (f8 [0,4,5,6]) i1) (n4 [.map 4,.map 5,.map 6] y4.2.2.1 l1 l3)) tr) (m_ 3 3 rfl (a_ (a_ (a_ (a7A (f7.mk y6.2.2.1 y6.2.2.2.1 y6.2.2.2.2) (y8.getD t29.toNat default).n5.b7 y35 E34 (f8 [1]) i1) (a_ (LO.Le.ofVar (n8 (f7.mk y6.2.2.1 y6.2.2.2.1 y6.2.2.2.2))) tr)) tr) (b5 (f_ C36 (b4 (m_ 3 3 rfl (a_ (a_ (a_ (b6i y4.2.2.1 l1 l3 (y8.getD t29.toNat default).n5.b7 y38 E37 (f8 [0,4,5,6]) i1) (n4 [.map 4,.map 5,.map 6] y4.2.2.1 l1 l3)) tr) (m_ 3 3 rfl (a_ (a_ (a_ (b7r (f7.mk y6.2.2.1 y6.2.2.2.1 y6.2.2.2.2) (y8.getD t29.toNat default).n5.b7 y40 E39 (f8 [1]) i1) (a_ (LO.Le.ofVar (n8 (f7.mk y6.2.2.1 y6.2.2.2.1 y6.2.2.2.2))) tr)) tr) (b4 (f_ C41 tr))))))))))))))))))))))))) (b5 tr))) (hk0 _ _ _ _ _ _ _ r h) ⟨rfl,rfl,uP,tr,tr,tr⟩
theorem c3J{w0 W μ0}(hμ:p4 μ0 0)(Held:List b8)(us:UT)(m m2:PT):∀(fuel:Nat) (t105:Int) (r:Bool),a4d Held us m m2 fuel t105=some r->c3G w0 W μ0 Held us m m2 t105 r:=by
 intro fuel
 induction fuel with
 |zero=>intro t105 r h;rw[a4d] at h;cases h
 |succ fuel ih=>
  intro t105 r h;rw[a4d] at h;rcases i5 h with⟨C1,h⟩|⟨C1,h⟩
  ·obtain⟨G2,h⟩:=j6 h
   obtain⟨y4,E3,h⟩:=d6 h;rcases i5 h with⟨C5,h⟩|⟨C5,h⟩
   ·obtain rfl:=i7 h
    exact l8 [] 28 [.go,.reg [(0,hT)],.reg [],.reg [(5,i6 (g9 [0,1,2,3] (a0J y4) (a0H us m m2) (a0I us m m2 y4))),(8,hT)],.reg []]
     (q3 (E0 (f_ C1 tr) (q4 (e_ 12) G2 (K1 (d8 12 12 rfl) (e_ 12) (d8 12 12 rfl) (e_ 0))) (b5 (m_ 3 12 rfl (b4 (m_ 11 12 rfl (a_ (a_ (a_ (a1k us m m2 (Held.getD t105.toNat default).b7 (Held.getD t105.toNat default).j8 y4 E3 (f8 [0,1,2,3]) i1) (n4 [.map 1,.map 2,.map 3] us m m2)) tr) (b4 (l_ 11 12 rfl (f_ C5 tr)))))))) (q8 tr)))
   ·exact n3 hμ [0,1,2,3] 29 [.go,.reg [(0,hT)],.reg [],.reg [(5,i6 (g9 [0,1,2,3] (a0J y4) (a0H us m m2) (a0I us m m2 y4))),(8,hF)],.reg []]
     (V3 (f_ C1 tr) (q4 (e_ 12) G2 (K1 (d8 12 12 rfl) (e_ 12) (d8 12 12 rfl) (e_ 0))) (b5 (m_ 3 12 rfl (b4 (m_ 11 12 rfl (a_ (a_ (a_ (a1k us m m2 (Held.getD t105.toNat default).b7 (Held.getD t105.toNat default).j8 y4 E3 (f8 [0,1,2,3]) i1) (n4 [.map 1,.map 2,.map 3] us m m2)) tr) (b4 (l_ 11 12 rfl (f_ C5 tr))))))))) (ih _ r h) uT
  ·obtain⟨y3,E2,h⟩:=d6 h
   obtain rfl:=i7 h;exact l8 [] 19 [.go,.reg [(0,hF)],.reg [(0,hC (a9B y3))]]
    (F8 (f_ C1 tr) (c_ (b7h y3 E2) (b4 tr)))
theorem c3I{w0 W μ0}(hμ:p4 μ0 0)(y8:(List TA)):∀(fuel:Nat) (t29:Int) (L:List m0) (Held Waits:List b8) (us:UT) (m m2:PT) (r:Bool),a2E y8 fuel t29 L Held Waits us m m2=some r->b7g w0 W μ0 y8 t29 L Held Waits us m m2 r:=by
 intro fuel
 induction fuel with
 |zero=>intro t29 L Held Waits us m m2 r h;rw[a2E] at h;cases h
 |succ fuel ih=>
  intro t29 L Held Waits us m m2 r h;rw[a2E] at h;rcases i5 h with⟨C1,h⟩|⟨C1,h⟩
  ·obtain⟨G2,h⟩:=j6 h
   obtain⟨y4,E3,h⟩:=d6 h;exact n3 hμ [0,1,5,6,2,3,4] 25 [.go,.reg [(0,hT)],.reg [],.reg [(2,i6 (g9 [0,2,3,4] (b7k y4) (b7i us m m2) (b7j y4)))]]
    (q0 (f_ C1 tr) (q4 (e_ 15) G2 (K1 (d8 15 15 rfl) (e_ 15) (d8 15 15 rfl) (e_ 0))) (q8 (m_ 15 15 rfl (a_ (a_ (a_ (c3M us m m2 (y8.getD t29.toNat default) y4 E3 (f8 [0,2,3,4]) i1) (n4 [.map 2,.map 3,.map 4] us m m2)) tr) (l9 (a_ (a_ (a_ (e_ 2) (a_ (d8 2 2 rfl) (e_ 0))) tr) (b4 tr)))))) tr) (c3H hμ t29 L Held Waits y8 y4 (a2E y8 fuel) ih _ _ r h) ⟨rfl,rfl,rfl,rfl,uP,tr,tr,tr⟩
  ·exact n3 hμ [0,2,3,4] 22 [.go,.reg [(0,hF)],.reg []]
    (q7 (f_ C1 tr) (q8 (l_ 1 3 rfl (b5 tr)))) (c3J hμ Held us m m2 big _ r h) uT
theorem c3K(script:List TA)(r:Bool)(h:a7t script=some r):∀σ,p8 0 σ->j9 Tryz.prog 6 (n7 σ [.ds 15 script.length (b6 W5 default script)]) (p5 σ 0 []) ((pl_LockPlays_v r).ren σ) (p6 σ []):=by
 refine u7 Tryz.func6 tr tr ?_;intro w0 W μ0 hμ;unfold a7t at h;obtain⟨y2,e1,h⟩:=d6 h;obtain⟨y4,e3,h⟩:=d6 h;rcases i5 h with⟨c5,h⟩|⟨c5,h⟩
 ·obtain⟨y7,e6,h⟩:=d6 h
  obtain rfl:=i7 h;exact l8 [] 26 [.reg [],.reg [(0,i6 (g9 [0,1,2,3] (a0L y2) [] (a0K y2)))],.reg [],.reg [(4,hC (a7v y4)),(5,hT)],.reg [(3,hC (a9B y7))]]
   (q3 (P0 (q8 tr) (I2 (q3 (a1o y2 e1 (f8 [0,1,2,3]) i1))) (q7 (l9 (c_ (b7l script y4 e3) (f_ c5 tr))) (q2 (c_ (b7h y7 e6) (b5 tr))))))
 ·obtain⟨y8,e6,h⟩:=d6 h
  exact n3 hμ [0,4,1,2,3] 33 [.reg [],.reg [(0,i6 (g9 [0,1,2,3] (a0L y2) [] (a0K y2)))],.reg [],.reg [(4,hC (a7v y4)),(5,hF)],.reg [(1,hC (a9C y8))],.wk [] [(4,.var [.ds 5 (([]:List m0)).length (b6 B5 default ([]:List m0)),.nilsl,.nilsl])],.wk [] [(4,.var [.ds 5 (([]:List m0)).length (b6 B5 default ([]:List m0)),.ds 12 (([]:List b8)).length (b6 o4 default ([]:List b8)),.nilsl])],.wk [] [(4,.var (n8 (f7.mk ([]:List m0) ([]:List b8) ([]:List b8))))]]
   (P0 (q8 tr) (I2 (q3 (a1o y2 e1 (f8 [0,1,2,3]) i1))) (q6 (l9 (c_ (b7l script y4 e3) (f_ c5 tr))) (c_ (b7m script y8 e6) (b5 tr)) (q7 tr (LO.Sub.var (a:=[.nilsl,.nilsl,.nilsl]) (b:=[.ds 5 (([]:List m0)).length (b6 B5 default ([]:List m0)),.nilsl,.nilsl]) (a_ (A6 5 (b6 B5 default [])) (a_ (LV.Le.refl (.nilsl)) (a_ (LV.Le.refl (.nilsl)) tr))))) (q5 tr (LO.Sub.var (a:=[.ds 5 (([]:List m0)).length (b6 B5 default ([]:List m0)),.nilsl,.nilsl]) (b:=[.ds 5 (([]:List m0)).length (b6 B5 default ([]:List m0)),.ds 12 (([]:List b8)).length (b6 o4 default ([]:List b8)),.nilsl]) (a_ (LV.Le.refl (.ds 5 (([]:List m0)).length (b6 B5 default ([]:List m0)))) (a_ (A6 12 (b6 o4 default [])) (a_ (LV.Le.refl (.nilsl)) tr)))) (D4 (LO.Sub.var (a:=[.ds 5 (([]:List m0)).length (b6 B5 default ([]:List m0)),.ds 12 (([]:List b8)).length (b6 o4 default ([]:List b8)),.nilsl]) (b:=[.ds 5 (([]:List m0)).length (b6 B5 default ([]:List m0)),.ds 12 (([]:List b8)).length (b6 o4 default ([]:List b8)),.ds 12 (([]:List b8)).length (b6 o4 default ([]:List b8))]) (a_ (LV.Le.refl (.ds 5 (([]:List m0)).length (b6 B5 default ([]:List m0)))) (a_ (LV.Le.refl (.ds 12 (([]:List b8)).length (b6 o4 default ([]:List b8)))) (a_ (A6 12 (b6 o4 default [])) tr)))))))) (c3I hμ y8 big _ _ _ _ _ _ _ r h) ⟨rfl,rfl,uP,tr,tr,tr⟩
theorem pl_LockPlays_tri(script:List TA)(r:Bool)(h:a7t script=some r):j9 Tryz.prog 6 [.ds 15 script.length (b6 W5 default script)] [] (pl_LockPlays_v r) []:=j9.none (c3K script r h) rfl rfl
end
end Go.Proofs.YtddgjfclpknkcaaGreatDoor.Wk
