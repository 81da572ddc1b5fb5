import Derived.Test.YtddgjfclpknkcaaGreatDoorLkS
import Derived.Test.YtddgjfclpknkcaaGreatDoorLkK
set_option linter.unusedVariables false
set_option linter.unusedSimpArgs false
set_option linter.unusedSectionVars false
namespace Go.Proofs.YtddgjfclpknkcaaGreatDoor.Wk
open Go Go.Cn
theorem dT{p:Prop}[Decidable p](h:p):decide p=true:=decide_eq_true h
theorem dF{p:Prop}[Decidable p](h:¬p):¬decide p=true:=by rwa [decide_eq_true_eq]
theorem sk{k:Nat}(h:k<4611686018427387904):IntKind.wrap .i64 ((k:Int)+1)=((k+1:Nat):Int):=by rw[u0 (by omega) (by omega)];rfl
theorem b5u(a b:List Int)(hab:a.length=b.length)(hz:a.length<=1000):∀(fuel i:Nat),a.length - i<fuel->i<=a.length->a4b a b fuel i=some (A0 (a.drop i) (b.drop i))
 |0,i,h,_=>by omega
 |fuel+1,i,h,hi=>by
  rw[a4b];by_cases hlt:i<a.length
  ·rw[if_pos (dT (by omega)),if_pos (by omega),if_pos (by omega),Int.toNat_natCast,O8 a i default hlt,O8 b i default (by omega),sk (by omega),b5u a b hab hz fuel (i+1) (by omega) (by omega)]
   simp only[A0,decide_eq_true_eq];split
   ·rfl
   ·split<;>rfl
  ·rw[if_neg (dF (by omega))]
   rw[List.drop_eq_nil_of_le (by omega:a.length<=i)];simp[A0]
theorem b1E(a b:List Int)(hab:a.length=b.length)(hz:a.length<=1000):a2C a b=some (A0 a b):=b5u a b hab hz big 0 (F0 (by omega)) (by omega)
def Nd(x:Tx):Prop:=0<=x.F3/\x.F3<4294967296
theorem a8A{x:Tx}(h:Nd x):a1t x=some (F4 x):=by rw[a1t,b0G h.1 h.2];rfl
theorem c0e{a b:TS}(ha:Nd a.b7)(hb:Nd b.b7):a5G a b=some (A0 (kS a) (kS b)):=by
 rw[a5G,a8A ha,Option.bind_some,if_pos (by simp[F4]),a8A hb,Option.bind_some,if_pos (by simp[F4]),b1E _ _ (by simp[F4]) (by simp[F4])];rfl
theorem c0f{a b:Tx}(ha:Nd a)(hb:Nd b):a5I a b=some (A0 (F4 a) (F4 b)):=by
 rw[a5I,a8A ha,Option.bind_some,a8A hb,Option.bind_some,b1E (F4 a) (F4 b) rfl (by simp[F4])];rfl
def a15(k:Ky):Prop:=∀i,i<8->0<=k.get i/\k.get i<256
theorem b5Y(a:Ky){i:Nat}(h:i<8):(k8 a).take (i+1)=(k8 a).take i++[a.get i]:=by
 rcases lt8 h with h|h|h|h|h|h|h|h<;>subst h<;>rfl
theorem b4W{a b:Ky}(ha:a15 a)(hb:a15 b):∀(fuel i:Nat),8 - i<fuel->i<=8->a33 a b fuel i ((k8 a).take i) ((k8 b).take i)=some (A0 (k8 a) (k8 b))
 |0,i,h,_=>by omega
 |fuel+1,i,h,hi=>by
  have l1:((k8 a).take i).length<=8:=by rw[List.length_take];simp[k8];omega
  have l2:((k8 b).take i).length<=8:=by rw[List.length_take];simp[k8];omega
  rw[a33];by_cases hlt:i<8
  ·have h1:=ha i hlt
   have h2:=hb i hlt;rw[if_pos (dT (by omega)),if_pos (by omega),Int.toNat_natCast,b0G h1.1 (by omega),b0G h2.1 (by omega),if_pos (by simp only[List.length_cons,List.length_nil];omega),if_pos (by simp only[List.length_cons,List.length_nil];omega),sk (by omega),<-b5Y a hlt,<-b5Y b hlt];exact b4W ha hb fuel (i+1) (by omega) (by omega)
  ·have:i=8:=by omega
   subst this;rw[if_neg (by simp)];show(a2C (k8 a) (k8 b)).bind _=_;rw[b1E (k8 a) (k8 b) rfl (by simp[k8])];rfl
theorem b9Z{a b:Ky}(ha:a15 a)(hb:a15 b):a7p a b=some (A0 (k8 a) (k8 b)):=b4W ha hb big 0 (F0 (by omega)) (by omega)
abbrev Tb:=f7
abbrev Gt:=b8
abbrev Ur:=m0
def lU(u:Ur):Tx×TU:=(u.n5.b7,⟨u.n5,u.L_⟩)
def oG(g:Gt):Sl×Int:=(⟨g.b7,g.j8⟩,g.v8)
abbrev Y0(a b:Ur):Prop:=A0 (F4 a.n5.b7) (F4 b.n5.b7)<0
structure Rp(t:Tb)(us:Us)(hd wt:Ps):Prop where
 u:∀e,e∈t.f_L.map lU↔e∈us
 s:t.f_L.Pairwise Y0
 h:∀e,e∈t.d9.map oG↔e∈hd
 w:∀e,e∈t.f0.map oG↔e∈wt
 hu:Uk (t.d9.map oG)
 wu:Uk (t.f0.map oG)
theorem b86{α β:Type}[DecidableEq α]{m:List (α×β)}(h:Uk m):m.Nodup:=List.Pairwise.of_map _ (λ_ _ h e=>h (congrArg _ e)) h
theorem a9z{α β:Type}[DecidableEq α]{m m' :List (α×β)}(h:Uk m)(h' :Uk m')(e:∀x,x∈m↔x∈m'):m.Perm m' :=
 (List.perm_ext_iff_of_nodup (b86 h) (b86 h')).2 e
theorem b6t(l:List Ur):(l.map lU).map (·.1)=l.map (·.n5.b7):=by rw[List.map_map];rfl
theorem b31{l:List Ur}(h:l.Pairwise Y0):Uk (l.map lU):=by
 rw[Uk,b6t];refine List.Pairwise.map _ (λa b hab e=>?_) h;have:=(b36 a.n5.b7 b.n5.b7).2 e;rw[Y0] at hab;omega
theorem Rp.pu{t:Tb}{us:Us}{hd wt:Ps}(r:Rp t us hd wt){n:Nat}(ho:Ok us hd wt n):(t.f_L.map lU).Perm us:=a9z (b31 r.s) ho.uu r.u
theorem Rp.ph{t:Tb}{us:Us}{hd wt:Ps}(r:Rp t us hd wt){n:Nat}(ho:Ok us hd wt n):(t.d9.map oG).Perm hd:=a9z r.hu ho.uh r.h
theorem Rp.pw{t:Tb}{us:Us}{hd wt:Ps}(r:Rp t us hd wt){n:Nat}(ho:Ok us hd wt n):(t.f0.map oG).Perm wt:=a9z r.wu ho.uw r.w
theorem Rp.lu{t:Tb}{us:Us}{hd wt:Ps}(r:Rp t us hd wt){n:Nat}(ho:Ok us hd wt n):t.f_L.length=us.length:=by rw[<-(r.pu ho).length_eq,List.length_map]
theorem Rp.lh{t:Tb}{us:Us}{hd wt:Ps}(r:Rp t us hd wt){n:Nat}(ho:Ok us hd wt n):t.d9.length=hd.length:=by rw[<-(r.ph ho).length_eq,List.length_map]
theorem Rp.lw{t:Tb}{us:Us}{hd wt:Ps}(r:Rp t us hd wt){n:Nat}(ho:Ok us hd wt n):t.f0.length=wt.length:=by rw[<-(r.pw ho).length_eq,List.length_map]
theorem R0{α:Type}(l:List α){k:Nat}(d:α)(h:k<l.length):l.getD k d∈l:=by
 rw[List.getD_eq_getElem?_getD,List.getElem?_eq_getElem h];exact List.getElem_mem h
theorem b5r(t:Tb)(x:Tx)(hz:t.f_L.length<=1000):∀(fuel k:Nat),t.f_L.length - k<fuel->k<=t.f_L.length->(∀u∈t.f_L.take k,u.n5.b7≠x)->
  (a2S t x fuel k=some (-1)/\∀u∈t.f_L,u.n5.b7≠x)\/∃i:Nat,a2S t x fuel k=some (i:Int)/\i<t.f_L.length/\(t.f_L.getD i default).n5.b7=x
 |0,k,h,_,_=>by omega
 |fuel+1,k,h,hk,hp=>by
  rw[a2S];by_cases hlt:k<t.f_L.length
  ·rw[if_pos (dT (by omega)),if_pos (by omega),Int.toNat_natCast,sk (by omega)]
   by_cases hx:(t.f_L.getD k default).n5.b7=x
   ·rw[if_pos (dT hx)];exact Or.inr ⟨k,rfl,hlt,hx⟩
   ·rw[if_neg (dF hx)]
    refine b5r t x hz fuel (k+1) (by omega) (by omega) λu hu=>?_;rw[List.take_add_one,List.getElem?_eq_getElem hlt] at hu;rcases List.mem_append.1 hu with hu|hu
    ·exact hp u hu
    ·rw[List.mem_singleton.1 hu]
     rwa [List.getD_eq_getElem?_getD,List.getElem?_eq_getElem hlt] at hx
  ·rw[if_neg (dF (by omega))]
   rw[List.take_of_length_le (by omega)] at hp;exact Or.inl ⟨rfl,hp⟩
theorem a2g{t:Tb}{us:Us}{hd wt:Ps}{n:Nat}(r:Rp t us hd wt)(ho:Ok us hd wt n)(x:Tx):(Y6 t x=some (-1)/\f9 us x=none)\/
  ∃i:Nat,Y6 t x=some (i:Int)/\i<t.f_L.length/\(t.f_L.getD i default).n5.b7=x/\f9 us x=some ⟨(t.f_L.getD i default).n5,(t.f_L.getD i default).L_⟩:=by
 have hl:=r.lu ho;have hn:=ho.nu;rcases b5r t x (by omega) big 0 (F0 (by omega)) (by omega) (by simp) with⟨h1,h2⟩|⟨i,h1,h2,h3⟩
 ·refine Or.inl ⟨h1,?_⟩
  cases hg:f9 us x with
  |none=>rfl
  |some u=>
   obtain⟨v,hv,he⟩:=List.mem_map.1 ((r.u _).2 (K6 hg));exact absurd (congrArg (·.1) he) (h2 v hv)
 ·refine Or.inr ⟨i,h1,h2,h3,Y1 ho.uu ((r.u _).1 (List.mem_map.2 ⟨_,R0 _ default h2,?_⟩))⟩
  rw[lU,h3]
def NdU(us:Us):Prop:=∀e∈us,Nd e.1
theorem b8D{us:Us}{hd wt:Ps}{n:Nat}(ho:Ok us hd wt n)(hn:NdU us){x:Tx}(hx:(f9 us x).isSome=true):Nd (so us x).b7:=by
 obtain⟨u,hu⟩:=Option.isSome_iff_exists.1 hx;have h1:=ho.su _ (K6 hu);have h2:=hn _ (K6 hu);rw[so,hu];show Nd u.B7.b7;dsimp only at h1 h2;rw[h1];exact h2
structure At(t:Tb)(us:Us)(hd wt:Ps)(n:Nat):Prop where
 r:Rp t us hd wt
 o:Ok us hd wt n
 d:NdU us
 k:∀e∈wt,a15 e.1.o7
 m:∀e∈wt,e.2=1\/e.2=2
 q:∀e∈hd,e.2=1\/e.2=2
section
variable {t:Tb}{us:Us}{hd wt:Ps}{n:Nat}
theorem At.zh(h:At t us hd wt n):t.d9.length<=20000:=by have:=h.r.lh h.o;have:=h.o.nh;have:=h.o.nn;omega
theorem At.zw(h:At t us hd wt n):t.f0.length<=1000:=by have:=h.r.lw h.o;have:=h.o.nw;have:=h.o.nn;omega
theorem At.zl(h:At t us hd wt n):t.f_L.length<=64:=by have:=h.r.lu h.o;have:=h.o.nu;omega
theorem At.hg(h:At t us hd wt n){g:Gt}(hg:g∈t.d9):oG g∈hd:=(h.r.h _).1 (List.mem_map.2 ⟨g,hg,rfl⟩)
theorem At.wg(h:At t us hd wt n){g:Gt}(hg:g∈t.f0):oG g∈wt:=(h.r.w _).1 (List.mem_map.2 ⟨g,hg,rfl⟩)
theorem At.hm(h:At t us hd wt n){g:Gt}(hg:g∈t.d9):g.v8=1\/g.v8=2:=h.q _ (h.hg hg)
theorem At.wm(h:At t us hd wt n){g:Gt}(hg:g∈t.f0):g.v8=1\/g.v8=2:=h.m _ (h.wg hg)
theorem At.hx(h:At t us hd wt n){g:Gt}(hg:g∈t.d9):(f9 us g.b7).isSome=true:=h.o.hu _ (h.hg hg)
theorem At.wx(h:At t us hd wt n){g:Gt}(hg:g∈t.f0):(f9 us g.b7).isSome=true:=h.o.wu _ (h.wg hg)
theorem a7m(h:At t us hd wt n){a b:Tx}(ha:(f9 us a).isSome=true)(hb:(f9 us b).isSome=true):a1C t a b=some (decide (H9 us a b<0)):=by
 rcases a2g h.r h.o a with⟨h1,h2⟩|⟨i,h1,h2,h3,h4⟩
 ·rw[h2] at ha;cases ha
 ·rcases a2g h.r h.o b with⟨g1,g2⟩|⟨j,g1,g2,g3,g4⟩
  ·rw[g2] at hb;cases hb
  ·have e1:=b8D h.o h.d ha
   have e2:=b8D h.o h.d hb;simp only[so,h4,g4,Option.getD_some] at e1 e2;rw[a1C,h1,Option.bind_some,if_pos (by omega),g1,Option.bind_some,if_pos (by omega),Int.toNat_natCast,Int.toNat_natCast,c0e e1 e2,Option.bind_some];simp only[H9,ka,so,h4,g4,Option.getD_some]
theorem b34{a b:Gt}(ha:a.v8=1\/a.v8=2)(hb:b.v8=1\/b.v8=2):a2V a b=some (decide (a.b7=b.b7)||!O6 a.v8 b.v8):=by
 rw[a2V];by_cases h:a.b7=b.b7
 ·rw[if_pos (dT h)];simp[h]
 ·rw[if_neg (dF h)]
  rcases ha with ha|ha<;>rcases hb with hb|hb<;>simp[ha,hb,h,O6]
def a2a(w g:Gt):Bool:=decide (g.j8=w.j8)&&(!decide (g.b7=w.b7)&&O6 g.v8 w.v8)
def a6B(us:Us)(w g:Gt):Bool:=a2a w g&&decide (H9 us g.b7 w.b7<0)
theorem b4S(h:At t us hd wt n){w:Gt}(hw:w∈t.f0):∀(fuel k:Nat),t.f0.length - k<fuel->k<=t.f0.length->a1A t w fuel k=some (!(t.f0.drop k).any (a6B us w))
 |0,k,hf,_=>by omega
 |fuel+1,k,hf,hk=>by
  have hz:=h.zw;rw[a1A];by_cases hlt:k<t.f0.length
  ·have hm:=R0 t.f0 default hlt
   rw[if_pos (dT (by omega)),if_pos (by omega),Int.toNat_natCast,sk (by omega),a41 _ _ k default hlt,b4S h hw fuel (k+1) (by omega) (by omega)];generalize t.f0.getD k default=g at hm;rw[b34 (h.wm hm) (h.wm hw),a7m h (h.wx hm) (h.wx hw)];simp only[Option.bind_some,a6B,a2a];by_cases h1:g.j8=w.j8<;>by_cases h2:g.b7=w.b7<;>by_cases h3:O6 g.v8 w.v8=true<;>by_cases h4:H9 us g.b7 w.b7<0<;>simp[h1,h2,h3,h4]
  ·rw[if_neg (dF (by omega)),List.drop_eq_nil_of_le (by omega)];rfl
theorem b4R(h:At t us hd wt n){w:Gt}(hw:w∈t.f0):∀(fuel k:Nat),t.d9.length - k<fuel->k<=t.d9.length->a1z t w fuel k=some (!(t.d9.drop k).any (a2a w)&&!t.f0.any (a6B us w))
 |0,k,hf,_=>by omega
 |fuel+1,k,hf,hk=>by
  have hz:=h.zh;rw[a1z];by_cases hlt:k<t.d9.length
  ·have hm:=R0 t.d9 default hlt
   rw[if_pos (dT (by omega)),if_pos (by omega),Int.toNat_natCast,sk (by omega),a41 _ _ k default hlt,b4R h hw fuel (k+1) (by omega) (by omega)];generalize t.d9.getD k default=g at hm;rw[b34 (h.hm hm) (h.wm hw)];simp only[Option.bind_some,a2a];by_cases h1:g.j8=w.j8<;>by_cases h2:g.b7=w.b7<;>by_cases h3:O6 g.v8 w.v8=true<;>simp[h1,h2,h3]
  ·have:=h.zw
   rw[if_neg (dF (by omega)),List.drop_eq_nil_of_le (by omega)];have:=b4S h hw big 0 (F0 (by omega)) (by omega);rw[List.drop_zero] at this;exact this
def v7(g:Gt):Sl:=⟨g.b7,g.j8⟩
theorem At.wmd(h:At t us hd wt n){g:Gt}(hg:g∈t.f0):md wt (v7 g)=g.v8:=a1p h.o.uw (h.wg hg)
theorem At.hmd(h:At t us hd wt n){g:Gt}(hg:g∈t.d9):md hd (v7 g)=g.v8:=a1p h.o.uh (h.hg hg)
theorem At.getw(h:At t us hd wt n){e:Sl×Int}(he:e∈wt):⟨e.1.m9,e.1.o7,e.2⟩∈t.f0:=by
 obtain⟨g,hg,rfl⟩:=List.mem_map.1 ((h.r.w e).2 he);exact hg
theorem At.geth(h:At t us hd wt n){e:Sl×Int}(he:e∈hd):⟨e.1.m9,e.1.o7,e.2⟩∈t.d9:=by
 obtain⟨g,hg,rfl⟩:=List.mem_map.1 ((h.r.h e).2 he);exact hg
theorem c06(h:At t us hd wt n){w:Gt}(hw:w∈t.f0):a52 t w=some (I7 us hd wt (v7 w)):=by
 have hz:=h.zh;have:=b4R h hw big 0 (F0 (by omega)) (by omega);rw[List.drop_zero] at this;have e:a52 t w=a1z t w big (0:Nat):=rfl;rw[e,this,I7];have mw:=h.wmd hw;congr 1;congr 2
 ·rw[Bool.eq_iff_iff,List.any_eq_true,List.any_eq_true]
  constructor
  ·rintro⟨g,hg,hb⟩
   simp only[a2a,Bool.and_eq_true,decide_eq_true_eq,Bool.not_eq_true',decide_eq_false_iff_not] at hb;have hm:=h.hmd hg;refine⟨g.b7,P6.2 ⟨g.v8,?_⟩,?_⟩
   ·rw[show(v7 w).o7=g.j8 from hb.1.symm];exact h.hg hg
   ·rw[p_,mw,show(⟨g.b7,(v7 w).o7⟩:Sl)=v7 g by rw[v7,v7,hb.1],hm,a4U]
    simp only[v7,hb.2.1,hb.2.2];rfl
  ·rintro⟨x,hx,hb⟩
   obtain⟨m,hm⟩:=P6.1 hx;refine⟨_,h.geth hm,?_⟩;simp only[p_,mw,a1p h.o.uh hm,Bool.and_eq_true,Bool.not_eq_true',decide_eq_false_iff_not] at hb;simp only[a2a,v7,Bool.and_eq_true,decide_eq_true_eq,Bool.not_eq_true',decide_eq_false_iff_not];rw[a4U];exact⟨trivial,hb.1,hb.2⟩
 ·rw[Bool.eq_iff_iff,List.any_eq_true,List.any_eq_true]
  constructor
  ·rintro⟨g,hg,hb⟩
   simp only[a6B,a2a,Bool.and_eq_true,decide_eq_true_eq,Bool.not_eq_true',decide_eq_false_iff_not] at hb;have hm:=h.wmd hg;refine⟨g.b7,P6.2 ⟨g.v8,?_⟩,?_⟩
   ·rw[show(v7 w).o7=g.j8 from hb.1.1.symm];exact h.wg hg
   ·rw[S9,mw,show(⟨g.b7,(v7 w).o7⟩:Sl)=v7 g by rw[v7,v7,hb.1.1],hm,a4U]
    simp only[v7,hb.1.2.1,hb.1.2.2,hb.2];rfl
  ·rintro⟨x,hx,hb⟩
   obtain⟨m,hm⟩:=P6.1 hx;refine⟨_,h.getw hm,?_⟩;simp only[S9,mw,a1p h.o.uw hm,Bool.and_eq_true,Bool.not_eq_true',decide_eq_false_iff_not,decide_eq_true_eq] at hb;simp only[a6B,a2a,v7,Bool.and_eq_true,decide_eq_true_eq,Bool.not_eq_true',decide_eq_false_iff_not];rw[a4U];exact⟨⟨trivial,hb.1.1,hb.2⟩,hb.1.2⟩
theorem b9Y(h:At t us hd wt n){a b:Gt}(ha:a∈t.f0)(hb:b∈t.f0):a51 t a b=some (decide (b_ us (v7 a) (v7 b)<0)):=by
 rw[a51,b9Z (a:=a.j8) (b:=b.j8) (h.k _ (h.wg ha)) (h.k _ (h.wg hb)),Option.bind_some,a7m h (h.wx ha) (h.wx hb)];have e:b_ us (v7 a) (v7 b)=if A0 (k8 a.j8) (k8 b.j8)=0 then H9 us a.b7 b.b7 else A0 (k8 a.j8) (k8 b.j8):=
  a9e (k8 a.j8) (k8 b.j8) (ka us a.b7) (ka us b.b7) rfl
 rw[e];by_cases h1:A0 (k8 a.j8) (k8 b.j8)<0
 ·rw[if_pos (dT h1),if_neg (show¬A0 (k8 a.j8) (k8 b.j8)=0 by omega),dT h1]
 ·rw[if_neg (dF h1)]
  by_cases h2:A0 (k8 a.j8) (k8 b.j8)=0
  ·rw[if_pos (by simp[h2]),if_pos h2];rfl
  ·rw[if_neg (by simp[h2]),if_neg h2];simp[h1]
theorem b2C(e:Sl×Int)(p:Ps)(s:Sl):md (e::p) s=if s=e.1 then e.2 else md p s:=by
 unfold md;rw[f9];split<;>rfl
theorem b07(t:Tb)(hz:t.d9.length<=100000)(x:Tx)(y:Ky):∀(fuel k:Nat),t.d9.length - k<fuel->k<=t.d9.length->a2J t x y fuel k=some (md ((t.d9.drop k).map oG) ⟨x,y⟩)
 |0,k,hf,_=>by omega
 |fuel+1,k,hf,hk=>by
  rw[a2J];by_cases hlt:k<t.d9.length
  ·rw[if_pos (dT (by omega)),if_pos (by omega),Int.toNat_natCast,sk (by omega),O8 _ k default hlt,b07 t hz x y fuel (k+1) (by omega) (by omega)]
   generalize t.d9.getD k default=g;rw[List.map_cons,b2C];by_cases h1:g.b7=x
   ·by_cases h2:g.j8=y
    ·rw[if_pos (dT h1),if_pos (dT h2),if_pos (by rw[oG,h1,h2])];rfl
    ·rw[if_pos (dT h1),if_neg (dF h2),if_neg (λe=>h2 (congrArg TL.o7 e).symm)]
   ·rw[if_neg (dF h1),if_neg (λe=>h1 (congrArg TL.m9 e).symm)]
  ·rw[if_neg (dF (by omega)),List.drop_eq_nil_of_le (by omega)];rfl
theorem b2D{p p' :Ps}(hu:Uk p)(hu' :Uk p')(h:∀e,e∈p↔e∈p')(s:Sl):md p s=md p' s:=b2E hu' hu (λe he=>(h e).1 he) (λe he _=>(h e).2 he)
theorem b06(r:Rp t us hd wt)(ho:Ok us hd wt n)(x:Tx)(y:Ky):a0n t x y=some (md hd ⟨x,y⟩):=by
 have:=r.lh ho;have:=ho.nh;have:=ho.nn;have e:=b07 t (by omega) x y big 0 (F0 (by omega)) (by omega);rw[List.drop_zero,b2D r.hu ho.uh r.h] at e;exact e
end
end Go.Proofs.YtddgjfclpknkcaaGreatDoor.Wk
set_option linter.unusedVariables false
set_option linter.unusedSimpArgs false
set_option linter.unusedSectionVars false
namespace Go.Proofs.YtddgjfclpknkcaaGreatDoor.Wk
open Go Go.Cn
theorem a5B{α β:Type}[DecidableEq α]{m:List (α×β)}(hu:Uk m)(k:α)(v:β)(e:α×β):e∈p7 m k v↔e=(k,v)\/e.1≠k/\e∈m:=by
 have h1:=a5C hu k v;constructor
 ·intro he
  have hg:=Y1 h1 (k:=e.1) (v:=e.2) he;rw[M9] at hg;split at hg
  ·rename_i hk
   cases hg;subst hk;exact Or.inl rfl
  ·rename_i hk
   exact Or.inr ⟨hk,K6 hg⟩
 ·rintro(he|⟨hk,he⟩)
  ·rw[he];exact K6 (by rw[M9,if_pos rfl])
  ·have:=Y1 hu (k:=e.1) (v:=e.2) he
   exact K6 (k:=e.1) (v:=e.2) (by rw[M9,if_neg hk,this])
theorem a9m{α β:Type}[DecidableEq α]{m:List (α×β)}(hu:Uk m)(k:α)(e:α×β):e∈B1 m k↔e.1≠k/\e∈m:=by
 have h1:=a7j hu k;constructor
 ·intro he
  have hg:=Y1 h1 (k:=e.1) (v:=e.2) he;rw[a5y hu] at hg;split at hg
  ·cases hg
  ·rename_i hk
   exact⟨hk,K6 hg⟩
 ·rintro⟨hk,he⟩
  have:=Y1 hu (k:=e.1) (v:=e.2) he;exact K6 (k:=e.1) (v:=e.2) (by rw[a5y hu,if_neg hk,this])
theorem cut{α β γ:Type}[DecidableEq β](f:α->β×γ)(l:List α){b:Nat}(hb:b<l.length)(d:α)(hu:Uk (l.map f)):
  Uk ((l.take b++l.drop (b+1)).map f)/\∀e,e∈(l.take b++l.drop (b+1)).map f↔e∈l.map f/\e.1≠(f (l.getD b d)).1:=by
 have hl:l=l.take b++l.getD b d::l.drop (b+1):=by rw[<-O8 l b d hb,List.take_append_drop]
 generalize l.take b=p,l.drop (b+1)=q,l.getD b d=x at hl;subst hl;have hp:((p++x::q).map f).Perm (f x::(p++q).map f):=List.perm_middle.map f;have hu2:Uk (f x::(p++q).map f):=(hp.map _).nodup_iff.1 hu;obtain⟨h1,h2⟩:=List.nodup_cons.1 hu2;refine⟨h2,λe=>?_⟩;rw[hp.mem_iff,List.mem_cons];constructor
 ·intro he
  exact⟨Or.inr he,λh=>h1 (List.mem_map.2 ⟨e,he,h⟩)⟩
 ·rintro⟨h|h,h3⟩
  ·exact absurd (by rw[h]) h3
  ·exact h
def X8(l:List Gt)(g:Gt):List Gt:=l.filter (λx=>!decide (v7 x=v7 g))++[g]
theorem a6k(a b:Gt):v7 a=v7 b↔a.b7=b.b7/\a.j8=b.j8:=by
 rw[v7,v7,TL.mk.injEq]
theorem b4V(t:Tb)(g:Gt)(hz:t.d9.length<=100000):∀(fuel k:Nat) (l:List Gt),t.d9.length - k<fuel->k<=t.d9.length->l.length<=k->a1B t g fuel k l=some (t.f_L,t.f0,l++X8 (t.d9.drop k) g)
 |0,k,_,hf,_,_=>by omega
 |fuel+1,k,l,hf,hk,hl=>by
  have e1:∀x:Gt,([x]:List Gt).length=1:=λ_=>rfl;rw[a1B];by_cases hlt:k<t.d9.length
  ·have ih:=λl h=>b4V t g hz fuel (k+1) l (by omega) (by omega) h
   rw[if_pos (dT (by omega)),if_pos (by omega),Int.toNat_natCast,sk (by omega),O8 _ k default hlt];generalize t.d9.getD k default=x;simp only[e1];have y:¬v7 x=v7 g->l++X8 (x::t.d9.drop (k+1)) g=(l++[x])++X8 (t.d9.drop (k+1)) g:=λh=>by
    rw[X8,List.filter_cons,if_pos (by simp[h]),X8];simp
   by_cases h1:x.b7=g.b7
   ·rw[if_neg (by simp[h1])]
    by_cases h2:x.j8=g.j8
    ·rw[if_neg (by simp[h2]),ih l (by omega)]
     have:=(a6k x g).2 ⟨h1,h2⟩;rw[X8,X8,List.filter_cons,if_neg (by simp[this])]
    ·rw[if_pos (by simp[h2]),if_pos (by omega),ih _ (by simp;omega),y (λh=>h2 ((a6k x g).1 h).2)]
   ·rw[if_pos (by simp[h1]),if_pos (by omega),ih _ (by simp;omega),y (λh=>h1 ((a6k x g).1 h).1)]
  ·rw[if_neg (dF (by omega)),if_pos (by rw[e1];omega),List.drop_eq_nil_of_le (by omega)];rfl
theorem b4U(t:Tb)(g:Gt)(hz:t.d9.length<=100000):a7L t g=some (t.f_L,t.f0,X8 t.d9 g):=b4V t g hz big 0 [] (F0 (by omega)) (by omega) (by simp)
theorem c1e(l:List Gt)(g:Gt)(e:Sl×Int):e∈(X8 l g).map oG↔e=oG g\/e.1≠v7 g/\e∈l.map oG:=by
 simp only[X8,List.map_append,List.mem_append,List.map_cons,List.map_nil,List.mem_singleton,List.mem_map,List.mem_filter,Bool.not_eq_true',decide_eq_false_iff_not];constructor
 ·rintro(⟨x,⟨h1,h2⟩,rfl⟩|h)
  ·exact Or.inr ⟨h2,x,h1,rfl⟩
  ·exact Or.inl h
 ·rintro(h|⟨h,x,h1,rfl⟩)
  ·exact Or.inr h
  ·exact Or.inl ⟨x,⟨h1,h⟩,rfl⟩
theorem c1f{l:List Gt}(hu:Uk (l.map oG))(g:Gt):Uk ((X8 l g).map oG):=by
 rw[Uk,X8,List.map_append,List.map_append,List.nodup_append];refine⟨List.Sublist.nodup ((List.filter_sublist.map oG).map _) hu,by simp,λa ha b hb e=>?_⟩;obtain⟨x,hx,rfl⟩:=List.mem_map.1 ha;obtain⟨y,hy,rfl⟩:=List.mem_map.1 hx;have:=(List.mem_filter.1 hy).2;simp only[List.map_cons,List.map_nil,List.mem_singleton] at hb;rw[hb] at e;have e:v7 y=v7 g:=e;simp[e] at this
theorem Rp.hold{t:Tb}{us:Us}{hd wt:Ps}(r:Rp t us hd wt)(hh:Uk hd)(g:Gt):Rp ⟨t.f_L,X8 t.d9 g,t.f0⟩ us (p7 hd (v7 g) g.v8) wt:=
 ⟨r.u,r.s,λe=>by rw[c1e,a5B hh,r.h];rfl,r.w,c1f r.hu g,r.wu⟩
theorem Rp.cut{t:Tb}{us:Us}{hd wt:Ps}(r:Rp t us hd wt)(hw:Uk wt){b:Nat}(hb:b<t.f0.length):Rp ⟨t.f_L,t.d9,t.f0.take b++t.f0.drop (b+1)⟩ us hd (B1 wt (v7 (t.f0.getD b default))):=by
 obtain⟨h1,h2⟩:=_root_.Go.Proofs.YtddgjfclpknkcaaGreatDoor.Wk.cut oG t.f0 hb default r.wu;exact⟨r.u,r.s,r.h,λe=>by rw[h2,a9m hw,r.w,and_comm];rfl,r.hu,h1⟩
abbrev K0:=List Ur->List Gt->List Gt->List Gt->Option (List Gt×List Ur×List Gt×List Gt)
section
variable {t:Tb}{us:Us}{hd wt:Ps}{n:Nat}
def upG(hd:Ps)(g:Gt):Gt:=⟨g.b7,g.j8,mx (md hd (v7 g)) g.v8⟩
def b4f(t:Tb)(us:Us)(hd wt:Ps)(i:Nat)(b:Int):Prop:=
 (b=-1/\∀g∈t.f0.take i,I7 us hd wt (v7 g)=false)\/
 ∃k:Nat,b=(k:Int)/\k<i/\k<t.f0.length/\I7 us hd wt (v7 (t.f0.getD k default))=true/\∀g∈t.f0.take i,I7 us hd wt (v7 g)=true->¬b_ us (v7 g) (v7 (t.f0.getD k default))<0
theorem b4B(us:Us)(s:Sl):¬b_ us s s<0:=by
 have:=(a2q (ko us s) (ko us s) rfl).2 rfl;rw[b_];omega
theorem b08(h:At t us hd wt n)(t0:Tb)(l:List Gt)(hl:l.length<=1000)(k0:K0):∀(fuel i:Nat) (b:Int),t.f0.length - i<fuel->i<=t.f0.length->b4f t us hd wt i b->
  ((∀g∈t.f0,I7 us hd wt (v7 g)=false)/\W_ t0 t.f_L t.d9 t.f0 l k0 fuel b i=some (l,t.f_L,t.d9,t.f0))\/
  ∃k:Nat,k<t.f0.length/\I7 us hd wt (v7 (t.f0.getD k default))=true/\(∀g∈t.f0,I7 us hd wt (v7 g)=true->¬b_ us (v7 g) (v7 (t.f0.getD k default))<0)/\
   W_ t0 t.f_L t.d9 t.f0 l k0 fuel b i=k0 t.f_L (X8 t.d9 (upG hd (t.f0.getD k default))) (t.f0.take k++t.f0.drop (k+1)) (l++[upG hd (t.f0.getD k default)])
 |0,i,b,hf,_,_=>by omega
 |fuel+1,i,b,hf,hi,hb=>by
  have hz:=h.zw;have hzh:=h.zh;rw[W_];by_cases hlt:i<t.f0.length
  ·have hm:=R0 t.f0 default hlt
   have ih:=λb h1=>b08 h t0 l hl k0 fuel (i+1) b (by omega) (by omega) h1;have tk:t.f0.take (i+1)=t.f0.take i++[t.f0.getD i default]:=by
    rw[List.take_add_one,List.getD_eq_getElem?_getD,List.getElem?_eq_getElem hlt];rfl
   rw[if_pos (dT (by omega)),if_pos (by omega),Int.toNat_natCast,sk (by omega)];have hf1:a52 (f7.mk t.f_L t.d9 t.f0) (t.f0.getD i default)=some (I7 us hd wt (v7 (t.f0.getD i default))):=c06 h hm;rw[hf1,Option.bind_some];cases hfr:I7 us hd wt (v7 (t.f0.getD i default)) with
   |false=>
    rw[if_neg (by simp)];refine ih b ?_;rcases hb with⟨h1,h2⟩|⟨k,h1,h2,h3,h4,h5⟩
    ·refine Or.inl ⟨h1,λg hg=>?_⟩
     rw[tk] at hg;rcases List.mem_append.1 hg with hg|hg
     ·exact h2 g hg
     ·rw[List.mem_singleton.1 hg];exact hfr
    ·refine Or.inr ⟨k,h1,by omega,h3,h4,λg hg hgf=>?_⟩
     rw[tk] at hg;rcases List.mem_append.1 hg with hg|hg
     ·exact h5 g hg hgf
     ·rw[List.mem_singleton.1 hg,hfr] at hgf;cases hgf
   |true=>
    rw[if_pos rfl];rcases hb with⟨h1,h2⟩|⟨k,h1,h2,h3,h4,h5⟩
    ·rw[if_pos (dT (by omega))]
     refine ih (i:Int) (Or.inr ⟨i,rfl,by omega,hlt,hfr,λg hg hgf=>?_⟩);rw[tk] at hg;rcases List.mem_append.1 hg with hg|hg
     ·rw[h2 g hg] at hgf;cases hgf
     ·rw[List.mem_singleton.1 hg];exact b4B us _
    ·subst h1
     have hmk:=R0 t.f0 default h3;have hfst:a51 (f7.mk t.f_L t.d9 t.f0) (t.f0.getD i default) (t.f0.getD k default)=some (decide (b_ us (v7 (t.f0.getD i default)) (v7 (t.f0.getD k default))<0)):=b9Y h hm hmk;rw[if_neg (dF (by omega)),if_pos (by omega),Int.toNat_natCast,hfst,Option.bind_some];by_cases hc:b_ us (v7 (t.f0.getD i default)) (v7 (t.f0.getD k default))<0
     ·rw[if_pos (dT hc)]
      refine ih (i:Int) (Or.inr ⟨i,rfl,by omega,hlt,hfr,λg hg hgf=>?_⟩);rw[tk] at hg;rcases List.mem_append.1 hg with hg|hg
      ·have h6:=h5 g hg hgf
       intro h7;have:=(a6q (ko us) (λ_ _=>rfl)).trans (v7 g) _ _ (dT h7) (dT hc);rw[decide_eq_true_eq] at this;exact h6 this
      ·rw[List.mem_singleton.1 hg];exact b4B us _
     ·rw[if_neg (dF hc)]
      refine ih (k:Int) (Or.inr ⟨k,rfl,by omega,h3,h4,λg hg hgf=>?_⟩);rw[tk] at hg;rcases List.mem_append.1 hg with hg|hg
      ·exact h5 g hg hgf
      ·rw[List.mem_singleton.1 hg];exact hc
  ·rw[if_neg (dF (by omega))]
   rw[b4f,List.take_of_length_le (by omega)] at hb;rcases hb with⟨h1,h2⟩|⟨k,h1,h2,h3,h4,h5⟩
   ·rw[if_pos (dT (by omega))]
    exact Or.inl ⟨h2,rfl⟩
   ·subst h1
    refine Or.inr ⟨k,h3,h4,h5,?_⟩;have r2:=h.r.cut h.o.uw h3;have o2:=h.o.grant (s:=v7 (t.f0.getD k default)) (List.mem_map.2 ⟨_,h.wg (R0 _ default h3),rfl⟩) 0;have hmd:a0n (f7.mk t.f_L t.d9 (t.f0.take k++t.f0.drop (k+1))) (t.f0.getD k default).b7 (t.f0.getD k default).j8=some (md hd (v7 (t.f0.getD k default))):=by
     have e:=b07 (f7.mk t.f_L t.d9 (t.f0.take k++t.f0.drop (k+1))) (by show t.d9.length<=_;omega) (t.f0.getD k default).b7 (t.f0.getD k default).j8 big 0 (F0 (by show t.d9.length - 0<_;omega)) (by omega);rw[List.drop_zero,b2D h.r.hu h.o.uh h.r.h] at e;exact e
    rw[if_neg (dF (by omega)),if_pos (by omega),if_pos (by omega),Int.toNat_natCast,sk (by omega),Int.toNat_natCast,if_pos (by rw[List.length_take];omega),if_pos (by omega),if_pos (by rw[List.length_take,List.length_drop];omega),hmd,Option.bind_some,Option.bind_some,Option.bind_some,
     b4U _ _ (by show t.d9.length<=_;omega),Option.bind_some,if_pos (by simp only[List.length_cons,List.length_nil];omega)]
    rfl
def gO(g:TG):Gt:=⟨g.b7,g.j8,g.v8⟩
theorem b93(t0:Tb):∀(y:List Sl) (fuel:Nat) (t:Tb) (st:List TG×Ps×Ps),y.length<fuel->st.1.length+y.length<=1000->At t us st.2.1 st.2.2 n->Wt us st.2.1 st.2.2->y.Nodup->(y.Pairwise λa b=>¬b_ us b a<0)->(∀s∈y,s∈st.2.2.map (·.1))->(∀e∈st.2.2,e.1∉y->I7 us st.2.1 st.2.2 e.1=false)->
  ∃t',V_ t0 fuel t.f_L t.d9 t.f0 (st.1.map gO)=some ((y.foldl (M3 us) st).1.map gO,t'.f_L,t'.d9,t'.f0)/\At t' us (y.foldl (M3 us) st).2.1 (y.foldl (M3 us) st).2.2 n:=by
 intro y
 induction y with
 |nil=>
  intro fuel t st hf hl h hw _ _ _ hn;obtain⟨f,rfl⟩:∃f,fuel=f+1:=⟨fuel - 1,by simp at hf;omega⟩
  have hz:=h.zw;rw[V_];rcases b08 h t0 (st.1.map gO) (by simp at hl⊢;omega) (V_ t0 f) big 0 (-1) (F0 (by omega)) (by omega) (Or.inl ⟨rfl,by simp⟩) with⟨_,h2⟩|⟨k,h1,h2,_,_⟩
  ·exact⟨t,h2,h⟩
  ·have:=hn _ (h.wg (R0 _ default h1)) (by simp)
   have h2:I7 us st.2.1 st.2.2 (oG (t.f0.getD k default)).1=true:=h2;rw[this] at h2;cases h2
 |cons s y ih=>
  intro fuel t st hf hl h hw hnd hs hy hn;obtain⟨hn1,hn2⟩:=List.nodup_cons.1 hnd;obtain⟨hs1,hs2⟩:=List.pairwise_cons.1 hs;have hsm:=hy s List.mem_cons_self;simp only[List.length_cons] at hf hl;rw[List.foldl_cons];by_cases hfr:I7 us st.2.1 st.2.2 s=true
  ·have e1:M3 us st s=(st.1++[TG.mk s.m9 s.o7 (mx (md st.2.1 s) (md st.2.2 s))],p7 st.2.1 s (mx (md st.2.1 s) (md st.2.2 s)),B1 st.2.2 s):=by rw[M3,if_pos hfr]
   obtain⟨f,rfl⟩:∃f,fuel=f+1:=⟨fuel - 1,by omega⟩
   have hz:=h.zw;obtain⟨e,he,hes⟩:=List.mem_map.1 hsm;have hge:=h.getw he;rw[V_];rcases b08 h t0 (st.1.map gO) (by simp;omega) (V_ t0 f) big 0 (-1) (F0 (by omega)) (by omega) (Or.inl ⟨rfl,by simp⟩) with⟨h1,_⟩|⟨k,h1,h2,h3,h4⟩
   ·have:=h1 _ hge
    have this:I7 us st.2.1 st.2.2 e.1=false:=this;rw[hes,hfr] at this;cases this
   ·have hgm:=R0 t.f0 default h1
    have hks:v7 (t.f0.getD k default)=s:=by
     by_cases hc:v7 (t.f0.getD k default)=s
     ·exact hc
     ·exfalso
      have hin:v7 (t.f0.getD k default)∈s::y:=by
       by_cases hm:v7 (t.f0.getD k default)∈s::y
       ·exact hm
       ·have:=hn _ (h.wg hgm) hm
        have h2:I7 us st.2.1 st.2.2 (oG (t.f0.getD k default)).1=true:=h2;rw[this] at h2;cases h2
      rcases List.mem_cons.1 hin with hin|hin
      ·exact hc hin
      ·have a1:=hs1 _ hin
       have a2:=h3 _ hge (by show I7 us st.2.1 st.2.2 e.1=true;rw[hes];exact hfr);have a2:¬b_ us e.1 (v7 (t.f0.getD k default))<0:=a2;rw[hes] at a2;have a3:=T_ (ko us s) (ko us (v7 (t.f0.getD k default)));have a4:A0 (ko us s) (ko us (v7 (t.f0.getD k default)))=0:=by
        rw[b_] at a1 a2;omega
       have hsu:(f9 us s.m9).isSome=true:=by rw[<-hes];exact h.o.wu e he
       exact hc (h.o.inj2 hsu (h.wx hgm) ((a2q (ko us s) (ko us (v7 (t.f0.getD k default))) rfl).1 a4)).symm
    have hmw:=h.wmd hgm;obtain⟨m1,m2⟩:=b2J h.o hw hsm;rw[e1];have hup:upG st.2.1 (t.f0.getD k default)=gO (TG.mk s.m9 s.o7 (mx (md st.2.1 s) (md st.2.2 s))):=by
     rw[upG,<-hmw,hks,gO,<-hks];rfl
    have hslot:v7 (upG st.2.1 (t.f0.getD k default))=s:=hks;have hmode:(upG st.2.1 (t.f0.getD k default)).v8=mx (md st.2.1 s) (md st.2.2 s):=by rw[hup];rfl
    have r2:=(h.r.cut h.o.uw h1).hold h.o.uh (upG st.2.1 (t.f0.getD k default));rw[hslot,hmode,hks] at r2;have sub:∀e∈B1 st.2.2 s,e∈st.2.2:=λe he=>((a9m h.o.uw s e).1 he).2;have h' :At ⟨t.f_L,X8 t.d9 (upG st.2.1 (t.f0.getD k default)),t.f0.take k++t.f0.drop (k+1)⟩ us (p7 st.2.1 s (mx (md st.2.1 s) (md st.2.2 s))) (B1 st.2.2 s) n:=
     ⟨r2,h.o.grant hsm _,h.d,λe he=>h.k e (sub e he),λe he=>h.m e (sub e he),λe he=>by
      rcases a0k he with h5|h5
      ·rw[h5,m1];exact h.m _ m2
      ·exact h.q e h5⟩
    have:=ih f _ (st.1++[TG.mk s.m9 s.o7 (mx (md st.2.1 s) (md st.2.2 s))],p7 st.2.1 s (mx (md st.2.1 s) (md st.2.2 s)),B1 st.2.2 s) (by omega) (by simp;omega) h' (Wt.grant h.o hw hsm hfr) hn2 hs2
     (λu hu=>a9n h.o.uw (λe=>hn1 (e▸hu)) (hy u (List.mem_cons_of_mem _ hu)))
     (λe he hey=>by
      obtain⟨h5,h6⟩:=(a9m h.o.uw s e).1 he;exact stuck h.o hw hsm h5 (hn e h6 (by simp only[List.mem_cons,not_or];exact⟨h5,hey⟩)))
    obtain⟨t',ht,ha⟩:=this;refine⟨t',?_,ha⟩;have h4:W_ t0 t.f_L t.d9 t.f0 (st.1.map gO) (V_ t0 f) big (-1) 0=_:=h4;rw[h4,<-ht];simp only[List.map_append,List.map_cons,List.map_nil,hup]
  ·have e1:M3 us st s=st:=by rw[M3,if_neg hfr]
   rw[e1];refine ih fuel t st (by omega) (by omega) h hw hn2 hs2 (λu hu=>hy u (List.mem_cons_of_mem _ hu)) λe he hey=>?_;by_cases hc:e.1=s
   ·rw[hc];simpa using hfr
   ·exact hn e he (by simp only[List.mem_cons,not_or];exact⟨hc,hey⟩)
theorem don(h:At t us hd wt n)(hw:Wt us hd wt):∃t',a1E t=some ((Y3 us hd wt).1.map gO,t'.f_L,t'.d9,t'.f0)/\At t' us (Y3 us hd wt).2.1 (Y3 us hd wt).2.2 n:=by
 have hz:=h.o.nw;have hz2:=h.o.nn;have hsl:=G_ (ko us) (wt.map (·.1));rw[List.length_map] at hsl;obtain⟨k1,k2⟩:=a9u us h.o.uw;exact b93 t _ big t ([],hd,wt) (F0 (by omega)) (by simp;omega) h hw k1 (a1S _ (λ_ _=>rfl) _) k2
  (λe he hey=>absurd ((R8 _ _).mem_iff.2 (List.mem_map.2 ⟨e,he,rfl⟩)) hey)
end
end Go.Proofs.YtddgjfclpknkcaaGreatDoor.Wk
set_option linter.unusedVariables false
set_option linter.unusedSimpArgs false
set_option linter.unusedSectionVars false
namespace Go.Proofs.YtddgjfclpknkcaaGreatDoor.Wk
open Go Go.Cn
theorem nT{p:Prop}[Decidable p](h:¬p):(!decide p)=true:=by simp[h]
theorem nF{p:Prop}[Decidable p](h:p):¬(!decide p)=true:=by simp[h]
theorem l1{α:Type}(x:α):([x]:List α).length=1:=rfl
def woL(l:List Gt)(x:Tx):List Gt:=l.filter λg=>!decide (g.b7=x)
theorem b5a(l:List Gt)(x:Tx)(hz:l.length<=100000):∀(fuel k:Nat) (m:List Gt),l.length - k<fuel->k<=l.length->m.length<=k->a2W l x fuel k m=some (m++woL (l.drop k) x)
 |0,k,_,hf,_,_=>by omega
 |fuel+1,k,m,hf,hk,hl=>by
  rw[a2W];by_cases hlt:k<l.length
  ·have ih:=λm h=>b5a l x hz fuel (k+1) m (by omega) (by omega) h
   rw[if_pos (dT (by omega)),if_pos (by omega),Int.toNat_natCast,sk (by omega),O8 _ k default hlt];generalize l.getD k default=g;rw[l1,woL,List.filter_cons];by_cases h1:g.b7=x
   ·rw[if_neg (by simp[h1]),if_neg (by simp[h1]),ih m (by omega)];rfl
   ·rw[if_pos (by simp[h1]),if_pos (by omega),if_pos (by simp[h1]),ih _ (by simp;omega),woL];simp
  ·rw[if_neg (dF (by omega)),List.drop_eq_nil_of_le (by omega)];simp[woL]
theorem dwo(l:List Gt)(x:Tx)(hz:l.length<=100000):a4u l x=some (woL l x):=b5a l x hz big 0 [] (F0 (by omega)) (by omega) (by simp)
theorem b9i(l:List Gt)(x:Tx)(e:Sl×Int):e∈(woL l x).map oG↔e∈l.map oG/\e.1.m9≠x:=by
 simp only[woL,List.mem_map,List.mem_filter,Bool.not_eq_true',decide_eq_false_iff_not];constructor
 ·rintro⟨g,⟨h1,h2⟩,rfl⟩;exact⟨⟨g,h1,rfl⟩,h2⟩
 ·rintro⟨⟨g,h1,rfl⟩,h2⟩;exact⟨g,⟨h1,h2⟩,rfl⟩
theorem b9j{l:List Gt}(h:Uk (l.map oG))(x:Tx):Uk ((woL l x).map oG):=List.Sublist.nodup ((List.filter_sublist.map oG).map _) h
section
variable {t:Tb}{us:Us}{hd wt:Ps}{n:Nat}
theorem b49(h:At t us hd wt n)(x:Tx):a4k t x=some (a1Z wt x):=by
 have hz:=h.zw;rw[a4k,dwo _ _ (by omega),Option.bind_some];congr 1;rw[Bool.eq_iff_iff,decide_eq_true_eq,a1Z,List.any_eq_true,Int.ofNat_lt,woL,List.length_filter_lt_length_iff_exists];constructor
 ·rintro⟨g,hg,h1⟩
  exact⟨_,h.wg hg,dT (show g.b7=x by simpa using h1)⟩
 ·rintro⟨e,he,h1⟩
  exact⟨_,h.getw he,by simpa using h1⟩
theorem At.user(h:At t us hd wt n){x:Tx}(hx:(f9 us x).isSome=true):∃i:Nat,Y6 t x=some (i:Int)/\i<t.f_L.length/\(t.f_L.getD i default).n5.b7=x/\f9 us x=some ⟨(t.f_L.getD i default).n5,(t.f_L.getD i default).L_⟩:=by
 rcases a2g h.r h.o x with⟨_,h2⟩|h1
 ·rw[h2] at hx;cases hx
 ·exact h1
theorem b4T(h:At t us hd wt n){x:Tx}(hx:(f9 us x).isSome=true):∃t',a4r t x=some (t'.d9,t'.f0,t'.f_L)/\At t' (B1 us x) (drop hd x) (drop wt x) n:=by
 obtain⟨i,h1,h2,h3,h4⟩:=h.user hx;have hl:=h.zl;have hh:=h.zh;have hw:=h.zw;refine⟨⟨t.f_L.take i++t.f_L.drop (i+1),woL t.d9 x,woL t.f0 x⟩,?_,?_⟩
 ·rw[a4r,h1,Option.bind_some,if_pos (by omega),if_pos (by rw[List.length_take];omega),sk (by omega),if_pos (by omega),if_pos (by rw[List.length_take,List.length_drop];omega),dwo _ _ (by omega),Option.bind_some,dwo _ _ (by omega)];rfl
 ·obtain⟨c1,c2⟩:=cut lU t.f_L h2 default (b31 h.r.s)
  have e1:(lU (t.f_L.getD i default)).1=x:=h3;rw[e1] at c2;refine⟨⟨λe=>?_,?_,λe=>?_,λe=>?_,b9j h.r.hu x,b9j h.r.wu x⟩,h.o.gone x,λe he=>h.d e ((a5z us x).subset he),λe he=>h.k e (U3.1 he).1,λe he=>h.m e (U3.1 he).1,λe he=>h.q e (U3.1 he).1⟩
  ·rw[c2,a9m h.o.uu,h.r.u,and_comm]
  ·rw[<-List.eraseIdx_eq_take_drop_succ];exact h.r.s.sublist (List.eraseIdx_sublist ..)
  ·rw[b9i,U3,h.r.h]
  ·rw[b9i,U3,h.r.w]
theorem b1V{R:Type}(us:Us)(x:Tx)(l:List Tx)(f:Nat->Int->Option R)(k:List Tx->Option R)
  (hs:∀fuel j:Nat,j<=l.length->f (fuel+1) (j:Int)=if j<l.length then(if H9 us (l.getD j default) x<0 then f fuel ((j+1:Nat):Int) else k (l.take j++[x]++l.drop j)) else k (l.take j++[x]++l.drop j)):
  ∀fuel j:Nat,l.length - j<fuel->j<=l.length->f fuel (j:Int)=k (l.take j++put (ka us) x (l.drop j))
 |0,j,hf,_=>by omega
 |fuel+1,j,hf,hj=>by
  rw[hs fuel j hj];by_cases hlt:j<l.length
  ·rw[if_pos hlt,O8 l j default hlt,put]
   by_cases h1:H9 us (l.getD j default) x<0
   ·rw[if_pos h1,if_pos (show A0 (ka us (l.getD j default)) (ka us x)<0 from h1),b1V us x l f k hs fuel (j+1) (by omega) (by omega),a8d l j default hlt]
    congr 1;simp
   ·rw[if_neg h1,if_neg (show¬A0 (ka us (l.getD j default)) (ka us x)<0 from h1)];congr 1;simp
  ·rw[if_neg hlt,List.drop_eq_nil_of_le (by omega),put];congr 1;simp
def stp(us:Us)(P:Gt->Bool)(l:List Tx)(g:Gt):List Tx:=if P g then put (ka us) g.b7 l else l
theorem b1K(us:Us)(P:Gt->Bool):∀(xs:List Gt) (l:List Tx),l.Pairwise (λx y=>¬A0 (ka us y) (ka us x)<0)->
  (xs.foldl (stp us P) l).Pairwise (λx y=>¬A0 (ka us y) (ka us x)<0)/\(xs.foldl (stp us P) l).Perm (l++(xs.filter P).map (·.b7))
 |[],l,h=>⟨h,by simp⟩
 |g::xs,l,h=>by
  rw[List.foldl_cons,stp,List.filter_cons];split
  ·obtain⟨h1,h2⟩:=b1K us P xs _ (b3i (ka us) (λ_ _=>rfl) g.b7 l h)
   refine⟨h1,h2.trans ?_⟩;rw[List.map_cons];exact((a7P (ka us) g.b7 l).append_right _).trans List.perm_middle.symm
  ·exact b1K us P xs l h
theorem gl0(us:Us)(P:Gt->Bool)(xs:List Gt)(hx:∀g∈xs,(f9 us g.b7).isSome=true)(f:Nat->Int->List Tx->Option (List Tx))
  (hs:∀(fuel i:Nat) (l:List Tx),i<=xs.length->l.length<=i->(∀y∈l,(f9 us y).isSome=true)->f (fuel+1) (i:Int) l=if i<xs.length then f fuel ((i+1:Nat):Int) (stp us P l (xs.getD i default)) else some l):
  ∀(fuel i:Nat) (l:List Tx),xs.length - i<fuel->i<=xs.length->l.length<=i->(∀y∈l,(f9 us y).isSome=true)->f fuel (i:Int) l=some ((xs.drop i).foldl (stp us P) l)
 |0,i,_,hf,_,_,_=>by omega
 |fuel+1,i,l,hf,hi,hl,hu=>by
  rw[hs fuel i l hi hl hu];by_cases hlt:i<xs.length
  ·have hp:=a7P (ka us) (xs.getD i default).b7 l
   rw[if_pos hlt,gl0 us P xs hx f hs fuel (i+1) _ (by omega) (by omega) ?_ ?_,O8 xs i default hlt,List.foldl_cons]
   ·rw[stp];split
    ·rw[hp.length_eq,List.length_cons];omega
    ·omega
   ·rw[stp];split
    ·intro y hy
     rcases List.mem_cons.1 (hp.mem_iff.1 hy) with hy|hy
     ·rw[hy];exact hx _ (R0 xs default hlt)
     ·exact hu y hy
    ·exact hu
  ·rw[if_neg hlt,List.drop_eq_nil_of_le (by omega)];rfl
theorem b5E(h:At t us hd wt n)(P:Gt->Bool)(xs:List Gt)(hx:∀g∈xs,(f9 us g.b7).isSome=true){m:List Tx}(hm:((xs.filter P).map (·.b7)).Perm m):xs.foldl (stp us P) []=P2 (ka us) m:=by
 obtain⟨h1,h2⟩:=b1K us P xs [] List.Pairwise.nil;rw[List.nil_append] at h2;have hu:∀x∈xs.foldl (stp us P) [],(f9 us x).isSome=true:=λx hx' =>by
  obtain⟨g,hg,rfl⟩:=List.mem_map.1 (h2.mem_iff.1 hx');exact hx g (List.mem_filter.1 hg).1
 exact a8f (ka us) (λ_ _=>rfl) (h2.trans (hm.trans (R8 _ m).symm)) (λx hx y hy e=>h.o.inj (hu x hx) (hu y hy) e) h1 (a1S _ (λ_ _=>rfl) m)
theorem b4o(l:List Gt)(k:Ky):C0 (l.map oG) k=(l.filter λg=>decide (g.j8=k)).map (·.b7):=by
 rw[C0,List.filter_map,List.map_map];rfl
theorem a8u{p p' :Ps}(hp:p.Perm p')(k:Ky):(C0 p k).Perm (C0 p' k):=(hp.filter _).map _
theorem b1{α:Type}(l:List α)(j:Nat){c:Nat}(hc:c<=24)(hz:l.length<=100000):(0+(l.take j).length) * c<=140737488351232:=by
 have h:0+(l.take j).length<=100000:=by rw[List.length_take];omega
 have:=Nat.mul_le_mul h hc;omega
theorem b2{α:Type}(l:List α)(x:α)(j:Nat){c:Nat}(hc:c<=24)(hz:l.length<=100000):((l.take j).length+([x]:List α).length) * c<=140737488351232:=by
 have h:(l.take j).length+([x]:List α).length<=100001:=by rw[List.length_take,l1];omega
 have:=Nat.mul_le_mul h hc;omega
theorem b3{α:Type}(l:List α)(x:α)(j:Nat){c:Nat}(hc:c<=24)(hz:l.length<=100000):((l.take j++[x]).length+(l.drop j).length) * c<=140737488351232:=by
 have h:(l.take j++[x]).length+(l.drop j).length<=200001:=by rw[List.length_append,List.length_take,List.length_drop,l1];omega
 have:=Nat.mul_le_mul h hc;omega
theorem c45(h:At t us hd wt n)(y:Ky){i:Nat}(hi:i<t.f0.length)(l:List Tx)(hl:∀x∈l,(f9 us x).isSome=true)(hz:l.length<=1000)(k0:Int->List Tx->Option (List Tx)):
  a2K t y i l k0 big 0=k0 ((i+1:Nat):Int) (put (ka us) (t.f0.getD i default).b7 l):=by
 have hzw:=h.zw;have hm:=h.wx (R0 t.f0 default hi);refine b1V us (t.f0.getD i default).b7 l (a2K t y i l k0) (k0 ((i+1:Nat):Int)) (λfuel j hj=>?_) big 0 (F0 (by omega)) (by omega);rw[a2K];simp only[Int.toNat_natCast,sk (show i<4611686018427387904 by omega),sk (show j<4611686018427387904 by omega)];by_cases hlt:j<l.length
 ·rw[if_pos (dT (by omega)),if_pos (by omega),if_pos (by omega),a7m h (hl _ (R0 l default hlt)) hm,Option.bind_some,if_pos hlt]
  by_cases hc:H9 us (l.getD j default) (t.f0.getD i default).b7<0
  ·rw[if_pos (dT hc),if_pos hc]
  ·rw[if_neg (dF hc),if_neg hc,if_pos (by omega),if_pos (b1 l j (by omega) (by omega)),if_pos (b2 l _ j (by omega) (by omega)),if_pos (by omega),if_pos (b3 l _ j (by omega) (by omega))]
 ·rw[if_neg (dF (by omega)),if_neg hlt,if_pos (by omega),if_pos (b1 l j (by omega) (by omega)),if_pos (by omega),if_pos (b2 l _ j (by omega) (by omega)),if_pos (by omega),if_pos (b3 l _ j (by omega) (by omega))]
theorem c7t(h:At t us hd wt n)(w:Gt){i:Nat}(hi:i<t.d9.length)(l:List Tx)(hl:∀x∈l,(f9 us x).isSome=true)(hz:l.length<=20000)(k0:Int->List Tx->Option (List Tx)):
  a2U t w i l k0 big 0=k0 ((i+1:Nat):Int) (put (ka us) (t.d9.getD i default).b7 l):=by
 have hzw:=h.zh;have hm:=h.hx (R0 t.d9 default hi);refine b1V us (t.d9.getD i default).b7 l (a2U t w i l k0) (k0 ((i+1:Nat):Int)) (λfuel j hj=>?_) big 0 (F0 (by omega)) (by omega);rw[a2U];simp only[Int.toNat_natCast,sk (show i<4611686018427387904 by omega),sk (show j<4611686018427387904 by omega)];by_cases hlt:j<l.length
 ·rw[if_pos (dT (by omega)),if_pos (by omega),a7m h (hl _ (R0 l default hlt)) hm,Option.bind_some,if_pos hlt]
  by_cases hc:H9 us (l.getD j default) (t.d9.getD i default).b7<0
  ·rw[if_pos (dT hc),if_pos hc]
  ·rw[if_neg (dF hc),if_neg hc,if_pos (by omega),if_pos (b1 l j (by omega) (by omega)),if_pos (b2 l _ j (by omega) (by omega)),if_pos (by omega),if_pos (b3 l _ j (by omega) (by omega))]
 ·rw[if_neg (dF (by omega)),if_neg hlt,if_pos (by omega),if_pos (b1 l j (by omega) (by omega)),if_pos (b2 l _ j (by omega) (by omega)),if_pos (by omega),if_pos (b3 l _ j (by omega) (by omega))]
def a9R(us:Us)(wt:Ps)(k:Ky):List Tx:=P2 (ka us) (C0 wt k)
theorem b97(h:At t us hd wt n)(k:Ky):a7E t k=some (a9R us wt k):=by
 have hz:=h.zw;have hx:∀g∈t.f0,(f9 us g.b7).isSome=true:=λg hg=>h.wx hg;have:=gl0 us (λg=>decide (g.j8=k)) t.f0 hx (a1y t k) (λfuel i l hi hl hu=>?_) big 0 [] (F0 (by omega)) (by omega) (by simp) (by simp)
 ·rw[List.drop_zero,b5E h _ _ hx (m:=C0 wt k) (by rw[<-b4o];exact a8u (h.r.pw h.o) k)] at this
  exact this
 ·rw[a1y]
  by_cases hlt:i<t.f0.length
  ·rw[if_pos (dT (by omega)),if_pos (by omega),Int.toNat_natCast,if_pos hlt,sk (by omega),stp]
   by_cases hk:(t.f0.getD i default).j8=k
   ·rw[if_neg (nF hk),if_pos (dT hk)]
    exact c45 h k hlt l hu (by omega) _
   ·rw[if_pos (nT hk),if_neg (dF hk)]
  ·rw[if_neg (dF (by omega)),if_neg hlt]
def b1O(us:Us)(w g:Gt):Bool:=decide (g.j8=w.j8)&&((!decide (g.b7=w.b7)&&O6 g.v8 w.v8)&&(!prep us g.b7&&decide (H9 us w.b7 g.b7<0)))
theorem c0j(h:At t us hd wt n){w:Gt}(hw:w∈t.f0):a4t t w=some (O2 us hd wt (v7 w)):=by
 have hz:=h.zh;have hx:∀g∈t.d9,(f9 us g.b7).isSome=true:=λg hg=>h.hx hg;have:=gl0 us (b1O us w) t.d9 hx (D_ t w) (λfuel i l hi hl hu=>?_) big 0 [] (F0 (by omega)) (by omega) (by simp) (by simp)
 ·rw[List.drop_zero,b5E h _ _ hx (m:=(C0 hd (v7 w).o7).filter (hit us hd wt (v7 w))) ?_] at this
  ·exact this
  ·refine List.Perm.trans ?_ ((a8u (h.r.ph h.o) (v7 w).o7).filter _)
   rw[b4o,List.filter_map,List.filter_filter];refine List.Perm.of_eq (congrArg _ (List.filter_congr λg hg=>?_));simp only[b1O,Function.comp,hit,h.wmd hw,a4U g.v8];by_cases hk:g.j8=w.j8
   ·have:md hd ⟨g.b7,w.j8⟩=g.v8:=by rw[<-hk];exact h.hmd hg
    simp only[v7,this,hk,decide_true,Bool.true_and,Bool.and_true];by_cases h2:g.b7=w.b7<;>by_cases h3:O6 w.v8 g.v8=true<;>by_cases h4:prep us g.b7=true<;>by_cases h5:H9 us w.b7 g.b7<0<;>simp[h2,h3,h4,h5]
   ·have:¬g.j8=(v7 w).o7:=hk
    simp[hk,this]
 ·rw[D_]
  by_cases hlt:i<t.d9.length
  ·have hg:=R0 t.d9 default hlt
   rw[if_pos (dT (by omega)),if_pos (by omega),Int.toNat_natCast,if_pos hlt,sk (by omega),stp];have hins:=c7t h w hlt l hu (by omega) (D_ t w fuel);generalize t.d9.getD i default=g at hg hins⊢;obtain⟨j,f1,f2,_,f4⟩:=h.user (h.hx hg);have hp:prep us g.b7=(t.f_L.getD j default).L_:=by rw[prep,f4];rfl
   rw[b34 (h.hm hg) (h.wm hw),f1,a7m h (h.wx hw) (h.hx hg)];simp only[Option.bind_some,b1O,hp];rw[if_pos (show 0<=((j:Nat):Int)/\((j:Nat):Int)<((t.f_L.length:Nat):Int) by omega),Int.toNat_natCast,hins];generalize(t.f_L.getD j default).L_=pb;by_cases h1:g.j8=w.j8<;>by_cases h2:g.b7=w.b7<;>by_cases h3:O6 g.v8 w.v8=true<;>cases pb<;>by_cases h5:H9 us w.b7 g.b7<0<;>simp[h1,h2,h3,h5]
  ·rw[if_neg (dF (by omega)),if_neg hlt]
theorem c21(p q:Ps)(k:Sl)(v w:Int)(h:∀e∈p,e.1≠k):p7 (p++(k,w)::q) k v=p++(k,v)::q:=by
 induction p with
 |nil=>simp[p7]
 |cons a p ih=>
  rw[List.cons_append,p7,if_neg (λe=>h a List.mem_cons_self e.symm),ih (λe he=>h e (List.mem_cons_of_mem _ he))];rfl
theorem mdP(p q:Ps)(k:Sl)(h:∀e∈p,e.1≠k):md (p++q) k=md q k:=by
 induction p with
 |nil=>rfl
 |cons a p ih=>rw[List.cons_append,b2C,if_neg (λe=>h a List.mem_cons_self e.symm),ih (λe he=>h e (List.mem_cons_of_mem _ he))]
theorem c22(p:Ps)(k:Sl)(v:Int)(h:∀e∈p,e.1≠k):p7 p k v=p++[(k,v)]:=by
 induction p with
 |nil=>rfl
 |cons a p ih=>rw[p7,if_neg (λe=>h a List.mem_cons_self e.symm),ih (λe he=>h e (List.mem_cons_of_mem _ he))];rfl
theorem b48(t:Tb)(g:Gt)(hg:0<g.v8)(hz:t.f0.length<=1000):∀(fuel k:Nat),t.f0.length - k<fuel->k<=t.f0.length->(∀e∈(t.f0.take k).map oG,e.1≠v7 g)->
  ∃W,a2T t g fuel k=some (⟨g.b7,g.j8,mx g.v8 (md (t.f0.map oG) (v7 g))⟩,t.f_L,t.d9,W)/\W.map oG=p7 (t.f0.map oG) (v7 g) (mx g.v8 (md (t.f0.map oG) (v7 g)))
 |0,k,hf,_,_=>by omega
 |fuel+1,k,hf,hk,hp=>by
  rw[a2T];by_cases hlt:k<t.f0.length
  ·have ih:=b48 t g hg hz fuel (k+1) (by omega) (by omega)
   have hl:t.f0=t.f0.take k++t.f0.getD k default::t.f0.drop (k+1):=by rw[<-O8 _ k default hlt,List.take_append_drop]
   have hne:¬v7 (t.f0.getD k default)=v7 g->∀e∈(t.f0.take (k+1)).map oG,e.1≠v7 g:=λh e he=>by
    rw[List.take_add_one,List.getElem?_eq_getElem hlt,List.map_append] at he;rcases List.mem_append.1 he with he|he
    ·exact hp e he
    ·rw[List.getD_eq_getElem?_getD,List.getElem?_eq_getElem hlt] at h
     simp only[Option.toList,List.map_cons,List.map_nil,List.mem_singleton] at he;rw[he];exact h
   rw[if_pos (dT (by omega)),if_pos (by omega),Int.toNat_natCast,sk (by omega)];by_cases h1:(t.f0.getD k default).b7=g.b7
   ·rw[if_pos (dT h1)]
    by_cases h2:(t.f0.getD k default).j8=g.j8
    ·have hs:v7 (t.f0.getD k default)=v7 g:=(a6k _ _).2 ⟨h1,h2⟩
     have hmap:t.f0.map oG=(t.f0.take k).map oG++(v7 g,(t.f0.getD k default).v8)::(t.f0.drop (k+1)).map oG:=by
      conv=>lhs;rw[hl]
      rw[List.map_append,List.map_cons,<-hs];rfl
     have hmd:md (t.f0.map oG) (v7 g)=(t.f0.getD k default).v8:=by rw[hmap,mdP _ _ _ hp,b2C,if_pos rfl]
     have hv:(if(t.f0.getD k default).v8>g.v8 then(t.f0.getD k default).v8 else g.v8)=mx g.v8 (t.f0.getD k default).v8:=by
      rw[mx];split<;>split<;>omega
     refine⟨t.f0.set k (b8.mk g.b7 g.j8 (mx g.v8 (t.f0.getD k default).v8)),?_,?_⟩
     ·rw[if_pos (dT h2),Option.bind_some,if_pos (by omega),Option.bind_some,hv,hmd]
     ·rw[hmd,hmap,c21 _ _ _ _ _ hp]
      rw[List.set_eq_take_append_cons_drop,if_pos hlt,List.map_append];rfl
    ·rw[if_neg (dF h2)]
     exact ih (hne λh=>h2 ((a6k _ _).1 h).2)
   ·rw[if_neg (dF h1)]
    exact ih (hne λh=>h1 ((a6k _ _).1 h).1)
  ·rw[List.take_of_length_le (by omega)] at hp
   have hmd:md (t.f0.map oG) (v7 g)=0:=by
    have:=mdP (t.f0.map oG) [] (v7 g) hp;rw[List.append_nil] at this;rw[this];rfl
   have hv:mx g.v8 0=g.v8:=by rw[mx,if_pos hg]
   refine⟨t.f0++[g],?_,?_⟩
   ·rw[if_neg (dF (by omega)),if_pos (by omega),if_pos (by rw[l1];omega),hmd,hv]
   ·rw[hmd,hv,c22 _ _ _ hp,List.map_append];rfl
theorem c0h(h:At t us hd wt n){g:Gt}(hg:g.v8=1\/g.v8=2)(hk:a15 g.j8)(hs:(f9 us g.b7).isSome=true)(hn:n<250):
  ∃t',a4s t g=some (⟨g.b7,g.j8,mx g.v8 (md wt (v7 g))⟩,t'.f_L,t'.d9,t'.f0)/\At t' us hd (p7 wt (v7 g) (mx g.v8 (md wt (v7 g)))) (n+1)/\(⟨g.b7,g.j8,mx g.v8 (md wt (v7 g))⟩:Gt)∈t'.f0:=by
 have hz:=h.zw;obtain⟨W,h1,h2⟩:=b48 t g (by omega) hz big 0 (F0 (by omega)) (by omega) (by simp);have hmd:md (t.f0.map oG) (v7 g)=md wt (v7 g):=b2D h.r.wu h.o.uw h.r.w _;rw[hmd] at h1 h2;have hm:mx g.v8 (md wt (v7 g))=1\/mx g.v8 (md wt (v7 g))=2:=by
  rcases a9k wt (v7 g) with h3|h3
  ·rw[h3,mx,if_pos (by omega)];exact hg
  ·have:=h.m _ h3
   rw[mx];split<;>omega
 have ha:At ⟨t.f_L,t.d9,W⟩ us hd (p7 wt (v7 g) (mx g.v8 (md wt (v7 g)))) (n+1):=by
  refine⟨⟨h.r.u,h.r.s,h.r.h,λe=>?_,h.r.hu,?_⟩,h.o.wait (s:=v7 g) hs _ hn,h.d,λe he=>?_,λe he=>?_,h.q⟩
  ·show e∈W.map oG↔_
   rw[h2,a5B h.r.wu,a5B h.o.uw,h.r.w]
  ·show Uk (W.map oG)
   rw[h2];exact a5C h.r.wu _ _
  ·rcases a0k he with h5|h5
   ·rw[h5];exact hk
   ·exact h.k e h5
  ·rcases a0k he with h5|h5
   ·rw[h5];exact hm
   ·exact h.m e h5
 exact⟨⟨t.f_L,t.d9,W⟩,h1,ha,ha.getw ((a5B h.o.uw _ _ _).2 (Or.inl rfl))⟩
end
end Go.Proofs.YtddgjfclpknkcaaGreatDoor.Wk
