import Derived.Test.YtddgjfclpknkcaaGreatDoorCnU
namespace Go.Cn
open Go
set_option linter.unusedSectionVars false
theorem v6{X b:Bool}(h:X=b):LV.Le (.bool X) (.bool b):=LV.Le.of_eq (by rw[h])
theorem d8(a b:Nat)(h:Nat.ble a b=true):a<=b:=Nat.le_of_ble_eq_true h
theorem j4(a b:Nat)(h:Nat.ble (a+1) b=true):a<b:=Nat.le_of_ble_eq_true h
theorem I8(a b:Int)(h:decide (a<=b)=true):a<=b:=of_decide_eq_true h
theorem b6x(a b:Int)(h:decide (a<b)=true):a<b:=of_decide_eq_true h
theorem A6(sz:Nat)(f:Nat->List LV):LV.Le .nilsl (.ds sz 0 f):=fun μ x h=>by
 simp only[i4] at h;subst h;exact a8B
theorem q_(c:Nat):LV.Le .nilsl (.gs c 0):=fun μ x h=> .inl ⟨rfl,h⟩
theorem c2t{sz n n' :Nat}{f f' :Nat->List LV}(hn:n=n')(h:∀i,i<n->f i=f' i):LV.Le (.ds sz n f) (.ds sz n' f'):=fun μ x hx=>by
 subst hn;simp only[i4,D8] at hx⊢;obtain⟨base,rc,rfl,h1,h2,h3,h4⟩:=hx;exact⟨base,rc,rfl,h1,h2,h3,λi hi=>by rw[<-h i hi];exact h4 i hi⟩
theorem A5(c:Nat){n n' :Nat}(h:n=n'):LV.Le (.gs c n) (.gs c n'):=LV.Le.of_eq (by rw[h])
theorem L5(c n:Nat)(cap:Option Nat)(h:Nat.ble 1 n=true):LV.Le (.sl c 0 0 false n cap) (.gs c n):=fun μ x hx=>
 i4.sl_gs (by have:=Nat.le_of_ble_eq_true h;omega) hx
theorem tr:True:=trivial
theorem a_{A B:Prop}(a:A)(b:B):A/\B:=⟨a,b⟩
theorem b4{Q:Prop}(q:Q):(True/\True)/\Q:=⟨⟨trivial,trivial⟩,q⟩
theorem b5{Q:Prop}(q:Q):(True/\True)/\(True/\True)/\Q:=b4 (b4 q)
theorem l9{Q:Prop}(q:Q):(True/\True)/\(True/\True)/\(True/\True)/\(True/\True)/\Q:=b5 (b5 q)
theorem X2{Q:Prop}(q:Q):(True/\True)/\(True/\True)/\(True/\True)/\(True/\True)/\(True/\True)/\(True/\True)/\(True/\True)/\(True/\True)/\Q:=l9 (l9 q)
theorem u5{Q:Prop}(q:Q):True/\True/\Q:=⟨trivial,trivial,q⟩
theorem z8{Q:Prop}(q:Q):True/\True/\True/\True/\Q:=u5 (u5 q)
theorem B3{Q:Prop}(q:Q):True/\True/\True/\True/\True/\True/\True/\True/\Q:=z8 (z8 q)
def A4(k:IntKind)(x:Int):List LV:=[.int k x]
theorem D1{i:Int}{n:Nat}(h:0<=i/\i<(n:Int)):i.toNat<n:=by omega
section
variable {α:Type}(enc:α->List LV)(d:α)
theorem b4E(s:Nat)(h:∀x,(enc x).length=s):∀(l:List α) (i:Nat),i<l.length->a09 s (l.flatMap enc) i=enc (l.getD i d)
 |[],i,hi=>by simp at hi
 |x::l,0,_=>by
  simp only[a09,List.flatMap_cons,Nat.zero_mul,List.drop_zero,List.getD_cons_zero];rw[List.take_append_of_le_length (by rw[h x];exact Nat.le_refl _),List.take_of_length_le (by rw[h x];exact Nat.le_refl _)]
 |x::l,i+1,hi=>by
  have ih:=b4E s h l i (by simpa using hi);simp only[a09,List.flatMap_cons,List.getD_cons_succ] at ih⊢;rw[show(i+1) * s=(enc x).length+i * s from by rw[h x,Nat.add_mul,Nat.one_mul,Nat.add_comm],<-List.drop_drop,List.drop_append_of_le_length (Nat.le_refl _),List.drop_length,List.nil_append];exact ih
theorem L6(s:Nat)(h:∀x,(enc x).length=s)(l:List α):LO.Sub (.row s l.length (a09 s (l.flatMap enc)) true) (.gr s l.length (b6 enc d l)):=by
 refine⟨rfl,λh=>h.elim,fun μ p hh r=>?_⟩;exact w9.eqv (o:=.gr s l.length (a09 s (l.flatMap enc))) ⟨rfl,rfl,λi hi=>b4E enc d s h l i hi⟩ (w9.row_gr.1 r)
theorem b9t(l m:List α):M1 l.length (b6 enc d l) (b6 enc d m)=b6 enc d (l++m):=by
 funext t;simp only[M1,b6];by_cases h:t<l.length
 ·rw[if_pos h,List.getD_eq_getElem?_getD,List.getD_eq_getElem?_getD,List.getElem?_append_left h]
 ·rw[if_neg h,List.getD_eq_getElem?_getD,List.getD_eq_getElem?_getD,List.getElem?_append_right (by omega)]
theorem J9(s:Nat)(l m:List α):LO.Sub (.gr s (l.length+m.length) (M1 l.length (b6 enc d l) (b6 enc d m))) (.gr s (l++m).length (b6 enc d (l++m))):=by
 rw[b9t,List.length_append];exact LO.Sub.refl _
theorem J6(c:Nat)(l m:List α):LV.Le (.gs c (l.length+m.length)) (.gs c (l++m).length):=A5 c (by simp)
theorem b6w(s:Nat)(l:List α)(a b:Nat)(h1:a<=b)(h2:b<=l.length):LV.Le (.ds s (b - a) (λq=>b6 enc d l (a+q))) (.ds s ((l.take b).drop a).length (b6 enc d ((l.take b).drop a))):=by
 refine c2t (by simp;omega) (λi hi=>?_);simp only[b6];congr 1;rw[List.getD_eq_getElem?_getD,List.getD_eq_getElem?_getD,List.getElem?_drop,List.getElem?_take,if_pos (by omega)]
theorem a1n(s:Nat)(l:List α)(b:Nat)(h2:b<=l.length):LV.Le (.ds s (b - 0) (λq=>b6 enc d l (0+q))) (.ds s (l.take b).length (b6 enc d (l.take b))):=by
 have:=b6w enc d s l 0 b (Nat.zero_le _) h2;simpa using this
theorem a2p(s:Nat)(l:List α)(a:Nat)(h2:a<=l.length):LV.Le (.ds s (l.length - a) (λq=>b6 enc d l (a+q))) (.ds s (l.drop a).length (b6 enc d (l.drop a))):=by
 have:=b6w enc d s l a l.length h2 (Nat.le_refl _);simpa using this
theorem c6A(l:List α)(i:Nat)(x:α)(hi:i<l.length)(g:List LV)(hg:g=enc x):∀m,m<l.length->(if m=i then g else b6 enc d l m)=b6 enc d (l.set i x) m:=by
 intro m hm;simp only[b6];rw[List.getD_eq_getElem?_getD (l:=l.set i x),List.getElem?_set];by_cases h:i=m
 ·subst h;simp[hi,hg]
 ·rw[if_neg (λe=>h e.symm),if_neg h,List.getD_eq_getElem?_getD]
theorem D5(s:Nat)(l:List α)(i:Nat)(x:α)(hi:i<l.length)(g:List LV)(hg:g=enc x):
  LO.Sub (.gr s l.length (λm=>if m=i then g else b6 enc d l m)) (.gr s (l.set i x).length (b6 enc d (l.set i x))):=by
 refine O5.sub ⟨rfl,by simp,λm hm=>c6A enc d l i x hi g hg m hm⟩
end
theorem J2{α:Type}{enc:α->List LV}{d:α}(h:∀x,P7 (enc x)=true)(l:List α):∀i,i<l.length->P7 (b6 enc d l i)=true:=λi _=>h _
section
variable {α β:Type}(ek:α->LV)(ev:β->LV)
def x9(m:List (α×β)):List (LV×LV):=m.map λe=>(ek e.1,ev e.2)
section
variable [DecidableEq α]
def f9(m:List (α×β))(k:α):Option β:=
 match m with
 |[]=>none
 |e::r=>if k=e.1 then some e.2 else f9 r k
def p7(m:List (α×β))(k:α)(v:β):List (α×β):=
 match m with
 |[]=>[(k,v)]
 |e::r=>if k=e.1 then(k,v)::r else e::p7 r k v
def B1(m:List (α×β))(k:α):List (α×β):=
 match m with
 |[]=>[]
 |e::r=>if k=e.1 then r else e::B1 r k
theorem Q8(h:∀a b,B0 (ek a) (ek b)=decide (a=b))(m:List (α×β))(k:α):R_ (ek k) (x9 ek ev m)=(f9 m k).map ev:=by
 induction m with
 |nil=>rfl
 |cons e r ih=>
  simp only[x9,List.map_cons,R_,f9,h] at ih⊢;by_cases he:k=e.1
  ·simp[he]
  ·simp only[he,decide_false,Bool.false_eq_true,if_false];exact ih
theorem c7p(h:∀a b,B0 (ek a) (ek b)=decide (a=b))(m:List (α×β))(k:α)(v:β):H_ (ek k) (ev v) (x9 ek ev m)=x9 ek ev (p7 m k v):=by
 induction m with
 |nil=>rfl
 |cons e r ih=>
  simp only[x9,List.map_cons,H_,p7,h] at ih⊢;by_cases he:k=e.1
  ·simp[he]
  ·simp only[he,decide_false,Bool.false_eq_true,if_false,List.map_cons,ih]
theorem b4N(h:∀a b,B0 (ek a) (ek b)=decide (a=b))(m:List (α×β))(k:α):a1d (ek k) (x9 ek ev m)=x9 ek ev (B1 m k):=by
 induction m with
 |nil=>rfl
 |cons e r ih=>
  simp only[x9,List.map_cons,a1d,B1,h] at ih⊢;by_cases he:k=e.1
  ·simp[he]
  ·simp only[he,decide_false,Bool.false_eq_true,if_false,List.map_cons,ih]
theorem R1(o:Option β)(z:β):LV.Le ((o.map ev).getD (ev z)) (ev (o.getD z)):=LV.Le.of_eq (by cases o<;>rfl)
theorem a6p(h:∀a b,B0 (ek a) (ek b)=decide (a=b))(ag:Bool)(ks:List CK)(m:List (α×β))(k:α)(v:β):
  LO.Sub (.map ag ks (H_ (ek k) (ev v) (x9 ek ev m))) (.map ag ks (x9 ek ev (p7 m k v))):=LO.Sub.of_eq (by rw[c7p ek ev h])
theorem c7k(h:∀a b,B0 (ek a) (ek b)=decide (a=b))(ag:Bool)(ks:List CK)(m:List (α×β))(k:α):
  LO.Sub (.map ag ks (a1d (ek k) (x9 ek ev m))) (.map ag ks (x9 ek ev (B1 m k))):=LO.Sub.of_eq (by rw[b4N ek ev h])
end
end
theorem i5{c:Bool}{α:Type}{A B:Option α}{r:α}(h:(if c then A else B)=some r):(c=true/\A=some r)\/(c=false/\B=some r):=by
 cases c
 ·exact .inr ⟨rfl,h⟩
 ·exact .inl ⟨rfl,h⟩
theorem j6{c:Prop}[Decidable c]{α:Type}{A:Option α}{r:α}(h:(if c then A else none)=some r):c/\A=some r:=by
 by_cases hc:c
 ·rw[if_pos hc] at h;exact⟨hc,h⟩
 ·rw[if_neg hc] at h;cases h
theorem d6{α β:Type}{o:Option α}{f:α->Option β}{r:β}(h:o.bind f=some r):∃y,o=some y/\f y=some r:=by
 cases o with
 |none=>cases h
 |some y=>exact⟨y,rfl,h⟩
@[irreducible] def big:Nat:=1180591620717411303424
theorem N1:big=1180591620717411303424:=by unfold big;rfl
theorem S7{a:Int}{n:Nat}(h:a<=(n:Int)):a.toNat<=n:=by omega
theorem K7(b:Int)(h:decide (b=0)=false):b≠0:=of_decide_eq_false h
structure A2(α:Type) where
 a0:α
 a1:α
 deriving DecidableEq,Inhabited
structure A8(α:Type) where
 a0:α
 a1:α
 a2:α
 a3:α
 a4:α
 a5:α
 a6:α
 a7:α
 deriving DecidableEq,Inhabited
def A8.get{α:Type}(v:A8 α):Nat->α
 |0=>v.a0|1=>v.a1|2=>v.a2|3=>v.a3|4=>v.a4|5=>v.a5|6=>v.a6|_=>v.a7
def A8.set{α:Type}(v:A8 α)(x:α):Nat->A8 α
 |0=>{v with a0:=x}|1=>{v with a1:=x}|2=>{v with a2:=x}|3=>{v with a3:=x}|4=>{v with a4:=x}|5=>{v with a5:=x}|6=>{v with a6:=x}|_=>{v with a7:=x}
def A8.list{α:Type}(v:A8 α):List α:=[v.a0,v.a1,v.a2,v.a3,v.a4,v.a5,v.a6,v.a7]
theorem lt8{n:Nat}(h:n<8):n=0\/n=1\/n=2\/n=3\/n=4\/n=5\/n=6\/n=7:=by omega
theorem A8.x{α:Type}(a b:A8 α):a=b↔a.a0=b.a0/\a.a1=b.a1/\a.a2=b.a2/\a.a3=b.a3/\a.a4=b.a4/\a.a5=b.a5/\a.a6=b.a6/\a.a7=b.a7:=by
 cases a;cases b;simp
theorem A2.x{α:Type}(a b:A2 α):a=b↔a.a0=b.a0/\a.a1=b.a1:=by
 cases a;cases b;simp
theorem J3(k:IntKind)(a b:A8 Int):B0 (.agg [.int k a.a0,.int k a.a1,.int k a.a2,.int k a.a3,.int k a.a4,.int k a.a5,.int k a.a6,.int k a.a7])
  (.agg [.int k b.a0,.int k b.a1,.int k b.a2,.int k b.a3,.int k b.a4,.int k b.a5,.int k b.a6,.int k b.a7])=decide (a=b):=by
 rw[Bool.eq_iff_iff,decide_eq_true_eq];simp only[A8.x,B0,I0,U4,Bool.and_eq_true,beq_iff_eq,and_true]
theorem A8.list_get{α:Type}(v:A8 α)(d:α){n:Nat}(h:n<8):v.list.getD n d=v.get n:=by
 rcases lt8 h with rfl|rfl|rfl|rfl|rfl|rfl|rfl|rfl<;>rfl
def A2.get{α:Type}(v:A2 α):Nat->α
 |0=>v.a0|_=>v.a1
def A2.list{α:Type}(v:A2 α):List α:=[v.a0,v.a1]
section
variable {α:Type}(enc:α->List LV)
theorem b5x(z:Nat)(h:∀x,(enc x).length=z)(d:α)(a s:Nat)(ha:a+s<=z)(post:List LV):∀(l:List α) (n:Nat),n<l.length->
  ((l.flatMap enc++post).drop (n * z+a)).take s=((enc (l.getD n d)).drop a).take s
 |[],n,hn=>by simp at hn
 |x::l,0,_=>by
  simp only[List.flatMap_cons,Nat.zero_mul,Nat.zero_add,List.getD_cons_zero,List.append_assoc];rw[List.drop_append_of_le_length (by rw[h x];omega),List.take_append_of_le_length (by rw[List.length_drop,h x];omega)]
 |x::l,n+1,hn=>by
  have ih:=b5x z h d a s ha post l n (by simpa using hn);rw[List.flatMap_cons,List.getD_cons_succ,List.append_assoc,show(n+1) * z+a=(enc x).length+(n * z+a) from by rw[h x,Nat.add_mul,Nat.one_mul];omega,
   <-List.drop_drop,List.drop_append_of_le_length (Nat.le_refl _),List.drop_length,List.nil_append]
  exact ih
theorem c3C(z:Nat)(h:∀x,(enc x).length=z)(v:A8 α)(pre post:List LV)(off:Nat)(ho:pre.length=off)(n a s:Nat)(hn:n<8)(ha:a+s<=z):
  ((pre++(v.list.flatMap enc++post)).drop (off+n * z+a)).take s=((enc (v.get n)).drop a).take s:=by
 rw[Nat.add_assoc,<-ho,<-List.drop_drop,List.drop_append_of_le_length (Nat.le_refl _),List.drop_length,List.nil_append,
  b5x enc z h v.a0 a s ha post v.list n (by simpa[A8.list] using hn),A8.list_get v v.a0 hn]
theorem b5L(l:List LV)(j:Nat):l[j]?=(((l.drop j).take 1))[0]?:=by
 rw[List.getElem?_take,if_pos (by omega),List.getElem?_drop,Nat.add_zero]
theorem c2s(z:Nat)(h:∀x,(enc x).length=z)(v:A8 α)(pre post:List LV)(off:Nat)(ho:pre.length=off)(n a:Nat)(hn:n<8)(ha:a+1<=z):
  LV.Le (((pre++(v.list.flatMap enc++post))[off+n * z+a]?).getD .any) (((enc (v.get n))[a]?).getD .any):=LV.Le.of_eq (by
   rw[b5L,c3C enc z h v pre post off ho n a 1 hn ha,<-b5L])
theorem a0i(z:Nat)(h:∀x,(enc x).length=z)(v:A8 α)(pre post:List LV)(off:Nat)(ho:pre.length=off)(n:Nat)(hn:n<8)(ha:0+1<=z):
  LV.Le (((pre++(v.list.flatMap enc++post))[off+n * z]?).getD .any) (((enc (v.get n))[0]?).getD .any):=c2s enc z h v pre post off ho n 0 hn ha
end
theorem b9w{i:Int}{len:Nat}(h:0<=i/\i<(len:Int))(off z tot s:Nat)(hh:Nat.ble (off+len * z) tot=true)(hs:Nat.ble s z=true):off+i.toNat * z+s<=tot:=by
 have h1:=Nat.le_of_ble_eq_true hh;have h2:=Nat.le_of_ble_eq_true hs;have h3:(i.toNat+1) * z<=len * z:=Nat.mul_le_mul_right _ (by omega);rw[Nat.add_mul,Nat.one_mul] at h3;omega
theorem a0f{i:Int}{len:Nat}(h:0<=i/\i<(len:Int))(off z tot:Nat)(hh:Nat.ble (off+len * z) tot=true)(hs:Nat.ble 1 z=true):off+i.toNat * z<tot:=b9w h off z tot 1 hh hs
theorem a0j{i:Int}(h:0<=i/\i<8):i.toNat<8:=by omega
section
variable {α:Type}(enc:α->List LV)(d:α)
theorem f_{a b:Bool}{q:Prop}(h:a=b)(r:q):(True/\LV.Le (.bool a) (.bool b)/\True)/\q:=⟨⟨trivial,v6 h,trivial⟩,r⟩
theorem l_(a b:Nat)(h:Nat.ble (a+1) b=true){q:Prop}(r:q):((True/\a<b)/\True)/\q:=⟨⟨⟨trivial,j4 a b h⟩,trivial⟩,r⟩
theorem m_(a b:Nat)(h:Nat.ble a b=true){q:Prop}(r:q):((True/\a<=b)/\True)/\q:=⟨⟨⟨trivial,d8 a b h⟩,trivial⟩,r⟩
theorem c_{p q:Prop}(h:p)(r:q):((p/\True)/\True)/\q:=⟨⟨⟨h,trivial⟩,trivial⟩,r⟩
def hF:H6:={v:=some (.bool false)}
def hT:H6:={v:=some (.bool true)}
def hC(v:LV):H6:={call:=some (v,[],[])}
theorem a32(cs:List LV)(c s m:Nat)(f:Nat->List LV)(h1:(M8 c s m f cs).1=[]):∀q,q<1->X6 (M8 c s m f ((λ_=>cs) q)).1:=λq _=>by
 show X6 (M8 c s m f cs).1;rw[h1];trivial
end
def P3(l:List Int):List UInt8:=l.map λa=>UInt8.ofNat a.toNat
theorem a8r(l:List Int)(n m:Nat)(h:n<=m)(hm:m=l.length):((0:Nat)=0/\0+n * 1<=(l.map (LV.int .u8)).length)/\∀t,t<n->∃a,((l.map (LV.int .u8)).drop (0+t * 1)).take 1=[.int .u8 a]:=by
 subst hm;refine⟨⟨rfl,by simp;omega⟩,λt ht=>⟨l[t]'(by omega),?_⟩⟩;rw[List.drop_eq_getElem_cons (by simp;omega)];simp
theorem a9c(l:List Int)(n m:Nat)(h:n<=m)(hm:m=l.length):LV.Le (.str ((List.range n).map λt=>a2b (((l.map (LV.int .u8)).drop (0+t * 1)).take 1))) (.str (P3 (l.take n))):=LV.Le.of_eq (by
 subst hm;congr 1;apply List.ext_getElem?;intro i;simp only[List.getElem?_map,P3];by_cases hi:i<n
 ·rw[List.getElem?_range hi,List.getElem?_take_of_lt hi,List.getElem?_eq_getElem (by omega)]
  simp only[Option.map_some];rw[List.drop_eq_getElem_cons (by simp;omega)];simp[a2b]
 ·rw[List.getElem?_eq_none (by simpa using hi),List.getElem?_eq_none (by simp;omega)];rfl)
theorem A3.take{φ:K5}:∀{l:List LV} {vs:List Value} (n:Nat),A3 φ l vs->A3 φ (l.take n) (vs.take n)
 |l,vs,0,_=>by simp[A3]
 |[],vs,n+1,h=>by simp only[A3] at h;subst h;simp[A3]
 |c::l,vs,n+1,h=>by
  simp only[A3] at h;obtain⟨v,r,e,a,b⟩:=h;subst e;simp only[List.take_succ_cons,A3];exact⟨v,r.take n,rfl,a,A3.take n b⟩
end Go.Cn
