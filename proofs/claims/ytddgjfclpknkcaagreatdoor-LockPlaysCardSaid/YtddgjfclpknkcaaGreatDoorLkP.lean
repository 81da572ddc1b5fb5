import Derived.Test.YtddgjfclpknkcaaGreatDoorLkK
import Derived.Test.YtddgjfclpknkcaaGreatDoorCnXa
set_option linter.unusedVariables false
set_option linter.unusedSimpArgs false
namespace Go.Proofs.YtddgjfclpknkcaaGreatDoor.Wk
open Go Go.Cn
abbrev Tx:=TX
abbrev Sl:=TL
abbrev Ky:=A8 Int
def C0(p:Ps)(k:Ky):List Tx:=(p.filter λe=>decide (e.1.o7=k)).map (·.1.m9)
def drop(p:Ps)(x:Tx):Ps:=p.filter λe=>!decide (e.1.m9=x)
def a1e(p:Ps)(x:Tx):Ps:=p.filter λe=>!(decide (e.1.m9=x)&&e.2==1)
def md(p:Ps)(s:Sl):Int:=(f9 p s).getD 0
theorem at0(p:Ps)(k:Ky):∀(fuel:Nat) (l:List Tx) (rest:Ps),rest.length<fuel->l.length+rest.length<=1000000->a2l p k fuel l rest=some (j7.of (l++C0 rest k))
 |0,l,rest,h,_=>by omega
 |fuel+1,l,rest,h,hz=>by
  rw[a2l];by_cases hr:rest=[]
  ·subst hr;rw[if_pos (show([]:Ps).isEmpty=true from rfl)];simp[C0]
  ·rw[if_neg (by cases rest<;>simp at hr⊢)]
   refine a8p hr λi a hi=>?_;have hpr:=a43 hi;have hlen:=hpr.length_eq;simp only[List.length_cons] at hlen;have hat:(C0 rest k).Perm (C0 (a::rest.eraseIdx i) k):=(hpr.filter _).map _;by_cases ha:a.1.o7=k
   ·rw[if_pos (by simpa using ha),if_pos (by simp only[List.length_cons,List.length_nil];omega),at0 p k fuel _ _ (by omega) (by simp only[List.length_append,List.length_cons,List.length_nil];omega)]
    congr 1;refine j7.sound ?_;have e:C0 (a::rest.eraseIdx i) k=a.1.m9::C0 (rest.eraseIdx i) k:=by simp[C0,List.filter_cons,ha]
    rw[e] at hat;rw[List.append_assoc];exact List.Perm.append_left l hat.symm
   ·rw[if_neg (by simpa using ha),at0 p k fuel _ _ (by omega) (by omega)]
    congr 1;refine j7.sound ?_;have e:C0 (a::rest.eraseIdx i) k=C0 (rest.eraseIdx i) k:=by simp[C0,List.filter_cons,ha]
    rw[e] at hat;exact List.Perm.append_left l hat.symm
theorem a6A(p:Ps)(k:Ky)(hz:p.length<=1000000):a1j p k=some (j7.of (C0 p k)):=by
 have:=at0 p k big [] p (F0 (by omega)) (by simpa using hz);simpa[a1j] using this
theorem a7i{m:Ps}(hu:Uk m)(k:Sl):B1 m k=m.filter λe=>!decide (e.1=k):=by
 induction m with
 |nil=>rfl
 |cons e r ih=>
  have hu' :Uk r:=(List.nodup_cons.1 hu).2;have hn:e.1∉r.map (·.1):=(List.nodup_cons.1 hu).1;rw[B1];by_cases h:k=e.1
  ·rw[if_pos h,List.filter_cons,if_neg (by simp[h])]
   rw[List.filter_eq_self.2];intro x hx;have:x.1≠k:=λh2=>hn (List.mem_map.2 ⟨x,hx,by rw[h2,h]⟩);simp[this]
  ·rw[if_neg h,List.filter_cons,if_pos (by simp only[Bool.not_eq_true',decide_eq_false_iff_not];exact λh2=>h h2.symm),ih hu']
theorem b0C{m m' :Ps}(h:m.Perm m')(hu:Uk m):Uk m' :=(h.map _).nodup_iff.1 hu
theorem b0B{m:Ps}(hu:Uk m)(f:Sl×Int->Bool):Uk (m.filter f):=((List.filter_sublist.map _).nodup hu)
theorem b85{m:Ps}(hu:Uk m){a b:Sl×Int}(ha:a∈m)(hb:b∈m)(h:a.1=b.1):a=b:=by
 have h1:=Y1 hu (k:=a.1) (v:=a.2) ha;have h2:=Y1 hu (k:=b.1) (v:=b.2) hb;rw[h] at h1;rw[h1] at h2;exact Prod.ext h (Option.some.inj h2)
theorem a8z(P:Sl×Int->Bool)(f:Nat->Ps->Ps->Option Ps)(hs:∀fuel m2 rest,f (fuel+1) m2 rest=if List.isEmpty rest then some m2 else a0B rest λa rs=>if P a then if f9 rs a.1=none then f fuel (B1 m2 a.1) rs else none else f fuel m2 rs):
  ∀(fuel:Nat) (m2 rest:Ps),rest.length<fuel->Uk m2->Uk rest->f fuel m2 rest=some (m2.filter λe=>!(rest.any λa=>decide (a.1=e.1)&&P a))
 |0,m2,rest,h,_,_=>by omega
 |fuel+1,m2,rest,h,hm,hu=>by
  rw[hs];by_cases hr:rest=[]
  ·subst hr;rw[if_pos (show([]:Ps).isEmpty=true from rfl)];simp only[List.any_nil,Bool.not_false];rw[List.filter_eq_self.2 (λ_ _=>rfl)]
  ·rw[if_neg (by cases rest<;>simp at hr⊢)]
   refine a8p hr λi a hi=>?_;have hpr:=a43 hi;have hlen:=hpr.length_eq;simp only[List.length_cons] at hlen;have hu2:Uk (a::rest.eraseIdx i):=b0C hpr hu;have hn:a.1∉(rest.eraseIdx i).map (·.1):=(List.nodup_cons.1 hu2).1;have he:∀e:Sl×Int,(rest.any λb=>decide (b.1=e.1)&&P b)=((a::rest.eraseIdx i).any λb=>decide (b.1=e.1)&&P b):=λe=>by
    rw[Bool.eq_iff_iff,List.any_eq_true,List.any_eq_true];constructor
    ·rintro⟨e,h1,h2⟩;exact⟨e,hpr.mem_iff.1 h1,h2⟩
    ·rintro⟨e,h1,h2⟩;exact⟨e,hpr.mem_iff.2 h1,h2⟩
   simp only[he,List.any_cons];by_cases ha:P a=true
   ·have hg:f9 (rest.eraseIdx i) a.1=none:=by
     cases hg:f9 (rest.eraseIdx i) a.1 with
     |none=>rfl
     |some v=>exact absurd (List.mem_map.2 ⟨_,K6 hg,rfl⟩) hn
    rw[if_pos ha,if_pos hg,a8z P f hs fuel _ _ (by omega) (a7j hm _) (List.nodup_cons.1 hu2).2,a7i hm,List.filter_filter];congr 1;refine List.filter_congr λe _=>?_;by_cases h2:a.1=e.1
    ·simp[ha,h2]
    ·have h3:¬e.1=a.1:=λh3=>h2 h3.symm
     simp only[h2,h3,decide_false,Bool.false_and,Bool.false_or,Bool.not_false,Bool.and_true]
   ·rw[if_neg ha,a8z P f hs fuel _ _ (by omega) hm (List.nodup_cons.1 hu2).2]
    congr 1;refine List.filter_congr λe _=>?_;simp only[Bool.not_eq_true] at ha;simp[ha]
theorem b4O{P:Sl×Int->Bool}{p:Ps}(hu:Uk p):(p.filter λe=>!(p.any λa=>decide (a.1=e.1)&&P a))=p.filter λe=>!P e:=by
 refine List.filter_congr λe he=>?_;congr 1;rw[Bool.eq_iff_iff,List.any_eq_true];constructor
 ·rintro⟨a,h1,h2⟩
  simp only[Bool.and_eq_true,decide_eq_true_eq] at h2;rw[<-b85 hu h1 he h2.1];exact h2.2
 ·intro h;exact⟨e,he,by simp[h]⟩
theorem b45(p:Ps)(x:Tx)(hu:Uk p)(hz:p.length<=1000000):a5c p x=some (drop p x):=by
 have h:=a8z (λe=>decide (e.1.m9=x)) (a2v p x) (λfuel m2 rest=>by
  rw[a2v];congr 1;congr 1;funext a rs;simp only[a8U,a7e,Option.bind_some];by_cases h:a.1.m9=x<;>simp[h]) big p p (F0 (by omega)) hu hu
 rw[a5c,mDF,h,Option.bind_some,b4O hu,drop]
theorem b5N(us:Us)(hd wt:Ps)(x:Tx)(hh:Uk hd)(hw:Uk wt)(zh:hd.length<=1000000)(zw:wt.length<=1000000):a5q us hd wt x=some (B1 us x,drop hd x,drop wt x):=by
 rw[a5q,b45 hd x hh zh,Option.bind_some,b45 wt x hw zw,Option.bind_some]
def O6(a b:Int):Bool:=a==2||b==2
theorem b0Y(a b:Int):a2r a b=some (O6 a b):=by
 rw[a2r,O6];by_cases h:a=2<;>simp[h]
def p_(hd wt:Ps)(s:Sl)(x:Tx):Bool:=!decide (x=s.m9)&&O6 (md wt s) (md hd ⟨x,s.o7⟩)
def S9(us:Us)(wt:Ps)(s:Sl)(x:Tx):Bool:=!decide (x=s.m9)&&decide (H9 us x s.m9<0)&&O6 (md wt s) (md wt ⟨x,s.o7⟩)
def I7(us:Us)(hd wt:Ps)(s:Sl):Bool:=!(C0 hd s.o7).any (p_ hd wt s)&&!(C0 wt s.o7).any (S9 us wt s)
theorem a41{α:Type}(l:List α)(P:α->Bool)(k:Nat)(d:α)(h:k<l.length):(l.drop k).any P=(P (l.getD k d)||(l.drop (k+1)).any P):=by rw[O8 l k d h,List.any_cons]
theorem b5G{us:Us}{hd wt:Ps}{s:Sl}(hs:(f9 us s.m9).isSome=true)(l:List Tx)(hl:∀x∈l,(f9 us x).isSome=true)(hz:l.length<=1000000)(q:j7 Tx)(hq:j7.of l=q):∀(fuel k:Nat),l.length - k<fuel->k<=l.length->
  a1l us hd wt s q l fuel k=some (!(l.drop k).any (S9 us wt s))
 |0,k,h,_=>by omega
 |fuel+1,k,h,hk=>by
  have hql:q.length=l.length:=by rw[<-hq];rfl
  rw[a1l,hql];by_cases hlt:k<l.length
  ·have hm:l.getD k default∈l:=by rw[List.getD_eq_getElem?_getD,List.getElem?_eq_getElem hlt];exact List.getElem_mem hlt
   rw[if_pos (dT (by omega)),if_pos (by omega),Int.toNat_natCast,u0 (by omega) (by omega),a41 l _ k default hlt];have ih:=b5G (hd:=hd) (wt:=wt) hs l hl hz q hq fuel (k+1) (by omega) (by omega);rw[show(((k:Nat):Int)+1)=((k+1:Nat):Int) by omega,ih];generalize l.getD k default=x at hm⊢;simp only[b0N (hl x hm) hs,b0Y,Option.bind_some,S9,md];by_cases h1:x=s.m9
   ·simp[h1]
   ·by_cases h2:H9 us x s.m9<0
    ·by_cases h3:O6 ((f9 wt s).getD 0) ((f9 wt ⟨x,s.o7⟩).getD 0)=true
     ·simp[h1,h2,h3]
     ·simp[h1,h2,h3]
    ·simp[h1,h2]
  ·rw[if_neg (dF (by omega))]
   have:k=l.length:=by omega
   subst this;simp
theorem a8q{α:Type}{l m:List α}(h:l.Perm m)(P:α->Bool):l.any P=m.any P:=by
 rw[Bool.eq_iff_iff,List.any_eq_true,List.any_eq_true];constructor
 ·rintro⟨e,h1,h2⟩;exact⟨e,h.mem_iff.1 h1,h2⟩
 ·rintro⟨e,h1,h2⟩;exact⟨e,h.mem_iff.2 h1,h2⟩
theorem a8t(p:Ps)(k:Ky):(C0 p k).length<=p.length:=by
 rw[C0,List.length_map];exact List.length_filter_le _ _
theorem P6{p:Ps}{k:Ky}{x:Tx}:x∈C0 p k↔∃m,(⟨⟨x,k⟩,m⟩:Sl×Int)∈p:=by
 simp only[C0,List.mem_map,List.mem_filter,decide_eq_true_eq];constructor
 ·rintro⟨⟨⟨t,k'⟩,m⟩,⟨h1,h2⟩,h3⟩
  simp only at h2 h3;subst h2 h3;exact⟨m,h1⟩
 ·rintro⟨m,h⟩
  exact⟨_,⟨h,rfl⟩,rfl⟩
theorem b5F{us:Us}{hd wt:Ps}{s:Sl}(hs:(f9 us s.m9).isSome=true)(hw:∀e∈wt,(f9 us e.1.m9).isSome=true)(zw:wt.length<=1000000)(l:List Tx)(hz:l.length<=1000000)(q:j7 Tx)(hq:j7.of l=q):∀(fuel k:Nat),l.length - k<fuel->k<=l.length->
  a2n us hd wt s q l fuel k=some (!(l.drop k).any (p_ hd wt s)&&!(C0 wt s.o7).any (S9 us wt s))
 |0,k,h,_=>by omega
 |fuel+1,k,h,hk=>by
  have hql:q.length=l.length:=by rw[<-hq];rfl
  rw[a2n,hql];by_cases hlt:k<l.length
  ·rw[if_pos (dT (by omega)),if_pos (by omega),Int.toNat_natCast,u0 (by omega) (by omega),a41 l _ k default hlt]
   have ih:=b5F (hd:=hd) (wt:=wt) hs hw zw l hz q hq fuel (k+1) (by omega) (by omega);rw[show(((k:Nat):Int)+1)=((k+1:Nat):Int) by omega,ih];generalize l.getD k default=x;simp only[b0Y,Option.bind_some,p_,md];by_cases h1:x=s.m9
   ·simp[h1]
   ·by_cases h3:O6 ((f9 wt s).getD 0) ((f9 hd ⟨x,s.o7⟩).getD 0)=true
    ·simp[h1,h3]
    ·simp[h1,h3]
  ·rw[if_neg (dF (by omega))]
   have:k=l.length:=by omega
   subst this;rw[a6A wt s.o7 zw,Option.bind_some,a88];rw[a3s (r:=!(C0 wt s.o7).any (S9 us wt s)) (λl' hl' =>?_)]
   ·simp
   ·have hp:=j7.exact hl'
    rw[show(0:Int)=((0:Nat):Int) from rfl,b5G hs l' (λx hx=>by
     obtain⟨m,hm⟩:=P6.1 (hp.mem_iff.1 hx);exact hw _ hm) (by rw[hp.length_eq];exact Nat.le_trans (a8t _ _) zw) _ hl' big 0 (F0 (by have:=hp.length_eq;have:=a8t wt s.o7;omega)) (by omega)]
    rw[List.drop_zero,a8q hp]
theorem c1t{us:Us}{hd wt:Ps}{s:Sl}(hs:(f9 us s.m9).isSome=true)(hw:∀e∈wt,(f9 us e.1.m9).isSome=true)(zh:hd.length<=1000000)(zw:wt.length<=1000000):a7b us hd wt s=some (I7 us hd wt s):=by
 rw[a7b,a6A hd s.o7 zh,Option.bind_some,a87];refine a3s λl hl=>?_;have hp:=j7.exact hl;have hlen:=hp.length_eq;have:=a8t hd s.o7;rw[show(0:Int)=((0:Nat):Int) from rfl,b5F hs hw zw l (by omega) _ hl big 0 (F0 (by omega)) (by omega),List.drop_zero,a8q hp];rfl
end Go.Proofs.YtddgjfclpknkcaaGreatDoor.Wk
set_option linter.unusedVariables false
set_option linter.unusedSimpArgs false
set_option linter.unusedSectionVars false
namespace Go.Proofs.YtddgjfclpknkcaaGreatDoor.Wk
open Go Go.Cn
theorem b9r{us:Us}{xk a b:Tx}{u:TU}(hk:f9 us xk=some u)(ha:(f9 us a).isSome=true)(hb:(f9 us b).isSome=true)(hd wt:Ps):a69 us xk u hd wt a b=some (H9 us a b):=by
 obtain⟨v,hv⟩:=Option.isSome_iff_exists.1 ha;obtain⟨w,hw⟩:=Option.isSome_iff_exists.1 hb;rw[a69];by_cases h:a=xk
 ·subst h
  rw[hk] at hv;cases hv;rw[if_pos (by simp),if_pos (by simp[hk])];by_cases h2:b=a
  ·subst h2
   rw[if_pos (by simp),a4M];simp[H9,ka,so,hk]
  ·rw[if_neg (by simpa using h2),if_pos (by simp[hw]),hw,Option.bind_some,a4M]
   simp[H9,ka,so,hk,hw]
 ·rw[if_neg (by simpa using h),if_pos (by simp[hv]),hv,Option.bind_some]
  by_cases h2:b=a
  ·subst h2
   rw[if_pos (by simp),a4M];simp[H9,ka,so,hv]
  ·rw[if_neg (by simpa using h2)]
   by_cases h3:b=xk
   ·subst h3
    rw[if_pos (by simp),if_pos (by simp[hk]),a4M];simp[H9,ka,so,hk,hv]
   ·rw[if_neg (by simpa using h3),if_pos (by simp[hw]),hw,Option.bind_some,a4M]
    simp[H9,ka,so,hw,hv]
structure Ok(us:Us)(hd wt:Ps)(n:Nat):Prop where
 uu:Uk us
 uh:Uk hd
 uw:Uk wt
 hu:∀e∈hd,(f9 us e.1.m9).isSome=true
 wu:∀e∈wt,(f9 us e.1.m9).isSome=true
 su:∀e∈us,e.2.B7.b7=e.1
 nu:us.length<=64
 nw:wt.length<=n
 nh:hd.length+wt.length<=40 * n
 nn:n<=250
theorem Ok.inj{us:Us}{hd wt:Ps}{n:Nat}(h:Ok us hd wt n){x y:Tx}(hx:(f9 us x).isSome=true)(hy:(f9 us y).isSome=true)(e:ka us x=ka us y):x=y:=by
 obtain⟨u,hu⟩:=Option.isSome_iff_exists.1 hx;obtain⟨v,hv⟩:=Option.isSome_iff_exists.1 hy;have h1:=h.su _ (K6 hu);have h2:=h.su _ (K6 hv);simp only[ka,so,hu,hv,Option.getD_some,kS,List.cons.injEq] at e;dsimp only at h1 h2;rw[h1,h2] at e;obtain⟨a,b,c⟩:=x;obtain⟨a',b',c'⟩:=y;simp only[F4,List.cons.injEq,and_true] at e;obtain⟨_,e1,e2,e3⟩:=e;subst e1 e2 e3;rfl
theorem c1x{a b:Ky}(h:k8 a=k8 b):a=b:=by
 cases a;cases b;simp only[k8,List.cons.injEq,and_true] at h;obtain⟨h0,h1,h2,h3,h4,h5,h6,h7⟩:=h;subst h0 h1 h2 h3 h4 h5 h6 h7;rfl
theorem Ok.inj2{us:Us}{hd wt:Ps}{n:Nat}(h:Ok us hd wt n){s t:Sl}(hx:(f9 us s.m9).isSome=true)(hy:(f9 us t.m9).isSome=true)(e:ko us s=ko us t):s=t:=by
 obtain⟨e1,e2⟩:=List.append_inj e rfl;have h1:=c1x e1;have h2:=h.inj hx hy e2;cases s;cases t;simp only at h1 h2;subst h1 h2;rfl
theorem U3{p:Ps}{x:Tx}{e:Sl×Int}:e∈drop p x↔e∈p/\e.1.m9≠x:=by simp[drop,List.mem_filter]
theorem b1a(p:Ps)(x:Tx):(drop p x).length<=p.length:=List.length_filter_le _ _
def S2(st:Us×Ps×Ps)(x:Tx):Us×Ps×Ps:=(B1 st.1 x,drop st.2.1 x,drop st.2.2 x)
theorem Ok.gone{us:Us}{hd wt:Ps}{n:Nat}(h:Ok us hd wt n)(x:Tx):Ok (B1 us x) (drop hd x) (drop wt x) n:=by
 have hm:∀y,y≠x->f9 (B1 us x) y=f9 us y:=λy hy=>by rw[a5y h.uu,if_neg hy]
 refine⟨a7j h.uu x,b0B h.uh _,b0B h.uw _,λe he=>?_,λe he=>?_,λe he=>h.su e ((a5z us x).subset he),Nat.le_trans (a5z us x).length_le h.nu,Nat.le_trans (b1a _ _) h.nw,?_,h.nn⟩
 ·obtain⟨h1,h2⟩:=U3.1 he
  rw[hm _ h2];exact h.hu e h1
 ·obtain⟨h1,h2⟩:=U3.1 he
  rw[hm _ h2];exact h.wu e h1
 ·have:=b1a hd x;have:=b1a wt x;have:=h.nh;omega
theorem Ok.fold{n:Nat}:∀(l:List Tx) {st:Us×Ps×Ps},Ok st.1 st.2.1 st.2.2 n->Ok (l.foldl S2 st).1 (l.foldl S2 st).2.1 (l.foldl S2 st).2.2 n
 |[],_,h=>h
 |x::l,_,h=>Ok.fold l (h.gone x)
def prep(us:Us)(x:Tx):Bool:=((f9 us x).getD default).a07
def hit(us:Us)(hd wt:Ps)(s:Sl)(x:Tx):Bool:=!decide (x=s.m9)&&(!prep us x&&(decide (H9 us s.m9 x<0)&&O6 (md wt s) (md hd ⟨x,s.o7⟩)))
def O2(us:Us)(hd wt:Ps)(s:Sl):List Tx:=P2 (ka us) ((C0 hd s.o7).filter (hit us hd wt s))
theorem b9k(us0:Us)(hd0 wt0:Ps)(s:Sl)(l y:List Tx)(hl:l.length=y.length)(hy:y.length<=1000000){n:Nat}:∀(fuel k:Nat) (st:Us×Ps×Ps),y.length - k<fuel->k<=y.length->Ok st.1 st.2.1 st.2.2 n->
  a3Z us0 hd0 wt0 s l y fuel k st.1 st.2.1 st.2.2=some (y,(y.drop k).foldl S2 st)
 |0,k,_,h,_,_=>by omega
 |fuel+1,k,st,h,hk,hok=>by
  rw[a3Z,hl];by_cases hlt:k<y.length
  ·have zh:=hok.nh;have zn:=hok.nn
   rw[if_pos (dT (by omega)),if_pos (by omega),Int.toNat_natCast,b5N _ _ _ _ hok.uh hok.uw (by omega) (by omega),Option.bind_some,u0 (by omega) (by omega),O8 y k default hlt,List.foldl_cons];exact b9k us0 hd0 wt0 s l y hl hy fuel (k+1) (S2 st (y.getD k default)) (by omega) (by omega) (hok.gone _)
  ·rw[if_neg (dF (by omega))]
   have:k=y.length:=by omega
   subst this;rw[List.drop_length];rfl
theorem b8O{us:Us}{hd wt:Ps}{n:Nat}(hok:Ok us hd wt n){l m:List Tx}(hp:l.Perm m)(hu:∀x∈l,(f9 us x).isSome=true):P2 (ka us) l=P2 (ka us) m:=
 a8f (ka us) (λ_ _=>rfl) ((R8 _ l).trans (hp.trans (R8 _ m).symm)) (λx hx y hy e=>hok.inj (hu x ((R8 _ l).mem_iff.1 hx)) (hu y ((R8 _ l).mem_iff.1 hy)) e) (a1S _ (λ_ _=>rfl) l) (a1S _ (λ_ _=>rfl) m)
theorem G_{α:Type}(κ:α->List Int)(l:List α):(P2 κ l).length=l.length:=(R8 κ l).length_eq
theorem b4c{us:Us}{hd wt:Ps}{s:Sl}{n:Nat}(hok:Ok us hd wt n)(hs:(f9 us s.m9).isSome=true)(q:j7 Tx)(lC:List Tx)(hq:j7.of lC=q)(hz:lC.length<256)(hl:∀x∈lC,(f9 us x).isSome=true)(L0:List Tx)(hL0:∀x∈L0,(f9 us x).isSome=true):∀(fuel k:Nat) (l:List Tx),lC.length - k<fuel->k<=lC.length->l.length<=k->(l++(lC.drop k).filter (hit us hd wt s)).Perm L0->
  a0h us hd wt s q lC fuel k l=some (P2 (ka us) L0,(P2 (ka us) L0).foldl S2 (us,hd,wt))
 |0,k,_,h,_,_,_=>by omega
 |fuel+1,k,l,h,hk,hlk,hp=>by
  have hql:q.length=lC.length:=by rw[<-hq];rfl
  rw[a0h,hql];by_cases hlt:k<lC.length
  ·have hm:lC.getD k default∈lC:=by rw[List.getD_eq_getElem?_getD,List.getElem?_eq_getElem hlt];exact List.getElem_mem hlt
   rw[if_pos (dT (by omega)),if_pos (by omega),Int.toNat_natCast,u0 (by omega) (by omega)];rw[O8 lC k default hlt] at hp;have no:=λhp' =>b4c hok hs q lC hq hz hl L0 hL0 fuel (k+1) l (by omega) (by omega) (by omega) hp';have yes:=λx hp' =>b4c hok hs q lC hq hz hl L0 hL0 fuel (k+1) (l++[x]) (by omega) (by omega) (by simp;omega) hp';rw[show(((k:Nat):Int)+1)=((k+1:Nat):Int) by omega];generalize lC.getD k default=x at hm hp⊢;have hx:=hl x hm;obtain⟨u,hu⟩:=Option.isSome_iff_exists.1 hx;have e11:([x]:List TX).length=1:=rfl;have dz:(default:Int)=0:=rfl;simp only[dz,hu,Option.isSome_some,if_true,Option.bind_some,b9r hu hs hx,b0Y];by_cases h1:x=s.m9
   ·rw[if_neg (by simp[h1])]
    rw[List.filter_cons,if_neg (by simp[hit,h1])] at hp;exact no hp
   ·rw[if_pos (by simp[h1])]
    cases h2:u.a07 with
    |true=>
     rw[if_neg (by simp)];rw[List.filter_cons,if_neg (by simp[hit,prep,hu,h2])] at hp;exact no hp
    |false=>
     rw[if_pos (by simp)];by_cases h3:H9 us s.m9 x<0
     ·rw[if_pos (by simpa using h3)]
      by_cases h4:O6 ((f9 wt s).getD 0) ((f9 hd ⟨x,s.o7⟩).getD 0)=true
      ·rw[List.filter_cons,if_pos (by simp only[hit,prep,hu,h1,h2,h3,md,h4,Option.getD_some];rfl)] at hp
       have hc:=yes x (by rw[List.append_assoc];exact hp);simp only[e11];rw[if_pos h4,if_pos (by omega)];exact hc
      ·rw[List.filter_cons,if_neg (by simp only[hit,md,h4];simp)] at hp
       rw[if_neg h4];exact no hp
     ·rw[if_neg (by simpa using h3)]
      rw[List.filter_cons,if_neg (by simp[hit,h3])] at hp;exact no hp
  ·rw[if_neg (dF (by omega))]
   have:k=lC.length:=by omega
   subst this;rw[List.drop_length,List.filter_nil,List.append_nil] at hp;have hu:∀x∈l,(f9 us x).isSome=true:=λx hx=>hL0 x (hp.mem_iff.1 hx);rw[b8G (by omega) hu (λx hx y hy e=>hok.inj (hu x hx) (hu y hy) e),Option.bind_some,if_pos (G_ _ _).symm,b8O hok hp hu];have hll:=hp.length_eq;have:=b9k us hd wt s l (P2 (ka us) L0) (by rw[G_];exact hll) (by rw[G_];omega) big 0 (us,hd,wt) (F0 (by rw[G_];omega)) (by omega) hok;rw[List.drop_zero] at this;exact this
theorem c7u{us:Us}{hd wt:Ps}{s:Sl}{n:Nat}(hok:Ok us hd wt n)(hs:(f9 us s.m9).isSome=true)(h256:(C0 hd s.o7).length<256):
  a3Y us hd wt s=some (O2 us hd wt s,(O2 us hd wt s).foldl S2 (us,hd,wt)):=by
 have zh:=hok.nh;have zn:=hok.nn;have hmem:∀x∈C0 hd s.o7,(f9 us x).isSome=true:=λx hx=>by
  obtain⟨m,hm⟩:=P6.1 hx;exact hok.hu _ hm
 rw[a3Y,a6A hd s.o7 (by omega),Option.bind_some,a9a];refine a3s λl hl=>?_;have hp:=j7.exact hl;have hlen:=hp.length_eq;exact b4c hok hs _ l hl (by omega) (λx hx=>hmem x (hp.mem_iff.1 hx)) ((C0 hd s.o7).filter (hit us hd wt s)) (λx hx=>hmem x ((List.mem_filter.1 hx).1)) big 0 [] (F0 (by omega)) (by omega) (by simp) (by simpa using hp.filter _)
def mx(a b:Int):Int:=if a>b then a else b
def M3(us:Us)(st:List TG×Ps×Ps)(s:Sl):List TG×Ps×Ps:=
 if I7 us st.2.1 st.2.2 s then(st.1++[TG.mk s.m9 s.o7 (mx (md st.2.1 s) (md st.2.2 s))],p7 st.2.1 s (mx (md st.2.1 s) (md st.2.2 s)),B1 st.2.2 s) else st
def Y3(us:Us)(hd wt:Ps):List TG×Ps×Ps:=(P2 (ko us) (wt.map (·.1))).foldl (M3 us) ([],hd,wt)
section
variable {α β:Type}[DecidableEq α]
theorem a1r(m:List (α×β))(k:α)(v:β):(p7 m k v).length<=m.length+1:=by
 induction m with
 |nil=>simp[p7]
 |cons e r ih=>rw[p7];split<;>simp only[List.length_cons]<;>omega
theorem a9p{m:List (α×β)}{k:α}(v:β)(h:(f9 m k).isSome=true):(p7 m k v).length=m.length:=by
 induction m with
 |nil=>simp[f9] at h
 |cons e r ih=>
  rw[p7];split
  ·rfl
  ·rename_i hne
   rw[f9,if_neg hne] at h;simp only[List.length_cons,ih h]
theorem b2K{m:List (α×β)}{k:α}(v:β)(h:f9 m k=none):p7 m k v=m++[(k,v)]:=by
 induction m with
 |nil=>rfl
 |cons e r ih=>
  rw[f9] at h;split at h
  ·cases h
  ·rename_i hne
   rw[p7,if_neg hne,ih h];rfl
theorem a0k{m:List (α×β)}{k:α}{v:β}{e:α×β}(h:e∈p7 m k v):e=(k,v)\/e∈m:=by
 induction m with
 |nil=>simp[p7] at h;exact Or.inl h
 |cons a r ih=>
  rw[p7] at h;split at h
  ·rcases List.mem_cons.1 h with h|h
   ·exact Or.inl h
   ·exact Or.inr (List.mem_cons_of_mem _ h)
  ·rcases List.mem_cons.1 h with h|h
   ·exact Or.inr (by rw[h];exact List.mem_cons_self)
   ·rcases ih h with h|h
    ·exact Or.inl h
    ·exact Or.inr (List.mem_cons_of_mem _ h)
theorem c2X{m:List (α×β)}{k:α}(h:k∈m.map (·.1)):(B1 m k).length+1=m.length:=by
 induction m with
 |nil=>simp at h
 |cons e r ih=>
  rw[B1];split
  ·rfl
  ·rename_i hne
   have:k∈r.map (·.1):=by
    rcases List.mem_cons.1 h with h|h
    ·exact absurd h hne
    ·exact h
   simp only[List.length_cons,ih this]
theorem c2Z{m:List (α×β)}{k:α}(h:(f9 m k).isSome=true):k∈m.map (·.1):=by
 obtain⟨v,hv⟩:=Option.isSome_iff_exists.1 h;exact List.mem_map.2 ⟨_,K6 hv,rfl⟩
end
theorem b8S{α:Type}[DecidableEq α]:∀{l m:List α},l.Nodup->(∀x∈l,x∈m)->l.length<=m.length
 |[],m,_,_=>Nat.zero_le _
 |a::l,m,hn,h=>by
  rw[List.nodup_cons] at hn;have ha:=h a List.mem_cons_self;have:=b8S (l:=l) (m:=m.erase a) hn.2 (λx hx=>(List.mem_erase_of_ne (by rintro rfl;exact hn.1 hx)).2 (h x (List.mem_cons_of_mem _ hx)));rw[List.length_erase_of_mem ha] at this;have hp:0<m.length:=List.length_pos_of_mem ha;simp only[List.length_cons];omega
theorem b4p{p:Ps}(hu:Uk p)(k:Ky):(C0 p k).Nodup:=by
 induction p with
 |nil=>exact List.nodup_nil
 |cons e r ih=>
  obtain⟨h1,h2⟩:=List.nodup_cons.1 hu;rw[C0,List.filter_cons];split
  ·rename_i hk
   rw[List.map_cons];refine List.nodup_cons.2 ⟨λhm=>h1 ?_,ih h2⟩;obtain⟨m,hm⟩:=P6.1 hm;refine List.mem_map.2 ⟨_,hm,?_⟩;simp only[decide_eq_true_eq] at hk;rw[<-hk]
  ·exact ih h2
theorem Ok.at64{us:Us}{hd wt:Ps}{n:Nat}(h:Ok us hd wt n)(k:Ky):(C0 hd k).length<=64:=by
 have:=b8S (m:=us.map (·.1)) (b4p h.uh k) (λx hx=>by
  obtain⟨m,hm⟩:=P6.1 hx;exact c2Z (h.hu _ hm))
 rw[List.length_map] at this;have:=h.nu;omega
theorem Ok.grant{us:Us}{hd wt:Ps}{n:Nat}(h:Ok us hd wt n){s:Sl}(hs:s∈wt.map (·.1))(v:Int):Ok us (p7 hd s v) (B1 wt s) n:=by
 obtain⟨e,he,hes⟩:=List.mem_map.1 hs;have hsu:(f9 us s.m9).isSome=true:=by rw[<-hes];exact h.wu e he
 refine⟨h.uu,a5C h.uh s v,a7j h.uw s,λe he=>?_,λe he=>h.wu e ((a5z wt s).subset he),h.su,h.nu,Nat.le_trans (a5z wt s).length_le h.nw,?_,h.nn⟩
 ·rcases a0k he with h1|h1
  ·rw[h1];exact hsu
  ·exact h.hu e h1
 ·have:=a1r hd s v;have:=c2X hs;have:=h.nh;omega
theorem a9n{m:Ps}(hu:Uk m){k t:Sl}(hne:t≠k)(h:t∈m.map (·.1)):t∈(B1 m k).map (·.1):=by
 rw[a7i hu];obtain⟨e,he,hes⟩:=List.mem_map.1 h;exact List.mem_map.2 ⟨e,List.mem_filter.2 ⟨he,by simp[hes,hne]⟩,hes⟩
theorem Ok.onFold{us:Us}{n:Nat}:∀(y:List Sl) (st:List TG×Ps×Ps),y.Nodup->(∀s∈y,s∈st.2.2.map (·.1))->Ok us st.2.1 st.2.2 n->Ok us (y.foldl (M3 us) st).2.1 (y.foldl (M3 us) st).2.2 n
 |[],_,_,_,h=>h
 |s::y,st,hn,hy,h=>by
  rw[List.foldl_cons];obtain⟨hn1,hn2⟩:=List.nodup_cons.1 hn;have hs:=hy s List.mem_cons_self;unfold M3;split
  ·exact Ok.onFold y _ hn2 (λt ht=>a9n h.uw (λe=>hn1 (e▸ht)) (hy t (List.mem_cons_of_mem _ ht))) (h.grant hs _)
  ·exact Ok.onFold y _ hn2 (λt ht=>hy t (List.mem_cons_of_mem _ ht)) h
theorem on0{us:Us}(hd0 wt0:Ps)(y:List Sl)(hyz:y.length<=1000){n:Nat}:∀(fuel k:Nat) (st:List TG×Ps×Ps),y.length - k<fuel->k<=y.length->st.1.length<=k->(y.drop k).Nodup->(∀s∈y.drop k,s∈st.2.2.map (·.1))->Ok us st.2.1 st.2.2 n->
  a2o us hd0 wt0 y fuel k st.2.1 st.2.2 st.1=some ((y.drop k).foldl (M3 us) st)
 |0,k,_,h,_,_,_,_,_=>by omega
 |fuel+1,k,st,h,hk,hlk,hn,hy,hok=>by
  rw[a2o];have zh:=hok.nh;have zn:=hok.nn;by_cases hlt:k<y.length
  ·rw[if_pos (dT (by omega)),if_pos (by omega),Int.toNat_natCast,u0 (by omega) (by omega)]
   rw[O8 y k default hlt] at hn hy⊢;have ih:=λst' a b c d e f=>on0 (us:=us) (n:=n) hd0 wt0 y hyz fuel (k+1) st' a b c d e f;rw[show(((k:Nat):Int)+1)=((k+1:Nat):Int) by omega,List.foldl_cons];generalize y.getD k default=s at hn hy⊢;obtain⟨hn1,hn2⟩:=List.nodup_cons.1 hn;have hs:=hy s List.mem_cons_self;obtain⟨e,he,hes⟩:=List.mem_map.1 hs;have hsu:(f9 us s.m9).isSome=true:=by rw[<-hes];exact hok.wu e he
   rw[c1t hsu hok.wu (by omega) (by omega),Option.bind_some];by_cases hf:I7 us st.2.1 st.2.2 s=true
   ·rw[if_neg (by simp[hf])]
    have e1:M3 us st s=(st.1++[TG.mk s.m9 s.o7 (mx (md st.2.1 s) (md st.2.2 s))],p7 st.2.1 s (mx (md st.2.1 s) (md st.2.2 s)),B1 st.2.2 s):=by rw[M3,if_pos hf]
    rw[e1];have:=ih (st.1++[TG.mk s.m9 s.o7 (mx (md st.2.1 s) (md st.2.2 s))],p7 st.2.1 s (mx (md st.2.1 s) (md st.2.2 s)),B1 st.2.2 s) (by omega) (by omega) (by simp;omega) hn2 (λt ht=>a9n hok.uw (λe=>hn1 (e▸ht)) (hy t (List.mem_cons_of_mem _ ht))) (hok.grant hs _);simp only[Option.bind_some,List.length_cons,List.length_nil];rw[if_pos (by omega)];exact this
   ·rw[if_pos (by simpa using hf)]
    have e1:M3 us st s=st:=by rw[M3,if_neg hf]
    rw[e1];exact ih st (by omega) (by omega) (by omega) hn2 (λt ht=>hy t (List.mem_cons_of_mem _ ht)) hok
  ·rw[if_neg (dF (by omega))]
   have:k=y.length:=by omega
   subst this;rw[List.drop_length];rfl
theorem c7b{us:Us}{hd wt:Ps}{n:Nat}(hok:Ok us hd wt n){l m:List Sl}(hp:l.Perm m)(hu:∀x∈l,(f9 us x.m9).isSome=true):P2 (ko us) l=P2 (ko us) m:=
 a8f (ko us) (λ_ _=>rfl) ((R8 _ l).trans (hp.trans (R8 _ m).symm)) (λx hx y hy e=>hok.inj2 (hu x ((R8 _ l).mem_iff.1 hx)) (hu y ((R8 _ l).mem_iff.1 hy)) e) (a1S _ (λ_ _=>rfl) l) (a1S _ (λ_ _=>rfl) m)
theorem a9u(us:Us){wt:Ps}(hu:Uk wt):(P2 (ko us) (wt.map (·.1))).Nodup/\∀s∈P2 (ko us) (wt.map (·.1)),s∈wt.map (·.1):=
 ⟨(R8 _ _).nodup_iff.2 hu,λs hs=>(R8 _ _).mem_iff.1 hs⟩
theorem b2O{us:Us}{hd wt:Ps}{n:Nat}(hok:Ok us hd wt n):a1m us hd wt=some (Y3 us hd wt):=by
 have zh:=hok.nh;have zn:=hok.nn;have zw:=hok.nw;have hu:∀x∈wt.map (·.1),(f9 us x.m9).isSome=true:=λx hx=>by
  obtain⟨e,he,hes⟩:=List.mem_map.1 hx;rw[<-hes];exact hok.wu e he
 have h1:sFO wt us hd=some (P2 (ko us) (wt.map (·.1))):=by
  rw[sFO,if_pos (by unfold maxLen;omega),if_pos (by omega),a92];refine a3s λl hl=>?_;have hp:=j7.exact hl;have hlen:=hp.length_eq;rw[List.length_map] at hlen;have hul:∀x∈l,(f9 us x.m9).isSome=true:=λx hx=>hu x (hp.mem_iff.1 hx);rw[c65 (by omega) hul (λx hx y hy e=>hok.inj2 (hul x hx) (hul y hy) e),Option.bind_some,if_pos (G_ _ _).symm,c7b hok hp hul]
 rw[a1m,mKP,Option.bind_some,h1,Option.bind_some];obtain⟨k1,k2⟩:=a9u us hok.uw;have:=on0 hd wt (P2 (ko us) (wt.map (·.1))) (by rw[G_,List.length_map];omega) big 0 ([],hd,wt) (F0 (by rw[G_,List.length_map];omega)) (by omega) (by simp) (by rw[List.drop_zero];exact k1) (by rw[List.drop_zero];exact k2) hok;rw[List.drop_zero] at this;exact this
theorem Ok.on{us:Us}{hd wt:Ps}{n:Nat}(hok:Ok us hd wt n):Ok us (Y3 us hd wt).2.1 (Y3 us hd wt).2.2 n:=by
 obtain⟨k1,k2⟩:=a9u us hok.uw;exact Ok.onFold _ ([],hd,wt) k1 k2 hok
theorem a1p{p:Ps}(hu:Uk p){e:Sl×Int}(he:e∈p):md p e.1=e.2:=by rw[md,Y1 hu (k:=e.1) (v:=e.2) he];rfl
theorem a9k(p:Ps)(s:Sl):md p s=0\/(s,md p s)∈p:=by
 rw[md];cases h:f9 p s with
 |none=>exact Or.inl rfl
 |some v=>exact Or.inr (K6 h)
end Go.Proofs.YtddgjfclpknkcaaGreatDoor.Wk
