import Derived.Test.YtddgjfclpknkcaaGreatDoorLkP
set_option linter.unusedVariables false
set_option linter.unusedSimpArgs false
namespace Go.Proofs.YtddgjfclpknkcaaGreatDoor.Wk
open Go Go.Cn
theorem b80:∀(fuel:Nat) (s:List UInt8),s.length<fuel->s.length<=1000->∃t,a05 0 fuel s=some t
 |0,_,h,_=>by omega
 |fuel+1,s,h,hl=>by
  rw[a05];by_cases hp:0<s.length
  ·rw[if_pos (dT (by omega)),u0 (by omega) (by omega),if_pos (by omega),Option.bind_some]
   split
   ·rw[if_pos (by omega)]
    exact b80 fuel _ (by simp only[List.length_take,List.length_drop];omega) (by simp only[List.length_take,List.length_drop];omega)
   ·exact⟨_,rfl⟩
  ·rw[if_neg (dF (by omega))];exact⟨_,rfl⟩
def U6(k:Ky):Bool:=(a0M k).getD false
theorem b56(k:Ky):a0M k=some (U6 k):=by
 have h:∃b,a0M k=some b:=by
  rw[a0M,a2j];obtain⟨t,ht⟩:∃t,a04 (P3 (([k.a0,k.a1,k.a2,k.a3,k.a4,k.a5,k.a6,k.a7]:List Int).take 8))=some t:=by
   rw[a04];split
   ·exact⟨_,rfl⟩
   ·obtain⟨t,ht⟩:=b80 big (P3 (([k.a0,k.a1,k.a2,k.a3,k.a4,k.a5,k.a6,k.a7]:List Int).take 8)) (F0 (by simp[P3])) (by simp[P3])
    rw[a6o,ht];exact⟨_,rfl⟩
  rw[ht,Option.bind_some];obtain⟨r,hr⟩:∃r,a2i t=some r:=by
   rw[a2i];split
   ·exact⟨_,rfl⟩
   ·split
    ·exact⟨_,rfl⟩
    ·rw[a6n,a6W,Option.bind_some,Option.bind_some]
     split<;>exact⟨_,rfl⟩
  rw[hr,Option.bind_some];split
  ·exact⟨_,rfl⟩
  ·split
   ·exact⟨_,rfl⟩
   ·exact⟨_,rfl⟩
 obtain⟨b,hb⟩:=h;rw[U6,hb];rfl
def a1U(t:Tx):Bool:=decide (t.F3<8)&&(decide (IntKind.wrap .u32 (t.D6 - 1)<2147483647)&&decide (IntKind.wrap .u32 (t.F5 - 1)<2147483647))
theorem b82(t:Tx):a3G t=some (a1U t):=by
 simp only[a3G,a49,Option.bind_some,a1U];by_cases h1:t.F3<8<;>by_cases h2:IntKind.wrap .u32 (t.D6 - 1)<2147483647<;>simp[h1,h2]
def a4J(s:TS):Bool:=decide (s.B8<=2147483647)&&a1U s.b7
theorem c7c(s:TS):a48 s=some (a4J s):=by
 simp only[a48,b82,Option.bind_some,a4J];by_cases h:s.B8<=2147483647<;>simp[h]
abbrev Ot:=TO
def oE:Ot:=TO.mk [] []
abbrev Rs:=Ot×Int×Us×Ps×Ps
def x_(us:Us)(hd wt:Ps)(s:Sl)(mode:Int):Rs:=
 let wt1:=p7 wt s (mx mode (md wt s))
 let st:=(O2 us hd wt1 s).foldl S2 (us,hd,wt1)
 let r:=Y3 st.1 st.2.1 st.2.2
 (TO.mk (O2 us hd wt1 s) r.1,0,st.1,r.2.1,r.2.2)
def V9(us:Us)(hd wt:Ps)(s:TS)(k:Ky)(mode:Int):Rs:=
 if a4J s=false\/U6 k=false\/(mode≠1/\mode≠2) then(oE,1,us,hd,wt) else
 match f9 us s.b7 with
 |some u=>if u.a07 then(oE,11,us,hd,wt) else if mode<=md hd ⟨s.b7,k⟩ then(oE,0,us,hd,wt) else x_ us hd wt ⟨s.b7,k⟩ mode
 |none=>if us.length=64 then(oE,5,us,hd,wt) else if mode<=md hd ⟨s.b7,k⟩ then(oE,0,us,hd,wt) else x_ (p7 us s.b7 ⟨s,false⟩) hd wt ⟨s.b7,k⟩ mode
theorem Ok.wait{us:Us}{hd wt:Ps}{n:Nat}(h:Ok us hd wt n){s:Sl}(hs:(f9 us s.m9).isSome=true)(v:Int)(hn:n<250):Ok us hd (p7 wt s v) (n+1):=by
 have:=a1r wt s v;have:=h.nw;have:=h.nh;refine⟨h.uu,h.uh,a5C h.uw s v,h.hu,λe he=>?_,h.su,h.nu,by omega,by omega,by omega⟩;rcases a0k he with h1|h1
 ·rw[h1];exact hs
 ·exact h.wu e h1
theorem Ok.up{us:Us}{hd wt:Ps}{n m:Nat}(h:Ok us hd wt n)(hm:n<=m)(h2:m<=250):Ok us hd wt m:=
 ⟨h.uu,h.uh,h.uw,h.hu,h.wu,h.su,h.nu,Nat.le_trans h.nw hm,by have:=h.nh;omega,h2⟩
theorem Ok.user{us:Us}{hd wt:Ps}{n:Nat}(h:Ok us hd wt n){x:Tx}{u:TU}(hu:u.B7.b7=x)(hl:(p7 us x u).length<=64):Ok (p7 us x u) hd wt n:=by
 have hm:∀y,(f9 us y).isSome=true->(f9 (p7 us x u) y).isSome=true:=λy hy=>by
  rw[M9];split
  ·rfl
  ·exact hy
 refine⟨a5C h.uu x u,h.uh,h.uw,λe he=>hm _ (h.hu e he),λe he=>hm _ (h.wu e he),λe he=>?_,hl,h.nw,h.nh,h.nn⟩;rcases a0k he with h1|h1
 ·rw[h1];exact hu
 ·exact h.su e h1
theorem a8Q{us:Us}{hd wt:Ps}{n:Nat}(h:Ok us hd wt n)(hn:n<250){s:Sl}(hs:(f9 us s.m9).isSome=true)(mode:Int):
  Ok (x_ us hd wt s mode).2.2.1 (x_ us hd wt s mode).2.2.2.1 (x_ us hd wt s mode).2.2.2.2 (n+1)/\
  (a3Y us hd (p7 wt s (mx mode (md wt s))) s).bind (λy=>(a1m y.2.1 y.2.2.1 y.2.2.2).bind λz=>some (TO.mk y.1 z.1,(0:Int),y.2.1,z.2.1,z.2.2))=some (x_ us hd wt s mode):=by
 have h1:=h.wait hs (mx mode (md wt s)) hn;have h2:=Ok.fold (O2 us hd (p7 wt s (mx mode (md wt s))) s) (st:=(us,hd,p7 wt s (mx mode (md wt s)))) h1;refine⟨h2.on,?_⟩;rw[c7u h1 hs (by have:=h1.at64 s.o7;omega),Option.bind_some,b2O h2,Option.bind_some];rfl
theorem b0P{us:Us}{hd wt:Ps}{n:Nat}(h:Ok us hd wt n)(hn:n<250)(s:TS)(k:Ky)(mode:Int):
  a3L us hd wt s k mode=some (V9 us hd wt s k mode)/\Ok (V9 us hd wt s k mode).2.2.1 (V9 us hd wt s k mode).2.2.2.1 (V9 us hd wt s k mode).2.2.2.2 (n+1):=by
 have hup:=h.up (Nat.le_succ n) hn;have e5:a5e us hd wt s k mode=some (match f9 us s.b7 with
 |some u=>if u.a07 then(oE,11,us,hd,wt) else if mode<=md hd ⟨s.b7,k⟩ then(oE,0,us,hd,wt) else x_ us hd wt ⟨s.b7,k⟩ mode
 |none=>if us.length=64 then(oE,5,us,hd,wt) else if mode<=md hd ⟨s.b7,k⟩ then(oE,0,us,hd,wt) else x_ (p7 us s.b7 ⟨s,false⟩) hd wt ⟨s.b7,k⟩ mode):=by
  rw[a5e];cases hu:f9 us s.b7 with
  |some u=>
   rw[if_pos (by simp),Option.bind_some];dsimp only;cases hp:u.a07 with
   |true=>rfl
   |false=>
    rw[if_neg (by simp),if_neg (by simp),Option.bind_some];by_cases hm:mode<=md hd ⟨s.b7,k⟩
    ·rw[if_pos (by simpa[md] using hm),if_pos hm];rfl
    ·rw[if_neg (by simpa[md] using hm),if_neg hm,a8Y,Option.bind_some,Option.bind_some]
     exact(a8Q h hn (s:=⟨s.b7,k⟩) (by simp[hu]) mode).2
  |none=>
   rw[if_neg (by simp)];dsimp only;by_cases hl:us.length=64
   ·rw[if_pos (by simp[hl]),if_pos hl];rfl
   ·have hlen:=a1r us s.b7 ⟨s,false⟩
    have hnu:=h.nu;have hus:=h.user (x:=s.b7) (u:=⟨s,false⟩) rfl (by omega);rw[if_neg (by simp;omega),if_neg hl,a8X,Option.bind_some];by_cases hm:mode<=md hd ⟨s.b7,k⟩
    ·rw[if_pos (by simpa[md] using hm),if_pos hm];rfl
    ·rw[if_neg (by simpa[md] using hm),if_neg hm,Option.bind_some,Option.bind_some]
     exact(a8Q hus hn (s:=⟨s.b7,k⟩) (by simp[M9]) mode).2
 constructor
 ·simp only[a3L,P9,c7c,b56,Option.bind_some,e5,V9]
  cases h1:a4J s with
  |false=>simp[oE]
  |true=>
   cases h2:U6 k with
   |false=>simp[a5d,oE]
   |true=>
    by_cases h3:mode=1
    ·simp[h3]
    ·by_cases h4:mode=2
     ·simp[h4]
     ·simp[h3,h4,a5d,oE]
 ·unfold V9
  split
  ·exact hup
  ·split
   ·rename_i u hu
    split
    ·exact hup
    ·split
     ·exact hup
     ·exact(a8Q h hn (s:=⟨s.b7,k⟩) (by simp[hu]) mode).1
   ·rename_i hu
    split
    ·exact hup
    ·rename_i hl
     split
     ·exact hup
     ·have hlen:=a1r us s.b7 ⟨s,false⟩
      have hnu:=h.nu;exact(a8Q (h.user (x:=s.b7) (u:=⟨s,false⟩) rfl (by omega)) hn (s:=⟨s.b7,k⟩) (by simp[M9]) mode).1
theorem b2I(us:Us)(hd wt:Ps)(x:Tx)(k:Ky):a3M us hd wt x k=some (md hd ⟨x,k⟩):=rfl
end Go.Proofs.YtddgjfclpknkcaaGreatDoor.Wk
set_option linter.unusedVariables false
set_option linter.unusedSimpArgs false
namespace Go.Proofs.YtddgjfclpknkcaaGreatDoor.Wk
open Go Go.Cn
def Z2(us:Us)(hd wt:Ps)(x:Tx):Rs:=
 match f9 us x with
 |none=>(oE,6,us,hd,wt)
 |some _=>
  let r:=Y3 (B1 us x) (drop hd x) (drop wt x)
  (TO.mk [] r.1,0,B1 us x,r.2.1,r.2.2)
theorem c5b{us:Us}{hd wt:Ps}{n:Nat}(h:Ok us hd wt n)(x:Tx):
  a5h us hd wt x=some (Z2 us hd wt x)/\Ok (Z2 us hd wt x).2.2.1 (Z2 us hd wt x).2.2.2.1 (Z2 us hd wt x).2.2.2.2 n:=by
 have zh:=h.nh;have zn:=h.nn;cases hu:f9 us x with
 |none=>
  have e:Z2 us hd wt x=(oE,6,us,hd,wt):=by rw[Z2,hu]
  rw[e];refine⟨?_,h⟩;rw[a5h,P9,Option.bind_some,hu,if_neg (by simp)];rfl
 |some u=>
  rw[a5h,P9,Option.bind_some,hu,if_pos (show(some u).isSome=true from rfl),Option.bind_some,b5N us hd wt x h.uh h.uw (by omega) (by omega),Option.bind_some,b2O (h.gone x),Option.bind_some,Z2,hu];exact⟨rfl,(h.gone x).on⟩
end Go.Proofs.YtddgjfclpknkcaaGreatDoor.Wk
set_option linter.unusedVariables false
set_option linter.unusedSimpArgs false
namespace Go.Proofs.YtddgjfclpknkcaaGreatDoor.Wk
open Go Go.Cn
theorem of0(p:Ps)(x:Tx):∀(fuel:Nat) (rest:Ps),rest.length<fuel->a3K p x fuel rest=some (rest.any λe=>decide (e.1.m9=x))
 |0,rest,h=>by omega
 |fuel+1,rest,h=>by
  rw[a3K];by_cases hr:rest=[]
  ·subst hr;rw[if_pos (show([]:Ps).isEmpty=true from rfl)];rfl
  ·rw[if_neg (by cases rest<;>simp at hr⊢)]
   refine a8p hr λi a hi=>?_;have hpr:=a43 hi;have hlen:=hpr.length_eq;simp only[List.length_cons] at hlen;have he:(rest.any λe=>decide (e.1.m9=x))=((a::rest.eraseIdx i).any λe=>decide (e.1.m9=x)):=by
    rw[Bool.eq_iff_iff,List.any_eq_true,List.any_eq_true];constructor
    ·rintro⟨e,h1,h2⟩;exact⟨e,hpr.mem_iff.1 h1,h2⟩
    ·rintro⟨e,h1,h2⟩;exact⟨e,hpr.mem_iff.2 h1,h2⟩
   rw[he];by_cases ha:a.1.m9=x
   ·rw[if_pos (by simpa using ha)];simp[ha]
   ·rw[if_neg (by simpa using ha),of0 p x fuel _ (by omega)];simp[ha]
theorem of_eq(p:Ps)(x:Tx)(hz:p.length<=1000000):a8W p x=some (p.any λe=>decide (e.1.m9=x)):=of0 p x big p (F0 (by omega))
theorem c0c(p:Ps)(x:Tx)(hu:Uk p)(hz:p.length<=1000000):a61 p x=some (a1e p x):=by
 have h:=a8z (λe=>decide (e.1.m9=x)&&e.2==1) (a2u p x) (λfuel m2 rest=>by
  rw[a2u];congr 1;congr 1;funext a rs;simp only[a8V,a7f,Option.bind_some];by_cases h:a.1.m9=x<;>simp[h]) big p p (F0 (by omega)) hu hu
 rw[a61,a9h,h,Option.bind_some,b4O hu,a1e]
def a1Z(wt:Ps)(x:Tx):Bool:=wt.any λe=>decide (e.1.m9=x)
theorem b9d(us:Us)(hd wt:Ps)(x:Tx)(hz:wt.length<=1000000):a5j us hd wt x=some (a1Z wt x):=by
 rw[a5j,P9,Option.bind_some,of_eq wt x hz];rfl
def Y7(us:Us)(hd wt:Ps)(x:Tx):Rs:=
 match f9 us x with
 |none=>(oE,6,us,hd,wt)
 |some u=>if a1Z wt x then(oE,11,us,hd,wt) else
  let us' :=p7 us x ⟨u.B7,true⟩
  let r:=Y3 us' (a1e hd x) wt
  (TO.mk [] r.1,0,us',r.2.1,r.2.2)
theorem Ok.filt{us:Us}{hd wt:Ps}{n:Nat}(h:Ok us hd wt n)(f:Sl×Int->Bool):Ok us (hd.filter f) wt n:=
 ⟨h.uu,b0B h.uh f,h.uw,λe he=>h.hu e (List.mem_filter.1 he).1,h.wu,h.su,h.nu,h.nw,by have:=List.length_filter_le f hd;have:=h.nh;omega,h.nn⟩
theorem c4L{us:Us}{hd wt:Ps}{n:Nat}(h:Ok us hd wt n)(x:Tx):
  a5f us hd wt x=some (Y7 us hd wt x)/\Ok (Y7 us hd wt x).2.2.1 (Y7 us hd wt x).2.2.2.1 (Y7 us hd wt x).2.2.2.2 n:=by
 have zh:=h.nh;have zn:=h.nn;cases hu:f9 us x with
 |none=>
  have e:Y7 us hd wt x=(oE,6,us,hd,wt):=by rw[Y7,hu]
  rw[e];refine⟨?_,h⟩;rw[a5f,P9,Option.bind_some,hu,if_neg (by simp)];rfl
 |some u=>
  have hs:(f9 us x).isSome=true:=by simp[hu]
  have hus:Ok (p7 us x ⟨u.B7,true⟩) (a1e hd x) wt n:=(h.user (x:=x) (u:=⟨u.B7,true⟩) (h.su _ (K6 hu)) (by rw[a9p _ hs];exact h.nu)).filt _;rw[a5f,P9,Option.bind_some,hu,if_pos (show(some u).isSome=true from rfl),Option.bind_some,b9d _ _ _ _ (by omega),Option.bind_some,Y7,hu];dsimp only;cases hw:a1Z wt x with
  |true=>rw[if_pos rfl,if_pos rfl];exact⟨rfl,h⟩
  |false=>
   rw[if_neg (by simp),if_neg (by simp),a8Z,hu,if_pos (show(some u).isSome=true from rfl),Option.bind_some,c0c hd x h.uh (by omega),Option.bind_some,b2O hus,Option.bind_some];exact⟨rfl,hus.on⟩
end Go.Proofs.YtddgjfclpknkcaaGreatDoor.Wk
set_option linter.unusedVariables false
set_option linter.unusedSimpArgs false
namespace Go.Proofs.YtddgjfclpknkcaaGreatDoor.Wk
open Go Go.Cn
theorem b62:Ok [] [] [] 0:=⟨List.nodup_nil,List.nodup_nil,List.nodup_nil,by simp,by simp,by simp,by simp,by simp,by simp,by omega⟩
theorem Ok.perm{us:Us}{hd wt hd' wt' :Ps}{n:Nat}(h:Ok us hd wt n)(h1:hd.Perm hd')(h2:wt.Perm wt'):Ok us hd' wt' n:=
 ⟨h.uu,b0C h1 h.uh,b0C h2 h.uw,λe he=>h.hu e (h1.mem_iff.2 he),λe he=>h.wu e (h2.mem_iff.2 he),h.su,h.nu,by rw[<-h2.length_eq];exact h.nw,by rw[<-h1.length_eq,<-h2.length_eq];exact h.nh,h.nn⟩
theorem b4i:a4e=some true:=by
 obtain⟨e1,o1⟩:=b0P b62 (by omega) ⟨5,⟨0,1,6⟩⟩ ⟨97,0,0,0,0,0,0,0⟩ 1;obtain⟨e2,o2⟩:=b0P o1 (by omega) ⟨3,⟨0,1,4⟩⟩ ⟨97,0,0,0,0,0,0,0⟩ 2;have s5:a1u 5=some ⟨5,⟨0,1,6⟩⟩:=by kernel_rfl
 have s3:a1u 3=some ⟨3,⟨0,1,4⟩⟩:=by kernel_rfl
 simp only[a4e,a5v,s5,s3,Option.bind_some,e1,e2,b2I];have hA:V9 [] [] [] ⟨5,⟨0,1,6⟩⟩ ⟨97,0,0,0,0,0,0,0⟩ 1=(⟨[],[⟨⟨0,1,6⟩,⟨97,0,0,0,0,0,0,0⟩,1⟩]⟩,0,[(⟨0,1,6⟩,⟨⟨5,⟨0,1,6⟩⟩,false⟩)],[(⟨⟨0,1,6⟩,⟨97,0,0,0,0,0,0,0⟩⟩,1)],[]):=by kernel_rfl
 rw[hA];have hB:V9 [(⟨0,1,6⟩,⟨⟨5,⟨0,1,6⟩⟩,false⟩)] [(⟨⟨0,1,6⟩,⟨97,0,0,0,0,0,0,0⟩⟩,1)] [] ⟨3,⟨0,1,4⟩⟩ ⟨97,0,0,0,0,0,0,0⟩ 2=(⟨[⟨0,1,6⟩],[⟨⟨0,1,4⟩,⟨97,0,0,0,0,0,0,0⟩,2⟩]⟩,0,[(⟨0,1,4⟩,⟨⟨3,⟨0,1,4⟩⟩,false⟩)],[(⟨⟨0,1,4⟩,⟨97,0,0,0,0,0,0,0⟩⟩,2)],[]):=by kernel_rfl
 rw[hB];rfl
theorem b8s(l:List TA):a4h l=some (l.take 60):=by
 rw[a4h,Option.bind_some];by_cases h:(60:Int)<(l.length:Int)
 ·rw[if_pos h,if_pos (by omega)];rfl
 ·rw[if_neg h,if_pos (by omega),Int.toNat_natCast,List.take_length,List.take_of_length_le (by omega)]
def a8L(l:List TA):Bool:=(l.take 60).any λa=>decide (30<a.K4.length)
theorem b5o(y:List TA)(hy:y.length<=1000):∀(fuel k:Nat),y.length - k<fuel->k<=y.length->a4f y fuel k=some ((y.drop k).any λa=>decide (30<a.K4.length))
 |0,k,h,_=>by omega
 |fuel+1,k,h,hk=>by
  rw[a4f];by_cases hlt:k<y.length
  ·rw[if_pos (dT (by omega)),if_pos (by omega),Int.toNat_natCast,Option.bind_some,a41 y _ k default hlt,u0 (by omega) (by omega),show(((k:Nat):Int)+1)=((k+1:Nat):Int) by omega,b5o y hy fuel (k+1) (by omega) (by omega)]
   by_cases h1:30<(y.getD k default).K4.length
   ·rw[if_pos (dT (by omega))];simp only[h1,decide_true,Bool.true_or]
   ·rw[if_neg (dF (by omega))];simp only[h1,decide_false,Bool.false_or]
  ·rw[if_neg (dF (by omega))]
   have:k=y.length:=by omega
   subst this;rw[List.drop_length];rfl
theorem c02(l:List TA):a5M l=some (a8L l):=by
 have hlen:=List.length_take_le 60 l;rw[a5M,b8s,Option.bind_some];have:=b5o (l.take 60) (by omega) big 0 (F0 (by omega)) (by omega);rw[List.drop_zero] at this;exact this
theorem c03{l:List TA}(h:a8L l=false):∀a∈l.take 60,a.K4.length<=30:=λa ha=>by
 rw[a8L,Bool.eq_false_iff] at h;by_cases hc:a.K4.length<=30
 ·exact hc
 ·exact absurd (List.any_eq_true.2 ⟨a,ha,by simp only[decide_eq_true_eq];omega⟩) h
end Go.Proofs.YtddgjfclpknkcaaGreatDoor.Wk
