import Derived.Test.YtddgjfclpknkcaaGreatDoorPyA
import Derived.Lib.IndexLaws
set_option linter.unusedVariables false
set_option linter.unusedSimpArgs false
namespace Go.Proofs.YtddgjfclpknkcaaGreatDoor.Wk
open Go Go.Cn
def bI(l:List UInt8)(i:Nat):Int:=((l.getD i 0).toNat:Int)
def pad(l:List UInt8):A8 Int:=⟨bI l 0,bI l 1,bI l 2,bI l 3,bI l 4,bI l 5,bI l 6,bI l 7⟩
def b4e:A8 Int:=A8.mk 0 0 0 0 0 0 0 0
def a5a(s:List UInt8):A8 Int×Int:=if s=[]\/8<s.length\/(0:UInt8)∈s then(b4e,1) else(pad s,0)
theorem b9C(s:List UInt8)(i:Nat):(if i<s.length then((s.getD i 0).toNat:Int) else 0)=bI s i:=by
 unfold bI;by_cases h:i<s.length
 ·rw[if_pos h]
 ·rw[if_neg h,List.getD_eq_getElem?_getD,List.getElem?_eq_none (by omega)];rfl
theorem b5T(s:List UInt8):(0<=Lib.indexByte s 0)↔(0:UInt8)∈s:=by
 constructor
 ·intro h
  obtain⟨o,ho⟩:=Int.eq_ofNat_of_zero_le h;exact List.mem_of_getElem? (Lib.indexByte_some ho).1
 ·intro h
  have hge:=Lib.indexByte_ge s 0;rcases Int.lt_or_le (Lib.indexByte s 0) 0 with hl|hl
  ·obtain⟨k,hk⟩:=List.getElem?_of_mem h
   exact absurd hk (Lib.indexByte_none (by omega) k)
  ·exact hl
theorem c1G(s:List UInt8):a2i s=some (a5a s):=by
 have e0:a6n s 0=some (Lib.indexByte s 0):=rfl;unfold a2i a5a;rw[e0];by_cases h1:s=[]
 ·subst h1;rfl
 ·rw[if_neg (by simpa using h1)]
  by_cases h2:8<s.length
  ·rw[if_pos (dT (by omega)),if_pos (.inr (.inl h2))];rfl
  ·rw[if_neg (dF (by omega))]
   simp only[Option.bind_some];by_cases h3:(0:UInt8)∈s
   ·rw[if_pos (by simpa using(b5T s).2 h3),if_pos (.inr (.inr h3))];rfl
   ·rw[if_neg (by rw[decide_eq_true_eq];exact λh=>h3 ((b5T s).1 h)),show(if s=[]\/8<s.length\/(0:UInt8)∈s then(b4e,(1:Int)) else(pad s,0))=(pad s,0) from if_neg (by simp[h1,h3];omega)]
    simp only[b9C];rfl
def a3r(t:List UInt8):Prop:=∀u,t≠u++[0]
theorem b8M:∀(n:Nat) (l:List UInt8),l.length=n->∃t a,l=t++List.replicate a 0/\a3r t
 |0,l,h=>⟨[],0,by simpa using List.length_eq_zero_iff.mp h,by intro u hu;simp at hu⟩
 |n+1,l,h=>by
  by_cases hz:∃u,l=u++[0]
  ·obtain⟨u,rfl⟩:=hz
   obtain⟨t,a,rfl,ht⟩:=b8M n u (by simpa using h);exact⟨t,a+1,by rw[List.replicate_succ',List.append_assoc],ht⟩
  ·exact⟨l,0,by simp,λu hu=>hz ⟨u,hu⟩⟩
theorem b6u(t:List UInt8)(h:t≠[])(hz:t.getD (t.length - 1) 0=0):∃u,t=u++[0]:=by
 have hp:0<t.length:=List.length_pos_iff.mpr h;refine⟨t.dropLast,?_⟩;have h1:=List.dropLast_concat_getLast h;rw[List.getD_eq_getElem?_getD,List.getElem?_eq_getElem (by omega)] at hz;rw[List.getLast_eq_getElem] at h1;rw[show t[t.length - 1]=0 from hz] at h1;exact h1.symm
theorem b8Z:∀(a fuel:Nat) (t:List UInt8),a<fuel->t.length+a<=100->a3r t->a05 0 fuel (t++List.replicate a 0)=some t
 |_,0,_,h,_,_=>by omega
 |0,fuel+1,t,h,hl,ht=>by
  rw[a05];simp only[List.replicate_zero,List.append_nil];by_cases hn:t=[]
  ·subst hn;rfl
  ·have hp:0<t.length:=List.length_pos_iff.mpr hn
   rw[if_pos (dT (by omega)),u0 (by omega) (by omega),if_pos (by omega),Option.bind_some,if_neg ?_];simp only[beq_iff_eq];intro hc;have e1:(((t.length:Nat):Int) - 1).toNat=t.length - 1:=by omega
   rw[e1] at hc;have e2:t.getD (t.length - 1) 0=0:=UInt8.toNat_inj.mp (by simpa using hc);obtain⟨u,hu⟩:=b6u t hn e2;exact ht u hu
 |a+1,fuel+1,t,h,hl,ht=>by
  rw[a05];have hlen:(t++List.replicate (a+1) (0:UInt8)).length=t.length+a+1:=by simp;omega
  rw[hlen,if_pos (dT (by omega)),u0 (by omega) (by omega),if_pos (by omega)];have e1:(((t.length+a+1:Nat):Int) - 1).toNat=t.length+a:=by omega
  rw[e1];have e2:(t++List.replicate (a+1) (0:UInt8)).getD (t.length+a) 0=0:=by
   rw[List.getD_eq_getElem?_getD,List.getElem?_append_right (by omega)];simp
  rw[e2,Option.bind_some,if_pos (by rfl),if_pos (by omega)];have e3:((t++List.replicate (a+1) (0:UInt8)).drop 0).take (t.length+a - 0)=t++List.replicate a 0:=by
   rw[List.drop_zero,Nat.sub_zero,List.replicate_succ',<-List.append_assoc,List.take_left' (by simp)]
  rw[e3];exact b8Z a fuel t (by omega) (by omega) ht
theorem c7n(a:Nat)(t:List UInt8)(hl:t.length+a<=100)(ht:a3r t):a04 (t++List.replicate a 0)=some t:=by
 unfold a04;by_cases hn:t++List.replicate a (0:UInt8)=[]
 ·rw[if_pos (by simpa using hn),hn,(List.append_eq_nil_iff.mp hn).1]
 ·rw[if_neg (by simpa using hn),a6o,b8Z a big t (F0 (by omega)) hl ht]
  rfl
theorem b9B(t:List UInt8)(a i:Nat):bI (t++List.replicate a 0) i=bI t i:=by
 unfold bI;simp only[List.getD_eq_getElem?_getD];rcases Nat.lt_or_ge i t.length with h|h
 ·rw[List.getElem?_append_left h]
 ·rw[List.getElem?_append_right h,List.getElem?_eq_none (l:=t) (by omega),List.getElem?_replicate]
  split<;>rfl
theorem b67(t:List UInt8)(a:Nat):pad (t++List.replicate a 0)=pad t:=by simp only[pad,b9B]
def kb(k:A8 Int):List UInt8:=P3 (([k.a0,k.a1,k.a2,k.a3,k.a4,k.a5,k.a6,k.a7]:List Int).take 8)
def J_(k:A8 Int):Prop:=∀x∈k.list,0<=x/\x<256
theorem a2z(x:Int)(h:0<=x/\x<256):(((UInt8.ofNat x.toNat).toNat:Nat):Int)=x:=by
 rw[UInt8.toNat_ofNat'];omega
theorem b10(k:A8 Int):(kb k).length=8:=by simp[kb,P3]
theorem b68(k:A8 Int)(h:J_ k):pad (kb k)=k:=by
 obtain⟨a0,a1,a2,a3,a4,a5,a6,a7⟩:=k;simp only[J_,A8.list,List.mem_cons,List.not_mem_nil,or_false,forall_eq_or_imp,forall_eq] at h;obtain⟨h0,h1,h2,h3,h4,h5,h6,h7⟩:=h;show A8.mk _ _ _ _ _ _ _ _=_;simp only[A8.mk.injEq];exact⟨a2z _ h0,a2z _ h1,a2z _ h2,a2z _ h3,a2z _ h4,a2z _ h5,a2z _ h6,a2z _ h7⟩
theorem c3f(l:List UInt8)(j:Nat)(h:j<8):A8.get (pad l) j=bI l j:=by
 rcases lt8 h with rfl|rfl|rfl|rfl|rfl|rfl|rfl|rfl<;>rfl
theorem c25(k:A8 Int)(h:J_ k)(t:List UInt8)(a:Nat)(he:kb k=t++List.replicate a 0)(ht:a3r t):
  a2j k=if t=[]\/(0:UInt8)∈t then some ([],false) else some (t,true):=by
 have hlen:=b10 k;rw[he] at hlen;simp only[List.length_append,List.length_replicate] at hlen;have hk:pad t=k:=by rw[<-b67 t a,<-he,b68 k h]
 have e0:a04 (P3 (([k.a0,k.a1,k.a2,k.a3,k.a4,k.a5,k.a6,k.a7]:List Int).take 8))=some t:=by
  show a04 (kb k)=_;rw[he,c7n a t (by omega) ht]
 unfold a2j;rw[e0];simp only[Option.bind_some,c1G];by_cases hc:t=[]\/(0:UInt8)∈t
 ·have:a5a t=(b4e,1):=by unfold a5a;rw[if_pos (by rcases hc with hc|hc;exact .inl hc;exact .inr (.inr hc))]
  rw[this,if_pos hc];rfl
 ·have:a5a t=(k,0):=by
   unfold a5a;rw[if_neg ?_,hk];intro hd;rcases hd with hd|hd|hd
   ·exact hc (.inl hd)
   ·omega
   ·exact hc (.inr hd)
  rw[this,if_neg hc,if_neg (by simp),if_neg (by simp)];rfl
open Classical in
theorem b7N(k:A8 Int)(m:Int)(hm:0<=m/\m<=8):∀(fuel i:Nat),8<fuel+i->i<=8->
  a1s k m fuel (i:Int)=if(∃j,i<=j/\j<8/\A8.get k j≠0)\/m=0 then some ([],false) else some (P3 (([k.a0,k.a1,k.a2,k.a3,k.a4,k.a5,k.a6,k.a7]:List Int).take m.toNat),true)
 |0,i,h,hi=>by omega
 |fuel+1,i,h,hi=>by
  rw[a1s];by_cases hlt:i<8
  ·rw[if_pos (dT (by omega)),if_pos (by omega),Int.toNat_natCast]
   by_cases hb:A8.get k i=0
   ·rw[if_neg (by simp[hb]),u0 (by omega) (by omega)]
    have:=b7N k m hm fuel (i+1) (by omega) (by omega);rw[show((i:Nat):Int)+1=((i+1:Nat):Int) from rfl,this];have e:(∃j,i+1<=j/\j<8/\A8.get k j≠0)↔(∃j,i<=j/\j<8/\A8.get k j≠0):=by
     constructor
     ·rintro⟨j,h1,h2,h3⟩;exact⟨j,by omega,h2,h3⟩
     ·rintro⟨j,h1,h2,h3⟩
      refine⟨j,?_,h2,h3⟩;rcases Nat.eq_or_lt_of_le h1 with rfl|h4
      ·exact absurd hb h3
      ·exact h4
    simp only[e]
   ·rw[if_pos (by simp[hb]),if_pos (.inl ⟨i,Nat.le_refl _,hlt,hb⟩)]
  ·rw[if_neg (dF (by omega))]
   have e:¬∃j,i<=j/\j<8/\A8.get k j≠0:=by rintro⟨j,h1,h2,_⟩;omega
   by_cases hz:m=0
   ·rw[if_pos (by simpa using hz),if_pos (.inr hz)]
   ·rw[if_neg (by simpa using hz),if_pos (by omega),if_neg (by simp only[e,hz,or_self,not_false_eq_true])]
theorem b6Y(k:A8 Int)(m:Nat)(hm:m<=8)(h1:∀j,j<m->A8.get k j≠0)(h2:m=8\/A8.get k m=0):∀(fuel i:Nat),8<fuel+i->i<=m->
  a35 k fuel (i:Int)=a1s k (m:Int) big (m:Int)
 |0,i,h,hi=>by omega
 |fuel+1,i,h,hi=>by
  rw[a35];by_cases hlt:i<m
  ·rw[if_pos (dT (by omega)),if_pos (by omega),Int.toNat_natCast,if_pos (by simpa using h1 i hlt),u0 (by omega) (by omega)]
   exact b6Y k m hm h1 h2 fuel (i+1) (by omega) (by omega)
  ·have him:i=m:=by omega
   rw[him];rcases h2 with h2|h2
   ·rw[if_neg (dF (by omega))]
   ·by_cases h8:m=8
    ·rw[if_neg (dF (by omega))]
    ·rw[if_pos (dT (by omega)),if_pos (by omega),Int.toNat_natCast,if_neg (by simp[h2])]
theorem b9D(l:List UInt8)(i:Nat):bI l i=0↔l.getD i 0=0:=by
 unfold bI;constructor
 ·intro h;exact UInt8.toNat_inj.mp (by simpa using h)
 ·intro h;rw[h];rfl
open Classical in
theorem c26(k:A8 Int)(h:J_ k)(t:List UInt8)(a:Nat)(he:kb k=t++List.replicate a 0)(ht:a3r t):
  a34 k=if t=[]\/(0:UInt8)∈t then some ([],false) else some (t,true):=by
 have hlen:=b10 k;rw[he] at hlen;simp only[List.length_append,List.length_replicate] at hlen;have hk:pad t=k:=by rw[<-b67 t a,<-he,b68 k h]
 have hget:∀j,j<8->(A8.get k j=0↔t.getD j 0=0):=λj hj=>by rw[<-hk,c3f t j hj,b9D]
 have hb:∀i,i<=8->8<big+i:=λi _=>by have:=F0 (n:=8) (by omega);omega
 have mk:∀m:Nat,m<=8->(∀j,j<m->t.getD j 0≠0)->(m=8\/t.getD m 0=0)->a34 k=if(∃j,m<=j/\j<8/\A8.get k j≠0)\/(m:Int)=0 then some ([],false) else some (P3 (([k.a0,k.a1,k.a2,k.a3,k.a4,k.a5,k.a6,k.a7]:List Int).take m),true):=by
  intro m hm h1 h2;have e1:=b6Y k m hm (λj hj hc=>h1 j hj ((hget j (by omega)).1 hc)) (by
   rcases h2 with h2|h2
   ·exact .inl h2
   ·by_cases h8:m=8
    ·exact .inl h8
    ·exact .inr ((hget m (by omega)).2 h2)) big 0 (hb 0 (by omega)) (by omega)
  have e2:=b7N k m ⟨by omega,by omega⟩ big m (hb m hm) hm;rw[Int.toNat_natCast] at e2;exact e1.trans e2
 by_cases h1:t=[]
 ·subst h1
  rw[mk 0 (by omega) (λj hj=>by omega) (.inr rfl),if_pos (.inr rfl),if_pos (.inl rfl)]
 ·by_cases h2:(0:UInt8)∈t
  ·obtain⟨u,v,e,hu⟩:=List.eq_append_cons_of_mem h2
   have hv:v≠[]:=by rintro rfl;exact ht u e
   have hul:u.length<t.length:=by rw[e];simp
   have g1:∀j,j<u.length->t.getD j 0≠0:=λj hj hc=>by
    rw[e,List.getD_eq_getElem?_getD,List.getElem?_append_left hj,List.getElem?_eq_getElem hj] at hc;exact hu (hc▸List.getElem_mem hj)
   have g2:t.getD u.length 0=0:=by rw[e,List.getD_eq_getElem?_getD,List.getElem?_append_right (Nat.le_refl _)];simp
   have hvl:0<v.length:=List.length_pos_iff.mpr hv;have htl:t.length=u.length+(v.length+1):=by rw[e];simp
   have g3:A8.get k (t.length - 1)≠0:=λhc=>by
    obtain⟨u',hu'⟩:=b6u t h1 ((hget (t.length - 1) (by omega)).1 hc);exact ht u' hu'
   rw[mk u.length (by omega) g1 (.inr g2),if_pos (.inl ⟨t.length - 1,by omega,by omega,g3⟩),if_pos (.inr h2)]
  ·have hl0:t.length≠0:=λh=>h1 (List.length_eq_zero_iff.mp h)
   have g1:∀j,j<t.length->t.getD j 0≠0:=λj hj hc=>by
    rw[List.getD_eq_getElem?_getD,List.getElem?_eq_getElem hj] at hc;exact h2 (hc▸List.getElem_mem hj)
   have g2:t.getD t.length 0=0:=by rw[List.getD_eq_getElem?_getD,List.getElem?_eq_none (Nat.le_refl _)];rfl
   rw[mk t.length (by omega) g1 (.inr g2),if_neg ?_,if_neg (by simp[h1,h2])]
   ·have:P3 (([k.a0,k.a1,k.a2,k.a3,k.a4,k.a5,k.a6,k.a7]:List Int).take t.length)=t:=by
     have e1:(kb k).take t.length=t:=by rw[he,List.take_left]
     conv=>rhs;rw[<-e1]
     unfold kb P3;rw[<-List.map_take,List.take_take,Nat.min_eq_left (by omega)]
    rw[this]
   ·rintro(⟨j,h3,h4,h5⟩|h3)
    ·refine h5 ((hget j h4).2 ?_)
     rw[List.getD_eq_getElem?_getD,List.getElem?_eq_none (by omega)];rfl
    ·omega
def kc(k:A8 Int):List LV:=[.int .u8 k.a0,.int .u8 k.a1,.int .u8 k.a2,.int .u8 k.a3,.int .u8 k.a4,.int .u8 k.a5,.int .u8 k.a6,.int .u8 k.a7]
theorem b9f(k:A8 Int)(h:X5 (kc k)):J_ k:=by
 intro x hx;refine b9h (h _ ?_);simp only[A8.list,List.mem_cons,List.not_mem_nil,or_false] at hx;simp only[kc,List.mem_cons,List.not_mem_nil,or_false,LV.int.injEq,true_and];exact hx
theorem b55{k:A8 Int}(h:J_ k):a15 k:=by
 intro i hi;have:A8.get k i∈k.list:=by
  rcases(by omega:i=0\/i=1\/i=2\/i=3\/i=4\/i=5\/i=6\/i=7) with rfl|rfl|rfl|rfl|rfl|rfl|rfl|rfl<;>simp[A8.get,A8.list]
 exact h _ this
open Classical in
noncomputable def b2z(k:A8 Int):Bool:=if h:∃t a,kb k=t++List.replicate a 0/\a3r t then(if h.choose=[]\/(0:UInt8)∈h.choose then false else true) else false
theorem c2Q(k:A8 Int)(h:J_ k):∃s,a2j k=some (s,b2z k)/\a34 k=some (s,b2z k):=by
 have hx:∃t a,kb k=t++List.replicate a 0/\a3r t:=b8M 8 (kb k) (b10 k);obtain⟨a,he,ht⟩:=hx.choose_spec;rw[c25 k h _ a he ht,c26 k h _ a he ht];unfold b2z;rw[dif_pos hx];by_cases hc:hx.choose=[]\/(0:UInt8)∈hx.choose
 ·rw[if_pos hc,if_pos hc];exact⟨_,rfl,rfl⟩
 ·rw[if_neg hc,if_neg hc];exact⟨_,rfl,rfl⟩
end Go.Proofs.YtddgjfclpknkcaaGreatDoor.Wk
set_option linter.unusedVariables false
set_option linter.unusedSimpArgs false
set_option linter.unusedSectionVars false
namespace Go.Proofs.YtddgjfclpknkcaaGreatDoor.Wk
open Go Go.Cn
theorem b4X{k:Ky}(h:J_ k):a4c k=some (U6 k):=by
 obtain⟨s,h1,h2⟩:=c2Q k h;rw[a4c,h2,U6,a0M,h1];rfl
structure Wx(x:Tx):Prop where
 n:0<=x.F3/\x.F3<256
 b:0<=x.D6/\x.D6<4294967296
 m:0<=x.F5/\x.F5<4294967296
theorem Wx.nd{x:Tx}(h:Wx x):Nd x:=⟨h.n.1,by have:=h.n.2;omega⟩
theorem b4L{n:Int}(h:0<=n/\n<4294967296):a4a n=some (decide (IntKind.wrap .u32 (n - 1)<2147483647)):=by
 rw[a4a];by_cases h1:1<=n
 ·rw[if_pos (dT h1),b0G (by omega) (by omega)]
  congr 1;rw[Bool.eq_iff_iff,decide_eq_true_eq,decide_eq_true_eq];omega
 ·have:n=0:=by omega
  subst this;rw[if_neg (dF h1)];rfl
theorem dtx{x:Tx}(h:Wx x):a38 x=some (a1U x):=by
 rw[a38,b4L h.b,b4L h.m,a1U];by_cases h1:x.F3<8<;>by_cases h2:IntKind.wrap .u32 (x.D6 - 1)<2147483647<;>simp[h1,h2]
theorem c0d{s:TS}(h:Wx s.b7):a5F s=some (a4J s):=by
 rw[a5F,dtx h,a4J];by_cases h1:s.B8<=2147483647<;>simp[h1]
section
variable {t:Tb}{us:Us}{hd wt:Ps}{n:Nat}
theorem c2H{a b c:Ur}(h1:Y0 a b)(h2:Y0 b c):Y0 a c:=by
 have:=(a6q (λu:Ur=>F4 u.n5.b7) (λ_ _=>rfl)).trans a b c (dT h1) (dT h2);exact of_decide_eq_true this
theorem b4K(t:Tb)(u:Ur)(hz:t.f_L.length<=64)(hd:∀v∈t.f_L,Nd v.n5.b7)(hu:Nd u.n5.b7):∀(fuel k:Nat),t.f_L.length - k<fuel->k<=t.f_L.length->(∀v∈t.f_L.take k,Y0 v u)->
  ∃j,a4o t u fuel k=some (t.d9,t.f0,t.f_L.take j++[u]++t.f_L.drop j)/\j<=t.f_L.length/\(∀v∈t.f_L.take j,Y0 v u)/\(j<t.f_L.length->¬Y0 (t.f_L.getD j default) u)
 |0,k,hf,_,_=>by omega
 |fuel+1,k,hf,hk,hp=>by
  rw[a4o];by_cases hlt:k<t.f_L.length
  ·rw[if_pos (dT (by omega)),if_pos (by omega),Int.toNat_natCast,c0f (hd _ (R0 t.f_L default hlt)) hu,Option.bind_some,sk (by omega)]
   by_cases hc:Y0 (t.f_L.getD k default) u
   ·rw[if_pos (dT hc)]
    refine b4K t u hz hd hu fuel (k+1) (by omega) (by omega) λv hv=>?_;rw[a8d _ k default hlt] at hv;rcases List.mem_append.1 hv with hv|hv
    ·exact hp v hv
    ·rw[List.mem_singleton.1 hv];exact hc
   ·rw[if_neg (dF hc),if_pos (by omega),if_pos (b1 _ k (by omega) (by omega)),if_pos (b2 _ u k (by omega) (by omega)),if_pos (by omega),if_pos (b3 _ u k (by omega) (by omega))]
    exact⟨k,rfl,hk,hp,λ_=>hc⟩
  ·rw[if_neg (dF (by omega)),Int.toNat_natCast,if_pos (by omega),if_pos (b1 _ k (by omega) (by omega)),if_pos (b2 _ u k (by omega) (by omega)),if_pos (by omega),if_pos (b3 _ u k (by omega) (by omega))]
   exact⟨k,rfl,hk,hp,λh=>absurd h hlt⟩
theorem b4J(h:At t us hd wt n){u:Ur}(hx:f9 us u.n5.b7=none)(hu:Nd u.n5.b7)(hl:us.length≠64):
  ∃t',a7J t u=some (t'.d9,t'.f0,t'.f_L)/\At t' (p7 us u.n5.b7 ⟨u.n5,u.L_⟩) hd wt n:=by
 have hz:=h.zl;obtain⟨j,h1,h2,h3,h4⟩:=b4K t u hz (λv hv=>h.d _ ((h.r.u _).1 (List.mem_map.2 ⟨v,hv,rfl⟩))) hu big 0 (F0 (by omega)) (by omega) (by simp);have hne:∀v∈t.f_L,v.n5.b7≠u.n5.b7:=λv hv e=>by
  have:=Y1 h.o.uu (k:=(lU v).1) (v:=(lU v).2) ((h.r.u _).1 (List.mem_map.2 ⟨v,hv,rfl⟩));rw[show(lU v).1=u.n5.b7 from e,hx] at this;cases this
 have hlen:=a1r us u.n5.b7 ⟨u.n5,u.L_⟩;have hnu:=h.o.nu;have hs:(t.f_L.take j++[u]++t.f_L.drop j).Pairwise Y0:=by
  have s0:=h.r.s;rw[<-List.take_append_drop j t.f_L,List.pairwise_append] at s0;have gt:∀v∈t.f_L.drop j,Y0 u v:=by
   by_cases hj:j<t.f_L.length
   ·have h5:=h4 hj
    have s2:=s0.2.1;rw[O8 _ j default hj] at s2⊢;have hm:=R0 t.f_L default hj;have h6:Y0 u (t.f_L.getD j default):=by
     have h7:=T_ (F4 (t.f_L.getD j default).n5.b7) (F4 u.n5.b7);have h8:A0 (F4 (t.f_L.getD j default).n5.b7) (F4 u.n5.b7)≠0:=λe=>hne _ hm ((b36 _ _).1 e);unfold Y0 at h5⊢;omega
    intro v hv;rcases List.mem_cons.1 hv with hv|hv
    ·rw[hv];exact h6
    ·exact c2H h6 ((List.pairwise_cons.1 s2).1 v hv)
   ·rw[List.drop_eq_nil_of_le (by omega)];intro v hv;cases hv
  rw[List.append_assoc,List.pairwise_append];refine⟨s0.1,List.pairwise_cons.2 ⟨gt,s0.2.1⟩,λa ha b hb=>?_⟩;rcases List.mem_cons.1 hb with hb|hb
  ·rw[hb];exact h3 a ha
  ·exact s0.2.2 a ha b hb
 refine⟨⟨t.f_L.take j++[u]++t.f_L.drop j,t.d9,t.f0⟩,h1,⟨⟨λe=>?_,hs,h.r.h,h.r.w,h.r.hu,h.r.wu⟩,h.o.user rfl (by omega),λe he=>?_,h.k,h.m,h.q⟩⟩
 ·have hp:(t.f_L.take j++[u]++t.f_L.drop j).Perm (u::t.f_L):=by
   rw[List.append_assoc];refine List.perm_middle.trans ?_;show(u::(t.f_L.take j++t.f_L.drop j)).Perm _;rw[List.take_append_drop]
  rw[(hp.map lU).mem_iff,List.map_cons,List.mem_cons,a5B h.o.uu,h.r.u];constructor
  ·rintro(e1|e1)
   ·exact Or.inl e1
   ·refine Or.inr ⟨λe2=>?_,e1⟩
    have:=Y1 h.o.uu (k:=e.1) (v:=e.2) e1;rw[e2,hx] at this;cases this
  ·rintro(e1|⟨_,e1⟩)
   ·exact Or.inl e1
   ·exact Or.inr e1
 ·rcases a0k he with h5|h5
  ·rw[h5];exact hu
  ·exact h.d e h5
abbrev Ro:=w8
abbrev Rt:=Ro×Int×List Ur×List Gt×List Gt
def oO(o:Ot):Ro:=⟨o.K2,o.H5.map gO⟩
def V6(o:Option Rt)(r:Rs)(n:Nat):Prop:=∃t' :Tb,o=some (oO r.1,r.2.1,t'.f_L,t'.d9,t'.f0)/\At t' r.2.2.1 r.2.2.2.1 r.2.2.2.2 n
theorem At.up(h:At t us hd wt n){m:Nat}(hm:n<=m)(h2:m<=250):At t us hd wt m:=⟨h.r,h.o.up hm h2,h.d,h.k,h.m,h.q⟩
theorem V6.no(h:At t us hd wt n)(e:Int):V6 (some (w8.mk [] [],e,t.f_L,t.d9,t.f0)) (oE,e,us,hd,wt) n:=⟨t,rfl,h⟩
theorem V6.up{o:Option Rt}{r:Rs}(h:V6 o r n){m:Nat}(hm:n<=m)(h2:m<=250):V6 o r m:=by
 obtain⟨t',h1,h3⟩:=h;exact⟨t',h1,h3.up hm h2⟩
theorem c0a(h:At t us hd wt n)(hw:Wt us hd wt)(x:Tx):V6 (a7G t x) (Z2 us hd wt x) n:=by
 rw[a7G,Z2];rcases a2g h.r h.o x with⟨h1,h2⟩|⟨i,h1,_,_,h4⟩
 ·rw[h1,Option.bind_some,if_pos (by decide),h2];exact V6.no h 6
 ·have hs:(f9 us x).isSome=true:=by rw[h4];rfl
  rw[h1,Option.bind_some,if_neg (dF (by omega)),h4];obtain⟨t1,g1,g2⟩:=b4T h hs;obtain⟨t2,o1,o2⟩:=don g2 (hw.gone h.o x);rw[g1,Option.bind_some,show a1E (f7.mk t1.f_L t1.d9 t1.f0)=_ from o1,Option.bind_some];exact⟨t2,rfl,o2⟩
theorem b40(t:Tb)(x:Tx)(C:List Ur)(hz:t.d9.length<=100000):∀(fuel k:Nat) (m:List Gt),t.d9.length - k<fuel->k<=t.d9.length->m.length<=k->a0P t x C fuel k m=
  (a1E ⟨C,m++(t.d9.drop k).filter (λg=>!decide (g.b7=x)||g.v8==2),t.f0⟩).bind λy=>some (w8.mk [] y.1,0,y.2.1,y.2.2.1,y.2.2.2)
 |0,k,_,hf,_,_=>by omega
 |fuel+1,k,m,hf,hk,hl=>by
  rw[a0P];by_cases hlt:k<t.d9.length
  ·have ih:=λm h=>b40 t x C hz fuel (k+1) m (by omega) (by omega) h
   rw[if_pos (dT (by omega)),if_pos (by omega),Int.toNat_natCast,sk (by omega),O8 _ k default hlt];generalize t.d9.getD k default=g;rw[l1,List.filter_cons];by_cases h1:g.b7=x
   ·rw[if_neg (nF h1)]
    by_cases h2:g.v8=2
    ·rw[if_pos (by simp[h2]),if_pos (by omega),if_pos (by simp[h2]),ih _ (by simp;omega),List.append_assoc];rfl
    ·rw[if_neg (by simp[h2]),if_neg (by simp[h1,h2]),ih m (by omega)]
   ·rw[if_pos (nT h1),if_pos (by omega),if_pos (by simp[h1]),ih _ (by simp;omega),List.append_assoc];rfl
  ·rw[if_neg (dF (by omega)),List.drop_eq_nil_of_le (by omega),List.filter_nil,List.append_nil]
theorem b95(h:At t us hd wt n)(x:Tx)(hnw:∀u,f9 us x=some u->a1Z wt x=false->Wt (p7 us x ⟨u.B7,true⟩) (a1e hd x) wt):V6 (a7B t x) (Y7 us hd wt x) n:=by
 have hz:=h.zl;have hzh:=h.zh;rw[a7B,Y7];rcases a2g h.r h.o x with⟨h1,h2⟩|⟨i,h1,h2,h3,h4⟩
 ·rw[h1,Option.bind_some,if_pos (by decide),h2];exact V6.no h 6
 ·have hs:(f9 us x).isSome=true:=by rw[h4];rfl
  have hnw:=hnw _ h4;rw[h1,Option.bind_some,if_neg (dF (by omega)),h4,b49 h,Option.bind_some];dsimp only;cases hc:a1Z wt x with
  |true=>rw[if_pos rfl,if_pos rfl];exact V6.no h 11
  |false=>
   rw[if_neg (by decide),if_neg (by decide),a9G,if_pos (by omega),if_pos (by omega),Int.toNat_natCast,Option.bind_some];have e:=b40 t x (t.f_L.set i (m0.mk (t.f_L.getD i default).n5 true)) (by omega) big 0 [] (F0 (by omega)) (by omega) (by simp);rw[show a0P t x _ big 0 []=_ from e,List.drop_zero,List.nil_append];have hl:t.f_L=t.f_L.take i++t.f_L.getD i default::t.f_L.drop (i+1):=by rw[<-O8 _ i default h2,List.take_append_drop]
   have hset:t.f_L.set i (m0.mk (t.f_L.getD i default).n5 true)=t.f_L.take i++m0.mk (t.f_L.getD i default).n5 true::t.f_L.drop (i+1):=by rw[List.set_eq_take_append_cons_drop,if_pos h2]
   have ha:At ⟨t.f_L.set i (m0.mk (t.f_L.getD i default).n5 true),t.d9.filter (λg=>!decide (g.b7=x)||g.v8==2),t.f0⟩ (p7 us x ⟨(t.f_L.getD i default).n5,true⟩) (a1e hd x) wt n:=by
    refine⟨⟨λe=>?_,?_,λe=>?_,h.r.w,List.Sublist.nodup ((List.filter_sublist.map oG).map _) h.r.hu,h.r.wu⟩,(h.o.user (x:=x) (u:=⟨(t.f_L.getD i default).n5,true⟩) h3 (by rw[a9p _ hs];exact h.o.nu)).filt _,λe he=>?_,h.k,h.m,λe he=>h.q e (List.mem_filter.1 he).1⟩
    ·obtain⟨c1,c2⟩:=cut lU t.f_L h2 default (b31 h.r.s)
     have hp:((t.f_L.set i (m0.mk (t.f_L.getD i default).n5 true)).map lU).Perm ((x,⟨(t.f_L.getD i default).n5,true⟩)::(t.f_L.take i++t.f_L.drop (i+1)).map lU):=by
      rw[hset];refine(List.perm_middle.map lU).trans ?_;rw[List.map_cons,lU,h3]
     have e1:(lU (t.f_L.getD i default)).1=x:=h3;rw[e1] at c2;show e∈(t.f_L.set i _).map lU↔_;rw[hp.mem_iff,List.mem_cons,c2,a5B h.o.uu,h.r.u,and_comm]
    ·show(t.f_L.set i _).Pairwise Y0
     rw[hset];have s0:=h.r.s;rw[hl,List.pairwise_append,List.pairwise_cons] at s0;rw[List.pairwise_append,List.pairwise_cons];refine⟨s0.1,⟨s0.2.1.1,s0.2.1.2⟩,λa ha b hb=>?_⟩;rcases List.mem_cons.1 hb with hb|hb
     ·rw[hb];exact(s0.2.2 a ha (t.f_L.getD i default) List.mem_cons_self:)
     ·exact s0.2.2 a ha b (List.mem_cons_of_mem _ hb)
    ·simp only[List.mem_map,a1e,List.mem_filter]
     constructor
     ·rintro⟨g,⟨g1,g2⟩,rfl⟩
      refine⟨h.hg g1,?_⟩;rcases h.hm g1 with hm|hm<;>simp[oG,hm] at g2⊢;exact g2
     ·rintro⟨he,g2⟩
      obtain⟨g,hg,rfl⟩:=List.mem_map.1 ((h.r.h e).2 he);refine⟨g,⟨hg,?_⟩,rfl⟩;rcases h.hm hg with hm|hm<;>simp[oG,hm] at g2⊢;exact g2
    ·rcases a0k he with h5|h5
     ·rw[h5];exact(h.d _ (K6 h4):)
     ·exact h.d e h5
   obtain⟨t2,o1,o2⟩:=don ha (hnw hc);rw[o1,Option.bind_some];exact⟨t2,rfl,o2⟩
end
end Go.Proofs.YtddgjfclpknkcaaGreatDoor.Wk
set_option linter.unusedVariables false
set_option linter.unusedSimpArgs false
set_option linter.unusedSectionVars false
namespace Go.Proofs.YtddgjfclpknkcaaGreatDoor.Wk
open Go Go.Cn
section
variable {t:Tb}{us:Us}{hd wt:Ps}{n:Nat}
theorem b4Q(T:Tb)(s:TS)(k:Ky)(mode:Int)(L:List Tx)(hz:L.length<=1000):∀(fuel j:Nat) (t:Tb) (st:Us×Ps×Ps),L.length - j<fuel->j<=L.length->At t st.1 st.2.1 st.2.2 n->(L.drop j).Nodup->(∀x∈L.drop j,(f9 st.1 x).isSome=true)->
  ∃t' :Tb,a0O T s k mode fuel j t.f_L t.d9 t.f0 L=(a1E t').bind (λy=>some (w8.mk L y.1,0,y.2.1,y.2.2.1,y.2.2.2))/\At t' ((L.drop j).foldl S2 st).1 ((L.drop j).foldl S2 st).2.1 ((L.drop j).foldl S2 st).2.2 n
 |0,j,_,_,hf,_,_,_,_=>by omega
 |fuel+1,j,t,st,hf,hj,h,hn,hu=>by
  rw[a0O];by_cases hlt:j<L.length
  ·rw[O8 L j default hlt] at hn hu⊢
   obtain⟨n1,n2⟩:=List.nodup_cons.1 hn;obtain⟨t1,g1,g2⟩:=b4T h (hu _ List.mem_cons_self);rw[if_pos (dT (by omega)),if_pos (by omega),Int.toNat_natCast,show a4r (f7.mk t.f_L t.d9 t.f0) (L.getD j default)=_ from g1,Option.bind_some,sk (by omega),List.foldl_cons];refine b4Q T s k mode L hz fuel (j+1) t1 (S2 st (L.getD j default)) (by omega) (by omega) g2 n2 λx hx=>?_;show(f9 (B1 st.1 (L.getD j default)) x).isSome=true;rw[b0F (x:=L.getD j default) (y:=x) h.o.uu (λe=>n1 (by rw[<-e];exact hx))];exact hu x (List.mem_cons_of_mem _ hx)
  ·rw[if_neg (dF (by omega)),List.drop_eq_nil_of_le (by omega)]
   exact⟨t,rfl,h⟩
theorem dgo(h:At t us hd wt n)(hn:n<250)(hw:Wt us hd wt){s:Sl}(hs:(f9 us s.m9).isSome=true)(hp:prep us s.m9=false)(hk:a15 s.o7){mode:Int}(hm:mode=1\/mode=2)(hg:¬mode<=md hd s)(T:Tb)(st:TS)(k:Ky)(mo:Int):
  V6 ((a4s t ⟨s.m9,s.o7,mode⟩).bind λa=>(a4t ⟨a.2.1,a.2.2.1,a.2.2.2⟩ a.1).bind λb=>a0O T st k mo big 0 a.2.1 a.2.2.1 a.2.2.2 b) (x_ us hd wt s mode) (n+1):=by
 obtain⟨t1,w1,w2,w3⟩:∃t1:Tb,a4s t ⟨s.m9,s.o7,mode⟩=some (⟨s.m9,s.o7,mx mode (md wt s)⟩,t1.f_L,t1.d9,t1.f0)/\At t1 us hd (p7 wt s (mx mode (md wt s))) (n+1)/\(⟨s.m9,s.o7,mx mode (md wt s)⟩:Gt)∈t1.f0:=c0h h (g:=⟨s.m9,s.o7,mode⟩) hm hk hs hn;have hmw:md wt s=0\/md wt s=1\/md wt s=2:=by
  rcases a9k wt s with h1|h1
  ·exact Or.inl h1
  ·exact Or.inr (hw.m _ h1)
 have hv:mx mode (md wt s)=1\/mx mode (md wt s)=2:=by rw[mx];split<;>omega
 have hv2:md hd s<mx mode (md wt s):=by rw[mx];split<;>omega
 obtain⟨o2,x2⟩:=Wt.wound h.o hn hw hs hp hv hv2;have hmem:∀x∈O2 us hd (p7 wt s (mx mode (md wt s))) s,x∈C0 hd s.o7:=λx hx=>(List.mem_filter.1 ((R8 _ _).mem_iff.1 hx)).1;have hnd:(O2 us hd (p7 wt s (mx mode (md wt s))) s).Nodup:=(R8 _ _).nodup_iff.2 ((b4p h.o.uh _).filter _);have hlen:(O2 us hd (p7 wt s (mx mode (md wt s))) s).length<=64:=by
  rw[O2,G_];exact Nat.le_trans (List.length_filter_le _ _) (h.o.at64 _)
 obtain⟨t2,g1,g2⟩:=b4Q T st k mo (O2 us hd (p7 wt s (mx mode (md wt s))) s) (by omega) big 0 t1 (us,hd,p7 wt s (mx mode (md wt s))) (F0 (by omega)) (by omega) w2 hnd (λx hx=>by
  obtain⟨m,hm⟩:=P6.1 (hmem x hx);exact h.o.hu _ hm)
 obtain⟨t3,o3,a3⟩:=don g2 x2;have w4:a4t ⟨t1.f_L,t1.d9,t1.f0⟩ ⟨s.m9,s.o7,mx mode (md wt s)⟩=some (O2 us hd (p7 wt s (mx mode (md wt s))) s):=c0j w2 w3;have g1:a0O T st k mo big 0 t1.f_L t1.d9 t1.f0 (O2 us hd (p7 wt s (mx mode (md wt s))) s)=_:=g1;rw[w1,Option.bind_some];dsimp only;rw[w4,Option.bind_some,g1,o3,Option.bind_some];exact⟨t3,rfl,a3⟩
theorem b9W(h:At t us hd wt n)(hn:n<250)(hw:Wt us hd wt)(s:TS)(k:Ky)(mode:Int)(hs:Wx s.b7)(hk:J_ k):V6 (a7y t s k mode) (V9 us hd wt s k mode) (n+1):=by
 have no:∀e:Int,V6 (some (w8.mk [] [],e,t.f_L,t.d9,t.f0)) (oE,e,us,hd,wt) (n+1):=λe=>(V6.no h e).up (by omega) (by omega);have hz:=h.r.lu h.o;rw[a7y,c0d hs,Option.bind_some,V9];cases h1:a4J s with
 |false=>rw[if_pos (by decide),if_pos (Or.inl rfl)];exact no 1
 |true=>
  rw[if_neg (by decide),b4X hk,Option.bind_some];cases h2:U6 k with
  |false=>rw[if_pos (by decide),if_pos (Or.inr (Or.inl rfl))];exact no 1
  |true=>
   rw[if_neg (by decide)];by_cases hm:mode=1\/mode=2
   ·rw[if_neg (dF (by omega)),if_neg (dF (by omega)),if_neg (by simp;omega)]
    rcases a2g h.r h.o s.b7 with⟨f1,f2⟩|⟨i,f1,f2,f3,f4⟩
    ·rw[f1,Option.bind_some,f2,a7z,if_neg (by decide),if_pos (by decide)]
     dsimp only;by_cases hl:us.length=64
     ·rw[if_pos (dT (by omega)),if_pos hl];exact no 5
     ·have hnu:=h.o.nu
      rw[if_neg (dF (by omega)),if_neg hl,b06 h.r h.o,Option.bind_some];by_cases hg:mode<=md hd ⟨s.b7,k⟩
      ·rw[if_pos (dT hg),if_pos hg];exact no 0
      ·obtain⟨t1,g1,g2⟩:=b4J h (u:=⟨s,false⟩) f2 hs.nd hl
       have hw2:Wt (p7 us s.b7 ⟨s,false⟩) hd wt:=hw.users h.o (λy hy=>by
        rw[M9,if_neg (λe=>by rw[e,f2] at hy;cases hy)])
       rw[if_neg (dF hg),if_neg hg,a2I,if_pos (by decide),g1,Option.bind_some];exact dgo g2 hn hw2 (s:=⟨s.b7,k⟩) (by simp[M9]) (by simp[prep,M9]) (b55 hk) hm hg _ _ _ _
    ·have hs2:(f9 us s.b7).isSome=true:=by rw[f4];rfl
     rw[f1,Option.bind_some,f4,a7z,if_pos (dT (by omega)),if_pos (by omega),Int.toNat_natCast];dsimp only;cases hp:(t.f_L.getD i default).L_ with
     |true=>rw[if_pos rfl,if_pos rfl];exact no 11
     |false=>
      rw[if_neg (by decide),if_neg (dF (by omega)),if_neg (by decide),b06 h.r h.o,Option.bind_some];by_cases hg:mode<=md hd ⟨s.b7,k⟩
      ·rw[if_pos (dT hg),if_pos hg];exact no 0
      ·rw[if_neg (dF hg),if_neg hg,a2I,if_neg (dF (by omega))]
       exact dgo h hn hw (s:=⟨s.b7,k⟩) hs2 (by rw[prep,f4,hp];rfl) (b55 hk) hm hg _ _ _ _
   ·have e:∀r:Rs,V6 (some (w8.mk [] [],1,t.f_L,t.d9,t.f0)) (if true=false\/true=false\/mode≠1/\mode≠2 then(oE,1,us,hd,wt) else r) (n+1):=λr=>by
     rw[if_pos (Or.inr (Or.inr (by omega)))];exact no 1
    by_cases h3:mode<1
    ·rw[if_pos (dT h3)];exact e _
    ·rw[if_neg (dF h3),if_pos (dT (by omega))];exact e _
abbrev Rr:=Option (Int×List Ur×List Gt×List Gt)
theorem b43(t:Tb)(x:Tx)(ks:List Ky){i:Nat}(hi:i<ks.length)(hz:t.d9.length<=100000)(hk:ks.length<=1000)(k0:Bool->Int->Rr):∀(fuel k:Nat) (b:Bool),t.d9.length - k<fuel->k<=t.d9.length->a0Q t x ks i k0 fuel b k=k0 (b||(t.d9.drop k).any λg=>decide (g.j8=ks.getD i default)) ((i+1:Nat):Int)
 |0,k,_,hf,_=>by omega
 |fuel+1,k,b,hf,hk' =>by
  rw[a0Q];by_cases hlt:k<t.d9.length
  ·have ih:=λb=>b43 t x ks hi hz hk k0 fuel (k+1) b (by omega) (by omega)
   rw[if_pos (dT (by omega)),sk (by omega),a41 _ _ k default hlt];cases b with
   |true=>rw[if_pos rfl,ih];simp
   |false=>rw[if_neg (by decide),if_pos (by omega),if_pos (by omega),ih,Int.toNat_natCast,Int.toNat_natCast,Bool.false_or]
  ·rw[if_neg (dF (by omega)),List.drop_eq_nil_of_le (by omega),sk (by omega)];simp
theorem b42(t:Tb)(x:Tx)(ks:List Ky)(b:Bool){i:Nat}(hi:i<ks.length)(hk:ks.length<=1000)(k0:Bool->Int->Rr):∀(fuel k:Nat),i - k<fuel->k<=i->a2N t x ks b i k0 fuel k=if ks.getD i default∈(ks.take i).drop k then some (1,t.f_L,t.d9,t.f0) else a0Q t x ks i k0 big b 0
 |0,k,hf,_=>by omega
 |fuel+1,k,hf,hk' =>by
  have hlen:(ks.take i).length=i:=by rw[List.length_take];omega
  rw[a2N];by_cases hlt:k<i
  ·have hg:(ks.take i).getD k default=ks.getD k default:=by
    rw[List.getD_eq_getElem?_getD,List.getElem?_take,if_pos hlt,List.getD_eq_getElem?_getD]
   rw[if_pos (dT (by omega)),if_pos (by omega),if_pos (by omega),Int.toNat_natCast,Int.toNat_natCast,O8 _ k default (by omega),hg,sk (by omega)];by_cases he:ks.getD k default=ks.getD i default
   ·rw[if_pos (dT he),if_pos (by rw[he];exact List.mem_cons_self)]
   ·rw[if_neg (dF he),b42 t x ks b hi hk k0 fuel (k+1) (by omega) (by omega)]
    simp only[List.mem_cons,show¬ks.getD i default=ks.getD k default from λe=>he e.symm,false_or]
  ·rw[if_neg (dF (by omega)),List.drop_eq_nil_of_le (by omega),if_neg (by simp)]
theorem b90(h:At t us hd wt n)(k:Ky):(t.d9.any λg=>decide (g.j8=k))=A_ hd k:=by
 rw[Bool.eq_iff_iff,A_,List.any_eq_true,Bool.not_eq_true'];constructor
 ·rintro⟨g,hg,e⟩
  have e:g.j8=k:=of_decide_eq_true e;have:g.b7∈C0 hd k:=P6.2 ⟨g.v8,by rw[<-e];exact h.hg hg⟩;cases hc:C0 hd k with
  |nil=>rw[hc] at this;cases this
  |cons _ _=>rfl
 ·intro hc
  cases hl:C0 hd k with
  |nil=>rw[hl] at hc;cases hc
  |cons x l=>
   obtain⟨m,hm⟩:=P6.1 (show x∈C0 hd k by rw[hl];exact List.mem_cons_self);exact⟨_,h.geth hm,dT rfl⟩
theorem b44(T:Tb)(x:Tx)(ks:List Ky)(hn:ks.Nodup)(hz:ks.length<=30):∀(fuel i:Nat) (t:Tb) (hd:Ps),ks.length - i<fuel->i<=ks.length->Rp t us hd wt->Uk hd->hd.length<=20000+i->(∀k∈ks.drop i,f9 hd ⟨x,k⟩=none)->
  ∃t' :Tb,a4l T x ks fuel i t.f_L t.d9 t.f0=some (0,t'.f_L,t'.d9,t'.f0)/\Rp t' us (hd++(ks.drop i).map (plc x)) wt
 |0,i,_,_,hf,_,_,_,_,_=>by omega
 |fuel+1,i,t,hd,hf,hi,r,hh,hl,hg=>by
  rw[a4l];by_cases hlt:i<ks.length
  ·have hnd:=hn.sublist (List.drop_sublist i ks)
   rw[O8 ks i default hlt] at hg hnd⊢;obtain⟨n1,_⟩:=List.nodup_cons.1 hnd;have hnone:=hg _ List.mem_cons_self;have hlen:t.d9.length=hd.length:=by rw[<-(a9z r.hu hh r.h).length_eq,List.length_map]
   have hms:=b2K (m:=hd) (k:=(⟨x,ks.getD i default⟩:Sl)) 2 hnone;have r2:=r.hold hh ⟨x,ks.getD i default,2⟩;have u2:=a5C hh (⟨x,ks.getD i default⟩:Sl) 2;rw[show v7 (⟨x,ks.getD i default,2⟩:Gt)=⟨x,ks.getD i default⟩ from rfl,hms] at r2;rw[hms] at u2;rw[if_pos (dT (by omega)),if_pos (by omega),Int.toNat_natCast,Option.bind_some,b4U _ _ (by show t.d9.length<=_;omega),Option.bind_some,sk (by omega)];obtain⟨t',e1,e2⟩:=b44 T x ks hn hz fuel (i+1) _ _ (by omega) (by omega) r2 u2 (by simp;omega) (λk hk=>by
    have h1:=hg k (List.mem_cons_of_mem _ hk);have h2:=M9 hd (⟨x,ks.getD i default⟩:Sl) 2 ⟨x,k⟩;rw[hms] at h2;rw[h2,if_neg (λe=>?_)]
    ·exact h1
    ·have h3:k=ks.getD i default:=congrArg TL.o7 e
     exact n1 (h3▸hk))
   refine⟨t',e1,?_⟩;rw[List.append_assoc] at e2;exact e2
  ·rw[if_neg (dF (by omega)),List.drop_eq_nil_of_le (by omega)]
   exact⟨t,rfl,by rw[List.map_nil,List.append_nil];exact r⟩
end
end Go.Proofs.YtddgjfclpknkcaaGreatDoor.Wk
set_option linter.unusedVariables false
set_option linter.unusedSimpArgs false
set_option linter.unusedSectionVars false
namespace Go.Proofs.YtddgjfclpknkcaaGreatDoor.Wk
open Go Go.Cn
section
variable {t:Tb}{us:Us}{hd wt:Ps}{n:Nat}
theorem b41(h:At t us hd wt n)(x:Tx)(ks:List Ky)(hk:∀k∈ks,J_ k)(hz:ks.length<=30):∀(fuel i:Nat),ks.length - i<fuel->i<=ks.length->(ks.take i).Nodup->(ks.take i).all U6=true->
  a0o t x ks fuel ((ks.take i).any (A_ hd)) i=if ks.all U6=false\/¬ks.Nodup then some (1,t.f_L,t.d9,t.f0) else
   (Y6 t x).bind λy=>if decide (0<=y)=true then some (7,t.f_L,t.d9,t.f0) else if ks.any (A_ hd)=true then some (11,t.f_L,t.d9,t.f0) else if decide (64<=(t.f_L.length:Int))=true then a9H t x ks else a7I t x ks
 |0,i,hf,_,_,_=>by omega
 |fuel+1,i,hf,hi,hn,hall=>by
  have hzh:=h.zh;rw[a0o];by_cases hlt:i<ks.length
  ·have ih:=b41 h x ks hk hz fuel (i+1) (by omega) (by omega)
   have hm:=R0 ks default hlt;rw[if_pos (dT (by omega)),if_pos (by omega),Int.toNat_natCast,b4X (hk _ hm),Option.bind_some];rw[a8d ks i default hlt] at ih;cases hmay:U6 (ks.getD i default) with
   |false=>
    rw[if_pos (by decide),if_pos (Or.inl ?_)];rw[Bool.eq_false_iff];intro ha;rw[List.all_eq_true] at ha;rw[ha _ hm] at hmay;cases hmay
   |true=>
    rw[if_neg (by decide),show a2N t x ks ((ks.take i).any (A_ hd)) i (a0o t x ks fuel) big 0=_ from b42 t x ks _ hlt (by omega) _ big 0 (F0 (by omega)) (by omega),List.drop_zero];by_cases hd0:ks.getD i default∈ks.take i
    ·rw[if_pos hd0,if_pos (Or.inr λhnk=>?_)]
     have:=hnk.sublist (List.take_sublist (i+1) ks);rw[a8d ks i default hlt,List.nodup_append] at this;exact this.2.2 _ hd0 _ List.mem_cons_self rfl
    ·rw[if_neg hd0,show a0Q t x ks i (a0o t x ks fuel) big ((ks.take i).any (A_ hd)) 0=_ from b43 t x ks hlt (by omega) (by omega) _ big 0 _ (F0 (by omega)) (by omega),List.drop_zero,b90 h]
     rw[List.any_append,List.any_cons,List.any_nil,Bool.or_false] at ih;refine ih ?_ ?_
     ·rw[List.nodup_append]
      exact⟨hn,List.nodup_cons.2 ⟨by simp,List.nodup_nil⟩,λa ha b hb=>by rw[List.mem_singleton.1 hb];exact λe=>hd0 (e▸ha)⟩
     ·rw[List.all_append,hall,List.all_cons,hmay];rfl
  ·rw[List.take_of_length_le (by omega)] at hn hall⊢
   rw[if_neg (dF (by omega)),if_neg (show¬(ks.all U6=false\/¬ks.Nodup) by simp only[hall,hn];simp)]
theorem c0b(h:At t us hd wt n)(hn:n<250)(x:Tx)(ks:List Ky)(hx:Wx x)(hk:∀k∈ks,J_ k)(hz:ks.length<=30):
  ∃t' :Tb,a7H t x ks=some ((P1 us hd x ks).1,t'.f_L,t'.d9,t'.f0)/\At t' (P1 us hd x ks).2.1 (P1 us hd x ks).2.2 wt (n+1):=by
 have no:∀e:Int,∃t' :Tb,some (e,t.f_L,t.d9,t.f0)=some (e,t'.f_L,t'.d9,t'.f0)/\At t' us hd wt (n+1):=λe=>⟨t,rfl,h.up (by omega) (by omega)⟩
 have ho2:=(b3p h.o hn x ks hz).2;have hl:=h.r.lu h.o;have e0:a0o t x ks big false 0=_:=b41 h x ks hk hz big 0 (F0 (by omega)) (by omega) (by simp) (by simp);rw[a7H,dtx hx,Option.bind_some,e0];unfold P1 at ho2⊢;by_cases c1:ks.all U6=false\/¬ks.Nodup
 ·rw[if_pos c1,if_pos c1]
  cases a1U x with
  |false=>rw[if_pos (by decide)];exact no 1
  |true=>rw[if_neg (by decide)];split<;>exact no 1
 ·rw[if_neg c1] at ho2⊢
  rw[if_neg c1];cases htm:a1U x with
  |false=>rw[if_pos (by decide),if_pos (Or.inl rfl)];exact no 1
  |true=>
   rw[if_neg (by decide)];rw[htm] at ho2;by_cases hke:ks=[]
   ·rw[if_pos (by simp[hke]),if_pos (Or.inr hke)];exact no 1
   ·have c2:¬(true=false\/ks=[]):=by simp[hke]
    rw[if_neg (by simpa using hke),if_neg c2];rw[if_neg c2] at ho2;rcases a2g h.r h.o x with⟨f1,f2⟩|⟨i,f1,f2,f3,f4⟩
    ·rw[f1,Option.bind_some,if_neg (by decide),f2,if_neg (show¬(none:Option TU).isSome=true by simp)]
     rw[f2,if_neg (show¬(none:Option TU).isSome=true by simp)] at ho2;cases ho:ks.any (A_ hd) with
     |true=>rw[if_pos rfl,if_pos rfl];exact no 11
     |false=>
      rw[if_neg (show¬false=true by decide),if_neg (show¬false=true by decide)];rw[ho,if_neg (by decide)] at ho2;by_cases h64:us.length=64
      ·rw[if_pos (dT (by omega)),if_pos h64];exact no 5
      ·have hnu:=h.o.nu
       rw[if_neg (dF (by omega)),if_neg h64,a7I,Option.bind_some];rw[if_neg h64] at ho2;obtain⟨t1,g1,g2⟩:=b4J h (u:=⟨⟨0,x⟩,true⟩) f2 hx.nd h64;have hkn:ks.Nodup:=by
        by_cases hc:ks.Nodup
        ·exact hc
        ·exact absurd (Or.inr hc) c1
       have zh:=h.o.nh;have zn:=h.o.nn;obtain⟨t2,r1,r2⟩:=b44 t x ks hkn hz big 0 t1 hd (F0 (by omega)) (by omega) g2.r g2.o.uh (by omega) (λk _=>by
        cases hg:f9 hd ⟨x,k⟩ with
        |none=>rfl
        |some v=>
         have:=h.o.hu _ (K6 hg);have f2:f9 us x=none:=f2;rw[f2] at this;cases this)
       rw[List.drop_zero] at r2;rw[g1,Option.bind_some];refine⟨t2,r1,⟨r2,ho2,g2.d,g2.k,g2.m,λe he=>?_⟩⟩;rcases List.mem_append.1 he with he|he
       ·exact h.q e he
       ·obtain⟨k',_,rfl⟩:=List.mem_map.1 he
        exact Or.inr rfl
    ·rw[f1,Option.bind_some,if_pos (dT (by omega)),f4,if_pos (show(some _:Option TU).isSome=true from rfl)];exact no 7
structure Wa(a:TA):Prop where
 x:Wx a.n5.b7
 k:J_ a.j8
 l:∀k∈a.K4,J_ k
theorem c0i(h:At t us hd wt n)(hn:n<250)(hb:Bt us hd wt){a:TA}(ha:Wa a)(hz:a.K4.length<=30):V6 (a5N t a) (S8 us hd wt a) (n+1):=by
 rw[a5N,S8];by_cases h2:Int.tmod a.S0 5=2
 ·obtain⟨t',e,o⟩:=(b95 h a.n5.b7 (λu hu hw=>hb.w.prepd h.o hu hw)).up (Nat.le_succ n) hn
  rw[if_pos (by simp[h2]),if_pos h2,e];exact⟨t',rfl,o⟩
 ·rw[if_neg (by simpa using h2),if_neg h2]
  by_cases h3:Int.tmod a.S0 5=3
  ·obtain⟨t',e,o⟩:=(c0a h hb.w a.n5.b7).up (Nat.le_succ n) hn
   rw[if_pos (by simp[h3]),if_pos h3,e];exact⟨t',rfl,o⟩
  ·rw[if_neg (by simpa using h3),if_neg h3]
   by_cases h4:Int.tmod a.S0 5=4
   ·obtain⟨t',e,o⟩:=c0b h hn a.n5.b7 a.K4 ha.x ha.l hz
    rw[if_pos (by simp[h4]),if_pos h4,e];exact⟨t',rfl,o⟩
   ·rw[if_neg (by simpa using h4),if_neg h4]
    obtain⟨t',e,o⟩:=b9W h hn hb.w a.n5 a.j8 a.v8 ha.x ha.k;rw[e];exact⟨t',rfl,o⟩
theorem b63(us:Us):∀(y:List Sl) (st:List TG×Ps×Ps),(y.foldl (M3 us) st).1.length<=st.1.length+y.length
 |[],st=>Nat.le_refl _
 |s::y,st=>by
  have:=b63 us y (M3 us st s);have h:(M3 us st s).1.length<=st.1.length+1:=by
   rw[M3];split
   ·simp
   ·omega
  simp only[List.foldl_cons,List.length_cons];omega
def Sml(o:Ot):Prop:=o.K2.length<=64/\o.H5.length<=250
theorem b2P{us:Us}{hd wt:Ps}(ho:Ok us hd wt n):(Y3 us hd wt).1.length<=250:=by
 have:=b63 us (P2 (ko us) (wt.map (·.1))) ([],hd,wt);rw[G_,List.length_map] at this;have:=ho.nw;have:=ho.nn;simp only[List.length_nil] at *;rw[Y3];omega
theorem b5M{us:Us}{hd wt:Ps}(ho:Ok us hd wt n)(hn:n<250){s:Sl}(hs:(f9 us s.m9).isSome=true)(mode:Int):Sml (x_ us hd wt s mode).1:=by
 have h1:=ho.wait hs (mx mode (md wt s)) hn;refine⟨?_,b2P (Ok.fold (O2 us hd (p7 wt s (mx mode (md wt s))) s) (st:=(us,hd,p7 wt s (mx mode (md wt s)))) h1)⟩;show(O2 us hd _ s).length<=64;rw[O2,G_];exact Nat.le_trans (List.length_filter_le _ _) (ho.at64 _)
theorem b92{us:Us}{hd wt:Ps}(ho:Ok us hd wt n)(hn:n<250)(a:TA):Sml (S8 us hd wt a).1:=by
 have no:Sml oE:=⟨by simp[oE],by simp[oE]⟩
 unfold S8;split
 ·unfold Y7
  split
  ·exact no
  ·rename_i u hu
   split
   ·exact no
   ·have hs:(f9 us a.n5.b7).isSome=true:=by simp[hu]
    exact⟨by simp,b2P ((ho.user (x:=a.n5.b7) (u:=⟨u.B7,true⟩) (ho.su _ (K6 hu)) (by rw[a9p _ hs];exact ho.nu)).filt _)⟩
 ·split
  ·unfold Z2
   split
   ·exact no
   ·exact⟨by simp,b2P (ho.gone _)⟩
  ·split
   ·exact no
   ·unfold V9
    split
    ·exact no
    ·split
     ·rename_i u hu
      split
      ·exact no
      ·split
       ·exact no
       ·exact b5M ho hn (s:=⟨a.n5.b7,a.j8⟩) (by simp[hu]) _
     ·split
      ·exact no
      ·rename_i hl
       split
       ·exact no
       ·have hlen:=a1r us a.n5.b7 ⟨a.n5,false⟩
        have hnu:=ho.nu;exact b5M (ho.user (x:=a.n5.b7) (u:=⟨a.n5,false⟩) rfl (by omega)) hn (s:=⟨a.n5.b7,a.j8⟩) (by simp[M9]) _
theorem b4Y(o:Ot)(hz:o.H5.length<=250):∀(fuel k:Nat) (l:List Gt),o.H5.length - k<fuel->k<=o.H5.length->l.length<=k->a4g o fuel k l=some ⟨o.K2,l++(o.H5.drop k).map gO⟩
 |0,k,_,hf,_,_=>by omega
 |fuel+1,k,l,hf,hk,hl=>by
  rw[a4g];by_cases hlt:k<o.H5.length
  ·rw[if_pos (dT (by omega)),if_pos (by omega),Int.toNat_natCast,Option.bind_some,l1,if_pos (by omega),sk (by omega),b4Y o hz fuel (k+1) _ (by omega) (by omega) (by simp;omega),O8 _ k default hlt,List.append_assoc];rfl
  ·rw[if_neg (dF (by omega)),List.drop_eq_nil_of_le (by omega),List.map_nil,List.append_nil]
theorem b94(o:Ot)(hz:o.H5.length<=250):a7w o=some (oO o):=b4Y o hz big 0 [] (F0 (by omega)) (by omega) (by simp)
theorem b8o(a:List Tx)(hz:a.length<=1000):∀(fuel k:Nat),a.length - k<fuel->k<=a.length->a36 a a fuel k=some true
 |0,k,hf,_=>by omega
 |fuel+1,k,hf,hk=>by
  rw[a36];by_cases hlt:k<a.length
  ·rw[if_pos (dT (by omega)),if_pos (by omega),if_pos (by omega),if_neg (nF rfl),sk (by omega)]
   exact b8o a hz fuel (k+1) (by omega) (by omega)
  ·rw[if_neg (dF (by omega))]
theorem b3Q(a:List Tx)(hz:a.length<=1000):a2B a a=some true:=by
 rw[a2B,if_neg (by simp)];exact b8o a hz big 0 (F0 (by omega)) (by omega)
theorem b8q(o:Ro)(hz:o.H5.length<=1000):∀(fuel k:Nat),o.H5.length - k<fuel->k<=o.H5.length->a4j o o fuel k=some true
 |0,k,hf,_=>by omega
 |fuel+1,k,hf,hk=>by
  rw[a4j];by_cases hlt:k<o.H5.length
  ·rw[if_pos (dT (by omega)),if_pos (by omega),if_pos (by omega),if_neg (nF rfl),sk (by omega)]
   exact b8q o hz fuel (k+1) (by omega) (by omega)
  ·rw[if_neg (dF (by omega))]
theorem c6v{o:Ot}(h:Sml o):a5P (oO o) (oO o)=some true:=by
 have hl:(oO o).H5.length<=250:=by rw[oO,List.length_map];exact h.2
 have h1:=h.1;rw[a5P,b3Q _ (by show o.K2.length<=_;omega),Option.bind_some,if_neg (by decide),if_neg (by simp)];exact b8q _ (by omega) big 0 (F0 (by omega)) (by omega)
theorem b47(t:Tb)(hz:t.f_L.length<=64):∀(fuel k:Nat) (l:List Tx),t.f_L.length - k<fuel->k<=t.f_L.length->l.length<=k->a4m t fuel k l=some (l++(t.f_L.drop k).map (·.n5.b7))
 |0,k,_,hf,_,_=>by omega
 |fuel+1,k,l,hf,hk,hl=>by
  rw[a4m];by_cases hlt:k<t.f_L.length
  ·rw[if_pos (dT (by omega)),if_pos (by omega),Int.toNat_natCast,l1,if_pos (by omega),sk (by omega),b47 t hz fuel (k+1) _ (by omega) (by omega) (by simp;omega),O8 _ k default hlt,List.append_assoc];rfl
  ·rw[if_neg (dF (by omega)),List.drop_eq_nil_of_le (by omega),List.map_nil,List.append_nil]
theorem c0g(h:At t us hd wt n):a5Y t=some (Z6 (λa b=>A0 (F4 a) (F4 b)) (us.map (·.1))):=by
 have hz:=h.zl;have e:a5Y t=some ([]++(t.f_L.drop 0).map (·.n5.b7)):=b47 t hz big 0 [] (F0 (by omega)) (by omega) (by simp);rw[e,List.drop_zero,List.nil_append];congr 1;refine(b8J b83 ?_ ?_).symm
 ·refine List.Pairwise.map _ (λa b hab=>?_) h.r.s
  have:=T_ (F4 a.n5.b7) (F4 b.n5.b7);have hab:A0 (F4 a.n5.b7) (F4 b.n5.b7)<0:=hab;show(!decide (A0 (F4 b.n5.b7) (F4 a.n5.b7)<0))=true;exact nT (by omega)
 ·rw[<-b6t];exact(h.r.pu h.o).map _
theorem b96(h:At t us hd wt n)(x:Tx):a5T t x=some (prep us x):=by
 rw[a5T,prep];rcases a2g h.r h.o x with⟨f1,f2⟩|⟨i,f1,f2,f3,f4⟩
 ·rw[f1,f2];rfl
 ·rw[f1,f4,Option.bind_some,if_pos (dT (by omega)),if_pos (by omega),Int.toNat_natCast];rfl
theorem c4M(us:Us)(hd wt:Ps)(x:Tx):a62 us hd wt x=some (prep us x):=by
 rw[a62,P9,Option.bind_some,prep];cases hg:f9 us x with
 |none=>rw[if_neg (by simp)];rfl
 |some u=>rw[if_pos (show(some u).isSome=true from rfl)];rfl
theorem c46(ho:Ok us hd wt n)(k:Ky):a63 us hd wt k=some (a9R us wt k)/\(a9R us wt k).length<=250:=by
 have zh:=ho.nh;have zn:=ho.nn;have zw:=ho.nw;have hat:=a8t wt k;refine⟨?_,by rw[a9R,G_];omega⟩;rw[a63,P9,Option.bind_some,a6A wt k (by omega),Option.bind_some,a82];refine a3s λl hl=>?_;have hp:=j7.exact hl;have hlen:=hp.length_eq;have hu:∀x∈l,(f9 us x).isSome=true:=λx hx=>by
  obtain⟨m,hm⟩:=P6.1 (hp.mem_iff.1 hx);exact ho.wu _ hm
 rw[b8G (by omega) hu (λx hx y hy e=>ho.inj (hu x hx) (hu y hy) e),Option.bind_some,if_pos (G_ _ _).symm,b8O ho hp hu];rfl
theorem a7h{p p' :Ps}(hu:Uk p)(hp:p.Perm p')(s:Sl):md p' s=md p s:=
 b2E hu (b0C hp hu) (λe he=>hp.mem_iff.2 he) (λe he _=>hp.mem_iff.1 he)
theorem c1u{us:Us}{hd wt hd' wt' :Ps}(hu:Uk hd)(hw:Uk wt)(h1:hd.Perm hd')(h2:wt.Perm wt')(s:Sl):I7 us hd' wt' s=I7 us hd wt s:=by
 have e1:p_ hd' wt' s=p_ hd wt s:=by funext x;rw[p_,p_,a7h hu h1,a7h hw h2]
 have e2:S9 us wt' s=S9 us wt s:=by funext x;rw[S9,S9,a7h hw h2,a7h hw h2]
 rw[I7,I7,e1,e2,a8q (a8u h1 _),a8q (a8u h2 _)]
theorem Bt.perm{us:Us}{hd wt hd' wt' :Ps}{n:Nat}(ho:Ok us hd wt n)(h:Bt us hd wt)(h1:hd.Perm hd')(h2:wt.Perm wt'):Bt us hd' wt' :=
 ⟨⟨λe he k hk=>h.w.w e (h2.mem_iff.2 he) k (h1.mem_iff.2 hk),λe he=>by rw[a7h ho.uh h1];exact h.w.g e (h2.mem_iff.2 he),λe he=>h.w.p e (h2.mem_iff.2 he),λe he=>h.w.m e (h2.mem_iff.2 he),λe he=>h.w.n e (h1.mem_iff.2 he)⟩,
  λe he=>by rw[c1u ho.uh ho.uw h1 h2];exact h.f e (h2.mem_iff.2 he)⟩
theorem At.perm(h:At t us hd wt n){hd' wt' :Ps}(h1:hd.Perm hd')(h2:wt.Perm wt'):At t us hd' wt' n:=
 ⟨⟨h.r.u,h.r.s,λe=>by rw[h.r.h,h1.mem_iff],λe=>by rw[h.r.w,h2.mem_iff],h.r.hu,h.r.wu⟩,h.o.perm h1 h2,h.d,λe he=>h.k e (h2.mem_iff.2 he),λe he=>h.m e (h2.mem_iff.2 he),λe he=>h.q e (h1.mem_iff.2 he)⟩
theorem b7o(h:At t us hd wt n):∀(fuel k:Nat),t.d9.length - k<fuel->k<=t.d9.length->a4d t.d9 us hd wt fuel k=some true
 |0,k,hf,_=>by omega
 |fuel+1,k,hf,hk=>by
  have hz:=h.zh;rw[a4d];by_cases hlt:k<t.d9.length
  ·rw[if_pos (dT (by omega)),if_pos (by omega),Int.toNat_natCast,b2I,Option.bind_some,show md hd ⟨(t.d9.getD k default).b7,(t.d9.getD k default).j8⟩=_ from h.hmd (R0 _ default hlt),if_neg (by simp),sk (by omega)]
   exact b7o h fuel (k+1) (by omega) (by omega)
  ·rw[if_neg (dF (by omega)),b4i];rfl
theorem b7n(y:List TA)(hl:y.length<=60)(hk:∀a∈y,a.K4.length<=30)(hw:∀a∈y,Wa a):∀(fuel i:Nat) (t:Tb) (us:Us) (hd wt:Ps),y.length - i<fuel->i<=y.length->At t us hd wt i->Bt us hd wt->a2E y fuel i t.f_L t.d9 t.f0 us hd wt=some true
 |0,i,_,_,_,_,hf,_,_,_=>by omega
 |fuel+1,i,t,us,hd,wt,hf,hi,h,hb=>by
  rw[a2E];by_cases hlt:i<y.length
  ·have hm:=R0 y default hlt
   have hsm:=b92 h.o (by omega) (y.getD i default);obtain⟨e1,o1⟩:=b91 h.o (by omega) (y.getD i default) (hk _ hm);have b1:=hb.does h.o (by omega) (y.getD i default) (hk _ hm);obtain⟨t',w1,a1⟩:=c0i h (by omega) hb (hw _ hm) (hk _ hm);rw[if_pos (dT (by omega)),if_pos (by omega),Int.toNat_natCast,e1,Option.bind_some,a9A];have w1:a5N (f7.mk t.f_L t.d9 t.f0) (y.getD i default)=_:=w1;rw[Int.toNat_natCast,w1];generalize S8 us hd wt (y.getD i default)=R at hsm o1 b1 a1;refine a3s λlh hlh=>a3s λlw hlw=>?_;have p1:=(j7.exact hlh).symm;have p2:=(j7.exact hlw).symm;have a2:=a1.perm p1 p2;have b2:=Bt.perm o1 b1 p1 p2;obtain⟨q1,q2⟩:=c46 a2.o (y.getD i default).j8;have hnu:=a2.o.nu;have znw:=a2.o.nw;have hus:(Z6 (λa b=>A0 (F4 a) (F4 b)) (R.2.2.1.map (·.1))).length<=64:=by rw[b30,List.length_map];exact hnu
   simp only[Option.bind_some];rw[b94 _ hsm.2,Option.bind_some,c6v hsm,Option.bind_some,if_neg (by decide),if_neg (by simp),c7q _ _ _ (by omega),Option.bind_some,show a5Y (f7.mk t'.f_L t'.d9 t'.f0)=_ from c0g a2,Option.bind_some,b3Q _ (by omega),Option.bind_some,if_neg (by decide),
    q1,Option.bind_some,show a7E (f7.mk t'.f_L t'.d9 t'.f0) (y.getD i default).j8=_ from b97 a2 _,Option.bind_some,b3Q _ (by omega),Option.bind_some,if_neg (by decide),
    b2I,Option.bind_some,show a0n (f7.mk t'.f_L t'.d9 t'.f0) (y.getD i default).n5.b7 (y.getD i default).j8=_ from b06 a2.r a2.o _ _,Option.bind_some,if_neg (by simp),
    b9d _ _ _ _ (by omega),Option.bind_some,show a4k (f7.mk t'.f_L t'.d9 t'.f0) (y.getD i default).n5.b7=_ from b49 a2 _,Option.bind_some,if_neg (by simp),
    c4M,Option.bind_some,show a5T (f7.mk t'.f_L t'.d9 t'.f0) (y.getD i default).n5.b7=_ from b96 a2 _,Option.bind_some,if_neg (by simp),sk (by omega)]
   exact b7n y hl hk hw fuel (i+1) t' R.2.2.1 lh lw (by omega) (by omega) a2 b2
  ·have hz:=h.zh
   rw[if_neg (dF (by omega))];exact b7o h big 0 (F0 (by omega)) (by omega)
end
theorem b9z:At ⟨[],[],[]⟩ [] [] [] 0:=⟨⟨λe=>Iff.rfl,List.Pairwise.nil,λe=>Iff.rfl,λe=>Iff.rfl,List.nodup_nil,List.nodup_nil⟩,b62,(λe he=>by cases he),(λe he=>by cases he),(λe he=>by cases he),(λe he=>by cases he)⟩
theorem plays_law(script:List TA)(h:(∀a∈script,X5 [.int .u8 a.S0]/\X5 [.int .u32 a.n5.B8,.int .u8 a.n5.b7.F3,.int .u32 a.n5.b7.D6,.int .u32 a.n5.b7.F5]/\X5 (kc a.j8)/\X5 [.int .u8 a.v8]/\((∀k∈a.K4,X5 (kc k))/\a.K4.length * 8<=140737488351232)/\True)/\script.length * 56<=140737488351232):a7t script=some true:=by
 rw[a7t,a5v,Option.bind_some,c02,Option.bind_some];cases hf:a8L script with
 |true=>rw[if_pos rfl,b4i];rfl
 |false=>
  rw[if_neg (by simp),b8s,Option.bind_some];have hlen:=List.length_take_le 60 script;refine b7n (script.take 60) hlen (c03 hf) (λa ha=>?_) big 0 ⟨[],[],[]⟩ [] [] [] (F0 (by omega)) (by omega) b9z b9H;obtain⟨_,h2,h3,_,h5,_⟩:=h.1 a (List.mem_of_mem_take ha);exact⟨⟨b9h (h2 _ (by simp)),b9g (h2 (.int .u32 a.n5.b7.D6) (by simp)),b9g (h2 (.int .u32 a.n5.b7.F5) (by simp))⟩,b9f _ h3,λk hk=>b9f _ (h5.1 k hk)⟩
end Go.Proofs.YtddgjfclpknkcaaGreatDoor.Wk
