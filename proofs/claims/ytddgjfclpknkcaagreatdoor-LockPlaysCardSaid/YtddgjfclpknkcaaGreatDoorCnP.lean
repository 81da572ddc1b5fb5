import Derived.Test.YtddgjfclpknkcaaGreatDoorCnO
namespace Go.Cn
open Go
def TD(D:Nat->Bool):Nat->List A1->List LV->List LV
 |_,[],T=>T
 |k,e::r,T=>TD D (k+1) r (if D k then e.putT T else T)
def HD(D:Nat->Bool):Nat->List A1->d7->d7
 |_,[],H=>H
 |k,e::r,H=>HD D (k+1) r (if D k then H.upd e.up else H)
def Q9:List A1->List LV->List LV
 |[],T=>T
 |e::r,T=>Q9 r (e.putT T)
def M7:List A1->d7->d7
 |[],H=>H
 |e::r,H=>M7 r (H.upd e.up)
theorem c4O(e:A1)(T:List LV):(e.putT T).length=T.length:=by
 unfold A1.putT;split<;>simp
theorem a7O(e:A1)(T:List LV)(t:Nat):(e.putT T)[t]?=if e.dst=some t then T[t]?.map (λ_=>e.v) else T[t]?:=by
 unfold A1.putT;split
 ·rename_i d hd
  rw[List.getElem?_set,hd];by_cases h:d=t
  ·subst h
   simp only[if_true];by_cases hl:d<T.length
   ·simp[hl]
   ·simp[hl]
  ·simp[h]
 ·rename_i hd
  simp[hd]
theorem b0L(D:Nat->Bool):∀(es:List A1) (k:Nat) (T:List LV),(TD D k es T).length=T.length
 |[],_,_=>rfl
 |e::r,k,T=>by
  simp only[TD,b0L D r];split
  ·exact c4O e T
  ·rfl
theorem a6w{D D' :Nat->Bool}(t:Nat):∀(es:List A1) (k:Nat) (T T' :List LV),(∀j e,es[j]?=some e->e.dst=some t->D (k+j)=D' (k+j))->T[t]?=T'[t]?->(TD D k es T)[t]?=(TD D' k es T')[t]?
 |[],_,_,_,_,h=>h
 |e::r,k,T,T',h,ht=>by
  simp only[TD];refine a6w t r (k+1) _ _ (λj e' hj hd=>by have:=h (j+1) e' (by simpa using hj) hd;rwa [show k+1+j=k+(j+1) from by omega]) ?_;by_cases hd:e.dst=some t
  ·have h0:=h 0 e (by simp) hd
   simp only[Nat.add_zero] at h0;rw[h0];split
   ·rw[a7O,a7O,ht]
   ·exact ht
  ·have:∀(b:Bool) (X:List LV),(if b=true then e.putT X else X)[t]?=X[t]?:=by
    intro b X;cases b
    ·rfl
    ·simp[a7O,hd]
   rw[this,this,ht]
def b6v(up:i9)(c:Nat):Option LO:=(d7.upd [] up).at c
theorem b0E:∀(up:i9) (H H' :d7) (c:Nat),up.has c=true->(H.upd up).at c=(H'.upd up).at c
 |[],_,_,_,h=>by simp[i9.has] at h
 |(d,o)::r,H,H',c,h=>by
  show((H.put d o).upd r).at c=((H'.put d o).upd r).at c;cases hr:i9.has r c with
  |true=>exact b0E r _ _ c hr
  |false=>
   rw[d7.at_upd_not r _ c hr,d7.at_upd_not r _ c hr,d7.at_put,d7.at_put];have hcd:d=c:=by simpa[i9.has,List.any_cons,show(r.any λx=>x.1==c)=false from hr] using h
   simp[hcd]
theorem a3n{D D' :Nat->Bool}(c:Nat):∀(es:List A1) (k:Nat) (H H' :d7),(∀j e,es[j]?=some e->e.up.has c=true->D (k+j)=D' (k+j))->H.at c=H'.at c->(HD D k es H).at c=(HD D' k es H').at c
 |[],_,_,_,_,h=>h
 |e::r,k,H,H',h,hc=>by
  simp only[HD];refine a3n c r (k+1) _ _ (λj e' hj hd=>by have:=h (j+1) e' (by simpa using hj) hd;rwa [show k+1+j=k+(j+1) from by omega]) ?_;cases hd:e.up.has c with
  |true=>
   have h0:=h 0 e (by simp) hd;simp only[Nat.add_zero] at h0;rw[h0];split
   ·exact b0E e.up H H' c hd
   ·exact hc
  |false=>
   have:∀(b:Bool) (X:d7),(if b=true then X.upd e.up else X).at c=X.at c:=by
    intro b X;cases b
    ·rfl
    ·simp[d7.at_upd_not e.up X c hd]
   rw[this,this,hc]
theorem a4S:∀(es:List A1) (k i:Nat) (T:List LV),TD (λj=>decide (j<k+i)) k es T=Q9 (es.take i) T
 |[],k,i,T=>by simp[TD,Q9]
 |e::r,k,0,T=>by
  have:=a4S r (k+1) 0 T;simp only[TD,Nat.add_zero,List.take_zero,Q9,Nat.lt_irrefl,decide_false,Bool.false_eq_true,if_false] at this⊢;have none:∀(r:List A1) (m:Nat),k<=m->TD (λj=>decide (j<k)) m r T=T:=by
   intro r
   induction r with
   |nil=>intro m _;rfl
   |cons f r ih=>
    intro m hm;simp only[TD,show¬m<k from by omega,decide_false,Bool.false_eq_true,if_false];exact ih (m+1) (by omega)
  exact none r (k+1) (by omega)
 |e::r,k,i+1,T=>by
  have:=a4S r (k+1) i (e.putT T);simp only[TD,List.take_succ_cons,Q9,show k<k+(i+1) from by omega,decide_true,if_true];rw[<-this];congr 1;funext j;rw[show k+1+i=k+(i+1) from by omega]
theorem a3o:∀(es:List A1) (k i:Nat) (H:d7),HD (λj=>decide (j<k+i)) k es H=M7 (es.take i) H
 |[],k,i,H=>by simp[HD,M7]
 |e::r,k,0,H=>by
  simp only[HD,Nat.add_zero,List.take_zero,M7,Nat.lt_irrefl,decide_false,Bool.false_eq_true,if_false];have none:∀(r:List A1) (m:Nat),k<=m->HD (λj=>decide (j<k)) m r H=H:=by
   intro r
   induction r with
   |nil=>intro m _;rfl
   |cons f r ih=>
    intro m hm;simp only[HD,show¬m<k from by omega,decide_false,Bool.false_eq_true,if_false];exact ih (m+1) (by omega)
  exact none r (k+1) (by omega)
 |e::r,k,i+1,H=>by
  have:=a3o r (k+1) i (H.upd e.up);simp only[HD,List.take_succ_cons,M7,show k<k+(i+1) from by omega,decide_true,if_true];rw[<-this];congr 1;funext j;rw[show k+1+i=k+(i+1) from by omega]
theorem b5y:∀(es:List A1) (i:Nat) (e:A1) (T:List LV),es[i]?=some e->Q9 (es.take (i+1)) T=e.putT (Q9 (es.take i) T)
 |[],_,_,_,h=>by simp at h
 |f::r,0,e,T,h=>by simp at h;subst h;simp[Q9]
 |f::r,i+1,e,T,h=>by simp at h;simp only[List.take_succ_cons,Q9];exact b5y r i e _ h
theorem b1J:∀(es:List A1) (i:Nat) (e:A1) (H:d7),es[i]?=some e->M7 (es.take (i+1)) H=(M7 (es.take i) H).upd e.up
 |[],_,_,_,h=>by simp at h
 |f::r,0,e,H,h=>by simp at h;subst h;simp[M7]
 |f::r,i+1,e,H,h=>by simp at h;simp only[List.take_succ_cons,M7];exact b1J r i e _ h
def a30(acc:List Nat):List Edge->Nat
 |[]=>0
 |e::r=>if Region.binds .any e then 2^e.on|||(acc.getD e.on 0|||a30 acc r) else a30 acc r
def b0T:List Oper->List Nat->List Nat
 |[],acc=>acc
 |o::r,acc=>b0T r (acc++[a30 acc o.after.toList])
def W6(e f:A1):Bool:=
 (match e.dst with|some d=>f.rd.contains d||f.dst==some d|none=>false)||(match f.dst with|some d=>e.rd.contains d|none=>false)||
 e.up.any (λx=>f.foot.contains x.1||f.up.has x.1)||f.up.any (λx=>e.foot.contains x.1)
abbrev a0A:=Option (Nat×Nat)
def a03(sf:a0A)(j:Nat)(e:A1):A1:=
 match sf with
 |some (j0,c0)=>if j=j0 then{e with foot:=e.foot.filter (· !=c0)} else e
 |none=>e
theorem a1R(sf:a0A)(j:Nat)(e:A1):(a03 sf j e).dst=e.dst/\(a03 sf j e).rd=e.rd/\(a03 sf j e).up=e.up:=by
 unfold a03;split
 ·split<;>exact⟨rfl,rfl,rfl⟩
 ·exact⟨rfl,rfl,rfl⟩
theorem b8E{sf:a0A}{j:Nat}{e:A1}{c:Nat}(hc:c∈e.foot)(h:sf≠some (j,c)):c∈(a03 sf j e).foot:=by
 unfold a03;split
 ·rename_i j0 c0
  split
  ·rename_i hj
   subst hj;simp only[List.mem_filter,bne_iff_ne,ne_eq];exact⟨hc,λe=>h (by rw[e])⟩
  ·exact hc
 ·exact hc
def b3Z(H0:d7)(es:List A1)(j c:Nat):Option Prop:=
 match es[j]?,H0.at c with
 |some f,some o1=>
  match b6v f.up c with
  |some o2=>if f.up.has c&&(es.take j).all (λe=>!(e.up.has c)) then some (LO.SubP o2 o1) else none
  |none=>none
 |_,_=>none
def a8m(H0:d7)(es:List A1):a0A->Prop
 |none=>True
 |some (j0,c0)=>(∃f o1 o2,es[j0]?=some f/\H0.at c0=some o1/\f.up.has c0=true/\b6v f.up c0=some o2/\LO.SubP o2 o1)/\∀i e,i<j0->es[i]?=some e->e.up.has c0=false
theorem c61{H0:d7}{es:List A1}{j c:Nat}{q:Prop}(h:b3Z H0 es j c=some q)(hq:q):a8m H0 es (some (j,c)):=by
 unfold b3Z at h;split at h<;>try cases h
 rename_i f o1 hf ho;split at h<;>try cases h
 rename_i o2 hu;split at h<;>cases h;rename_i hc;rw[Bool.and_eq_true] at hc;refine⟨⟨f,o1,o2,hf,ho,hc.1,hu,hq⟩,λi e hi he=>?_⟩;have:=List.all_eq_true.1 hc.2 e (List.mem_of_getElem? (i:=i) (by rw[List.getElem?_take,if_pos hi];exact he));simpa using this
def b4C(masks:List Nat)(sf:a0A)(es:List A1)(i j:Nat):Bool:=
 match es[i]?,es[j]? with
 |some e,some f=>!(W6 (a03 sf j e) f)||(masks.getD j 0).testBit i
 |_,_=>true
def a0D(ops:Array Oper)(sf:a0A)(es:List A1):Bool:=
 (List.range ops.size).all (λj=>match ops[j]? with|some o=>o.after.toList.all λe=>!(Region.binds .any e)||decide (e.on<j)|none=>true)&&
 (List.range es.length).all (λj=>(List.range j).all λi=>b4C (b0T ops.toList []) sf es i j)
def a12(ops:Array Oper)(D:Nat->Bool):Prop:=∀j o e,ops[j]?=some o->D j=true->e∈o.after.toList->Region.binds .any e=true->D e.on=true
theorem b2y{acc:List Nat}{i:Nat}:∀{es:List Edge},(a30 acc es).testBit i=true->∃e∈es,Region.binds .any e=true/\(e.on=i\/(acc.getD e.on 0).testBit i=true)
 |[],h=>by simp[a30] at h
 |e::r,h=>by
  unfold a30 at h;split at h
  ·rename_i hb
   rw[Nat.testBit_or,Nat.testBit_or,Bool.or_eq_true,Bool.or_eq_true] at h;rcases h with h|h|h
   ·rw[Nat.testBit_two_pow] at h
    exact⟨e,List.mem_cons_self,hb,.inl (by simpa using h)⟩
   ·exact⟨e,List.mem_cons_self,hb,.inr h⟩
   ·obtain⟨e',h1,h2⟩:=b2y h
    exact⟨e',List.mem_cons_of_mem _ h1,h2⟩
  ·obtain⟨e',h1,h2⟩:=b2y h
   exact⟨e',List.mem_cons_of_mem _ h1,h2⟩
theorem b4t{ops:Array Oper}{D:Nat->Bool}(hc:a12 ops D):∀(l:List Oper) (acc:List Nat),(∀j o,l[j]?=some o->ops[acc.length+j]?=some o)->
  (∀j i,(acc.getD j 0).testBit i=true->D j=true->D i=true)->∀j i,((b0T l acc).getD j 0).testBit i=true->D j=true->D i=true
 |[],acc,_,h=>h
 |o::r,acc,hl,h=>by
  refine b4t hc r (acc++[a30 acc o.after.toList]) (λj o' hj=>?_) (λj i hb hD=>?_)
  ·have:=hl (j+1) o' (by simpa using hj)
   rw[List.length_append,List.length_singleton]
   rwa [show acc.length+1+j=acc.length+(j+1) from by omega]
  ·by_cases hj:j<acc.length
   ·refine h j i ?_ hD
    rwa [List.getD_eq_getElem?_getD,List.getElem?_append_left hj,<-List.getD_eq_getElem?_getD] at hb
   ·by_cases hj2:j=acc.length
    ·subst hj2
     rw[List.getD_eq_getElem?_getD,List.getElem?_append_right (Nat.le_refl _)] at hb;simp at hb;obtain⟨e,h1,h2,h3⟩:=b2y hb;have hon:=hc acc.length o e (by have:=hl 0 o (by simp);simpa using this) hD h1 h2;rcases h3 with h3|h3
     ·rw[<-h3];exact hon
     ·exact h e.on i h3 hon
    ·rw[List.getD_eq_getElem?_getD,List.getElem?_eq_none (by simp;omega)] at hb
     simp at hb
theorem b9K{e f:A1}{t:Nat}(h:e.dst=some t)(k:t∈f.rd):W6 e f=true:=by
 unfold W6;have:f.rd.contains t=true:=by simpa using k
 simp only[h,this,Bool.true_or]
theorem b4F{e f:A1}{t:Nat}(h:e.dst=some t)(k:f.dst=some t):W6 e f=true:=by
 unfold W6;simp[h,k]
theorem b9L{e f:A1}{t:Nat}(h:t∈e.rd)(k:f.dst=some t):W6 e f=true:=by
 unfold W6;have:e.rd.contains t=true:=by simpa using h
 simp only[k,this,Bool.or_true,Bool.true_or]
theorem b9M{e f:A1}{c:Nat}(h:e.up.has c=true)(k:c∈f.foot):W6 e f=true:=by
 unfold W6;obtain⟨o,ho⟩:=i9.has_iff.1 h;have:(e.up.any λx=>f.foot.contains x.1||f.up.has x.1)=true:=List.any_eq_true.2 ⟨_,ho,by simp[k]⟩;simp only[this,Bool.or_true,Bool.true_or]
theorem a8y{e f:A1}{c:Nat}(h:e.up.has c=true)(k:f.up.has c=true):W6 e f=true:=by
 unfold W6;obtain⟨o,ho⟩:=i9.has_iff.1 h;have:(e.up.any λx=>f.foot.contains x.1||f.up.has x.1)=true:=List.any_eq_true.2 ⟨_,ho,by simp[k]⟩;simp only[this,Bool.or_true,Bool.true_or]
theorem b4G{e f:A1}{c:Nat}(h:c∈e.foot)(k:f.up.has c=true):W6 e f=true:=by
 unfold W6;obtain⟨o,ho⟩:=i9.has_iff.1 k;have:(f.up.any λx=>e.foot.contains x.1)=true:=List.any_eq_true.2 ⟨_,ho,by simpa using h⟩;simp only[this,Bool.or_true]
section
variable {P:Program}{ops:Array Oper}{es:List A1}{sf:a0A}
theorem b4D(h:a0D ops sf es=true){j:Nat}{o:Oper}{e:Edge}(ho:ops[j]?=some o)(he:e∈o.after.toList)(hb:Region.binds .any e=true):e.on<j:=by
 unfold a0D at h;rw[Bool.and_eq_true] at h;have hj:j<ops.size:=(Array.getElem?_eq_some_iff.1 ho).1;have:=List.all_eq_true.1 h.1 j (List.mem_range.2 hj);rw[ho] at this;have:=List.all_eq_true.1 this e he;simpa[hb] using this
theorem b0X(h:a0D ops sf es=true){i j:Nat}{e f:A1}(hi:es[i]?=some e)(hj:es[j]?=some f)(hlt:i<j)(hc:W6 (a03 sf j e) f=true){D:Nat->Bool}(hD:a12 ops D)(hDj:D j=true):D i=true:=by
 unfold a0D at h;rw[Bool.and_eq_true] at h;have hjl:j<es.length:=(List.getElem?_eq_some_iff.1 hj).1;have h1:=List.all_eq_true.1 (List.all_eq_true.1 h.2 j (List.mem_range.2 hjl)) i (List.mem_range.2 hlt);unfold b4C at h1;rw[hi,hj] at h1;simp only[hc,Bool.not_true,Bool.false_or] at h1;exact b4t hD ops.toList [] (λj o ho=>by simpa using ho) (λj i hb _=>by simp at hb) j i h1 hDj
def v_(D:Nat->Bool)(i:Nat):Nat->Bool:=λj=>if j=i then true else D j
theorem a4O{D:Nat->Bool}{i:Nat}:v_ D i i=true:=by simp[v_]
theorem a1W{D:Nat->Bool}{i j:Nat}(h:j≠i):v_ D i j=D j:=by simp[v_,h]
theorem a7R(h:a0D ops sf es=true){D:Nat->Bool}{i:Nat}{e:A1}(hi:es[i]?=some e)(hD:a12 ops D)(hU:a12 ops (v_ D i))(hn:D i=false){k:Nat}{f:A1}(hk:es[k]?=some f)
  (hc1:k<i->W6 (a03 sf i f) e=true) (hc2:i<k->W6 (a03 sf k e) f=true):D k=decide (k<i):=by
 rcases Nat.lt_trichotomy k i with hlt|rfl|hgt
 ·have:=b0X h hk hi hlt (hc1 hlt) hU a4O
  rw[a1W (by omega)] at this;simp[this,hlt]
 ·simp[hn]
 ·have h0:D k=false:=by
   cases hk' :D k with
   |false=>rfl
   |true=>
    have:=b0X h hi hk hgt (hc2 hgt) hD hk';rw[hn] at this;cases this
  simp[h0];omega
structure a4Q(w0:World)(W:Nat->Prop)(μ0:d5)(N0:Nat)(es:List A1)(T0:List LV)(H0:d7)(D:Nat->Bool)(μ:d5)(a:Act)(w:World):Prop where
 sim:H7 w0 W μ (HD D 0 es H0) w
 fr:a0z μ (TD D 0 es T0) a.tmps
 dom:∀c p,μ c=some p->c<N0\/∃k e,es[k]?=some e/\D k=true/\e.up.has c=true
 defs:a.defers=[]
 ext:a13 w0 W μ0 μ
theorem H7.congr{w0:World}{W:Nat->Prop}{μ:d5}{H H' :d7}{w:World}(s:H7 w0 W μ H w)(h:∀c,H'.at c=H.at c):H7 w0 W μ H' w:=
 s.weaken (λc o hc=>⟨o,by rw[<-h c];exact hc,by cases o<;>simp[O5]⟩)
theorem a8O:∀(es:List A1) (H:d7),H.length<=(M7 es H).length
 |[],H=>Nat.le_refl _
 |e::r,H=>Nat.le_trans (a1X e.up H).1 (a8O r _)
theorem b1I:∀(es:List A1) (H:d7) (k:Nat) (e:A1) (c:Nat),es[k]?=some e->e.up.has c=true->c<(M7 es H).length
 |[],_,_,_,_,h,_=>by simp at h
 |f::r,H,0,e,c,h,hc=>by
  simp at h;subst h;exact Nat.lt_of_lt_of_le ((a1X f.up H).2 c hc) (a8O r _)
 |f::r,H,k+1,e,c,h,hc=>by
  simp at h;exact b1I r _ k e c h hc
theorem H7.preSub{w0:World}{W:Nat->Prop}{μ:d5}{H:d7}{w:World}(s:H7 w0 W μ H w){pre:u6}(h:∀c o',(c,o')∈pre->∃o,H.at c=some o/\LO.SubP o o'):D2 μ pre w where
 obj' :=λc o' hc=>by
  obtain⟨o,ho,hs⟩:=h c o' hc;exact(s.obj' c o ho).imp (λ⟨x,y⟩=>⟨x,hs.sub.2.1 y⟩) (λ⟨p,x,y⟩=>⟨p,x,hs.sub.2.2 _ _ _ y⟩)
 sep:=λc o1 c' o2 p p' hc hc' hne hw=>by
  obtain⟨o,ho,hs⟩:=h c o1 hc;obtain⟨o',ho',hs'⟩:=h c' o2 hc';exact s.sep c o c' o' p p' ho ho' hne (by rw[hs.sub.1,hs'.sub.1];exact hw)
 fro:=s.fro
 frs:=λc o' p hc hw=>by
  obtain⟨o,ho,hs⟩:=h c o' hc;exact s.frs c o p ho (by rw[hs.sub.1];exact hw)
 tab:=s.tab
 xok:=λc o' p hc hp=>by
  obtain⟨o,ho,hs⟩:=h c o' hc;exact hs.xok (s.xok c o p ho hp)
 xsep:=λc o1 p b c' o2 p' hc hp hx hc' hp' =>by
  obtain⟨o,ho,hs⟩:=h c o1 hc;obtain⟨o',ho',hs'⟩:=h c' o2 hc';have:=s.xsep c o p b c' o' p' ho hp (hs.xtra hx) ho' hp';exact⟨this.1,λhne hx' =>this.2 hne (hs'.xtra hx')⟩
 xfrs:=λc o' p b hc hp hx=>by
  obtain⟨o,ho,hs⟩:=h c o' hc;exact s.xfrs c o p b ho hp (hs.xtra hx)
theorem y0.preSub{μ μ' :d5}{w w' :World}{pre pre2:u6}{up:i9}(d:y0 μ w pre up μ' w')(h1:∀c o',(c,o')∈pre->∃o,(c,o)∈pre2/\LO.SubP o o'):y0 μ w pre2 up μ' w' :=
 have tch:∀{b},I5 μ w pre up b->I5 μ w pre2 up b:=λ⟨c,o',p,g1,g2,g3,g4,g5⟩=>by
  obtain⟨o,k1,k2⟩:=h1 c o' g1;exact⟨c,o,p,k1,by rw[k2.sub.1];exact g2,g3,g4,g5.imp id k2.xtra⟩
 have hF:X7 μ pre2 w->X7 μ pre w:=λhf=>⟨hf.1,λc o' p hc hw hm=>by
   obtain⟨o,k1,k2⟩:=h1 c o' hc;exact hf.2.1 c o p k1 (by rw[k2.sub.1];exact hw) hm,λc o' p b hc hm hx=>by
   obtain⟨o,k1,k2⟩:=h1 c o' hc;exact hf.2.2 c o p b k1 hm (k2.xtra hx)⟩
 {d with
  keep:=λb hb hk=>d.keep b hb (λt=>hk (tch t))
  place:=λc o p hc hp=>(d.place c o p hc hp).imp id tch
  frn:=λb cs hb=>(d.frn b cs hb).imp id (λ⟨h1,h2⟩=>⟨h1,h2.imp id tch⟩)
  frs:=λhf=>d.frs (hF hf)
  xplace:=λc o p b hc hp hx=>(d.xplace c o p b hc hp hx).imp id tch
  xfrs:=λhf=>d.xfrs (hF hf)}
theorem a4Q.step{H0:d7}(hsf:a8m H0 es sf)(hchk:a0D ops sf es=true){w0:World}{W:Nat->Prop}{μ0 μ:d5}{T0:List LV}{D:Nat->Bool}{a:Act}{w:World}{i:Nat}{o:Oper}{hint:H6}{q:Prop}{e:A1}{K:Act->World->Prop}{Q:Exit->Act->World->Prop}
  (s:a4Q w0 W μ0 H0.length es T0 H0 D μ a w) (hi:es[i]?=some e) (ho:ops[i]?=some o) (hs:a4N P ops (M7 (es.take i) H0) (Q9 (es.take i) T0) o hint=some (q,e)) (hq:q)
  (hD:a12 ops D) (hU:a12 ops (v_ D i)) (hn:D i=false)
  (hK:∀μ' a' w',a4Q w0 W μ0 H0.length es T0 H0 (v_ D i) μ' a' w' ->K a' w'):wpOp P ops Q i K a w:=by
 have slot:∀t,t∈e.rd->(TD D 0 es T0)[t]?=(Q9 (es.take i) T0)[t]?:=by
  intro t ht;rw[<-a4S es 0 i T0];refine a6w t es 0 T0 T0 (λj f hj hd=>?_) rfl;simp only[Nat.zero_add];exact a7R hchk hi hD hU hn hj (λ_=>b9K ((a1R sf i f).1.trans hd) ht) (λ_=>b9L ((a1R sf j e).2.1▸ht) hd)
 have heapEq:∀c,c∈e.foot->(∀j0,sf=some (j0,c)->¬i<j0)->(HD D 0 es H0).at c=(M7 (es.take i) H0).at c:=by
  intro c hc hns;rw[<-a3o es 0 i H0];refine a3n c es 0 H0 H0 (λj f hj hd=>?_) rfl;simp only[Nat.zero_add];exact a7R hchk hi hD hU hn hj (λ_=>b9M ((a1R sf i f).2.2.symm▸hd) hc) (λhij=>b4G (b8E hc (λe=>hns j e hij)) hd)
 have heap:∀c,c∈e.foot->∀o',(M7 (es.take i) H0).at c=some o' ->∃o,(HD D 0 es H0).at c=some o/\LO.SubP o o' :=by
  intro c hc o' ho';by_cases hns:∀j0,sf=some (j0,c)->¬i<j0
  ·exact⟨o',by rw[heapEq c hc hns];exact ho',LO.SubP.refl _⟩
  ·obtain⟨j0,hj0,hij⟩:∃j0,sf=some (j0,c)/\i<j0:=by
    simp only[Classical.not_forall,Classical.not_not] at hns;obtain⟨j0,h1,h2⟩:=hns;exact⟨j0,h1,h2⟩
   have hsf' :=hsf;rw[hj0] at hsf';obtain⟨⟨f,o1,o2,g1,g2,g3,g4,g5⟩,lone⟩:=hsf';have base:∀D' :Nat->Bool,(∀j f',es[j]?=some f' ->f'.up.has c=true->D' j=false)->(HD D' 0 es H0).at c=H0.at c:=by
    intro D' hD';have h1:=a3n (D:=D') (D' :=λj=>decide (j<0+0)) c es 0 H0 H0 (λj f' hj hd=>by simp only[Nat.zero_add];rw[hD' j f' hj hd];simp) rfl;rw[h1,a3o es 0 0 H0];rfl
   have hfold:(M7 (es.take i) H0).at c=H0.at c:=by
    rw[<-a3o es 0 i H0];refine base _ (λj f' hj hd=>?_);simp only[Nat.zero_add,decide_eq_false_iff_not,Nat.not_lt];rcases Nat.lt_or_ge j i with h|h
    ·have:=lone j f' (by omega) hj
     rw[this] at hd;cases hd
    ·exact h
   rw[hfold,g2] at ho';cases ho';have late:∀j f',es[j]?=some f' ->f'.up.has c=true->j0<j->D j=false:=by
    intro j f' hj hd hlt;cases hDj:D j with
    |false=>rfl
    |true=>
     have h1:=b0X hchk hi hj (by omega) (b4G (b8E hc (λe=>by rw[hj0] at e;cases e;omega)) hd) hD hDj;rw[hn] at h1;cases h1
   cases hD0:D j0 with
   |false=>
    refine⟨o',?_,LO.SubP.refl _⟩;rw[base D (λj f' hj hd=>?_)]
    ·exact g2
    ·rcases Nat.lt_trichotomy j j0 with h|rfl|h
     ·have:=lone j f' h hj
      rw[this] at hd;cases hd
     ·exact hD0
     ·exact late j f' hj hd h
   |true=>
    refine⟨o2,?_,g5⟩;have h1:=a3n (D:=D) (D' :=λj=>decide (j<0+(j0+1))) c es 0 H0 H0 (λj f' hj hd=>by
     simp only[Nat.zero_add];rcases Nat.lt_trichotomy j j0 with h|rfl|h
     ·have:=lone j f' h hj
      rw[this] at hd;cases hd
     ·rw[hD0];simp
     ·rw[late j f' hj hd h];simp;omega) rfl
    rw[h1,a3o es 0 (j0+1) H0,b1J es j0 f H0 g1,b0E f.up _ [] c g3];exact g4
 have hpre:∀c o',(c,o')∈(M7 (es.take i) H0).pre e.foot->∃o,(HD D 0 es H0).at c=some o/\LO.SubP o o' :=by
  intro c o' h;obtain⟨h1,h2⟩:=d7.mem_pre.1 h;exact heap c h1 o' h2
 have needs:b0I μ (M7 (es.take i) H0) (Q9 (es.take i) T0) e a w:=by
  refine⟨λt l ht hl=>?_,s.sim.preSub hpre,λd hd hl=>?_⟩
  ·have h1:(TD D 0 es T0)[t]?=some l:=by rw[slot t ht];exact hl
   exact⟨s.fr.get t l h1,Nat.lt_of_lt_of_le (List.getElem?_eq_some_iff.1 h1).1 s.fr.size⟩
  ·cases hμ:μ d with
   |none=>rfl
   |some p=>
    exfalso;rcases s.dom d p hμ with h|⟨k,f,hk,hDk,hf⟩
    ·have:=a8O (es.take i) H0;omega
    ·have h1:=a7R hchk hi hD hU hn hk (λ_=>a8y ((a1R sf i f).2.2.symm▸hf) hd) (λ_=>a8y ((a1R sf k e).2.2.symm▸hd) hf)
     rw[hDk] at h1;have hki:k<i:=by simpa using h1.symm
     have:=b1I (es.take i) H0 k f d (by rw[List.getElem?_take,if_pos hki];exact hk) hf;omega
 have hdst:=(b0x (P:=P) (K:=λ_ _=>True) (Q:=λ_ _ _=>True) hs hq ho needs (λ_ _ _ _ _=>trivial)).2;refine(b0x (P:=P) hs hq ho needs (λx w' μ' hx hDl=>hK μ' _ w' ?_)).1;have hT:TD (v_ D i) 0 es T0=e.putT (TD D 0 es T0):=by
  apply List.ext_getElem?;intro t;rw[a7O];by_cases hd:e.dst=some t
  ·rw[if_pos hd]
   have h1:(TD (v_ D i) 0 es T0)[t]?=(Q9 (es.take (i+1)) T0)[t]?:=by
    rw[<-a4S es 0 (i+1) T0];refine a6w t es 0 T0 T0 (λj f hj hd' =>?_) rfl;simp only[Nat.zero_add];by_cases hji:j=i
    ·subst hji;simp[a4O]
    ·rw[a1W hji,a7R hchk hi hD hU hn hj (λ_=>b4F ((a1R sf i f).1.trans hd') hd) (λ_=>b4F ((a1R sf j e).1.trans hd) hd')]
     congr 1;exact propext ⟨λh=>by omega,λh=>by omega⟩
   rw[h1,b5y es i e T0 hi,a7O,if_pos hd];have l1:(TD D 0 es T0).length=T0.length:=b0L D es 0 T0;have l2:(Q9 (es.take i) T0).length=T0.length:=by rw[<-a4S es 0 i T0];exact b0L _ es 0 T0
   by_cases ht:t<T0.length
   ·rw[List.getElem?_eq_getElem (by omega),List.getElem?_eq_getElem (by omega)];rfl
   ·rw[List.getElem?_eq_none (by omega),List.getElem?_eq_none (by omega)]
  ·rw[if_neg hd]
   refine a6w t es 0 T0 T0 (λj f hj hd' =>?_) rfl;simp only[Nat.zero_add];by_cases hji:j=i
   ·subst hji;rw[hi] at hj;cases hj;exact absurd hd' hd
   ·exact a1W hji
 have hH:∀c,(HD (v_ D i) 0 es H0).at c=((HD D 0 es H0).upd e.up).at c:=by
  intro c;cases hc:e.up.has c with
  |true=>
   have h1:(HD (v_ D i) 0 es H0).at c=(M7 (es.take (i+1)) H0).at c:=by
    rw[<-a3o es 0 (i+1) H0];refine a3n c es 0 H0 H0 (λj f hj hd' =>?_) rfl;simp only[Nat.zero_add];by_cases hji:j=i
    ·subst hji;simp[a4O]
    ·rw[a1W hji,a7R hchk hi hD hU hn hj (λ_=>a8y ((a1R sf i f).2.2.symm▸hd') hc) (λ_=>a8y ((a1R sf j e).2.2.symm▸hc) hd')]
     congr 1;exact propext ⟨λh=>by omega,λh=>by omega⟩
   rw[h1,b1J es i e H0 hi];exact b0E e.up _ _ c hc
  |false=>
   rw[d7.at_upd_not e.up _ c hc];refine a3n c es 0 H0 H0 (λj f hj hd' =>?_) rfl;simp only[Nat.zero_add];by_cases hji:j=i
   ·subst hji;rw[hi] at hj;cases hj;rw[hc] at hd';cases hd'
   ·exact a1W hji
 have hDl2:y0 μ w ((HD D 0 es H0).pre e.foot) e.up μ' w' :=hDl.preSub (λc o' hc=>by
   obtain⟨h1,_⟩:=d7.mem_pre.1 hc;obtain⟨o,h3,h4⟩:=hpre c o' hc;exact⟨o,d7.mem_pre.2 ⟨h1,h3⟩,h4⟩)
 have hpre2:∀c o',(c,o')∈(HD D 0 es H0).pre e.foot->(HD D 0 es H0).at c=some o' :=λc o' h=>(d7.mem_pre.1 h).2;refine⟨?_,?_,?_,by rw[b7G];exact s.defs,s.ext.step s.sim hpre2 hDl2⟩
 ·exact(s.sim.step hpre2 hDl2).congr hH
 ·rw[hT];exact s.fr.put hDl.ext hdst hx
 ·intro c p h
  rcases hDl.dom c p h with h|⟨h,_⟩
  ·rcases s.dom c p h with h|⟨k,f,h1,h2,h3⟩
   ·exact .inl h
   ·refine .inr ⟨k,f,h1,?_,h3⟩
    by_cases hki:k=i
    ·subst hki;exact a4O
    ·rw[a1W hki];exact h2
  ·exact .inr ⟨i,e,hi,a4O,h⟩
theorem c7o{l:Array Bool}{i:Nat}(hi:i<l.size)(h:l.getD i true=false):((l.setIfInBounds i true).toList.filter (!·)).length+1=(l.toList.filter (!·)).length:=by
 obtain⟨L⟩:=l;simp only[List.size_toArray] at hi;simp only[Array.getD_eq_getD_getElem?,List.getElem?_toArray] at h;simp only[List.setIfInBounds_toArray]
 induction L generalizing i with
 |nil=>simp at hi
 |cons b r ih=>
  cases i with
  |zero=>simp at h;subst h;simp
  |succ i=>
   simp at hi h;have:=ih hi h;cases b<;>simp at this⊢<;>omega
theorem b4j{l:Array Bool}(h:(l.toList.filter (!·)).length=0)(i:Nat):l.getD i true=true:=by
 have h0:=List.eq_nil_of_length_eq_zero h;rw[List.filter_eq_nil_iff] at h0;simp only[Array.getD_eq_getD_getElem?];cases hi:l[i]? with
 |none=>rfl
 |some b=>
  have:=h0 b (by rw[<-Array.getElem?_toList] at hi;exact List.mem_of_getElem? hi);simpa using this
theorem b98{hints:List (Oper×H6)}{H0:d7}(hsf:a8m H0 es sf)(hchk:a0D ops sf es=true)(hsz:ops.size=es.length){w0:World}{W:Nat->Prop}{μ0:d5}{T0:List LV}{Q:Exit->Act->World->Prop}
  (hgood:∀i o,ops[i]?=some o->∃e hint q,es[i]?=some e/\a4N P ops (M7 (es.take i) H0) (Q9 (es.take i) T0) o hint=some (q,e)/\q)
  (hQ:∀μ a w,a4Q w0 W μ0 H0.length es T0 H0 (λ_=>true) μ a w->Q .normal a w):
  ∀(fuel:Nat) (l:Array Bool) (μ:d5) (a:Act) (w:World),(l.toList.filter (!·)).length=fuel->l.size=ops.size->a12 ops (λi=>l.getD i true)->a4Q w0 W μ0 H0.length es T0 H0 (λi=>l.getD i true) μ a w->
   wpAny P .any ops Q fuel l a w:=by
 have fin:∀(l:Array Bool) (μ:d5) (a:Act) (w:World),(l.toList.filter (!·)).length=0->a4Q w0 W μ0 H0.length es T0 H0 (λi=>l.getD i true) μ a w->Q .normal a w:=by
  intro l μ a w h hI;refine hQ μ a w ?_;have:(λi=>l.getD i true)=λ_=>true:=by funext i;exact b4j h i
  rw[this] at hI;exact hI
 have some_ready:∀(l:Array Bool),l.size=ops.size->Region.ready .any ops l=[]->(l.toList.filter (!·)).length=0:=by
  intro l hl hr;by_cases h:∃i,i<ops.size/\l.getD i true=false
  ·exfalso
   have least:∀k,(∃i,i<=k/\i<ops.size/\l.getD i true=false)->∃i,i<ops.size/\l.getD i true=false/\∀j,j<i->l.getD j true=true:=by
    intro k
    induction k with
    |zero=>
     rintro⟨i,h0,h1,h2⟩;exact⟨i,h1,h2,λj hj=>by omega⟩
    |succ k ih=>
     rintro⟨i,h0,h1,h2⟩;by_cases hlow:∃j,j<=k/\j<ops.size/\l.getD j true=false
     ·exact ih hlow
     ·refine⟨i,h1,h2,λj hj=>?_⟩
      cases hb:l.getD j true with
      |true=>rfl
      |false=>exact absurd ⟨j,by omega,by omega,hb⟩ hlow
   obtain⟨i0,h1,h2⟩:=h;obtain⟨i,hi1,hi2,hi3⟩:=least i0 ⟨i0,Nat.le_refl _,h1,h2⟩;have hmem:i∈Region.ready .any ops l:=by
    unfold Region.ready;rw[List.mem_filter,List.mem_range];refine⟨hi1,?_⟩;rw[hi2,Array.getElem?_eq_getElem hi1];simp only[Bool.not_false,Bool.true_and,Option.map_some,Option.getD_some];rw[Array.all_eq_true_iff_forall_mem];intro e he;cases hb:Region.binds .any e with
    |false=>simp
    |true=>
     have hlt:=b4D hchk (Array.getElem?_eq_getElem hi1) (Array.mem_toList_iff.2 he) hb;have:=hi3 e.on hlt;have hls:e.on<l.size:=by omega
     simp only[Bool.not_true,Bool.false_or];simp only[Array.getD_eq_getD_getElem?,Array.getElem?_eq_getElem hls] at this⊢;exact this
   rw[hr] at hmem;cases hmem
  ·refine List.length_eq_zero_iff.2 (List.filter_eq_nil_iff.2 (λb hb=>?_))
   obtain⟨i,hi⟩:=List.mem_iff_getElem?.1 hb;rw[Array.getElem?_toList] at hi;have hlt:i<l.size:=(Array.getElem?_eq_some_iff.1 hi).1;cases b with
   |true=>simp
   |false=>exact absurd ⟨i,by omega,by simp[Array.getD_eq_getD_getElem?,hi]⟩ h
 intro fuel
 induction fuel with
 |zero=>
  intro l μ a w h hl hc hI;refine⟨?_,fin l μ a w h hI⟩;refine List.eq_nil_iff_forall_not_mem.2 (λi hi=>?_);unfold Region.ready at hi;rw[List.mem_filter] at hi;have:=b4j h i;rw[this] at hi;simp at hi
 |succ fuel ih=>
  intro l μ a w h hl hc hI;refine⟨λhr=>fin l μ a w (some_ready l hl hr) hI,λi hi=>?_⟩;unfold Region.ready at hi;rw[List.mem_filter,List.mem_range,Bool.and_eq_true] at hi;obtain⟨hi1,hi2,hi3⟩:=hi;have hn:l.getD i true=false:=by simpa using hi2
  have ho:ops[i]?=some ops[i]:=Array.getElem?_eq_getElem hi1;rw[ho] at hi3;simp only[Option.map_some,Option.getD_some] at hi3;rw[Array.all_eq_true_iff_forall_mem] at hi3;obtain⟨e,hint,q,he,hs,hq⟩:=hgood i _ ho;have hup:(λj=>(l.setIfInBounds i true).getD j true)=v_ (λj=>l.getD j true) i:=by
   funext j;simp only[v_,Array.getD_eq_getD_getElem?,Array.getElem?_setIfInBounds];by_cases hj:i=j
   ·subst hj
    have:i<l.size:=by omega
    simp[this]
   ·simp[hj,Ne.symm hj]
  have hU:a12 ops (v_ (λj=>l.getD j true) i):=by
   intro j o ed ho' hD hed hb;by_cases hji:j=i
   ·subst hji
    rw[ho] at ho';cases ho';have h1:=hi3 ed (Array.mem_toList_iff.1 hed);rw[hb] at h1;simp only[Bool.not_true,Bool.false_or] at h1;by_cases hon:ed.on=j
    ·rw[hon];exact a4O
    ·rw[a1W hon]
     have hlt:=b4D hchk ho hed hb;have:l[ed.on]?=some l[ed.on]!\/True:=.inr trivial;have hsz' :ed.on<l.size:=by omega
     simp only[Array.getD_eq_getD_getElem?,Array.getElem?_eq_getElem hsz'] at h1⊢;exact h1
   ·rw[a1W hji] at hD
    have:=hc j o ed ho' hD hed hb;by_cases hon:ed.on=i
    ·rw[hon];exact a4O
    ·rw[a1W hon];exact this
  refine hI.step (P:=P) hsf hchk he ho hs hq hc hU hn (fun μ' a' w' hI' =>?_);refine ih (l.setIfInBounds i true) μ' a' w' ?_ (by simpa using hl) (by rw[hup];exact hU) (by rw[hup];exact hI');have:=c7o (l:=l) (i:=i) (by omega) hn;omega
end
end Go.Cn
