import Derived.Test.YtddgjfclpknkcaaGreatDoorCnN
namespace Go.Cn
open Go
structure A1 where
 dst:Option Tmp
 rd:List Tmp
 v:LV
 foot:List Nat
 up:i9
def A1.putT(e:A1)(T:List LV):List LV:=
 match e.dst with
 |some d=>T.set d e.v
 |none=>T
def b6{α:Type}(enc:α->List LV)(d:α)(l:List α)(i:Nat):List LV:=enc (l.getD i d)
def LO.Sub(a b:LO):Prop:=a.wr=b.wr/\(a.void->b.void)/\∀μ p h,w9 μ p h a->w9 μ p h b
theorem LO.Sub.refl(a:LO):a.Sub a:=⟨rfl,id,λ_ _ _=>id⟩
theorem O5.sub{a b:LO}(h:O5 a b):a.Sub b:=⟨h.wr,h.void,λ_ _ _=>w9.eqv h⟩
def LO.SubP(a b:LO):Prop:=match b.plain with|true=>LO.Sub a b|false=>a=b
theorem LO.SubP.sub{a b:LO}(h:LO.SubP a b):LO.Sub a b:=by
 unfold LO.SubP at h;split at h
 ·exact h
 ·exact h▸LO.Sub.refl a
theorem LO.SubP.or{a b:LO}(h:LO.SubP a b):b.plain=true\/a=b:=by
 unfold LO.SubP at h;split at h
 ·rename_i e;exact .inl e
 ·exact .inr h
theorem LO.SubP.refl(a:LO):a.SubP a:=by
 unfold LO.SubP;split
 ·exact LO.Sub.refl a
 ·rfl
theorem LO.SubP.xok{a b:LO}(h:LO.SubP a b){μ:d5}{w:World}{p:Pl}(r:D3 μ w p a):D3 μ w p b:=h.or.elim D3.plain (λe=>e▸r)
theorem LO.SubP.xtra{a b:LO}(h:LO.SubP a b){μ:d5}{w:World}{p:Pl}{x:Nat}(r:s9 μ w p b x):s9 μ w p a x:=h.or.elim (λe=>absurd r (s9.plain e)) (λe=>e▸r)
theorem LO.Sub.of_eq{a b:LO}(h:a=b):a.Sub b:=h▸LO.Sub.refl a
theorem Z8.length:∀{l m:List LV},Z8 l m->m.length=l.length
 |[],[],_=>rfl
 |_::_,_::_,h=>by simp[Z8.length h.2]
 |[],_::_,h=>h.elim
 |_::_,[],h=>h.elim
theorem LO.Sub.var{a b:List LV}(h:Z8 a b):(LO.var a).Sub (.var b):=
 ⟨rfl,id,fun μ p x ⟨h1,h2,cells,E,fr,h3,h4,h5,vs,h6,h7⟩=>⟨h1,by rw[h.length];exact h2,cells,E,fr,h3,h4,h5,vs,h.rel h6,h7⟩⟩
def N4(R:LO->LO->Prop)(os:List (Nat×LO)):i9->Prop×i9
 |[]=>(True,[])
 |(c,none)::r=>((N4 R os r).1,(c,none)::(N4 R os r).2)
 |(c,some o)::r=>
  match os.find? (·.1==c) with
  |some x=>((match x.2.plain with|true=>R o x.2|false=>o=x.2)/\(N4 R os r).1,(c,some x.2)::(N4 R os r).2)
  |none=>((N4 R os r).1,(c,some o)::(N4 R os r).2)
def b0t(xs:List Operand):List Tmp:=xs.filterMap fun
 | .tmp t=>some t
 |_=>none
def told(h:H6)(e:u9):Prop×LV×i9:=
 match h.v with
 |some u=>(e.ob/\LV.Le e.v u/\(N4 LO.Sub h.os e.up).1,u,(N4 LO.Sub h.os e.up).2)
 |none=>(e.ob/\(N4 LO.Sub h.os e.up).1,e.v,(N4 LO.Sub h.os e.up).2)
def a1f(h:H6)(e:u9):Option (Prop×LV×i9):=
 if h.fz then
  match b1L (told h e).2.2 (told h e).2.1 with
  |some (q,u,c)=>some ((told h e).1/\q,u,w_ c (told h e).2.2)
  |none=>none
 else some (told h e)
def a58(P:Program)(H:d7)(T:List LV)(o:Oper)(h:H6)(gs:List Tmp):Option (Prop×A1):=
 match eOp P H H.length h (B_ T) o.op with
 |some e=>
  match a1f h e with
  |some (q,v,up)=>some (q,⟨o.dst,gs++b0t o.op.operands.toList,v,e.foot,up⟩)
  |none=>none
 |none=>none
def a4N(P:Program)(ops:Array Oper)(H:d7)(T:List LV)(o:Oper)(h:H6):Option (Prop×A1):=
 match o.guard with
 |none=>a58 P H T o h []
 |some (j,want)=>
  match(ops[j]?).bind (·.dst) with
  |some d=>
   match T[d]? with
   |some (.bool b)=>if b==want then a58 P H T o h [d] else some (True,⟨o.dst,[d],.tup [],[],[]⟩)
   |some (.tup [])=>some (True,⟨o.dst,[d],.tup [],[],[]⟩)
   |_=>none
  |none=>none
section
variable {P:Program}
theorem a5D(R:LO->LO->Prop)(os:List (Nat×LO))(c:Nat):∀(up:i9),i9.has (N4 R os up).2 c=up.has c
 |[]=>rfl
 |(d,none)::r=>by
  have:=a5D R os c r;simp only[i9.has] at this⊢;simp[N4,this]
 |(d,some o)::r=>by
  have:=a5D R os c r;simp only[i9.has] at this⊢;unfold N4;split<;>simp[this]
theorem a9v{R:LO->LO->Prop}(hR:∀a b,R a b->LO.Sub a b)(os:List (Nat×LO)):∀(up:i9),(N4 R os up).1->∀c o,(c,some o)∈(N4 R os up).2->∃o0,(c,some o0)∈up/\LO.Sub o0 o/\(o.plain=true\/o0=o)
 |[],_,c,o,h=>by simp[N4] at h
 |(d,none)::r,hq,c,o,h=>by
  simp only[N4,List.mem_cons,Prod.mk.injEq,reduceCtorEq,and_false,false_or] at h hq;obtain⟨o0,h1,h2⟩:=a9v hR os r hq c o h;exact⟨o0,List.mem_cons_of_mem _ h1,h2⟩
 |(d,some o')::r,hq,c,o,h=>by
  unfold N4 at h hq;split at h
  ·rename_i x hx
   simp only[hx] at hq;rcases List.mem_cons.1 h with h|h
   ·simp only[Prod.mk.injEq,Option.some.injEq] at h
    obtain⟨rfl,rfl⟩:=h;have h1:=hq.1;split at h1
    ·rename_i e;exact⟨o',List.mem_cons_self,hR _ _ h1,.inl e⟩
    ·exact⟨o',List.mem_cons_self,h1▸LO.Sub.refl _,.inr h1⟩
   ·obtain⟨o0,h1,h2⟩:=a9v hR os r hq.2 c o h
    exact⟨o0,List.mem_cons_of_mem _ h1,h2⟩
  ·rename_i hx
   simp only[hx] at hq;rcases List.mem_cons.1 h with h|h
   ·simp only[Prod.mk.injEq,Option.some.injEq] at h
    obtain⟨rfl,rfl⟩:=h;exact⟨o,List.mem_cons_self,LO.Sub.refl o,.inr rfl⟩
   ·obtain⟨o0,h1,h2⟩:=a9v hR os r hq c o h
    exact⟨o0,List.mem_cons_of_mem _ h1,h2⟩
theorem b0A{R:LO->LO->Prop}{os:List (Nat×LO)}{μ:d5}{w:World}{pre:u6}{up:i9}{b:Nat}:I5 μ w pre (N4 R os up).2 b↔I5 μ w pre up b:=by
 constructor<;>rintro⟨e,o,p,h1,h2,h3,h4⟩
 ·exact⟨e,o,p,h1,h2,by rw[a5D] at h3;exact h3,h4⟩
 ·exact⟨e,o,p,h1,h2,by rw[a5D];exact h3,h4⟩
theorem y0.ov{R:LO->LO->Prop}(hR:∀a b,R a b->LO.Sub a b){μ μ' :d5}{w w' :World}{pre:u6}{up:i9}{os:List (Nat×LO)}(d:y0 μ w pre up μ' w')(hq:(N4 R os up).1):y0 μ w pre (N4 R os up).2 μ' w' :=
 have mem:=λc o (h:(c,some o)∈(N4 R os up).2)=>a9v hR os up hq c o h;have xx:∀{o0 o:LO} {p:Pl} {b:Nat},(o.plain=true\/o0=o)->s9 μ' w' p o b->s9 μ' w' p o0 b:=λh hx=>h.elim (λe=>absurd hx (s9.plain e)) (λe=>e▸hx)
 {ext:=d.ext
  dom:=λc p h=>by rw[a5D];exact d.dom c p h
  os:=d.os
  tape:=d.tape
  output:=d.output
  draws:=d.draws
  grow:=d.grow
  keep:=λb hb hk=>d.keep b hb (λt=>hk (b0A.2 t))
  obj:=λc o h=>by
   obtain⟨o0,h1,h2,_⟩:=mem c o h;exact(d.obj c o0 h1).imp (λ⟨x,y⟩=>⟨x,h2.2.1 y⟩) (λ⟨p,h3,h4⟩=>⟨p,h3,h2.2.2 _ _ _ h4⟩)
  place:=λc o p h hp=>by
   obtain⟨o0,h1,_⟩:=mem c o h;exact(d.place c o0 p h1 hp).imp id b0A.2
  sep:=λc o c' o' p p' h h' hne hw=>by
   obtain⟨o0,h1,h2,_⟩:=mem c o h;obtain⟨o0',h1',h2',_⟩:=mem c' o' h';exact d.sep c o0 c' o0' p p' h1 h1' hne (by rw[h2.1,h2'.1];exact hw)
  frn:=λb cs hb=>(d.frn b cs hb).imp id (λ⟨x,y⟩=>⟨x,y.imp id b0A.2⟩)
  frs:=λhf c o p h hw=>by
   obtain⟨o0,h1,h2,_⟩:=mem c o h;exact d.frs hf c o0 p h1 (by rw[h2.1];exact hw)
  xok:=λc o p h hp=>by
   obtain⟨o0,h1,_,h3⟩:=mem c o h;exact h3.elim D3.plain (λe=>e▸d.xok c o0 p h1 hp)
  xplace:=λc o p b h hp hx=>by
   obtain⟨o0,h1,_,h3⟩:=mem c o h;exact(d.xplace c o0 p b h1 hp (xx h3 hx)).imp id b0A.2
  xsep:=λc o p b c' o' p' h hp hx h' hp' =>by
   obtain⟨o0,h1,_,h3⟩:=mem c o h;obtain⟨o0',h1',_,h3'⟩:=mem c' o' h';have:=d.xsep c o0 p b c' o0' p' h1 hp (xx h3 hx) h1' hp';exact⟨this.1,λhne hx' =>this.2 hne (xx h3' hx')⟩
  xfrs:=λhf c o p b h hp hx=>by
   obtain⟨o0,h1,_,h3⟩:=mem c o h;exact d.xfrs hf c o0 p b h1 hp (xx h3 hx)}
theorem b7R{H:d7}{T:List LV}{o:Oper}{h:H6}{gs:List Tmp}{q:Prop}{e:A1}(hr:a58 P H T o h gs=some (q,e)):
  ∃ef,eOp P H H.length h (B_ T) o.op=some ef/\a1f h ef=some (q,e.v,e.up)/\e.dst=o.dst/\e.rd=gs++b0t o.op.operands.toList/\e.foot=ef.foot:=by
 unfold a58 at hr;split at hr<;>try cases hr
 rename_i ef he;split at hr<;>cases hr;rename_i hf;exact⟨ef,he,hf,rfl,rfl,rfl⟩
theorem b8X(h:H6)(e:u9)(d:Nat):(told h e).2.2.has d=e.up.has d:=by
 unfold told;split<;>exact a5D _ _ _ _
theorem c09{h:H6}{e:u9}{q:Prop}{v:LV}{up:i9}(hf:a1f h e=some (q,v,up))(d:Nat):up.has d=e.up.has d:=by
 unfold a1f at hf;split at hf
 ·split at hf<;>cases hf
  rw[a0b,b8X]
 ·have e1:=Option.some.inj hf
  have:=b8X h e d;rw[e1] at this;exact this
theorem b8Y{h:H6}{e:u9}{μ μ' :d5}{w w' :World}{pre:u6}{x:Value}(hq:(told h e).1)(d:y0 μ w pre e.up μ' w')(hx:i4 μ' e.v x):
  e.ob/\y0 μ w pre (told h e).2.2 μ' w' /\i4 μ' (told h e).2.1 x:=by
 unfold told at hq⊢;split at hq
 ·exact⟨hq.1,d.ov (λ_ _ h=>h) hq.2.2,hq.2.1 _ _ hx⟩
 ·exact⟨hq.1,d.ov (λ_ _ h=>h) hq.2,hx⟩
theorem c1a{h:H6}{e:u9}{q:Prop}{v:LV}{up:i9}(hf:a1f h e=some (q,v,up))(hq:q):e.ob:=by
 have:(told h e).1->e.ob:=by
  unfold told;split<;>exact λh=>h.1
 unfold a1f at hf;split at hf
 ·split at hf<;>cases hf
  exact this hq.1
 ·have e1:(told h e).1=q:=by have:=Option.some.inj hf;rw[this]
  exact this (e1▸hq)
theorem c1b{h:H6}{e:u9}{q:Prop}{v:LV}{up:i9}{μ μ' :d5}{w w' :World}{pre:u6}{x:Value}(hf:a1f h e=some (q,v,up))(hq:q)(d:y0 μ w pre e.up μ' w')(hp:X7 μ pre w)(hx:i4 μ' e.v x):
  ∃μ'',y0 μ w pre up μ'' w' /\i4 μ'' v x:=by
 unfold a1f at hf;split at hf
 ·split at hf<;>cases hf
  rename_i c hr;obtain⟨_,k1,k2⟩:=b8Y hq.1 d hx;exact c08 hr hq.2 k1 hp k2
 ·have e1:=Option.some.inj hf
  have hq' :(told h e).1:=by rw[e1];exact hq
  obtain⟨_,k1,k2⟩:=b8Y hq' d hx;rw[e1] at k1 k2;exact⟨μ',k1,k2⟩
structure b0I(μ:d5)(H:d7)(T:List LV)(e:A1)(a:Act)(w:World):Prop where
 rd:∀t l,t∈e.rd->T[t]?=some l->i4 μ l (a.tmps.getD t undef)/\t<a.tmps.size
 pre:D2 μ (H.pre e.foot) w
 free:∀d,e.up.has d=true->H.length<=d->μ d=none
theorem b7W{o:Oper}{a:Act}{w:World}{μ:d5}{pre:u6}{up:i9}{v:LV}{K:Act->World->Prop}{Q:Exit->Act->World->Prop}(h:B9 P o a w μ pre up v)
  (hK:∀x w' μ',i4 μ' v x->y0 μ w pre up μ' w' ->K (a.put o.dst x) w'):o.wp P a w K Q:=by
 unfold Oper.wp;rcases h with⟨x,w',μ',h1,h2,h3⟩|⟨f,vals,h1,h2⟩
 ·rcases h1 with h1|⟨h1,rfl⟩
  ·rw[h1,Oper.upon_value];exact hK x w' μ' h2 h3
  ·rw[h1,Oper.upon_skip];exact hK undef w' μ' h2 h3
 ·rw[h1,Oper.upon_enter]
  refine h2.mono λen w' ⟨x,μ',e1,e2,e3⟩=>?_;subst e1;exact hK x w' μ' e2 e3
theorem b0x{ops:Array Oper}{H:d7}{T:List LV}{i:Nat}{o:Oper}{h:H6}{q:Prop}{e:A1}{μ:d5}{a:Act}{w:World}{K:Act->World->Prop}{Q:Exit->Act->World->Prop}
  (hs:a4N P ops H T o h=some (q,e)) (hq:q) (hi:ops[i]?=some o) (hn:b0I μ H T e a w)
  (hK:∀x w' μ',i4 μ' e.v x->y0 μ w (H.pre e.foot) e.up μ' w' ->K (a.put o.dst x) w'):wpOp P ops Q i K a w/\e.dst=o.dst:=by
 have run:∀gs,(∀t∈gs,t∈e.rd)->a58 P H T o h gs=some (q,e)->(o.wp P a w K Q)/\e.dst=o.dst:=by
  intro gs hgs hr;obtain⟨ef,he,hf,e1,e2,e3⟩:=b7R hr;have h1:=c1a hf hq;have hops:∀x∈o.op.operands,i4 μ (B_ T x) (a.eval x):=by
   intro x hx;cases x with
   |tmp t=>
    simp only[B_,Act.eval];cases ht:T[t]? with
    |none=>simp[i4]
    |some l=>
     have hmem:t∈b0t o.op.operands.toList:=List.mem_filterMap.2 ⟨.tmp t,Array.mem_toList_iff.2 hx,rfl⟩;simpa using(hn.rd t l (by rw[e2];exact List.mem_append.2 (.inr hmem)) ht).1
   |const v=>
    simp only[B_,Act.eval];cases hv:ofV v with
    |none=>simp[i4]
    |some l=>simpa using b2N hv μ
   |global g=>simp[B_,i4]
   |func f=>exact⟨#[],#[],rfl,rfl,rfl⟩
  have hpre:=hn.pre;rw[e3] at hpre;have hr:=c0O (P:=P) (w:=w) he h1 hops hpre (λd hd hl=>hn.free d (by rw[c09 hf];exact hd) hl);refine⟨b7W hr (λx w' μ' hx hd=>?_),e1⟩;obtain⟨μ'',k1,k2⟩:=c1b hf hq hd hpre.froOK hx;refine hK x w' μ'' k2 ?_;rw[e3];exact k1
 unfold a4N at hs;split at hs
 ·rename_i hg
  obtain⟨h1,h2⟩:=run [] (λ_ h=>by cases h) hs;refine⟨?_,h2⟩;unfold wpOp;simp only[hi,Region.wanted,hg,if_true];exact .inl h1
 ·rename_i j want hg
  split at hs<;>try cases hs
  rename_i d hd;have skip:(∀b,yielded ops a.tmps j=some b->(b==want)=false)->(True,(⟨o.dst,[d],.tup [],[],[]⟩:A1))=(q,e)->wpOp P ops Q i K a w/\e.dst=o.dst:=by
   intro hy he;cases he;refine⟨?_,rfl⟩;unfold wpOp;have hne:(yielded ops a.tmps j==some want)=false:=by
    cases hyy:yielded ops a.tmps j with
    |none=>rfl
    |some b=>have:=hy b hyy;simpa using this
   simp only[hi,Region.wanted,hg,hne,Bool.false_eq_true,if_false];exact hK undef w μ ⟨#[],rfl,rfl⟩ (y0.refl μ w _)
  split at hs<;>try cases hs
  case h_2 hb=>
   refine skip (λb hy=>?_) rfl;obtain⟨h1,h2⟩:=hn.rd d _ (List.mem_singleton.2 rfl) hb;obtain⟨vs,h1,h3⟩:=h1;unfold yielded at hy;rw[hd] at hy;simp only[Option.bind_some,Array.getElem?_eq_getElem h2] at hy;have:a.tmps[d]=.tuple vs:=by rw[<-h1];simp[Array.getD,h2]
   rw[this] at hy;cases hy
  rename_i b hb;have guard:d∈e.rd->yielded ops a.tmps j=some b:=by
   intro hm;obtain⟨h1,h2⟩:=hn.rd d _ hm hb;simp only[i4] at h1;unfold yielded;rw[hd];simp only[Option.bind_some];rw[Array.getElem?_eq_getElem h2];have:a.tmps[d]=.bool b:=by rw[<-h1];simp[Array.getD,h2]
   rw[this]
  split at hs
  ·rename_i hbw
   have hbw' :b=want:=by simpa using hbw
   have hmem:d∈e.rd:=by
    obtain⟨_,_,_,_,e2,_⟩:=b7R hs;rw[e2];simp
   obtain⟨h1,h2⟩:=run [d] (λt ht=>by simp only[List.mem_singleton] at ht;subst ht;exact hmem) hs;refine⟨?_,h2⟩;unfold wpOp;simp only[hi,Region.wanted,hg,guard hmem,hbw',beq_self_eq_true,if_true];exact .inl h1
  ·rename_i hbw
   have he:=Option.some.inj hs;refine skip (λb' hy=>?_) he;have:d∈e.rd:=by cases he;simp
   rw[guard this] at hy;cases hy;simpa using hbw
structure a13(w0:World)(W:Nat->Prop)(μ0 μ:d5):Prop where
 ext:D7 μ0 μ
 new:∀b cs,μ.fro b=some cs->μ0.fro b=some cs\/W b\/w0.heap.size<=b
theorem a13.refl(w0:World)(W:Nat->Prop)(μ:d5):a13 w0 W μ μ:=⟨D7.refl μ,λ_ _ h=> .inl h⟩
theorem a13.step{w0:World}{W:Nat->Prop}{μ0 μ μ' :d5}{H:d7}{w w' :World}{pre:u6}{up:i9}(h:a13 w0 W μ0 μ)(s:H7 w0 W μ H w)(hp:∀c o,(c,o)∈pre->H.at c=some o)(d:y0 μ w pre up μ' w'):a13 w0 W μ0 μ' where
 ext:=h.ext.trans d.ext
 new:=λb cs hb=>by
  rcases d.frn b cs hb with hb|⟨_,hb|⟨c0,o0,p0,h0,hw,_,hm,rfl|hx⟩⟩
  ·exact h.new b cs hb
  ·exact .inr (.inr (Nat.le_trans s.grow hb))
  ·exact .inr (s.own c0 o0 p0 (hp _ _ h0) hw hm)
  ·exact .inr (s.xown c0 o0 p0 _ (hp _ _ h0) hm hx)
structure St(w0:World)(W:Nat->Prop)(μ0:d5)(μ:d5)(T:List LV)(H:d7)(a:Act)(w:World):Prop where
 sim:H7 w0 W μ H w
 fr:a0z μ T a.tmps
 dom:∀c p,μ c=some p->c<H.length
 defs:a.defers=[]
 ext:a13 w0 W μ0 μ
theorem a0z.put{μ μ' :d5}{T:List LV}{a:Act}{e:A1}{d:Option Tmp}{x:Value}(h:a0z μ T a.tmps)(hx:D7 μ μ')(hd:e.dst=d)(hv:i4 μ' e.v x):a0z μ' (e.putT T) (a.put d x).tmps:=by
 subst hd;unfold A1.putT Act.put;cases e.dst with
 |none=>exact⟨h.size,λt l ht=>(h.get t l ht).mono hx⟩
 |some d=>
  refine⟨by simp only[List.length_set,Array.size_setIfInBounds];exact h.size,λt l ht=>?_⟩;simp only[List.getElem?_set] at ht;split at ht
  ·rename_i hdt
   subst hdt;split at ht<;>cases ht;rename_i hl;have:=h.size;have hlt:d<a.tmps.size:=Nat.lt_of_lt_of_le hl this;simp only[Array.getD_eq_getD_getElem?,Array.getElem?_setIfInBounds,if_true,hlt,Option.getD_some];exact hv
  ·rename_i hdt
   simp only[Array.getD_eq_getD_getElem?,Array.getElem?_setIfInBounds,if_neg hdt];have:=(h.get t l ht).mono hx;simpa using this
theorem b7G{a:Act}{d:Option Tmp}{x:Value}:(a.put d x).defers=a.defers:=by cases d<;>rfl
theorem St.step{w0:World}{W:Nat->Prop}{μ0 μ μ' :d5}{T:List LV}{H:d7}{a:Act}{w w' :World}{e:A1}{d:Option Tmp}{x:Value}(s:St w0 W μ0 μ T H a w)(hd:e.dst=d)
  (hx:i4 μ' e.v x) (hD:y0 μ w (H.pre e.foot) e.up μ' w'):St w0 W μ0 μ' (e.putT T) (H.upd e.up) (a.put d x) w' where
 sim:=s.sim.step (λc o h=>(d7.mem_pre.1 h).2) hD
 fr:=s.fr.put hD.ext hd hx
 dom:=λc p h=>by
  rcases hD.dom c p h with h|⟨h,_⟩
  ·exact Nat.lt_of_lt_of_le (s.dom c p h) (a1X _ H).1
  ·exact(a1X _ H).2 c h
 defs:=by rw[b7G];exact s.defs
 ext:=s.ext.step s.sim (λc o h=>(d7.mem_pre.1 h).2) hD
theorem St.needs{w0:World}{W:Nat->Prop}{μ0 μ:d5}{T:List LV}{H:d7}{a:Act}{w:World}(s:St w0 W μ0 μ T H a w)(e:A1):b0I μ H T e a w where
 rd:=λt l _ ht=>⟨s.fr.get t l ht,Nat.lt_of_lt_of_le (List.getElem?_eq_some_iff.1 ht).1 s.fr.size⟩
 pre:=s.sim.pre (λc o h=>(d7.mem_pre.1 h).2)
 free:=λd _ hl=>by
  cases hd:μ d with
  |none=>rfl
  |some p=>have:=s.dom d p hd;omega
def a2X(P:Program)(ops:Array Oper):List (Oper×H6)->List LV->d7->Option (Prop×List A1×List LV×d7)
 |[],T,H=>some (True,[],T,H)
 |(o,h)::r,T,H=>
  match a4N P ops H T o h with
  |some (q,e)=>
   match a2X P ops r (e.putT T) (H.upd e.up) with
   |some (q',es,T',H')=>some (q/\q',e::es,T',H')
   |none=>none
  |none=>none
theorem b3l{ops:Array Oper}{w0:World}{W:Nat->Prop}{μ0:d5}{Q:Exit->Act->World->Prop}:∀(l:List (Oper×H6)) (k:Nat) (T:List LV) (H:d7) (q:Prop) (es:List A1) (T' :List LV) (H' :d7) (μ:d5) (a:Act) (w:World),
  a2X P ops l T H=some (q,es,T',H')->q->(∀j o h,l[j]?=some (o,h)->ops[k+j]?=some o)->St w0 W μ0 μ T H a w->
  (∀μ' a' w',St w0 W μ0 μ' T' H' a' w' ->Q .normal a' w')->wpOps P ops Q (List.range' k l.length) a w
 |[],k,T,H,q,es,T',H',μ,a,w,h,_,_,hs,hQ=>by
  cases h;exact hQ μ a w hs
 |(o,h0)::r,k,T,H,q,es,T',H',μ,a,w,h,hq,hl,hs,hQ=>by
  unfold a2X at h;split at h<;>try cases h
  rename_i q1 e he;split at h<;>cases h;rename_i q2 es2 hr;obtain⟨hq1,hq2⟩:=hq;have hi:ops[k]?=some o:=by have:=hl 0 o h0 (by simp);simpa using this
  rw[List.length_cons,List.range'_succ,wpOps_cons];refine(b0x (P:=P) he hq1 hi (hs.needs e) (λx w' μ' hx hD=>?_)).1;have hd:e.dst=o.dst:=(b0x (P:=P) (K:=λ_ _=>True) (Q:=λ_ _ _=>True) he hq1 hi (hs.needs e) (λ_ _ _ _ _=>trivial)).2;exact b3l r (k+1) _ _ q2 es2 T' H' μ' _ w' hr hq2 (λj o' h' hj=>by have:=hl (j+1) o' h' (by simpa using hj);rwa [show k+1+j=k+(j+1) from by omega]) (hs.step hd hx hD) hQ
end
end Go.Cn
