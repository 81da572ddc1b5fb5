import Derived.Test.YtddgjfclpknkcaaGreatDoorCnMa
namespace Go.Cn
open Go
def B_(T:List LV):Operand->LV
 | .tmp t=>(T[t]?).getD .any
 | .const v=>(ofV v).getD .any
 | .global _=> .any
 | .func f=> .fn f [] []
structure a0z(μ:d5)(T:List LV)(tmps:Array Value):Prop where
 size:T.length<=tmps.size
 get:∀t l,T[t]?=some l->i4 μ l (tmps.getD t undef)
theorem c3d{μ:d5}{T:List LV}{a:Act}(h:a0z μ T a.tmps)(x:Operand):i4 μ (B_ T x) (a.eval x):=by
 cases x with
 |tmp t=>
  simp only[B_,Act.eval];cases ht:T[t]? with
  |none=>simp[i4]
  |some l=>simpa using h.get t l ht
 |const v=>
  simp only[B_,Act.eval];cases hv:ofV v with
  |none=>simp[i4]
  |some l=>simpa using b2N hv μ
 |global g=>simp[B_,i4]
 |func f=>exact⟨#[],#[],rfl,rfl,rfl⟩
structure H6 where
 v:Option LV:=none
 os:List (Nat×LO):=[]
 fz:Bool:=false
 app:Nat:=1
 look:Option LV:=none
 call:Option (LV×u6×i9):=none
 ext:Option LV:=none
 cargs:Option (List LV):=none
 soft:Option Nat:=none
def j9(P:Program)(f:FuncId)(args:List LV)(pre:u6)(v:LV)(up:i9):Prop:=
 (∃fn,P.funcs[f]?=some fn/\fn.body.isSome=true/\(fn.name== "runtime.NumGoroutine")=false)/\
 ∀(μ:d5) (w:World) (vals:List Value),o6 μ args vals->D2 μ pre w->b4g μ pre up->
  Calls P f vals.toArray w λen w' =>∃x μ',en=.returned x/\i4 μ' v x/\y0 μ w pre up μ' w'
def b0H(P:Program)(f:FuncId)(args:List LV)(v:LV):Prop:=
 ∀(μ:d5) (w:World) (vals:List Value),o6 μ args vals->∃x,(callFunc f vals.toArray).run P w=.ok (.value x) w/\i4 μ v x
def LV.Le(a b:LV):Prop:=∀μ x,i4 μ a x->i4 μ b x
theorem LV.Le.refl(a:LV):a.Le a:=λ_ _ h=>h
theorem LV.Le.of_eq{a b:LV}(h:a=b):a.Le b:=h▸LV.Le.refl a
theorem LV.Le.trans{a b c:LV}(h:a.Le b)(k:b.Le c):a.Le c:=fun μ x r=>k μ x (h μ x r)
def Z8:List LV->List LV->Prop
 |[],[]=>True
 |a::l,b::m=>a.Le b/\Z8 l m
 |_,_=>False
theorem Z8.rel:∀{l m:List LV} {μ:d5} {vs:List Value},Z8 l m->o6 μ l vs->o6 μ m vs
 |[],[],_,_,_,r=>r
 |_::_,_::_,_,_,h,⟨v,r,e,a,b⟩=>⟨v,r,e,h.1 _ _ a,Z8.rel h.2 b⟩
 |[],_::_,_,_,h,_=>h.elim
 |_::_,[],_,_,h,_=>h.elim
theorem Z8.refl:∀(l:List LV),Z8 l l
 |[]=>trivial
 |a::l=>⟨LV.Le.refl a,Z8.refl l⟩
def LO.Le(a b:LO):Prop:=(b.wr=true->a.wr=true)/\(a.void->b.void)/\∀μ p h,w9 μ p h a->w9 μ p h b
theorem LO.Le.refl(a:LO):a.Le a:=⟨id,id,λ_ _ _ h=>h⟩
theorem LO.Le.trans{a b c:LO}(h:a.Le b)(k:b.Le c):a.Le c:=⟨λx=>h.1 (k.1 x),λx=>k.2.1 (h.2.1 x),fun μ p b x=>k.2.2 μ p b (h.2.2 μ p b x)⟩
theorem O5.le{a b:LO}(h:O5 a b):a.Le b:=⟨λx=>by rw[h.wr];exact x,h.void,λ_ _ _ r=>r.eqv h⟩
theorem LO.Le.ofVar(cs:List LV):(LO.var cs).Le (.row cs.length 1 (λ_=>cs) false):=by
 refine⟨λh=>rfl,λh=>h.elim,?_⟩;rintro μ p h ⟨h1,h2,cells,E,fr,h3,h4,h5,vs,h6,h7,h8⟩;refine⟨h2,by omega,cells,E,fr,h3,?_,λh=>(by cases h),?_⟩
 ·rw[h1,Nat.one_mul,<-h2];exact h4
 ·intro i hi
  have e:i=0:=by omega
  subst e;exact⟨vs,h6,h6.length,by simpa using h7,h8⟩
def O4(a b:LO):Prop:=match b.plain with|true=>LO.Le a b|false=>a=b
theorem O4.le{a b:LO}(h:O4 a b):LO.Le a b:=by
 unfold O4 at h;split at h
 ·exact h
 ·exact h▸LO.Le.refl a
theorem O4.or{a b:LO}(h:O4 a b):b.plain=true\/a=b:=by
 unfold O4 at h;split at h
 ·rename_i e;exact .inl e
 ·exact .inr h
theorem O4.refl(a:LO):O4 a a:=by
 unfold O4;split
 ·exact LO.Le.refl a
 ·rfl
theorem O4.xok{a b:LO}(h:O4 a b){μ:d5}{w:World}{p:Pl}(r:D3 μ w p a):D3 μ w p b:=h.or.elim D3.plain (λe=>e▸r)
theorem O4.xtra{a b:LO}(h:O4 a b){μ:d5}{w:World}{p:Pl}{x:Nat}(r:s9 μ w p b x):s9 μ w p a x:=h.or.elim (λe=>absurd r (s9.plain e)) (λe=>e▸r)
def a3q(H:d7):u6->Prop
 |[]=>True
 |(c,o)::r=>(match H.at c with|some o' =>O4 o' o|none=>False)/\a3q H r
theorem a3q.get{H:d7}:∀{pre:u6},a3q H pre->∀c o,(c,o)∈pre->∃o',H.at c=some o' /\O4 o' o
 |[],_,_,_,h=>by cases h
 |(d,p)::r,⟨h1,h2⟩,c,o,h=>by
  rcases List.mem_cons.1 h with e|h
  ·cases e
   cases hc:H.at d with
   |none=>simp[hc] at h1
   |some o' =>exact⟨o',rfl,by simpa[hc] using h1⟩
  ·exact a3q.get h2 c o h
def a7k(op:Builtin):List LV->Option LV
 |[.int k a,.int k' b]=>if k=k' then(match op with| .min=>some (.int k (if b<a then b else a))| .max=>some (.int k (if b>a then b else a))|_=>none) else none
 |_=>none
def a9o(op:Builtin):List LV->Option LV
 |[x,y]=>a7k op [x,y]
 |[x,y,z]=>match a7k op [x,y] with
  |some m=>a7k op [m,z]
  |none=>none
 |_=>none
def b1e(P:Program)(H:d7)(new:Nat)(h:H6)(ρ:Operand->LV)(c:Call):Option u9:=
 match c.callee with
 | .builtin .len=>match c.argTypes[0]?,c.args.toList with
  |some t,[x]=>b1r P H t (ρ x)
  |_,_=>none
 | .builtin .append=>match c.argTypes.toList,c.args.toList with
  |[st,xt],[s,x]=>if h.app=3 then b1b P H new st xt (ρ s) (ρ x) else a3B P H new st xt (ρ s) (ρ x) h.app
  |_,_=>none
 | .builtin .copy=>match c.argTypes[0]?,c.args.toList with
  |some t,[d,x]=>b1i P H t (ρ d) (ρ x)
  |_,_=>none
 | .builtin .delete=>match c.argTypes[0]?,c.args.toList with
  |some t,[m,k]=>b1l P H t (ρ m) (ρ k)
  |_,_=>none
 | .builtin .min=>(a9o .min (c.args.toList.map (ρ))).map .val
 | .builtin .max=>(a9o .max (c.args.toList.map (ρ))).map .val
 | .value f=>match ρ f with
  | .fn fid first cap=>match h.ext with
   |some v=>some ⟨b0H P fid (first++c.args.toList.map (ρ)++cap) v,v,[],[]⟩
   |none=>match h.call with
    |some (v,pre,up)=>
     if up.all (λx=>pre.any (λy=>y.1==x.1&&y.2.wr)||decide (new<=x.1)) then
      match h.cargs with
      |none=>some ⟨j9 P fid (first++c.args.toList.map (ρ)++cap) pre v up/\a3q H pre,v,pre.map (·.1),up⟩
      |some as=>some ⟨j9 P fid as pre v up/\Z8 (first++c.args.toList.map (ρ)++cap) as/\a3q H pre,v,pre.map (·.1),up⟩
     else none
    |none=>none
  |_=>none
 |_=>none
def a6V:Op->Bool
 | .call c=>match c.callee with
  | .value _=>true
  |_=>false
 |_=>false
def a8E(P:Program)(H:d7)(new:Nat)(h:H6)(ρ:Operand->LV):Op->Option u9
 | .move x| .assign x=>some (.val (ρ x))
 | .pick c a b=>match ρ c with
  | .bool true=>some (.val (ρ a))
  | .bool false=>some (.val (ρ b))
  |_=>none
 | .alloc t=>a6G P new t
 | .box _ x=>a42 new (ρ x)
 | .build t ps=>b1d P t (ps.toList.map λp=>(p.1,ρ p.2))
 | .buildSlice t n ps=>a6I P new t n (ps.toList.map λp=>(p.1,ρ p.2))
 | .load t a=>a0E P H t (ρ a)
 | .store t a x=>a8H P H t (ρ a) (ρ x)
 | .nilCheck x=>if b6Z (ρ x) then some (.val (ρ x)) else none
 | .binOp op t x y _=>b1c P op t (ρ x) (ρ y)
 | .unOp op _ x=>eUn op (ρ x)
 | .convert s d x=>match b1g P s d (ρ x) with
  |some e=>some e
  |none=>b1h P H new s d (ρ x)
 | .makeFunc (.func f) first cap=>some (.val (.fn f (first.toList.map (ρ)) (cap.toList.map (ρ))))
 | .makeMap t none=>a6J P new t
 | .slice t x lo hi mx=>b1v P H t (ρ x) (lo.map (ρ)) (hi.map (ρ)) (mx.map (ρ))
 | .fieldAddr t x f=>b1o P t (ρ x) f
 | .field t x f=>b1n P t (ρ x) f
 | .indexAddr t x i=>b1q P H t (ρ x) (ρ i)
 | .index t x i=>b1p P t (ρ x) (ρ i)
 | .lookup t m k ok=>b1t P H t (ρ m) (ρ k) ok h.look
 | .mapUpdate t m k v| .insert t m k v=>a6K P H t (ρ m) (ρ k) (ρ v)
 | .extract x i=>a8D (ρ x) i
 | .call c=>b1e P H new h ρ c
 |_=>none
def b1f(P:Program)(H:d7)(h:H6)(ρ:Operand->LV)(c:Call):Option u9:=
 match c.callee with
 | .builtin .len=>match c.argTypes[0]?,c.args.toList with
  |some t,[x]=>b1s P H t (ρ x)
  |_,_=>none
 | .builtin .delete=>match c.argTypes[0]?,c.args.toList with
  |some t,[m,k]=>if h.app<1000 then b1k P H t (ρ m) (ρ k) else b1j P H t (h.app - 1000) (ρ m) (ρ k)
  |_,_=>none
 |_=>none
def b5f(P:Program)(H:d7)(new:Nat)(h:H6)(ρ:Operand->LV):Op->Option u9
 | .range t x=>a8G P H new t (ρ x)
 | .entry it=>b1m H (ρ it)
 | .lookup t m k ok=>b1u P H t (ρ m) (ρ k) ok h.look
 | .mapUpdate t m k v| .insert t m k v=>a6L P H t (ρ m) (ρ k) (ρ v)
 | .call c=>b1f P H h ρ c
 |_=>none
def eOp(P:Program)(H:d7)(new:Nat)(h:H6)(ρ:Operand->LV)(o:Op):Option u9:=
 match a8E P H new h ρ o with
 |some e=>if e.up.plain||a6V o then some e else none
 |none=>b5f P H new h ρ o
def B9(P:Program)(o:Oper)(a:Act)(w:World)(μ:d5)(pre:u6)(up:i9)(v:LV):Prop:=
 (∃x w' μ',((execOp a.eval o).run P w=.ok (.value x) w' \/((execOp a.eval o).run P w=.ok .skip w' /\x=undef))/\i4 μ' v x/\y0 μ w pre up μ' w')\/
 (∃f vals,(execOp a.eval o).run P w=.ok (.enter f vals) w/\Calls P f vals w λen w' =>∃x μ',en=.returned x/\i4 μ' v x/\y0 μ w pre up μ' w')
section
variable {P:Program}
theorem B9.val{o:Oper}{a:Act}{w:World}{μ:d5}{pre:u6}{up:i9}{v:LV}{s:Sem Value}(hpl:up.plain=true)(h:w5 P s μ w pre up v)(he:execOp a.eval o=(do pure (.value (<-s)))):B9 P o a w μ pre up v:=by
 obtain⟨x,w',μ',h1,h2,h3⟩:=h;refine .inl ⟨x,w',μ',.inl ?_,h2,h3.to hpl⟩;rw[he];simp[h1]
theorem B9.valX{o:Oper}{a:Act}{w:World}{μ:d5}{pre:u6}{up:i9}{v:LV}{s:Sem Value}(h:a4R P s μ w pre up v)(he:execOp a.eval o=(do Pure.pure (.value (<-s)))):B9 P o a w μ pre up v:=by
 obtain⟨x,w',μ',h1,h2,h3⟩:=h;refine .inl ⟨x,w',μ',.inl ?_,h2,h3⟩;rw[he];simp[h1]
theorem B9.pure{o:Oper}{a:Act}{w:World}{μ:d5}{pre:u6}{v:LV}{x:Value}(h:i4 μ v x)(he:execOp a.eval o=Pure.pure (.value x)):B9 P o a w μ pre [] v:=
 .inl ⟨x,w,μ,.inl (by rw[he];rfl),h,y0.refl μ w pre⟩
theorem B9.unit{o:Oper}{a:Act}{w w' :World}{μ:d5}{pre:u6}{up:i9}{s:Sem Unit}(hpl:up.plain=true)(h:s.run P w=.ok () w')(d:A9 μ w pre up μ w')(he:execOp a.eval o=(do s;Pure.pure .skip)):B9 P o a w μ pre up .any:=by
 refine .inl ⟨undef,w',μ,.inr ⟨?_,rfl⟩,trivial,d.to hpl⟩;rw[he];simp[h]
theorem b2X{μ:d5}{ρ:Operand->LV}{a:Act}:∀(ps:List (Nat×Operand)),(∀p∈ps,i4 μ (ρ p.2) (a.eval p.2))->F2 (λ(x:Nat×LV) (y:Nat×Value)=>x.1=y.1/\i4 μ x.2 y.2) (ps.map λp=>(p.1,ρ p.2)) (ps.map λp=>(p.1,a.eval p.2))
 |[],_=> .nil
 |p::r,h=> .cons ⟨rfl,h p List.mem_cons_self⟩ (b2X r (λq hq=>h q (List.mem_cons_of_mem _ hq)))
theorem a7n{μ:d5}{ρ:Operand->LV}{a:Act}:∀(xs:List Operand),(∀x∈xs,i4 μ (ρ x) (a.eval x))->o6 μ (xs.map ρ) (xs.map a.eval)
 |[],_=>rfl
 |x::r,h=>⟨_,_,rfl,h x List.mem_cons_self,a7n r (λq hq=>h q (List.mem_cons_of_mem _ hq))⟩
theorem a5A{op:Builtin}{x y:LV}{z:LV}{vx vy:Value}{μ:d5}{w:World}(h:a7k op [x,y]=some z)(hx:i4 μ x vx)(hy:i4 μ y vy):
  (op=.min->∃v,(Builtin.min2 vx vy).run P w=.ok v w/\i4 μ z v)/\(op=.max->∃v,(Builtin.max2 vx vy).run P w=.ok v w/\i4 μ z v):=by
 unfold a7k at h;split at h<;>try cases h
 rename_i k a k' b e;simp only[List.cons.injEq,and_true] at e;obtain⟨rfl,rfl⟩:=e;simp only[i4] at hx hy;subst hx hy;split at h<;>try cases h
 rename_i hk;subst hk;constructor
 ·rintro rfl
  cases h;exact⟨_,by simp[Builtin.min2],rfl⟩
 ·rintro rfl
  cases h;exact⟨_,by simp[Builtin.max2],rfl⟩
theorem b2R{μ:d5}{ρ:Operand->LV}{a:Act}(x:Option Operand)(hf:∀y,x=some y->i4 μ (ρ y) (a.eval y)):(∀l,x.map ρ=some l->∃b,x.map a.eval=some b/\i4 μ l b)/\(x.map ρ=none->x.map a.eval=none):=by
 cases x with
 |none=>exact⟨λl h=>by simp at h,λ_=>rfl⟩
 |some y=>exact⟨λl h=>by simp at h;subst h;exact⟨_,rfl,hf y rfl⟩,λh=>by simp at h⟩
theorem c0s{H:d7}{new:Nat}{h:H6}{ρ:Operand->LV}{c:Call}{o:Oper}{e:u9}{μ:d5}{w:World}{a:Act}(hc:o.op=.call c)(he:b1e P H new h ρ c=some e)(hob:e.ob)(hf:∀x∈o.op.operands,i4 μ (ρ x) (a.eval x))
  (hpN:D2 μ (H.pre e.foot) w) (hpl:e.up.plain=true\/a6V o.op=true) (hn:∀d,e.up.has d=true->new<=d->μ d=none):B9 P o a w μ (H.pre e.foot) e.up e.v:=by
 have hp:=hpN.zero;have hq:∀{b:Builtin},c.callee=.builtin b->e.up.plain=true:=λhb=>hpl.resolve_right (by rw[hc];simp[a6V,hb]);have hx:∀{b:Builtin} (hb:c.callee=.builtin b),∃cs,execOp a.eval o=builtin b c.argTypes o.type cs (c.args.map a.eval):=by
  intro b hb;simp only[execOp,hc,resolve,hb,pure_bind,invoke];exact⟨_,rfl⟩
 have hfa:∀x∈c.args.toList,i4 μ (ρ x) (a.eval x):=λx hx=>hf x (by
  rw[hc];simp only[Op.operands,Call.operands,Array.mem_append];exact .inr (Array.mem_toList_iff.1 hx))
 have hargs:∀{l:List Operand},c.args.toList=l->c.args.map a.eval=(l.map a.eval).toArray:=by
  intro l hl;rw[<-hl];apply Array.ext';simp
 unfold b1e at he;split at he
 ·rename_i hb
  split at he<;>try cases he
  rename_i t x hat hl;obtain⟨h1,h2⟩:=c0G (P:=P) (ty:=o.type) he hat (hfa x (by rw[hl];simp)) hp;rw[h2];refine B9.val (by first|exact hq hb|rfl) h1 ?_;obtain⟨cs,hcs⟩:=hx hb;rw[hcs,hargs hl];rfl
 ·rename_i hb
  split at he<;>try cases he
  rename_i st xt s x hat hl;have hat' :c.argTypes=#[st,xt]:=by apply Array.ext';simpa using hat
  have h1:w5 P (Builtin.append_ #[st,xt] o.type #[a.eval s,a.eval x]) μ w (H.pre e.foot) e.up e.v:=by
   split at he
   ·exact c0m (P:=P) (ty:=o.type) he hob (hfa s (by rw[hl];simp)) (hfa x (by rw[hl];simp)) (λh=>hn new h (Nat.le_refl _)) hp
   ·exact a6H (P:=P) (ty:=o.type) he hob (hfa s (by rw[hl];simp)) (hfa x (by rw[hl];simp)) (λh=>hn new h (Nat.le_refl _)) hp
  refine B9.val (by first|exact hq hb|rfl) h1 ?_;obtain⟨cs,hcs⟩:=hx hb;rw[hcs,hargs hl,hat'];rfl
 ·rename_i hb
  split at he<;>try cases he
  rename_i t d x hat hl;have h1:=c0v (P:=P) (ty:=o.type) he hat hob (hfa d (by rw[hl];simp)) (hfa x (by rw[hl];simp)) hp;refine B9.val (by first|exact hq hb|rfl) h1 ?_;obtain⟨cs,hcs⟩:=hx hb;rw[hcs,hargs hl];rfl
 ·rename_i hb
  split at he<;>try cases he
  rename_i t m k hat hl;have h1:=c0y (P:=P) (ty:=o.type) he hat hob (hfa m (by rw[hl];simp)) (hfa k (by rw[hl];simp)) hp;refine B9.val (by first|exact hq hb|rfl) h1 ?_;obtain⟨cs,hcs⟩:=hx hb;rw[hcs,hargs hl];rfl
 ·rename_i hb
  simp only[Option.map_eq_some_iff] at he;obtain⟨z,hz,rfl⟩:=he;have key:∃v,(Builtin.min_ c.argTypes o.type (c.args.map a.eval)).run P w=.ok v w/\i4 μ z v:=by
   rw[show c.args.map a.eval=(c.args.toList.map a.eval).toArray from hargs rfl];generalize c.args.toList=l at hz hfa;unfold a9o at hz;split at hz
   ·rename_i x y e
    match l,e with
    |[p,q],e=>
     simp only[List.map_cons,List.map_nil,List.cons.injEq,and_true] at e;obtain⟨rfl,rfl⟩:=e;obtain⟨v,h1,h2⟩:=(a5A (P:=P) (w:=w) hz (hfa p (by simp)) (hfa q (by simp))).1 rfl;exact⟨v,by simp[Builtin.min_,h1],h2⟩
   ·rename_i x y z' e
    split at hz<;>try cases hz
    rename_i m hm
    match l,e with
    |[p,q,r],e=>
     simp only[List.map_cons,List.map_nil,List.cons.injEq,and_true] at e;obtain⟨rfl,rfl,rfl⟩:=e;obtain⟨v,h1,h2⟩:=(a5A (P:=P) (w:=w) hm (hfa p (by simp)) (hfa q (by simp))).1 rfl;obtain⟨v',h3,h4⟩:=(a5A (P:=P) (w:=w) hz h2 (hfa r (by simp))).1 rfl;exact⟨v',by simp[Builtin.min_,h1,h3],h4⟩
   ·cases hz
  obtain⟨v,h1,h2⟩:=key;refine B9.val (by first|exact hq hb|rfl) (w5.same h1 h2) ?_;obtain⟨cs,hcs⟩:=hx hb;rw[hcs];rfl
 ·rename_i hb
  simp only[Option.map_eq_some_iff] at he;obtain⟨z,hz,rfl⟩:=he;have key:∃v,(Builtin.max_ c.argTypes o.type (c.args.map a.eval)).run P w=.ok v w/\i4 μ z v:=by
   rw[show c.args.map a.eval=(c.args.toList.map a.eval).toArray from hargs rfl];generalize c.args.toList=l at hz hfa;unfold a9o at hz;split at hz
   ·rename_i x y e
    match l,e with
    |[p,q],e=>
     simp only[List.map_cons,List.map_nil,List.cons.injEq,and_true] at e;obtain⟨rfl,rfl⟩:=e;obtain⟨v,h1,h2⟩:=(a5A (P:=P) (w:=w) hz (hfa p (by simp)) (hfa q (by simp))).2 rfl;exact⟨v,by simp[Builtin.max_,h1],h2⟩
   ·rename_i x y z' e
    split at hz<;>try cases hz
    rename_i m hm
    match l,e with
    |[p,q,r],e=>
     simp only[List.map_cons,List.map_nil,List.cons.injEq,and_true] at e;obtain⟨rfl,rfl,rfl⟩:=e;obtain⟨v,h1,h2⟩:=(a5A (P:=P) (w:=w) hm (hfa p (by simp)) (hfa q (by simp))).2 rfl;obtain⟨v',h3,h4⟩:=(a5A (P:=P) (w:=w) hz h2 (hfa r (by simp))).2 rfl;exact⟨v',by simp[Builtin.max_,h1,h3],h4⟩
   ·cases hz
  obtain⟨v,h1,h2⟩:=key;refine B9.val (by first|exact hq hb|rfl) (w5.same h1 h2) ?_;obtain⟨cs,hcs⟩:=hx hb;rw[hcs];rfl
 ·rename_i fo hb
  split at he<;>try cases he
  rename_i fid first cap hfo
  split at he
  ·cases he
   have hfr:=hf fo (by rw[hc];simp only[Op.operands,Call.operands,hb,Array.mem_append];exact .inl (by simp));rw[hfo] at hfr;obtain⟨vf,vc,hev,rf,rc⟩:=hfr;have hrl:o6 μ (first++c.args.toList.map ρ++cap) (vf.toList++c.args.toList.map a.eval++vc.toList):=(rf.append (a7n _ hfa)).append rc;obtain⟨x,h1,h2⟩:=hob μ w _ hrl;refine .inl ⟨x,w,μ,.inl ?_,h2,y0.refl μ w _⟩;have hargs' :vf++c.args.map a.eval++vc=(vf.toList++c.args.toList.map a.eval++vc.toList).toArray:=by
    apply Array.ext';simp
   simp only[execOp,hc,resolve,hb,hev,Deferred.ofValue,Sem.run_bind,Sem.run_pure,Result.andThen_ok,invoke,hargs',h1]
  split at he<;>try cases he
  rename_i v pre up hcall;split at he<;>try cases he
  rename_i hall;suffices main:∀as,(j9 P fid as pre v up/\Z8 (first++c.args.toList.map ρ++cap) as/\a3q H pre)->D2 μ (H.pre (pre.map (·.1))) w->(∀d,up.has d=true->new<=d->μ d=none)->B9 P o a w μ (H.pre (pre.map (·.1))) up v by
   split at he<;>cases he
   ·exact main _ ⟨hob.1,Z8.refl _,hob.2⟩ hpN hn
   ·exact main _ hob hpN hn
  intro as hob hpN hn;obtain⟨⟨⟨fn,hfn,hbody,hname⟩,tri⟩,hle,hpre⟩:=hob;have hfr:=hf fo (by rw[hc];simp only[Op.operands,Call.operands,hb,Array.mem_append];exact .inl (by simp));rw[hfo] at hfr;obtain⟨vf,vc,hev,rf,rc⟩:=hfr;have hrl:o6 μ (first++c.args.toList.map ρ++cap) (vf.toList++c.args.toList.map a.eval++vc.toList):=(rf.append (a7n _ hfa)).append rc;have hpre' :D2 μ pre w:=by
   have up' :∀d o',(d,o')∈pre->∃o'',O4 o'' o' /\(d,o'')∈H.pre (pre.map (·.1)):=by
    intro d o' hd;obtain⟨o'',h1,h2⟩:=hpre.get d o' hd;exact⟨o'',h2,d7.mem_pre.2 ⟨List.mem_map.2 ⟨_,hd,rfl⟩,h1⟩⟩
   refine⟨λd o' hd=>?_,λd o1 d' o2 p p' hd hd' hne hw=>?_,hpN.fro,λd o1 p hd hw=>?_,hpN.tab,λd o1 p hd hp1=>?_,λd o1 p b d' o2 p' hd hp1 hx hd' hp2=>?_,λd o1 p b hd hp1 hx=>?_⟩
   ·obtain⟨o'',h2,h1⟩:=up' d o' hd
    exact(hpN.obj' d o'' h1).imp (λ⟨x,y⟩=>⟨x,h2.le.2.1 y⟩) (λ⟨p,hp1,hp2⟩=>⟨p,hp1,h2.le.2.2 _ _ _ hp2⟩)
   ·obtain⟨o1',h2,h1⟩:=up' d o1 hd
    obtain⟨o2',h4,h3⟩:=up' d' o2 hd';exact hpN.sep d o1' d' o2' p p' h1 h3 hne (hw.imp h2.le.1 h4.le.1)
   ·obtain⟨o1',h2,h1⟩:=up' d o1 hd
    exact hpN.frs d o1' p h1 (h2.le.1 hw)
   ·obtain⟨o1',h2,h1⟩:=up' d o1 hd
    exact h2.xok (hpN.xok d o1' p h1 hp1)
   ·obtain⟨o1',h2,h1⟩:=up' d o1 hd
    obtain⟨o2',h4,h3⟩:=up' d' o2 hd';have:=hpN.xsep d o1' p b d' o2' p' h1 hp1 (h2.xtra hx) h3 hp2;exact⟨this.1,λhne hx' =>this.2 hne (h4.xtra hx')⟩
   ·obtain⟨o1',h2,h1⟩:=up' d o1 hd
    exact hpN.xfrs d o1' p b h1 hp1 (h2.xtra hx)
  have hfits:b4g μ pre up:=by
   intro d hd;obtain⟨o',ho'⟩:=i9.has_iff.1 hd;have:=List.all_eq_true.1 hall _ ho';simp only[Bool.or_eq_true,List.any_eq_true,Bool.and_eq_true,beq_iff_eq,decide_eq_true_eq] at this;rcases this with⟨y,hy,e1,e2⟩|h
   ·left;exact⟨y.2,by rw[<-e1];exact hy,e2⟩
   ·right;exact hn d hd h
  refine .inr ⟨fid,(vf.toList++c.args.toList.map a.eval++vc.toList).toArray,?_,?_⟩
  ·have hargs' :vf++c.args.map a.eval++vc=(vf.toList++c.args.toList.map a.eval++vc.toList).toArray:=by
    apply Array.ext';simp
   have hb' :fn.body.isNone=false:=by cases hq:fn.body<;>simp[hq] at hbody⊢
   simp only[execOp,hc,resolve,hb,hev,Deferred.ofValue,Sem.run_bind,Sem.run_pure,Result.andThen_ok,invoke,callFunc,run_program,hfn,hname,Bool.false_eq_true,if_false,hb',hargs']
  ·refine(tri μ w _ (hle.rel hrl) hpre' hfits).mono λen w' ⟨x,μ',h1,h2,h3⟩=>⟨x,μ',h1,h2,?_⟩
   have back:∀b,I5 μ w pre up b->I5 μ w (H.pre (pre.map (·.1))) up b:=by
    rintro b ⟨d,o',p,hd,hw,hu,hm,hb⟩;obtain⟨o'',h1,h2⟩:=hpre.get d o' hd;exact⟨d,o'',p,d7.mem_pre.2 ⟨List.mem_map.2 ⟨_,hd,rfl⟩,h1⟩,h2.le.1 hw,hu,hm,hb.imp id h2.xtra⟩
   exact{h3 with
    keep:=λb hb hk=>h3.keep b hb (λt=>hk (back b t))
    place:=λd o' p hd hm=>(h3.place d o' p hd hm).imp id (back _)
    frn:=λb cs hb=>(h3.frn b cs hb).imp id (λ⟨x,y⟩=>⟨x,y.imp id (back _)⟩)
    frs:=λ_=>h3.frs hpre'.froOK
    xplace:=λd o' p b hd hm hx=>(h3.xplace d o' p b hd hm hx).imp id (back _)
    xfrs:=λ_=>h3.xfrs hpre'.froOK}
 ·cases he
theorem b5c{new:Nat}{x:LV}{e:u9}(h:a42 new x=some e):e.up.has new=true:=by
 unfold a42 at h;split at h<;>cases h;simp[i9.has]
theorem c0l{new:Nat}{t:TypeId}{e:u9}(h:a6G P new t=some e):e.up.has new=true:=by
 unfold a6G at h;split at h<;>try cases h
 exact b5c h
theorem c0p{new n:Nat}{t:TypeId}{ps:List (Nat×LV)}{e:u9}(h:a6I P new t n ps=some e):e.up.has new=true:=by
 unfold a6I at h;split at h<;>try cases h
 split at h<;>try cases h
 split at h<;>cases h;simp[i9.has]
theorem c0M{new:Nat}{t:TypeId}{e:u9}(h:a6J P new t=some e):e.up.has new=true:=by
 unfold a6J at h;split at h<;>try cases h
 split at h<;>cases h;simp[i9.has]
theorem c0N{H:d7}{new:Nat}{h:H6}{ρ:Operand->LV}{o:Oper}{e:u9}{μ:d5}{w:World}{a:Act}(he:a8E P H new h ρ o.op=some e)(hpl:e.up.plain=true\/a6V o.op=true)(hob:e.ob)(hf:∀x∈o.op.operands,i4 μ (ρ x) (a.eval x))
  (hpN:D2 μ (H.pre e.foot) w) (hn:∀d,e.up.has d=true->new<=d->μ d=none):B9 P o a w μ (H.pre e.foot) e.up e.v:=by
 have hp:=hpN.zero;have hq:a6V o.op=false->e.up.plain=true:=λh=>hpl.resolve_right (by rw[h];decide);have hnew:=λh=>hn new h (Nat.le_refl _);have hf0:=hf;cases hop:o.op<;>rw[hop] at he hf<;>simp only[a8E] at he<;>simp only[Op.operands] at hf
 case move x=>cases he;exact B9.pure (hf x (by simp)) (by simp[execOp,hop])
 case assign x=>cases he;exact B9.pure (hf x (by simp)) (by simp[execOp,hop])
 case pick c x y=>
  have hc:=hf c (by simp);split at he<;>cases he
  ·rename_i hcv
   rw[hcv] at hc;simp only[i4] at hc;exact B9.pure (hf x (by simp)) (by simp[execOp,hop,hc,asBool])
  ·rename_i hcv
   rw[hcv] at hc;simp only[i4] at hc;exact B9.pure (hf y (by simp)) (by simp[execOp,hop,hc,asBool])
 case alloc t=>
  obtain⟨h1,h2⟩:=c0k (P:=P) (w:=w) (pre:=H.pre e.foot) he (hnew (c0l he));exact B9.val (by first|exact hq (by rw[hop];rfl)|rfl) h1 (by simp[execOp,hop])
 case box t x=>
  obtain⟨h1,h2⟩:=b5b (P:=P) (t:=t) (w:=w) (pre:=H.pre e.foot) he (hf x (by simp)) (hnew (b5c he));exact B9.val (by first|exact hq (by rw[hop];rfl)|rfl) h1 (by simp[execOp,hop])
 case build t ps=>
  have hps:=b2X (μ:=μ) (ρ:=ρ) (a:=a) ps.toList (λp hp=>hf p.2 (by simp only[List.mem_toArray,List.mem_map];exact⟨p,hp,rfl⟩));have e1:(ps.map λ(p:Nat×Operand)=>(p.1,a.eval p.2)).toList=ps.toList.map λp=>(p.1,a.eval p.2):=by simp
  obtain⟨h1,h2,h3⟩:=c0q (P:=P) (vparts:=ps.map λp=>(p.1,a.eval p.2)) (w:=w) (pre:=H.pre e.foot) he hob (by rw[e1];exact hps);exact B9.val (by first|exact hq (by rw[hop];rfl)|rfl) h1 (by simp[execOp,hop])
 case buildSlice t n ps=>
  have hps:=b2X (μ:=μ) (ρ:=ρ) (a:=a) ps.toList (λp hp=>hf p.2 (by simp only[List.mem_toArray,List.mem_map];exact⟨p,hp,rfl⟩));have e1:(ps.map λ(p:Nat×Operand)=>(p.1,a.eval p.2)).toList=ps.toList.map λp=>(p.1,a.eval p.2):=by simp
  obtain⟨h1,h2⟩:=c0o (P:=P) (vparts:=ps.map λp=>(p.1,a.eval p.2)) (w:=w) (pre:=H.pre e.foot) he hob (hnew (c0p he)) (by rw[e1];exact hps);exact B9.val (by first|exact hq (by rw[hop];rfl)|rfl) h1 (by simp[execOp,hop])
 case load t x=>exact B9.val (by first|exact hq (by rw[hop];rfl)|rfl) (c0I (P:=P) he hob (hf x (by simp)) hp) (by simp[execOp,hop])
 case store t x y=>
  obtain⟨w',h1,h2⟩:=c0R (P:=P) he hob (hf x (by simp)) (hf y (by simp)) hp;have hv:e.v=.any:=by
   unfold a8H at he;split at he<;>try cases he
   split at he<;>try cases he
   split at he<;>cases he<;>rfl
  rw[hv];exact B9.unit (hq (by rw[hop];rfl)) h1 h2 (by simp[execOp,hop])
 case nilCheck x=>
  have hx:=hf x (by simp);split at he<;>cases he;rename_i hnn;refine B9.pure hx ?_;cases hv:ρ x<;>rw[hv] at hx hnn<;>simp only[b6Z,Bool.false_eq_true] at hnn
  ·obtain⟨p,_,e1⟩:=hx;simp[execOp,hop,e1]
  ·obtain⟨p,q,e1,_⟩:=hx;simp[execOp,hop,e1]
 case binOp op t x y t' =>
  obtain⟨h1,h2,h3⟩:=c0n (P:=P) (ox:=x) (oy:=y) (w:=w) (pre:=H.pre e.foot) he hob (hf x (by simp)) (hf y (by simp));rw[h2];exact B9.val (by first|exact hq (by rw[hop];rfl)|rfl) h1 (by simp[execOp,hop])
 case unOp op t x=>
  obtain⟨h1,h2,h3⟩:=c0S (P:=P) (w:=w) (pre:=H.pre e.foot) he (hf x (by simp));rw[h2];exact B9.val (by first|exact hq (by rw[hop];rfl)|rfl) h1 (by simp[execOp,hop])
 case convert s d x=>
  split at he
  ·rename_i e' he'
   cases he;obtain⟨h1,h2,h3⟩:=c0u (P:=P) (w:=w) (pre:=H.pre e.foot) he' (hf x (by simp));rw[h2];exact B9.val (by first|exact hq (by rw[hop];rfl)|rfl) h1 (by simp[execOp,hop])
  ·exact B9.val (by first|exact hq (by rw[hop];rfl)|rfl) (c0t (P:=P) he hob (hf x (by simp)) hnew hp) (by simp[execOp,hop])
 case makeFunc fn first cap=>
  cases fn<;>simp only[reduceCtorEq] at he;cases he;exact B9.pure (x:=.func (.func _) (first.map a.eval) (cap.map a.eval)) ⟨_,_,rfl,by simpa using a7n (μ:=μ) (ρ:=ρ) (a:=a) first.toList (λx hx=>hf x (by simp only[Array.mem_append];exact .inl (Array.mem_toList_iff.1 hx))),by simpa using a7n (μ:=μ) (ρ:=ρ) (a:=a) cap.toList (λx hx=>hf x (by simp only[Array.mem_append];exact .inr (Array.mem_toList_iff.1 hx)))⟩ (by simp[execOp,hop,Instr.makeFunc])
 case makeMap t r=>
  cases r<;>simp only[reduceCtorEq] at he;obtain⟨h1,h2⟩:=c0L (P:=P) (r:=none) (w:=w) (pre:=H.pre e.foot) he (hnew (c0M he)) (λv h=>by cases h);exact B9.val (by first|exact hq (by rw[hop];rfl)|rfl) h1 (by simp[execOp,hop])
 case slice t x lo hi mx=>
  have rlo:=b2R (μ:=μ) (ρ:=ρ) (a:=a) lo (λy hy=>hf y (by subst hy;simp));have rhi:=b2R (μ:=μ) (ρ:=ρ) (a:=a) hi (λy hy=>hf y (by subst hy;simp));have rmx:=b2R (μ:=μ) (ρ:=ρ) (a:=a) mx (λy hy=>hf y (by subst hy;simp));obtain⟨h1,h2⟩:=c0Q (P:=P) he hob (hf x (by simp)) rlo.1 rlo.2 rhi.1 rhi.2 rmx.1 rmx.2 hp;rw[h1];exact B9.val (by first|exact hq (by rw[hop];rfl)|rfl) h2 (by simp[execOp,hop])
 case fieldAddr t x f=>
  obtain⟨h1,h2,h3⟩:=c0B (P:=P) (w:=w) (pre:=H.pre e.foot) he (hf x (by simp));rw[h1];exact B9.val (by first|exact hq (by rw[hop];rfl)|rfl) h3 (by simp[execOp,hop])
 case field t x f=>
  obtain⟨h1,h2,h3⟩:=c0C (P:=P) (w:=w) (pre:=H.pre e.foot) he hob (hf x (by simp));rw[h1];exact B9.val (by first|exact hq (by rw[hop];rfl)|rfl) h3 (by simp[execOp,hop])
 case indexAddr t x i=>
  obtain⟨h1,h2⟩:=c0D (P:=P) he hob (hf x (by simp)) (hf i (by simp)) hp;rw[h1];exact B9.val (by first|exact hq (by rw[hop];rfl)|rfl) h2 (by simp[execOp,hop])
 case index t x i=>
  obtain⟨h1,h2,h3⟩:=c0E (P:=P) (w:=w) (pre:=H.pre e.foot) he hob (hf x (by simp)) (hf i (by simp));rw[h1];exact B9.val (by first|exact hq (by rw[hop];rfl)|rfl) h3 (by simp[execOp,hop])
 case lookup t m k ok=>
  obtain⟨h1,h2⟩:=c0K (P:=P) he hob (hf m (by simp)) (hf k (by simp)) hp;rw[h2];exact B9.val (by first|exact hq (by rw[hop];rfl)|rfl) h1 (by simp[execOp,hop])
 case mapUpdate t m k v=>
  obtain⟨w',h1,h2⟩:=b5e (P:=P) he hob (hf m (by simp)) (hf k (by simp)) (hf v (by simp)) hp;have hv:e.v=.any:=by
   unfold a6K at he;split at he<;>try cases he
   split at he<;>try cases he
   split at he<;>cases he;rfl
  rw[hv];exact B9.unit (hq (by rw[hop];rfl)) h1 h2 (by simp[execOp,hop])
 case insert t m k v=>
  obtain⟨w',h1,h2⟩:=b5e (P:=P) he hob (hf m (by simp)) (hf k (by simp)) (hf v (by simp)) hp;have hv:e.v=.any:=by
   unfold a6K at he;split at he<;>try cases he
   split at he<;>try cases he
   split at he<;>cases he;rfl
  rw[hv];exact B9.unit (hq (by rw[hop];rfl)) h1 h2 (by simp[execOp,hop])
 case extract x i=>
  obtain⟨h1,h2,h3⟩:=c0A (P:=P) (w:=w) (pre:=H.pre e.foot) he (hf x (by simp));rw[h2];exact B9.val (by first|exact hq (by rw[hop];rfl)|rfl) h1 (by simp[execOp,hop])
 case call c=>exact c0s hop he hob hf0 hpN hpl hn
 all_goals cases he
theorem b89{H:d7}{t:TypeId}{o:Oper}{m k v:LV}{vm vk vv:Value}{e:u9}{μ:d5}{w:World}{a:Act}(he:a6L P H t m k v=some e)(hob:e.ob)(hm:i4 μ m vm)(hk:i4 μ k vk)(hv:i4 μ v vv)
  (hp:D2 μ (H.pre e.foot) w) (hx:execOp a.eval o=(do Instr.mapUpdate t vm vk vv;Pure.pure .skip)):B9 P o a w μ (H.pre e.foot) e.up e.v:=by
 obtain⟨w',h1,h2⟩:=c0T (P:=P) he hob hm hk hv hp;have hv:e.v=.any:=by
  unfold a6L at he;split at he<;>try cases he
  split at he<;>try cases he
  split at he<;>cases he;rfl
 rw[hv];refine .inl ⟨undef,w',μ,.inr ⟨?_,rfl⟩,trivial,h2⟩;simp[hx,h1]
theorem c0r{H:d7}{h:H6}{ρ:Operand->LV}{c:Call}{o:Oper}{e:u9}{μ:d5}{w:World}{a:Act}(hc:o.op=.call c)(he:b1f P H h ρ c=some e)(hob:e.ob)(hf:∀x∈c.operands,i4 μ (ρ x) (a.eval x))
  (hp:D2 μ (H.pre e.foot) w):B9 P o a w μ (H.pre e.foot) e.up e.v:=by
 have hx:∀{b:Builtin} (hb:c.callee=.builtin b),∃cs,execOp a.eval o=builtin b c.argTypes o.type cs (c.args.map a.eval):=by
  intro b hb;simp only[execOp,hc,resolve,hb,pure_bind,invoke];exact⟨_,rfl⟩
 have hfa:∀x∈c.args.toList,i4 μ (ρ x) (a.eval x):=λx hx=>hf x (by
  simp only[Call.operands,Array.mem_append];exact .inr (Array.mem_toList_iff.1 hx))
 have hargs:∀{l:List Operand},c.args.toList=l->c.args.map a.eval=(l.map a.eval).toArray:=by
  intro l hl;rw[<-hl];apply Array.ext';simp
 unfold b1f at he;split at he
 ·rename_i hb
  split at he<;>try cases he
  rename_i t x hat hl;obtain⟨h1,h2⟩:=c0F (P:=P) (ty:=o.type) he hat (hfa x (by rw[hl];simp)) hp;rw[h2];refine B9.val rfl h1 ?_;obtain⟨cs,hcs⟩:=hx hb;rw[hcs,hargs hl];rfl
 ·rename_i hb
  split at he<;>try cases he
  rename_i t m k hat hl;have h1:a4R P (Builtin.delete_ c.argTypes o.type #[a.eval m,a.eval k]) μ w (H.pre e.foot) e.up e.v:=by
   split at he
   ·exact c0x (P:=P) (ty:=o.type) he hat hob (hfa m (by rw[hl];simp)) (hfa k (by rw[hl];simp)) hp
   ·exact c0w (P:=P) (ty:=o.type) he hat hob (hfa m (by rw[hl];simp)) (hfa k (by rw[hl];simp)) hp
  refine B9.valX h1 ?_;obtain⟨cs,hcs⟩:=hx hb;rw[hcs,hargs hl];rfl
 ·cases he
theorem c0O{H:d7}{new:Nat}{h:H6}{ρ:Operand->LV}{o:Oper}{e:u9}{μ:d5}{w:World}{a:Act}(he:eOp P H new h ρ o.op=some e)(hob:e.ob)(hf:∀x∈o.op.operands,i4 μ (ρ x) (a.eval x))
  (hp:D2 μ (H.pre e.foot) w) (hn:∀d,e.up.has d=true->new<=d->μ d=none):B9 P o a w μ (H.pre e.foot) e.up e.v:=by
 unfold eOp at he;split at he
 ·rename_i e' he'
  split at he<;>cases he;rename_i hc;exact c0N he' (by simpa using hc) hob hf hp hn
 ·cases hop:o.op<;>rw[hop] at he hf<;>simp only[b5f,reduceCtorEq] at he<;>simp only[Op.operands] at hf
  case range t x=>
   have hnew:μ new=none:=by
    refine hn new ?_ (Nat.le_refl _);unfold a8G at he;split at he<;>try cases he
    split at he<;>cases he;simp[i9.has]
   exact B9.valX (c0P (P:=P) he (hf x (by simp)) hp hnew) (by simp[execOp,hop])
  case entry x=>exact B9.valX (c0z (P:=P) he (hf x (by simp)) hp) (by simp[execOp,hop])
  case lookup t m k ok=>
   obtain⟨h1,h2⟩:=c0J (P:=P) he hob (hf m (by simp)) (hf k (by simp)) hp;rw[h2];exact B9.val rfl h1 (by simp[execOp,hop])
  case mapUpdate t m k v=>exact b89 (P:=P) he hob (hf m (by simp)) (hf k (by simp)) (hf v (by simp)) hp (by simp[execOp,hop])
  case insert t m k v=>exact b89 (P:=P) he hob (hf m (by simp)) (hf k (by simp)) (hf v (by simp)) hp (by simp[execOp,hop])
  case call c=>exact c0r hop he hob (λx hx=>hf x (by simpa using hx)) hp
end
end Go.Cn
