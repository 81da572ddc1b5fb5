import Derived.Test.YtddgjfclpknkcaaGreatDoorCnG
import Derived.DeepKeys3
namespace Go.Cn
open Go
theorem b1z:∀(a b c d:List LV),a.length=c.length->I0 (a++b) (c++d)=(I0 a c&&I0 b d)
 |[],b,[],d,_=>by simp[I0]
 |x::a,b,y::c,d,h=>by simp only[List.cons_append,I0,b1z a b c d (by simpa using h),Bool.and_assoc]
 |[],_,_::_,_,h=>by simp at h
 |_::_,_,[],_,h=>by simp at h
def S3(agg:Bool)(vs:List Value):Value:=if agg then .agg vs.toArray else vs.headD undef
def b3T(P:Program)(g:TypeId->Option (List CK)):List Field->Nat->Option (List CK)
 |[],_=>some []
 |f::r,o=>
  match g f.type,I6 P f.type with
  |some l,some z=>
   if f.name≠ "_" /\f.offset=o/\l.length=z then(b3T P g r (o+z)).map (l++ ·) else none
  |_,_=>none
def M5(P:Program):Nat->TypeId->Option (List CK)
 |0,_=>none
 |d+1,t=>
  match F7 P t,I6 P t with
  |some (.int k),some 1=>some [.int k]
  |some .bool,some 1=>some [.bool]
  |some .string,some 1=>some [.str]
  |some (.struct fs),some s=>
   if P.stoodInHeld t then none else
   match b3T P (λu=>M5 P d u) fs.toList 0 with
   |some l=>if l.length=s then some l else none
   |none=>none
  |some (.array n e),some s=>
   match M5 P d e,I6 P e with
   |some l,some z=>if l.length=z/\n * z=s then some (V4 n l) else none
   |_,_=>none
  |_,_=>none
def a6i(P:Program)(d:Nat)(fs:List Field)(o:Nat):Option (List CK):=b3T P (λu=>M5 P d u) fs o
theorem b8t(P:Program)(d o:Nat):a6i P d [] o=some []:=rfl
theorem b3S(P:Program)(d:Nat)(f:Field)(r:List Field)(o:Nat):a6i P d (f::r) o=
  match M5 P d f.type,I6 P f.type with
  |some l,some z=>
   if f.name≠ "_" /\f.offset=o/\l.length=z then(a6i P d r (o+z)).map (l++ ·) else none
  |_,_=>none:=rfl
section
variable {P:Program}
theorem k_:∀{ks:List CK} {cs:List LV},x6 ks cs=true->cs.length=ks.length
 |[],[],_=>rfl
 |[],_::_,h=>by simp[x6] at h
 |_::_,[],h=>by simp[x6] at h
 |_::_,_::_,h=>by simp only[x6,Bool.and_eq_true] at h;simp[k_ h.2]
theorem a6N:∀{a b:List CK} {cs:List LV},x6 (a++b) cs=true->x6 a (cs.take a.length)=true/\x6 b (cs.drop a.length)=true
 |[],b,cs,h=>by simpa[x6] using h
 |_::_,b,[],h=>by simp[x6] at h
 |k::a,b,c::cs,h=>by
  simp only[List.cons_append,x6,Bool.and_eq_true] at h;have:=a6N h.2;simp only[List.length_cons,List.take_succ_cons,List.drop_succ_cons,x6,Bool.and_eq_true];exact⟨⟨h.1,this.1⟩,this.2⟩
theorem a9X{w:World}{t:TypeId}{d:TypeDesc}{s off:Nat}{xs:Array Value}(hd:P.underlying t=some d)(hs:I6 P t=some s)(h2:L7 d=false->s=1/\off<xs.size):
  (part t xs off).run P w=.ok (S3 (L7 d) ((xs.toList.drop off).take s)) w:=by
 unfold part;simp only[Sem.run_bind,a1J hd,Result.andThen_ok];cases hag:L7 d with
 |true=>simp[S3,K9 hs,b4k]
 |false=>
  obtain⟨rfl,hlt⟩:=h2 hag;have:xs[off]?=some xs[off]:=Array.getElem?_eq_getElem hlt;simp only[S3,Bool.false_eq_true,if_false,this,Sem.run_pure];rw[List.drop_eq_getElem_cons (by simpa using hlt)];simp
def a6v(P:Program)(t:TypeId)(ks:List CK)(D:Nat):Prop:=
 ∀(w:World) (μ ν:d5) (d:TypeDesc) (cs ds:List LV) (vs us:List Value),P.underlying t=some d->x6 ks cs=true->x6 ks ds=true->o6 μ cs vs->o6 ν ds us->
  (Op.equalIn D t (S3 (L7 d) vs) (S3 (L7 d) us)).run P w=.ok (I0 cs ds) w/\∀em,(Instr.checkKey em D t (S3 (L7 d) vs)).run P w=.ok () w
theorem b8v{d:Nat}{t:TypeId}{ks:List CK}{de:TypeDesc}(h:M5 P d t=some ks)(hd:P.underlying t=some de):I6 P t=some ks.length/\(L7 de=false->ks.length=1):=by
 cases d with
 |zero=>simp[M5] at h
 |succ d=>
  unfold M5 at h;simp only[F7,hd] at h;split at h<;>try cases h
  ·rename_i h1 h2;cases h1;exact⟨h2,λ_=>rfl⟩
  ·rename_i h1 h2;cases h1;exact⟨h2,λ_=>rfl⟩
  ·rename_i h1 h2;cases h1;exact⟨h2,λ_=>rfl⟩
  ·rename_i h1 h2
   cases h1;split at h<;>try cases h
   split at h<;>try cases h
   split at h<;>cases h;rename_i hl;exact⟨by rw[h2,hl],λhf=>by simp[L7] at hf⟩
  ·rename_i h1 h2
   cases h1;split at h<;>try cases h
   split at h<;>cases h;rename_i hl;refine⟨?_,λhf=>by simp[L7] at hf⟩;rw[h2,<-hl.2,c5c,hl.1]
theorem a9S{μ:d5}{cs:List LV}{vs:List Value}(h:o6 μ cs vs)(o n:Nat):o6 μ ((cs.drop o).take n) ((vs.drop o).take n):=(h.drop o).take n
def a8x(em:Bool)(D:Nat)(xs:Array Value)(fs:List Field):Sem PUnit:=
 forIn fs PUnit.unit λf (_:PUnit)=>do
  if f.name≠ "_" then
   Instr.checkKey em D f.type (<-part f.type xs f.offset)
  pure (ForInStep.yield PUnit.unit)
def a1a(em:Bool)(D:Nat)(e:TypeId)(n:Nat)(xs:Array Value)(is:List Nat):Sem PUnit:=
 forIn is PUnit.unit λj (_:PUnit)=>do
  Instr.checkKey em D e (<-part e xs (j * n))
  pure (ForInStep.yield PUnit.unit)
theorem b7T{w:World}{μ ν:d5}{dd D:Nat}(ih:∀t ks,M5 P dd t=some ks->a6v P t ks D){cs ds:List LV}{xs ys:Array Value}(hx:o6 μ cs xs.toList)(hy:o6 ν ds ys.toList):
  ∀(fs:List Field) (o:Nat) (ks:List CK),a6i P dd fs o=some ks->x6 ks (cs.drop o)=true->x6 ks (ds.drop o)=true->(∀f∈fs,∃i,P.underlying f.type=some i)->
   (Op.eqFields D xs ys fs).run P w=.ok (I0 (cs.drop o) (ds.drop o)) w/\
   ∀em,(a8x em D xs fs).run P w=.ok PUnit.unit w
 |[],o,ks,h,h1,h2,_=>by
  simp only[b8t,Option.some.injEq] at h;subst h;have e1:cs.drop o=[]:=by have:=k_ h1;simp at this;simp;omega
  have e2:ds.drop o=[]:=by have:=k_ h2;simp at this;simp;omega
  simp[Op.eqFields,e1,e2,I0,a8x]
 |f::fs,o,ks,h,h1,h2,hu=>by
  rw[b3S] at h;split at h<;>try cases h
  rename_i l z hl hz;split at h<;>try cases h
  rename_i hc;obtain⟨hn,ho,hlz⟩:=hc;simp only[Option.map_eq_some_iff] at h;obtain⟨l',hl',rfl⟩:=h;obtain⟨a1,a2⟩:=a6N h1;obtain⟨b1,b2⟩:=a6N h2;rw[List.drop_drop] at a2 b2;obtain⟨de,hde⟩:=hu f List.mem_cons_self;have hsz:=(b8v hl hde).2;have lx:=hx.length;have ly:=hy.length;simp only[Array.length_toList] at lx ly;have la:=k_ a1;have lb:=k_ b1;simp only[List.length_take,List.length_drop] at la lb;have px:=a9X (w:=w) (xs:=xs) (off:=o) hde hz (λhf=>⟨by rw[<-hlz];exact hsz hf,by have:=hsz hf;omega⟩);have py:=a9X (w:=w) (xs:=ys) (off:=o) hde hz (λhf=>⟨by rw[<-hlz];exact hsz hf,by have:=hsz hf;omega⟩);rw[<-hlz] at px py;obtain⟨e1,e2⟩:=ih f.type l hl w μ ν de _ _ _ _ hde a1 b1 (a9S hx o l.length) (a9S hy o l.length);obtain⟨r1,r2⟩:=b7T ih hx hy fs (o+z) l' hl' (by rw[<-hlz];exact a2) (by rw[<-hlz];exact b2) (λg hg=>hu g (List.mem_cons_of_mem _ hg));rw[<-hlz] at r1;have split:I0 (cs.drop o) (ds.drop o)=(I0 ((cs.drop o).take l.length) ((ds.drop o).take l.length)&&I0 (cs.drop (o+l.length)) (ds.drop (o+l.length))):=by
   rw[<-b1z _ _ _ _ (by simp;omega)];rw[<-List.drop_drop,<-List.drop_drop,List.take_append_drop,List.take_append_drop]
  refine⟨?_,λem=>?_⟩
  ·simp only[Op.eqFields,hn,ne_eq,not_false_eq_true,if_true,Sem.run_bind,ho,px,py,Result.andThen_ok,e1,split]
   cases I0 ((cs.drop o).take l.length) ((ds.drop o).take l.length)
   ·simp
   ·simpa using r1
  ·have:=r2 em
   unfold a8x at this⊢;simp only[List.forIn_cons,Sem.run_bind,hn,ne_eq,not_false_eq_true,if_true,ho,px,Result.andThen_ok,e2 em,Sem.run_pure];exact this
theorem b7U{w:World}{μ ν:d5}{dd D:Nat}(ih:∀t ks,M5 P dd t=some ks->a6v P t ks D){cs ds:List LV}{xs ys:Array Value}(hx:o6 μ cs xs.toList)(hy:o6 ν ds ys.toList)
  {e:TypeId} {de:TypeDesc} {l:List CK} (hl:M5 P dd e=some l) (hde:P.underlying e=some de):
  ∀(n i:Nat),x6 (V4 n l) (cs.drop (i * l.length))=true->x6 (V4 n l) (ds.drop (i * l.length))=true->
   (Op.eqItems D e l.length xs ys (List.range' i n)).run P w=.ok (I0 (cs.drop (i * l.length)) (ds.drop (i * l.length))) w/\
   ∀em,(a1a em D e l.length xs (List.range' i n)).run P w=.ok PUnit.unit w
 |0,i,h1,h2=>by
  have e1:cs.drop (i * l.length)=[]:=by have:=k_ h1;simp[V4] at this;simp;omega
  have e2:ds.drop (i * l.length)=[]:=by have:=k_ h2;simp[V4] at this;simp;omega
  simp[Op.eqItems,e1,e2,I0,a1a]
 |n+1,i,h1,h2=>by
  obtain⟨a1,a2⟩:=a6N (a:=l) (b:=V4 n l) h1;obtain⟨b1,b2⟩:=a6N (a:=l) (b:=V4 n l) h2;have hsz:=b8v hl hde;have lx:=hx.length;have ly:=hy.length;simp only[Array.length_toList] at lx ly;have la:=k_ a1;have lb:=k_ b1;simp only[List.length_take,List.length_drop] at la lb;have px:=a9X (w:=w) (xs:=xs) (off:=i * l.length) hde hsz.1 (λhf=>⟨hsz.2 hf,by have:=hsz.2 hf;omega⟩);have py:=a9X (w:=w) (xs:=ys) (off:=i * l.length) hde hsz.1 (λhf=>⟨hsz.2 hf,by have:=hsz.2 hf;omega⟩);obtain⟨e1,e2⟩:=ih e l hl w μ ν de _ _ _ _ hde a1 b1 (a9S hx (i * l.length) l.length) (a9S hy (i * l.length) l.length);have hi:(i+1) * l.length=i * l.length+l.length:=by rw[Nat.add_mul];omega
  rw[List.drop_drop,<-hi] at a2 b2;obtain⟨r1,r2⟩:=b7U ih hx hy hl hde n (i+1) a2 b2;have split:I0 (cs.drop (i * l.length)) (ds.drop (i * l.length))=(I0 ((cs.drop (i * l.length)).take l.length) ((ds.drop (i * l.length)).take l.length)&&I0 (cs.drop ((i+1) * l.length)) (ds.drop ((i+1) * l.length))):=by
   rw[<-b1z _ _ _ _ (by simp;omega),hi];rw[<-List.drop_drop,<-List.drop_drop,List.take_append_drop,List.take_append_drop]
  refine⟨?_,λem=>?_⟩
  ·simp only[List.range'_succ,Op.eqItems,Sem.run_bind,px,py,Result.andThen_ok,e1,split]
   cases I0 ((cs.drop (i * l.length)).take l.length) ((ds.drop (i * l.length)).take l.length)
   ·simp
   ·simpa using r1
  ·have:=r2 em
   unfold a1a at this⊢;simp only[List.range'_succ,List.forIn_cons,Sem.run_bind,px,Result.andThen_ok,e2 em,Sem.run_pure];exact this
theorem b5D{em:Bool}{D n:Nat}{e:TypeId}{xs:Array Value}(hsz:∀w,(sizeOf e).run P w=.ok n w):∀(is:List Nat) (w:World),
  (forIn is PUnit.unit (λi (_:PUnit)=>do
    let s<-sizeOf e
    let p<-part e xs (i * s)
    Instr.checkKey em D e p
    pure (ForInStep.yield PUnit.unit)):Sem PUnit).run P w=(a1a em D e n xs is).run P w
 |[],w=>by simp[a1a]
 |i::is,w=>by
  unfold a1a;simp only[List.forIn_cons,Sem.run_bind,hsz,Result.andThen_ok];cases(part e xs (i * n)).run P w with
  |halt h w' =>rfl
  |ok a w' =>
   simp only[Result.andThen_ok];cases(Instr.checkKey em D e a).run P w' with
   |halt h w'' =>rfl
   |ok b w'' =>
    simp only[Result.andThen_ok,Sem.run_pure];have:=b5D (em:=em) (D:=D) (xs:=xs) hsz is w'';unfold a1a at this;exact this
theorem b8u{d:Nat}:∀{fs:List Field} {o:Nat} {ks:List CK},a6i P d fs o=some ks->∀f∈fs,∃i,P.underlying f.type=some i
 |[],_,_,_,f,hf=>by cases hf
 |g::fs,o,ks,h,f,hf=>by
  rw[b3S] at h;split at h<;>try cases h
  rename_i l z hl hz;split at h<;>try cases h
  simp only[Option.map_eq_some_iff] at h;obtain⟨l',hl',rfl⟩:=h;rcases List.mem_cons.1 hf with rfl|hf
  ·cases d with
   |zero=>simp[M5] at hl
   |succ d=>
    unfold M5 at hl;cases hd:F7 P f.type with
    |none=>simp[hd] at hl
    |some x=>exact⟨x,hd⟩
  ·exact b8u hl' f hf
theorem b3U(D0:Nat):∀(d:Nat) (t:TypeId) (ks:List CK),M5 P d t=some ks->a6v P t ks (D0+d)
 |0,t,ks,h=>by simp[M5] at h
 |d+1,t,ks,h=>by
  intro w μ ν de cs ds vs us hde h1 h2 hx hy;have h0:=h;unfold M5 at h;simp only[F7,hde] at h;have scal:∀{k:CK},ks=[k]->L7 de=false->∃c e v u,cs=[c]/\ds=[e]/\vs=[v]/\us=[u]/\L8 k c=true/\L8 k e=true/\i4 μ c v/\i4 ν e u:=by
   intro k hk _;subst hk
   match cs,h1,hx with
   |[c],h1,⟨v,_,e,r,r'⟩=>
    cases r';subst e
    match ds,h2,hy with
    |[e],h2,⟨u,_,e',s,s'⟩=>
     cases s';subst e';simp only[x6,Bool.and_true] at h1 h2;exact⟨c,e,v,u,rfl,rfl,rfl,rfl,h1,h2,r,s⟩
    |_::_::_,h2,_=>simp[x6] at h2
   |_::_::_,h1,_=>simp[x6] at h1
  split at h<;>try cases h
  ·rename_i k e1 e2
   cases e1;obtain⟨c,e,v,u,rfl,rfl,rfl,rfl,f1,f2,r,s⟩:=scal rfl rfl;cases c<;>simp only[L8,Bool.false_eq_true,decide_eq_true_eq] at f1;cases e<;>simp only[L8,Bool.false_eq_true,decide_eq_true_eq] at f2;subst f1;subst f2;simp only[i4] at r s;subst r;subst s;refine⟨?_,λem=>?_⟩
   ·show(Op.equalIn (D0+d+1) t _ _).run P w=_
    simp[S3,L7,Op.equalIn,w7 hde,I0,U4]
   ·show(Instr.checkKey em (D0+d+1) t _).run P w=_
    simp[S3,L7,Instr.checkKey,w7 hde]
  ·rename_i e1 e2
   cases e1;obtain⟨c,e,v,u,rfl,rfl,rfl,rfl,f1,f2,r,s⟩:=scal rfl rfl;cases c<;>simp only[L8,Bool.false_eq_true] at f1;cases e<;>simp only[L8,Bool.false_eq_true] at f2;simp only[i4] at r s;subst r;subst s;refine⟨?_,λem=>?_⟩
   ·show(Op.equalIn (D0+d+1) t _ _).run P w=_
    simp[S3,L7,Op.equalIn,w7 hde,I0,U4]
   ·show(Instr.checkKey em (D0+d+1) t _).run P w=_
    simp[S3,L7,Instr.checkKey,w7 hde]
  ·rename_i e1 e2
   cases e1;obtain⟨c,e,v,u,rfl,rfl,rfl,rfl,f1,f2,r,s⟩:=scal rfl rfl;cases c<;>simp only[L8,Bool.false_eq_true] at f1;cases e<;>simp only[L8,Bool.false_eq_true] at f2;simp only[i4] at r s;subst r;subst s;refine⟨?_,λem=>?_⟩
   ·show(Op.equalIn (D0+d+1) t _ _).run P w=_
    simp[S3,L7,Op.equalIn,w7 hde,I0,U4,beq_toListBytes,b8W]
   ·show(Instr.checkKey em (D0+d+1) t _).run P w=_
    simp[S3,L7,Instr.checkKey,w7 hde]
  ·rename_i fs s e1 e2
   cases e1;split at h<;>try cases h
   rename_i hst;split at h<;>try cases h
   rename_i l hl;split at h<;>cases h;have hst' :P.stoodInHeld t=false:=by simpa using hst
   have hfs:P.fieldsOf t=fs:=by simp[Program.fieldsOf,hde]
   have ih:∀t ks,M5 P d t=some ks->a6v P t ks (D0+d):=λt ks h=>b3U D0 d t ks h;obtain⟨r1,r2⟩:=b7T (w:=w) ih (xs:=vs.toArray) (ys:=us.toArray) (by simpa using hx) (by simpa using hy) fs.toList 0 ks hl (by simpa using h1) (by simpa using h2) (b8u hl);refine⟨?_,λem=>?_⟩
   ·show(Op.equalIn (D0+d+1) t _ _).run P w=_
    simp only[S3,L7,if_true];rw[run_equalIn_struct w (D0+d) t _ _ (by rw[hfs];exact hde) hst',hfs];simpa using r1
   ·show(Instr.checkKey em (D0+d+1) t _).run P w=_
    simp only[S3,L7,if_true,Instr.checkKey,Sem.run_bind,w7 hde,Result.andThen_ok];rw[<-Array.forIn_toList];have:=r2 em;unfold a8x at this;simp only[Sem.run_bind] at this⊢;rw[this];rfl
  ·rename_i n e s e1 e2
   cases e1;split at h<;>try cases h
   rename_i l z hl hz;split at h<;>cases h;rename_i hc;obtain⟨hlz,hnz⟩:=hc;have ih:∀t ks,M5 P d t=some ks->a6v P t ks (D0+d):=λt ks h=>b3U D0 d t ks h;obtain⟨i,hi,his⟩:=b8T hz;obtain⟨de',hde'⟩:∃x,P.underlying e=some x:=by
    cases d with
    |zero=>simp[M5] at hl
    |succ d=>
     unfold M5 at hl;cases hd:F7 P e with
     |none=>simp[hd] at hl
     |some x=>exact⟨x,hd⟩
   obtain⟨r1,r2⟩:=b7U (w:=w) ih (xs:=vs.toArray) (ys:=us.toArray) (by simpa using hx) (by simpa using hy) hl hde' n 0 (by simpa using h1) (by simpa using h2);have hcell:P.cellsOf e=l.length:=by simp[Program.cellsOf,hi,his,hlz]
   refine⟨?_,λem=>?_⟩
   ·show(Op.equalIn (D0+d+1) t _ _).run P w=_
    simp only[S3,L7,if_true];rw[run_equalIn_array w (D0+d) _ _ hde hi,hcell,List.range_eq_range'];simpa using r1
   ·show(Instr.checkKey em (D0+d+1) t _).run P w=_
    simp only[S3,L7,if_true,Instr.checkKey,Sem.run_bind,w7 hde,Result.andThen_ok];simp only[Std.Legacy.Range.forIn_eq_forIn_range',Std.Legacy.Range.size,Nat.sub_zero,Nat.add_one_sub_one,Nat.div_one];have hsz:∀w',(sizeOf e).run P w' =.ok l.length w' :=λw' =>by rw[K9 hz,hlz]
    have:=b5D (em:=em) (D:=D0+d) (xs:=vs.toArray) hsz (List.range' 0 n) w;unfold a1a at this;rw[this];have h3:=r2 em;unfold a1a at h3;rw[h3];rfl
end
end Go.Cn
