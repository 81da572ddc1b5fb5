import Derived.Test.YtddgjfclpknkcaaGreatDoorCnH
namespace Go.Cn
open Go
section
variable {P:Program}
def U5(P:Program)(t:TypeId):Option (Bool×List CK):=
 match F7 P t,M5 P 12 t with
 |some d,some ks=>some (L7 d,ks)
 |_,_=>none
theorem a1i{ag:Bool}{ks:List CK}{x:LV}(h:D9 ag ks x=true):(ag=true/\∃cs,x=.agg cs/\x6 ks cs=true)\/(ag=false/\(∀cs,x≠ .agg cs)/\x6 ks [x]=true):=by
 cases x<;>simp only[D9,Bool.and_eq_true,Bool.not_eq_true'] at h
 case agg cs=>exact .inl ⟨h.1,cs,rfl,h.2⟩
 all_goals exact .inr ⟨h.1,by simp,h.2⟩
theorem a6Z{ag:Bool}{ks:List CK}{x:LV}{μ:d5}{v:Value}(h:D9 ag ks x=true)(r:i4 μ x v):
  ∃cs vs,x6 ks cs=true/\o6 μ cs vs/\v=S3 ag vs/\x=(if ag then .agg cs else cs.headD .any)/\(ag=false->cs.length=1):=by
 rcases a1i h with⟨rfl,cs,rfl,hf⟩|⟨rfl,hne,hf⟩
 ·obtain⟨vs,rfl,hr⟩:=r
  exact⟨cs,vs.toList,hf,hr,by simp[S3],rfl,λh=>by cases h⟩
 ·exact⟨[x],[v],hf,⟨v,[],rfl,r,rfl⟩,by simp[S3],by simp,λ_=>rfl⟩
theorem b5j{ag:Bool}{ks:List CK}{cs ds:List LV}(h1:x6 ks cs=true)(h2:x6 ks ds=true)(hc:ag=false->cs.length=1):
  B0 (if ag then .agg cs else cs.headD .any) (if ag then .agg ds else ds.headD .any)=I0 cs ds:=by
 cases ag with
 |true=>rfl
 |false=>
  have l1:=hc rfl;have l2:=(k_ h2).trans ((k_ h1).symm.trans l1)
  match cs,l1,ds,l2 with
  |[c],_,[e],_=>
   match ks,h1,h2 with
   |[k],h1,h2=>
    simp only[x6,Bool.and_true] at h1 h2;cases k<;>cases c<;>simp only[L8,Bool.false_eq_true] at h1<;>cases e<;>simp only[L8,Bool.false_eq_true] at h2<;>simp[B0,I0]
   |[],h1,_=>simp[x6] at h1
   |_::_::_,h1,_=>simp[x6] at h1
theorem b5Z{t:TypeId}{ag:Bool}{ks:List CK}(h:U5 P t=some (ag,ks)):∃d,P.underlying t=some d/\L7 d=ag/\M5 P 12 t=some ks:=by
 unfold U5 at h;split at h
 ·rename_i d ks' hd hs
  simp only[Option.some.injEq,Prod.mk.injEq] at h;exact⟨d,hd,h.1,by rw[hs,h.2]⟩
 ·cases h
theorem X_{t:TypeId}{ag:Bool}{ks:List CK}{w:World}{μ ν:d5}{x y:LV}{v u:Value}(h:U5 P t=some (ag,ks))(hx:D9 ag ks x=true)(hy:D9 ag ks y=true)(rx:i4 μ x v)(ry:i4 ν y u):
  (Op.equal t v u).run P w=.ok (B0 x y) w/\∀em,(Instr.checkKey em 10000 t v).run P w=.ok () w:=by
 obtain⟨d,hd,hag,hs⟩:=b5Z h;obtain⟨cs,vs,f1,r1,rfl,rfl,l1⟩:=a6Z hx rx;obtain⟨ds,us,f2,r2,rfl,rfl,l2⟩:=a6Z hy ry;have:=b3U (P:=P) 9988 12 t ks hs w μ ν d cs ds vs us hd f1 f2 r1 r2;rw[hag] at this;refine⟨?_,this.2⟩;rw[b5j f1 f2 l1];exact this.1
def a8C(P:Program)(t:TypeId)(x y:LV):Option Bool:=
 match U5 P t with
 |some (true,ks)=>if D9 true ks x&&D9 true ks y&&!(P.eqGuardType P.depth t) then some (B0 x y) else none
 |_=>none
theorem b5d{t:TypeId}{x y:LV}{b:Bool}{w:World}{μ:d5}{v u:Value}(h:a8C P t x y=some b)(rx:i4 μ x v)(ry:i4 μ y u):
  (Op.equal t v u).run P w=.ok b w/\(∃cs,v=.agg cs)/\(∃cs,u=.agg cs)/\P.eqGuardType P.depth t=false:=by
 unfold a8C at h;split at h<;>try cases h
 rename_i ks hk;split at h<;>cases h;rename_i hc;simp only[Bool.and_eq_true,Bool.not_eq_true'] at hc;obtain⟨⟨h1,h2⟩,h3⟩:=hc;refine⟨(X_ hk h1 h2 rx ry).1,?_,?_,h3⟩
 ·rcases a1i h1 with⟨_,cs,rfl,_⟩|⟨h,_⟩
  ·obtain⟨vs,rfl,_⟩:=rx;exact⟨_,rfl⟩
  ·cases h
 ·rcases a1i h2 with⟨_,cs,rfl,_⟩|⟨h,_⟩
  ·obtain⟨vs,rfl,_⟩:=ry;exact⟨_,rfl⟩
  ·cases h
def b1c(P:Program)(op:BinOp)(t:TypeId)(x y:LV):Option u9:=
 match op,x,y with
 | .shl,.int k a,.int _ b| .shr,.int k a,.int _ b=>(b0R op k a b).map λr=> .valIf r.1 r.2
 |_,.int k a,.int k' b=>if k=k' then(b0Q op k a b).map λr=> .valIf r.1 r.2 else none
 |_,.str a,.str b=>(b0S op a b).map λr=> .valIf r.1 r.2
 | .eql,.agg a,.agg b=>(a8C P t (.agg a) (.agg b)).map λb=> .val (.bool b)
 | .neq,.agg a,.agg b=>(a8C P t (.agg a) (.agg b)).map λb=> .val (.bool (!b))
 | .eql,x,y=>match F7 P t with
  |some d=>(a8J d x y).map λb=> .val (.bool b)
  |none=>none
 | .neq,x,y=>match F7 P t with
  |some d=>(a8J d x y).map λb=> .val (.bool (!b))
  |none=>none
 |_,_,_=>none
theorem b1M{op:BinOp}{t:TypeId}{x y:Operand}{k k' :IntKind}{a b:Int}{w:World}:(eqGuard op t x y (.int k a) (.int k' b)).run P w=.ok () w:=by
 cases op<;>simp[eqGuard]
theorem c1c{op:BinOp}{t:TypeId}{x y:Operand}{a b:ByteArray}{w:World}:(eqGuard op t x y (.string a) (.string b)).run P w=.ok () w:=by
 cases op<;>simp[eqGuard]
theorem c0n{op:BinOp}{t:TypeId}{ox oy:Operand}{x y:LV}{vx vy:Value}{e:u9}{μ:d5}{w:World}{pre:u6}(h:b1c P op t x y=some e)(hob:e.ob)(hx:i4 μ x vx)(hy:i4 μ y vy):
  w5 P (do eqGuard op t ox oy vx vy;binOp op t vx vy) μ w pre [] e.v/\e.up=[]/\e.foot=[]:=by
 have fin:∀{r:Value} {v:LV},(eqGuard op t ox oy vx vy).run P w=.ok () w->(binOp op t vx vy).run P w=.ok r w->i4 μ v r->w5 P (do eqGuard op t ox oy vx vy;binOp op t vx vy) μ w pre [] v:=by
  intro r v h1 h2 h3;exact w5.same (x:=r) (by simp only[Sem.run_bind,h1,Result.andThen_ok,h2]) h3
 unfold b1c at h;split at h
 ·rename_i k a k' b
  simp only[Option.map_eq_some_iff] at h;obtain⟨⟨q,v⟩,hb,rfl⟩:=h;simp only[i4] at hx hy;subst hx hy;obtain⟨r,h1,h2⟩:=b4s (P:=P) (k' :=k') (t:=t) (w:=w) (μ:=μ) hb hob;exact⟨fin b1M h1 h2,rfl,rfl⟩
 ·rename_i k a k' b
  simp only[Option.map_eq_some_iff] at h;obtain⟨⟨q,v⟩,hb,rfl⟩:=h;simp only[i4] at hx hy;subst hx hy;obtain⟨r,h1,h2⟩:=b4s (P:=P) (k' :=k') (t:=t) (w:=w) (μ:=μ) hb hob;exact⟨fin b1M h1 h2,rfl,rfl⟩
 ·rename_i k a k' b _ _
  split at h<;>try cases h
  rename_i hk;subst hk;simp only[Option.map_eq_some_iff] at h;obtain⟨⟨q,v⟩,hb,rfl⟩:=h;simp only[i4] at hx hy;subst hx hy;obtain⟨r,h1,h2⟩:=b9E (P:=P) (t:=t) (w:=w) (μ:=μ) hb hob;exact⟨fin b1M h1 h2,rfl,rfl⟩
 ·rename_i a b
  simp only[Option.map_eq_some_iff] at h;obtain⟨⟨q,v⟩,hb,rfl⟩:=h;simp only[i4] at hx hy;subst hx hy;obtain⟨r,h1,h2⟩:=b9F (P:=P) (t:=t) (w:=w) (μ:=μ) hb hob;exact⟨fin c1c h1 h2,rfl,rfl⟩
 ·rename_i a b
  simp only[Option.map_eq_some_iff] at h;obtain⟨b',hb,rfl⟩:=h;obtain⟨h1,⟨c1,rfl⟩,⟨c2,rfl⟩,h4⟩:=b5d (w:=w) hb hx hy;refine⟨fin (r:=.bool b') ?_ ?_ rfl,rfl,rfl⟩
  ·simp[eqGuard,h4]
  ·simp[binOp,h1]
 ·rename_i a b
  simp only[Option.map_eq_some_iff] at h;obtain⟨b',hb,rfl⟩:=h;obtain⟨h1,⟨c1,rfl⟩,⟨c2,rfl⟩,h4⟩:=b5d (w:=w) hb hx hy;refine⟨fin (r:=.bool (!b')) ?_ ?_ rfl,rfl,rfl⟩
  ·simp[eqGuard,h4]
  ·simp[binOp,h1]
 ·split at h<;>try cases h
  rename_i d hd;simp only[Option.map_eq_some_iff] at h;obtain⟨b',hb,rfl⟩:=h;obtain⟨h6,h7,_⟩:=b5m (w:=w) hd hb hx hy;exact⟨fin (r:=.bool b') (h6 _ _ _) h7 rfl,rfl,rfl⟩
 ·split at h<;>try cases h
  rename_i d hd;simp only[Option.map_eq_some_iff] at h;obtain⟨b',hb,rfl⟩:=h;obtain⟨h6,_,h7⟩:=b5m (w:=w) hd hb hx hy;exact⟨fin (r:=.bool (!b')) (h6 _ _ _) h7 rfl,rfl,rfl⟩
 ·cases h
def R_(k:LV):List (LV×LV)->Option LV
 |[]=>none
 |e::r=>if B0 k e.1 then some e.2 else R_ k r
def H_(k v:LV):List (LV×LV)->List (LV×LV)
 |[]=>[(k,v)]
 |e::r=>if B0 k e.1 then(k,v)::r else e::H_ k v r
def a1d(k:LV):List (LV×LV)->List (LV×LV)
 |[]=>[]
 |e::r=>if B0 k e.1 then r else e::a1d k r
def B4(k:LV):List (LV×LV)->Option Nat
 |[]=>none
 |e::r=>if B0 k e.1 then some 0 else(B4 k r).map (· +1)
theorem b5s{t:TypeId}{ag:Bool}{ks:List CK}{w:World}{μ:d5}{k:LV}{vk:Value}(h:U5 P t=some (ag,ks))(hk:D9 ag ks k=true)(rk:i4 μ k vk):
  ∀(es:List (LV×LV)) (ms:List MapEntry) (i:Nat),F2 (U1 μ) es ms->(∀e∈es,D9 ag ks e.1=true)->
   (Instr.findAsking t vk ms i).run P w=.ok ((B4 k es).bind λj=>(ms[j]?).map λm=>(i+j,m.val)) w
 |_,_,i,.nil,_=>by simp[Instr.findAsking,B4]
 |_,_,i,@F2.cons _ _ _ a b l m hab hr,hall=>by
  have h1:=(X_ (w:=w) h hk (hall a List.mem_cons_self) rk hab.1.rel).1;have ih:=b5s (w:=w) h hk rk l m (i+1) hr (λe he=>hall e (List.mem_cons_of_mem _ he));simp only[Instr.findAsking,Sem.run_bind,h1,Result.andThen_ok,B4];cases B0 k a.1
  ·simp only[Bool.false_eq_true,if_false,ih]
   congr 1;cases B4 k l with
   |none=>rfl
   |some j=>simp[Nat.add_assoc,Nat.add_comm 1 j]
  ·simp
theorem b5t{t:TypeId}{ag:Bool}{ks:List CK}{μ:d5}{k:LV}{vk:Value}{kd:TypeDesc}(h:U5 P t=some (ag,ks))(hd:P.underlying t=some kd)(hk:D9 ag ks k=true)(rk:i4 μ k vk):
  ∀(es:List (LV×LV)) (ms:List MapEntry) (i:Nat) (r:Option (Nat×Value)),F2 (U1 μ) es ms->(∀e∈es,D9 ag ks e.1=true)->
   Instr.findNow kd vk ms i=some r->r=(B4 k es).bind λj=>(ms[j]?).map λm=>(i+j,m.val)
 |_,_,i,r,.nil,_,hr=>by simp[Instr.findNow] at hr;simp[B4,hr]
 |_,_,i,r,@F2.cons _ _ _ a b l m hab hrest,hall,hr=>by
  have ih:=b5t h hd hk rk l m (i+1);simp only[Instr.findNow] at hr;have ha:=hall a List.mem_cons_self;have key:∀q,Instr.sameNow kd vk b.key=some q->q=B0 k a.1:=by
   intro q hq;have h1:=(X_ (P:=P) (w:=default) h hk ha rk hab.1.rel).1;have h2:(Op.equal t vk b.key).run P default=.ok q default:=by
    suffices hs:∀n,(Op.equalIn (n+1) t vk b.key).run P default=.ok q default from hs 9999
    intro n;generalize b.key=bk at hq;unfold Instr.sameNow at hq;split at hq
    ·split at hq<;>cases hq
     rename_i hkk;subst hkk;simp[Op.equalIn,w7 hd]
    ·cases hq
     simp[Op.equalIn,w7 hd,beq_toListBytes]
    ·cases hq
     simp[Op.equalIn,w7 hd]
    ·cases hq
   rw[h1] at h2;cases h2;rfl
  cases hs:Instr.sameNow kd vk b.key with
  |none=>simp[hs] at hr
  |some q=>
   have hq:=key q hs;cases q with
   |true=>
    simp only[hs,Option.some.injEq] at hr;rw[<-hr,B4,<-hq];simp
   |false=>
    simp only[hs] at hr;have:=ih r hrest (λe he=>hall e (List.mem_cons_of_mem _ he)) hr;rw[this,B4,<-hq];simp only[Bool.false_eq_true,if_false];cases B4 k l with
    |none=>rfl
    |some j=>simp[Nat.add_assoc,Nat.add_comm 1 j]
theorem a2f{t:TypeId}{ag:Bool}{ks:List CK}{w:World}{μ:d5}{k:LV}{vk:Value}{es:List (LV×LV)}{ms:List MapEntry}(h:U5 P t=some (ag,ks))(hk:D9 ag ks k=true)(rk:i4 μ k vk)
  (hr:F2 (U1 μ) es ms) (hall:∀e∈es,D9 ag ks e.1=true):(Instr.findKey t vk ms).run P w=.ok ((B4 k es).bind λj=>(ms[j]?).map λm=>(j,m.val)) w:=by
 obtain⟨d,hd,_,_⟩:=b5Z h;simp only[Instr.findKey,Sem.run_bind,w7 hd,Result.andThen_ok];cases hn:Instr.findNow d vk ms 0 with
 |some r=>
  have:=b5t h hd hk rk es ms 0 r hr hall hn;simp only[Sem.run_pure,this];simp
 |none=>
  have:=b5s (w:=w) h hk rk es ms 0 hr hall;simp only[this];simp
theorem F2.get{α β:Type}{R:α->β->Prop}{l:List α}{m:List β}(h:F2 R l m):∀(i:Nat) (a:α),l[i]?=some a->∃b,m[i]?=some b/\R a b:=by
 induction h with
 |nil=>intro i a h;simp at h
 |@cons a b l m hab _ ih=>
  intro i x hx;cases i with
  |zero=>simp at hx;subst hx;exact⟨b,by simp,hab⟩
  |succ i=>simp at hx;simpa using ih i x hx
theorem a8s{k:LV}:∀{es:List (LV×LV)},R_ k es=(B4 k es).bind λj=>(es[j]?).map (·.2)
 |[]=>rfl
 |e::r=>by
  simp only[R_,B4];split
  ·simp
  ·rw[a8s (es:=r)]
   cases B4 k r<;>simp
theorem a0C{k:LV}:∀{es:List (LV×LV)} {j:Nat},B4 k es=some j->j<es.length/\∃e,es[j]?=some e/\B0 k e.1=true
 |[],_,h=>by simp[B4] at h
 |e::r,j,h=>by
  simp only[B4] at h;split at h
  ·rename_i he;cases h;exact⟨by simp,e,by simp,he⟩
  ·simp only[Option.map_eq_some_iff] at h
   obtain⟨j',hj,rfl⟩:=h;obtain⟨h1,e',h2,h3⟩:=a0C hj;exact⟨by simp;omega,e',by simpa using h2,h3⟩
theorem a8g{k v:LV}:∀{es:List (LV×LV)},H_ k v es=match B4 k es with|some j=>es.set j (k,v)|none=>es++[(k,v)]
 |[]=>rfl
 |e::r=>by
  simp only[H_,B4];split
  ·simp
  ·rw[a8g (es:=r)]
   cases B4 k r<;>simp
theorem a3z{k:LV}:∀{es:List (LV×LV)},a1d k es=match B4 k es with|some j=>es.eraseIdx j|none=>es
 |[]=>rfl
 |e::r=>by
  simp only[a1d,B4];split
  ·simp
  ·rw[a3z (es:=r)]
   cases B4 k r<;>simp
theorem a5x{t:TypeId}{kt el:TypeId}{ag:Bool}{ks:List CK}{z k:LV}{es:List (LV×LV)}{ok:Bool}{r:Option LV}{vk zv:Value}{μ:d5}{w:World}{pre:u6}{rb:Nat}(hd:F7 P t=some (.map kt el))(hsh:U5 P kt=some (ag,ks))
  (hzv:(zeroValue el).run P w=.ok zv w) (hzr:∀μ,i4 μ z zv) (h1:D9 ag ks k=true) (h2:R_ k es=r) (hk:i4 μ k vk) (hok:M_ μ w.heap[rb]? ag ks es):
  w5 P (Instr.lookup t (.map (some rb)) vk ok) μ w pre [] (if ok then .tup [r.getD z,.bool r.isSome] else r.getD z):=by
 obtain⟨⟨en,cl,k1,k2,k3,k4⟩,k5⟩:=hok;have hck:=(X_ (w:=w) hsh h1 h1 hk hk).2;have hg:(getObj rb).run P w=.ok (.map en cl) w:=by simp[getObj,Sem.run,k1]
 have hf:=a2f (w:=w) hsh h1 hk k2 k5;have e1:(Instr.lookup t (.map (some rb)) vk ok).run P w=((Instr.findKey kt vk en.toList).run P w).andThen λr w' =>
   (match r with|some (_,v)=>(pure (if ok then .tuple #[v,.bool true] else v):Sem Value)|none=>(do let z<-zeroValue el;pure (if ok then .tuple #[z,.bool false] else z))).run P w' :=by
  simp only[Instr.lookup,Sem.run_bind,w7 hd,Result.andThen_ok,hg,Sem.run_pure,hck];rw[hf];simp only[Result.andThen_ok];cases(B4 k es).bind λj=>(en.toList[j]?).map λm=>(j,m.val) with
  |none=>simp
  |some x=>obtain⟨a,b⟩:=x;simp
 rw[a8s] at h2;cases ha:B4 k es with
 |none=>
  rw[ha] at hf h2;simp only[Option.bind_none] at hf h2;subst h2;refine(w5.same (x:=if ok then .tuple #[zv,.bool false] else zv) ?_ ?_)
  ·rw[e1,hf]
   simp[hzv]
  ·cases ok
   ·exact hzr μ
   ·exact⟨_,rfl,_,_,rfl,hzr μ,_,_,rfl,rfl,rfl⟩
 |some j=>
  obtain⟨hlt,x,hx,_⟩:=a0C ha;obtain⟨b,hb,hab⟩:=k2.get j x hx;rw[ha] at hf h2;simp only[Option.bind_some,hb,hx,Option.map_some] at hf h2;subst h2;refine(w5.same (x:=if ok then .tuple #[b.val,.bool true] else b.val) ?_ ?_)
  ·rw[e1,hf]
   simp
  ·cases ok
   ·exact hab.2.rel
   ·exact⟨_,rfl,_,_,rfl,hab.2.rel,_,_,rfl,rfl,rfl⟩
theorem b4m{k z:LV}(hk:B0 k k=true):∀(es:List (LV×LV)),B4 k es=none->R_ k (H_ k z es)=some z
 |[],_=>by simp[H_,R_,hk]
 |e::r,h=>by
  simp only[B4] at h;split at h
  ·cases h
  rename_i hne;simp only[Option.map_eq_none_iff] at h;simp only[H_,hne,if_false,Bool.false_eq_true,R_];exact b4m hk r h
theorem b5i(k v:LV):∀(es:List (LV×LV)),a8I k v es=H_ k v es
 |[]=>rfl
 |e::r=>by simp only[a8I,H_,b5i k v r]
theorem b1w(k:LV):∀(es:List (LV×LV)),a6M k es=B4 k es
 |[]=>rfl
 |e::r=>by simp only[a6M,B4,b1w k r]
def b1t(P:Program)(H:d7)(t:TypeId)(m k:LV)(ok:Bool)(r:Option LV):Option u9:=
 match F7 P t with
 |some (.map kt el)=>
  match U5 P kt,a06 P el with
  |some (ag,ks),some z=>
   let out:=λ(q:Prop) (foot:List Nat)=>some (u9.mk (D9 ag ks k=true/\q) (if ok then .tup [r.getD z,.bool r.isSome] else r.getD z) foot [])
   match m with
   | .nilmap=>out (r=none) []
   | .map c=>
    match H.at c with
    |some (.map ag' ks' es)=>if ag=ag' /\ks=ks' then out (R_ k es=r) [c] else none
    |some (.mapR ag' ks' es)=>if ag=ag' /\ks=ks' then out (R_ k es=r) [c] else none
    |some (.mapP ag' ks' es k' z')=>if ag=ag' /\ks=ks' /\ok=false then out (R_ k es=r/\k' =k/\z' =z/\B0 k k=true) [c] else none
    |_=>none
   |_=>none
  |_,_=>none
 |_=>none
theorem c0K{H:d7}{t:TypeId}{m k:LV}{ok:Bool}{r:Option LV}{vm vk:Value}{e:u9}{μ:d5}{w:World}(h:b1t P H t m k ok r=some e)(hob:e.ob)(hm:i4 μ m vm)(hk:i4 μ k vk)
  (hp:M6 μ (H.pre e.foot) w):w5 P (Instr.lookup t vm vk ok) μ w (H.pre e.foot) [] e.v/\e.up=[]:=by
 unfold b1t at h;split at h<;>try cases h
 rename_i kt el hd;split at h<;>try cases h
 rename_i ag ks z hsh hz;obtain⟨zv,hzv,hzr⟩:=a4z (w:=w) hz;dsimp only at h;split at h<;>try cases h
 ·obtain⟨h1,h2⟩:=hob
  subst h2;simp only[i4] at hm;subst hm;have hck:=(X_ (w:=w) hsh h1 h1 hk hk).2;refine⟨w5.same (x:=if ok then .tuple #[zv,.bool false] else zv) ?_ ?_,rfl⟩
  ·simp only[Instr.lookup,Sem.run_bind,w7 hd,Result.andThen_ok,Sem.run_pure]
   simp only[hck,Result.andThen_ok];have hf:(Instr.findKey kt vk (#[]:Array MapEntry).toList).run P w=.ok none w:=by
    have:=a2f (w:=w) (es:=[]) (ms:=[]) hsh h1 hk .nil (λ_ h=>by cases h);simpa[B4] using this
   simp only[hf,Result.andThen_ok,hzv,Sem.run_pure,Sem.run_bind]
  ·cases ok
   ·exact hzr μ
   ·exact⟨_,rfl,_,_,rfl,hzr μ,_,_,rfl,rfl,rfl⟩
 ·rename_i c
  split at h<;>try cases h
  ·rename_i ag' ks' es ho
   split at h<;>cases h;rename_i hc;obtain⟨rfl,rfl⟩:=hc;obtain⟨h1,h2⟩:=hob;obtain⟨p,hpc,rfl⟩:=hm;obtain⟨p',hpc',hok⟩:=hp.obj c _ (by rw[d7.pre_one ho];exact List.mem_singleton.2 rfl);obtain rfl:=Option.some.inj (hpc'.symm.trans hpc);exact⟨a5x hd hsh hzv hzr h1 h2 hk hok,rfl⟩
  ·rename_i ag' ks' es ho
   split at h<;>cases h;rename_i hc;obtain⟨rfl,rfl⟩:=hc;obtain⟨h1,h2⟩:=hob;obtain⟨p,hpc,rfl⟩:=hm;obtain⟨p',hpc',hok⟩:=hp.obj c _ (by rw[d7.pre_one ho];exact List.mem_singleton.2 rfl);obtain rfl:=Option.some.inj (hpc'.symm.trans hpc);exact⟨a5x hd hsh hzv hzr h1 h2 hk (es:=es) hok,rfl⟩
  ·rename_i ag' ks' es k' z' ho
   split at h<;>cases h;rename_i hc;obtain⟨rfl,rfl,rfl⟩:=hc;obtain⟨h1,h2,rfl,rfl,hkk⟩:=hob;obtain⟨p,hpc,rfl⟩:=hm;obtain⟨p',hpc',hok⟩:=hp.obj c _ (by rw[d7.pre_one ho];exact List.mem_singleton.2 rfl);obtain rfl:=Option.some.inj (hpc'.symm.trans hpc);refine⟨?_,rfl⟩;rcases hok with hok|hok
   ·exact a5x hd hsh hzv hzr h1 h2 hk hok
   ·cases ha:B4 k' es with
    |some j=>
     have e:a2d k' z' es=es:=by unfold a2d;rw[b1w,ha]
     rw[e] at hok;exact a5x hd hsh hzv hzr h1 h2 hk hok
    |none=>
     have e:a2d k' z' es=H_ k' z' es:=by unfold a2d;rw[b1w,ha,<-b5i]
     rw[e] at hok;have hr:r=none:=by rw[<-h2,a8s,ha];rfl
     have:=a5x (ok:=false) (pre:=H.pre [c]) hd hsh hzv hzr h1 (b4m hkk es ha) hk hok;rw[hr];exact this
end
end Go.Cn
