import Derived.Test.YtddgjfclpknkcaaGreatDoorCnX
namespace Go.Cn
open Go
section
variable {P:Program}{w0:World}{W:Nat->Prop}{μ0:d5}{Post Post' :List LV->d7->Prop}
def a9q:Code->Option (Nat×Nat×Nat×Code)
 | .seq (.region _ ops false) c2=>
  match ops.toList with
  |[o1,o2]=>
   match o1.op,o1.dst,o1.guard,o2.op,o2.dst,o2.guard with
   | .next (.tmp it) false,some t1,none,.extract (.tmp t1') 0,some t2,none=>if t1' =t1 then some (it,t1,t2,c2) else none
   |_,_,_,_,_,_=>none
  |_=>none
 |_=>none
theorem c1C{c c2:Code}{it t1 t2 d m:Nat}{ag:Bool}{ks:List CK}{es rest:List (LV×LV)}{cur:Option (LV×LV)}{k:List It}{T:List LV}{H:d7}
  (hs:a9q c=some (it,t1,t2,c2)) (hit:T[it]?=some (.ptr d 0 0)) (hd:H.at d=some (.mit m ag ks es cur rest)) (hT:t1<T.length)
  (h0:rest=[]->x7 P w0 W μ0 Post (.code c2:: .loop c::k) none ((T.set t1 (.tup [.bool false])).set t2 (.bool false)) H)
  (h1:∀i kk vv,rest[i]?=some (kk,vv)->x7 P w0 W μ0 Post (.code c2:: .loop c::k) none ((T.set t1 (.tup [.bool true,kk,vv])).set t2 (.bool true)) (H.upd [(d,some (.mit m ag ks es (some (kk,vv)) (rest.eraseIdx i)))])):
  x7 P w0 W μ0 Post (.loop c::k) none T H:=by
 have hs' :=hs;unfold a9q at hs;split at hs<;>try cases hs
 rename_i id ops c2';split at hs<;>try cases hs
 rename_i o1 o2 hops;split at hs<;>try cases hs
 rename_i it' t1' t1'' t2' ho1 hd1 hg1 ho2 hd2 hg2;split at hs<;>cases hs;rename_i e;subst e;refine b53 (b54 ?_);intro μ a w s;refine wp_region ?_;have hsz:ops.size=2:=by rw[<-Array.length_toList,hops];rfl
 have hi0:ops[0]?=some o1:=by rw[<-Array.getElem?_toList,hops];rfl
 have hi1:ops[1]?=some o2:=by rw[<-Array.getElem?_toList,hops];rfl
 rw[hsz,show List.range 2=[0,1] from rfl,wpOps_cons];have second:∀(v:List LV) (b:LV) (H1:d7) (μ1:d5) (a1:Act) (w1:World),v[0]?=some b->St w0 W μ0 μ1 (T.set t1'' (.tup v)) H1 a1 w1->
   x7 P w0 W μ0 Post (.code c2:: .loop (.seq (.region id ops false) c2)::k) none ((T.set t1'' (.tup v)).set t2 b) H1->
   wpOps P ops (λe a' w' =>∃μ' T' H',St w0 W μ0 μ' T' H' a' w' /\U_ Post (x7 P w0 W μ0 Post (.code c2:: .loop (.seq (.region id ops false) c2)::k)) e T' H') [1] a1 w1:=by
  intro v b H1 μ1 a1 w1 hb s1 hk;have hr:a2X P ops [(o2,({}:H6))] (T.set t1'' (.tup v)) H1=some ((((True/\True))/\True),[⟨some t2,b0t o2.op.operands.toList,b,[],[]⟩],(T.set t1'' (.tup v)).set t2 b,H1):=by
   simp only[a2X,a4N,hg2,a58,eOp,ho2,a8E,B_,List.getElem?_set_self hT,Option.getD_some,a8D,hb,u9.val,i9.plain,List.all_nil,Bool.true_or,if_true,a1f,Bool.false_eq_true,if_false,told,N4,hd2,List.nil_append,A1.putT,d7.upd]
  exact b3l [(o2,{})] 1 _ _ _ _ _ _ μ1 a1 w1 hr ⟨⟨trivial,trivial⟩,trivial⟩ (λj o h hj=>by
   cases j with
   |zero=>simp at hj;obtain⟨rfl,rfl⟩:=hj;exact hi1
   |succ j=>simp at hj) s1 (fun μ' a' w' s' =>⟨μ',_,_,s',hk⟩)
 have hrel:i4 μ (.ptr d 0 0) (a.eval (.tmp it)):=s.fr.get it _ hit;have hmem:(d,LO.mit m ag ks es cur rest)∈H.pre [d]:=d7.mem_pre.2 ⟨by simp,hd⟩;have hpre:=s.sim.pre (pre:=H.pre [d]) (λc o h=>(d7.mem_pre.1 h).2);have step:∀(v:LV) (up:i9),B9 P o1 a w μ (H.pre [d]) up v->(∀x w' μ',i4 μ' v x->y0 μ w (H.pre [d]) up μ' w' ->wpOps P ops (λe a' w' =>∃μ' T' H',St w0 W μ0 μ' T' H' a' w' /\U_ Post (x7 P w0 W μ0 Post (.code c2:: .loop (.seq (.region id ops false) c2)::k)) e T' H') [1] (a.put (some t1'') x) w')->
   wpOp P ops (λe a' w' =>∃μ' T' H',St w0 W μ0 μ' T' H' a' w' /\U_ Post (x7 P w0 W μ0 Post (.code c2:: .loop (.seq (.region id ops false) c2)::k)) e T' H') 0 (λa w=>wpOps P ops (λe a' w' =>∃μ' T' H',St w0 W μ0 μ' T' H' a' w' /\U_ Post (x7 P w0 W μ0 Post (.code c2:: .loop (.seq (.region id ops false) c2)::k)) e T' H') [1] a w) a w:=by
  intro v up hr hK;have:=b7W (P:=P) (Q:=λe a' w' =>∃μ' T' H',St w0 W μ0 μ' T' H' a' w' /\U_ Post (x7 P w0 W μ0 Post (.code c2:: .loop (.seq (.region id ops false) c2)::k)) e T' H') (K:=λa w=>wpOps P ops (λe a' w' =>∃μ' T' H',St w0 W μ0 μ' T' H' a' w' /\U_ Post (x7 P w0 W μ0 Post (.code c2:: .loop (.seq (.region id ops false) c2)::k)) e T' H') [1] a w) hr (by rw[hd1];exact hK);unfold wpOp;simp only[hi0,Region.wanted,hg1,if_true];exact .inl this
 rcases c29 (P:=P) (ty:=o1.type) hpre hmem hrel with⟨hr,hrun⟩|⟨i,kk,vv,x,w',hr,hrun,hx,hdl⟩
 ·refine step (.tup [.bool false]) [] (.inl ⟨_,w,μ,.inl ?_,⟨_,rfl,.bool false,_,rfl,rfl,rfl⟩,y0.refl μ w _⟩) (λx w' μ' hx hdl=>?_)
  ·simp[execOp,ho1,hrun]
  ·have s1:=s.step (e:=⟨some t1'',[],.tup [.bool false],[d],[]⟩) rfl hx hdl
   exact second [.bool false] (.bool false) H μ' _ w' rfl s1 (h0 hr)
 ·refine step (.tup [.bool true,kk,vv]) _ (.inl ⟨x,w',μ,.inl ?_,hx,hdl⟩) (λx w' μ' hx hdl=>?_)
  ·simp[execOp,ho1,hrun]
  ·have s1:=s.step (e:=⟨some t1'',[],.tup [.bool true,kk,vv],[d],_⟩) rfl hx hdl
   exact second [.bool true,kk,vv] (.bool true) _ μ' _ w' rfl s1 (h1 i kk vv hr)
end
noncomputable def a0B{α R:Type}(rest:List α)(f:α->List α->Option R):Option R:=
 open Classical in
 match rest with
 |[]=>none
 |a::l=>if∀i x,(a::l)[i]?=some x->f x ((a::l).eraseIdx i)=f a l then f a l else none
theorem a6x{α R:Type}{rest:List α}{f:α->List α->Option R}{r:R}(h:a0B rest f=some r){i:Nat}{x:α}(hi:rest[i]?=some x):f x (rest.eraseIdx i)=some r:=by
 cases rest with
 |nil=>simp at hi
 |cons a l=>
  unfold a0B at h;simp only at h;split at h
  ·rename_i hall;rw[hall i x hi];exact h
  ·cases h
theorem a8p{α R:Type}{rest:List α}{f:α->List α->Option R}{r:Option R}(hne:rest≠[])(h:∀i x,rest[i]?=some x->f x (rest.eraseIdx i)=r):a0B rest f=r:=by
 cases rest with
 |nil=>exact absurd rfl hne
 |cons a l=>
  have h0:=h 0 a rfl;simp only[List.eraseIdx_zero,List.tail_cons] at h0;unfold a0B;simp only;rw[if_pos (λi x hi=>(h i x hi).trans h0.symm)];exact h0
section
variable {P:Program}{w0:World}{W:Nat->Prop}{μ0:d5}{Post:List LV->d7->Prop}
theorem c0U{α β:Type}{ek:α->LV}{ev:β->LV}{rest:List (α×β)}{i:Nat}{kk vv:LV}(h:(x9 ek ev rest)[i]?=some (kk,vv)):∃a,rest[i]?=some a/\kk=ek a.1/\vv=ev a.2:=by
 unfold x9 at h;rw[List.getElem?_map] at h;cases hr:rest[i]? with
 |none=>rw[hr] at h;simp at h
 |some a=>rw[hr] at h;simp at h;exact⟨a,rfl,h.1.symm,h.2.symm⟩
theorem b5h{α β:Type}{ek:α->LV}{ev:β->LV}:∀{rest:List (α×β)} {i:Nat},(x9 ek ev rest).eraseIdx i=x9 ek ev (rest.eraseIdx i)
 |[],i=>rfl
 |a::l,0=>rfl
 |a::l,i+1=>by
  have:=b5h (ek:=ek) (ev:=ev) (rest:=l) (i:=i);simp only[x9,List.map_cons,List.eraseIdx_cons_succ] at this⊢;rw[this]
theorem c0V{α β:Type}{ek:α->LV}{ev:β->LV}{rest:List (α×β)}(h:x9 ek ev rest=[]):rest=[]:=by cases rest<;>simp[x9] at h⊢
def a9r(K:List It):List It:=match K with
 | .loop c::k=>(match a9q c with|some (_,_,_,c2)=> .code c2:: .loop c::k|none=>[])
 |_=>[]
def b6X(K:List It):Option (Nat×Nat×Nat):=match K with
 | .loop c::_=>(match a9q c with|some (it,t1,t2,_)=>some (it,t1,t2)|none=>none)
 |_=>none
theorem a6Y{α β:Type}{K:List It}{it t1 t2 d m:Nat}{ag:Bool}{ks:List CK}{es:List (LV×LV)}{T:List LV}{H:d7}(ek:α->LV)(ev:β->LV)(rest:List (α×β))
  (hs:b6X K=some (it,t1,t2)) (hit:T[it]?=some (.ptr d 0 0)) (hd:H.at d=some (.mit m ag ks es none (x9 ek ev rest))) (hT:Nat.blt t1 T.length=true)
  (h0:rest=[]->x7 P w0 W μ0 Post (a9r K) none ((T.set t1 (.tup [.bool false])).set t2 (.bool false)) H)
  (h1:∀i a,rest[i]?=some a->x7 P w0 W μ0 Post (a9r K) none ((T.set t1 (.tup [.bool true,ek a.1,ev a.2])).set t2 (.bool true)) (H.upd [(d,some (.mit m ag ks es (some (ek a.1,ev a.2)) (x9 ek ev (rest.eraseIdx i))))])):
  x7 P w0 W μ0 Post K none T H:=by
 unfold b6X at hs;split at hs<;>try cases hs
 rename_i c k;split at hs<;>cases hs;rename_i c2 hn;have e:a9r (.loop c::k)=.code c2:: .loop c::k:=by unfold a9r;simp only[hn]
 rw[e] at h0 h1;refine c1C hn hit hd (by simpa using hT) (λh=>h0 (c0V h)) (λi kk vv hi=>?_);obtain⟨a,ha,rfl,rfl⟩:=c0U hi;rw[b5h];exact h1 i a ha
end
theorem b87{n s:Nat}{α:Type}{a:α}(h:s<n):∀x∈[(a,s)],x.2<n:=λx hx=>by simp at hx;rw[hx];exact h
theorem c2u{ag:Bool}{ks:List CK}{es:List (LV×LV)}:LO.Le (.map ag ks es) (.mapR ag ks es):=⟨λh=>(by cases h),λh=>h.elim,λ_ _ _ r=>r⟩
theorem a7T{α:Type}{rest:List α}(h:rest=[]):rest.isEmpty=true:=by rw[h];rfl
theorem a7U{α:Type}{rest:List α}{i:Nat}{a:α}(h:rest[i]?=some a):¬rest.isEmpty=true:=by cases rest<;>simp at h⊢
end Go.Cn
