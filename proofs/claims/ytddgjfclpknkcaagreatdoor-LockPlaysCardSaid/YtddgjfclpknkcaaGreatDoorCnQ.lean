import Derived.Test.YtddgjfclpknkcaaGreatDoorCnP
namespace Go.Cn
open Go
inductive It where
 |code (c:Code)
 |blk (id:Nat)
 |loop (body:Code)
section
variable (P:Program)(w0:World)(W:Nat->Prop)(μ0:d5)
def CW(c:Code)(T:List LV)(H:d7)(Q:Exit->List LV->d7->Prop):Prop:=
 ∀μ a w,St w0 W μ0 μ T H a w->c.wp P (λe a' w' =>∃μ' T' H',St w0 W μ0 μ' T' H' a' w' /\Q e T' H') a w
def LW(c:Code)(T:List LV)(H:d7)(Q:Exit->List LV->d7->Prop):Prop:=
 ∀μ a w,St w0 W μ0 μ T H a w->∀(b:Frame) (k:List Item) (cs:List Frame),
  ∃e a' w',(∃μ' T' H',St w0 W μ0 μ' T' H' a' w' /\Q e T' H')/\Arrives P (lone (b.at a (.code c:: .inLoop c::k)) cs w) b k cs e a' w'
def U_(Post:List LV->d7->Prop)(k:Option Nat->List LV->d7->Prop):Exit->List LV->d7->Prop
 | .normal,T,H=>k none T H
 | .exit id,T,H=>k (some id) T H
 | .ret,T,H=>Post T H
 |_,_,_=>False
def x7(Post:List LV->d7->Prop):List It->Option Nat->List LV->d7->Prop
 |[],none,T,H=>Post T H
 |[],some _,_,_=>False
 | .code c::k,none,T,H=>CW P w0 W μ0 c T H (U_ Post (x7 Post k))
 | .code _::k,some id,T,H=>x7 Post k (some id) T H
 | .blk _::k,none,T,H=>x7 Post k none T H
 | .blk i::k,some id,T,H=>if id=i then x7 Post k none T H else x7 Post k (some id) T H
 | .loop c::k,none,T,H=>LW P w0 W μ0 c T H (U_ Post (x7 Post k))
 | .loop _::k,some id,T,H=>x7 Post k (some id) T H
end
section
variable {P:Program}{w0:World}{W:Nat->Prop}{μ0:d5}{Post:List LV->d7->Prop}
theorem CW.mono{c:Code}{T:List LV}{H:d7}{Q Q' :Exit->List LV->d7->Prop}(h:CW P w0 W μ0 c T H Q)(hq:∀e T H,Q e T H->Q' e T H):CW P w0 W μ0 c T H Q' :=
 fun μ a w s=>wp_mono (h μ a w s) (λ_ _ _ ⟨μ',T',H',s',q⟩=>⟨μ',T',H',s',hq _ _ _ q⟩)
theorem c1F{k:List It}{T:List LV}{H:d7}(h:x7 P w0 W μ0 Post k none T H):x7 P w0 W μ0 Post (.code .skip::k) none T H:=
 fun μ a w s=>wp_skip ⟨μ,T,H,s,h⟩
theorem c1A{l:Nat}{k:List It}{T:List LV}{H:d7}(h:x7 P w0 W μ0 Post k none T H):x7 P w0 W μ0 Post (.code (.label l)::k) none T H:=
 fun μ a w s=>wp_label ⟨μ,T,H,s,h⟩
theorem b54{a b:Code}{k:List It}{T:List LV}{H:d7}(h:x7 P w0 W μ0 Post (.code a:: .code b::k) none T H):x7 P w0 W μ0 Post (.code (.seq a b)::k) none T H:=by
 intro μ ac w s;refine wp_seq (wp_mono (h μ ac w s) ?_);rintro e a' w' ⟨μ',T',H',s',q⟩;cases e with
 |normal=>exact q μ' a' w' s'
 |exit id=>exact⟨μ',T',H',s',q⟩
 |ret=>exact⟨μ',T',H',s',q⟩
 |goto l=>exact q.elim
 |panic c=>exact q.elim
 |outgrown=>exact q.elim
theorem b52{c:Operand}{x y:Code}{k:List It}{T:List LV}{H:d7}{b:Bool}(hc:B_ T c=.bool b)(h:x7 P w0 W μ0 Post (.code (if b then x else y)::k) none T H):x7 P w0 W μ0 Post (.code (.cond c x y)::k) none T H:=by
 intro μ a w s;have:=c3d s.fr c;rw[hc] at this;exact wp_cond this (h μ a w s)
theorem c1y{id:Nat}{c:Code}{k:List It}{T:List LV}{H:d7}(h:x7 P w0 W μ0 Post (.code c:: .blk id::k) none T H):x7 P w0 W μ0 Post (.code (.block id c)::k) none T H:=by
 intro μ a w s;refine wp_block (wp_mono (h μ a w s) ?_);rintro e a' w' ⟨μ',T',H',s',q⟩;cases e with
 |normal=>exact⟨μ',T',H',s',q⟩
 |exit id' =>
  simp only[U_,x7] at q;simp only[Exit.inBlock];split
  ·rename_i h;rw[if_pos h] at q;exact⟨μ',T',H',s',q⟩
  ·rename_i h;rw[if_neg h] at q;exact⟨μ',T',H',s',q⟩
 |ret=>exact⟨μ',T',H',s',q⟩
 |goto l=>exact q.elim
 |panic c=>exact q.elim
 |outgrown=>exact q.elim
theorem c1z{id:Nat}{k:List It}{T:List LV}{H:d7}(h:x7 P w0 W μ0 Post k (some id) T H):x7 P w0 W μ0 Post (.code (.exit id)::k) none T H:=
 fun μ a w s=>wp_exit ⟨μ,T,H,s,h⟩
theorem c1E{k:List It}{T:List LV}{H:d7}(h:Post T H):x7 P w0 W μ0 Post (.code .ret::k) none T H:=
 fun μ a w s=>wp_ret ⟨μ,T,H,s,h⟩
theorem c1B{c:Code}{k:List It}{T:List LV}{H:d7}(h:x7 P w0 W μ0 Post (.loop c::k) none T H):x7 P w0 W μ0 Post (.code (.loop c)::k) none T H:=by
 intro μ a w s b kk cs;obtain⟨e,a',w',hq,harr⟩:=h μ a w s b kk cs;exact⟨e,a',w',hq,.of_steps (.one step_loop) harr⟩
theorem b53{c:Code}{k:List It}{T:List LV}{H:d7}(h:x7 P w0 W μ0 Post (.code c:: .loop c::k) none T H):x7 P w0 W μ0 Post (.loop c::k) none T H:=by
 intro μ a w s b kk cs;obtain⟨e,a',w',⟨μ',T',H',s',q⟩,harr⟩:=h μ a w s b (.inLoop c::kk) cs;cases e with
 |normal=>
  obtain⟨e2,a2,w2,hq2,harr2⟩:=q μ' a' w' s' b kk cs;exact⟨e2,a2,w2,hq2,.of_steps (Steps.trans harr (.one step_inLoop)) harr2⟩
 |exit id=>exact⟨.exit id,a',w',⟨μ',T',H',s',(show U_ Post (x7 P w0 W μ0 Post k) (.exit id) T' H' from q)⟩,.pass (x:=.inLoop c) rfl (λ_ _=> .inl (by simp)) harr⟩
 |ret=>exact⟨.ret,a',w',⟨μ',T',H',s',(show U_ Post (x7 P w0 W μ0 Post k) .ret T' H' from q)⟩,.pass (x:=.inLoop c) rfl (λ_ _=> .inl (by simp)) harr⟩
 |goto l=>exact q.elim
 |panic c=>exact q.elim
 |outgrown=>exact q.elim
theorem St.weaken{μ:d5}{T T' :List LV}{H H' :d7}{a:Act}{w:World}(s:St w0 W μ0 μ T H a w)(hT:T'.length=T.length)(hTs:∀(t:Nat) (l:LV),T'[t]?=some l->l=.any\/T[t]?=some l)
  (hl:H.length<=H'.length) (hH:∀c o',H'.at c=some o' ->∃o,H.at c=some o/\O5 o o'):St w0 W μ0 μ T' H' a w where
 sim:=s.sim.weaken hH
 fr:=⟨by rw[hT];exact s.fr.size,λt l h=>by
  rcases hTs t l h with rfl|h
  ·trivial
  ·exact s.fr.get t l h⟩
 dom:=λc p h=>Nat.lt_of_lt_of_le (s.dom c p h) hl
 defs:=s.defs
 ext:=s.ext
theorem b7I{ops:Array Oper}:∀(l:List (Oper×H6)) (T:List LV) (H:d7) (q:Prop) (es:List A1) (T' :List LV) (H' :d7),a2X P ops l T H=some (q,es,T',H')->q->
  es.length=l.length/\T' =Q9 es T/\H' =M7 es H/\∀i o h,l[i]?=some (o,h)->∃e q',es[i]?=some e/\a4N P ops (M7 (es.take i) H) (Q9 (es.take i) T) o h=some (q',e)/\q'
 |[],T,H,q,es,T',H',h,_=>by
  cases h;exact⟨rfl,rfl,rfl,λi o h hi=>by simp at hi⟩
 |(o,h0)::r,T,H,q,es,T',H',h,hq=>by
  unfold a2X at h;split at h<;>try cases h
  rename_i q1 e he;split at h<;>cases h;rename_i q2 es2 hr;obtain⟨h1,h2,h3,h4⟩:=b7I r _ _ _ _ _ _ hr hq.2;refine⟨by simp[h1],h2,h3,λi o' h' hi=>?_⟩;cases i with
  |zero=>
   simp at hi;obtain⟨rfl,rfl⟩:=hi;exact⟨e,q1,by simp,by simpa[Q9,M7] using he,hq.1⟩
  |succ i=>
   simp at hi;obtain⟨e',q',g1,g2,g3⟩:=h4 i o' h' hi;exact⟨e',q',by simpa using g1,by simpa[Q9,M7] using g2,g3⟩
def a0g:List Oper->Nat->List (Nat×H6)->List (Oper×H6)
 |[],_,_=>[]
 |o::r,i,hs=>(o,match hs.find? (·.1==i) with|some x=>x.2|none=>{})::a0g r (i+1) hs
theorem b1N:∀(l:List Oper) (i:Nat) (hs:List (Nat×H6)) (j:Nat),(∀o h,(a0g l i hs)[j]?=some (o,h)->l[j]?=some o)/\(∀o,l[j]?=some o->∃h,(a0g l i hs)[j]?=some (o,h))
 |[],_,_,_=>⟨λo h hj=>by simp[a0g] at hj,λo hj=>by simp at hj⟩
 |x::r,i,hs,0=>⟨λo h hj=>by simp[a0g] at hj;simp[hj.1],λo hj=>by simp at hj;subst hj;exact⟨_,rfl⟩⟩
 |x::r,i,hs,j+1=>by
  have:=b1N r (i+1) hs j;exact⟨λo h hj=>by simp[a0g] at hj;simpa using this.1 o h hj,λo hj=>by simp at hj;obtain⟨h,hh⟩:=this.2 o hj;exact⟨h,by simpa[a0g] using hh⟩⟩
theorem b5R:∀(l:List Oper) (i:Nat) (hs:List (Nat×H6)),(a0g l i hs).length=l.length
 |[],_,_=>rfl
 |x::r,i,hs=>by simp[a0g,b5R r (i+1) hs]
def b8F:List (Nat×H6)->a0A
 |[]=>none
 |(i,h)::r=>match h.soft with
  |some c=>some (i,c)
  |none=>b8F r
def b3k(ops:Array Oper)(es:List A1)(sf:a0A)(H:d7)(q:Prop):Option Prop:=
 match sf with
 |none=>if a0D ops none es then some q else none
 |some (j,c)=>match b3Z H es j c with
  |some q' =>if a0D ops (some (j,c)) es then some (q/\q') else none
  |none=>none
theorem c49{ops:Array Oper}{es:List A1}{sf:a0A}{H:d7}{q q2:Prop}(h:b3k ops es sf H q=some q2)(hq:q2):q/\a8m H es sf/\a0D ops sf es=true:=by
 unfold b3k at h;split at h
 ·split at h<;>cases h
  exact⟨hq,trivial,‹_›⟩
 ·split at h<;>try cases h
  rename_i q' hs;split at h<;>cases h;exact⟨hq.1,c61 hs hq.2,‹_›⟩
def b3m(P:Program)(ops:Array Oper)(draw:Bool)(hs:List (Nat×H6))(T:List LV)(H:d7):Option (Prop×List LV×d7):=
 match a2X P ops (a0g ops.toList 0 hs) T H with
 |some (q,es,T',H')=>if draw then(match b3k ops es (b8F hs) H q with
  |some q2=>some (q2,T',H')
  |none=>none) else some (q,T',H')
 |none=>none
theorem c1D(hm:P.follows .mixedOrders=true){id:Nat}{ops:Array Oper}{draw:Bool}{hs:List (Nat×H6)}{k:List It}{T T' :List LV}{H H' :d7}{q:Prop}(h:b3m P ops draw hs T H=some (q,T',H'))(hq:q)
  (hk:x7 P w0 W μ0 Post k none T' H'):x7 P w0 W μ0 Post (.code (.region id ops draw)::k) none T H:=by
 intro μ a w s;unfold b3m at h;split at h<;>try cases h
 rename_i q0 es T0 H0 hr;have hlen:=b5R ops.toList 0 hs;cases draw with
 |false=>
  simp only[Bool.false_eq_true,if_false,Option.some.injEq,Prod.mk.injEq] at h;obtain⟨rfl,rfl,rfl⟩:=h;refine wp_region ?_;have:=b3l (P:=P) (Q:=λe a' w' =>∃μ' T' H',St w0 W μ0 μ' T' H' a' w' /\U_ Post (x7 P w0 W μ0 Post k) e T' H') (a0g ops.toList 0 hs) 0 T H q0 es T0 H0 μ a w hr hq
   (λj o h hj=>by
    rw[Nat.zero_add,<-Array.getElem?_toList];exact(b1N ops.toList 0 hs j).1 o h hj) s (fun μ' a' w' s' =>⟨μ',T0,H0,s',hk⟩)
  rw[hlen,Array.length_toList] at this;rw[List.range_eq_range'];exact this
 |true=>
  simp only[if_true] at h;split at h<;>cases h;rename_i hrd;obtain⟨hq,hsf,hchk⟩:=c49 hrd hq;obtain⟨g1,g2,g3,g4⟩:=b7I _ _ _ _ _ _ _ hr hq;refine wp_region_any hm ?_;have hsz:ops.size=es.length:=by rw[g1,hlen,Array.length_toList]
  have none_TD:∀(D:Nat->Bool),(∀i,i<es.length->D i=false)->TD D 0 es T=T/\HD D 0 es H=H:=by
   intro D hD;constructor
   ·have key:∀(l:List A1) (m:Nat) (T:List LV),(∀i,m<=i->i<m+l.length->D i=false)->TD D m l T=T:=by
     intro l
     induction l with
     |nil=>intro m T _;rfl
     |cons e r ih=>
      intro m T h;simp only[TD,h m (Nat.le_refl _) (by simp),Bool.false_eq_true,if_false];exact ih (m+1) T (λi h1 h2=>h i (by omega) (by simp;omega))
    exact key es 0 T (λi _ h=>hD i (by omega))
   ·have key:∀(l:List A1) (m:Nat) (H:d7),(∀i,m<=i->i<m+l.length->D i=false)->HD D m l H=H:=by
     intro l
     induction l with
     |nil=>intro m H _;rfl
     |cons e r ih=>
      intro m H h;simp only[HD,h m (Nat.le_refl _) (by simp),Bool.false_eq_true,if_false];exact ih (m+1) H (λi h1 h2=>h i (by omega) (by simp;omega))
    exact key es 0 H (λi _ h=>hD i (by omega))
  have hD0:∀i,i<es.length->(Array.replicate ops.size false).getD i true=false:=by
   intro i hi;simp[Array.getD_eq_getD_getElem?,Array.getElem?_replicate,show i<ops.size from by omega]
  obtain⟨e1,e2⟩:=none_TD (λi=>(Array.replicate ops.size false).getD i true) hD0;refine b98 (P:=P) (μ0:=μ0) (T0:=T) (H0:=H) (w0:=w0) (W:=W) (hints:=[]) hsf hchk hsz (λi o ho=>?_) (fun μ' a' w' hI=>?_) ops.size (Array.replicate ops.size false) μ a _ (by simp) (by simp) ?_ ?_
  ·obtain⟨h',hh⟩:=(b1N ops.toList 0 hs i).2 o (by rw[Array.getElem?_toList];exact ho)
   obtain⟨e,q',f1,f2,f3⟩:=g4 i o h' hh;exact⟨e,h',q',f1,f2,f3⟩
  ·refine⟨μ',T',H',?_,hk⟩
   have a1:TD (λ_=>true) 0 es T=Q9 es T:=by
    have:=a4S es 0 es.length T;rw[List.take_length] at this;rw[<-this];apply List.ext_getElem?;intro t;refine a6w t es 0 _ _ (λj e hj _=>?_) rfl;have:=(List.getElem?_eq_some_iff.1 hj).1;simp;omega
   have a2:∀c,(M7 es H).at c=(HD (λ_=>true) 0 es H).at c:=by
    intro c;have:=a3o es 0 es.length H;rw[List.take_length] at this;rw[<-this];refine a3n c es 0 _ _ (λj e hj _=>?_) rfl;have:=(List.getElem?_eq_some_iff.1 hj).1;simp;omega
   refine⟨?_,?_,?_,hI.defs,hI.ext⟩
   ·rw[g3];exact hI.sim.congr a2
   ·rw[g2,<-a1];exact hI.fr
   ·intro c p hc
    rw[g3];rcases hI.dom c p hc with h|⟨kk,e,h1,_,h3⟩
    ·exact Nat.lt_of_lt_of_le h (a8O es H)
    ·exact b1I es H kk e c h1 h3
  ·intro j o e ho hj
   have:(Array.replicate ops.size false).getD j true=false:=by
    have hlt:=(Array.getElem?_eq_some_iff.1 ho).1;simp[Array.getD_eq_getD_getElem?,Array.getElem?_replicate,hlt]
   rw[show(Array.replicate ops.size false).getD j true=true from hj] at this;cases this
  ·refine⟨by rw[e2];exact{s.sim with draws:=λh=>Nat.le_succ_of_le (s.sim.draws h)},by rw[e1];exact s.fr,λc p h=> .inl (s.dom c p h),s.defs,s.ext⟩
inductive Res where
 |stop (todo:List It) (T:List LV) (H:d7)
 |ret (T:List LV) (H:d7)
def Res.holds(P:Program)(w0:World)(W:Nat->Prop)(μ0:d5)(Post:List LV->d7->Prop):Res->Prop
 | .stop k T H=>x7 P w0 W μ0 Post k none T H
 | .ret T H=>Post T H
def a2e(id:Nat):List It->Option (List It)
 |[]=>none
 | .blk i::k=>if id=i then some k else a2e id k
 |_::k=>a2e id k
inductive Tok where
 |reg (hs:List (Nat×H6))
 |go
 |frz (c:Nat)
 |void (o:LO)
 |wk (ts:List (Nat×LV)) (os:List (Nat×LO))
 |x (t:a8o)
def K_:List (Nat×LV)->List LV->Prop×List LV
 |[],T=>(True,T)
 |(t,v)::r,T=>(((T[t]?).getD .any).Le v/\(K_ r (T.set t v)).1,(K_ r (T.set t v)).2)
def wkH:List (Nat×LO)->d7->Option (Prop×d7)
 |[],H=>some (True,H)
 |(c,o)::r,H=>
  match H.at c with
  |some o0=>match wkH r (H.set c (some o)) with
   |some (q,H')=>some (LO.SubP o0 o/\q,H')
   |none=>none
  |none=>none
def a3D:List It->Bool
 | .code _::_=>true
 | .loop _::_=>true
 |_=>false
theorem b4r(H:d7)(o:LO)(c:Nat):d7.at (H++[some o]) c=if c=H.length then some o else H.at c:=by
 simp only[d7.at];by_cases h:c<H.length
 ·rw[List.getElem?_append_left h,if_neg (by omega)]
 ·rw[List.getElem?_append_right (by omega)]
  by_cases h2:c=H.length
  ·subst h2;simp
  ·rw[if_neg h2,List.getElem?_eq_none (by simp;omega),List.getElem?_eq_none (by omega)]
theorem H7.addVoid{w0:World}{W:Nat->Prop}{μ:d5}{H:d7}{w:World}{o:LO}(s:H7 w0 W μ H w)(hv:o.void)(hd:μ H.length=none):H7 w0 W μ (H++[some o]) w:=by
 have at' :∀{c x p},d7.at (H++[some o]) c=some x->μ c=some p->H.at c=some x:=by
  intro c x p h hp;rw[b4r] at h;split at h
  ·rename_i e;subst e;rw[hd] at hp;cases hp
  ·exact h
 refine⟨λc x h=>?_,λc x c' x' p p' h h' hne hw hp hp' =>s.sep c x c' x' p p' (at' h hp) (at' h' hp') hne hw hp hp',s.os,s.tape,s.output,s.draws,s.grow,s.keep,λc x p h hw hp=>s.own c x p (at' h hp) hw hp,s.fro,λc x p h hw hp=>s.frs c x p (at' h hp) hw hp,s.tab,λc x p h hp=>s.xok c x p (at' h hp) hp,λc x p b c' x' p' h hp hx h' hp' =>s.xsep c x p b c' x' p' (at' h hp) hp hx (at' h' hp') hp',λc x p b h hp=>s.xown c x p b (at' h hp) hp,λc x p b h hp=>s.xfrs c x p b (at' h hp) hp⟩;rw[b4r] at h;split at h
 ·rename_i e;subst e;cases h;exact .inl ⟨hd,hv⟩
 ·exact s.obj' c x h
theorem b1Y{k:List It}{T:List LV}{H:d7}{o:LO}(hk:a3D k=true)(hv:o.void)(hh:x7 P w0 W μ0 Post k none T (H++[some o])):x7 P w0 W μ0 Post k none T H:=by
 have key:∀{μ:d5} {a:Act} {w:World},St w0 W μ0 μ T H a w->St w0 W μ0 μ T (H++[some o]) a w:=by
  intro μ a w s;have hd:μ H.length=none:=by
   cases h:μ H.length with
   |none=>rfl
   |some p=>have:=s.dom _ p h;omega
  exact⟨s.sim.addVoid hv hd,s.fr,λc p h=>by have:=s.dom c p h;simp;omega,s.defs,s.ext⟩
 cases k with
 |nil=>cases hk
 |cons it k=>
  cases it with
  |code cd=>exact fun μ a w s=>hh μ a w (key s)
  |loop cd=>exact fun μ a w s=>hh μ a w (key s)
  |blk i=>cases hk
theorem a0z.wk{μ:d5}{tmps:Array Value}:∀(ts:List (Nat×LV)) {T:List LV},a0z μ T tmps->(K_ ts T).1->a0z μ (K_ ts T).2 tmps
 |[],_,h,_=>h
 |(t,v)::r,T,h,hq=>by
  refine a0z.wk r (T:=T.set t v) ⟨by rw[List.length_set];exact h.size,λi l hi=>?_⟩ hq.2;rw[List.getElem?_set] at hi;split at hi
  ·rename_i e
   subst e;split at hi
   ·rename_i hlt
    cases hi;refine hq.1 _ _ ?_;rw[List.getElem?_eq_getElem hlt];exact h.get t _ (List.getElem?_eq_getElem hlt)
   ·cases hi
  ·exact h.get i l hi
theorem b9A(H:d7)(c d:Nat)(o:LO)(hc:c<H.length):d7.at (H.set c (some o)) d=if c=d then some o else H.at d:=by
 simp only[d7.at,List.getElem?_set];split
 ·rename_i e
  subst e;simp[hc]
 ·rfl
theorem b9y{H:d7}{c:Nat}{o:LO}(h:H.at c=some o):c<H.length:=by
 rcases Nat.lt_or_ge c H.length with h1|h1
 ·exact h1
 ·simp only[d7.at,List.getElem?_eq_none h1,Option.getD_none] at h;cases h
theorem H7.wk1{w0:World}{W:Nat->Prop}{μ:d5}{H:d7}{w:World}{c:Nat}{o0 o:LO}(s:H7 w0 W μ H w)(ho:H.at c=some o0)(hs:LO.SubP o0 o):H7 w0 W μ (H.set c (some o)) w:=by
 have hl:=b9y ho;have old:∀{d x},d7.at (H.set c (some o)) d=some x->∃y,H.at d=some y/\y.wr=x.wr/\LO.SubP y x:=by
  intro d x h;rw[b9A H c d o hl] at h;split at h
  ·rename_i e;subst e;cases h;exact⟨o0,ho,hs.sub.1,hs⟩
  ·exact⟨x,h,rfl,LO.SubP.refl x⟩
 refine⟨λd x h=>?_,λd x d' x' p p' h h' hne hw hp hp' =>?_,s.os,s.tape,s.output,s.draws,s.grow,s.keep,λd x p h hw hp=>?_,s.fro,λd x p h hw hp=>?_,s.tab,λd x p h hp=>?_,λd x p b d' x' p' h hp hx h' hp' =>?_,λd x p b h hp hx=>?_,λd x p b h hp hx=>?_⟩
 ·obtain⟨y,hy,_,hyx⟩:=old h
  rcases s.obj' d y hy with⟨h1,h2⟩|⟨p,h1,h2⟩
  ·exact .inl ⟨h1,hyx.sub.2.1 h2⟩
  ·exact .inr ⟨p,h1,hyx.sub.2.2 _ _ _ h2⟩
 ·obtain⟨y,hy,hyw,_⟩:=old h
  obtain⟨y',hy',hyw',_⟩:=old h';exact s.sep d y d' y' p p' hy hy' hne (by rw[hyw,hyw'];exact hw) hp hp'
 ·obtain⟨y,hy,hyw,_⟩:=old h
  exact s.own d y p hy (by rw[hyw];exact hw) hp
 ·obtain⟨y,hy,hyw,_⟩:=old h
  exact s.frs d y p hy (by rw[hyw];exact hw) hp
 ·obtain⟨y,hy,_,hyx⟩:=old h
  exact hyx.xok (s.xok d y p hy hp)
 ·obtain⟨y,hy,_,hyx⟩:=old h
  obtain⟨y',hy',_,hyx'⟩:=old h';have:=s.xsep d y p b d' y' p' hy hp (hyx.xtra hx) hy' hp';exact⟨this.1,λhne hx' =>this.2 hne (hyx'.xtra hx')⟩
 ·obtain⟨y,hy,_,hyx⟩:=old h
  exact s.xown d y p b hy hp (hyx.xtra hx)
 ·obtain⟨y,hy,_,hyx⟩:=old h
  exact s.xfrs d y p b hy hp (hyx.xtra hx)
theorem H7.wk{w0:World}{W:Nat->Prop}{μ:d5}{w:World}:∀(os:List (Nat×LO)) {H H' :d7} {q:Prop},wkH os H=some (q,H')->q->H7 w0 W μ H w->H7 w0 W μ H' w/\H'.length=H.length
 |[],H,H',q,h,_,s=>by cases h;exact⟨s,rfl⟩
 |(c,o)::r,H,H',q,h,hq,s=>by
  unfold wkH at h;split at h
  ·rename_i o0 ho
   split at h<;>cases h;rename_i q2 hr;obtain⟨h1,h2⟩:=H7.wk r hr hq.2 (s.wk1 ho hq.1);exact⟨h1,by rw[h2,List.length_set]⟩
  ·cases h
theorem b1Z{k:List It}{T:List LV}{H H' :d7}{ts:List (Nat×LV)}{os:List (Nat×LO)}{q:Prop}(hk:a3D k=true)(h:wkH os H=some (q,H'))(hq:(K_ ts T).1/\q)
  (hh:x7 P w0 W μ0 Post k none (K_ ts T).2 H'):x7 P w0 W μ0 Post k none T H:=by
 have key:∀{μ:d5} {a:Act} {w:World},St w0 W μ0 μ T H a w->St w0 W μ0 μ (K_ ts T).2 H' a w:=by
  intro μ a w s;obtain⟨h1,h2⟩:=H7.wk os h hq.2 s.sim;exact⟨h1,s.fr.wk ts hq.1,λc p hp=>by rw[h2];exact s.dom c p hp,s.defs,s.ext⟩
 cases k with
 |nil=>cases hk
 |cons it k=>
  cases it with
  |code cd=>exact fun μ a w s=>hh μ a w (key s)
  |loop cd=>exact fun μ a w s=>hh μ a w (key s)
  |blk i=>cases hk
theorem k_x{k:List It}{T:List LV}{H:d7}{t:a8o}{q:Prop}{foot:List Nat}{up:i9}(hk:a3D k=true)(h:xst H.length H t=some (q,foot,up))(hq:q)
  (hh:x7 P w0 W μ0 Post k none T (H.upd up)):x7 P w0 W μ0 Post k none T H:=by
 have key:∀{μ:d5} {a:Act} {w:World},St w0 W μ0 μ T H a w->∃μ',St w0 W μ0 μ' T (H.upd up) a w:=by
  intro μ a w s;have hpre:∀c o,(c,o)∈H.pre foot->H.at c=some o:=λc o h=>(d7.mem_pre.1 h).2;have hn:μ H.length=none:=by
   cases e:μ H.length with
   |none=>rfl
   |some p=>have:=s.dom _ p e;omega
  obtain⟨μ',r⟩:=c7x h hq (s.sim.pre hpre) hn (λc o hc hv=>by
   obtain⟨p,h1,_⟩:=s.sim.obj c o (hpre c o hc) hv;exact⟨p,h1⟩)
  have d:=r.delta;refine⟨μ',s.sim.step hpre d,⟨s.fr.size,λt l ht=>(s.fr.get t l ht).mono d.ext⟩,λc p hc=>?_,s.defs,s.ext.step s.sim hpre d⟩;rcases d.dom c p hc with h|⟨h,_⟩
  ·exact Nat.lt_of_lt_of_le (s.dom c p h) (a1X _ H).1
  ·exact(a1X _ H).2 c h
 cases k with
 |nil=>cases hk
 |cons it k=>
  cases it with
  |code cd=>exact fun μ a w s=>let⟨μ',s'⟩:=key s;hh μ' a w s'
  |loop cd=>exact fun μ a w s=>let⟨μ',s'⟩:=key s;hh μ' a w s'
  |blk i=>cases hk
theorem b1X{k:List It}{T T' :List LV}{H H' :d7}{c:Nat}{q:Prop}(hk:a3D k=true)(h:a6O c T H=some (q,T',H'))(hq:q)(hh:x7 P w0 W μ0 Post k none T' H'):x7 P w0 W μ0 Post k none T H:=by
 have key:∀{μ:d5} {a:Act} {w:World},St w0 W μ0 μ T H a w->∃μ',St w0 W μ0 μ' T' H' a w:=by
  intro μ a w s;unfold a6O at h;split at h<;>try cases h
  rename_i o ho;split at h<;>cases h;rename_i sz m f hr;obtain⟨hz,hTH⟩:=hq;obtain⟨hT,hH⟩:=a3m hTH;obtain⟨μ',hF,hl,hnw,hs⟩:=s.sim.freeze ho hr hz hH;refine⟨μ',hs,⟨by rw[a8P];exact s.fr.size,λt l hl' =>?_⟩,λd p hd=>?_,s.defs,⟨s.ext.ext.trans hF.1,λb cs hb=>(hnw b cs hb).elim (s.ext.new b cs) .inr⟩⟩
  ·have hlen:t<T.length:=by have:=(List.getElem?_eq_some_iff.1 hl').1;rwa [a8P] at this
   have h1:∀(l:List LV) (t:Nat) (x:LV),l[t]?=some x->(M8 c sz m f l).2[t]?=some (L3 c sz m f x).2/\(X6 (M8 c sz m f l).1->X6 (L3 c sz m f x).1):=by
    intro l
    induction l with
    |nil=>intro t x h;simp at h
    |cons y r ih=>
     intro t x h;cases t with
     |zero=>simp at h;subst h;exact⟨rfl,λh=>(a3m h).1⟩
     |succ t=>
      simp only[List.getElem?_cons_succ] at h;have:=ih t x h;exact⟨this.1,λh=>this.2 (a3m h).2⟩
   have hx:T[t]?=some T[t]:=List.getElem?_eq_getElem hlen;obtain⟨g1,g2⟩:=h1 T t _ hx;rw[hl'] at g1;cases g1;exact b5J hF _ _ (g2 hT) (s.fr.get t _ hx)
  ·rw[show μ' d=μ d from congrFun hl d] at hd
   have:=s.dom d p hd;have h2:=(a9Q (W7 c sz m f H).2 c none).1;rw[b5I] at h2;omega
 cases k with
 |nil=>cases hk
 |cons it k=>
  cases it with
  |code cd=>
   intro μ a w s;obtain⟨μ',s'⟩:=key s;exact hh μ' a w s'
  |loop cd=>
   intro μ a w s;obtain⟨μ',s'⟩:=key s;exact hh μ' a w s'
  |blk i=>cases hk
def run(P:Program):Nat->List Tok->List It->List LV->d7->Option (Prop×Res)
 |0,_,_,_,_=>none
 |n+1,s,k,T,H=>
  match k with
  |[]=>some (True,.ret T H)
  | .blk _::k=>run P n s k T H
  | .loop c::k=>
   match s with
   | .go::s=>run P n s (.code c:: .loop c::k) T H
   | .wk ts os::s=>
    match wkH os H with
    |some (q,H')=>
     match run P n s (.loop c::k) (K_ ts T).2 H' with
     |some (q',r)=>some (((K_ ts T).1/\q)/\q',r)
     |none=>none
    |none=>none
   | .void o::s=>
    match run P n s (.loop c::k) T (H++[some o]) with
    |some (q,r)=>some (o.void/\q,r)
    |none=>none
   | .frz d::s=>
    match a6O d T H with
    |some (q,T',H')=>
     match run P n s (.loop c::k) T' H' with
     |some (q',r)=>some (q/\q',r)
     |none=>none
    |none=>none
   | .x t::s=>
    match xst H.length H t with
    |some (q,_,up)=>
     match run P n s (.loop c::k) T (H.upd up) with
     |some (q',r)=>some (q/\q',r)
     |none=>none
    |none=>none
   |_=>some (True,.stop (.loop c::k) T H)
  | .code c::k=>
   match c with
   | .skip=>run P n s k T H
   | .label _=>run P n s k T H
   | .seq a b=>run P n s (.code a:: .code b::k) T H
   | .cond x a b=>
    match B_ T x with
    | .bool true=>run P n s (.code a::k) T H
    | .bool false=>run P n s (.code b::k) T H
    |_=>none
   | .block id c=>run P n s (.code c:: .blk id::k) T H
   | .exit id=>match a2e id k with
    |some k' =>run P n s k' T H
    |none=>none
   | .loop c=>run P n s (.loop c::k) T H
   | .ret=>
    match s with
    | .wk ts os::s=>
     match wkH os H with
     |some (q,H')=>
      match run P n s (.code .ret::k) (K_ ts T).2 H' with
      |some (q',r)=>some (((K_ ts T).1/\q)/\q',r)
      |none=>none
     |none=>none
    | .void o::s=>
     match run P n s (.code .ret::k) T (H++[some o]) with
     |some (q,r)=>some (o.void/\q,r)
     |none=>none
    | .frz d::s=>
     match a6O d T H with
     |some (q,T',H')=>
      match run P n s (.code .ret::k) T' H' with
      |some (q',r)=>some (q/\q',r)
      |none=>none
     |none=>none
    | .x t::s=>
     match xst H.length H t with
     |some (q,_,up)=>
      match run P n s (.code .ret::k) T (H.upd up) with
      |some (q',r)=>some (q/\q',r)
      |none=>none
     |none=>none
    |_=>some (True,.ret T H)
   | .region id ops draw=>
    match s with
    | .reg hs::s=>
     match b3m P ops draw hs T H with
     |some (q,T',H')=>
      match run P n s k T' H' with
      |some (q',r)=>some (q/\q',r)
      |none=>none
     |none=>none
    | .wk ts os::s=>
     match wkH os H with
     |some (q,H')=>
      match run P n s (.code (.region id ops draw)::k) (K_ ts T).2 H' with
      |some (q',r)=>some (((K_ ts T).1/\q)/\q',r)
      |none=>none
     |none=>none
    | .void o::s=>
     match run P n s (.code (.region id ops draw)::k) T (H++[some o]) with
     |some (q,r)=>some (o.void/\q,r)
     |none=>none
    | .frz d::s=>
     match a6O d T H with
     |some (q,T',H')=>
      match run P n s (.code (.region id ops draw)::k) T' H' with
      |some (q',r)=>some (q/\q',r)
      |none=>none
     |none=>none
    | .x t::s=>
     match xst H.length H t with
     |some (q,_,up)=>
      match run P n s (.code (.region id ops draw)::k) T (H.upd up) with
      |some (q',r)=>some (q/\q',r)
      |none=>none
     |none=>none
    |_=>some (True,.stop (.code c::k) T H)
   |_=>none
theorem a8S{id:Nat}:∀{k k' :List It} {T:List LV} {H:d7},a2e id k=some k' ->x7 P w0 W μ0 Post k' none T H->x7 P w0 W μ0 Post k (some id) T H
 |[],_,_,_,h,_=>by simp[a2e] at h
 | .code _::k,_,_,_,h,hk=>a8S (k:=k) (by simpa[a2e] using h) hk
 | .loop _::k,_,_,_,h,hk=>a8S (k:=k) (by simpa[a2e] using h) hk
 | .blk i::k,_,_,_,h,hk=>by
  unfold a2e at h;unfold x7;split at h
  ·rename_i e;cases h;rw[if_pos e];exact hk
  ·rename_i e;rw[if_neg e];exact a8S h hk
theorem M4(hm:P.follows .mixedOrders=true):∀(n:Nat) (s:List Tok) (k:List It) (T:List LV) (H:d7) (q:Prop) (r:Res),run P n s k T H=some (q,r)->q->r.holds P w0 W μ0 Post->x7 P w0 W μ0 Post k none T H
 |0,s,k,T,H,q,r,h,_,hr=>by cases h
 |n+1,s,k,T,H,q,r,h,hq,hr=>by
  unfold run at h;split at h
  ·cases h;exact hr
  ·rename_i k0
   exact(show x7 P w0 W μ0 Post k0 none T H from M4 hm n s k0 T H q r h hq hr)
  ·split at h
   ·exact b53 (M4 hm n _ _ T H q r h hq hr)
   ·split at h<;>try cases h
    rename_i q1 H1 hf;split at h<;>cases h;rename_i q2 hrun;exact b1Z rfl hf hq.1 (M4 hm n _ _ _ _ _ _ hrun hq.2 hr)
   ·split at h<;>cases h
    rename_i q2 hrun;exact b1Y rfl hq.1 (M4 hm n _ _ _ _ _ _ hrun hq.2 hr)
   ·split at h<;>try cases h
    rename_i q1 T1 H1 hf;split at h<;>cases h;rename_i q2 hrun;exact b1X rfl hf hq.1 (M4 hm n _ _ _ _ _ _ hrun hq.2 hr)
   ·split at h<;>try cases h
    rename_i q1 ft1 up1 hf;split at h<;>cases h;rename_i q2 hrun;exact k_x rfl hf hq.1 (M4 hm n _ _ _ _ _ _ hrun hq.2 hr)
   ·cases h;exact hr
  ·rename_i c k
   split at h
   ·exact c1F (M4 hm n s _ T H q r h hq hr)
   ·exact c1A (M4 hm n s _ T H q r h hq hr)
   ·exact b54 (M4 hm n s _ T H q r h hq hr)
   ·rename_i x a b
    split at h
    ·rename_i hb;exact b52 hb (M4 hm n s _ T H q r h hq hr)
    ·rename_i hb;exact b52 hb (M4 hm n s _ T H q r h hq hr)
    ·cases h
   ·exact c1y (M4 hm n s _ T H q r h hq hr)
   ·split at h
    ·rename_i k' he;exact c1z (a8S he (M4 hm n s _ T H q r h hq hr))
    ·cases h
   ·exact c1B (M4 hm n s _ T H q r h hq hr)
   ·split at h
    ·split at h<;>try cases h
     rename_i q1 H1 hf;split at h<;>cases h;rename_i q2 hrun;exact b1Z rfl hf hq.1 (M4 hm n _ _ _ _ _ _ hrun hq.2 hr)
    ·split at h<;>cases h
     rename_i q2 hrun;exact b1Y rfl hq.1 (M4 hm n _ _ _ _ _ _ hrun hq.2 hr)
    ·split at h<;>try cases h
     rename_i q1 T1 H1 hf;split at h<;>cases h;rename_i q2 hrun;exact b1X rfl hf hq.1 (M4 hm n _ _ _ _ _ _ hrun hq.2 hr)
    ·split at h<;>try cases h
     rename_i q1 ft1 up1 hf;split at h<;>cases h;rename_i q2 hrun;exact k_x rfl hf hq.1 (M4 hm n _ _ _ _ _ _ hrun hq.2 hr)
    ·cases h;exact c1E hr
   ·split at h
    ·split at h<;>try cases h
     rename_i q1 T1 H1 hreg;split at h<;>cases h;rename_i q2 hrun;exact c1D hm hreg hq.1 (M4 hm n _ _ _ _ _ _ hrun hq.2 hr)
    ·split at h<;>try cases h
     rename_i q1 H1 hf;split at h<;>cases h;rename_i q2 hrun;exact b1Z rfl hf hq.1 (M4 hm n _ _ _ _ _ _ hrun hq.2 hr)
    ·split at h<;>cases h
     rename_i q2 hrun;exact b1Y rfl hq.1 (M4 hm n _ _ _ _ _ _ hrun hq.2 hr)
    ·split at h<;>try cases h
     rename_i q1 T1 H1 hf;split at h<;>cases h;rename_i q2 hrun;exact b1X rfl hf hq.1 (M4 hm n _ _ _ _ _ _ hrun hq.2 hr)
    ·split at h<;>try cases h
     rename_i q1 ft1 up1 hf;split at h<;>cases h;rename_i q2 hrun;exact k_x rfl hf hq.1 (M4 hm n _ _ _ _ _ _ hrun hq.2 hr)
    ·cases h;exact hr
   ·cases h
def a3y:Code->List It->List (List It)
 | .seq a b,k=>a3y a (.code b::k)++a3y b k
 | .cond _ a b,k=>a3y a k++a3y b k
 | .block id c,k=>a3y c (.blk id::k)
 | .loop c,k=>(.loop c::k)::a3y c (.loop c::k)
 |_,_=>[]
def z6(c:Code)(i:Nat):List It:=((a3y c [])[i]?).getD []
def a3x(r:Nat):Code->List It->Option (List It)
 | .seq a b,k=>
  match a3x r a (.code b::k) with
  |some x=>some x
  |none=>a3x r b k
 | .cond _ a b,k=>
  match a3x r a k with
  |some x=>some x
  |none=>a3x r b k
 | .block id c,k=>a3x r c (.blk id::k)
 | .loop c,k=>a3x r c (.loop c::k)
 | .region id ops d,k=>if id=r then some (.code (.region id ops d)::k) else none
 |_,_=>none
def z7(c:Code)(r:Nat):List It:=(a3x r c []).getD []
end
end Go.Cn
