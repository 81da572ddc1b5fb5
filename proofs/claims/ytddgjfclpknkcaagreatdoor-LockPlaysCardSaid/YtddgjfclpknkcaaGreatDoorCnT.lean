import Derived.Test.YtddgjfclpknkcaaGreatDoorCnR
namespace Go.Cn
open Go
def J0(m:Nat)(L:List Nat)(c:Nat):Nat:=if c<m then c else(L[c - m]?).getD 0
def a2y:List Nat->Bool
 |[]=>true
 |x::r=>!(r.any (· ==x))&&a2y r
def a8e(m:Nat)(L:List Nat):Bool:=L.all (λx=>decide (m<=x))&&a2y L
theorem b2L:∀{L:List Nat} {i j:Nat} {x:Nat},a2y L=true->L[i]?=some x->L[j]?=some x->i=j
 |[],_,_,_,_,h,_=>by simp at h
 |y::r,0,0,_,_,_,_=>rfl
 |y::r,0,j+1,x,h,h1,h2=>by
  simp only[List.getElem?_cons_zero,Option.some.injEq] at h1;subst h1;simp only[a2y,Bool.and_eq_true,Bool.not_eq_true',List.any_eq_false,beq_iff_eq] at h;exact absurd rfl (h.1 y (List.mem_of_getElem? (by simpa using h2)))
 |y::r,i+1,0,x,h,h1,h2=>by
  simp only[List.getElem?_cons_zero,Option.some.injEq] at h2;subst h2;simp only[a2y,Bool.and_eq_true,Bool.not_eq_true',List.any_eq_false,beq_iff_eq] at h;exact absurd rfl (h.1 y (List.mem_of_getElem? (by simpa using h1)))
 |y::r,i+1,j+1,x,h,h1,h2=>by
  simp only[a2y,Bool.and_eq_true] at h;have:=b2L (L:=r) (i:=i) (j:=j) (x:=x) h.2 (by simpa using h1) (by simpa using h2);omega
theorem a6r{m:Nat}{L:List Nat}(c:Nat)(h:c<m):J0 m L c=c:=by simp[J0,h]
theorem b33{m:Nat}{L:List Nat}(h:a8e m L=true):∀c d,c<m+L.length->d<m+L.length->J0 m L c=J0 m L d->c=d:=by
 intro c d hc hd he;simp only[a8e,Bool.and_eq_true,List.all_eq_true,decide_eq_true_eq] at h;have get:∀c,¬c<m->c<m+L.length->∃x,L[c - m]?=some x/\J0 m L c=x/\m<=x:=by
  intro c h1 h2;have hl:c - m<L.length:=by omega
  refine⟨L[c - m],List.getElem?_eq_getElem hl,by simp[J0,h1,List.getElem?_eq_getElem hl],h.1 _ (List.getElem_mem _)⟩
 by_cases h1:c<m<;>by_cases h2:d<m
 ·rw[a6r c h1,a6r d h2] at he;exact he
 ·obtain⟨x,_,k2,k3⟩:=get d h2 hd
  rw[a6r c h1,k2] at he;omega
 ·obtain⟨x,_,k2,k3⟩:=get c h1 hc
  rw[a6r d h2,k2] at he;omega
 ·obtain⟨x,k1,k2,_⟩:=get c h1 hc
  obtain⟨y,g1,g2,_⟩:=get d h2 hd;rw[k2,g2] at he;subst he;have:=b2L h.2 k1 g1;omega
def a6h(H:d7)(τ:Nat->Nat):i9->List (Option LO)
 |[]=>[]
 |(_,none)::r=>none::a6h H τ r
 |(c,some _)::r=>H.at (τ c)::a6h H τ r
def a2Y(τ:Nat->Nat):i9->List (Option LO)
 |[]=>[]
 |(_,none)::r=>none::a2Y τ r
 |(_,some o)::r=>some (o.ren τ)::a2Y τ r
def a8h:i9->Bool
 |[]=>true
 |(_,none)::r=>a8h r
 |(_,some o)::r=>o.wr&&a8h r
theorem b38{H:d7}{τ:Nat->Nat}:∀{up:i9},a6h H τ up=a2Y τ up->a8h up=true->a18 H τ up
 |[],_,_=>trivial
 |(_,none)::r,h,hw=>by
  simp only[a6h,a2Y,List.cons.injEq,true_and] at h;exact b38 (up:=r) h hw
 |(c,some o)::r,h,hw=>by
  simp only[a6h,a2Y,List.cons.injEq] at h;simp only[a8h,Bool.and_eq_true] at hw;refine⟨?_,b38 (up:=r) h.2 hw.2⟩;rw[h.1];exact⟨by rw[LO.ren_wr];exact hw.1,O4.refl _⟩
def a9V(P:Program)(fn:Func)(m:Nat)(L:List Nat)(up:i9)(n:Nat)(s:List Tok)(k:List It)(T:List LV)(H:d7):Option (Prop×LV×List (Option LO)):=
 match run P n s k T H with
 |some (q,.ret T' H')=>
  match a0V P H' T' fn.results.toList with
  |some (q',vs)=>if a8e m L&&a8h up then some (q/\q',a7S vs,a6h H' (J0 m L) up) else none
  |none=>none
 |_=>none
section
variable {P:Program}{w0:World}{W:Nat->Prop}{μ0:d5}{Post:List LV->d7->Prop}
theorem c5h(hm:P.follows .mixedOrders=true){fn:Func}{m:Nat}{L:List Nat}{v:LV}{up:i9}{n:Nat}{s:List Tok}{k:List It}{T:List LV}{H:d7}{q:Prop}{nn:Nat}(hq:q)
  (h:a9V P fn m L up n s k T H=some (q,v.ren (J0 m L),a2Y (J0 m L) up)) (hn:nn=m+L.length):
  x7 P w0 W μ0 (a14 P fn m nn v up) k none T H:=by
 unfold a9V at h;split at h<;>try cases h
 rename_i q1 T' H' hr;split at h<;>try cases h
 rename_i q2 vs he;split at h<;>try cases h
 rename_i ht;simp only[Option.some.injEq,Prod.mk.injEq] at h;obtain⟨rfl,hv,hu⟩:=h;simp only[Bool.and_eq_true] at ht;refine M4 hm n s k T H _ _ hr hq.1 ⟨J0 m L,q2,vs,he,hq.2,LV.Le.of_eq hv,λc hc=>a6r c hc,?_,b38 hu ht.2⟩;subst hn;exact b33 ht.1
def a02:List LV->List LV->List LV
 |[],_=>[]
 |_::_,[]=>[]
 | .any::r,_::l=> .any::a02 r l
 |_::r,x::l=>x::a02 r l
def a3l(H:d7)(τ:Nat->Nat):Nat->d7->d7
 |_,[]=>[]
 |i,none::r=>none::a3l H τ (i+1) r
 |i,some _::r=>H.at (τ i)::a3l H τ (i+1) r
def a0U(τ:Nat->Nat):d7->d7
 |[]=>[]
 |none::r=>none::a0U τ r
 |some o::r=>some (o.ren τ)::a0U τ r
def a1V(n:Nat):d7->Prop
 |[]=>True
 |none::r=>a1V n r
 |some o::r=>o.under n/\a1V n r
theorem b8r:∀{T' T:List LV} {τ:Nat->Nat},a02 T' T=n7 τ T' ->T.length=T'.length->∀(t:Nat) (l:LV),T'[t]?=some l->l=.any\/∃x,T[t]?=some x/\x=l.ren τ
 |[],_,_,_,_,t,l,h=>by simp at h
 |y::r,[],_,_,hl,t,l,h=>by simp at hl
 |y::r,x::l',τ,he,hl,0,l,h=>by
  simp only[List.getElem?_cons_zero,Option.some.injEq] at h;subst h;by_cases hy:y=.any
  ·exact .inl hy
  ·right
   have:a02 (y::r) (x::l')=x::a02 r l' :=by cases y<;>first|rfl|exact absurd rfl hy
   rw[this] at he;simp only[n7,List.cons.injEq] at he;exact⟨x,rfl,he.1⟩
 |y::r,x::l',τ,he,hl,t+1,l,h=>by
  have:(a02 (y::r) (x::l')).tail=a02 r l' :=by cases y<;>rfl
  have he' :a02 r l' =n7 τ r:=by rw[<-this,he];rfl
  exact b8r he' (by simpa using hl) t l (by simpa using h)
theorem b3R{H:d7}{τ:Nat->Nat}:∀{H' :d7} {i:Nat},a3l H τ i H' =a0U τ H' ->∀(c:Nat) (o' :LO),H'.at c=some o' ->H.at (τ (i+c))=some (o'.ren τ)
 |[],_,_,c,o',h=>by simp[d7.at] at h
 |none::r,i,he,0,o',h=>by simp[d7.at] at h
 |none::r,i,he,c+1,o',h=>by
  simp only[a3l,a0U,List.cons.injEq,true_and] at he;have:=b3R he c o' (by simpa[d7.at] using h)
  rwa [show i+1+c=i+(c+1) from by omega] at this
 |some o::r,i,he,0,o',h=>by
  simp only[a3l,a0U,List.cons.injEq] at he;simp only[d7.at,List.getElem?_cons_zero,Option.getD_some,Option.some.injEq] at h;subst h;exact he.1
 |some o::r,i,he,c+1,o',h=>by
  simp only[a3l,a0U,List.cons.injEq] at he;have:=b3R he.2 c o' (by simpa[d7.at] using h)
  rwa [show i+1+c=i+(c+1) from by omega] at this
theorem b37{n:Nat}:∀{H:d7} {c:Nat} {o:LO},a1V n H->H.at c=some o->o.under n
 |[],c,o,_,h=>by simp[d7.at] at h
 |none::r,0,o,_,h=>by simp[d7.at] at h
 |none::r,c+1,o,hu,h=>b37 (H:=r) hu (by simpa[d7.at] using h)
 |some x::r,0,o,hu,h=>by
  simp only[d7.at,List.getElem?_cons_zero,Option.getD_some,Option.some.injEq] at h;subst h;exact hu.1
 |some x::r,c+1,o,hu,h=>b37 (H:=r) hu.2 (by simpa[d7.at] using h)
theorem St.ren{μ:d5}{T T' :List LV}{H H' :d7}{a:Act}{w:World}{m:Nat}{L:List Nat}(s:St w0 W μ0 μ T H a w)(hμ0:∀c p,μ0 c=some p->c<m)(ht:a8e m L=true)(hl:H'.length=m+L.length)
  (hlen:T.length=T'.length) (hT:a02 T' T=n7 (J0 m L) T') (hTu:R9 H'.length T' =true) (hH:a3l H (J0 m L) 0 H' =a0U (J0 m L) H') (hHu:a1V H'.length H'):∃μ',St w0 W μ0 μ' T' H' a w:=by
 let μ' :d5:=⟨λc=>if c<H'.length then μ (J0 m L c) else none,μ.fro⟩
 have h1:∀c p,c<H'.length->μ (J0 m L c)=some p->μ' c=some p:=λc p hc hp=>by simp only[μ',if_pos hc];exact hp
 have h2:∀c p,μ' c=some p->c<H'.length/\μ (J0 m L c)=some p:=by
  intro c p hp;simp only[μ'] at hp;split at hp
  ·rename_i hc;exact⟨hc,hp⟩
  ·cases hp
 have hlt:∀c o,H'.at c=some o->c<H'.length:=by
  intro c o h;simp only[d7.at] at h;cases hc:H'[c]? with
  |none=>simp[hc] at h
  |some x=>exact(List.getElem?_eq_some_iff.1 hc).1
 have get:∀c o',H'.at c=some o' ->H.at (J0 m L c)=some (o'.ren (J0 m L))/\o'.under H'.length:=λc o' h=>by
  have:=b3R hH c o' h;exact⟨by simpa using this,b37 hHu h⟩
 have xv:∀c o' p,H'.at c=some o' ->μ' c=some p->D3 (μ.via (J0 m L)) w p o' :=λc o' p h hp=>D3.of_ren.1 (s.sim.xok _ _ p (get c o' h).1 (h2 c p hp).2);have xt:∀c o' p b,H'.at c=some o' ->μ' c=some p->s9 μ' w p o' b->s9 μ w p (o'.ren (J0 m L)) b:=λc o' p b h hp hx=>
  s9.of_ren.2 (s9.on (n:=H'.length) (μ:=μ.via (J0 m L)) (μ' :=μ') h1 (get c o' h).2 (xv c o' p h hp) hx)
 refine⟨μ',⟨λc o' h=>?_,λc o c' o' p p' h h' hne hw hp hp' =>?_,s.sim.os,s.sim.tape,s.sim.output,s.sim.draws,s.sim.grow,s.sim.keep,λc o' p h hw hp=>?_,s.sim.fro,λc o' p h hw hp=>?_,s.sim.tab,λc o' p h hp=>?_,λc o' p b d x p' h hp hx h' hp' =>?_,λc o' p b h hp hx=>?_,λc o' p b h hp hx=>?_⟩,⟨?_,λt l htl=>?_⟩,λc p hp=>(h2 c p hp).1,s.defs,⟨⟨λc p hp=>?_,s.ext.ext.fro⟩,s.ext.new⟩⟩
 ·obtain⟨g1,g3⟩:=get c o' h
  rcases s.sim.obj' _ _ g1 with⟨k1,k2⟩|⟨p,k1,k2⟩
  ·refine .inl ⟨?_,LO.ren_void.1 k2⟩
   cases hm:μ' c with
   |none=>rfl
   |some p=>rw[(h2 c p hm).2] at k1;cases k1
  ·exact .inr ⟨p,h1 c p (hlt c o' h) k1,w9.on (n:=H'.length) (μ:=μ.via (J0 m L)) (μ' :=μ') h1 (λ_ _ h=>h) g3 (w9.of_ren.1 k2)⟩
 ·obtain⟨g1,_⟩:=get c o h
  obtain⟨g1',_⟩:=get c' o' h';exact s.sim.sep _ _ _ _ p p' g1 g1' (λe=>hne (b33 ht c c' (hl▸hlt c o h) (hl▸hlt c' o' h') e)) (by simpa only[LO.ren_wr] using hw) (h2 c p hp).2 (h2 c' p' hp').2
 ·exact s.sim.own _ _ p (get c o' h).1 (by rw[LO.ren_wr];exact hw) (h2 c p hp).2
 ·exact s.sim.frs _ _ p (get c o' h).1 (by rw[LO.ren_wr];exact hw) (h2 c p hp).2
 ·exact D3.on (n:=H'.length) (μ:=μ.via (J0 m L)) (μ' :=μ') h1 (λ_ _ h=>h) (get c o' h).2 (xv c o' p h hp)
 ·have:=s.sim.xsep _ _ p b _ _ p' (get c o' h).1 (h2 c p hp).2 (xt c o' p b h hp hx) (get d x h').1 (h2 d p' hp').2
  exact⟨this.1,λhne hx' =>this.2 (λe=>hne (b33 ht c d (hl▸hlt c o' h) (hl▸hlt d x h') e)) (xt d x p' b h' hp' hx')⟩
 ·exact s.sim.xown _ _ p b (get c o' h).1 (h2 c p hp).2 (xt c o' p b h hp hx)
 ·exact s.sim.xfrs _ _ p b (get c o' h).1 (h2 c p hp).2 (xt c o' p b h hp hx)
 ·rw[<-hlen];exact s.fr.size
 ·rcases b8r hT hlen t l htl with rfl|⟨x,k1,rfl⟩
  ·trivial
  ·have hu:∀{l:List LV} {t:Nat} {x:LV},R9 H'.length l=true->l[t]?=some x->x.under H'.length=true:=by
    intro l
    induction l with
    |nil=>intro t x _ h;simp at h
    |cons y l ih=>
     intro t x hq h;simp only[R9,Bool.and_eq_true] at hq;cases t with
     |zero=>simp at h;subst h;exact hq.1
     |succ t=>exact ih hq.2 (by simpa using h)
   exact i4.on (n:=H'.length) (μ:=μ.via (J0 m L)) (μ' :=μ') h1 (λ_ _ h=>h) (hu hTu htl) (i4.of_ren.1 (s.fr.get t _ k1))
 ·have hc:=hμ0 c p hp
  exact h1 c p (by omega) (by rw[a6r c hc];exact s.ext.ext.loc c p hp)
def a9W(P:Program)(m:Nat)(L:List Nat)(T' :List LV)(H' :d7)(n:Nat)(s:List Tok)(k:List It)(T:List LV)(H:d7):Option (Prop×List It×List LV×d7):=
 match run P n s k T H with
 |some (q,.stop k' T1 H1)=>
  if a8e m L&&(H'.length==m+L.length)&&a3D k' &&R9 H'.length T' &&(T1.length==T'.length) then some (q,k',a02 T' T1,a3l H1 (J0 m L) 0 H') else none
 |_=>none
theorem c5i(hm:P.follows .mixedOrders=true){m:Nat}{L:List Nat}{T' :List LV}{H' :d7}{n:Nat}{s:List Tok}{k k' :List It}{T:List LV}{H:d7}{q:Prop}(hμ0:∀c p,μ0 c=some p->c<m)(hq:q)
  (hk:x7 P w0 W μ0 Post k' none T' H') (h:a9W P m L T' H' n s k T H=some (q,k',n7 (J0 m L) T',a0U (J0 m L) H')) (hu:a1V H'.length H'):x7 P w0 W μ0 Post k none T H:=by
 unfold a9W at h;split at h<;>try cases h
 rename_i q1 k1 T1 H1 hr;split at h<;>try cases h
 rename_i hc;simp only[Option.some.injEq,Prod.mk.injEq] at h;obtain⟨rfl,rfl,hT,hH⟩:=h;simp only[Bool.and_eq_true,beq_iff_eq] at hc;obtain⟨⟨⟨⟨c1,c2⟩,c3⟩,c4⟩,c5⟩:=hc;refine M4 hm n s k T H q1 _ hr hq ?_;show x7 P w0 W μ0 Post k1 none T1 H1;cases k1 with
 |nil=>cases c3
 |cons it k1=>
  cases it with
  |code cd=>
   intro μ a w s;obtain⟨μ',s'⟩:=s.ren hμ0 c1 c2 c5 hT c4 hH hu;exact hk μ' a w s'
  |loop cd=>
   intro μ a w s;obtain⟨μ',s'⟩:=s.ren hμ0 c1 c2 c5 hT c4 hH hu;exact hk μ' a w s'
  |blk i=>cases c3
end
end Go.Cn
