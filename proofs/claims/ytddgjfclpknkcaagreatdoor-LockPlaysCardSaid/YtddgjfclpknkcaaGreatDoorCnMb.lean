import Derived.Test.YtddgjfclpknkcaaGreatDoorCnV
namespace Go.Cn
open Go
set_option linter.unusedSectionVars false
theorem y0.own2{μ:d5}{w:World}{pre:u6}{c d:Nat}{p:Pl}{o o' od:LO}{x:Obj}(hp:D2 μ pre w)(hc:μ c=some p)(hm:(c,o)∈pre)(hw:o.wr=true)(hd:(d,od)∈pre)(hwd:od.wr=true)(hcd:c≠d)
  (hok:w9 μ p (some x) o') (hx:D3 μ (A7 w p.rb x) p o') (hxt:∀b,s9 μ (A7 w p.rb x) p o' b->s9 μ w p o b\/∃q,μ d=some q/\q.rb=b):y0 μ w pre [(c,some o'),(d,none)] μ (A7 w p.rb x):=
 have hlt:p.rb<w.heap.size:=(hp.placed hm hc).lt;have one:∀{e r},(e,some r)∈([(c,some o'),(d,none)]:i9)->e=c/\r=o' :=λh=>by simpa using h
 have tc:I5 μ w pre [(c,some o'),(d,none)] p.rb:=⟨c,o,p,hm,hw,by simp[i9.has],hc,.inl rfl⟩
 have tx:∀b,(s9 μ w p o b\/∃q,μ d=some q/\q.rb=b)->I5 μ w pre [(c,some o'),(d,none)] b:=λb h=>by
  rcases h with h|⟨q,h1,h2⟩
  ·exact⟨c,o,p,hm,hw,by simp[i9.has],hc,.inr h⟩
  ·exact⟨d,od,q,hd,hwd,by simp[i9.has],h1,.inl h2⟩
 {ext:=D7.refl μ
  dom:=λ_ _ h=> .inl h
  os:=rfl
  tape:=rfl
  output:=rfl
  draws:=λ_=>Nat.le_refl _
  grow:=by rw[a79];exact Nat.le_refl _
  keep:=λb hb hk=>by
   rw[Q6,if_neg];rintro⟨e,_⟩;exact hk (e▸tc)
  obj:=λe r h=>by
   obtain⟨rfl,rfl⟩:=one h;exact .inr ⟨p,hc,by rw[Q6,if_pos ⟨rfl,hlt⟩];exact hok⟩
  place:=λe r q h hq=>by
   obtain⟨rfl,rfl⟩:=one h;rw[hc] at hq;obtain rfl:=Option.some.inj hq;exact .inr tc
  sep:=λe r e' r' q q' h h' hne=>absurd ((one h).1.trans (one h').1.symm) hne
  frn:=λ_ _ h=> .inl h
  frs:=λhf e r q h _ hq=>by
   obtain⟨rfl,rfl⟩:=one h;rw[hc] at hq;obtain rfl:=Option.some.inj hq;exact hf.2.1 _ o p hm hw hc
  xok:=λe r q h hq=>by
   obtain⟨rfl,rfl⟩:=one h;rw[hc] at hq;obtain rfl:=Option.some.inj hq;exact hx
  xplace:=λe r q b h hq hxb=>by
   obtain⟨rfl,rfl⟩:=one h;rw[hc] at hq;obtain rfl:=Option.some.inj hq;exact .inr (tx b (hxt b hxb))
  xsep:=λe r q b e' r' q' h hq hxb h' hq' =>by
   obtain⟨rfl,rfl⟩:=one h;obtain⟨rfl,rfl⟩:=one h';rw[hc] at hq hq';obtain rfl:=Option.some.inj hq;obtain rfl:=Option.some.inj hq';refine⟨?_,λhne=>absurd rfl hne⟩;rcases hxt b hxb with h|⟨s,h1,h2⟩
   ·exact(hp.xsep _ o p b _ o p hm hc h hm hc).1
   ·rw[<-h2];exact hp.sep _ o d od p s hm hd hcd (.inl hw) hc h1
  xfrs:=λhf e r q b h hq hxb=>by
   obtain⟨rfl,rfl⟩:=one h;rw[hc] at hq;obtain rfl:=Option.some.inj hq;rcases hxt b hxb with h|⟨s,h1,h2⟩
   ·exact hf.2.2 _ o p b hm hc h
   ·rw[<-h2];exact hf.2.1 d od s hd hwd h1}
theorem y0.own1{μ:d5}{w:World}{pre:u6}{c:Nat}{p:Pl}{o o' :LO}{x:Obj}(hp:D2 μ pre w)(hc:μ c=some p)(hm:(c,o)∈pre)(hw:o.wr=true)
  (hok:w9 μ p (some x) o') (hx:D3 μ (A7 w p.rb x) p o') (hxt:∀b,s9 μ (A7 w p.rb x) p o' b->s9 μ w p o b):y0 μ w pre [(c,some o')] μ (A7 w p.rb x):=
 have hlt:p.rb<w.heap.size:=(hp.placed hm hc).lt;have one:∀{e r},(e,some r)∈([(c,some o')]:i9)->e=c/\r=o' :=λh=>by simpa using h
 have tc:I5 μ w pre [(c,some o')] p.rb:=⟨c,o,p,hm,hw,by simp[i9.has],hc,.inl rfl⟩
 {ext:=D7.refl μ
  dom:=λ_ _ h=> .inl h
  os:=rfl
  tape:=rfl
  output:=rfl
  draws:=λ_=>Nat.le_refl _
  grow:=by rw[a79];exact Nat.le_refl _
  keep:=λb hb hk=>by
   rw[Q6,if_neg];rintro⟨e,_⟩;exact hk (e▸tc)
  obj:=λe r h=>by
   obtain⟨rfl,rfl⟩:=one h;exact .inr ⟨p,hc,by rw[Q6,if_pos ⟨rfl,hlt⟩];exact hok⟩
  place:=λe r q h hq=>by
   obtain⟨rfl,rfl⟩:=one h;rw[hc] at hq;obtain rfl:=Option.some.inj hq;exact .inr tc
  sep:=λe r e' r' q q' h h' hne=>absurd ((one h).1.trans (one h').1.symm) hne
  frn:=λ_ _ h=> .inl h
  frs:=λhf e r q h _ hq=>by
   obtain⟨rfl,rfl⟩:=one h;rw[hc] at hq;obtain rfl:=Option.some.inj hq;exact hf.2.1 _ o p hm hw hc
  xok:=λe r q h hq=>by
   obtain⟨rfl,rfl⟩:=one h;rw[hc] at hq;obtain rfl:=Option.some.inj hq;exact hx
  xplace:=λe r q b h hq hxb=>by
   obtain⟨rfl,rfl⟩:=one h;rw[hc] at hq;obtain rfl:=Option.some.inj hq;exact .inr ⟨_,o,p,hm,hw,by simp[i9.has],hc,.inr (hxt b hxb)⟩
  xsep:=λe r q b e' r' q' h hq hxb h' hq' =>by
   obtain⟨rfl,rfl⟩:=one h;obtain⟨rfl,rfl⟩:=one h';rw[hc] at hq hq';obtain rfl:=Option.some.inj hq;obtain rfl:=Option.some.inj hq';exact⟨(hp.xsep _ o p b _ o p hm hc (hxt b hxb) hm hc).1,λhne=>absurd rfl hne⟩
  xfrs:=λhf e r q b h hq hxb=>by
   obtain⟨rfl,rfl⟩:=one h;rw[hc] at hq;obtain rfl:=Option.some.inj hq;exact hf.2.2 _ o p b hm hc (hxt b hxb)}
def a4R(P:Program)(s:Sem Value)(μ:d5)(w:World)(pre:u6)(up:i9)(v:LV):Prop:=
 ∃x w' μ',s.run P w=.ok x w' /\i4 μ' v x/\y0 μ w pre up μ' w'
structure a8k(μ:d5)(w:World)(pre:u6)(up:i9)(μ' :d5):Prop where
 ext:D7 μ μ'
 fro:μ'.fro=μ.fro
 dom:∀c p,μ' c=some p->μ c=some p\/(up.has c=true/\μ c=none)
 obj:∀c o,(c,some o)∈up->∃p,μ' c=some p/\w9 μ' p w.heap[p.rb]? o/\D3 μ' w p o/\I5 μ w pre up p.rb/\∀b,s9 μ' w p o b->I5 μ w pre up b
 sep:∀c o c' o' p p',(c,some o)∈up->(c',some o')∈up->c≠c' ->μ' c=some p->μ' c' =some p' ->p.rb≠p'.rb
 xsep:∀c o p b c' o' p',(c,some o)∈up->μ' c=some p->s9 μ' w p o b->(c',some o')∈up->μ' c' =some p' ->p'.rb≠b/\(c≠c' ->¬s9 μ' w p' o' b)
theorem I5.fro{μ:d5}{w:World}{pre:u6}{up:i9}{b:Nat}(h:I5 μ w pre up b)(hf:X7 μ pre w):μ.fro b=none:=by
 obtain⟨c,o,p,h1,h2,_,h4,rfl|h5⟩:=h
 ·exact hf.2.1 c o p h1 h2 h4
 ·exact hf.2.2 c o p b h1 h4 h5
theorem a8k.delta{μ μ' :d5}{w:World}{pre:u6}{up:i9}(r:a8k μ w pre up μ'):y0 μ w pre up μ' w where
 ext:=r.ext
 dom:=r.dom
 os:=rfl
 tape:=rfl
 output:=rfl
 draws:=λ_=>Nat.le_refl _
 grow:=Nat.le_refl _
 keep:=λ_ _ _=>rfl
 obj:=λc o h=>by obtain⟨p,h1,h2,_⟩:=r.obj c o h;exact .inr ⟨p,h1,h2⟩
 place:=λc o p h hp=>by
  obtain⟨p',h1,_,_,h4,_⟩:=r.obj c o h;rw[hp] at h1;obtain rfl:=Option.some.inj h1;exact .inr h4
 sep:=λc o c' o' p p' h h' hne _ hp hp' =>r.sep c o c' o' p p' h h' hne hp hp'
 frn:=λb cs h=> .inl (by rw[r.fro] at h;exact h)
 frs:=λhf c o p h _ hp=>by
  obtain⟨p',h1,_,_,h4,_⟩:=r.obj c o h;rw[hp] at h1;obtain rfl:=Option.some.inj h1;rw[r.fro];exact h4.fro hf
 xok:=λc o p h hp=>by
  obtain⟨p',h1,_,h3,_⟩:=r.obj c o h;rw[hp] at h1;obtain rfl:=Option.some.inj h1;exact h3
 xplace:=λc o p b h hp hx=>by
  obtain⟨p',h1,_,_,_,h5⟩:=r.obj c o h;rw[hp] at h1;obtain rfl:=Option.some.inj h1;exact .inr (h5 b hx)
 xsep:=r.xsep
 xfrs:=λhf c o p b h hp hx=>by
  obtain⟨p',h1,_,_,_,h5⟩:=r.obj c o h;rw[hp] at h1;obtain rfl:=Option.some.inj h1;rw[r.fro];exact(h5 b hx).fro hf
def L4(es:List (LV×List LV)):List (LV×LV):=es.map λe=>(e.1,.any)
def I_(k:LV)(v:List LV):List (LV×List LV)->List (LV×List LV)
 |[]=>[(k,v)]
 |e::r=>if B0 k e.1 then(k,v)::r else e::I_ k v r
def a3A(k:LV):List (LV×List LV)->List (LV×List LV)
 |[]=>[]
 |e::r=>if B0 k e.1 then r else e::a3A k r
def a44(k:LV):List (LV×List LV)->Option (List LV)
 |[]=>none
 |e::r=>if B0 k e.1 then some e.2 else a44 k r
theorem a8T{es:List (LV×List LV)}{j:Nat}{x:LV×LV}(h:(L4 es)[j]?=some x):∃e,es[j]?=some e/\x=(e.1,.any):=by
 simp only[L4,List.getElem?_map,Option.map_eq_some_iff] at h;obtain⟨e,h1,h2⟩:=h;exact⟨e,h1,h2.symm⟩
theorem a0c(k:LV)(v:List LV):∀{es:List (LV×List LV)},I_ k v es=match B4 k (L4 es) with|some j=>es.set j (k,v)|none=>es++[(k,v)]
 |[]=>rfl
 |e::r=>by
  simp only[I_,L4,List.map_cons,B4];split
  ·simp
  ·rw[a0c k v (es:=r),L4]
   cases B4 k (r.map λe=>(e.1,LV.any))<;>simp
theorem b05(k:LV):∀{es:List (LV×List LV)},a3A k es=match B4 k (L4 es) with|some j=>es.eraseIdx j|none=>es
 |[]=>rfl
 |e::r=>by
  simp only[a3A,L4,List.map_cons,B4];split
  ·simp
  ·rw[b05 k (es:=r),L4]
   cases B4 k (r.map λe=>(e.1,LV.any))<;>simp
theorem b5K(k:LV):∀{es:List (LV×List LV)},a44 k es=(B4 k (L4 es)).bind λj=>(es[j]?).map (·.2)
 |[]=>rfl
 |e::r=>by
  simp only[a44,L4,List.map_cons,B4];split
  ·simp
  ·rw[b5K k (es:=r),L4]
   cases B4 k (r.map λe=>(e.1,LV.any))<;>simp
theorem F2.left{α β γ:Type}{R:α->β->Prop}{S:γ->β->Prop}(g:α->γ)(h:∀a b,R a b->S (g a) b){l:List α}{m:List β}(r:F2 R l m):F2 S (l.map g) m:=by
 induction r with
 |nil=>exact .nil
 |cons x _ ih=>exact .cons (h _ _ x) ih
theorem a7x{μ:d5}{p:Pl}{h:Option Obj}{ag:Bool}{ks:List CK}{es:List (LV×List LV)}{opn:List (LV×Nat)}(r:w9 μ p h (.pm ag ks es opn)):M_ μ h ag ks (L4 es):=by
 obtain⟨en,cl,h1,h2,h3,h4,h5⟩:=r;refine⟨⟨en,cl,h1,h2.left _ (λa b ⟨x,_⟩=>⟨x,trivial⟩),h3,h4⟩,λe he=>?_⟩;obtain⟨x,hx,rfl⟩:=List.mem_map.1 he;exact h5 x hx
section
variable {P:Program}
theorem c2G{t:TypeId}{kt el:TypeId}{ag:Bool}{ks:List CK}{k:LV}{es:List (LV×LV)}{vk:Value}{μ:d5}{w:World}{rb:Nat}(hd:F7 P t=some (.map kt el))(hsh:U5 P kt=some (ag,ks))
  (h1:D9 ag ks k=true) (hk:i4 μ k vk) (hok:M_ μ w.heap[rb]? ag ks es) {j:Nat} (ha:B4 k es=some j):∃en cl b,w.heap[rb]?=some (.map en cl)/\en.toList[j]?=some b/\(Instr.lookup t (.map (some rb)) vk false).run P w=.ok b.val w:=by
 obtain⟨⟨en,cl,k1,k2,k3,k4⟩,k5⟩:=hok;have hck:=(X_ (w:=w) hsh h1 h1 hk hk).2;have hg:(getObj rb).run P w=.ok (.map en cl) w:=by simp[getObj,Sem.run,k1]
 have hf:=a2f (w:=w) hsh h1 hk k2 k5;obtain⟨hlt,x,hx,_⟩:=a0C ha;obtain⟨b,hb,hab⟩:=k2.get j x hx;rw[ha] at hf;simp only[Option.bind_some,hb,Option.map_some] at hf;refine⟨en,cl,b,k1,hb,?_⟩;simp only[Instr.lookup,Sem.run_bind,w7 hd,Result.andThen_ok,hg,Sem.run_pure,hck,hf];simp
def b1u(P:Program)(H:d7)(t:TypeId)(m k:LV)(ok:Bool)(r:Option LV):Option u9:=
 match F7 P t,m with
 |some (.map kt el),.map c=>
  match U5 P kt,a06 P el,H.at c with
  |some (ag,ks),some .nilptr,some (.pm ag' ks' es opn)=>
   if ag=ag' /\ks=ks' /\ok=false then
    match r with
    |none=>some ⟨D9 ag ks k=true/\B4 k (L4 es)=none,.nilptr,[c],[]⟩
    |some (.ptr s 0 0)=>some ⟨D9 ag ks k=true/\(B4 k (L4 es)).isSome=true/\(k,s)∈opn,.ptr s 0 0,[c],[]⟩
    |_=>none
   else none
  |_,_,_=>none
 |_,_=>none
theorem c0J{H:d7}{t:TypeId}{m k:LV}{ok:Bool}{r:Option LV}{vm vk:Value}{e:u9}{μ:d5}{w:World}(h:b1u P H t m k ok r=some e)(hob:e.ob)(hm:i4 μ m vm)(hk:i4 μ k vk)
  (hp:D2 μ (H.pre e.foot) w):w5 P (Instr.lookup t vm vk ok) μ w (H.pre e.foot) [] e.v/\e.up=[]:=by
 unfold b1u at h;split at h<;>try cases h
 rename_i kt el c hd;split at h<;>try cases h
 rename_i ag ks ag' ks' es opn hsh hz ho;split at h<;>try cases h
 rename_i hc;obtain⟨rfl,rfl,rfl⟩:=hc;obtain⟨p,hpc,rfl⟩:=hm;obtain⟨zv,hzv,hzr⟩:=a4z (w:=w) hz;split at h<;>cases h
 ·obtain⟨h1,h2⟩:=hob
  have hok:=hp.placed (by rw[d7.pre_one ho];exact List.mem_singleton.2 rfl) hpc;have:=a5x (ok:=false) (pre:=H.pre [c]) (r:=none) hd hsh hzv hzr h1 (by rw[a8s,h2];rfl) hk (a7x hok);exact⟨this,rfl⟩
 ·rename_i s
  obtain⟨h1,h2,h3⟩:=hob;have hok:=hp.placed (by rw[d7.pre_one ho];exact List.mem_singleton.2 rfl) hpc;obtain⟨j,hj⟩:=Option.isSome_iff_exists.1 h2;obtain⟨en,cl,b,g1,g2,g3⟩:=c2G hd hsh h1 hk (a7x hok) hj;obtain⟨_,x,hx,hxe⟩:=a0C hj;obtain⟨e,he,rfl⟩:=a8T hx;obtain⟨en',cl',k1,k2,k3,k4,k5⟩:=hok;rw[k1] at g1;cases g1;obtain⟨y1,bb,oo,y2,y3⟩:=k2.get1 he g2;have hkey:=(b0q h1 (k5 e (List.mem_of_getElem? he)) hk y1.rel hxe).2;obtain⟨q,hq,rfl,rfl,_⟩:=y3 s (by rw[<-hkey];exact h3);refine⟨w5.same g3 ⟨q,hq,?_⟩,rfl⟩;rw[y2];simp[Pl.addr]
def a6L(P:Program)(H:d7)(t:TypeId)(m k v:LV):Option u9:=
 match F7 P t,m,v with
 |some (.map kt _),.map c,.ptr s 0 0=>
  match U5 P kt,H.at c,H.at s with
  |some (ag,ks),some (.pm ag' ks' es []),some (.var cs)=>
   if ag=ag' /\ks=ks' then some ⟨D9 ag ks k=true/\P7 cs=true/\c≠s,.any,[c,s],[(c,some (.pm ag ks (I_ k cs es) [])),(s,none)]⟩ else none
  |_,_,_=>none
 |_,_,_=>none
theorem c0X{k:CK}{c:LV}(h:L8 k c=true):U4 c c=true:=by cases k<;>cases c<;>simp[L8] at h<;>simp[U4]
theorem b1B:∀{ks:List CK} {cs:List LV},x6 ks cs=true->I0 cs cs=true
 |[],[],_=>rfl
 |k::ks,c::cs,h=>by
  simp only[x6,Bool.and_eq_true] at h;simp only[I0,Bool.and_eq_true];exact⟨c0X h.1,b1B h.2⟩
 |[],_::_,h=>by simp[x6] at h
 |_::_,[],h=>by simp[x6] at h
theorem b5l{ag:Bool}{ks:List CK}{x:LV}(h:D9 ag ks x=true):B0 x x=true:=by
 rcases a1i h with⟨_,cs,rfl,hc⟩|⟨_,hne,hc⟩
 ·exact b1B hc
 ·have:=b1B hc
  simp only[I0,Bool.and_true] at this;cases x<;>first|exact this|exact absurd rfl (hne _)
theorem b1A:∀{ks:List CK} {cs ds:List LV},x6 ks cs=true->x6 ks ds=true->I0 cs ds=true->cs=ds
 |[],[],[],_,_,_=>rfl
 |k::ks,c::cs,e::ds,h1,h2,he=>by
  simp only[x6,Bool.and_eq_true] at h1 h2;simp only[I0,Bool.and_eq_true] at he;have h3:=b1A h1.2 h2.2 he.2;have h4:c=e:=by
   have a:=h1.1;have b:=h2.1;have d:=he.1;cases k<;>cases c<;>simp only[L8,Bool.false_eq_true,and_false,false_and,decide_eq_true_eq] at a<;>cases e<;>simp only[L8,Bool.false_eq_true,and_false,false_and,decide_eq_true_eq] at b
   ·obtain⟨rfl,_⟩:=a
    obtain⟨rfl,_⟩:=b;simp only[U4,beq_iff_eq] at d;rw[d]
   ·simp only[U4,beq_iff_eq] at d
    rw[d]
   ·simp only[U4,beq_iff_eq] at d
    rw[d]
  rw[h3,h4]
 |[],_::_,_,h,_,_=>by simp[x6] at h
 |[],[],_::_,_,h,_=>by simp[x6] at h
 |_::_,[],_,h,_,_=>by simp[x6] at h
 |_::_,_::_,[],_,h,_=>by simp[x6] at h
theorem b5k{ag:Bool}{ks:List CK}{x y:LV}(hx:D9 ag ks x=true)(hy:D9 ag ks y=true)(he:B0 x y=true):x=y:=by
 rcases a1i hx with⟨ha,cs,rfl,hc⟩|⟨ha,hne,hc⟩<;>rcases a1i hy with⟨hb,ds,rfl,hd⟩|⟨hb,hne',hd⟩
 ·rw[b1A hc hd he]
 ·rw[ha] at hb;cases hb
 ·rw[ha] at hb;cases hb
 ·have:I0 [x] [y]=true:=by
   simp only[I0,Bool.and_true];cases x<;>first|exact absurd rfl (hne _)|(cases y<;>first|exact absurd rfl (hne' _)|exact he)
  exact(List.cons.inj (b1A hc hd this)).1
theorem a2A{α:Type}{k:α}:¬V7 ([]:List (α×Nat)) k:=λ⟨s,h⟩=>by cases h
theorem b69{es:List (LV×List LV)}{j:Nat}{e:LV×List LV}{k:LV}{v:List LV}(hp:es.Pairwise (λa b=>B0 a.1 b.1=false/\a.1≠b.1))(he:es[j]?=some e)(hk:k=e.1):(es.set j (k,v)).Pairwise (λa b=>B0 a.1 b.1=false/\a.1≠b.1):=by
 have hm:(es.set j (k,v)).map (·.1)=es.map (·.1):=by
  apply List.ext_getElem?;intro i;simp only[List.getElem?_map,List.getElem?_set];by_cases hij:j=i
  ·subst hij
   obtain⟨hl,he'⟩:=List.getElem?_eq_some_iff.1 he;simp[hl,hk,he']
  ·simp[hij]
 have h1:(es.map (·.1)).Pairwise (λa b=>B0 a b=false/\a≠b):=List.pairwise_map.2 hp;rw[<-hm] at h1;exact List.pairwise_map.1 h1
theorem c0T{H:d7}{t:TypeId}{m k v:LV}{vm vk vv:Value}{e:u9}{μ:d5}{w:World}(h:a6L P H t m k v=some e)(hob:e.ob)(hm:i4 μ m vm)(hk:i4 μ k vk)(hv:i4 μ v vv)
  (hp:D2 μ (H.pre e.foot) w):∃w',(Instr.mapUpdate t vm vk vv).run P w=.ok () w' /\y0 μ w (H.pre e.foot) e.up μ w' :=by
 unfold a6L at h;split at h<;>try cases h
 rename_i kt el c s hd;split at h<;>try cases h
 rename_i ag ks ag' ks' es cs hsh ho hs;split at h<;>cases h;rename_i hc;obtain⟨rfl,rfl⟩:=hc;obtain⟨h1,hfz,hcs⟩:D9 ag ks k=true/\P7 cs=true/\c≠s:=hob;obtain⟨p,hpc,rfl⟩:=hm;obtain⟨q,hq,rfl⟩:=hv;have hmc:(c,LO.pm ag ks es [])∈H.pre [c,s]:=d7.mem_pre.2 ⟨by simp,ho⟩;have hms:(s,LO.var cs)∈H.pre [c,s]:=d7.mem_pre.2 ⟨by simp,hs⟩;have hok:=hp.placed hmc hpc;have hsv:=hp.placed hms hq;have hlt:=hok.lt;have hne:p.rb≠q.rb:=hp.sep _ _ _ _ p q hmc hms hcs (.inl rfl) hpc hq;have hmap:=a7x hok;obtain⟨en,cl,k1,k2,k3,k4,k5⟩:=hok;obtain⟨en',cl',x1,x2,x3,x4⟩:=hp.xok _ _ p hmc hpc;rw[k1] at x1;cases x1;obtain⟨⟨en',cl',k1',m2,m3,m4⟩,m5⟩:=hmap;rw[k1] at k1';cases k1';have hkf:=b57 h1 hk;have hck:=(X_ (w:=w) hsh h1 h1 hk hk).2;have hg:(getObj p.rb).run P w=.ok (.map en cl) w:=by simp[getObj,Sem.run,k1]
 have hset:∀o,(setObj p.rb o).run P w=.ok () (A7 w p.rb o):=by intro o;simp[setObj,Sem.run,k1,A7]
 have hf:=a2f (w:=w) hsh h1 hk m2 m5;have haddr:q.addr 0 0=⟨q.rb,q.off,none⟩:=by simp[Pl.addr]
 have hin:∀(x:Obj),a3p μ.fro (A7 w p.rb x).heap[q.rb]? q.off cs:=by
  intro x;obtain⟨s1,s2,cells,E,fr,s3,s4,s5,vs,s6,s7,s8⟩:=hsv;exact⟨cells,E,fr,vs,by rw[Q6,if_neg (λe=>hne e.1)];exact s3,by rw[<-s2];exact s4,s5,s6.frz hfz,s7,s8⟩
 have hfar:∀(i:Nat) (m:MapEntry) (b o:Nat),en.toList[i]?=some m->m.val=.pointer (some ⟨b,o,none⟩)->b≠q.rb/\b≠p.rb:=by
  intro i m b o hi hb;obtain⟨x,hx⟩:∃x,es[i]?=some x:=by
   have:=k2.len;have:=(List.getElem?_eq_some_iff.1 hi).1;exact⟨_,List.getElem?_eq_getElem (by omega)⟩
  have hxt:s9 μ w p (.pm ag ks es []) b:=⟨en,cl,i,x,m,o,k1,hx,hi,hb,a2A⟩
  exact⟨λe=>(hp.xsep _ _ p b _ _ q hmc hpc hxt hms hq).1 e.symm,λe=>(hp.xsep _ _ p b _ _ p hmc hpc hxt hmc hpc).1 e.symm⟩
 have hold:∀(x:Obj) (b o:Nat) (cs' :List LV),b≠p.rb->a3p μ.fro w.heap[b]? o cs' ->a3p μ.fro (A7 w p.rb x).heap[b]? o cs' :=by
  intro x b o cs' hb hi;rw[Q6,if_neg (λe=>hb e.1.symm)];exact hi
 cases ha:B4 k (L4 es) with
 |none=>
  rw[ha] at hf;simp only[Option.bind_none] at hf;have hbh:(A7 w p.rb (.map (en.push {key:=vk,val:=.pointer (some ⟨q.rb,q.off,none⟩),born:=cl}) (cl+1))).heap[p.rb]?=some (.map (en.push {key:=vk,val:=.pointer (some ⟨q.rb,q.off,none⟩),born:=cl}) (cl+1)):=by rw[Q6,if_pos ⟨rfl,hlt⟩]
  have hnew:∀x∈es,B0 x.1 k=false/\x.1≠k:=by
   intro x hx;have hxk:B0 k x.1=false:=by
    cases hq:B0 k x.1 with
    |false=>rfl
    |true=>
     exfalso;have:∀(l:List (LV×List LV)),x∈l->B4 k (L4 l)≠none:=by
      intro l
      induction l with
      |nil=>intro h;cases h
      |cons y r ih=>
       intro h hn;simp only[L4,List.map_cons,B4] at hn;split at hn
       ·cases hn
       ·rename_i hne
        rcases List.mem_cons.1 h with rfl|h
        ·exact hne hq
        ·exact ih h (by simpa[L4] using hn)
     exact this es hx ha
   obtain⟨i,hi⟩:=List.mem_iff_getElem?.1 hx;obtain⟨b,hb,_⟩:=k2.get i x hi;have hne' :x.1≠k:=by
    intro e;have:B0 k k=true:=b5l h1;rw[e] at hxk;rw[this] at hxk;cases hxk
   refine⟨?_,hne'⟩;cases hq:B0 x.1 k with
   |false=>rfl
   |true=>exact absurd (b0q (k5 x hx) h1 ((k2.get1 hi hb).1.rel) hk hq).2 hne'
  refine⟨A7 w p.rb (.map (en.push {key:=vk,val:=.pointer (some ⟨q.rb,q.off,none⟩),born:=cl}) (cl+1)),?_,?_⟩
  ·simp only[Instr.mapUpdate,Sem.run_bind,w7 hd,Result.andThen_ok,hg,hck,hf,hset,haddr]
  ·refine y0.own2 (od:=.var cs) hp hpc hmc rfl hms rfl hcs ⟨_,_,rfl,?_,?_,?_,?_⟩ ⟨_,_,hbh,?_,?_,?_⟩ ?_
   ·rw[a0c,ha,Array.toList_push];exact k2.snoc ⟨hkf,q.rb,q.off,rfl,λs hs=>by cases hs⟩
   ·simp only[Array.toList_push,List.map_append,List.map_cons,List.map_nil]
    rw[List.nodup_append];refine⟨k3,by simp,λa ha b hb=>?_⟩;simp only[List.mem_singleton] at hb;subst hb;obtain⟨x,hx,rfl⟩:=List.mem_map.1 ha;have:=k4 x hx;omega
   ·intro x hx
    simp only[Array.toList_push,List.mem_append,List.mem_singleton] at hx;rcases hx with hx|rfl
    ·have:=k4 x hx;omega
    ·simp
   ·rw[a0c,ha]
    intro x hx;rcases List.mem_append.1 hx with hx|hx
    ·exact k5 x hx
    ·simp only[List.mem_singleton] at hx;subst hx;exact h1
   ·intro i i' m m' b o o' hi hi' hb hb'
    simp only[Array.toList_push] at hi hi';have sp:∀{i:Nat} {m:MapEntry},(en.toList++[{key:=vk,val:=.pointer (some ⟨q.rb,q.off,none⟩),born:=cl}])[i]?=some m->(en.toList[i]?=some m)\/(i=en.toList.length/\m.val=.pointer (some ⟨q.rb,q.off,none⟩)):=by
     intro i m h;rcases Nat.lt_or_ge i en.toList.length with hl|hl
     ·rw[List.getElem?_append_left hl] at h;exact .inl h
     ·rw[List.getElem?_append_right hl] at h
      have:i=en.toList.length:=by
       have:=(List.getElem?_eq_some_iff.1 h).1;simp at this;simp only[Array.length_toList] at hl⊢;omega
      subst this;simp at h;exact .inr ⟨rfl,by rw[<-h]⟩
    rcases sp hi with g|⟨g,gv⟩<;>rcases sp hi' with g' |⟨g',gv'⟩
    ·exact x2 i i' m m' b o o' g g' hb hb'
    ·rw[gv'] at hb';cases hb';exact absurd rfl (hfar i m _ o g hb).1
    ·rw[gv] at hb;cases hb;exact absurd rfl (hfar i' m' _ o' g' hb').1
    ·rw[g,g']
   ·rw[a0c,ha]
    exact List.pairwise_append.2 ⟨x3,List.pairwise_singleton _ _,λa ha b hb=>by simp only[List.mem_singleton] at hb;subst hb;exact hnew a ha⟩
   ·rw[a0c,ha,Array.toList_push]
    refine F2.snoc (F2.of_get x4.len λi a m hi hm=>?_) (.inr ⟨q.rb,q.off,rfl,hin _⟩);rcases x4.get1 hi hm with h|⟨b,o,hb,hi'⟩
    ·exact absurd h a2A
    ·exact .inr ⟨b,o,hb,hold _ b o _ (hfar i m b o hm hb).2 hi'⟩
   ·rintro b ⟨en2,cl2,i,x,m,o,g1,g2,g3,g4,g5⟩
    rw[hbh] at g1;cases g1;rw[a0c,ha] at g2;simp only[Array.toList_push] at g3;rcases Nat.lt_or_ge i en.toList.length with hl|hl
    ·rw[List.getElem?_append_left hl] at g3
     rw[List.getElem?_append_left (by have:=k2.len;omega)] at g2;exact .inl ⟨en,cl,i,x,m,o,k1,g2,g3,g4,a2A⟩
    ·rw[List.getElem?_append_right hl] at g3
     have:i - en.toList.length=0:=by
      have:=(List.getElem?_eq_some_iff.1 g3).1;simp at this;simp only[Array.length_toList] at hl⊢;omega
     rw[this] at g3;simp at g3;rw[<-g3] at g4;cases g4;exact .inr ⟨q,hq,rfl⟩
 |some j=>
  obtain⟨hjlt,x,hx,hxe⟩:=a0C ha;obtain⟨ex,hex,rfl⟩:=a8T hx;obtain⟨b,hb,hab⟩:=k2.get j ex hex;rw[ha] at hf;simp only[Option.bind_some,hb,Option.map_some] at hf;have hb' :en[j]?=some b:=by simpa using hb
  have hkeq:=b0q h1 (k5 ex (List.mem_of_getElem? hex)) hk hab.1.rel hxe;have hkey:(Instr.keyThatStays (((en[j]?).map (·.key)).getD vk) vk).run P w=.ok vk w:=by
   rw[hb'];simp only[Option.map_some,Option.getD_some,<-hkeq.1,Instr.keyThatStays,b8p h1 hk,if_true,Sem.run_pure]
  have hmod:(en.modify j λe=>{e with key:=vk,val:=.pointer (some ⟨q.rb,q.off,none⟩)}).toList=en.toList.set j {b with key:=vk,val:=.pointer (some ⟨q.rb,q.off,none⟩)}:=by
   apply List.ext_getElem?;intro i;rw[Array.getElem?_toList,Array.getElem?_modify,List.getElem?_set];by_cases hij:j=i
   ·subst hij
    have hl:j<en.toList.length:=(List.getElem?_eq_some_iff.1 hb).1;simp only[if_true,hb',Option.map_some,hl]
   ·simp[hij]
  generalize hen2:(en.modify j λe=>{e with key:=vk,val:=.pointer (some ⟨q.rb,q.off,none⟩)})=en2 at hmod;have hbh:(A7 w p.rb (.map en2 cl)).heap[p.rb]?=some (.map en2 cl):=by rw[Q6,if_pos ⟨rfl,hlt⟩]
  have hjl:j<en.toList.length:=(List.getElem?_eq_some_iff.1 hb).1;have sp:∀{i:Nat} {m:MapEntry},(en.toList.set j {b with key:=vk,val:=.pointer (some ⟨q.rb,q.off,none⟩)})[i]?=some m->(i≠j/\en.toList[i]?=some m)\/(i=j/\m.val=.pointer (some ⟨q.rb,q.off,none⟩)):=by
   intro i m h;rw[List.getElem?_set] at h;by_cases hij:j=i
   ·subst hij
    rw[if_pos rfl,if_pos hjl] at h;cases h;exact .inr ⟨rfl,rfl⟩
   ·rw[if_neg hij] at h
    exact .inl ⟨λe=>hij e.symm,h⟩
  refine⟨A7 w p.rb (.map en2 cl),?_,?_⟩
  ·simp only[Instr.mapUpdate,Sem.run_bind,w7 hd,Result.andThen_ok,hg,hck,hf,hkey,hset,haddr,hen2]
  ·refine y0.own2 (od:=.var cs) hp hpc hmc rfl hms rfl hcs ⟨_,_,rfl,?_,?_,?_,?_⟩ ⟨_,_,hbh,?_,?_,?_⟩ ?_
   ·rw[a0c,ha,hmod];exact k2.set j ⟨hkf,q.rb,q.off,rfl,λs hs=>by cases hs⟩
   ·rw[hmod]
    have:(en.toList.set j {b with key:=vk,val:=.pointer (some ⟨q.rb,q.off,none⟩)}).map (·.born)=en.toList.map (·.born):=by
     apply List.ext_getElem?;intro i;simp only[List.getElem?_map,List.getElem?_set];by_cases hij:j=i
     ·subst hij
      simp only[if_true,hjl,hb,Option.map_some]
     ·simp[hij]
    rw[this];exact k3
   ·rw[hmod]
    intro y hy;rcases List.mem_or_eq_of_mem_set hy with hy|rfl
    ·exact k4 y hy
    ·exact k4 b (List.mem_of_getElem? hb)
   ·rw[a0c,ha]
    intro y hy;rcases List.mem_or_eq_of_mem_set hy with hy|rfl
    ·exact k5 y hy
    ·exact h1
   ·rw[hmod]
    intro i i' m m' bb o o' hi hi' hbb hbb';rcases sp hi with⟨_,g⟩|⟨g,gv⟩<;>rcases sp hi' with⟨_,g'⟩|⟨g',gv'⟩
    ·exact x2 i i' m m' bb o o' g g' hbb hbb'
    ·rw[gv'] at hbb';cases hbb';exact absurd rfl (hfar i m _ o g hbb).1
    ·rw[gv] at hbb;cases hbb;exact absurd rfl (hfar i' m' _ o' g' hbb').1
    ·rw[g,g']
   ·rw[a0c,ha];exact b69 x3 hex hkeq.2
   ·rw[a0c,ha,hmod]
    refine F2.of_get (by simp[x4.len]) λi a m hi hm=>?_;rcases sp hm with⟨hne',g⟩|⟨rfl,gv⟩
    ·rw[List.getElem?_set,if_neg (λe=>hne' e.symm)] at hi
     rcases x4.get1 hi g with h|⟨bb,o,hbb,hi'⟩
     ·exact absurd h a2A
     ·exact .inr ⟨bb,o,hbb,hold _ bb o _ (hfar i m bb o g hbb).2 hi'⟩
    ·rw[List.getElem?_set,if_pos rfl,if_pos (by have:=k2.len;omega)] at hi
     cases hi;exact .inr ⟨q.rb,q.off,gv,hin _⟩
   ·rintro bb ⟨en3,cl3,i,x,m,o,g1,g2,g3,g4,g5⟩
    rw[hbh] at g1;cases g1;rw[hmod] at g3;rw[a0c,ha] at g2;rcases sp g3 with⟨hne',g⟩|⟨rfl,gv⟩
    ·dsimp only at g2
     rw[List.getElem?_set,if_neg (λe=>hne' e.symm)] at g2;exact .inl ⟨en,cl,i,x,m,o,k1,g2,g,g4,a2A⟩
    ·rw[gv] at g4;cases g4
     exact .inr ⟨q,hq,rfl⟩
def b1k(P:Program)(H:d7)(t:TypeId)(m k:LV):Option u9:=
 match F7 P t,m with
 |some (.map kt _),.map c=>
  match U5 P kt,H.at c with
  |some (ag,ks),some (.pm ag' ks' es [])=>if ag=ag' /\ks=ks' then some ⟨D9 ag ks k=true,.tup [],[c],[(c,some (.pm ag ks (a3A k es) []))]⟩ else none
  |_,_=>none
 |_,_=>none
theorem b5n{α:Type}{l:List α}{j i:Nat}{x:α}(h:(l.eraseIdx j)[i]?=some x):l[if i<j then i else i+1]?=some x:=by
 rw[List.getElem?_eraseIdx] at h;split at h
 ·rename_i hi;rw[if_pos hi];exact h
 ·rename_i hi;rw[if_neg hi];exact h
theorem c0x{H:d7}{t ty:TypeId}{ats:Array TypeId}{m k:LV}{vm vk:Value}{e:u9}{μ:d5}{w:World}(h:b1k P H t m k=some e)(hat:ats[0]?=some t)(hob:e.ob)(hm:i4 μ m vm)(hk:i4 μ k vk)
  (hp:D2 μ (H.pre e.foot) w):a4R P (Builtin.delete_ ats ty #[vm,vk]) μ w (H.pre e.foot) e.up e.v:=by
 unfold b1k at h;split at h<;>try cases h
 rename_i kt el c hd;split at h<;>try cases h
 rename_i ag ks ag' ks' es hsh ho;split at h<;>cases h;rename_i hc;obtain⟨rfl,rfl⟩:=hc;have h1:D9 ag ks k=true:=hob;obtain⟨p,hpc,rfl⟩:=hm;have hmc:(c,LO.pm ag ks es [])∈H.pre [c]:=d7.mem_pre.2 ⟨by simp,ho⟩;have hok:=hp.placed hmc hpc;have hlt:=hok.lt;have hmap:=a7x hok;obtain⟨en,cl,k1,k2,k3,k4,k5⟩:=hok;obtain⟨en',cl',x1,x2,x3,x4⟩:=hp.xok _ _ p hmc hpc;rw[k1] at x1;cases x1;obtain⟨⟨en',cl',k1',m2,m3,m4⟩,m5⟩:=hmap;rw[k1] at k1';cases k1';have hck:=(X_ (w:=w) hsh h1 h1 hk hk).2;have hg:(getObj p.rb).run P w=.ok (.map en cl) w:=by simp[getObj,Sem.run,k1]
 have hset:∀o,(setObj p.rb o).run P w=.ok () (A7 w p.rb o):=by intro o;simp[setObj,Sem.run,k1,A7]
 have hf:=a2f (w:=w) hsh h1 hk m2 m5;have hfar:∀(i:Nat) (m:MapEntry) (b o:Nat),en.toList[i]?=some m->m.val=.pointer (some ⟨b,o,none⟩)->b≠p.rb:=by
  intro i m b o hi hb;obtain⟨x,hx⟩:∃x,es[i]?=some x:=by
   have:=k2.len;have:=(List.getElem?_eq_some_iff.1 hi).1;exact⟨_,List.getElem?_eq_getElem (by omega)⟩
  have hxt:s9 μ w p (.pm ag ks es []) b:=⟨en,cl,i,x,m,o,k1,hx,hi,hb,a2A⟩
  exact λe=>(hp.xsep _ _ p b _ _ p hmc hpc hxt hmc hpc).1 e.symm
 have key:∀(en2:Array MapEntry) (es2:List (LV×List LV)) (f:Nat->Nat),(∀i j,f i=f j->i=j)->F2 (N_ μ []) es2 en2.toList->(en2.toList.map (·.born)).Nodup->(∀x∈en2.toList,x∈en.toList)->(∀x∈es2,x∈es)->es2.Pairwise (λa b=>B0 a.1 b.1=false/\a.1≠b.1)->
   (∀(i:Nat) (m:MapEntry),en2.toList[i]?=some m->en.toList[f i]?=some m)->(∀(i:Nat) (x:LV×List LV),es2[i]?=some x->es[f i]?=some x)->
   y0 μ w (H.pre [c]) [(c,some (.pm ag ks es2 []))] μ (A7 w p.rb (.map en2 cl)):=by
  intro en2 es2 f hf h2 h3 h4 h5 h6 h7 h8;have hbh:(A7 w p.rb (.map en2 cl)).heap[p.rb]?=some (.map en2 cl):=by rw[Q6,if_pos ⟨rfl,hlt⟩]
  refine y0.own1 hp hpc hmc rfl ⟨en2,cl,rfl,h2,h3,λx hx=>k4 x (h4 x hx),λx hx=>k5 x (h5 x hx)⟩ ⟨en2,cl,hbh,λi j m m' b o o' hi hj hb hb' =>?_,h6,F2.of_get h2.len λi a m hi hm=>?_⟩ ?_
  ·exact hf _ _ (x2 _ _ m m' b o o' (h7 i m hi) (h7 j m' hj) hb hb')
  ·rcases x4.get1 (h8 i a hi) (h7 i m hm) with h|⟨b,o,hb,hin⟩
   ·exact absurd h a2A
   ·exact .inr ⟨b,o,hb,by rw[Q6,if_neg (λe=>hfar _ m b o (h7 i m hm) hb e.1.symm)];exact hin⟩
  ·rintro b ⟨en3,cl3,i,x,m,o,g1,g2,g3,g4,g5⟩
   rw[hbh] at g1;cases g1;exact⟨en,cl,f i,x,m,o,k1,h8 i x g2,h7 i m g3,g4,a2A⟩
 cases ha:B4 k (L4 es) with
 |none=>
  rw[ha] at hf;simp only[Option.bind_none] at hf;refine⟨.tuple #[],A7 w p.rb (.map en cl),μ,?_,⟨_,rfl,rfl⟩,?_⟩
  ·simp[Builtin.delete_,hat,w7 hd,hck,hg,hf,hset]
  ·have:=key en es id (λ_ _ h=>h) k2 k3 (λ_ h=>h) (λ_ h=>h) x3 (λ_ _ h=>h) (λ_ _ h=>h)
   rw[b05,ha];exact this
 |some j=>
  obtain⟨hjlt,x,hx,hxe⟩:=a0C ha;obtain⟨ex,hex,rfl⟩:=a8T hx;obtain⟨b,hb,hab⟩:=k2.get j ex hex;rw[ha] at hf;simp only[Option.bind_some,hb,Option.map_some] at hf;have her:(en.eraseIdxIfInBounds j).toList=en.toList.eraseIdx j:=by
   have hl:j<en.size:=by have:=(List.getElem?_eq_some_iff.1 hb).1;simpa using this
   simp[Array.eraseIdxIfInBounds,hl]
  refine⟨.tuple #[],A7 w p.rb (.map (en.eraseIdxIfInBounds j) cl),μ,?_,⟨_,rfl,rfl⟩,?_⟩
  ·simp[Builtin.delete_,hat,w7 hd,hck,hg,hf,hset]
  ·have:=key (en.eraseIdxIfInBounds j) (es.eraseIdx j) (λi=>if i<j then i else i+1) (λa b h=>by split at h<;>split at h<;>omega) (by rw[her];exact k2.eraseIdx j)
    (by rw[her];exact((List.eraseIdx_sublist _ _).map _).nodup k3) (λx hx=>by rw[her] at hx;exact(List.eraseIdx_sublist _ _).subset hx) (λx hx=>(List.eraseIdx_sublist _ _).subset hx) (x3.sublist (List.eraseIdx_sublist _ _))
    (λi m h=>by rw[her] at h;exact b5n h) (λi x h=>b5n h)
   rw[b05,ha];exact this
def b1s(P:Program)(H:d7)(t:TypeId)(x:LV):Option u9:=
 match F7 P t,x with
 |some (.map _ _),.map c=>
  match H.at c with
  |some (.pm _ _ es _)=>some ⟨True,.int .i64 es.length,[c],[]⟩
  |_=>none
 |_,_=>none
theorem c0F{H:d7}{t ty:TypeId}{ats:Array TypeId}{x:LV}{vx:Value}{e:u9}{μ:d5}{w:World}(h:b1s P H t x=some e)(hat:ats[0]?=some t)(hx:i4 μ x vx)(hp:D2 μ (H.pre e.foot) w):
  w5 P (Builtin.len_ ats ty #[vx]) μ w (H.pre e.foot) [] e.v/\e.up=[]:=by
 unfold b1s at h;split at h<;>try cases h
 rename_i kt el c hd;split at h<;>cases h;rename_i ag ks es opn ho;obtain⟨p,hpc,rfl⟩:=hx;have hok:=hp.placed (by rw[d7.pre_one ho];exact List.mem_singleton.2 rfl) hpc;obtain⟨en,cl,k1,k2,_⟩:=hok;have hl:en.size=es.length:=by have:=k2.len;simpa using this.symm
 refine⟨w5.same (x:=.int .i64 en.size) ?_ (by simp[i4,hl]),rfl⟩;simp[Builtin.len_,hat,w7 hd,getObj,Sem.run,k1,goInt]
end
inductive b0K where
 |po (c:Nat) (k:LV) (cs:List LV)
 |pc (c:Nat)
 |pn (c:Nat)
def pst(new:Nat)(H:d7):b0K->Option (Prop×List Nat×i9)
 | .po c k cs=>
  match H.at c with
  |some (.pm ag ks es opn)=>some ((k,cs)∈es/\∀s,(k,s)∉opn,[c],[(c,some (.pm ag ks es ((k,new)::opn))),(new,some (.var cs))])
  |_=>none
 | .pc c=>
  match H.at c with
  |some (.pm ag ks es ((k,s)::r))=>
   match H.at s with
   |some (.var cs)=>some ((a44 k es).isSome=true/\D9 ag ks k=true/\P7 cs=true/\c≠s,[c,s],[(c,some (.pm ag ks (I_ k cs es) r)),(s,none)])
   |_=>none
  |_=>none
 | .pn c=>
  match H.at c with
  |some (.map ag ks [])=>some (True,[c],[(c,some (.pm ag ks [] []))])
  |_=>none
theorem b2Y{es:List (LV×List LV)}(hp:es.Pairwise (λa b=>B0 a.1 b.1=false/\a.1≠b.1)){i j:Nat}{a b:LV×List LV}(hi:es[i]?=some a)(hj:es[j]?=some b)(he:a.1=b.1):i=j:=by
 obtain⟨h1,e1⟩:=List.getElem?_eq_some_iff.1 hi;obtain⟨h2,e2⟩:=List.getElem?_eq_some_iff.1 hj;rw[List.pairwise_iff_getElem] at hp;rcases Nat.lt_trichotomy i j with h|h|h
 ·exact absurd (by rw[e1,e2];exact he) (hp i j h1 h2 h).2
 ·exact h
 ·exact absurd (by rw[e1,e2];exact he.symm) (hp j i h2 h1 h).2
theorem c4N{new:Nat}{H:d7}{t:b0K}{q:Prop}{foot:List Nat}{up:i9}{μ:d5}{w:World}(h:pst new H t=some (q,foot,up))(hq:q)(hp:D2 μ (H.pre foot) w)(hn:μ new=none)
  (hv:∀c o,(c,o)∈H.pre foot->¬o.void->∃p,μ c=some p):∃μ',a8k μ w (H.pre foot) up μ' :=by
 cases t with
 |po c k cs=>
  dsimp only[pst] at h;split at h<;>cases h;rename_i ag ks es opn ho;obtain⟨hin,hno⟩:=hq;have hm:(c,LO.pm ag ks es opn)∈H.pre [c]:=d7.mem_pre.2 ⟨by simp,ho⟩;obtain⟨p,hpc⟩:=hv _ _ hm id;obtain⟨en,cl,h1,h2,h3,h4,h5⟩:=hp.placed hm hpc;obtain⟨en',cl',k1,k2,k3,k4⟩:=hp.xok _ _ p hm hpc;rw[h1] at k1;cases k1;obtain⟨j,hj⟩:=List.mem_iff_getElem?.1 hin;obtain⟨m,hmj⟩:∃m,en.toList[j]?=some m:=by
   have:=h2.len;have:=(List.getElem?_eq_some_iff.1 hj).1;exact⟨_,List.getElem?_eq_getElem (by omega)⟩
  have hout:¬V7 opn k:=λ⟨s,hs⟩=>hno s hs;obtain⟨b,o,hb,hinb⟩:=(k4.get1 hj hmj).resolve_left hout;have hxb:s9 μ w p (.pm ag ks es opn) b:=⟨en,cl,j,_,m,o,h1,hj,hmj,hb,hout⟩
  have hcn:c≠new:=λe=>by subst e;rw[hn] at hpc;cases hpc
  have hset:(μ.set new ⟨b,o,cs.length,1⟩) c=some p:=by rw[d5.set_at,if_neg hcn];exact hpc
  have hset' :(μ.set new ⟨b,o,cs.length,1⟩) new=some ⟨b,o,cs.length,1⟩:=d5.set_self;have up2:∀{e r},(e,some r)∈([(c,some (LO.pm ag ks es ((k,new)::opn))),(new,some (.var cs))]:i9)->(e=c/\r=.pm ag ks es ((k,new)::opn))\/(e=new/\r=.var cs):=λh=>by simpa using h
  have tx:∀b',s9 μ w p (.pm ag ks es opn) b' ->I5 μ w (H.pre [c]) [(c,some (LO.pm ag ks es ((k,new)::opn))),(new,some (.var cs))] b' :=λb' hx=>⟨c,_,p,hm,rfl,by simp[i9.has],hpc,.inr hx⟩
  have xold:∀b',s9 (μ.set new ⟨b,o,cs.length,1⟩) w p (.pm ag ks es ((k,new)::opn)) b' ->s9 μ w p (.pm ag ks es opn) b' /\b' ≠b:=by
   rintro b' ⟨en2,cl2,i,x,m2,o2,g1,g2,g3,g4,g5⟩;rw[h1] at g1;cases g1;refine⟨⟨en,cl,i,x,m2,o2,h1,g2,g3,g4,λ⟨s,hs⟩=>g5 ⟨s,List.mem_cons_of_mem _ hs⟩⟩,λe=>g5 ?_⟩;subst e;have:=k2 i j m2 m _ o2 o g3 hmj g4 hb;subst this;rw[hj] at g2;cases g2;exact⟨new,List.mem_cons_self⟩
  have hpb:p.rb≠b:=(hp.xsep c _ p b c _ p hm hpc hxb hm hpc).1;refine⟨μ.set new ⟨b,o,cs.length,1⟩,d5.ext_set hn,rfl,λd r hr=>?_,λe r h=>?_,λe r e' r' p1 p2 h h' hne hp1 hp2=>?_,λe r p1 b' e' r' p2 h hp1 hx h' hp2=>?_⟩
  ·rw[d5.set_at] at hr
   split at hr
   ·rename_i e;subst e;exact .inr ⟨by simp[i9.has],hn⟩
   ·exact .inl hr
  ·rcases up2 h with⟨rfl,rfl⟩|⟨rfl,rfl⟩
   ·refine⟨p,hset,⟨en,cl,h1,F2.of_get h2.len λi x m2 hi hm2=>?_,h3,h4,h5⟩,⟨en,cl,h1,k2,k3,F2.of_get h2.len λi x m2 hi hm2=>?_⟩,⟨e,_,p,hm,rfl,by simp[i9.has],hpc,.inl rfl⟩,λb' hx=>tx b' (xold b' hx).1⟩
    ·obtain⟨y1,bb,oo,y2,y3⟩:=h2.get1 hi hm2
     refine⟨y1,bb,oo,y2,λs hs=>?_⟩;rcases List.mem_cons.1 hs with hs|hs
     ·simp only[Prod.mk.injEq] at hs
      obtain⟨e1,rfl⟩:=hs;have:=b2Y k3 hi hj e1;subst this;rw[hj] at hi;cases hi;rw[hmj] at hm2;cases hm2;rw[hb] at y2;cases y2;exact⟨_,hset',rfl,rfl,rfl,rfl⟩
     ·obtain⟨q,hq,r⟩:=y3 s hs
      exact⟨q,(d5.ext_set hn).loc _ _ hq,r⟩
    ·rcases k4.get1 hi hm2 with⟨s,hs⟩|⟨bb,oo,g1,g2⟩
     ·exact .inl ⟨s,List.mem_cons_of_mem _ hs⟩
     ·exact .inr ⟨bb,oo,g1,g2.mono λ_ _ x=>x⟩
   ·obtain⟨cells,E,fr,vs,g1,g2,g3,g4,g5,g6⟩:=hinb
    exact⟨_,hset',⟨rfl,rfl,cells,E,fr,g1,g2,g3,vs,A3.rel g4,g5,g6⟩,trivial,tx b hxb,λb' hx=>hx.elim⟩
  ·rcases up2 h with⟨rfl,rfl⟩|⟨rfl,rfl⟩<;>rcases up2 h' with⟨rfl,rfl⟩|⟨rfl,rfl⟩
   ·exact absurd rfl hne
   ·rw[hset] at hp1;rw[hset'] at hp2;cases hp1;cases hp2;exact hpb
   ·rw[hset'] at hp1;rw[hset] at hp2;cases hp1;cases hp2;exact hpb.symm
   ·exact absurd rfl hne
  ·rcases up2 h with⟨rfl,rfl⟩|⟨rfl,rfl⟩
   ·rw[hset] at hp1;cases hp1
    obtain⟨x1,x2⟩:=xold b' hx;rcases up2 h' with⟨rfl,rfl⟩|⟨rfl,rfl⟩
    ·rw[hset] at hp2;cases hp2
     exact⟨(hp.xsep _ _ p b' _ _ p hm hpc x1 hm hpc).1,λhne=>absurd rfl hne⟩
    ·rw[hset'] at hp2;cases hp2
     exact⟨x2.symm,λ_ hx' =>hx'.elim⟩
   ·exact hx.elim
 |pc c=>
  dsimp only[pst] at h;split at h<;>try cases h
  rename_i ag ks es k s r ho;split at h<;>cases h;rename_i cs hs;obtain⟨hget,hkk,hfz,hcs⟩:=hq;have hm:(c,LO.pm ag ks es ((k,s)::r))∈H.pre [c,s]:=d7.mem_pre.2 ⟨by simp,ho⟩;have hms:(s,LO.var cs)∈H.pre [c,s]:=d7.mem_pre.2 ⟨by simp,hs⟩;obtain⟨p,hpc⟩:=hv _ _ hm id;obtain⟨q,hqs⟩:=hv _ _ hms id;obtain⟨en,cl,h1,h2,h3,h4,h5⟩:=hp.placed hm hpc;obtain⟨en',cl',k1,k2,k3,k4⟩:=hp.xok _ _ p hm hpc;rw[h1] at k1;cases k1;obtain⟨s1,s2,cells,E,fr,s3,s4,s5,vs,s6,s7,s8⟩:=hp.placed hms hqs;have hne:p.rb≠q.rb:=hp.sep _ _ _ _ p q hm hms hcs (.inl rfl) hpc hqs;rw[b5K] at hget;cases ha:B4 k (L4 es) with
  |none=>rw[ha] at hget;cases hget
  |some j=>
  obtain⟨hjlt,x,hx,hxe⟩:=a0C ha;obtain⟨ex,hj,rfl⟩:=a8T hx;obtain⟨m,hmj,y1,b,o,y2,y3⟩:∃m,en.toList[j]?=some m/\N_ μ ((k,s)::r) ex m:=h2.get j ex hj;have hek:k=ex.1:=b5k hkk (h5 ex (List.mem_of_getElem? hj)) hxe;obtain⟨q',hq',e1,e2,e3,_⟩:=y3 s (by rw[<-hek];exact List.mem_cons_self);rw[hqs] at hq';cases hq';have hlen:cs.length=ex.2.length:=by rw[<-s2];exact e3
  have hes:I_ k cs es=es.set j (k,cs):=by rw[a0c,ha]
  have hjl:j<es.length:=(List.getElem?_eq_some_iff.1 hj).1;have sp:∀{i:Nat} {x:LV×List LV},(es.set j (k,cs))[i]?=some x->(i≠j/\es[i]?=some x)\/(i=j/\x=(k,cs)):=by
   intro i x h;rw[List.getElem?_set] at h;by_cases hij:j=i
   ·subst hij
    rw[if_pos rfl,if_pos hjl] at h;cases h;exact .inr ⟨rfl,rfl⟩
   ·rw[if_neg hij] at h;exact .inl ⟨λe=>hij e.symm,h⟩
  have one:∀{e o'},(e,some o')∈([(c,some (LO.pm ag ks (I_ k cs es) r)),(s,none)]:i9)->e=c/\o' =.pm ag ks (I_ k cs es) r:=λh=>by simpa using h
  have xnew:∀b',s9 μ w p (.pm ag ks (I_ k cs es) r) b' ->b' =q.rb\/s9 μ w p (.pm ag ks es ((k,s)::r)) b' :=by
   rintro b' ⟨en2,cl2,i,x,m2,o2,g1,g2,g3,g4,g5⟩;rw[h1] at g1;cases g1;rw[hes] at g2;rcases sp g2 with⟨hne',g⟩|⟨rfl,rfl⟩
   ·refine .inr ⟨en,cl,i,x,m2,o2,h1,g,g3,g4,λ⟨s',hs'⟩=>?_⟩
    rcases List.mem_cons.1 hs' with h|h
    ·simp only[Prod.mk.injEq] at h
     exact hne' (b2Y k3 g hj (h.1.trans hek))
    ·exact g5 ⟨s',h⟩
   ·rw[hmj] at g3;cases g3
    rw[y2] at g4;cases g4;exact .inl e1.symm
  refine⟨μ,D7.refl μ,rfl,λ_ _ h=> .inl h,λe o' h=>?_,λe r e' r' p p' h h' hne=>absurd ((one h).1.trans (one h').1.symm) hne,λe o' p1 b' e' r' p2 h hp1 hx h' hp2=>?_⟩
  ·obtain⟨rfl,rfl⟩:=one h
   refine⟨p,hpc,⟨en,cl,h1,?_,h3,h4,?_⟩,⟨en,cl,h1,k2,?_,?_⟩,⟨e,_,p,hm,rfl,by simp[i9.has],hpc,.inl rfl⟩,λb' hx=>?_⟩
   ·rw[hes]
    refine F2.of_get (by rw[List.length_set];exact h2.len) λi x m2 hi hm2=>?_;rcases sp hi with⟨hne',g⟩|⟨rfl,rfl⟩
    ·obtain⟨z1,bb,oo,z2,z3⟩:=h2.get1 g hm2
     exact⟨z1,bb,oo,z2,λs' hs' =>z3 s' (List.mem_cons_of_mem _ hs')⟩
    ·rw[hmj] at hm2;cases hm2
     exact⟨by rw[hek];exact y1,b,o,y2,λs' hs' =>by
      obtain⟨q2,g1,g2,g3,g4,g5⟩:=y3 s' (by rw[<-hek];exact List.mem_cons_of_mem _ hs');exact⟨q2,g1,g2,g3,by rw[g4,hlen],g5⟩⟩
   ·rw[hes]
    intro x hx;rcases List.mem_or_eq_of_mem_set hx with hx|rfl
    ·exact h5 x hx
    ·exact hkk
   ·rw[hes];exact b69 k3 hj hek
   ·rw[hes]
    refine F2.of_get (by rw[List.length_set];exact h2.len) λi x m2 hi hm2=>?_;rcases sp hi with⟨hne',g⟩|⟨rfl,rfl⟩
    ·rcases k4.get1 g hm2 with⟨s',hs'⟩|h
     ·rcases List.mem_cons.1 hs' with h|h
      ·simp only[Prod.mk.injEq] at h
       exact absurd (b2Y k3 g hj (h.1.trans hek)) hne'
      ·exact .inl ⟨s',h⟩
     ·exact .inr h
    ·rw[hmj] at hm2;cases hm2
     exact .inr ⟨b,o,y2,by rw[<-e1,<-e2];exact⟨cells,E,fr,vs,s3,by rw[<-s2];exact s4,s5,s6.frz hfz,s7,s8⟩⟩
   ·rcases xnew b' hx with rfl|hx
    ·exact⟨s,_,q,hms,rfl,by simp[i9.has],hqs,.inl rfl⟩
    ·exact⟨e,_,p,hm,rfl,by simp[i9.has],hpc,.inr hx⟩
  ·obtain⟨rfl,rfl⟩:=one h
   obtain⟨rfl,rfl⟩:=one h';rw[hpc] at hp1 hp2;cases hp1;cases hp2;refine⟨?_,λhne=>absurd rfl hne⟩;rcases xnew b' hx with rfl|hx
   ·exact hne
   ·exact(hp.xsep _ _ p b' _ _ p hm hpc hx hm hpc).1
 |pn c=>
  dsimp only[pst] at h;split at h<;>cases h;rename_i ag ks ho;have hm:(c,LO.map ag ks [])∈H.pre [c]:=d7.mem_pre.2 ⟨by simp,ho⟩;obtain⟨p,hpc⟩:=hv _ _ hm id;obtain⟨⟨en,cl,h1,h2,h3,h4⟩,h5⟩:=hp.placed hm hpc;have hen:en.toList=[]:=by cases hl:en.toList with
   |nil=>rfl
   |cons a r=>rw[hl] at h2;cases h2
  have one:∀{e o'},(e,some o')∈([(c,some (LO.pm ag ks [] []))]:i9)->e=c/\o' =.pm ag ks [] []:=λh=>by simpa using h
  have nox:∀b,¬s9 μ w p (.pm ag ks [] []) b:=by
   rintro b ⟨en2,cl2,i,x,m,o,g1,g2,_⟩;simp at g2
  refine⟨μ,D7.refl μ,rfl,λ_ _ h=> .inl h,λe o' h=>?_,λe r e' r' p p' h h' hne=>absurd ((one h).1.trans (one h').1.symm) hne,λe o' p1 b' e' r' p2 h hp1 hx h' hp2=>?_⟩
  ·obtain⟨rfl,rfl⟩:=one h
   exact⟨p,hpc,⟨en,cl,h1,by rw[hen];exact .nil,h3,h4,λe he=>by cases he⟩,⟨en,cl,h1,λi j m m' b o o' hi=>by rw[hen] at hi;simp at hi,List.Pairwise.nil,by rw[hen];exact .nil⟩,⟨e,_,p,hm,rfl,by simp[i9.has],hpc,.inl rfl⟩,λb' hx=>absurd hx (nox b')⟩
  ·obtain⟨rfl,rfl⟩:=one h
   rw[hpc] at hp1;cases hp1;exact absurd hx (nox b')
end Go.Cn
