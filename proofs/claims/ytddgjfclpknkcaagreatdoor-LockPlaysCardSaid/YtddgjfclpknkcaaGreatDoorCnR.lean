import Derived.Test.YtddgjfclpknkcaaGreatDoorCnQ
import Derived.Laws.Sem
namespace Go.Cn
open Go
def d5.via(μ:d5)(σ:Nat->Nat):d5:=⟨λc=>μ (σ c),μ.fro⟩
mutual
def LV.ren(σ:Nat->Nat):LV->LV
 | .ptr c i j=> .ptr (σ c) i j
 | .gs c n=> .gs (σ c) n
 | .ds sz n f=> .ds sz n f
 | .dp cs=> .dp cs
 | .dn sz n f=> .dn sz n f
 | .sl c i j inn len cap=> .sl (σ c) i j inn len cap
 | .map c=> .map (σ c)
 | .fn f a b=> .fn f (n7 σ a) (n7 σ b)
 | .agg cs=> .agg (n7 σ cs)
 | .tup cs=> .tup (n7 σ cs)
 | .int k n=> .int k n
 | .bool b=> .bool b
 | .str l=> .str l
 | .nilptr=> .nilptr
 | .nilsl=> .nilsl
 | .nilmap=> .nilmap
 | .nilfn=> .nilfn
 | .any=> .any
 | .stamp d=> .stamp (σ d)
def n7(σ:Nat->Nat):List LV->List LV
 |[]=>[]
 |c::cs=>c.ren σ::n7 σ cs
end
mutual
theorem i4.of_ren{μ:d5}{σ:Nat->Nat}:∀{l:LV} {v:Value},i4 μ (l.ren σ) v↔i4 (μ.via σ) l v
 | .int ..,_=>Iff.rfl
 | .bool ..,_=>Iff.rfl
 | .str ..,_=>Iff.rfl
 | .nilptr,_=>Iff.rfl
 | .ptr ..,_=>Iff.rfl
 | .nilsl,_=>Iff.rfl
 | .sl ..,_=>Iff.rfl
 | .nilmap,_=>Iff.rfl
 | .map _,_=>Iff.rfl
 | .fn f a b,v=>by simp only[LV.ren,i4,o6.of_ren]
 | .nilfn,_=>Iff.rfl
 | .agg cs,v=>by simp only[LV.ren,i4,o6.of_ren]
 | .tup cs,v=>by simp only[LV.ren,i4,o6.of_ren]
 | .any,_=>Iff.rfl
 | .gs ..,_=>Iff.rfl
 | .ds ..,_=>Iff.rfl
 | .dp ..,_=>Iff.rfl
 | .dn ..,_=>Iff.rfl
 | .stamp _,_=>Iff.rfl
theorem o6.of_ren{μ:d5}{σ:Nat->Nat}:∀{l:List LV} {v:List Value},o6 μ (n7 σ l) v↔o6 (μ.via σ) l v
 |[],_=>Iff.rfl
 |x::l,_=>by simp only[n7,o6,i4.of_ren,o6.of_ren]
end
mutual
def LV.under(n:Nat):LV->Bool
 | .ptr c _ _=>decide (c<n)
 | .gs c _=>decide (c<n)
 | .sl c _ _ _ _ _=>decide (c<n)
 | .map c=>decide (c<n)
 | .stamp c=>decide (c<n)
 | .fn _ a b=>R9 n a&&R9 n b
 | .agg cs=>R9 n cs
 | .tup cs=>R9 n cs
 |_=>true
def R9(n:Nat):List LV->Bool
 |[]=>true
 |c::cs=>c.under n&&R9 n cs
end
mutual
theorem i4.on{μ μ' :d5}{n:Nat}(h:∀c p,c<n->μ c=some p->μ' c=some p)(hf:K5.le μ.fro μ'.fro):∀{l:LV} {v:Value},l.under n=true->i4 μ l v->i4 μ' l v
 | .int ..,_,_,r=>r
 | .bool ..,_,_,r=>r
 | .str ..,_,_,r=>r
 | .nilptr,_,_,r=>r
 | .ptr ..,_,b,⟨p,hp,r⟩=>⟨p,h _ _ (by simpa[LV.under] using b) hp,r⟩
 | .nilsl,_,_,r=>r
 | .sl ..,_,b,⟨p,a,rc,hp,r⟩=>⟨p,a,rc,h _ _ (by simpa[LV.under] using b) hp,r⟩
 | .nilmap,_,_,r=>r
 | .map _,_,b,⟨p,hp,r⟩=>⟨p,h _ _ (by simpa[LV.under] using b) hp,r⟩
 | .fn _ x y,_,b,⟨a,c,e,r,s⟩=>by
  simp only[LV.under,Bool.and_eq_true] at b;exact⟨a,c,e,o6.on h hf b.1 r,o6.on h hf b.2 s⟩
 | .nilfn,_,_,r=>r
 | .agg _,_,b,⟨vs,e,r⟩=>⟨vs,e,o6.on h hf b r⟩
 | .tup _,_,b,⟨vs,e,r⟩=>⟨vs,e,o6.on h hf b r⟩
 | .any,_,_,_=>trivial
 | .gs ..,_,_,.inl r=> .inl r
 | .gs ..,_,b,.inr ⟨n,p,rc,hp,r⟩=> .inr ⟨n,p,rc,h _ _ (by simpa[LV.under] using b) hp,r⟩
 | .ds ..,_,_,r=>D8.mono hf r
 | .dp ..,_,_,r=>D8.mono hf r
 | .dn ..,_,_,⟨r,e⟩=>⟨D8.mono hf r,e⟩
 | .stamp _,_,b,⟨p,hp,r⟩=>⟨p,h _ _ (by simpa[LV.under] using b) hp,r⟩
theorem o6.on{μ μ' :d5}{n:Nat}(h:∀c p,c<n->μ c=some p->μ' c=some p)(hf:K5.le μ.fro μ'.fro):∀{l:List LV} {v:List Value},R9 n l=true->o6 μ l v->o6 μ' l v
 |[],_,_,r=>r
 |x::l,_,b,⟨v,r,e,a,t⟩=>by
  simp only[R9,Bool.and_eq_true] at b;exact⟨v,r,e,i4.on h hf b.1 a,o6.on h hf b.2 t⟩
end
def LO.ren(σ:Nat->Nat):LO->LO
 | .var cs=> .var (n7 σ cs)
 | .row sz n f wr=> .row sz n (λi=>n7 σ (f i)) wr
 | .map ag ks es=> .map ag ks es
 | .gr sz n f=> .gr sz n (λi=>n7 σ (f i))
 | .mapO ag ks es k z d=> .mapO ag ks es k z (σ d)
 | .mapP ag ks es k z=> .mapP ag ks es k z
 | .sit l pos=> .sit l pos
 | .bld E c n=> .bld E (σ c) n
 | .tg E l=> .tg E l
 | .pm ag ks es opn=> .pm ag ks es (opn.map λx=>(x.1,σ x.2))
 | .vw cs ag ks n W opn=> .vw (n7 σ cs) ag ks n W (opn.map λx=>(x.1,σ x.2))
 | .mit c ag ks es cur rest=> .mit (σ c) ag ks es cur rest
 | .mapR ag ks es=> .mapR ag ks es
 | .vwr cs n opn=> .vwr (n7 σ cs) n (opn.map λx=>(x.1,σ x.2))
 | .bag sz q=> .bag sz q
 | .mapq ag ks q=> .mapq ag ks q
def LO.under(n:Nat):LO->Prop
 | .var cs=>R9 n cs=true
 | .row _ m f _=>∀i,i<m->R9 n (f i)=true
 | .map _ _ _=>True
 | .gr _ m f=>∀i,i<m->R9 n (f i)=true
 | .mapO _ _ _ _ _ d=>d<n
 | .mapP _ _ _ _ _=>True
 | .sit _ _=>True
 | .bld _ c _=>c<n
 | .tg _ _=>True
 | .pm _ _ _ opn=>∀x∈opn,x.2<n
 | .vw cs _ _ _ _ opn=>R9 n cs=true/\∀x∈opn,x.2<n
 | .mit c _ _ _ _ _=>c<n
 | .mapR _ _ _=>True
 | .vwr cs _ opn=>R9 n cs=true/\∀x∈opn,x.2<n
 | .bag _ _=>True
 | .mapq _ _ _=>True
theorem LO.ren_void{σ:Nat->Nat}{o:LO}:(o.ren σ).void↔o.void:=by cases o<;>exact Iff.rfl
theorem LO.ren_wr(σ:Nat->Nat)(o:LO):(o.ren σ).wr=o.wr:=by cases o<;>rfl
theorem F2.of_map{α β γ:Type}{R:γ->β->Prop}(g:α->γ):∀{l:List α} {m:List β},F2 R (l.map g) m↔F2 (λa b=>R (g a) b) l m
 |[],_=>⟨λh=>by cases h;exact .nil,λh=>by cases h;exact .nil⟩
 |a::l,_=>⟨λh=>by cases h with|cons x y=>exact .cons x ((F2.of_map g).1 y),λh=>by cases h with|cons x y=>exact .cons x ((F2.of_map g).2 y)⟩
theorem F2.iff{α β:Type}{R S:α->β->Prop}(h:∀a b,R a b↔S a b){l:List α}{m:List β}:F2 R l m↔F2 S l m:=
 ⟨F2.mono λa b=>(h a b).1,F2.mono λa b=>(h a b).2⟩
theorem a9T(σ:Nat->Nat)(cs:List LV):(n7 σ cs).length=cs.length:=by
 induction cs with
 |nil=>rfl
 |cons x l ih=>simp[n7,ih]
theorem b2G{α:Type}{σ:Nat->Nat}{opn:List (α×Nat)}{Q:Nat->Prop}{k:α}:(∀s,(k,s)∈(opn.map λx=>(x.1,σ x.2))->Q s)↔∀s,(k,s)∈opn->Q (σ s):=
 ⟨λh s hs=>h _ (List.mem_map.2 ⟨(k,s),hs,rfl⟩),λh s hs=>by obtain⟨x,hx,e⟩:=List.mem_map.1 hs;cases e;exact h _ hx⟩
theorem V7.of_ren{α:Type}{σ:Nat->Nat}{opn:List (α×Nat)}{k:α}:V7 (opn.map λx=>(x.1,σ x.2)) k↔V7 opn k:=
 ⟨λ⟨s,hs⟩=>by obtain⟨x,hx,e⟩:=List.mem_map.1 hs;cases e;exact⟨_,hx⟩,λ⟨s,hs⟩=>⟨_,List.mem_map.2 ⟨(k,s),hs,rfl⟩⟩⟩
theorem N_.of_ren{μ:d5}{σ:Nat->Nat}{opn:List (LV×Nat)}(a:LV×List LV)(m:MapEntry):N_ μ (opn.map λx=>(x.1,σ x.2)) a m↔N_ (μ.via σ) opn a m:=by
 unfold N_;simp only[b2G,d5.via]
theorem w9.of_ren{μ:d5}{σ:Nat->Nat}{p:Pl}{h:Option Obj}{o:LO}:w9 μ p h (o.ren σ)↔w9 (μ.via σ) p h o:=by
 cases o with
 |var cs=>
  simp only[LO.ren,w9,o6.of_ren];have:(n7 σ cs).length=cs.length:=by
   induction cs with
   |nil=>rfl
   |cons x l ih=>simp[n7,ih]
  rw[this]
 |row sz n f wr=>simp only[LO.ren,w9,o6.of_ren]
 |map ag ks es=>exact Iff.rfl
 |gr sz n f=>simp only[LO.ren,w9,o6.of_ren]
 |mapO ag ks es k z d=>exact Iff.rfl
 |mapP ag ks es k z=>exact Iff.rfl
 |sit l pos=>exact Iff.rfl
 |bld E c n=>exact Iff.rfl
 |tg E l=>exact Iff.rfl
 |pm ag ks es opn=>simp only[LO.ren,w9,F2.iff N_.of_ren]
 |vw cs ag ks n W opn=>simp only[LO.ren,w9,o6.of_ren,a9T,b2G,d5.via]
 |mit c ag ks es cur rest=>exact Iff.rfl
 |mapR ag ks es=>exact Iff.rfl
 |bag sz q=>exact Iff.rfl
 |mapq ag ks q=>exact Iff.rfl
 |vwr cs n opn=>simp only[LO.ren,w9,o6.of_ren,a9T,b2G,d5.via]
theorem w9.on{μ μ' :d5}{n:Nat}(hm:∀c p,c<n->μ c=some p->μ' c=some p)(hf:K5.le μ.fro μ'.fro){p:Pl}{h:Option Obj}{o:LO}(b:o.under n)(r:w9 μ p h o):w9 μ' p h o:=by
 cases o with
 |var cs=>
  obtain⟨h1,h2,cells,E,fr,h3,h4,h5,vs,h6,h7⟩:=r;exact⟨h1,h2,cells,E,fr,h3,h4,h5,vs,h6.on hm hf b,h7⟩
 |row sz m f wr=>
  obtain⟨h1,h2,cells,E,fr,h3,h4,h5,h6⟩:=r;refine⟨h1,h2,cells,E,fr,h3,h4,h5,λi hi=>?_⟩;obtain⟨vs,x,y,z⟩:=h6 i hi;exact⟨vs,x.on hm hf (b i hi),y,z⟩
 |map ag ks es=>
  obtain⟨⟨en,cl,h1,h2,h3,h4⟩,h5⟩:=r;exact⟨⟨en,cl,h1,h2.mono (λa c ⟨x,y⟩=>⟨x.mono hf,y.mono hf⟩),h3,h4⟩,h5⟩
 |gr sz m f=>
  obtain⟨h1,h2,cells,E,fr,h3,h4,h5,h6⟩:=r;refine⟨h1,h2,cells,E,fr,h3,h4,h5,λi hi=>?_⟩;obtain⟨vs,x,y,z⟩:=h6 i hi;exact⟨vs,x.on hm hf (b i hi),y,z⟩
 |mapO ag ks es k z d=>
  obtain⟨h1,q,en,cl,j,e,h5,h6⟩:=r;exact⟨h1.mono hf,q,en,cl,j,e,hm _ _ b h5,h6⟩
 |mapP ag ks es k z=>exact r.imp (·.mono hf) (·.mono hf)
 |sit l pos=>exact r
 |bld E c n=>
  obtain⟨h1,v0,v1,h2,h3,h4⟩:=r;exact⟨h1,v0,v1,h2,h3,h4.mono λp=>hm _ p b⟩
 |tg E l=>exact r
 |pm ag ks es opn=>
  obtain⟨en,cl,h1,h2,h3⟩:=r;refine⟨en,cl,h1,h2.mono (λa m ⟨h1,bb,oo,h2,h3⟩=>⟨h1.mono hf,bb,oo,h2,λs hs=>?_⟩),h3⟩;obtain⟨q,hq,r⟩:=h3 s hs;exact⟨q,hm _ _ (b _ hs) hq,r⟩
 |vw cs ag ks m W opn=>
  obtain⟨h1,h2,cells,E,fr,h3,h4,h5,⟨vs,h6,h7⟩,h8⟩:=r;refine⟨h1,h2,cells,E,fr,h3,h4,h5,⟨vs,h6.on hm hf b.1,h7⟩,λi hi=>?_⟩;obtain⟨bb,k1,k2⟩:=h8 i hi;refine⟨bb,k1,λs hs=>?_⟩;obtain⟨q,hq,r⟩:=k2 s hs;exact⟨q,hm _ _ (b.2 _ hs) hq,r⟩
 |bag sz q=>obtain⟨l,e,r⟩:=r;exact⟨l,e,r.mono hf⟩
 |mapq ag ks q=>obtain⟨es,e,r⟩:=r;exact⟨es,e,r.mono hf⟩
 |mapR ag ks es=>
  obtain⟨⟨en,cl,h1,h2,h3,h4⟩,h5⟩:=r;exact⟨⟨en,cl,h1,h2.mono (λa c ⟨x,y⟩=>⟨x.mono hf,y.mono hf⟩),h3,h4⟩,h5⟩
 |vwr cs m opn=>
  obtain⟨h1,h2,cells,E,fr,h3,h4,⟨vs,h6,h7⟩,h8⟩:=r;refine⟨h1,h2,cells,E,fr,h3,h4,⟨vs,h6.on hm hf b.1,h7⟩,λi hi=>?_⟩;obtain⟨bb,k1,k2⟩:=h8 i hi;refine⟨bb,k1,λs hs=>?_⟩;obtain⟨q,hq,r⟩:=k2 s hs;exact⟨q,hm _ _ (b.2 _ hs) hq,r⟩
 |mit c ag ks es cur rest=>
  obtain⟨h1,q,a1,a2,a3,h2,h3⟩:=r;exact⟨h1,q,a1,a2,a3,hm _ _ b h2,h3⟩
theorem D3.of_ren{μ:d5}{σ:Nat->Nat}{w:World}{p:Pl}{o:LO}:D3 μ w p (o.ren σ)↔D3 (μ.via σ) w p o:=by
 cases o with
 |pm ag ks es opn=>simp only[LO.ren,D3,V7.of_ren,d5.via]
 |vw cs ag ks n W opn=>simp only[LO.ren,D3,V7.of_ren,a9T];exact Iff.rfl
 |_=>exact Iff.rfl
theorem s9.of_ren{μ:d5}{σ:Nat->Nat}{w:World}{p:Pl}{o:LO}{b:Nat}:s9 μ w p (o.ren σ) b↔s9 (μ.via σ) w p o b:=by
 cases o with
 |pm ag ks es opn=>simp only[LO.ren,s9,V7.of_ren]
 |vw cs ag ks n W opn=>simp only[LO.ren,s9,V7.of_ren,a9T]
 |_=>exact Iff.rfl
theorem D3.on{μ μ' :d5}{n:Nat}(hm:∀c p,c<n->μ c=some p->μ' c=some p)(hf:K5.le μ.fro μ'.fro){w:World}{p:Pl}{o:LO}(b:o.under n)(r:D3 μ w p o):D3 μ' w p o:=by
 cases o with
 |pm ag ks es opn=>
  obtain⟨en,cl,k1,k2,k3,k4⟩:=r;exact⟨en,cl,k1,k2,k3,k4.mono λa m h=>h.imp id λ⟨bb,oo,hb,hin⟩=>⟨bb,oo,hb,hin.mono hf⟩⟩
 |vw cs ag ks m W opn=>
  obtain⟨cells,E,fr,k1,k2,k3⟩:=r;exact⟨cells,E,fr,k1,λi hi=>(k2 i hi).imp id (Or.imp id λ⟨bb,es,hb,hw,hin⟩=>⟨bb,es,hb,hw,hin.mono hf⟩),k3⟩
 |mit c ag ks es cur rest=>
  obtain⟨q,si,se,st,en,cl,RS,k1,k2,k3,k4,k5,k6,k7,k8,k9,k10,k11,k12⟩:=r;have em:∀a b,U1 μ a b->U1 μ' a b:=λa b ⟨x,y⟩=>⟨x.mono hf,y.mono hf⟩
  refine⟨q,si,se,st,en,cl,RS,hm _ _ b k1,k2,k3,k4.mono em,k5,k6,k7,k8,k9,k10,k11.mono em,λx hx=>?_⟩;obtain⟨s,m,g1,g2,g3⟩:=k12 x hx;exact⟨s,m,g1,g2,em _ _ g3⟩
 |_=>trivial
theorem s9.on{μ μ' :d5}{n:Nat}(hm:∀c p,c<n->μ c=some p->μ' c=some p){w:World}{p:Pl}{o:LO}{x:Nat}(b:o.under n)(r:D3 μ w p o)(h:s9 μ' w p o x):s9 μ w p o x:=by
 cases o with
 |pm ag ks es opn=>exact h
 |vw cs ag ks m W opn=>exact h
 |mit c ag ks es cur rest=>
  obtain⟨q,k1,k2⟩:=h;obtain⟨q',_,_,_,_,_,_,k3,_⟩:=r;have:=hm _ _ b k3;rw[k1] at this;exact⟨q',k3,by rw[<-Option.some.inj this];exact k2⟩
 |_=>exact h
theorem s9.wr{μ:d5}{w:World}{p:Pl}{o:LO}{b:Nat}(h:s9 μ w p o b):o.wr=true:=by cases o<;>first|rfl|exact h.elim
theorem c2z{P:Program}{H:d7}{t:TypeId}{c i j:Nat}{o:LO}{e:u9}{μ:d5}{w:World}{p:Pl}(h:a0E P H t (.ptr c i j)=some e)(hob:e.ob)(ho:H.at c=some o)
  (hok:w9 μ p w.heap[p.rb]? o):∃x,(loadVar t (p.addr i j)).run P w=.ok x w/\i4 μ e.v x:=by
 simp only[a0E,ho] at h;split at h<;>try cases h
 rename_i q cs d hca hd;have hq:q:=by
  split at h
  ·split at h<;>cases h;exact hob.1
  ·cases h;exact hob.1
 obtain⟨cells,E,fr,vs,hb,hr,hl,hlen,hsz,_,_⟩:=b4A hok hca hq;split at h
 ·rename_i hag
  split at h<;>cases h;rename_i s hs;refine⟨.agg (((vs.drop j).take s).toArray),?_,⟨_,rfl,by simpa using(hr.drop j).take s⟩⟩;have hls:((vs.drop j).take s).length=s:=by
   have:=hr.length;have h2:=hob.2;simp only[List.length_take,List.length_drop];omega
  have:=a4y (P:=P) (o:=p.off+i * p.sz+j) hb ((vs.drop j).take s) (by have:=(hl.drop j).take s;simpa using this);rw[hls] at this;simp only[loadVar,Sem.run_bind,a1J hd,Result.andThen_ok,hag,if_true,K9 hs];unfold Pl.addr;rw[this];rfl
 ·rename_i hag
  cases h;have h2:=hob.2;obtain⟨x,hx⟩:∃x,cs[j]?=some x:=⟨_,List.getElem?_eq_getElem h2⟩
  obtain⟨v,hv,hrv⟩:=hr.get hx;refine⟨v,?_,by simpa[hx] using hrv⟩;have hcell:w.cell? (p.addr i j)=some v:=by
   simp only[World.cell?,Pl.addr,hb];simpa using hl j v hv
  simp only[loadVar,Sem.run_bind,a1J hd,Result.andThen_ok,hag,Bool.false_eq_true,if_false,run_load,hcell]
def a0V(P:Program)(H:d7)(T:List LV):List ResultVar->Option (Prop×List LV)
 |[]=>some (True,[])
 | .tmp t::r=>match T[t]?,a0V P H T r with
  |some l,some (q,vs)=>some (q,l::vs)
  |_,_=>none
 | .cell a t::r=>match T[a]? with
  |some (.ptr c i j)=>match a0E P H t (.ptr c i j),a0V P H T r with
   |some e,some (q,vs)=>some (e.ob/\q,e.v::vs)
   |_,_=>none
  |_=>none
def a7S:List LV->LV
 |[v]=>v
 |vs=> .tup vs
def a9U(tmps:Array Value):ResultVar->Sem Value
 | .tmp t=>pure (tmps.getD t undef)
 | .cell b t=>do loadVar t (<-asAddr (tmps.getD b undef))
theorem b3o{P:Program}{w0:World}{W:Nat->Prop}{μ0 μ:d5}{T:List LV}{H:d7}{a:Act}{w:World}(s:St w0 W μ0 μ T H a w):∀(l:List ResultVar) (q:Prop) (vs:List LV),a0V P H T l=some (q,vs)->q->
  ∃xs,(l.mapM (a9U a.tmps)).run P w=.ok xs w/\o6 μ vs xs
 |[],q,vs,h,_=>by
  cases h;exact⟨[],rfl,rfl⟩
 | .tmp t::r,q,vs,h,hq=>by
  unfold a0V at h;cases h1:T[t]? with
  |none=>simp[h1] at h
  |some x=>
   cases h2:a0V P H T r with
   |none=>simp[h1,h2] at h
   |some y=>
    obtain⟨q',vs'⟩:=y;simp only[h1,h2,Option.some.injEq,Prod.mk.injEq] at h;obtain⟨rfl,rfl⟩:=h;obtain⟨xs,g1,g2⟩:=b3o s r q' vs' h2 hq;exact⟨a.tmps.getD t undef::xs,by simp only[List.mapM_cons,a9U,Sem.run_bind,Sem.run_pure,Result.andThen_ok,g1],.cons (s.fr.get t x h1) g2⟩
 | .cell b t::r,q,vs,h,hq=>by
  unfold a0V at h;split at h<;>try cases h
  case h_1 c i j h1=>
   cases h3:a0V P H T r with
   |none=>simp[h3] at h
   |some y=>
    obtain⟨q',vs'⟩:=y;cases h2:a0E P H t (.ptr c i j) with
    |none=>simp[h2] at h
    |some e=>
     simp only[h2,h3,Option.some.injEq,Prod.mk.injEq] at h;obtain⟨rfl,rfl⟩:=h;obtain⟨xs,g1,g2⟩:=b3o s r q' vs' h3 hq.2;have hrel:=s.fr.get b _ h1;obtain⟨o,ho⟩:∃o,H.at c=some o:=by
      unfold a0E at h2;dsimp only at h2;split at h2<;>try cases h2
      exact⟨_,‹_›⟩
     obtain⟨p,hp,hv⟩:=hrel;have hok:=s.sim.placed ho hp;obtain⟨y,k1,k2⟩:=c2z (P:=P) h2 hq.1 ho hok;refine⟨y::xs,?_,.cons k2 g2⟩;have hadr:(asAddr (a.tmps.getD b undef)).run P w=.ok (p.addr i j) w:=by rw[hv];simp[asAddr]
     simp only[List.mapM_cons,a9U,Sem.run_bind,hadr,Sem.run_pure,Result.andThen_ok,k1,g1]
theorem c5f{P:Program}{w0:World}{W:Nat->Prop}{μ0 μ:d5}{T:List LV}{H:d7}{a:Act}{w:World}{fn:Func}(s:St w0 W μ0 μ T H a w){q:Prop}{vs:List LV}(h:a0V P H T fn.results.toList=some (q,vs))(hq:q):
  ∃x,(results fn a.tmps).run P w=.ok x w/\i4 μ (a7S vs) x:=by
 obtain⟨xs,g1,g2⟩:=b3o s _ q vs h hq;have e:results fn a.tmps=(do
   let vs<-List.toArray<$>fn.results.toList.mapM (a9U a.tmps)
   pure (if h:vs.size=1 then vs[0] else .tuple vs)):=by
  rw[<-Array.mapM_eq_mapM_toList];unfold results;congr 1
 have:∃x,x=(if h:xs.toArray.size=1 then xs.toArray[0] else Value.tuple xs.toArray)/\i4 μ (a7S vs) x:=by
  refine⟨_,rfl,?_⟩
  match vs,g2 with
  |[],g2=>cases g2;exact⟨#[],by simp,rfl⟩
  |[v],⟨x,r,e,k1,k2⟩=>
   cases k2;subst e;simpa[a7S] using k1
  |v::v' ::r,g2=>
   have hl:=g2.length;rw[dif_neg (by simp[hl])];exact⟨_,rfl,by simpa using g2⟩
 obtain⟨x,hx,hr⟩:=this;refine⟨x,?_,hr⟩;rw[e];simp only[Sem.run_bind,Sem.run_map,g1,Result.andThen_ok,Sem.run_pure,hx]
def p5(σ:Nat->Nat):Nat->List LO->u6
 |_,[]=>[]
 |i,o::r=>(σ i,o.ren σ)::p5 σ (i+1) r
def p6(σ:Nat->Nat)(up:i9):i9:=up.map λx=>(σ x.1,x.2.map (·.ren σ))
theorem a1q{σ:Nat->Nat}{c:Nat}{o:LO}:∀{objs:List LO} {i:Nat},(c,o)∈p5 σ i objs↔∃(j:Nat) (o' :LO),objs[j]?=some o' /\c=σ (i+j)/\o=o'.ren σ
 |[],i=>⟨λh=>(by cases h),λ⟨j,o',h,_⟩=>by simp at h⟩
 |x::r,i=>by
  simp only[p5,List.mem_cons,Prod.mk.injEq,a1q];constructor
  ·rintro(⟨rfl,rfl⟩|⟨j,o',h1,h2,h3⟩)
   ·exact⟨0,x,by simp,by simp,rfl⟩
   ·exact⟨j+1,o',by simpa using h1,by rw[h2];congr 1;omega,h3⟩
  ·rintro⟨j,o',h1,h2,h3⟩
   cases j with
   |zero=>simp at h1;subst h1;exact .inl ⟨by simpa using h2,h3⟩
   |succ j=>exact .inr ⟨j,o',by simpa using h1,by rw[h2];congr 1;omega,h3⟩
theorem b6I{σ:Nat->Nat}{up:i9}{d:Nat}{o:LO}:(d,some o)∈p6 σ up↔∃c o',(c,some o')∈up/\d=σ c/\o=o'.ren σ:=by
 simp only[p6,List.mem_map,Prod.mk.injEq];constructor
 ·rintro⟨⟨c,x⟩,h1,h2,h3⟩
  cases x with
  |none=>simp at h3
  |some o' =>exact⟨c,o',h1,h2.symm,by simpa using h3.symm⟩
 ·rintro⟨c,o',h1,rfl,rfl⟩
  exact⟨(c,some o'),h1,rfl,rfl⟩
theorem b39{σ:Nat->Nat}{up:i9}{d:Nat}:(p6 σ up).has d=true↔∃c,up.has c=true/\σ c=d:=by
 rw[i9.has_iff];constructor
 ·rintro⟨o,h⟩
  obtain⟨x,hx,e⟩:=List.mem_map.1 h;cases e;exact⟨x.1,i9.has_iff.2 ⟨x.2,hx⟩,rfl⟩
 ·rintro⟨c,h,rfl⟩
  obtain⟨o,ho⟩:=i9.has_iff.1 h;exact⟨_,List.mem_map.2 ⟨(c,o),ho,rfl⟩⟩
def a18(H:d7)(τ:Nat->Nat):i9->Prop
 |[]=>True
 |(_,none)::r=>a18 H τ r
 |(c,some o)::r=>(match H.at (τ c) with|some o' =>o'.wr=true/\O4 o' (o.ren τ)|none=>False)/\a18 H τ r
theorem a18.get{H:d7}{τ:Nat->Nat}:∀{up:i9},a18 H τ up->∀c o,(c,some o)∈up->∃o',H.at (τ c)=some o' /\o'.wr=true/\O4 o' (o.ren τ)
 |[],_,c,o,h=>by cases h
 |(d,none)::r,hu,c,o,h=>by
  rcases List.mem_cons.1 h with e|h
  ·cases e
  ·exact a18.get (up:=r) hu c o h
 |(d,some p)::r,⟨h1,h2⟩,c,o,h=>by
  rcases List.mem_cons.1 h with e|h
  ·cases e
   cases hc:H.at (τ d) with
   |none=>simp[hc] at h1
   |some o' =>exact⟨o',rfl,by simpa only[hc] using h1⟩
  ·exact a18.get h2 c o h
def a14(P:Program)(fn:Func)(m n:Nat)(v:LV)(up:i9)(T:List LV)(H:d7):Prop:=
 ∃(τ:Nat->Nat) (q:Prop) (vs:List LV),a0V P H T fn.results.toList=some (q,vs)/\q/\LV.Le (a7S vs) (v.ren τ)/\(∀c,c<m->τ c=c)/\(∀c d,c<n->d<n->τ c=τ d->c=d)/\a18 H τ up
structure Sig(objs:List LO)(n:Nat)(args:List LV)(v:LV)(up:i9):Prop where
 args:R9 objs.length args=true
 obs:∀o∈objs,o.under objs.length
 val:v.under n=true
 ups:∀(c:Nat) (o:LO),(c,some o)∈up->o.under n
 wr:∀(j:Nat) (o:LO),objs[j]?=some o->o.wr=true->up.has j=true
 new:∀c,objs.length<=c->c<n->up.has c=true
 bound:∀c,up.has c=true->c<n
 le:objs.length<=n
open Classical in
theorem c04{P:Program}{f:FuncId}{fn:Func}{c:Code}{args:List LV}{objs:List LO}{n:Nat}{v:LV}{up:i9}(hf:P.funcs[f]?=some fn)(hn:(fn.name== "runtime.NumGoroutine")=false)(hb:fn.body=some c)
  (sg:Sig objs n args v up)
  (h:∀w0 W μ0,(∀c p,μ0 c=some p->c<objs.length)->x7 P w0 W μ0 (a14 P fn objs.length n v up) [.code c] none (args++List.replicate (fn.ntmps - args.length) .any) (objs.map some)) (σ:Nat->Nat)
  (hσ:∀c d,c<n->d<n->σ c=σ d->c=d):j9 P f (n7 σ args) (p5 σ 0 objs) (v.ren σ) (p6 σ up):=by
 refine⟨⟨fn,hf,by simp[hb],hn⟩,fun μ w vals hrel hpre hfits=>?_⟩
 let m:=objs.length
 let μ1:d5:=⟨λc=>if c<m then μ (σ c) else none,μ.fro⟩
 let W:Nat->Prop:=λb=>∃j o p,objs[j]?=some o/\o.wr=true/\μ (σ j)=some p/\(p.rb=b\/s9 μ w p (o.ren σ) b)
 have hat:∀c o,d7.at (objs.map some) c=some o->objs[c]?=some o/\c<m:=by
  intro c o hc;have:objs[c]?=some o:=by
   simp only[d7.at,List.getElem?_map] at hc;cases ho:objs[c]? with
   |none=>simp[ho] at hc
   |some x=>simpa[ho] using hc
  exact⟨this,(List.getElem?_eq_some_iff.1 this).1⟩
 have hμ1:∀c p,c<m->μ (σ c)=some p->μ1 c=some p:=λc p hc hp=>by simp only[μ1,if_pos hc];exact hp
 have hμ1' :∀c p,μ1 c=some p->c<m/\μ (σ c)=some p:=by
  intro c p hp;simp only[μ1] at hp;split at hp
  ·rename_i hc;exact⟨hc,hp⟩
  ·cases hp
 have mem:∀c o,d7.at (objs.map some) c=some o->(σ c,o.ren σ)∈p5 σ 0 objs:=λc o hc=>a1q.2 ⟨c,o,(hat c o hc).1,by simp,rfl⟩;have xv:∀c o p,d7.at (objs.map some) c=some o->μ1 c=some p->D3 (μ.via σ) w p o:=λc o p hc hp=>D3.of_ren.1 (hpre.xok _ _ p (mem c o hc) (hμ1' c p hp).2);have xt:∀c o p b,d7.at (objs.map some) c=some o->μ1 c=some p->s9 μ1 w p o b->s9 μ w p (o.ren σ) b:=λc o p b hc hp hx=>
  s9.of_ren.2 (s9.on (n:=m) (μ:=μ.via σ) (μ' :=μ1) hμ1 (sg.obs o (List.mem_of_getElem? (hat c o hc).1)) (xv c o p hc hp) hx)
 have hsim:H7 w W μ1 (objs.map some) w:=by
  refine⟨λc o hc=>?_,λc o c' o' p p' hc hc' hne hw hp hp' =>?_,rfl,rfl,rfl,λ_=>Nat.le_refl _,Nat.le_refl _,λ_ _ _=>rfl,λc o p hc hw hp=>?_,hpre.fro,λc o p hc hw hp=>?_,hpre.tab,λc o p hc hp=>?_,λc o p b c' o' p' hc hp hx hc' hp' =>?_,λc o p b hc hp hx=>?_,λc o p b hc hp hx=>?_⟩
  ·obtain⟨h1,h2⟩:=hat c o hc
   rcases hpre.obj' (σ c) (o.ren σ) (a1q.2 ⟨c,o,h1,by simp,rfl⟩) with⟨k1,k2⟩|⟨p,hp,hok⟩
   ·refine .inl ⟨?_,LO.ren_void.1 k2⟩
    cases hm:μ1 c with
    |none=>rfl
    |some p=>rw[(hμ1' c p hm).2] at k1;cases k1
   ·exact .inr ⟨p,hμ1 c p h2 hp,w9.on (n:=m) (μ:=μ.via σ) (μ' :=μ1) hμ1 (λ_ _ h=>h) (sg.obs o (List.mem_of_getElem? h1)) (w9.of_ren.1 hok)⟩
  ·obtain⟨h1,h2⟩:=hat c o hc
   obtain⟨h1',h2'⟩:=hat c' o' hc';exact hpre.sep (σ c) (o.ren σ) (σ c') (o'.ren σ) p p' (a1q.2 ⟨c,o,h1,by simp,rfl⟩) (a1q.2 ⟨c',o',h1',by simp,rfl⟩)
    (λe=>hne (hσ c c' (Nat.lt_of_lt_of_le h2 sg.le) (Nat.lt_of_lt_of_le h2' sg.le) e)) (by simpa only[LO.ren_wr] using hw) (hμ1' c p hp).2 (hμ1' c' p' hp').2
  ·obtain⟨h1,h2⟩:=hat c o hc
   exact .inl ⟨c,o,p,h1,hw,(hμ1' c p hp).2,.inl rfl⟩
  ·obtain⟨h1,h2⟩:=hat c o hc
   exact hpre.frs (σ c) (o.ren σ) p (a1q.2 ⟨c,o,h1,by simp,rfl⟩) (by rw[LO.ren_wr];exact hw) (hμ1' c p hp).2
  ·exact D3.on (n:=m) (μ:=μ.via σ) (μ' :=μ1) hμ1 (λ_ _ h=>h) (sg.obs o (List.mem_of_getElem? (hat c o hc).1)) (xv c o p hc hp)
  ·have:=hpre.xsep _ _ p b _ _ p' (mem c o hc) (hμ1' c p hp).2 (xt c o p b hc hp hx) (mem c' o' hc') (hμ1' c' p' hp').2
   refine⟨this.1,λhne hx' =>this.2 (λe=>hne ?_) (xt c' o' p' b hc' hp' hx')⟩;exact hσ c c' (Nat.lt_of_lt_of_le (hat c o hc).2 sg.le) (Nat.lt_of_lt_of_le (hat c' o' hc').2 sg.le) e
  ·exact .inl ⟨c,o,p,(hat c o hc).1,hx.wr,(hμ1' c p hp).2,.inr (xt c o p b hc hp hx)⟩
  ·exact hpre.xfrs _ _ p b (mem c o hc) (hμ1' c p hp).2 (xt c o p b hc hp hx)
 have hrel1:o6 μ1 args vals:=o6.on (n:=m) (μ:=μ.via σ) (μ' :=μ1) hμ1 (λ_ _ h=>h) sg.args (o6.of_ren.1 hrel);have hlen:=hrel1.length;have hst:St w W μ1 μ1 (args++List.replicate (fn.ntmps - args.length) .any) (objs.map some) {tmps:=vals.toArray++Array.replicate (fn.ntmps - vals.toArray.size) undef,defers:=[]} w:=by
  refine⟨hsim,⟨by simp[hlen],λt l ht=>?_⟩,λc p hc=>by simpa using(hμ1' c p hc).1,rfl,a13.refl _ _ _⟩;by_cases hlt:t<args.length
  ·rw[List.getElem?_append_left hlt] at ht
   obtain⟨x,hx,hr⟩:=hrel1.get ht;have:(vals.toArray++Array.replicate (fn.ntmps - vals.toArray.size) undef).getD t undef=x:=by
    rw[Array.getD_eq_getD_getElem?,Array.getElem?_append_left (by simpa[hlen] using hlt)];simp[hx]
   rw[this];exact hr
  ·rw[List.getElem?_append_right (by omega),List.getElem?_replicate] at ht
   split at ht<;>cases ht
   trivial
 have fin:∀μ2 T' H' a' w',St w W μ1 μ2 T' H' a' w' ->a14 P fn m n v up T' H' ->
   a'.defers=[]/\∃x,(results fn a'.tmps).run P w' =.ok x w' /\(∃x' μ',Ending.returned x=.returned x' /\i4 μ' (v.ren σ) x' /\y0 μ w (p5 σ 0 objs) (p6 σ up) μ' w'):=by
  rintro μ2 T' H' a' w' s' ⟨τ,q,vs,hres,hq,hle,ht1,ht2,hua⟩;obtain⟨x,hx,hxr⟩:=c5f s' hres hq;refine⟨s'.defs,x,hx,x,?_⟩
  let N:Nat->Prop:=λc=>c<n/\(m<=c\/μ (σ c)=none)
  let μ3:d5:=⟨λd=>if h:∃c,N c/\σ c=d then μ2 (τ h.choose) else μ d,μ2.fro⟩
  have new3:∀c,N c->μ3 (σ c)=μ2 (τ c):=by
   intro c h1;have hex:∃c',N c' /\σ c' =σ c:=⟨c,h1,rfl⟩
   simp only[μ3];rw[dif_pos hex,hσ _ _ hex.choose_spec.1.1 h1.1 hex.choose_spec.2]
  have old3:∀d,(∀c,N c->σ c≠d)->μ3 d=μ d:=by
   intro d hd;simp only[μ3];rw[dif_neg];rintro⟨c,h1,h3⟩;exact hd c h1 h3
  have free3:∀c,N c->μ (σ c)=none:=by
   intro c ⟨h2,h1⟩;rcases h1 with h1|h1
   ·rcases hfits (σ c) (b39.2 ⟨c,sg.new c h1 h2,rfl⟩) with⟨o,ho,_⟩|h
    ·obtain⟨j,o',g1,g2,_⟩:=a1q.1 ho
     have hj:j<m:=(List.getElem?_eq_some_iff.1 g1).1;have:=hσ c j h2 (Nat.lt_of_lt_of_le hj sg.le) (by simpa using g2);omega
    ·exact h
   ·exact h1
  have has3:∀c,N c->up.has c=true:=by
   intro c ⟨h2,h1⟩;by_cases hm:m<=c
   ·exact sg.new c hm h2
   ·have hm:c<m:=by omega
    have h1:μ (σ c)=none:=h1.resolve_left (by omega);have hoc:objs[c]?=some objs[c]:=List.getElem?_eq_getElem hm;rcases hpre.obj' (σ c) (objs[c].ren σ) (a1q.2 ⟨c,_,hoc,by simp,rfl⟩) with⟨_,k2⟩|⟨p,hp,_⟩
    ·refine sg.wr c _ hoc ?_
     have:=LO.ren_void.1 k2;cases ho:objs[c]<;>rw[ho] at this<;>simp only[LO.void] at this<;>rfl
    ·rw[h1] at hp;cases hp
  have key:∀c p,c<n->μ2 (τ c)=some p->μ3 (σ c)=some p:=by
   intro c p hc hp;by_cases hN:N c
   ·rw[new3 c hN];exact hp
   ·have hm:c<m:=by
     rcases Nat.lt_or_ge c m with h|h
     ·exact h
     ·exact absurd ⟨hc,.inl h⟩ hN
    rw[old3 (σ c) (λc' hN' e=>hN (hσ c' c hN'.1 hc e▸hN'))];rw[ht1 c hm] at hp;cases e1:μ (σ c) with
    |none=>exact absurd ⟨hc,.inr e1⟩ hN
    |some p1=>
     have:=s'.ext.ext.loc c p1 (hμ1 c p1 hm e1);rw[hp] at this;exact this.symm▸rfl
  have back:∀d p,μ3 d=some p->μ d=some p\/∃c,N c/\σ c=d:=by
   intro d p hd;by_cases hex:∃c,N c/\σ c=d
   ·exact .inr hex
   ·rw[old3 d (λc h1 h3=>hex ⟨c,h1,h3⟩)] at hd
    exact .inl hd
  have upd:∀d o p,(d,some o)∈p6 σ up->μ3 d=some p->∃c o0 o',(c,some o0)∈up/\d=σ c/\o=o0.ren σ/\c<n/\H'.at (τ c)=some o' /\o'.wr=true/\O4 o' (o0.ren τ)/\μ2 (τ c)=some p/\w9 μ2 p w'.heap[p.rb]? o' :=by
   intro d o p hd hp;obtain⟨c,o0,h1,rfl,rfl⟩:=b6I.1 hd;obtain⟨o',h2,h3,h4⟩:=hua.get c o0 h1;have hc:=sg.bound c (i9.has_iff.2 ⟨_,h1⟩);have h5:μ2 (τ c)=some p:=by
    by_cases hN:N c
    ·rw[new3 c hN] at hp;exact hp
    ·have hm:c<m:=by
      rcases Nat.lt_or_ge c m with h|h
      ·exact h
      ·exact absurd ⟨hc,.inl h⟩ hN
     rw[old3 (σ c) (λc' hN' e=>hN (hσ c' c hN'.1 hc e▸hN'))] at hp;rw[ht1 c hm];exact s'.ext.ext.loc c p (hμ1 c p hm hp)
   exact⟨c,o0,o',h1,rfl,rfl,hc,h2,h3,h4,h5,s'.sim.placed h2 h5⟩
  have tch:∀{b},W b->I5 μ w (p5 σ 0 objs) (p6 σ up) b:=by
   rintro b ⟨j,o,p,h1,h2,h3,h4⟩;exact⟨σ j,o.ren σ,p,a1q.2 ⟨j,o,h1,by simp,rfl⟩,by rw[LO.ren_wr];exact h2,b39.2 ⟨j,sg.wr j o h1 h2,rfl⟩,h3,h4⟩
  have xk:∀{c o0 o' p},(c,some o0)∈up->c<n->H'.at (τ c)=some o' ->O4 o' (o0.ren τ)->μ2 (τ c)=some p->D3 (μ2.via τ) w' p o0:=λh1 hc h2 h4 h5=>D3.of_ren.1 (h4.xok (s'.sim.xok _ _ _ h2 h5));have xb:∀{c o0 o' p b},(c,some o0)∈up->c<n->H'.at (τ c)=some o' ->O4 o' (o0.ren τ)->μ2 (τ c)=some p->s9 μ3 w' p (o0.ren σ) b->s9 μ2 w' p o' b:=λh1 hc h2 h4 h5 hx=>
   h4.xtra (s9.of_ren.2 (s9.on (n:=n) (μ:=μ2.via τ) (μ' :=μ3.via σ) key (sg.ups _ _ h1) (xk h1 hc h2 h4 h5) (s9.of_ren.1 hx)))
  refine⟨μ3,rfl,?_,?_⟩
  ·exact i4.of_ren.2 (i4.on (n:=n) (μ:=μ2.via τ) (μ' :=μ3.via σ) key (λ_ _ h=>h) sg.val (i4.of_ren.1 (hle _ _ hxr)))
  ·refine⟨⟨λd p hd=>?_,s'.ext.ext.fro⟩,λd p hd=>?_,s'.sim.os,s'.sim.tape,s'.sim.output,s'.sim.draws,s'.sim.grow,λb hb hk=>?_,λd o hd=>?_,λd o p hd hp=>?_,λd o d' o' p p' hd hd' hne hw hp hp' =>?_,λb cs hb=>?_,λ_ d o p hd hw hp=>?_,λd o p hd hp=>?_,λd o p b hd hp hx=>?_,λd o p b d' o' p' hd hp hx hd' hp' =>?_,λ_ d o p b hd hp hx=>?_⟩
   ·rw[old3 d]
    ·exact hd
    ·rintro c h1 rfl
     rw[free3 c h1] at hd;cases hd
   ·rcases back d p hd with h|⟨c,h1,rfl⟩
    ·exact .inl h
    ·exact .inr ⟨b39.2 ⟨c,has3 c h1,rfl⟩,free3 c h1⟩
   ·exact s'.sim.keep b hb (λhw=>hk (tch hw))
   ·obtain⟨c,o0,h1,rfl,rfl⟩:=b6I.1 hd
    obtain⟨o',h2,h3,h4⟩:=hua.get c o0 h1;have hc:=sg.bound c (i9.has_iff.2 ⟨_,h1⟩);cases h5:μ2 (τ c) with
    |some p=>exact .inr ⟨p,key c p hc h5,w9.of_ren.2 (w9.on (n:=n) (μ:=μ2.via τ) (μ' :=μ3.via σ) key (λ_ _ h=>h) (sg.ups c o0 h1) (w9.of_ren.1 (h4.le.2.2 _ _ _ (s'.sim.placed h2 h5))))⟩
    |none=>
     have hv:o'.void:=by
      rcases s'.sim.obj' _ o' h2 with⟨_,h⟩|⟨p,h,_⟩
      ·exact h
      ·rw[h5] at h;cases h
     have hv0:o0.void:=LO.ren_void.1 (h4.le.2.1 hv);refine .inl ⟨?_,LO.ren_void.2 hv0⟩;by_cases hN:N c
     ·rw[new3 c hN];exact h5
     ·have hm:c<m:=by
       rcases Nat.lt_or_ge c m with h|h
       ·exact h
       ·exact absurd ⟨hc,.inl h⟩ hN
      cases e1:μ (σ c) with
      |none=>exact absurd ⟨hc,.inr e1⟩ hN
      |some p1=>
       have:=s'.ext.ext.loc c p1 (hμ1 c p1 hm e1);rw[ht1 c hm] at h5;rw[h5] at this;cases this
   ·obtain⟨c,o0,o',h1,rfl,rfl,hc,h2,h3,h4,h5,h6⟩:=upd d o p hd hp
    exact(s'.sim.own _ o' p h2 h3 h5).symm.imp id tch
   ·obtain⟨c,o0,o1,h1,rfl,rfl,hc,h2,h3,h4,h5,h6⟩:=upd d o p hd hp
    obtain⟨c',o0',o1',h1',rfl,rfl,hc',h2',h3',h4',h5',h6'⟩:=upd d' o' p' hd' hp';exact s'.sim.sep (τ c) o1 (τ c') o1' p p' h2 h2' (λe=>hne (by rw[ht2 c c' hc hc' e])) (.inl h3) h5 h5'
   ·rcases s'.ext.new b cs hb with h|h|h
    ·exact .inl h
    ·exact .inr ⟨s'.sim.fro b cs hb,.inr (tch h)⟩
    ·exact .inr ⟨s'.sim.fro b cs hb,.inl h⟩
   ·obtain⟨c,o0,o',h1,rfl,rfl,hc,h2,h3,h4,h5,h6⟩:=upd d o p hd hp
    exact s'.sim.frs _ o' p h2 h3 h5
   ·obtain⟨c,o0,o',h1,rfl,rfl,hc,h2,h3,h4,h5,h6⟩:=upd d o p hd hp
    exact D3.of_ren.2 (D3.on (n:=n) (μ:=μ2.via τ) (μ' :=μ3.via σ) key (λ_ _ h=>h) (sg.ups c o0 h1) (xk h1 hc h2 h4 h5))
   ·obtain⟨c,o0,o',h1,rfl,rfl,hc,h2,h3,h4,h5,h6⟩:=upd d o p hd hp
    exact(s'.sim.xown _ o' p b h2 h5 (xb h1 hc h2 h4 h5 hx)).symm.imp id tch
   ·obtain⟨c,o0,o1,h1,rfl,rfl,hc,h2,h3,h4,h5,h6⟩:=upd d o p hd hp
    obtain⟨c',o0',o1',h1',rfl,rfl,hc',h2',h3',h4',h5',h6'⟩:=upd d' o' p' hd' hp';have:=s'.sim.xsep (τ c) o1 p b (τ c') o1' p' h2 h5 (xb h1 hc h2 h4 h5 hx) h2' h5';exact⟨this.1,λhne hx' =>this.2 (λe=>hne (by rw[ht2 c c' hc hc' e])) (xb h1' hc' h2' h4' h5' hx')⟩
   ·obtain⟨c,o0,o',h1,rfl,rfl,hc,h2,h3,h4,h5,h6⟩:=upd d o p hd hp
    exact s'.sim.xfrs _ o' p b h2 h5 (xb h1 hc h2 h4 h5 hx)
 refine calls_of_wp hf hb ?_;refine wp_mono (h w W μ1 (λc p hc=>(hμ1' c p hc).1) μ1 _ w hst) ?_;rintro e a' w' ⟨μ2,T',H',s',q⟩;cases e with
 |normal=>exact fin μ2 T' H' a' w' s' q
 |ret=>exact fin μ2 T' H' a' w' s' q
 |exit id=>exact q.elim
 |goto l=>exact q.elim
 |panic c=>exact q.elim
 |outgrown=>exact q.elim
theorem j9.le{P:Program}{f:FuncId}{args args' :List LV}{pre:u6}{v v' :LV}{up:i9}(h:j9 P f args pre v up)(ha:∀μ vals,o6 μ args' vals->o6 μ args vals)(hv:v.Le v'):j9 P f args' pre v' up:=
 ⟨h.1,fun μ w vals hr hp hf=>(h.2 μ w vals (ha μ vals hr) hp hf).mono λen w' ⟨x,μ',h1,h2,h3⟩=>⟨x,μ',h1,hv _ _ h2,h3⟩⟩
end Go.Cn
