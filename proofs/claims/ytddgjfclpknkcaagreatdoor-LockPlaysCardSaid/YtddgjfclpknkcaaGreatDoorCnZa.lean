import Derived.Test.YtddgjfclpknkcaaGreatDoorCnZ
import Derived.Test.YtddgjfclpknkcaaGreatDoorCnXb
namespace Go.Cn
open Go Go.RowKit
set_option linter.unusedSectionVars false
theorem D2.below{μ:d5}{pre:u6}{w w' :World}(h:D2 μ pre w)(hb:∀b,b<w.heap.size->w'.heap[b]?=w.heap[b]?):D2 μ pre w' :=
 have at' :∀c o p,(c,o)∈pre->μ c=some p->w'.heap[p.rb]?=w.heap[p.rb]?:=λc o p hc hp=>hb _ (h.placed hc hp).lt;have xb:∀c o p b,(c,o)∈pre->μ c=some p->s9 μ w' p o b->s9 μ w p o b:=λc o p b hc hp hx=>s9.back (h.xok c o p hc hp) (D7.refl μ) (at' c o p hc hp) hx
 {obj' :=λc o hc=>(h.obj' c o hc).imp id λ⟨p,h1,h2⟩=>⟨p,h1,by rw[at' c o p hc h1];exact h2⟩
  sep:=h.sep
  fro:=λb cs hf=>by
   obtain⟨E,fr,hx⟩:=h.fro b cs hf;exact⟨E,fr,(hb b (Array.getElem?_eq_some_iff.1 hx).1).trans hx⟩
  frs:=h.frs
  tab:=h.tab
  xok:=λc o p hc hp=>(h.xok c o p hc hp).keep (D7.refl μ) (at' c o p hc hp) λb hx=>hb b (s9.lt (h.xok c o p hc hp) hx)
  xsep:=λc o p b c' o' p' hc hp hx hc' hp' =>by
   have:=h.xsep c o p b c' o' p' hc hp (xb c o p b hc hp hx) hc' hp';exact⟨this.1,λhne hx' =>this.2 hne (xb c' o' p' b hc' hp' hx')⟩
  xfrs:=λc o p b hc hp hx=>h.xfrs c o p b hc hp (xb c o p b hc hp hx)}
theorem D2.sub{μ:d5}{pre full:u6}{w:World}(hp:D2 μ full w)(h:∀z∈pre,z∈full):D2 μ pre w:=
 {obj' :=λc o hc=>hp.obj' c o (h _ hc)
  sep:=λc o c' o' p p' hc hc' =>hp.sep c o c' o' p p' (h _ hc) (h _ hc')
  fro:=hp.fro
  frs:=λc o p hc=>hp.frs c o p (h _ hc)
  tab:=hp.tab
  xok:=λc o p hc=>hp.xok c o p (h _ hc)
  xsep:=λc o p b c' o' p' hc h1 h2 hc' =>hp.xsep c o p b c' o' p' (h _ hc) h1 h2 (h _ hc')
  xfrs:=λc o p b hc=>hp.xfrs c o p b (h _ hc)}
section
open Go.Sort Go.Proofs
theorem b9U{P:Program}{α:Type}[Inhabited α]{g:FuncId}{ek:α->LV}{enc:α->List Value}{cf:α->α->Int}{caps:List LV}{pre:u6}(h:∀x y,j9 P g (ek x::ek y::caps) pre (.int .i64 (cf x y)) [])
  (hr:∀μ x,i4 μ (ek x) (.agg (enc x).toArray)) {μ:d5} {w:World} (hp:D2 μ pre w) {vc:List Value} (hc:o6 μ caps vc) {w1:World} (hB:Below w.heap.size w w1) {blk:Nat} (hblk:w.heap.size<=blk) (k off size:Nat):
  CmpLays P g vc.toArray enc k cf blk off size w1:=by
 intro m os dk _ x y;have hW:=(b4u enc k w1 blk off m dk os w.heap.size hblk hB.size).1;generalize sortWorldK enc k w1 blk off m dk os=W at hW;have hbl:=hB.trans hW;have:=(h x y).2 μ W (.agg (enc x).toArray:: .agg (enc y).toArray::vc) ⟨_,_,rfl,hr _ x,_,_,rfl,hr _ y,hc⟩ (hp.below λb hb=>hbl.block b hb) (λc hc=>by simp[i9.has] at hc);have e:(#[Value.agg (enc x).toArray,Value.agg (enc y).toArray]++vc.toArray:Array Value)=(Value.agg (enc x).toArray::Value.agg (enc y).toArray::vc).toArray:=by apply Array.ext';simp
 rw[e];refine this.mono ?_;rintro en w' ⟨v,μ',rfl,hv,hd⟩;simp only[i4] at hv;subst hv;exact⟨rfl,b99 W w' hd.os hd.tape hd.output (hd.draws rfl) hd.grow (λb hb=>hd.keep b hb (λ⟨c,o,p,_,_,h,_⟩=>by simp[i9.has] at h))⟩
theorem D2.apart{μ:d5}{pre:u6}{w w' :World}{x:Nat}(h:D2 μ pre w)(hb:∀b,b<w.heap.size->b≠x->w'.heap[b]?=w.heap[b]?)(hx:∀c o p,(c,o)∈pre->μ c=some p->p.rb≠x/\¬s9 μ w p o x)(hf:μ.fro x=none):D2 μ pre w' :=
 have at' :∀c o p,(c,o)∈pre->μ c=some p->w'.heap[p.rb]?=w.heap[p.rb]?:=λc o p hc hp=>hb _ (h.placed hc hp).lt (hx c o p hc hp).1;have xb:∀c o p b,(c,o)∈pre->μ c=some p->s9 μ w' p o b->s9 μ w p o b:=λc o p b hc hp hx=>s9.back (h.xok c o p hc hp) (D7.refl μ) (at' c o p hc hp) hx
 {obj' :=λc o hc=>(h.obj' c o hc).imp id λ⟨p,h1,h2⟩=>⟨p,h1,by rw[at' c o p hc h1];exact h2⟩
  sep:=h.sep
  fro:=λb cs hfr=>by
   obtain⟨E,fr,hxx⟩:=h.fro b cs hfr;exact⟨E,fr,(hb b (Array.getElem?_eq_some_iff.1 hxx).1 (λe=>by rw[e,hf] at hfr;cases hfr)).trans hxx⟩
  frs:=h.frs
  tab:=h.tab
  xok:=λc o p hc hp=>(h.xok c o p hc hp).keep (D7.refl μ) (at' c o p hc hp) λb hxx=>hb b (s9.lt (h.xok c o p hc hp) hxx) (λe=>(hx c o p hc hp).2 (e▸hxx))
  xsep:=λc o p b c' o' p' hc hp hx hc' hp' =>by
   have:=h.xsep c o p b c' o' p' hc hp (xb c o p b hc hp hx) hc' hp';exact⟨this.1,λhne hx' =>this.2 hne (xb c' o' p' b hc' hp' hx')⟩
  xfrs:=λc o p b hc hp hx=>h.xfrs c o p b hc hp (xb c o p b hc hp hx)}
theorem y0.same{μ:d5}{pre:u6}{w:World}{c:Nat}{o:LO}(hp:D2 μ pre w)(hm:(c,o)∈pre)(hw:o.wr=true)(hpl:o.plain=true):y0 μ w pre [(c,some o)] μ w:=
 have one:∀{e r},(e,some r)∈([(c,some o)]:i9)->e=c/\r=o:=λh=>by simpa using h
 A9.to ⟨D7.refl μ,λ_ _ h=> .inl h,rfl,rfl,rfl,λ_=>Nat.le_refl _,Nat.le_refl _,λ_ _ _=>rfl,λe r h=>by obtain⟨rfl,rfl⟩:=one h;exact hp.obj' _ _ hm,
  λe r q h hq=>by obtain⟨rfl,rfl⟩:=one h;exact .inr ⟨_,_,q,hm,hw,by simp[i9.has],hq,rfl⟩,λe r e' r' q q' h h' hne=>absurd ((one h).1.trans (one h').1.symm) hne,λ_ _ h=> .inl h,
  λhf e r q h _ hq=>by obtain⟨rfl,rfl⟩:=one h;exact hf.2 _ _ q hm hw hq⟩ (by simp[i9.plain,hpl])
theorem b9V{α:Type}[Inhabited α]{enc:α->List LV}{kc:α->List Value}{k:Nat}(henc:∀φ x,A3 φ (enc x) (kc x))(hk:∀x,(kc x).length=k)(h1:∀x,∀v∈kc x,v.oneCell' =true)
  {μ:d5} {pre:u6} {w w' :World} {v:Value} {ss ks:List α} {T:TypeId} {new:Nat} (hn:μ new=none) (hp:D2 μ pre w) (hb:Below w.heap.size w w') (hd:w.drawn<=w'.drawn) (ho:w'.ownsRow w.heap.size T k v ss.length (ss.flatMap kc)) (hnil:v=.slice none 0 0↔ss=[]) (hpm:ss.Perm ks):
  ∃μ',i4 μ' (.gs new ks.length) v/\y0 μ w pre [(new,some (.bag k ((j7.of ks).map enc)))] μ' w' :=by
 have one:∀{c r},(c,some r)∈([(new,some (LO.bag k ((j7.of ks).map enc)))]:i9)->c=new/\r=.bag k ((j7.of ks).map enc):=λh=>by simpa using h
 have hq:(j7.of ks).map enc=j7.of (ss.map enc):=(j7.sound (hpm.map enc)).symm;have hlen:=hpm.length_eq;rcases ho.2 with⟨rfl,h0⟩|⟨g,cap,cur,rfl,hg,hcur,hc1,hc2,hs,ht⟩
 ·have hss:=List.eq_nil_of_length_eq_zero h0
  subst hss;have hks:ks=[]:=List.eq_nil_of_length_eq_zero (by rw[<-hlen];rfl);subst hks;refine⟨μ,.inl ⟨rfl,rfl⟩,A9.to ⟨D7.refl μ,λc p h=> .inl h,hb.os,hb.tape,hb.output,(λ_=>hd),hb.size,λb h _=>hb.block b h,λc o h=>?_,λc o p h hq=>?_,λc o c' o' p p' h h' hne=>absurd ((one h).1.trans (one h').1.symm) hne,λb cs h=> .inl h,λ_ c o p h _ hq=>?_⟩ rfl⟩
  ·obtain⟨rfl,rfl⟩:=one h;exact .inl ⟨hn,rfl⟩
  ·obtain⟨rfl,rfl⟩:=one h;rw[hn] at hq;cases hq
  ·obtain⟨rfl,rfl⟩:=one h;rw[hn] at hq;cases hq
 ·have hset:(μ.set new ⟨g,0,k,cap⟩) new=some ⟨g,0,k,cap⟩:=d5.set_self
  by_cases h0:ks.length=0
  ·have hks:=List.eq_nil_of_length_eq_zero h0
   subst hks;have hss:=List.eq_nil_of_length_eq_zero hlen;cases hnil.2 hss
  refine⟨μ.set new ⟨g,0,k,cap⟩,.inr ⟨h0,_,cap,hset,by rw[hlen];simp[Pl.addr],by omega,Nat.le_refl _⟩,A9.to ⟨d5.ext_set hn,λc p h=>?_,hb.os,hb.tape,hb.output,(λ_=>hd),hb.size,λb h _=>hb.block b h,λc o h=>?_,λc o p h hq=>?_,λc o c' o' p p' h h' hne=>absurd ((one h).1.trans (one h').1.symm) hne,λb cs h=> .inl h,λhf c o p h _ hq=>?_⟩ rfl⟩
  ·rw[d5.set_at] at h
   split at h
   ·rename_i e;subst e;exact .inr ⟨by simp[i9.has],hn⟩
   ·exact .inl h
  ·obtain⟨rfl,rfl⟩:=one h
   refine .inr ⟨_,hset,ss.map enc,hq.symm,rfl,by rw[List.length_map];exact hc1,cur,T,(0,0),hcur,by rw[Nat.zero_add,hs];exact Nat.le_refl _,λo _=>by simp,λi hi=>⟨kc (ss.getD i default),?_,hk _,λj u hu=>?_,h1 _⟩⟩
   ·rw[List.length_map] at hi
    have:(ss.map enc).getD i []=enc (ss.getD i default):=by
     simp only[List.getD_eq_getElem?_getD,List.getElem?_map,List.getElem?_eq_getElem hi,Option.map_some,Option.getD_some]
    show A3 _ ((ss.map enc).getD i []) _;rw[this];exact henc _ _
   ·rw[List.length_map] at hi
    have hj:j<k:=by rw[<-hk (ss.getD i default)];exact(List.getElem?_eq_some_iff.1 hu).1
    have h2:=b5w kc k hk ss i j hi hj;rw[hu,<-ht,List.getElem?_take] at h2;split at h2
    ·simpa using h2
    ·cases h2
  ·obtain⟨rfl,rfl⟩:=one h
   rw[hset] at hq;cases hq;exact .inl hg
  ·obtain⟨rfl,rfl⟩:=one h
   rw[hset] at hq;cases hq;cases hfr:(μ.set c ⟨g,0,k,cap⟩).fro g with
   |none=>rfl
   |some cs=>have:=hf.1 _ _ hfr;omega
end
end Go.Cn
