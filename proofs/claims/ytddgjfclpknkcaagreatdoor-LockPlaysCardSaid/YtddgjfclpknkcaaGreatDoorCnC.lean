import Derived.Test.YtddgjfclpknkcaaGreatDoorCnB
import Derived.Laws.Cells
import Derived.Laws.World
namespace Go.Cn
open Go
def O1(cs:Array Value)(o:Nat):List Value->Array Value
 |[]=>cs
 |v::r=>O1 (cs.setIfInBounds o v) (o+1) r
theorem a0y:∀(vs:List Value) (cs:Array Value) (o:Nat),(O1 cs o vs).size=cs.size
 |[],_,_=>rfl
 |v::r,cs,o=>by simp[O1,a0y r]
theorem a6m:∀(vs:List Value) (cs:Array Value) (o k:Nat),o+vs.length<=cs.size->
  (O1 cs o vs)[k]?=if o<=k/\k<o+vs.length then vs[k - o]? else cs[k]?
 |[],cs,o,k,_=>by simp[O1];intro h1 h2;omega
 |v::r,cs,o,k,h=>by
  simp only[List.length_cons] at h;have ih:=a6m r (cs.setIfInBounds o v) (o+1) k (by simp;omega);simp only[O1,ih];by_cases hk:o=k
  ·subst hk
   rw[if_neg (by omega),if_pos ⟨Nat.le_refl _,by simp⟩];simp[Array.getElem?_setIfInBounds];omega
  ·by_cases h1:o+1<=k/\k<o+1+r.length
   ·rw[if_pos h1,if_pos (by simp;omega)]
    rw[show k - o=(k - (o+1))+1 from by omega];simp
   ·rw[if_neg h1,if_neg (by simp;omega),Array.getElem?_setIfInBounds]
    simp[hk]
def A7(w:World)(b:Nat)(o:Obj):World:={w with heap:=w.heap.setIfInBounds b o}
theorem Q6{w:World}{b:Nat}{o:Obj}(k:Nat):(A7 w b o).heap[k]?=if b=k/\k<w.heap.size then some o else w.heap[k]?:=by
 show(w.heap.setIfInBounds b o)[k]?=_;rw[Array.getElem?_setIfInBounds];by_cases hk:b=k
 ·subst hk
  by_cases hb:b<w.heap.size
  ·simp[hb]
  ·simp[hb]
 ·simp[hk]
theorem a79{w:World}{b:Nat}{o:Obj}:(A7 w b o).heap.size=w.heap.size:=by simp[A7]
theorem c6z{w:World}{rb o:Nat}{v:Value}{cs:Array Value}{E:TypeId}{fr:Nat×Nat}(h:w.heap[rb]?=some (.cells cs E fr)):
  w.setCell ⟨rb,o,none⟩ v=A7 w rb (.cells (cs.setIfInBounds o v) E fr):=by
 have hlt:rb<w.heap.size:=(Array.getElem?_eq_some_iff.1 h).1;unfold World.setCell A7;congr 1;apply Array.ext_getElem?;intro k;rw[Array.getElem?_modify,Array.getElem?_setIfInBounds];by_cases hk:rb=k
 ·subst hk
  have he:w.heap[rb]=.cells cs E fr:=by
   rw[Array.getElem?_eq_getElem hlt] at h;exact Option.some.inj h
  simp[hlt,he]
 ·simp[hk]
theorem c6y{w:World}{b:Nat}{o o' :Obj}:A7 (A7 w b o) b o' =A7 w b o' :=by
 unfold A7;congr 1;apply Array.ext_getElem?;intro k;simp only[Array.getElem?_setIfInBounds,Array.size_setIfInBounds];by_cases hk:b=k<;>simp[hk]
section
variable {P:Program}
theorem a59{rb o:Nat}{E:TypeId}{fr:Nat×Nat}:∀(vs:List Value) (i:Nat) (cs:Array Value) (w:World),w.heap[rb]?=some (.cells cs E fr)->
  (∀k,k<cs.size->¬(fr.1<=k/\k<fr.2))->o+i+vs.length<=cs.size->(∀v∈vs,v.oneCell' =true)->
  (storeCells ⟨rb,o,none⟩ vs i).run P w=.ok () (A7 w rb (.cells (O1 cs (o+i) vs) E fr))
 |[],i,cs,w,h,_,_,_=>by
  simp only[storeCells,Sem.run_pure,O1];congr 1;have hlt:rb<w.heap.size:=(Array.getElem?_eq_some_iff.1 h).1;unfold A7;cases w;congr 1;apply Array.ext_getElem?;intro k;rw[Array.getElem?_setIfInBounds];by_cases hk:rb=k
  ·subst hk;simp only[] at h hlt;simp[hlt];simpa[Array.getElem?_eq_getElem hlt] using h
  ·simp[hk]
 |v::r,i,cs,w,h,hf,hl,hv=>by
  simp only[List.length_cons] at hl;have ha:(⟨rb,o,none⟩:Addr).add i=⟨rb,o+i,none⟩:=by
   unfold Addr.add;split
   ·rename_i h0;subst h0;rfl
   ·rfl
  have hc:w.cell? ⟨rb,o+i,none⟩=some (cs[o+i]'(by omega)):=by
   simp only[World.cell?,h];simp[show o+i<cs.size from by omega]
  have hfz:w.frozen? ⟨rb,o+i,none⟩=false:=by
   have h1:=hf (o+i) (by omega);obtain⟨lo,hi⟩:=fr;simp only[World.frozen?,h,Bool.and_eq_false_iff,decide_eq_false_iff_not];simp only at h1;omega
  have hone:v.oneCell' =true:=hv v List.mem_cons_self;simp only[storeCells,Sem.run_bind,ha];rw[run_store P w _ v .plain hone];simp only[hc,hfz,Bool.false_eq_true,if_false,Result.andThen_ok];rw[c6z h];have hlt:rb<w.heap.size:=(Array.getElem?_eq_some_iff.1 h).1;rw[a59 (E:=E) (fr:=fr) r (i+1) (cs.setIfInBounds (o+i) v) _ (by rw[Q6];simp[hlt]) (by simpa using hf) (by simp;omega) (λx hx=>hv x (List.mem_cons_of_mem _ hx))];rw[c6y];rfl
theorem a4y{rb o:Nat}{E:TypeId}{fr:Nat×Nat}{cs:Array Value}{w:World}(h:w.heap[rb]?=some (.cells cs E fr))(vs:List Value)(hl:I4 cs o vs):
  (loadCells ⟨rb,o,none⟩ vs.length).run P w=.ok vs.toArray w:=by
 refine run_loadCells_list w ⟨rb,o,none⟩ vs (λj v hj=>?_);have ha:(⟨rb,o,none⟩:Addr).add j=⟨rb,o+j,none⟩:=by
  unfold Addr.add;split
  ·rename_i h0;subst h0;rfl
  ·rfl
 rw[ha];simp only[World.cell?,h];simpa using hl j v hj
theorem a19(p:Pl)(i j n:Nat):(p.addr i j).add n=⟨p.rb,p.off+i * p.sz+j+n,none⟩:=by
 unfold Addr.add Pl.addr;split
 ·rename_i h0;subst h0;rfl
 ·rfl
def d5.set(μ:d5)(c:Nat)(p:Pl):d5:=⟨λd=>if d=c then some p else μ d,μ.fro⟩
theorem d5.set_at{μ:d5}{c d:Nat}{p:Pl}:μ.set c p d=if d=c then some p else μ d:=rfl
theorem d5.ext_set{μ:d5}{c:Nat}{p:Pl}(h:μ c=none):D7 μ (μ.set c p):=by
 refine⟨λd q hq=>?_,λ_ _ h=>h⟩;rw[d5.set_at];split
 ·rename_i e;subst e;rw[h] at hq;cases hq
 ·exact hq
theorem d5.set_self{μ:d5}{c:Nat}{p:Pl}:μ.set c p c=some p:=by simp[d5.set]
theorem i9.has_one{c d:Nat}{o:Option LO}:i9.has [(c,o)] d=true↔c=d:=by simp[i9.has]
theorem A9.new{μ:d5}{w:World}{pre:u6}{c:Nat}{p:Pl}{o:LO}{x:Obj}(hc:μ c=none)(hp:p.rb=w.heap.size)(ho:w9 (μ.set c p) p (some x) o):
  A9 μ w pre [(c,some o)] (μ.set c p) (w.alloc x) where
 ext:=d5.ext_set hc
 dom:=λd q hq=>by
  rw[d5.set_at] at hq;split at hq
  ·rename_i e;subst e;exact .inr ⟨by simp[i9.has],hc⟩
  ·exact .inl hq
 os:=rfl
 tape:=rfl
 output:=rfl
 draws:=λ_=>Nat.le_refl _
 grow:=by simp
 keep:=λb hb _=>by show(w.heap.push x)[b]?=_;rw[Array.getElem?_push,if_neg (by omega)]
 obj:=λd q hq=>by
  simp only[List.mem_singleton,Prod.mk.injEq,Option.some.injEq] at hq;obtain⟨rfl,rfl⟩:=hq;refine .inr ⟨p,d5.set_self,?_⟩;have:(w.alloc x).heap[p.rb]?=some x:=by show(w.heap.push x)[p.rb]?=_;rw[hp];simp
  rw[this];exact ho
 place:=λd q r hq hr=>by
  simp only[List.mem_singleton,Prod.mk.injEq,Option.some.injEq] at hq;obtain⟨rfl,rfl⟩:=hq;rw[d5.set_self] at hr;obtain rfl:=Option.some.inj hr;left;omega
 sep:=λd q d' q' r r' hq hq' hne=>by
  simp only[List.mem_singleton,Prod.mk.injEq,Option.some.injEq] at hq hq';exact absurd (hq.1.trans hq'.1.symm) hne
 frn:=λ_ _ h=> .inl h
 frs:=λhf d q r hq _ hr=>by
  simp only[List.mem_singleton,Prod.mk.injEq,Option.some.injEq] at hq;obtain⟨rfl,rfl⟩:=hq;rw[d5.set_self] at hr;obtain rfl:=Option.some.inj hr;cases h:(μ.set d p).fro p.rb with
  |none=>rfl
  |some cs=>have:=hf.1 _ _ h;omega
theorem A9.put{μ:d5}{w:World}{pre:u6}{c:Nat}{p:Pl}{o o' :LO}{x:Obj}(hc:μ c=some p)(hm:(c,o)∈pre)(hw:o.wr=true)(hlt:p.rb<w.heap.size)
  (ho:w9 μ p (some x) o'):A9 μ w pre [(c,some o')] μ (A7 w p.rb x) where
 ext:=D7.refl μ
 dom:=λ_ _ h=> .inl h
 os:=rfl
 tape:=rfl
 output:=rfl
 draws:=λ_=>Nat.le_refl _
 grow:=by rw[a79];exact Nat.le_refl _
 keep:=λb hb hk=>by
  rw[Q6,if_neg];rintro⟨e,_⟩;exact hk c o p hm hw (by simp[i9.has]) hc e
 obj:=λd q hq=>by
  simp only[List.mem_singleton,Prod.mk.injEq,Option.some.injEq] at hq;obtain⟨rfl,rfl⟩:=hq;exact .inr ⟨p,hc,by rw[Q6,if_pos ⟨rfl,hlt⟩];exact ho⟩
 place:=λd q r hq hr=>by
  simp only[List.mem_singleton,Prod.mk.injEq,Option.some.injEq] at hq;obtain⟨rfl,rfl⟩:=hq;exact .inr ⟨d,o,p,hm,hw,by simp[i9.has],hc,by rw[hc] at hr;rw[Option.some.inj hr]⟩
 sep:=λd q d' q' r r' hq hq' hne=>by
  simp only[List.mem_singleton,Prod.mk.injEq,Option.some.injEq] at hq hq';exact absurd (hq.1.trans hq'.1.symm) hne
 frn:=λ_ _ h=> .inl h
 frs:=λhf d q r hq _ hr=>by
  simp only[List.mem_singleton,Prod.mk.injEq,Option.some.injEq] at hq;obtain⟨rfl,rfl⟩:=hq;rw[hc] at hr;obtain rfl:=Option.some.inj hr;exact hf.2 d o p hm hw hc
theorem A9.move{μ:d5}{w:World}{pre:u6}{c d:Nat}{p q:Pl}{o o' :LO}{x:Obj}(hc:μ c=some p)(hm:(c,o)∈pre)(hw:o.wr=true)(hlt:p.rb<w.heap.size)
  (hd:μ d=none) (hq:q.rb=p.rb) (ho:w9 (μ.set d q) q (some x) o'):A9 μ w pre [(c,none),(d,some o')] (μ.set d q) (A7 w p.rb x) where
 ext:=d5.ext_set hd
 dom:=λe r hr=>by
  rw[d5.set_at] at hr;split at hr
  ·rename_i h;subst h;exact .inr ⟨by simp[i9.has],hd⟩
  ·exact .inl hr
 os:=rfl
 tape:=rfl
 output:=rfl
 draws:=λ_=>Nat.le_refl _
 grow:=by rw[a79];exact Nat.le_refl _
 keep:=λb hb hk=>by
  rw[Q6,if_neg];rintro⟨e,_⟩;exact hk c o p hm hw (by simp[i9.has]) hc e
 obj:=λe r hr=>by
  simp only[List.mem_cons,Prod.mk.injEq,reduceCtorEq,and_false,Option.some.injEq,List.not_mem_nil,or_false,false_or] at hr;obtain⟨rfl,rfl⟩:=hr;exact .inr ⟨q,d5.set_self,by rw[hq,Q6,if_pos ⟨rfl,hlt⟩];exact ho⟩
 place:=λe r s hr hs=>by
  simp only[List.mem_cons,Prod.mk.injEq,reduceCtorEq,and_false,Option.some.injEq,List.not_mem_nil,or_false,false_or] at hr;obtain⟨rfl,rfl⟩:=hr;rw[d5.set_self] at hs;obtain rfl:=Option.some.inj hs;exact .inr ⟨c,o,p,hm,hw,by simp[i9.has],hc,hq.symm⟩
 sep:=λe r e' r' s s' hr hr' hne=>by
  simp only[List.mem_cons,Prod.mk.injEq,reduceCtorEq,and_false,Option.some.injEq,List.not_mem_nil,or_false,false_or] at hr hr';exact absurd (hr.1.trans hr'.1.symm) hne
 frn:=λ_ _ h=> .inl h
 frs:=λhf e r s hr _ hs=>by
  simp only[List.mem_cons,Prod.mk.injEq,reduceCtorEq,and_false,Option.some.injEq,List.not_mem_nil,or_false,false_or] at hr;obtain⟨rfl,rfl⟩:=hr;rw[d5.set_self] at hs;obtain rfl:=Option.some.inj hs;rw[hq];exact hf.2 c o p hm hw hc
end
end Go.Cn
