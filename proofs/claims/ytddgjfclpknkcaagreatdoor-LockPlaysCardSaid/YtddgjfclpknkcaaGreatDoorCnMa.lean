import Derived.Test.YtddgjfclpknkcaaGreatDoorCnMb
namespace Go.Cn
open Go
variable {P:Program}
theorem y0.newAbs{μ:d5}{w:World}{pre:u6}{m new:Nat}{p q:Pl}{om o:LO}{x:Obj}(hp:D2 μ pre w)(hm:(m,om)∈pre)(hw:om.wr=true)(hq:μ m=some q)(hn:μ new=none)(hpb:p.rb=w.heap.size)
  (hok:w9 (μ.set new p) p (some x) o) (hx:D3 (μ.set new p) (w.alloc x) p o) (hxt:∀b,s9 (μ.set new p) (w.alloc x) p o b->b=q.rb):y0 μ w pre [(m,none),(new,some o)] (μ.set new p) (w.alloc x):=
 have hlt:q.rb<w.heap.size:=(hp.placed hm hq).lt;have one:∀{e r},(e,some r)∈([(m,none),(new,some o)]:i9)->e=new/\r=o:=λh=>by simpa using h
 have tq:I5 μ w pre [(m,none),(new,some o)] q.rb:=⟨m,om,q,hm,hw,by simp[i9.has],hq,.inl rfl⟩
 {ext:=d5.ext_set hn
  dom:=λd r hr=>by
   rw[d5.set_at] at hr;split at hr
   ·rename_i e;subst e;exact .inr ⟨by simp[i9.has],hn⟩
   ·exact .inl hr
  os:=rfl
  tape:=rfl
  output:=rfl
  draws:=λ_=>Nat.le_refl _
  grow:=by simp
  keep:=λb hb _=>by show(w.heap.push x)[b]?=_;rw[Array.getElem?_push,if_neg (by omega)]
  obj:=λe r h=>by
   obtain⟨rfl,rfl⟩:=one h;refine .inr ⟨p,d5.set_self,?_⟩;have:(w.alloc x).heap[p.rb]?=some x:=by show(w.heap.push x)[p.rb]?=_;rw[hpb];simp
   rw[this];exact hok
  place:=λe r s h hs=>by
   obtain⟨rfl,rfl⟩:=one h;rw[d5.set_self] at hs;obtain rfl:=Option.some.inj hs;exact .inl (by omega)
  sep:=λe r e' r' s s' h h' hne=>absurd ((one h).1.trans (one h').1.symm) hne
  frn:=λ_ _ h=> .inl h
  frs:=λhf e r s h _ hs=>by
   obtain⟨rfl,rfl⟩:=one h;rw[d5.set_self] at hs;obtain rfl:=Option.some.inj hs;cases h:(μ.set e p).fro p.rb with
   |none=>rfl
   |some cs=>have:=hf.1 _ _ h;omega
  xok:=λe r s h hs=>by
   obtain⟨rfl,rfl⟩:=one h;rw[d5.set_self] at hs;obtain rfl:=Option.some.inj hs;exact hx
  xplace:=λe r s b h hs hxb=>by
   obtain⟨rfl,rfl⟩:=one h;rw[d5.set_self] at hs;obtain rfl:=Option.some.inj hs;rw[hxt b hxb];exact .inr tq
  xsep:=λe r s b e' r' s' h hs hxb h' hs' =>by
   obtain⟨rfl,rfl⟩:=one h;obtain⟨rfl,rfl⟩:=one h';rw[d5.set_self] at hs hs';obtain rfl:=Option.some.inj hs;obtain rfl:=Option.some.inj hs';exact⟨by rw[hxt b hxb];omega,λhne=>absurd rfl hne⟩
  xfrs:=λhf e r s b h hs hxb=>by
   obtain⟨rfl,rfl⟩:=one h;rw[d5.set_self] at hs;obtain rfl:=Option.some.inj hs;rw[hxt b hxb];exact hf.2.1 m om q hm hw hq}
def a8G(P:Program)(H:d7)(new:Nat)(t:TypeId):LV->Option u9
 | .map m=>
  match F7 P t,H.at m with
  |some (.map _ _),some (.map ag ks es)=>some ⟨True,.ptr new 0 0,[m],[(m,none),(new,some (.mit m ag ks es none es))]⟩
  |_,_=>none
 |_=>none
theorem c0P{H:d7}{new:Nat}{t:TypeId}{x:LV}{vx:Value}{e:u9}{μ:d5}{w:World}(h:a8G P H new t x=some e)(hx:i4 μ x vx)(hp:D2 μ (H.pre e.foot) w)(hn:μ new=none):
  a4R P (Instr.range t vx) μ w (H.pre e.foot) e.up e.v:=by
 unfold a8G at h;split at h<;>try cases h
 rename_i m;split at h<;>cases h;rename_i kt vt ag ks es hd hm;obtain⟨q,hq,rfl⟩:=hx;have hmm:(m,LO.map ag ks es)∈H.pre [m]:=d7.mem_pre.2 ⟨by simp,hm⟩;have hok:=hp.placed hmm hq;have hlt:=hok.lt;obtain⟨⟨en,cl,hb,h2,h3,h4⟩,h5⟩:=hok;have hne:new≠m:=λe=>by subst e;rw[hn] at hq;cases hq
 have hqs:(μ.set new ⟨w.heap.size,0,0,0⟩) m=some q:=by rw[d5.set_at,if_neg (λe=>hne e.symm)];exact hq
 refine⟨.pointer (some ⟨w.heap.size,0,none⟩),w.alloc (.mapIter (some q.rb) cl #[] cl),μ.set new ⟨w.heap.size,0,0,0⟩,?_,⟨_,d5.set_self,rfl⟩,?_⟩
 ·have hg:(getObj q.rb).run P w=.ok (.map en cl) w:=by simp[getObj,Sem.run,hb]
  simp only[Instr.range,Sem.run_bind,w7 hd,Result.andThen_ok,hg,Sem.run_pure,run_newObj,World.alloc_eq]
 ·have hold:(w.alloc (.mapIter (some q.rb) cl #[] cl)).heap[q.rb]?=some (.map en cl):=by
   show(w.heap.push _)[q.rb]?=_;rw[Array.getElem?_push,if_neg (by omega)];exact hb
  refine y0.newAbs (q:=q) hp hmm rfl hq hn rfl ⟨rfl,q,cl,#[],cl,hqs,rfl⟩ ⟨q,cl,#[],cl,en,cl,en.toList,hqs,?_,hold,?_,h3,h4,h5,h4,rfl,?_,?_,λx hx=>by cases hx⟩ ?_
  ·show(w.heap.push _)[w.heap.size]?=_;simp
  ·exact h2.mono λa b ⟨x,y⟩=>⟨x,y⟩
  ·rw[List.filter_eq_self.2 (λ_ _=>by simp)]
  ·exact h2.mono λa b ⟨x,y⟩=>⟨x,y⟩
  ·rintro b ⟨q',h,rfl⟩
   rw[hqs] at h;rw[Option.some.inj h]
def b1m(H:d7):LV->Option u9
 | .ptr d 0 0=>
  match H.at d with
  |some (.mit _ _ _ _ (some (k,v)) _)=>some ⟨True,.tup [k,v],[d],[]⟩
  |_=>none
 |_=>none
theorem c0z{H:d7}{x:LV}{vx:Value}{e:u9}{μ:d5}{w:World}(h:b1m H x=some e)(hx:i4 μ x vx)(hp:D2 μ (H.pre e.foot) w):a4R P (Instr.entry vx) μ w (H.pre e.foot) e.up e.v:=by
 unfold b1m at h;split at h<;>try cases h
 rename_i d;split at h<;>cases h;rename_i c ag ks es k v rest hd;obtain⟨p,hpc,rfl⟩:=hx;have hmm:(d,LO.mit c ag ks es (some (k,v)) rest)∈H.pre [d]:=d7.mem_pre.2 ⟨by simp,hd⟩;obtain⟨hoff,_⟩:=hp.placed hmm hpc;obtain⟨q,si,se,st,en,cl,RS,k1,k2,k3,k4,k5,k6,k7,k8,k9,k10,k11,k12⟩:=hp.xok _ _ p hmm hpc;obtain⟨s,m,g1,g2,g3,g4⟩:=k12 _ rfl;subst k9;refine⟨.tuple #[m.key,m.val],w,μ,?_,⟨_,rfl,m.key,_,rfl,g3.rel,m.val,_,rfl,g4.rel,rfl⟩,y0.refl μ w _⟩;have e0:p.addr 0 0=⟨p.rb,0,none⟩:=by simp[Pl.addr,hoff]
 have hg1:(getObj p.rb).run P w=.ok (.mapIter (some q.rb) si se cl) w:=by simp[getObj,Sem.run,k2]
 have hg2:(getObj q.rb).run P w=.ok (.map en cl) w:=by simp[getObj,Sem.run,k3]
 rw[e0];simp[Instr.entry,hg1,hg2,g1,g2]
theorem D3.drew{μ:d5}{w:World}{p:Pl}{o:LO}:D3 μ w.drew p o↔D3 μ w p o:=by cases o<;>exact Iff.rfl
theorem s9.drew{μ:d5}{w:World}{p:Pl}{o:LO}{b:Nat}:s9 μ w.drew p o b↔s9 μ w p o b:=by cases o<;>exact Iff.rfl
theorem D2.drew{μ:d5}{pre:u6}{w:World}(h:D2 μ pre w):D2 μ pre w.drew:=
 ⟨h.obj',h.sep,h.fro,h.frs,h.tab,λc o p a b=>D3.drew.2 (h.xok c o p a b),λc o p b c' o' p' h1 h2 h3 h4 h5=>by
  have:=h.xsep c o p b c' o' p' h1 h2 (s9.drew.1 h3) h4 h5;exact⟨this.1,λhne hx=>this.2 hne (s9.drew.1 hx)⟩,λc o p b h1 h2 h3=>h.xfrs c o p b h1 h2 (s9.drew.1 h3)⟩
theorem I5.drew{μ:d5}{w:World}{pre:u6}{up:i9}{b:Nat}(h:I5 μ w.drew pre up b):I5 μ w pre up b:=by
 obtain⟨c,o,p,h1,h2,h3,h4,h5⟩:=h;exact⟨c,o,p,h1,h2,h3,h4,h5.imp id s9.drew.1⟩
theorem X7.drew{μ:d5}{pre:u6}{w:World}(h:X7 μ pre w):X7 μ pre w.drew:=⟨h.1,h.2.1,λc o p b h1 h2 h3=>h.2.2 c o p b h1 h2 (s9.drew.1 h3)⟩
theorem y0.fromDrew{μ μ' :d5}{w w' :World}{pre:u6}{up:i9}(d:y0 μ w.drew pre up μ' w'):y0 μ w pre up μ' w' :=
 {ext:=d.ext,dom:=d.dom,os:=d.os,tape:=d.tape,output:=d.output,draws:=λh=>Nat.le_trans (Nat.le_succ _) (d.draws h),grow:=d.grow,
  keep:=λb hb hk=>d.keep b hb (λt=>hk t.drew)
  obj:=d.obj
  place:=λc o p h1 h2=>(d.place c o p h1 h2).imp id I5.drew
  sep:=d.sep
  frn:=λb cs hb=>(d.frn b cs hb).imp id λ⟨h1,h2⟩=>⟨h1,h2.imp id I5.drew⟩
  frs:=λhf=>d.frs hf.drew
  xok:=d.xok
  xplace:=λc o p b h1 h2 h3=>(d.xplace c o p b h1 h2 h3).imp id I5.drew
  xsep:=d.xsep
  xfrs:=λhf=>d.xfrs hf.drew}
theorem b4x:∀{L:List MapEntry} {e:MapEntry},(L.map (·.born)).Nodup->e∈L->L.Perm (e::L.filter λx=>x.born !=e.born)
 |[],e,_,h=>by cases h
 |a::L,e,hn,h=>by
  rw[List.map_cons,List.nodup_cons] at hn;rcases List.mem_cons.1 h with rfl|h
  ·rw[List.filter_cons_of_neg (by simp),List.filter_eq_self.2]
   intro x hx;have:x.born≠e.born:=λhb=>hn.1 (List.mem_map.2 ⟨x,hx,hb⟩);simpa using this
  ·have hb:a.born≠e.born:=λhb=>hn.1 (List.mem_map.2 ⟨e,h,hb.symm⟩)
   rw[List.filter_cons_of_pos (by simpa using hb)];exact((b4x hn.2 h).cons a).trans (List.Perm.swap _ _ _)
theorem b4w:∀{L:List MapEntry} {e:MapEntry},(L.map (·.born)).Nodup->e∈L->L.find? (λx=>x.born==e.born)=some e
 |[],e,_,h=>by cases h
 |a::L,e,hn,h=>by
  rw[List.map_cons,List.nodup_cons] at hn;rcases List.mem_cons.1 h with rfl|h
  ·rw[List.find?_cons_of_pos (by simp)]
  ·have hb:a.born≠e.born:=λhb=>hn.1 (List.mem_map.2 ⟨e,h,hb.symm⟩)
   rw[List.find?_cons_of_neg (by simpa using hb)];exact b4w hn.2 h
theorem F2.erase{α β:Type}{R:α->β->Prop}{l:List α}{m:List β}(h:F2 R l m):∀i,F2 R (l.eraseIdx i) (m.eraseIdx i):=by
 induction h with
 |nil=>intro i;exact .nil
 |cons x r ih=>
  intro i;cases i with
  |zero=>exact r
  |succ i=>exact .cons x (ih i)
theorem a43{α:Type}:∀{l:List α} {i:Nat} {x:α},l[i]?=some x->l.Perm (x::l.eraseIdx i)
 |[],i,x,h=>by simp at h
 |a::l,0,x,h=>by simp at h;subst h;exact List.Perm.refl _
 |a::l,i+1,x,h=>by
  have:=a43 (l:=l) (i:=i) (by simpa using h);exact(this.cons a).trans (List.Perm.swap _ _ _)
theorem c29{μ:d5}{w:World}{pre:u6}{d c:Nat}{ag:Bool}{ks:List CK}{es:List (LV×LV)}{cur:Option (LV×LV)}{rest:List (LV×LV)}{vx:Value}{ty:TypeId}
  (hp:D2 μ pre w) (hm:(d,LO.mit c ag ks es cur rest)∈pre) (hx:i4 μ (.ptr d 0 0) vx):
  (rest=[]/\(Instr.next vx false ty).run P w=.ok (.tuple #[.bool false]) w)\/
  ∃i k v x w',rest[i]?=some (k,v)/\(Instr.next vx false ty).run P w=.ok x w' /\i4 μ (.tup [.bool true,k,v]) x/\y0 μ w pre [(d,some (.mit c ag ks es (some (k,v)) (rest.eraseIdx i)))] μ w' :=by
 obtain⟨p,hpc,rfl⟩:=hx;obtain⟨hoff,_⟩:=hp.placed hm hpc;obtain⟨q,si,se,st,en,cl,RS,k1,k2,k3,k4,k5,k6,k7,k8,k9,k10,k11,k12⟩:=hp.xok _ _ p hm hpc;subst k9;have e0:p.addr 0 0=⟨p.rb,0,none⟩:=by simp[Pl.addr,hoff]
 have hg1:(getObj p.rb).run P w=.ok (.mapIter (some q.rb) si se cl) w:=by simp[getObj,Sem.run,k2]
 have hg2:(getObj q.rb).run P w=.ok (.map en cl) w:=by simp[getObj,Sem.run,k3]
 have hun:(!se.isEmpty&&!en.isEmpty&&en.all λx=>decide (x.born>=cl))=false:=by
  cases hen:en.isEmpty with
  |true=>simp
  |false=>
   simp only[Bool.not_false,Bool.and_true,Bool.and_eq_false_iff];right;have hne:0<en.size:=by
    rcases Nat.eq_zero_or_pos en.size with h|h
    ·rw[Array.isEmpty,h] at hen;simp at hen
    ·exact h
   rw[Bool.eq_false_iff];intro hall;have:=Array.all_eq_true.1 hall 0 hne;have hlt:=k6 en[0] (by simp);simp at this;omega
 have hnew:((en.filter λe=>!se.contains e.born).filter λx=>decide (x.born>=si))=#[]:=by
  rw[Array.filter_eq_empty_iff];intro e he;have hm:=k8 e (Array.mem_toList_iff.2 (Array.mem_filter.1 he).1);simp;omega
 have hold:((en.filter λe=>!se.contains e.born).filter λx=>decide (x.born<si))=en.filter λe=>!se.contains e.born:=by
  rw[Array.filter_eq_self];intro e he;have hm:=k8 e (Array.mem_toList_iff.2 (Array.mem_filter.1 he).1);simpa using hm
 have hL:(en.filter λe=>!se.contains e.born).toList=en.toList.filter λe=>!se.contains e.born:=by simp
 generalize hA:(en.filter λe=>!se.contains e.born)=A at hnew hold hL;have head:(Instr.next (.pointer (some (p.addr 0 0))) false ty).run P w=((do
   match((if A.isEmpty then#[none] else#[])++(A++#[]).map some)[<-choose (.mapNext ((if A.isEmpty then#[none] else#[])++(A++#[]).map some).size)]? with
   |some (some e)=>
    setObj p.rb (.mapIter (some q.rb) si (se.push e.born) cl)
    pure (.tuple #[.bool true,e.key,e.val])
   |some none=>pure (.tuple #[.bool false])
   |none=>stuck "Next: no such candidate":Sem Value)).run P w:=by
  rw[e0];simp only[Instr.next,Sem.run_bind,hg1,Result.andThen_ok,hg2,hun,Bool.false_eq_true,if_false,Sem.run_pure,hA,hold,hnew];congr 1
 have hnd:(A.toList.map (·.born)).Nodup:=by rw[hL];exact(List.Sublist.map _ List.filter_sublist).nodup k5
 by_cases hA0:A=#[]
 ·left
  subst hA0;have hR:RS=[]:=by
   have:RS.Perm []:=by rw[<-hL] at k10;exact k10
   exact List.Perm.eq_nil this
  have hr:rest=[]:=by subst hR;cases k11;rfl
  refine⟨hr,?_⟩;rw[head];simp[run_choose,Question.forced]
 ·right
  have hAe:A.isEmpty=false:=by simpa[Array.isEmpty_iff] using hA0
  have hsz:0<A.size:=Nat.pos_of_ne_zero (λh=>hA0 (Array.eq_empty_of_size_eq_zero h));have hcand:((if A.isEmpty then#[none] else#[])++(A++#[]).map some)=A.map some:=by simp[hAe]
  rw[hcand] at head;obtain⟨k,w1,hk,hch,hw1⟩:∃k w1,k<A.size/\(choose (.mapNext (A.map some).size)).run P w=.ok k w1/\(w1=w\/w1=w.drew):=by
   rw[run_choose,Array.size_map];by_cases h1:(Question.mapNext A.size).forced=true
   ·exact⟨0,w,hsz,by rw[if_pos h1],.inl rfl⟩
   ·refine⟨_,w.drew,?_,by rw[if_neg h1];rfl,.inr rfl⟩
    exact Nat.mod_lt _ hsz
  obtain⟨e,he⟩:∃e,A[k]?=some e:=⟨_,Array.getElem?_eq_getElem hk⟩
  have heA:e∈A.toList:=by rw[<-Array.getElem?_toList] at he;exact List.mem_of_getElem? he
  have heR:e∈RS:=by rw[<-hL] at k10;exact k10.mem_iff.2 heA
  have heE:e∈en.toList:=by rw[hL] at heA;exact(List.mem_filter.1 heA).1
  obtain⟨i,hi⟩:=List.mem_iff_getElem?.1 heR;obtain⟨x,hxr⟩:∃x,rest[i]?=some x:=by
   have:=k11.len;have hlt:=(List.getElem?_eq_some_iff.1 hi).1;exact⟨_,List.getElem?_eq_getElem (by omega)⟩
  obtain⟨kk,vv⟩:=x;have hrel:U1 μ (kk,vv) e:=k11.get1 hxr hi;have hh:w1.heap=w.heap:=by rcases hw1 with rfl|rfl<;>rfl
  have hrun:(Instr.next (.pointer (some (p.addr 0 0))) false ty).run P w=.ok (.tuple #[.bool true,e.key,e.val]) (A7 w1 p.rb (.mapIter (some q.rb) si (se.push e.born) cl)):=by
   have h2:w1.heap[p.rb]?=some (.mapIter (some q.rb) si se cl):=by rw[hh];exact k2
   have hset:∀o,(setObj p.rb o).run P w1=.ok () (A7 w1 p.rb o):=by intro o;simp[setObj,Sem.run,h2,A7]
   rw[head];simp only[Sem.run_bind,hch,Result.andThen_ok,Array.getElem?_map,he,Option.map_some,hset,Sem.run_pure]
  have hp1:D2 μ pre w1:=by rcases hw1 with rfl|rfl<;>first|exact hp|exact hp.drew
  have hqp:q.rb≠p.rb:=λe=>(hp.xsep d _ p q.rb d _ p hm hpc ⟨q,k1,rfl⟩ hm hpc).1 e.symm;have hplt:p.rb<w1.heap.size:=by rw[hh];exact(Array.getElem?_eq_some_iff.1 k2).1
  have hq2:(A7 w1 p.rb (.mapIter (some q.rb) si (se.push e.born) cl)).heap[q.rb]?=some (.map en cl):=by
   rw[Q6,if_neg (λh=>hqp h.1.symm),hh];exact k3
  have hp2:(A7 w1 p.rb (.mapIter (some q.rb) si (se.push e.born) cl)).heap[p.rb]?=some (.mapIter (some q.rb) si (se.push e.born) cl):=by
   rw[Q6,if_pos ⟨rfl,hplt⟩]
  have hfil:(en.toList.filter λx=>!(se.push e.born).contains x.born)=(en.toList.filter λx=>!se.contains x.born).filter λx=>x.born !=e.born:=by
   rw[List.filter_filter];apply List.filter_congr;intro x _;simp[Bool.and_comm,bne,Bool.beq_eq_decide_eq]
  have d1:y0 μ w1 pre [(d,some (.mit c ag ks es (some (kk,vv)) (rest.eraseIdx i)))] μ (A7 w1 p.rb (.mapIter (some q.rb) si (se.push e.born) cl)):=by
   refine y0.own1 hp1 hpc hm rfl ⟨hoff,q,si,se.push e.born,cl,k1,rfl⟩ ⟨q,si,se.push e.born,cl,en,cl,RS.eraseIdx i,k1,hp2,hq2,k4,k5,k6,k7,k8,rfl,?_,k11.erase i,λx hx=>?_⟩ λb hb=>hb
   ·rw[hfil,<-hL]
    rw[<-hL] at k10;exact List.Perm.cons_inv ((a43 hi).symm.trans (k10.trans (b4x hnd heA)))
   ·cases hx
    refine⟨e.born,e,by simp,?_,hrel⟩;rw[<-Array.find?_toList];exact b4w k5 heE
  refine⟨i,kk,vv,_,_,hxr,hrun,⟨_,rfl,.bool true,_,rfl,rfl,e.key,_,rfl,hrel.1.rel,e.val,_,rfl,hrel.2.rel,rfl⟩,?_⟩;rcases hw1 with rfl|rfl
  ·exact d1
  ·exact d1.fromDrew
theorem y0.ownX{μ:d5}{w:World}{pre:u6}{c b:Nat}{p:Pl}{o o' :LO}{x:Obj}(hp:D2 μ pre w)(hc:μ c=some p)(hm:(c,o)∈pre)(hw:o.wr=true)(hb:s9 μ w p o b)
  (hok:w9 μ p w.heap[p.rb]? o') (hx:D3 μ (A7 w b x) p o') (hxt:∀b',s9 μ (A7 w b x) p o' b' ->s9 μ w p o b'):y0 μ w pre [(c,some o')] μ (A7 w b x):=
 have hpb:p.rb≠b:=(hp.xsep _ o p b _ o p hm hc hb hm hc).1;have one:∀{e r},(e,some r)∈([(c,some o')]:i9)->e=c/\r=o' :=λh=>by simpa using h
 have tb:I5 μ w pre [(c,some o')] b:=⟨c,o,p,hm,hw,by simp[i9.has],hc,.inr hb⟩
 have tc:I5 μ w pre [(c,some o')] p.rb:=⟨c,o,p,hm,hw,by simp[i9.has],hc,.inl rfl⟩
 {ext:=D7.refl μ
  dom:=λ_ _ h=> .inl h
  os:=rfl
  tape:=rfl
  output:=rfl
  draws:=λ_=>Nat.le_refl _
  grow:=by rw[a79];exact Nat.le_refl _
  keep:=λb' hb' hk=>by
   rw[Q6,if_neg];rintro⟨e,_⟩;exact hk (e▸tb)
  obj:=λe r h=>by
   obtain⟨rfl,rfl⟩:=one h;exact .inr ⟨p,hc,by rw[Q6,if_neg (λe=>hpb e.1.symm)];exact hok⟩
  place:=λe r q h hq=>by
   obtain⟨rfl,rfl⟩:=one h;rw[hc] at hq;obtain rfl:=Option.some.inj hq;exact .inr tc
  sep:=λe r e' r' q q' h h' hne=>absurd ((one h).1.trans (one h').1.symm) hne
  frn:=λ_ _ h=> .inl h
  frs:=λhf e r q h _ hq=>by
   obtain⟨rfl,rfl⟩:=one h;rw[hc] at hq;obtain rfl:=Option.some.inj hq;exact hf.2.1 _ o p hm hw hc
  xok:=λe r q h hq=>by
   obtain⟨rfl,rfl⟩:=one h;rw[hc] at hq;obtain rfl:=Option.some.inj hq;exact hx
  xplace:=λe r q b' h hq hxb=>by
   obtain⟨rfl,rfl⟩:=one h;rw[hc] at hq;obtain rfl:=Option.some.inj hq;exact .inr ⟨_,o,p,hm,hw,by simp[i9.has],hc,.inr (hxt b' hxb)⟩
  xsep:=λe r q b' e' r' q' h hq hxb h' hq' =>by
   obtain⟨rfl,rfl⟩:=one h;obtain⟨rfl,rfl⟩:=one h';rw[hc] at hq hq';obtain rfl:=Option.some.inj hq;obtain rfl:=Option.some.inj hq';exact⟨(hp.xsep _ o p b' _ o p hm hc (hxt b' hxb) hm hc).1,λhne=>absurd rfl hne⟩
  xfrs:=λhf e r q b' h hq hxb=>by
   obtain⟨rfl,rfl⟩:=one h;rw[hc] at hq;obtain rfl:=Option.some.inj hq;exact hf.2.2 _ o p b' hm hc (hxt b' hxb)}
theorem b1F{μ:d5}:∀{ks:List CK} {cs ds:List LV} {vs:List Value},x6 ks cs=true->x6 ks ds=true->o6 μ cs vs->o6 μ ds vs->cs=ds
 |[],[],[],_,_,_,_,_=>rfl
 |k::ks,c::cs,e::ds,vs,h1,h2,⟨v,r,e1,rv,rr⟩,⟨u,r',e2,ru,rr'⟩=>by
  subst e1;cases e2;simp only[x6,Bool.and_eq_true] at h1 h2;have h3:=b1F h1.2 h2.2 rr rr';have h4:c=e:=by
   have a:=h1.1;have b:=h2.1;cases k<;>cases c<;>simp only[L8,Bool.false_eq_true,and_false,false_and,decide_eq_true_eq] at a<;>cases e<;>simp only[L8,Bool.false_eq_true,and_false,false_and,decide_eq_true_eq] at b<;>simp only[i4] at rv ru<;>rw[rv] at ru<;>simp_all
  rw[h3,h4]
 |[],_::_,_,_,h,_,_,_=>by simp[x6] at h
 |[],[],_::_,_,_,h,_,_=>by simp[x6] at h
 |_::_,[],_,_,h,_,_,_=>by simp[x6] at h
 |_::_,_::_,[],_,_,h,_,_=>by simp[x6] at h
theorem c1H{μ:d5}{ag:Bool}{ks:List CK}{x y:LV}{v:Value}(hx:D9 ag ks x=true)(hy:D9 ag ks y=true)(rx:i4 μ x v)(ry:i4 μ y v):x=y:=by
 rcases a1i hx with⟨ha,cs,rfl,hc⟩|⟨ha,hne,hc⟩<;>rcases a1i hy with⟨hb,ds,rfl,hd⟩|⟨hb,hne',hd⟩
 ·obtain⟨vs,rfl,r1⟩:=rx
  obtain⟨us,e,r2⟩:=ry;cases e;rw[b1F hc hd r1 r2]
 ·rw[ha] at hb;cases hb
 ·rw[ha] at hb;cases hb
 ·exact(List.cons.inj (b1F (vs:=[v]) hc hd ⟨v,[],rfl,rx,rfl⟩ ⟨v,[],rfl,ry,rfl⟩)).1
def b1j(P:Program)(H:d7)(t:TypeId)(d:Nat)(m k:LV):Option u9:=
 match F7 P t,m with
 |some (.map kt _),.map c=>
  match U5 P kt,H.at d with
  |some (ag,ks),some (.mit c' ag' ks' es _ rest)=>if ag=ag' /\ks=ks' /\c=c' then some ⟨D9 ag ks k=true/\∀e∈rest,D9 ag ks e.1=true/\B0 k e.1=false,.tup [],[d],[(d,some (.mit c ag ks (a1d k es) none rest))]⟩ else none
  |_,_=>none
 |_,_=>none
theorem c0w{H:d7}{t ty:TypeId}{d:Nat}{ats:Array TypeId}{m k:LV}{vm vk:Value}{e:u9}{μ:d5}{w:World}(h:b1j P H t d m k=some e)(hat:ats[0]?=some t)(hob:e.ob)(hm:i4 μ m vm)(hk:i4 μ k vk)
  (hp:D2 μ (H.pre e.foot) w):a4R P (Builtin.delete_ ats ty #[vm,vk]) μ w (H.pre e.foot) e.up e.v:=by
 unfold b1j at h;split at h<;>try cases h
 rename_i kt el c hd;split at h<;>try cases h
 rename_i ag ks c' ag' ks' es cur rest hsh ho;split at h<;>cases h;rename_i hc;obtain⟨rfl,rfl,rfl⟩:=hc;obtain⟨h1,h2⟩:=hob;obtain⟨q0,hq0,rfl⟩:=hm;have hmm:(d,LO.mit c ag ks es cur rest)∈H.pre [d]:=d7.mem_pre.2 ⟨by simp,ho⟩;obtain⟨p,hpc⟩:∃p,μ d=some p:=by
  rcases hp.obj' _ _ hmm with⟨_,h⟩|⟨p,h,_⟩
  ·exact h.elim
  ·exact⟨p,h⟩
 obtain⟨hoff,q1,si1,se1,st1,hq1,hit⟩:=hp.placed hmm hpc;obtain⟨q,si,se,st,en,cl,RS,k1,k2,k3,k4,k5,k6,k7,k8,k9,k10,k11,k12⟩:=hp.xok _ _ p hmm hpc;rw[k1] at hq0;obtain rfl:=Option.some.inj hq0;have hxb:s9 μ w p (.mit c ag ks es cur rest) q.rb:=⟨q,k1,rfl⟩
 have hpb:p.rb≠q.rb:=(hp.xsep _ _ p _ _ _ p hmm hpc hxb hmm hpc).1;have hlt:q.rb<w.heap.size:=(Array.getElem?_eq_some_iff.1 k3).1;have hck:=(X_ (w:=w) hsh h1 h1 hk hk).2;have hg:(getObj q.rb).run P w=.ok (.map en cl) w:=by simp[getObj,Sem.run,k3]
 have hset:∀o,(setObj q.rb o).run P w=.ok () (A7 w q.rb o):=by intro o;simp[setObj,Sem.run,k3,A7]
 have hf:=a2f (w:=w) hsh h1 hk k4 k7;have fin:∀(en2:Array MapEntry) (es2:List (LV×LV)),F2 (U1 μ) es2 en2.toList->(∀x∈es2,x∈es)->en2.toList.Sublist en.toList->(en2.toList.filter λe=>!se.contains e.born)=(en.toList.filter λe=>!se.contains e.born)->
   y0 μ w (H.pre [d]) [(d,some (.mit c ag ks es2 none rest))] μ (A7 w q.rb (.map en2 cl)):=by
  intro en2 es2 g1 g2 g3 g4;refine y0.ownX hp hpc hmm rfl hxb ⟨hoff,q1,si1,se1,st1,hq1,hit⟩ ⟨q,si,se,st,en2,cl,RS,k1,?_,?_,g1,(g3.map _).nodup k5,λx hx=>k6 x (g3.subset hx),λx hx=>k7 x (g2 x hx),λx hx=>k8 x (g3.subset hx),k9,by rw[g4];exact k10,k11,λx hx=>by cases hx⟩ λb hb=>hb
  ·rw[Q6,if_neg (λe=>hpb e.1.symm)];exact k2
  ·rw[Q6,if_pos ⟨rfl,hlt⟩]
 cases ha:B4 k es with
 |none=>
  rw[ha] at hf;simp only[Option.bind_none] at hf;refine⟨.tuple #[],A7 w q.rb (.map en cl),μ,?_,⟨_,rfl,rfl⟩,?_⟩
  ·simp[Builtin.delete_,hat,w7 hd,hck,hg,hf,hset]
  ·rw[a3z,ha];exact fin en es k4 (λ_ h=>h) (List.Sublist.refl _) rfl
 |some j=>
  obtain⟨hjlt,x,hx,hxe⟩:=a0C ha;obtain⟨b,hb,hab⟩:=k4.get j x hx;rw[ha] at hf;simp only[Option.bind_some,hb,Option.map_some] at hf;have her:(en.eraseIdxIfInBounds j).toList=en.toList.eraseIdx j:=by
   have hl:j<en.size:=by have:=(List.getElem?_eq_some_iff.1 hb).1;simpa using this
   simp[Array.eraseIdxIfInBounds,hl]
  have hseen:se.contains b.born=true:=by
   cases hs:se.contains b.born with
   |true=>rfl
   |false=>
    exfalso;have hbm:b∈RS:=k10.mem_iff.2 (List.mem_filter.2 ⟨List.mem_of_getElem? hb,by simp only[Bool.not_eq_true'];exact hs⟩);obtain⟨i,hi⟩:=List.mem_iff_getElem?.1 hbm;obtain⟨y,hy⟩:∃y,rest[i]?=some y:=by
     have:=k11.len;have:=(List.getElem?_eq_some_iff.1 hi).1;exact⟨_,List.getElem?_eq_getElem (by omega)⟩
    have hyr:=k11.get1 hy hi;obtain⟨g1,g2⟩:=h2 y (List.mem_of_getElem? hy);have e1:k=x.1:=b5k h1 (k7 x (List.mem_of_getElem? hx)) hxe;have e2:x.1=y.1:=c1H (μ:=μ) (k7 x (List.mem_of_getElem? hx)) g1 hab.1.rel hyr.1.rel;rw[<-e2,<-e1,b5l h1] at g2;cases g2
  refine⟨.tuple #[],A7 w q.rb (.map (en.eraseIdxIfInBounds j) cl),μ,?_,⟨_,rfl,rfl⟩,?_⟩
  ·simp[Builtin.delete_,hat,w7 hd,hck,hg,hf,hset]
  ·rw[a3z,ha]
   refine fin _ (es.eraseIdx j) (by rw[her];exact k4.erase j) (λx hx=>(List.eraseIdx_sublist _ _).subset hx) (by rw[her];exact List.eraseIdx_sublist _ _) ?_;rw[her];have:∀(l:List MapEntry) (j:Nat),l[j]?=some b->(l.eraseIdx j).filter (λe=>!se.contains e.born)=l.filter (λe=>!se.contains e.born):=by
    intro l
    induction l with
    |nil=>intro j h;simp at h
    |cons a l ih=>
     intro j h;cases j with
     |zero=>
      simp at h;subst h;rw[List.eraseIdx_cons_zero,List.filter_cons,if_neg (by rw[hseen];decide)]
     |succ j=>
      rw[List.eraseIdx_cons_succ,List.filter_cons,List.filter_cons,ih j (by simpa using h)]
   exact this _ j hb
inductive a8o where
 |vwn (c n:Nat) (ag:Bool) (ks:List CK)
 |vwo (c i:Nat) (es:List (LV×LV))
 |vwc (c:Nat)
 |vww (c:Nat) (W:Nat->Option (List (LV×LV)))
 |mitz (d:Nat)
 |mitn (d:Nat)
 |p (t:b0K)
def xst(new:Nat)(H:d7):a8o->Option (Prop×List Nat×i9)
 | .vwn c n ag ks=>
  match H.at c with
  |some (.var cs)=>some (n<=cs.length/\cs.drop (cs.length - n)=List.replicate n .nilmap,[c],[(c,some (.vw (cs.take (cs.length - n)) ag ks n (λ_=>none) []))])
  |_=>none
 | .vwo c i es=>
  match H.at c with
  |some (.vw cs ag ks n W [])=>some (i<n/\W i=some es,[c],[(c,some (.vw cs ag ks n W [(i,new)])),(new,some (.map ag ks es))])
  |_=>none
 | .vwc c=>
  match H.at c with
  |some (.vw cs ag ks n W [(i,s)])=>
   match H.at s with
   |some (.map ag' ks' es)=>some (i<n/\ag' =ag/\ks' =ks/\c≠s,[c,s],[(c,some (.vw cs ag ks n (λm=>if m=i then some es else W m) [])),(s,none)])
   |_=>none
  |_=>none
 | .vww c W' =>
  match H.at c with
  |some (.vw cs ag ks n W opn)=>some (∀i,i<n->W i=W' i,[c],[(c,some (.vw cs ag ks n W' opn))])
  |_=>none
 | .mitz d=>
  match H.at d with
  |some (.mit c ag ks es _ _)=>some (c≠d,[d],[(d,none),(c,some (.map ag ks es))])
  |_=>none
 | .mitn d=>
  match H.at d with
  |some (.mit c ag ks es _ rest)=>some (True,[d],[(d,some (.mit c ag ks es none rest))])
  |_=>none
 | .p t=>pst new H t
theorem c7x{new:Nat}{H:d7}{t:a8o}{q:Prop}{foot:List Nat}{up:i9}{μ:d5}{w:World}(h:xst new H t=some (q,foot,up))(hq:q)(hp:D2 μ (H.pre foot) w)(hn:μ new=none)
  (hv:∀c o,(c,o)∈H.pre foot->¬o.void->∃p,μ c=some p):∃μ',a8k μ w (H.pre foot) up μ' :=by
 cases t with
 |p t=>exact c4N h hq hp hn hv
 |vwn c n ag ks=>
  dsimp only[xst] at h;split at h<;>cases h;rename_i cs ho;obtain⟨hn1,hn2⟩:=hq;have hm:(c,LO.var cs)∈H.pre [c]:=d7.mem_pre.2 ⟨by simp,ho⟩;obtain⟨p,hpc⟩:=hv _ _ hm id;obtain⟨h1,h2,cells,E,fr,hb,h4,h5,vs,h6,h7,h8⟩:=hp.placed hm hpc;have hvl:=h6.length;have hlen:(cs.take (cs.length - n)).length=cs.length - n:=by simp
  have cell:∀i,i<n->cells[p.off+(cs.take (cs.length - n)).length+i]?=some (.map none):=by
   intro i hi;rw[hlen];have hx:cs[cs.length - n+i]?=some .nilmap:=by
    have:(cs.drop (cs.length - n))[i]?=some .nilmap:=by rw[hn2,List.getElem?_replicate,if_pos hi]
    rwa [List.getElem?_drop] at this
   obtain⟨v,hv1,hv2⟩:=h6.get hx;have:=h7 _ _ hv1;simp only[i4] at hv2;rw[hv2] at this;rw[Nat.add_assoc];exact this
  have one:∀{e r},(e,some r)∈([(c,some (LO.vw (cs.take (cs.length - n)) ag ks n (λ_=>none) []))]:i9)->e=c/\r=.vw (cs.take (cs.length - n)) ag ks n (λ_=>none) []:=λh=>by simpa using h
  have tc:I5 μ w (H.pre [c]) [(c,some (LO.vw (cs.take (cs.length - n)) ag ks n (λ_=>none) []))] p.rb:=⟨c,_,p,hm,rfl,by simp[i9.has],hpc,.inl rfl⟩
  have nox:∀b,¬s9 μ w p (.vw (cs.take (cs.length - n)) ag ks n (λ_=>none) []) b:=by
   rintro b ⟨cells',E',fr',i,g1,g2,g3,_⟩;rw[hb] at g1;cases g1;rw[cell i g2] at g3;cases g3
  refine⟨μ,D7.refl μ,rfl,λ_ _ h=> .inl h,λe r h=>?_,λe r e' r' p p' h h' hne=>absurd ((one h).1.trans (one h').1.symm) hne,λe r p' b e' r' p2 h hp' hx=>?_⟩
  ·obtain⟨rfl,rfl⟩:=one h
   refine⟨p,hpc,⟨h1,by rw[hlen];omega,cells,E,fr,hb,h4,h5,⟨vs.take (cs.length - n),h6.take _,h7.take _,λv hv=>h8 v (List.mem_of_mem_take hv)⟩,λi hi=>⟨none,cell i hi,λs hs=>by cases hs⟩⟩,
    ⟨cells,E,fr,hb,λi hi=> .inr (.inl ⟨rfl,cell i hi⟩),λi j b hi hj g1=>by rw[cell i hi] at g1;cases g1⟩,tc,λb hx=>absurd hx (nox b)⟩
  ·obtain⟨rfl,rfl⟩:=one h
   rw[hpc] at hp';obtain rfl:=Option.some.inj hp';exact absurd hx (nox b)
 |vwo c i es=>
  dsimp only[xst] at h;split at h<;>cases h;rename_i cs ag ks n W ho;obtain⟨hi,hW⟩:=hq;have hm:(c,LO.vw cs ag ks n W [])∈H.pre [c]:=d7.mem_pre.2 ⟨by simp,ho⟩;obtain⟨p,hpc⟩:=hv _ _ hm id;obtain⟨h1,h2,cells,E,fr,hb,h4,h5,⟨vs,h6,h7⟩,h8⟩:=hp.placed hm hpc;obtain⟨cells',E',fr',hb',hw,hinj⟩:=hp.xok _ _ p hm hpc;rw[hb] at hb';cases hb';obtain⟨b,hcell,hmap⟩:∃b,cells[p.off+cs.length+i]?=some (.map (some b))/\M_ μ w.heap[b]? ag ks es:=by
   rcases hw i hi with⟨s,hs⟩|⟨g1,_⟩|⟨b,es',g1,g2,g3⟩
   ·cases hs
   ·rw[hW] at g1;cases g1
   ·rw[hW] at g2;cases g2;exact⟨b,g1,g3⟩
  have hxb:s9 μ w p (.vw cs ag ks n W []) b:=⟨cells,E,fr,i,hb,hi,hcell,λ⟨s,hs⟩=>by cases hs⟩
  have hcn:c≠new:=λe=>by subst e;rw[hn] at hpc;cases hpc
  have hset:(μ.set new ⟨b,0,0,0⟩) c=some p:=by rw[d5.set_at,if_neg hcn];exact hpc
  have hset' :(μ.set new ⟨b,0,0,0⟩) new=some ⟨b,0,0,0⟩:=d5.set_self;have up2:∀{e r},(e,some r)∈([(c,some (LO.vw cs ag ks n W [(i,new)])),(new,some (.map ag ks es))]:i9)->(e=c/\r=.vw cs ag ks n W [(i,new)])\/(e=new/\r=.map ag ks es):=λh=>by simpa using h
  have tx:∀b',s9 μ w p (.vw cs ag ks n W []) b' ->I5 μ w (H.pre [c]) [(c,some (LO.vw cs ag ks n W [(i,new)])),(new,some (.map ag ks es))] b' :=λb' hx=>⟨c,_,p,hm,rfl,by simp[i9.has],hpc,.inr hx⟩
  have xold:∀b',s9 (μ.set new ⟨b,0,0,0⟩) w p (.vw cs ag ks n W [(i,new)]) b' ->s9 μ w p (.vw cs ag ks n W []) b' /\b' ≠b:=by
   rintro b' ⟨cells2,E2,fr2,k,g1,g2,g3,g4⟩;rw[hb] at g1;cases g1;refine⟨⟨cells,E,fr,k,hb,g2,g3,λ⟨s,hs⟩=>by cases hs⟩,λe=>g4 ?_⟩;rw[e] at g3;have:=hinj k i b g2 hi g3 hcell;subst this;exact⟨new,List.mem_singleton.2 rfl⟩
  have hpb:p.rb≠b:=(hp.xsep c _ p b c _ p hm hpc hxb hm hpc).1;refine⟨μ.set new ⟨b,0,0,0⟩,d5.ext_set hn,rfl,λd r hr=>?_,λe r h=>?_,λe r e' r' p1 p2 h h' hne hp1 hp2=>?_,λe r p1 b' e' r' p2 h hp1 hx h' hp2=>?_⟩
  ·rw[d5.set_at] at hr
   split at hr
   ·rename_i e;subst e;exact .inr ⟨by simp[i9.has],hn⟩
   ·exact .inl hr
  ·rcases up2 h with⟨rfl,rfl⟩|⟨rfl,rfl⟩
   ·refine⟨p,hset,⟨h1,h2,cells,E,fr,hb,h4,h5,⟨vs,h6.mono (d5.ext_set hn),h7⟩,λk hk=>?_⟩,⟨cells,E,fr,hb,λk hk=>?_,hinj⟩,⟨e,_,p,hm,rfl,by simp[i9.has],hpc,.inl rfl⟩,λb' hx=>tx b' (xold b' hx).1⟩
    ·obtain⟨ob,k1,k2⟩:=h8 k hk
     refine⟨ob,k1,λs hs=>?_⟩;simp only[List.mem_singleton,Prod.mk.injEq] at hs;obtain⟨rfl,rfl⟩:=hs;rw[hcell] at k1;cases k1;exact⟨_,hset',rfl⟩
    ·by_cases hki:k=i
     ·subst hki;exact .inl ⟨new,List.mem_singleton.2 rfl⟩
     ·rcases hw k hk with⟨s,hs⟩|g|⟨b2,es2,g1,g2,g3⟩
      ·cases hs
      ·exact .inr (.inl g)
      ·exact .inr (.inr ⟨b2,es2,g1,g2,g3.mono (λ_ _ x=>x)⟩)
   ·exact⟨_,hset',hmap.mono (λ_ _ x=>x),trivial,tx b hxb,λb' hx=>hx.elim⟩
  ·rcases up2 h with⟨rfl,rfl⟩|⟨rfl,rfl⟩<;>rcases up2 h' with⟨rfl,rfl⟩|⟨rfl,rfl⟩
   ·exact absurd rfl hne
   ·rw[hset] at hp1;rw[hset'] at hp2;cases hp1;cases hp2;exact hpb
   ·rw[hset'] at hp1;rw[hset] at hp2;cases hp1;cases hp2;exact hpb.symm
   ·exact absurd rfl hne
  ·rcases up2 h with⟨rfl,rfl⟩|⟨rfl,rfl⟩
   ·rw[hset] at hp1;cases hp1
    obtain⟨x1,x2⟩:=xold b' hx;rcases up2 h' with⟨rfl,rfl⟩|⟨rfl,rfl⟩
    ·rw[hset] at hp2;cases hp2
     exact⟨(hp.xsep _ _ p b' _ _ p hm hpc x1 hm hpc).1,λhne=>absurd rfl hne⟩
    ·rw[hset'] at hp2;cases hp2
     exact⟨x2.symm,λ_ hx' =>hx'.elim⟩
   ·exact hx.elim
 |vwc c=>
  dsimp only[xst] at h;split at h<;>try cases h
  rename_i cs ag ks n W i s ho;split at h<;>cases h;rename_i ag' ks' es hs;obtain⟨hi,rfl,rfl,hcs⟩:=hq;have hm:(c,LO.vw cs ag' ks' n W [(i,s)])∈H.pre [c,s]:=d7.mem_pre.2 ⟨by simp,ho⟩;have hms:(s,LO.map ag' ks' es)∈H.pre [c,s]:=d7.mem_pre.2 ⟨by simp,hs⟩;obtain⟨p,hpc⟩:=hv _ _ hm id;obtain⟨q,hqs⟩:=hv _ _ hms id;obtain⟨h1,h2,cells,E,fr,hb,h4,h5,hvs,h8⟩:=hp.placed hm hpc;obtain⟨cells',E',fr',hb',hw,hinj⟩:=hp.xok _ _ p hm hpc;rw[hb] at hb';cases hb';have hmap:=hp.placed hms hqs;have hcell:cells[p.off+cs.length+i]?=some (.map (some q.rb)):=by
   obtain⟨ob,k1,k2⟩:=h8 i hi;obtain⟨q',g1,rfl⟩:=k2 s (List.mem_singleton.2 rfl);rw[hqs] at g1;cases g1;exact k1
  have hne:p.rb≠q.rb:=hp.sep _ _ _ _ p q hm hms hcs (.inl rfl) hpc hqs;have out1:∀k,V7 [(i,s)] k↔k=i:=λk=>⟨λ⟨s',hs'⟩=>by simp at hs';exact hs'.1,λe=>⟨s,by simp[e]⟩⟩
  have xnew:∀b,s9 μ w p (.vw cs ag' ks' n (λm=>if m=i then some es else W m) []) b->b=q.rb\/s9 μ w p (.vw cs ag' ks' n W [(i,s)]) b:=by
   rintro b ⟨cells2,E2,fr2,k,g1,g2,g3,_⟩;rw[hb] at g1;cases g1;by_cases hki:k=i
   ·subst hki;rw[hcell] at g3;cases g3;exact .inl rfl
   ·exact .inr ⟨cells,E,fr,k,hb,g2,g3,λh=>hki ((out1 k).1 h)⟩
  have one:∀{e r},(e,some r)∈([(c,some (LO.vw cs ag' ks' n (λm=>if m=i then some es else W m) [])),(s,none)]:i9)->e=c/\r=.vw cs ag' ks' n (λm=>if m=i then some es else W m) []:=λh=>by simpa using h
  refine⟨μ,D7.refl μ,rfl,λ_ _ h=> .inl h,λe r h=>?_,λe r e' r' p p' h h' hne=>absurd ((one h).1.trans (one h').1.symm) hne,λe r p1 b e' r' p2 h hp1 hx h' hp2=>?_⟩
  ·obtain⟨rfl,rfl⟩:=one h
   refine⟨p,hpc,⟨h1,h2,cells,E,fr,hb,h4,h5,hvs,λk hk=>?_⟩,⟨cells,E,fr,hb,λk hk=>?_,hinj⟩,⟨e,_,p,hm,rfl,by simp[i9.has],hpc,.inl rfl⟩,λb hx=>?_⟩
   ·obtain⟨ob,k1,_⟩:=h8 k hk
    exact⟨ob,k1,λs hs=>by cases hs⟩
   ·by_cases hki:k=i
    ·subst hki;exact .inr (.inr ⟨q.rb,es,hcell,if_pos rfl,hmap⟩)
    ·rcases hw k hk with g|⟨g1,g2⟩|⟨b2,es2,g1,g2,g3⟩
     ·exact absurd ((out1 k).1 g) hki
     ·exact .inr (.inl ⟨(if_neg hki).trans g1,g2⟩)
     ·exact .inr (.inr ⟨b2,es2,g1,(if_neg hki).trans g2,g3⟩)
   ·rcases xnew b hx with rfl|hx
    ·exact⟨s,_,q,hms,rfl,by simp[i9.has],hqs,.inl rfl⟩
    ·exact⟨e,_,p,hm,rfl,by simp[i9.has],hpc,.inr hx⟩
  ·obtain⟨rfl,rfl⟩:=one h
   obtain⟨rfl,rfl⟩:=one h';rw[hpc] at hp1 hp2;cases hp1;cases hp2;refine⟨?_,λhne=>absurd rfl hne⟩;rcases xnew b hx with rfl|hx
   ·exact hne
   ·exact(hp.xsep _ _ p b _ _ p hm hpc hx hm hpc).1
 |vww c W' =>
  dsimp only[xst] at h;split at h<;>cases h;rename_i cs ag ks n W opn ho;have hm:(c,LO.vw cs ag ks n W opn)∈H.pre [c]:=d7.mem_pre.2 ⟨by simp,ho⟩;obtain⟨p,hpc⟩:=hv _ _ hm id;have hok:=hp.placed hm hpc;obtain⟨cells,E,fr,hb,hw,hinj⟩:=hp.xok _ _ p hm hpc;have one:∀{e r},(e,some r)∈([(c,some (LO.vw cs ag ks n W' opn))]:i9)->e=c/\r=.vw cs ag ks n W' opn:=λh=>by simpa using h
  refine⟨μ,D7.refl μ,rfl,λ_ _ h=> .inl h,λe r h=>?_,λe r e' r' p p' h h' hne=>absurd ((one h).1.trans (one h').1.symm) hne,λe r p1 b e' r' p2 h hp1 hx h' hp2=>?_⟩
  ·obtain⟨rfl,rfl⟩:=one h
   exact⟨p,hpc,hok,⟨cells,E,fr,hb,λi hi=>by rw[<-hq i hi];exact hw i hi,hinj⟩,⟨e,_,p,hm,rfl,by simp[i9.has],hpc,.inl rfl⟩,λb hx=>⟨e,_,p,hm,rfl,by simp[i9.has],hpc,.inr hx⟩⟩
  ·obtain⟨rfl,rfl⟩:=one h
   obtain⟨rfl,rfl⟩:=one h';rw[hpc] at hp1 hp2;cases hp1;cases hp2;exact⟨(hp.xsep _ _ p b _ _ p hm hpc hx hm hpc).1,λhne=>absurd rfl hne⟩
 |mitz d=>
  dsimp only[xst] at h;split at h<;>cases h;rename_i c ag ks es cur rest ho;have hm:(d,LO.mit c ag ks es cur rest)∈H.pre [d]:=d7.mem_pre.2 ⟨by simp,ho⟩;obtain⟨p,hpc⟩:=hv _ _ hm id;obtain⟨q,si,se,st,en,cl,RS,k1,k2,k3,k4,k5,k6,k7,_⟩:=hp.xok _ _ p hm hpc;have one:∀{e r},(e,some r)∈([(d,none),(c,some (LO.map ag ks es))]:i9)->e=c/\r=.map ag ks es:=λh=>by simpa using h
  refine⟨μ,D7.refl μ,rfl,λ_ _ h=> .inl h,λe r h=>?_,λe r e' r' p p' h h' hne=>absurd ((one h).1.trans (one h').1.symm) hne,λe r p1 b e' r' p2 h hp1 hx h' hp2=>?_⟩
  ·obtain⟨rfl,rfl⟩:=one h
   exact⟨q,k1,⟨⟨en,cl,k3,k4,k5,k6⟩,k7⟩,trivial,⟨d,_,p,hm,rfl,by simp[i9.has],hpc,.inr ⟨q,k1,rfl⟩⟩,λb hx=>hx.elim⟩
  ·obtain⟨rfl,rfl⟩:=one h
   exact hx.elim
 |mitn d=>
  dsimp only[xst] at h;split at h<;>cases h;rename_i c ag ks es cur rest ho;have hm:(d,LO.mit c ag ks es cur rest)∈H.pre [d]:=d7.mem_pre.2 ⟨by simp,ho⟩;obtain⟨p,hpc⟩:=hv _ _ hm id;have hok:=hp.placed hm hpc;obtain⟨q,si,se,st,en,cl,RS,k1,k2,k3,k4,k5,k6,k7,k8,k9,k10,k11,_⟩:=hp.xok _ _ p hm hpc;have one:∀{e r},(e,some r)∈([(d,some (LO.mit c ag ks es none rest))]:i9)->e=d/\r=.mit c ag ks es none rest:=λh=>by simpa using h
  refine⟨μ,D7.refl μ,rfl,λ_ _ h=> .inl h,λe r h=>?_,λe r e' r' p p' h h' hne=>absurd ((one h).1.trans (one h').1.symm) hne,λe r p1 b e' r' p2 h hp1 hx h' hp2=>?_⟩
  ·obtain⟨rfl,rfl⟩:=one h
   exact⟨p,hpc,hok,⟨q,si,se,st,en,cl,RS,k1,k2,k3,k4,k5,k6,k7,k8,k9,k10,k11,λx hx=>by cases hx⟩,⟨e,_,p,hm,rfl,by simp[i9.has],hpc,.inl rfl⟩,λb hx=>⟨e,_,p,hm,rfl,by simp[i9.has],hpc,.inr hx⟩⟩
  ·obtain⟨rfl,rfl⟩:=one h
   obtain⟨rfl,rfl⟩:=one h';rw[hpc] at hp1 hp2;cases hp1;cases hp2;exact⟨(hp.xsep _ _ p b _ _ p hm hpc hx hm hpc).1,λhne=>absurd rfl hne⟩
end Go.Cn
