import Derived.Test.YtddgjfclpknkcaaGreatDoorCnL
namespace Go.Cn
open Go
section
variable {P:Program}
def a4Y(take:Prop)[Decidable take](src:List LV)(old:LV):LV:=
 match src,old with
 |[.int k a],.int k' o=>if k=k' then .int k' (if take then a else o) else .any
 |_,_=> .any
def a1c(j d n:Nat)(g:Nat->List LV):Nat->List LV->List LV
 |_,[]=>[]
 |m,old::r=>(if j<=m/\m<j+d then a4Y (m - j<n) (g (m - j)) old else old)::a1c j d n g (m+1) r
def b1i(P:Program)(H:d7)(dt:TypeId)(d x:LV):Option u9:=
 match F7 P dt,d with
 |some (.slice el),.sl c i j true dl _=>
  match I6 P el,Z7 H 1 x,H.at c,x with
  |some 1,some (q,n,g,ft),some (.var cs),.str _=>
   some ⟨q/\i=0/\j+dl<=cs.length/\(a1c j dl n g 0 cs).all LV.isCell=true,.int .i64 ((min n dl:Nat):Int),c::ft,[(c,some (.var (a1c j dl n g 0 cs)))]⟩
  |_,_,_,_=>none
 |_,_=>none
theorem a4Z(j d n:Nat)(g:Nat->List LV):∀(m:Nat) (cs:List LV),(a1c j d n g m cs).length=cs.length
 |_,[]=>rfl
 |m,_::r=>by simp[a1c,a4Z j d n g (m+1) r]
theorem b02(j d n:Nat)(g:Nat->List LV):∀(m:Nat) (cs:List LV) (k:Nat) (old:LV),cs[k]?=some old->
  (a1c j d n g m cs)[k]?=some (if j<=m+k/\m+k<j+d then a4Y (m+k - j<n) (g (m+k - j)) old else old)
 |_,[],k,_,h=>by simp at h
 |m,c::r,0,old,h=>by simp at h;subst h;simp[a1c]
 |m,c::r,k+1,old,h=>by
  simp at h;have:=b02 j d n g (m+1) r k old h;simp only[a1c,List.getElem?_cons_succ,this];rw[show m+1+k=m+(k+1) from by omega]
theorem c7a{H:d7}{s:Nat}{l:List UInt8}{q:Prop}{n k:Nat}{g:Nat->List LV}{ft:List Nat}{μ:d5}{w:World}{vx:Value}(h:Z7 H s (.str l)=some (q,n,g,ft))(hq:q)(hx:i4 μ (.str l) vx)(hk:k<=n):
  ∃cells,(Builtin.firstCells s k vx).run P w=.ok cells w/\V8 μ g s k cells:=by
 simp only[Z7] at h;cases h;obtain rfl:=hq;simp only[i4] at hx;subst hx;refine⟨((l.take k).map λb=>Value.int .u8 b.toNat).toArray,?_,by simp;omega,λq hq=>?_⟩
 ·simp only[Builtin.firstCells,Sem.run_pure]
  congr 1;apply Array.ext';simp[ByteArray.extract,ByteArray.copySlice]
 ·have hql:q<l.length:=by omega
  refine⟨[.int .u8 (l.getD q 0).toNat],⟨_,[],rfl,rfl,rfl⟩,rfl,?_,by simp[Value.oneCell']⟩;intro j v hj;cases j with
  |zero=>
   simp at hj;subst hj;simp[hql,hq]
  |succ j=>simp at hj
theorem c0v{H:d7}{dt ty:TypeId}{ats:Array TypeId}{d x:LV}{vd vx:Value}{e:u9}{μ:d5}{w:World}(h:b1i P H dt d x=some e)(hat:ats[0]?=some dt)(hob:e.ob)(hd:i4 μ d vd)(hx:i4 μ x vx)
  (hp:M6 μ (H.pre e.foot) w):w5 P (Builtin.copy_ ats ty #[vd,vx]) μ w (H.pre e.foot) e.up e.v:=by
 unfold b1i at h;split at h<;>try cases h
 rename_i el c i j dl cap htd;split at h<;>cases h;rename_i q n g ft cs l_ hsz ho hsrc;obtain⟨hq,rfl,hjd,hall⟩:=hob;have hpc0:(c,LO.var cs)∈H.pre (c::ft):=d7.mem_pre.2 ⟨List.mem_cons_self,ho⟩;have hin:∀c' o',c' ∈ft->H.at c' =some o' ->(c',o')∈H.pre (c::ft):=λ_ _ hc ho=>d7.mem_pre.2 ⟨List.mem_cons_of_mem _ hc,ho⟩;obtain⟨c0,_,h2,_⟩:=u_ (P:=P) hsrc hq hx hp hin;obtain⟨cells,h1,h3⟩:=c7a (P:=P) (k:=min n dl) hsrc hq hx (Nat.min_le_left _ _);obtain⟨p,a,rc,hpc,rfl,hlen,hcap,hsp,hbl,haddr,hinn⟩:=hd;have hpc' :=hpc;have hok:=hp.placed hpc0 hpc;have hlt:=hok.lt;obtain⟨k1,k2,bcells,E,fr,hbk,hbsz,hfr,vs,hr,hl,hone⟩:=hok;have hvl:=hr.length;have hcl:cells.size=min n dl:=by have:=h3.1;omega
 have hcone:=h3.one (by omega);by_cases hm:min n dl=0
 ·
  have hc0:cells=#[]:=by apply Array.eq_empty_of_size_eq_zero;omega
  subst hc0;have hsame:o6 μ (a1c j dl n g 0 cs) vs:=by
   refine o6.of_get (by rw[a4Z];omega) (λk y v hy hv=>?_);obtain⟨old,ho',hro⟩:=hr.get' hv;have hg:=b02 j dl n g 0 cs k old ho';rw[hg] at hy;have hnd:¬(j<=0+k/\0+k<j+dl)\/n=0:=by omega
   by_cases hc:j<=0+k/\0+k<j+dl
   ·rw[if_pos hc] at hy
    obtain rfl:=Option.some.inj hy;have hn0:n=0:=by omega
    have hcell:(a4Y (0+k - j<n) (g (0+k - j)) old).isCell=true:=by
     have:=List.all_eq_true.1 hall _ (List.mem_of_getElem? (by rw[hg,if_pos hc]));exact this
    unfold a4Y at hcell⊢;split at hcell<;>simp only[LV.isCell,Bool.false_eq_true] at hcell;rename_i k1 a1 k2 o1 e1;have hkk:k1=k2:=by
     by_cases hkk:k1=k2
     ·exact hkk
     ·rw[if_neg hkk] at hcell;simp[LV.isCell] at hcell
    subst hkk;simp only[if_true];rw[if_neg (by omega)];exact hro
   ·rw[if_neg hc] at hy
    obtain rfl:=Option.some.inj hy;exact hro
  refine⟨.int .i64 ((min n dl:Nat):Int),A7 w p.rb (.cells bcells E fr),μ,?_,by simp[i4],?_⟩
  ·have hst:∀a:Addr,(storeCells a ([]:List Value)).run P w=.ok () w:=λa=>by simp[storeCells]
   have hw:A7 w p.rb (.cells bcells E fr)=w:=by
    unfold A7;cases w;congr 1;apply Array.ext_getElem?;intro k;simp only at hbk hlt;rw[Array.getElem?_setIfInBounds];by_cases hk:p.rb=k
    ·subst hk;rw[hbk];simp[hlt]
    ·simp[hk]
   rw[hw];simp only[Builtin.copy_,hat,List.getElem?_toArray,List.getElem?_cons_zero,List.getElem?_cons_succ,Sem.run_bind,w7 htd,Result.andThen_ok,h2,K9 hsz];rw[show Nat.min n dl=min n dl from rfl,h1];simp[hst,goInt]
  ·refine A9.put hpc hpc0 rfl hlt ⟨k1,by rw[a4Z];exact k2,bcells,E,fr,rfl,hbsz,hfr,vs,hsame,hl,hone⟩
 ·have ha:=haddr (by omega)
  subst ha;have hst:=a59 (P:=P) (rb:=p.rb) (o:=p.off+j) (E:=E) (fr:=fr) cells.toList 0 bcells w hbk hfr (by simp;omega) hcone;simp only[Nat.add_zero] at hst;refine⟨.int .i64 ((min n dl:Nat):Int),A7 w p.rb (.cells (O1 bcells (p.off+j) cells.toList) E fr),μ,?_,by simp[i4],?_⟩
  ·simp only[Builtin.copy_,hat,List.getElem?_toArray,List.getElem?_cons_zero,List.getElem?_cons_succ,Sem.run_bind,w7 htd,Result.andThen_ok,h2,K9 hsz]
   rw[show Nat.min n dl=min n dl from rfl,h1];simp only[Result.andThen_ok,Pl.addr,Nat.zero_mul,Nat.add_zero,hst,Sem.run_bind,Sem.run_pure,goInt]
  ·have hcl' :cells.toList.length=min n dl:=by simpa using hcl
   refine A9.put hpc hpc0 rfl hlt ⟨k1,by rw[a4Z];exact k2,_,E,fr,rfl,by rw[a0y];exact hbsz,by rw[a0y];exact hfr,
    vs.take j++cells.toList++vs.drop (j+cells.toList.length),?_,b0w hl (by omega) (by omega),b0v hone hcone⟩
   refine o6.of_get (by rw[a4Z];simp;omega) (λk y v hy hv=>?_);have hkl:k<cs.length:=by have:=(List.getElem?_eq_some_iff.1 hy).1;rwa [a4Z] at this
   obtain⟨old,ho'⟩:∃old,cs[k]?=some old:=⟨_,List.getElem?_eq_getElem hkl⟩
   have hg:=b02 j dl n g 0 cs k old ho';rw[hg] at hy;obtain rfl:=Option.some.inj hy;obtain⟨v0,hv0,hr0⟩:=hr.get ho';simp only[Nat.zero_add] at hg⊢;by_cases h1k:j<=k/\k<j+dl
   ·rw[if_pos h1k] at hg⊢
    have hcell:(a4Y (k - j<n) (g (k - j)) old).isCell=true:=List.all_eq_true.1 hall _ (List.mem_of_getElem? hg);unfold a4Y at hcell⊢;split at hcell<;>simp only[LV.isCell,Bool.false_eq_true] at hcell;rename_i kk1 a1 kk2 o1 e1;have hkk:kk1=kk2:=by
     by_cases hkk:kk1=kk2
     ·exact hkk
     ·rw[if_neg hkk] at hcell;simp[LV.isCell] at hcell
    subst hkk;simp only[if_true];by_cases h2k:k - j<n
    ·rw[if_pos h2k]
     obtain⟨us,u1,u2,u3,_⟩:=h3.2 (k - j) (by omega);rw[e1] at u1;obtain⟨u,r',e',ru,rr⟩:=u1;cases rr;subst e';have hu:=u3 0 u (by simp);simp only[Nat.mul_one,Nat.add_zero] at hu;rw[List.append_assoc,List.getElem?_append_right (by simp;omega),List.getElem?_append_left (by simp;omega)] at hv;simp only[List.length_take] at hv;rw[show k - min j vs.length=k - j from by omega,Array.getElem?_toList,hu] at hv;rw[<-Option.some.inj hv];exact ru
    ·rw[if_neg h2k]
     rw[List.getElem?_append_right (by simp;omega),List.getElem?_drop] at hv;simp only[List.length_append,List.length_take] at hv;rw[show j+cells.toList.length+(k - (min j vs.length+cells.toList.length))=k from by omega,hv0] at hv;rw[<-Option.some.inj hv];exact hr0
   ·rw[if_neg h1k]
    by_cases h2k:k<j
    ·rw[List.append_assoc,List.getElem?_append_left (by simp;omega),List.getElem?_take,if_pos h2k,hv0] at hv
     rw[<-Option.some.inj hv];exact hr0
    ·rw[List.getElem?_append_right (by simp;omega),List.getElem?_drop] at hv
     simp only[List.length_append,List.length_take] at hv;rw[show j+cells.toList.length+(k - (min j vs.length+cells.toList.length))=k from by omega,hv0] at hv;rw[<-Option.some.inj hv];exact hr0
def a2b:List LV->UInt8
 |[.int _ a]=>UInt8.ofNat a.toNat
 |_=>0
def b1h(P:Program)(H:d7)(new:Nat)(src dst:TypeId)(x:LV):Option u9:=
 match F7 P src,F7 P dst,x with
 |some .string,some (.slice el),.str l=>
  match F7 P el with
  |some (.int .u8)=>some ⟨True,.sl new 0 0 false l.length none,[],[(new,some (.row 1 l.length (λq=>[.int .u8 (l.getD q 0).toNat]) true))]⟩
  |_=>none
 |some (.slice el),some .string,.nilsl=>
  match F7 P el with
  |some (.int .u8)=>some (.val (.str []))
  |_=>none
 |some (.slice el),some .string,.sl c i j inn len cap=>
  match F7 P el,Z7 H 1 (.sl c i j inn len cap) with
  |some (.int .u8),some (q,n,g,ft)=>some ⟨q/\∀t,t<n->∃a,g t=[.int .u8 a],.str ((List.range n).map λt=>a2b (g t)),ft,[]⟩
  |_,_=>none
 |some (.slice el),some .string,.ds sz m f=>
  match F7 P el,Z7 H 1 (.ds sz m f) with
  |some (.int .u8),some (q,n,g,ft)=>some ⟨q/\∀t,t<n->∃a,g t=[.int .u8 a],.str ((List.range n).map λt=>a2b (g t)),ft,[]⟩
  |_,_=>none
 |_,_,_=>none
theorem c07{w:World}{c:Array Value}{E:TypeId}:(w.alloc (.cells c E)).freeze ⟨w.heap.size,c.size,none⟩ 1=w.alloc (.cells c E (c.size,c.size+1)):=by
 unfold World.freeze World.alloc;simp only[Nat.one_ne_zero,if_false];congr 1;apply Array.ext_getElem?;intro k;rw[Array.getElem?_modify,Array.getElem?_push,Array.getElem?_push];by_cases hk:w.heap.size=k
 ·subst hk;simp
 ·simp[hk,Ne.symm hk]
theorem b0V{w:World}{g:Nat->List LV}:∀(l:List Value) (t:Nat) (s:ByteArray),(∀k v,l[k]?=some v->∃a,g (t+k)=[.int .u8 a]/\v=.int .u8 a)->
  (forIn l s (λc s=>match c with
   |Value.int IntKind.u8 n=>pure (ForInStep.yield (s.push (UInt8.ofNat n.toNat)))
   |_=>do
    stuck "bytesToString: byte expected"
    pure (ForInStep.yield s)):Sem ByteArray).run P w=
   .ok ⟨s.data++((List.range l.length).map λk=>a2b (g (t+k))).toArray⟩ w
 |[],t,s,_=>by simp
 |v::l,t,s,h=>by
  obtain⟨a,ha,rfl⟩:=h 0 v (by simp);have ih:=b0V (w:=w) (g:=g) l (t+1) (s.push (UInt8.ofNat a.toNat)) (λk v hk=>by
   obtain⟨b,hb,e⟩:=h (k+1) v (by simpa using hk);exact⟨b,by rw[<-hb];congr 1;omega,e⟩)
  simp only[List.forIn_cons,Sem.run_bind,Sem.run_pure,Result.andThen_ok,ih];congr 1;apply ByteArray.ext;apply Array.ext';simp only[Array.toList_append,ByteArray.data_push,Array.toList_push,List.append_assoc,List.length_cons,List.range_succ_eq_map,List.map_cons,List.map_map,Nat.add_zero] at ha⊢;rw[ha];simp only[List.cons_append,List.nil_append,a2b];congr 3;funext k;simp only[Function.comp];rw[show t+1+k=t+Nat.succ k from by omega]
theorem c0t{H:d7}{new:Nat}{src dst:TypeId}{x:LV}{vx:Value}{e:u9}{μ:d5}{w:World}(h:b1h P H new src dst x=some e)(hob:e.ob)(hx:i4 μ x vx)(hn0:e.up.has new=true->μ new=none)
  (hp:M6 μ (H.pre e.foot) w):w5 P (convert src dst vx) μ w (H.pre e.foot) e.up e.v:=by
 unfold b1h at h;split at h<;>try cases h
 ·rename_i el l hs hd
  split at h<;>cases h;rename_i he;simp only[i4] at hx;subst hx;obtain⟨newCap,hcap⟩:∃k,k=l.length+w.tape w.drawn (.appendCap l.length 0 el)%(2^63 - l.length):=⟨_,rfl⟩
  have hn:μ new=none:=hn0 (by simp[i9.has]);have hsz:(⟨l.toArray⟩:ByteArray).size=l.length:=by simp[ByteArray.size]
  let cells:Array Value:=(l.map λb=>Value.int .u8 b.toNat).toArray++Array.replicate (newCap - l.length) (.int .u8 0)
  have hcs:cells.size=newCap:=by simp[cells];omega
  have hext:D7 μ (μ.set new ⟨w.heap.size,0,1,newCap⟩):=d5.ext_set hn;refine⟨.slice (some ⟨w.heap.size,0,none⟩) l.length newCap,w.drew.alloc (.cells cells el (cells.size,cells.size+1)),μ.set new ⟨w.heap.size,0,1,newCap⟩,?_,?_,A9.fromDrew (A9.new hn rfl ?_)⟩
  ·have hch:(choose (.appendCap l.length 0 el)).run P w=.ok newCap w.drew:=by
    rw[run_choose,if_neg (by simp[Question.forced]),hcap];rfl
   have hms:(markStringish ⟨w.heap.size,0,none⟩).run P (w.drew.alloc (.cells cells el))=.ok () (w.drew.alloc (.cells cells el (cells.size,cells.size+1))):=by
    have hshape:(w.drew.alloc (.cells cells el)).shape? w.heap.size=some (el,cells.size):=by
     have h0:(w.drew.alloc (.cells cells el)).heap[w.heap.size]?=some (.cells cells el):=by
      show(w.heap.push (.cells cells el))[w.heap.size]?=_;simp
     simp only[World.shape?,h0]
    simp only[markStringish,Sem.run_bind,run_shape,hshape,Result.andThen_ok,run_freeze];rw[show w.heap.size=w.drew.heap.size from rfl,c07]
   simp only[convert,Sem.run_bind,w7 hs,w7 hd,Result.andThen_ok,w7 he,Conv.stringToBytes,hsz,hch,newRow,run_newObj,Sem.run_pure,World.alloc_eq];have e1:((⟨l.toArray⟩:ByteArray).data.map λb=>Value.int .u8 b.toNat)++Array.replicate (newCap - l.length) (Value.int .u8 0)=cells:=by simp[cells]
   rw[e1];simp only[show w.drew.heap.size=w.heap.size from rfl,hms,Result.andThen_ok,Sem.run_pure]
  ·exact⟨_,⟨w.heap.size,0,none⟩,newCap,d5.set_self,rfl,by omega,(λ_ h=>by cases h),rfl,rfl,λ_=>by simp[Pl.addr],λ_=>⟨rfl,λ_=>by simp⟩⟩
  ·refine⟨rfl,by show l.length<=newCap;omega,cells,el,_,rfl,by show 0+newCap * 1<=cells.size;omega,λ_ o ho h=>by simp only at h;omega,λi hi=>?_⟩
   refine⟨[.int .u8 (l.getD i 0).toNat],⟨_,[],rfl,rfl,rfl⟩,rfl,?_,by simp[Value.oneCell']⟩;intro j v hj;cases j with
   |zero=>
    simp at hj;subst hj;simp only[cells,Nat.zero_add,Nat.mul_one,Nat.add_zero];rw[Array.getElem?_append_left (by simpa using hi)];simp[hi]
   |succ j=>simp at hj
 ·rename_i el hs hd
  split at h<;>cases h;rename_i he;simp only[i4] at hx;subst hx;refine w5.same (x:=.string ⟨([]:List UInt8).toArray⟩) ?_ rfl;simp only[convert,Sem.run_bind,w7 hs,w7 hd,Result.andThen_ok,w7 he,Conv.bytesToString,Sem.run_pure];rfl
 ·rename_i el c i j inn len cap hs hd
  split at h<;>cases h;rename_i q n g ft he hsrc;obtain⟨hq,hb⟩:=hob;obtain⟨cells,h1,h2,h3⟩:=u_ (P:=P) hsrc hq hx hp (λ_ _ hc ho=>d7.mem_pre.2 ⟨hc,ho⟩);refine w5.same (x:=.string ⟨((List.range n).map λt=>a2b (g t)).toArray⟩) ?_ rfl;have hel:∀(k:Nat) (v:Value),cells.toList[k]?=some v->∃a,g (0+k)=[.int .u8 a]/\v=.int .u8 a:=by
   intro k v hk;have hkn:k<n:=by have:=(List.getElem?_eq_some_iff.1 hk).1;simp only[Array.length_toList,h3.1] at this;omega
   obtain⟨us,u1,u2,u3,_⟩:=h3.2 k hkn;obtain⟨a,ha⟩:=hb k hkn;rw[ha] at u1;obtain⟨u,r',e',ru,rr⟩:=u1;cases rr;subst e';have hu:=u3 0 u (by simp);simp only[Nat.mul_one,Nat.add_zero] at hu;rw[Array.getElem?_toList,hu] at hk;refine⟨a,by simpa using ha,?_⟩;rw[<-Option.some.inj hk];exact ru
  have hcl:cells.toList.length=n:=by simp only[Array.length_toList,h3.1];omega
  obtain⟨p,a,rc,hpc,rfl,hlen,_⟩:=hx;have hn' :n=len:=by
   have:=h2 w;simp only[Builtin.lenOf,Sem.run_pure,Result.ok.injEq,and_true] at this;exact this.symm
  subst hn';have hld:(loadCells a n).run P w=.ok cells w:=by
   have:=h1 w rfl;simpa[Builtin.firstCells] using this
  have hloop:=b0V (P:=P) (w:=w) (g:=g) cells.toList 0 ByteArray.empty hel;simp only[convert,Sem.run_bind,w7 hs,w7 hd,Result.andThen_ok,w7 he,Conv.bytesToString,hld];rw[<-Array.forIn_toList];rw[hcl] at hloop;refine(congrArg (λr=>Result.andThen r _) hloop).trans ?_;simp
 ·rename_i el sz m f hs hd
  split at h<;>cases h;rename_i q n g ft he hsrc;obtain⟨hq,hb⟩:=hob;obtain⟨cells,h1,h2,h3⟩:=u_ (P:=P) hsrc hq hx hp (λ_ _ hc ho=>d7.mem_pre.2 ⟨hc,ho⟩);refine w5.same (x:=.string ⟨((List.range n).map λt=>a2b (g t)).toArray⟩) ?_ rfl;have hel:∀(k:Nat) (v:Value),cells.toList[k]?=some v->∃a,g (0+k)=[.int .u8 a]/\v=.int .u8 a:=by
   intro k v hk;have hkn:k<n:=by have:=(List.getElem?_eq_some_iff.1 hk).1;simp only[Array.length_toList,h3.1] at this;omega
   obtain⟨us,u1,u2,u3,_⟩:=h3.2 k hkn;obtain⟨a,ha⟩:=hb k hkn;rw[ha] at u1;obtain⟨u,r',e',ru,rr⟩:=u1;cases rr;subst e';have hu:=u3 0 u (by simp);simp only[Nat.mul_one,Nat.add_zero] at hu;rw[Array.getElem?_toList,hu] at hk;refine⟨a,by simpa using ha,?_⟩;rw[<-Option.some.inj hk];exact ru
  have hcl:cells.toList.length=n:=by simp only[Array.length_toList,h3.1];omega
  simp only[i4,D8] at hx;obtain⟨base,rc,rfl,hlen,hb0,_,_⟩:=hx;cases base with
  |none=>
  obtain rfl:=hb0 rfl;have hm:m=0:=by omega
  subst hm;have hn' :n=0:=by
   have:=h2 w;simp only[Builtin.lenOf,Sem.run_pure,Result.ok.injEq,and_true] at this;exact this.symm
  subst hn';simp only[convert,Sem.run_bind,w7 hs,w7 hd,Result.andThen_ok,w7 he,Conv.bytesToString,Sem.run_pure];rfl
  |some a=>
  have hn' :n=m:=by
   have:=h2 w;simp only[Builtin.lenOf,Sem.run_pure,Result.ok.injEq,and_true] at this;exact this.symm
  subst hn';have hld:(loadCells a n).run P w=.ok cells w:=by
   have:=h1 w rfl;simpa[Builtin.firstCells] using this
  have hloop:=b0V (P:=P) (w:=w) (g:=g) cells.toList 0 ByteArray.empty hel;simp only[convert,Sem.run_bind,w7 hs,w7 hd,Result.andThen_ok,w7 he,Conv.bytesToString,hld];rw[<-Array.forIn_toList];rw[hcl] at hloop;refine(congrArg (λr=>Result.andThen r _) hloop).trans ?_;simp
end
end Go.Cn
