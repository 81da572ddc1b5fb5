import Derived.Test.YtddgjfclpknkcaaGreatDoorCnE
import Derived.Laws.MakeOwn
namespace Go.Cn
open Go
theorem I4.self(vs:List Value):I4 vs.toArray 0 vs:=by
 intro j v hj;simpa using hj
theorem c28{P:Program}{t:TypeId}{x:LV}{v:Value}{μ:d5}{w:World}{pre:u6}{new:Nat}(hx:i4 μ x v)(hc:x.cells.all LV.isCell=true)(hn:μ new=none):
  w5 P (do pure (Value.pointer (some (<-newVar t v)))) μ w pre [(new,some (.var x.cells))] (.ptr new 0 0):=by
 have hr:=a3u hc hx;have hl:=hr.length;have hext:D7 μ (μ.set new ⟨w.heap.size,0,x.cells.length,1⟩):=d5.ext_set hn;refine⟨.pointer (some ⟨w.heap.size,0,none⟩),w.alloc (.cells v.cells t),μ.set new ⟨w.heap.size,0,x.cells.length,1⟩,?_,?_,?_⟩
 ·simp[newVar,newRow]
 ·exact⟨_,d5.set_self,by simp[Pl.addr]⟩
 ·refine A9.new hn rfl ⟨rfl,rfl,v.cells,t,(0,0),rfl,?_,λo _ h=>by omega,v.cells.toList,hr.mono hext,?_,a6y hc hr⟩
  ·simp only[Array.length_toList] at hl;simp;omega
  ·have:=I4.self v.cells.toList
   simpa using this
def a42(new:Nat)(x:LV):Option u9:=
 if x.cells.all LV.isCell then some ⟨True,.ptr new 0 0,[],[(new,some (.var x.cells))]⟩ else none
theorem b5b{P:Program}{t:TypeId}{new:Nat}{x:LV}{e:u9}{μ:d5}{w:World}{pre:u6}{v:Value}(h:a42 new x=some e)(hx:i4 μ x v)(hn:μ new=none):
  w5 P (Instr.box t v) μ w pre e.up e.v/\e.foot=[]:=by
 unfold a42 at h;split at h<;>cases h;rename_i hc;exact⟨c28 hx hc hn,rfl⟩
def a6G(P:Program)(new:Nat)(t:TypeId):Option u9:=
 match a06 P t with
 |some z=>a42 new z
 |none=>none
theorem c0k{P:Program}{t:TypeId}{new:Nat}{e:u9}{μ:d5}{w:World}{pre:u6}(h:a6G P new t=some e)(hn:μ new=none):
  w5 P (Instr.alloc t true (.tuple #[])) μ w pre e.up e.v/\e.foot=[]:=by
 unfold a6G at h;split at h<;>try cases h
 rename_i z hz;obtain⟨v,hv,hr⟩:=a4z (w:=w) hz;have hb:=b5b (P:=P) (t:=t) (w:=w) (pre:=pre) h (hr μ) hn;refine⟨?_,hb.2⟩;obtain⟨x,w',μ',h1,h2,h3⟩:=hb.1;refine⟨x,w',μ',?_,h2,h3⟩;simp only[Instr.alloc,Sem.run_bind,hv,Result.andThen_ok];exact h1
def a0F(place:Nat->Option (Nat×Nat))(cells:List LV):List (Nat×LV)->Option (List LV)
 |[]=>some cells
 |(i,v)::r=>
  match place i with
  |some (off,size)=>
   if v.cells.length=size/\off+v.cells.length<=cells.length/\v.cells.all LV.isCell=true then a0F place (B2 cells off v.cells) r else none
  |none=>none
theorem b5C:∀(us:List Value) (k o:Nat) (cs:Array Value),(us.zipIdx k).foldl (λcs (x:Value×Nat)=>cs.setIfInBounds (o+x.2) x.1) cs=O1 cs (o+k) us
 |[],_,_,_=>rfl
 |u::r,k,o,cs=>by
  simp only[List.zipIdx_cons,List.foldl_cons,O1];rw[b5C r (k+1) o];rfl
theorem c68{us:List Value}{cs:Array Value}{o:Nat}(h:o+us.length<=cs.size):(O1 cs o us).toList=cs.toList.take o++us++cs.toList.drop (o+us.length):=by
 apply List.ext_getElem?;intro k;rw[Array.getElem?_toList,a6m us cs o k h];by_cases h1:k<o
 ·rw[if_neg (by omega),List.append_assoc,List.getElem?_append_left (by simp;omega),List.getElem?_take,if_pos h1,Array.getElem?_toList]
 ·by_cases h2:k<o+us.length
  ·rw[if_pos (by omega),List.append_assoc,List.getElem?_append_right (by simp;omega),List.getElem?_append_left (by simp;omega)]
   simp only[List.length_take,Array.length_toList];rw[show min o cs.size=o from by omega]
  ·rw[if_neg (by omega),List.getElem?_append_right (by simp;omega),List.getElem?_drop,Array.getElem?_toList]
   simp only[List.length_append,List.length_take,Array.length_toList];rw[show o+us.length+(k - (min o cs.size+us.length))=k from by omega]
theorem a8M{μ:d5}{place:Nat->Option (Nat×Nat)}:∀(parts:List (Nat×LV)) (vparts:List (Nat×Value)) (cells:List LV) (vcells:Array Value) (out:List LV),
  a0F place cells parts=some out->o6 μ cells vcells.toList->F2 (λ(a:Nat×LV) (b:Nat×Value)=>a.1=b.1/\i4 μ a.2 b.2) parts vparts->
  ∃vout,Instr.fill place vcells vparts=some vout/\o6 μ out vout.toList
 |[],_,cells,vcells,out,h,hr,hp=>by
  cases hp;cases h;exact⟨vcells,rfl,hr⟩
 |(i,v)::r,_,cells,vcells,out,h,hr,hp=>by
  cases hp with
  |@cons _ b _ m hab hrest=>
   obtain⟨j,u⟩:=b;obtain⟨rfl,huv⟩:=hab;unfold a0F at h;split at h<;>try cases h
   rename_i off size hpl;split at h<;>try cases h
   rename_i hc;obtain⟨h1,h2,h3⟩:=hc;have hcr:=a3u h3 huv;have hlen:u.cells.size=v.cells.length:=by simpa using hcr.length
   have hclen:vcells.size=cells.length:=by simpa using hr.length
   have hlr:=hr.length;have e1:(u.cells.zipIdx.foldl (λcs (x:Value×Nat)=>cs.setIfInBounds (off+x.2) x.1) vcells)=O1 vcells off u.cells.toList:=by
    have:=b5C u.cells.toList 0 off vcells;rw[<-Array.foldl_toList,Array.toList_zipIdx];simpa using this
   obtain⟨vout,ho,hro⟩:=a8M (μ:=μ) (place:=place) r m (B2 cells off v.cells) (O1 vcells off u.cells.toList) out h (by
    rw[c68 (by simp;omega)];unfold B2;have e2:u.cells.toList.length=v.cells.length:=by simpa using hlen
    rw[e2];exact((hr.take off).append hcr).append (hr.drop _)) hrest
   refine⟨vout,?_,hro⟩;simp only[Instr.fill,hpl];rw[if_neg (by simp;omega)];rw[<-ho,<-e1]
def a9D(P:Program):List Field->Option (List (Nat×Nat))
 |[]=>some []
 |f::r=>
  match I6 P f.type,a9D P r with
  |some s,some l=>some ((f.offset,s)::l)
  |_,_=>none
theorem b7V{P:Program}{w:World}:∀(fs:List Field) (l:List (Nat×Nat)),a9D P fs=some l->
  (fs.mapM (λf=>do pure (f.offset,<-sizeOf f.type)):Sem (List (Nat×Nat))).run P w=.ok l w
 |[],l,h=>by cases h;rfl
 |f::r,l,h=>by
  unfold a9D at h;split at h<;>cases h;rename_i s l' hs hl;simp only[List.mapM_cons,Sem.run_bind,K9 hs,Result.andThen_ok,Sem.run_pure,b7V r l' hl]
def b1d(P:Program)(t:TypeId)(parts:List (Nat×LV)):Option u9:=
 match F7 P t,a06 P t with
 |some (.struct fs),some z=>
  match a9D P fs.toList with
  |some pl=>
   match a0F (λi=>pl[i]?) z.cells parts with
   |some cs=>some (.valIf (z.cells.all LV.isCell=true) (.agg cs))
   |none=>none
  |none=>none
 |some (.array _ el),some z=>
  match I6 P el with
  |some s=>
   match a0F (λi=>some (i * s,s)) z.cells parts with
   |some cs=>some (.valIf (z.cells.all LV.isCell=true) (.agg cs))
   |none=>none
  |none=>none
 |_,_=>none
theorem c0q{P:Program}{t:TypeId}{parts:List (Nat×LV)}{vparts:Array (Nat×Value)}{e:u9}{μ:d5}{w:World}{pre:u6}(h:b1d P t parts=some e)(hob:e.ob)
  (hp:F2 (λ(a:Nat×LV) (b:Nat×Value)=>a.1=b.1/\i4 μ a.2 b.2) parts vparts.toList):w5 P (Instr.build t vparts) μ w pre e.up e.v/\e.up=[]/\e.foot=[]:=by
 unfold b1d at h;split at h<;>try cases h
 ·rename_i fs z hd hz
  split at h<;>try cases h
  rename_i pl hpl;split at h<;>cases h;rename_i cs hfill;obtain⟨v,hv,hr⟩:=a4z (w:=w) hz;have hcr:=a3u hob (hr μ);obtain⟨vout,ho,hro⟩:=a8M parts vparts.toList z.cells v.cells cs hfill hcr hp;refine⟨w5.same (x:=.agg vout) ?_ ⟨vout,rfl,hro⟩,rfl,rfl⟩;have hpl' :(fs.mapM (λf=>do pure (f.offset,<-sizeOf f.type)):Sem (Array (Nat×Nat))).run P w=.ok pl.toArray w:=by
   rw[<-Array.toArray_toList (xs:=fs),List.mapM_toArray];have hpl2:=b7V (w:=w) fs.toList pl hpl;simp only[bind_pure_comp] at hpl2;simp[hpl2]
  have hfn:(λ(i:Nat)=>(pl.toArray)[i]?)=(λ(i:Nat)=>pl[i]?):=by funext i;simp
  simp only[Instr.build,Sem.run_bind,hv,Result.andThen_ok,w7 hd];rw[hpl'];simp only[Result.andThen_ok,hfn,ho,Sem.run_pure]
 ·rename_i n el z hd hz
  split at h<;>try cases h
  rename_i s hs;split at h<;>cases h;rename_i cs hfill;obtain⟨v,hv,hr⟩:=a4z (w:=w) hz;have hcr:=a3u hob (hr μ);obtain⟨vout,ho,hro⟩:=a8M parts vparts.toList z.cells v.cells cs hfill hcr hp;refine⟨w5.same (x:=.agg vout) ?_ ⟨vout,rfl,hro⟩,rfl,rfl⟩;simp only[Instr.build,Sem.run_bind,hv,Result.andThen_ok,w7 hd,K9 hs,ho,Sem.run_pure]
def a09(s:Nat)(cs:List LV)(i:Nat):List LV:=(cs.drop (i * s)).take s
def a1I:Nat->List LV->List LV
 |0,_=>[]
 |n+1,z=>z++a1I n z
def a6I(P:Program)(new:Nat)(t:TypeId)(len:Nat)(parts:List (Nat×LV)):Option u9:=
 match F7 P t with
 |some (.slice el)=>
  match I6 P el,a06 P el with
  |some s,some z=>
   match a0F (λi=>some (i * s,s)) (a1I len z.cells) parts with
   |some cs=>some ⟨z.cells.all LV.isCell=true/\z.cells.length=s/\0<s/\len * s<=16777216,.sl new 0 0 false len (some len),[],[(new,some (.row s len (a09 s cs) true))]⟩
   |none=>none
  |_,_=>none
 |_=>none
theorem b5p{place:Nat->Option (Nat×Nat)}:∀(parts:List (Nat×LV)) (cells out:List LV),a0F place cells parts=some out->cells.all LV.isCell=true->out.all LV.isCell=true
 |[],cells,out,h,hc=>by cases h;exact hc
 |(i,v)::r,cells,out,h,hc=>by
  unfold a0F at h;split at h<;>try cases h
  split at h<;>try cases h
  rename_i hq;refine b5p r _ _ h ?_;rw[List.all_eq_true] at hc⊢;intro x hx;unfold B2 at hx;rcases List.mem_append.1 hx with hx|hx
  ·rcases List.mem_append.1 hx with hx|hx
   ·exact hc x (List.mem_of_mem_take hx)
   ·exact List.all_eq_true.1 hq.2.2 x hx
  ·exact hc x (List.mem_of_mem_drop hx)
theorem b7K{z:List LV}(h:z.all LV.isCell=true):∀n,(a1I n z).all LV.isCell=true
 |0=>rfl
 |n+1=>by simp only[a1I,List.all_append,h,b7K h n,Bool.and_self]
theorem b5q{place:Nat->Option (Nat×Nat)}:∀(parts:List (Nat×LV)) (cells out:List LV),a0F place cells parts=some out->out.length=cells.length
 |[],cells,out,h=>by cases h;rfl
 |(i,v)::r,cells,out,h=>by
  unfold a0F at h;split at h<;>try cases h
  split at h<;>try cases h
  rename_i hc;rw[b5q r _ _ h,b8K hc.2.1]
theorem c5d(n:Nat)(z:List LV):(a1I n z).length=n * z.length:=by
 induction n with
 |zero=>simp[a1I]
 |succ n ih=>simp[a1I,ih,Nat.add_mul];omega
theorem c5e{μ:d5}{z:List LV}{v:Array Value}(hr:o6 μ z v.toList):∀(n:Nat),0<z.length->o6 μ (a1I n z) ((Array.range (n * z.length)).map (v[· %v.size]!)).toList:=by
 intro n hz;have hsz:v.size=z.length:=by simpa using hr.length
 have key:∀n,((Array.range (n * z.length)).map (v[· %v.size]!)).toList=(List.range (n * z.length)).map (λi=>v[i%v.size]!):=by
  intro n;simp
 rw[key]
 induction n with
 |zero=>simp[a1I,o6]
 |succ n ih=>
  have:(n+1) * z.length=z.length+n * z.length:=by rw[Nat.add_mul];omega
  rw[this,List.range_add,List.map_append];refine o6.append ?_ ?_
  ·have:(List.range z.length).map (λi=>v[i%v.size]!)=v.toList:=by
    apply List.ext_getElem?;intro k;simp only[List.getElem?_map,Array.getElem?_toList];by_cases hk:k<z.length
    ·rw[List.getElem?_range hk]
     simp only[Option.map_some,hsz,Nat.mod_eq_of_lt hk];simp[hsz,hk]
    ·rw[List.getElem?_eq_none (by simp;omega),Array.getElem?_eq_none (by omega)]
     rfl
   rw[this];exact hr
  ·rw[List.map_map]
   have:((λi=>v[i%v.size]!)∘ λx=>z.length+x)=(λi=>v[i%v.size]!):=by
    funext i;simp[Function.comp,hsz]
   rw[this];exact ih
theorem b9J{cs:List LV}{vs:List Value}{μ:d5}{s i n:Nat}(hr:o6 μ cs vs)(hone:∀v∈vs,v.oneCell' =true)(hl:cs.length=n * s)(hi:i<n):
  ∃us,o6 μ (a09 s cs i) us/\us.length=s/\I4 vs.toArray (0+i * s) us/\∀v∈us,v.oneCell' =true:=by
 have hlen:=hr.length;have:(i+1) * s<=n * s:=Nat.mul_le_mul_right _ (by omega);rw[Nat.add_mul,Nat.one_mul] at this;refine⟨(vs.drop (i * s)).take s,(hr.drop _).take _,by simp;omega,?_,λv hv=>hone v (List.mem_of_mem_drop (List.mem_of_mem_take hv))⟩;exact((I4.self vs).drop (i * s)).take s
theorem c27{P:Program}{el:TypeId}{cs:List LV}{v:Array Value}{s n len:Nat}{cap:Option Nat}{μ:d5}{w:World}{pre:u6}{new:Nat}{f:Nat->List LV}(hr:o6 μ cs v.toList)(hone:∀x∈v.toList,x.oneCell' =true)(hl:cs.length=n * s)
  (hf:∀i,i<len->f i=a09 s cs i) (hlen:len<=n) (hcap:∀k,cap=some k->n=k) (hn:μ new=none):
  w5 P (do pure (Value.slice (some (<-newRow el v)) len n)) μ w pre [(new,some (.row s len f true))] (.sl new 0 0 false len cap):=by
 have hext:D7 μ (μ.set new ⟨w.heap.size,0,s,n⟩):=d5.ext_set hn;have hsz:v.size=n * s:=by have:=hr.length;simp at this;omega
 refine⟨.slice (some ⟨w.heap.size,0,none⟩) len n,w.alloc (.cells v el),μ.set new ⟨w.heap.size,0,s,n⟩,?_,?_,?_⟩
 ·simp[newRow]
 ·exact⟨_,⟨w.heap.size,0,none⟩,n,d5.set_self,rfl,hlen,hcap,rfl,rfl,λ_=>by simp[Pl.addr],λ_=>⟨rfl,λ_=>by simp⟩⟩
 ·refine A9.new hn rfl ⟨rfl,hlen,v,el,(0,0),rfl,by simp;omega,λ_ o _ h=>by omega,λi hi=>?_⟩
  rw[hf i hi];obtain⟨us,h1,h2,h3,h4⟩:=b9J (hr.mono hext) hone hl (Nat.lt_of_lt_of_le hi hlen);exact⟨us,h1,h2,by simpa using h3,h4⟩
theorem c0o{P:Program}{t:TypeId}{new len:Nat}{parts:List (Nat×LV)}{vparts:Array (Nat×Value)}{e:u9}{μ:d5}{w:World}{pre:u6}(h:a6I P new t len parts=some e)(hob:e.ob)
  (hn:μ new=none) (hp:F2 (λ(a:Nat×LV) (b:Nat×Value)=>a.1=b.1/\i4 μ a.2 b.2) parts vparts.toList):w5 P (Instr.buildSlice t len vparts) μ w pre e.up e.v/\e.foot=[]:=by
 unfold a6I at h;split at h<;>try cases h
 rename_i el hd;split at h<;>try cases h
 rename_i s z hs hz;split at h<;>cases h;rename_i cs hfill;obtain⟨h1,h2,h3,h4⟩:=hob;obtain⟨v,hv,hr⟩:=a4z (w:=w) hz;have hcr:=a3u h1 (hr μ);have hrep:=c5e hcr len (by omega);obtain⟨vout,ho,hro⟩:=a8M parts vparts.toList _ _ cs hfill hrep hp;have hcl:cs.length=len * s:=by rw[b5q _ _ _ hfill,c5d,h2]
 refine⟨?_,rfl⟩;obtain⟨x,w',μ',k1,k2,k3⟩:=c27 (P:=P) (el:=el) (len:=len) (cap:=some len) (w:=w) (pre:=pre) (f:=a09 s cs) hro (a6y (b5p _ _ _ hfill (b7K h1 len)) hro) hcl (λ_ _=>rfl) (Nat.le_refl _) (λk hk=>Option.some.inj hk) hn;refine⟨x,w',μ',?_,k2,k3⟩;rw[<-k1];have hsz:v.cells.size=s:=by have:=hcr.length;simp at this;omega
 rw[h2] at ho;simp only[Instr.buildSlice,Sem.run_bind,w7 hd,Result.andThen_ok,K9 hs];have g1:¬len * s>2^24:=by omega
 simp only[Sem.run_ite,g1,if_false,Sem.run_pure,Result.andThen_ok];by_cases hz0:len * s=0
 ·have:len=0:=by
   rcases Nat.mul_eq_zero.1 hz0 with h|h<;>omega
  subst this;simp only[Nat.zero_mul,if_true,Sem.run_pure,Result.andThen_ok] at ho⊢;simp only[Array.range_zero',Array.map_empty] at ho⊢;simp[ho]
 ·simp only[hz0,if_false,hv,Sem.run_bind,Result.andThen_ok,Sem.run_pure,ho]
end Go.Cn
