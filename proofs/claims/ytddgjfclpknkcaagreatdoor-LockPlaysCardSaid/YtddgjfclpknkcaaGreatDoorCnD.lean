import Derived.Test.YtddgjfclpknkcaaGreatDoorCnC
import Derived.Laws.Strings
import Derived.Laws.Slices
namespace Go.Cn
open Go
def a9s:Value->Option LV
 | .int k n=>some (.int k n)
 | .bool b=>some (.bool b)
 | .string s=>some (.str s.data.toList)
 | .pointer none=>some .nilptr
 | .slice none 0 0=>some .nilsl
 | .map none=>some .nilmap
 | .nilFunc=>some .nilfn
 |_=>none
def a9t:List Value->Option (List LV)
 |[]=>some []
 |v::r=>match a9s v,a9t r with
  |some x,some l=>some (x::l)
  |_,_=>none
def ofV:Value->Option LV
 | .agg cs=>(a9t cs.toList).map .agg
 |v=>a9s v
theorem b60{v:Value}{l:LV}(h:a9s v=some l)(μ:d5):i4 μ l v:=by
 unfold a9s at h;split at h<;>cases h<;>simp only[i4]
theorem b61:∀{vs:List Value} {l:List LV},a9t vs=some l->∀(μ:d5),o6 μ l vs
 |[],l,h,μ=>by cases h;rfl
 |v::r,l,h,μ=>by
  unfold a9t at h;split at h
  ·rename_i x l' hx hl
   cases h;exact⟨v,r,rfl,b60 hx μ,b61 hl μ⟩
  ·cases h
theorem b2N{v:Value}{l:LV}(h:ofV v=some l)(μ:d5):i4 μ l v:=by
 unfold ofV at h;split at h
 ·rename_i cs
  simp only[Option.map_eq_some_iff] at h;obtain⟨l',hl,rfl⟩:=h;exact⟨cs,rfl,b61 hl μ⟩
 ·exact b60 h μ
def F7(P:Program)(t:TypeId):Option TypeDesc:=P.underlying t
def I6(P:Program)(t:TypeId):Option Nat:=(P.info? t).map (·.size)
def a8c(P:Program)(t:TypeId):Option Nat:=(P.info? t).map (·.bytes)
def a06(P:Program)(t:TypeId):Option LV:=((P.info? t).bind (·.zero)).bind ofV
def L7:TypeDesc->Bool
 | .struct _| .array _ _=>true
 |_=>false
section
variable {P:Program}{w:World}{t:TypeId}
theorem w7{d:TypeDesc}(h:P.underlying t=some d):(underlying t).run P w=.ok d w:=run_underlying h w
theorem b8T{n:Nat}(h:I6 P t=some n):∃i,P.info? t=some i/\i.size=n:=by
 simpa[I6,Option.map_eq_some_iff] using h
theorem K9{n:Nat}(h:I6 P t=some n):(sizeOf t).run P w=.ok n w:=by
 obtain⟨i,hi,rfl⟩:=b8T h;simp[sizeOf,run_typeInfo w hi]
theorem b7S{n:Nat}(h:a8c P t=some n):∃i,(typeInfo t).run P w=.ok i w/\i.bytes=n:=by
 simp only[a8c,Option.map_eq_some_iff] at h;obtain⟨i,hi,rfl⟩:=h;exact⟨i,run_typeInfo w hi,rfl⟩
theorem a4z{l:LV}(h:a06 P t=some l):∃z,(zeroValue t).run P w=.ok z w/\∀μ,i4 μ l z:=by
 simp only[a06,Option.bind_eq_some_iff] at h;obtain⟨z,⟨i,hi,hz⟩,hl⟩:=h;exact⟨z,by simp[zeroValue,run_typeInfo w hi,hz],b2N hl⟩
theorem a1J{d:TypeDesc}(h:P.underlying t=some d):(isAgg t).run P w=.ok (L7 d) w:=by
 unfold isAgg;simp only[Sem.run_bind,w7 h,Result.andThen_ok];cases d<;>rfl
end
structure u9 where
 ob:Prop
 v:LV
 foot:List Nat
 up:i9
def u9.val(v:LV):u9:=⟨True,v,[],[]⟩
def u9.valIf(q:Prop)(v:LV):u9:=⟨q,v,[],[]⟩
def w5(P:Program)(s:Sem Value)(μ:d5)(w:World)(pre:u6)(up:i9)(v:LV):Prop:=
 ∃x w' μ',s.run P w=.ok x w' /\i4 μ' v x/\A9 μ w pre up μ' w'
theorem w5.same{P:Program}{s:Sem Value}{μ:d5}{w:World}{pre:u6}{v:LV}{x:Value}(h:s.run P w=.ok x w)(r:i4 μ v x):w5 P s μ w pre [] v:=
 ⟨x,w,μ,h,r,A9.refl μ w pre⟩
def b0W:LO->Nat->Option (Prop×List LV)
 | .var cs,0=>some (True,cs)
 | .row _ n f _,i=>some (i<n,f i)
 | .gr _ n f,i=>some (i<n,f i)
 |_,_=>none
theorem b4A{μ:d5}{p:Pl}{h:Option Obj}{o:LO}{i:Nat}{q:Prop}{cs:List LV}(ho:w9 μ p h o)(hc:b0W o i=some (q,cs))(hq:q):
  ∃cells E fr vs,h=some (.cells cells E fr)/\o6 μ cs vs/\I4 cells (p.off+i * p.sz) vs/\cs.length=p.sz/\p.off+i * p.sz+p.sz<=cells.size/\i<p.ext/\∀v∈vs,v.oneCell' =true:=by
 unfold b0W at hc;split at hc
 ·cases hc
  obtain⟨h1,h2,cells,E,fr,h3,h4,h5,vs,h6,h7,h8⟩:=ho;exact⟨cells,E,fr,vs,h3,h6,by simpa using h7,h2.symm,by simpa using h4,by omega,h8⟩
 ·cases hc
  obtain⟨h1,h2,cells,E,fr,h3,h4,h5,h6⟩:=ho;obtain⟨vs,a,b,c,d⟩:=h6 i hq;subst h1;refine⟨cells,E,fr,vs,h3,a,c,by rw[<-a.length,b],?_,by omega,d⟩;have:(i+1) * p.sz<=p.ext * p.sz:=Nat.mul_le_mul_right _ (by omega);rw[Nat.add_mul,Nat.one_mul] at this;omega
 ·cases hc
  obtain⟨h1,h2,cells,E,fr,h3,h4,h5,h6⟩:=ho;obtain⟨vs,a,b,c,d⟩:=h6 i hq;subst h1;refine⟨cells,E,fr,vs,h3,a,c,by rw[<-a.length,b],?_,by omega,d⟩;have:(i+1) * p.sz<=p.ext * p.sz:=Nat.mul_le_mul_right _ (by omega);rw[Nat.add_mul,Nat.one_mul] at this;omega
 ·cases hc
theorem I4.drop{cs:Array Value}{o:Nat}{vs:List Value}(h:I4 cs o vs)(n:Nat):I4 cs (o+n) (vs.drop n):=by
 intro j v hj;rw[List.getElem?_drop] at hj;rw[Nat.add_assoc];exact h (n+j) v hj
theorem I4.take{cs:Array Value}{o:Nat}{vs:List Value}(h:I4 cs o vs)(n:Nat):I4 cs o (vs.take n):=by
 intro j v hj;rw[List.getElem?_take] at hj;split at hj
 ·exact h j v hj
 ·cases hj
theorem d7.pre_one{H:d7}{c:Nat}{o:LO}(h:H.at c=some o):H.pre [c]=[(c,o)]:=by simp[d7.pre,h]
def a0E(P:Program)(H:d7)(t:TypeId):LV->Option u9
 | .ptr c i j=>
  match H.at c with
  |some o=>
   match b0W o i,F7 P t with
   |some (q,cs),some d=>
    if L7 d then
     match I6 P t with
     |some s=>some ⟨q/\j+s<=cs.length,.agg ((cs.drop j).take s),[c],[]⟩
     |none=>none
    else some ⟨q/\j<cs.length,(cs[j]?).getD .any,[c],[]⟩
   |_,_=>none
  |none=>none
 | .dp cs=>
  match F7 P t with
  |some d=>
   if L7 d then
    match I6 P t with
    |some s=>some ⟨s<=cs.length,.agg (cs.take s),[],[]⟩
    |none=>none
   else some ⟨0<cs.length,(cs[0]?).getD .any,[],[]⟩
  |none=>none
 |_=>none
theorem c0H{P:Program}{H:d7}{t:TypeId}{cs:List LV}{e:u9}{μ:d5}{w:World}{va:Value}(h:a0E P H t (.dp cs)=some e)(hob:e.ob)(ha:i4 μ (.dp cs) va)
  (hp:M6 μ (H.pre e.foot) w):w5 P (Instr.loadAt t va) μ w (H.pre e.foot) e.up e.v:=by
 simp only[a0E] at h;simp only[i4,D8] at ha;obtain⟨a,cells,vs,rfl,hsp,hfz,hr,hl,h1⟩:=ha;obtain⟨E,fr,hb⟩:=hp.fro _ _ hfz;obtain⟨ab,ao,asp⟩:=a;simp only at hsp hl hb;subst hsp;have hlen:=hr.length;have hrun:(Instr.loadAt t (.pointer (some ⟨ab,ao,none⟩))).run P w=(loadVar t ⟨ab,ao,none⟩).run P w:=by simp[Instr.loadAt,Instr.sureAddr]
 split at h<;>try cases h
 rename_i d hd;split at h
 ·rename_i hag
  split at h<;>cases h;rename_i s hs;refine w5.same (x:=.agg ((vs.take s).toArray)) ?_ ⟨_,rfl,by simpa using hr.rel.take s⟩;rw[hrun];have hls:(vs.take s).length=s:=by
   have h2:s<=cs.length:=hob;simp only[List.length_take];omega
  have:=a4y (P:=P) (o:=ao) hb (vs.take s) (hl.take s);rw[hls] at this;simp only[loadVar,Sem.run_bind,a1J hd,Result.andThen_ok,hag,if_true,K9 hs];rw[this];rfl
 ·rename_i hag
  cases h;have h2:0<cs.length:=hob;obtain⟨x,hx⟩:∃x,cs[0]?=some x:=⟨_,List.getElem?_eq_getElem h2⟩
  obtain⟨v,hv,hrv⟩:=(hr.rel (μ:=μ)).get hx;refine w5.same (x:=v) ?_ (by simpa[hx] using hrv);rw[hrun];have hcell:w.cell? ⟨ab,ao,none⟩=some v:=by
   simp only[World.cell?,hb];simpa using hl 0 v hv
  simp only[loadVar,Sem.run_bind,a1J hd,Result.andThen_ok,hag,Bool.false_eq_true,if_false,run_load,hcell]
theorem c0I{P:Program}{H:d7}{t:TypeId}{a:LV}{e:u9}{μ:d5}{w:World}{va:Value}(h:a0E P H t a=some e)(hob:e.ob)(ha:i4 μ a va)
  (hp:M6 μ (H.pre e.foot) w):w5 P (Instr.loadAt t va) μ w (H.pre e.foot) e.up e.v:=by
 have h' :=h;unfold a0E at h;split at h<;>first|(exact c0H h' hob ha hp)|(cases h;done)|skip
 rename_i c i j;clear h';split at h<;>try cases h
 rename_i o ho;obtain⟨p,hpc,rfl⟩:=ha;split at h<;>try cases h
 rename_i q cs d hca hd;have hfoot:e.foot=[c]:=by
  split at h
  ·split at h<;>cases h;rfl
  ·cases h;rfl
 have hok:=hp.placed (c:=c) (o:=o) (by rw[hfoot,d7.pre_one ho];simp) hpc;have hq:q:=by
  split at h
  ·split at h<;>cases h;exact hob.1
  ·cases h;exact hob.1
 obtain⟨cells,E,fr,vs,hb,hr,hl,hlen,hsz,_,_⟩:=b4A hok hca hq;have hrun:(Instr.loadAt t (.pointer (some (p.addr i j)))).run P w=(loadVar t (p.addr i j)).run P w:=by simp[Instr.loadAt,Instr.sureAddr]
 split at h
 ·rename_i hag
  split at h<;>cases h;rename_i s hs;refine w5.same (x:=.agg (((vs.drop j).take s).toArray)) ?_ ⟨_,rfl,by simpa using(hr.drop j).take s⟩;rw[hrun];have hls:((vs.drop j).take s).length=s:=by
   have:=hr.length;have h2:=hob.2;simp only[List.length_take,List.length_drop];omega
  have:=a4y (P:=P) (o:=p.off+i * p.sz+j) hb ((vs.drop j).take s) (by have:=(hl.drop j).take s;simpa using this);rw[hls] at this;simp only[loadVar,Sem.run_bind,a1J hd,Result.andThen_ok,hag,if_true,K9 hs];unfold Pl.addr;rw[this];rfl
 ·rename_i hag
  cases h;have h2:=hob.2;obtain⟨x,hx⟩:∃x,cs[j]?=some x:=⟨_,List.getElem?_eq_getElem h2⟩
  obtain⟨v,hv,hrv⟩:=hr.get hx;refine w5.same (x:=v) ?_ (by simpa[hx] using hrv);rw[hrun];have hcell:w.cell? (p.addr i j)=some v:=by
   simp only[World.cell?,Pl.addr,hb];simpa using hl j v hv
  simp only[loadVar,Sem.run_bind,a1J hd,Result.andThen_ok,hag,Bool.false_eq_true,if_false,run_load,hcell]
def B2(cs:List LV)(j:Nat)(xs:List LV):List LV:=cs.take j++xs++cs.drop (j+xs.length)
theorem b8K{cs:List LV}{j:Nat}{xs:List LV}(h:j+xs.length<=cs.length):(B2 cs j xs).length=cs.length:=by
 simp[B2];omega
theorem b0w{cells:Array Value}{o j:Nat}{vs us:List Value}(hl:I4 cells o vs)(hj:j+us.length<=vs.length)(hs:o+vs.length<=cells.size):
  I4 (O1 cells (o+j) us) o (vs.take j++us++vs.drop (j+us.length)):=by
 intro k v hk;rw[a6m us cells (o+j) (o+k) (by omega)];by_cases h1:k<j
 ·rw[if_neg (by omega)]
  rw[List.append_assoc,List.getElem?_append_left (by simp;omega),List.getElem?_take,if_pos h1] at hk;exact hl k v hk
 ·by_cases h2:k<j+us.length
  ·rw[if_pos (by omega)]
   rw[List.append_assoc,List.getElem?_append_right (by simp;omega),List.getElem?_append_left (by simp;omega)] at hk;simp only[List.length_take] at hk;rw[show o+k - (o+j)=k - min j vs.length from by omega];exact hk
  ·rw[if_neg (by omega)]
   rw[List.getElem?_append_right (by simp;omega),List.getElem?_drop] at hk;simp only[List.length_append,List.length_take] at hk;rw[show j+us.length+(k - (min j vs.length+us.length))=k from by omega] at hk;exact hl k v hk
theorem b8L{cells:Array Value}{o j o' :Nat}{us vs:List Value}{n:Nat}(hl:I4 cells o' vs)(hn:j+us.length<=n)(hs:o+n<=cells.size)(hd:o' +vs.length<=o\/o+n<=o'):
  I4 (O1 cells (o+j) us) o' vs:=by
 intro k v hk;have hk' :k<vs.length:=(List.getElem?_eq_some_iff.1 hk).1;rw[a6m us cells (o+j) (o' +k) (by omega),if_neg (by omega)];exact hl k v hk
def a8H(P:Program)(H:d7)(t:TypeId)(a x:LV):Option u9:=
 match a with
 | .ptr c i j=>
  match I6 P t,x.cells.all LV.isCell with
  |some s,true=>
   match H.at c with
   |some (.var cs)=>some ⟨x.cells.length=s/\j+s<=cs.length/\i=0,.any,[c],[(c,some (.var (B2 cs j x.cells)))]⟩
   |some (.row sz n f true)=>some ⟨x.cells.length=s/\j+s<=(f i).length/\i<n,.any,[c],[(c,some (.row sz n (λm=>if m=i then B2 (f i) j x.cells else f m) true))]⟩
   |some (.gr sz n f)=>some ⟨x.cells.length=s/\j+s<=(f i).length/\i<n,.any,[c],[(c,some (.gr sz n (λm=>if m=i then B2 (f i) j x.cells else f m)))]⟩
   |_=>none
  |_,_=>none
 |_=>none
theorem a6y{μ:d5}:∀{l:List LV} {vs:List Value},l.all LV.isCell=true->o6 μ l vs->∀v∈vs,v.oneCell' =true
 |[],_,_,r,v,hv=>by cases r;cases hv
 |x::l,_,h,⟨a,r,e,hx,hr⟩,v,hv=>by
  subst e;simp only[List.all_cons,Bool.and_eq_true] at h;rcases List.mem_cons.1 hv with rfl|hv
  ·exact i4.oneCell h.1 hx
  ·exact a6y h.2 hr v hv
theorem a3u{μ:d5}{x:LV}{v:Value}(h:x.cells.all LV.isCell=true)(r:i4 μ x v):o6 μ x.cells v.cells.toList:=by
 refine i4.cells ?_ r;cases x<;>simp[LV.cells,LV.isCell] at h⊢
theorem b0v{vs us:List Value}{j:Nat}(h:∀v∈vs,v.oneCell' =true)(k:∀v∈us,v.oneCell' =true):∀v∈vs.take j++us++vs.drop (j+us.length),v.oneCell' =true:=by
 intro v hv;rcases List.mem_append.1 hv with hv|hv
 ·rcases List.mem_append.1 hv with hv|hv
  ·exact h v (List.mem_of_mem_take hv)
  ·exact k v hv
 ·exact h v (List.mem_of_mem_drop hv)
theorem c0R{P:Program}{H:d7}{t:TypeId}{a x:LV}{e:u9}{μ:d5}{w:World}{va vx:Value}(h:a8H P H t a x=some e)(hob:e.ob)(ha:i4 μ a va)(hx:i4 μ x vx)
  (hp:M6 μ (H.pre e.foot) w):∃w',(Instr.storeAt t va vx).run P w=.ok () w' /\A9 μ w (H.pre e.foot) e.up μ w' :=by
 unfold a8H at h;split at h<;>try cases h
 rename_i c i j;split at h<;>try cases h
 rename_i s hs hall;obtain⟨p,hpc,rfl⟩:=ha;have hcr:=a3u hall hx;have hone:=a6y hall hcr;have hlen:=hcr.length;have hrun:∀(hsz:vx.cells.size=s),(Instr.storeAt t (.pointer (some (p.addr i j))) vx).run P w=(storeCells (p.addr i j) vx.cells.toList).run P w:=by
  intro hsz;simp[Instr.storeAt,Instr.sureAddr,storeVar,K9 hs,hsz]
 simp only[Array.length_toList] at hlen;split at h<;>try cases h
 ·rename_i cs ho
  obtain⟨h1,h2,rfl⟩:=hob;rw[d7.pre_one ho] at hp⊢;have hok:=hp.placed (List.mem_singleton.2 rfl) hpc;have hlt:=hok.lt;obtain⟨k1,k2,cells,E,fr,hb,hsz,hfr,vs,hr,hl,h1c⟩:=hok;have hvl:=hr.length;refine⟨A7 w p.rb (.cells (O1 cells (p.off+j) vx.cells.toList) E fr),?_,?_⟩
  ·rw[hrun (by omega)]
   have:=a59 (P:=P) (rb:=p.rb) (o:=p.off+j) (E:=E) (fr:=fr) vx.cells.toList 0 cells w hb hfr (by simp;omega) hone;simpa[Pl.addr] using this
  ·refine A9.put hpc (List.mem_singleton.2 rfl) rfl hlt ⟨k1,by rw[b8K (by omega)];exact k2,_,E,fr,rfl,by rw[a0y];exact hsz,by rw[a0y];exact hfr,_,?_,b0w hl (by simp;omega) (by omega),b0v h1c hone⟩
   unfold B2;have e1:vx.cells.toList.length=x.cells.length:=by simpa using hlen
   rw[e1];exact((hr.take j).append hcr).append (hr.drop _)
 ·rename_i sz n f ho
  obtain⟨h1,h2,h3⟩:=hob;rw[d7.pre_one ho] at hp⊢;have hok:=hp.placed (List.mem_singleton.2 rfl) hpc;have hlt:=hok.lt;obtain⟨k1,k2,cells,E,fr,hb,hsz,hfr,hel⟩:=hok;subst k1;have hin:p.off+i * p.sz+p.sz<=cells.size:=by
   have:(i+1) * p.sz<=p.ext * p.sz:=Nat.mul_le_mul_right _ (by omega);rw[Nat.add_mul,Nat.one_mul] at this;omega
  obtain⟨vs,hr,hvs,hl,h1c⟩:=hel i h3;have hvl:=hr.length;refine⟨A7 w p.rb (.cells (O1 cells (p.off+i * p.sz+j) vx.cells.toList) E fr),?_,?_⟩
  ·rw[hrun (by omega)]
   have:=a59 (P:=P) (rb:=p.rb) (o:=p.off+i * p.sz+j) (E:=E) (fr:=fr) vx.cells.toList 0 cells w hb (hfr rfl) (by simp;omega) hone;simpa[Pl.addr] using this
  ·refine A9.put hpc (List.mem_singleton.2 rfl) rfl hlt ⟨rfl,k2,_,E,fr,rfl,by rw[a0y];exact hsz,by rw[a0y];exact hfr,λm hm=>?_⟩
   by_cases hmi:m=i
   ·subst hmi
    simp only[if_true];have e1:vx.cells.toList.length=x.cells.length:=by simpa using hlen
    refine⟨vs.take j++vx.cells.toList++vs.drop (j+vx.cells.toList.length),?_,by simp;omega,b0w hl (by simp;omega) (by omega),b0v h1c hone⟩;unfold B2;rw[e1];exact((hr.take j).append hcr).append (hr.drop _)
   ·simp only[if_neg hmi]
    obtain⟨us,a,b,c',d'⟩:=hel m hm;refine⟨us,a,b,b8L (n:=p.sz) c' (by simp;omega) hin ?_,d'⟩;rw[b];rcases Nat.lt_or_gt_of_ne hmi with h4|h4
    ·left
     have:(m+1) * p.sz<=i * p.sz:=Nat.mul_le_mul_right _ (by omega);rw[Nat.add_mul,Nat.one_mul] at this;omega
    ·right
     have:(i+1) * p.sz<=m * p.sz:=Nat.mul_le_mul_right _ (by omega);rw[Nat.add_mul,Nat.one_mul] at this;omega
 ·rename_i sz n f ho
  obtain⟨h1,h2,h3⟩:=hob;rw[d7.pre_one ho] at hp⊢;have hok:=hp.placed (List.mem_singleton.2 rfl) hpc;have hlt:=hok.lt;obtain⟨k1,k2,cells,E,fr,hb,hsz,hfr,hel⟩:=hok;subst k1;have hin:p.off+i * p.sz+p.sz<=cells.size:=by
   have:(i+1) * p.sz<=p.ext * p.sz:=Nat.mul_le_mul_right _ (by omega);rw[Nat.add_mul,Nat.one_mul] at this;omega
  obtain⟨vs,hr,hvs,hl,h1c⟩:=hel i h3;have hvl:=hr.length;refine⟨A7 w p.rb (.cells (O1 cells (p.off+i * p.sz+j) vx.cells.toList) E fr),?_,?_⟩
  ·rw[hrun (by omega)]
   have:=a59 (P:=P) (rb:=p.rb) (o:=p.off+i * p.sz+j) (E:=E) (fr:=fr) vx.cells.toList 0 cells w hb hfr (by simp;omega) hone;simpa[Pl.addr] using this
  ·refine A9.put hpc (List.mem_singleton.2 rfl) rfl hlt ⟨rfl,k2,_,E,fr,rfl,by rw[a0y];exact hsz,by rw[a0y];exact hfr,λm hm=>?_⟩
   by_cases hmi:m=i
   ·subst hmi
    simp only[if_true];have e1:vx.cells.toList.length=x.cells.length:=by simpa using hlen
    refine⟨vs.take j++vx.cells.toList++vs.drop (j+vx.cells.toList.length),?_,by simp;omega,b0w hl (by simp;omega) (by omega),b0v h1c hone⟩;unfold B2;rw[e1];exact((hr.take j).append hcr).append (hr.drop _)
   ·simp only[if_neg hmi]
    obtain⟨us,a,b,c',d'⟩:=hel m hm;refine⟨us,a,b,b8L (n:=p.sz) c' (by simp;omega) hin ?_,d'⟩;rw[b];rcases Nat.lt_or_gt_of_ne hmi with h4|h4
    ·left
     have:(m+1) * p.sz<=i * p.sz:=Nat.mul_le_mul_right _ (by omega);rw[Nat.add_mul,Nat.one_mul] at this;omega
    ·right
     have:(i+1) * p.sz<=m * p.sz:=Nat.mul_le_mul_right _ (by omega);rw[Nat.add_mul,Nat.one_mul] at this;omega
end Go.Cn
