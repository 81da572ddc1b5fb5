import Derived.Test.YtddgjfclpknkcaaGreatDoorCnI
import Derived.Laws.AppendOwn
namespace Go.Cn
open Go
section
variable {P:Program}
def a6J(P:Program)(new:Nat)(t:TypeId):Option u9:=
 match F7 P t with
 |some (.map kt _)=>
  match U5 P kt with
  |some (ag,ks)=>some ⟨True,.map new,[],[(new,some (.map ag ks []))]⟩
  |none=>none
 |_=>none
theorem c0L{t:TypeId}{new:Nat}{r:Option Value}{e:u9}{μ:d5}{w:World}{pre:u6}(h:a6J P new t=some e)(hn:μ new=none)(hr:∀v,r=some v->∃k n,v=.int k n):
  w5 P (Instr.makeMap t r) μ w pre e.up e.v/\e.foot=[]:=by
 unfold a6J at h;split at h<;>try cases h
 rename_i kt el hd;split at h<;>cases h;refine⟨⟨.map (some w.heap.size),w.alloc (.map #[] 0),μ.set new ⟨w.heap.size,0,0,0⟩,?_,⟨_,d5.set_self,rfl⟩,?_⟩,rfl⟩
 ·rcases r with _|v
  ·simp[Instr.makeMap]
  ·obtain⟨k,n,rfl⟩:=hr v rfl
   simp[Instr.makeMap,w7 hd,asInt,asIntOf]
 ·exact A9.new hn rfl ⟨⟨#[],0,rfl,.nil,by simp,by simp⟩,by simp⟩
def a6K(P:Program)(H:d7)(t:TypeId)(m k v:LV):Option u9:=
 match F7 P t,m with
 |some (.map kt _),.map c=>
  match U5 P kt,H.at c with
  |some (ag,ks),some (.map ag' ks' es)=>
   if ag=ag' /\ks=ks' then some ⟨D9 ag ks k=true/\v.fzb=true,.any,[c],[(c,some (.map ag ks (H_ k v es)))]⟩ else none
  |_,_=>none
 |_,_=>none
theorem F2.set{α β:Type}{R:α->β->Prop}{l:List α}{m:List β}(h:F2 R l m):∀(i:Nat) {a:α} {b:β},R a b->F2 R (l.set i a) (m.set i b):=by
 induction h with
 |nil=>intro i a b _;simpa using F2.nil
 |@cons a b l m hab hr ih=>
  intro i x y hxy;cases i with
  |zero=>exact .cons hxy hr
  |succ i=>exact .cons hab (ih i hxy)
theorem F2.snoc{α β:Type}{R:α->β->Prop}{l:List α}{m:List β}(h:F2 R l m){a:α}{b:β}(hab:R a b):F2 R (l++[a]) (m++[b]):=by
 induction h with
 |nil=>exact .cons hab .nil
 |cons h1 _ ih=>exact .cons h1 ih
theorem F2.eraseIdx{α β:Type}{R:α->β->Prop}{l:List α}{m:List β}(h:F2 R l m):∀(i:Nat),F2 R (l.eraseIdx i) (m.eraseIdx i):=by
 induction h with
 |nil=>intro i;simpa using F2.nil
 |@cons a b l m hab hr ih=>
  intro i;cases i with
  |zero=>simpa using hr
  |succ i=>exact .cons hab (ih i)
theorem c6u{ks:List CK}:∀{cs ds:List LV} {vs us:List Value} {μ:d5},x6 ks cs=true->x6 ks ds=true->o6 μ cs vs->o6 μ ds us->I0 cs ds=true->vs=us/\cs=ds:=by
 induction ks with
 |nil=>
  intro cs ds vs us μ h1 h2 r1 r2 _;have e1:=k_ h1;have e2:=k_ h2;obtain rfl:=List.eq_nil_of_length_eq_zero e1;obtain rfl:=List.eq_nil_of_length_eq_zero e2;cases r1;cases r2;exact⟨rfl,rfl⟩
 |cons k ks ih=>
  intro cs ds vs us μ h1 h2 r1 r2 he
  match cs,ds,h1,h2,r1,r2,he with
  |c::cs,e::ds,h1,h2,⟨v,vs,e1,rv,rvs⟩,⟨u,us,e2,ru,rus⟩,he=>
   subst e1 e2;simp only[x6,Bool.and_eq_true] at h1 h2;simp only[I0,Bool.and_eq_true] at he;obtain⟨rfl,rfl⟩:=ih h1.2 h2.2 rvs rus he.2;have:v=u/\c=e:=by
    cases k<;>cases c<;>simp only[L8,Bool.false_eq_true,and_false,false_and,decide_eq_true_eq] at h1<;>cases e<;>simp only[L8,Bool.false_eq_true,and_false,false_and,decide_eq_true_eq] at h2
    ·obtain⟨rfl,_⟩:=h1
     obtain⟨rfl,_⟩:=h2;simp only[U4,beq_iff_eq] at he;simp only[i4] at rv ru;obtain⟨rfl,_⟩:=he;exact⟨by rw[rv,ru],rfl⟩
    ·simp only[U4,beq_iff_eq] at he
     simp only[i4] at rv ru;obtain⟨rfl,_⟩:=he;exact⟨by rw[rv,ru],rfl⟩
    ·simp only[U4,beq_iff_eq] at he
     simp only[i4] at rv ru;obtain⟨rfl,_⟩:=he;exact⟨by rw[rv,ru],rfl⟩
   obtain⟨rfl,rfl⟩:=this;exact⟨rfl,rfl⟩
theorem a8N:∀{ks:List CK} {l:List LV},x6 ks l=true->P7 l=true
 |[],[],_=>rfl
 |k::ks,x::l,h=>by
  simp only[x6,Bool.and_eq_true] at h;simp only[P7,Bool.and_eq_true];refine⟨?_,a8N h.2⟩;have:=h.1;cases k<;>cases x<;>simp[L8] at this<;>rfl
 |[],_::_,h=>by simp[x6] at h
 |_::_,[],h=>by simp[x6] at h
theorem b57{ag:Bool}{ks:List CK}{x:LV}{v:Value}{μ:d5}(h:D9 ag ks x=true)(r:i4 μ x v):D8 μ.fro x v:=by
 refine r.frz ?_;rcases a1i h with⟨_,cs,rfl,hc⟩|⟨_,_,hc⟩
 ·exact a8N hc
 ·have:=a8N hc
  simpa[P7] using this
theorem b0q{ag:Bool}{ks:List CK}{x y:LV}{v u:Value}{μ:d5}(hx:D9 ag ks x=true)(hy:D9 ag ks y=true)(rx:i4 μ x v)(ry:i4 μ y u)(he:B0 x y=true):v=u/\x=y:=by
 obtain⟨cs,vs,f1,r1,rfl,rfl,l1⟩:=a6Z hx rx;obtain⟨ds,us,f2,r2,rfl,rfl,l2⟩:=a6Z hy ry;rw[b5j f1 f2 l1] at he;obtain⟨rfl,rfl⟩:=c6u f1 f2 r1 r2 he;exact⟨rfl,rfl⟩
theorem c6s{k:CK}{c:LV}{v:Value}{μ:d5}(h:L8 k c=true)(r:i4 μ c v)(n:Nat):Instr.sameBits n v v=true:=by
 cases k<;>cases c<;>simp only[L8,Bool.false_eq_true] at h<;>simp only[i4] at r<;>subst r<;>cases n<;>simp[Instr.sameBits,beq_toListBytes]
theorem c6t{ks:List CK}:∀{cs:List LV} {vs:List Value} {μ:d5},x6 ks cs=true->o6 μ cs vs->∀n,∀v∈vs,Instr.sameBits n v v=true:=by
 induction ks with
 |nil=>
  intro cs vs μ h1 r1 n v hv;obtain rfl:=List.eq_nil_of_length_eq_zero (k_ h1);cases r1;cases hv
 |cons k ks ih=>
  intro cs vs μ h1 r1 n v hv
  match cs,h1,r1 with
  |c::cs,h1,⟨u,us,e,ru,rus⟩=>
   subst e;simp only[x6,Bool.and_eq_true] at h1;rcases List.mem_cons.1 hv with rfl|hv
   ·exact c6s h1.1 ru n
   ·exact ih h1.2 rus n v hv
theorem b8p{ag:Bool}{ks:List CK}{x:LV}{v:Value}{μ:d5}(hx:D9 ag ks x=true)(rx:i4 μ x v):Instr.sameBits 10000 v v=true:=by
 obtain⟨cs,vs,f1,r1,rfl,rfl,l1⟩:=a6Z hx rx;have hb:=c6t f1 r1;cases ag with
 |true=>
  show Instr.sameBits (9999+1) (.agg vs.toArray) (.agg vs.toArray)=true;simp only[Instr.sameBits,beq_self_eq_true,Bool.true_and,List.all_eq_true];intro p hp;have:p.1=p.2/\p.1∈vs:=by
   obtain⟨i,hi,e⟩:=List.mem_iff_getElem.1 hp;simp only[List.getElem_zip] at e;subst e;exact⟨rfl,List.getElem_mem _⟩
  obtain⟨e,hm⟩:=this;rw[<-e];exact hb 9999 _ hm
 |false=>
  match cs,l1 rfl,r1 with
  |[c],_,⟨u,us,e,ru,rus⟩=>
   cases rus;subst e;exact hb 10000 u (by simp)
theorem b5e{H:d7}{t:TypeId}{m k v:LV}{vm vk vv:Value}{e:u9}{μ:d5}{w:World}(h:a6K P H t m k v=some e)(hob:e.ob)(hm:i4 μ m vm)(hk:i4 μ k vk)(hv:i4 μ v vv)
  (hp:M6 μ (H.pre e.foot) w):∃w',(Instr.mapUpdate t vm vk vv).run P w=.ok () w' /\A9 μ w (H.pre e.foot) e.up μ w' :=by
 unfold a6K at h;split at h<;>try cases h
 rename_i kt el c hd;split at h<;>try cases h
 rename_i ag ks ag' ks' es hsh ho;split at h<;>cases h;rename_i hc;obtain⟨rfl,rfl⟩:=hc;obtain⟨h1,hvz⟩:D9 ag ks k=true/\v.fzb=true:=hob;have hkf:=b57 h1 hk;have hvf:=hv.frz hvz;obtain⟨p,hpc,rfl⟩:=hm;rw[d7.pre_one ho] at hp⊢;obtain⟨p',hpc',hok⟩:=hp.obj c _ (List.mem_singleton.2 rfl);obtain rfl:=Option.some.inj (hpc'.symm.trans hpc);have hlt:=hok.lt;obtain⟨⟨en,cl,k1,k2,k3,k4⟩,k5⟩:=hok;have hck:=(X_ (w:=w) hsh h1 h1 hk hk).2;have hg:(getObj p'.rb).run P w=.ok (.map en cl) w:=by simp[getObj,Sem.run,k1]
 have hset:∀o,(setObj p'.rb o).run P w=.ok () (A7 w p'.rb o):=by intro o;simp[setObj,Sem.run,k1,A7]
 have hf:=a2f (w:=w) hsh h1 hk k2 k5;cases ha:B4 k es with
 |none=>
  rw[ha] at hf;simp only[Option.bind_none] at hf;refine⟨A7 w p'.rb (.map (en.push {key:=vk,val:=vv,born:=cl}) (cl+1)),?_,?_⟩
  ·simp only[Instr.mapUpdate,Sem.run_bind,w7 hd,Result.andThen_ok,hg,hck,hf,hset]
  ·refine A9.put hpc (List.mem_singleton.2 rfl) rfl hlt ⟨⟨_,_,rfl,?_,?_,?_⟩,?_⟩
   ·rw[a8g,ha,Array.toList_push];exact k2.snoc ⟨hkf,hvf⟩
   ·simp only[Array.toList_push,List.map_append,List.map_cons,List.map_nil]
    rw[List.nodup_append];refine⟨k3,by simp,λa ha b hb=>?_⟩;simp only[List.mem_singleton] at hb;subst hb;obtain⟨x,hx,rfl⟩:=List.mem_map.1 ha;have:=k4 x hx;omega
   ·intro x hx
    simp only[Array.toList_push,List.mem_append,List.mem_singleton] at hx;rcases hx with hx|rfl
    ·have:=k4 x hx;omega
    ·simp
   ·rw[a8g,ha]
    intro x hx;rcases List.mem_append.1 hx with hx|hx
    ·exact k5 x hx
    ·simp only[List.mem_singleton] at hx;subst hx;exact h1
 |some j=>
  obtain⟨hjlt,x,hx,hxe⟩:=a0C ha;obtain⟨b,hb,hab⟩:=k2.get j x hx;rw[ha] at hf;simp only[Option.bind_some,hb,Option.map_some] at hf;have hb' :en[j]?=some b:=by simpa using hb
  have hkeq:=b0q h1 (k5 x (List.mem_of_getElem? hx)) hk hab.1.rel hxe;have hkey:(Instr.keyThatStays (((en[j]?).map (·.key)).getD vk) vk).run P w=.ok vk w:=by
   rw[hb'];simp only[Option.map_some,Option.getD_some,<-hkeq.1,Instr.keyThatStays,b8p h1 hk,if_true,Sem.run_pure]
  refine⟨A7 w p'.rb (.map (en.modify j λe=>{e with key:=vk,val:=vv}) cl),?_,?_⟩
  ·simp only[Instr.mapUpdate,Sem.run_bind,w7 hd,Result.andThen_ok,hg,hck,hf,hkey,hset]
  ·have hmod:(en.modify j λe=>{e with key:=vk,val:=vv}).toList=en.toList.set j {b with key:=vk,val:=vv}:=by
    apply List.ext_getElem?;intro i;rw[Array.getElem?_toList,Array.getElem?_modify,List.getElem?_set];by_cases hij:j=i
    ·subst hij
     have hl:j<en.toList.length:=(List.getElem?_eq_some_iff.1 hb).1;simp only[if_true,hb',Option.map_some,hl]
    ·simp[hij]
   refine A9.put hpc (List.mem_singleton.2 rfl) rfl hlt ⟨⟨_,_,rfl,?_,?_,?_⟩,?_⟩
   ·rw[a8g,ha,hmod];exact k2.set j ⟨hkf,hvf⟩
   ·rw[hmod]
    have:(en.toList.set j {b with key:=vk,val:=vv}).map (·.born)=en.toList.map (·.born):=by
     apply List.ext_getElem?;intro i;simp only[List.getElem?_map,List.getElem?_set];by_cases hij:j=i
     ·subst hij
      have hl:j<en.toList.length:=(List.getElem?_eq_some_iff.1 hb).1;simp only[if_true,hl,hb,Option.map_some]
     ·simp[hij]
    rw[this];exact k3
   ·rw[hmod]
    intro y hy;rcases List.mem_or_eq_of_mem_set hy with hy|rfl
    ·exact k4 y hy
    ·exact k4 b (List.mem_of_getElem? hb)
   ·rw[a8g,ha]
    intro y hy;rcases List.mem_or_eq_of_mem_set hy with hy|rfl
    ·exact k5 y hy
    ·exact h1
theorem b6G{α β:Type}(f:α->β):∀(l:List α) (j:Nat),(l.eraseIdx j).map f=(l.map f).eraseIdx j
 |[],_=>rfl
 |_::_,0=>rfl
 |a::l,j+1=>by simp[b6G f l j]
def b1l(P:Program)(H:d7)(t:TypeId)(m k:LV):Option u9:=
 match F7 P t with
 |some (.map kt _)=>
  match U5 P kt,m with
  |some (ag,ks),.nilmap=>some ⟨D9 ag ks k=true,.tup [],[],[]⟩
  |some (ag,ks),.map c=>
   match H.at c with
   |some (.map ag' ks' es)=>
    if ag=ag' /\ks=ks' then some ⟨D9 ag ks k=true,.tup [],[c],[(c,some (.map ag ks (a1d k es)))]⟩ else none
   |_=>none
  |_,_=>none
 |_=>none
theorem c0y{H:d7}{t ty:TypeId}{ats:Array TypeId}{m k:LV}{vm vk:Value}{e:u9}{μ:d5}{w:World}(h:b1l P H t m k=some e)(hat:ats[0]?=some t)(hob:e.ob)(hm:i4 μ m vm)(hk:i4 μ k vk)
  (hp:M6 μ (H.pre e.foot) w):w5 P (Builtin.delete_ ats ty #[vm,vk]) μ w (H.pre e.foot) e.up e.v:=by
 unfold b1l at h;split at h<;>try cases h
 rename_i kt el hd;split at h<;>try cases h
 ·rename_i ag ks hsh
  have h1:D9 ag ks k=true:=hob;simp only[i4] at hm;subst hm;have hck:=(X_ (w:=w) hsh h1 h1 hk hk).2;refine w5.same (x:=.tuple #[]) ?_ ⟨_,rfl,rfl⟩;simp[Builtin.delete_,hat,w7 hd,hck]
 ·rename_i ag ks c hsh
  split at h<;>try cases h
  rename_i ag' ks' es ho;split at h<;>cases h;rename_i hc;obtain⟨rfl,rfl⟩:=hc;have h1:D9 ag ks k=true:=hob;obtain⟨p,hpc,rfl⟩:=hm;rw[d7.pre_one ho] at hp⊢;obtain⟨p',hpc',hok⟩:=hp.obj c _ (List.mem_singleton.2 rfl);obtain rfl:=Option.some.inj (hpc'.symm.trans hpc);have hlt:=hok.lt;obtain⟨⟨en,cl,k1,k2,k3,k4⟩,k5⟩:=hok;have hck:=(X_ (w:=w) hsh h1 h1 hk hk).2;have hg:(getObj p'.rb).run P w=.ok (.map en cl) w:=by simp[getObj,Sem.run,k1]
  have hset:∀o,(setObj p'.rb o).run P w=.ok () (A7 w p'.rb o):=by intro o;simp[setObj,Sem.run,k1,A7]
  have hf:=a2f (w:=w) hsh h1 hk k2 k5;cases ha:B4 k es with
  |none=>
   rw[ha] at hf;simp only[Option.bind_none] at hf;refine⟨.tuple #[],A7 w p'.rb (.map en cl),μ,?_,⟨_,rfl,rfl⟩,?_⟩
   ·simp[Builtin.delete_,hat,w7 hd,hck,hg,hf,hset]
   ·refine A9.put hpc (List.mem_singleton.2 rfl) rfl hlt ⟨⟨_,_,rfl,?_,k3,k4⟩,?_⟩
    ·rw[a3z,ha];exact k2
    ·rw[a3z,ha];exact k5
  |some j=>
   obtain⟨hjlt,x,hx,hxe⟩:=a0C ha;obtain⟨b,hb,hab⟩:=k2.get j x hx;rw[ha] at hf;simp only[Option.bind_some,hb,Option.map_some] at hf;have her:(en.eraseIdxIfInBounds j).toList=en.toList.eraseIdx j:=by
    have hl:j<en.size:=by have:=(List.getElem?_eq_some_iff.1 hb).1;simpa using this
    simp[Array.eraseIdxIfInBounds,hl]
   refine⟨.tuple #[],A7 w p'.rb (.map (en.eraseIdxIfInBounds j) cl),μ,?_,⟨_,rfl,rfl⟩,?_⟩
   ·simp[Builtin.delete_,hat,w7 hd,hck,hg,hf,hset]
   ·refine A9.put hpc (List.mem_singleton.2 rfl) rfl hlt ⟨⟨_,_,rfl,?_,?_,?_⟩,?_⟩
    ·rw[a3z,ha,her];exact k2.eraseIdx j
    ·rw[her]
     have:(en.toList.eraseIdx j).map (·.born)=(en.toList.map (·.born)).eraseIdx j:=b6G _ _ _;rw[this];exact k3.sublist (List.eraseIdx_sublist _ _)
    ·rw[her]
     intro y hy;exact k4 y (List.mem_of_mem_eraseIdx hy)
    ·rw[a3z,ha]
     intro y hy;exact k5 y (List.mem_of_mem_eraseIdx hy)
end
end Go.Cn
