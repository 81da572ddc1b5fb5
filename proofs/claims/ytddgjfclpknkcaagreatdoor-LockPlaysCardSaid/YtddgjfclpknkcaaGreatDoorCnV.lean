import Derived.Test.YtddgjfclpknkcaaGreatDoorCnM
namespace Go.Cn
open Go
def d5.fz(μ:d5)(b:Nat)(cs:Array Value):d5:=⟨μ.loc,λd=>if d=b then some cs else μ.fro d⟩
theorem d5.fz_ext{μ:d5}{b:Nat}{cs:Array Value}(h:μ.fro b=none):D7 μ (μ.fz b cs):=by
 refine⟨λ_ _ h=>h,λd x hx=>?_⟩;show(if d=b then some cs else μ.fro d)=some x;split
 ·rename_i e;subst e;rw[h] at hx;cases hx
 ·exact hx
def a6s:i9->Nat->Option LO
 |[],_=>none
 |(d,some o)::r,c=>if d=c then some o else a6s r c
 |(_,none)::r,c=>a6s r c
theorem b0D:∀{up:i9} {c:Nat} {o:LO},a6s up c=some o->(c,some o)∈up
 |(d,some o')::r,c,o,h=>by
  simp only[a6s] at h;split at h
  ·rename_i e;cases h;subst e;exact List.mem_cons_self
  ·exact List.mem_cons_of_mem _ (b0D h)
 |(_,none)::r,c,o,h=>List.mem_cons_of_mem _ (b0D (up:=r) h)
def w_(c:Nat):i9->i9
 |[]=>[]
 |(d,o)::r=>(d,if d=c then none else o)::w_ c r
theorem a0b(c d:Nat):∀(up:i9),(w_ c up).has d=up.has d
 |[]=>rfl
 |(x,o)::r=>by simp only[w_,i9.has,List.any_cons];rw[show((w_ c r).any λx=>x.1==d)=r.any λx=>x.1==d from a0b c d r]
theorem J5{c d:Nat}{o:LO}:∀{up:i9},(d,some o)∈w_ c up->(d,some o)∈up/\d≠c
 |(x,o')::r,h=>by
  simp only[w_,List.mem_cons,Prod.mk.injEq] at h;rcases h with⟨rfl,h⟩|h
  ·split at h
   ·cases h
   ·rename_i hne;exact⟨by rw[h];exact List.mem_cons_self,hne⟩
  ·obtain⟨h1,h2⟩:=J5 h
   exact⟨List.mem_cons_of_mem _ h1,h2⟩
def a4x:LO->Option (Nat×Nat×(Nat->List LV))
 | .row sz n f true=>some (sz,n,f)
 | .gr sz n f=>some (sz,n,f)
 |_=>none
theorem b7P{μ:d5}{p:Pl}{h:Option Obj}{o:LO}{sz n:Nat}{f:Nat->List LV}(hr:a4x o=some (sz,n,f))(ho:w9 μ p h o):o.wr=true/\w9 μ p h (.gr sz n f):=by
 unfold a4x at hr;split at hr<;>cases hr
 ·exact⟨rfl,w9.row_gr.1 ho⟩
 ·exact⟨rfl,ho⟩
theorem b3q{μ μ' :d5}{p:Pl}{sz n:Nat}{f:Nat->List LV}{cells:Array Value}{a:Addr}{i m rc:Nat}(hsz:p.sz=sz)(ha:a=p.addr i 0)
  (hel:∀i,i<n->∃vs,o6 μ (f i) vs/\vs.length=sz/\I4 cells (p.off+i * sz) vs/\∀v∈vs,v.oneCell' =true) (hz:∀i,i<n->P7 (f i)=true)
  (hb:μ'.fro p.rb=some cells) (he:D7 μ μ') (hm:i+m<=n) (hrc:m<=rc):i4 μ' (.ds sz m (λq=>f (i+q))) (.slice (some a) m rc):=by
 simp only[i4,D8];refine⟨_,_,rfl,hrc,(λh=>by cases h),λx hx _=>by cases hx;rw[ha];rfl,λq hq=>?_⟩;obtain⟨vs,h1,h2,h3,h4⟩:=hel (i+q) (by omega);refine⟨a,cells,vs,rfl,by rw[ha];exact hb,(h1.mono he).frz (hz (i+q) (by omega)),h2,?_,h4⟩;subst ha;subst hsz;show I4 cells (p.off+i * p.sz+0+q * p.sz) vs;rw[Nat.add_mul] at h3;rw[show p.off+i * p.sz+0+q * p.sz=p.off+(i * p.sz+q * p.sz) from by omega];exact h3
theorem a8B{μ:d5}{sz:Nat}{f:Nat->List LV}:i4 μ (.ds sz 0 f) (.slice none 0 0):=by
 simp only[i4,D8];exact⟨_,_,rfl,Nat.le_refl _,(λ_=>rfl),(λ_ h=>by cases h),λi hi=>by omega⟩
theorem b46{μ:d5}{sz:Nat}{f:Nat->List LV}{a:Addr}{rc:Nat}(h:a.spot=none):i4 μ (.ds sz 0 f) (.slice (some a) 0 rc):=by
 simp only[i4,D8];exact⟨_,_,rfl,Nat.zero_le _,(λh=>by cases h),(λ_ h' _=>by cases h';exact h),λi hi=>by omega⟩
def b1L(up:i9):LV->Option (Prop×LV×Nat)
 | .gs c n=>match a6s up c with
  |some o=>match a4x o with
   |some (sz,m,f)=>some (n<=m/\∀i,i<m->P7 (f i)=true,.ds sz n f,c)
   |none=>none
  |none=>none
 | .sl c 0 0 false n _=>match a6s up c with
  |some o=>match a4x o with
   |some (sz,m,f)=>some (n<=m/\∀i,i<m->P7 (f i)=true,.ds sz n f,c)
   |none=>none
  |none=>none
 |_=>none
theorem A9.freeze{μ μ' :d5}{w w' :World}{pre:u6}{up:i9}{c:Nat}{o:LO}{p:Pl}{cells:Array Value}{E:TypeId}{fr:Nat×Nat}(d:A9 μ w pre up μ' w')(hf:a8j μ pre w)(hc:(c,some o)∈up)(hw:o.wr=true)(hp:μ' c=some p)
  (hb:w'.heap[p.rb]?=some (.cells cells E fr)):A9 μ w pre (w_ c up) (μ'.fz p.rb cells) w' where
 ext:=d.ext.trans (d5.fz_ext (d.frs hf c o p hc hw hp))
 dom:=λe q h=>(d.dom e q h).imp id (λ⟨h1,h2⟩=>⟨by rw[a0b];exact h1,h2⟩)
 os:=d.os
 tape:=d.tape
 output:=d.output
 draws:=d.draws
 grow:=d.grow
 keep:=λb hb hk=>d.keep b hb (λc0 o0 p0 h1 h2 h3=>hk c0 o0 p0 h1 h2 (by rw[a0b];exact h3))
 obj:=λe q h=>by
  obtain⟨h1,h2⟩:=J5 h;exact(d.obj e q h1).imp id (λ⟨r,x,y⟩=>⟨r,x,y.mono (d5.fz_ext (d.frs hf c o p hc hw hp))⟩)
 place:=λe q r h hr=>(d.place e q r (J5 h).1 hr).imp id (λ⟨c0,o0,p0,g1,g2,g3,g4⟩=>⟨c0,o0,p0,g1,g2,by rw[a0b];exact g3,g4⟩)
 sep:=λe q e' q' r r' h h' =>d.sep e q e' q' r r' (J5 h).1 (J5 h').1
 frn:=λb cs h=>by
  have h:(if b=p.rb then some cells else μ'.fro b)=some cs:=h;split at h
  ·rename_i e
   cases h;subst e;refine .inr ⟨⟨E,fr,hb⟩,(d.place c o p hc hp).imp id (λ⟨c0,o0,p0,g1,g2,g3,g4⟩=>⟨c0,o0,p0,g1,g2,by rw[a0b];exact g3,g4⟩)⟩
  ·exact(d.frn b cs h).imp id (λ⟨h1,h2⟩=>⟨h1,h2.imp id (λ⟨c0,o0,p0,g1,g2,g3,g4⟩=>⟨c0,o0,p0,g1,g2,by rw[a0b];exact g3,g4⟩)⟩)
 frs:=λhf' e q r h hwq hr=>by
  obtain⟨h1,h2⟩:=J5 h;show(if r.rb=p.rb then some cells else μ'.fro r.rb)=none;rw[if_neg (d.sep e q c o r p h1 hc h2 (.inl hwq) hr hp)];exact d.frs hf' e q r h1 hwq hr
theorem A9.voidDrop{μ μ' :d5}{w w' :World}{pre:u6}{up:i9}(c:Nat)(d:A9 μ w pre up μ' w'):A9 μ w pre (w_ c up) μ' w' :=
 d.swap (λ_ o h hw=>⟨o,h,hw⟩) (λ_ o h=>⟨o,(J5 h).1,id,id,λ_ _=>id⟩) (λe h=>by rw[a0b];exact h)
theorem a1T{μ:d5}{w:World}{pre:u6}{up:i9}{c b:Nat}:I5 μ w pre (w_ c up) b↔I5 μ w pre up b:=by
 constructor<;>rintro⟨e,o,p,h1,h2,h3,h4⟩
 ·exact⟨e,o,p,h1,h2,by rw[a0b] at h3;exact h3,h4⟩
 ·exact⟨e,o,p,h1,h2,by rw[a0b];exact h3,h4⟩
theorem y0.freeze{μ μ' :d5}{w w' :World}{pre:u6}{up:i9}{c:Nat}{o:LO}{p:Pl}{cells:Array Value}{E:TypeId}{fr:Nat×Nat}(d:y0 μ w pre up μ' w')(hf:X7 μ pre w)(hc:(c,some o)∈up)(hw:o.wr=true)(hp:μ' c=some p)
  (hb:w'.heap[p.rb]?=some (.cells cells E fr)):y0 μ w pre (w_ c up) (μ'.fz p.rb cells) w' :=
 have he:=d5.fz_ext (cs:=cells) (d.frs hf c o p hc hw hp);have hxb:∀e q r b,(e,some q)∈up->μ' e=some r->s9 (μ'.fz p.rb cells) w' r q b->s9 μ' w' r q b:=λe q r b h1 h2 hx=>s9.back (d.xok e q r h1 h2) he rfl hx
 {ext:=d.ext.trans he
  dom:=λe q h=>(d.dom e q h).imp id (λ⟨h1,h2⟩=>⟨by rw[a0b];exact h1,h2⟩)
  os:=d.os
  tape:=d.tape
  output:=d.output
  draws:=d.draws
  grow:=d.grow
  keep:=λb hb hk=>d.keep b hb (λt=>hk (a1T.2 t))
  obj:=λe q h=>by
   obtain⟨h1,h2⟩:=J5 h;exact(d.obj e q h1).imp id (λ⟨r,x,y⟩=>⟨r,x,y.mono he⟩)
  place:=λe q r h hr=>(d.place e q r (J5 h).1 hr).imp id a1T.2
  sep:=λe q e' q' r r' h h' =>d.sep e q e' q' r r' (J5 h).1 (J5 h').1
  frn:=λb cs h=>by
   have h:(if b=p.rb then some cells else μ'.fro b)=some cs:=h;split at h
   ·rename_i e
    cases h;subst e;exact .inr ⟨⟨E,fr,hb⟩,(d.place c o p hc hp).imp id a1T.2⟩
   ·exact(d.frn b cs h).imp id (λ⟨h1,h2⟩=>⟨h1,h2.imp id a1T.2⟩)
  frs:=λhf' e q r h hwq hr=>by
   obtain⟨h1,h2⟩:=J5 h;show(if r.rb=p.rb then some cells else μ'.fro r.rb)=none;rw[if_neg (d.sep e q c o r p h1 hc h2 (.inl hwq) hr hp)];exact d.frs hf' e q r h1 hwq hr
  xok:=λe q r h hr=>(d.xok e q r (J5 h).1 hr).keep he rfl (λ_ _=>rfl)
  xplace:=λe q r b h hr hx=>(d.xplace e q r b (J5 h).1 hr (hxb e q r b (J5 h).1 hr hx)).imp id a1T.2
  xsep:=λe q r b e' q' r' h hr hx h' hr' =>by
   have:=d.xsep e q r b e' q' r' (J5 h).1 hr (hxb e q r b (J5 h).1 hr hx) (J5 h').1 hr';exact⟨this.1,λhne hx' =>this.2 hne (hxb e' q' r' b (J5 h').1 hr' hx')⟩
  xfrs:=λhf' e q r b h hr hx=>by
   have hx0:=hxb e q r b (J5 h).1 hr hx;show(if b=p.rb then some cells else μ'.fro b)=none;rw[if_neg (λe1=>(d.xsep e q r b c o p (J5 h).1 hr hx0 hc hp).1 e1.symm)];exact d.xfrs hf' e q r b (J5 h).1 hr hx0}
theorem y0.voidDrop{μ μ' :d5}{w w' :World}{pre:u6}{up:i9}(c:Nat)(d:y0 μ w pre up μ' w'):y0 μ w pre (w_ c up) μ' w' :=
 {d with
  dom:=λe q h=>(d.dom e q h).imp id (λ⟨h1,h2⟩=>⟨by rw[a0b];exact h1,h2⟩)
  keep:=λb hb hk=>d.keep b hb (λt=>hk (a1T.2 t))
  obj:=λe q h=>d.obj e q (J5 h).1
  place:=λe q r h hr=>(d.place e q r (J5 h).1 hr).imp id a1T.2
  sep:=λe q e' q' r r' h h' =>d.sep e q e' q' r r' (J5 h).1 (J5 h').1
  frn:=λb cs h=>(d.frn b cs h).imp id (λ⟨h1,h2⟩=>⟨h1,h2.imp id a1T.2⟩)
  frs:=λhf e q r h=>d.frs hf e q r (J5 h).1
  xok:=λe q r h=>d.xok e q r (J5 h).1
  xplace:=λe q r b h hr hx=>(d.xplace e q r b (J5 h).1 hr hx).imp id a1T.2
  xsep:=λe q r b e' q' r' h hr hx h' =>d.xsep e q r b e' q' r' (J5 h).1 hr hx (J5 h').1
  xfrs:=λhf e q r b h=>d.xfrs hf e q r b (J5 h).1}
theorem c08{μ μ' :d5}{w w' :World}{pre:u6}{up:i9}{v u:LV}{c:Nat}{q:Prop}{x:Value}(h:b1L up v=some (q,u,c))(hq:q)(d:y0 μ w pre up μ' w')(hf:X7 μ pre w)(hx:i4 μ' v x):
  ∃μ'',y0 μ w pre (w_ c up) μ'' w' /\i4 μ'' u x:=by
 have key:∀(c m n:Nat) (sz:Nat) (f:Nat->List LV) (o:LO),(c,some o)∈up->a4x o=some (sz,m,f)->n<=m->(∀i,i<m->P7 (f i)=true)->
   (n=0/\(x=.slice none 0 0\/∃a rc,a.spot=none/\x=.slice (some a) 0 rc)\/∃p rc,μ' c=some p/\x=.slice (some (p.addr 0 0)) n rc/\n<=rc)->∃μ'',y0 μ w pre (w_ c up) μ'' w' /\i4 μ'' (.ds sz n f) x:=by
  intro c m n sz f o hm hr hn hz hv;rcases hv with⟨rfl,rfl|⟨a,rc,hsp,rfl⟩⟩|⟨p,rc,hpc,rfl,hrc⟩
  ·exact⟨μ',d.voidDrop c,a8B⟩
  ·exact⟨μ',d.voidDrop c,b46 hsp⟩
  ·rcases d.obj c o hm with⟨h1,_⟩|⟨p',hp',hok⟩
   ·rw[h1] at hpc;cases hpc
   obtain rfl:=Option.some.inj (hp'.symm.trans hpc);obtain⟨hw,k1,k2,cells,E,fr,k3,k4,k5,k6⟩:=b7P hr hok;refine⟨_,d.freeze hf hm hw hpc k3,?_⟩;have:=b3q (μ:=μ') (μ' :=μ'.fz p'.rb cells) (p:=p') (i:=0) (m:=n) (rc:=rc) k1 rfl k6 hz (by simp[d5.fz]) (d5.fz_ext (d.frs hf c o p' hm hw hpc)) (by omega) hrc;have e:(λq=>f (0+q))=f:=by funext q;rw[Nat.zero_add]
   rwa [e] at this
 unfold b1L at h;split at h<;>try cases h
 ·rename_i c' n
  split at h<;>try cases h
  rename_i o ho;split at h<;>cases h;rename_i sz m f hr;refine key _ m n sz f o (b0D ho) hr hq.1 hq.2 ?_;rcases hx with⟨h0,rfl⟩|⟨_,p,rc,hpc,rfl,h1,_⟩
  ·exact .inl ⟨h0,.inl rfl⟩
  ·exact .inr ⟨p,rc,hpc,rfl,h1⟩
 ·rename_i c' n cap
  split at h<;>try cases h
  rename_i o ho;split at h<;>cases h;rename_i sz m f hr;refine key _ m n sz f o (b0D ho) hr hq.1 hq.2 ?_;obtain⟨p,a,rc,hpc,rfl,hlen,_,hsp,_,haddr,_⟩:=hx;by_cases h0:n=0
  ·subst h0;exact .inl ⟨rfl,.inr ⟨a,rc,hsp,rfl⟩⟩
  ·have:=haddr (by omega)
   subst this;exact .inr ⟨p,rc,hpc,rfl,hlen⟩
def X6:List Prop->Prop
 |[]=>True
 |p::r=>p/\X6 r
theorem a3m:∀{a b:List Prop},X6 (a++b)->X6 a/\X6 b
 |[],_,h=>⟨trivial,h⟩
 |_::_,_,h=>by
  have:=a3m h.2;exact⟨⟨h.1,this.1⟩,this.2⟩
mutual
def L3(c sz m:Nat)(f:Nat->List LV):LV->List Prop×LV
 | .gs d n=>if d=c then([n<=m],.ds sz n f) else([],.gs d n)
 | .sl d i 0 false n cap=>if d=c then([i+n<=m],.ds sz n (λq=>f (i+q))) else([],.sl d i 0 false n cap)
 | .agg cs=>((M8 c sz m f cs).1,.agg (M8 c sz m f cs).2)
 | .tup cs=>((M8 c sz m f cs).1,.tup (M8 c sz m f cs).2)
 | .int k n=>([],.int k n)
 | .bool b=>([],.bool b)
 | .str l=>([],.str l)
 | .nilptr=>([],.nilptr)
 | .ptr c i j=>([],.ptr c i j)
 | .nilsl=>([],.nilsl)
 | .sl d i j inn n cap=>([],.sl d i j inn n cap)
 | .nilmap=>([],.nilmap)
 | .map c=>([],.map c)
 | .fn g a b=>([],.fn g a b)
 | .nilfn=>([],.nilfn)
 | .ds a b g=>([],.ds a b g)
 | .dp cs=>([],.dp cs)
 | .dn a b g=>([],.dn a b g)
 | .any=>([],.any)
 | .stamp d=>([],.stamp d)
def M8(c sz m:Nat)(f:Nat->List LV):List LV->List Prop×List LV
 |[]=>([],[])
 |x::r=>((L3 c sz m f x).1++(M8 c sz m f r).1,(L3 c sz m f x).2::(M8 c sz m f r).2)
end
theorem a8P{c sz m:Nat}{f:Nat->List LV}:∀(l:List LV),(M8 c sz m f l).2.length=l.length
 |[]=>by simp[M8]
 |x::r=>by simp[M8,a8P r]
def a4P(μ μ' :d5)(c sz m:Nat)(f:Nat->List LV):Prop:=
 D7 μ μ' /\∀p,μ c=some p->p.sz=sz/\∃cells,μ'.fro p.rb=some cells/\(∀i,i<m->P7 (f i)=true)/\
  ∀i,i<m->∃vs,o6 μ (f i) vs/\vs.length=sz/\I4 cells (p.off+i * sz) vs/\∀v∈vs,v.oneCell' =true
mutual
theorem b5J{μ μ' :d5}{c sz m:Nat}{f:Nat->List LV}(h:a4P μ μ' c sz m f):∀(v:LV) (x:Value),X6 (L3 c sz m f v).1->i4 μ v x->i4 μ' (L3 c sz m f v).2 x
 | .gs d n,x,hq,hr=>by
  simp only[L3] at hq⊢;split
  ·rename_i e
   subst e;rw[if_pos rfl] at hq;have hq:=hq.1;rcases hr with⟨rfl,rfl⟩|⟨_,p,rc,hpc,rfl,h1,h2⟩
   ·exact a8B
   ·obtain⟨k1,cells,k2,k3,k4⟩:=h.2 p hpc
    have:=b3q (i:=0) (m:=n) (rc:=rc) k1 rfl k4 k3 k2 h.1 (by omega) h1;have e:(λq=>f (0+q))=f:=by funext q;rw[Nat.zero_add]
    rwa [e] at this
  ·exact i4.mono h.1 hr
 | .sl d i 0 false n cap,x,hq,hr=>by
  simp only[L3] at hq⊢;split
  ·rename_i e
   subst e;rw[if_pos rfl] at hq;have hq:=hq.1;obtain⟨p,a,rc,hpc,rfl,hlen,_,hsp,_,haddr,_⟩:=hr;by_cases h0:n=0
   ·subst h0;exact b46 hsp
   ·have:=haddr (by omega)
    obtain⟨k1,cells,k2,k3,k4⟩:=h.2 p hpc;exact b3q k1 this k4 k3 k2 h.1 hq hlen
  ·exact i4.mono h.1 hr
 | .sl d i (j+1) inn n cap,x,hq,hr=>by
  simp only[L3];exact i4.mono h.1 hr
 | .sl d i 0 true n cap,x,hq,hr=>by
  simp only[L3];exact i4.mono h.1 hr
 | .agg cs,x,hq,⟨vs,e,r⟩=>by
  simp only[L3] at hq⊢;exact⟨vs,e,a6P h cs vs.toList hq r⟩
 | .tup cs,x,hq,⟨vs,e,r⟩=>by
  simp only[L3] at hq⊢;exact⟨vs,e,a6P h cs vs.toList hq r⟩
 | .int ..,x,_,hr=>by simp only[L3];exact hr
 | .bool ..,x,_,hr=>by simp only[L3];exact hr
 | .str ..,x,_,hr=>by simp only[L3];exact hr
 | .nilptr,x,_,hr=>by simp only[L3];exact hr
 | .ptr ..,x,_,hr=>by simp only[L3];exact i4.mono h.1 hr
 | .nilsl,x,_,hr=>by simp only[L3];exact hr
 | .nilmap,x,_,hr=>by simp only[L3];exact hr
 | .map _,x,_,hr=>by simp only[L3];exact i4.mono h.1 hr
 | .fn ..,x,_,hr=>by simp only[L3];exact i4.mono h.1 hr
 | .nilfn,x,_,hr=>by simp only[L3];exact hr
 | .ds ..,x,_,hr=>by simp only[L3];exact i4.mono h.1 hr
 | .dp ..,x,_,hr=>by simp only[L3];exact i4.mono h.1 hr
 | .dn ..,x,_,hr=>by simp only[L3];exact i4.mono h.1 hr
 | .any,x,_,hr=>by simp only[L3,i4]
 | .stamp _,x,_,hr=>by simp only[L3];exact i4.mono h.1 hr
theorem a6P{μ μ' :d5}{c sz m:Nat}{f:Nat->List LV}(h:a4P μ μ' c sz m f):∀(v:List LV) (x:List Value),X6 (M8 c sz m f v).1->o6 μ v x->o6 μ' (M8 c sz m f v).2 x
 |[],_,_,r=>by simp only[M8];exact r
 |y::l,_,hq,⟨v,r,e,a,b⟩=>by
  simp only[M8] at hq⊢;have hq:=a3m hq;exact⟨v,r,e,b5J h y v hq.1 a,a6P h l r hq.2 b⟩
end
def O7(c sz m:Nat)(f:Nat->List LV):Option LO->List Prop×Option LO
 |some (.var cs)=>((M8 c sz m f cs).1,some (.var (M8 c sz m f cs).2))
 |some (.row s n g wr)=>([∀q,q<n->X6 (M8 c sz m f (g q)).1],some (.row s n (λq=>(M8 c sz m f (g q)).2) wr))
 |o=>([],o)
def W7(c sz m:Nat)(f:Nat->List LV):d7->List Prop×d7
 |[]=>([],[])
 |o::r=>((O7 c sz m f o).1++(W7 c sz m f r).1,(O7 c sz m f o).2::(W7 c sz m f r).2)
theorem b5I{c sz m:Nat}{f:Nat->List LV}:∀(H:d7),(W7 c sz m f H).2.length=H.length
 |[]=>rfl
 |o::r=>by simp[W7,b5I r]
theorem b5H{c sz m:Nat}{f:Nat->List LV}:∀(H:d7) (d:Nat),(W7 c sz m f H).2.at d=(O7 c sz m f (H.at d)).2/\(X6 (W7 c sz m f H).1->X6 (O7 c sz m f (H.at d)).1)
 |[],d=>by simp[W7,d7.at,O7]
 |o::r,0=>⟨rfl,λh=>(a3m h).1⟩
 |o::r,d+1=>by
  have:=b5H (c:=c) (sz:=sz) (m:=m) (f:=f) r d;have e1:(W7 c sz m f (o::r)).2.at (d+1)=(W7 c sz m f r).2.at d:=rfl;have e2:d7.at (o::r) (d+1)=d7.at r d:=rfl;rw[e1,e2];exact⟨this.1,λh=>this.2 (a3m h).2⟩
def a6O(c:Nat)(T:List LV)(H:d7):Option (Prop×List LV×d7):=
 match H.at c with
 |some o=>match a4x o with
  |some (sz,m,f)=>some ((∀i,i<m->P7 (f i)=true)/\X6 ((M8 c sz m f T).1++(W7 c sz m f H).1),(M8 c sz m f T).2,(W7 c sz m f H).2.put c none)
  |none=>none
 |none=>none
theorem H7.freeze{w0:World}{W:Nat->Prop}{μ:d5}{H:d7}{w:World}{c sz m:Nat}{f:Nat->List LV}{o:LO}(s:H7 w0 W μ H w)(hc:H.at c=some o)(hr:a4x o=some (sz,m,f))(hz:∀i,i<m->P7 (f i)=true)
  (hH:X6 (W7 c sz m f H).1):∃μ',a4P μ μ' c sz m f/\μ'.loc=μ.loc/\(∀b cs,μ'.fro b=some cs->μ.fro b=some cs\/W b\/w0.heap.size<=b)/\H7 w0 W μ' ((W7 c sz m f H).2.put c none) w:=by
 have objs:∀{μ' :d5} (hF:a4P μ μ' c sz m f) (hl:μ'.loc=μ.loc) (hfr:∀b cs,μ'.fro b=some cs->∃E fr,w.heap[b]?=some (.cells cs E fr))
   (hfs:∀e x q,e≠c->H.at e=some x->x.wr=true->μ e=some q->μ'.fro q.rb=none) (hxf:∀e x q b,e≠c->H.at e=some x->μ e=some q->s9 μ w q x b->μ'.fro b=none) (htb:a0d μ'.fro),H7 w0 W μ' ((W7 c sz m f H).2.put c none) w:=by
  intro μ' hF hl hfr hfs hxf htb;have hloc:∀d,μ' d=μ d:=λd=>congrFun hl d;have at' :∀d x,((W7 c sz m f H).2.put c none).at d=some x->d≠c/\∃y,H.at d=some y/\x.wr=y.wr/\(y.void->x.void)/\(∀p h,w9 μ p h y->w9 μ' p h x)/\(x=y\/x.plain=true/\y.plain=true):=by
   intro d x hx;rw[d7.at_put] at hx;split at hx
   ·cases hx
   rename_i hne;refine⟨hne,?_⟩;obtain⟨h1,h2⟩:=b5H (c:=c) (sz:=sz) (m:=m) (f:=f) H d;rw[h1] at hx;have h3:=h2 hH;cases hy:H.at d with
   |none=>rw[hy] at hx;simp[O7] at hx
   |some y=>
    rw[hy] at hx h3;refine⟨y,rfl,?_⟩;cases y with
    |var cs=>
     simp only[O7,Option.some.injEq] at hx h3;subst hx;exact⟨rfl,id,λp h ⟨k1,k2,cells,E,fr,k3,k4,k5,vs,k6,k7⟩=>⟨k1,by rw[a8P];exact k2,cells,E,fr,k3,k4,k5,vs,a6P hF cs vs h3 k6,k7⟩,.inr ⟨rfl,rfl⟩⟩
    |row _ _ g _=>
     simp only[O7,Option.some.injEq] at hx h3;subst hx;refine⟨rfl,id,λp h ⟨k1,k2,cells,E,fr,k3,k4,k5,k6⟩=>⟨k1,k2,cells,E,fr,k3,k4,k5,λi hi=>?_⟩,.inr ⟨rfl,rfl⟩⟩;obtain⟨vs,j1,j2⟩:=k6 i hi;exact⟨vs,a6P hF _ _ (h3.1 i hi) j1,j2⟩
    |map _ _ _=>simp only[O7,Option.some.injEq] at hx;subst hx;exact⟨rfl,id,λp h k=>k.mono hF.1,.inl rfl⟩
    |gr _ _ _=>simp only[O7,Option.some.injEq] at hx;subst hx;exact⟨rfl,id,λp h k=>k.mono hF.1,.inl rfl⟩
    |mapP _ _ _ _ _=>simp only[O7,Option.some.injEq] at hx;subst hx;exact⟨rfl,id,λp h k=>k.mono hF.1,.inl rfl⟩
    |sit _ _=>simp only[O7,Option.some.injEq] at hx;subst hx;exact⟨rfl,id,λp h k=>k,.inl rfl⟩
    |bld E d n=>simp only[O7,Option.some.injEq] at hx;subst hx;exact⟨rfl,id,λp h k=>k.mono hF.1,.inl rfl⟩
    |tg _ _=>simp only[O7,Option.some.injEq] at hx;subst hx;exact⟨rfl,id,λp h k=>k,.inl rfl⟩
    |pm _ _ _ _=>simp only[O7,Option.some.injEq] at hx;subst hx;exact⟨rfl,id,λp h k=>k.mono hF.1,.inl rfl⟩
    |vw _ _ _ _ _ _=>simp only[O7,Option.some.injEq] at hx;subst hx;exact⟨rfl,id,λp h k=>k.mono hF.1,.inl rfl⟩
    |mit _ _ _ _ _ _=>simp only[O7,Option.some.injEq] at hx;subst hx;exact⟨rfl,id,λp h k=>k.mono hF.1,.inl rfl⟩
    |mapR _ _ _=>simp only[O7,Option.some.injEq] at hx;subst hx;exact⟨rfl,id,λp h k=>k.mono hF.1,.inl rfl⟩
    |bag _ _=>simp only[O7,Option.some.injEq] at hx;subst hx;exact⟨rfl,id,λp h k=>k.mono hF.1,.inl rfl⟩
    |mapq _ _ _=>simp only[O7,Option.some.injEq] at hx;subst hx;exact⟨rfl,id,λp h k=>k.mono hF.1,.inl rfl⟩
    |vwr _ _ _=>simp only[O7,Option.some.injEq] at hx;subst hx;exact⟨rfl,id,λp h k=>k.mono hF.1,.inl rfl⟩
    |mapO _ _ _ _ _ _=>simp only[O7,Option.some.injEq] at hx;subst hx;exact⟨rfl,id,λp h k=>k.mono hF.1,.inl rfl⟩
  refine⟨?_,?_,s.os,s.tape,s.output,s.draws,s.grow,s.keep,?_,hfr,?_,htb,?_,?_,?_,?_⟩
  ·intro d x hx
   obtain⟨_,y,h1,h2,h3,h4,_⟩:=at' d x hx;rw[hloc d];exact(s.obj' d y h1).imp (λ⟨a,b⟩=>⟨a,h3 b⟩) (λ⟨p,a,b⟩=>⟨p,a,h4 _ _ b⟩)
  ·intro d x d' x' p p' hx hx' hne hw hp hp'
   obtain⟨_,y,h1,h2,_⟩:=at' d x hx;obtain⟨_,y',h1',h2',_⟩:=at' d' x' hx';rw[hloc] at hp hp';exact s.sep d y d' y' p p' h1 h1' hne (by rw[<-h2,<-h2'];exact hw) hp hp'
  ·intro d x p hx hw hp
   obtain⟨_,y,h1,h2,_⟩:=at' d x hx;rw[hloc] at hp;exact s.own d y p h1 (by rw[<-h2];exact hw) hp
  ·intro d x p hx hw hp
   obtain⟨hne,y,h1,h2,_⟩:=at' d x hx;rw[hloc] at hp;exact hfs d y p hne h1 (by rw[<-h2];exact hw) hp
  ·intro d x p hx hp
   obtain⟨_,y,h1,h2,_,_,h5⟩:=at' d x hx;rw[hloc] at hp;rcases h5 with rfl|⟨h5,_⟩
   ·exact(s.xok d x p h1 hp).keep hF.1 rfl (λ_ _=>rfl)
   ·exact D3.plain h5
  ·intro d x p b d' x' p' hx hp hxt hx' hp'
   obtain⟨_,y,h1,h2,_,_,h5⟩:=at' d x hx;obtain⟨_,y',h1',h2',_,_,h5'⟩:=at' d' x' hx';rw[hloc] at hp hp';rcases h5 with rfl|⟨h5,_⟩
   ·have h0:=s9.back (s.xok d x p h1 hp) hF.1 rfl hxt
    have:=s.xsep d x p b d' y' p' h1 hp h0 h1' hp';refine⟨this.1,λhne hxt' =>?_⟩;rcases h5' with rfl|⟨h5',_⟩
    ·exact this.2 hne (s9.back (s.xok d' x' p' h1' hp') hF.1 rfl hxt')
    ·exact s9.plain h5' hxt'
   ·exact absurd hxt (s9.plain h5)
  ·intro d x p b hx hp hxt
   obtain⟨_,y,h1,h2,_,_,h5⟩:=at' d x hx;rw[hloc] at hp;rcases h5 with rfl|⟨h5,_⟩
   ·exact s.xown d x p b h1 hp (s9.back (s.xok d x p h1 hp) hF.1 rfl hxt)
   ·exact absurd hxt (s9.plain h5)
  ·intro d x p b hx hp hxt
   obtain⟨hne,y,h1,h2,_,_,h5⟩:=at' d x hx;rw[hloc] at hp;rcases h5 with rfl|⟨h5,_⟩
   ·exact hxf d x p b hne h1 hp (s9.back (s.xok d x p h1 hp) hF.1 rfl hxt)
   ·exact absurd hxt (s9.plain h5)
 cases hpc:μ c with
 |none=>
  have hF:a4P μ μ c sz m f:=⟨D7.refl μ,λp hp=>by rw[hpc] at hp;cases hp⟩
  exact⟨μ,hF,rfl,λ_ _ h=> .inl h,objs hF rfl s.fro (λe x q _ h1 h2 h3=>s.frs e x q h1 h2 h3) (λe x q b _ h1 h2 h3=>s.xfrs e x q b h1 h2 h3) s.tab⟩
 |some p=>
  have hok:=s.placed hc hpc;obtain⟨hw,k1,k2,cells,E,fr,k3,k4,k5,k6⟩:=b7P hr hok;have hfn:=s.frs c o p hc hw hpc;have hF:a4P μ (μ.fz p.rb cells) c sz m f:=by
   refine⟨d5.fz_ext hfn,λp' hp' =>?_⟩;rw[hpc] at hp';cases hp';exact⟨k1,cells,by simp[d5.fz],hz,k6⟩
  refine⟨_,hF,rfl,?_,objs hF rfl ?_ ?_ ?_ (s.tab.mono hF.1.fro)⟩
  ·intro b cs hb
   have hb:(if b=p.rb then some cells else μ.fro b)=some cs:=hb;split at hb
   ·rename_i e;subst e;exact .inr (s.own c o p hc hw hpc)
   ·exact .inl hb
  ·intro b cs hb
   have hb:(if b=p.rb then some cells else μ.fro b)=some cs:=hb;split at hb
   ·rename_i e;cases hb;subst e;exact⟨E,fr,k3⟩
   ·exact s.fro b cs hb
  ·intro e x q hne h1 h2 h3
   show(if q.rb=p.rb then some cells else μ.fro q.rb)=none;rw[if_neg (s.sep e x c o q p h1 hc hne (.inl h2) h3 hpc)];exact s.frs e x q h1 h2 h3
  ·intro e x q b hne h1 h2 h3
   show(if b=p.rb then some cells else μ.fro b)=none;rw[if_neg (λe1=>(s.xsep e x q b c o p h1 h2 h3 hc hpc).1 e1.symm)];exact s.xfrs e x q b h1 h2 h3
end Go.Cn
