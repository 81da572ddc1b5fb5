import Derived.Test.YtddgjfclpknkcaaGreatDoorCnJ
namespace Go.Cn
open Go
section
variable {P:Program}
def Z7(H:d7)(s:Nat):LV->Option (Prop×Nat×(Nat->List LV)×List Nat)
 | .nilsl=>some (True,0,λ_=>[],[])
 | .sl c i _ false n _=>
  match H.at c with
  |some (.row sz m f _)=>some (sz=s/\i+n<=m,n,λq=>f (i+q),[c])
  |_=>none
 | .sl c i j true n _=>
  match H.at c with
  |some (.var cs)=>some (i=0/\j+n * s<=cs.length,n,λq=>(cs.drop (j+q * s)).take s,[c])
  |_=>none
 | .gs c n=>
  match H.at c with
  |some (.gr sz m f)=>some (sz=s/\n<=m,n,f,[c])
  |_=>none
 | .ds sz n f=>some (sz=s,n,f,[])
 | .dn sz n f=>some (sz=s,n,f,[])
 | .str l=>some (s=1,l.length,λq=>[.int .u8 (l.getD q 0).toNat],[])
 |_=>none
theorem a9g{cs:Array Value}{o n:Nat}(h:o+n<=cs.size):I4 cs o ((cs.toList.drop o).take n):=by
 intro j v hj;rw[List.getElem?_take] at hj;split at hj
 ·rw[List.getElem?_drop] at hj;simpa using hj
 ·cases hj
theorem a9f{cs:Array Value}{o n a:Nat}{us:List Value}(hl:I4 cs (o+a) us)(h1:a+us.length<=n)(h:o+n<=cs.size):I4 ((cs.toList.drop o).take n).toArray a us:=by
 intro j v hj;have hjl:j<us.length:=(List.getElem?_eq_some_iff.1 hj).1;have:=hl j v hj;simp only[List.getElem?_toArray,List.getElem?_take,List.getElem?_drop];rw[if_pos (by omega)];rw[show o+(a+j)=o+a+j from by omega];simpa using this
def V8(μ:d5)(g:Nat->List LV)(s n:Nat)(cells:Array Value):Prop:=
 cells.size=n * s/\∀q,q<n->∃us,o6 μ (g q) us/\us.length=s/\I4 cells (q * s) us/\∀v∈us,v.oneCell' =true
theorem a2x{q n s:Nat}(h:q<n):q * s+s<=n * s:=by
 have:(q+1) * s<=n * s:=Nat.mul_le_mul_right _ (by omega);rw[Nat.add_mul,Nat.one_mul] at this;exact this
theorem b8N{H:d7}{s:Nat}{x:LV}{q:Prop}{n:Nat}{g:Nat->List LV}{ft:List Nat}{μ:d5}{w:World}{vx:Value}{pre:u6}(h:Z7 H s x=some (q,n,g,ft))(hq:q)(hx:i4 μ x vx)
  (hd:∀sz n f,x≠ .dn sz n f) (hp:M6 μ pre w) (hin:∀c o,c∈ft->H.at c=some o->(c,o)∈pre):
  ∃cells,(∀w' :World,w'.heap=w.heap->(Builtin.firstCells s n vx).run P w' =.ok cells w')/\(∀w' :World,(Builtin.lenOf vx).run P w' =.ok n w')/\V8 μ g s n cells:=by
 unfold Z7 at h;split at h<;>try cases h
 ·simp only[i4] at hx;subst hx
  exact⟨#[],λw' _=>by simp[Builtin.firstCells],λw' =>by simp[Builtin.lenOf],by simp,λq hq=>by omega⟩
 ·rename_i c i j n cap
  split at h<;>cases h;rename_i sz m f wr ho;obtain⟨rfl,him⟩:=hq;obtain⟨p,a,rc,hpc,rfl,hlen,hcap,hsp,hbl,haddr,hinn⟩:=hx;obtain⟨p',hpc',hok⟩:=hp.obj c _ (hin c _ (by simp) ho);obtain rfl:=Option.some.inj (hpc'.symm.trans hpc);obtain⟨k1,k2,cells,E,fr,hb,hsz,hfr,hel⟩:=hok;subst k1;have hj:=(hinn rfl).1;subst hj;have hcells:p'.off+i * p'.sz+n * p'.sz<=cells.size:=by
   have:(i+n) * p'.sz<=p'.ext * p'.sz:=Nat.mul_le_mul_right _ (by omega);rw[Nat.add_mul] at this;omega
  refine⟨((cells.toList.drop (p'.off+i * p'.sz)).take (n * p'.sz)).toArray,λw' hw=>?_,λw' =>by simp[Builtin.lenOf],by simp;omega,λq hq=>?_⟩
  ·simp only[Builtin.firstCells]
   by_cases hn:n=0
   ·subst hn;simp[loadCells,loadCellsFrom]
   ·have ha:=haddr (by omega)
    subst ha;have:=a4y (P:=P) (w:=w') (by rw[hw];exact hb) _ (a9g hcells);have hl:((cells.toList.drop (p'.off+i * p'.sz)).take (n * p'.sz)).length=n * p'.sz:=by simp;omega
    rw[hl] at this;simpa[Pl.addr] using this
  ·obtain⟨us,a1,a2,a3,a4⟩:=hel (i+q) (by omega)
   refine⟨us,a1,a2,?_,a4⟩;refine a9f (by rw[Nat.add_mul] at a3;rw[Nat.add_assoc];exact a3) (by rw[a2];exact a2x hq) hcells
 ·rename_i c i j n cap
  split at h<;>cases h;rename_i cs ho;obtain⟨rfl,him⟩:=hq;obtain⟨p,a,rc,hpc,rfl,hlen,hcap,hsp,hbl,haddr,hinn⟩:=hx;obtain⟨p',hpc',hok⟩:=hp.obj c _ (hin c _ (by simp) ho);obtain rfl:=Option.some.inj (hpc'.symm.trans hpc);obtain⟨k1,k2,cells,E,fr,hb,hsz,hfr,vs,hr,hl,hone⟩:=hok;have hvl:=hr.length;have hcells:p'.off+j+n * s<=cells.size:=by omega
  refine⟨((cells.toList.drop (p'.off+j)).take (n * s)).toArray,λw' hw=>?_,λw' =>by simp[Builtin.lenOf],by simp;omega,λq hq=>?_⟩
  ·simp only[Builtin.firstCells]
   by_cases hn:n=0
   ·subst hn;simp[loadCells,loadCellsFrom]
   ·have ha:=haddr (by omega)
    subst ha;have:=a4y (P:=P) (w:=w') (by rw[hw];exact hb) _ (a9g hcells);have hl:((cells.toList.drop (p'.off+j)).take (n * s)).length=n * s:=by simp;omega
    rw[hl] at this;simpa[Pl.addr] using this
  ·have hqs:=a2x (s:=s) hq
   refine⟨(vs.drop (j+q * s)).take s,(hr.drop _).take _,by simp;omega,?_,λv hv=>hone v (List.mem_of_mem_drop (List.mem_of_mem_take hv))⟩;refine a9f ?_ (by simp;omega) hcells;have:=(hl.drop (j+q * s)).take s;rw[show p'.off+j+q * s=p'.off+(j+q * s) from by omega];exact this
 ·rename_i c n
  split at h<;>cases h;rename_i sz m f ho;obtain⟨rfl,him⟩:=hq;rcases hx with⟨rfl,rfl⟩|⟨hn0,p,rc,hpc,rfl,hlen,hrc⟩
  ·exact⟨#[],λw' _=>by simp[Builtin.firstCells],λw' =>by simp[Builtin.lenOf],by simp,λq hq=>by omega⟩
  have hok:=hp.placed (hin c _ (by simp) ho) hpc;obtain⟨k1,k2,cells,E,fr,hb,hsz,hfr,hel⟩:=hok;subst k1;have hcells:p.off+n * p.sz<=cells.size:=by
   have:n * p.sz<=p.ext * p.sz:=Nat.mul_le_mul_right _ (by omega);omega
  refine⟨((cells.toList.drop p.off).take (n * p.sz)).toArray,λw' hw=>?_,λw' =>by simp[Builtin.lenOf],by simp;omega,λq hq=>?_⟩
  ·simp only[Builtin.firstCells]
   have:=a4y (P:=P) (w:=w') (by rw[hw];exact hb) _ (a9g hcells);have hl:((cells.toList.drop p.off).take (n * p.sz)).length=n * p.sz:=by simp;omega
   rw[hl] at this;simpa[Pl.addr] using this
  ·obtain⟨us,a1,a2,a3,a4⟩:=hel q (by omega)
   refine⟨us,a1,a2,?_,a4⟩;exact a9f a3 (by rw[a2];exact a2x hq) hcells
 ·rename_i sz
  obtain rfl:=hq;simp only[i4,D8] at hx;obtain⟨base,rc,rfl,hrc,hbn,hsp,hel⟩:=hx;by_cases hn:n=0
  ·subst hn
   refine⟨#[],λw' _=>?_,λw' =>by simp[Builtin.lenOf],by simp,λq hq=>by omega⟩;cases base<;>simp[Builtin.firstCells,loadCells,loadCellsFrom]
  obtain⟨a,cells,vs0,rfl,hfz,_,hvs0,hl0,_⟩:=hel 0 (by omega);have hsp:=hsp a rfl (by omega);obtain⟨E,fr,hb⟩:=hp.fro _ _ hfz;obtain⟨ab,ao,asp⟩:=a;simp only at hsp hfz hb hl0;subst hsp;have hel' :∀i,i<n->∃vs,A3 μ.fro (g i) vs/\vs.length=sz/\I4 cells (ao+i * sz) vs/\∀v∈vs,v.oneCell' =true:=by
   intro i hi;obtain⟨a',cells',vs,e1,e2,r⟩:=hel i hi;cases e1;obtain rfl:=Option.some.inj (hfz.symm.trans e2);exact⟨vs,r⟩
  by_cases hs:sz=0
  ·subst hs
   refine⟨#[],λw' _=>by simp[Builtin.firstCells,loadCells,loadCellsFrom],λw' =>by simp[Builtin.lenOf],by simp,λq hq=>?_⟩;obtain⟨us,a1,a2,a3,a4⟩:=hel' q hq;refine⟨us,a1.rel,a2,?_,a4⟩;intro j v hj;rw[List.length_eq_zero_iff.1 a2] at hj;cases hj
  have hcells:ao+n * sz<=cells.size:=by
   obtain⟨us,a1,a2,a3,a4⟩:=hel' (n - 1) (by omega);have hlast:=a3 (sz - 1) us[sz - 1] (List.getElem?_eq_getElem (by omega));have h1:=(Array.getElem?_eq_some_iff.1 hlast).1;have h2:n * sz=(n - 1) * sz+sz:=by
    obtain⟨m,rfl⟩:∃m,n=m+1:=⟨n - 1,by omega⟩
    rw[Nat.add_mul,Nat.one_mul,Nat.add_sub_cancel]
   omega
  refine⟨((cells.toList.drop ao).take (n * sz)).toArray,λw' hw=>?_,λw' =>by simp[Builtin.lenOf],by simp;omega,λq hq=>?_⟩
  ·simp only[Builtin.firstCells]
   have:=a4y (P:=P) (w:=w') (by rw[hw];exact hb) _ (a9g hcells);have hl:((cells.toList.drop ao).take (n * sz)).length=n * sz:=by simp;omega
   rw[hl] at this;exact this
  ·obtain⟨us,a1,a2,a3,a4⟩:=hel' q hq
   refine⟨us,a1.rel,a2,?_,a4⟩;exact a9f a3 (by rw[a2];exact a2x hq) hcells
 ·exact absurd rfl (hd _ _ _)
 ·rename_i l
  obtain rfl:=hq;simp only[i4] at hx;subst hx;refine⟨(l.map λb=>Value.int .u8 b.toNat).toArray,λw' _=>?_,λw' =>by simp[Builtin.lenOf,ByteArray.size],by simp,λq hq=>?_⟩
  ·simp only[Builtin.firstCells,Sem.run_pure]
   congr 1;apply Array.ext';simp[ByteArray.extract,ByteArray.copySlice]
  ·have hv:l.getD q 0=l[q]:=by simp[List.getD,hq]
   refine⟨[.int .u8 (l.getD q 0).toNat],⟨_,[],rfl,rfl,rfl⟩,rfl,?_,by simp[Value.oneCell']⟩;intro j v hj;cases j with
   |zero=>
    simp at hj;subst hj;simp[hq]
   |succ j=>simp at hj
theorem u_{H:d7}{s:Nat}{x:LV}{q:Prop}{n:Nat}{g:Nat->List LV}{ft:List Nat}{μ:d5}{w:World}{vx:Value}{pre:u6}(h:Z7 H s x=some (q,n,g,ft))(hq:q)(hx:i4 μ x vx)
  (hp:M6 μ pre w) (hin:∀c o,c∈ft->H.at c=some o->(c,o)∈pre):
  ∃cells,(∀w' :World,w'.heap=w.heap->(Builtin.firstCells s n vx).run P w' =.ok cells w')/\(∀w' :World,(Builtin.lenOf vx).run P w' =.ok n w')/\V8 μ g s n cells:=by
 by_cases hd:∃sz n f,x=.dn sz n f
 ·obtain⟨sz,m,f,rfl⟩:=hd
  exact b8N (x:=.ds sz m f) h hq hx.1 (λ_ _ _ e=>by cases e) hp hin
 ·exact b8N h hq hx (λsz m f e=>hd ⟨sz,m,f,e⟩) hp hin
theorem b5O(n:Nat):∀(r c:Nat),256<=c->c<=2 * n->Builtin.growBy n r c<=2 * n
 |0,c,_,h=>by simpa[Builtin.growBy] using h
 |r+1,c,h1,h2=>by
  unfold Builtin.growBy;split
  ·exact h2
  ·exact b5O n r _ (by omega) (by omega)
theorem c3a{need cap:Nat}(h:cap<need):Builtin.nextslicecap need cap<=2 * need:=by
 unfold Builtin.nextslicecap;split
 ·omega
 ·split
  ·omega
  ·exact b5O _ _ _ (by omega) (by omega)
theorem c7y(z:Array Value)(n:Nat):(Builtin.zeroCells z n).size=n * z.size:=by simp[Builtin.zeroCells]
def a0G:TypeDesc->Bool
 | .int _=>true
 |_=>false
def M1(len:Nat)(f g:Nat->List LV):Nat->List LV:=λt=>if t<len then f t else g (t - len)
def a3B(P:Program)(H:d7)(new:Nat)(st xt:TypeId)(s x:LV)(mode:Nat):Option u9:=
 match F7 P st,F7 P xt with
 |some (.slice el),some xd=>
  if a0G xd then none else
  match I6 P el,a8c P el,a06 P el with
  |some z,some b,some zl=>
   match Z7 H z x with
   |some (q,n,g,ft)=>
    let room:=λ(k:Nat)=>0<n/\0<z/\0<b/\(k+n) * b<=140737488351232/\zl.cells.length=z/\zl.cells.all LV.isCell=true
    match mode,s with
    |0,.nilsl=>some ⟨q/\n=0,.nilsl,ft,[]⟩
    |0,.sl c i j inn len cap=>some ⟨q/\n=0,.sl c i j inn len cap,ft,[]⟩
    |_,.nilsl=>some ⟨q/\room 0,.sl new 0 0 false n none,ft,[(new,some (.row z n g true))]⟩
    |1,.sl c i _ false len _=>
     match H.at c with
     |some (.row sz m f true)=>some ⟨q/\room len/\sz=z/\i+len<=m,.sl new 0 0 false (len+n) none,c::ft,[(c,none),(new,some (.row z (len+n) (M1 len (λt=>f (i+t)) g) true))]⟩
     |_=>none
    |2,.sl c i _ false len (some k)=>
     match H.at c with
     |some (.row sz m f _)=>some ⟨q/\room len/\sz=z/\i+len<=m/\k<len+n,.sl new 0 0 false (len+n) none,c::ft,[(new,some (.row z (len+n) (M1 len (λt=>f (i+t)) g) true))]⟩
     |_=>none
    |2,.sl _ _ _ _ 0 (some 0)=>some ⟨q/\room 0,.sl new 0 0 false n none,ft,[(new,some (.row z n g true))]⟩
    |_,_=>none
   |none=>none
  |_,_,_=>none
 |_,_=>none
theorem V8.append{μ:d5}{f g:Nat->List LV}{s n m:Nat}{a b:Array Value}(h:V8 μ f s n a)(k:V8 μ g s m b):V8 μ (M1 n f g) s (n+m) (a++b):=by
 refine⟨by rw[Array.size_append,h.1,k.1,Nat.add_mul],λq hq=>?_⟩;unfold M1;by_cases hqn:q<n
 ·rw[if_pos hqn]
  obtain⟨us,h1,h2,h3,h4⟩:=h.2 q hqn;refine⟨us,h1,h2,λj v hj=>?_,h4⟩;have hjl:j<us.length:=(List.getElem?_eq_some_iff.1 hj).1;have:=a2x (s:=s) hqn;rw[Array.getElem?_append_left (by rw[h.1];omega)];exact h3 j v hj
 ·rw[if_neg hqn]
  obtain⟨us,h1,h2,h3,h4⟩:=k.2 (q - n) (by omega);refine⟨us,h1,h2,λj v hj=>?_,h4⟩;have hqs:n * s<=q * s:=Nat.mul_le_mul_right _ (by omega);rw[Array.getElem?_append_right (by rw[h.1];omega),h.1];have e:(q - n) * s=q * s - n * s:=Nat.sub_mul _ _ _;rw[show q * s+j - n * s=(q - n) * s+j from by omega];exact h3 j v hj
theorem V8.row{μ:d5}{g:Nat->List LV}{s n ext:Nat}{cells:Array Value}{E:TypeId}{rb:Nat}(h:V8 μ g s n cells)(rest:Array Value)(hr:rest.size=(ext - n) * s)(hn:n<=ext):
  w9 μ ⟨rb,0,s,ext⟩ (some (.cells (cells++rest) E (0,0))) (.row s n g true):=by
 refine⟨rfl,hn,_,E,(0,0),rfl,?_,λ_ o _ h=>by omega,λi hi=>?_⟩
 ·rw[Array.size_append,h.1,hr,Nat.sub_mul]
  have:n * s<=ext * s:=Nat.mul_le_mul_right _ hn;show 0+ext * s<=_;omega
 ·obtain⟨us,h1,h2,h3,h4⟩:=h.2 i hi
  refine⟨us,h1,h2,λj v hj=>?_,h4⟩;have hjl:j<us.length:=(List.getElem?_eq_some_iff.1 hj).1;have:=a2x (s:=s) hi;simp only[Nat.zero_add];rw[Array.getElem?_append_left (by rw[h.1];omega)];exact h3 j v hj
theorem V8.mono{μ μ' :d5}(h:D7 μ μ'){g:Nat->List LV}{s n:Nat}{cells:Array Value}(k:V8 μ g s n cells):V8 μ' g s n cells:=
 ⟨k.1,λq hq=>let⟨us,h1,h2,h3,h4⟩:=k.2 q hq;⟨us,h1.mono h,h2,h3,h4⟩⟩
theorem b9u{st xt ty:TypeId}{el:TypeId}{xd:TypeDesc}{z b n len rc:Nat}{zl:LV}{base:Option Addr}{vx:Value}{w:World}{old app:Array Value}
  (hd:P.underlying st=some (.slice el)) (hxd:P.underlying xt=some xd) (hxi:a0G xd=false) (hz:I6 P el=some z) (hb:a8c P el=some b) (hzl:a06 P el=some zl)
  (hlen:(Builtin.lenOf vx).run P w=.ok n w) (happ:∀w' :World,w'.heap=w.heap->(Builtin.firstCells z n vx).run P w' =.ok app w')
  (hold:∀w' :World,w'.heap=w.heap->(Builtin.firstCells z len (.slice base len rc)).run P w' =.ok old w') (hrc:rc<len+n) (hroom:0<n/\0<z/\0<b/\(len+n) * b<=140737488351232/\zl.cells.length=z/\zl.cells.all LV.isCell=true)
  (ho:old.size=len * z) (ha:app.size=n * z):
  ∃newCap rest,(Builtin.append_ #[st,xt] ty #[.slice base len rc,vx]).run P w=.ok (.slice (some ⟨w.heap.size,0,none⟩) (len+n) newCap) (w.drew.alloc (.cells (old++app++rest) el))/\rest.size=(newCap - (len+n)) * z/\len+n<=newCap:=by
 obtain⟨r1,r2,r3,r4,r5,r6⟩:=hroom;obtain⟨zv,hzv,hzr⟩:=a4z (w:=w.drew) hzl;obtain⟨inf,hinf,hbb⟩:=b7S (w:=w) hb;obtain⟨inf2,hinf2,hbb2⟩:=b7S (w:=w.drew) hb;have hzs:zv.cells.size=z:=by have:=(a3u r6 (hzr ⟨λ_=>none,λ_=>none⟩)).length;simp at this;omega
 have hcap:=c3a hrc;have h1:¬(Builtin.nextslicecap (len+n) rc * inf.bytes>2^48):=by
  rw[hbb];have:Builtin.nextslicecap (len+n) rc * b<=2 * (len+n) * b:=Nat.mul_le_mul_right _ hcap;have e:2 * (len+n) * b=2 * ((len+n) * b):=by rw[Nat.mul_assoc]
  omega
 have h2:¬(((len+n:Nat):Int)>IntKind.i64.max/\(False\/inf.bytes=0)):=by
  rw[hbb];rintro⟨_,h|h⟩
  ·exact h
  ·omega
 have e1:=happ w.drew rfl;have e2:=hold w.drew rfl;refine⟨len+n+w.tape w.drawn (.appendCap (len+n) rc el)%(2^63 - (len+n)),Builtin.zeroCells zv.cells (w.tape w.drawn (.appendCap (len+n) rc el)%(2^63 - (len+n))),?_,?_,by omega⟩
 ·unfold Builtin.append_
  simp only[List.getElem?_toArray,List.getElem?_cons_zero,List.getElem?_cons_succ,Sem.run_bind,w7 hd,w7 hxd,Result.andThen_ok,K9 hz,Sem.run_pure];have hneg:¬(len+n<=rc):=by omega
  cases xd with
  |int k=>simp[a0G] at hxi
  |_=>
   simp only[Bool.false_eq_true,if_false,Sem.run_bind,hlen,Result.andThen_ok,Sem.run_ite,hneg,hinf,h2,h1,run_choose,Question.forced,Question.cut,World.drew_eq,hinf2,run_askRoom,e2,Bool.not_false,if_true,e1,hzv,
    newRow,run_newObj,Sem.run_pure,World.alloc_eq]
   congr 4;rw[show len+n+w.tape w.drawn (Question.appendCap (len+n) rc el)%(2^63 - (len+n)) - (len+n)=w.tape w.drawn (Question.appendCap (len+n) rc el)%(2^63 - (len+n)) from by omega]
 ·rw[c7y,hzs]
  congr 1;omega
end
end Go.Cn
