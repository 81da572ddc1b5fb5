import Derived.Test.YtddgjfclpknkcaaGreatDoorCnK
namespace Go.Cn
open Go
section
variable {P:Program}
theorem b9v{st xt ty:TypeId}{el:TypeId}{xd:TypeDesc}{z n len rc rb o:Nat}{vx:Value}{w:World}{app cells:Array Value}{E:TypeId}{fr:Nat×Nat}
  (hd:P.underlying st=some (.slice el)) (hxd:P.underlying xt=some xd) (hxi:a0G xd=false) (hz:I6 P el=some z)
  (hlen:(Builtin.lenOf vx).run P w=.ok n w) (happ:(Builtin.firstCells z n vx).run P w=.ok app w) (hrc:len+n<=rc) (ha:app.size=n * z)
  (hb:w.heap[rb]?=some (.cells cells E fr)) (hfr:∀k,k<cells.size->¬(fr.1<=k/\k<fr.2)) (hsz:o+len * z+n * z<=cells.size) (hone:∀v∈app.toList,v.oneCell' =true):
  (Builtin.append_ #[st,xt] ty #[.slice (some ⟨rb,o,none⟩) len rc,vx]).run P w=.ok (.slice (some ⟨rb,o,none⟩) (len+n) rc) (A7 w rb (.cells (O1 cells (o+len * z) app.toList) E fr)):=by
 have hadd:(⟨rb,o,none⟩:Addr).add (len * z)=⟨rb,o+len * z,none⟩:=by
  unfold Addr.add;split
  ·rename_i h0;rw[h0];rfl
  ·rfl
 have hst:=a59 (P:=P) (rb:=rb) (o:=o+len * z) (E:=E) (fr:=fr) app.toList 0 cells w hb hfr (by simp;omega) hone;simp only[Nat.add_zero] at hst;unfold Builtin.append_;simp only[List.getElem?_toArray,List.getElem?_cons_zero,List.getElem?_cons_succ,Sem.run_bind,w7 hd,w7 hxd,Result.andThen_ok,K9 hz,Sem.run_pure];cases xd with
 |int k=>simp[a0G] at hxi
 |_=>simp only[Bool.false_eq_true,if_false,Sem.run_bind,hlen,Result.andThen_ok,Sem.run_ite,hrc,Bool.not_false,if_true,happ,hadd,hst,Sem.run_pure]
theorem a6z{st xt ty:TypeId}{el:TypeId}{xd:TypeDesc}{z len rc:Nat}{base:Option Addr}{vx:Value}{w:World}{app:Array Value}
  (hd:P.underlying st=some (.slice el)) (hxd:P.underlying xt=some xd) (hxi:a0G xd=false) (hz:I6 P el=some z)
  (hlen:(Builtin.lenOf vx).run P w=.ok 0 w) (happ:(Builtin.firstCells z 0 vx).run P w=.ok app w) (hrc:len<=rc) (ha:app.size=0 * z):
  (Builtin.append_ #[st,xt] ty #[.slice base len rc,vx]).run P w=.ok (.slice base len rc) w:=by
 have happ0:app=#[]:=by apply Array.eq_empty_of_size_eq_zero;omega
 subst happ0;unfold Builtin.append_;simp only[List.getElem?_toArray,List.getElem?_cons_zero,List.getElem?_cons_succ,Sem.run_bind,w7 hd,w7 hxd,Result.andThen_ok,K9 hz,Sem.run_pure];cases xd with
 |int k=>simp[a0G] at hxi
 |_=>
  simp only[Bool.false_eq_true,if_false,Sem.run_bind,hlen,Result.andThen_ok,Sem.run_ite,Nat.add_zero,hrc,Bool.not_false,if_true,happ];cases base<;>simp[storeCells]
theorem A9.fromDrew{μ μ' :d5}{w w' :World}{pre:u6}{up:i9}(d:A9 μ w.drew pre up μ' w'):A9 μ w pre up μ' w' :=
 ⟨d.ext,d.dom,d.os,d.tape,d.output,λh=>Nat.le_trans (Nat.le_succ _) (d.draws h),d.grow,d.keep,d.obj,d.place,d.sep,d.frn,d.frs⟩
theorem V8.one{μ:d5}{g:Nat->List LV}{s n:Nat}{cells:Array Value}(h:V8 μ g s n cells)(hs:0<s):∀v∈cells.toList,v.oneCell' =true:=by
 intro v hv;obtain⟨k,hk,e⟩:=List.mem_iff_getElem.1 hv;simp only[Array.length_toList,h.1] at hk;have hq:k / s<n:=by
  rw[Nat.div_lt_iff_lt_mul hs];exact hk
 obtain⟨us,h1,h2,h3,h4⟩:=h.2 (k / s) hq;have hm:k%s<s:=Nat.mod_lt _ hs;have hu:us[k%s]?=some us[k%s]:=List.getElem?_eq_getElem (by omega);have:=h3 _ _ hu;have e2:k / s * s+k%s=k:=by rw[Nat.mul_comm];exact Nat.div_add_mod k s
 rw[e2] at this;have e3:cells[k]?=some v:=by
  rw[<-Array.getElem?_toList,List.getElem?_eq_getElem (by simpa[h.1] using hk),e]
 rw[e3] at this;rw[Option.some.inj this];exact h4 _ (List.getElem_mem _)
theorem a6H{H:d7}{new:Nat}{st xt ty:TypeId}{s x:LV}{mode:Nat}{vs vx:Value}{e:u9}{μ:d5}{w:World}(h:a3B P H new st xt s x mode=some e)(hob:e.ob)(hs:i4 μ s vs)(hx:i4 μ x vx)
  (hn0:e.up.has new=true->μ new=none) (hp:M6 μ (H.pre e.foot) w):w5 P (Builtin.append_ #[st,xt] ty #[vs,vx]) μ w (H.pre e.foot) e.up e.v:=by
 unfold a3B at h;split at h<;>try cases h
 rename_i el xd hd hxd;split at h<;>try cases h
 rename_i hxi;have hxi:a0G xd=false:=by simpa using hxi
 split at h<;>try cases h
 rename_i z b zl hz hb hzl;split at h<;>try cases h
 rename_i q n g ft hsrc;dsimp only at h;have mem_ft:∀{c:Nat} {o:LO},c∈ft->H.at c=some o->(c,o)∈H.pre ft:=λhc ho=>d7.mem_pre.2 ⟨hc,ho⟩;have anew:∀(hn:μ new=none) (pre:u6) (len rc:Nat) (base:Option Addr) (f:Nat->List LV) (old cells:Array Value) (up:i9),(∀w' :World,w'.heap=w.heap->(Builtin.firstCells z n vx).run P w' =.ok cells w')->(∀w' :World,(Builtin.lenOf vx).run P w' =.ok n w')->
   V8 μ g z n cells->(∀w' :World,w'.heap=w.heap->(Builtin.firstCells z len (.slice base len rc)).run P w' =.ok old w')->V8 μ f z len old->rc<len+n->
   (0<n/\0<z/\0<b/\(len+n) * b<=140737488351232/\zl.cells.length=z/\zl.cells.all LV.isCell=true)->
   (∀(μ' :d5) (w' :World),A9 μ w pre [(new,some (.row z (len+n) (M1 len f g) true))] μ' w' ->A9 μ w pre up μ' w')->
   w5 P (Builtin.append_ #[st,xt] ty #[.slice base len rc,vx]) μ w pre up (.sl new 0 0 false (len+n) none):=by
  intro hn pre len rc base f old cells up h1 h2 h3 k1 k2 hrc hroom hup;obtain⟨newCap,rest,hrun,hrest,hcap⟩:=b9u (ty:=ty) hd hxd hxi hz hb hzl (h2 w) h1 k1 hrc hroom k2.1 h3.1;have hext:D7 μ (μ.set new ⟨w.heap.size,0,z,newCap⟩):=d5.ext_set hn;refine⟨_,_,μ.set new ⟨w.heap.size,0,z,newCap⟩,hrun,?_,hup _ _ (A9.fromDrew ?_)⟩
  ·exact⟨_,⟨w.heap.size,0,none⟩,newCap,d5.set_self,rfl,hcap,(λ_ h=>by cases h),rfl,rfl,λ_=>by simp[Pl.addr],λ_=>⟨rfl,λ_=>by simp⟩⟩
  ·exact A9.new hn rfl (((k2.append h3).mono hext).row rest hrest hcap)
 split at h<;>try cases h
 ·
  obtain⟨hq,hn0⟩:=hob;subst hn0;obtain⟨cells,h1,h2,h3⟩:=u_ (P:=P) hsrc hq hx hp (λ_ _ hc ho=>mem_ft hc ho);simp only[i4] at hs;subst hs;exact w5.same (a6z hd hxd hxi hz (h2 w) (h1 w rfl) (Nat.le_refl _) h3.1) rfl
 ·
  rename_i c i j inn len cap;obtain⟨hq,hn0⟩:=hob;subst hn0;obtain⟨cells,h1,h2,h3⟩:=u_ (P:=P) hsrc hq hx hp (λ_ _ hc ho=>mem_ft hc ho);obtain⟨p,a,rc,hpc,rfl,hlen,r⟩:=hs;exact w5.same (a6z hd hxd hxi hz (h2 w) (h1 w rfl) hlen h3.1) ⟨p,a,rc,hpc,rfl,hlen,r⟩
 ·
  obtain⟨hq,hroom⟩:=hob;obtain⟨cells,h1,h2,h3⟩:=u_ (P:=P) hsrc hq hx hp (λ_ _ hc ho=>mem_ft hc ho);simp only[i4] at hs;subst hs;have:=anew (hn0 (by simp[i9.has])) (H.pre ft) 0 0 none (λ_=>[]) #[] cells [(new,some (.row z n g true))] h1 h2 h3 (λw' _=>by simp[Builtin.firstCells]) ⟨by simp,λq hq=>by omega⟩ (by omega) hroom
   (fun μ' w' d=>by
    have e:M1 0 (λ_=>([]:List LV)) g=g:=by funext t;simp[M1]
    rw[e,Nat.zero_add] at d;exact d)
  rw[Nat.zero_add] at this;exact this
 ·
  rename_i c i j len cap;split at h<;>cases h;rename_i sz m f ho;obtain⟨hq,hroom,rfl,him⟩:=hob;have hpc0:(c,LO.row sz m f true)∈H.pre (c::ft):=d7.mem_pre.2 ⟨List.mem_cons_self,ho⟩;obtain⟨cells,h1,h2,h3⟩:=u_ (P:=P) hsrc hq hx hp (λ_ _ hc ho=>d7.mem_pre.2 ⟨List.mem_cons_of_mem _ hc,ho⟩);obtain⟨p,a,rc,hpc,rfl,hlen,hcap,hsp,hbl,haddr,hinn⟩:=hs;have hok:=hp.placed hpc0 hpc;have hlt:=hok.lt;have hok0:=hok;obtain⟨k1,k2,bcells,E,fr,hbk,hsz,hfr,hel⟩:=hok;have hj:=(hinn rfl).1;subst hj;have hn:μ new=none:=hn0 (by simp[i9.has]);have hcd:c≠new:=λe=>by subst e;rw[hn] at hpc;cases hpc
  have hold:=u_ (P:=P) (H:=H) (s:=sz) (x:=.sl c i 0 false len cap) (g:=λq=>f (i+q)) (n:=len) (ft:=[c]) (q:=sz=sz/\i+len<=m) (w:=w) (μ:=μ) (vx:=.slice (some a) len rc) (by simp[Z7,ho]) ⟨rfl,him⟩
   ⟨p,a,rc,hpc,rfl,hlen,hcap,hsp,hbl,haddr,hinn⟩ hp (λc' o' hc' ho' =>by
    simp only[List.mem_singleton] at hc';subst hc';rw[ho] at ho';cases ho';exact hpc0)
  obtain⟨old,o1,o2,o3⟩:=hold;by_cases hrc:len+n<=rc
  ·
   have ha:=haddr (by omega);have hiext:=(hinn rfl).2 (by omega);subst ha;have hcs:bcells.size>=p.off+(i+rc) * sz:=by
    have:(i+rc) * sz<=p.ext * sz:=Nat.mul_le_mul_right _ hiext;omega
   have hrcs:(len+n) * sz<=rc * sz:=Nat.mul_le_mul_right _ hrc;rw[Nat.add_mul] at hrcs hcs;have hrun:=b9v (P:=P) (ty:=ty) (o:=p.off+i * sz) hd hxd hxi hz (h2 w) (h1 w rfl) hrc h3.1 hbk (hfr rfl) (by omega) (h3.one hroom.2.1);have hext:D7 μ (μ.set new ⟨p.rb,p.off+i * sz,sz,rc⟩):=d5.ext_set hn;refine⟨.slice (some ⟨p.rb,p.off+i * sz,none⟩) (len+n) rc,A7 w p.rb (.cells (O1 bcells (p.off+i * sz+len * sz) cells.toList) E fr),μ.set new ⟨p.rb,p.off+i * sz,sz,rc⟩,?_,?_,?_⟩
   ·rw[<-hrun]
    simp[Pl.addr,k1]
   ·exact⟨_,⟨p.rb,p.off+i * sz,none⟩,rc,d5.set_self,rfl,hrc,(λ_ h=>by cases h),rfl,rfl,λ_=>by simp[Pl.addr],λ_=>⟨rfl,λ_=>by simp⟩⟩
   ·refine A9.move hpc hpc0 rfl hlt hn rfl ⟨rfl,hrc,_,E,fr,rfl,by rw[a0y];show p.off+i * sz+rc * sz<=_;omega,λ_=>by rw[a0y];exact hfr rfl,λt ht=>?_⟩
    show∃vs,o6 _ (M1 len (λt=>f (i+t)) g t) vs/\_;unfold M1;have hal:cells.toList.length=n * sz:=by simpa using h3.1
    by_cases htl:t<len
    ·rw[if_pos htl]
     obtain⟨us,a1,a2,a3,a4⟩:=hel (i+t) (by omega);refine⟨us,a1.mono hext,a2,?_,a4⟩;have hts:=a2x (s:=sz) htl;have e1:p.off+(i+t) * sz=p.off+i * sz+t * sz:=by rw[Nat.add_mul];omega
     rw[e1] at a3;intro k v hk;have hkl:k<us.length:=(List.getElem?_eq_some_iff.1 hk).1;show(O1 bcells (p.off+i * sz+len * sz) cells.toList)[p.off+i * sz+t * sz+k]?=some v;rw[a6m _ _ _ _ (by omega),if_neg (by omega)];exact a3 k v hk
    ·rw[if_neg htl]
     obtain⟨us,a1,a2,a3,a4⟩:=h3.2 (t - len) (by omega);refine⟨us,a1.mono hext,a2,?_,a4⟩;have hts:=a2x (s:=sz) (show t - len<n by omega);have e1:t * sz=len * sz+(t - len) * sz:=by rw[<-Nat.add_mul];congr 1;omega
     intro k v hk;have hkl:k<us.length:=(List.getElem?_eq_some_iff.1 hk).1;show(O1 bcells (p.off+i * sz+len * sz) cells.toList)[p.off+i * sz+t * sz+k]?=some v;rw[a6m _ _ _ _ (by omega),if_pos (by omega)];rw[show p.off+i * sz+t * sz+k - (p.off+i * sz+len * sz)=(t - len) * sz+k from by omega,Array.getElem?_toList];exact a3 k v hk
  ·
   refine anew hn (H.pre (c::ft)) len rc (some a) (λt=>f (i+t)) old cells _ h1 h2 h3 o1 o3 (by omega) hroom (fun μ' w' d=>?_);exact{d with
    dom:=λe q hq=>(d.dom e q hq).imp id (λ⟨h,h'⟩=>⟨by rw[i9.has_one] at h;subst h;simp[i9.has],h'⟩)
    keep:=λb hb _=>d.keep b hb (λc0 o0 p0 hm hw hu hm0 e=>by
     rw[i9.has_one] at hu;subst hu;rw[hn] at hm0;cases hm0)
    obj:=λe q hq=>d.obj e q (by simp only[List.mem_cons,Prod.mk.injEq,reduceCtorEq,and_false,List.not_mem_nil,or_false,false_or] at hq⊢;exact hq)
    place:=λe q r hq hr=>by
     rcases d.place e q r (by simp only[List.mem_cons,Prod.mk.injEq,reduceCtorEq,and_false,List.not_mem_nil,or_false,false_or] at hq⊢;exact hq) hr with h|⟨c0,o0,p0,g1,g2,g3,g4,g5⟩
     ·exact .inl h
     ·rw[i9.has_one] at g3;subst g3;rw[hn] at g4;cases g4
    sep:=λe q e' q' r r' hq hq' =>d.sep e q e' q' r r' (by simp only[List.mem_cons,Prod.mk.injEq,reduceCtorEq,and_false,List.not_mem_nil,or_false,false_or] at hq⊢;exact hq) (by simp only[List.mem_cons,Prod.mk.injEq,reduceCtorEq,and_false,List.not_mem_nil,or_false,false_or] at hq' ⊢;exact hq')
    frn:=λb cs hb=>(d.frn b cs hb).imp id (λ⟨h1,h2⟩=>⟨h1,h2.imp id (λ⟨c0,o0,p0,g1,g2,g3,g4,g5⟩=>by
     rw[i9.has_one] at g3;subst g3;rw[hn] at g4;cases g4)⟩)
    frs:=λhf e q r hq=>d.frs hf e q r (by simp only[List.mem_cons,Prod.mk.injEq,reduceCtorEq,and_false,List.not_mem_nil,or_false,false_or] at hq⊢;exact hq)}
 ·
  rename_i c i j len k;split at h<;>cases h;rename_i sz m f wr ho;obtain⟨hq,hroom,rfl,him,hk⟩:=hob;have hpc0:(c,LO.row sz m f wr)∈H.pre (c::ft):=d7.mem_pre.2 ⟨List.mem_cons_self,ho⟩;obtain⟨cells,h1,h2,h3⟩:=u_ (P:=P) hsrc hq hx hp (λ_ _ hc ho=>d7.mem_pre.2 ⟨List.mem_cons_of_mem _ hc,ho⟩);obtain⟨p,a,rc,hpc,rfl,hlen,hcap,hsp,hbl,haddr,hinn⟩:=hs;have hrck:=hcap k rfl;have hj:=(hinn rfl).1;subst hj;have hold:=u_ (P:=P) (H:=H) (s:=sz) (x:=.sl c i 0 false len (some k)) (g:=λq=>f (i+q)) (n:=len) (ft:=[c]) (q:=sz=sz/\i+len<=m) (w:=w) (μ:=μ) (vx:=.slice (some a) len rc) (by simp[Z7,ho]) ⟨rfl,him⟩
   ⟨p,a,rc,hpc,rfl,hlen,hcap,hsp,hbl,haddr,hinn⟩ hp (λc' o' hc' ho' =>by
    simp only[List.mem_singleton] at hc';subst hc';rw[ho] at ho';cases ho';exact hpc0)
  obtain⟨old,o1,o2,o3⟩:=hold;exact anew (hn0 (by simp[i9.has])) (H.pre (c::ft)) len rc (some a) (λt=>f (i+t)) old cells _ h1 h2 h3 o1 o3 (by omega) hroom (λ_ _ d=>d)
 ·
  obtain⟨hq,hroom⟩:=hob;obtain⟨cells,h1,h2,h3⟩:=u_ (P:=P) hsrc hq hx hp (λ_ _ hc ho=>mem_ft hc ho);obtain⟨p,a,rc,hpc,rfl,hlen,hcap,_⟩:=hs;obtain rfl:=hcap 0 rfl;have:=anew (hn0 (by simp[i9.has])) (H.pre ft) 0 0 (some a) (λ_=>[]) #[] cells [(new,some (.row z n g true))] h1 h2 h3 (λw' _=>by simp[Builtin.firstCells,loadCells,loadCellsFrom]) ⟨by simp,λq hq=>by omega⟩ (by omega) hroom
   (fun μ' w' d=>by
    have e:M1 0 (λ_=>([]:List LV)) g=g:=by funext t;simp[M1]
    rw[e,Nat.zero_add] at d;exact d)
  rw[Nat.zero_add] at this;exact this
theorem A9.swap{μ μ' :d5}{w w' :World}{pre pre2:u6}{up up2:i9}(d:A9 μ w pre up μ' w')
  (hp:∀c o,(c,o)∈pre->o.wr=true->∃o',(c,o')∈pre2/\o'.wr=true)
  (hu:∀c o,(c,some o)∈up2->∃o',(c,some o')∈up/\(o.wr=true->o'.wr=true)/\(o'.void->o.void)/\∀p h,w9 μ' p h o' ->w9 μ' p h o) (hh:∀c,up.has c=true->up2.has c=true):A9 μ w pre2 up2 μ' w' where
 ext:=d.ext
 dom:=λc p h=>(d.dom c p h).imp id (λ⟨h1,h2⟩=>⟨hh c h1,h2⟩)
 os:=d.os
 tape:=d.tape
 output:=d.output
 draws:=d.draws
 grow:=d.grow
 keep:=λb hb hk=>d.keep b hb (λc o p hc hw hu' hm=>by
  obtain⟨o',h1,h2⟩:=hp c o hc hw;exact hk c o' p h1 h2 (hh c hu') hm)
 obj:=λc o h=>by
  obtain⟨o',h1,_,h2,h3⟩:=hu c o h;exact(d.obj c o' h1).imp (λ⟨x,y⟩=>⟨x,h2 y⟩) (λ⟨p,x,y⟩=>⟨p,x,h3 _ _ y⟩)
 place:=λc o p h hpc=>by
  obtain⟨o',h1,_⟩:=hu c o h;refine(d.place c o' p h1 hpc).imp id (λ⟨c0,o0,p0,g1,g2,g3,g4⟩=>?_);obtain⟨o'',k1,k2⟩:=hp c0 o0 g1 g2;exact⟨c0,o'',p0,k1,k2,hh c0 g3,g4⟩
 sep:=λc o c' o' p p' h h' hne hw hpc hpc' =>by
  obtain⟨x,h1,hx,_⟩:=hu c o h;obtain⟨y,h2,hy,_⟩:=hu c' o' h';exact d.sep c x c' y p p' h1 h2 hne (hw.imp hx hy) hpc hpc'
 frn:=λb cs hb=>(d.frn b cs hb).imp id (λ⟨h1,h2⟩=>⟨h1,h2.imp id (λ⟨c0,o0,p0,g1,g2,g3,g4⟩=>by
  obtain⟨o'',k1,k2⟩:=hp c0 o0 g1 g2;exact⟨c0,o'',p0,k1,k2,hh c0 g3,g4⟩)⟩)
 frs:=λhf c o p h hw hpc=>by
  obtain⟨o',h1,hx,_⟩:=hu c o h;refine d.frs ⟨hf.1,λc0 o0 p0 g1 g2 g3=>?_⟩ c o' p h1 (hx hw) hpc;obtain⟨o'',k1,k2⟩:=hp c0 o0 g1 g2;exact hf.2 c0 o'' p0 k1 k2 g3
theorem A9.alias{μ:d5}{w:World}{pre:u6}{c d:Nat}{p:Pl}{o o' :LO}(hc:μ c=some p)(hm:(c,o)∈pre)(hw:o.wr=true)(hd:μ d=none)
  (ho:w9 (μ.set d p) p w.heap[p.rb]? o'):A9 μ w pre [(c,none),(d,some o')] (μ.set d p) w where
 ext:=d5.ext_set hd
 dom:=λe r hr=>by
  rw[d5.set_at] at hr;split at hr
  ·rename_i h;subst h;exact .inr ⟨by simp[i9.has],hd⟩
  ·exact .inl hr
 os:=rfl
 tape:=rfl
 output:=rfl
 draws:=λ_=>Nat.le_refl _
 grow:=Nat.le_refl _
 keep:=λb hb hk=>rfl
 obj:=λe r hr=>by
  simp only[List.mem_cons,Prod.mk.injEq,reduceCtorEq,and_false,Option.some.injEq,List.not_mem_nil,or_false,false_or] at hr;obtain⟨rfl,rfl⟩:=hr;exact .inr ⟨p,d5.set_self,ho⟩
 place:=λe r s hr hs=>by
  simp only[List.mem_cons,Prod.mk.injEq,reduceCtorEq,and_false,Option.some.injEq,List.not_mem_nil,or_false,false_or] at hr;obtain⟨rfl,rfl⟩:=hr;rw[d5.set_self] at hs;obtain rfl:=Option.some.inj hs;exact .inr ⟨c,o,p,hm,hw,by simp[i9.has],hc,rfl⟩
 sep:=λe r e' r' s s' hr hr' hne=>by
  simp only[List.mem_cons,Prod.mk.injEq,reduceCtorEq,and_false,Option.some.injEq,List.not_mem_nil,or_false,false_or] at hr hr';exact absurd (hr.1.trans hr'.1.symm) hne
 frn:=λ_ _ h=> .inl h
 frs:=λhf e r s hr _ hs=>by
  simp only[List.mem_cons,Prod.mk.injEq,reduceCtorEq,and_false,Option.some.injEq,List.not_mem_nil,or_false,false_or] at hr;obtain⟨rfl,rfl⟩:=hr;rw[d5.set_self] at hs;obtain rfl:=Option.some.inj hs;exact hf.2 c o p hm hw hc
theorem A9.voids{μ:d5}{w:World}{pre:u6}{up:i9}(h:∀c o,(c,some o)∈up->μ c=none/\o.void):A9 μ w pre up μ w where
 ext:=D7.refl μ
 dom:=λ_ _ h=> .inl h
 os:=rfl
 tape:=rfl
 output:=rfl
 draws:=λ_=>Nat.le_refl _
 grow:=Nat.le_refl _
 keep:=λ_ _ _=>rfl
 obj:=λc o hc=> .inl (h c o hc)
 place:=λc o p hc hp=>by rw[(h c o hc).1] at hp;cases hp
 sep:=λc o _ _ p _ hc _ _ _ hp=>by rw[(h c o hc).1] at hp;cases hp
 frn:=λ_ _ h=> .inl h
 frs:=λ_ c o p hc _ hp=>by rw[(h c o hc).1] at hp;cases hp
def b1b(P:Program)(H:d7)(new:Nat)(st xt:TypeId)(s x:LV):Option u9:=
 match F7 P st,F7 P xt with
 |some (.slice el),some xd=>
  if a0G xd then none else
  match I6 P el,a8c P el,a06 P el with
  |some z,some b,some zl=>
   match Z7 H z x with
   |some (q,n,g,ft)=>
    let room:=λ(k:Nat)=>0<z/\0<b/\(k+n) * b<=140737488351232/\zl.cells.length=z/\zl.cells.all LV.isCell=true
    match s with
    | .nilsl=>some ⟨q/\room 0,.gs new n,ft,[(new,some (.gr z n g))]⟩
    | .gs c k=>
     match H.at c with
     |some (.gr sz m f)=>if ft.contains c then none else some ⟨q/\room k/\sz=z/\k<=m,.gs new (k+n),c::ft,[(c,none),(new,some (.gr z (k+n) (M1 k f g)))]⟩
     |_=>none
    | .sl c 0 0 false 0 _=>
     match H.at c with
     |some (.row sz _ _ true)=>if ft.contains c then none else some ⟨q/\room 0/\sz=z/\n≠0,.gs new n,c::ft,[(c,none),(new,some (.gr z n g))]⟩
     |_=>none
    |_=>none
   |none=>none
  |_,_,_=>none
 |_,_=>none
theorem w9.row_gr{μ:d5}{p:Pl}{h:Option Obj}{sz n:Nat}{f:Nat->List LV}:w9 μ p h (.row sz n f true)↔w9 μ p h (.gr sz n f):=
 ⟨λ⟨h1,h2,cells,E,fr,h3,h4,h5,h6⟩=>⟨h1,h2,cells,E,fr,h3,h4,h5 rfl,h6⟩,λ⟨h1,h2,cells,E,fr,h3,h4,h5,h6⟩=>⟨h1,h2,cells,E,fr,h3,h4,λ_=>h5,h6⟩⟩
theorem c69{H:d7}{c s:Nat}{o:Option LO}{x:LV}{q:Prop}{n:Nat}{g:Nat->List LV}{ft:List Nat}(h:Z7 H s x=some (q,n,g,ft))(hc:c∉ft):Z7 (H.put c o) s x=some (q,n,g,ft):=by
 unfold Z7 at h⊢;split at h<;>first|exact h|skip
 all_goals
  split at h<;>try cases h
  simp only[d7.at_put];simp only[List.mem_singleton] at hc;rw[if_neg (λe=>hc e.symm)];rename_i ho;simp only[ho]
theorem i4.sl_gs{μ:d5}{c n:Nat}{cap:Option Nat}{v:Value}(hn:n≠0)(h:i4 μ (.sl c 0 0 false n cap) v):i4 μ (.gs c n) v:=by
 obtain⟨p,a,rc,hpc,rfl,hlen,_,_,_,haddr,hinn⟩:=h;have:=haddr (by omega);subst this;exact .inr ⟨hn,p,rc,hpc,rfl,hlen,by have:=(hinn rfl).2 (by omega);omega⟩
theorem i4.gs_sl{μ:d5}{c n:Nat}{v:Value}(hn:n≠0)(h:i4 μ (.gs c n) v):i4 μ (.sl c 0 0 false n none) v:=by
 rcases h with⟨h0,_⟩|⟨_,p,rc,hpc,rfl,h1,h2⟩
 ·exact absurd h0 hn
 ·exact⟨p,_,rc,hpc,rfl,h1,(λ_ h=>by cases h),rfl,rfl,(λ_=>rfl),λ_=>⟨rfl,λ_=>by omega⟩⟩
theorem i4.gs_nil{μ:d5}{c:Nat}{v:Value}(h:i4 μ (.gs c 0) v):v=.slice none 0 0:=by
 rcases h with⟨_,h⟩|⟨h,_⟩
 ·exact h
 ·exact absurd rfl h
theorem c0m{H:d7}{new:Nat}{st xt ty:TypeId}{s x:LV}{vs vx:Value}{e:u9}{μ:d5}{w:World}(h:b1b P H new st xt s x=some e)(hob:e.ob)(hs:i4 μ s vs)(hx:i4 μ x vx)
  (hn0:e.up.has new=true->μ new=none) (hp:M6 μ (H.pre e.foot) w):w5 P (Builtin.append_ #[st,xt] ty #[vs,vx]) μ w (H.pre e.foot) e.up e.v:=by
 unfold b1b at h;split at h<;>try cases h
 rename_i el xd hd hxd;split at h<;>try cases h
 rename_i hxi;have hxi' :a0G xd=false:=by simpa using hxi
 split at h<;>try cases h
 rename_i z b zl hz hb hzl;split at h<;>try cases h
 rename_i q n g ft hsrc;dsimp only at h;split at h<;>try cases h
 ·
  obtain⟨hq,r1,r2,r3,r4,r5⟩:=hob;have hn:=hn0 (by simp[i9.has]);by_cases hn1:n=0
  ·subst hn1
   obtain⟨cells,h1,h2,h3⟩:=u_ (P:=P) hsrc hq hx hp (λc o hc ho=>d7.mem_pre.2 ⟨hc,ho⟩);simp only[i4] at hs;subst hs;refine⟨_,_,μ,a6z hd hxd hxi' hz (h2 w) (h1 w rfl) (Nat.le_refl _) h3.1,.inl ⟨rfl,rfl⟩,A9.voids ?_⟩;intro c o hc;simp only[List.mem_singleton,Prod.mk.injEq,Option.some.injEq] at hc;obtain⟨rfl,rfl⟩:=hc;exact⟨hn,rfl⟩
  ·have:=a6H (P:=P) (H:=H) (new:=new) (st:=st) (xt:=xt) (ty:=ty) (s:=.nilsl) (x:=x) (mode:=1) (w:=w) (μ:=μ) (vs:=vs) (vx:=vx) (e:=⟨q/\(0<n/\0<z/\0<b/\(0+n) * b<=140737488351232/\zl.cells.length=z/\zl.cells.all LV.isCell=true),.sl new 0 0 false n none,ft,[(new,some (.row z n g true))]⟩)
    (by simp only[a3B,hd,hxd,hxi',hz,hb,hzl,hsrc,Bool.false_eq_true,if_false]) ⟨hq,by omega,r1,r2,r3,r4,r5⟩ hs hx (λ_=>hn) hp
   obtain⟨v,w',μ',g1,g2,g3⟩:=this;refine⟨v,w',μ',g1,i4.sl_gs hn1 g2,g3.swap (λc o h1 h2=>⟨o,h1,h2⟩) ?_ (λc h=>by simpa[i9.has] using h)⟩;intro c o hc;simp only[List.mem_singleton,Prod.mk.injEq,Option.some.injEq] at hc;obtain⟨rfl,rfl⟩:=hc;exact⟨_,List.mem_singleton.2 rfl,λ_=>rfl,λh=>h.elim,λp h=>w9.row_gr.1⟩
 ·
  rename_i c k;split at h<;>try cases h
  rename_i sz m f ho;split at h<;>cases h;rename_i hct;have hct:c∉ft:=by simpa using hct
  obtain⟨hq,⟨r1,r2,r3,r4,r5⟩,rfl,him⟩:=hob;have hn:=hn0 (by simp[i9.has]);have hpc0:(c,LO.gr sz m f)∈H.pre (c::ft):=d7.mem_pre.2 ⟨List.mem_cons_self,ho⟩;by_cases hk:k=0
  ·subst hk
   have:=i4.gs_nil hs;subst this;have hp' :M6 μ (H.pre ft) w:=⟨λc' o' hc' =>hp.obj' c' o' (d7.mem_pre.2 ⟨List.mem_cons_of_mem _ (d7.mem_pre.1 hc').1,(d7.mem_pre.1 hc').2⟩),
    λa o a' o' p p' h h' =>hp.sep a o a' o' p p' (d7.mem_pre.2 ⟨List.mem_cons_of_mem _ (d7.mem_pre.1 h).1,(d7.mem_pre.1 h).2⟩) (d7.mem_pre.2 ⟨List.mem_cons_of_mem _ (d7.mem_pre.1 h').1,(d7.mem_pre.1 h').2⟩),hp.fro,
    λa o p h=>hp.frs a o p (d7.mem_pre.2 ⟨List.mem_cons_of_mem _ (d7.mem_pre.1 h).1,(d7.mem_pre.1 h).2⟩),hp.tab⟩
   have e0:M1 0 f g=g:=by funext t;simp[M1]
   rw[e0,Nat.zero_add];by_cases hn1:n=0
   ·subst hn1
    obtain⟨cells,h1,h2,h3⟩:=u_ (P:=P) hsrc hq hx hp' (λc o hc ho=>d7.mem_pre.2 ⟨hc,ho⟩);refine⟨_,_,μ,a6z hd hxd hxi' hz (h2 w) (h1 w rfl) (Nat.le_refl _) h3.1,.inl ⟨rfl,rfl⟩,A9.voids ?_⟩;intro c' o' hc;simp only[List.mem_cons,Prod.mk.injEq,reduceCtorEq,and_false,Option.some.injEq,List.not_mem_nil,or_false,false_or] at hc;obtain⟨rfl,rfl⟩:=hc;exact⟨hn,rfl⟩
   ·have:=a6H (P:=P) (H:=H) (new:=new) (st:=st) (xt:=xt) (ty:=ty) (s:=.nilsl) (x:=x) (mode:=1) (w:=w) (μ:=μ) (vs:=.slice none 0 0) (vx:=vx) (e:=⟨q/\(0<n/\0<sz/\0<b/\(0+n) * b<=140737488351232/\zl.cells.length=sz/\zl.cells.all LV.isCell=true),.sl new 0 0 false n none,ft,[(new,some (.row sz n g true))]⟩)
     (by simp only[a3B,hd,hxd,hxi',hz,hb,hzl,hsrc,Bool.false_eq_true,if_false]) ⟨hq,by omega,r1,r2,r3,r4,r5⟩ rfl hx (λ_=>hn) hp'
    obtain⟨v,w',μ',g1,g2,g3⟩:=this;refine⟨v,w',μ',g1,i4.sl_gs hn1 g2,g3.swap (λa o h1 h2=>⟨o,d7.mem_pre.2 ⟨List.mem_cons_of_mem _ (d7.mem_pre.1 h1).1,(d7.mem_pre.1 h1).2⟩,h2⟩) ?_ (λa h=>by simp only[i9.has_one] at h;subst h;simp[i9.has])⟩;intro c' o' hc;simp only[List.mem_cons,Prod.mk.injEq,reduceCtorEq,and_false,Option.some.injEq,List.not_mem_nil,or_false,false_or] at hc;obtain⟨rfl,rfl⟩:=hc;exact⟨_,List.mem_singleton.2 rfl,λ_=>rfl,λh=>h.elim,λp h=>w9.row_gr.1⟩
  ·obtain⟨p,hpc⟩:∃p,μ c=some p:=by
    rcases hs with⟨h,_⟩|⟨_,p,rc,h,_⟩
    ·exact absurd h hk
    ·exact⟨p,h⟩
   have hok:=hp.placed hpc0 hpc;by_cases hn1:n=0
   ·subst hn1
    obtain⟨cells,h1,h2,h3⟩:=u_ (P:=P) hsrc hq hx hp (λc o hc ho=>d7.mem_pre.2 ⟨List.mem_cons_of_mem _ hc,ho⟩);rcases hs with⟨h0,_⟩|⟨_,p',rc,hpc',rfl,l1,l2⟩
    ·exact absurd h0 hk
    obtain rfl:=Option.some.inj (hpc'.symm.trans hpc);refine⟨_,_,μ.set new p',a6z hd hxd hxi' hz (h2 w) (h1 w rfl) l1 h3.1,.inr ⟨by omega,p',rc,d5.set_self,rfl,l1,l2⟩,A9.alias hpc' hpc0 rfl hn ?_⟩;obtain⟨a1,a2,cs,E,fr,a3,a4,a5,a6⟩:=hok.mono (d5.ext_set (p:=p') hn);refine⟨a1,by omega,cs,E,fr,a3,a4,a5,λi hi=>?_⟩;have:M1 k f g i=f i:=by simp only[M1];rw[if_pos (by omega)]
    rw[this];exact a6 i (by omega)
   ·have hmem:∀d o',(d,o')∈(H.put c (some (.row sz m f true))).pre (c::ft)->∃o,(d,o)∈H.pre (c::ft)/\o.wr=o'.wr/\(d≠c->o=o')/\(d=c->o' =.row sz m f true):=by
     intro d o' hd';obtain⟨k1,k2⟩:=d7.mem_pre.1 hd';rw[d7.at_put] at k2;by_cases hdc:d=c
     ·rw[if_pos hdc] at k2
      cases k2;subst hdc;exact⟨_,hpc0,rfl,λh=>absurd rfl h,λ_=>rfl⟩
     ·rw[if_neg hdc] at k2
      exact⟨o',d7.mem_pre.2 ⟨k1,k2⟩,rfl,λ_=>rfl,λh=>absurd h hdc⟩
    have hp' :M6 μ ((H.put c (some (.row sz m f true))).pre (c::ft)) w:=by
     refine⟨λd o' hd' =>?_,λd o d' o' p p' h h' hne hw hpd hpd' =>?_,hp.fro,λd o p h hw hpd=>?_,hp.tab⟩
     ·obtain⟨o,g1,g2,g3,g4⟩:=hmem d o' hd'
      by_cases hdc:d=c
      ·subst hdc
       rw[g4 rfl];exact .inr ⟨p,hpc,w9.row_gr.2 hok⟩
      ·rw[<-g3 hdc]
       exact hp.obj' d o g1
     ·obtain⟨o1,g1,g2,_⟩:=hmem d o h
      obtain⟨o2,g3,g4,_⟩:=hmem d' o' h';exact hp.sep d o1 d' o2 p p' g1 g3 hne (by rw[g2,g4];exact hw) hpd hpd'
     ·obtain⟨o1,g1,g2,_⟩:=hmem d o h
      exact hp.frs d o1 p g1 (by rw[g2];exact hw) hpd
    have hat:(H.put c (some (.row sz m f true))).at c=some (.row sz m f true):=by rw[d7.at_put,if_pos rfl]
    have:=a6H (P:=P) (H:=H.put c (some (.row sz m f true))) (new:=new) (st:=st) (xt:=xt) (ty:=ty) (s:=.sl c 0 0 false k none) (x:=x) (mode:=1) (w:=w) (μ:=μ) (vs:=vs) (vx:=vx)
     (e:=⟨q/\(0<n/\0<sz/\0<b/\(k+n) * b<=140737488351232/\zl.cells.length=sz/\zl.cells.all LV.isCell=true)/\sz=sz/\0+k<=m,.sl new 0 0 false (k+n) none,c::ft,[(c,none),(new,some (.row sz (k+n) (M1 k (λt=>f (0+t)) g) true))]⟩)
     (by simp only[a3B,hd,hxd,hxi',hz,hb,hzl,c69 hsrc hct,hat,Bool.false_eq_true,if_false]) ⟨hq,⟨by omega,r1,r2,r3,r4,r5⟩,rfl,by omega⟩ (i4.gs_sl hk hs) hx (λ_=>hn) hp'
    obtain⟨v,w',μ',g1,g2,g3⟩:=this;refine⟨v,w',μ',g1,i4.sl_gs (by omega) g2,g3.swap (λa o h1 h2=>by obtain⟨o1,k1,k2,_⟩:=hmem a o h1;exact⟨o1,k1,by rw[k2];exact h2⟩) ?_ (λa h=>by simpa[i9.has] using h)⟩;intro c' o' hc;simp only[List.mem_cons,Prod.mk.injEq,reduceCtorEq,and_false,Option.some.injEq,List.not_mem_nil,or_false,false_or] at hc;obtain⟨rfl,rfl⟩:=hc;refine⟨.row sz (k+n) (M1 k (λt=>f (0+t)) g) true,by simp,λ_=>rfl,λh=>h.elim,λp h=>?_⟩;have:(λt=>f (0+t))=f:=by funext t;rw[Nat.zero_add]
    rw[this];exact w9.row_gr.1
 ·
  rename_i c cp;split at h<;>try cases h
  rename_i sz m f ho;split at h<;>cases h;rename_i hct;obtain⟨hq,⟨r1,r2,r3,r4,r5⟩,rfl,hn1⟩:=hob;have hn:=hn0 (by simp[i9.has]);have:=a6H (P:=P) (H:=H) (new:=new) (st:=st) (xt:=xt) (ty:=ty) (s:=.sl c 0 0 false 0 cp) (x:=x) (mode:=1) (w:=w) (μ:=μ) (vs:=vs) (vx:=vx)
   (e:=⟨q/\(0<n/\0<sz/\0<b/\(0+n) * b<=140737488351232/\zl.cells.length=sz/\zl.cells.all LV.isCell=true)/\sz=sz/\0+0<=m,.sl new 0 0 false (0+n) none,c::ft,[(c,none),(new,some (.row sz (0+n) (M1 0 (λt=>f (0+t)) g) true))]⟩)
   (by simp only[a3B,hd,hxd,hxi',hz,hb,hzl,hsrc,ho,Bool.false_eq_true,if_false]) ⟨hq,⟨by omega,r1,r2,r3,r4,r5⟩,rfl,by omega⟩ hs hx (λ_=>hn) hp
  obtain⟨v,w',μ',g1,g2,g3⟩:=this;rw[Nat.zero_add] at g2 g3;refine⟨v,w',μ',g1,i4.sl_gs hn1 g2,g3.swap (λa o h1 h2=>⟨o,h1,h2⟩) ?_ (λa h=>by simpa[i9.has] using h)⟩;intro c' o' hc;simp only[List.mem_cons,Prod.mk.injEq,reduceCtorEq,and_false,Option.some.injEq,List.not_mem_nil,or_false,false_or] at hc;obtain⟨rfl,rfl⟩:=hc;refine⟨.row sz n (M1 0 (λt=>f (0+t)) g) true,by simp,λ_=>rfl,λh=>h.elim,λp h=>?_⟩;have:M1 0 (λt=>f (0+t)) g=g:=by funext t;simp[M1]
  rw[this];exact w9.row_gr.1
end
end Go.Cn
