import Derived.Test.YtddgjfclpknkcaaGreatDoorCnD
namespace Go.Cn
open Go
theorem b4k{vs:Array Value}{a n:Nat}:vs.extract a (a+n)=((vs.toList.drop a).take n).toArray:=by
 apply Array.ext';simp[List.take_drop]
def a8F(P:Program)(t:TypeId)(cs:List LV)(off:Nat):Option u9:=
 match F7 P t with
 |some d=>
  if L7 d then
   match I6 P t with
   |some s=>some (.val (.agg ((cs.drop off).take s)))
   |none=>none
  else some (.valIf (off<cs.length) ((cs[off]?).getD .any))
 |none=>none
theorem b5g{P:Program}{t:TypeId}{cs:List LV}{vs:Array Value}{off:Nat}{e:u9}{μ:d5}{w:World}{pre:u6}(h:a8F P t cs off=some e)(hob:e.ob)(hr:o6 μ cs vs.toList):
  e.up=[]/\e.foot=[]/\w5 P (part t vs off) μ w pre [] e.v:=by
 unfold a8F at h;split at h<;>try cases h
 rename_i d hd;split at h
 ·rename_i hag
  split at h<;>cases h;rename_i s hs;refine⟨rfl,rfl,w5.same (x:=.agg (vs.extract off (off+s))) ?_ ⟨_,rfl,?_⟩⟩
  ·simp[part,a1J hd,hag,K9 hs]
  ·rw[b4k];exact(hr.drop off).take s
 ·rename_i hag
  cases h;obtain⟨x,hx⟩:∃x,cs[off]?=some x:=⟨_,List.getElem?_eq_getElem hob⟩
  obtain⟨v,hv,hrv⟩:=hr.get hx;refine⟨rfl,rfl,w5.same (x:=v) ?_ (by simpa[hx,u9.valIf] using hrv)⟩;have hv' :vs[off]?=some v:=by simpa using hv
  simp[part,a1J hd,hag,hv']
def b1n(P:Program)(t:TypeId)(x:LV)(f:Nat):Option u9:=
 match F7 P t,x with
 |some (.struct fs),.agg cs=>
  match fs[f]? with
  |some fd=>a8F P fd.type cs fd.offset
  |none=>none
 |_,_=>none
theorem c0C{P:Program}{t:TypeId}{x:LV}{f:Nat}{e:u9}{μ:d5}{w:World}{pre:u6}{vx:Value}(h:b1n P t x f=some e)(hob:e.ob)(hx:i4 μ x vx):
  e.up=[]/\e.foot=[]/\w5 P (Instr.field t vx f) μ w pre [] e.v:=by
 unfold b1n at h;split at h<;>try cases h
 rename_i fs cs hd;split at h<;>try cases h
 rename_i fd hf;obtain⟨vs,rfl,hr⟩:=hx;obtain⟨h1,h2,x,w',μ',h3,h4,h5⟩:=b5g (w:=w) (pre:=pre) h hob hr;refine⟨h1,h2,x,w',μ',?_,h4,h5⟩;simp only[Instr.field,Sem.run_bind,w7 hd,Result.andThen_ok,hf,asAgg,Sem.run_pure];exact h3
def b1o(P:Program)(t:TypeId)(x:LV)(f:Nat):Option u9:=
 match F7 P t,x with
 |some (.struct fs),.ptr c i j=>
  match fs[f]? with
  |some fd=>
   match I6 P fd.type with
   |some 0=>none
   |some _=>some (.val (.ptr c i (j+fd.offset)))
   |none=>none
  |none=>none
 |some (.struct fs),.dp cs=>
  match fs[f]? with
  |some fd=>
   match I6 P fd.type with
   |some 0=>none
   |some _=>some (.val (.dp (cs.drop fd.offset)))
   |none=>none
  |none=>none
 |_,_=>none
theorem a4T{a:Addr}{n:Nat}(h:a.spot=none):a.add n=⟨a.block,a.off+n,none⟩:=by
 obtain⟨b,o,s⟩:=a;simp only at h;subst h;unfold Addr.add;split
 ·rename_i h0;subst h0;rfl
 ·rfl
theorem b4Z{μ:d5}{cs:List LV}{a:Addr}{cells:Array Value}{vs:List Value}(hsp:a.spot=none)(hfz:μ.fro a.block=some cells)(hr:A3 μ.fro cs vs)(hl:I4 cells a.off vs)
  (h1:∀v∈vs,v.oneCell' =true) (n:Nat):i4 μ (.dp (cs.drop n)) (.pointer (some (a.add n))):=by
 simp only[i4,D8];rw[a4T hsp];exact⟨_,cells,vs.drop n,rfl,rfl,hfz,hr.drop n,hl.drop n,λv hv=>h1 v (List.mem_of_mem_drop hv)⟩
theorem c0B{P:Program}{t:TypeId}{x:LV}{f:Nat}{e:u9}{μ:d5}{w:World}{pre:u6}{vx:Value}(h:b1o P t x f=some e)(hx:i4 μ x vx):
  e.up=[]/\e.foot=[]/\w5 P (Instr.fieldAt t vx f) μ w pre [] e.v:=by
 unfold b1o at h;split at h<;>try cases h
 case h_2=>
  rename_i fs cs hd;split at h<;>try cases h
  rename_i fd hf;split at h<;>cases h;rename_i s hs hs0;simp only[i4,D8] at hx;obtain⟨a,cells,vs,rfl,hsp,hfz,hr,hl,h1⟩:=hx;have hne:¬(s=0):=λe=>hs e;refine⟨rfl,rfl,w5.same (x:=.pointer (some (a.add fd.offset))) ?_ ?_⟩
  ·simp only[Instr.fieldAt,Sem.run_bind,w7 hd,Result.andThen_ok,hf,Instr.sureAddr,Sem.run_pure,fieldPlace,K9 hs0]
   simp only[Sem.run_ite,hne,if_false,Sem.run_pure,Result.andThen_ok]
  ·exact b4Z hsp hfz hr hl h1 fd.offset
 rename_i fs c i j hd;split at h<;>try cases h
 rename_i fd hf;split at h<;>cases h;rename_i s hs hs0;obtain⟨p,hpc,rfl⟩:=hx;refine⟨rfl,rfl,w5.same (x:=.pointer (some (p.addr i (j+fd.offset)))) ?_ ⟨p,hpc,rfl⟩⟩;have hne:¬(s=0):=λe=>hs e;simp only[Instr.fieldAt,Sem.run_bind,w7 hd,Result.andThen_ok,hf,Instr.sureAddr,Sem.run_pure,fieldPlace,K9 hs0];simp only[Sem.run_ite,hne,if_false,Sem.run_pure,Result.andThen_ok,a19];simp[Pl.addr,Nat.add_assoc]
def b1q(P:Program)(H:d7)(t:TypeId)(x ix:LV):Option u9:=
 match ix with
 | .int _ n=>
  match F7 P t,x with
  |some (.array len el),.ptr c i j=>
   match I6 P el with
   |some s=>some (.valIf (0<=n/\n<len) (.ptr c i (j+n.toNat * s)))
   |none=>none
  |some (.array len el),.dp cs=>
   match I6 P el with
   |some s=>some (.valIf (0<=n/\n<len) (.dp (cs.drop (n.toNat * s))))
   |none=>none
  |some (.slice el),.ds sz len f=>
   match I6 P el with
   |some s=>some (.valIf (sz=s/\0<=n/\n<len) (.dp (f n.toNat)))
   |none=>none
  |some (.slice el),.gs c len=>
   match I6 P el,H.at c with
   |some s,some (.gr sz _ _)=>some ⟨sz=s/\0<=n/\n<len,.ptr c n.toNat 0,[c],[]⟩
   |_,_=>none
  |some (.slice el),.sl c i j inn len _=>
   match I6 P el with
   |some s=>
    if inn then some (.valIf (0<=n/\n<len) (.ptr c i (j+n.toNat * s)))
    else
     match H.at c with
     |some (.row sz _ _ _)=>some ⟨sz=s/\0<=n/\n<len,.ptr c (i+n.toNat) 0,[c],[]⟩
     |_=>none
   |none=>none
  |_,_=>none
 |_=>none
theorem c0D{P:Program}{H:d7}{t:TypeId}{x ix:LV}{e:u9}{μ:d5}{w:World}{vx vi:Value}(h:b1q P H t x ix=some e)(hob:e.ob)(hx:i4 μ x vx)(hi:i4 μ ix vi)
  (hp:M6 μ (H.pre e.foot) w):e.up=[]/\w5 P (Instr.indexAt t vx vi) μ w (H.pre e.foot) [] e.v:=by
 unfold b1q at h;split at h<;>try cases h
 rename_i k n;simp only[i4] at hi;subst hi;split at h<;>try cases h
 ·rename_i len el c i j hd
  split at h<;>cases h;rename_i s hs;obtain⟨p,hpc,rfl⟩:=hx;refine⟨rfl,w5.same (x:=.pointer (some (p.addr i (j+n.toNat * s)))) ?_ ⟨p,hpc,rfl⟩⟩;have hb:0<=n/\n<(len:Int):=hob;simp only[Instr.indexAt,asIntOf,Sem.run_bind,w7 hd,Result.andThen_ok,Instr.sureAddr,Sem.run_pure];simp only[Sem.run_ite,hb,and_self,if_true,Sem.run_bind,K9 hs,Result.andThen_ok,Sem.run_pure,a19];simp[Pl.addr,Nat.add_assoc]
 ·rename_i len el cs hd
  split at h<;>cases h;rename_i s hs;have hb:0<=n/\n<(len:Int):=hob;simp only[i4,D8] at hx;obtain⟨a,cells,vs,rfl,hsp,hfz,hr,hl,h1⟩:=hx;refine⟨rfl,w5.same (x:=.pointer (some (a.add (n.toNat * s)))) ?_ (b4Z hsp hfz hr hl h1 _)⟩;simp only[Instr.indexAt,asIntOf,Sem.run_bind,w7 hd,Result.andThen_ok,Instr.sureAddr,Sem.run_pure];simp only[Sem.run_ite,hb,and_self,if_true,Sem.run_bind,K9 hs,Result.andThen_ok,Sem.run_pure]
 ·rename_i el sz len f hd
  split at h<;>cases h;rename_i s hs;obtain⟨hsz,hb⟩:sz=s/\0<=n/\n<(len:Int):=hob;subst hsz;simp only[i4,D8] at hx;obtain⟨base,rc,rfl,hrc,hbn,hsp,hel⟩:=hx;obtain⟨a,cells,vs,rfl,hfz,hr,hvs,hl,h1⟩:=hel n.toNat (by omega);have hsp:=hsp a rfl (by omega);refine⟨rfl,w5.same (x:=.pointer (some (a.add (n.toNat * sz)))) ?_ ?_⟩
  ·simp only[Instr.indexAt,asIntOf,Sem.run_bind,w7 hd,Result.andThen_ok,Sem.run_pure]
   simp only[Sem.run_ite,hb,and_self,if_true,Sem.run_bind,K9 hs,Result.andThen_ok,Sem.run_pure]
  ·simp only[u9.valIf,i4,D8]
   rw[a4T hsp];exact⟨_,cells,vs,rfl,rfl,hfz,hr,hl,h1⟩
 ·rename_i el c len hd
  split at h<;>cases h;rename_i s sz n' f hs ho;obtain⟨hsz,hb⟩:=hob;subst hsz;rcases hx with⟨h0,_⟩|⟨_,p,rc,hpc,rfl,hlen,hrc⟩
  ·omega
  have hok:=hp.placed (c:=c) (by rw[d7.pre_one ho];exact List.mem_singleton.2 rfl) hpc;refine⟨rfl,w5.same (x:=.pointer (some (p.addr n.toNat 0))) ?_ ⟨p,hpc,rfl⟩⟩;simp only[Instr.indexAt,asIntOf,Sem.run_bind,w7 hd,Result.andThen_ok,Sem.run_pure];simp only[Sem.run_ite,hb,and_self,if_true,Sem.run_bind,K9 hs,Result.andThen_ok,Sem.run_pure,a19];have hsz:=hok.1;simp only[Pl.addr,Nat.add_zero,Nat.zero_mul];rw[<-hsz]
 ·rename_i el c i j inn len cap hd
  split at h<;>try cases h
  rename_i s hs;obtain⟨p,a,rc,hpc,rfl,hlen,hcap,hsp,hbl,haddr,hinn⟩:=hx;split at h
  ·rename_i hin
   cases h;have hb:0<=n/\n<(len:Int):=hob;have ha:=haddr (by omega);subst ha;refine⟨rfl,w5.same (x:=.pointer (some (p.addr i (j+n.toNat * s)))) ?_ ⟨p,hpc,rfl⟩⟩;simp only[Instr.indexAt,asIntOf,Sem.run_bind,w7 hd,Result.andThen_ok,Sem.run_pure];simp only[Sem.run_ite,hb,and_self,if_true,Sem.run_bind,K9 hs,Result.andThen_ok,Sem.run_pure,a19];simp[Pl.addr,Nat.add_assoc]
  ·rename_i hin
   split at h<;>cases h;rename_i sz n' f wr ho;obtain⟨h1,hb⟩:=hob;subst h1;have hpc' :=hpc;have hok:=hp.placed (c:=c) (by rw[d7.pre_one ho];exact List.mem_singleton.2 rfl) hpc;have ha:=haddr (by omega);subst ha;have hj:=(hinn (by simpa using hin)).1;subst hj;refine⟨rfl,w5.same (x:=.pointer (some (p.addr (i+n.toNat) 0))) ?_ ⟨p,hpc,rfl⟩⟩;simp only[Instr.indexAt,asIntOf,Sem.run_bind,w7 hd,Result.andThen_ok,Sem.run_pure];simp only[Sem.run_ite,hb,and_self,if_true,Sem.run_bind,K9 hs,Result.andThen_ok,Sem.run_pure,a19];have hsz:=hok.1;simp only[Pl.addr,Nat.add_zero];rw[<-hsz,Nat.add_mul];simp[Nat.add_assoc]
def b1p(P:Program)(t:TypeId)(x ix:LV):Option u9:=
 match ix with
 | .int _ n=>
  match F7 P t,x with
  |some (.array len el),.agg cs=>
   match I6 P el with
   |some s=>
    match a8F P el cs (n.toNat * s) with
    |some e=>some ⟨(0<=n/\n<len)/\e.ob,e.v,[],[]⟩
    |none=>none
   |none=>none
  |some .string,.str l=>some (.valIf (0<=n/\n<l.length) (.int .u8 (l.getD n.toNat 0).toNat))
  |_,_=>none
 |_=>none
theorem c0E{P:Program}{t:TypeId}{x ix:LV}{e:u9}{μ:d5}{w:World}{pre:u6}{vx vi:Value}(h:b1p P t x ix=some e)(hob:e.ob)(hx:i4 μ x vx)(hi:i4 μ ix vi):
  e.up=[]/\e.foot=[]/\w5 P (Instr.index t vx vi) μ w pre [] e.v:=by
 unfold b1p at h;split at h<;>try cases h
 rename_i k n;simp only[i4] at hi;subst hi;split at h<;>try cases h
 ·rename_i len el cs hd
  split at h<;>try cases h
  rename_i s hs;split at h<;>cases h;rename_i e' he;obtain⟨hb,hob'⟩:=hob;obtain⟨vs,rfl,hr⟩:=hx;obtain⟨h1,h2,x,w',μ',h3,h4,h5⟩:=b5g (w:=w) (pre:=pre) he hob' hr;refine⟨rfl,rfl,x,w',μ',?_,h4,h5⟩;simp only[Instr.index,asIntOf,Sem.run_bind,w7 hd,Result.andThen_ok,Sem.run_pure];simp only[Sem.run_ite,hb,and_self,if_true,Sem.run_bind,K9 hs,Result.andThen_ok];exact h3
 ·rename_i l hd
  have hb:0<=n/\n<(l.length:Int):=hob;simp only[i4] at hx;subst hx;have hlt:n.toNat<l.length:=by omega
  have hg:(⟨l.toArray⟩:ByteArray)[n.toNat]?=some (l.getD n.toNat 0):=by
   show(if h:n.toNat<(⟨l.toArray⟩:ByteArray).size then some ((⟨l.toArray⟩:ByteArray)[n.toNat]'h) else none)=_;rw[dif_pos (show n.toNat<(⟨l.toArray⟩:ByteArray).size from by simpa[ByteArray.size] using hlt)];congr 1;show(l.toArray)[n.toNat]=_;simp[List.getD,hlt]
  refine⟨rfl,rfl,w5.same (x:=.int .u8 (l.getD n.toNat 0).toNat) ?_ rfl⟩;simp only[Instr.index,asIntOf,Sem.run_bind,w7 hd,Result.andThen_ok,Sem.run_pure,hb.1,if_true,hg]
def a7o:Option LV->Option (Option Int)
 |none=>some none
 |some (.int _ n)=>some (some n)
 |_=>none
def a8v(mx:Option Int)(cap:Option Nat)(l:Nat):Option Nat:=
 match mx with
 |none=>cap.map (· - l)
 |some m=>some (m.toNat - l)
def b1v(P:Program)(H:d7)(t:TypeId)(x:LV)(lo hi mx:Option LV):Option u9:=
 match a7o lo,a7o hi,a7o mx with
 |some lo,some hi,some mx=>
  let l:=lo.getD 0
  match F7 P t,x with
  |some .string,.str s=>
   let h:=hi.getD s.length
   match mx with
   |none=>some (.valIf (0<=l/\l<=h/\h<=s.length) (.str ((s.drop l.toNat).take (h.toNat - l.toNat))))
   |some _=>none
  |some (.slice el),.sl c i j inn len cap=>
   let h:=hi.getD len
   match I6 P el with
   |some s=>
    let q:=0<=l/\l<=h/\h<=mx.getD len/\mx.getD len<=len/\(mx=none\/hi≠none)
    let cap' :=a8v mx cap l.toNat
    if inn then some (.valIf q (.sl c i (j+l.toNat * s) true (h.toNat - l.toNat) cap'))
    else match H.at c with
     |some (.row sz _ _ _)=>some ⟨sz=s/\q,.sl c (i+l.toNat) j false (h.toNat - l.toNat) cap',[c],[]⟩
     |_=>none
   |none=>none
  |some (.slice el),.nilsl=>
   match I6 P el with
   |some _=>some (.valIf (l=0/\hi.getD 0=0/\mx.getD 0=0/\(mx=none\/hi≠none)) .nilsl)
   |none=>none
  |some (.slice el),.ds sz n f=>
   let h:=hi.getD n
   match I6 P el,mx with
   |some s,none=>some (.valIf (sz=s/\0<=l/\l<=h/\h<=n) (.ds sz (h.toNat - l.toNat) (λq=>f (l.toNat+q))))
   |_,_=>none
  |some (.array n el),.ptr c i j=>
   let h:=hi.getD n
   match I6 P el,mx with
   |some s,none=>some (.valIf (0<=l/\l<=h/\h<=n) (.sl c i (j+l.toNat * s) true (h.toNat - l.toNat) (some (n - l.toNat))))
   |_,_=>none
  |_,_=>none
 |_,_,_=>none
theorem c6C{P:Program}{w:World}{k:IntKind}{i:Int}{y:Nat}{code:BoundsCode}(h0:0<=i)(h1:i<=(y:Int)):(Instr.sliceBound (.int k i) y code).run P w=.ok i.toNat w:=by
 simp[Instr.sliceBound,asIntOf,h0,h1]
theorem b2Q{μ:d5}{x:Option LV}{v:Option Value}{n:Option Int}(h:a7o x=some n)(hx:∀a,x=some a->∃b,v=some b/\i4 μ a b)(hn:x=none->v=none):
  (n=none/\v=none)\/∃m k,n=some m/\v=some (.int k m):=by
 unfold a7o at h;split at h
 ·cases h;exact .inl ⟨rfl,hn rfl⟩
 ·rename_i k m
  cases h;obtain⟨b,hb,hr⟩:=hx _ rfl;simp only[i4] at hr;exact .inr ⟨m,k,rfl,by rw[hb,hr]⟩
 ·cases h
theorem a7V{P:Program}{w:World}{isS:Bool}{len cap:Nat}{lo hi mx:Option Int}{vlo vhi vmx:Option Value}
  (hlo:(lo=none/\vlo=none)\/∃m k,lo=some m/\vlo=some (.int k m)) (hhi:(hi=none/\vhi=none)\/∃m k,hi=some m/\vhi=some (.int k m))
  (hmx:(mx=none/\vmx=none)\/∃m k,mx=some m/\vmx=some (.int k m))
  (h0:0<=lo.getD 0) (h1:lo.getD 0<=hi.getD len) (h2:hi.getD len<=mx.getD cap) (h3:mx.getD cap<=(cap:Int)) (h4:mx=none\/hi≠none):
  (Instr.sliceBounds isS len cap vlo vhi vmx).run P w=.ok ((lo.getD 0).toNat,(hi.getD len).toNat,(mx.getD cap).toNat) w:=by
 rcases hmx with⟨rfl,rfl⟩|⟨m,km,rfl,rfl⟩<;>rcases hhi with⟨rfl,rfl⟩|⟨h,kh,rfl,rfl⟩<;>rcases hlo with⟨rfl,rfl⟩|⟨l,kl,rfl,rfl⟩<;>
  simp only[Option.getD_none,Option.getD_some] at h0 h1 h2 h3⊢<;>
  first
   |(simp at h4;done)
   |(unfold Instr.sliceBounds
     simp only[Sem.run_bind,Sem.run_pure,Result.andThen_ok]
     repeat(first
      |rw[c6C (by omega) (by omega)]
      |simp only[Result.andThen_ok,Sem.run_pure,Sem.run_bind,Int.toNat_natCast])
     try simp)
theorem b0M{a:Addr}{n:Nat}(h:a.spot=none):(a.add n).spot=none:=by unfold Addr.add;split<;>simp[h]
theorem b4h{a:Addr}{n:Nat}:(a.add n).block=a.block:=by unfold Addr.add;split<;>simp
theorem c0Q{P:Program}{H:d7}{t:TypeId}{x:LV}{lo hi mx:Option LV}{e:u9}{μ:d5}{w:World}{vx:Value}{vlo vhi vmx:Option Value}
  (h:b1v P H t x lo hi mx=some e) (hob:e.ob) (hx:i4 μ x vx)
  (hlo:∀a,lo=some a->∃b,vlo=some b/\i4 μ a b) (hlo' :lo=none->vlo=none)
  (hhi:∀a,hi=some a->∃b,vhi=some b/\i4 μ a b) (hhi' :hi=none->vhi=none)
  (hmx:∀a,mx=some a->∃b,vmx=some b/\i4 μ a b) (hmx' :mx=none->vmx=none) (hp:M6 μ (H.pre e.foot) w):
  e.up=[]/\w5 P (Instr.sliceAt t vx vlo vhi vmx) μ w (H.pre e.foot) [] e.v:=by
 unfold b1v at h;split at h<;>try cases h
 rename_i lo' hi' mx' elo ehi emx;have blo:=b2Q elo hlo hlo';have bhi:=b2Q ehi hhi hhi';have bmx:=b2Q emx hmx hmx';dsimp only at h;split at h<;>try cases h
 ·rename_i s hd
  split at h<;>cases h;obtain⟨h0,h1,h2⟩:=hob;simp only[i4] at hx;subst hx;obtain⟨_,rfl⟩:True/\vmx=none:=by
   rcases bmx with⟨_,h⟩|⟨m,k,h,_⟩
   ·exact⟨trivial,h⟩
   ·cases h
  refine⟨rfl,w5.same (x:=.string ((⟨s.toArray⟩:ByteArray).extract (lo'.getD 0).toNat (hi'.getD s.length).toNat)) ?_ ?_⟩
  ·have hsz:(⟨s.toArray⟩:ByteArray).size=s.length:=by simp[ByteArray.size]
   have hb:=a7V (P:=P) (w:=w) (isS:=false) (len:=s.length) (cap:=s.length) blo bhi (.inl ⟨rfl,rfl⟩) h0 h1 (by simpa using h2) (by simp) (.inl rfl);simp only[Instr.sliceAt,Sem.run_bind,w7 hd,Result.andThen_ok,Instr.slice,hsz,Option.isSome_none,Bool.false_eq_true,if_false,Sem.run_pure,hb]
  ·simp only[u9.valIf,i4,Value.string.injEq]
   apply ByteArray.ext;apply Array.ext';simp[ByteArray.extract,ByteArray.copySlice,List.take_drop]
 ·rename_i el c i j inn len cap hd
  split at h<;>try cases h
  rename_i s hs;obtain⟨p,a,rc,hpc,rfl,hlen,hcap,hsp,hbl,haddr,hinn⟩:=hx;have run:∀(q:0<=lo'.getD 0/\lo'.getD 0<=hi'.getD len/\hi'.getD len<=mx'.getD len/\mx'.getD len<=len/\(mx' =none\/hi' ≠none)),
    ∃m:Nat,(Instr.sliceAt t (.slice (some a) len rc) vlo vhi vmx).run P w=
     .ok (.slice (if m=(lo'.getD 0).toNat then some a else some (a.add ((lo'.getD 0).toNat * s))) ((hi'.getD len).toNat - (lo'.getD 0).toNat) (m - (lo'.getD 0).toNat)) w/\
     (hi'.getD len).toNat<=m/\m<=rc/\(mx' =none->m=rc)/\(∀x,mx' =some x->m=x.toNat):=by
   intro ⟨q0,q1,q2,q3,q4⟩;refine⟨(mx'.getD rc).toNat,?_,?_,?_,?_,?_⟩
   ·have hb:=a7V (P:=P) (w:=w) (isS:=true) (len:=len) (cap:=rc) blo bhi bmx q0 q1
     (by rcases mx' with _|m<;>simp only[Option.getD_none,Option.getD_some] at q2 q3⊢<;>omega)
     (by rcases mx' with _|m<;>simp only[Option.getD_none,Option.getD_some] at q2 q3⊢<;>omega) q4
    simp only[Instr.sliceAt,Sem.run_bind,w7 hd,Result.andThen_ok,Instr.slice,hb,K9 hs,Sem.run_pure,Option.map_some]
   ·rcases mx' with _|m<;>simp only[Option.getD_none,Option.getD_some] at q2 q3⊢<;>omega
   ·rcases mx' with _|m<;>simp only[Option.getD_none,Option.getD_some] at q2 q3⊢<;>omega
   ·intro e;subst e;simp
   ·intro x e;subst e;simp
  have rel:∀(q:0<=lo'.getD 0/\lo'.getD 0<=hi'.getD len/\hi'.getD len<=mx'.getD len/\mx'.getD len<=len/\(mx' =none\/hi' ≠none)) (m:Nat) (i' j' :Nat)
    (hm1:(hi'.getD len).toNat<=m) (hm2:m<=rc) (hm3:mx' =none->m=rc) (hm4:∀x,mx' =some x->m=x.toNat)
    (hi1:p.addr i' j' =(p.addr i j).add ((lo'.getD 0).toNat * s)) (hi2:inn=false->j' =0/\i' =i+(lo'.getD 0).toNat),
    i4 μ (.sl c i' j' inn ((hi'.getD len).toNat - (lo'.getD 0).toNat) (a8v mx' cap (lo'.getD 0).toNat))
     (.slice (if m=(lo'.getD 0).toNat then some a else some (a.add ((lo'.getD 0).toNat * s))) ((hi'.getD len).toNat - (lo'.getD 0).toNat) (m - (lo'.getD 0).toNat)):=by
   intro ⟨q0,q1,q2,q3,q4⟩ m i' j' hm1 hm2 hm3 hm4 hi1 hi2;refine⟨p,if m=(lo'.getD 0).toNat then a else a.add ((lo'.getD 0).toNat * s),m - (lo'.getD 0).toNat,hpc,?_,by omega,?_,?_,?_,?_,?_⟩
   ·split<;>rfl
   ·intro k hk
    rcases mx' with _|y
    ·simp only[a8v,Option.map_eq_some_iff] at hk
     obtain⟨k',hk',rfl⟩:=hk;rw[hm3 rfl,hcap k' hk']
    ·simp only[a8v,Option.some.injEq] at hk
     rw[hm4 y rfl,hk]
   ·split
    ·exact hsp
    ·exact b0M hsp
   ·split
    ·exact hbl
    ·rw[b4h];exact hbl
   ·intro hne
    rw[if_neg (by omega),haddr (by omega),hi1]
   ·intro hin
    obtain⟨h1,h2⟩:=hi2 hin;refine⟨h1,λhne=>?_⟩;have:=(hinn hin).2 (by omega);omega
  split at h
  ·rename_i hin
   cases h;obtain⟨m,hr,hm1,hm2,hm3,hm4⟩:=run hob;subst hin;refine⟨rfl,w5.same hr (rel hob m i _ hm1 hm2 hm3 hm4 ?_ (λh=>by cases h))⟩;rw[a19];simp[Pl.addr,Nat.add_assoc]
  ·rename_i hin
   split at h<;>cases h;rename_i sz n' f wr ho;obtain⟨hsz,q⟩:=hob;have hpc' :=hpc;have hok:=hp.placed (c:=c) (by rw[d7.pre_one ho];exact List.mem_singleton.2 rfl) hpc;have hps:p.sz=s:=hok.1.trans hsz;obtain⟨m,hr,hm1,hm2,hm3,hm4⟩:=run q;have hinf:inn=false:=by simpa using hin
   have hj:=(hinn hinf).1;subst hinf;refine⟨rfl,w5.same hr (rel q m _ _ hm1 hm2 hm3 hm4 ?_ (λ_=>⟨hj,rfl⟩))⟩;rw[a19];subst hps;simp only[Pl.addr,Nat.add_mul];congr 1;omega
 ·rename_i el hd
  split at h<;>cases h;rename_i s hs;obtain⟨h0,h1,h2,h3⟩:=hob;simp only[i4] at hx;subst hx;refine⟨rfl,w5.same (x:=.slice none 0 0) ?_ rfl⟩;have e0:lo'.getD 0=0:=h0;have e1:hi'.getD ((0:Nat):Int)=0:=h1;have e2:mx'.getD ((0:Nat):Int)=0:=h2;have hb:=a7V (P:=P) (w:=w) (isS:=true) (len:=0) (cap:=0) blo bhi bmx (by omega) (by omega) (by omega) (by omega) h3;simp only[Instr.sliceAt,Sem.run_bind,w7 hd,Result.andThen_ok,Instr.slice,hb,K9 hs,Sem.run_pure,Option.map_none];rw[e0,e1,e2];simp
 ·rename_i el sz n f hd
  split at h<;>cases h;rename_i s hs;obtain⟨hsz,h0,h1,h2⟩:=hob;subst hsz;simp only[i4,D8] at hx;obtain⟨base,rc,rfl,hrc,hbn,hsp,hel⟩:=hx;have hb:=a7V (P:=P) (w:=w) (isS:=true) (len:=n) (cap:=rc) blo bhi bmx h0 h1 (by simp only[Option.getD_none];omega) (by simp) (.inl rfl);refine⟨rfl,w5.same (x:=.slice (if rc=(lo'.getD 0).toNat then base else base.map (·.add ((lo'.getD 0).toNat * sz))) ((hi'.getD n).toNat - (lo'.getD 0).toNat) (rc - (lo'.getD 0).toNat)) ?_ ?_⟩
  ·simp only[Instr.sliceAt,Sem.run_bind,w7 hd,Result.andThen_ok,Instr.slice,hb,K9 hs,Sem.run_pure,Option.getD_none,Int.toNat_natCast]
  ·simp only[u9.valIf,i4,D8]
   refine⟨_,_,rfl,by omega,?_,?_,?_⟩
   ·intro h
    split at h
    ·omega
    ·cases base with
     |none=>have:=hbn rfl;omega
     |some a=>cases h
   ·intro a h hn0
    split at h
    ·exact hsp a h (by omega)
    ·cases base with
     |none=>cases h
     |some a' =>cases h;exact b0M (hsp a' rfl (by omega))
   ·intro i hi
    obtain⟨a,cells,vs,rfl,hfz,hr,hvs,hl,h1'⟩:=hel ((lo'.getD 0).toNat+i) (by omega);rw[if_neg (by omega)];have:=hsp a rfl (by omega);simp only[Option.map_some];rw[a4T this];refine⟨_,cells,vs,rfl,hfz,hr,hvs,?_,h1'⟩;simp only;rw[Nat.add_mul,<-Nat.add_assoc] at hl;exact hl
 ·rename_i n el c i j hd
  split at h<;>cases h;rename_i s hs;obtain⟨h0,h1,h2⟩:=hob;obtain⟨p,hpc,rfl⟩:=hx;obtain⟨_,rfl⟩:True/\vmx=none:=by
   rcases bmx with⟨_,h⟩|⟨m,k,h,_⟩
   ·exact⟨trivial,h⟩
   ·cases h
  have hb:=a7V (P:=P) (w:=w) (isS:=false) (len:=n) (cap:=n) blo bhi (.inl ⟨rfl,rfl⟩) h0 h1 (by simpa using h2) (by simp) (.inl rfl);refine⟨rfl,w5.same (x:=.slice (some (if n=(lo'.getD 0).toNat then p.addr i j else(p.addr i j).add ((lo'.getD 0).toNat * s))) ((hi'.getD n).toNat - (lo'.getD 0).toNat) (n - (lo'.getD 0).toNat)) ?_
   ⟨p,if n=(lo'.getD 0).toNat then p.addr i j else(p.addr i j).add ((lo'.getD 0).toNat * s),n - (lo'.getD 0).toNat,hpc,rfl,by omega,?_,?_,?_,?_,?_⟩⟩
  ·simp only[Instr.sliceAt,Sem.run_bind,w7 hd,Result.andThen_ok,Instr.sureAddr,hb,K9 hs,Sem.run_pure,Option.getD_none,Int.toNat_natCast]
  ·intro k hk;exact(Option.some.inj hk)
  ·split
   ·rfl
   ·exact b0M rfl
  ·split
   ·rfl
   ·rw[b4h];rfl
  ·intro hne
   rw[if_neg (by omega),a19];simp[Pl.addr,Nat.add_assoc]
  ·intro h;cases h
end Go.Cn
