import Derived.Test.YtddgjfclpknkcaaGreatDoorCnF
namespace Go.Cn
open Go
def b0Q(op:BinOp)(k:IntKind)(a b:Int):Option (Prop×LV):=
 match op with
 | .add=>some (True,.int k (k.wrap (a+b)))
 | .sub=>some (True,.int k (k.wrap (a - b)))
 | .mul=>some (True,.int k (k.wrap (a * b)))
 | .quo=>some (b≠0,.int k (k.wrap (a.tdiv b)))
 | .rem=>some (b≠0,.int k (a.tmod b))
 | .and=>some (True,.int k (k.wrap (BitVec.ofInt k.bits a&&&BitVec.ofInt k.bits b).toNat))
 | .or=>some (True,.int k (k.wrap (BitVec.ofInt k.bits a|||BitVec.ofInt k.bits b).toNat))
 | .xor=>some (True,.int k (k.wrap (BitVec.ofInt k.bits a^^^BitVec.ofInt k.bits b).toNat))
 | .andNot=>some (True,.int k (k.wrap (BitVec.ofInt k.bits a&&& ~~~ BitVec.ofInt k.bits b).toNat))
 | .eql=>some (True,.bool (a==b))
 | .neq=>some (True,.bool (a !=b))
 | .lss=>some (True,.bool (decide (a<b)))
 | .leq=>some (True,.bool (decide (a<=b)))
 | .gtr=>some (True,.bool (decide (b<a)))
 | .geq=>some (True,.bool (decide (b<=a)))
 |_=>none
def b0R(op:BinOp)(k:IntKind)(a b:Int):Option (Prop×LV):=
 match op with
 | .shl=>some (0<=b,.int k (k.wrap (a * 2^(min b.toNat k.bits))))
 | .shr=>some (0<=b,.int k (a.fdiv (2^(min b.toNat k.bits))))
 |_=>none
def b0S(op:BinOp)(x y:List UInt8):Option (Prop×LV):=
 match op with
 | .add=>some (x.length+y.length<=9223372036854775807,.str (x++y))
 | .eql=>some (True,.bool (x==y))
 | .neq=>some (True,.bool (!(x==y)))
 | .lss=>some (True,.bool (Op.bytesLess x y))
 | .leq=>some (True,.bool (Op.bytesLess x y||x==y))
 | .gtr=>some (True,.bool (!(Op.bytesLess x y||x==y)))
 | .geq=>some (True,.bool (!(Op.bytesLess x y)))
 |_=>none
theorem b8W(l:List UInt8):(⟨l.toArray⟩:ByteArray).toList=l:=by rw[ByteArray.toList_eq]
theorem b9E{P:Program}{op:BinOp}{k:IntKind}{a b:Int}{q:Prop}{v:LV}{t:TypeId}{w:World}{μ:d5}(h:b0Q op k a b=some (q,v))(hq:q):
  ∃x,(binOp op t (.int k a) (.int k b)).run P w=.ok x w/\i4 μ v x:=by
 cases op<;>simp only[b0Q,Option.some.injEq,Prod.mk.injEq,reduceCtorEq] at h<;>obtain⟨rfl,rfl⟩:=h<;>
  refine⟨_,?_,rfl⟩<;>simp[binOp,Op.intArith,Op.intDiv,Op.intBits,Op.intCmp]<;>(intro h;exact absurd h hq)
theorem b4s{P:Program}{op:BinOp}{k k' :IntKind}{a b:Int}{q:Prop}{v:LV}{t:TypeId}{w:World}{μ:d5}(h:b0R op k a b=some (q,v))(hq:q):
  ∃x,(binOp op t (.int k a) (.int k' b)).run P w=.ok x w/\i4 μ v x:=by
 cases op<;>simp only[b0R,Option.some.injEq,Prod.mk.injEq,reduceCtorEq] at h<;>obtain⟨rfl,rfl⟩:=h
 ·have hn:¬b<0:=by omega
  refine⟨.int k (k.wrap (a * 2^(min b.toNat k.bits))),?_,rfl⟩;show(Op.shift .shl k a k' b).run P w=_;simp[Op.shift,hn]
 ·have hn:¬b<0:=by omega
  refine⟨.int k (a.fdiv (2^(min b.toNat k.bits))),?_,rfl⟩;show(Op.shift .shr k a k' b).run P w=_;simp[Op.shift,hn]
theorem b9F{P:Program}{op:BinOp}{x y:List UInt8}{q:Prop}{v:LV}{t:TypeId}{w:World}{μ:d5}(h:b0S op x y=some (q,v))(hq:q):
  ∃r,(binOp op t (.string ⟨x.toArray⟩) (.string ⟨y.toArray⟩)).run P w=.ok r w/\i4 μ v r:=by
 cases op<;>simp only[b0S,Option.some.injEq,Prod.mk.injEq,reduceCtorEq] at h<;>obtain⟨rfl,rfl⟩:=h
 case add=>
  refine⟨.string ⟨(x++y).toArray⟩,?_,rfl⟩;have hn:¬(((x.length+y.length:Nat):Int)>IntKind.i64.max):=by
   have:IntKind.i64.max=9223372036854775807:=by decide
   rw[this];omega
  have hsz:∀l:List UInt8,(⟨l.toArray⟩:ByteArray).size=l.length:=λl=>by simp[ByteArray.size]
  simp only[binOp,Op.stringOp,hsz];rw[if_neg hn];simp only[Sem.run_pure];congr 2
 all_goals
  refine⟨_,?_,rfl⟩;simp[binOp,Op.stringOp,b8W]
def a8K:TypeDesc->LV->LV->Option Bool
 | .bool,.bool a,.bool b=>some (a==b)
 | .pointer _,.nilptr,.nilptr=>some true
 | .pointer _,.ptr _ _ _,.nilptr=>some false
 | .pointer _,.nilptr,.ptr _ _ _=>some false
 | .slice _,.nilsl,.nilsl=>some true
 | .slice _,.sl _ _ _ _ _ _,.nilsl=>some false
 | .slice _,.nilsl,.sl _ _ _ _ _ _=>some false
 | .map _ _,.nilmap,.nilmap=>some true
 | .map _ _,.map _,.nilmap=>some false
 | .map _ _,.nilmap,.map _=>some false
 | .func _ _ _,.nilfn,.nilfn=>some true
 | .func _ _ _,.fn _ _ _,.nilfn=>some false
 | .func _ _ _,.nilfn,.fn _ _ _=>some false
 |_,_,_=>none
theorem b1D{P:Program}{t:TypeId}{d:TypeDesc}{x y:LV}{vx vy:Value}{b:Bool}{μ:d5}{w:World}(hd:P.underlying t=some d)(h:a8K d x y=some b)(hx:i4 μ x vx)(hy:i4 μ y vy):
  (∀op x' y',(eqGuard op t x' y' vx vy).run P w=.ok () w)/\(binOp .eql t vx vy).run P w=.ok (.bool b) w/\(binOp .neq t vx vy).run P w=.ok (.bool (!b)) w:=by
 have eq:(Op.equal t vx vy).run P w=.ok b w:=by
  suffices hs:∀n,(Op.equalIn (n+1) t vx vy).run P w=.ok b w from hs 9999
  intro n;unfold a8K at h;split at h<;>cases h<;>simp only[i4] at hx hy
  all_goals
   (try obtain⟨p,a,rc,_,rfl,_⟩:=hx)
   (try obtain⟨p,a,rc,_,rfl,_⟩:=hy)
   (try obtain⟨p,_,rfl⟩:=hx)
   (try obtain⟨p,_,rfl⟩:=hy)
   (try obtain⟨a,b,rfl,_,_⟩:=hx)
   (try obtain⟨a,b,rfl,_,_⟩:=hy)
   (try subst hx)
   (try subst hy)
   simp[Op.equalIn,w7 hd]
 unfold a8K at h;split at h<;>cases h<;>simp only[i4] at hx hy
 all_goals
  (try obtain⟨p,a,rc,_,rfl,_⟩:=hx)
  (try obtain⟨p,a,rc,_,rfl,_⟩:=hy)
  (try obtain⟨p,_,rfl⟩:=hx)
  (try obtain⟨p,_,rfl⟩:=hy)
  (try obtain⟨a,b,rfl,_,_⟩:=hx)
  (try obtain⟨a,b,rfl,_,_⟩:=hy)
  (try subst hx)
  (try subst hy)
  refine⟨?_,?_,?_⟩
  ·intro op x' y'
   cases op<;>simp[eqGuard]
  ·simp[binOp,eq]
  ·simp[binOp,eq]
def b1C:TypeDesc->LV->LV->Option Bool
 | .slice _,.gs _ n,.nilsl=>some (n==0)
 | .slice _,.nilsl,.gs _ n=>some (n==0)
 | .slice _,.dn _ _ _,.nilsl=>some false
 |_,_,_=>none
theorem c0Y{P:Program}{t:TypeId}{d:TypeDesc}{x y:LV}{vx vy:Value}{b:Bool}{μ:d5}{w:World}(hd:P.underlying t=some d)(h:b1C d x y=some b)(hx:i4 μ x vx)(hy:i4 μ y vy):
  (∀op x' y',(eqGuard op t x' y' vx vy).run P w=.ok () w)/\(binOp .eql t vx vy).run P w=.ok (.bool b) w/\(binOp .neq t vx vy).run P w=.ok (.bool (!b)) w:=by
 have key:∀(c n:Nat) (u:Value),i4 μ (.gs c n) u->∃z,(z=.nilsl/\(n==0)=true\/z=.sl c 0 0 true n none/\(n==0)=false)/\i4 μ z u:=by
  intro c n u hu;rcases hu with⟨h0,rfl⟩|⟨h0,p,rc,hpc,rfl,h1,h2⟩
  ·exact⟨_,.inl ⟨rfl,by simp[h0]⟩,rfl⟩
  ·exact⟨_,.inr ⟨rfl,by simp[h0]⟩,p,_,rc,hpc,rfl,h1,λ_ h=>(by cases h),rfl,rfl,λ_=>rfl,λh=>by cases h⟩
 unfold b1C at h;split at h<;>cases h
 ·rename_i el c n
  obtain⟨z,⟨rfl,e⟩|⟨rfl,e⟩,hz⟩:=key c n vx hx<;>rw[e]<;>exact b1D hd rfl hz hy
 ·rename_i el c n
  obtain⟨z,⟨rfl,e⟩|⟨rfl,e⟩,hz⟩:=key c n vy hy<;>rw[e]<;>exact b1D hd rfl hx hz
 ·obtain⟨_,a,rc,rfl⟩:=hx
  simp only[i4] at hy;subst hy;have eq:∀n m r,(Op.equal t (.slice (some a) n m) (.slice none r 0)).run P w=.ok false w:=by
   intro n m r;suffices hs:∀k,(Op.equalIn (k+1) t (.slice (some a) n m) (.slice none r 0)).run P w=.ok false w from hs 9999
   intro k;simp[Op.equalIn,w7 hd]
  refine⟨?_,?_,?_⟩
  ·intro op x' y'
   cases op<;>simp[eqGuard]
  ·simp[binOp,eq]
  ·simp[binOp,eq]
def a8J(d:TypeDesc)(x y:LV):Option Bool:=
 match a8K d x y with
 |some b=>some b
 |none=>b1C d x y
theorem b5m{P:Program}{t:TypeId}{d:TypeDesc}{x y:LV}{vx vy:Value}{b:Bool}{μ:d5}{w:World}(hd:P.underlying t=some d)(h:a8J d x y=some b)(hx:i4 μ x vx)(hy:i4 μ y vy):
  (∀op x' y',(eqGuard op t x' y' vx vy).run P w=.ok () w)/\(binOp .eql t vx vy).run P w=.ok (.bool b) w/\(binOp .neq t vx vy).run P w=.ok (.bool (!b)) w:=by
 unfold a8J at h;split at h
 ·cases h;exact b1D hd ‹_› hx hy
 ·exact c0Y hd h hx hy
def eUn(op:UnOp)(x:LV):Option u9:=
 match op,x with
 | .neg,.int k n=>some (.val (.int k (k.wrap (0 - n))))
 | .xor,.int k n=>some (.val (.int k (k.wrap (BitVec.ofInt k.bits (if k.signed then -1 else k.max)^^^BitVec.ofInt k.bits n).toNat)))
 | .not,.bool b=>some (.val (.bool (!b)))
 |_,_=>none
theorem c0S{P:Program}{op:UnOp}{x:LV}{vx:Value}{e:u9}{μ:d5}{w:World}{pre:u6}(h:eUn op x=some e)(hx:i4 μ x vx):w5 P (Op.unary op vx) μ w pre [] e.v/\e.up=[]/\e.foot=[]:=by
 unfold eUn at h;split at h<;>cases h<;>simp only[i4] at hx<;>subst hx
 ·rename_i k n
  exact⟨w5.same (x:=.int k (k.wrap (0 - n))) (by simp[Op.unary,Op.intArith]) rfl,rfl,rfl⟩
 ·rename_i k n
  exact⟨w5.same (x:=.int k (k.wrap (BitVec.ofInt k.bits (if k.signed then -1 else k.max)^^^BitVec.ofInt k.bits n).toNat)) (by simp[Op.unary,Op.intBits]) rfl,rfl,rfl⟩
 ·rename_i b
  exact⟨w5.same (x:=.bool (!b)) (by simp[Op.unary]) rfl,rfl,rfl⟩
def b1g(P:Program)(src dst:TypeId)(x:LV):Option u9:=
 match F7 P src,F7 P dst,x with
 |some _,some (.int k),.int _ n=>some (.val (.int k (k.wrap n)))
 |some _,some .string,.str l=>some (.val (.str l))
 |_,_,_=>none
theorem c0u{P:Program}{src dst:TypeId}{x:LV}{vx:Value}{e:u9}{μ:d5}{w:World}{pre:u6}(h:b1g P src dst x=some e)(hx:i4 μ x vx):w5 P (convert src dst vx) μ w pre [] e.v/\e.up=[]/\e.foot=[]:=by
 unfold b1g at h;split at h<;>cases h<;>simp only[i4] at hx<;>subst hx
 ·rename_i d k k' n hs hd
  refine⟨w5.same (x:=.int k (k.wrap n)) ?_ rfl,rfl,rfl⟩;simp[convert,w7 hs,w7 hd,Conv.intToInt]
 ·rename_i d l hs hd
  refine⟨w5.same (x:=.string ⟨l.toArray⟩) ?_ rfl,rfl,rfl⟩;simp only[convert,Sem.run_bind,w7 hs,w7 hd,Result.andThen_ok];cases d<;>rfl
def a8D(x:LV)(i:Nat):Option u9:=
 match x with
 | .tup vs=>match vs[i]? with
  |some v=>some (.val v)
  |none=>none
 |_=>none
theorem c0A{P:Program}{x:LV}{i:Nat}{vx:Value}{e:u9}{μ:d5}{w:World}{pre:u6}(h:a8D x i=some e)(hx:i4 μ x vx):w5 P (Instr.extract vx i) μ w pre [] e.v/\e.up=[]/\e.foot=[]:=by
 unfold a8D at h;split at h<;>try cases h
 rename_i vs;split at h<;>cases h;rename_i v hv;obtain⟨us,rfl,hr⟩:=hx;obtain⟨u,hu,hru⟩:=hr.get hv;have hu' :us[i]?=some u:=by simpa using hu
 exact⟨w5.same (x:=u) (by simp[Instr.extract,hu']) hru,rfl,rfl⟩
def b6Z:LV->Bool
 | .ptr _ _ _| .fn _ _ _=>true
 |_=>false
def b1r(P:Program)(H:d7)(t:TypeId)(x:LV):Option u9:=
 match F7 P t,x with
 |some .string,.str l=>some (.val (.int .i64 l.length))
 |some (.array n _),_=>some (.val (.int .i64 n))
 |some (.slice _),.sl _ _ _ _ n _=>some (.val (.int .i64 n))
 |some (.slice _),.nilsl=>some (.val (.int .i64 0))
 |some (.slice _),.gs _ n=>some (.val (.int .i64 n))
 |some (.slice _),.ds _ n _=>some (.val (.int .i64 n))
 |some (.map _ _),.nilmap=>some (.val (.int .i64 0))
 |some (.map _ _),.map c=>
  match H.at c with
  |some (.map _ _ es)=>some ⟨True,.int .i64 es.length,[c],[]⟩
  |_=>none
 |_,_=>none
theorem F2.length{α β:Type}{R:α->β->Prop}{l:List α}{m:List β}(h:F2 R l m):l.length=m.length:=by
 induction h with
 |nil=>rfl
 |cons _ _ ih=>simp[ih]
theorem c0G{P:Program}{H:d7}{t ty:TypeId}{ats:Array TypeId}{x:LV}{vx:Value}{e:u9}{μ:d5}{w:World}(h:b1r P H t x=some e)(hat:ats[0]?=some t)(hx:i4 μ x vx)(hp:M6 μ (H.pre e.foot) w):
  w5 P (Builtin.len_ ats ty #[vx]) μ w (H.pre e.foot) [] e.v/\e.up=[]:=by
 unfold b1r at h;split at h<;>try cases h
 ·rename_i l hd
  simp only[i4] at hx;subst hx;refine⟨w5.same (x:=.int .i64 l.length) ?_ rfl,rfl⟩;have hsz:(⟨l.toArray⟩:ByteArray).size=l.length:=by simp[ByteArray.size]
  simp[Builtin.len_,hat,w7 hd,goInt,hsz]
 ·rename_i n el hd
  refine⟨w5.same (x:=.int .i64 n) ?_ rfl,rfl⟩;simp only[Builtin.len_,hat];simp[w7 hd,goInt]
 ·rename_i el c i j inn n cap hd
  obtain⟨p,a,rc,_,rfl,_⟩:=hx;refine⟨w5.same (x:=.int .i64 n) ?_ rfl,rfl⟩;simp[Builtin.len_,hat,w7 hd,goInt]
 ·rename_i el hd
  simp only[i4] at hx;subst hx;refine⟨w5.same (x:=.int .i64 0) ?_ rfl,rfl⟩;simp[Builtin.len_,hat,w7 hd,goInt]
 ·rename_i el c n hd
  refine⟨w5.same (x:=.int .i64 n) ?_ rfl,rfl⟩;rcases hx with⟨rfl,rfl⟩|⟨_,p,rc,_,rfl,_⟩<;>simp[Builtin.len_,hat,w7 hd,goInt]
 ·rename_i el sz n f hd
  simp only[i4,D8] at hx;obtain⟨base,rc,rfl,_⟩:=hx;refine⟨w5.same (x:=.int .i64 n) ?_ rfl,rfl⟩;simp[Builtin.len_,hat,w7 hd,goInt]
 ·rename_i k el hd
  simp only[i4] at hx;subst hx;refine⟨w5.same (x:=.int .i64 0) ?_ rfl,rfl⟩;simp[Builtin.len_,hat,w7 hd,goInt]
 ·rename_i k el c hd
  split at h<;>cases h;rename_i ag ks es ho;obtain⟨p,hpc,rfl⟩:=hx;obtain⟨p',hpc',hok⟩:=hp.obj c _ (by rw[d7.pre_one ho];exact List.mem_singleton.2 rfl);obtain rfl:=Option.some.inj (hpc'.symm.trans hpc);obtain⟨⟨en,cl,h1,h2,h3,h4⟩,_⟩:=hok;have hl:=h2.length;simp only[Array.length_toList] at hl;refine⟨w5.same (x:=.int .i64 es.length) ?_ rfl,rfl⟩;have hg:(getObj p'.rb).run P w=.ok (.map en cl) w:=by simp[getObj,Sem.run,h1]
  simp[Builtin.len_,hat,w7 hd,hg,goInt,hl]
end Go.Cn
