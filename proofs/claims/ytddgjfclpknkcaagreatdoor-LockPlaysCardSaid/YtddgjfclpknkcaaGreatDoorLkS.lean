import Derived.Test.YtddgjfclpknkcaaGreatDoorLkR
set_option linter.unusedVariables false
set_option linter.unusedSimpArgs false
namespace Go.Proofs.YtddgjfclpknkcaaGreatDoor.Wk
open Go Go.Cn
def A_(hd:Ps)(k:Ky):Bool:=!(C0 hd k).isEmpty
def plc(x:Tx)(k:Ky):Sl×Int:=(⟨x,k⟩,2)
def P1(us:Us)(hd:Ps)(x:Tx)(keys:List Ky):Int×Us×Ps:=
 if keys.all U6=false\/¬keys.Nodup then(1,us,hd) else
 if a1U x=false\/keys=[] then(1,us,hd) else
 if(f9 us x).isSome=true then(7,us,hd) else
 if keys.any (A_ hd)=true then(11,us,hd) else
 if us.length=64 then(5,us,hd) else
 (0,p7 us x ⟨⟨0,x⟩,true⟩,hd++keys.map (plc x))
theorem b7M(us:Us)(hd wt:Ps)(x:Tx)(ks:List Ky)(m:List (Ky×Bool))(us2:Us):∀(fuel:Nat) (m2:Ps) (rest:List (Ky×Bool)),rest.length<fuel->(rest.map (·.1)).Nodup->(∀e∈rest,f9 m2 ⟨x,e.1⟩=none)->
  a3P us hd wt x ks m us2 fuel m2 rest=some (0,us2,j7.of (m2++rest.map λe=>plc x e.1),j7.of wt)
 |0,_,_,h,_,_=>by omega
 |fuel+1,m2,rest,h,hn,hg=>by
  rw[a3P];by_cases hr:rest=[]
  ·subst hr;rw[if_pos (show([]:List (Ky×Bool)).isEmpty=true from rfl)];simp
  ·rw[if_neg (by cases rest<;>simp at hr⊢)]
   refine a8p hr λi a hi=>?_;have hpr:=a43 hi;have hlen:=hpr.length_eq;simp only[List.length_cons] at hlen;have hn2:((a::rest.eraseIdx i).map (·.1)).Nodup:=(hpr.map _).nodup_iff.1 hn;obtain⟨hn3,hn4⟩:=List.nodup_cons.1 hn2;have ha:f9 m2 ⟨x,a.1⟩=none:=hg a (hpr.mem_iff.2 List.mem_cons_self);rw[b7M us hd wt x ks m us2 fuel _ _ (by omega) hn4 (λe he=>?_)]
   ·congr 1;congr 1;congr 1
    congr 1;refine j7.sound ?_;rw[b2K _ ha,List.append_assoc];refine List.Perm.append_left m2 ?_;have:((a::rest.eraseIdx i).map λe=>plc x e.1)=[(⟨x,a.1⟩,2)]++(rest.eraseIdx i).map λe=>plc x e.1:=rfl;rw[<-this];exact(hpr.map _).symm
   ·rw[M9,if_neg (λh2=>?_)]
    ·exact hg e (hpr.mem_iff.2 (List.mem_cons_of_mem _ he))
    ·have h3:e.1=a.1:=congrArg TL.o7 h2
     exact hn3 (List.mem_map.2 ⟨e,he,h3⟩)
theorem b6J(d:List Ky)(k:Ky):f9 (d.map λk=>(k,true)) k=if k∈d then some true else none:=by
 induction d with
 |nil=>rfl
 |cons a d ih=>
  simp only[List.map_cons,f9,List.mem_cons];by_cases h:k=a
  ·simp[h]
  ·simp only[h,if_false,ih,false_or]
theorem a8d{α:Type}(l:List α)(t:Nat)(d:α)(h:t<l.length):l.take (t+1)=l.take t++[l.getD t d]:=by
 rw[List.take_add_one,List.getElem?_eq_getElem h,List.getD_eq_getElem?_getD,List.getElem?_eq_getElem h];rfl
theorem b7L{us:Us}{hd wt:Ps}{n:Nat}(h:Ok us hd wt n)(x:Tx)(ks:List Ky)(hz:ks.length<=1000):∀(fuel t:Nat),ks.length - t<fuel->t<=ks.length->(ks.take t).Nodup->(ks.take t).all U6=true->
  a2m us hd wt x ks fuel ((ks.take t).any (A_ hd)) t ((ks.take t).map λk=>(k,true))=some ((P1 us hd x ks).1,(P1 us hd x ks).2.1,j7.of (P1 us hd x ks).2.2,j7.of wt)
 |0,t,hf,_,_,_=>by omega
 |fuel+1,t,hf,ht,hn,hall=>by
  have zh:=h.nh;have zn:=h.nn;rw[a2m];by_cases hlt:t<ks.length
  ·have hm:ks.getD t default∈ks:=by rw[List.getD_eq_getElem?_getD,List.getElem?_eq_getElem hlt];exact List.getElem_mem hlt
   have hts:=a8d ks t default hlt;rw[if_pos (dT (by omega)),if_pos (by omega),Int.toNat_natCast,b56,Option.bind_some,u0 (by omega) (by omega)];have ih:=b7L h x ks hz fuel (t+1) (by omega) (by omega);rw[show(((t:Nat):Int)+1)=((t+1:Nat):Int) by omega];rw[hts] at ih;have hnd:ks.Nodup->ks.getD t default∉ks.take t:=λhnk hmem=>by
    have:=List.take_sublist (t+1) ks;rw[hts] at this;have:=this.nodup hnk;rw[List.nodup_append] at this;exact this.2.2 _ hmem _ List.mem_cons_self rfl
   generalize ks.getD t default=k at hm ih hnd⊢;cases hk:U6 k with
   |false=>
    rw[if_pos (by simp)];have:ks.all U6=false:=by
     rw[Bool.eq_false_iff];intro ha;rw[List.all_eq_true] at ha;rw[ha k hm] at hk;cases hk
    rw[P1,if_pos (Or.inl this)]
   |true=>
    rw[if_neg (by simp),b6J];by_cases hd0:k∈ks.take t
    ·rw[if_pos hd0,if_pos (by simp)]
     rw[P1,if_pos (Or.inr λhnk=>hnd hnk hd0)]
    ·rw[if_neg hd0]
     have hg:f9 ((ks.take t).map λk=>(k,true)) k=none:=by rw[b6J,if_neg hd0]
     have e1:p7 ((ks.take t).map λk=>(k,true)) k true=(ks.take t++[k]).map λk=>(k,true):=by rw[b2K _ hg,List.map_append];rfl
     have hn' :(ks.take t++[k]).Nodup:=by
      rw[List.nodup_append];exact⟨hn,List.nodup_cons.2 ⟨by simp,List.nodup_nil⟩,λa ha b hb=>by rw[List.mem_singleton.1 hb];exact λe=>hd0 (e▸ha)⟩
     have ih2:=ih hn' (by rw[List.all_append,hall];simp[hk]);rw[List.any_append] at ih2;rw[e1,if_neg (by simp[show(default:Bool)=false from rfl])];cases ho:(ks.take t).any (A_ hd) with
     |true=>
      rw[if_pos rfl];rw[ho] at ih2;exact ih2
     |false=>
      rw[if_neg (by simp),a6A hd k (by omega),Option.bind_some];rw[ho] at ih2;have e2:decide (0<(((j7.of (C0 hd k)).length:Nat):Int))=(false||[k].any (A_ hd)):=by
       show decide (0<(((C0 hd k).length:Nat):Int))=_;simp only[List.any_cons,List.any_nil,Bool.or_false,Bool.false_or,A_];cases C0 hd k with
       |nil=>rfl
       |cons a l=>simp only[List.length_cons,List.isEmpty_cons,Bool.not_false,decide_eq_true_eq];omega
      rw[e2];exact ih2
  ·rw[if_neg (dF (by omega))]
   have htl:ks.take t=ks:=List.take_of_length_le (by omega);rw[htl] at hn hall⊢;have hx1:¬(ks.all U6=false\/¬ks.Nodup):=by simp only[hall,hn];simp
   rw[b82,Option.bind_some,P1,if_neg hx1];cases htm:a1U x with
   |false=>
    rw[if_pos (show(false=false\/ks=[]) from Or.inl rfl)];rfl
   |true=>
    by_cases hke:ks=[]
    ·rw[if_pos (show(true=false\/ks=[]) from Or.inr hke),if_neg (by simp),if_pos (by simp[hke])]
    ·have hx2:¬(true=false\/ks=[]):=by simp[hke]
     rw[if_neg hx2,if_neg (by simp),if_neg (by simpa using hke)];cases hu:f9 us x with
     |some u=>
      rw[if_pos (show(some u).isSome=true from rfl),if_pos (show(some u).isSome=true from rfl)];rfl
     |none=>
      rw[if_neg (show¬(none:Option TU).isSome=true by simp),if_neg (show¬(none:Option TU).isSome=true by simp)];cases ho:ks.any (A_ hd) with
      |true=>rw[if_pos (show true=true from rfl),if_pos (show true=true from rfl)]
      |false=>
       rw[if_neg (show¬false=true by simp),if_neg (show¬false=true by simp)];by_cases hl:us.length=64
       ·rw[if_pos hl,if_pos (by simp[hl])];rfl
       ·rw[if_neg hl,if_neg (by simp;omega),a83,Option.bind_some]
        rw[b7M us hd wt x ks _ _ big hd _ (F0 (by simp;omega)) (by rw[List.map_map];simpa[Function.comp_def] using hn) (λe he=>?_)]
        ·rw[List.map_map];rfl
        ·cases hg:f9 hd ⟨x,e.1⟩ with
         |none=>rfl
         |some v=>
          have:=h.hu _ (K6 hg);rw[hu] at this;cases this
theorem b3p{us:Us}{hd wt:Ps}{n:Nat}(h:Ok us hd wt n)(hn:n<250)(x:Tx)(ks:List Ky)(hz:ks.length<=30):
  a65 us hd wt x ks=some ((P1 us hd x ks).1,(P1 us hd x ks).2.1,j7.of (P1 us hd x ks).2.2,j7.of wt)/\Ok (P1 us hd x ks).2.1 (P1 us hd x ks).2.2 wt (n+1):=by
 have hup:=h.up (Nat.le_succ n) hn;constructor
 ·rw[a65,P9,Option.bind_some]
  exact b7L h x ks (by omega) big 0 (F0 (by omega)) (by omega) (by simp) (by simp)
 ·unfold P1
  split
  ·exact hup
  ·rename_i h1
   split
   ·exact hup
   ·split
    ·exact hup
    ·rename_i h3
     split
     ·exact hup
     ·split
      ·exact hup
      ·rename_i h5
       have hnone:f9 us x=none:=by simpa using h3
       have hlen:=a1r us x ⟨⟨0,x⟩,true⟩;have hnu:=h.nu;have hus:=h.user (x:=x) (u:=⟨⟨0,x⟩,true⟩) rfl (by omega);have hkn:ks.Nodup:=by
        by_cases hc:ks.Nodup
        ·exact hc
        ·exact absurd (Or.inr hc) h1
       refine⟨hus.uu,?_,hus.uw,λe he=>?_,hus.wu,hus.su,hus.nu,by have:=h.nw;omega,by have:=h.nh;simp only[List.length_append,List.length_map];omega,by omega⟩
       ·show((hd++ks.map (plc x)).map (·.1)).Nodup
        rw[List.map_append,List.map_map,List.nodup_append];refine⟨h.uh,?_,λa ha b hb=>?_⟩
        ·exact List.Pairwise.map (λk=>(⟨x,k⟩:Sl)) (λa b hab e=>hab (congrArg TL.o7 e)) hkn
        ·obtain⟨e,he,rfl⟩:=List.mem_map.1 ha
         obtain⟨k,_,rfl⟩:=List.mem_map.1 hb;intro hab;have:=h.hu e he;rw[hab] at this;have h2:f9 us x=none:=hnone;simp[plc,h2] at this
       ·rcases List.mem_append.1 he with he|he
        ·exact hus.hu e he
        ·obtain⟨k,_,rfl⟩:=List.mem_map.1 he
         show(f9 (p7 us x _) x).isSome=true;rw[M9,if_pos rfl];rfl
def S8(us:Us)(hd wt:Ps)(a:TA):Rs:=
 if Int.tmod a.S0 5=2 then Y7 us hd wt a.n5.b7 else
 if Int.tmod a.S0 5=3 then Z2 us hd wt a.n5.b7 else
 if Int.tmod a.S0 5=4 then(oE,(P1 us hd a.n5.b7 a.K4).1,(P1 us hd a.n5.b7 a.K4).2.1,(P1 us hd a.n5.b7 a.K4).2.2,wt) else
 V9 us hd wt a.n5 a.j8 a.v8
theorem b91{us:Us}{hd wt:Ps}{n:Nat}(h:Ok us hd wt n)(hn:n<250)(a:TA)(hz:a.K4.length<=30):
  a7u us hd wt a=some ((S8 us hd wt a).1,(S8 us hd wt a).2.1,(S8 us hd wt a).2.2.1,j7.of (S8 us hd wt a).2.2.2.1,j7.of (S8 us hd wt a).2.2.2.2)/\Ok (S8 us hd wt a).2.2.1 (S8 us hd wt a).2.2.2.1 (S8 us hd wt a).2.2.2.2 (n+1):=by
 rw[a7u,S8];by_cases h2:Int.tmod a.S0 5=2
 ·obtain⟨e,o⟩:=c4L h a.n5.b7
  rw[if_pos (by simp[h2]),if_pos h2,e];exact⟨rfl,o.up (Nat.le_succ n) hn⟩
 ·rw[if_neg (by simpa using h2),if_neg h2]
  by_cases h3:Int.tmod a.S0 5=3
  ·obtain⟨e,o⟩:=c5b h a.n5.b7
   rw[if_pos (by simp[h3]),if_pos h3,e];exact⟨rfl,o.up (Nat.le_succ n) hn⟩
  ·rw[if_neg (by simpa using h3),if_neg h3]
   by_cases h4:Int.tmod a.S0 5=4
   ·obtain⟨e,o⟩:=b3p h hn a.n5.b7 a.K4 hz
    rw[if_pos (by simp[h4]),if_pos h4,e];exact⟨rfl,o⟩
   ·rw[if_neg (by simpa using h4),if_neg h4]
    obtain⟨e,o⟩:=b0P h hn a.n5 a.j8 a.v8;rw[e];exact⟨rfl,o⟩
end Go.Proofs.YtddgjfclpknkcaaGreatDoor.Wk
set_option linter.unusedVariables false
set_option linter.unusedSimpArgs false
namespace Go.Proofs.YtddgjfclpknkcaaGreatDoor.Wk
open Go Go.Cn
def elder(us:Us)(x y:Tx):Prop:=H9 us x y<0
structure Wt(us:Us)(hd wt:Ps):Prop where
 w:∀e∈wt,∀h∈hd,h.1.o7=e.1.o7->h.1.m9≠e.1.m9->O6 e.2 h.2=true->prep us h.1.m9=true\/elder us h.1.m9 e.1.m9
 g:∀e∈wt,md hd e.1<e.2
 p:∀e∈wt,prep us e.1.m9=false
 m:∀e∈wt,e.2=1\/e.2=2
 n:∀e∈hd,e.2=1\/e.2=2
def b0J(us:Us)(hd wt:Ps):Prop:=∀e∈wt,I7 us hd wt e.1=false
theorem a4U(a b:Int):O6 a b=O6 b a:=by rw[O6,O6,Bool.or_comm]
theorem c2Y{p:Ps}(hu:Uk p){x:Tx}{s:Sl}(h:s.m9≠x):f9 (drop p x) s=f9 p s:=by
 cases hg:f9 p s with
 |none=>
  cases hd:f9 (drop p x) s with
  |none=>rfl
  |some v=>
   have:=Y1 hu (U3.1 (K6 hd)).1;rw[hg] at this;cases this
 |some v=>exact Y1 (b0B hu _) (U3.2 ⟨K6 hg,h⟩)
theorem c2W{p:Ps}(hu:Uk p){x:Tx}{s:Sl}(h:s.m9≠x):md (drop p x) s=md p s:=by rw[md,md,c2Y hu h]
theorem a9l(p:Ps)(s t:Sl)(v:Int):md (p7 p s v) t=if t=s then v else md p t:=by
 rw[md,M9];split
 ·rfl
 ·rfl
theorem b6H{p:Ps}(hu:Uk p)(s t:Sl):md (B1 p s) t=if t=s then 0 else md p t:=by
 rw[md,a5y hu];split
 ·rfl
 ·rfl
theorem b0F{us:Us}(hu:Uk us){x y:Tx}(h:y≠x):f9 (B1 us x) y=f9 us y:=by rw[a5y hu,if_neg h]
theorem a6D{us us' :Us}{x y:Tx}(hx:f9 us' x=f9 us x)(hy:f9 us' y=f9 us y):H9 us' x y=H9 us x y:=by
 simp only[H9,ka,so,hx,hy]
theorem a4v{us us' :Us}{x:Tx}(hx:f9 us' x=f9 us x):prep us' x=prep us x:=by simp only[prep,hx]
theorem b4n{p:Ps}(hu:Uk p){e:Sl×Int}(h:e∈p):e.1.m9∈C0 p e.1.o7:=P6.2 ⟨e.2,h⟩
theorem Wt.gone{us:Us}{hd wt:Ps}{n:Nat}(ho:Ok us hd wt n)(h:Wt us hd wt)(x:Tx):Wt (B1 us x) (drop hd x) (drop wt x):=by
 refine⟨λe he k hk h1 h2 h3=>?_,λe he=>?_,λe he=>?_,λe he=>h.m e (U3.1 he).1,λe he=>h.n e (U3.1 he).1⟩
 ·obtain⟨e1,e2⟩:=U3.1 he
  obtain⟨k1,k2⟩:=U3.1 hk;have a:=b0F ho.uu k2;have b:=b0F ho.uu e2;rcases h.w e e1 k k1 h1 h2 h3 with h4|h4
  ·exact Or.inl (by rw[a4v a];exact h4)
  ·exact Or.inr (by rw[elder,a6D a b];exact h4)
 ·obtain⟨e1,e2⟩:=U3.1 he
  rw[c2W ho.uh e2];exact h.g e e1
 ·obtain⟨e1,e2⟩:=U3.1 he
  rw[a4v (b0F ho.uu e2)];exact h.p e e1
theorem Wt.filt{us:Us}{hd wt:Ps}{n:Nat}(ho:Ok us hd wt n)(h:Wt us hd wt)(f:Sl×Int->Bool):Wt us (hd.filter f) wt:=by
 refine⟨λe he k hk=>h.w e he k (List.mem_filter.1 hk).1,λe he=>?_,h.p,h.m,λe he=>h.n e (List.mem_filter.1 he).1⟩;have:=h.g e he;rcases a9k (hd.filter f) e.1 with h1|h1
 ·have hm:=h.m e he;omega
 ·have:=a1p ho.uh (List.mem_filter.1 h1).1
  dsimp only at this;omega
theorem b9I(us:Us)(x y:Tx):H9 us x y=- H9 us y x:=T_ _ _
theorem Ok.elder{us:Us}{hd wt:Ps}{n:Nat}(ho:Ok us hd wt n){x y:Tx}(hx:(f9 us x).isSome=true)(hy:(f9 us y).isSome=true)(hne:x≠y)(h:¬H9 us y x<0):elder us x y:=by
 have h0:H9 us x y≠0:=λe=>hne (ho.inj hx hy ((a2q (ka us x) (ka us y) rfl).1 e));have:=b9I us x y;rw[_root_.Go.Proofs.YtddgjfclpknkcaaGreatDoor.Wk.elder];omega
theorem c05{us:Us}{hd wt:Ps}{s:Sl}(hf:I7 us hd wt s=true){x:Tx}(hx:x∈C0 wt s.o7):S9 us wt s x=false:=by
 simp only[I7,Bool.and_eq_true,Bool.not_eq_true'] at hf;have:=hf.2;rw[Bool.eq_false_iff] at this⊢;exact λhc=>this (List.any_eq_true.2 ⟨x,hx,hc⟩)
theorem b2J{us:Us}{hd wt:Ps}{n:Nat}(ho:Ok us hd wt n)(h:Wt us hd wt){s:Sl}(hs:s∈wt.map (·.1)):mx (md hd s) (md wt s)=md wt s/\(s,md wt s)∈wt:=by
 obtain⟨e0,he0,hes⟩:=List.mem_map.1 hs;subst hes;have h1:=a1p ho.uw he0;have h2:=h.g e0 he0;rw[h1];refine⟨?_,he0⟩;rw[mx,if_neg (by omega)]
theorem Wt.grant{us:Us}{hd wt:Ps}{n:Nat}(ho:Ok us hd wt n)(h:Wt us hd wt){s:Sl}(hs:s∈wt.map (·.1))(hf:I7 us hd wt s=true):Wt us (p7 hd s (mx (md hd s) (md wt s))) (B1 wt s):=by
 obtain⟨hv,hsw⟩:=b2J ho h hs;rw[hv];have hw:∀e∈B1 wt s,e∈wt/\e.1≠s:=λe he=>by
  rw[a7i ho.uw] at he;obtain⟨h1,h2⟩:=List.mem_filter.1 he;exact⟨h1,by simpa using h2⟩
 refine⟨λe he k hk h1 h2 h3=>?_,λe he=>?_,λe he=>h.p e (hw e he).1,λe he=>h.m e (hw e he).1,λe he=>?_⟩
 ·obtain⟨e1,e2⟩:=hw e he
  rcases a0k hk with h4|h4
  ·rw[h4] at h1 h2 h3⊢
   dsimp only at h1 h2 h3⊢;have hx:e.1.m9∈C0 wt s.o7:=by rw[h1];exact b4n ho.uw e1
   have hfw:=c05 hf hx;have hme:md wt ⟨e.1.m9,s.o7⟩=e.2:=by rw[h1];exact a1p ho.uw e1
   simp only[S9,hme,Bool.and_eq_false_iff,Bool.not_eq_false',decide_eq_true_eq,decide_eq_false_iff_not] at hfw;rcases hfw with h5|h5
   ·rcases h5 with h5|h5
    ·exact absurd h5.symm h2
    ·exact Or.inr (ho.elder (ho.wu _ hsw) (ho.wu e e1) h2 h5)
   ·rw[a4U] at h3;rw[h3] at h5;cases h5
  ·exact h.w e e1 k h4 h1 h2 h3
 ·obtain⟨e1,e2⟩:=hw e he
  rw[a9l,if_neg e2];exact h.g e e1
 ·rcases a0k he with h4|h4
  ·rw[h4];exact h.m _ hsw
  ·exact h.n e h4
theorem stuck{us:Us}{hd wt:Ps}{n:Nat}(ho:Ok us hd wt n)(h:Wt us hd wt){s t:Sl}(hs:s∈wt.map (·.1))(hne:t≠s)(hf:I7 us hd wt t=false):I7 us (p7 hd s (mx (md hd s) (md wt s))) (B1 wt s) t=false:=by
 obtain⟨hv,hsw⟩:=b2J ho h hs;rw[hv];obtain⟨e0,he0,hes⟩:=List.mem_map.1 hs;have hg:=h.g e0 he0;have hm0:=a1p ho.uw he0;rw[hes] at hg hm0;have hgs:md hd s<md wt s:=by omega
 have hms:=h.m _ hsw;have mt:md (B1 wt s) t=md wt t:=by rw[b6H ho.uw,if_neg hne]
 have keep:∀x,x∈C0 hd t.o7->x∈C0 (p7 hd s (md wt s)) t.o7:=λx hx=>by
  obtain⟨v,hv⟩:=P6.1 hx;have:=Y1 ho.uh hv;have h2:(f9 (p7 hd s (md wt s)) ⟨x,t.o7⟩).isSome=true:=by rw[M9];split;rfl;rw[this];rfl
  obtain⟨v2,hv2⟩:=Option.isSome_iff_exists.1 h2;exact P6.2 ⟨v2,K6 hv2⟩
 have new:s.o7=t.o7->s.m9∈C0 (p7 hd s (md wt s)) t.o7:=λhk=>by
  rw[<-hk];have h2:f9 (p7 hd s (md wt s)) s=some (md wt s):=by rw[M9,if_pos rfl]
  exact P6.2 ⟨_,K6 h2⟩
 have shut:∀x,x∈C0 (p7 hd s (md wt s)) t.o7->p_ (p7 hd s (md wt s)) (B1 wt s) t x=true->I7 us (p7 hd s (md wt s)) (B1 wt s) t=false:=λx hx hc=>by
  have:(C0 (p7 hd s (md wt s)) t.o7).any (p_ (p7 hd s (md wt s)) (B1 wt s) t)=true:=List.any_eq_true.2 ⟨x,hx,hc⟩;rw[I7,this];rfl
 simp only[I7,Bool.and_eq_false_iff,Bool.not_eq_false'] at hf;rcases hf with hf|hf
 ·obtain⟨x,hx,hc⟩:=List.any_eq_true.1 hf
  refine shut x (keep x hx) ?_;simp only[p_,Bool.and_eq_true,Bool.not_eq_true',decide_eq_false_iff_not,mt] at hc⊢;refine⟨hc.1,?_⟩;rw[a9l];split
  ·rename_i he
   have:md hd ⟨x,t.o7⟩<md wt s:=by rw[he];exact hgs
   have hc2:=hc.2;simp only[O6,Bool.or_eq_true,beq_iff_eq] at hc2⊢;omega
  ·exact hc.2
 ·obtain⟨x,hx,hc⟩:=List.any_eq_true.1 hf
  simp only[S9,Bool.and_eq_true,Bool.not_eq_true',decide_eq_false_iff_not,decide_eq_true_eq] at hc;by_cases he:(⟨x,t.o7⟩:Sl)=s
  ·have hk:s.o7=t.o7:=by rw[<-he]
   have hxs:s.m9=x:=by rw[<-he]
   refine shut x (hxs▸new hk) ?_;simp only[p_,Bool.and_eq_true,Bool.not_eq_true',decide_eq_false_iff_not,mt];refine⟨hc.1.1,?_⟩;rw[a9l,if_pos he];have:=hc.2;rw[he] at this;exact this
  ·have hx2:x∈C0 (B1 wt s) t.o7:=by
    obtain⟨v,hv⟩:=P6.1 hx;refine P6.2 ⟨v,?_⟩;rw[a7i ho.uw];exact List.mem_filter.2 ⟨hv,by simpa using he⟩
   have hW:S9 us (B1 wt s) t x=true:=by
    simp only[S9,Bool.and_eq_true,Bool.not_eq_true',decide_eq_false_iff_not,decide_eq_true_eq,mt];refine⟨hc.1,?_⟩;rw[b6H ho.uw,if_neg he];exact hc.2
   have:(C0 (B1 wt s) t.o7).any (S9 us (B1 wt s) t)=true:=List.any_eq_true.2 ⟨x,hx2,hW⟩;rw[I7,this];simp
theorem Wt.onFold{us:Us}{n:Nat}:∀(y:List Sl) (st:List TG×Ps×Ps),y.Nodup->(∀s∈y,s∈st.2.2.map (·.1))->Ok us st.2.1 st.2.2 n->Wt us st.2.1 st.2.2->(∀e∈st.2.2,e.1∉y->I7 us st.2.1 st.2.2 e.1=false)->
  Wt us (y.foldl (M3 us) st).2.1 (y.foldl (M3 us) st).2.2/\b0J us (y.foldl (M3 us) st).2.1 (y.foldl (M3 us) st).2.2
 |[],st,_,_,_,h,hn=>⟨h,λe he=>hn e he (by simp)⟩
 |s::y,st,hn,hy,ho,h,hst=>by
  rw[List.foldl_cons];obtain⟨hn1,hn2⟩:=List.nodup_cons.1 hn;have hs:=hy s List.mem_cons_self;unfold M3;split
  ·rename_i hf
   refine Wt.onFold y _ hn2 (λt ht=>a9n ho.uw (λe=>hn1 (e▸ht)) (hy t (List.mem_cons_of_mem _ ht))) (ho.grant hs _) (Wt.grant ho h hs hf) (λe he hey=>?_);dsimp only at he⊢;have he2:=he;rw[a7i ho.uw] at he2;obtain⟨e1,e2⟩:=List.mem_filter.1 he2;have e3:e.1≠s:=by simpa using e2
   exact stuck ho h hs e3 (hst e e1 (by simp only[List.mem_cons,not_or];exact⟨e3,hey⟩))
  ·rename_i hf
   refine Wt.onFold y _ hn2 (λt ht=>hy t (List.mem_cons_of_mem _ ht)) ho h (λe he hey=>?_);by_cases h1:e.1=s
   ·rw[h1];simpa using hf
   ·exact hst e he (by simp only[List.mem_cons,not_or];exact⟨h1,hey⟩)
theorem Wt.on{us:Us}{hd wt:Ps}{n:Nat}(ho:Ok us hd wt n)(h:Wt us hd wt):Wt us (Y3 us hd wt).2.1 (Y3 us hd wt).2.2/\b0J us (Y3 us hd wt).2.1 (Y3 us hd wt).2.2:=by
 obtain⟨k1,k2⟩:=a9u us ho.uw;refine Wt.onFold _ ([],hd,wt) k1 k2 ho h (λe he hey=>absurd ((R8 _ _).mem_iff.2 (List.mem_map.2 ⟨e,he,rfl⟩)) hey)
end Go.Proofs.YtddgjfclpknkcaaGreatDoor.Wk
set_option linter.unusedVariables false
set_option linter.unusedSimpArgs false
namespace Go.Proofs.YtddgjfclpknkcaaGreatDoor.Wk
open Go Go.Cn
theorem b5A{us:Us}{hd wt:Ps}(hu:Uk us):∀(l:List Tx) {st:Us×Ps×Ps},Uk st.1->∀y,f9 (l.foldl S2 st).1 y=if y∈l then none else f9 st.1 y
 |[],st,_,y=>by simp
 |a::l,st,h,y=>by
  rw[List.foldl_cons,b5A (us:=us) (hd:=hd) (wt:=wt) hu l (st:=S2 st a) (a7j h a)];show(if y∈l then none else f9 (B1 st.1 a) y)=_;rw[a5y h];by_cases h1:y∈l
  ·simp[h1]
  ·by_cases h2:y=a<;>simp[h1,h2]
theorem b5z:∀(l:List Tx) {st:Us×Ps×Ps} {e:Sl×Int},e∈(l.foldl S2 st).2.1↔e∈st.2.1/\e.1.m9∉l
 |[],st,e=>by simp
 |a::l,st,e=>by
  rw[List.foldl_cons,b5z l (st:=S2 st a)];show e∈drop st.2.1 a/\_↔_;rw[U3];simp only[List.mem_cons,not_or];constructor
  ·rintro⟨⟨h1,h2⟩,h3⟩;exact⟨h1,h2,h3⟩
  ·rintro⟨h1,h2,h3⟩;exact⟨⟨h1,h2⟩,h3⟩
theorem b5B:∀(l:List Tx) {st:Us×Ps×Ps} {e:Sl×Int},e∈(l.foldl S2 st).2.2↔e∈st.2.2/\e.1.m9∉l
 |[],st,e=>by simp
 |a::l,st,e=>by
  rw[List.foldl_cons,b5B l (st:=S2 st a)];show e∈drop st.2.2 a/\_↔_;rw[U3];simp only[List.mem_cons,not_or];constructor
  ·rintro⟨⟨h1,h2⟩,h3⟩;exact⟨h1,h2,h3⟩
  ·rintro⟨h1,h2,h3⟩;exact⟨⟨h1,h2⟩,h3⟩
theorem b2E{p p' :Ps}(hu:Uk p)(hu' :Uk p')(h:∀e,e∈p' ->e∈p){s:Sl}(hk:∀e∈p,e.1=s->e∈p'):md p' s=md p s:=by
 cases hg:f9 p s with
 |some v=>
  have h1:=hk (s,v) (K6 hg) rfl;rw[md,md,hg,Y1 hu' h1]
 |none=>
  cases hg' :f9 p' s with
  |none=>rw[md,md,hg,hg']
  |some v=>
   have:=Y1 hu (h _ (K6 hg'));rw[hg] at this;cases this
theorem Wt.wound{us:Us}{hd wt:Ps}{n:Nat}(ho:Ok us hd wt n)(hn:n<250)(h:Wt us hd wt){s:Sl}(hs:(f9 us s.m9).isSome=true)(hp:prep us s.m9=false){v:Int}(hv:v=1\/v=2)(hg:md hd s<v):
  let st:=(O2 us hd (p7 wt s v) s).foldl S2 (us,hd,p7 wt s v)
  Ok st.1 st.2.1 st.2.2 (n+1)/\Wt st.1 st.2.1 st.2.2:=by
 have ho1:=ho.wait hs v hn;have ho2:=Ok.fold (O2 us hd (p7 wt s v) s) (st:=(us,hd,p7 wt s v)) ho1;intro st;refine⟨ho2,?_⟩;have hus:∀y,y∉O2 us hd (p7 wt s v) s->f9 st.1 y=f9 us y:=λy hy=>by
  have:=b5A (us:=us) (hd:=hd) (wt:=wt) ho.uu (O2 us hd (p7 wt s v) s) (st:=(us,hd,p7 wt s v)) ho.uu y;rw[if_neg hy] at this;exact this
 have hh:∀e,e∈st.2.1↔e∈hd/\e.1.m9∉O2 us hd (p7 wt s v) s:=λe=>b5z _;have hw:∀e,e∈st.2.2↔e∈p7 wt s v/\e.1.m9∉O2 us hd (p7 wt s v) s:=λe=>b5B _;have hsv:(s,v)∈p7 wt s v:=K6 (by rw[M9,if_pos rfl]);have hwt1:∀e∈p7 wt s v,(e.1=s/\e.2=v)\/(e.1≠s/\e∈wt):=λe he=>by
  by_cases h1:e.1=s
  ·have:=b85 ho1.uw he hsv h1
   exact Or.inl ⟨h1,by rw[this]⟩
  ·rcases a0k he with h2|h2
   ·rw[h2] at h1;exact absurd rfl h1
   ·exact Or.inr ⟨h1,h2⟩
 have mdk:∀e:Sl×Int,e.1.m9∉O2 us hd (p7 wt s v) s->∀{x:Int},md hd e.1<x->md st.2.1 e.1<x:=λe he x hx=>by
  rw[b2E (p:=hd) (p' :=st.2.1) ho.uh ho2.uh (λe he=>((hh e).1 he).1) (λk hk hke=>(hh k).2 ⟨hk,by rw[hke];exact he⟩)];exact hx
 refine⟨λe he k hk h1 h2 h3=>?_,λe he=>?_,λe he=>?_,λe he=>?_,λe he=>h.n e ((hh e).1 he).1⟩
 ·obtain⟨e1,e2⟩:=(hw e).1 he
  obtain⟨k1,k2⟩:=(hh k).1 hk;have a:=hus _ k2;have b:=hus _ e2;rcases hwt1 e e1 with⟨h4,h5⟩|⟨h4,h5⟩
  ·rw[h4] at h1 h2 b⊢
   rw[h5] at h3;have hkx:k.1.m9∈C0 hd s.o7:=by rw[<-h1];exact b4n ho.uh k1
   have hnot:hit us hd (p7 wt s v) s k.1.m9=false:=by
    rw[Bool.eq_false_iff];intro hc;refine k2 ((R8 _ _).mem_iff.2 (List.mem_filter.2 ⟨hkx,hc⟩))
   have hm1:md (p7 wt s v) s=v:=by rw[a9l,if_pos rfl]
   have hm2:md hd ⟨k.1.m9,s.o7⟩=k.2:=by rw[<-h1];exact a1p ho.uh k1
   simp only[hit,hm1,hm2,h3,Bool.and_true,Bool.and_eq_false_iff,Bool.not_eq_false',decide_eq_true_eq,decide_eq_false_iff_not] at hnot;rcases hnot with h6|h6|h6
   ·exact absurd h6 h2
   ·exact Or.inl (by rw[a4v a];exact h6)
   ·have:=ho.elder (ho.hu k k1) hs h2 h6
    exact Or.inr (by rw[elder,a6D a b];exact this)
  ·rcases h.w e h5 k k1 h1 h2 h3 with h6|h6
   ·exact Or.inl (by rw[a4v a];exact h6)
   ·exact Or.inr (by rw[elder,a6D a b];exact h6)
 ·obtain⟨e1,e2⟩:=(hw e).1 he
  rcases hwt1 e e1 with⟨h4,h5⟩|⟨h4,h5⟩
  ·exact mdk e e2 (by rw[h4,h5];exact hg)
  ·exact mdk e e2 (h.g e h5)
 ·obtain⟨e1,e2⟩:=(hw e).1 he
  rw[a4v (hus _ e2)];rcases hwt1 e e1 with⟨h4,h5⟩|⟨h4,h5⟩
  ·rw[h4];exact hp
  ·exact h.p e h5
 ·obtain⟨e1,e2⟩:=(hw e).1 he
  rcases hwt1 e e1 with⟨h4,h5⟩|⟨h4,h5⟩
  ·rw[h5];exact hv
  ·exact h.m e h5
structure Bt(us:Us)(hd wt:Ps):Prop where
 w:Wt us hd wt
 f:b0J us hd wt
theorem Wt.users{us us' :Us}{hd wt:Ps}{n:Nat}(ho:Ok us hd wt n)(h:Wt us hd wt)(hc:∀y,(f9 us y).isSome=true->f9 us' y=f9 us y):Wt us' hd wt:=
 ⟨λe he k hk h1 h2 h3=>by
  have a:=hc _ (ho.hu k hk);have b:=hc _ (ho.wu e he);rcases h.w e he k hk h1 h2 h3 with h4|h4
  ·exact Or.inl (by rw[a4v a];exact h4)
  ·exact Or.inr (by rw[elder,a6D a b];exact h4),h.g,λe he=>by rw[a4v (hc _ (ho.wu e he))];exact h.p e he,h.m,h.n⟩
theorem Bt.go{us:Us}{hd wt:Ps}{n:Nat}(ho:Ok us hd wt n)(hn:n<250)(h:Wt us hd wt){s:Sl}(hs:(f9 us s.m9).isSome=true)(hp:prep us s.m9=false){mode:Int}(hm:mode=1\/mode=2)(hg:¬mode<=md hd s):
  Bt (x_ us hd wt s mode).2.2.1 (x_ us hd wt s mode).2.2.2.1 (x_ us hd wt s mode).2.2.2.2:=by
 have hmw:md wt s=0\/md wt s=1\/md wt s=2:=by
  rcases a9k wt s with h1|h1
  ·exact Or.inl h1
  ·exact Or.inr (h.m _ h1)
 have hv:mx mode (md wt s)=1\/mx mode (md wt s)=2:=by rw[mx];split<;>omega
 have hv2:md hd s<mx mode (md wt s):=by rw[mx];split<;>omega
 obtain⟨o2,w2⟩:=Wt.wound ho hn h hs hp hv hv2;obtain⟨w3,f3⟩:=Wt.on o2 w2;exact⟨w3,f3⟩
theorem Bt.ask{us:Us}{hd wt:Ps}{n:Nat}(ho:Ok us hd wt n)(hn:n<250)(h:Bt us hd wt)(s:TS)(k:Ky)(mode:Int):Bt (V9 us hd wt s k mode).2.2.1 (V9 us hd wt s k mode).2.2.2.1 (V9 us hd wt s k mode).2.2.2.2:=by
 unfold V9;split
 ·exact h
 ·rename_i h1
  have hm:mode=1\/mode=2:=by
   by_cases hc:mode=1\/mode=2
   ·exact hc
   ·exact absurd (Or.inr (Or.inr ⟨λe=>hc (Or.inl e),λe=>hc (Or.inr e)⟩)) h1
  split
  ·rename_i u hu
   split
   ·exact h
   ·rename_i hp
    split
    ·exact h
    ·rename_i hg
     exact Bt.go ho hn h.w (s:=⟨s.b7,k⟩) (by simp[hu]) (by simpa[prep,hu] using hp) hm hg
  ·rename_i hu
   split
   ·exact h
   ·rename_i hl
    split
    ·exact h
    ·rename_i hg
     have hlen:=a1r us s.b7 ⟨s,false⟩;have hnu:=ho.nu;have hw:Wt (p7 us s.b7 ⟨s,false⟩) hd wt:=h.w.users ho (λy hy=>by
      rw[M9,if_neg (λe=>by rw[e,hu] at hy;cases hy)])
     exact Bt.go (ho.user (x:=s.b7) (u:=⟨s,false⟩) rfl (by omega)) hn hw (s:=⟨s.b7,k⟩) (by simp[M9]) (by simp[prep,M9]) hm hg
theorem Wt.prepd{us:Us}{hd wt:Ps}{n:Nat}(ho:Ok us hd wt n)(h:Wt us hd wt){x:Tx}{u:TU}(hu:f9 us x=some u)(hnw:a1Z wt x=false):Wt (p7 us x ⟨u.B7,true⟩) (a1e hd x) wt:=by
 have hnx:∀e∈wt,e.1.m9≠x:=λe he hx=>by
  have:a1Z wt x=true:=List.any_eq_true.2 ⟨e,he,by simpa using hx⟩;rw[hnw] at this;cases this
 have hso:∀y,ka (p7 us x ⟨u.B7,true⟩) y=ka us y:=λy=>by
  rw[ka,ka,so,so,M9];split
  ·rename_i e;rw[e,hu];rfl
  ·rfl
 have hcf:∀y z,H9 (p7 us x ⟨u.B7,true⟩) y z=H9 us y z:=λy z=>by rw[H9,H9,hso,hso]
 have hpr:∀y,Wk.prep (p7 us x ⟨u.B7,true⟩) y=if y=x then true else Wk.prep us y:=λy=>by
  rw[Wk.prep,M9];split
  ·rfl
  ·rfl
 have hw0:Wt us (a1e hd x) wt:=h.filt ho _;refine⟨λe he k hk h1 h2 h3=>?_,hw0.g,λe he=>?_,hw0.m,hw0.n⟩
 ·rcases hw0.w e he k hk h1 h2 h3 with h4|h4
  ·left;rw[hpr];split
   ·rfl
   ·exact h4
  ·right;rw[elder,hcf];exact h4
 ·rw[hpr,if_neg (hnx e he)];exact hw0.p e he
theorem Bt.prep{us:Us}{hd wt:Ps}{n:Nat}(ho:Ok us hd wt n)(h:Bt us hd wt)(x:Tx):Bt (Y7 us hd wt x).2.2.1 (Y7 us hd wt x).2.2.2.1 (Y7 us hd wt x).2.2.2.2:=by
 unfold Y7;split
 ·exact h
 ·rename_i u hu
  split
  ·exact h
  ·rename_i hnw
   have hs:(f9 us x).isSome=true:=by simp[hu]
   have ho1:=(ho.user (x:=x) (u:=⟨u.B7,true⟩) (ho.su _ (K6 hu)) (by rw[a9p _ hs];exact ho.nu)).filt (λe=>!(decide (e.1.m9=x)&&e.2==1));obtain⟨w3,f3⟩:=Wt.on ho1 (h.w.prepd ho hu (by simpa using hnw));exact⟨w3,f3⟩
theorem Bt.rel{us:Us}{hd wt:Ps}{n:Nat}(ho:Ok us hd wt n)(h:Bt us hd wt)(x:Tx):Bt (Z2 us hd wt x).2.2.1 (Z2 us hd wt x).2.2.2.1 (Z2 us hd wt x).2.2.2.2:=by
 unfold Z2;split
 ·exact h
 ·obtain⟨w3,f3⟩:=Wt.on (ho.gone x) (h.w.gone ho x)
  exact⟨w3,f3⟩
theorem c2V{p q:Ps}{s:Sl}(h:∀e∈q,e.1≠s):md (p++q) s=md p s:=by
 have:∀p:Ps,f9 (p++q) s=f9 p s:=λp=>by
  induction p with
  |nil=>
   cases hg:f9 q s with
   |none=>rw[List.nil_append,hg];rfl
   |some v=>exact absurd rfl (h _ (K6 hg))
  |cons a p ih=>simp only[List.cons_append,f9,ih]
 rw[md,md,this]
theorem Bt.rest{us:Us}{hd wt:Ps}{n:Nat}(ho:Ok us hd wt n)(hn:n<250)(h:Bt us hd wt)(x:Tx)(ks:List Ky)(hz:ks.length<=30):Bt (P1 us hd x ks).2.1 (P1 us hd x ks).2.2 wt:=by
 obtain⟨_,ho2⟩:=b3p ho hn x ks hz;unfold P1 at ho2⊢;split
 ·exact h
 ·split
  ·exact h
  ·split
   ·exact h
   ·rename_i h3
    split
    ·exact h
    ·split
     ·exact h
     ·rename_i c1 c2 c4 c5
      rw[if_neg c1,if_neg c2,if_neg h3,if_neg c4,if_neg c5] at ho2;dsimp only at ho2⊢;have hnone:f9 us x=none:=by simpa using h3
      have hc:∀y,(f9 us y).isSome=true->f9 (p7 us x ⟨⟨0,x⟩,true⟩) y=f9 us y:=λy hy=>by
       rw[M9,if_neg (λe=>by rw[e,hnone] at hy;cases hy)]
      have hw:=h.w.users ho hc;have hnx:∀e∈wt,e.1.m9≠x:=λe he hx=>by
       have:=ho.wu e he;rw[hx,hnone] at this;cases this
      have hmd:∀s:Sl,s.m9≠x->md (hd++ks.map (plc x)) s=md hd s:=λs hs=>c2V (λe he hes=>by
       obtain⟨k,_,rfl⟩:=List.mem_map.1 he;exact hs (by rw[<-hes];rfl))
      refine⟨⟨λe he k hk h1 h2 h3=>?_,λe he=>?_,hw.p,hw.m,λe he=>?_⟩,λe he=>?_⟩
      ·rcases List.mem_append.1 hk with hk|hk
       ·exact hw.w e he k hk h1 h2 h3
       ·obtain⟨k',_,rfl⟩:=List.mem_map.1 hk
        left;show Wk.prep (p7 us x _) x=true;rw[Wk.prep,M9,if_pos rfl];rfl
      ·rw[hmd _ (hnx e he)];exact hw.g e he
      ·rcases List.mem_append.1 he with he|he
       ·exact hw.n e he
       ·obtain⟨k',_,rfl⟩:=List.mem_map.1 he
        exact Or.inr rfl
      ·have hf:=h.f e he
       simp only[I7,Bool.and_eq_false_iff,Bool.not_eq_false'] at hf⊢;rcases hf with hf|hf
       ·left
        obtain⟨y,hy,hcl⟩:=List.any_eq_true.1 hf;obtain⟨v,hyv⟩:=P6.1 hy;have hyx:y≠x:=λe2=>by
         have:=ho.hu _ hyv;rw[e2] at this;have h9:f9 us x=none:=hnone;rw[h9] at this;cases this
        refine List.any_eq_true.2 ⟨y,P6.2 ⟨v,List.mem_append_left _ hyv⟩,?_⟩;rw[p_] at hcl⊢;rw[hmd ⟨y,e.1.o7⟩ hyx];exact hcl
       ·right
        obtain⟨y,hy,hcl⟩:=List.any_eq_true.1 hf;obtain⟨v,hyv⟩:=P6.1 hy;refine List.any_eq_true.2 ⟨y,hy,?_⟩;rw[S9] at hcl⊢;rw[a6D (hc _ (ho.wu _ hyv)) (hc _ (ho.wu e he))];exact hcl
theorem Bt.does{us:Us}{hd wt:Ps}{n:Nat}(ho:Ok us hd wt n)(hn:n<250)(h:Bt us hd wt)(a:TA)(hz:a.K4.length<=30):Bt (S8 us hd wt a).2.2.1 (S8 us hd wt a).2.2.2.1 (S8 us hd wt a).2.2.2.2:=by
 unfold S8;split
 ·exact h.prep ho _
 ·split
  ·exact h.rel ho _
  ·split
   ·exact h.rest ho hn _ _ hz
   ·exact h.ask ho hn _ _ _
theorem b9H:Bt [] [] []:=⟨⟨by simp,by simp,by simp,by simp,by simp⟩,λe he=>by cases he⟩
end Go.Proofs.YtddgjfclpknkcaaGreatDoor.Wk
