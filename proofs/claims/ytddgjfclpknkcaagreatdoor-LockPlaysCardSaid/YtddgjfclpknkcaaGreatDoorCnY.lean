import Derived.Test.YtddgjfclpknkcaaGreatDoorCnS
namespace Go.Cn
open Go
section
variable {H:Type}{tok:TypeId×Value->H}{P:Program}{w:World}{base:Nat}{spare:Nat->Bool}{held:Bool}
def Rd(tok:TypeId×Value->H)(P:Program)(w:World)(base:Nat)(spare:Nat->Bool)(held:Bool)(t:TypeId){α:Type}(enc:α->List LV)(W:α->Prop):Prop:=
 ∀fuel cs x,DataW.trod tok P w base spare held fuel t cs=some x->(∀k∈x.1.weights P t,k<=reachBytes)->∃a:α,A3 (a2h w) (enc a) cs/\W a
theorem Rd.cells{t:TypeId}{d:Nat}{ks:List CK}(hs:M5 P d t=some ks){α:Type}{enc:α->List LV}(hdec:∀l,x6 ks l=true->∃a,l=enc a):Rd tok P w base spare held t enc (λa=>X5 (enc a)):=by
 intro fuel cs x h _;obtain⟨ls,h1,h2,h3⟩:=b35 d t ks hs fuel _ _ h;obtain⟨a,rfl⟩:=hdec ls h1;exact⟨a,o6.frz (a8N h1) (h2 (mu0 w)),h3⟩
theorem b9e{e:TypeId}{d:DataW H}{k:Nat}:∀{l:List (DataW H)},d∈l->k∈d.weights P e->k∈DataW.weightsAll P e l
 |[],h,_=>by cases h
 |x::l,h,hk=>by
  unfold DataW.weightsAll;rcases List.mem_cons.1 h with rfl|h
  ·exact List.mem_append_left _ hk
  ·exact List.mem_append_right _ (b9e h hk)
theorem b4b{k:Nat}:∀{ts:List TypeId} {ds:List (DataW H)} (i:Nat) {t:TypeId} {d:DataW H},ts[i]?=some t->ds[i]?=some d->k∈d.weights P t->k∈DataW.weightsEach P ts ds
 |[],_,i,_,_,h,_,_=>by simp at h
 |_::_,[],i,_,_,_,h,_=>by simp at h
 |t::ts,d::ds,0,_,_,h1,h2,hk=>by
  simp only[List.getElem?_cons_zero,Option.some.injEq] at h1 h2;subst h1;subst h2;unfold DataW.weightsEach;exact List.mem_append_left _ hk
 |t::ts,d::ds,i+1,_,_,h1,h2,hk=>by
  unfold DataW.weightsEach;exact List.mem_append_right _ (b4b i (by simpa using h1) (by simpa using h2) hk)
theorem Rd.slice{t e:TypeId}{z b:Nat}(ht:P.underlying t=some (.slice e))(hb:P.bytesOf e=b)(hz:P.cellsOf e=z)(hz0:0<z){α:Type}[Inhabited α]{enc:α->List LV}{W:α->Prop}(hl:∀a,(enc a).length=z)(hc:∀a,(enc a).all LV.isCell=true)
  (he:Rd tok P w base spare held e enc W):Rd tok P w base spare held t (λl:List α=>[.ds z l.length (b6 enc default l)]) (λl=>(∀a∈l,W a)/\l.length * b<=140737488351232):=by
 intro fuel cs x h hwt;rcases DataW.trod_slice ht h with⟨rfl,_⟩|⟨a,len,cap,elems,rest,n,_,rfl,hx,_,hlc,hcm,hel,hi,_,_⟩
 ·refine⟨[],⟨_,_,rfl,?_,rfl⟩,by simp,by simp⟩
  simp only[D8];exact⟨_,_,rfl,Nat.le_refl _,λ_=>rfl,(λ_ h=>by cases h),λi hi=>by simp at hi⟩
 ·have one:∀i,i<len->∃(b:α) (ci:List Value),w.cells? base (a.add (i * z)) z=some ci/\A3 (a2h w) (enc b) ci/\W b:=by
   intro i hlt;have:=hi i hlt;rw[List.getElem?_eq_getElem (by omega),hz] at this;obtain⟨ci,h1,h2⟩:=Option.bind_eq_some_iff.1 this;obtain⟨b,h3,h4⟩:=he n ci _ h2 (λk hk=>hwt k (by
    rw[hx];unfold DataW.weights;rw[ht];exact List.mem_cons_of_mem _ (List.mem_append_left _ (b9e (List.mem_map.2 ⟨_,List.getElem_mem _,rfl⟩) hk))))
   exact⟨b,ci,h1,h3,h4⟩
  have pick:∀k,k<=len->∃l:List α,l.length=k/\(∀b∈l,W b)/\∀i,i<k->∃ci,w.cells? base (a.add (i * z)) z=some ci/\A3 (a2h w) (enc (l.getD i default)) ci:=by
   intro k
   induction k with
   |zero=>intro _;exact⟨[],rfl,by simp,λi hi=>by omega⟩
   |succ k ih=>
    intro hk;obtain⟨l,h1,h2,h3⟩:=ih (by omega);obtain⟨b,ci,g1,g2,g3⟩:=one k (by omega);refine⟨l++[b],by simp[h1],λy hy=>?_,λi hi=>?_⟩
    ·rcases List.mem_append.1 hy with hy|hy
     ·exact h2 y hy
     ·simp only[List.mem_singleton] at hy;subst hy;exact g3
    ·rcases Nat.lt_or_ge i k with hik|hik
     ·obtain⟨c2,k1,k2⟩:=h3 i hik
      refine⟨c2,k1,?_⟩;rw[List.getD_eq_getElem?_getD,List.getElem?_append_left (by omega),<-List.getD_eq_getElem?_getD];exact k2
     ·obtain rfl:i=k:=by omega
      refine⟨ci,g1,?_⟩;rw[List.getD_eq_getElem?_getD,List.getElem?_append_right (by omega),h1,Nat.sub_self];exact g2
  obtain⟨l,h1,h2,h3⟩:=pick len (Nat.le_refl _);subst h1;have hbnd:l.length * b<=140737488351232:=by
   have h5:=hwt ((elems.length+rest.length) * b) (by
    rw[hx];unfold DataW.weights;rw[ht];simp[hb])
   have h6:l.length * b<=(elems.length+rest.length) * b:=Nat.mul_le_mul_right _ (by omega);exact Nat.le_trans h6 h5
  refine⟨l,⟨_,_,rfl,?_,rfl⟩,h2,hbnd⟩;have spot:l.length≠0->a.spot=none:=by
   intro hne;obtain⟨ci,k1,k2⟩:=h3 0 (by omega);have:=(World.cells?_some k1).2.2 0 hz0;rw[Nat.zero_mul] at this;have e0:(a.add 0).add 0=a:=by simp[Addr.add]
   rw[e0] at this;have hlen:=(World.cells?_some k1).2.1;rw[List.getElem?_eq_getElem (by omega)] at this;unfold World.cell? at this;split at this
   ·split at this
    ·cases this
    ·rename_i hsp;simpa using hsp
   ·cases this
  simp only[D8];refine⟨_,_,rfl,hlc,(λh=>by cases h),(λa' h' hn=>by cases h';exact spot hn),λi hi=>?_⟩;obtain⟨ci,k1,k2⟩:=h3 i hi;have hsp:=spot (by omega);have hlen:=(World.cells?_some k1).2.1;have hget:=(World.cells?_some k1).2.2;have cell:∀j,j<z->∃c E fr,w.heap[a.block]?=some (.cells c E fr)/\c[a.off+i * z+j]?=ci[j]?:=by
   intro j hj;have:=hget j hj;rw[List.getElem?_eq_getElem (by omega)] at this⊢;have e:(a.add (i * z)).add j=⟨a.block,a.off+i * z+j,none⟩:=by rw[a4T hsp,a4T rfl]
   rw[e] at this;unfold World.cell? at this;split at this
   ·rename_i c E fr hh
    exact⟨c,E,fr,hh,by simpa using this⟩
   ·cases this
  obtain⟨c,E,fr,hh,_⟩:=cell 0 hz0;refine⟨a,c,ci,rfl,by simp[a2h,hh],k2,hlen,λj v hv=>?_,a6y (μ:=mu0 w) (hc _) (A3.rel (μ:=mu0 w) k2)⟩;have hj:j<z:=by rw[<-hlen];exact(List.getElem?_eq_some_iff.1 hv).1
  obtain⟨c',E',fr',hh',hc'⟩:=cell j hj;rw[hh] at hh';cases hh';rw[hc'];exact hv
def b8R(P:Program)(t:TypeId):Option (List (TypeId×Nat)):=
 match P.underlying t with
 |some (.struct fs)=>some (fs.toList.map λf=>(f.type,f.offset))
 |_=>none
def O_(tok:TypeId×Value->H)(P:Program)(w:World)(base:Nat)(spare:Nat->Bool)(held:Bool)(N:Nat)(fs:List (TypeId×Nat))(o:Nat){α:Type}(enc:α->List LV)(W:α->Prop):Prop:=
 ∀(n:Nat) (cs:List Value),cs.length=N->(∀f∈fs,∃x,DataW.trod tok P w base spare held n f.1 ((cs.drop f.2).take (P.cellsOf f.1))=some x/\∀k∈x.1.weights P f.1,k<=reachBytes)->∃a:α,A3 (a2h w) (enc a) (cs.drop o)/\W a
theorem O_.nil{N:Nat}:O_ tok P w base spare held N [] N (λ_:Unit=>[]) (λ_=>True):=λn cs hN _=>⟨(),by rw[List.drop_eq_nil_of_le (by omega)];rfl,trivial⟩
theorem A3.append{φ:K5}:∀{a b:List LV} {x y:List Value},A3 φ a x->A3 φ b y->A3 φ (a++b) (x++y)
 |[],_,_,_,h,h' =>by cases h;exact h'
 |_::_,_,_,_,⟨v,r,e,h1,h2⟩,h' =>by subst e;exact⟨v,_,rfl,h1,A3.append h2 h'⟩
theorem O_.cons{N t o z:Nat}{r:List (TypeId×Nat)}{α β:Type}{enc:α->List LV}{W:α->Prop}{enc2:β->List LV}{W2:β->Prop}(hz:P.cellsOf t=z)(h1:Rd tok P w base spare held t enc W)(h2:O_ tok P w base spare held N r (o+z) enc2 W2):
  O_ tok P w base spare held N ((t,o)::r) o (λp:α×β=>enc p.1++enc2 p.2) (λp=>W p.1/\W2 p.2):=by
 intro n cs hN hf;obtain⟨x,hx,hk⟩:=hf (t,o) List.mem_cons_self;rw[hz] at hx;obtain⟨a,ha,hwa⟩:=h1 n _ x hx hk;obtain⟨b,hb,hwb⟩:=h2 n cs hN (λf h=>hf f (List.mem_cons_of_mem _ h));refine⟨(a,b),?_,hwa,hwb⟩;rw[<-List.take_append_drop z (cs.drop o),List.drop_drop];exact ha.append hb
theorem Rd.struct{t N:Nat}{fs:List (TypeId×Nat)}{α:Type}{enc:α->List LV}{W:α->Prop}(hd:b8R P t=some fs)(hN:P.cellsOf t=N)(h1:O_ tok P w base spare held N fs 0 enc W):Rd tok P w base spare held t enc W:=by
 intro fuel cs x h hwt;unfold b8R at hd;split at hd<;>cases hd;rename_i fl hu;obtain⟨xs,n,rfl,hx,h2,h3,h4⟩:=DataW.trod_struct hu h;have:=h1 n cs (by omega) (λf hf=>by
  obtain⟨g,hg,rfl⟩:=List.mem_map.1 hf;obtain⟨i,hi⟩:=List.getElem?_of_mem hg;have hi' :fl[i]?=some g:=by simpa using hi
  have h5:=h4 i g hi';have hlt:i<xs.length:=by rw[h3];exact(Array.getElem?_eq_some_iff.1 hi').1
  refine⟨_,h5.trans (List.getElem?_eq_getElem hlt),λk hk=>hwt k ?_⟩;rw[hx];unfold DataW.weights;rw[hu];exact b4b i (by simp[hi]) (by simp[hlt]) hk)
 simpa using this
theorem Rd.map{t:TypeId}{α β:Type}{enc:α->List LV}{W:α->Prop}{enc2:β->List LV}{W2:β->Prop}(h:Rd tok P w base spare held t enc W)(g:α->β)(he:∀a,enc2 (g a)=enc a)(hw:∀a,W a->W2 (g a)):Rd tok P w base spare held t enc2 W2:=by
 intro fuel cs x hx hk;obtain⟨a,h1,h2⟩:=h fuel cs x hx hk;exact⟨g a,by rw[he];exact h1,hw a h2⟩
theorem c5a{μ:d5}{x:LV}{v:Value}(h:o6 μ [x] [v]):i4 μ x v:=by
 obtain⟨_,_,e,h1,_⟩:=h;cases e;exact h1
theorem b4M{k:IntKind}:∀l,x6 [.int k] l=true->∃a:Int,l=A4 k a:=λl h=>by
 obtain⟨a,r,e,h⟩:=y_ h;exact⟨a,by rw[e,b1G h];rfl⟩
theorem c7m{ts:List TypeId}{ds:List (DataW H)}(h:(DataW.weightsEach P ts ds).all (· <=reachBytes)=true)(i:Nat){t:TypeId}{d:DataW H}(h1:ts[i]?=some t)(h2:ds[i]?=some d):∀k∈d.weights P t,k<=reachBytes:=λk hk=>
 of_decide_eq_true (List.all_eq_true.1 h k (b4b i h1 h2 hk))
theorem c3c{r:Reach}{b0:Nat}{t e:TypeId}{v:Value}{dd:DataW H}{ps:List MemPlace}{α:Type}{enc:α->List LV}{W:α->Prop}(ht:P.underlying t=some (.slice e))(hval:Value.okWide P w r b0 t v)
  (h:DataW.Trod tok P w base spare held t v dd ps) (hwt:∀k∈dd.weights P t,k<=reachBytes) (hr:Rd tok P w base spare held t enc W):∃a,W a/\o6 (mu0 w) (enc a) [v]:=by
 obtain⟨fuel,h⟩:=h;obtain⟨a,h1,h2⟩:=hr fuel _ _ h hwt;have hv:v.cells.toList=[v]:=by
  have:=WideShapes.okWide_slice ht hval;obtain⟨b,n,c,rfl⟩:=this;simp[Value.cells]
 rw[hv] at h1;exact⟨a,h2,A3.rel (μ:=mu0 w) h1⟩
end
end Go.Cn
