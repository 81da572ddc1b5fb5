import Derived.Test.YtddgjfclpknkcaaGreatDoorCnA
namespace Go.Cn
def j7(α:Type):Type:=Quot (List.Perm (α:=α))
def j7.of{α:Type}(l:List α):j7 α:=Quot.mk _ l
def j7.map{α β:Type}(f:α->β):j7 α->j7 β:=Quot.lift (λl=>j7.of (l.map f)) λ_ _ h=>Quot.sound (h.map f)
def j7.length{α:Type}:j7 α->Nat:=Quot.lift List.length λ_ _ h=>h.length_eq
theorem j7.exact{α:Type}{l m:List α}(h:j7.of l=j7.of m):l.Perm m:=@Quotient.exact (List α) (List.isSetoid α) l m h
theorem j7.sound{α:Type}{l m:List α}(h:l.Perm m):j7.of l=j7.of m:=Quot.sound h
theorem j7.ex{α:Type}(q:j7 α):∃l,j7.of l=q:=Quot.exists_rep q
theorem c3E{α β:Type}{f:α->β}{l:List α}{m:List β}(h:m.Perm (l.map f)):∃l' :List α,l'.Perm l/\m=l'.map f:=by
 generalize hk:l.map f=k at h
 induction h generalizing l with
 |nil=>exact⟨[],by cases l<;>simp at hk⊢,rfl⟩
 |cons x _ ih=>
  cases l with
  |nil=>simp at hk
  |cons a l=>
   simp only[List.map_cons,List.cons.injEq] at hk;obtain⟨l',h1,rfl⟩:=ih hk.2;exact⟨a::l',h1.cons a,by rw[List.map_cons,hk.1]⟩
 |swap x y r=>
  match l,hk with
  |a::b::l,hk=>
   simp only[List.map_cons,List.cons.injEq] at hk;exact⟨b::a::l,List.Perm.swap _ _ _,by rw[List.map_cons,List.map_cons,hk.1,hk.2.1,hk.2.2]⟩
 |trans _ _ ih1 ih2=>
  obtain⟨l2,p2,rfl⟩:=ih2 hk;obtain⟨l1,p1,rfl⟩:=ih1 rfl;exact⟨l1,p1.trans p2,rfl⟩
theorem j7.of_map{α β:Type}{f:α->β}{q:j7 α}{m:List β}(h:j7.of m=q.map f):∃l:List α,j7.of l=q/\m=l.map f:=by
 obtain⟨l,rfl⟩:=q.ex;obtain⟨l',p,e⟩:=c3E (j7.exact h);exact⟨l',j7.sound p,e⟩
inductive LO where
 |var (cs:List LV)
 |row (sz n:Nat) (f:Nat->List LV) (wr:Bool)
 |map (ag:Bool) (ks:List CK) (es:List (LV×LV))
 |gr (sz n:Nat) (f:Nat->List LV)
 |mapO (ag:Bool) (ks:List CK) (es:List (LV×LV)) (k z:LV) (d:Nat)
 |mapP (ag:Bool) (ks:List CK) (es:List (LV×LV)) (k z:LV)
 |sit (l:List UInt8) (pos:Nat)
 |bld (E:TypeId) (c n:Nat)
 |tg (E:TypeId) (l:List UInt8)
 |pm (ag:Bool) (ks:List CK) (es:List (LV×List LV)) (opn:List (LV×Nat))
 |vw (cs:List LV) (ag:Bool) (ks:List CK) (n:Nat) (W:Nat->Option (List (LV×LV))) (opn:List (Nat×Nat))
 |mit (c:Nat) (ag:Bool) (ks:List CK) (es:List (LV×LV)) (cur:Option (LV×LV)) (rest:List (LV×LV))
 |mapR (ag:Bool) (ks:List CK) (es:List (LV×LV))
 |vwr (cs:List LV) (n:Nat) (opn:List (Nat×Nat))
 |bag (sz:Nat) (q:j7 (List LV))
 |mapq (ag:Bool) (ks:List CK) (q:j7 (LV×LV))
 deriving Inhabited
def LO.wr:LO->Bool
 | .var _=>true
 | .row _ _ _ wr=>wr
 | .map _ _ _=>true
 | .gr _ _ _=>true
 | .mapO _ _ _ _ _ _=>true
 | .mapP _ _ _ _ _=>true
 | .sit _ _=>true
 | .bld _ _ _=>true
 | .tg _ _=>true
 | .pm _ _ _ _=>true
 | .vw _ _ _ _ _ _=>true
 | .mit _ _ _ _ _ _=>true
 | .mapR _ _ _=>false
 | .vwr _ _ _=>false
 | .bag _ _=>true
 | .mapq _ _ _=>true
def LO.void:LO->Prop
 | .gr _ n _=>n=0
 | .tg _ l=>l=[]
 | .bag _ q=>q=j7.of []
 |_=>False
inductive F2 {α β:Type} (R:α->β->Prop):List α->List β->Prop where
 |nil:F2 R [] []
 |cons {a b l m}:R a b->F2 R l m->F2 R (a::l) (b::m)
theorem F2.mono{α β:Type}{R S:α->β->Prop}(h:∀a b,R a b->S a b){l:List α}{m:List β}(r:F2 R l m):F2 S l m:=by
 induction r with
 |nil=>exact .nil
 |cons a _ ih=>exact .cons (h _ _ a) ih
def U1(μ:d5)(e:LV×LV)(m:MapEntry):Prop:=D8 μ.fro e.1 m.key/\D8 μ.fro e.2 m.val
def a6M(k:LV):List (LV×LV)->Option Nat
 |[]=>none
 |e::r=>if B0 k e.1 then some 0 else(a6M k r).map (· +1)
def a8I(k v:LV):List (LV×LV)->List (LV×LV)
 |[]=>[(k,v)]
 |e::r=>if B0 k e.1 then(k,v)::r else e::a8I k v r
def a2d(k z:LV)(es:List (LV×LV)):List (LV×LV):=
 match a6M k es with
 |some _=>es
 |none=>a8I k z es
def M_(μ:d5)(h:Option Obj)(ag:Bool)(ks:List CK)(es:List (LV×LV)):Prop:=
 (∃entries clock,h=some (.map entries clock)/\F2 (U1 μ) es entries.toList/\(entries.toList.map (·.born)).Nodup/\∀e∈entries.toList,e.born<clock)/\∀e∈es,D9 ag ks e.1=true
theorem M_.mono{μ μ' :d5}{h:Option Obj}{ag:Bool}{ks:List CK}{es:List (LV×LV)}(hf:∀b cs,μ.fro b=some cs->μ'.fro b=some cs)(r:M_ μ h ag ks es):M_ μ' h ag ks es:=by
 obtain⟨⟨en,cl,h1,h2,h3,h4⟩,h5⟩:=r;exact⟨⟨en,cl,h1,h2.mono (λa b ⟨x,y⟩=>⟨x.mono hf,y.mono hf⟩),h3,h4⟩,h5⟩
def N_(μ:d5)(opn:List (LV×Nat))(e:LV×List LV)(m:MapEntry):Prop:=D8 μ.fro e.1 m.key/\∃b o,m.val=.pointer (some ⟨b,o,none⟩)/\∀s,(e.1,s)∈opn->∃q,μ s=some q/\q.rb=b/\q.off=o/\q.sz=e.2.length/\q.ext=1
theorem N_.mono{μ μ' :d5}{opn:List (LV×Nat)}{e:LV×List LV}{m:MapEntry}(hf:∀b cs,μ.fro b=some cs->μ'.fro b=some cs)(hl:∀s q,(∃k,(k,s)∈opn)->μ s=some q->μ' s=some q)(r:N_ μ opn e m):N_ μ' opn e m:=by
 obtain⟨h1,b,o,h2,h3⟩:=r;refine⟨h1.mono hf,b,o,h2,λs hs=>?_⟩;obtain⟨q,hq,r⟩:=h3 s hs;exact⟨q,hl s q ⟨_,hs⟩ hq,r⟩
def a8i(μ:d5)(c n:Nat)(v:Value):Prop:=(n=0/\v=.slice none 0 0)\/(n≠0/\∃q,μ c=some q/\q.off=0/\v=.slice (some ⟨q.rb,0,none⟩) n q.ext)
theorem a8i.mono{μ μ' :d5}{c n:Nat}{v:Value}(h:∀p,μ c=some p->μ' c=some p)(r:a8i μ c n v):a8i μ' c n v:=
 r.imp id λ⟨h0,q,hq,r⟩=>⟨h0,q,h q hq,r⟩
def a8l(μ:d5)(p:Pl)(h:Option Obj)(sz n:Nat)(f:Nat->List LV):Prop:=p.sz=sz/\n<=p.ext/\∃cells E fr,h=some (.cells cells E fr)/\p.off+p.ext * sz<=cells.size/\(∀o,o<cells.size->¬(fr.1<=o/\o<fr.2))/\
 ∀i,i<n->∃vs,A3 μ.fro (f i) vs/\vs.length=sz/\I4 cells (p.off+i * sz) vs/\∀v∈vs,v.oneCell' =true
theorem a8l.mono{μ μ' :d5}(hf:∀b cs,μ.fro b=some cs->μ'.fro b=some cs){p:Pl}{h:Option Obj}{sz n:Nat}{f:Nat->List LV}(r:a8l μ p h sz n f):a8l μ' p h sz n f:=by
 obtain⟨h1,h2,cells,E,fr,h3,h4,h5,h6⟩:=r;refine⟨h1,h2,cells,E,fr,h3,h4,h5,λi hi=>?_⟩;obtain⟨vs,a,b⟩:=h6 i hi;exact⟨vs,a.mono hf,b⟩
def w9(μ:d5)(p:Pl)(h:Option Obj):LO->Prop
 | .var cs=>p.ext=1/\p.sz=cs.length/\∃cells E fr,h=some (.cells cells E fr)/\p.off+p.sz<=cells.size/\(∀o,o<cells.size->¬(fr.1<=o/\o<fr.2))/\
   ∃vs,o6 μ cs vs/\I4 cells p.off vs/\∀v∈vs,v.oneCell' =true
 | .row sz n f wr=>p.sz=sz/\n<=p.ext/\∃cells E fr,h=some (.cells cells E fr)/\p.off+p.ext * sz<=cells.size/\(wr=true->∀o,o<cells.size->¬(fr.1<=o/\o<fr.2))/\
   ∀i,i<n->∃vs,o6 μ (f i) vs/\vs.length=sz/\I4 cells (p.off+i * sz) vs/\∀v∈vs,v.oneCell' =true
 | .map ag ks es=>(∃entries clock,h=some (.map entries clock)/\F2 (U1 μ) es entries.toList/\(entries.toList.map (·.born)).Nodup/\∀e∈entries.toList,e.born<clock)/\
   ∀e∈es,D9 ag ks e.1=true
 | .gr sz n f=>p.sz=sz/\n<=p.ext/\∃cells E fr,h=some (.cells cells E fr)/\p.off+p.ext * sz<=cells.size/\(∀o,o<cells.size->¬(fr.1<=o/\o<fr.2))/\
   ∀i,i<n->∃vs,o6 μ (f i) vs/\vs.length=sz/\I4 cells (p.off+i * sz) vs/\∀v∈vs,v.oneCell' =true
 | .mapO ag ks es k z d=>M_ μ h ag ks (a2d k z es)/\∃q entries clock j e,μ d=some q/\h=some (.map entries clock)/\a6M k (a2d k z es)=some j/\entries[j]?=some e/\e.born=q.off/\((a2d k z es)[j]?).map (·.1)=some k
 | .mapP ag ks es k z=>M_ μ h ag ks es\/M_ μ h ag ks (a2d k z es)
 | .sit l pos=>p.off=0/\h=some (.stringIter ⟨l.toArray⟩ pos)
 | .bld E c n=>p.off=0/\∃v0 v1,h=some (.cells #[v0,v1] E (0,0))/\(v0=.pointer none\/v0=.pointer (some ⟨p.rb,0,none⟩))/\a8i μ c n v1
 | .pm ag ks es opn=>∃entries clock,h=some (.map entries clock)/\F2 (N_ μ opn) es entries.toList/\(entries.toList.map (·.born)).Nodup/\(∀e∈entries.toList,e.born<clock)/\(∀e∈es,D9 ag ks e.1=true)
 | .vw cs ag ks n W opn=>p.ext=1/\p.sz=cs.length+n/\∃cells E fr,h=some (.cells cells E fr)/\p.off+p.sz<=cells.size/\(∀o,o<cells.size->¬(fr.1<=o/\o<fr.2))/\
   (∃vs,o6 μ cs vs/\I4 cells p.off vs/\∀v∈vs,v.oneCell' =true)/\∀i,i<n->∃ob,cells[p.off+cs.length+i]?=some (.map ob)/\∀s,(i,s)∈opn->∃q,μ s=some q/\ob=some q.rb
 | .mit c ag ks es cur rest=>p.off=0/\∃q since seen stepped,μ c=some q/\h=some (.mapIter (some q.rb) since seen stepped)
 | .mapR ag ks es=>(∃entries clock,h=some (.map entries clock)/\F2 (U1 μ) es entries.toList/\(entries.toList.map (·.born)).Nodup/\∀e∈entries.toList,e.born<clock)/\
   ∀e∈es,D9 ag ks e.1=true
 | .vwr cs n opn=>p.ext=1/\p.sz=cs.length+n/\∃cells E fr,h=some (.cells cells E fr)/\p.off+p.sz<=cells.size/\
   (∃vs,o6 μ cs vs/\I4 cells p.off vs)/\∀i,i<n->∃ob,cells[p.off+cs.length+i]?=some (.map ob)/\∀s,(i,s)∈opn->∃q,μ s=some q/\ob=some q.rb
 | .bag sz q=>∃l,j7.of l=q/\a8l μ p h sz l.length (λi=>l.getD i [])
 | .mapq ag ks q=>∃es,j7.of es=q/\M_ μ h ag ks es
 | .tg E l=>p.off=0/\p.sz=1/\l.length<=p.ext/\p.ext<=maxLen/\∃cells,h=some (.cells cells E (0,0))/\cells.size=p.ext/\cells.toList.take l.length=l.map λb=>Value.int .u8 b.toNat
theorem w9.mono{μ μ' :d5}(h:D7 μ μ'){p:Pl}{b:Option Obj}{o:LO}(r:w9 μ p b o):w9 μ' p b o:=by
 cases o with
 |var cs=>
  obtain⟨h1,h2,cells,E,fr,h3,h4,h5,vs,h6,h7⟩:=r;exact⟨h1,h2,cells,E,fr,h3,h4,h5,vs,h6.mono h,h7⟩
 |row sz n f wr=>
  obtain⟨h1,h2,cells,E,fr,h3,h4,h5,h6⟩:=r;refine⟨h1,h2,cells,E,fr,h3,h4,h5,λi hi=>?_⟩;obtain⟨vs,a,b,c⟩:=h6 i hi;exact⟨vs,a.mono h,b,c⟩
 |map ag ks es=>
  obtain⟨⟨en,cl,h1,h2,h3,h4⟩,h5⟩:=r;exact⟨⟨en,cl,h1,h2.mono (λa b ⟨x,y⟩=>⟨x.mono h.fro,y.mono h.fro⟩),h3,h4⟩,h5⟩
 |gr sz n f=>
  obtain⟨h1,h2,cells,E,fr,h3,h4,h5,h6⟩:=r;refine⟨h1,h2,cells,E,fr,h3,h4,h5,λi hi=>?_⟩;obtain⟨vs,a,b,c⟩:=h6 i hi;exact⟨vs,a.mono h,b,c⟩
 |mapO ag ks es k z d=>
  obtain⟨h1,q,en,cl,j,e,h5,h6⟩:=r;exact⟨h1.mono h.fro,q,en,cl,j,e,h.loc _ _ h5,h6⟩
 |mapP ag ks es k z=>exact r.imp (·.mono h.fro) (·.mono h.fro)
 |sit l pos=>exact r
 |bld E c n=>
  obtain⟨h1,v0,v1,h2,h3,h4⟩:=r;exact⟨h1,v0,v1,h2,h3,h4.mono (h.loc _)⟩
 |pm ag ks es opn=>
  obtain⟨en,cl,h1,h2,h3⟩:=r;exact⟨en,cl,h1,h2.mono (λ_ _=>N_.mono h.fro (λs q _=>h.loc s q)),h3⟩
 |vw cs ag ks n W opn=>
  obtain⟨h1,h2,cells,E,fr,h3,h4,h5,⟨vs,h6,h7⟩,h8⟩:=r;refine⟨h1,h2,cells,E,fr,h3,h4,h5,⟨vs,h6.mono h,h7⟩,λi hi=>?_⟩;obtain⟨b,k1,k2⟩:=h8 i hi;refine⟨b,k1,λs hs=>?_⟩;obtain⟨q,hq,e⟩:=k2 s hs;exact⟨q,h.loc _ _ hq,e⟩
 |mit c ag ks es cur rest=>
  obtain⟨h1,q,si,se,st,h2,h3⟩:=r;exact⟨h1,q,si,se,st,h.loc _ _ h2,h3⟩
 |tg E l=>exact r
 |bag sz q=>obtain⟨l,e,r⟩:=r;exact⟨l,e,r.mono h.fro⟩
 |mapq ag ks q=>obtain⟨es,e,r⟩:=r;exact⟨es,e,r.mono h.fro⟩
 |mapR ag ks es=>
  obtain⟨⟨en,cl,h1,h2,h3,h4⟩,h5⟩:=r;exact⟨⟨en,cl,h1,h2.mono (λa b ⟨x,y⟩=>⟨x.mono h.fro,y.mono h.fro⟩),h3,h4⟩,h5⟩
 |vwr cs n opn=>
  obtain⟨h1,h2,cells,E,fr,h3,h4,⟨vs,h6,h7⟩,h8⟩:=r;refine⟨h1,h2,cells,E,fr,h3,h4,⟨vs,h6.mono h,h7⟩,λi hi=>?_⟩;obtain⟨b,k1,k2⟩:=h8 i hi;refine⟨b,k1,λs hs=>?_⟩;obtain⟨q,hq,e⟩:=k2 s hs;exact⟨q,h.loc _ _ hq,e⟩
theorem w9.lt{μ:d5}{p:Pl}{w:World}{o:LO}(r:w9 μ p w.heap[p.rb]? o):p.rb<w.heap.size:=by
 have:∃x,w.heap[p.rb]?=some x:=by
  cases o with
  |var cs=>obtain⟨_,_,cells,E,fr,h,_⟩:=r;exact⟨_,h⟩
  |row sz n f wr=>obtain⟨_,_,cells,E,fr,h,_⟩:=r;exact⟨_,h⟩
  |map ag ks es=>obtain⟨⟨en,cl,h,_⟩,_⟩:=r;exact⟨_,h⟩
  |gr sz n f=>obtain⟨_,_,cells,E,fr,h,_⟩:=r;exact⟨_,h⟩
  |mapO ag ks es k z d=>obtain⟨⟨⟨en,cl,h,_⟩,_⟩,_⟩:=r;exact⟨_,h⟩
  |mapP ag ks es k z=>rcases r with⟨⟨en,cl,h,_⟩,_⟩|⟨⟨en,cl,h,_⟩,_⟩<;>exact⟨_,h⟩
  |sit l pos=>exact⟨_,r.2⟩
  |bld E c n=>obtain⟨_,v0,v1,h,_⟩:=r;exact⟨_,h⟩
  |pm ag ks es opn=>obtain⟨en,cl,h,_⟩:=r;exact⟨_,h⟩
  |vw cs ag ks n W opn=>obtain⟨_,_,cells,E,fr,h,_⟩:=r;exact⟨_,h⟩
  |mit c ag ks es cur rest=>obtain⟨_,q,si,se,st,_,h⟩:=r;exact⟨_,h⟩
  |tg E l=>obtain⟨_,_,_,_,cells,h,_⟩:=r;exact⟨_,h⟩
  |mapR ag ks es=>obtain⟨⟨en,cl,h,_⟩,_⟩:=r;exact⟨_,h⟩
  |bag sz q=>obtain⟨l,_,_,_,cells,E,fr,h,_⟩:=r;exact⟨_,h⟩
  |mapq ag ks q=>obtain⟨es,_,⟨en,cl,h,_⟩,_⟩:=r;exact⟨_,h⟩
  |vwr cs n opn=>obtain⟨_,_,cells,E,fr,h,_⟩:=r;exact⟨_,h⟩
 obtain⟨x,hx⟩:=this;exact(Array.getElem?_eq_some_iff.1 hx).1
def O5:LO->LO->Prop
 | .row sz n f wr,.row sz' n' f' wr' =>sz=sz' /\n=n' /\wr=wr' /\∀i,i<n->f i=f' i
 | .gr sz n f,.gr sz' n' f' =>sz=sz' /\n=n' /\∀i,i<n->f i=f' i
 |a,b=>a=b
theorem w9.eqv{μ:d5}{p:Pl}{b:Option Obj}{o o' :LO}(e:O5 o o')(r:w9 μ p b o):w9 μ p b o' :=by
 cases o<;>cases o' <;>simp only[O5,reduceCtorEq] at e
 case var.var=>cases e;exact r
 case map.map=>cases e;exact r
 case mapO.mapO=>cases e;exact r
 case mapP.mapP=>cases e;exact r
 case sit.sit=>cases e;exact r
 case bld.bld=>cases e;exact r
 case pm.pm=>cases e;exact r
 case vw.vw=>cases e;exact r
 case mit.mit=>cases e;exact r
 case tg.tg=>cases e;exact r
 case mapR.mapR=>cases e;exact r
 case vwr.vwr=>cases e;exact r
 case bag.bag=>cases e;exact r
 case mapq.mapq=>cases e;exact r
 case row.row=>
  obtain⟨rfl,rfl,rfl,hf⟩:=e;obtain⟨h1,h2,cells,E,fr,h3,h4,h5,h6⟩:=r;exact⟨h1,h2,cells,E,fr,h3,h4,h5,λi hi=>by rw[<-hf i hi];exact h6 i hi⟩
 case gr.gr=>
  obtain⟨rfl,rfl,hf⟩:=e;obtain⟨h1,h2,cells,E,fr,h3,h4,h5,h6⟩:=r;exact⟨h1,h2,cells,E,fr,h3,h4,h5,λi hi=>by rw[<-hf i hi];exact h6 i hi⟩
theorem O5.void{o o' :LO}(e:O5 o o')(h:o.void):o'.void:=by
 cases o<;>cases o' <;>simp only[O5,reduceCtorEq] at e<;>first|exact h|(simp only[LO.void] at h⊢;omega)|(cases e;exact h)
theorem O5.wr{o o' :LO}(e:O5 o o'):o.wr=o'.wr:=by
 cases o<;>cases o' <;>simp only[O5,reduceCtorEq] at e
 case var.var=>rfl
 case map.map=>rfl
 case mapO.mapO=>rfl
 case mapP.mapP=>rfl
 case sit.sit=>rfl
 case bld.bld=>rfl
 case pm.pm=>rfl
 case vw.vw=>rfl
 case mit.mit=>rfl
 case tg.tg=>rfl
 case mapR.mapR=>rfl
 case vwr.vwr=>rfl
 case bag.bag=>rfl
 case mapq.mapq=>rfl
 case row.row=>exact e.2.2.1
 case gr.gr=>rfl
abbrev u6:=List (Nat×LO)
abbrev i9:=List (Nat×Option LO)
def i9.has(up:i9)(c:Nat):Bool:=up.any (·.1==c)
theorem i9.has_iff{up:i9}{c:Nat}:up.has c=true↔∃o,(c,o)∈up:=by
 simp only[i9.has,List.any_eq_true,beq_iff_eq];exact⟨λ⟨x,hx,e⟩=>⟨x.2,by subst e;exact hx⟩,λ⟨o,h⟩=>⟨(c,o),h,rfl⟩⟩
structure M6(μ:d5)(pre:u6)(w:World):Prop where
 obj' :∀c o,(c,o)∈pre->(μ c=none/\o.void)\/∃p,μ c=some p/\w9 μ p w.heap[p.rb]? o
 sep:∀c o c' o' p p',(c,o)∈pre->(c',o')∈pre->c≠c' ->(o.wr=true\/o'.wr=true)->μ c=some p->μ c' =some p' ->p.rb≠p'.rb
 fro:∀b cs,μ.fro b=some cs->∃E fr,w.heap[b]?=some (.cells cs E fr)
 frs:∀c o p,(c,o)∈pre->o.wr=true->μ c=some p->μ.fro p.rb=none
 tab:a0d μ.fro
theorem M6.obj{μ:d5}{pre:u6}{w:World}(h:M6 μ pre w)(c:Nat)(o:LO)(hm:(c,o)∈pre)(hv:¬o.void:=by exact id):∃p,μ c=some p/\w9 μ p w.heap[p.rb]? o:=
 (h.obj' c o hm).resolve_left (λx=>hv x.2)
def a8j(μ:d5)(pre:u6)(w:World):Prop:=
 (∀b cs,μ.fro b=some cs->b<w.heap.size)/\∀c o p,(c,o)∈pre->o.wr=true->μ c=some p->μ.fro p.rb=none
theorem M6.froOK{μ:d5}{pre:u6}{w:World}(h:M6 μ pre w):a8j μ pre w:=
 ⟨λb cs hb=>by obtain⟨E,fr,hx⟩:=h.fro b cs hb;exact(Array.getElem?_eq_some_iff.1 hx).1,h.frs⟩
structure A9(μ:d5)(w:World)(pre:u6)(up:i9)(μ' :d5)(w' :World):Prop where
 ext:D7 μ μ'
 dom:∀c p,μ' c=some p->μ c=some p\/(up.has c=true/\μ c=none)
 os:w'.os=w.os
 tape:w'.tape=w.tape
 output:w'.output=w.output
 draws:b09=true->w.drawn<=w'.drawn
 grow:w.heap.size<=w'.heap.size
 keep:∀b,b<w.heap.size->(∀c o p,(c,o)∈pre->o.wr=true->up.has c=true->μ c=some p->p.rb≠b)->w'.heap[b]?=w.heap[b]?
 obj:∀c o,(c,some o)∈up->(μ' c=none/\o.void)\/∃p,μ' c=some p/\w9 μ' p w'.heap[p.rb]? o
 place:∀c o p,(c,some o)∈up->μ' c=some p->w.heap.size<=p.rb\/∃c0 o0 p0,(c0,o0)∈pre/\o0.wr=true/\up.has c0=true/\μ c0=some p0/\p0.rb=p.rb
 sep:∀c o c' o' p p',(c,some o)∈up->(c',some o')∈up->c≠c' ->(o.wr=true\/o'.wr=true)->μ' c=some p->μ' c' =some p' ->p.rb≠p'.rb
 frn:∀b cs,μ'.fro b=some cs->μ.fro b=some cs\/((∃E fr,w'.heap[b]?=some (.cells cs E fr))/\
  (w.heap.size<=b\/∃c0 o0 p0,(c0,o0)∈pre/\o0.wr=true/\up.has c0=true/\μ c0=some p0/\p0.rb=b))
 frs:a8j μ pre w->∀c o p,(c,some o)∈up->o.wr=true->μ' c=some p->μ'.fro p.rb=none
def b4g(μ:d5)(pre:u6)(up:i9):Prop:=∀c,up.has c=true->(∃o,(c,o)∈pre/\o.wr=true)\/μ c=none
def a3p(φ:K5)(h:Option Obj)(off:Nat)(cs:List LV):Prop:=∃cells E fr vs,h=some (.cells cells E fr)/\off+cs.length<=cells.size/\(∀o,o<cells.size->¬(fr.1<=o/\o<fr.2))/\A3 φ cs vs/\I4 cells off vs/\∀v∈vs,v.oneCell' =true
theorem a3p.mono{φ φ' :K5}{h:Option Obj}{off:Nat}{cs:List LV}(hf:∀b c,φ b=some c->φ' b=some c)(r:a3p φ h off cs):a3p φ' h off cs:=by
 obtain⟨cells,E,fr,vs,h1,h2,h3,h4,h5⟩:=r;exact⟨cells,E,fr,vs,h1,h2,h3,h4.mono hf,h5⟩
def V7{α:Type}(opn:List (α×Nat))(k:α):Prop:=∃s,(k,s)∈opn
def D3(μ:d5)(w:World)(p:Pl):LO->Prop
 | .pm _ _ es opn=>∃entries clock,w.heap[p.rb]?=some (.map entries clock)/\(∀(i j:Nat) (m m' :MapEntry) (b o o' :Nat),entries.toList[i]?=some m->entries.toList[j]?=some m' ->m.val=.pointer (some ⟨b,o,none⟩)->m'.val=.pointer (some ⟨b,o',none⟩)->i=j)/\es.Pairwise (λa b=>B0 a.1 b.1=false/\a.1≠b.1)/\
   F2 (λ(e:LV×List LV) (m:MapEntry)=>V7 opn e.1\/∃b o,m.val=.pointer (some ⟨b,o,none⟩)/\a3p μ.fro w.heap[b]? o e.2) es entries.toList
 | .vw cs ag ks n W opn=>∃cells E fr,w.heap[p.rb]?=some (.cells cells E fr)/\(∀i,i<n->V7 opn i\/(W i=none/\cells[p.off+cs.length+i]?=some (.map none))\/∃b es,cells[p.off+cs.length+i]?=some (.map (some b))/\W i=some es/\M_ μ w.heap[b]? ag ks es)/\
   ∀i j b,i<n->j<n->cells[p.off+cs.length+i]?=some (.map (some b))->cells[p.off+cs.length+j]?=some (.map (some b))->i=j
 | .mit c ag ks es cur rest=>∃q since seen stepped entries clock RS,μ c=some q/\w.heap[p.rb]?=some (.mapIter (some q.rb) since seen stepped)/\w.heap[q.rb]?=some (.map entries clock)/\
   F2 (U1 μ) es entries.toList/\(entries.toList.map (·.born)).Nodup/\(∀e∈entries.toList,e.born<clock)/\(∀e∈es,D9 ag ks e.1=true)/\(∀e∈entries.toList,e.born<since)/\clock=stepped/\
   RS.Perm (entries.toList.filter λe=>!seen.contains e.born)/\F2 (U1 μ) rest RS/\∀e,cur=some e->∃st m,seen.back?=some st/\entries.find? (·.born==st)=some m/\U1 μ e m
 |_=>True
def s9(μ:d5)(w:World)(p:Pl):LO->Nat->Prop
 | .pm _ _ es opn,b=>∃(entries:Array MapEntry) (clock:Nat) (i:Nat) (e:LV×List LV) (m:MapEntry) (o:Nat),w.heap[p.rb]?=some (.map entries clock)/\es[i]?=some e/\entries.toList[i]?=some m/\m.val=.pointer (some ⟨b,o,none⟩)/\¬V7 opn e.1
 | .vw cs _ _ n _ opn,b=>∃cells E fr i,w.heap[p.rb]?=some (.cells cells E fr)/\i<n/\cells[p.off+cs.length+i]?=some (.map (some b))/\¬V7 opn i
 | .mit c _ _ _ _ _,b=>∃q,μ c=some q/\q.rb=b
 |_,_=>False
def LO.plain:LO->Bool
 | .pm _ _ _ _| .vw _ _ _ _ _ _| .mit _ _ _ _ _ _=>false
 |_=>true
theorem D3.plain{μ:d5}{w:World}{p:Pl}{o:LO}(h:o.plain=true):D3 μ w p o:=by cases o<;>first|trivial|simp[LO.plain] at h
theorem s9.plain{μ:d5}{w:World}{p:Pl}{o:LO}{b:Nat}(h:o.plain=true):¬s9 μ w p o b:=by cases o<;>first|exact id|simp[LO.plain] at h
theorem F2.get1{α β:Type}{R:α->β->Prop}{l:List α}{m:List β}(h:F2 R l m):∀{i:Nat} {a:α} {b:β},l[i]?=some a->m[i]?=some b->R a b:=by
 induction h with
 |nil=>intro i a b h;simp at h
 |cons x _ ih=>
  intro i a b ha hb;cases i with
  |zero=>simp at ha hb;subst ha;subst hb;exact x
  |succ i=>simp at ha hb;exact ih ha hb
theorem F2.len{α β:Type}{R:α->β->Prop}{l:List α}{m:List β}(h:F2 R l m):l.length=m.length:=by
 induction h with
 |nil=>rfl
 |cons _ _ ih=>simp[ih]
theorem F2.of_get{α β:Type}{R:α->β->Prop}:∀{l:List α} {m:List β},l.length=m.length->(∀(i:Nat) (a:α) (b:β),l[i]?=some a->m[i]?=some b->R a b)->F2 R l m
 |[],[],_,_=> .nil
 |[],_::_,h,_=>by simp at h
 |_::_,[],h,_=>by simp at h
 |a::l,b::m,h,g=> .cons (g 0 a b (by simp) (by simp)) (F2.of_get (by simpa using h) λi x y hx hy=>g (i+1) x y (by simpa using hx) (by simpa using hy))
theorem D3.keep{μ μ' :d5}{w w' :World}{p:Pl}{o:LO}(r:D3 μ w p o)(e:D7 μ μ')(h1:w'.heap[p.rb]?=w.heap[p.rb]?)(h2:∀b,s9 μ w p o b->w'.heap[b]?=w.heap[b]?):D3 μ' w' p o:=by
 cases o with
 |pm ag ks es opn=>
  obtain⟨en,cl,k1,k2,k3,k4⟩:=r;refine⟨en,cl,h1.trans k1,k2,k3,F2.of_get k4.len λi a m ha hm=>?_⟩;rcases k4.get1 ha hm with h|⟨b,o,hb,hin⟩
  ·exact .inl h
  ·by_cases ho:V7 opn a.1
   ·exact .inl ho
   ·exact .inr ⟨b,o,hb,by rw[h2 b ⟨en,cl,i,a,m,o,k1,ha,hm,hb,ho⟩];exact hin.mono e.fro⟩
 |vw cs ag ks n W opn=>
  obtain⟨cells,E,fr,k1,k2,k3⟩:=r;refine⟨cells,E,fr,h1.trans k1,λi hi=>?_,k3⟩;rcases k2 i hi with h|h|⟨b,es,hb,hw,hin⟩
  ·exact .inl h
  ·exact .inr (.inl h)
  ·by_cases ho:V7 opn i
   ·exact .inl ho
   ·exact .inr (.inr ⟨b,es,hb,hw,by rw[h2 b ⟨cells,E,fr,i,k1,hi,hb,ho⟩];exact hin.mono e.fro⟩)
 |mit c ag ks es cur rest=>
  obtain⟨q,si,se,st,en,cl,RS,k1,k2,k3,k4,k5,k6,k7,k8,k9,k10,k11,k12⟩:=r;have em:∀a b,U1 μ a b->U1 μ' a b:=λa b ⟨x,y⟩=>⟨x.mono e.fro,y.mono e.fro⟩
  refine⟨q,si,se,st,en,cl,RS,e.loc _ _ k1,h1.trans k2,(h2 q.rb ⟨q,k1,rfl⟩).trans k3,k4.mono em,k5,k6,k7,k8,k9,k10,k11.mono em,λx hx=>?_⟩;obtain⟨s,m,g1,g2,g3⟩:=k12 x hx;exact⟨s,m,g1,g2,em _ _ g3⟩
 |_=>trivial
theorem s9.back{μ μ' :d5}{w w' :World}{p:Pl}{o:LO}{b:Nat}(r:D3 μ w p o)(e:D7 μ μ')(h1:w'.heap[p.rb]?=w.heap[p.rb]?)(h:s9 μ' w' p o b):s9 μ w p o b:=by
 cases o with
 |pm ag ks es opn=>
  obtain⟨en,cl,i,x,m,o,k1,k2⟩:=h;exact⟨en,cl,i,x,m,o,h1.symm.trans k1,k2⟩
 |vw cs ag ks n W opn=>
  obtain⟨cells,E,fr,i,k1,k2⟩:=h;exact⟨cells,E,fr,i,h1.symm.trans k1,k2⟩
 |mit c ag ks es cur rest=>
  obtain⟨q,k1,k2⟩:=h;obtain⟨q',_,_,_,_,_,_,k3,_⟩:=r;have:=e.loc _ _ k3;rw[k1] at this;exact⟨q',k3,by rw[<-Option.some.inj this];exact k2⟩
 |_=>exact h
theorem s9.lt{μ:d5}{w:World}{p:Pl}{o:LO}{b:Nat}(r:D3 μ w p o)(h:s9 μ w p o b):b<w.heap.size:=by
 cases o with
 |pm ag ks es opn=>
  obtain⟨en,cl,i,x,m,o,k1,k2,k3,k4,k5⟩:=h;obtain⟨en',cl',g1,_,_,g4⟩:=r;rw[k1] at g1;cases g1;rcases g4.get1 k2 k3 with h|⟨b',o',hb,cells,E,fr,vs,hc,_⟩
  ·exact absurd h k5
  ·rw[k4] at hb;cases hb;exact(Array.getElem?_eq_some_iff.1 hc).1
 |vw cs ag ks n W opn=>
  obtain⟨cells,E,fr,i,k1,k2,k3,k4⟩:=h;obtain⟨cells',E',fr',g1,g2,_⟩:=r;rw[k1] at g1;cases g1;rcases g2 i k2 with h|⟨_,h⟩|⟨b',es,hb,_,⟨⟨en,cl,hc,_⟩,_⟩⟩
  ·exact absurd h k4
  ·rw[k3] at h;cases h
  ·rw[k3] at hb;cases hb;exact(Array.getElem?_eq_some_iff.1 hc).1
 |mit c ag ks es cur rest=>
  obtain⟨q,k1,rfl⟩:=h;obtain⟨q',_,_,_,en,cl,_,k3,_,k4,_⟩:=r;rw[k1] at k3;cases k3;exact(Array.getElem?_eq_some_iff.1 k4).1
 |_=>exact h.elim
structure D2(μ:d5)(pre:u6)(w:World):Prop where
 obj' :∀c o,(c,o)∈pre->(μ c=none/\o.void)\/∃p,μ c=some p/\w9 μ p w.heap[p.rb]? o
 sep:∀c o c' o' p p',(c,o)∈pre->(c',o')∈pre->c≠c' ->(o.wr=true\/o'.wr=true)->μ c=some p->μ c' =some p' ->p.rb≠p'.rb
 fro:∀b cs,μ.fro b=some cs->∃E fr,w.heap[b]?=some (.cells cs E fr)
 frs:∀c o p,(c,o)∈pre->o.wr=true->μ c=some p->μ.fro p.rb=none
 tab:a0d μ.fro
 xok:∀c o p,(c,o)∈pre->μ c=some p->D3 μ w p o
 xsep:∀c o p b c' o' p',(c,o)∈pre->μ c=some p->s9 μ w p o b->(c',o')∈pre->μ c' =some p' ->p'.rb≠b/\(c≠c' ->¬s9 μ w p' o' b)
 xfrs:∀c o p b,(c,o)∈pre->μ c=some p->s9 μ w p o b->μ.fro b=none
theorem D2.zero{μ:d5}{pre:u6}{w:World}(h:D2 μ pre w):M6 μ pre w:=⟨h.obj',h.sep,h.fro,h.frs,h.tab⟩
theorem D2.obj{μ:d5}{pre:u6}{w:World}(h:D2 μ pre w)(c:Nat)(o:LO)(hm:(c,o)∈pre)(hv:¬o.void:=by exact id):∃p,μ c=some p/\w9 μ p w.heap[p.rb]? o:=
 (h.obj' c o hm).resolve_left (λx=>hv x.2)
def X7(μ:d5)(pre:u6)(w:World):Prop:=
 (∀b cs,μ.fro b=some cs->b<w.heap.size)/\(∀c o p,(c,o)∈pre->o.wr=true->μ c=some p->μ.fro p.rb=none)/\∀c o p b,(c,o)∈pre->μ c=some p->s9 μ w p o b->μ.fro b=none
theorem D2.froOK{μ:d5}{pre:u6}{w:World}(h:D2 μ pre w):X7 μ pre w:=
 ⟨λb cs hb=>by obtain⟨E,fr,hx⟩:=h.fro b cs hb;exact(Array.getElem?_eq_some_iff.1 hx).1,h.frs,h.xfrs⟩
theorem X7.zero{μ:d5}{pre:u6}{w:World}(h:X7 μ pre w):a8j μ pre w:=⟨h.1,h.2.1⟩
def I5(μ:d5)(w:World)(pre:u6)(up:i9)(b:Nat):Prop:=∃c o p,(c,o)∈pre/\o.wr=true/\up.has c=true/\μ c=some p/\(p.rb=b\/s9 μ w p o b)
structure y0(μ:d5)(w:World)(pre:u6)(up:i9)(μ' :d5)(w' :World):Prop where
 ext:D7 μ μ'
 dom:∀c p,μ' c=some p->μ c=some p\/(up.has c=true/\μ c=none)
 os:w'.os=w.os
 tape:w'.tape=w.tape
 output:w'.output=w.output
 draws:b09=true->w.drawn<=w'.drawn
 grow:w.heap.size<=w'.heap.size
 keep:∀b,b<w.heap.size->¬I5 μ w pre up b->w'.heap[b]?=w.heap[b]?
 obj:∀c o,(c,some o)∈up->(μ' c=none/\o.void)\/∃p,μ' c=some p/\w9 μ' p w'.heap[p.rb]? o
 place:∀c o p,(c,some o)∈up->μ' c=some p->w.heap.size<=p.rb\/I5 μ w pre up p.rb
 sep:∀c o c' o' p p',(c,some o)∈up->(c',some o')∈up->c≠c' ->(o.wr=true\/o'.wr=true)->μ' c=some p->μ' c' =some p' ->p.rb≠p'.rb
 frn:∀b cs,μ'.fro b=some cs->μ.fro b=some cs\/((∃E fr,w'.heap[b]?=some (.cells cs E fr))/\(w.heap.size<=b\/I5 μ w pre up b))
 frs:X7 μ pre w->∀c o p,(c,some o)∈up->o.wr=true->μ' c=some p->μ'.fro p.rb=none
 xok:∀c o p,(c,some o)∈up->μ' c=some p->D3 μ' w' p o
 xplace:∀c o p b,(c,some o)∈up->μ' c=some p->s9 μ' w' p o b->w.heap.size<=b\/I5 μ w pre up b
 xsep:∀c o p b c' o' p',(c,some o)∈up->μ' c=some p->s9 μ' w' p o b->(c',some o')∈up->μ' c' =some p' ->p'.rb≠b/\(c≠c' ->¬s9 μ' w' p' o' b)
 xfrs:X7 μ pre w->∀c o p b,(c,some o)∈up->μ' c=some p->s9 μ' w' p o b->μ'.fro b=none
def i9.plain(up:i9):Bool:=up.all λx=>match x.2 with|some o=>o.plain|none=>true
theorem i9.plain_at{up:i9}(h:up.plain=true){c:Nat}{o:LO}(hm:(c,some o)∈up):o.plain=true:=by
 simpa using List.all_eq_true.1 h _ hm
theorem A9.to{μ μ' :d5}{w w' :World}{pre:u6}{up:i9}(d:A9 μ w pre up μ' w')(h:up.plain=true):y0 μ w pre up μ' w' where
 ext:=d.ext
 dom:=d.dom
 os:=d.os
 tape:=d.tape
 output:=d.output
 draws:=d.draws
 grow:=d.grow
 keep:=λb hb hk=>d.keep b hb λc o p h1 h2 h3 h4 e=>hk ⟨c,o,p,h1,h2,h3,h4,.inl e⟩
 obj:=d.obj
 place:=λc o p h1 h2=>(d.place c o p h1 h2).imp id λ⟨c0,o0,p0,g1,g2,g3,g4,g5⟩=>⟨c0,o0,p0,g1,g2,g3,g4,.inl g5⟩
 sep:=d.sep
 frn:=λb cs hb=>(d.frn b cs hb).imp id λ⟨h1,h2⟩=>⟨h1,h2.imp id λ⟨c0,o0,p0,g1,g2,g3,g4,g5⟩=>⟨c0,o0,p0,g1,g2,g3,g4,.inl g5⟩⟩
 frs:=λhf=>d.frs hf.zero
 xok:=λc o p hm _=>D3.plain (i9.plain_at h hm)
 xplace:=λc o p b hm _ hx=>absurd hx (s9.plain (i9.plain_at h hm))
 xsep:=λc o p b c' o' p' hm _ hx=>absurd hx (s9.plain (i9.plain_at h hm))
 xfrs:=λ_ c o p b hm _ hx=>absurd hx (s9.plain (i9.plain_at h hm))
theorem A9.refl(μ:d5)(w:World)(pre:u6):A9 μ w pre [] μ w where
 ext:=D7.refl μ
 dom:=λ_ _ h=> .inl h
 os:=rfl
 tape:=rfl
 output:=rfl
 draws:=λ_=>Nat.le_refl _
 grow:=Nat.le_refl _
 keep:=λ_ _ _=>rfl
 obj:=λ_ _ h=>by cases h
 place:=λ_ _ _ h=>by cases h
 sep:=λ_ _ _ _ _ _ h=>by cases h
 frn:=λ_ _ h=> .inl h
 frs:=λ_ _ _ _ h=>by cases h
theorem A9.drew(μ:d5)(w:World)(pre:u6):A9 μ w pre [] μ w.drew:={A9.refl μ w pre with draws:=λ_=>Nat.le_succ _}
theorem y0.refl(μ:d5)(w:World)(pre:u6):y0 μ w pre [] μ w:=(A9.refl μ w pre).to rfl
theorem y0.drew(μ:d5)(w:World)(pre:u6):y0 μ w pre [] μ w.drew:=(A9.drew μ w pre).to rfl
abbrev d7:=List (Option LO)
def d7.at(H:d7)(c:Nat):Option LO:=(H[c]?).getD none
def d7.put:d7->Nat->Option LO->d7
 |[],0,o=>[o]
 |[],n+1,o=>none::d7.put [] n o
 |_::r,0,o=>o::r
 |x::r,n+1,o=>x::d7.put r n o
def d7.upd(H:d7):i9->d7
 |[]=>H
 |(c,o)::r=>d7.upd (H.put c o) r
theorem d7.at_put:∀(H:d7) (c d:Nat) (o:Option LO),(H.put c o).at d=if d=c then o else H.at d
 |[],0,d,o=>by
  cases d with
  |zero=>simp[d7.put,d7.at]
  |succ d=>simp[d7.put,d7.at]
 |[],n+1,d,o=>by
  cases d with
  |zero=>simp[d7.put,d7.at]
  |succ d=>
   have:=d7.at_put [] n d o;simp only[d7.at,d7.put,List.getElem?_cons_succ] at this⊢;rw[this];simp
 |x::r,0,d,o=>by
  cases d with
  |zero=>simp[d7.put,d7.at]
  |succ d=>simp[d7.put,d7.at]
 |x::r,n+1,d,o=>by
  cases d with
  |zero=>simp[d7.put,d7.at]
  |succ d=>
   have:=d7.at_put r n d o;simp only[d7.at,d7.put,List.getElem?_cons_succ] at this⊢;rw[this];simp
theorem d7.at_upd_not:∀(up:i9) (H:d7) (c:Nat),up.has c=false->(H.upd up).at c=H.at c
 |[],_,_,_=>rfl
 |(d,o)::r,H,c,h=>by
  simp only[i9.has,List.any_cons,Bool.or_eq_false_iff,beq_eq_false_iff_ne] at h;show((H.put d o).upd r).at c=_;rw[d7.at_upd_not r (H.put d o) c (by simpa[i9.has] using h.2),d7.at_put,if_neg (Ne.symm h.1)]
theorem d7.at_upd_mem:∀(up:i9) (H:d7) (c:Nat),up.has c=true->(c,(H.upd up).at c)∈up
 |[],_,_,h=>by simp[i9.has] at h
 |(d,o)::r,H,c,h=>by
  show(c,((H.put d o).upd r).at c)∈(d,o)::r;cases hr:i9.has r c with
  |true=>exact List.mem_cons_of_mem _ (d7.at_upd_mem r (H.put d o) c hr)
  |false=>
   rw[d7.at_upd_not r _ c hr,d7.at_put];have hcd:d=c:=by simpa[i9.has,List.any_cons,show(r.any λx=>x.1==c)=false from hr] using h
   subst hcd;simp
structure H7(w0:World)(W:Nat->Prop)(μ:d5)(H:d7)(w:World):Prop where
 obj' :∀c o,H.at c=some o->(μ c=none/\o.void)\/∃p,μ c=some p/\w9 μ p w.heap[p.rb]? o
 sep:∀c o c' o' p p',H.at c=some o->H.at c' =some o' ->c≠c' ->(o.wr=true\/o'.wr=true)->μ c=some p->μ c' =some p' ->p.rb≠p'.rb
 os:w.os=w0.os
 tape:w.tape=w0.tape
 output:w.output=w0.output
 draws:b09=true->w0.drawn<=w.drawn
 grow:w0.heap.size<=w.heap.size
 keep:∀b,b<w0.heap.size->¬W b->w.heap[b]?=w0.heap[b]?
 own:∀c o p,H.at c=some o->o.wr=true->μ c=some p->W p.rb\/w0.heap.size<=p.rb
 fro:∀b cs,μ.fro b=some cs->∃E fr,w.heap[b]?=some (.cells cs E fr)
 frs:∀c o p,H.at c=some o->o.wr=true->μ c=some p->μ.fro p.rb=none
 tab:a0d μ.fro
 xok:∀c o p,H.at c=some o->μ c=some p->D3 μ w p o
 xsep:∀c o p b c' o' p',H.at c=some o->μ c=some p->s9 μ w p o b->H.at c' =some o' ->μ c' =some p' ->p'.rb≠b/\(c≠c' ->¬s9 μ w p' o' b)
 xown:∀c o p b,H.at c=some o->μ c=some p->s9 μ w p o b->W b\/w0.heap.size<=b
 xfrs:∀c o p b,H.at c=some o->μ c=some p->s9 μ w p o b->μ.fro b=none
theorem H7.obj{w0:World}{W:Nat->Prop}{μ:d5}{H:d7}{w:World}(s:H7 w0 W μ H w)(c:Nat)(o:LO)(ho:H.at c=some o)(hv:¬o.void:=by exact id):∃p,μ c=some p/\w9 μ p w.heap[p.rb]? o:=
 (s.obj' c o ho).resolve_left (λx=>hv x.2)
theorem H7.placed{w0:World}{W:Nat->Prop}{μ:d5}{H:d7}{w:World}(s:H7 w0 W μ H w){c:Nat}{o:LO}{p:Pl}(ho:H.at c=some o)(hp:μ c=some p):w9 μ p w.heap[p.rb]? o:=by
 rcases s.obj' c o ho with⟨h,_⟩|⟨q,hq,hok⟩
 ·rw[h] at hp;cases hp
 ·obtain rfl:=Option.some.inj (hq.symm.trans hp);exact hok
theorem M6.placed{μ:d5}{pre:u6}{w:World}(s:M6 μ pre w){c:Nat}{o:LO}{p:Pl}(ho:(c,o)∈pre)(hp:μ c=some p):w9 μ p w.heap[p.rb]? o:=by
 rcases s.obj' c o ho with⟨h,_⟩|⟨q,hq,hok⟩
 ·rw[h] at hp;cases hp
 ·obtain rfl:=Option.some.inj (hq.symm.trans hp);exact hok
theorem D2.placed{μ:d5}{pre:u6}{w:World}(s:D2 μ pre w){c:Nat}{o:LO}{p:Pl}(ho:(c,o)∈pre)(hp:μ c=some p):w9 μ p w.heap[p.rb]? o:=s.zero.placed ho hp
def d7.pre(H:d7)(foot:List Nat):u6:=foot.filterMap λc=>(H.at c).map λo=>(c,o)
theorem d7.mem_pre{H:d7}{foot:List Nat}{c:Nat}{o:LO}:(c,o)∈H.pre foot↔c∈foot/\H.at c=some o:=by
 simp only[d7.pre,List.mem_filterMap,Option.map_eq_some_iff,Prod.mk.injEq];constructor
 ·rintro⟨a,ha,o',ho,rfl,rfl⟩;exact⟨ha,ho⟩
 ·rintro⟨ha,ho⟩;exact⟨c,ha,o,ho,rfl,rfl⟩
theorem H7.pre{w0:World}{W:Nat->Prop}{μ:d5}{H:d7}{w:World}(s:H7 w0 W μ H w){pre:u6}(h:∀c o,(c,o)∈pre->H.at c=some o):D2 μ pre w where
 obj' :=λc o hc=>s.obj' c o (h c o hc)
 sep:=λc o c' o' p p' hc hc' =>s.sep c o c' o' p p' (h c o hc) (h c' o' hc')
 fro:=s.fro
 frs:=λc o p hc=>s.frs c o p (h c o hc)
 tab:=s.tab
 xok:=λc o p hc=>s.xok c o p (h c o hc)
 xsep:=λc o p b c' o' p' hc hp hx hc' =>s.xsep c o p b c' o' p' (h c o hc) hp hx (h c' o' hc')
 xfrs:=λc o p b hc=>s.xfrs c o p b (h c o hc)
theorem a9Q:∀(H:d7) (c:Nat) (o:Option LO),H.length<=(H.put c o).length/\c<(H.put c o).length
 |[],0,o=>by simp[d7.put]
 |[],n+1,o=>by have:=a9Q [] n o;simp only[d7.put,List.length_cons,List.length_nil] at this⊢;omega
 |_::r,0,o=>by simp[d7.put]
 |x::r,n+1,o=>by have:=a9Q r n o;simp only[d7.put,List.length_cons] at this⊢;omega
theorem a1X:∀(up:i9) (H:d7),H.length<=(H.upd up).length/\∀c,up.has c=true->c<(H.upd up).length
 |[],H=>⟨Nat.le_refl _,λc h=>by simp[i9.has] at h⟩
 |(d,o)::r,H=>by
  have h1:=a9Q H d o;have h2:=a1X r (H.put d o);refine⟨Nat.le_trans h1.1 h2.1,λc hc=>?_⟩;show c<((H.put d o).upd r).length;cases hr:i9.has r c with
  |true=>exact h2.2 c hr
  |false=>
   have hcd:d=c:=by simpa[i9.has,List.any_cons,show(r.any λx=>x.1==c)=false from hr] using hc
   subst hcd;exact Nat.lt_of_lt_of_le h1.2 h2.1
theorem H7.step{w0:World}{W:Nat->Prop}{μ μ' :d5}{H:d7}{w w' :World}{pre:u6}{up:i9}(s:H7 w0 W μ H w)
  (hp:∀c o,(c,o)∈pre->H.at c=some o) (d:y0 μ w pre up μ' w'):H7 w0 W μ' (H.upd up) w' :=by
 have apart:∀b c o p,I5 μ w pre up b->H.at c=some o->up.has c=false->μ c=some p->p.rb≠b/\¬s9 μ w p o b:=by
  rintro b c o p ⟨c0,o0,p0,h0,hw0,hu0,hm0,hb⟩ ho hn hpc;have hne:c0≠c:=λe=>by subst e;rw[hu0] at hn;cases hn
  rcases hb with rfl|hx
  ·exact⟨(s.sep c0 o0 c o p0 p (hp _ _ h0) ho hne (.inl hw0) hm0 hpc).symm,λhx=>(s.xsep c o p _ c0 o0 p0 ho hpc hx (hp _ _ h0) hm0).1 rfl⟩
  ·have:=s.xsep c0 o0 p0 b c o p (hp _ _ h0) hm0 hx ho hpc
   exact⟨this.1,this.2 hne⟩
 have old:∀c o p,H.at c=some o->up.has c=false->μ c=some p->w'.heap[p.rb]?=w.heap[p.rb]?:=λc o p ho hn hpc=>
  d.keep p.rb (s.placed ho hpc).lt λt=>(apart _ c o p t ho hn hpc).1 rfl
 have oldx:∀c o p b,H.at c=some o->up.has c=false->μ c=some p->s9 μ w p o b->w'.heap[b]?=w.heap[b]?:=λc o p b ho hn hpc hx=>
  d.keep b (s9.lt (s.xok c o p ho hpc) hx) λt=>(apart _ c o p t ho hn hpc).2 hx
 have at' :∀c o,(H.upd up).at c=some o->(up.has c=true/\(c,some o)∈up)\/(up.has c=false/\H.at c=some o):=by
  intro c o h;cases hc:up.has c with
  |true=>exact .inl ⟨rfl,by have:=d7.at_upd_mem up H c hc;rwa [h] at this⟩
  |false=>exact .inr ⟨rfl,by rwa [d7.at_upd_not up H c hc] at h⟩
 have back:∀c o p,H.at c=some o->up.has c=false->μ' c=some p->μ c=some p:=by
  intro c o p _ hn h;rcases d.dom c p h with h|⟨h,_⟩
  ·exact h
  ·rw[hn] at h;cases h
 have xback:∀c o p b,H.at c=some o->up.has c=false->μ c=some p->s9 μ' w' p o b->s9 μ w p o b:=λc o p b ho hn hpc hx=>
  s9.back (s.xok c o p ho hpc) d.ext (old c o p ho hn hpc) hx
 have far:∀b c' o' p',(w.heap.size<=b\/I5 μ w pre up b)->H.at c' =some o' ->up.has c' =false->μ c' =some p' ->p'.rb≠b/\¬s9 μ w p' o' b:=by
  intro b c' o' p' h ho' hn' hpc';rcases h with h|t
  ·have h1:=(s.placed ho' hpc').lt
   exact⟨λe=>by omega,λhx=>by have:=s9.lt (s.xok c' o' p' ho' hpc') hx;omega⟩
  ·exact apart b c' o' p' t ho' hn' hpc'
 have cold:∀b cs,μ.fro b=some cs->w'.heap[b]?=w.heap[b]?:=by
  intro b cs hb;obtain⟨E,fr,hx⟩:=s.fro b cs hb;refine d.keep b (Array.getElem?_eq_some_iff.1 hx).1 ?_;rintro⟨c0,o0,p0,h0,hw,h1,h2,rfl|h3⟩
  ·have:=s.frs c0 o0 p0 (hp _ _ h0) hw h2
   rw[hb] at this;cases this
  ·have:=s.xfrs c0 o0 p0 b (hp _ _ h0) h2 h3
   rw[hb] at this;cases this
 have hF:X7 μ pre w:=(s.pre hp).froOK;have towned:∀b,I5 μ w pre up b->W b\/w0.heap.size<=b:=by
  rintro b ⟨c0,o0,p0,h0,hw0,_,hm0,rfl|h3⟩
  ·exact s.own c0 o0 p0 (hp _ _ h0) hw0 hm0
  ·exact s.xown c0 o0 p0 b (hp _ _ h0) hm0 h3
 have owned:∀b,(w.heap.size<=b\/I5 μ w pre up b)->W b\/w0.heap.size<=b:=λb h=>h.elim (λh=> .inr (Nat.le_trans s.grow h)) (towned b);have notfro:∀c o p b cs,H.at c=some o->up.has c=false->μ c=some p->(p.rb=b/\o.wr=true\/s9 μ w p o b)->μ'.fro b=some cs->False:=by
  intro c o p b cs ho hn hpc hb hf;rcases d.frn b cs hf with h|⟨_,h⟩
  ·rcases hb with⟨rfl,hw⟩|hx
   ·rw[s.frs c o p ho hw hpc] at h;cases h
   ·rw[s.xfrs c o p b ho hpc hx] at h;cases h
  ·have:=far b c o p h ho hn hpc
   exact hb.elim (λx=>this.1 x.1) this.2
 refine⟨?_,?_,d.os.trans s.os,d.tape.trans s.tape,d.output.trans s.output,λh=>Nat.le_trans (s.draws h) (d.draws h),Nat.le_trans s.grow d.grow,?_,?_,?_,?_,s.tab.mono d.ext.fro,?_,?_,?_,?_⟩
 ·intro c o h
  rcases at' c o h with⟨_,hm⟩|⟨hn,ho⟩
  ·exact d.obj c o hm
  ·rcases s.obj' c o ho with⟨h1,h2⟩|⟨p,hpc,hok⟩
   ·cases hm:μ' c with
    |none=>exact .inl ⟨rfl,h2⟩
    |some p=>
     have:=back c o p ho hn hm;rw[h1] at this;cases this
   ·exact .inr ⟨p,d.ext.loc _ _ hpc,by rw[old c o p ho hn hpc];exact hok.mono d.ext⟩
 ·intro c o c' o' p p' h h' hne hw hpc hpc'
  rcases at' c o h with⟨_,hm⟩|⟨hn,ho⟩<;>rcases at' c' o' h' with⟨_,hm'⟩|⟨hn',ho'⟩
  ·exact d.sep c o c' o' p p' hm hm' hne hw hpc hpc'
  ·exact(far p.rb c' o' p' (d.place c o p hm hpc) ho' hn' (back c' o' p' ho' hn' hpc')).1.symm
  ·exact(far p'.rb c o p (d.place c' o' p' hm' hpc') ho hn (back c o p ho hn hpc)).1
  ·exact s.sep c o c' o' p p' ho ho' hne hw (back c o p ho hn hpc) (back c' o' p' ho' hn' hpc')
 ·intro b hb hW
  rw[<-s.keep b hb hW];refine d.keep b (Nat.lt_of_lt_of_le hb s.grow) (λt=>?_);rcases towned b t with h|h
  ·exact hW h
  ·omega
 ·intro c o p h hw hpc
  rcases at' c o h with⟨_,hm⟩|⟨hn,ho⟩
  ·exact owned _ (d.place c o p hm hpc)
  ·exact s.own c o p ho hw (back c o p ho hn hpc)
 ·intro b cs hb
  rcases d.frn b cs hb with h|⟨h,_⟩
  ·rw[cold b cs h];exact s.fro b cs h
  ·exact h
 ·intro c o p h hw hpc
  rcases at' c o h with⟨_,hm⟩|⟨hn,ho⟩
  ·exact d.frs hF c o p hm hw hpc
  ·cases hf:μ'.fro p.rb with
   |none=>rfl
   |some cs=>exact(notfro c o p _ cs ho hn (back c o p ho hn hpc) (.inl ⟨rfl,hw⟩) hf).elim
 ·intro c o p h hpc
  rcases at' c o h with⟨_,hm⟩|⟨hn,ho⟩
  ·exact d.xok c o p hm hpc
  ·have hpc0:=back c o p ho hn hpc
   exact(s.xok c o p ho hpc0).keep d.ext (old c o p ho hn hpc0) (λb hx=>oldx c o p b ho hn hpc0 hx)
 ·intro c o p b c' o' p' h hpc hx h' hpc'
  rcases at' c o h with⟨_,hm⟩|⟨hn,ho⟩<;>rcases at' c' o' h' with⟨_,hm'⟩|⟨hn',ho'⟩
  ·exact d.xsep c o p b c' o' p' hm hpc hx hm' hpc'
  ·have hpc0:=back c' o' p' ho' hn' hpc'
   have:=far b c' o' p' (d.xplace c o p b hm hpc hx) ho' hn' hpc0;exact⟨this.1,λ_ hx' =>this.2 (xback c' o' p' b ho' hn' hpc0 hx')⟩
  ·have hpc0:=back c o p ho hn hpc
   have hx0:=xback c o p b ho hn hpc0 hx;refine⟨λe=>(far p'.rb c o p (d.place c' o' p' hm' hpc') ho hn hpc0).2 (e▸hx0),λ_ hx' =>(far b c o p (d.xplace c' o' p' b hm' hpc' hx') ho hn hpc0).2 hx0⟩
  ·have hpc0:=back c o p ho hn hpc
   have hpc1:=back c' o' p' ho' hn' hpc';have:=s.xsep c o p b c' o' p' ho hpc0 (xback c o p b ho hn hpc0 hx) ho' hpc1;exact⟨this.1,λhne hx' =>this.2 hne (xback c' o' p' b ho' hn' hpc1 hx')⟩
 ·intro c o p b h hpc hx
  rcases at' c o h with⟨_,hm⟩|⟨hn,ho⟩
  ·exact owned _ (d.xplace c o p b hm hpc hx)
  ·have hpc0:=back c o p ho hn hpc
   exact s.xown c o p b ho hpc0 (xback c o p b ho hn hpc0 hx)
 ·intro c o p b h hpc hx
  rcases at' c o h with⟨_,hm⟩|⟨hn,ho⟩
  ·exact d.xfrs hF c o p b hm hpc hx
  ·have hpc0:=back c o p ho hn hpc
   have hx0:=xback c o p b ho hn hpc0 hx;cases hf:μ'.fro b with
   |none=>rfl
   |some cs=>exact(notfro c o p b cs ho hn hpc0 (.inr hx0) hf).elim
theorem O5.xok{o o' :LO}(e:O5 o o'){μ:d5}{w:World}{p:Pl}(r:D3 μ w p o):D3 μ w p o' :=by
 cases o<;>cases o' <;>simp only[O5,reduceCtorEq] at e<;>first|trivial|(cases e;exact r)
theorem O5.xtra{o o' :LO}(e:O5 o o'){μ:d5}{w:World}{p:Pl}{b:Nat}(r:s9 μ w p o' b):s9 μ w p o b:=by
 cases o<;>cases o' <;>simp only[O5,reduceCtorEq] at e<;>first|exact r.elim|(cases e;exact r)
theorem H7.weaken{w0:World}{W:Nat->Prop}{μ:d5}{H H' :d7}{w:World}(s:H7 w0 W μ H w)
  (h:∀c o',H'.at c=some o' ->∃o,H.at c=some o/\O5 o o'):H7 w0 W μ H' w where
 obj' :=λc o' hc=>by
  obtain⟨o,ho,e⟩:=h c o' hc;rcases s.obj' c o ho with⟨h1,h2⟩|⟨p,hp,hok⟩
  ·exact .inl ⟨h1,e.void h2⟩
  ·exact .inr ⟨p,hp,hok.eqv e⟩
 sep:=λc o' c' o2' p p' hc hc' hne hw=>by
  obtain⟨o,ho,e⟩:=h c o' hc;obtain⟨o2,ho2,e2⟩:=h c' o2' hc';exact s.sep c o c' o2 p p' ho ho2 hne (by rw[e.wr,e2.wr];exact hw)
 os:=s.os
 tape:=s.tape
 output:=s.output
 draws:=s.draws
 grow:=s.grow
 keep:=s.keep
 own:=λc o' p hc hw=>by
  obtain⟨o,ho,e⟩:=h c o' hc;exact s.own c o p ho (by rw[e.wr];exact hw)
 fro:=s.fro
 frs:=λc o' p hc hw=>by
  obtain⟨o,ho,e⟩:=h c o' hc;exact s.frs c o p ho (by rw[e.wr];exact hw)
 tab:=s.tab
 xok:=λc o' p hc hp=>by
  obtain⟨o,ho,e⟩:=h c o' hc;exact e.xok (s.xok c o p ho hp)
 xsep:=λc o' p b c' o2' p' hc hp hx hc' hp' =>by
  obtain⟨o,ho,e⟩:=h c o' hc;obtain⟨o2,ho2,e2⟩:=h c' o2' hc';have:=s.xsep c o p b c' o2 p' ho hp (e.xtra hx) ho2 hp';exact⟨this.1,λhne hx' =>this.2 hne (e2.xtra hx')⟩
 xown:=λc o' p b hc hp hx=>by
  obtain⟨o,ho,e⟩:=h c o' hc;exact s.xown c o p b ho hp (e.xtra hx)
 xfrs:=λc o' p b hc hp hx=>by
  obtain⟨o,ho,e⟩:=h c o' hc;exact s.xfrs c o p b ho hp (e.xtra hx)
end Go.Cn
