import Derived.Test.YtddgjfclpknkcaaGreatDoorCnW
import Derived.RangeFuncFrom
import Derived.OwnWalkIn
import Derived.Maps.RangeRun
import Derived.Sort.MapsRangeIn
import Derived.RangeFuncBox
import Derived.Shelf.SlSortCmp.NoneTotal
namespace Go.Cn
open Go Go.RowKit
theorem b0O{α:Type}:∀(q:Ask α) (w:World),w.drawn<=(w.ask q).2.drawn
  | .done _,_=>Nat.le_refl _
  | .ask what range k,w=>by
    unfold World.ask;show w.drawn<=(if(Question.extern what range).forced=true then w.ask (k 0) else _).2.drawn;split
    · exact b0O (k 0) w
    · exact Nat.le_trans (Nat.le_succ _) (b0O _ {w with drawn:=w.drawn+1})
theorem c7l(w:World)(c:Sys):w.drawn<=(w.sys c).2.drawn:=by
  have h:=b0O (Kernel.perform c w.os) w;unfold World.sys;split
  · exact Nat.le_refl _
  · rename_i r os w' e
    rw[e] at h;exact h
theorem c7r{p:Program}{w w' :World}{a:Addr}{u:TypeId}{k:Addr}{v:Value}{b:Bool}{l:List Addr}(h:w.viewStore p a u k v b=.ok (w',l)):w.drawn=w'.drawn:=by
  unfold World.viewStore at h;simp only[bind,Except.bind,pure,Except.pure,throw,throwThe,MonadExceptOf.throw] at h
  repeat' (split at h<;>try(cases h;done))
  all_goals first|(cases h;rfl)|cases h
theorem c01{p:Program}{w w' :World}{a:Addr}{v:Value}{b:Bool}{l:List Addr}(h:w.farStore p a v b=.ok (w',l)):w.drawn=w'.drawn:=by
  unfold World.farStore at h;split at h
  · split at h
    · rename_i r e
      cases h;exact c7r e
    · cases h
  · cases h
theorem c6x{P:Program}{α:Type}:∀(s:Sem α) (w w' :World) (x:α),s.run P w=.ok x w' ->w.drawn<=w'.drawn:=by
  intro s
  induction s with
  |pure a=>intro w w' x h;cases h;exact Nat.le_refl _
  |load m a k ih=>
    intro w w' x h;unfold Sem.run at h;split at h
    · exact ih _ _ _ _ h
    · split at h
      · exact ih _ _ _ _ h
      · cases h
  |store m a v k ih=>
    intro w w' x h;have key:(match w.cell? a with
      |some _=>if w.frozen? a then .halt (.unsupported (.unsafePointer "a write to bytes that a string shares")) w else k.run P (w.setCell a v)
      |none=>match w.farStore P a v (m==.atomic) with
        | .ok (w,_)=>k.run P w
        | .error h=> .halt h w)=Result.ok x w' ->w.drawn<=w'.drawn:=by
      intro h;split at h
      · split at h
        · cases h
        · exact ih (w.setCell a v) w' x h
      · split at h
        · rename_i w2 l e
          have:=ih w2 w' x h;rw[c01 e];exact this
        · cases h
    cases v
    case agg=>cases h
    case tuple=>cases h
    all_goals exact key h
  |new o k ih=>intro w w' x h;exact ih w.heap.size {w with heap:=w.heap.push o} w' x h
  |shape r k ih=>intro w w' x h;exact ih _ _ _ _ h
  |freeze a n k ih=>
    intro w w' x h;have:=ih (w.freeze a n) w' x h;have e:(w.freeze a n).drawn=w.drawn:=by unfold World.freeze;split<;>rfl
    omega
  |frozen a k ih=>intro w w' x h;exact ih _ _ _ _ h
  |getObj r k ih=>
    intro w w' x h;unfold Sem.run at h;split at h
    · cases h
    · exact ih _ _ _ _ h
    · cases h
  |setObj r o k ih=>
    intro w w' x h;unfold Sem.run at h;split at h
    · cases h
    · exact ih {w with heap:=w.heap.setIfInBounds r o} w' x h
    · cases h
  |choose q k ih=>
    intro w w' x h;unfold Sem.run at h;split at h
    · exact ih _ _ _ _ h
    · exact Nat.le_trans (Nat.le_succ _) (ih _ _ _ _ h)
  |sys c k ih=>intro w w' x h;exact Nat.le_trans (c7l w c) (ih _ _ _ _ h)
  |program k ih=>intro w w' x h;exact ih _ _ _ _ h
  |mark m k ih=>intro w w' x h;exact ih _ _ _ h
  |halt h=>intro w w' x h;cases h
section
variable {F:Fence}{n:Nat}{P:Program}(w:World){ops:Array Oper}{rest:List Oper}{o:Oper}{a:Act}{Q:Exit->Act->World->Prop}
theorem b9n(hg:o.guard=none)(m:Operand)(t:TypeId)(hop:o.op=Op.range t m)(k e:TypeId)(ht:P.underlying t=some (.map k e))(b:Nat)(es:Array MapEntry)(clock:Nat)
    (hm:a.eval m=.map (some b)) (hb:w.heap[b]?=some (.map es clock))
    (hK:wpListIn F n P ops Q rest (a.put o.dst (.pointer (some ⟨w.heap.size,0,none⟩))) (w.alloc (.mapIter (some b) clock #[] clock))):wpListIn F n P ops Q (o::rest) a w:=by
  refine wpListIn_plain hg λK' hK' =>?_;have hrun:(Instr.range t (.map (some b))).run P w=.ok (.pointer (some ⟨w.heap.size,0,none⟩)) (w.alloc (.mapIter (some b) clock #[] clock)):=by
    simp[Instr.range,Sem.run_bind,run_underlying ht,getObj,Sem.run,hb,Result.andThen,newObj]
  unfold Oper.wpIn;refine⟨by simp[Oper.about,hop],?_⟩;rw[Oper.semAt_plain F _ _ (by rw[hop];intro c hc';cases hc')];simp[execOp,hop,hm,hrun,Result.andThen];exact hK' _ _ hK
structure Rg(w:World)(b r:Nat)(es:Array MapEntry)(clock:Nat)(ds:List MapEntry):Prop where
  map:w.heap[b]?=some (.map es clock)
  it:w.heap[r]?=some (.mapIter (some b) clock (ds.map (·.born)).toArray clock)
  sub:∀d∈ds,d∈es.toList
  nd:(ds.map (·.born)).Nodup
theorem b9m(hg:o.guard=none)(it:Operand)(hop:o.op=Op.next it false)(b r:Nat)(es:Array MapEntry)(clock:Nat)(ds:List MapEntry)
    (hit:a.eval it=.pointer (some ⟨r,0,none⟩)) (h:Rg w b r es clock ds) (hold:∀x∈es.toList,x.born<clock) (hnd:(es.toList.map (·.born)).Nodup)
    (hDone:(∀x∈es.toList,x∈ds)->wpListIn F n P ops Q rest (a.put o.dst (.tuple #[.bool false])) w)
    (hMore:∀(x:MapEntry) (w' :World),x∈es.toList->Rg w' b r es clock (ds++[x])->w.grownBy w' (some r)->w.drawn<=w'.drawn->w'.heap.size=w.heap.size->
      (Instr.entry (.pointer (some ⟨r,0,none⟩))).run P w' =.ok (.tuple #[x.key,x.val]) w' ->wpListIn F n P ops Q rest (a.put o.dst (.tuple #[.bool true,x.key,x.val])) w'):
    wpListIn F n P ops Q (o::rest) a w:=by
  refine wpListIn_plain hg λK' hK' =>?_;unfold Oper.wpIn;refine⟨by simp[Oper.about,hop],?_⟩;rw[Oper.semAt_plain F _ _ (by rw[hop];intro c hc';cases hc')];have inj:∀x∈es.toList,∀y∈es.toList,x.born=y.born->x=y:=by
    have:∀(l:List MapEntry),(l.map (·.born)).Nodup->∀x∈l,∀y∈l,x.born=y.born->x=y:=by
      intro l
      induction l with
      |nil=>intro _ x hx;cases hx
      |cons z l ih=>
        intro hn x hx y hy e;rw[List.map_cons,List.nodup_cons] at hn;by_cases hxz:x=z
        · by_cases hyz:y=z
          · rw[hxz,hyz]
          · have hy' :=(List.mem_cons.1 hy).resolve_left hyz
            exact absurd (List.mem_map.2 ⟨y,hy',by rw[<-e,hxz]⟩) hn.1
        · have hx' :=(List.mem_cons.1 hx).resolve_left hxz
          by_cases hyz:y=z
          · exact absurd (List.mem_map.2 ⟨x,hx',by rw[e,hyz]⟩) hn.1
          · exact ih hn.2 x hx' y ((List.mem_cons.1 hy).resolve_left hyz) e
    exact this _ hnd
  rcases run_next_at (P:=P) w o.type r b clock clock (ds.map (·.born)).toArray es clock h.it h.map hold (Nat.le_refl _) with⟨h0,hrun⟩|⟨e,he,w1,hw1,hrun⟩
  · simp[execOp,hop,hit,hrun,Result.andThen]
    refine hK' _ _ (hDone λx hx=>?_);have hl:leftOf es (ds.map (·.born)).toArray=#[]:=Array.eq_empty_of_size_eq_zero h0;unfold leftOf at hl;rw[Array.filter_eq_empty_iff] at hl;have:=hl x (by simpa using hx);simp only[Bool.not_eq_true',Bool.not_eq_false,Array.contains_eq_mem,List.mem_toArray,decide_eq_true_eq,List.mem_map] at this;obtain⟨d,hd,e⟩:=this;rw[<-inj d (h.sub d hd) x hx e];exact hd
  · obtain⟨W',hW'⟩:∃W',W' =ChangeMaps.setBlock w1 r (.mapIter (some b) clock ((ds.map (·.born)).toArray.push e.born) clock):=⟨_,rfl⟩
    rw[<-hW'] at hrun;simp[execOp,hop,hit,hrun,Result.andThen];unfold leftOf at he;have he1:e∈es.toList:=by simp at he⊢;exact he.1
    have he2:e.born∉ds.map (·.born):=by
      have:¬((ds.map (·.born)).toArray.contains e.born=true):=by simp at he;simpa using he.2
      simpa using this
    have hr1:w1.heap[r]?=some (.mapIter (some b) clock (ds.map (·.born)).toArray clock):=by rcases hw1 with rfl|rfl<;>exact h.it
    have hb1:w1.heap[b]?=some (.map es clock):=by rcases hw1 with rfl|rfl<;>exact h.map
    have hne:b≠r:=λe=>by
      have h1:=h.it;rw[<-e,h.map] at h1;cases h1
    obtain⟨hlt,_⟩:=Array.getElem?_eq_some_iff.1 hr1;have hs:W'.heap[r]?=some (.mapIter (some b) clock ((ds.map (·.born)).toArray.push e.born) clock):=by
      rw[hW'];show(w1.heap.setIfInBounds r _)[r]?=_;rw[Array.getElem?_setIfInBounds_self_of_lt hlt]
    have ho:∀k,k≠r->W'.heap[k]?=w1.heap[k]?:=λk hk=>by
      rw[hW'];show(w1.heap.setIfInBounds r _)[k]?=_;rw[Array.getElem?_setIfInBounds_ne (Ne.symm hk)]
    have hw:w1.heap=w.heap:=by rcases hw1 with rfl|rfl<;>rfl
    have hdr:w.drawn<=W'.drawn:=by
      rw[hW'];rcases hw1 with rfl|rfl
      · exact Nat.le_refl _
      · exact Nat.le_succ _
    have hsz:W'.heap.size=w.heap.size:=by
      rw[hW'];show(w1.heap.setIfInBounds r _).size=_;rw[Array.size_setIfInBounds,hw]
    refine hK' _ _ (hMore e _ he1 ⟨by rw[ho b hne];exact hb1,by rw[hs];simp,λd hd=>?_,?_⟩ ⟨?_,?_,?_,by rw[hsz];exact Nat.le_refl _,λk hk hkr=>by rw[ho k (λe=>hkr (by rw[e])),hw]⟩ hdr hsz
      (run_entry_at _ r b clock (ds.map (·.born)).toArray es clock e hs (by rw[ho b hne];exact hb1) he1 hnd))
    · rcases List.mem_append.1 hd with hd|hd
      · exact h.sub d hd
      · simp only[List.mem_singleton] at hd;subst hd;exact he1
    · rw[List.map_append,List.nodup_append]
      refine⟨h.nd,by simp,λx hx y hy e' =>?_⟩;simp only[List.map_cons,List.map_nil,List.mem_singleton] at hy;subst hy;subst e';exact he2 hx
    all_goals (rw[hW'];rcases hw1 with rfl|rfl<;>rfl)
end
def b9q{β:Type}(B:Nat)(J:β->World->Prop):Prop:=
  ∀s W W' row,J s W->W.grownBy W' row->W.drawn<=W'.drawn->(∀r,row=some r->B<=r/\∃o:Obj,W.heap[r]?=some o/\o.isWalk=true)->J s W'
def a17{α:Type}(F:Fence)(n:Nat)(P:Program)(g:Nat)(lb:Array Value)(enc:α->Value)(S:List α->Prop)(N:Nat)(w:World):Prop:=
  ∀(l:Nat) (J:List α->World->Prop) (W:World),Below w.heap.size w W->b9q W.heap.size J->
    (∀pre x W1,J pre W1->pre.length<N->YieldAt F (n - 1) P l #[enc x] W1 λe W' =>e=.returned (.bool true)/\J (pre++[x]) W' /\KeepsWalks W1 W')->
    J [] W->
    CallsIn F n P g (#[.func (.yield l) #[] #[]]++lb) W λe W' =>(∃v,e=.returned v)/\∃xs,S xs/\J xs W'
def Q7{β:Type}(B:Nat)(I:β->World->Prop):Prop:=
  ∀s W W' row,I s W->W.grownBy W' row->W.drawn<=W'.drawn->(∀r,row=some r->B<=r/\∃o:Obj,W.heap[r]?=some o/\o.isCells=false)->I s W'
theorem Q7.putObj{β:Type}{B:Nat}{I:β->World->Prop}(h:Q7 B I){s:β}{W:World}{l:Nat}{o:Obj}(o' :Obj)(hs:I s W)(hB:B<=l)(hl:W.heap[l]?=some o)(ho:o.isCells=false):I s (W.putObj l o'):=
  h s W _ (some l) hs (grownBy_putObj' W l o') (Nat.le_refl _) (λr e=>by cases e;exact⟨hB,o,hl,ho⟩)
theorem Q7.alloc{β:Type}{B:Nat}{I:β->World->Prop}(h:Q7 B I){s:β}{W:World}(o:Obj)(hs:I s W):I s (W.alloc o):=
  h s W _ none hs (World.grownBy_alloc W o none) (Nat.le_refl _) (λr e=>by cases e)
theorem Q7.and{β:Type}{B:Nat}{I I' :β->World->Prop}(h:Q7 B I)(h' :Q7 B I'):Q7 B (λs W=>I s W/\I' s W):=λs W W' row hs hg hd hr=>⟨h s W W' row hs.1 hg hd hr,h' s W W' row hs.2 hg hd hr⟩
theorem OwnFrom.d{β:Type}{B:Nat}{I:β->World->Prop}(h:OwnFrom B I):Q7 B I:=λs W W' row hs hg _ hr=>h s W W' row hs hg hr
theorem b66{β:Type}(B n:Nat):Q7 B (λ(_:β) W=>n<=W.drawn):=λ_ _ _ _ hs _ hd _=>Nat.le_trans hs hd
section
variable {F:Fence}{n:Nat}{P:Program}
theorem b7H{α:Type}{g:Operand}{ps:Array Tmp}{assign body:Code}{Q:Exit->Act->World->Prop}{a:Act}{w:World}
    (hro:F.round=none) (h1:1<=n) {gf:Nat} {lb:Array Value} (hg:a.eval g=.func (.func gf) #[] lb) (hFg:F.fn gf) (eg:∀args w,(callFunc gf args).run P w=.ok (.enter gf args) w)
    {enc:α->Value} {S:List α->Prop} {N:Nat} {w0:World} (hseq:a17 F (n - 1) P gf lb enc S N w0) (hb0:Below w0.heap.size w0 w) (hps:ps.size=1)
    (I:List α->World->Prop) (hI:Q7 w.heap.size I) (h0:I [] w) (I1:List α->α->Act->World->Prop) (hI1:∀x a1,Q7 w.heap.size (λpre=>I1 pre x a1))
    (hassign:∀(l:Nat) (pre:List α) (x:α) (W:World),I pre W->pre.length<N->
      assign.wpIn (F.inRound l) (n - 1 - 1) P (Exit.then (λa1 W1=>I1 pre x a1 W1/\KeepsOthers W W1) (λ_ _ _=>False)) {tmps:=(ps.zip #[enc x]).foldl (λt (p,v)=>t.setIfInBounds p v) a.tmps,defers:=[]} W)
    (hbody:∀(l:Nat) (pre:List α) (x:α) (a1:Act) (W:World),I1 pre x a1 W->pre.length<N->
      body.wpIn (F.inRound l) (n - 1 - 1) P (λe _ W2=>e=.normal/\KeepsOthers W W2/\I (pre++[x]) W2) a1 W)
    (hdone:∀(D:Nat) (xs:List α) (W:World),w.heap.size<=D->S xs->I xs W->W.heap[D]?=some (.deferred (some []))->Q .normal {a with defers:={target:=.collected D,args:=#[]}::a.defers} W):
    (Code.rangeFunc g ps assign body).wpIn F n P Q a w:=by
  refine wpIn_rangeFunc ?_;intro fn hfn;rw[hro];obtain⟨rec,hrec⟩:∃rec:LoopState->Option Code->Loop,rec=λst pe=>{state:=st,pending:=pe,fn,tmps:=a.tmps,params:=ps,assign,body,defers:=w.heap.size}:=⟨_,rfl⟩
  obtain⟨W1,hW1⟩:∃W1,(w.alloc (.deferred (some []))).alloc (.loop (rec .ready none))=W1:=⟨_,rfl⟩
  have hL1:W1.heap[w.heap.size+1]?=some (.loop (rec .ready none)):=by
    rw[<-hW1];have:=World.alloc_heap_new (w.alloc (.deferred (some []))) (.loop (rec .ready none));rwa [World.size_alloc] at this
  have hK1:W1.heap[w.heap.size]?=some (.deferred (some [])):=by
    rw[<-hW1];exact(Below.heap_alloc _ _ _ (by simp)).trans (World.alloc_heap_new w _)
  have hI1' :I [] W1:=by rw[<-hW1];exact hI.alloc _ (hI.alloc _ h0)
  have hb1:Below w0.heap.size w0 W1:=by
    rw[<-hW1];exact hb0.trans ((((Below.refl _ w).alloc (Nat.le_refl _) _).alloc (by simp) _).mono hb0.size)
  refine⟨w.heap.size+1,[{target:=.collected w.heap.size,args:=#[]}],W1,{target:=.fn (.func gf) lb,args:=#[.func (.yield (w.heap.size+1)) #[] #[]]},W1,gf,
    #[.func (.yield (w.heap.size+1)) #[] #[]]++lb,W1,?_,?_,?_,?_,λ_=>h1,?_⟩
  · rw[<-hW1,hrec];exact run_enterLoop_outer _ _ _ _ _
  · simp only[resolve,hg]
    simp[go_sem]
  · intro f' hf';simp[Target.leads] at hf';subst hf';exact hFg
  · simp[invoke,go_sem,eg]
  · have hnw:∀{A B:World} {row:Option Nat},(∀r,row=some r->W1.heap.size<=r/\∃o:Obj,A.heap[r]?=some o/\o.isWalk=true)->(∀r,row=some r->w.heap.size<=r/\∃o:Obj,A.heap[r]?=some o/\o.isCells=false):=
      λhr r e=>by obtain⟨hB,o,ho,hw⟩:=hr r e;exact⟨by rw[<-hW1] at hB;simp at hB;omega,o,ho,Obj.not_cells_of_walk hw⟩
    refine(hseq (w.heap.size+1)
      (λpre W=>I pre W/\W.heap[w.heap.size+1]?=some (.loop (rec .ready none))/\W.heap[w.heap.size]?=some (.deferred (some [])))
      W1 hb1
      (λs A B row hs hg' hd' hr=>⟨hI s A B row hs.1 hg' hd' (hnw (B:=B) hr),(grownBy_keeps hg' (λr e=>(hr r e).2) hs.2.1 rfl).trans hs.2.1,(grownBy_keeps hg' (λr e=>(hr r e).2) hs.2.2 rfl).trans hs.2.2⟩)
      ?_ ⟨hI1',hL1,hK1⟩).mono ?_
    · rintro pre x W ⟨hi,hl,hk⟩ hlen
      have hy:=run_yield (P:=P) (args:=#[enc x]) hl (by rw[hrec];simp[hps]);rw[hrec] at hy;refine⟨fn,_,assign,body,hy,roundIn_of_wpIn hfn (wpIn_mono (hassign _ pre x W hi hlen) ?_)⟩;rintro e a1 W2 he;cases e with
      |normal=>
        obtain⟨hi1,hk2⟩:=he;have hl2:W2.heap[w.heap.size+1]?=some (.loop (rec .ready none)):=hk2.same _ _ hl rfl;have hd2:W2.heap[w.heap.size]?=some (.deferred (some [])):=hk2.same _ _ hk rfl;have hlt:w.heap.size+1<W2.heap.size:=(Array.getElem?_eq_some_iff.1 hl2).1;refine⟨_,run_beginRound hl2 (by rw[hrec]),?_⟩;have hl3:(W2.putObj (w.heap.size+1) (.loop {rec .ready none with state:=.busy})).heap[w.heap.size+1]?=some (.loop {rec .ready none with state:=.busy}):=World.putObj_heap_same hlt;have hk3:(W2.putObj (w.heap.size+1) (.loop {rec .ready none with state:=.busy})).heap[w.heap.size]?=some (.deferred (some [])):=(World.putObj_heap_other (by omega)).trans hd2;have hi2:I1 pre x a1 (W2.putObj (w.heap.size+1) (.loop {rec .ready none with state:=.busy})):=(hI1 x a1).putObj _ hi1 (by omega) hl2 rfl;refine wpIn_mono (hbody _ pre x a1 _ hi2 hlen) ?_;rintro e a3 W3 ⟨rfl,hk4,hi4⟩;have hl4:=hk4.same _ _ hl3 rfl;have hend:=run_endRound (P:=P) none hl4;refine⟨_,_,hend,rfl,⟨hI.putObj _ hi4 (by omega) hl4 rfl,?_,(World.putObj_heap_other (by omega)).trans (hk4.same _ _ hk3 rfl)⟩,?_⟩
        · rw[World.putObj_heap_same (Array.getElem?_eq_some_iff.1 hl4).1,hrec];rfl
        · exact((hk2.walks.trans (KeepsWalks.putObj _ hl2 rfl)).trans hk4.walks).trans (KeepsWalks.putObj _ hl4 rfl)
      |exit id=>exact he.elim
      |goto t=>exact he.elim
      |ret=>exact he.elim
      |panic chain=>exact he.elim
      |outgrown=>exact he.elim
    · rintro e W2 ⟨⟨v,rfl⟩,xs,hS,hi,hl,hk⟩
      exact⟨none,_,by have:=run_endLoop (P:=P) hl (by rw[hrec];simp);rw[hrec] at this;exact this,hdone _ xs _ (Nat.le_refl _) hS (hI.putObj _ hi (by omega) hl rfl) ((World.putObj_heap_other (by omega)).trans hk)⟩
def a16{β:Type}(B bx:Nat)(I:β->World->Prop):Prop:=
  ∀s W W' row,I s W->W.grownBy W' row->W.drawn<=W'.drawn->(∀r,row=some r->(B<=r/\∃o:Obj,W.heap[r]?=some o/\o.isCells=false)\/r=bx)->I s W'
theorem a16.putObj{β:Type}{B bx:Nat}{I:β->World->Prop}(h:a16 B bx I){s:β}{W:World}{l:Nat}{o:Obj}(o' :Obj)(hs:I s W)(hB:B<=l)(hl:W.heap[l]?=some o)(ho:o.isCells=false):I s (W.putObj l o'):=
  h s W _ (some l) hs (grownBy_putObj' W l o') (Nat.le_refl _) (λr e=>by cases e;exact .inl ⟨hB,o,hl,ho⟩)
theorem a16.alloc{β:Type}{B bx:Nat}{I:β->World->Prop}(h:a16 B bx I){s:β}{W:World}(o:Obj)(hs:I s W):I s (W.alloc o):=
  h s W _ none hs (World.grownBy_alloc W o none) (Nat.le_refl _) (λr e=>by cases e)
theorem a16.and{β:Type}{B bx:Nat}{I I' :β->World->Prop}(h:a16 B bx I)(h' :a16 B bx I'):a16 B bx (λs W=>I s W/\I' s W):=λs W W' row hs hg hd hr=>⟨h s W W' row hs.1 hg hd hr,h' s W W' row hs.2 hg hd hr⟩
end
def a8R(b r:Nat)(w:World):Nat:=
  match w.heap[b]?,w.heap[r]? with
  |some (.map es _),some (.mapIter _ _ seen _)=>es.size - seen.size
  |_,_=>0
theorem Rg.left{w:World}{b r:Nat}{es:Array MapEntry}{clock:Nat}{ds:List MapEntry}(h:Rg w b r es clock ds):a8R b r w=es.size - ds.length:=by
  simp[a8R,h.map,h.it]
theorem b2M{α β:Type}(f:α->β):∀(l:List α),(l.map f).Nodup->l.Nodup
  |[],_=>List.nodup_nil
  |a::l,h=>by
    rw[List.map_cons,List.nodup_cons] at h;exact List.nodup_cons.2 ⟨λhm=>h.1 (List.mem_map.2 ⟨a,hm,rfl⟩),b2M f l h.2⟩
theorem c2w(l:List MapEntry)(h:(l.map (·.born)).Nodup):∀(ds:List MapEntry),(ds.map (·.born)).Nodup->(∀d∈ds,d∈l)->ds.length<=l.length:=by
  intro ds hd hs;have h1:(ds.map (·.born)).length<=(l.map (·.born)).length:=hd.length_le_of_subset (λx hx=>by
    obtain⟨d,hd',rfl⟩:=List.mem_map.1 hx;exact List.mem_map.2 ⟨d,hs d hd',rfl⟩)
  simpa using h1
theorem Rg.len{w:World}{b r:Nat}{es:Array MapEntry}{clock:Nat}{ds:List MapEntry}(h:Rg w b r es clock ds)(hnd:(es.toList.map (·.born)).Nodup):ds.length<=es.size:=by
  have:=c2w es.toList hnd ds h.nd h.sub;simpa using this
theorem Rg.perm{w:World}{b r:Nat}{es:Array MapEntry}{clock:Nat}{ds:List MapEntry}(h:Rg w b r es clock ds)(hnd:(es.toList.map (·.born)).Nodup)(hall:∀x∈es.toList,x∈ds):ds.Perm es.toList:=by
  rw[List.perm_ext_iff_of_nodup (b2M _ _ h.nd) (b2M _ _ hnd)];exact λa=>⟨h.sub a,hall a⟩
theorem b7d{α β:Type}(f:α->β)(g:β->α)(h:∀a,g (f a)=a){l m:List α}(p:(l.map f).Perm (m.map f)):l.Perm m:=by
  have:=p.map g;rw[List.map_map,List.map_map,show(g ∘ f)=id from funext h,List.map_id,List.map_id] at this;exact this
theorem Rg.walks{w w' :World}{b r:Nat}{es:Array MapEntry}{clock:Nat}{ds:List MapEntry}(h:Rg w b r es clock ds)(hk:KeepsWalks w w'):Rg w' b r es clock ds:=
  ⟨hk.same b _ h.map rfl,hk.same r _ h.it rfl,h.sub,h.nd⟩
theorem b4z(W:World)(cs:List Value)(T:TypeId)(j:Nat)(u:Value)(h:cs[j]?=some u):(W.alloc (.cells cs.toArray T)).cell? ((⟨W.heap.size,0,none⟩:Addr).add j)=some u:=by
  have hnew:=World.alloc_heap_new W (.cells cs.toArray T);have e:((⟨W.heap.size,0,none⟩:Addr).add j)=⟨W.heap.size,j,none⟩:=by rw[a4T rfl,Nat.zero_add]
  rw[e];unfold World.cell?;simp only[hnew];simpa using h
theorem b9l{F:Fence}{n:Nat}{P:Program}(w:World){ops:Array Oper}{rest:List Oper}{o:Oper}{a:Act}{Q:Exit->Act->World->Prop}
    (hg:o.guard=none) (s x:Operand) (t:TypeId) (hop:o.op=Op.call {callee:=Callee.builtin Builtin.append,args:=#[s,x],argTypes:=#[t,t]})
    (base:Nat) (e:TypeId) (i:TypeInfo) (z:Value) (size bytes:Nat) (h1:P.underlying t=some (.slice e)) (h2:P.info? e=some i) (h3:i.zero=some z) (h4:i.size=size) (h5:i.bytes=bytes) (h6:z.cells.size=size) (h7:0<size)
    (v:Value) (k:Nat) (xs:List Value) (hs:a.eval s=v) (hown:w.ownsRow base e size v k xs) (ad:Addr) (m c:Nat) (news:List Value) (hx:a.eval x=.slice (some ad) m c) (hn:news.length=m * size)
    (hc:∀j u,news[j]?=some u->w.cell? (ad.add j)=some u) (h1c:∀u∈news,u.oneCell' =true) (b1:k+m<=maxLen) (b2:(k+m) * bytes<=140737488355328) (b3:base<=w.heap.size)
    (hK:∀v' w',w'.ownsRow base e size v' (k+m) (xs++news)->w.grownBy w' v.ownBlock->w.drawn<=w'.drawn->(v' =.slice none 0 0↔v=.slice none 0 0/\m=0)->wpListIn F n P ops Q rest (a.put o.dst v') w'):
    wpListIn F n P ops Q (o::rest) a w:=by
  refine wpListIn_plain hg λK hK' =>?_;obtain⟨v',w',hrun,r1,r2,r3⟩:=run_append_own (P:=P) w base t o.type e i z size bytes h1 h2 h3 h4 h5 h6 h7 v k xs hown ad m c news hn hc h1c b1 b2 b3;have hd:=c6x _ _ _ _ hrun;unfold Oper.wpIn;refine⟨?_,?_⟩
  · simp[Oper.about,hop,resolve,Target.leads,Sem.run_pure]
  · rw[Oper.semAt_plain F _ _ (by rw[hop];intro c hc';cases hc')]
    simp[execOp,hop,resolve,invoke,builtin,hs,hx,hrun,Result.andThen];exact hK' _ _ (hK v' w' r1 r2 hd r3)
section
open Go.Sort Go.Proofs
theorem b99(w w' :World)(h1:w'.os=w.os)(h2:w'.tape=w.tape)(h3:w'.output=w.output)(h4:w.drawn<=w'.drawn)(hs:w.heap.size<=w'.heap.size)(hk:∀b,b<w.heap.size->w'.heap[b]?=w.heap[b]?):∃q os,w' =grow (w.drewN q) os:=by
  refine⟨w'.drawn - w.drawn,w'.heap.extract w.heap.size w'.heap.size,?_⟩;have hh:w'.heap=w.heap++w'.heap.extract w.heap.size w'.heap.size:=by
    apply Array.ext_getElem?;intro i;rw[Array.getElem?_append];split
    · rename_i h;exact hk i h
    · rename_i h
      rw[Array.getElem?_extract];by_cases hi:i<w'.heap.size
      · rw[if_pos (by omega)];congr 1;omega
      · rw[Array.getElem?_eq_none (by omega),if_neg (by omega)]
  obtain⟨hp,t,d,o,u⟩:=w';simp only[grow,World.drewN] at *;subst h1;subst h2;subst h3;congr 1;omega
theorem b1H{α:Type}[Inhabited α](enc:α->List Value)(k:Nat)(hk:∀x,(enc x).length=k)(l:List α)(t:Nat)(ht:t<l.length * k):(l.flatMap enc)[t]?=some ((flatK enc k l.toArray)[t]!):=by
  rw[get_flatK _ _ _ t (by simpa using ht)];have k0:0<k:=by
    rcases Nat.eq_zero_or_pos k with h|h
    · subst h;simp at ht
    · exact h
  have key:∀(l:List α) (t:Nat),t<l.length * k->(l.flatMap enc)[t]?=(enc (l.getD (t / k) default))[t%k]?:=by
    intro l
    induction l with
    |nil=>intro t ht;simp at ht
    |cons a l ih=>
      intro t ht;simp only[List.length_cons,Nat.add_mul,Nat.one_mul] at ht;rw[List.flatMap_cons];by_cases h:t<k
      · rw[List.getElem?_append_left (by rw[hk];exact h),Nat.div_eq_of_lt h,Nat.mod_eq_of_lt h];rfl
      · rw[List.getElem?_append_right (by rw[hk];omega),hk,ih (t - k) (by omega)]
        have e1:t / k=(t - k) / k+1:=by
          have:=Nat.add_div_right (t - k) k0;rw[show t - k+k=t by omega] at this;exact this
        have e2:t%k=(t - k)%k:=by
          have:=Nat.add_mod_right (t - k) k;rw[show t - k+k=t by omega] at this;exact this
        rw[e1,e2];rfl
  rw[key l t ht];have h1:t / k<l.length:=by rw[Nat.div_lt_iff_lt_mul k0];exact ht
  have h2:t%k<(enc (l.getD (t / k) default)).length:=by rw[hk];exact Nat.mod_lt _ k0
  rw[List.getElem?_eq_getElem h2];congr 1;have e:(l.toArray)[t / k]! =l.getD (t / k) default:=by
    rw[List.getD_eq_getElem?_getD,List.getElem?_eq_getElem h1,getElem!_pos _ _ (by simpa using h1)];simp
  rw[e];exact(getElem!_pos (enc (l.getD (t / k) default)) (t%k) h2).symm
theorem b5S{α:Type}[Inhabited α]{enc:α->List Value}{k:Nat}(hk:∀x,(enc x).length=k){w:World}{base blk:Nat}{T:TypeId}{n cap:Nat}{l:List α}(h:w.ownsRow base T k (.slice (some ⟨blk,0,none⟩) n cap) l.length (l.flatMap enc)):
    HoldsK enc k w blk 0 l.toArray/\base<=blk/\blk<w.heap.size/\l.length<=cap/\n=l.length:=by
  rcases h.2 with⟨hv,_⟩|⟨g,cap',cur,hv,hb,hg,hc1,hc2,hs,ht⟩
  · cases hv
  · cases hv
    refine⟨?_,hb,(Array.getElem?_eq_some_iff.1 hg).1,hc1,rfl⟩;intro j hj;simp only[size_flatK,List.size_toArray] at hj;refine⟨?_,by simp[World.frozen?,hg]⟩;have h1:=b1H enc k hk l j hj;rw[<-ht,List.getElem?_take,if_pos hj] at h1;simp only[World.cell?,hg,Nat.zero_add,Option.isSome_none,Bool.false_eq_true,if_false,id];rw[<-h1];simp
def a8n{α:Type}[Inhabited α](enc:α->List Value)(k:Nat)(w w' :World)(v:Value)(L:List α):Prop:=
  (v=.slice none 0 0/\L=[])\/∃blk cap cells E fr,v=.slice (some ⟨blk,0,none⟩) L.length cap/\L.length<=cap/\w.heap.size<=blk/\w'.heap[blk]?=some (.cells cells E fr)/\∀i,i<L.length->I4 cells (i * k) (enc (L.getD i default))
theorem c66{α:Type}[Inhabited α]{enc:α->List Value}{k:Nat}(hk:∀x,(enc x).length=k)(k0:0<k){w w1 W:World}{base blk cap:Nat}{T:TypeId}{l L:List α}(hb0:w.heap.size<=base)
    (h:w1.ownsRow base T k (.slice (some ⟨blk,0,none⟩) l.length cap) l.length (l.flatMap enc)) (hl:L.length=l.length) (hne:l≠[]) {m:Nat} {os:Array Obj} (hW:W=sortWorldK enc k w1 blk 0 m L.toArray os):a8n enc k w W (.slice (some ⟨blk,0,none⟩) l.length cap) L:=by
  obtain⟨h1,h2,h3,h4,_⟩:=b5S hk h;have hH:HoldsK enc k W blk 0 L.toArray:=(show SWK enc k w1 blk 0 L.toArray W from⟨m,os,hW⟩).holds h3 h1 (by simp[hl]);have hlen:0<L.length:=by rw[hl];exact List.length_pos_iff.2 hne
  have hmul:0<L.length * k:=Nat.mul_pos hlen k0;have hc0:=(hH 0 (by simpa using hmul)).1;simp only[World.cell?] at hc0;have:∃cells E fr,W.heap[blk]?=some (.cells cells E fr):=by
    split at hc0
    · rename_i c E fr e;exact⟨c,E,fr,e⟩
    · cases hc0
  obtain⟨cells,E,fr,hcells⟩:=this;refine .inr ⟨blk,cap,cells,E,fr,by rw[hl],by omega,by omega,hcells,λi hi j v hv=>?_⟩;have hj:j<k:=by rw[<-hk (L.getD i default)];exact(List.getElem?_eq_some_iff.1 hv).1
  have hij:i * k+j<L.length * k:=by
    have:=Nat.mul_le_mul_right k (show i+1<=L.length from hi);rw[Nat.add_mul,Nat.one_mul] at this;omega
  have h5:=(hH (i * k+j) (by simpa using hij)).1;simp only[World.cell?,hcells,Option.isSome_none,Bool.false_eq_true,if_false,Nat.zero_add,id] at h5;rw[h5,<-b1H enc k hk L _ hij];have e1:(i * k+j) / k=i:=by rw[Nat.mul_comm,Nat.mul_add_div k0,Nat.div_eq_of_lt hj,Nat.add_zero]
  rw[b1H enc k hk L _ hij,get_flatK _ _ _ _ (by simpa using hij),e1];have e2:(i * k+j)%k=j:=by rw[Nat.mul_comm,Nat.mul_add_mod,Nat.mod_eq_of_lt hj]
  have e3:(L.toArray)[i]! =L.getD i default:=by
    rw[List.getD_eq_getElem?_getD,List.getElem?_eq_getElem hi,getElem!_pos _ _ (by simpa using hi)];simp
  rw[e2,e3,getElem!_pos _ _ (by rw[hk];exact hj),<-List.getElem?_eq_getElem (by rw[hk];exact hj)];exact hv
theorem b4u{α:Type}[Inhabited α](enc:α->List Value)(k:Nat)(w1:World)(blk off m:Nat)(d:Array α)(os:Array Obj)(B:Nat)(hB:B<=blk)(hs:B<=w1.heap.size):
    Below B w1 (sortWorldK enc k w1 blk off m d os)/\w1.drawn<=(sortWorldK enc k w1 blk off m d os).drawn:=by
  refine⟨⟨rfl,rfl,rfl,?_,λq hq=>?_⟩,Nat.le_add_right _ _⟩
  · show w1.heap.size<=((w1.heap.modify blk _)++os).size
    simp
  · show((w1.heap.modify blk _)++os)[q]?=w1.heap[q]?
    rw[Array.getElem?_append_left (by simp;omega),Array.getElem?_modify];rw[if_neg (by omega)]
end
def Z6{α:Type}(cf:α->α->Int)(l:List α):List α:=l.mergeSort λx y=>!(Go.Proofs.ltOf cf) y x
theorem b8H{α:Type}(cf:α->α->Int)(l:List α):(Z6 cf l).Perm l:=List.mergeSort_perm _ _
theorem b30{α:Type}(cf:α->α->Int)(l:List α):(Z6 cf l).length=l.length:=List.length_mergeSort _
structure a08{α:Type}(cf:α->α->Int):Prop where
  swo:Go.Sort.SWO (Go.Proofs.ltOf cf)
  tot:∀x y,Go.Proofs.ltOf cf x y=false->Go.Proofs.ltOf cf y x=false->x=y
theorem b8I{α:Type}{cf:α->α->Int}(h:a08 cf)(l:List α):(Z6 cf l).Pairwise (λx y=>(!(Go.Proofs.ltOf cf) y x)=true):=by
  refine List.pairwise_mergeSort (λa b c hab hbc=>?_) (λa b=>?_) l
  · simp only[Bool.not_eq_true'] at hab hbc⊢
    exact h.swo.ntrans _ _ _ hbc hab
  · cases hba:Go.Proofs.ltOf cf b a with
    |false=>rfl
    |true=>
      cases hab:Go.Proofs.ltOf cf a b with
      |false=>rfl
      |true=>have:=h.swo.trans _ _ _ hab hba;rw[h.swo.irrefl] at this;cases this
theorem b8J{α:Type}{cf:α->α->Int}(h:a08 cf){l m:List α}(hm:m.Pairwise (λx y=>(!(Go.Proofs.ltOf cf) y x)=true))(hp:m.Perm l):Z6 cf l=m:=
  List.Perm.eq_of_pairwise (λa b _ _ h1 h2=>h.tot a b (by simpa using h2) (by simpa using h1)) (b8I h l) hm ((b8H cf l).trans hp.symm)
theorem c62{α:Type}{cf:α->α->Int}(h:a08 cf){l m:List α}(hp:l.Perm m):Z6 cf l=Z6 cf m:=
  b8J h (b8I h m) ((b8H cf m).trans hp.symm)
theorem j_{φ:K5}{k:IntKind}{a:Int}{cs:List LV}{vs:List Value}(h:A3 φ (.int k a::cs) vs):∃r,vs=.int k a::r/\A3 φ cs r:=by
  obtain⟨v,r,rfl,h1,h2⟩:=h;simp only[D8] at h1;subst h1;exact⟨r,rfl,h2⟩
theorem b1x{α β:Type}{μ:d5}{ek:α->LV}{ev:β->LV}{kv:α->Value}(hkv:∀φ x v,D8 φ (ek x) v->v=kv x):∀(m:List (α×β)) (es:List MapEntry),F2 (U1 μ) (x9 ek ev m) es->es.map (·.key)=(m.map (·.1)).map kv
  |[],_,h=>by cases h;rfl
  |a::m,_,h=>by
    cases h with
    |cons h1 h2=>rw[List.map_cons,List.map_cons,List.map_cons,b1x hkv m _ h2,hkv _ _ _ h1.1]
theorem b1y{α β:Type}{μ:d5}{ek:α->LV}{ev:β->LV}:∀(m:List (α×β)) (es:List MapEntry),F2 (U1 μ) (x9 ek ev m) es->es.length=m.length
  |[],_,h=>by cases h;rfl
  |a::m,_,h=>by
    cases h with
    |cons h1 h2=>rw[List.length_cons,List.length_cons,b1y m _ h2]
theorem c67{α:Type}[Inhabited α]{enc:α->List LV}{kc:α->List Value}{k:Nat}(henc:∀φ x,A3 φ (enc x) (kc x))(hk:∀x,(kc x).length=k)(h1:∀x,∀v∈kc x,v.oneCell' =true)
    {μ:d5} {pre:u6} {w w' :World} {v:Value} {L:List α} (hp:D2 μ pre w) (hb:Below w.heap.size w w') (hd:w.drawn<=w'.drawn) (hs:a8n kc k w w' v L):
    ∃μ',i4 μ' (.ds k L.length (b6 enc default L)) v/\y0 μ w pre [] μ' w' :=by
  rcases hs with⟨rfl,rfl⟩|⟨blk,cap,cells,E,fr,rfl,hlc,hbb,hcells,hl⟩
  · exact⟨μ,a8B,A9.to ⟨D7.refl μ,λc p h=> .inl h,hb.os,hb.tape,hb.output,(λ_=>hd),hb.size,λb h _=>hb.block b h,(λc o h=>by cases h),(λc o p h=>by cases h),(λc o c' o' p p' h=>by cases h),λb cs h=> .inl h,(λ_ c o p h=>by cases h)⟩ rfl⟩
  · have hnf:μ.fro blk=none:=by
      cases hf:μ.fro blk with
      |none=>rfl
      |some cs=>
        obtain⟨E',fr',hx⟩:=hp.fro _ _ hf;have:=(Array.getElem?_eq_some_iff.1 hx).1;omega
    have hfz:(μ.fz blk cells).fro blk=some cells:=by show(if blk=blk then some cells else _)=_;rw[if_pos rfl]
    refine⟨μ.fz blk cells,?_,A9.to ⟨d5.fz_ext hnf,λc p h=> .inl h,hb.os,hb.tape,hb.output,(λ_=>hd),hb.size,λb h _=>hb.block b h,(λc o h=>by cases h),(λc o p h=>by cases h),(λc o c' o' p p' h=>by cases h),λb cs hbc=>?_,(λ_ c o p h=>by cases h)⟩ rfl⟩
    · simp only[i4,D8]
      refine⟨_,_,rfl,hlc,(λh=>by cases h),(λa h _=>by cases h;rfl),λi hi=>⟨_,cells,kc (L.getD i default),rfl,hfz,henc _ _,hk _,?_,h1 _⟩⟩;have:=hl i hi;rw[Nat.zero_add];exact this
    · have hbc' :(if b=blk then some cells else μ.fro b)=some cs:=hbc
      by_cases e:b=blk
      · rw[if_pos e] at hbc'
        cases hbc';subst e;exact .inr ⟨⟨E,fr,hcells⟩,.inl hbb⟩
      · rw[if_neg e] at hbc'
        exact .inl hbc'
theorem b5w{α:Type}[Inhabited α](enc:α->List Value)(k:Nat)(hk:∀x,(enc x).length=k):∀(l:List α) (i j:Nat),i<l.length->j<k->(l.flatMap enc)[i * k+j]?=(enc (l.getD i default))[j]?
  |[],i,j,hi,_=>by simp at hi
  |a::l,0,j,_,hj=>by
    rw[List.flatMap_cons,Nat.zero_mul,Nat.zero_add,List.getElem?_append_left (by rw[hk];exact hj)];rfl
  |a::l,i+1,j,hi,hj=>by
    rw[List.flatMap_cons,List.getElem?_append_right (by rw[hk,Nat.add_mul];omega),hk,show(i+1) * k+j - k=i * k+j by rw[Nat.add_mul];omega,b5w enc k hk l i j (by simpa using hi) hj];rfl
open Classical in
noncomputable def a6l{α:Type}(cmp:α->α->Option Int)(bytes:Nat)(l:List α):Option (List α):=
  if h:(∃cf,a08 cf/\∀x y,cmp x y=some (cf x y))/\l.length<=maxLen/\l.length * bytes<=140737488355328 then some (Z6 (Classical.choose h.1) l) else none
theorem c64{α:Type}{cmp:α->α->Option Int}{bytes:Nat}{l r:List α}(h:a6l cmp bytes l=some r):∃cf,a08 cf/\(∀x y,cmp x y=some (cf x y))/\l.length<=maxLen/\l.length * bytes<=140737488355328/\r=Z6 cf l:=by
  unfold a6l at h;split at h
  · rename_i hh
    cases h;obtain⟨h1,h2⟩:=Classical.choose_spec hh.1;exact⟨_,h1,h2,hh.2.1,hh.2.2,rfl⟩
  · cases h
theorem c63{α:Type}{cmp:α->α->Option Int}{bytes:Nat}{l:List α}{cf:α->α->Int}(h1:a08 cf)(h2:∀x y,cmp x y=some (cf x y))(h3:l.length<=maxLen)(h4:l.length * bytes<=140737488355328):a6l cmp bytes l=some (Z6 cf l):=by
  have hh:(∃cf,a08 cf/\∀x y,cmp x y=some (cf x y))/\l.length<=maxLen/\l.length * bytes<=140737488355328:=⟨⟨cf,h1,h2⟩,h3,h4⟩
  unfold a6l;rw[dif_pos hh];have h5:=(Classical.choose_spec hh.1).2;have e:Classical.choose hh.1=cf:=by
    funext x y;have:=(h5 x y).symm.trans (h2 x y);exact Option.some.inj this
  rw[e]
theorem b8V{vs:Array Value}{l:List Value}(h:vs.toList=l):vs=l.toArray:=by rw[<-h]
theorem b7J{μ:d5}{b:Nat}{vs:Array Value}(h:o6 μ [.ptr b 0 0] vs.toList):∃p,μ b=some p/\vs=#[.pointer (some (p.addr 0 0))]:=by
  obtain⟨v,r,e,⟨p,hp,rfl⟩,hr⟩:=h;cases hr;exact⟨p,hp,b8V e⟩
theorem b3n{μ:d5}{vs:Array Value}(h:o6 μ [] vs.toList):vs=#[]:=b8V h
theorem b9c{μ:d5}{p:Pl}{w:World}{x:LV}(h:w9 μ p w.heap[p.rb]? (.var [x])):∃v,i4 μ x v/\w.cell? (p.addr 0 0)=some v/\p.rb<w.heap.size:=by
  have hlt:=h.lt;obtain⟨_,_,cells,E,fr,hc,_,_,vs,⟨v,r,rfl,hv,hr⟩,hl,_⟩:=h;refine⟨v,hv,?_,hlt⟩;have:=hl 0 v (by simp);show World.cell? w ⟨p.rb,p.off+0 * p.sz+0,none⟩=_;simp only[World.cell?,hc,Nat.zero_mul,Nat.add_zero,Option.isSome_none,Bool.false_eq_true,if_false];simpa using this
theorem c0W{P:Program}{g:FuncId}(h:∃fn,P.funcs[g]?=some fn/\fn.body.isSome=true/\(fn.name== "runtime.NumGoroutine")=false):∀args w,(callFunc g args).run P w=.ok (.enter g args) w:=by
  obtain⟨fn,h1,h2,h3⟩:=h;obtain⟨c,hc⟩:=Option.isSome_iff_exists.1 h2;exact Go.Proofs.enters_of h1 h3 hc
end Go.Cn
