import Derived.Test.YtddgjfclpknkcaaGreatDoorCnXa
namespace Go.Cn
open Go
set_option linter.unusedSectionVars false
section
variable {α β:Type}[DecidableEq α](ek:α->LV)(ec:β->List LV)
def L2(m:List (α×β)):List (LV×List LV):=m.map λe=>(ek e.1,ec e.2)
theorem c1I(m:List (α×β)):L4 (L2 ek ec m)=x9 ek (λ_=> .any) m:=by simp[L4,L2,x9]
theorem b4q(h:∀a b,B0 (ek a) (ek b)=decide (a=b))(m:List (α×β))(k:α):(B4 (ek k) (L4 (L2 ek ec m))).isSome=(f9 m k).isSome:=by
 induction m with
 |nil=>rfl
 |cons e r ih=>
  simp only[L4,L2,List.map_cons,B4,f9,h] at ih⊢;by_cases he:k=e.1
  ·simp[he]
  ·simp only[he,decide_false,Bool.false_eq_true,if_false,Option.isSome_map];exact ih
theorem pmN(h:∀a b,B0 (ek a) (ek b)=decide (a=b))(m:List (α×β))(k:α)(hn:(f9 m k).isSome=false):B4 (ek k) (L4 (L2 ek ec m))=none:=by
 have:=b4q ek ec h m k;rw[hn] at this;exact Option.not_isSome_iff_eq_none.1 (by rw[this];decide)
theorem N5(h:∀a b,B0 (ek a) (ek b)=decide (a=b))(m:List (α×β))(k:α)(hn:(f9 m k).isSome=true):(B4 (ek k) (L4 (L2 ek ec m))).isSome=true:=by
 rw[b4q ek ec h m k,hn]
theorem a5O(h:∀a b,B0 (ek a) (ek b)=decide (a=b))(m:List (α×β)){k k' :α}(he:decide (k=k')=true)(hn:(f9 m k').isSome=true):(B4 (ek k) (L4 (L2 ek ec m))).isSome=true:=by
 rw[of_decide_eq_true he];exact N5 ek ec h m k' hn
theorem Q0{m:List (α×β)}{k:α}{v:β}(hn:f9 m k=some v):(ek k,ec v)∈L2 ek ec m:=by
 induction m with
 |nil=>simp[f9] at hn
 |cons e r ih=>
  simp only[f9] at hn;simp only[L2,List.map_cons,List.mem_cons];split at hn
  ·rename_i he;cases hn;left;rw[he]
  ·right;exact ih hn
theorem Q1(k:α):∀s,(ek k,s)∉([]:List (LV×Nat)):=λs h=>by cases h
theorem a4i(h:∀a b,B0 (ek a) (ek b)=decide (a=b)){k k' :α}{s' :Nat}{r:List (LV×Nat)}(hne:decide (k=k')=false)(hr:∀s,(ek k,s)∉r):∀s,(ek k,s)∉((ek k',s')::r):=λs hs=>by
 rcases List.mem_cons.1 hs with e|hs
 ·have h1:ek k=ek k' :=(Prod.mk.inj e).1
  have h2:=h k k;rw[show B0 (ek k) (ek k)=B0 (ek k) (ek k') from by rw[<-h1],h,hne] at h2;simp at h2
 ·exact hr s hs
theorem pmM{k k' :α}(h:decide (k=k')=true)(s:Nat)(r:List (LV×Nat)):(ek k,s)∈((ek k',s)::r):=by
 rw[of_decide_eq_true h];exact List.mem_cons_self
theorem b88(h:∀a b,B0 (ek a) (ek b)=decide (a=b))(m:List (α×β))(k:α)(v:β):I_ (ek k) (ec v) (L2 ek ec m)=L2 ek ec (p7 m k v):=by
 induction m with
 |nil=>rfl
 |cons e r ih=>
  simp only[L2,List.map_cons,I_,p7,h] at ih⊢;by_cases he:k=e.1
  ·simp[he]
  ·simp only[he,decide_false,Bool.false_eq_true,if_false,List.map_cons,ih]
theorem b9X(h:∀a b,B0 (ek a) (ek b)=decide (a=b))(m:List (α×β))(k:α):a3A (ek k) (L2 ek ec m)=L2 ek ec (B1 m k):=by
 induction m with
 |nil=>rfl
 |cons e r ih=>
  simp only[L2,List.map_cons,a3A,B1,h] at ih⊢;by_cases he:k=e.1
  ·simp[he]
  ·simp only[he,decide_false,Bool.false_eq_true,if_false,List.map_cons,ih]
theorem P8(h:∀a b,B0 (ek a) (ek b)=decide (a=b))(m:List (α×β))(k:α){v:β}(hn:f9 m k=some v):(a44 (ek k) (L2 ek ec m)).isSome=true:=by
 induction m with
 |nil=>simp[f9] at hn
 |cons e r ih=>
  simp only[f9] at hn;simp only[L2,List.map_cons,a44,h] at ih⊢;by_cases he:k=e.1
  ·simp[he]
  ·rw[if_neg he] at hn
   simp only[he,decide_false,Bool.false_eq_true,if_false];exact ih hn
omit [DecidableEq α] in
theorem isS{γ:Type}{o:Option γ}{v:γ}(h:o=some v):o.isSome=true:=by rw[h];rfl
theorem c24{m:List (α×β)}{k:α}{v:β}(hn:f9 m k=some v):p7 m k v=m:=by
 induction m with
 |nil=>simp[f9] at hn
 |cons e r ih=>
  simp only[f9] at hn;simp only[p7];split at hn
  ·rename_i he;cases hn;rw[if_pos he,he]
  ·rename_i he;rw[if_neg he,ih hn]
theorem R2(h:∀a b,B0 (ek a) (ek b)=decide (a=b))(ag:Bool)(ks:List CK)(r:List (LV×Nat)){m:List (α×β)}{k:α}{v:β}(hn:f9 m k=some v):LO.pm ag ks (I_ (ek k) (ec v) (L2 ek ec m)) r=.pm ag ks (L2 ek ec m) r:=by
 rw[b88 ek ec h,c24 hn]
theorem b2Z(h:∀a b,B0 (ek a) (ek b)=decide (a=b))(ag:Bool)(ks:List CK)(r:List (LV×Nat))(m:List (α×β))(k:α)(v:β):LO.pm ag ks (I_ (ek k) (ec v) (L2 ek ec m)) r=.pm ag ks (L2 ek ec (p7 m k v)) r:=by
 rw[b88 ek ec h]
theorem c3V(h:∀a b,B0 (ek a) (ek b)=decide (a=b))(ag:Bool)(ks:List CK)(r:List (LV×Nat))(m:List (α×β))(k:α):LO.pm ag ks (a3A (ek k) (L2 ek ec m)) r=.pm ag ks (L2 ek ec (B1 m k)) r:=by
 rw[b9X ek ec h]
theorem a9d(m:List (α×β)):LV.Le (.int .i64 ((L2 ek ec m).length:Nat)) (.int .i64 (m.length:Nat)):=LV.Le.of_eq (by simp[L2])
theorem T5{ag:Bool}{ks:List CK}{m:List (α×β)}{opn:List (LV×Nat)}:LO.Le (.pm ag ks (L2 ek ec m) opn) (.mapR ag ks (x9 ek (λ_=> .any) m)):=⟨λh=>(by cases h),λh=>h.elim,fun μ p h r=>by
 have:=a7x r;rw[c1I] at this;exact this⟩
theorem b4P(h:∀a b,B0 (ek a) (ek b)=decide (a=b)){γ:Type}{ev:γ->LV}{ag:Bool}{ks:List CK}(hk:∀a,D9 ag ks (ek a)=true){rest:List (α×γ)}{k:α}(hn:f9 rest k=none):D9 ag ks (ek k)=true/\∀e∈x9 ek ev rest,D9 ag ks e.1=true/\B0 (ek k) e.1=false:=by
 refine⟨hk k,λe he=>?_⟩;obtain⟨x,hx,rfl⟩:=List.mem_map.1 he;refine⟨hk _,?_⟩;rw[h];refine decide_eq_false λe=>?_;subst e;have:∀(l:List (α×γ)),x∈l->f9 l x.1≠none:=by
  intro l
  induction l with
  |nil=>intro h;cases h
  |cons y r ih=>
   intro h hn;simp only[f9] at hn;split at hn
   ·cases hn
   ·rename_i hne
    rcases List.mem_cons.1 h with rfl|h
    ·exact hne rfl
    ·exact ih h hn
 exact this rest hx hn
theorem b6K(h:∀a b,B0 (ek a) (ek b)=decide (a=b)){γ:Type}{ev:γ->LV}(c:Nat)(ag:Bool)(ks:List CK)(m rest:List (α×γ))(k:α):LO.mit c ag ks (a1d (ek k) (x9 ek ev m)) none (x9 ek ev rest)=.mit c ag ks (x9 ek ev (B1 m k)) none (x9 ek ev rest):=by
 rw[b4N ek ev h]
end
theorem n0{α:Type}(f:α->LV){a b:α}(h:some a=some b):LV.Le (f a) (f b):=LV.Le.of_eq (by rw[Option.some.inj h])
theorem a31{α:Type}(f:α->LO){a b:α}(h:some a=some b):f a=f b:=by rw[Option.some.inj h]
theorem LO.Sub.trans{a b c:LO}(h:a.Sub b)(k:b.Sub c):a.Sub c:=⟨h.1.trans k.1,λx=>k.2.1 (h.2.1 x),fun μ p o x=>k.2.2 μ p o (h.2.2 μ p o x)⟩
section
variable {P:Program}{w0:World}{W:Nat->Prop}{μ0:d5}{Post:List LV->d7->Prop}
theorem H7.told{μ:d5}{H:d7}{w:World}{c:Nat}{o o' :LO}(s:H7 w0 W μ H w)(ho:H.at c=some o)(hw:o.wr=o'.wr)(hpl:o.plain=true)(hpl' :o'.plain=true)(hv:o.void->o'.void)
  (hok:∀p,μ c=some p->w9 μ p w.heap[p.rb]? o->w9 μ p w.heap[p.rb]? o'):H7 w0 W μ (H.upd [(c,some o')]) w:=by
 have at' :∀{d x},(H.upd [(c,some o')]).at d=some x->(d=c/\x=o')\/(d≠c/\H.at d=some x):=by
  intro d x h;have h2:(H.put c (some o')).at d=some x:=h;rw[d7.at_put] at h2;split at h2
  ·rename_i e;cases h2;exact .inl ⟨e,rfl⟩
  ·rename_i e;exact .inr ⟨e,h2⟩
 have old:∀{d x},(H.upd [(c,some o')]).at d=some x->∃y,H.at d=some y/\y.wr=x.wr:=by
  intro d x h;rcases at' h with⟨rfl,rfl⟩|⟨_,h⟩
  ·exact⟨o,ho,hw⟩
  ·exact⟨x,h,rfl⟩
 have xx:∀{d x p b},(H.upd [(c,some o')]).at d=some x->s9 μ w p x b->H.at d=some x:=by
  intro d x p b h hx;rcases at' h with⟨rfl,rfl⟩|⟨_,h⟩
  ·exact absurd hx (s9.plain hpl')
  ·exact h
 refine⟨λd x h=>?_,λd x d' x' p p' h h' hne hw' hp hp' =>?_,s.os,s.tape,s.output,s.draws,s.grow,s.keep,λd x p h hw' hp=>?_,s.fro,λd x p h hw' hp=>?_,s.tab,λd x p h hp=>?_,λd x p b d' x' p' h hp hx h' hp' =>?_,λd x p b h hp hx=>s.xown d x p b (xx h hx) hp hx,λd x p b h hp hx=>s.xfrs d x p b (xx h hx) hp hx⟩
 ·rcases at' h with⟨rfl,rfl⟩|⟨_,h⟩
  ·rcases s.obj' _ _ ho with⟨h1,h2⟩|⟨p,h1,h2⟩
   ·exact .inl ⟨h1,hv h2⟩
   ·exact .inr ⟨p,h1,hok p h1 h2⟩
  ·exact s.obj' d x h
 ·obtain⟨y,hy,e1⟩:=old h
  obtain⟨y',hy',e2⟩:=old h';exact s.sep d y d' y' p p' hy hy' hne (by rw[e1,e2];exact hw') hp hp'
 ·obtain⟨y,hy,e1⟩:=old h
  exact s.own d y p hy (by rw[e1];exact hw') hp
 ·obtain⟨y,hy,e1⟩:=old h
  exact s.frs d y p hy (by rw[e1];exact hw') hp
 ·rcases at' h with⟨rfl,rfl⟩|⟨_,h⟩
  ·exact D3.plain hpl'
  ·exact s.xok d x p h hp
 ·have g:=xx h hx
  obtain⟨y',hy',e2⟩:=old h';have:=s.xsep d x p b d' y' p' g hp hx hy' hp';refine⟨this.1,λhne hx' =>?_⟩;have g' :=xx h' hx';rw[hy'] at g';cases g';exact this.2 hne hx'
theorem a6X{α:Type}(enc:α->List LV)(d:α){sz c:Nat}{q:j7 α}{k:List It}{T:List LV}{H:d7}(hk:a3D k=true)(hc:H.at c=some (.bag sz (q.map enc)))
  (hh:∀l:List α,j7.of l=q->x7 P w0 W μ0 Post k none T (H.upd [(c,some (.gr sz l.length (b6 enc d l)))])):x7 P w0 W μ0 Post k none T H:=by
 have key:∀{μ:d5} {a:Act} {w:World},St w0 W μ0 μ T H a w->∃l:List α,j7.of l=q/\St w0 W μ0 μ T (H.upd [(c,some (.gr sz l.length (b6 enc d l)))]) a w:=by
  intro μ a w s;have fin:∀l:List α,j7.of l=q->(LO.bag sz (q.map enc)).void->l=[]:=by
   intro l e hv;subst e;have hv' :j7.of (l.map enc)=j7.of []:=hv;have:=(j7.exact hv').length_eq;cases l with
   |nil=>rfl
   |cons _ _=>simp at this
  have st:∀l:List α,j7.of l=q->(∀p,μ c=some p->w9 μ p w.heap[p.rb]? (.bag sz (q.map enc))->w9 μ p w.heap[p.rb]? (.gr sz l.length (b6 enc d l)))->St w0 W μ0 μ T (H.upd [(c,some (.gr sz l.length (b6 enc d l)))]) a w:=λl e h=>
   ⟨s.sim.told hc rfl rfl rfl (λhv=>by have:=fin l e hv;subst this;rfl) h,s.fr,λc' p hp=>Nat.lt_of_lt_of_le (s.dom c' p hp) (a1X _ H).1,s.defs,s.ext⟩
  rcases s.sim.obj' c _ hc with⟨h1,h2⟩|⟨p,h1,l',e,h2⟩
  ·obtain⟨l,e⟩:=q.ex
   exact⟨l,e,st l e λp hp=>by rw[h1] at hp;cases hp⟩
  ·obtain⟨l,e1,rfl⟩:=j7.of_map e
   refine⟨l,e1,st l e1 λp' hp' _=>?_⟩;rw[h1] at hp';cases hp';obtain⟨g1,g2,cells,E,fr,g3,g4,g5,g6⟩:=h2;rw[List.length_map] at g2 g6;refine⟨g1,g2,cells,E,fr,g3,g4,g5,λi hi=>?_⟩;obtain⟨vs,k1,k2⟩:=g6 i hi;refine⟨vs,?_,k2⟩;have:(l.map enc).getD i []=b6 enc d l i:=by
    simp only[b6,List.getD_eq_getElem?_getD,List.getElem?_map,List.getElem?_eq_getElem hi,Option.map_some,Option.getD_some]
   exact A3.rel (by rw[<-this];exact k1)
 cases k with
 |nil=>cases hk
 |cons it k=>
  cases it with
  |code cd=>exact fun μ a w s=>let⟨l,e,s'⟩:=key s;hh l e μ a w s'
  |loop cd=>exact fun μ a w s=>let⟨l,e,s'⟩:=key s;hh l e μ a w s'
  |blk i=>cases hk
theorem b51{α β:Type}(ek:α->LV)(ev:β->LV){ag:Bool}{ks:List CK}{c:Nat}{q:j7 (α×β)}{k:List It}{T:List LV}{H:d7}(hk:a3D k=true)(hc:H.at c=some (.mapq ag ks (q.map λe=>(ek e.1,ev e.2))))
  (hh:∀m:List (α×β),j7.of m=q->x7 P w0 W μ0 Post k none T (H.upd [(c,some (.map ag ks (x9 ek ev m)))])):x7 P w0 W μ0 Post k none T H:=by
 have key:∀{μ:d5} {a:Act} {w:World},St w0 W μ0 μ T H a w->∃m:List (α×β),j7.of m=q/\St w0 W μ0 μ T (H.upd [(c,some (.map ag ks (x9 ek ev m)))]) a w:=by
  intro μ a w s;have st:∀m:List (α×β),(∀p,μ c=some p->w9 μ p w.heap[p.rb]? (.mapq ag ks (q.map λe=>(ek e.1,ev e.2)))->w9 μ p w.heap[p.rb]? (.map ag ks (x9 ek ev m)))->St w0 W μ0 μ T (H.upd [(c,some (.map ag ks (x9 ek ev m)))]) a w:=λl h=>
   ⟨s.sim.told hc rfl rfl rfl (λhv=>hv) h,s.fr,λc' p hp=>Nat.lt_of_lt_of_le (s.dom c' p hp) (a1X _ H).1,s.defs,s.ext⟩
  rcases s.sim.obj' c _ hc with⟨_,h2⟩|⟨p,h1,es,e,h2⟩
  ·exact h2.elim
  ·obtain⟨m,e1,rfl⟩:=j7.of_map e
   refine⟨m,e1,st m λp' hp' _=>?_⟩;rw[h1] at hp';cases hp';exact h2
 cases k with
 |nil=>cases hk
 |cons it k=>
  cases it with
  |code cd=>exact fun μ a w s=>let⟨l,e,s'⟩:=key s;hh l e μ a w s'
  |loop cd=>exact fun μ a w s=>let⟨l,e,s'⟩:=key s;hh l e μ a w s'
  |blk i=>cases hk
end
theorem c7j{α:Type}(enc:α->List LV)(d:α)(sz:Nat)(l:List α)(h:∀x,P7 (enc x)=true):LO.Sub (.gr sz l.length (b6 enc d l)) (.bag sz ((j7.of l).map enc)):=by
 refine⟨rfl,λhv=>?_,fun μ p hh r=>?_⟩
 ·have:l=[]:=List.eq_nil_of_length_eq_zero hv
  subst this;rfl
 ·obtain⟨g1,g2,cells,E,fr,g3,g4,g5,g6⟩:=r
  refine⟨l.map enc,rfl,g1,by rw[List.length_map];exact g2,cells,E,fr,g3,g4,g5,λi hi=>?_⟩;rw[List.length_map] at hi;obtain⟨vs,k1,k2⟩:=g6 i hi;have:(l.map enc).getD i []=b6 enc d l i:=by
   simp only[b6,List.getD_eq_getElem?_getD,List.getElem?_map,List.getElem?_eq_getElem hi,Option.map_some,Option.getD_some]
  exact⟨vs,by show A3 μ.fro ((l.map enc).getD i []) vs;rw[this];exact k1.frz (h _),k2⟩
theorem P4{α β:Type}(ek:α->LV)(ev:β->LV)(ag:Bool)(ks:List CK)(m:List (α×β)):LO.Sub (.map ag ks (x9 ek ev m)) (.mapq ag ks ((j7.of m).map λe=>(ek e.1,ev e.2))):=
 ⟨rfl,λhv=>hv,fun μ p hh r=>⟨_,rfl,r⟩⟩
noncomputable def a0e{α R:Type}(q:j7 α)(f:List α->Option R):Option R:=
 open Classical in
 if h:∃r,∀l,j7.of l=q->f l=some r then some h.choose else none
theorem a3t{α R:Type}{q:j7 α}{f:List α->Option R}{r:R}(h:a0e q f=some r){l:List α}(hl:j7.of l=q):f l=some r:=by
 unfold a0e at h;split at h
 ·rename_i hx
  cases h;exact hx.choose_spec l hl
 ·cases h
theorem a3s{α R:Type}{q:j7 α}{f:List α->Option R}{r:R}(h:∀l,j7.of l=q->f l=some r):a0e q f=some r:=by
 unfold a0e;have hx:∃r,∀l,j7.of l=q->f l=some r:=⟨r,h⟩
 rw[dif_pos hx];obtain⟨l,hl⟩:=q.ex;exact(hx.choose_spec l hl).symm.trans (h l hl)
end Go.Cn
