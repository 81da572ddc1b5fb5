import Derived.Test.YtddgjfclpknkcaaGreatDoorCnT
import Derived.Lib.Bytealg
import Derived.Shelf.Lays
namespace Go.Cn
open Go
def o9(fn:Func):Code:=fn.body.getD .skip
def b8P(fn:Func)(args:List LV):List LV:=args++List.replicate (fn.ntmps - args.length) .any
def p8(n:Nat)(σ:Nat->Nat):Prop:=∀c d,c<n->d<n->σ c=σ d->c=d
def f8(l:List Nat)(c:Nat):Nat:=(l[c]?).getD 0
theorem c6w{l:List Nat}(h:a2y l=true){n:Nat}(hn:n=l.length):p8 n (f8 l):=by
 subst hn;intro c d hc hd e;have h1:l[c]?=some l[c]:=List.getElem?_eq_getElem hc;have h2:l[d]?=some l[d]:=List.getElem?_eq_getElem hd;simp only[f8,h1,h2,Option.getD_some] at e;rw[<-e] at h2;exact b2L h h1 h2
def a7l(n:Nat):List LO->Prop
 |[]=>True
 |o::r=>o.under n/\a7l n r
def a6t(n:Nat):i9->Prop
 |[]=>True
 |(_,none)::r=>a6t n r
 |(_,some o)::r=>o.under n/\a6t n r
def b0s(objs:List LO)(n:Nat)(up:i9):Bool:=
 ((List.range objs.length).all λj=>!(((objs[j]?).map LO.wr).getD false)||up.has j)&&((List.range n).all λc=>decide (c<objs.length)||up.has c)&&(up.all λx=>decide (x.1<n))&&decide (objs.length<=n)
theorem c6B{objs:List LO}{n:Nat}{args:List LV}{v:LV}{up:i9}(h1:R9 objs.length args=true)(h2:a7l objs.length objs)(h3:v.under n=true)(h4:a6t n up)(h5:b0s objs n up=true):Sig objs n args v up:=by
 simp only[b0s,Bool.and_eq_true,List.all_eq_true,List.mem_range,Bool.or_eq_true,Bool.not_eq_true',decide_eq_true_eq] at h5;obtain⟨⟨⟨g1,g2⟩,g3⟩,g4⟩:=h5;have k2:∀(m:Nat) (l:List LO),a7l m l->∀o∈l,o.under m:=by
  intro m l
  induction l with
  |nil=>intro _ o ho;cases ho
  |cons x r ih=>
   intro h o ho;rcases List.mem_cons.1 ho with rfl|ho
   ·exact h.1
   ·exact ih h.2 o ho
 have k4:∀(u:i9),a6t n u->∀(c:Nat) (o:LO),(c,some o)∈u->o.under n:=by
  intro u
  induction u with
  |nil=>intro _ c o ho;cases ho
  |cons x r ih=>
   intro h c o ho;obtain⟨d,y⟩:=x;cases y with
   |none=>
    rcases List.mem_cons.1 ho with e|ho
    ·cases e
    ·exact ih h c o ho
   |some y=>
    rcases List.mem_cons.1 ho with e|ho
    ·cases e;exact h.1
    ·exact ih h.2 c o ho
 refine⟨h1,k2 _ _ h2,h3,k4 _ h4,λj o hj hw=>?_,λc hc hn=>?_,λc hc=>?_,g4⟩
 ·have:=g1 j (List.getElem?_eq_some_iff.1 hj).1
  simpa[hj,hw] using this
 ·rcases g2 c hn with h|h
  ·omega
  ·exact h
 ·obtain⟨o,ho⟩:=i9.has_iff.1 hc
  exact g3 _ ho
theorem o_{P:Program}{f:FuncId}{fn:Func}{args:List LV}{objs:List LO}{n:Nat}{v:LV}{up:i9}(hf:P.funcs[f]?=some fn)(hn:(fn.name== "runtime.NumGoroutine")=false)(hb:fn.body=some (o9 fn))
  (h1:R9 objs.length args=true) (h2:a7l objs.length objs) (h3:v.under n=true) (h4:a6t n up) (h5:b0s objs n up=true)
  (h:∀w0 W μ0,(∀c p,μ0 c=some p->c<objs.length)->x7 P w0 W μ0 (a14 P fn objs.length n v up) [.code (o9 fn)] none (b8P fn args) (objs.map some)):
  ∀σ,p8 n σ->j9 P f (n7 σ args) (p5 σ 0 objs) (v.ren σ) (p6 σ up):=
 fun σ hσ=>c04 hf hn hb (c6B h1 h2 h3 h4 h5) h σ hσ
theorem j9.none{P:Program}{f:FuncId}{args:List LV}{n:Nat}{v:LV}(h:∀σ,p8 n σ->j9 P f (n7 σ args) (p5 σ 0 []) (v.ren σ) (p6 σ []))(e1:n7 id args=args)(e2:v.ren id=v):j9 P f args [] v []:=by
 have:=h id (λc d _ _ e=>e);rw[e1,e2] at this;exact this
theorem c00{P:Program}{f:FuncId}{fn:Func}(hf:P.funcs[f]?=some fn)(hn:(fn.name== "runtime.NumGoroutine")=false)(hb:fn.body=none)(h1:Extern.findNext fn=none)(h2:Extern.find fn=some Extern.BytealgIndexByte.indexByte)(l:List UInt8)(c:Int):
  b0H P f [.str l,.int .u8 c] (.int .i64 (Lib.indexByte l c.toNat.toUInt8)):=by
 rintro μ w vals ⟨v1,r1,rfl,e1,v2,r2,rfl,e2,rfl⟩;simp only[i4] at e1 e2;subst e1 e2;refine⟨_,?_,rfl⟩;rw[run_callFunc_extern hf hn (by rw[hb];rfl) h1 (e:=Extern.BytealgIndexByte.indexByte) h2,Lib.run_indexByteString];rfl
end Go.Cn
