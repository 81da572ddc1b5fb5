import Derived.Test.YtddgjfclpknkcaaGreatDoorCnX
import Derived.ChangeArms
import Derived.Deep.Slices
import Derived.OpenShut
import Derived.Below
namespace Go.Cn
open Go
theorem c7s{a b:List LV}(ha:X5 a)(hb:X5 b):X5 (a++b):=λx hx=>(List.mem_append.1 hx).elim (ha x) (hb x)
theorem b5v:∀{a b:List CK} {x y:List LV},x6 a x=true->x6 b y=true->x6 (a++b) (x++y)=true
 |[],b,[],y,_,h=>h
 |[],_,_::_,_,h,_=>by simp[x6] at h
 |_::_,_,[],_,h,_=>by simp[x6] at h
 |k::a,b,c::x,y,h,h' =>by
  simp only[x6,Bool.and_eq_true,List.cons_append] at h⊢;exact⟨h.1,b5v h.2 h'⟩
def a11(ks:List CK)(cs:List Value):Prop:=∃ls,x6 ks ls=true/\(∀μ,o6 μ ls cs)/\X5 ls
theorem a11.append{a b:List CK}{x y:List Value}(h:a11 a x)(h' :a11 b y):a11 (a++b) (x++y):=by
 obtain⟨l,h1,h2,h3⟩:=h;obtain⟨m,g1,g2,g3⟩:=h';exact⟨l++m,b5v h1 g1,fun μ=>(h2 μ).append (g2 μ),c7s h3 g3⟩
section
variable {H:Type}{enc:TypeId×Value->H}{P:Program}{w:World}{base:Nat}{spare:Nat->Bool}{held:Bool}
theorem a8w{t:TypeId}{s:Nat}(h:I6 P t=some s):P.cellsOf t=s:=by
 unfold I6 at h;unfold Program.cellsOf;rw[h];rfl
mutual
theorem b35:∀(d:Nat) (t:TypeId) (ks:List CK),M5 P d t=some ks->∀(fuel:Nat) (cs:List Value) (x:DataW H×List MemPlace),DataW.trod enc P w base spare held fuel t cs=some x->a11 ks cs
 |0,t,ks,hs=>by simp[M5] at hs
 |d+1,t,ks,hs=>by
  intro fuel cs x h;unfold M5 at hs;split at hs
  ·rename_i k hd hz
   cases hs;cases fuel with
   |zero=>simp[DataW.trod] at h
   |succ n=>
    unfold DataW.trod at h;rw[show P.underlying t=_ from hd] at h;split at h<;>simp_all;obtain⟨h1,h2⟩:=h;rename_i n' hk;subst hk;exact⟨[.int k n'],by simp[x6,L8],fun μ=>⟨_,_,rfl,by simp[i4],rfl⟩,λy hy=>by
     simp at hy;subst hy;exact h1.2⟩
  ·rename_i hd hz
   cases hs;cases fuel with
   |zero=>simp[DataW.trod] at h
   |succ n=>
    unfold DataW.trod at h;rw[show P.underlying t=_ from hd] at h;split at h<;>simp_all;rename_i b;exact⟨[.bool b],by simp[x6,L8],fun μ=>⟨_,_,rfl,by simp[i4],rfl⟩,λy hy=>by
     simp at hy;subst hy;trivial⟩
  ·rename_i hd hz
   cases hs;cases fuel with
   |zero=>simp[DataW.trod] at h
   |succ n=>
    unfold DataW.trod at h;rw[show P.underlying t=_ from hd] at h;split at h<;>simp_all;rename_i s;obtain⟨h1,h2⟩:=h;exact⟨[.str s.data.toList],by simp[x6,L8],fun μ=>⟨_,_,rfl,by simp[i4],rfl⟩,λy hy=>by
     simp at hy;subst hy;simpa[wfC] using h1⟩
  ·rename_i fs s hd hz
   split at hs<;>try cases hs
   split at hs<;>try cases hs
   rename_i l hl;split at hs<;>cases hs;rename_i hlen;obtain⟨xs,n,rfl,_,h2,h3,h4⟩:=DataW.trod_struct hd h;have h5:cs.length=ks.length:=by rw[h2,a8w hz,hlen]
   have:=b81 d fs.toList 0 ks hl n cs (λf hf=>by
    obtain⟨i,hi⟩:=List.getElem?_of_mem hf;have hi' :fs[i]?=some f:=by simpa using hi
    have:=h4 i f hi';have hlt:i<xs.length:=by rw[h3];exact(Array.getElem?_eq_some_iff.1 hi').1
    exact⟨_,this.trans (List.getElem?_eq_getElem hlt)⟩) (by omega)
   simpa[<-h5] using this
  ·rename_i n e s hd hz
   split at hs<;>try cases hs
   rename_i l z hl hze;split at hs<;>cases hs;rename_i hlen;obtain⟨xs,m,rfl,_,h2,h3,h4⟩:=DataW.trod_array hd h;rw[a8w hz] at h2;rw[a8w hze] at h4;have elems:∀i,i<n->a11 l ((cs.drop (i * z)).take z):=λi hi=>
    b35 d e l hl m _ _ ((h4 i hi).trans (List.getElem?_eq_getElem (by omega)))
   have key:∀j,j<=n->a11 (V4 j l) (cs.take (j * z)):=by
    intro j
    induction j with
    |zero=>intro _;exact⟨[],rfl,fun μ=>by simp[o6],λy hy=>by cases hy⟩
    |succ j ih=>
     intro hj;have a:=ih (by omega);have b:=elems j (by omega);have e1:∀j,V4 (j+1) l=V4 j l++l:=by
      intro j
      induction j with
      |zero=>simp[V4]
      |succ j ih=>
       rw[show V4 (j+1+1) l=l++V4 (j+1) l from rfl,ih,<-List.append_assoc];congr 1
     rw[e1,Nat.add_mul,Nat.one_mul,List.take_add];exact a.append b
   have:=key n (Nat.le_refl _)
   rwa [List.take_of_length_le (by omega)] at this
  ·cases hs
theorem b81:∀(d:Nat) (fs:List Field) (o:Nat) (l:List CK),a6i P d fs o=some l->∀(n:Nat) (cs:List Value),(∀f∈fs,∃x,DataW.trod enc P w base spare held n f.type ((cs.drop f.offset).take (P.cellsOf f.type))=some x)->o+l.length<=cs.length->
  a11 l ((cs.drop o).take l.length)
 |d,[],o,l,hs=>by
  intro n cs _ _;simp only[b8t,Option.some.injEq] at hs;subst hs;exact⟨[],rfl,fun μ=>by simp[o6],λy hy=>by cases hy⟩
 |d,f::r,o,l,hs=>by
  intro n cs hf hlen;rw[b3S] at hs;split at hs<;>try cases hs
  rename_i a z ha hz;split at hs<;>try cases hs
  rename_i hc;simp only[Option.map_eq_some_iff] at hs;obtain⟨b,hb,rfl⟩:=hs;obtain⟨x,hx⟩:=hf f List.mem_cons_self;rw[hc.2.1,a8w hz] at hx;have h1:=b35 d f.type a ha n _ x hx;rw[List.length_append] at hlen⊢;have h2:=b81 d r (o+z) b hb n cs (λg hg=>hf g (List.mem_cons_of_mem _ hg)) (by omega);rw[List.take_add,List.drop_drop,hc.2.2];exact h1.append h2
end
end
theorem y_{k:IntKind}{ks:List CK}{l:List LV}(h:x6 (.int k::ks) l=true):∃n r,l=.int k n::r/\x6 ks r=true:=by
 cases l with
 |nil=>simp[x6] at h
 |cons x r=>
  simp only[x6,Bool.and_eq_true] at h;cases x<;>simp[L8] at h;obtain⟨rfl,h⟩:=h;exact⟨_,_,rfl,h⟩
theorem b1G{l:List LV}(h:x6 [] l=true):l=[]:=by
 cases l with
 |nil=>rfl
 |cons x r=>simp[x6] at h
def a2h(w:World):K5:=λb=>match w.heap[b]? with
 |some (.cells cs _ _)=>some cs
 |_=>none
def mu0(w:World):d5:=⟨λ_=>none,a2h w⟩
theorem b9G{P:Program}{f:FuncId}{ls:List LV}{v:LV}(h:j9 P f ls [] v []){vals:List Value}{w:World}(ht:a0d (a2h w))(hr:o6 (mu0 w) ls vals):
  Calls P f vals.toArray w λe w' =>(∃x μ',e=.returned x/\i4 μ' v x)/\RowKit.Below w.heap.size w w' :=by
 refine(h.2 (mu0 w) w vals hr ⟨(λc o hc=>by cases hc),(λc o c' o' p p' hc=>by cases hc),λb cs hb=>?_,(λc o p hc=>by cases hc),ht,(λc o p hc=>by cases hc),(λc o p b c' o' p' hc=>by cases hc),(λc o p b hc=>by cases hc)⟩ (λc hc=>by simp[i9.has] at hc)).mono ?_
 ·simp only[mu0,a2h] at hb
  split at hb
  ·rename_i cs' E fr hx;cases hb;exact⟨E,fr,hx⟩
  ·cases hb
 ·rintro en w' ⟨x,μ',h1,h2,h3⟩
  refine⟨⟨x,μ',h1,h2⟩,h3.os,h3.tape,h3.output,h3.grow,λk hk=>h3.keep k hk (λ⟨c,o,p,hc,_⟩=>by cases hc)⟩
end Go.Cn
