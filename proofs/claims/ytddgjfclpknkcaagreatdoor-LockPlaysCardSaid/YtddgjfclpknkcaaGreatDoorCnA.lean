import Derived.Calls
import Derived.Orders
import Derived.KernelRfl
import Derived.WalkKit
import Derived.Lib.TrailingZeros
namespace Go.Cn
inductive LV where
 |int (k:IntKind) (n:Int)
 |bool (b:Bool)
 |str (l:List UInt8)
 |nilptr
 |ptr (c i j:Nat)
 |nilsl
 |sl (c i j:Nat) (inn:Bool) (len:Nat) (cap:Option Nat)
 |nilmap
 |map (c:Nat)
 |fn (f:FuncId) (first cap:List LV)
 |nilfn
 |agg (cs:List LV)
 |tup (vs:List LV)
 |gs (c n:Nat)
 |ds (sz n:Nat) (f:Nat->List LV)
 |dp (cs:List LV)
 |dn (sz n:Nat) (f:Nat->List LV)
 |any
 |stamp (d:Nat)
 deriving Inhabited
structure Pl where
 rb:Nat
 off:Nat
 sz:Nat
 ext:Nat
abbrev K5:=Nat->Option (Array Value)
def b8U:Option Nat:=none
def b09:Bool:=true
def a0d(φ:K5):Prop:=∀g,b8U=some g->∃cs,φ g=some cs/\∀j,j<64->cs[j]?=some (.int .u8 ((Lib.deBruijn64tab.getD j 0:Nat):Int))
structure d5 where
 loc:Nat->Option Pl
 fro:K5
instance :CoeFun d5 (λ_=>Nat->Option Pl):=⟨d5.loc⟩
structure D7(μ μ' :d5):Prop where
 loc:∀c p,μ c=some p->μ' c=some p
 fro:∀b cs,μ.fro b=some cs->μ'.fro b=some cs
theorem D7.refl(μ:d5):D7 μ μ:=⟨λ_ _ h=>h,λ_ _ h=>h⟩
theorem D7.trans{a b c:d5}(h:D7 a b)(k:D7 b c):D7 a c:=⟨λx p hx=>k.loc x p (h.loc x p hx),λx p hx=>k.fro x p (h.fro x p hx)⟩
def Pl.addr(p:Pl)(i j:Nat):Addr:=⟨p.rb,p.off+i * p.sz+j,none⟩
theorem a0d.mono{φ φ' :K5}(h:∀b cs,φ b=some cs->φ' b=some cs)(t:a0d φ):a0d φ' :=λg hg=>by
 obtain⟨cs,h1,h2⟩:=t g hg;exact⟨cs,h _ _ h1,h2⟩
theorem a0d.no{φ:K5}(h:b8U=none):a0d φ:=λg hg=>by rw[h] at hg;cases hg
def I4(cs:Array Value)(o:Nat)(vs:List Value):Prop:=∀(j:Nat) (v:Value),vs[j]?=some v->cs[o+j]?=some v
mutual
def D8(φ:K5):LV->Value->Prop
 | .int k n,v=>v=.int k n
 | .bool b,v=>v=.bool b
 | .str l,v=>v=.string ⟨l.toArray⟩
 | .nilptr,v=>v=.pointer none
 | .nilsl,v=>v=.slice none 0 0
 | .nilmap,v=>v=.map none
 | .nilfn,v=>v=.nilFunc
 | .agg cs,v=>∃vs,v=.agg vs/\A3 φ cs vs.toList
 | .tup cs,v=>∃vs,v=.tuple vs/\A3 φ cs vs.toList
 | .ds sz n f,v=>∃base rc,v=.slice base n rc/\n<=rc/\(base=none->rc=0)/\(∀a,base=some a->n≠0->a.spot=none)/\
   ∀i,i<n->∃a cells vs,base=some a/\φ a.block=some cells/\A3 φ (f i) vs/\vs.length=sz/\I4 cells (a.off+i * sz) vs/\∀v∈vs,v.oneCell' =true
 | .dp cs,v=>∃a cells vs,v=.pointer (some a)/\a.spot=none/\φ a.block=some cells/\A3 φ cs vs/\I4 cells a.off vs/\∀v∈vs,v.oneCell' =true
 | .any,_=>True
 | .ptr _ _ _,_=>False
 | .sl _ _ _ _ _ _,_=>False
 | .map _,_=>False
 | .fn _ _ _,_=>False
 | .gs _ _,_=>False
 | .dn _ _ _,_=>False
 | .stamp _,_=>False
def A3(φ:K5):List LV->List Value->Prop
 |[],vs=>vs=[]
 |c::cs,vs=>∃v r,vs=v::r/\D8 φ c v/\A3 φ cs r
end
def K5.le(φ φ' :K5):Prop:=∀b cs,φ b=some cs->φ' b=some cs
mutual
theorem D8.mono{φ φ' :K5}(h:φ.le φ'):∀{l:LV} {v:Value},D8 φ l v->D8 φ' l v
 | .int ..,_,r=>r
 | .bool ..,_,r=>r
 | .str ..,_,r=>r
 | .nilptr,_,r=>r
 | .nilsl,_,r=>r
 | .nilmap,_,r=>r
 | .nilfn,_,r=>r
 | .agg _,_,⟨vs,e,r⟩=>⟨vs,e,A3.mono h r⟩
 | .tup _,_,⟨vs,e,r⟩=>⟨vs,e,A3.mono h r⟩
 | .ds _ _ f,_,⟨base,rc,e,h1,h2,h3,h4⟩=>⟨base,rc,e,h1,h2,h3,λi hi=>by
   obtain⟨a,cells,vs,k1,k2,k3,k4⟩:=h4 i hi;exact⟨a,cells,vs,k1,h _ _ k2,A3.mono h k3,k4⟩⟩
 | .dp _,_,⟨a,cells,vs,k1,k2,k3,k4,k5⟩=>⟨a,cells,vs,k1,k2,h _ _ k3,A3.mono h k4,k5⟩
 | .any,_,_=>trivial
 | .ptr ..,_,r=>r
 | .sl ..,_,r=>r
 | .map _,_,r=>r
 | .fn ..,_,r=>r
 | .gs ..,_,r=>r
 | .dn ..,_,r=>r
 | .stamp _,_,r=>r
theorem A3.mono{φ φ' :K5}(h:φ.le φ'):∀{l:List LV} {v:List Value},A3 φ l v->A3 φ' l v
 |[],_,r=>r
 |_::_,_,⟨v,r,e,a,b⟩=>⟨v,r,e,D8.mono h a,A3.mono h b⟩
end
mutual
def i4(μ:d5):LV->Value->Prop
 | .int k n,v=>v=.int k n
 | .bool b,v=>v=.bool b
 | .str l,v=>v=.string ⟨l.toArray⟩
 | .nilptr,v=>v=.pointer none
 | .ptr c i j,v=>∃p,μ c=some p/\v=.pointer (some (p.addr i j))
 | .nilsl,v=>v=.slice none 0 0
 | .sl c i j inn len cap,v=>∃p a rc,μ c=some p/\v=.slice (some a) len rc/\len<=rc/\(∀k,cap=some k->rc=k)/\a.spot=none/\a.block=p.rb/\
   (rc≠0->a=p.addr i j)/\(inn=false->j=0/\(rc≠0->i+rc<=p.ext))
 | .nilmap,v=>v=.map none
 | .map c,v=>∃p,μ c=some p/\v=.map (some p.rb)
 | .fn f fi ca,v=>∃a b,v=.func (.func f) a b/\o6 μ fi a.toList/\o6 μ ca b.toList
 | .nilfn,v=>v=.nilFunc
 | .agg cs,v=>∃vs,v=.agg vs/\o6 μ cs vs.toList
 | .tup cs,v=>∃vs,v=.tuple vs/\o6 μ cs vs.toList
 | .gs c n,v=>(n=0/\v=.slice none 0 0)\/(n≠0/\∃p rc,μ c=some p/\v=.slice (some (p.addr 0 0)) n rc/\n<=rc/\rc<=p.ext)
 | .ds sz n f,v=>D8 μ.fro (.ds sz n f) v
 | .dp cs,v=>D8 μ.fro (.dp cs) v
 | .dn sz n f,v=>D8 μ.fro (.ds sz n f) v/\∃a rc,v=.slice (some a) n rc
 | .any,_=>True
 | .stamp d,v=>∃p,μ d=some p/\v=.int .i64 (p.off:Int)
def o6(μ:d5):List LV->List Value->Prop
 |[],vs=>vs=[]
 |c::cs,vs=>∃v r,vs=v::r/\i4 μ c v/\o6 μ cs r
end
mutual
theorem i4.mono{μ μ' :d5}(h:D7 μ μ'):∀{l:LV} {v:Value},i4 μ l v->i4 μ' l v
 | .int ..,_,r=>r
 | .bool ..,_,r=>r
 | .str ..,_,r=>r
 | .nilptr,_,r=>r
 | .ptr ..,_,⟨p,hp,r⟩=>⟨p,h.loc _ _ hp,r⟩
 | .nilsl,_,r=>r
 | .sl ..,_,⟨p,a,rc,hp,r⟩=>⟨p,a,rc,h.loc _ _ hp,r⟩
 | .nilmap,_,r=>r
 | .map _,_,⟨p,hp,r⟩=>⟨p,h.loc _ _ hp,r⟩
 | .fn ..,_,⟨a,b,e,r,s⟩=>⟨a,b,e,o6.mono h r,o6.mono h s⟩
 | .nilfn,_,r=>r
 | .agg _,_,⟨vs,e,r⟩=>⟨vs,e,o6.mono h r⟩
 | .tup _,_,⟨vs,e,r⟩=>⟨vs,e,o6.mono h r⟩
 | .gs ..,_,.inl r=> .inl r
 | .gs ..,_,.inr ⟨n,p,rc,hp,r⟩=> .inr ⟨n,p,rc,h.loc _ _ hp,r⟩
 | .ds ..,_,r=>D8.mono h.fro r
 | .dp ..,_,r=>D8.mono h.fro r
 | .dn ..,_,⟨r,e⟩=>⟨D8.mono h.fro r,e⟩
 | .any,_,_=>trivial
 | .stamp _,_,⟨p,hp,r⟩=>⟨p,h.loc _ _ hp,r⟩
theorem o6.mono{μ μ' :d5}(h:D7 μ μ'):∀{l:List LV} {v:List Value},o6 μ l v->o6 μ' l v
 |[],_,r=>r
 |_::_,_,⟨v,r,e,a,b⟩=>⟨v,r,e,i4.mono h a,o6.mono h b⟩
end
mutual
theorem D8.rel{μ:d5}:∀{l:LV} {v:Value},D8 μ.fro l v->i4 μ l v
 | .int ..,_,r=>r
 | .bool ..,_,r=>r
 | .str ..,_,r=>r
 | .nilptr,_,r=>r
 | .nilsl,_,r=>r
 | .nilmap,_,r=>r
 | .nilfn,_,r=>r
 | .agg _,_,⟨vs,e,r⟩=>⟨vs,e,A3.rel r⟩
 | .tup _,_,⟨vs,e,r⟩=>⟨vs,e,A3.rel r⟩
 | .ds ..,_,r=>r
 | .dp ..,_,r=>r
 | .any,_,_=>trivial
 | .ptr ..,_,r=>r.elim
 | .sl ..,_,r=>r.elim
 | .map _,_,r=>r.elim
 | .fn ..,_,r=>r.elim
 | .gs ..,_,r=>r.elim
 | .dn ..,_,r=>r.elim
 | .stamp _,_,r=>r.elim
theorem A3.rel{μ:d5}:∀{l:List LV} {v:List Value},A3 μ.fro l v->o6 μ l v
 |[],_,r=>r
 |_::_,_,⟨v,r,e,a,b⟩=>⟨v,r,e,D8.rel a,A3.rel b⟩
end
mutual
def LV.fzb:LV->Bool
 | .ptr _ _ _| .sl _ _ _ _ _ _| .map _| .fn _ _ _| .gs _ _| .dn _ _ _| .stamp _=>false
 | .agg cs=>P7 cs
 | .tup cs=>P7 cs
 |_=>true
def P7:List LV->Bool
 |[]=>true
 |c::cs=>c.fzb&&P7 cs
end
mutual
theorem i4.frz{μ:d5}:∀{l:LV} {v:Value},l.fzb=true->i4 μ l v->D8 μ.fro l v
 | .int ..,_,_,r=>r
 | .bool ..,_,_,r=>r
 | .str ..,_,_,r=>r
 | .nilptr,_,_,r=>r
 | .nilsl,_,_,r=>r
 | .nilmap,_,_,r=>r
 | .nilfn,_,_,r=>r
 | .agg _,_,h,⟨vs,e,r⟩=>⟨vs,e,o6.frz (by simpa[LV.fzb] using h) r⟩
 | .tup _,_,h,⟨vs,e,r⟩=>⟨vs,e,o6.frz (by simpa[LV.fzb] using h) r⟩
 | .ds ..,_,_,r=>r
 | .dp ..,_,_,r=>r
 | .any,_,_,_=>trivial
 | .ptr ..,_,h,_=>by simp[LV.fzb] at h
 | .sl ..,_,h,_=>by simp[LV.fzb] at h
 | .map _,_,h,_=>by simp[LV.fzb] at h
 | .fn ..,_,h,_=>by simp[LV.fzb] at h
 | .gs ..,_,h,_=>by simp[LV.fzb] at h
 | .dn ..,_,h,_=>by simp[LV.fzb] at h
 | .stamp _,_,h,_=>by simp[LV.fzb] at h
theorem o6.frz{μ:d5}:∀{l:List LV} {v:List Value},P7 l=true->o6 μ l v->A3 μ.fro l v
 |[],_,_,r=>r
 |_::_,_,h,⟨v,r,e,a,b⟩=>by
  simp only[P7,Bool.and_eq_true] at h;exact⟨v,r,e,i4.frz h.1 a,o6.frz h.2 b⟩
end
theorem A3.length{φ:K5}:∀{l:List LV} {v:List Value},A3 φ l v->v.length=l.length
 |[],_,r=>by cases r;rfl
 |_::_,_,⟨_,_,e,_,b⟩=>by subst e;simp[A3.length b]
theorem A3.drop{φ:K5}:∀{l:List LV} {vs:List Value} (n:Nat),A3 φ l vs->A3 φ (l.drop n) (vs.drop n)
 |_,_,0,r=>by simpa using r
 |[],_,n+1,r=>by cases r;simp[A3]
 |_::_,_,n+1,⟨v,r,e,a,b⟩=>by subst e;simpa using A3.drop n b
theorem o6.length{μ:d5}:∀{l:List LV} {v:List Value},o6 μ l v->v.length=l.length
 |[],_,r=>by cases r;rfl
 |_::_,_,⟨_,_,e,_,b⟩=>by subst e;simp[o6.length b]
theorem o6.get{μ:d5}:∀{l:List LV} {vs:List Value} {i:Nat} {x:LV},o6 μ l vs->l[i]?=some x->∃v,vs[i]?=some v/\i4 μ x v
 |[],_,_,_,_,h=>by simp at h
 |_::_,_,0,_,⟨v,r,e,a,b⟩,h=>by subst e;simp at h;subst h;exact⟨v,by simp,a⟩
 |_::_,_,i+1,_,⟨v,r,e,a,b⟩,h=>by subst e;simp at h;simpa using o6.get b h
theorem o6.get'{μ:d5}:∀{l:List LV} {vs:List Value} {i:Nat} {v:Value},o6 μ l vs->vs[i]?=some v->∃x,l[i]?=some x/\i4 μ x v
 |[],_,_,_,r,h=>by cases r;simp at h
 |x::_,_,0,_,⟨v,r,e,a,b⟩,h=>by subst e;simp at h;subst h;exact⟨x,by simp,a⟩
 |_::_,_,i+1,_,⟨v,r,e,a,b⟩,h=>by subst e;simp at h;simpa using o6.get' b h
theorem o6.nil{μ:d5}:o6 μ [] []:=rfl
theorem o6.cons{μ:d5}{x:LV}{v:Value}{l:List LV}{r:List Value}(a:i4 μ x v)(b:o6 μ l r):o6 μ (x::l) (v::r):=⟨v,r,rfl,a,b⟩
theorem o6.append{μ:d5}:∀{l:List LV} {vs:List Value} {l' :List LV} {vs' :List Value},o6 μ l vs->o6 μ l' vs' ->o6 μ (l++l') (vs++vs')
 |[],_,_,_,r,s=>by cases r;exact s
 |_::_,_,_,_,⟨v,r,e,a,b⟩,s=>by subst e;exact⟨v,_,rfl,a,o6.append b s⟩
theorem o6.drop{μ:d5}:∀{l:List LV} {vs:List Value} (n:Nat),o6 μ l vs->o6 μ (l.drop n) (vs.drop n)
 |_,_,0,r=>by simpa using r
 |[],_,n+1,r=>by cases r;simp[o6]
 |_::_,_,n+1,⟨v,r,e,a,b⟩=>by subst e;simpa using o6.drop n b
theorem o6.take{μ:d5}:∀{l:List LV} {vs:List Value} (n:Nat),o6 μ l vs->o6 μ (l.take n) (vs.take n)
 |_,_,0,r=>by simp[o6]
 |[],_,n+1,r=>by cases r;simp[o6]
 |_::_,_,n+1,⟨v,r,e,a,b⟩=>by subst e;exact⟨v,_,rfl,a,o6.take n b⟩
theorem o6.of_get{μ:d5}:∀{l:List LV} {vs:List Value},l.length=vs.length->(∀(i:Nat) (x:LV) (v:Value),l[i]?=some x->vs[i]?=some v->i4 μ x v)->o6 μ l vs
 |[],[],_,_=>rfl
 |[],_::_,h,_=>by simp at h
 |_::_,[],h,_=>by simp at h
 |x::l,v::vs,h,g=>⟨v,vs,rfl,g 0 x v (by simp) (by simp),o6.of_get (by simpa using h) (λi a b ha hb=>g (i+1) a b (by simpa using ha) (by simpa using hb))⟩
theorem o6.set{μ:d5}:∀{l:List LV} {vs:List Value} (n:Nat) {x:LV} {v:Value},o6 μ l vs->i4 μ x v->o6 μ (l.set n x) (vs.set n v)
 |[],_,_,_,_,r,_=>by cases r;simp[o6]
 |_::_,_,0,x,v,⟨w,r,e,a,b⟩,h=>by subst e;exact⟨v,r,rfl,h,b⟩
 |_::_,_,n+1,_,_,⟨w,r,e,a,b⟩,h=>by subst e;exact⟨w,_,rfl,a,o6.set n b h⟩
def LV.cells:LV->List LV
 | .agg cs=>cs
 |v=>[v]
def LV.isCell:LV->Bool
 | .agg _| .tup _| .any| .stamp _=>false
 |_=>true
theorem i4.oneCell{μ:d5}{l:LV}{v:Value}(h:l.isCell=true)(r:i4 μ l v):v.oneCell' =true:=by
 cases l<;>simp[LV.isCell] at h<;>simp only[i4] at r
 case ptr=>obtain⟨p,_,rfl⟩:=r;rfl
 case sl=>obtain⟨p,a,rc,_,rfl,_⟩:=r;rfl
 case map=>obtain⟨p,_,rfl⟩:=r;rfl
 case fn=>obtain⟨a,b,rfl,_⟩:=r;rfl
 case gs=>rcases r with⟨_,rfl⟩|⟨_,p,rc,_,rfl,_⟩<;>rfl
 case ds=>simp only[D8] at r;obtain⟨b,rc,rfl,_⟩:=r;rfl
 case dp=>simp only[D8] at r;obtain⟨a,cs,vs,rfl,_⟩:=r;rfl
 case dn=>obtain⟨_,a,rc,rfl⟩:=r;rfl
 all_goals subst r;rfl
theorem i4.cells{μ:d5}{l:LV}{v:Value}(h:l.isCell=true\/∃cs,l=.agg cs)(r:i4 μ l v):o6 μ l.cells v.cells.toList:=by
 rcases h with h|⟨cs,rfl⟩
 ·have ho:=i4.oneCell h r
  have e1:l.cells=[l]:=by cases l<;>simp[LV.isCell] at h<;>rfl
  have e2:v.cells=#[v]:=by cases v<;>simp[Value.oneCell'] at ho<;>rfl
  rw[e1,e2];exact⟨v,[],rfl,r,rfl⟩
 ·obtain⟨vs,rfl,hr⟩:=r
  exact hr
inductive CK where
 |int (k:IntKind)
 |bool
 |str
 deriving DecidableEq
def L8:CK->LV->Bool
 | .int k,.int k' _=>decide (k=k')
 | .bool,.bool _=>true
 | .str,.str _=>true
 |_,_=>false
def x6:List CK->List LV->Bool
 |[],[]=>true
 |k::ks,c::cs=>L8 k c&&x6 ks cs
 |_,_=>false
def U4:LV->LV->Bool
 | .int _ a,.int _ b=>a==b
 | .bool a,.bool b=>a==b
 | .str a,.str b=>a==b
 |_,_=>false
def I0:List LV->List LV->Bool
 |[],[]=>true
 |a::l,b::m=>U4 a b&&I0 l m
 |_,_=>false
def V4:Nat->List CK->List CK
 |0,_=>[]
 |n+1,z=>z++V4 n z
theorem c5c(n:Nat)(z:List CK):(V4 n z).length=n * z.length:=by
 induction n with
 |zero=>simp[V4]
 |succ n ih=>simp[V4,ih,Nat.add_mul];omega
def D9(ag:Bool)(ks:List CK):LV->Bool
 | .agg cs=>ag&&x6 ks cs
 |v=>!ag&&x6 ks [v]
def B0:LV->LV->Bool
 | .agg a,.agg b=>I0 a b
 |a,b=>U4 a b
end Go.Cn
