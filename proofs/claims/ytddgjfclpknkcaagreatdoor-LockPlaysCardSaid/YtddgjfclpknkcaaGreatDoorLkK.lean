import Derived.Test.YtddgjfclpknkcaaGreatDoorSrtC
import Derived.Test.YtddgjfclpknkcaaGreatDoorCnZ
import Derived.Test.YtddgjfclpknkcaaGreatDoorCnXb
set_option linter.unusedVariables false
set_option linter.unusedSimpArgs false
set_option linter.unusedSectionVars false
namespace Go.Proofs.YtddgjfclpknkcaaGreatDoor.Wk
open Go Go.Cn
theorem T_:∀(l m:List Int),A0 l m=- A0 m l
  |[],[]=>rfl
  |[],_::_=>rfl
  |_::_,[]=>rfl
  |a::l,b::m=>by
    have ih:=T_ l m;simp only[A0];split<;>split<;>first|omega|(try split)<;>first|omega|exact ih
theorem a2q:∀(l m:List Int),l.length=m.length->(A0 l m=0↔l=m)
  |[],[],_=>by simp[A0]
  |[],_::_,h=>by simp at h
  |_::_,[],h=>by simp at h
  |a::l,b::m,h=>by
    have ih:=a2q l m (by simpa using h);simp only[A0,List.cons.injEq];split
    · constructor<;>intro h<;>omega
    · split
      · constructor<;>intro h<;>omega
      · rw[ih]
        constructor
        · intro h;exact⟨by omega,h⟩
        · intro h;exact h.2
theorem b2r:∀(l m p:List Int),l.length=m.length->m.length=p.length->A0 l m<=0->A0 m p<=0->A0 l p<=0
  |[],_,_,_,_,_,_=>by simp[A0]
  |_::_,[],_,h,_,_,_=>by simp at h
  |_::_,_::_,[],_,h,_,_=>by simp at h
  |a::l,b::m,c::p,h1,h2,h3,h4=>by
    have ih:=b2r l m p (by simpa using h1) (by simpa using h2);simp only[A0] at h3 h4⊢;split at h3
    · split at h4
      · rw[if_pos (by omega)];decide
      · split at h4
        · omega
        · rw[if_pos (by omega)];decide
    · split at h3
      · omega
      · split at h4
        · rw[if_pos (by omega)];decide
        · split at h4
          · omega
          · rw[if_neg (by omega),if_neg (by omega)]
            exact ih h3 h4
theorem O8{α:Type}(l:List α)(k:Nat)(d:α)(h:k<l.length):l.drop k=l.getD k d::l.drop (k+1):=by
  rw[List.drop_eq_getElem_cons h,List.getD_eq_getElem?_getD,List.getElem?_eq_getElem h];rfl
theorem b4I(x y:Int):a3v x y=some (d_ x y):=by
  simp only[a3v,a4X,Option.bind_some,bne_self_eq_false,Bool.false_eq_true,if_false,decide_eq_true_eq,d_];split<;>(try split)<;>rfl
theorem b4H(x y:Int):a2c x y=some (d_ x y):=by
  simp only[a2c,a4W,Option.bind_some,bne_self_eq_false,Bool.false_eq_true,if_false,decide_eq_true_eq,d_];split<;>(try split)<;>rfl
def a3C:List Int->Int
  |[]=>0
  |x::r=>if x=0 then a3C r else x
theorem b65(a:List Int)(hb:a.length<4611686018427387904):∀(fuel k:Nat),a.length - k<fuel->k<=a.length->a3w a fuel (k:Int)=some (a3C (a.drop k))
  |0,k,h,_=>by omega
  |fuel+1,k,h,hk=>by
    rw[a3w];by_cases hlt:k<a.length
    · rw[if_pos (dT (by omega)),if_pos (by omega)]
      rw[O8 a k default hlt];simp only[Int.toNat_natCast,a3C,bne_iff_ne,ne_eq,ite_not];split
      · rw[u0 (by omega) (by omega)]
        exact b65 a hb fuel (k+1) (by omega) (by omega)
      · rfl
    · rw[if_neg (dF (by omega))]
      have:k=a.length:=by omega
      subst this;rw[List.drop_length];rfl
theorem b64(a:List Int)(hb:a.length<4611686018427387904):a1b a=some (a3C a):=by
  have:=b65 a hb big 0 (F0 (by omega)) (by omega);simpa[a1b] using this
def F4(t:TX):List Int:=[t.F3,t.D6,t.F5]
theorem nz3(a b a' b' a'' b'' :Int):a3C [d_ a b,d_ a' b',d_ a'' b'']=A0 [a,a',a''] [b,b',b'']:=by
  simp only[a3C,A0,d_]
  repeat' split
  all_goals first|rfl|omega
theorem b84(a b:TX):a2k a b=some (A0 (F4 a) (F4 b)):=by
  simp only[a2k,b4I,b4H,Option.bind_some,F4];rw[b64 _ (by simp),nz3];rfl
section
variable {α β:Type}[DecidableEq α]
def Uk(m:List (α×β)):Prop:=(m.map (·.1)).Nodup
theorem K6{m:List (α×β)}{k:α}{v:β}(h:f9 m k=some v):(k,v)∈m:=by
  induction m with
  |nil=>simp[f9] at h
  |cons e r ih=>
    obtain⟨a,b⟩:=e;simp only[f9] at h;split at h
    · rename_i e;subst e;cases h;exact List.mem_cons_self
    · exact List.mem_cons_of_mem _ (ih h)
theorem Y1{m:List (α×β)}(hu:Uk m){k:α}{v:β}(h:(k,v)∈m):f9 m k=some v:=by
  induction m with
  |nil=>cases h
  |cons e r ih=>
    obtain⟨a,b⟩:=e;simp only[Uk,List.map_cons,List.nodup_cons] at hu;simp only[f9];rcases List.mem_cons.1 h with e|h
    · cases e;simp
    · rw[if_neg]
      · exact ih hu.2 h
      · intro e;exact hu.1 (List.mem_map.2 ⟨(k,v),h,e⟩)
theorem M9(m:List (α×β))(k:α)(v:β)(j:α):f9 (p7 m k v) j=if j=k then some v else f9 m j:=by
  induction m with
  |nil=>simp[p7,f9]
  |cons e r ih=>
    obtain⟨a,b⟩:=e;simp only[p7];by_cases h:k=a
    · subst h
      simp only[if_true,f9];by_cases h2:j=k<;>simp[h2]
    · simp only[if_neg h,f9,ih]
      by_cases h2:j=a
      · subst h2;simp[Ne.symm h]
      · simp[h2]
theorem a5y{m:List (α×β)}(hu:Uk m)(k j:α):f9 (B1 m k) j=if j=k then none else f9 m j:=by
  induction m with
  |nil=>simp[B1,f9]
  |cons e r ih=>
    obtain⟨a,b⟩:=e;simp only[Uk,List.map_cons,List.nodup_cons] at hu;simp only[B1];by_cases h:k=a
    · subst h
      simp only[if_true,f9];by_cases h2:j=k
      · subst h2
        simp only[if_true];cases hg:f9 r j with
        |none=>rfl
        |some v=>exact absurd (List.mem_map.2 ⟨(j,v),K6 hg,rfl⟩) hu.1
      · simp[h2]
    · simp only[if_neg h,f9,ih hu.2]
      by_cases h2:j=a
      · subst h2;simp[Ne.symm h]
      · simp[h2]
theorem c23(m:List (α×β))(k:α)(v:β):∀x,x∈(p7 m k v).map (·.1)↔x=k\/x∈m.map (·.1):=by
  induction m with
  |nil=>simp[p7]
  |cons e r ih=>
    obtain⟨a,b⟩:=e;intro x;simp only[p7];by_cases h:k=a
    · subst h;simp
    · simp only[if_neg h,List.map_cons,List.mem_cons,ih]
      constructor
      · rintro(h|h|h)
        · exact .inr (.inl h)
        · exact .inl h
        · exact .inr (.inr h)
      · rintro(h|h|h)
        · exact .inr (.inl h)
        · exact .inl h
        · exact .inr (.inr h)
theorem a5C{m:List (α×β)}(hu:Uk m)(k:α)(v:β):Uk (p7 m k v):=by
  induction m with
  |nil=>simp[p7,Uk]
  |cons e r ih=>
    obtain⟨a,b⟩:=e;simp only[Uk,List.map_cons,List.nodup_cons] at hu;simp only[p7];by_cases h:k=a
    · subst h;simpa[Uk] using hu
    · simp only[if_neg h,Uk,List.map_cons,List.nodup_cons]
      refine⟨λhm=>?_,ih hu.2⟩;rcases(c23 r k v a).1 hm with e|h'
      · exact h e.symm
      · exact hu.1 h'
theorem a5z(m:List (α×β))(k:α):(B1 m k).Sublist m:=by
  induction m with
  |nil=>simp[B1]
  |cons e r ih=>
    simp only[B1];split
    · exact List.sublist_cons_self _ _
    · exact ih.cons_cons _
theorem a7j{m:List (α×β)}(hu:Uk m)(k:α):Uk (B1 m k):=((a5z m k).map _).nodup hu
end
def kS(s:TS):List Int:=s.B8::F4 s.b7
def k8(k:A8 Int):List Int:=[k.a0,k.a1,k.a2,k.a3,k.a4,k.a5,k.a6,k.a7]
theorem or2(x y:Int):a1b [x,y]=some (if x=0 then y else x):=by
  rw[b64 _ (by simp)];simp only[a3C];split
  · split<;>simp_all
  · rfl
theorem a9e:∀(l m l' m' :List Int),l.length=m.length->A0 (l++l') (m++m')=if A0 l m=0 then A0 l' m' else A0 l m
  |[],[],_,_,_=>by simp[A0]
  |[],_::_,_,_,h=>by simp at h
  |_::_,[],_,_,h=>by simp at h
  |a::l,b::m,l',m',h=>by
    have ih:=a9e l m l' m' (by simpa using h);simp only[List.cons_append,A0];split
    · simp
    · split
      · simp
      · exact ih
theorem a4M(a b:TS):S_ a b=some (A0 (kS a) (kS b)):=by
  simp only[S_,b4H,b84,Option.bind_some,or2,kS];have h:=a9e [a.B8] [b.B8] (F4 a.b7) (F4 b.b7) rfl;simp only[List.cons_append,List.nil_append] at h;rw[h];have:A0 [a.B8] [b.B8]=d_ a.B8 b.B8:=by
    simp only[A0,d_];repeat' split
    all_goals first|rfl|omega
  rw[this]
theorem b5X(a:A8 Int){k:Nat}(h:k<8):(k8 a).drop k=a.get k::(k8 a).drop (k+1):=by
  rcases lt8 h with h|h|h|h|h|h|h|h<;>subst h<;>rfl
theorem c2x(a b:Int)(l m:List Int):A0 (a::l) (b::m)=if d_ a b=0 then A0 l m else d_ a b:=by
  simp only[A0,d_]
  repeat' split
  all_goals first|rfl|omega
theorem b4y(a b:A8 Int):∀(fuel k:Nat),8 - k<fuel->k<=8->a4A a b fuel k=some (A0 ((k8 a).drop k) ((k8 b).drop k))
  |0,k,h,_=>by omega
  |fuel+1,k,hf,hk=>by
    rw[a4A];by_cases h:k<8
    · rw[if_pos (dT (by omega)),if_pos (by omega),if_neg (dF (by omega)),Int.toNat_natCast,b4I,Option.bind_some,b5X a h,b5X b h,c2x]
      by_cases h0:d_ (a.get k) (b.get k)=0
      · rw[if_neg (by simp[h0]),if_pos h0,u0 (by omega) (by omega)]
        exact b4y a b fuel (k+1) (by omega) (by omega)
      · rw[if_pos (by simp[h0]),if_neg h0]
    · have:k=8:=by omega
      subst this;rw[if_neg (by simp)];rfl
theorem c1J(a b:A8 Int):a47 a b=some (A0 (k8 a) (k8 b)):=by
  have:=b4y a b big 0 (F0 (by omega)) (by omega);simp only[a47,sCB];rw[show((0:Int))=((0:Nat):Int) from rfl,this];rfl
abbrev Us:=UT
abbrev Ps:=PT
def so(us:Us)(x:TX):TS:=((f9 us x).getD default).B7
def ka(us:Us)(x:TX):List Int:=kS (so us x)
def ko(us:Us)(s:TL):List Int:=k8 s.o7++ka us s.m9
def H9(us:Us)(x y:TX):Int:=A0 (ka us x) (ka us y)
def b_(us:Us)(s t:TL):Int:=A0 (ko us s) (ko us t)
theorem b0N{us:Us}{a b:TX}(ha:(f9 us a).isSome=true)(hb:(f9 us b).isSome=true)(hd wt:Ps):a3V us hd wt a b=some (H9 us a b):=by
  obtain⟨u,hu⟩:=Option.isSome_iff_exists.1 ha;obtain⟨v,hv⟩:=Option.isSome_iff_exists.1 hb;rw[a3V,if_pos ha,hu,Option.bind_some];by_cases h:b=a
  · subst h
    rw[hu] at hv;cases hv;rw[if_pos (by simp),a4M,Option.bind_some];simp[H9,ka,so,hu]
  · rw[if_neg (by simpa using h),if_pos hb,hv,Option.bind_some,a4M,Option.bind_some]
    simp[H9,ka,so,hu,hv]
theorem c3e{us:Us}{s t:TL}(ha:(f9 us s.m9).isSome=true)(hb:(f9 us t.m9).isSome=true)(hd wt:Ps):a7d us hd wt s t=some (b_ us s t):=by
  rw[a7d,c1J,Option.bind_some,b0N ha hb,Option.bind_some,or2,Option.bind_some,b_,ko,ko,a9e (k8 s.o7) (k8 t.o7) (ka us s.m9) (ka us t.m9) rfl];rfl
theorem a6q{α:Type}(κ:α->List Int)(hl:∀x y,(κ x).length=(κ y).length):Go.Sort.SWO (λx y=>decide (A0 (κ x) (κ y)<0)) where
  irrefl x:=by have:=(a2q (κ x) (κ x) rfl).2 rfl;simp[this]
  trans x y z h1 h2:=by
    simp only[decide_eq_true_eq] at h1 h2⊢;have h3:=b2r (κ x) (κ y) (κ z) (hl _ _) (hl _ _) (by omega) (by omega);have:A0 (κ x) (κ z)≠0:=λh=>by
      have e:=(a2q _ _ (hl x z)).1 h;have:=T_ (κ x) (κ y);rw[e] at h1 this;omega
    omega
  ntrans x y z h1 h2:=by
    simp only[decide_eq_false_iff_not] at h1 h2⊢;have a1:=T_ (κ x) (κ y);have a2:=T_ (κ y) (κ z);have a3:=T_ (κ x) (κ z);have:=b2r (κ z) (κ y) (κ x) (hl _ _) (hl _ _) (by omega) (by omega);omega
theorem a8f{α:Type}(κ:α->List Int)(hl:∀x y,(κ x).length=(κ y).length){r r' :List α}(hp:r.Perm r')(hi:∀x∈r,∀y∈r,κ x=κ y->x=y)(h:r.Pairwise (λx y=>¬A0 (κ y) (κ x)<0))(h' :r'.Pairwise (λx y=>¬A0 (κ y) (κ x)<0)):r=r' :=by
  refine List.Perm.eq_of_pairwise (le:=λx y=>¬A0 (κ y) (κ x)<0) ?_ h h' hp;intro a b ha hb h1 h2;have:=T_ (κ a) (κ b);exact hi a ha b (hp.mem_iff.2 hb) ((a2q _ _ (hl a b)).1 (by omega))
def put{α:Type}(κ:α->List Int)(x:α):List α->List α
  |[]=>[x]
  |y::r=>if A0 (κ y) (κ x)<0 then y::put κ x r else x::y::r
def P2{α:Type}(κ:α->List Int):List α->List α
  |[]=>[]
  |x::r=>put κ x (P2 κ r)
theorem a7P{α:Type}(κ:α->List Int)(x:α):∀l:List α,(put κ x l).Perm (x::l)
  |[]=>List.Perm.refl _
  |y::r=>by
    rw[put];split
    · exact((a7P κ x r).cons y).trans (List.Perm.swap x y r)
    · exact List.Perm.refl _
theorem R8{α:Type}(κ:α->List Int):∀l:List α,(P2 κ l).Perm l
  |[]=>List.Perm.refl _
  |x::r=>(a7P κ x _).trans ((R8 κ r).cons x)
theorem b3i{α:Type}(κ:α->List Int)(hl:∀x y,(κ x).length=(κ y).length)(x:α):∀l:List α,l.Pairwise (λx y=>¬A0 (κ y) (κ x)<0)->(put κ x l).Pairwise (λx y=>¬A0 (κ y) (κ x)<0)
  |[],_=>List.pairwise_singleton _ _
  |y::r,h=>by
    rw[put];obtain⟨h1,h2⟩:=List.pairwise_cons.1 h;split
    · rename_i hlt
      refine List.pairwise_cons.2 ⟨λz hz=>?_,b3i κ hl x r h2⟩;rcases List.mem_cons.1 ((a7P κ x r).mem_iff.1 hz) with e|e
      · subst e
        have:=T_ (κ y) (κ z);omega
      · exact h1 z e
    · rename_i hlt
      refine List.pairwise_cons.2 ⟨λz hz=>?_,h⟩;rcases List.mem_cons.1 hz with e|e
      · subst e;exact hlt
      · have g:=h1 z e
        have:=(a6q κ hl).ntrans z y x (by simpa using g) (by simpa using hlt);simpa using this
theorem a1S{α:Type}(κ:α->List Int)(hl:∀x y,(κ x).length=(κ y).length):∀l:List α,(P2 κ l).Pairwise (λx y=>¬A0 (κ y) (κ x)<0)
  |[]=>List.Pairwise.nil
  |x::r=>b3i κ hl x _ (a1S κ hl r)
theorem c2v:(List.range 256).all (λn=>match a2w (IntKind.wrap .u64 (n:Int)) with|some m=>decide (0<=m/\m<1000)|none=>false)=true:=by kernel_rfl
theorem b4v{n:Nat}(h:n<256):∃m:Nat,a2w (IntKind.wrap .u64 (n:Int))=some (m:Int)/\m<1000:=by
  have h1:=List.all_eq_true.1 c2v n (List.mem_range.2 h);split at h1
  · rename_i m hm
    have h2:=of_decide_eq_true h1;exact⟨m.toNat,by rw[hm];congr 1;omega,by omega⟩
  · cases h1
theorem b8G{us:Us}{l:List TX}(hz:l.length<256)(hu:∀x∈l,(f9 us x).isSome=true)(hi:∀x∈l,∀y∈l,ka us x=ka us y->x=y)(hd wt:Ps):sFA l us hd wt=some (P2 (ka us) l):=by
  obtain⟨m,hm,hm2⟩:=b4v hz;have hc:F6 false us hd wt (λx:TX=>(f9 us x).isSome=true) (H9 us):=λx y hx hy=>b0N hx hy hd wt;have hl:∀x y,(ka us x).length=(ka us y).length:=λ_ _=>rfl;obtain⟨r,h1,h2,h3⟩:=b7c hc (a6q (ka us) hl) l hz hu m hm2;have h2' :List.Perm (α:=TX) r l:=h2;have h1' :sPD false l 0 (l.length:Int) m us hd wt=some r:=h1;rw[sFA,hm,Option.bind_some,h1',Option.bind_some];congr 1;exact a8f (ka us) hl (h2'.trans (R8 _ l).symm) (λx hx y hy=>hi x (h2'.mem_iff.1 hx) y (h2'.mem_iff.1 hy)) h3 (a1S (ka us) hl l)
theorem c65{us:Us}{l:List TL}(hz:l.length<256)(hu:∀x∈l,(f9 us x.m9).isSome=true)(hi:∀x∈l,∀y∈l,ko us x=ko us y->x=y)(hd wt:Ps):sFS l us hd wt=some (P2 (ko us) l):=by
  obtain⟨m,hm,hm2⟩:=b4v hz;have hc:F6 true us hd wt (λx:TL=>(f9 us x.m9).isSome=true) (b_ us):=λx y hx hy=>c3e hx hy hd wt;have hl:∀x y,(ko us x).length=(ko us y).length:=λ_ _=>rfl;obtain⟨r,h1,h2,h3⟩:=b7c hc (a6q (ko us) hl) l hz hu m hm2;have h2' :List.Perm (α:=TL) r l:=h2;have h1' :sPD true l 0 (l.length:Int) m us hd wt=some r:=h1;rw[sFS,hm,Option.bind_some,h1',Option.bind_some];congr 1;exact a8f (ko us) hl (h2'.trans (R8 _ l).symm) (λx hx y hy=>hi x (h2'.mem_iff.1 hx) y (h2'.mem_iff.1 hy)) h3 (a1S (ko us) hl l)
end Go.Proofs.YtddgjfclpknkcaaGreatDoor.Wk
set_option linter.unusedVariables false
set_option linter.unusedSimpArgs false
namespace Go.Proofs.YtddgjfclpknkcaaGreatDoor.Wk
open Go Go.Cn
theorem b36(a b:TX):A0 (F4 a) (F4 b)=0↔a=b:=by
 rw[a2q (F4 a) (F4 b) rfl];obtain⟨x,y,z⟩:=a;obtain⟨x',y',z'⟩:=b;simp[F4]
theorem b83:a08 (λa b=>A0 (F4 a) (F4 b)):=by
 have hs:=a6q F4 (λ_ _=>rfl);refine⟨⟨hs.irrefl,hs.trans,hs.ntrans⟩,λx y h1 h2=>?_⟩;simp only[Go.Proofs.ltOf,decide_eq_false_iff_not] at h1 h2;have a1:=T_ (F4 x) (F4 y);exact(b36 x y).1 (by omega)
theorem c7q(us:Us)(hd wt:Ps)(h:us.length<=1000):a67 us hd wt=some (Z6 (λa b=>A0 (F4 a) (F4 b)) (us.map (·.1))):=by
 simp only[a67,P9,mKU,Option.bind_some];rw[c63 b83 b84 (by simp;unfold maxLen;omega) (by simp;omega)];rfl
end Go.Proofs.YtddgjfclpknkcaaGreatDoor.Wk
