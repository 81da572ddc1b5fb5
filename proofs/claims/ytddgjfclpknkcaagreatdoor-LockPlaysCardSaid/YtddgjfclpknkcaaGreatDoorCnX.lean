import Derived.Test.YtddgjfclpknkcaaGreatDoorCnW
namespace Go.Cn
open Go
theorem u0{x:Int}(h1: -9223372036854775808<=x)(h2:x<9223372036854775808):IntKind.wrap .i64 x=x:=by
 have e:IntKind.wrap .i64 x=if 9223372036854775808<=x%18446744073709551616 then x%18446744073709551616 - 18446744073709551616 else x%18446744073709551616:=by
  simp[IntKind.wrap,IntKind.bits,IntKind.signed]
 rw[e];split<;>omega
theorem b9p{x:Int}(h1:0<=x)(h2:x<18446744073709551616):IntKind.wrap .u64 x=x:=by
 simp only[IntKind.wrap,IntKind.bits,IntKind.signed,Bool.false_and,Bool.false_eq_true,if_false];omega
theorem b0G{x:Int}(h1:0<=x)(h2:x<4294967296):IntKind.wrap .u32 x=x:=by
 simp only[IntKind.wrap,IntKind.bits,IntKind.signed,Bool.false_and,Bool.false_eq_true,if_false];omega
def d_(a b:Int):Int:=if a<b then -1 else if b<a then 1 else 0
def A0:List Int->List Int->Int
 |a::l,b::m=>if a<b then -1 else if b<a then 1 else A0 l m
 |_,_=>0
theorem F0{n:Nat}(h:n<1180591620717411303424):n<big:=by rw[N1];exact h
def wfC:LV->Prop
 | .int k n=>(Lit.int k n).wf=true
 | .str l=>l.length<=maxLen
 |_=>True
def X5(l:List LV):Prop:=∀x∈l,wfC x
theorem b9h{n:Int}(h:wfC (.int .u8 n)):0<=n/\n<256:=by
 simp[wfC,Lit.wf,IntKind.min,IntKind.max,IntKind.signed,IntKind.bits] at h;omega
theorem b9g{n:Int}(h:wfC (.int .u32 n)):0<=n/\n<4294967296:=by
 simp[wfC,Lit.wf,IntKind.min,IntKind.max,IntKind.signed,IntKind.bits] at h;omega
section
variable {α S R:Type}
end
section
variable {α S R:Type}
theorem R0[Inhabited α]{l:List α}{i:Nat}(h:i<l.length):l.getD i default∈l:=by
 rw[List.getD_eq_getElem?_getD,List.getElem?_eq_getElem h];exact List.getElem_mem h
end
section
variable {α β:Type}[DecidableEq α]
theorem a1r(m:List (α×β))(k:α)(v:β):(p7 m k v).length=if(f9 m k).isSome then m.length else m.length+1:=by
 induction m with
 |nil=>rfl
 |cons e m ih=>
  obtain⟨a,b⟩:=e;simp only[p7,f9];by_cases h:k=a
  ·simp[h]
  ·simp only[if_neg h,List.length_cons,ih];split<;>rfl
end
end Go.Cn
