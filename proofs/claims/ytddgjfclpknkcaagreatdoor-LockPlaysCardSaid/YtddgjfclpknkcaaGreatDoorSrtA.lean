import Derived.Test.YtddgjfclpknkcaaGreatDoorLckW
import Derived.Test.YtddgjfclpknkcaaGreatDoorCnX
import Derived.Sort.LotA
import Derived.Sort.LotB
import Derived.Sort.LotC
import Derived.Sort.LotD1
set_option linter.unusedVariables false
set_option linter.unusedSimpArgs false
set_option linter.unusedSectionVars false
namespace Go.Proofs.YtddgjfclpknkcaaGreatDoor.Wk
open Go Go.Cn Go.Sort
section
variable {bb:Bool}{uu:UT}{hh ww:PT}{S:E_ bb->Prop}{cf:E_ bb->E_ bb->Int}
theorem dT{p:Prop}[Decidable p](h:p):decide p=true:=decide_eq_true h
theorem dF{p:Prop}[Decidable p](h:¬p):¬decide p=true:=by simp[h]
def F6(bb:Bool)(uu:UT)(hh ww:PT)(S:E_ bb->Prop)(cf:E_ bb->E_ bb->Int):Prop:=∀x y,S x->S y->M2 bb uu hh ww x y=some (cf x y)
def lc(cf:E_ bb->E_ bb->Int)(x y:E_ bb):Bool:=decide (cf x y<0)
def x8(S:E_ bb->Prop)(d:Array (E_ bb)):Prop:=∀i,i<d.size->S d[i]!
theorem x8.swp{d:Array (E_ bb)}(h:x8 S d){i j:Nat}(hi:i<d.size)(hj:j<d.size):x8 S (swp d i j):=λk hk=>by
 rw[swp_size] at hk;rw[swp_get d hi hj k];split
 ·exact h _ hi
 ·split
  ·exact h _ hj
  ·exact h _ hk
theorem F6.at(hc:F6 bb uu hh ww S cf){d:Array (E_ bb)}(h:x8 S d){i j:Nat}(hi:i<d.size)(hj:j<d.size):M2 bb uu hh ww d[i]! d[j]! =some (cf d[i]! d[j]!):=hc _ _ (h _ hi) (h _ hj)
theorem gI{α β:Type}{d:Array α}{x:Int}{a:Option β}(h0:0<=x)(h1:x<(d.size:Int)):(if 0<=x/\x<((d.toList.length:Nat):Int) then a else none)=a:=if_pos ⟨h0,by simpa using h1⟩
theorem gd(d:Array (E_ bb))(n:Nat):d.toList.getD n default=d[n]!:=by
 rw[List.getD_eq_getElem?_getD,Array.getElem?_toList,Array.getElem!_eq_getD];simp[Array.getD_eq_getD_getElem?]
theorem sw(d:Array (E_ bb))(i j:Nat):(d.toList.set i d[j]!).set j d[i]! =(swp d i j).toList:=by simp[swp]
theorem U0(d:Array (E_ bb))(n:Nat)(x:E_ bb):(d.toList.set n x).length=d.size:=by simp
theorem S1{α β:Type}{d e:Array α}{a:Option β}(h:e.size=d.size):(if d.toList.length=e.toList.length then a else none)=a:=if_pos (by simp[h])
theorem b5W(hc:F6 bb uu hh ww S cf)(data:List (E_ bb))(a:Nat)(B:Int)(i:Nat)(k0:Int->List (E_ bb)->Option (List (E_ bb))):∀(fuel j:Nat) (d:Array (E_ bb)),j<fuel->j<d.size->d.size<4611686018427387904->x8 S d->
  a1L bb data a B uu hh ww i k0 fuel j d.toList=k0 (IntKind.wrap .i64 (i+1)) (insInner (lc cf) a j d).toList
 |0,_,_,h,_,_,_=>by omega
 |fuel+1,0,d,_,_,_,_=>by
  rw[a1L,if_neg (by simp),insInner]
 |fuel+1,j+1,d,hf,hj,hz,hS=>by
  rw[a1L];have e1:IntKind.wrap .i64 (((j+1:Nat):Int) - 1)=(j:Int):=by rw[u0 (by omega) (by omega)];omega
  by_cases ha:a<j+1
  ·rw[if_pos (by simp;omega),gI (by omega) (by omega),e1,gI (by omega) (by omega)]
   simp only[Int.toNat_natCast,gd,Option.bind_some,hc.at hS (show j+1<d.size from hj) (show j<d.size by omega)];by_cases hl:cf d[j+1]! d[j]!<0
   ·rw[if_pos (by simpa using hl),a96,e1,gI (by omega) (by omega)]
    simp only[Int.toNat_natCast,gd,Option.bind_some];rw[gI (by omega) (by omega),if_pos (by rw[U0];omega),sw,b5W hc data a B i k0 fuel j _ (by omega) (by rw[swp_size];omega) (by rw[swp_size];exact hz) (hS.swp hj (by omega))];rw[insInner,if_pos (by simp[lc,hl];omega)]
   ·rw[if_neg (by simpa using hl),a95,insInner,if_neg (by simp[lc,hl])]
  ·rw[if_neg (by simp;omega),insInner,if_neg (by simp;omega)]
theorem x8.insInner(a:Nat):∀(j:Nat) (d:Array (E_ bb)),j<d.size->x8 S d->x8 S (insInner (lc cf) a j d)
 |0,d,_,h=>by rw[Go.Sort.insInner];exact h
 |j+1,d,hj,h=>by
  rw[Go.Sort.insInner];split
  ·exact x8.insInner a j _ (by rw[swp_size];omega) (h.swp hj (by omega))
  ·exact h
theorem a6U(lt:E_ bb->E_ bb->Bool)(a:Nat):∀(j:Nat) (d:Array (E_ bb)),(Go.Sort.insInner lt a j d).size=d.size
 |0,d=>by rw[Go.Sort.insInner]
 |j+1,d=>by
  rw[Go.Sort.insInner];split
  ·rw[a6U lt a j,swp_size]
  ·rfl
theorem N1:big=1180591620717411303424:=by unfold big;rfl
theorem b5V(hc:F6 bb uu hh ww S cf)(data:List (E_ bb))(a b:Nat):∀(fuel i:Nat) (d:Array (E_ bb)),b - i<fuel->b<=d.size->d.size<4611686018427387904->x8 S d->
  a23 bb data a b uu hh ww fuel i d.toList=some (insOuter (lc cf) a b i d).toList
 |0,_,_,h,_,_,_=>by omega
 |fuel+1,i,d,hf,hb,hz,hS=>by
  rw[a23,insOuter];by_cases h:i<b
  ·rw[if_pos (by simpa using h),if_pos h,b5W hc data a b i _ big i d (by rw[N1];omega) (by omega) hz hS,u0 (by omega) (by omega)]
   exact b5V hc data a b fuel (i+1) _ (by omega) (by rw[a6U];exact hb) (by rw[a6U];exact hz) (x8.insInner a i d (by omega) hS)
  ·rw[if_neg (by simpa using h),if_neg h]
theorem c1s(hc:F6 bb uu hh ww S cf)(a b:Nat)(d:Array (E_ bb))(hb:b<=d.size)(hab:a<=b)(hz:d.size<4611686018427387904)(hS:x8 S d):
  sIN bb d.toList a b uu hh ww=some (insertionSort (lc cf) d a b).toList:=by
 rw[sIN,u0 (by omega) (by omega),insertionSort];exact b5V hc _ a b big (a+1) d (by rw[N1];omega) hb hz hS
theorem x8.insOuter(a b n:Nat):∀(i:Nat) (d:Array (E_ bb)),b - i=n->b<=d.size->x8 S d->x8 S (insOuter (lc cf) a b i d)/\(insOuter (lc cf) a b i d).size=d.size:=by
 induction n with
 |zero=>intro i d h hb hS;rw[Go.Sort.insOuter,if_neg (by omega)];exact⟨hS,rfl⟩
 |succ n ih=>
  intro i d h hb hS;rw[Go.Sort.insOuter,if_pos (by omega)];have:=ih (i+1) (Go.Sort.insInner (lc cf) a i d) (by omega) (by rw[a6U];exact hb) (x8.insInner a i d (by omega) hS);rw[a6U] at this;exact this
theorem b0r(hc:F6 bb uu hh ww S cf)(data:List (E_ bb))(LO:Int)(hi first:Nat):∀(fuel root:Nat) (d:Array (E_ bb)),hi - root<fuel->root<=hi->first+hi<=d.size->d.size<2305843009213693952->x8 S d->
  Z_ bb data LO hi first uu hh ww fuel root d.toList=some (siftDown (lc cf) hi first root d).toList/\x8 S (siftDown (lc cf) hi first root d)/\(siftDown (lc cf) hi first root d).size=d.size
 |0,_,_,h,_,_,_,_=>by omega
 |fuel+1,root,d,hf,hr,hb,hz,hS=>by
  rw[Z_,siftDown,u0 (x:=2 * (root:Int)) (by omega) (by omega),u0 (by omega) (by omega),Option.bind_some];have t1:((first:Int)+(root:Int)).toNat=first+root:=by omega
  have t2:((first:Int)+(2 * (root:Int)+1)).toNat=first+(2 * root+1):=by omega
  have t3:((first:Int)+(2 * (root:Int)+1)+1).toNat=first+(2 * root+1)+1:=by omega
  have t4:((first:Int)+(2 * (root:Int)+1+1)).toNat=first+(2 * root+2):=by omega
  by_cases h:hi<=2 * root+1
  ·rw[if_pos (by simp;omega),dif_pos (by omega)];exact⟨rfl,hS,rfl⟩
  ·rw[if_neg (by simp;omega),dif_neg (by omega),u0 (x:=2 * (root:Int)+1+1) (by omega) (by omega),u0 (x:=(first:Int)+(2 * (root:Int)+1)) (by omega) (by omega),u0 (x:=(first:Int)+(2 * (root:Int)+1)+1) (by omega) (by omega),u0 (x:=(first:Int)+(root:Int)) (by omega) (by omega)]
   have big1:first+root<d.size:=by omega
   have big2:first+(2 * root+1)<d.size:=by omega
   by_cases h2:2 * root+2<hi
   ·have big3:first+(2 * root+1)+1<d.size:=by omega
    have big4:first+(2 * root+2)<d.size:=by omega
    rw[if_pos (by simp;omega),gI (by omega) (by omega),Option.bind_some,Option.bind_some,gI (by omega) (by omega),t2,t3,gd,gd,hc.at hS big2 big3,Option.bind_some];by_cases hl:cf d[first+(2 * root+1)]! d[first+(2 * root+1)+1]!<0
    ·rw[if_pos (by simpa using hl),if_pos (by simp[lc,hl];omega),b0n,u0 (x:=(first:Int)+(root:Int)) (by omega) (by omega),u0 (x:=2 * (root:Int)+1+1) (by omega) (by omega),u0 (x:=(first:Int)+(2 * (root:Int)+1+1)) (by omega) (by omega),gI (by omega) (by omega)]
     simp only[Option.bind_some];rw[gI (by omega) (by omega)];simp only[t1,t4,gd,hc.at hS big1 big4,Option.bind_some];by_cases hm:cf d[first+root]! d[first+(2 * root+2)]!<0
     ·rw[if_neg (by simpa using hm),if_pos (by rw[U0];omega),sw,if_neg (by simp[lc,hm]),dif_pos (by omega)]
      have ih:=b0r hc data LO hi first fuel (2 * root+2) (swp d (first+root) (first+(2 * root+2))) (by omega) (by omega) (by rw[swp_size];omega) (by rw[swp_size];exact hz) (hS.swp big1 big4)
      rw[swp_size] at ih;exact ih
     ·rw[if_pos (by simpa using hm),if_pos (by simp[lc,hm])];exact⟨rfl,hS,rfl⟩
    ·rw[if_neg (by simpa using hl),if_neg (by simp[lc,hl]),b0o,u0 (x:=(first:Int)+(root:Int)) (by omega) (by omega),u0 (x:=(first:Int)+(2 * (root:Int)+1)) (by omega) (by omega),gI (by omega) (by omega)]
     simp only[Option.bind_some];rw[gI (by omega) (by omega)];simp only[t1,t2,gd,hc.at hS big1 big2,Option.bind_some];by_cases hm:cf d[first+root]! d[first+(2 * root+1)]!<0
     ·rw[if_neg (by simpa using hm),if_pos (by rw[U0];omega),sw,if_neg (by simp[lc,hm])]
      have ih:=b0r hc data LO hi first fuel (2 * root+1) (swp d (first+root) (first+(2 * root+1))) (by omega) (by omega) (by rw[swp_size];omega) (by rw[swp_size];exact hz) (hS.swp big1 big2)
      rw[swp_size] at ih;exact ih
     ·rw[if_pos (by simpa using hm),if_pos (by simp[lc,hm])];exact⟨rfl,hS,rfl⟩
   ·have hx:¬((decide (2 * root+1+1<hi)&&lc cf d[first+(2 * root+1)]! d[first+(2 * root+1)+1]!)=true):=by simp;omega
    rw[if_neg hx,if_neg (by simp;omega),gI (by omega) (by omega),Option.bind_some,gI (by omega) (by omega),Option.bind_some,t1,t2,gd,gd,hc.at hS big1 big2,Option.bind_some];by_cases hm:cf d[first+root]! d[first+(2 * root+1)]!<0
    ·rw[if_neg (by simpa using hm),b0p,u0 (x:=(first:Int)+(root:Int)) (by omega) (by omega),u0 (x:=(first:Int)+(2 * (root:Int)+1)) (by omega) (by omega),gI (by omega) (by omega)]
     simp only[Option.bind_some];rw[gI (by omega) (by omega)];simp only[t1,t2,gd];rw[if_pos (by rw[U0];omega),sw,if_neg (by simp[lc,hm])];have ih:=b0r hc data LO hi first fuel (2 * root+1) (swp d (first+root) (first+(2 * root+1))) (by omega) (by omega) (by rw[swp_size];omega) (by rw[swp_size];exact hz) (hS.swp big1 big2)
     rw[swp_size] at ih;exact ih
    ·rw[if_pos (by simpa using hm),if_pos (by simp[lc,hm])];exact⟨rfl,hS,rfl⟩
theorem b8w(hc:F6 bb uu hh ww S cf)(hi first root:Nat)(d:Array (E_ bb))(hr:root<=hi)(hb:first+hi<=d.size)(hz:d.size<2305843009213693952)(hS:x8 S d):
  sSD bb d.toList root hi first uu hh ww=some (siftDown (lc cf) hi first root d).toList/\x8 S (siftDown (lc cf) hi first root d)/\(siftDown (lc cf) hi first root d).size=d.size:=by
 rw[sSD];exact b0r hc _ _ hi first big root d (by rw[N1];omega) hr hb hz hS
theorem b5Q(hc:F6 bb uu hh ww S cf)(data:List (E_ bb))(a:Nat)(B:Int):∀(k fuel:Nat) (d:Array (E_ bb)),k<fuel->a+k<=d.size->d.size<2305843009213693952->x8 S d->
  a21 bb data a B uu hh ww fuel ((k:Int) - 1) d.toList=some (heapPop (lc cf) a k d).toList/\x8 S (heapPop (lc cf) a k d)/\(heapPop (lc cf) a k d).size=d.size
 |_,0,_,h,_,_,_=>by omega
 |0,fuel+1,d,_,_,_,hS=>by
  rw[a21,if_neg (by simp),heapPop];exact⟨rfl,hS,rfl⟩
 |k+1,fuel+1,d,hf,hb,hz,hS=>by
  have e1:((k+1:Nat):Int) - 1=(k:Int):=by omega
  rw[a21,if_pos (dT (by omega)),heapPop,e1,u0 (x:=(a:Int)+(k:Int)) (by omega) (by omega),gI (by omega) (by omega),Option.bind_some,gI (by omega) (by omega)];have t1:((a:Int)+(k:Int)).toNat=a+k:=by omega
  have b1:a<d.size:=by omega
  have b2:a+k<d.size:=by omega
  simp only[t1,Int.toNat_natCast,gd,Option.bind_some];rw[if_pos (by rw[U0];omega),sw];have h:=b8w hc k a 0 (swp d a (a+k)) (by omega) (by rw[swp_size];omega) (by rw[swp_size];exact hz) (hS.swp b1 b2);rw[swp_size] at h;have h1:sSD bb (swp d a (a+k)).toList 0 k a uu hh ww=_:=h.1;rw[h1,Option.bind_some,S1 h.2.2,u0 (by omega) (by omega)];have ih:=b5Q hc data a B k fuel (siftDown (lc cf) k a 0 (swp d a (a+k))) (by omega) (by rw[h.2.2];omega) (by rw[h.2.2];exact hz) h.2.1;rw[h.2.2] at ih;exact ih
theorem b5P(hc:F6 bb uu hh ww S cf)(data:List (E_ bb))(a b:Nat)(hab:a<=b):∀(k fuel:Nat) (d:Array (E_ bb)),k<fuel->k<=b - a+1->b<=d.size->d.size<2305843009213693952->x8 S d->
  a20 bb data a b uu hh ww fuel ((k:Int) - 1) d.toList=some (heapPop (lc cf) a (b - a) (heapBuild (lc cf) (b - a) a k d)).toList/\x8 S (heapPop (lc cf) a (b - a) (heapBuild (lc cf) (b - a) a k d))/\(heapPop (lc cf) a (b - a) (heapBuild (lc cf) (b - a) a k d)).size=d.size
 |_,0,_,h,_,_,_,_=>by omega
 |0,fuel+1,d,_,_,hb,hz,hS=>by
  rw[a20,if_neg (by simp),heapBuild,u0 (x:=(b:Int) - (a:Int)) (by omega) (by omega),u0 (by omega) (by omega),Option.bind_some];have e:(b:Int) - (a:Int) - 1=((b - a:Nat):Int) - 1:=by omega
  rw[e];exact b5Q hc data a b (b - a) big d (by rw[N1];omega) (by omega) hz hS
 |k+1,fuel+1,d,hf,hk,hb,hz,hS=>by
  have e1:((k+1:Nat):Int) - 1=(k:Int):=by omega
  have e2:(b:Int) - (a:Int)=((b - a:Nat):Int):=by omega
  rw[a20,if_pos (dT (by omega)),heapBuild,e1,u0 (x:=(b:Int) - (a:Int)) (by omega) (by omega),e2];have h:=b8w hc (b - a) a k d (by omega) (by omega) hz hS;rw[h.1,Option.bind_some,S1 h.2.2,u0 (by omega) (by omega)];have ih:=b5P hc data a b hab k fuel (siftDown (lc cf) (b - a) a k d) (by omega) (by omega) (by rw[h.2.2];exact hb) (by rw[h.2.2];exact hz) h.2.1;rw[h.2.2] at ih;exact ih
theorem c1d(hc:F6 bb uu hh ww S cf)(a b:Nat)(d:Array (E_ bb))(hab:a<b)(hb:b<=d.size)(hz:d.size<2305843009213693952)(hS:x8 S d):
  sHP bb d.toList a b uu hh ww=some (heapSort (lc cf) d a b).toList:=by
 rw[sHP,u0 (x:=(b:Int) - (a:Int)) (by omega) (by omega),u0 (by omega) (by omega),Option.bind_some,heapSort];have e:(Int.tdiv ((b:Int) - (a:Int) - 1) 2)=(((b - a - 1) / 2+1:Nat):Int) - 1:=by
  rw[Int.tdiv_eq_ediv_of_nonneg (by omega)];omega
 rw[e,u0 (by omega) (by omega)];exact(b5P hc _ a b (by omega) _ big d (by rw[N1];omega) (by omega) hb hz hS).1
end
end Go.Proofs.YtddgjfclpknkcaaGreatDoor.Wk
