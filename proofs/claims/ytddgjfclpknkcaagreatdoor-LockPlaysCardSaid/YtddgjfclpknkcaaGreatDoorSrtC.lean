import Derived.Test.YtddgjfclpknkcaaGreatDoorSrtB
import Derived.Sort.LotD3
set_option linter.unusedVariables false
set_option linter.unusedSimpArgs false
set_option linter.unusedSectionVars false
namespace Go.Proofs.YtddgjfclpknkcaaGreatDoor.Wk
open Go Go.Cn Go.Sort
section
variable {bb:Bool}{uu:UT}{hh ww:PT}{S:E_ bb->Prop}{cf:E_ bb->E_ bb->Int}
theorem pe2(hc:F6 bb uu hh ww S cf)(data:List (E_ bb))(a:Nat)(B pv:Int)(d:Array (E_ bb))(hS:x8 S d)(hz:d.size<2305843009213693952)(i2:Nat)(ha:a<i2)(k0:Int->Int->List (E_ bb)->Option (Int×List (E_ bb))):∀(fuel j2:Nat),j2<fuel->j2<d.size->
  a0w bb data a B pv uu hh ww d.toList i2 k0 fuel j2=a78 bb data a B pv uu hh ww d.toList i2 (scanDown (λx=>lc cf d[a]! x) d i2 j2:Nat) k0
 |0,_,h,_=>by omega
 |fuel+1,0,_,_=>by
  rw[a0w,if_neg (dF (by omega)),scanDown];rfl
 |fuel+1,j2+1,hf,hj=>by
  rw[a0w,scanDown];by_cases h:i2<=j2+1
  ·rw[if_pos (dT (by omega)),gI (by omega) (by omega),gI (by omega) (by omega)]
   simp only[Int.toNat_natCast,gd,Option.bind_some,hc.at hS (show a<d.size by omega) (show j2+1<d.size by omega)];by_cases hl:cf d[a]! d[j2+1]!<0
   ·have hx:(decide (i2<=j2+1)&&lc cf d[a]! d[j2+1]!)=true:=by simp[lc,hl,h]
    have e1:((j2+1:Nat):Int) - 1=(j2:Int):=by omega
    rw[if_pos hx,if_pos (by simpa using hl),b0i,e1,u0 (by omega) (by omega)];exact pe2 hc data a B pv d hS hz i2 ha k0 fuel j2 (by omega) (by omega)
   ·have hx:¬((decide (i2<=j2+1)&&lc cf d[a]! d[j2+1]!)=true):=by simp[lc,hl]
    rw[if_neg hx,if_neg (by simpa using hl)]
  ·have hx:¬((decide (i2<=j2+1)&&lc cf d[a]! d[j2+1]!)=true):=by simp[h]
   rw[if_neg hx,if_neg (dF (by omega))];rfl
theorem pe1(hc:F6 bb uu hh ww S cf)(data:List (E_ bb))(a:Nat)(B pv:Int)(d:Array (E_ bb))(hS:x8 S d)(hz:d.size<2305843009213693952)(j:Nat)(hj:j<d.size)(k0:Int->Int->List (E_ bb)->Option (Int×List (E_ bb))):∀(fuel i2:Nat),j+1 - i2<fuel->a<i2->
  a3f bb data a B pv uu hh ww j d.toList k0 fuel i2=a0w bb data a B pv uu hh ww d.toList (scanUp (λx=>!lc cf d[a]! x) d j i2:Nat) k0 big j
 |0,_,h,_=>by omega
 |fuel+1,i2,hf,ha=>by
  rw[a3f,scanUp];by_cases h:i2<=j
  ·rw[if_pos (dT (by omega)),gI (by omega) (by omega),gI (by omega) (by omega)]
   simp only[Int.toNat_natCast,gd,Option.bind_some,hc.at hS (show a<d.size by omega) (show i2<d.size by omega)];by_cases hl:cf d[a]! d[i2]!<0
   ·have hx:¬((decide (i2<=j)&&!lc cf d[a]! d[i2]!)=true):=by simp[lc,hl]
    rw[if_neg hx,if_neg (by simpa using hl)]
   ·have hx:(decide (i2<=j)&&!lc cf d[a]! d[i2]!)=true:=by simp[lc,hl,h]
    rw[if_pos hx,if_pos (by simpa using hl),b0h,u0 (by omega) (by omega)];exact pe1 hc data a B pv d hS hz j hj k0 fuel (i2+1) (by omega) (by omega)
  ·have hx:¬((decide (i2<=j)&&!lc cf d[a]! d[i2]!)=true):=by simp[h]
   rw[if_neg hx,if_neg (dF (by omega))]
theorem pe0(hc:F6 bb uu hh ww S cf)(data:List (E_ bb))(a:Nat)(B pv:Int):∀(n fuel i j:Nat) (d:Array (E_ bb)),j+1 - i<=n->n<fuel->a<i->j<d.size->d.size<2305843009213693952->x8 S d->
  a3e bb data a B pv uu hh ww fuel i j d.toList=some (((partEqLoop (lc cf) a i j d).1:Int),(partEqLoop (lc cf) a i j d).2.toList)
 |n,0,i,j,d,_,h,_,_,_,_=>by omega
 |n,fuel+1,i,j,d,hn,hf,ha,hj,hz,hS=>by
  have hu:=scanUp_ge (λx=>!lc cf d[a]! x) d j i;have hd:=scanDown_le (λx=>lc cf d[a]! x) d (scanUp (λx=>!lc cf d[a]! x) d j i) j;rw[a3e,pe1 hc data a B pv d hS hz j hj _ big i (by rw[N1];omega) ha,pe2 hc data a B pv d hS hz _ (by omega) _ big j (by rw[N1];omega) hj,a78,partEqLoop_eq];generalize hi2:scanUp (λx=>!lc cf d[a]! x) d j i=i2 at hu hd⊢;generalize hj2:scanDown (λx=>lc cf d[a]! x) d i2 j=j2 at hd⊢;by_cases h:i2>j2
  ·rw[if_pos (dT (by omega)),if_pos h]
  ·rw[if_neg (dF (by omega)),if_neg h,gI (by omega) (by omega),gI (by omega) (by omega)]
   simp only[Int.toNat_natCast,gd,Option.bind_some];have e1:(j2:Int) - 1=((j2 - 1:Nat):Int):=by omega
   rw[if_pos (by rw[U0];omega),sw,u0 (by omega) (by omega),u0 (by omega) (by omega),e1];cases n with
   |zero=>omega
   |succ n=>exact pe0 hc data a B pv n fuel (i2+1) (j2 - 1) _ (by omega) (by omega) (by omega) (by rw[swp_size];omega) (by rw[swp_size];exact hz) (hS.swp (by omega) (by omega))
theorem c3D(hc:F6 bb uu hh ww S cf)(a b pivot:Nat)(d:Array (E_ bb))(hp1:a<=pivot)(hp2:pivot<b)(hb:b<=d.size)(hz:d.size<2305843009213693952)(hS:x8 S d):
  sPE bb d.toList a b pivot uu hh ww=some (((partitionEqual (lc cf) d a b pivot).1:Int),(partitionEqual (lc cf) d a b pivot).2.toList):=by
 have e1:(b:Int) - 1=((b - 1:Nat):Int):=by omega
 rw[sPE,gI (by omega) (by omega),gI (by omega) (by omega)];simp only[Int.toNat_natCast,gd,Option.bind_some];rw[if_pos (by rw[U0];omega),sw,u0 (by omega) (by omega),u0 (by omega) (by omega),e1];exact pe0 hc _ a b pivot d.size big (a+1) (b - 1) (swp d a pivot) (by omega) (by rw[N1];omega) (by omega) (by rw[swp_size];omega) (by rw[swp_size];exact hz) (hS.swp (by omega) (by omega))
theorem pt4(hc:F6 bb uu hh ww S cf)(data:List (E_ bb))(a:Nat)(B pv:Int)(d:Array (E_ bb))(hS:x8 S d)(hz:d.size<2305843009213693952)(i2:Nat)(ha:a<i2)(has:a<d.size)(k0:Int->Int->List (E_ bb)->Option (Int×Bool×List (E_ bb))):∀(fuel j2:Nat),j2<fuel->j2<d.size->
  a0r bb data a B pv uu hh ww d.toList i2 k0 fuel j2=a7Z bb data a B pv uu hh ww d.toList i2 (scanDown (λx=>!lc cf x d[a]!) d i2 j2:Nat) k0
 |0,_,h,_=>by omega
 |fuel+1,0,_,_=>by
  rw[a0r,if_neg (dF (by omega)),scanDown];rfl
 |fuel+1,j2+1,hf,hj=>by
  rw[a0r,scanDown];by_cases h:i2<=j2+1
  ·rw[if_pos (dT (by omega)),gI (by omega) (by omega),gI (by omega) (by omega)]
   simp only[Int.toNat_natCast,gd,Option.bind_some,hc.at hS (show j2+1<d.size by omega) has];by_cases hl:cf d[j2+1]! d[a]!<0
   ·have hx:¬((decide (i2<=j2+1)&&!lc cf d[j2+1]! d[a]!)=true):=by simp[lc,hl]
    rw[if_neg hx,if_neg (by simpa using hl)]
   ·have hx:(decide (i2<=j2+1)&&!lc cf d[j2+1]! d[a]!)=true:=by simp[lc,hl,h]
    have e1:((j2+1:Nat):Int) - 1=(j2:Int):=by omega
    rw[if_pos hx,if_pos (by simpa using hl),b0b,e1,u0 (by omega) (by omega)];exact pt4 hc data a B pv d hS hz i2 ha has k0 fuel j2 (by omega) (by omega)
  ·have hx:¬((decide (i2<=j2+1)&&!lc cf d[j2+1]! d[a]!)=true):=by simp[h]
   rw[if_neg hx,if_neg (dF (by omega))];rfl
theorem pt3(hc:F6 bb uu hh ww S cf)(data:List (E_ bb))(a:Nat)(B pv:Int)(d:Array (E_ bb))(hS:x8 S d)(hz:d.size<2305843009213693952)(has:a<d.size)(j:Nat)(hj:j<d.size)(k0:Int->Int->List (E_ bb)->Option (Int×Bool×List (E_ bb))):∀(fuel i2:Nat),j+1 - i2<fuel->a<i2->
  a29 bb data a B pv uu hh ww j d.toList k0 fuel i2=a0r bb data a B pv uu hh ww d.toList (scanUp (λx=>lc cf x d[a]!) d j i2:Nat) k0 big j
 |0,_,h,_=>by omega
 |fuel+1,i2,hf,ha=>by
  rw[a29,scanUp];by_cases h:i2<=j
  ·rw[if_pos (dT (by omega)),gI (by omega) (by omega),gI (by omega) (by omega)]
   simp only[Int.toNat_natCast,gd,Option.bind_some,hc.at hS (show i2<d.size by omega) has];by_cases hl:cf d[i2]! d[a]!<0
   ·have hx:(decide (i2<=j)&&lc cf d[i2]! d[a]!)=true:=by simp[lc,hl,h]
    rw[if_pos hx,if_pos (by simpa using hl),b0a,u0 (by omega) (by omega)];exact pt3 hc data a B pv d hS hz has j hj k0 fuel (i2+1) (by omega) (by omega)
   ·have hx:¬((decide (i2<=j)&&lc cf d[i2]! d[a]!)=true):=by simp[lc,hl]
    rw[if_neg hx,if_neg (by simpa using hl)]
  ·have hx:¬((decide (i2<=j)&&lc cf d[i2]! d[a]!)=true):=by simp[h]
   rw[if_neg hx,if_neg (dF (by omega))]
theorem pt2(hc:F6 bb uu hh ww S cf)(data:List (E_ bb))(a:Nat)(B pv:Int):∀(n fuel i j:Nat) (d:Array (E_ bb)),j+1 - i<=n->n<fuel->a<i->a<d.size->j<d.size->d.size<2305843009213693952->x8 S d->
  a1N bb data a B pv uu hh ww fuel i j d.toList=some (((partLoop (lc cf) a i j d).1:Int),false,(swp (partLoop (lc cf) a i j d).2 (partLoop (lc cf) a i j d).1 a).toList)
 |n,0,i,j,d,_,h,_,_,_,_,_=>by omega
 |n,fuel+1,i,j,d,hn,hf,ha,has,hj,hz,hS=>by
  have hu:=scanUp_ge (λx=>lc cf x d[a]!) d j i;have hd:=scanDown_le (λx=>!lc cf x d[a]!) d (scanUp (λx=>lc cf x d[a]!) d j i) j;rw[a1N,pt3 hc data a B pv d hS hz has j hj _ big i (by rw[N1];omega) ha,pt4 hc data a B pv d hS hz _ (by omega) has _ big j (by rw[N1];omega) hj,a7Z,partLoop_eq];generalize hi2:scanUp (λx=>lc cf x d[a]!) d j i=i2 at hu hd⊢;generalize hj2:scanDown (λx=>!lc cf x d[a]!) d i2 j=j2 at hd⊢;by_cases h:i2>j2
  ·rw[if_pos (dT (by omega)),if_pos h,gI (by omega) (by omega),gI (by omega) (by omega)]
   simp only[Int.toNat_natCast,gd,Option.bind_some];rw[if_pos (by rw[U0];omega),sw]
  ·rw[if_neg (dF (by omega)),if_neg h,gI (by omega) (by omega),gI (by omega) (by omega)]
   simp only[Int.toNat_natCast,gd,Option.bind_some];have e1:(j2:Int) - 1=((j2 - 1:Nat):Int):=by omega
   rw[if_pos (by rw[U0];omega),sw,u0 (by omega) (by omega),u0 (by omega) (by omega),e1];cases n with
   |zero=>omega
   |succ n=>exact pt2 hc data a B pv n fuel (i2+1) (j2 - 1) _ (by omega) (by omega) (by omega) (by rw[swp_size];omega) (by rw[swp_size];omega) (by rw[swp_size];exact hz) (hS.swp (by omega) (by omega))
theorem pt1(hc:F6 bb uu hh ww S cf)(data y3:List (E_ bb))(a:Nat)(B pv:Int)(d:Array (E_ bb))(hy:y3.set pv.toNat (data.getD (a:Int).toNat default)=d.toList)(hS:x8 S d)(hz:d.size<2305843009213693952)(i2:Nat)(ha:a<i2)(has:a<d.size):∀(fuel j2:Nat),j2<fuel->j2<d.size->
  a0q bb data a B pv uu hh ww i2 y3 fuel j2=a71 bb data a B pv uu hh ww i2 (scanDown (λx=>!lc cf x d[a]!) d i2 j2:Nat) y3
 |0,_,h,_=>by omega
 |fuel+1,0,_,_=>by
  rw[a0q,if_neg (dF (by omega)),scanDown];rfl
 |fuel+1,j2+1,hf,hj=>by
  rw[a0q,scanDown];by_cases h:i2<=j2+1
  ·rw[if_pos (dT (by omega)),hy,gI (by omega) (by omega)]
   simp only[Option.bind_some];rw[gI (by omega) (by omega)];simp only[Int.toNat_natCast,gd,Option.bind_some,hc.at hS (show j2+1<d.size by omega) has];by_cases hl:cf d[j2+1]! d[a]!<0
   ·have hx:¬((decide (i2<=j2+1)&&!lc cf d[j2+1]! d[a]!)=true):=by simp[lc,hl]
    rw[if_neg hx,if_neg (by simpa using hl)]
   ·have hx:(decide (i2<=j2+1)&&!lc cf d[j2+1]! d[a]!)=true:=by simp[lc,hl,h]
    have e1:((j2+1:Nat):Int) - 1=(j2:Int):=by omega
    rw[if_pos hx,if_pos (by simpa using hl),b0d,e1,u0 (by omega) (by omega)];exact pt1 hc data y3 a B pv d hy hS hz i2 ha has fuel j2 (by omega) (by omega)
  ·have hx:¬((decide (i2<=j2+1)&&!lc cf d[j2+1]! d[a]!)=true):=by simp[h]
   rw[if_neg hx,if_neg (dF (by omega))];rfl
theorem pt0(hc:F6 bb uu hh ww S cf)(data y3:List (E_ bb))(a b:Nat)(pv:Int)(d:Array (E_ bb))(hy:y3.set pv.toNat (data.getD (a:Int).toNat default)=d.toList)(hS:x8 S d)(hz:d.size<2305843009213693952)(has:a<d.size)(hb0:0<b)(hb:b<=d.size):∀(fuel i2:Nat),b - i2<fuel->a<i2->
  a28 bb data a b pv uu hh ww y3 fuel i2=a0q bb data a b pv uu hh ww (scanUp (λx=>lc cf x d[a]!) d (b - 1) i2:Nat) y3 big ((b - 1:Nat):Int)
 |0,_,h,_=>by omega
 |fuel+1,i2,hf,ha=>by
  have e1:(b:Int) - 1=((b - 1:Nat):Int):=by omega
  rw[a28,scanUp,u0 (x:=(b:Int) - 1) (by omega) (by omega),e1];by_cases h:i2<=b - 1
  ·rw[if_pos (dT (by omega)),hy,gI (by omega) (by omega)]
   simp only[Option.bind_some];rw[gI (by omega) (by omega)];simp only[Int.toNat_natCast,gd,Option.bind_some,hc.at hS (show i2<d.size by omega) has];by_cases hl:cf d[i2]! d[a]!<0
   ·have hx:(decide (i2<=b - 1)&&lc cf d[i2]! d[a]!)=true:=by simp[lc,hl,h]
    rw[if_pos hx,if_pos (by simpa using hl),b0c,u0 (by omega) (by omega)];exact pt0 hc data y3 a b pv d hy hS hz has hb0 hb fuel (i2+1) (by omega) (by omega)
   ·have hx:¬((decide (i2<=b - 1)&&lc cf d[i2]! d[a]!)=true):=by simp[lc,hl]
    rw[if_neg hx,if_neg (by simpa using hl)]
  ·have hx:¬((decide (i2<=b - 1)&&lc cf d[i2]! d[a]!)=true):=by simp[h]
   rw[if_neg hx,if_neg (dF (by omega))]
theorem b3h(hc:F6 bb uu hh ww S cf)(a b pivot:Nat)(d:Array (E_ bb))(hp1:a<=pivot)(hp2:pivot<b)(hb:b<=d.size)(hz:d.size<2305843009213693952)(hS:x8 S d):
  sPA bb d.toList a b pivot uu hh ww=some (((partition (lc cf) d a b pivot).1:Int),(partition (lc cf) d a b pivot).2.1,(partition (lc cf) d a b pivot).2.2.toList):=by
 rw[sPA,gI (by omega) (by omega),gI (by omega) (by omega)];simp only[Option.bind_some];have hy:(d.toList.set (a:Int).toNat (d.toList.getD (pivot:Int).toNat default)).set (pivot:Int).toNat (d.toList.getD (a:Int).toNat default)=(swp d a pivot).toList:=by
  simp only[Int.toNat_natCast,gd];exact sw d a pivot
 have hS2:x8 S (swp d a pivot):=hS.swp (by omega) (by omega);rw[if_pos (by simp only[Int.toNat_natCast,gd];rw[U0];omega),u0 (by omega) (by omega)];have h0:=pt0 hc d.toList _ a b pivot (swp d a pivot) hy hS2 (by rw[swp_size];exact hz) (by rw[swp_size];omega) (by omega) (by rw[swp_size];exact hb) big (a+1) (by rw[N1];omega) (by omega);have hu:=scanUp_ge (λx=>lc cf x (swp d a pivot)[a]!) (swp d a pivot) (b - 1) (a+1);have h1:=pt1 hc d.toList _ a b pivot (swp d a pivot) hy hS2 (by rw[swp_size];exact hz) (scanUp (λx=>lc cf x (swp d a pivot)[a]!) (swp d a pivot) (b - 1) (a+1)) (by omega) (by rw[swp_size];omega) big (b - 1) (by rw[N1];omega) (by rw[swp_size];omega);have hd:=scanDown_le (λx=>!lc cf x (swp d a pivot)[a]!) (swp d a pivot) (scanUp (λx=>lc cf x (swp d a pivot)[a]!) (swp d a pivot) (b - 1) (a+1)) (b - 1);refine h0.trans (h1.trans ?_);rw[a71,hy,partition];have hsz:(swp d a pivot).size=d.size:=swp_size d a pivot;generalize swp d a pivot=e at hS2 hu hd hsz⊢;dsimp only;generalize scanUp (λx=>lc cf x e[a]!) e (b - 1) (a+1)=i2 at hu hd⊢;generalize scanDown (λx=>!lc cf x e[a]!) e i2 (b - 1)=j2 at hd⊢;by_cases h:i2>j2
 ·rw[if_pos (dT (by omega)),if_pos h,gI (by omega) (by omega)]
  simp only[Option.bind_some];rw[gI (by omega) (by omega)];simp only[Int.toNat_natCast,gd];rw[if_pos (by rw[U0];omega),sw]
 ·rw[if_neg (dF (by omega)),if_neg h,gI (by omega) (by omega)]
  simp only[Option.bind_some];rw[gI (by omega) (by omega)];simp only[Int.toNat_natCast,gd];have e1:(j2:Int) - 1=((j2 - 1:Nat):Int):=by omega
  rw[if_pos (by rw[U0];omega),sw,u0 (by omega) (by omega),u0 (by omega) (by omega),e1];exact pt2 hc _ a b pivot e.size big (i2+1) (j2 - 1) (swp e i2 j2) (by omega) (by rw[N1];omega) (by omega) (by rw[swp_size];omega) (by rw[swp_size];omega) (by rw[swp_size];omega) (hS2.swp (by omega) (by omega))
end
end Go.Proofs.YtddgjfclpknkcaaGreatDoor.Wk
set_option linter.unusedVariables false
set_option linter.unusedSimpArgs false
set_option linter.unusedSectionVars false
namespace Go.Proofs.YtddgjfclpknkcaaGreatDoor.Wk
open Go Go.Cn Go.Sort
section
variable {bb:Bool}{uu:UT}{hh ww:PT}{S:E_ bb->Prop}{cf:E_ bb->E_ bb->Int}
def O3(cf:E_ bb->E_ bb->Int)(a b:Nat)(d:Array (E_ bb))(x:Option (List (E_ bb))):Prop:=∃r:Array (E_ bb),x=some r.toList/\PermIn a b d r/\SortedIn (lc cf) a b r
def HK(S:E_ bb->Prop)(cf:E_ bb->E_ bb->Int)(k0:Int->Int->Int->Bool->Bool->List (E_ bb)->Option (List (E_ bb)))(m:Nat):Prop:=
 ∀(a b limit:Nat) (wb wp:Bool) (d:Array (E_ bb)),limit<1000->b - a<m->a<=b->b<=d.size->d.size<256->x8 S d->Below (lc cf) a b d->O3 cf a b d (k0 a b limit wb wp d.toList)
def HS(uu:UT)(hh ww:PT)(S:E_ bb->Prop)(cf:E_ bb->E_ bb->Int)(self_:List (E_ bb)->Int->Int->Int->UT->PT->PT->Option (List (E_ bb)))(m:Nat):Prop:=
 ∀(a b limit:Nat) (d:Array (E_ bb)),limit<1000->b - a<m->a<=b->b<=d.size->d.size<256->x8 S d->Below (lc cf) a b d->O3 cf a b d (self_ d.toList a b limit uu hh ww)
theorem O3.trans{a b:Nat}{d e:Array (E_ bb)}{x:Option (List (E_ bb))}(hp:PermIn a b d e)(h:O3 cf a b e x):O3 cf a b d x:=by
 obtain⟨r,h1,h2,h3⟩:=h;exact⟨r,h1,permIn_trans _ _ _ _ _ hp h2,h3⟩
theorem b3r(hO:SWO (lc cf)){a b pivot mid:Nat}{ap:Bool}{d d4:Array (E_ bb)}(hp1:a<=pivot)(hp2:pivot<b)(hb:b<=d.size)(hz:d.size<256)(hS:x8 S d)(hB:Below (lc cf) a b d)(hx:partition (lc cf) d a b pivot=(mid,ap,d4))
  {k0:Int->Int->Int->Bool->Bool->List (E_ bb)->Option (List (E_ bb))} {self_:List (E_ bb)->Int->Int->Int->UT->PT->PT->Option (List (E_ bb))} (hk:HK S cf k0 (b - a)) (hs:HS uu hh ww S cf self_ (b - a)) (limit:Nat) (hlim:limit<1000):
  a<=mid/\mid<b/\d4.size=d.size/\
  (∃L:Array (E_ bb),self_ d4.toList a mid limit uu hh ww=some L.toList/\L.size=d.size/\∀w1 w2,O3 cf a b d (k0 ((mid+1:Nat):Int) b limit w1 w2 L.toList))/\
  (∃L:Array (E_ bb),self_ d4.toList ((mid+1:Nat):Int) b limit uu hh ww=some L.toList/\L.size=d.size/\∀w1 w2,O3 cf a b d (k0 a mid limit w1 w2 L.toList)):=by
 obtain⟨h1,h2,h3,h4,h5,h6,h7⟩:=round_part hO (partition_holds _) hp1 hp2 hb hB hx;have hp:=(partition_holds _ hO d a b pivot hp1 hp2 hb).2.2.1;rw[hx] at hp;have hS4:x8 S d4:=hS.perm hb hp;refine⟨h1,h2,h3,?_,?_⟩
 ·obtain⟨L,l1,l2,l3⟩:=hs a mid limit d4 hlim (by omega) h1 (by omega) (by omega) hS4 h4
  refine⟨L,l1,by rw[l2.1,h3],λw1 w2=>?_⟩;obtain⟨hBL,hfin⟩:=h6 L l2 l3;obtain⟨R,r1,r2,r3⟩:=hk (mid+1) b limit w1 w2 L hlim (by omega) (by omega) (by rw[l2.1];omega) (by rw[l2.1];omega) (hS4.perm (by omega) l2) hBL;exact⟨R,r1,(hfin R r2 r3).1,(hfin R r2 r3).2⟩
 ·obtain⟨L,l1,l2,l3⟩:=hs (mid+1) b limit d4 hlim (by omega) (by omega) (by omega) (by omega) hS4 h5
  refine⟨L,l1,by rw[l2.1,h3],λw1 w2=>?_⟩;obtain⟨hBL,hfin⟩:=h7 L l2 l3;obtain⟨R,r1,r2,r3⟩:=hk a mid limit w1 w2 L hlim (by omega) h1 (by rw[l2.1];omega) (by rw[l2.1];omega) (hS4.perm (by omega) l2) hBL;exact⟨R,r1,(hfin R r2 r3).1,(hfin R r2 r3).2⟩
theorem r18(hc:F6 bb uu hh ww S cf)(hO:SWO (lc cf))(data:List (E_ bb))(A B M:Int)(self_:List (E_ bb)->Int->Int->Int->UT->PT->PT->Option (List (E_ bb))){a b pivot:Nat}(limit:Nat)(hlim:limit<1000)(wb wp:Bool){k0:Int->Int->Int->Bool->Bool->List (E_ bb)->Option (List (E_ bb))}(hk:HK S cf k0 (b - a))
  {d:Array (E_ bb)} (ha0:0<a) (hp1:a<=pivot) (hp2:pivot<b) (hb:b<=d.size) (hz:d.size<256) (hS:x8 S d) (hB:Below (lc cf) a b d) (hnl:lc cf d[a - 1]! d[pivot]! =false):
  O3 cf a b d (a0s bb data A B M uu hh ww self_ a b wb wp k0 limit pivot d.toList):=by
 rw[a0s,c3D hc a b pivot d hp1 hp2 hb (by omega) hS,Option.bind_some];have hge:∀i,a<=i->i<b->lc cf d[i]! d[pivot]! =false:=λi hi hi' =>by
  rcases hB with h0|hB
  ·omega
  ·exact hO.ntrans _ _ _ (hB i hi hi') hnl
 have hp:=(partitionEqual_holds _ hO d a b pivot hp1 hp2 hb hge).2.2.1;generalize hx:partitionEqual (lc cf) d a b pivot=p at hp;obtain⟨mid,d4⟩:=p;obtain⟨h1,h2,h3,h4,h5⟩:=round_eq hO (partitionEqual_holds _) ha0 hp1 hp2 hb hB hnl hx;dsimp only at hp⊢;rw[S1 h3];obtain⟨R,r1,r2,r3⟩:=hk mid b limit wb wp d4 hlim (by omega) h2 (by omega) (by omega) (hS.perm hb hp) h4;exact⟨R,r1,(h5 R r2 r3).1,(h5 R r2 r3).2⟩
theorem r20(hc:F6 bb uu hh ww S cf)(hO:SWO (lc cf))(data:List (E_ bb))(A B M:Int){self_:List (E_ bb)->Int->Int->Int->UT->PT->PT->Option (List (E_ bb))}{a b pivot:Nat}(limit:Nat)(hlim:limit<1000){k0:Int->Int->Int->Bool->Bool->List (E_ bb)->Option (List (E_ bb))}(hk:HK S cf k0 (b - a))(hs:HS uu hh ww S cf self_ (b - a))
  {d:Array (E_ bb)} (hp1:a<=pivot) (hp2:pivot<b) (hb:b<=d.size) (hz:d.size<256) (hS:x8 S d) (hB:Below (lc cf) a b d):
  O3 cf a b d (Y_ bb data A B M uu hh ww self_ a b k0 limit pivot d.toList):=by
 rw[Y_,b3h hc a b pivot d hp1 hp2 hb (by omega) hS,Option.bind_some,Option.bind_some];generalize hx:partition (lc cf) d a b pivot=p;obtain⟨mid,ap,d4⟩:=p;obtain⟨h1,h2,h3,⟨L,l1,l2,l3⟩,⟨R,r1,r2,r3⟩⟩:=b3r hO hp1 hp2 hb hz hS hB hx hk hs limit hlim;dsimp only;have e1:((mid:Int)+1)=((mid+1:Nat):Int):=by omega
 rw[u0 (x:=(mid:Int) - (a:Int)) (by omega) (by omega),u0 (x:=(b:Int) - (mid:Int)) (by omega) (by omega),u0 (x:=(mid:Int)+1) (by omega) (by omega),e1,S1 h3,S1 h3,l1,r1,Option.bind_some,Option.bind_some,S1 l2,S1 r2];split
 ·exact l3 _ _
 ·exact r3 _ _
theorem r17(hc:F6 bb uu hh ww S cf)(hO:SWO (lc cf))(data:List (E_ bb))(A B M:Int){self_:List (E_ bb)->Int->Int->Int->UT->PT->PT->Option (List (E_ bb))}{a b pivot:Nat}(limit:Nat)(hlim:limit<1000)(wb wp:Bool){k0:Int->Int->Int->Bool->Bool->List (E_ bb)->Option (List (E_ bb))}(hk:HK S cf k0 (b - a))(hs:HS uu hh ww S cf self_ (b - a))
  {d:Array (E_ bb)} (hp1:a<=pivot) (hp2:pivot<b) (hb:b<=d.size) (hz:d.size<256) (hS:x8 S d) (hB:Below (lc cf) a b d):
  O3 cf a b d (X3 bb data A B M uu hh ww self_ a b wb wp k0 limit pivot d.toList):=by
 rw[X3];by_cases ha:0<a
 ·have e1:(a:Int) - 1=((a - 1:Nat):Int):=by omega
  rw[if_pos (dT (by omega)),u0 (x:=(a:Int) - 1) (by omega) (by omega),e1,gI (by omega) (by omega),Option.bind_some,gI (by omega) (by omega)];simp only[Int.toNat_natCast,gd,hc.at hS (show a - 1<d.size by omega) (show pivot<d.size by omega),Option.bind_some];by_cases hl:cf d[a - 1]! d[pivot]!<0
  ·rw[if_neg (by simpa using hl)]
   exact r20 hc hO data A B M limit hlim hk hs hp1 hp2 hb hz hS hB
  ·rw[if_pos (by simpa using hl)]
   exact r18 hc hO data A B M self_ limit hlim wb wp hk ha hp1 hp2 hb hz hS hB (by simp only[lc,decide_eq_false_iff_not];exact hl)
 ·rw[if_neg (dF (by omega)),b3h hc a b pivot d hp1 hp2 hb (by omega) hS,Option.bind_some,Option.bind_some]
  generalize hx:partition (lc cf) d a b pivot=p;obtain⟨mid,ap,d4⟩:=p;obtain⟨h1,h2,h3,⟨L,l1,l2,l3⟩,⟨R,r1,r2,r3⟩⟩:=b3r hO hp1 hp2 hb hz hS hB hx hk hs limit hlim;dsimp only;have e1:((mid:Int)+1)=((mid+1:Nat):Int):=by omega
  rw[S1 h3,S1 h3,b0f,b0g,u0 (x:=(mid:Int)+1) (by omega) (by omega),e1,l1,r1,Option.bind_some,Option.bind_some,S1 (by rw[l2,h3]),S1 (by rw[r2,h3])];split
  ·exact l3 _ _
  ·exact r3 _ _
theorem r21(hc:F6 bb uu hh ww S cf)(hO:SWO (lc cf))(data:List (E_ bb))(A B M:Int){self_:List (E_ bb)->Int->Int->Int->UT->PT->PT->Option (List (E_ bb))}{a b pivot:Nat}(limit:Nat)(hlim:limit<1000){k0:Int->Int->Int->Bool->Bool->List (E_ bb)->Option (List (E_ bb))}(hk:HK S cf k0 (b - a))(hs:HS uu hh ww S cf self_ (b - a))
  {d:Array (E_ bb)} (hp1:a<=pivot) (hp2:pivot<b) (hb:b<=d.size) (hz:d.size<256) (hS:x8 S d) (hB:Below (lc cf) a b d):
  O3 cf a b d ((sPA bb d.toList a b pivot uu hh ww).bind λy=>if d.toList.length=y.2.2.length then a3d bb data A B M uu hh ww self_ a b limit y k0 else none):=by
 rw[b3h hc a b pivot d hp1 hp2 hb (by omega) hS,Option.bind_some];generalize hx:partition (lc cf) d a b pivot=p;obtain⟨mid,ap,d4⟩:=p;obtain⟨h1,h2,h3,⟨L,l1,l2,l3⟩,⟨R,r1,r2,r3⟩⟩:=b3r hO hp1 hp2 hb hz hS hB hx hk hs limit hlim;dsimp only;have e1:((mid:Int)+1)=((mid+1:Nat):Int):=by omega
 rw[S1 h3,a3d,Option.bind_some];dsimp only;rw[u0 (x:=(mid:Int)+1) (by omega) (by omega),e1,l1,r1,Option.bind_some,Option.bind_some,S1 (by rw[l2,h3]),S1 (by rw[r2,h3])];split
 ·exact l3 _ _
 ·exact r3 _ _
theorem c47(hc:F6 bb uu hh ww S cf)(hO:SWO (lc cf))(data:List (E_ bb))(A B M:Int){self_:List (E_ bb)->Int->Int->Int->UT->PT->PT->Option (List (E_ bb))}{a b pivot:Nat}(limit:Nat)(hlim:limit<1000)(wb wp:Bool){k0:Int->Int->Int->Bool->Bool->List (E_ bb)->Option (List (E_ bb))}(hk:HK S cf k0 (b - a))(hs:HS uu hh ww S cf self_ (b - a))
  {d:Array (E_ bb)} (hp1:a<=pivot) (hp2:pivot<b) (hb:b<=d.size) (hz:d.size<256) (hS:x8 S d) (hB:Below (lc cf) a b d) (ha:0<a):
  O3 cf a b d ((some (d.toList.getD (IntKind.wrap .i64 ((a:Int) - 1)).toNat default)).bind λy=>if 0<=(pivot:Int)/\(pivot:Int)<((d.toList.length:Nat):Int) then(M2 bb uu hh ww y (d.toList.getD (pivot:Int).toNat default)).bind λz=>if((!(decide (z<0))):Bool) then a0s bb data A B M uu hh ww self_ a b wb wp k0 limit pivot d.toList else Y_ bb data A B M uu hh ww self_ a b k0 limit pivot d.toList else none):=by
 have h:=r17 hc hO data A B M limit hlim wb wp hk hs hp1 hp2 hb hz hS hB;rw[X3,if_pos (dT (by omega)),u0 (x:=(a:Int) - 1) (by omega) (by omega),gI (by omega) (by omega)] at h;rw[u0 (x:=(a:Int) - 1) (by omega) (by omega)];exact h
theorem r16(hc:F6 bb uu hh ww S cf)(hO:SWO (lc cf))(data:List (E_ bb))(A B M:Int){self_:List (E_ bb)->Int->Int->Int->UT->PT->PT->Option (List (E_ bb))}{a b pivot:Nat}(limit:Nat)(hlim:limit<1000)(wb wp:Bool){k0:Int->Int->Int->Bool->Bool->List (E_ bb)->Option (List (E_ bb))}(hk:HK S cf k0 (b - a))(hs:HS uu hh ww S cf self_ (b - a))
  {d:Array (E_ bb)} (hp1:a<=pivot) (hp2:pivot<b) (hb:b<=d.size) (hz:d.size<256) (hS:x8 S d) (hB:Below (lc cf) a b d):
  O3 cf a b d (a3b bb data A B M uu hh ww self_ a b wb wp k0 limit pivot d.toList):=by
 obtain⟨hp,hp3⟩:=partialInsertionSort_holds hO d a b (by omega) hb hB;rw[a3b,b7f hc a b d (by omega) hb (by omega) hS,Option.bind_some];generalize partialInsertionSort (lc cf) d a b=p at hp hp3;obtain⟨d3,ok⟩:=p;dsimp only at hp hp3⊢;cases ok with
 |true=>rw[if_pos rfl];exact⟨d3,rfl,hp,hp3 rfl⟩
 |false=>
  rw[if_neg (by simp)];have hS3:x8 S d3:=hS.perm hb hp;have hB3:=hB.perm hb hp;have h:=r17 hc hO data A B M limit hlim wb wp hk hs hp1 hp2 (by rw[hp.1];exact hb) (by rw[hp.1];exact hz) hS3 hB3;refine O3.trans hp ?_;by_cases ha:0<a
  ·have e1:(a:Int) - 1=((a - 1:Nat):Int):=by omega
   rw[X3,if_pos (dT (by omega)),u0 (x:=(a:Int) - 1) (by omega) (by omega),gI (by omega) (by rw[hp.1];omega),Option.bind_some,gI (by omega) (by rw[hp.1];omega)] at h;rw[if_pos (dT (by omega)),u0 (x:=(a:Int) - 1) (by omega) (by omega),gI (by omega) (by omega),if_pos (by simp only[Array.length_toList];rw[hp.1];omega),Option.bind_some,gI (by omega) (by omega),if_pos (by simp only[Array.length_toList];rw[hp.1];omega)];simp only[S1 hp.1];exact h
  ·rw[if_neg (dF (by omega)),S1 hp.1]
   exact r20 hc hO data A B M limit hlim hk hs hp1 hp2 (by rw[hp.1];exact hb) (by rw[hp.1];exact hz) hS3 hB3
end
end Go.Proofs.YtddgjfclpknkcaaGreatDoor.Wk
set_option linter.unusedVariables false
set_option linter.unusedSimpArgs false
set_option linter.unusedSectionVars false
namespace Go.Proofs.YtddgjfclpknkcaaGreatDoor.Wk
open Go Go.Cn Go.Sort
section
variable {bb:Bool}{uu:UT}{hh ww:PT}{S:E_ bb->Prop}{cf:E_ bb->E_ bb->Int}
section
variable (hc:F6 bb uu hh ww S cf)(hO:SWO (lc cf))(data:List (E_ bb))(A B M:Int){self_:List (E_ bb)->Int->Int->Int->UT->PT->PT->Option (List (E_ bb))}{a b:Nat}(limit:Nat)(hlim:limit<1000)(wb wp:Bool){k0:Int->Int->Int->Bool->Bool->List (E_ bb)->Option (List (E_ bb))}(hk:HK S cf k0 (b - a))(hs:HS uu hh ww S cf self_ (b - a))
 {d:Array (E_ bb)} (hn:12<b - a) (hb:b<=d.size) (hz:d.size<256) (hS:x8 S d) (hB:Below (lc cf) a b d)
include hc hO hlim hk hs hn hb hz hS hB
theorem c48{pivot:Nat}(hp1:a<=pivot)(hp2:pivot<b):O3 cf a b d (if((decide ((0:Int)<(a:Int))):Bool) then
   if 0<=(IntKind.wrap .i64 ((a:Int) - 1))/\(IntKind.wrap .i64 ((a:Int) - 1))<((d.toList.length:Nat):Int) then
   (some (d.toList.getD (IntKind.wrap .i64 ((a:Int) - 1)).toNat default)).bind λy=>if 0<=(pivot:Int)/\(pivot:Int)<((d.toList.length:Nat):Int) then(M2 bb uu hh ww y (d.toList.getD (pivot:Int).toNat default)).bind λz=>if((!(decide (z<0))):Bool) then a0s bb data A B M uu hh ww self_ a b wb wp k0 limit pivot d.toList else Y_ bb data A B M uu hh ww self_ a b k0 limit pivot d.toList else none
   else none
  else
   (sPA bb d.toList a b pivot uu hh ww).bind λy=>if d.toList.length=y.2.2.length then a3d bb data A B M uu hh ww self_ a b limit y k0 else none):=by
 by_cases ha:0<a
 ·rw[if_pos (dT (by omega)),u0 (x:=(a:Int) - 1) (by omega) (by omega),gI (by omega) (by omega)]
  have h:=c47 hc hO data A B M limit hlim wb wp hk hs hp1 hp2 hb hz hS hB ha;rw[u0 (x:=(a:Int) - 1) (by omega) (by omega)] at h;exact h
 ·rw[if_neg (dF (by omega))]
  exact r21 hc hO data A B M limit hlim hk hs hp1 hp2 hb hz hS hB
theorem b7Q{pivot:Nat}(hp1:a<=pivot)(hp2:pivot<b)(lim:Nat)(hlm:lim<1000):O3 cf a b d ((sRR bb d.toList a b uu hh ww).bind λy=>
  (some (IntKind.wrap .i64 ((IntKind.wrap .i64 ((b:Int) - 1)) - (IntKind.wrap .i64 ((pivot:Int) - (a:Int)))))).bind λz=>
  if(wb:Bool) then
   if(wp:Bool) then
    if d.toList.length=y.length then a3b bb data A B M uu hh ww self_ a b wb wp k0 lim z y else none
   else
    if d.toList.length=y.length then X3 bb data A B M uu hh ww self_ a b wb wp k0 lim z y else none
  else
   if d.toList.length=y.length then X3 bb data A B M uu hh ww self_ a b wb wp k0 lim z y else none):=by
 have hp:=reverseRange_holds d a b (by omega) hb;have e:IntKind.wrap .i64 ((IntKind.wrap .i64 ((b:Int) - 1)) - (IntKind.wrap .i64 ((pivot:Int) - (a:Int))))=((b - 1 - (pivot - a):Nat):Int):=by
  rw[u0 (x:=(b:Int) - 1) (by omega) (by omega),u0 (x:=(pivot:Int) - (a:Int)) (by omega) (by omega),u0 (by omega) (by omega)];omega
 rw[c5g a b d (by omega) hb (by omega),Option.bind_some,e,Option.bind_some];simp only[S1 hp.1];refine O3.trans hp ?_;have h16:=r16 hc hO data A B M lim hlm wb wp hk hs (d:=reverseRange d a b) (pivot:=b - 1 - (pivot - a)) (by omega) (by omega) (by rw[hp.1];exact hb) (by rw[hp.1];exact hz) (hS.perm hb hp) (hB.perm hb hp);have h17:=r17 hc hO data A B M lim hlm wb wp hk hs (d:=reverseRange d a b) (pivot:=b - 1 - (pivot - a)) (by omega) (by omega) (by rw[hp.1];exact hb) (by rw[hp.1];exact hz) (hS.perm hb hp) (hB.perm hb hp);split
 ·split
  ·exact h16
  ·exact h17
 ·exact h17
theorem r9(hl:0<limit):O3 cf a b d (a74 bb data A B M uu hh ww self_ a b limit wb wp d.toList k0):=by
 have e:IntKind.wrap .i64 ((limit:Int) - 1)=((limit - 1:Nat):Int):=by
  rw[u0 (by omega) (by omega)];omega
 obtain⟨p,h,hch,hp1,hp2⟩:=cho hc d hS (by omega) (a:=a) (b:=b) (by omega) hb;rw[a74,hch,Option.bind_some,e];have h16:=r16 hc hO data A B M (limit - 1) (by omega) wb wp hk hs hp1 hp2 hb hz hS hB;have h17:=r17 hc hO data A B M (limit - 1) (by omega) wb wp hk hs hp1 hp2 hb hz hS hB;have hr:=b7Q hc hO data A B M limit hlim wb wp hk hs hn hb hz hS hB hp1 hp2 (limit - 1) (by omega);dsimp only;split
 ·exact hr
 ·split
  ·split
   ·split
    ·exact h16
    ·exact h17
   ·exact h17
  ·exact h17
theorem r11{p:Nat}{h:Int}(hp1:a<=p)(hp2:p<b):O3 cf a b d (a72 bb data A B M uu hh ww self_ a b limit wb wp d.toList ((p:Int),h) k0):=by
 rw[a72];have hr:=b7Q hc hO data A B M limit hlim wb wp hk hs hn hb hz hS hB hp1 hp2 limit hlim;have h17:=c48 hc hO data A B M limit hlim wb wp hk hs hn hb hz hS hB hp1 hp2;dsimp only;split
 ·exact hr
 ·split
  ·split
   ·split
    ·obtain⟨hp,hp3⟩:=partialInsertionSort_holds hO d a b (by omega) hb hB
     rw[b7f hc a b d (by omega) hb (by omega) hS,Option.bind_some];generalize partialInsertionSort (lc cf) d a b=q at hp hp3;obtain⟨d3,ok⟩:=q;dsimp only at hp hp3⊢;cases ok with
     |true=>rw[if_pos rfl];exact⟨d3,rfl,hp,hp3 rfl⟩
     |false=>
      rw[if_neg (by simp),S1 hp.1];exact O3.trans hp (r17 hc hO data A B M limit hlim wb wp hk hs hp1 hp2 (by rw[hp.1];exact hb) (by rw[hp.1];exact hz) (hS.perm hb hp) (hB.perm hb hp))
    ·exact h17
   ·exact h17
  ·exact h17
end
theorem pd0(hc:F6 bb uu hh ww S cf)(hO:SWO (lc cf))(data:List (E_ bb))(A B M:Int){self_:List (E_ bb)->Int->Int->Int->UT->PT->PT->Option (List (E_ bb))}:∀(m fuel a b limit:Nat) (wb wp:Bool) (d:Array (E_ bb)),b - a<=m->m<fuel->limit<1000->a<=b->b<=d.size->d.size<256->x8 S d->Below (lc cf) a b d->HS uu hh ww S cf self_ (b - a)->
  O3 cf a b d (a0t bb data A B M uu hh ww self_ fuel a b limit wb wp d.toList)
 |m,0,a,b,limit,wb,wp,d,_,h,_,_,_,_,_,_,_=>by omega
 |m,fuel+1,a,b,limit,wb,wp,d,hm,hf,hlim,hab,hb,hz,hS,hB,hs=>by
  rw[a0t,u0 (x:=(b:Int) - (a:Int)) (by omega) (by omega)];by_cases h12:b - a<=12
  ·rw[if_pos (dT (by omega)),c1s hc a b d hb hab (by omega) hS]
   have:=insertionSort_holds hO d a b hab hb;exact⟨_,rfl,this.1,this.2⟩
  ·rw[if_neg (dF (by omega))]
   by_cases hl:limit=0
   ·subst hl
    rw[if_pos (by simp),c1d hc a b d (by omega) hb (by omega) hS];have:=heapSort_holds hO d a b hab hb;exact⟨_,rfl,this.1,this.2⟩
   ·rw[if_neg (by simp;omega)]
    have hk:HK S cf (a0t bb data A B M uu hh ww self_ fuel) (b - a):=λa' b' limit' wb' wp' d' hl' h1 h2 h3 h4 h5 h6=>by
     cases m with
     |zero=>omega
     |succ m=>exact pd0 hc hO data A B M m fuel a' b' limit' wb' wp' d' (by omega) (by omega) hl' h2 h3 h4 h5 h6 (λa1 b1 l1 d1 g1 g2=>hs a1 b1 l1 d1 g1 (by omega))
    cases wb with
    |false=>
     obtain⟨r,hr,hp⟩:=brk (uu:=uu) (hh:=hh) (ww:=ww) d (a:=a) (b:=b) (by omega) hb hz;rw[if_pos (by simp),hr,Option.bind_some,S1 hp.1];exact O3.trans hp (r9 hc hO data A B M limit hlim false wp hk hs (by omega) (by rw[hp.1];exact hb) (by rw[hp.1];exact hz) (hS.perm hb hp) (hB.perm hb hp) (by omega))
    |true=>
     obtain⟨p,h,hch,hp1,hp2⟩:=cho hc d hS (by omega) (a:=a) (b:=b) (by omega) hb;rw[if_neg (by simp),hch,Option.bind_some];exact r11 hc hO data A B M limit hlim true wp hk hs (by omega) hb hz hS hB hp1 hp2
theorem pdf(hc:F6 bb uu hh ww S cf)(hO:SWO (lc cf)):∀(n:Nat),HS uu hh ww S cf (a6d bb n) n
 |0=>λa b limit d _ h=>by omega
 |n+1=>λa b limit d hlim h hab hb hz hS hB=>by
  rw[a6d,b0e];exact pd0 hc hO d.toList a b limit 256 big a b limit true true d (by omega) (by rw[N1];omega) hlim hab hb hz hS hB (λa1 b1 l1 d1 g1 g2=>pdf hc hO n a1 b1 l1 d1 g1 (by omega))
theorem b7c(hc:F6 bb uu hh ww S cf)(hO:SWO (lc cf))(l:List (E_ bb))(hz:l.length<256)(hS:∀x∈l,S x)(limit:Nat)(hlim:limit<1000):
  ∃r:List (E_ bb),sPD bb l 0 (l.length:Int) limit uu hh ww=some r/\r.Perm l/\r.Pairwise (λx y=>¬cf y x<0):=by
 have hS' :x8 S l.toArray:=λi hi=>by
  have hi' :i<l.length:=by simpa using hi
  have:l.toArray[i]! =l[i]:=by simp[hi']
  rw[this];exact hS _ (List.getElem_mem hi')
 obtain⟨r,h1,h2,h3⟩:=pdf hc hO big 0 l.length limit l.toArray hlim (by rw[N1];omega) (by omega) (by simp) (by simpa using hz) hS' (Or.inl rfl);refine⟨r.toList,h1,?_,?_⟩
 ·have:=h2.2.2
  have e1:(r.extract 0 l.length).toList=r.toList:=by have:=h2.1;simp at this;simp only[Array.toList_extract];simp;exact List.take_of_length_le (by simp[this])
  have e2:(l.toArray.extract 0 l.length).toList=l:=by simp
  rw[e1,e2] at this;exact this
 ·rw[List.pairwise_iff_getElem]
  intro i j hi hj hij;have hl:r.size=l.length:=by simpa using h2.1
  have hi' :i<r.size:=by simpa using hi
  have hj' :j<r.size:=by simpa using hj
  have:=h3 i j (by omega) hij (by omega);simp only[lc,decide_eq_false_iff_not] at this;have g1:r[i]! =r.toList[i]:=by rw[Array.getElem_toList];simp[hi']
  have g2:r[j]! =r.toList[j]:=by rw[Array.getElem_toList];simp[hj']
  rw[g1,g2] at this;exact this
end
end Go.Proofs.YtddgjfclpknkcaaGreatDoor.Wk
