import Derived.Test.YtddgjfclpknkcaaGreatDoorSrtA
set_option linter.unusedVariables false
set_option linter.unusedSimpArgs false
set_option linter.unusedSectionVars false
namespace Go.Proofs.YtddgjfclpknkcaaGreatDoor.Wk
open Go Go.Cn Go.Sort
section
variable {bb:Bool}{uu:UT}{hh ww:PT}{S:E_ bb->Prop}{cf:E_ bb->E_ bb->Int}
theorem x8.perm{d d' :Array (E_ bb)}(h:x8 S d){a b:Nat}(hb:b<=d.size)(hp:PermIn a b d d'):x8 S d' :=λi hi=>by
 rw[hp.1] at hi;by_cases h1:a<=i/\i<b
 ·exact permIn_all d d' a b S hb hp (λj _ hj=>h j (by omega)) i h1.1 h1.2
 ·rw[hp.2.1 i (by omega)];exact h i hi
theorem b7O(data:List (E_ bb))(A B:Int):∀(n i j fuel:Nat) (d:Array (E_ bb)),j - i<=n->n<fuel->j<d.size->d.size<2305843009213693952->
  a4F bb data A B uu hh ww fuel i j d.toList=some (reverseLoop i j d).toList
 |n,i,j,0,_,_,h,_,_=>by omega
 |n,i,j,fuel+1,d,h,hf,hj,hz=>by
  rw[a4F,reverseLoop];by_cases hij:i<j
  ·rw[if_pos (by simpa using hij),if_pos hij,gI (by omega) (by omega),gI (by omega) (by omega)]
   simp only[Int.toNat_natCast,gd,Option.bind_some];have e:((j:Int) - 1)=((j - 1:Nat):Int):=by omega
   rw[if_pos (by rw[U0];omega),sw,u0 (by omega) (by omega),u0 (by omega) (by omega),e];cases n with
   |zero=>omega
   |succ n=>exact b7O data A B n (i+1) (j - 1) fuel _ (by omega) (by omega) (by rw[swp_size];omega) (by rw[swp_size];exact hz)
  ·rw[if_neg (by simpa using hij),if_neg hij]
theorem c5g(a b:Nat)(d:Array (E_ bb))(hab:a<b)(hb:b<=d.size)(hz:d.size<2305843009213693952):sRR bb d.toList a b uu hh ww=some (reverseRange d a b).toList:=by
 have e:((b:Int) - 1)=((b - 1:Nat):Int):=by omega
 rw[sRR,u0 (by omega) (by omega),e];exact b7O _ _ _ (b - 1 - a) a (b - 1) big d (Nat.le_refl _) (by rw[N1];omega) (by omega) hz
theorem b2S(hc:F6 bb uu hh ww S cf)(d:Array (E_ bb))(hS:x8 S d){a b:Nat}(ha:a<d.size)(hb:b<d.size)(s:Int):
  ∃(x y:Nat) (s' :Int),sO2 bb d.toList a b s uu hh ww=some ((x:Int),(y:Int),s')/\((x=a/\y=b)\/(x=b/\y=a)):=by
 rw[sO2,gI (by omega) (by omega),gI (by omega) (by omega)];simp only[Int.toNat_natCast,gd,hc.at hS hb ha,Option.bind_some];split
 ·exact⟨b,a,_,rfl,.inr ⟨rfl,rfl⟩⟩
 ·exact⟨a,b,_,rfl,.inl ⟨rfl,rfl⟩⟩
theorem med(hc:F6 bb uu hh ww S cf)(d:Array (E_ bb))(hS:x8 S d){a b c:Nat}(ha:a<d.size)(hb:b<d.size)(hcs:c<d.size)(s:Int):
  ∃(x:Nat) (s' :Int),sME bb d.toList a b c s uu hh ww=some ((x:Int),s')/\(x=a\/x=b\/x=c):=by
 rw[sME];obtain⟨x1,y1,s1,e1,h1⟩:=b2S hc d hS ha hb s;rw[e1,Option.bind_some];obtain⟨x2,y2,s2,e2,h2⟩:=b2S hc d hS (a:=y1) (b:=c) (by omega) hcs s1;rw[e2,Option.bind_some];obtain⟨x3,y3,s3,e3,h3⟩:=b2S hc d hS (a:=x1) (b:=x2) (by omega) (by omega) s2;rw[e3,Option.bind_some];exact⟨y3,s3,rfl,by omega⟩
theorem b2F(hc:F6 bb uu hh ww S cf)(d:Array (E_ bb))(hS:x8 S d)(hz:d.size<2305843009213693952){a:Nat}(ha:0<a)(hb:a+1<d.size)(s:Int):
  ∃(x:Nat) (s' :Int),sMA bb d.toList a s uu hh ww=some ((x:Int),s')/\(a - 1<=x/\x<=a+1):=by
 have e1:((a:Int) - 1)=((a - 1:Nat):Int):=by omega
 have e2:((a:Int)+1)=((a+1:Nat):Int):=by omega
 rw[sMA,u0 (by omega) (by omega),u0 (by omega) (by omega),e1,e2];obtain⟨x,s',e,h⟩:=med hc d hS (a:=a - 1) (b:=a) (c:=a+1) (by omega) (by omega) hb s;rw[e,Option.bind_some];exact⟨x,s',rfl,by omega⟩
theorem cho(hc:F6 bb uu hh ww S cf)(d:Array (E_ bb))(hS:x8 S d)(hz:d.size<2305843009213693952){a b:Nat}(hn:a+8<=b)(hb:b<=d.size):
  ∃(p:Nat) (h:Int),sCP bb d.toList a b uu hh ww=some ((p:Int),h)/\a<=p/\p<b:=by
 have e0:Int.tdiv ((b:Int) - (a:Int)) 4=(((b - a) / 4:Nat):Int):=by rw[Int.tdiv_eq_ediv_of_nonneg (by omega)];omega
 rw[sCP,u0 (x:=(b:Int) - (a:Int)) (by omega) (by omega),e0,u0 (x:=(((b - a) / 4:Nat):Int)) (by omega) (by omega)];simp only[Option.bind_some];rw[u0 (x:=(((b - a) / 4:Nat):Int) * 1) (by omega) (by omega),u0 (x:=(((b - a) / 4:Nat):Int) * 2) (by omega) (by omega),u0 (x:=(((b - a) / 4:Nat):Int) * 3) (by omega) (by omega),u0 (by omega) (by omega),u0 (by omega) (by omega),u0 (by omega) (by omega)];have f1:((a:Int)+(((b - a) / 4:Nat):Int) * 1)=((a+(b - a) / 4 * 1:Nat):Int):=by omega
 have f2:((a:Int)+(((b - a) / 4:Nat):Int) * 2)=((a+(b - a) / 4 * 2:Nat):Int):=by omega
 have f3:((a:Int)+(((b - a) / 4:Nat):Int) * 3)=((a+(b - a) / 4 * 3:Nat):Int):=by omega
 rw[f1,f2,f3,if_pos (dT (by omega))];by_cases h5:50<=b - a
 ·rw[if_pos (dT (by omega)),a91]
  obtain⟨x1,s1,e1,g1⟩:=b2F hc d hS hz (a:=a+(b - a) / 4 * 1) (by omega) (by omega) 0;rw[e1,Option.bind_some];obtain⟨x2,s2,e2,g2⟩:=b2F hc d hS hz (a:=a+(b - a) / 4 * 2) (by omega) (by omega) s1;rw[e2,Option.bind_some];obtain⟨x3,s3,e3,g3⟩:=b2F hc d hS hz (a:=a+(b - a) / 4 * 3) (by omega) (by omega) s2;rw[e3,Option.bind_some];obtain⟨x,s,e,g⟩:=med hc d hS (a:=x1) (b:=x2) (c:=x3) (by omega) (by omega) (by omega) s3;rw[e,Option.bind_some];split
  ·exact⟨x,1,rfl,by omega,by omega⟩
  ·split
   ·exact⟨x,2,rfl,by omega,by omega⟩
   ·exact⟨x,0,rfl,by omega,by omega⟩
 ·rw[if_neg (dF (by omega)),a90]
  obtain⟨x,s,e,g⟩:=med hc d hS (a:=a+(b - a) / 4 * 1) (b:=a+(b - a) / 4 * 2) (c:=a+(b - a) / 4 * 3) (by omega) (by omega) (by omega) 0;rw[e,Option.bind_some];split
  ·exact⟨x,1,rfl,by omega,by omega⟩
  ·split
   ·exact⟨x,2,rfl,by omega,by omega⟩
   ·exact⟨x,0,rfl,by omega,by omega⟩
theorem b9s(x:Int)(m:Nat)(hm:m<18446744073709551616):∃o:Nat,o<=m/\IntKind.wrap .u64 (((BitVec.ofInt (IntKind.bits .u64) x&&&BitVec.ofInt (IntKind.bits .u64) (m:Int)).toNat:Nat):Int)=(o:Int):=by
 have h:(BitVec.ofInt (IntKind.bits .u64) x&&&BitVec.ofInt (IntKind.bits .u64) (m:Int)).toNat<=m:=by
  rw[BitVec.toNat_and,BitVec.ofInt_natCast,BitVec.toNat_ofNat];exact Nat.le_trans Nat.and_le_right (Nat.mod_le _ _)
 exact⟨_,h,b9p (by omega) (by omega)⟩
theorem c3b:(List.range 256).all (λn=>decide (n<8)||match a6j (n:Int) with|some m=>decide (1<=m/\m<=2 * (n:Int))|none=>false)=true:=by kernel_rfl
theorem npt{n:Nat}(h8:8<=n)(h:n<256):∃m:Nat,a6j (n:Int)=some (((m+1:Nat):Int))/\m+1<=2 * n:=by
 have h1:=List.all_eq_true.1 c3b n (List.mem_range.2 h);simp only[show¬n<8 by omega,decide_false,Bool.false_or] at h1;split at h1
 ·rename_i m hm
  have h2:=of_decide_eq_true h1;refine⟨(m - 1).toNat,?_,by omega⟩;rw[hm];congr 1;omega
 ·cases h1
theorem b0U(data:List (E_ bb)){a b m:Nat}(hn:a+8<=b)(hm:m+1<=2 * (b - a)):∀(fuel idx:Nat) (d:Array (E_ bb)) (x:Int),a+(b - a) / 4 * 2+2 - idx<fuel->a<=idx->b<=d.size->d.size<2305843009213693952->
  ∃r:Array (E_ bb),a0W bb data a b uu hh ww ((m+1:Nat):Int) fuel idx d.toList x=some r.toList/\PermIn a b d r
 |0,_,_,_,h,_,_,_=>by omega
 |fuel+1,idx,d,x,hf,hi,hb,hz=>by
  have e0:Int.tdiv ((b:Int) - (a:Int)) 4=(((b - a) / 4:Nat):Int):=by rw[Int.tdiv_eq_ediv_of_nonneg (by omega)];omega
  rw[a0W,u0 (x:=(b:Int) - (a:Int)) (by omega) (by omega),e0,u0 (x:=(((b - a) / 4:Nat):Int)) (by omega) (by omega)];simp only[Option.bind_some];rw[u0 (x:=(((b - a) / 4:Nat):Int) * 2) (by omega) (by omega),u0 (x:=(a:Int)+(((b - a) / 4:Nat):Int) * 2) (by omega) (by omega),u0 (x:=(a:Int)+(((b - a) / 4:Nat):Int) * 2+1) (by omega) (by omega)];by_cases h:idx<=a+(b - a) / 4 * 2+1
  ·rw[if_pos (dT (by omega))]
   obtain⟨v,hv⟩:∃v,a8a x=some v:=⟨_,by simp only[a8a,Option.bind_some];rfl⟩
   have e1:((m+1:Nat):Int) - 1=(m:Int):=by omega
   obtain⟨o,ho,eo⟩:=b9s v.1 m (by omega);rw[hv,Option.bind_some,e1,b9p (x:=(m:Int)) (by omega) (by omega),eo,u0 (x:=(o:Int)) (by omega) (by omega)];by_cases hno:b - a<=o
   ·rw[if_pos (dT (by omega)),a9Z,u0 (x:=(o:Int)) (by omega) (by omega),u0 (x:=(b:Int) - (a:Int)) (by omega) (by omega),u0 (x:=(o:Int) - ((b:Int) - (a:Int))) (by omega) (by omega)]
    simp only[Option.bind_some];have t1:((a:Int)+((o:Int) - ((b:Int) - (a:Int)))).toNat=a+(o - (b - a)):=by omega
    rw[u0 (x:=(a:Int)+((o:Int) - ((b:Int) - (a:Int)))) (by omega) (by omega),gI (by omega) (by omega),gI (by omega) (by omega)];simp only[t1,Int.toNat_natCast,gd];rw[if_pos (by rw[U0];omega),sw,u0 (by omega) (by omega)];have hp:=swp_permIn d a b idx (a+(o - (b - a))) (by omega) (by omega) (by omega) (by omega) hb;obtain⟨r,hr,hr2⟩:=b0U data hn hm fuel (idx+1) (swp d idx (a+(o - (b - a)))) v.2 (by omega) (by omega) (by rw[swp_size];exact hb) (by rw[swp_size];exact hz);exact⟨r,hr,permIn_trans _ _ _ _ _ hp hr2⟩
   ·rw[if_neg (dF (by omega)),a9Y,u0 (x:=(o:Int)) (by omega) (by omega),u0 (x:=(a:Int)+(o:Int)) (by omega) (by omega)]
    simp only[Option.bind_some];have t1:((a:Int)+(o:Int)).toNat=a+o:=by omega
    rw[gI (by omega) (by omega),gI (by omega) (by omega)];simp only[t1,Int.toNat_natCast,gd];rw[if_pos (by rw[U0];omega),sw,u0 (by omega) (by omega)];have hp:=swp_permIn d a b idx (a+o) (by omega) (by omega) (by omega) (by omega) hb;obtain⟨r,hr,hr2⟩:=b0U data hn hm fuel (idx+1) (swp d idx (a+o)) v.2 (by omega) (by omega) (by rw[swp_size];exact hb) (by rw[swp_size];exact hz);exact⟨r,hr,permIn_trans _ _ _ _ _ hp hr2⟩
  ·rw[if_neg (dF (by omega))]
   exact⟨d,rfl,permIn_refl _ _ _⟩
theorem brk(d:Array (E_ bb)){a b:Nat}(hn:a+8<=b)(hb:b<=d.size)(hz:d.size<256):
  ∃r:Array (E_ bb),sBP bb d.toList a b uu hh ww=some r.toList/\PermIn a b d r:=by
 have e0:Int.tdiv ((b:Int) - (a:Int)) 4=(((b - a) / 4:Nat):Int):=by rw[Int.tdiv_eq_ediv_of_nonneg (by omega)];omega
 have e2:(b:Int) - (a:Int)=((b - a:Nat):Int):=by omega
 obtain⟨m,hm,hm2⟩:=npt (n:=b - a) (by omega) (by omega);rw[sBP,u0 (x:=(b:Int) - (a:Int)) (by omega) (by omega),if_pos (dT (by omega)),e0,e2,hm,Option.bind_some,u0 (x:=(((b - a) / 4:Nat):Int)) (by omega) (by omega)];simp only[Option.bind_some];rw[u0 (x:=(((b - a) / 4:Nat):Int) * 2) (by omega) (by omega),u0 (x:=(a:Int)+(((b - a) / 4:Nat):Int) * 2) (by omega) (by omega),u0 (x:=(a:Int)+(((b - a) / 4:Nat):Int) * 2 - 1) (by omega) (by omega)];have e3:(a:Int)+(((b - a) / 4:Nat):Int) * 2 - 1=((a+(b - a) / 4 * 2 - 1:Nat):Int):=by omega
 rw[e3];exact b0U _ hn hm2 big _ d _ (by rw[N1];omega) (by omega) hb (by omega)
theorem pi3(hc:F6 bb uu hh ww S cf)(data:List (E_ bb))(A:Int)(b:Nat)(j i2:Int)(k0:Int->Int->List (E_ bb)->Option (Bool×List (E_ bb))):∀(fuel j3:Nat) (d:Array (E_ bb)),b - j3<fuel->1<=j3->b<=d.size->d.size<2305843009213693952->x8 S d->
  a01 bb data A b uu hh ww j i2 k0 fuel j3 d.toList=k0 i2 (IntKind.wrap .i64 (j+1)) (shiftUp (lc cf) b j3 d).toList/\x8 S (shiftUp (lc cf) b j3 d)/\(shiftUp (lc cf) b j3 d).size=d.size
 |0,_,_,h,_,_,_,_=>by omega
 |fuel+1,j3,d,hf,hj,hb,hz,hS=>by
  rw[a01,shiftUp];by_cases h:j3<b
  ·have e1:(j3:Int) - 1=((j3 - 1:Nat):Int):=by omega
   rw[if_pos (by simpa using h),if_pos h,gI (by omega) (by omega),u0 (x:=(j3:Int) - 1) (by omega) (by omega),gI (by omega) (by omega),e1];simp only[Int.toNat_natCast,gd,Option.bind_some,hc.at hS (show j3<d.size by omega) (show j3 - 1<d.size by omega)];by_cases hl:cf d[j3]! d[j3 - 1]!<0
   ·rw[if_neg (by simpa using hl),if_neg (by simp[lc,hl]),b0k,u0 (x:=(j3:Int) - 1) (by omega) (by omega),gI (by omega) (by omega),e1]
    simp only[Int.toNat_natCast,gd,Option.bind_some];rw[gI (by omega) (by omega),if_pos (by rw[U0];omega),sw,u0 (by omega) (by omega)];have ih:=pi3 hc data A b j i2 k0 fuel (j3+1) (swp d j3 (j3 - 1)) (by omega) (by omega) (by rw[swp_size];exact hb) (by rw[swp_size];exact hz) (hS.swp (by omega) (by omega));rw[swp_size] at ih;exact ih
   ·rw[if_pos (by simpa using hl),if_pos (by simp[lc,hl])]
    exact⟨rfl,hS,rfl⟩
  ·rw[if_neg (by simpa using h),if_neg h]
   exact⟨rfl,hS,rfl⟩
theorem pi2(hc:F6 bb uu hh ww S cf)(data:List (E_ bb))(A:Int)(b:Nat)(j:Int)(i2:Nat)(k0:Int->Int->List (E_ bb)->Option (Bool×List (E_ bb))):∀(fuel j2:Nat) (d:Array (E_ bb)),j2<fuel->j2<d.size->d.size<2305843009213693952->x8 S d->
  a1Q bb data A b uu hh ww j i2 k0 fuel j2 d.toList=a3h bb data A b uu hh ww j i2 (shiftDown (lc cf) j2 d).toList k0/\x8 S (shiftDown (lc cf) j2 d)/\(shiftDown (lc cf) j2 d).size=d.size
 |0,_,_,h,_,_,_=>by omega
 |fuel+1,0,d,_,_,_,hS=>by
  rw[a1Q,shiftDown,if_neg (by simp),a3h];exact⟨rfl,hS,rfl⟩
 |fuel+1,j2+1,d,hf,hj,hz,hS=>by
  have e1:((j2+1:Nat):Int) - 1=(j2:Int):=by omega
  rw[a1Q,shiftDown,if_pos (dT (by omega)),gI (by omega) (by omega),e1,u0 (x:=(j2:Int)) (by omega) (by omega),gI (by omega) (by omega)];simp only[Int.toNat_natCast,gd,Option.bind_some,hc.at hS (show j2+1<d.size by omega) (show j2<d.size by omega)];by_cases hl:cf d[j2+1]! d[j2]!<0
  ·rw[if_neg (by simpa using hl),if_neg (by simp[lc,hl]),b0j,e1,u0 (x:=(j2:Int)) (by omega) (by omega),gI (by omega) (by omega)]
   simp only[Int.toNat_natCast,gd,Option.bind_some];rw[gI (by omega) (by omega),if_pos (by rw[U0];omega),sw];have ih:=pi2 hc data A b j i2 k0 fuel j2 (swp d (j2+1) j2) (by omega) (by rw[swp_size];omega) (by rw[swp_size];exact hz) (hS.swp (by omega) (by omega));rw[swp_size] at ih;exact ih
  ·rw[if_pos (by simpa using hl),if_pos (by simp[lc,hl])]
   exact⟨rfl,hS,rfl⟩
theorem b7e(hc:F6 bb uu hh ww S cf)(data:List (E_ bb))(A:Int)(b:Nat)(j:Int)(i2:Nat)(k0:Int->Int->List (E_ bb)->Option (Bool×List (E_ bb)))(d:Array (E_ bb))(hi:i2<b)(hb:b<=d.size)(hz:d.size<2305843009213693952)(hS:x8 S d):
  a3h bb data A b uu hh ww j i2 d.toList k0=k0 i2 (IntKind.wrap .i64 (j+1)) (if b - i2>=2 then shiftUp (lc cf) b (i2+1) d else d).toList/\x8 S (if b - i2>=2 then shiftUp (lc cf) b (i2+1) d else d)/\(if b - i2>=2 then shiftUp (lc cf) b (i2+1) d else d).size=d.size:=by
 rw[a3h,u0 (x:=(b:Int) - (i2:Int)) (by omega) (by omega)];by_cases h:b - i2>=2
 ·rw[if_pos (dT (by omega)),if_pos h,u0 (by omega) (by omega)]
  exact pi3 hc data A b j i2 k0 big (i2+1) d (by rw[N1];omega) (by omega) hb hz hS
 ·rw[if_neg (dF (by omega)),if_neg h]
  exact⟨rfl,hS,rfl⟩
theorem c3F(hc:F6 bb uu hh ww S cf)(data:List (E_ bb))(a b:Nat)(j:Int)(i2:Nat)(k0:Int->Int->List (E_ bb)->Option (Bool×List (E_ bb)))(d:Array (E_ bb))(ha:a<i2)(hi:i2<b)(hb:b<=d.size)(hz:d.size<2305843009213693952)(hS:x8 S d):
  a6e bb data a b uu hh ww j i2 k0 d.toList=k0 i2 (IntKind.wrap .i64 (j+1)) (fixUp (lc cf) b i2 (fixDown (lc cf) a i2 d)).toList/\x8 S (fixUp (lc cf) b i2 (fixDown (lc cf) a i2 d))/\(fixUp (lc cf) b i2 (fixDown (lc cf) a i2 d)).size=d.size:=by
 have e1:(i2:Int) - 1=((i2 - 1:Nat):Int):=by omega
 rw[a6e,u0 (x:=(i2:Int) - (a:Int)) (by omega) (by omega)];by_cases h:i2 - a>=2
 ·rw[if_pos (dT (by omega)),u0 (x:=(i2:Int) - 1) (by omega) (by omega),e1]
  have h2:=pi2 hc data a b j i2 k0 big (i2 - 1) d (by rw[N1];omega) (by omega) hz hS;have h3:=b7e hc data a b j i2 k0 (shiftDown (lc cf) (i2 - 1) d) hi (by rw[h2.2.2];exact hb) (by rw[h2.2.2];exact hz) h2.2.1;rw[h2.2.2] at h3;rw[h2.1,fixUp,fixDown,if_pos h];exact h3
 ·rw[if_neg (dF (by omega))]
  have h3:=b7e hc data a b j i2 k0 d hi hb hz hS;rw[a3h] at h3;rw[fixUp,fixDown,if_neg h];exact h3
theorem pi7(hc:F6 bb uu hh ww S cf)(data:List (E_ bb))(a b:Nat)(j:Int)(i2:Nat)(k0:Int->Int->List (E_ bb)->Option (Bool×List (E_ bb)))(d:Array (E_ bb))(ha:a<i2)(hi:i2<=b)(hb:b<=d.size)(hz:d.size<2305843009213693952)(hS:x8 S d):
  a4D bb data a b uu hh ww j d.toList i2 k0=(if i2=b then some (true,d.toList) else if b - a<50 then some (false,d.toList) else k0 i2 (IntKind.wrap .i64 (j+1)) (fixUp (lc cf) b i2 (fixDown (lc cf) a i2 (swp d i2 (i2 - 1)))).toList)/\
   (i2<b->x8 S (fixUp (lc cf) b i2 (fixDown (lc cf) a i2 (swp d i2 (i2 - 1))))/\(fixUp (lc cf) b i2 (fixDown (lc cf) a i2 (swp d i2 (i2 - 1)))).size=d.size):=by
 have e1:(i2:Int) - 1=((i2 - 1:Nat):Int):=by omega
 have key:i2<b->_:=λh=>c3F hc data a b j i2 k0 (swp d i2 (i2 - 1)) ha h (by rw[swp_size];exact hb) (by rw[swp_size];exact hz) (hS.swp (by omega) (by omega));constructor
 ·rw[a4D]
  by_cases h:i2=b
  ·rw[if_pos (by simp[h]),if_pos h]
  ·rw[if_neg (by simp;omega),if_neg h,u0 (x:=(b:Int) - (a:Int)) (by omega) (by omega)]
   by_cases h5:b - a<50
   ·rw[if_pos (dT (by omega)),if_pos h5]
   ·rw[if_neg (dF (by omega)),if_neg h5,u0 (x:=(i2:Int) - 1) (by omega) (by omega),gI (by omega) (by omega),e1]
    simp only[Int.toNat_natCast,gd,Option.bind_some];rw[gI (by omega) (by omega),if_pos (by rw[U0];omega),sw];exact(key (by omega)).1
 ·intro h
  have:=(key h).2;rw[swp_size] at this;exact this
theorem pi1(hc:F6 bb uu hh ww S cf)(data:List (E_ bb))(a b:Nat)(j:Int)(k0:Int->Int->List (E_ bb)->Option (Bool×List (E_ bb)))(d:Array (E_ bb))(hb:b<=d.size)(hz:d.size<2305843009213693952)(hS:x8 S d):∀(fuel i2:Nat),b - i2<fuel->a<i2->i2<=b->
  a3i bb data a b uu hh ww j d.toList k0 fuel i2=a4D bb data a b uu hh ww j d.toList (scanSorted (lc cf) d b i2:Nat) k0/\a<scanSorted (lc cf) d b i2/\scanSorted (lc cf) d b i2<=b
 |0,_,h,_,_=>by omega
 |fuel+1,i2,hf,ha,hi=>by
  have e1:(i2:Int) - 1=((i2 - 1:Nat):Int):=by omega
  rw[a3i,scanSorted];by_cases h:i2<b
  ·rw[if_pos (by simpa using h),gI (by omega) (by omega),u0 (x:=(i2:Int) - 1) (by omega) (by omega),gI (by omega) (by omega),e1]
   simp only[Int.toNat_natCast,gd,Option.bind_some,hc.at hS (show i2<d.size by omega) (show i2 - 1<d.size by omega)];by_cases hl:cf d[i2]! d[i2 - 1]!<0
   ·rw[if_neg (by simpa using hl),if_neg (by simp[lc,hl])]
    exact⟨rfl,ha,hi⟩
   ·rw[if_pos (by simpa using hl),if_pos (by simp[lc,hl,h]),b0l,u0 (by omega) (by omega)]
    exact pi1 hc data a b j k0 d hb hz hS fuel (i2+1) (by omega) (by omega) (by omega)
  ·have hx:¬((decide (i2<b)&&!lc cf d[i2]! d[i2 - 1]!)=true):=by simp[h]
   rw[if_neg hx,if_neg (by simpa using h),a4D];exact⟨rfl,ha,hi⟩
theorem pi0(hc:F6 bb uu hh ww S cf)(data:List (E_ bb))(a b:Nat):∀(s fuel i:Nat) (d:Array (E_ bb)),s<fuel->s<=5->a<i->i<=b->b<=d.size->d.size<2305843009213693952->x8 S d->
  a0x bb data a b uu hh ww fuel i (5 - (s:Int)) d.toList=some ((partialIns (lc cf) a b s i d).2,(partialIns (lc cf) a b s i d).1.toList)
 |_,0,_,_,h,_,_,_,_,_,_=>by omega
 |0,fuel+1,i,d,_,_,_,_,_,_,_=>by
  rw[a0x,if_neg (by simp),partialIns]
 |s+1,fuel+1,i,d,hf,h5,ha,hi,hb,hz,hS=>by
  rw[a0x,if_pos (dT (by omega)),partialIns_succ];have h1:=pi1 hc data a b (5 - ((s+1:Nat):Int)) (a0x bb data a b uu hh ww fuel) d hb hz hS big i (by rw[N1];omega) ha hi;have h7:=pi7 hc data a b (5 - ((s+1:Nat):Int)) (scanSorted (lc cf) d b i) (a0x bb data a b uu hh ww fuel) d h1.2.1 h1.2.2 hb hz hS;rw[h1.1,h7.1];by_cases he:scanSorted (lc cf) d b i=b
  ·rw[if_pos he,if_pos he]
  ·rw[if_neg he,if_neg he]
   by_cases h5:b - a<50
   ·rw[if_pos h5,if_pos h5]
   ·rw[if_neg h5,if_neg h5]
    obtain⟨hA,hsz⟩:=h7.2 (by omega);have e:IntKind.wrap .i64 ((5 - ((s+1:Nat):Int))+1)=5 - (s:Int):=by rw[u0 (by omega) (by omega)];omega
    rw[e];exact pi0 hc data a b s fuel _ _ (by omega) (by omega) h1.2.1 h1.2.2 (by rw[hsz];exact hb) (by rw[hsz];exact hz) hA
theorem b7f(hc:F6 bb uu hh ww S cf)(a b:Nat)(d:Array (E_ bb))(hab:a<b)(hb:b<=d.size)(hz:d.size<2305843009213693952)(hS:x8 S d):
  sPI bb d.toList a b uu hh ww=some ((partialInsertionSort (lc cf) d a b).2,(partialInsertionSort (lc cf) d a b).1.toList):=by
 rw[sPI,u0 (by omega) (by omega)];exact pi0 hc _ a b 5 big (a+1) d (by rw[N1];omega) (by omega) (by omega) (by omega) hb hz hS
end
end Go.Proofs.YtddgjfclpknkcaaGreatDoor.Wk
