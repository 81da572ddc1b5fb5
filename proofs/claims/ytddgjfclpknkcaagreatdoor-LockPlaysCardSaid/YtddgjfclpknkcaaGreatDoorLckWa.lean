import Derived.Test.YtddgjfclpknkcaaGreatDoorProg
import Derived.Test.YtddgjfclpknkcaaGreatDoorCnW
import Derived.Test.YtddgjfclpknkcaaGreatDoorCnXb
import Derived.WalkKit
import Derived.TacticsInMore
import Derived.RegionIn
import Derived.LoopNIn
import Derived.LoopIn
import Derived.ControlIn
import Derived.Test.YtddgjfclpknkcaaGreatDoorCnZa
namespace Go.Proofs.YtddgjfclpknkcaaGreatDoor.Wk
open Go Go.Cn Go.RowKit
set_option maxRecDepth 100000
set_option maxHeartbeats 4000000
set_option linter.unusedVariables false
set_option linter.unusedSimpArgs false
noncomputable section
variable (w0:World)(W:Nat->Prop)(μ0:d5)
theorem e_{α:Sort _}(a:α):a=a:=Eq.refl a
theorem m8(n:Nat):n<=n:=Nat.le_refl n
theorem b2H:Tryz.prog.follows .mixedOrders=true:=by kernel_rfl
theorem i7{α:Type}{a b:α}(h:some a=some b):a=b:=Option.some.inj h
theorem i1{l:List Nat}{n:Nat}(h:a2y l=true:=by rfl)(hn:n=l.length:=by rfl):p8 n (f8 l):=c6w h hn
theorem l0(o:LO):LO.Le o o:=LO.Le.refl o
abbrev j5(v:LV):H6:={v:=some v}
theorem l8{w0:World}{W:Nat->Prop}{μ0:d5}{fn:Func}{m:Nat}{v:LV}{up:i9}{k:List It}{T:List LV}{H:d7}{q:Prop}{nn:Nat}(L:List Nat)(n:Nat)(s:List Tok)(hq:q)(h:a9V Tryz.prog fn m L up n s k T H=some (q,v.ren (J0 m L),a2Y (J0 m L) up):=by kernel_rfl)(hn:nn=m+L.length:=by rfl):x7 Tryz.prog w0 W μ0 (a14 Tryz.prog fn m nn v up) k none T H:=c5h b2H (L:=L) (n:=n) (s:=s) hq h hn
theorem n3{w0:World}{W:Nat->Prop}{μ0:d5}{Post:List LV->d7->Prop}{m:Nat}{T' :List LV}{H' :d7}{k k' :List It}{T:List LV}{H:d7}{q:Prop}(hμ0:∀c p,μ0 c=some p->c<m)(L:List Nat)(n:Nat)(s:List Tok)(hq:q)(hk:x7 Tryz.prog w0 W μ0 Post k' none T' H')(hu:a1V H'.length H')(h:a9W Tryz.prog m L T' H' n s k T H=some (q,k',n7 (J0 m L) T',a0U (J0 m L) H'):=by kernel_rfl):x7 Tryz.prog w0 W μ0 Post k none T H:=c5i b2H hμ0 (L:=L) (n:=n) (s:=s) hq hk h hu
theorem u7{f:FuncId}{fn:Func}{args:List LV}{objs:List LO}{n:Nat}{v:LV}{up:i9}(hf:Tryz.prog.funcs[f]?=some fn)(h2:a7l objs.length objs)(h4:a6t n up)(h:∀w0 W μ0,(∀c p,μ0 c=some p->c<objs.length)->x7 Tryz.prog w0 W μ0 (a14 Tryz.prog fn objs.length n v up) [.code (o9 fn)] none (b8P fn args) (objs.map some))(hn:(fn.name== "runtime.NumGoroutine")=false:=by kernel_rfl)(hb:fn.body=some (o9 fn):=by kernel_rfl)(h1:R9 objs.length args=true:=by kernel_rfl)(h3:v.under n=true:=by kernel_rfl)(h5:b0s objs n up=true:=by kernel_rfl):∀σ,p8 n σ->j9 Tryz.prog f (n7 σ args) (p5 σ 0 objs) (v.ren σ) (p6 σ up):=o_ hf hn hb h1 h2 h3 h4 h5 h
theorem I9{w0:World}{W:Nat->Prop}{μ0:d5}{fn:Func}{m:Nat}{v:LV}{up:i9}{k:List It}{T:List LV}{H:d7}{q:Prop}{nn:Nat}(L:List Nat)(n:Nat)(s:List Tok)(hq:q)(h:a9V Tryz.prog fn m L up n s k T H=some (q,v.ren (J0 m L),a2Y (J0 m L) up):=by cases bb<;>kernel_rfl)(hn:nn=m+L.length:=by rfl):x7 Tryz.prog w0 W μ0 (a14 Tryz.prog fn m nn v up) k none T H:=l8 L n s hq h hn
theorem t7{w0:World}{W:Nat->Prop}{μ0:d5}{Post:List LV->d7->Prop}{m:Nat}{T' :List LV}{H' :d7}{k k' :List It}{T:List LV}{H:d7}{q:Prop}(hμ0:∀c p,μ0 c=some p->c<m)(L:List Nat)(n:Nat)(s:List Tok)(hq:q)(hk:x7 Tryz.prog w0 W μ0 Post k' none T' H')(hu:a1V H'.length H')(h:a9W Tryz.prog m L T' H' n s k T H=some (q,k',n7 (J0 m L) T',a0U (J0 m L) H'):=by cases bb<;>kernel_rfl):x7 Tryz.prog w0 W μ0 Post k none T H:=n3 hμ0 L n s hq hk hu h
abbrev o8(z:Nat){i:Int}{n:Nat}{X Y:Prop}(g:0<=i/\i<(n:Int))(x:X)(y:Y):=a_ (a_ (a_ (e_ z) g) tr) (a_ (a_ (a_ (D1 g) (m8 z)) x) y)
abbrev q0{A B C D:Prop}(a:A)(b:B)(c:C)(d:D):=(a_ a (a_ b (a_ c d)))
abbrev q1{A B C:Prop}(a:A)(b:B)(c:C):=(a_ (a_ a b) c)
abbrev q2{A:Prop}(a:A):=(b4 (b5 a))
abbrev q3{A:Prop}(a:A):=(a_ a tr)
abbrev q4{A B C:Prop}(a:A)(b:B)(c:C):=(q1 (a_ a b) tr c)
abbrev q5{A B C:Prop}(a:A)(b:B)(c:C):=(q1 a (q3 b) c)
abbrev q6{A B C D:Prop}(a:A)(b:B)(c:C)(d:D):=(q0 a (b4 b) c d)
abbrev q7{A B:Prop}(a:A)(b:B):=(a_ a (q3 b))
abbrev q8{A:Prop}(a:A):=(b4 a)
abbrev q9{A B:Prop}(a:A)(b:B):=(q1 a tr b)
abbrev K1{A B C D:Prop}(a:A)(b:B)(c:C)(d:D):=(q9 a (q8 (q4 b (a_ c d) tr)))
abbrev J1{A B C:Prop}(a:A)(b:B)(c:C):=(l9 (q4 a b (q8 c)))
abbrev F9{A B:Prop}(a:A)(b:B):=(a_ a (q1 tr b tr))
abbrev B6{A B C D:Prop}(a:A)(b:B)(c:C)(d:D):=(q0 a (b5 b) c d)
abbrev J7{A B:Prop}(a:A)(b:B):=(q8 (q5 a b (q8 tr)))
abbrev E0{A B C D:Prop}(a:A)(b:B)(c:C)(d:D):=(q0 a b c (q3 d))
abbrev R5{A B C D:Prop}(a:A)(b:B)(c:C)(d:D):=(q9 a (q4 b (a_ c d) (q8 tr)))
abbrev I2{A:Prop}(a:A):=(q9 a (q8 tr))
abbrev F8{A B:Prop}(a:A)(b:B):=(q5 a b tr)
abbrev V0{A B C:Prop}(a:A)(b:B)(c:C):=(q3 (q6 (q8 tr) a (q8 b) c))
abbrev W9{A B C:Prop}(a:A)(b:B)(c:C):=(q0 a (q7 tr b) (q7 tr c) tr)
abbrev O9{A B C D E:Prop}(a:A)(b:B)(c:C)(d:D)(e:E):=(q2 (q4 a b (q8 (q4 c d e))))
abbrev X0{A:Prop}(a:A):=(F8 (b5 tr) (q8 a))
abbrev K3{A:Prop}(a:A):=(q9 (q3 a) tr)
abbrev V1{A B C:Prop}(a:A)(b:B)(c:C):=(l9 (q4 a (a_ b c) tr))
abbrev Y8{A B C:Prop}(a:A)(b:B)(c:C):=(J1 a (a_ b c) (l9 tr))
abbrev K8{A B C:Prop}(a:A)(b:B)(c:C):=(q6 (q2 tr) a b c)
abbrev I3{A:Prop}(a:A):=(q3 (q2 a))
abbrev D4{A:Prop}(a:A):=(F8 tr a)
abbrev V2{A B:Prop}(a:A)(b:B):=(q0 a b (q2 tr) tr)
abbrev J4{A B C D:Prop}(a:A)(b:B)(c:C)(d:D):=(B6 (b5 a) b c d)
abbrev N6{A B C:Prop}(a:A)(b:B)(c:C):=(q6 (q8 a) b c tr)
abbrev R6{A B C:Prop}(a:A)(b:B)(c:C):=(E0 a b c (q2 tr))
abbrev T7{A:Prop}(a:A):=(q7 a (q8 tr))
abbrev P0{A B C:Prop}(a:A)(b:B)(c:C):=(q0 a b (q8 tr) c)
abbrev V3{A B C:Prop}(a:A)(b:B)(c:C):=(E0 a b c (b5 tr))
abbrev Y9{A:Prop}(a:A):=(F8 (q8 tr) a)
abbrev Z0{A:Prop}(a:A):=(F8 (q2 tr) a)
abbrev S6{A B:Prop}(a:A)(b:B):=(q5 a b (q8 tr))
abbrev N7{A:Prop}(a:A):=(q8 (l9 a))
abbrev X1{A:Prop}(a:A):=(q7 a (q2 tr))
abbrev q41{A B C D E:Prop}(a:A)(b:B)(c:C)(d:D)(e:E):=(q9 (q0 a b c (q7 d e)) (b5 tr))
abbrev q42{A B C:Prop}(a:A)(b:B)(c:C):=(q6 (b5 tr) a b (q3 c))
theorem uP{n:Nat}:∀x∈([]:List (LV×Nat)),x.2<n:=λx hx=>by simp at hx
def g9(l:List Nat)(v:LV)(o:List LO)(u:i9):=(v.ren (f8 l),p5 (f8 l) 0 o,p6 (f8 l) u)
def n_:Nat->List LV->List LV
 |0,r=>r
 |n+1,r=> .any::n_ n r
def p4(μ0:d5)(m:Nat):Prop:=∀c p,μ0 c=some p->c<m
abbrev p3(F:Func)(m n:Nat)(v:LV)(u:i9)(k:List It)(T:List LV)(H:d7):Prop:=x7 Tryz.prog w0 W μ0 (a14 Tryz.prog F m n v u) k none T H
structure TX where
 F3:Int
 D6:Int
 F5:Int
 deriving DecidableEq,Inhabited
def f5(x:TX):List LV:=[.int .u8 x.F3,.int .u32 x.D6,.int .u32 x.F5]
def i8(x:TX):LV:=.agg (f5 x)
theorem b4d(a b:TX):a=b↔a.F3=b.F3/\a.D6=b.D6/\a.F5=b.F5:=by
 cases a;cases b;simp
theorem t6(a b:TX):B0 (i8 a) (i8 b)=decide (a=b):=by
 rw[Bool.eq_iff_iff,decide_eq_true_eq];simp only[b4d,i8,f5,B0,I0,U4,Bool.and_eq_true,beq_iff_eq,and_assoc,and_true]
structure TS where
 B8:Int
 b7:TX
 deriving DecidableEq,Inhabited
def a6C(x:TS):List LV:=[.int .u32 x.B8,.int .u8 x.b7.F3,.int .u32 x.b7.D6,.int .u32 x.b7.F5]
def V5(x:TS):LV:=.agg (a6C x)
structure TA where
 S0:Int
 n5:TS
 j8:A8 Int
 v8:Int
 K4:List (A8 Int)
 deriving DecidableEq,Inhabited
def W5(x:TA):List LV:=[.int .u8 x.S0,.int .u32 x.n5.B8,.int .u8 x.n5.b7.F3,.int .u32 x.n5.b7.D6,.int .u32 x.n5.b7.F5,.int .u8 x.j8.a0,.int .u8 x.j8.a1,.int .u8 x.j8.a2,.int .u8 x.j8.a3,.int .u8 x.j8.a4,.int .u8 x.j8.a5,.int .u8 x.j8.a6,.int .u8 x.j8.a7,.int .u8 x.v8,.ds 8 x.K4.length (b6 (λz_:A8 Int=>[.int .u8 z_.a0,.int .u8 z_.a1,.int .u8 z_.a2,.int .u8 z_.a3,.int .u8 z_.a4,.int .u8 z_.a5,.int .u8 z_.a6,.int .u8 z_.a7]) default x.K4)]
def b9a(x:TA):LV:=.agg (W5 x)
structure TU where
 B7:TS
 a07:Bool
 deriving DecidableEq,Inhabited
def n9(x:TU):List LV:=[.int .u32 x.B7.B8,.int .u8 x.B7.b7.F3,.int .u32 x.B7.b7.D6,.int .u32 x.B7.b7.F5,.bool x.a07]
structure TL where
 m9:TX
 o7:A8 Int
 deriving DecidableEq,Inhabited
abbrev UT:=List (TX×TU)
abbrev PT:=List (TL×Int)
abbrev X4:List UInt8:=[0,1,2,2,3,3,3,3,4,4,4,4,4,4,4,4,5,5,5,5,5,5,5,5,5,5,5,5,5,5,5,5,6,6,6,6,6,6,6,6,6,6,6,6,6,6,6,6,6,6,6,6,6,6,6,6,6,6,6,6,6,6,6,6,7,7,7,7,7,7,7,7,7,7,7,7,7,7,7,7,7,7,7,7,7,7,7,7,7,7,7,7,7,7,7,7,7,7,7,7,7,7,7,7,7,7,7,7,7,7,7,7,7,7,7,7,7,7,7,7,7,7,7,7,7,7,7,7,8,8,8,8,8,8,8,8,8,8,8,8,8,8,8,8,8,8,8,8,8,8,8,8,8,8,8,8,8,8,8,8,8,8,8,8,8,8,8,8,8,8,8,8,8,8,8,8,8,8,8,8,8,8,8,8,8,8,8,8,8,8,8,8,8,8,8,8,8,8,8,8,8,8,8,8,8,8,8,8,8,8,8,8,8,8,8,8,8,8,8,8,8,8,8,8,8,8,8,8,8,8,8,8,8,8,8,8,8,8,8,8,8,8,8,8,8,8,8,8,8,8,8,8,8,8,8,8]
def L1(x:TL):List LV:=[.int .u8 x.m9.F3,.int .u32 x.m9.D6,.int .u32 x.m9.F5,.int .u8 x.o7.a0,.int .u8 x.o7.a1,.int .u8 x.o7.a2,.int .u8 x.o7.a3,.int .u8 x.o7.a4,.int .u8 x.o7.a5,.int .u8 x.o7.a6,.int .u8 x.o7.a7]
def p9(x:TL):LV:=.agg (L1 x)
theorem c7v(a b:TL):a=b↔a.m9=b.m9/\a.o7=b.o7:=by
 cases a;cases b;simp
theorem L9(a b:TL):B0 (p9 a) (p9 b)=decide (a=b):=by
 rw[Bool.eq_iff_iff,decide_eq_true_eq];simp only[c7v,b4d,A8.x,p9,L1,B0,I0,U4,Bool.and_eq_true,beq_iff_eq,and_assoc,and_true]
abbrev F1:List CK:=[.int .u8,.int .u32,.int .u32]
def m7(x:UT)(o:List (LV×Nat)):LO:=.pm true F1 (L2 i8 n9 x) o
abbrev x5:List CK:=[.int .u8,.int .u32,.int .u32,.int .u8,.int .u8,.int .u8,.int .u8,.int .u8,.int .u8,.int .u8,.int .u8]
def b9(x:PT):LO:=.map true x5 (x9 p9 (LV.int .u8) x)
structure TG where
 b7:TX
 j8:A8 Int
 v8:Int
 deriving DecidableEq,Inhabited
def H8(x:TG):List LV:=[.int .u8 x.b7.F3,.int .u32 x.b7.D6,.int .u32 x.b7.F5,.int .u8 x.j8.a0,.int .u8 x.j8.a1,.int .u8 x.j8.a2,.int .u8 x.j8.a3,.int .u8 x.j8.a4,.int .u8 x.j8.a5,.int .u8 x.j8.a6,.int .u8 x.j8.a7,.int .u8 x.v8]
def b9b(x:TG):LV:=.agg (H8 x)
structure TO where
 K2:List TX
 H5:List TG
 deriving DecidableEq,Inhabited
def Z9(x:TO):List LV:=[.ds 3 x.K2.length (b6 f5 default x.K2),.ds 12 x.H5.length (b6 H8 default x.H5)]
def a6u(x:TO):LV:=.agg (Z9 x)
abbrev ks4:List CK:=[.int .u8,.int .u8,.int .u8,.int .u8,.int .u8,.int .u8,.int .u8,.int .u8]
def oM5(x:List (A8 Int×Bool)):LO:=.map true ks4 (x9 (λz_:A8 Int=>LV.agg [.int .u8 z_.a0,.int .u8 z_.a1,.int .u8 z_.a2,.int .u8 z_.a3,.int .u8 z_.a4,.int .u8 z_.a5,.int .u8 z_.a6,.int .u8 z_.a7]) LV.bool x)
structure m0 where
 n5:TS
 L_:Bool
 deriving DecidableEq,Inhabited
def B5(x:m0):List LV:=[.int .u32 x.n5.B8,.int .u8 x.n5.b7.F3,.int .u32 x.n5.b7.D6,.int .u32 x.n5.b7.F5,.bool x.L_]
def b4a(x:m0):LV:=.agg (B5 x)
structure b8 where
 b7:TX
 j8:A8 Int
 v8:Int
 deriving DecidableEq,Inhabited
def o4(x:b8):List LV:=[.int .u8 x.b7.F3,.int .u32 x.b7.D6,.int .u32 x.b7.F5,.int .u8 x.j8.a0,.int .u8 x.j8.a1,.int .u8 x.j8.a2,.int .u8 x.j8.a3,.int .u8 x.j8.a4,.int .u8 x.j8.a5,.int .u8 x.j8.a6,.int .u8 x.j8.a7,.int .u8 x.v8]
def P5(x:b8):LV:=.agg (o4 x)
theorem c7w(a b:b8):a=b↔a.b7=b.b7/\a.j8=b.j8/\a.v8=b.v8:=by
 cases a;cases b;simp
theorem b50(a b:b8):B0 (P5 a) (P5 b)=decide (a=b):=by
 rw[Bool.eq_iff_iff,decide_eq_true_eq];simp only[c7w,b4d,A8.x,P5,o4,B0,I0,U4,Bool.and_eq_true,beq_iff_eq,and_assoc,and_true]
structure f7 where
 f_L:List m0
 d9:List b8
 f0:List b8
 deriving DecidableEq,Inhabited
def n8(x:f7):List LV:=[.ds 5 x.f_L.length (b6 B5 default x.f_L),.ds 12 x.d9.length (b6 o4 default x.d9),.ds 12 x.f0.length (b6 o4 default x.f0)]
structure w8 where
 K2:List TX
 H5:List b8
 deriving DecidableEq,Inhabited
def U2(x:w8):List LV:=[.ds 3 x.K2.length (b6 f5 default x.K2),.ds 12 x.H5.length (b6 o4 default x.H5)]
def a1Y(x:w8):LV:=.agg (U2 x)
abbrev E_:Bool->Type|false=>TX|true=>TL
abbrev LE(bb:Bool):=List (E_ bb)
instance (bb:Bool):Inhabited (E_ bb):=match bb with|false=>inferInstanceAs (Inhabited TX)|true=>inferInstanceAs (Inhabited TL)
def o5:(bb:Bool)->E_ bb->List LV|false=>f5|true=>L1
def u4:(bb:Bool)->E_ bb->LV|false=>i8|true=>p9
def z_:Bool->Nat|false=>3|true=>11
abbrev n4(V:List LV)(u:UT)(h w:PT):=a_ (l0 (.var V)) (a_ (e_ (m7 u []:LO)) (a_ (l0 (b9 h)) (a_ (l0 (b9 w)) tr)))
abbrev i6(x:LV×u6×i9):H6:={call:=some x}
abbrev m6(bb:Bool)(l:LE bb):LO:=.gr (z_ bb) l.length (b6 (o5 bb) default l)
abbrev M0(bb:Bool){l m:LE bb}(e:some l=some m):=LO.Sub.of_eq (a31 (m6 bb) e)
theorem uS{bb:Bool}{l:LE bb}{us:UT}{hd wt:PT}:a1V 5 [some (m6 bb l),some (.var [.map 2,.map 3,.map 4]),some (m7 us []),some (b9 hd),some (b9 wt)]:=⟨λ_ _=>by cases bb<;>rfl,rfl,uP,tr,tr,tr⟩
theorem uT{us:UT}{hd wt:PT}:a1V 4 [some (.var [.map 1,.map 2,.map 3]),some (m7 us []),some (b9 hd),some (b9 wt)]:=⟨rfl,uP,tr,tr,tr⟩
def a1G:Bool->Func|false=>Tryz.f101|true=>Tryz.f127
def w6:Bool->Nat|false=>53|true=>65
def b6L:Bool->Nat|false=>101|true=>127
def a1H:Bool->Func|false=>Tryz.f117|true=>Tryz.f140
def b6T:Bool->Nat|false=>117|true=>140
def a7Q:Bool->Func|false=>Tryz.f102|true=>Tryz.f128
def b6M:Bool->Nat|false=>102|true=>128
def a4w:Bool->Func|false=>Tryz.f103|true=>Tryz.f129
def b6N:Bool->Nat|false=>103|true=>129
def b6W:Bool->Nat|false=>135|true=>147
def c4R:Bool->Func|false=>Tryz.f135|true=>Tryz.f147
def b6V:Bool->Nat|false=>121|true=>142
def c4Q:Bool->Func|false=>Tryz.f121|true=>Tryz.f142
def b6U:Bool->Nat|false=>120|true=>141
def c4P:Bool->Func|false=>Tryz.f120|true=>Tryz.f141
def F_:Bool->Func|false=>Tryz.f104|true=>Tryz.f130
def b6O:Bool->Nat|false=>104|true=>130
def b3j:Bool->Func|false=>Tryz.f105|true=>Tryz.f131
def b6P:Bool->Nat|false=>105|true=>131
def N8:Bool->Func|false=>Tryz.f106|true=>Tryz.f132
def b6Q:Bool->Nat|false=>106|true=>132
def J8:Bool->Func|false=>Tryz.f108|true=>Tryz.f134
def b6S:Bool->Nat|false=>108|true=>134
def Z1:Bool->Func|false=>Tryz.f107|true=>Tryz.f133
def b6R:Bool->Nat|false=>107|true=>133
def Q2:Bool->Func|false=>Tryz.f82|true=>Tryz.f114
def Y2:Bool->Nat|false=>82|true=>114
theorem c4S:∀bb,Tryz.prog.funcs[(b6L bb)]?=some (a1G bb)|false=>Tryz.func101|true=>Tryz.func127
theorem c40:∀bb,Tryz.prog.funcs[(b6T bb)]?=some (a1H bb)|false=>Tryz.func117|true=>Tryz.func140
theorem c4T:∀bb,Tryz.prog.funcs[(b6M bb)]?=some (a7Q bb)|false=>Tryz.func102|true=>Tryz.func128
theorem c4U:∀bb,Tryz.prog.funcs[(b6N bb)]?=some (a4w bb)|false=>Tryz.func103|true=>Tryz.func129
theorem c43:∀bb,Tryz.prog.funcs[(b6W bb)]?=some (c4R bb)|false=>Tryz.func135|true=>Tryz.func147
theorem c42:∀bb,Tryz.prog.funcs[(b6V bb)]?=some (c4Q bb)|false=>Tryz.func121|true=>Tryz.func142
theorem c41:∀bb,Tryz.prog.funcs[(b6U bb)]?=some (c4P bb)|false=>Tryz.func120|true=>Tryz.func141
theorem c4V:∀bb,Tryz.prog.funcs[(b6O bb)]?=some (F_ bb)|false=>Tryz.func104|true=>Tryz.func130
theorem c4W:∀bb,Tryz.prog.funcs[(b6P bb)]?=some (b3j bb)|false=>Tryz.func105|true=>Tryz.func131
theorem c4X:∀bb,Tryz.prog.funcs[(b6Q bb)]?=some (N8 bb)|false=>Tryz.func106|true=>Tryz.func132
theorem c4Z:∀bb,Tryz.prog.funcs[(b6S bb)]?=some (J8 bb)|false=>Tryz.func108|true=>Tryz.func134
theorem c4Y:∀bb,Tryz.prog.funcs[(b6R bb)]?=some (Z1 bb)|false=>Tryz.func107|true=>Tryz.func133
theorem c44:∀bb,Tryz.prog.funcs[(Y2 bb)]?=some (Q2 bb)|false=>Tryz.func82|true=>Tryz.func114
theorem c0Z(l:List UInt8)(c:Int):b0H Tryz.prog 146 [.str l,.int .u8 c] (.int .i64 (Lib.indexByte l c.toNat.toUInt8)):=c00 Tryz.func146 (by kernel_rfl) (by kernel_rfl) (by kernel_rfl) (by kernel_rfl) l c
def a0L(r:UT×PT×PT):LV:=.ptr 0 0 0
def a0K(r:UT×PT×PT):i9:=[(0,some (.var [.map 1,.map 2,.map 3])),(1,some (m7 r.1 [])),(2,some (b9 r.2.1)),(3,some (b9 r.2.2))]
def a5v:Option (UT×PT×PT):=
 some (([]:UT),([]:PT),([]:PT))
theorem a1o(r:UT×PT×PT)(h:a5v=some r):∀σ,p8 4 σ->j9 Tryz.prog 9 (n7 σ []) (p5 σ 0 []) ((a0L r).ren σ) (p6 σ (a0K r)):=by
 refine u7 Tryz.func9 tr ⟨rfl,uP,tr,tr,tr⟩ ?_;intro w0 W μ0 hμ;unfold a5v at h;obtain rfl:=i7 h;exact l8 [3,0,1,2] 16 [.reg [],.reg [],.x (.p (.pn 0))]
  (q3 (q0 (q8 tr) (q2 (q9 (e_ true) (b5 tr))) tr tr))
def a9C(r:(List TA)):LV:=.ds 15 r.length (b6 W5 default r)
def a4h(l:List TA):Option ((List TA)):=
 (some (if 60<(l.length:Int) then 60 else(l.length:Int))).bind λy1=>
 if 0<=(0:Int)/\0<=y1/\y1<=(l.length:Int) then
 some (l.take y1.toNat)
 else none
theorem c3T(l:List TA)(r:(List TA))(h:a4h l=some r):∀σ,p8 0 σ->j9 Tryz.prog 12 (n7 σ [.ds 15 l.length (b6 W5 default l)]) (p5 σ 0 []) ((a9C r).ren σ) (p6 σ []):=by
 refine u7 Tryz.func12 tr tr ?_;intro w0 W μ0 hμ;unfold a4h at h;obtain⟨y1,e2,h⟩:=d6 h;obtain⟨g3,h⟩:=j6 h;obtain rfl:=i7 h;exact l8 [] 15 [.reg [(0,j5 (.ds 15 (([]:List TA)).length (b6 W5 default ([]:List TA))))],.reg [(3,j5 (.int .i64 y1)),(4,j5 (.ds 15 ((l.take y1.toNat)).length (b6 W5 default (l.take y1.toNat))))]]
  (F8 (D4 (A6 15 (b6 W5 default []))) (q2 (q5 tr (n0 (LV.int .i64) e2) (S6 (a_ (e_ 15) g3) (a1n W5 default 15 l y1.toNat (S7 g3.2.2))))))
theorem b7m(l:List TA)(r:(List TA))(h:a4h l=some r):j9 Tryz.prog 12 [.ds 15 l.length (b6 W5 default l)] [] (a9C r) []:=j9.none (c3T l r h) rfl rfl
def a7v(r:Bool):LV:=.bool r
def a4f(y2:(List TA)):Nat->Int->Option Bool
 |0,_=>none
 |fuel+1,t8=>
  if decide (t8<(y2.length:Int)) then
   if 0<=t8/\t8<(y2.length:Int) then
   (some (((y2.getD t8.toNat default).K4).length:Int)).bind λy3=>
   if decide (30<y3) then
    some true
   else
    a4f y2 fuel (IntKind.wrap .i64 (t8+1))
   else none
  else
   some false
def a5M(l:List TA):Option Bool:=
 (a4h l).bind λy2=>
 a4f y2 big 0
abbrev c3N(y2:(List TA))(t8:Int)(r:Bool):Prop:=p3 w0 W μ0 Tryz.f10 0 0 (a7v r) [] (z6 (o9 Tryz.f10) 0) (n_ 6 ((.ds 15 y2.length (b6 W5 default y2))::(.int .i64 (y2.length:Int))::(.int .i64 t8)::n_ 8 [])) []
theorem c3O{w0 W μ0}(hμ:p4 μ0 0)(y2:(List TA)):∀(fuel:Nat) (t8:Int) (r:Bool),a4f y2 fuel t8=some r->c3N w0 W μ0 y2 t8 r:=by
 intro fuel
 induction fuel with
 |zero=>intro t8 r h;rw[a4f] at h;cases h
 |succ fuel ih=>
  intro t8 r h;rw[a4f] at h;rcases i5 h with⟨C1,h⟩|⟨C1,h⟩
  ·obtain⟨G2,h⟩:=j6 h
   obtain⟨y3,E4,h⟩:=d6 h;rcases i5 h with⟨C5,h⟩|⟨C5,h⟩
   ·obtain rfl:=i7 h
    exact l8 [] 28 [.go,.reg [(0,hT)],.reg [],.reg [(2,j5 (.int .i64 y3)),(3,hT)],.reg []]
     (q3 (E0 (f_ C1 tr) (q4 (e_ 15) G2 (K1 (d8 15 15 rfl) (e_ 15) (d8 15 15 rfl) (e_ 0))) (q8 (l_ 14 15 rfl (a_ (a_ tr (a_ (n0 (LV.int .i64) E4) tr)) (f_ C5 tr)))) (q8 tr)))
   ·exact n3 hμ [] 29 [.go,.reg [(0,hT)],.reg [],.reg [(2,j5 (.int .i64 y3)),(3,hF)],.reg []]
     (V3 (f_ C1 tr) (q4 (e_ 15) G2 (K1 (d8 15 15 rfl) (e_ 15) (d8 15 15 rfl) (e_ 0))) (q8 (l_ 14 15 rfl (a_ (a_ tr (a_ (n0 (LV.int .i64) E4) tr)) (f_ C5 tr))))) (ih _ r h) tr
  ·obtain rfl:=i7 h
   exact l8 [] 19 [.go,.reg [(0,hF)],.reg []]
    (F8 (f_ C1 tr) (q8 tr))
theorem c3P(l:List TA)(r:Bool)(h:a5M l=some r):∀σ,p8 0 σ->j9 Tryz.prog 10 (n7 σ [.ds 15 l.length (b6 W5 default l)]) (p5 σ 0 []) ((a7v r).ren σ) (p6 σ []):=by
 refine u7 Tryz.func10 tr tr ?_;intro w0 W μ0 hμ;unfold a5M at h;obtain⟨y2,e1,h⟩:=d6 h;exact n3 hμ [] 18 [.reg [],.reg [(1,hC (a9C y2))]]
  (q7 (q8 tr) (q8 (c_ (b7m l y2 e1) (b5 tr)))) (c3O hμ y2 big _ r h) tr
theorem b7l(l:List TA)(r:Bool)(h:a5M l=some r):j9 Tryz.prog 10 [.ds 15 l.length (b6 W5 default l)] [] (a7v r) []:=j9.none (c3P l r h) rfl rfl
def S4(r:TS):LV:=V5 r
def a1u(x_n:Int):Option TS:=
 (some (TS.mk x_n (TX.mk 0 1 (IntKind.wrap .u32 (x_n+1))))).bind λy1=>
 some y1
theorem c3U(x_n:Int)(r:TS)(h:a1u x_n=some r):∀σ,p8 0 σ->j9 Tryz.prog 34 (n7 σ [.int .u32 x_n]) (p5 σ 0 []) ((S4 r).ren σ) (p6 σ []):=by
 refine u7 Tryz.func34 tr tr ?_;intro w0 W μ0 hμ;unfold a1u at h;obtain⟨y1,e2,h⟩:=d6 h;obtain rfl:=i7 h;exact l8 [] 15 [.reg [],.reg [(4,j5 (V5 y1))]]
  (q5 (q8 tr) (q2 (q0 (q3 (e_ true)) (q7 (e_ true) (n0 V5 e2)) (q1 (e_ 4) (a_ (d8 4 4 rfl) (e_ 0)) tr) tr)) (q1 tr (d8 4 4 rfl) tr))
theorem U9(x_n:Int)(r:TS)(h:a1u x_n=some r):j9 Tryz.prog 34 [.int .u32 x_n] [] (S4 r) []:=j9.none (c3U x_n r h) rfl rfl
def T4(r:Unit):LV:=.bool true
def T3(hh ww:PT)(r:Unit):i9:=[(0,some (.var [.map 1,.map 2,.map 3])),(2,some (b9 hh)),(3,some (b9 ww))]
def T2(uu:UT)(hh ww:PT):List LO:=[.var [.map 1,.map 2,.map 3],.mapR true F1 (x9 i8 (λ_=>LV.any) uu),b9 hh,b9 ww]
def P9(uu:UT)(hh ww:PT):Option Unit:=
 some ()
theorem U7(uu:UT)(hh ww:PT)(r:Unit)(h:P9 uu hh ww=some r):∀σ,p8 4 σ->j9 Tryz.prog 36 (n7 σ [.ptr 0 0 0]) (p5 σ 0 (T2 uu hh ww)) ((T4 r).ren σ) (p6 σ (T3 hh ww r)):=by
 refine u7 Tryz.func36 ⟨rfl,tr,tr,tr,tr⟩ ⟨rfl,tr,tr,tr⟩ ?_;intro w0 W μ0 hμ;unfold P9 at h;obtain rfl:=i7 h;exact l8 [] 15 [.reg [],.reg []]
  (Y9 (b5 (l9 (l_ 0 3 rfl (b4 (b5 tr))))))
def a6T(r:Bool):LV:=.bool r
def a49(x_n:Int):Option Bool:=
 some (decide ((IntKind.wrap .u32 (x_n - 1))<2147483647))
theorem c1r(x_n:Int)(r:Bool)(h:a49 x_n=some r):∀σ,p8 0 σ->j9 Tryz.prog 87 (n7 σ [.int .u32 x_n]) (p5 σ 0 []) ((a6T r).ren σ) (p6 σ []):=by
 refine u7 Tryz.func87 tr tr ?_;intro w0 W μ0 hμ;unfold a49 at h;obtain rfl:=i7 h;exact l8 [] 15 [.reg [],.reg []]
  (Y9 (l9 tr))
theorem b1U(x_n:Int)(r:Bool)(h:a49 x_n=some r):j9 Tryz.prog 87 [.int .u32 x_n] [] (a6T r) []:=j9.none (c1r x_n r h) rfl rfl
def a1h(r:Bool):LV:=.bool r
def a3G(t:TX):Option Bool:=
 if decide (t.F3<8) then
  (a49 t.D6).bind λy3=>
  if y3 then
   (a49 t.F5).bind λy6=>
   some y6
  else
   some false
 else
  some false
theorem c1p(t:TX)(r:Bool)(h:a3G t=some r):∀σ,p8 0 σ->j9 Tryz.prog 60 (n7 σ [i8 t]) (p5 σ 0 []) ((a1h r).ren σ) (p6 σ []):=by
 refine u7 Tryz.func60 tr tr ?_;intro w0 W μ0 hμ;unfold a3G at h;rcases i5 h with⟨c1,h⟩|⟨c1,h⟩
 ·obtain⟨y3,e2,h⟩:=d6 h
  rcases i5 h with⟨c4,h⟩|⟨c4,h⟩
  ·obtain⟨y6,e5,h⟩:=d6 h
   obtain rfl:=i7 h;exact l8 [] 15 [.reg [],.reg [(3,hT),(6,hC (a6T y3)),(8,hT),(11,hC (a6T y6))]]
    (X0 (l_ 0 3 rfl (b4 (f_ c1 (b4 (l_ 1 3 rfl (c_ (b1U t.D6 y3 e2) (b4 (f_ c4 (b4 (l_ 2 3 rfl (c_ (b1U t.F5 y6 e5) (b5 tr)))))))))))))
  ·obtain rfl:=i7 h
   exact l8 [] 15 [.reg [],.reg [(3,hT),(6,hC (a6T y3)),(8,hF)]]
    (X0 (l_ 0 3 rfl (b4 (f_ c1 (b4 (l_ 1 3 rfl (c_ (b1U t.D6 y3 e2) (b4 (f_ c4 (a_ tr (u5 (b5 tr))))))))))))
 ·obtain rfl:=i7 h
  exact l8 [] 15 [.reg [],.reg [(3,hF)]]
   (X0 (l_ 0 3 rfl (b4 (f_ c1 (a_ tr (u5 (b5 (a_ tr (u5 (b5 tr))))))))))
theorem a3H(t:TX)(r:Bool)(h:a3G t=some r):j9 Tryz.prog 60 [i8 t] [] (a1h r) []:=j9.none (c1p t r h) rfl rfl
def a3E(r:Bool):LV:=.bool r
def a48(s:TS):Option Bool:=
 if decide (s.B8<=2147483647) then
  (a3G s.b7).bind λy3=>
  some y3
 else
  some false
theorem c1n(s:TS)(r:Bool)(h:a48 s=some r):∀σ,p8 0 σ->j9 Tryz.prog 57 (n7 σ [V5 s]) (p5 σ 0 []) ((a3E r).ren σ) (p6 σ []):=by
 refine u7 Tryz.func57 tr tr ?_;intro w0 W μ0 hμ;unfold a48 at h;rcases i5 h with⟨c1,h⟩|⟨c1,h⟩
 ·obtain⟨y3,e2,h⟩:=d6 h
  obtain rfl:=i7 h;exact l8 [] 15 [.reg [],.reg [(3,hT),(6,hC (a1h y3))]]
   (X0 (l_ 0 4 rfl (b4 (f_ c1 (b4 (m_ 4 4 rfl (c_ (a3H s.b7 y3 e2) (b5 tr))))))))
 ·obtain rfl:=i7 h
  exact l8 [] 15 [.reg [],.reg [(3,hF)]]
   (X0 (l_ 0 4 rfl (b4 (f_ c1 (a_ tr (u5 (b5 tr)))))))
theorem a6S(s:TS)(r:Bool)(h:a48 s=some r):j9 Tryz.prog 57 [V5 s] [] (a3E r) []:=j9.none (c1n s r h) rfl rfl
def b0z(r:(List UInt8)):LV:=.str r
def a05(c:Int):Nat->(List UInt8)->Option ((List UInt8))
 |0,_=>none
 |fuel+1,s2=>
  if decide (0<(s2.length:Int)) then
   if 0<=(IntKind.wrap .i64 ((s2.length:Int) - 1))/\(IntKind.wrap .i64 ((s2.length:Int) - 1))<(s2.length:Int) then
   (some ((s2.getD ((IntKind.wrap .i64 ((s2.length:Int) - 1))).toNat 0).toNat:Int)).bind λy3=>
   if y3==c then
    if 0<=(0:Int)/\(0:Int)<=(IntKind.wrap .i64 ((s2.length:Int) - 1))/\(IntKind.wrap .i64 ((s2.length:Int) - 1))<=(s2.length:Int) then
    a05 c fuel ((s2.drop 0).take (((IntKind.wrap .i64 ((s2.length:Int) - 1))).toNat - 0))
    else none
   else
    some s2
   else none
  else
   some s2
def a6o(s:List UInt8)(c:Int):Option ((List UInt8)):=
 a05 c big s
abbrev c7f(c:Int)(s2:List UInt8)(r:(List UInt8)):Prop:=p3 w0 W μ0 Tryz.f122 0 0 (b0z r) [] (z6 (o9 Tryz.f122) 0) ((.str s2)::(.int .u8 c)::n_ 21 []) []
theorem c7g{w0 W μ0}(hμ:p4 μ0 0)(c:Int):∀(fuel:Nat) (s2:List UInt8) (r:(List UInt8)),a05 c fuel s2=some r->c7f w0 W μ0 c s2 r:=by
 intro fuel
 induction fuel with
 |zero=>intro s2 r h;rw[a05] at h;cases h
 |succ fuel ih=>
  intro s2 r h;rw[a05] at h;rcases i5 h with⟨C1,h⟩|⟨C1,h⟩
  ·obtain⟨G2,h⟩:=j6 h
   obtain⟨y3,E4,h⟩:=d6 h;rcases i5 h with⟨C5,h⟩|⟨C5,h⟩
   ·obtain⟨G6,h⟩:=j6 h
    exact n3 hμ [] 20 [.go,.reg [(3,hT),(8,j5 (.int .u8 y3)),(11,hT)],.reg []]
     (q7 (q2 (f_ C1 (l9 (a_ (a_ G2 (a_ (n0 (LV.int .u8) E4) tr)) (b5 (f_ C5 tr)))))) (l9 (I2 G6))) (ih _ r h) tr
   ·obtain rfl:=i7 h
    exact l8 [] 19 [.go,.reg [(3,hT),(8,j5 (.int .u8 y3)),(11,hF)],.reg []]
     (F8 (q2 (f_ C1 (l9 (a_ (a_ G2 (a_ (n0 (LV.int .u8) E4) tr)) (b5 (f_ C5 tr)))))) (b5 tr))
  ·obtain rfl:=i7 h
   exact l8 [] 19 [.go,.reg [(3,hF)],.reg []]
    (F8 (q2 (f_ C1 (a_ tr (u5 (z8 (b4 tr)))))) (b5 tr))
theorem c7h(s:List UInt8)(c:Int)(r:(List UInt8))(h:a6o s c=some r):∀σ,p8 0 σ->j9 Tryz.prog 122 (n7 σ [.str s,.int .u8 c]) (p5 σ 0 []) ((b0z r).ren σ) (p6 σ []):=by
 refine u7 Tryz.func122 tr tr ?_;intro w0 W μ0 hμ;unfold a6o at h;exact n3 hμ [] 15 [.reg []]
  (q3 (q8 tr)) (c7g hμ c big _ r h) tr
theorem c7i(s:List UInt8)(c:Int)(r:(List UInt8))(h:a6o s c=some r):j9 Tryz.prog 122 [.str s,.int .u8 c] [] (b0z r) []:=j9.none (c7h s c r h) rfl rfl
def a8b(r:(List UInt8)):LV:=.str r
def a04(s:List UInt8):Option ((List UInt8)):=
 if s==[] then
  some s
 else
  (a6o s 0).bind λy3=>
  some y3
theorem c7e(s:List UInt8)(r:(List UInt8))(h:a04 s=some r):∀σ,p8 0 σ->j9 Tryz.prog 111 (n7 σ [.str s,.str ([0]:List UInt8)]) (p5 σ 0 []) ((a8b r).ren σ) (p6 σ []):=by
 refine u7 Tryz.func111 tr tr ?_;intro w0 W μ0 hμ;unfold a04 at h;rcases i5 h with⟨c1,h⟩|⟨c1,h⟩
 ·obtain rfl:=i7 h
  exact l8 [] 20 [.reg [],.reg [(2,hT)],.reg []]
   (q3 (B6 (q8 tr) (f_ c1 (u5 (b4 tr))) (b5 tr) tr))
 ·obtain⟨y3,e2,h⟩:=d6 h
  obtain rfl:=i7 h;exact l8 [] 26 [.reg [],.reg [(2,hF)],.reg [],.reg [(3,hC (b0z y3))]]
   (q3 (B6 (q8 tr) (f_ c1 (b4 (b5 tr))) (N7 (q4 (I8 0 0 rfl) (b6x 0 1 rfl) (b5 tr))) (q3 (b5 (q4 (I8 0 0 rfl) (b6x 0 1 rfl) (c_ (c7i s 0 y3 e2) (b4 tr)))))))
theorem b32(s:List UInt8)(r:(List UInt8))(h:a04 s=some r):j9 Tryz.prog 111 [.str s,.str ([0]:List UInt8)] [] (a8b r) []:=j9.none (c7e s r h) rfl rfl
def b1W(r:Int):LV:=.int .i64 r
def a6W(s:List UInt8)(c:Int):Option Int:=
 some (Lib.indexByte s c.toNat.toUInt8)
theorem c1v(s:List UInt8)(c:Int)(r:Int)(h:a6W s c=some r):∀σ,p8 0 σ->j9 Tryz.prog 139 (n7 σ [.str s,.int .u8 c]) (p5 σ 0 []) ((b1W r).ren σ) (p6 σ []):=by
 refine u7 Tryz.func139 tr tr ?_;intro w0 W μ0 hμ;unfold a6W at h;obtain rfl:=i7 h;exact l8 [] 15 [.reg [],.reg [(2,{ext:=some (.int .i64 (Lib.indexByte s c.toNat.toUInt8))})]]
  (Y9 (b5 (I2 (c0Z s c))))
theorem c1w(s:List UInt8)(c:Int)(r:Int)(h:a6W s c=some r):j9 Tryz.prog 139 [.str s,.int .u8 c] [] (b1W r) []:=j9.none (c1v s c r h) rfl rfl
def b0y(r:Int):LV:=.int .i64 r
def a6n(s:List UInt8)(c:Int):Option Int:=
 (a6W s c).bind λy2=>
 some y2
theorem c7d(s:List UInt8)(c:Int)(r:Int)(h:a6n s c=some r):∀σ,p8 0 σ->j9 Tryz.prog 126 (n7 σ [.str s,.int .u8 c]) (p5 σ 0 []) ((b0y r).ren σ) (p6 σ []):=by
 refine u7 Tryz.func126 tr tr ?_;intro w0 W μ0 hμ;unfold a6n at h;obtain⟨y2,e1,h⟩:=d6 h;obtain rfl:=i7 h;exact l8 [] 15 [.reg [],.reg [(2,hC (b1W y2))]]
  (Y9 (b5 (c_ (c1w s c y2 e1) (b4 tr))))
theorem b8Q(s:List UInt8)(c:Int)(r:Int)(h:a6n s c=some r):j9 Tryz.prog 126 [.str s,.int .u8 c] [] (b0y r) []:=j9.none (c7d s c r h) rfl rfl
def a6Q(r:(A8 Int)×Int):LV:=.tup [.agg [.int .u8 r.1.a0,.int .u8 r.1.a1,.int .u8 r.1.a2,.int .u8 r.1.a3,.int .u8 r.1.a4,.int .u8 r.1.a5,.int .u8 r.1.a6,.int .u8 r.1.a7],.int .i64 r.2]
def a2i(s:List UInt8):Option ((A8 Int)×Int):=
 if s==[] then
  some ((A8.mk 0 0 0 0 0 0 0 0),1)
 else
  if decide (8<(s.length:Int)) then
   some ((A8.mk 0 0 0 0 0 0 0 0),1)
  else
   (a6n s 0).bind λy4=>
   if decide (0<=y4) then
    some ((A8.mk 0 0 0 0 0 0 0 0),1)
   else
    some ((A8.mk (if 0<s.length then((s.getD 0 0).toNat:Int) else 0) (if 1<s.length then((s.getD 1 0).toNat:Int) else 0) (if 2<s.length then((s.getD 2 0).toNat:Int) else 0) (if 3<s.length then((s.getD 3 0).toNat:Int) else 0) (if 4<s.length then((s.getD 4 0).toNat:Int) else 0) (if 5<s.length then((s.getD 5 0).toNat:Int) else 0) (if 6<s.length then((s.getD 6 0).toNat:Int) else 0) (if 7<s.length then((s.getD 7 0).toNat:Int) else 0)),0)
theorem c1g(s:List UInt8)(r:(A8 Int)×Int)(h:a2i s=some r):∀σ,p8 0 σ->j9 Tryz.prog 112 (n7 σ [.str s]) (p5 σ 0 []) ((a6Q r).ren σ) (p6 σ []):=by
 refine u7 Tryz.func112 tr tr ?_;intro w0 W μ0 hμ;unfold a2i at h;rcases i5 h with⟨c1,h⟩|⟨c1,h⟩
 ·obtain rfl:=i7 h
  exact l8 [] 23 [.reg [],.reg [],.reg [(2,hT)],.reg []]
   (F9 (q42 tr (b5 (f_ c1 (a_ tr (u5 (b5 (a_ tr (u5 (b4 tr)))))))) (m_ 8 8 rfl (a_ (a_ (a_ (e_ 8) (a_ (d8 8 8 rfl) (e_ 0))) tr) (b4 tr)))) (d8 8 8 rfl))
 ·rcases i5 h with⟨c2,h⟩|⟨c2,h⟩
  ·obtain rfl:=i7 h
   exact l8 [] 23 [.reg [],.reg [],.reg [(2,hF),(7,hT)],.reg []]
    (F9 (q42 tr (b5 (f_ c1 (l9 (f_ c2 (a_ tr (u5 (b4 tr))))))) (m_ 8 8 rfl (a_ (a_ (a_ (e_ 8) (a_ (d8 8 8 rfl) (e_ 0))) tr) (b4 tr)))) (d8 8 8 rfl))
  ·obtain⟨y4,e3,h⟩:=d6 h
   rcases i5 h with⟨c5,h⟩|⟨c5,h⟩
   ·obtain rfl:=i7 h
    exact l8 [] 23 [.reg [],.reg [],.reg [(2,hF),(7,hF),(9,hC (b0y y4)),(11,hT)],.reg []]
     (F9 (q42 tr (b5 (f_ c1 (l9 (f_ c2 (b4 (c_ (b8Q s 0 y4 e3) (b4 (f_ c5 tr)))))))) (m_ 8 8 rfl (a_ (a_ (a_ (e_ 8) (a_ (d8 8 8 rfl) (e_ 0))) tr) (b4 tr)))) (d8 8 8 rfl))
   ·obtain rfl:=i7 h
    exact l8 [] 27 [.reg [],.reg [],.reg [(2,hF),(7,hF),(9,hC (b0y y4)),(11,hF)],.reg [],.reg []]
     (F9 (q6 (b5 tr) tr (b5 (f_ c1 (l9 (f_ c2 (b4 (c_ (b8Q s 0 y4 e3) (b4 (f_ c5 tr)))))))) (q1 (q1 (I8 0 0 rfl) (a_ (I8 0 8 rfl) (I8 8 8 rfl)) tr) (q8 (q9 (q0 (e_ 1) (e_ 0) (d8 8 8 rfl) (e_ true)) tr)) (q3 (m_ 8 8 rfl (a_ (a_ (a_ (e_ 8) (a_ (d8 8 8 rfl) (e_ 0))) tr) (b4 tr)))))) (d8 8 8 rfl))
theorem b1P(s:List UInt8)(r:(A8 Int)×Int)(h:a2i s=some r):j9 Tryz.prog 112 [.str s] [] (a6Q r) []:=j9.none (c1g s r h) rfl rfl
def a6R(r:(List UInt8)×Bool):LV:=.tup [.str r.1,.bool r.2]
def b1R:Option ((List UInt8)×Bool):=
 some ([],false)
def b1S(y2:(List UInt8)):Option ((List UInt8)×Bool):=
 some (y2,true)
def a2j(x_k:A8 Int):Option ((List UInt8)×Bool):=
 (a04 (P3 (([x_k.a0,x_k.a1,x_k.a2,x_k.a3,x_k.a4,x_k.a5,x_k.a6,x_k.a7]:List Int).take 8))).bind λy2=>
 (a2i y2).bind λy4=>
 if y4.2 !=0 then
  some ([],false)
 else
  if !decide (y4.1=x_k) then
   b1R
  else
   b1S y2
theorem c1j{w0 W μ0}(hμ:p4 μ0 0)(r:(List UInt8)×Bool)(h:b1R=some r):p3 w0 W μ0 Tryz.f85 0 0 (a6R r) [] (z7 (o9 Tryz.f85) 4) (n_ 23 []) []:=by
 unfold b1R at h;obtain rfl:=i7 h;exact l8 [] 11 [.reg []]
  (q9 (b5 tr) tr)
theorem c1k{w0 W μ0}(hμ:p4 μ0 0)(y2:(List UInt8))(r:(List UInt8)×Bool)(h:b1S y2=some r):p3 w0 W μ0 Tryz.f85 0 0 (a6R r) [] (z7 (o9 Tryz.f85) 5) (n_ 4 ((.str y2)::n_ 18 [])) []:=by
 unfold b1S at h;obtain rfl:=i7 h;exact l8 [] 11 [.reg []]
  (q9 (q2 tr) tr)
theorem c1l(x_k:A8 Int)(r:(List UInt8)×Bool)(h:a2j x_k=some r):∀σ,p8 0 σ->j9 Tryz.prog 85 (n7 σ [.agg [.int .u8 x_k.a0,.int .u8 x_k.a1,.int .u8 x_k.a2,.int .u8 x_k.a3,.int .u8 x_k.a4,.int .u8 x_k.a5,.int .u8 x_k.a6,.int .u8 x_k.a7]]) (p5 σ 0 []) ((a6R r).ren σ) (p6 σ []):=by
 refine u7 Tryz.func85 tr tr ?_;intro w0 W μ0 hμ;unfold a2j at h;obtain⟨y2,e1,h⟩:=d6 h;obtain⟨y4,e3,h⟩:=d6 h;rcases i5 h with⟨c5,h⟩|⟨c5,h⟩
 ·obtain rfl:=i7 h
  exact l8 [] 26 [.reg [],.reg [(1,{v:=some (.str (P3 (([x_k.a0,x_k.a1,x_k.a2,x_k.a3,x_k.a4,x_k.a5,x_k.a6,x_k.a7]:List Int).take 8)))}),(2,hC (a8b y2))],.reg [(1,hC (a6Q y4))],.reg [(2,hT)],.reg []]
   (q3 (q0 (q2 tr) (q0 (q1 (I8 0 0 rfl) (a_ (I8 0 8 rfl) (I8 8 8 rfl)) tr) (q7 (a8r [x_k.a0,x_k.a1,x_k.a2,x_k.a3,x_k.a4,x_k.a5,x_k.a6,x_k.a7] 8 8 (d8 8 8 rfl) rfl) (a9c [x_k.a0,x_k.a1,x_k.a2,x_k.a3,x_k.a4,x_k.a5,x_k.a6,x_k.a7] 8 8 (d8 8 8 rfl) rfl)) (q9 (b32 (P3 (([x_k.a0,x_k.a1,x_k.a2,x_k.a3,x_k.a4,x_k.a5,x_k.a6,x_k.a7]:List Int).take 8)) y2 e1) tr) (q8 tr)) (q8 (c_ (b1P y2 y4 e3) (l9 (a_ (a_ (a_ (e_ 8) (a_ (d8 8 8 rfl) (e_ 0))) tr) (b4 tr))))) (q7 (b5 (f_ c5 (a_ tr (u5 (b4 tr))))) (b5 tr))))
 ·rcases i5 h with⟨c6,h⟩|⟨c6,h⟩
  ·exact n3 hμ [] 24 [.reg [],.reg [(1,{v:=some (.str (P3 (([x_k.a0,x_k.a1,x_k.a2,x_k.a3,x_k.a4,x_k.a5,x_k.a6,x_k.a7]:List Int).take 8)))}),(2,hC (a8b y2))],.reg [(1,hC (a6Q y4))],.reg [(2,hF),(5,j5 (.bool (!decide (y4.1=x_k)))),(6,hT)]]
    (E0 (q2 tr) (q0 (q1 (I8 0 0 rfl) (a_ (I8 0 8 rfl) (I8 8 8 rfl)) tr) (q7 (a8r [x_k.a0,x_k.a1,x_k.a2,x_k.a3,x_k.a4,x_k.a5,x_k.a6,x_k.a7] 8 8 (d8 8 8 rfl) rfl) (a9c [x_k.a0,x_k.a1,x_k.a2,x_k.a3,x_k.a4,x_k.a5,x_k.a6,x_k.a7] 8 8 (d8 8 8 rfl) rfl)) (q9 (b32 (P3 (([x_k.a0,x_k.a1,x_k.a2,x_k.a3,x_k.a4,x_k.a5,x_k.a6,x_k.a7]:List Int).take 8)) y2 e1) tr) (q8 tr)) (q8 (c_ (b1P y2 y4 e3) (l9 (a_ (a_ (a_ (e_ 8) (a_ (d8 8 8 rfl) (e_ 0))) tr) (b4 tr))))) (b5 (f_ c5 (m_ 8 8 rfl (m_ 8 8 rfl (a_ (a_ tr (a_ (v6 (congrArg not ((J3 .u8) y4.1 x_k))) tr)) (f_ c6 tr))))))) (c1j hμ r h) tr
  ·exact n3 hμ [] 25 [.reg [],.reg [(1,{v:=some (.str (P3 (([x_k.a0,x_k.a1,x_k.a2,x_k.a3,x_k.a4,x_k.a5,x_k.a6,x_k.a7]:List Int).take 8)))}),(2,hC (a8b y2))],.reg [(1,hC (a6Q y4))],.reg [(2,hF),(5,j5 (.bool (!decide (y4.1=x_k)))),(6,hF)]]
    (E0 (q2 tr) (q0 (q1 (I8 0 0 rfl) (a_ (I8 0 8 rfl) (I8 8 8 rfl)) tr) (q7 (a8r [x_k.a0,x_k.a1,x_k.a2,x_k.a3,x_k.a4,x_k.a5,x_k.a6,x_k.a7] 8 8 (d8 8 8 rfl) rfl) (a9c [x_k.a0,x_k.a1,x_k.a2,x_k.a3,x_k.a4,x_k.a5,x_k.a6,x_k.a7] 8 8 (d8 8 8 rfl) rfl)) (q9 (b32 (P3 (([x_k.a0,x_k.a1,x_k.a2,x_k.a3,x_k.a4,x_k.a5,x_k.a6,x_k.a7]:List Int).take 8)) y2 e1) tr) (q8 tr)) (q8 (c_ (b1P y2 y4 e3) (l9 (a_ (a_ (a_ (e_ 8) (a_ (d8 8 8 rfl) (e_ 0))) tr) (b4 tr))))) (b5 (f_ c5 (m_ 8 8 rfl (m_ 8 8 rfl (a_ (a_ tr (a_ (v6 (congrArg not ((J3 .u8) y4.1 x_k))) tr)) (f_ c6 tr))))))) (c1k hμ y2 r h) tr
theorem c1m(x_k:A8 Int)(r:(List UInt8)×Bool)(h:a2j x_k=some r):j9 Tryz.prog 85 [.agg [.int .u8 x_k.a0,.int .u8 x_k.a1,.int .u8 x_k.a2,.int .u8 x_k.a3,.int .u8 x_k.a4,.int .u8 x_k.a5,.int .u8 x_k.a6,.int .u8 x_k.a7]] [] (a6R r) []:=j9.none (c1l x_k r h) rfl rfl
def a0N(r:Bool):LV:=.bool r
def a0M(x_k:A8 Int):Option Bool:=
 (a2j x_k).bind λy2=>
 some y2.2
theorem c2D(x_k:A8 Int)(r:Bool)(h:a0M x_k=some r):∀σ,p8 0 σ->j9 Tryz.prog 58 (n7 σ [.agg [.int .u8 x_k.a0,.int .u8 x_k.a1,.int .u8 x_k.a2,.int .u8 x_k.a3,.int .u8 x_k.a4,.int .u8 x_k.a5,.int .u8 x_k.a6,.int .u8 x_k.a7]]) (p5 σ 0 []) ((a0N r).ren σ) (p6 σ []):=by
 refine u7 Tryz.func58 tr tr ?_;intro w0 W μ0 hμ;unfold a0M at h;obtain⟨y2,e1,h⟩:=d6 h;obtain rfl:=i7 h;exact l8 [] 18 [.reg [],.reg [(1,hC (a6R y2))],.reg []]
  (q3 (q0 (b5 tr) (m_ 8 8 rfl (c_ (c1m x_k y2 e1) (b4 (l9 tr)))) (b5 tr) tr))
theorem a2t(x_k:A8 Int)(r:Bool)(h:a0M x_k=some r):j9 Tryz.prog 58 [.agg [.int .u8 x_k.a0,.int .u8 x_k.a1,.int .u8 x_k.a2,.int .u8 x_k.a3,.int .u8 x_k.a4,.int .u8 x_k.a5,.int .u8 x_k.a6,.int .u8 x_k.a7]] [] (a0N r) []:=j9.none (c2D x_k r h) rfl rfl
def a3J(r:(j7 TX)):LV:=.gs 1 r.length
def a3I(p:PT)(r:(j7 TX)):i9:=[(0,some (b9 p)),(1,some (.bag 3 (j7.map f5 r)))]
def a5b(p:PT):List LO:=[b9 p]
def a2l(p:PT)(x_k:A8 Int):Nat->(List TX)->PT->Option ((j7 TX))
 |0,_,_=>none
 |fuel+1,l,rest=>
  if List.isEmpty rest then
   some (j7.of l)
  else a0B rest λa1 rs2=>
   if decide (a1.1.o7=x_k) then
    if(l.length+(([a1.1.m9]:List TX)).length) * 12<=140737488351232 then
    a2l p x_k fuel (l++([a1.1.m9]:List TX)) rs2
    else none
   else
    a2l p x_k fuel l rs2
def a1j(p:PT)(x_k:A8 Int):Option ((j7 TX)):=
 a2l p x_k big ([]:List TX) p
abbrev c1K(p:PT)(x_k:A8 Int)(l:List TX)(rest:PT)(r:(j7 TX)):Prop:=p3 w0 W μ0 Tryz.f51 1 2 (a3J r) (a3I p r) (z6 (o9 Tryz.f51) 0) (.any:: .any:: .any::(.ptr 1 0 0):: .any::(.gs 2 l.length):: .any:: .any::(.ptr 3 0 0)::n_ 14 []) [none,some (.var [.int .u8 x_k.a0,.int .u8 x_k.a1,.int .u8 x_k.a2,.int .u8 x_k.a3,.int .u8 x_k.a4,.int .u8 x_k.a5,.int .u8 x_k.a6,.int .u8 x_k.a7]),some (.gr 3 l.length (b6 f5 default l)),some (.mit 0 true x5 (x9 p9 (LV.int .u8) p) none (x9 p9 (LV.int .u8) rest))]
theorem c1L{w0 W μ0}(hμ:p4 μ0 1)(p:PT)(x_k:A8 Int):∀(fuel:Nat) (l:List TX) (rest:PT) (r:(j7 TX)),a2l p x_k fuel l rest=some r->c1K w0 W μ0 p x_k l rest r:=by
 intro fuel
 induction fuel with
 |zero=>intro l rest r h;rw[a2l] at h;cases h
 |succ fuel ih=>
  intro l rest r h;rw[a2l] at h;refine a6Y (it:=8) (t1:=9) (t2:=10) (d:=3) (m:=0) (ag:=true) (ks:=x5) (es:=x9 p9 (LV.int .u8) p) p9 (LV.int .u8) rest (by kernel_rfl) (by kernel_rfl) (by kernel_rfl) (by kernel_rfl) (λhn_=>?_) (λi_ a1 hi_=>?_)
  ·rw[if_pos (a7T hn_)] at h
   obtain rfl:=i7 h;exact l8 [2] 17 [.x (.mitz 3),.reg [],.wk [] [(2,.bag 3 (j7.map f5 (j7.of l)))]]
    (q3 (B6 (show 0≠3 from by decide) tr (q7 tr (c7j f5 default 3 l (λ_=>rfl))) tr))
  ·rw[if_neg (a7U hi_)] at h
   replace h:=a6x h hi_
   generalize rest.eraseIdx i_=rs2 at h⊢;rcases i5 h with⟨C3,h⟩|⟨C3,h⟩
   ·obtain⟨G4,h⟩:=j6 h
    exact n3 hμ [1,6,3] 24 [.reg [],.reg [(3,hT)],.reg [(3,{os:=[(5,.gr 3 (([a1.1.m9]:List TX)).length (b6 f5 default ([a1.1.m9]:List TX)))],v:=some (.gs 5 (([a1.1.m9]:List TX)).length)}),(4,{app:=3,os:=[(6,.gr 3 ((l++([a1.1.m9]:List TX))).length (b6 f5 default (l++([a1.1.m9]:List TX))))],v:=some (.gs 6 ((l++([a1.1.m9]:List TX))).length)})],.x (.mitn 3)]
     (q6 (q2 (q4 (e_ 11) (a_ (d8 11 11 rfl) (e_ 0)) tr)) (m_ 11 11 rfl (m_ 8 8 rfl (a_ (a_ tr (a_ (LV.Le.trans (v6 ((J3 .u8) a1.1.o7 x_k)) (v6 C3)) tr)) tr))) (b5 (m_ 3 11 rfl (a_ (a_ (a_ (e_ true) (a_ (e_ 3) (a_ (j4 0 3 rfl) (d8 3 16777216 rfl)))) (a_ (L5 5 1 (some 1) rfl) (a_ (L6 f5 default 3 (λ_=>rfl) ([a1.1.m9]:List TX)) tr))) (a_ (a_ (a_ (a_ (e_ 3) (m8 (([a1.1.m9]:List TX)).length)) (a_ (a_ (j4 0 3 rfl) (a_ (j4 0 12 rfl) (a_ G4 (a_ (e_ 3) (e_ true))))) (a_ (e_ 3) (m8 l.length)))) (a_ (J6 6 l ([a1.1.m9]:List TX)) (a_ (J9 f5 default 3 l ([a1.1.m9]:List TX)) tr))) (b4 tr))))) (q3 tr)) (ih _ _ r h) ⟨rfl,λ_ _=>rfl,j4 0 4 rfl,tr⟩
   ·exact n3 hμ [1,2,3] 23 [.reg [],.reg [(3,hF)],.x (.mitn 3)]
     (q6 (q2 (q4 (e_ 11) (a_ (d8 11 11 rfl) (e_ 0)) tr)) (m_ 11 11 rfl (m_ 8 8 rfl (a_ (a_ tr (a_ (LV.Le.trans (v6 ((J3 .u8) a1.1.o7 x_k)) (v6 C3)) tr)) tr))) tr tr) (ih _ _ r h) ⟨rfl,λ_ _=>rfl,j4 0 4 rfl,tr⟩
theorem a60(p:PT)(x_k:A8 Int)(r:(j7 TX))(h:a1j p x_k=some r):∀σ,p8 2 σ->j9 Tryz.prog 51 (n7 σ [.map 0,.agg [.int .u8 x_k.a0,.int .u8 x_k.a1,.int .u8 x_k.a2,.int .u8 x_k.a3,.int .u8 x_k.a4,.int .u8 x_k.a5,.int .u8 x_k.a6,.int .u8 x_k.a7]]) (p5 σ 0 (a5b p)) ((a3J r).ren σ) (p6 σ (a3I p r)):=by
 refine u7 Tryz.func51 ⟨tr,tr⟩ ⟨tr,tr,tr⟩ ?_;intro w0 W μ0 hμ;unfold a1j at h;exact n3 hμ [1,2,3] 22 [.reg [(1,j5 (.ds 3 (([]:List TX)).length (b6 f5 default ([]:List TX))))],.void (.gr 3 (([]:List TX)).length (b6 f5 default ([]:List TX))),.reg [(0,j5 (.gs 2 (([]:List TX)).length))],.reg []]
  (V3 (q8 (D4 (A6 3 (b6 f5 default [])))) (e_ 0) (D4 (q_ 2))) (c1L hμ p x_k big _ _ r h) ⟨rfl,λ_ _=>rfl,j4 0 4 rfl,tr⟩
def g_(r:Bool):LV:=.bool r
def a4W(x:Int):Option Bool:=
 some (x !=x)
theorem b9S(x:Int)(r:Bool)(h:a4W x=some r):∀σ,p8 0 σ->j9 Tryz.prog 94 (n7 σ [.int .u32 x]) (p5 σ 0 []) ((g_ r).ren σ) (p6 σ []):=by
 refine u7 Tryz.func94 tr tr ?_;intro w0 W μ0 hμ;unfold a4W at h;obtain rfl:=i7 h;exact l8 [] 15 [.reg [],.reg []]
  (Y9 (l9 tr))
theorem P_(x:Int)(r:Bool)(h:a4W x=some r):j9 Tryz.prog 94 [.int .u32 x] [] (g_ r) []:=j9.none (b9S x r h) rfl rfl
def a6E(r:Int):LV:=.int .i64 r
def a2c(x y:Int):Option Int:=
 (a4W x).bind λy2=>
 (a4W y).bind λy4=>
 if y2 then
  if y4 then
   some 0
  else
   some (-1)
 else
  if y4 then
   some 1
  else
   if decide (x<y) then
    some (-1)
   else
    if decide (y<x) then
     some 1
    else
     some 0
theorem b9N(x y:Int)(r:Int)(h:a2c x y=some r):∀σ,p8 0 σ->j9 Tryz.prog 71 (n7 σ [.int .u32 x,.int .u32 y]) (p5 σ 0 []) ((a6E r).ren σ) (p6 σ []):=by
 refine u7 Tryz.func71 tr tr ?_;intro w0 W μ0 hμ;unfold a2c at h;obtain⟨y2,e1,h⟩:=d6 h;obtain⟨y4,e3,h⟩:=d6 h;rcases i5 h with⟨c5,h⟩|⟨c5,h⟩
 ·rcases i5 h with⟨c6,h⟩|⟨c6,h⟩
  ·obtain rfl:=i7 h
   exact l8 [] 31 [.reg [],.reg [(1,hC (g_ y2))],.reg [(1,hC (g_ y4))],.reg [(0,hT)],.reg [(0,hT)],.reg []]
    (V0 (c_ (P_ x y2 e1) (b4 tr)) (c_ (P_ y y4 e3) (b4 tr)) (P0 (f_ c5 tr) (f_ c6 tr) tr))
  ·obtain rfl:=i7 h
   exact l8 [] 32 [.reg [],.reg [(1,hC (g_ y2))],.reg [(1,hC (g_ y4))],.reg [(0,hT)],.reg [(0,hF)],.reg []]
    (V0 (c_ (P_ x y2 e1) (b4 tr)) (c_ (P_ y y4 e3) (b4 tr)) (P0 (f_ c5 tr) (f_ c6 tr) tr))
 ·rcases i5 h with⟨c6,h⟩|⟨c6,h⟩
  ·obtain rfl:=i7 h
   exact l8 [] 32 [.reg [],.reg [(1,hC (g_ y2))],.reg [(1,hC (g_ y4))],.reg [(0,hF)],.reg [(0,hT)],.reg []]
    (V0 (c_ (P_ x y2 e1) (b4 tr)) (c_ (P_ y y4 e3) (b4 tr)) (P0 (f_ c5 tr) (f_ c6 tr) tr))
  ·rcases i5 h with⟨c7,h⟩|⟨c7,h⟩
   ·obtain rfl:=i7 h
    exact l8 [] 38 [.reg [],.reg [(1,hC (g_ y2))],.reg [(1,hC (g_ y4))],.reg [(0,hF)],.reg [(0,hF)],.reg [(2,hT)],.reg []]
     (V0 (c_ (P_ x y2 e1) (b4 tr)) (c_ (P_ y y4 e3) (b4 tr)) (E0 (f_ c5 tr) (f_ c6 tr) (b5 (f_ c7 tr)) (q8 tr)))
   ·rcases i5 h with⟨c8,h⟩|⟨c8,h⟩
    ·obtain rfl:=i7 h
     exact l8 [] 44 [.reg [],.reg [(1,hC (g_ y2))],.reg [(1,hC (g_ y4))],.reg [(0,hF)],.reg [(0,hF)],.reg [(2,hF)],.reg [(2,hT)],.reg []]
      (V0 (c_ (P_ x y2 e1) (b4 tr)) (c_ (P_ y y4 e3) (b4 tr)) (q0 (f_ c5 tr) (f_ c6 tr) (b5 (f_ c7 tr)) (T7 (b5 (f_ c8 tr)))))
    ·obtain rfl:=i7 h
     exact l8 [] 45 [.reg [],.reg [(1,hC (g_ y2))],.reg [(1,hC (g_ y4))],.reg [(0,hF)],.reg [(0,hF)],.reg [(2,hF)],.reg [(2,hF)],.reg []]
      (V0 (c_ (P_ x y2 e1) (b4 tr)) (c_ (P_ y y4 e3) (b4 tr)) (q0 (f_ c5 tr) (f_ c6 tr) (b5 (f_ c7 tr)) (T7 (b5 (f_ c8 tr)))))
theorem b0Z(x y:Int)(r:Int)(h:a2c x y=some r):j9 Tryz.prog 71 [.int .u32 x,.int .u32 y] [] (a6E r) []:=j9.none (b9N x y r h) rfl rfl
def h_(r:Bool):LV:=.bool r
def a4X(x:Int):Option Bool:=
 some (x !=x)
theorem b9T(x:Int)(r:Bool)(h:a4X x=some r):∀σ,p8 0 σ->j9 Tryz.prog 93 (n7 σ [.int .u8 x]) (p5 σ 0 []) ((h_ r).ren σ) (p6 σ []):=by
 refine u7 Tryz.func93 tr tr ?_;intro w0 W μ0 hμ;unfold a4X at h;obtain rfl:=i7 h;exact l8 [] 15 [.reg [],.reg []]
  (Y9 (l9 tr))
theorem Q_(x:Int)(r:Bool)(h:a4X x=some r):j9 Tryz.prog 93 [.int .u8 x] [] (h_ r) []:=j9.none (b9T x r h) rfl rfl
def a6F(r:Int):LV:=.int .i64 r
def a3v(x y:Int):Option Int:=
 (a4X x).bind λy2=>
 (a4X y).bind λy4=>
 if y2 then
  if y4 then
   some 0
  else
   some (-1)
 else
  if y4 then
   some 1
  else
   if decide (x<y) then
    some (-1)
   else
    if decide (y<x) then
     some 1
    else
     some 0
theorem b9O(x y:Int)(r:Int)(h:a3v x y=some r):∀σ,p8 0 σ->j9 Tryz.prog 70 (n7 σ [.int .u8 x,.int .u8 y]) (p5 σ 0 []) ((a6F r).ren σ) (p6 σ []):=by
 refine u7 Tryz.func70 tr tr ?_;intro w0 W μ0 hμ;unfold a3v at h;obtain⟨y2,e1,h⟩:=d6 h;obtain⟨y4,e3,h⟩:=d6 h;rcases i5 h with⟨c5,h⟩|⟨c5,h⟩
 ·rcases i5 h with⟨c6,h⟩|⟨c6,h⟩
  ·obtain rfl:=i7 h
   exact l8 [] 31 [.reg [],.reg [(1,hC (h_ y2))],.reg [(1,hC (h_ y4))],.reg [(0,hT)],.reg [(0,hT)],.reg []]
    (V0 (c_ (Q_ x y2 e1) (b4 tr)) (c_ (Q_ y y4 e3) (b4 tr)) (P0 (f_ c5 tr) (f_ c6 tr) tr))
  ·obtain rfl:=i7 h
   exact l8 [] 32 [.reg [],.reg [(1,hC (h_ y2))],.reg [(1,hC (h_ y4))],.reg [(0,hT)],.reg [(0,hF)],.reg []]
    (V0 (c_ (Q_ x y2 e1) (b4 tr)) (c_ (Q_ y y4 e3) (b4 tr)) (P0 (f_ c5 tr) (f_ c6 tr) tr))
 ·rcases i5 h with⟨c6,h⟩|⟨c6,h⟩
  ·obtain rfl:=i7 h
   exact l8 [] 32 [.reg [],.reg [(1,hC (h_ y2))],.reg [(1,hC (h_ y4))],.reg [(0,hF)],.reg [(0,hT)],.reg []]
    (V0 (c_ (Q_ x y2 e1) (b4 tr)) (c_ (Q_ y y4 e3) (b4 tr)) (P0 (f_ c5 tr) (f_ c6 tr) tr))
  ·rcases i5 h with⟨c7,h⟩|⟨c7,h⟩
   ·obtain rfl:=i7 h
    exact l8 [] 38 [.reg [],.reg [(1,hC (h_ y2))],.reg [(1,hC (h_ y4))],.reg [(0,hF)],.reg [(0,hF)],.reg [(2,hT)],.reg []]
     (V0 (c_ (Q_ x y2 e1) (b4 tr)) (c_ (Q_ y y4 e3) (b4 tr)) (E0 (f_ c5 tr) (f_ c6 tr) (b5 (f_ c7 tr)) (q8 tr)))
   ·rcases i5 h with⟨c8,h⟩|⟨c8,h⟩
    ·obtain rfl:=i7 h
     exact l8 [] 44 [.reg [],.reg [(1,hC (h_ y2))],.reg [(1,hC (h_ y4))],.reg [(0,hF)],.reg [(0,hF)],.reg [(2,hF)],.reg [(2,hT)],.reg []]
      (V0 (c_ (Q_ x y2 e1) (b4 tr)) (c_ (Q_ y y4 e3) (b4 tr)) (q0 (f_ c5 tr) (f_ c6 tr) (b5 (f_ c7 tr)) (T7 (b5 (f_ c8 tr)))))
    ·obtain rfl:=i7 h
     exact l8 [] 45 [.reg [],.reg [(1,hC (h_ y2))],.reg [(1,hC (h_ y4))],.reg [(0,hF)],.reg [(0,hF)],.reg [(2,hF)],.reg [(2,hF)],.reg []]
      (V0 (c_ (Q_ x y2 e1) (b4 tr)) (c_ (Q_ y y4 e3) (b4 tr)) (q0 (f_ c5 tr) (f_ c6 tr) (b5 (f_ c7 tr)) (T7 (b5 (f_ c8 tr)))))
theorem b00(x y:Int)(r:Int)(h:a3v x y=some r):j9 Tryz.prog 70 [.int .u8 x,.int .u8 y] [] (a6F r) []:=j9.none (b9O x y r h) rfl rfl
def a4V(r:Int):LV:=.int .i64 r
def a3w(vals:List Int):Nat->Int->Option Int
 |0,_=>none
 |fuel+1,t8=>
  if decide (t8<(vals.length:Int)) then
   if 0<=t8/\t8<(vals.length:Int) then
   if(vals.getD t8.toNat default) !=0 then
    some (vals.getD t8.toNat default)
   else
    a3w vals fuel (IntKind.wrap .i64 (t8+1))
   else none
  else
   some 0
def a1b(vals:List Int):Option Int:=
 a3w vals big 0
abbrev b9P(vals:List Int)(t8:Int)(r:Int):Prop:=p3 w0 W μ0 Tryz.f69 0 0 (a4V r) [] (z6 (o9 Tryz.f69) 0) (.any:: .any:: .any::(.int .i64 0):: .any:: .any::(.ds 1 vals.length (b6 (A4 .i64) default vals))::(.int .i64 (vals.length:Int))::(.int .i64 t8)::n_ 9 []) []
theorem b9Q{w0 W μ0}(hμ:p4 μ0 0)(vals:List Int):∀(fuel:Nat) (t8:Int) (r:Int),a3w vals fuel t8=some r->b9P w0 W μ0 vals t8 r:=by
 intro fuel
 induction fuel with
 |zero=>intro t8 r h;rw[a3w] at h;cases h
 |succ fuel ih=>
  intro t8 r h;rw[a3w] at h;rcases i5 h with⟨C1,h⟩|⟨C1,h⟩
  ·obtain⟨G2,h⟩:=j6 h
   rcases i5 h with⟨C3,h⟩|⟨C3,h⟩
   ·obtain rfl:=i7 h
    exact l8 [] 28 [.go,.reg [(0,hT)],.reg [],.reg [(2,hT)],.reg []]
     (q3 (V3 (f_ C1 tr) (q4 (e_ 1) G2 (I2 (j4 0 1 rfl))) (b5 (f_ C3 tr))))
   ·exact n3 hμ [] 29 [.go,.reg [(0,hT)],.reg [],.reg [(2,hF)],.reg []]
     (V3 (f_ C1 tr) (q4 (e_ 1) G2 (I2 (j4 0 1 rfl))) (b5 (f_ C3 tr))) (ih _ r h) tr
  ·obtain rfl:=i7 h
   exact l8 [] 19 [.go,.reg [(0,hF)],.reg []]
    (F8 (f_ C1 tr) (b5 tr))
theorem b9R(vals:List Int)(r:Int)(h:a1b vals=some r):∀σ,p8 0 σ->j9 Tryz.prog 69 (n7 σ [.ds 1 vals.length (b6 (A4 .i64) default vals)]) (p5 σ 0 []) ((a4V r).ren σ) (p6 σ []):=by
 refine u7 Tryz.func69 tr tr ?_;intro w0 W μ0 hμ;unfold a1b at h;exact n3 hμ [] 21 [.reg [],.reg [],.reg []]
  (N6 tr tr (q2 tr)) (b9Q hμ vals big _ r h) tr
theorem b01(vals:List Int)(r:Int)(h:a1b vals=some r):j9 Tryz.prog 69 [.ds 1 vals.length (b6 (A4 .i64) default vals)] [] (a4V r) []:=j9.none (b9R vals r h) rfl rfl
def b1T(r:Int):LV:=.int .i64 r
def a2k(a b:TX):Option Int:=
 (a3v a.F3 b.F3).bind λy2=>
 (a2c a.D6 b.D6).bind λy4=>
 (a2c a.F5 b.F5).bind λy6=>
 (a1b ([y2,y4,y6]:List Int)).bind λy8=>
 some y8
theorem c1q(a b:TX)(r:Int)(h:a2k a b=some r):∀σ,p8 0 σ->j9 Tryz.prog 43 (n7 σ [i8 a,i8 b]) (p5 σ 0 []) ((b1T r).ren σ) (p6 σ []):=by
 refine u7 Tryz.func43 tr tr ?_;intro w0 W μ0 hμ;unfold a2k at h;obtain⟨y2,e1,h⟩:=d6 h;obtain⟨y4,e3,h⟩:=d6 h;obtain⟨y6,e5,h⟩:=d6 h;obtain⟨y8,e7,h⟩:=d6 h;obtain rfl:=i7 h;exact l8 [] 15 [.reg [],.reg [(4,hC (a6F y2)),(9,hC (a6E y4)),(14,hC (a6E y6)),(15,{os:=[(2,.gr 1 (([y2,y4,y6]:List Int)).length (b6 (A4 .i64) default ([y2,y4,y6]:List Int)))],v:=some (.gs 2 (([y2,y4,y6]:List Int)).length),fz:=true}),(16,hC (a4V y8))]]
  (Z0 (q8 (l_ 0 3 rfl (b4 (l_ 0 3 rfl (c_ (b00 a.F3 b.F3 y2 e1) (b4 (l_ 1 3 rfl (b4 (l_ 1 3 rfl (c_ (b0Z a.D6 b.D6 y4 e3) (b4 (l_ 2 3 rfl (b4 (l_ 2 3 rfl (c_ (b0Z a.F5 b.F5 y6 e5) (a_ (a_ (a_ (a_ (e_ true) (a_ (e_ 1) (a_ (j4 0 1 rfl) (d8 3 16777216 rfl)))) (a_ (L5 2 3 (some 3) rfl) (a_ (L6 (A4 .i64) default 1 (λ_=>rfl) ([y2,y4,y6]:List Int)) tr))) (a_ (m8 (([y2,y4,y6]:List Int)).length) (J2 (enc:=(A4 .i64)) (d:=default) (λ_=>rfl) ([y2,y4,y6]:List Int)))) (a_ (a_ (a_ (b01 ([y2,y4,y6]:List Int) y8 e7) tr) tr) (b4 tr)))))))))))))))))))
theorem b5U(a b:TX)(r:Int)(h:a2k a b=some r):j9 Tryz.prog 43 [i8 a,i8 b] [] (b1T r) []:=j9.none (c1q a b r h) rfl rfl
def a1g(r:Int):LV:=.int .i64 r
def S_(a b:TS):Option Int:=
 (a2c a.B8 b.B8).bind λy2=>
 (a2k a.b7 b.b7).bind λy4=>
 (a1b ([y2,y4]:List Int)).bind λy6=>
 some y6
theorem c1o(a b:TS)(r:Int)(h:S_ a b=some r):∀σ,p8 0 σ->j9 Tryz.prog 84 (n7 σ [V5 a,V5 b]) (p5 σ 0 []) ((a1g r).ren σ) (p6 σ []):=by
 refine u7 Tryz.func84 tr tr ?_;intro w0 W μ0 hμ;unfold S_ at h;obtain⟨y2,e1,h⟩:=d6 h;obtain⟨y4,e3,h⟩:=d6 h;obtain⟨y6,e5,h⟩:=d6 h;obtain rfl:=i7 h;exact l8 [] 15 [.reg [],.reg [(4,hC (a6E y2)),(9,hC (b1T y4)),(10,{os:=[(2,.gr 1 (([y2,y4]:List Int)).length (b6 (A4 .i64) default ([y2,y4]:List Int)))],v:=some (.gs 2 (([y2,y4]:List Int)).length),fz:=true}),(11,hC (a4V y6))]]
  (Z0 (q8 (l_ 0 4 rfl (b4 (l_ 0 4 rfl (c_ (b0Z a.B8 b.B8 y2 e1) (b4 (m_ 4 4 rfl (b4 (m_ 4 4 rfl (c_ (b5U a.b7 b.b7 y4 e3) (a_ (a_ (a_ (a_ (e_ true) (a_ (e_ 1) (a_ (j4 0 1 rfl) (d8 2 16777216 rfl)))) (a_ (L5 2 2 (some 2) rfl) (a_ (L6 (A4 .i64) default 1 (λ_=>rfl) ([y2,y4]:List Int)) tr))) (a_ (m8 (([y2,y4]:List Int)).length) (J2 (enc:=(A4 .i64)) (d:=default) (λ_=>rfl) ([y2,y4]:List Int)))) (a_ (a_ (a_ (b01 ([y2,y4]:List Int) y6 e5) tr) tr) (b4 tr))))))))))))))
theorem a3F(a b:TS)(r:Int)(h:S_ a b=some r):j9 Tryz.prog 84 [V5 a,V5 b] [] (a1g r) []:=j9.none (c1o a b r h) rfl rfl
def a86(r:Int):LV:=.int .i64 r
def a85(uu:UT)(x_k:TX)(u:TU)(hh ww:PT)(r:Int):i9:=[(0,some (.var [.map 1,.map 3,.map 4])),(1,some (m7 uu [(i8 x_k,2)])),(2,some (.var (n9 u))),(3,some (b9 hh)),(4,some (b9 ww))]
def a84(uu:UT)(x_k:TX)(u:TU)(hh ww:PT):List LO:=[.var [.map 1,.map 3,.map 4],m7 uu [(i8 x_k,2)],.var (n9 u),b9 hh,b9 ww]
def a69(uu:UT)(x_k:TX)(u:TU)(hh ww:PT)(a b:TX):Option Int:=
 if decide (a=x_k) then
  if(f9 uu x_k).isSome=true then
  if decide (b=x_k) then
   (S_ u.B7 u.B7).bind λy5=>
   some y5
  else
   if(f9 uu b).isSome then
    (f9 uu b).bind λy6=>
    (S_ u.B7 y6.B7).bind λy9=>
    some y9
   else
    none
  else none
 else
  if(f9 uu a).isSome then
   (f9 uu a).bind λy3=>
   if decide (b=a) then
    (S_ y3.B7 y3.B7).bind λy7=>
    some y7
   else
    if decide (b=x_k) then
     if(f9 uu x_k).isSome=true then
     (S_ y3.B7 u.B7).bind λy9=>
     some y9
     else none
    else
     if(f9 uu b).isSome then
      (f9 uu b).bind λy8=>
      (S_ y3.B7 y8.B7).bind λy11=>
      some y11
     else
      none
  else
   none
theorem b2l(uu:UT)(x_k:TX)(u:TU)(hh ww:PT)(a b:TX)(r:Int)(h:a69 uu x_k u hh ww a b=some r):∀σ,p8 5 σ->j9 Tryz.prog 53 (n7 σ [.ptr 0 0 0,i8 a,i8 b]) (p5 σ 0 (a84 uu x_k u hh ww)) ((a86 r).ren σ) (p6 σ (a85 uu x_k u hh ww r)):=by
 refine u7 Tryz.func53 ⟨rfl,b87 (j4 2 5 rfl),rfl,tr,tr,tr⟩ ⟨rfl,b87 (j4 2 5 rfl),rfl,tr,tr,tr⟩ ?_;intro w0 W μ0 hμ;unfold a69 at h;rcases i5 h with⟨c1,h⟩|⟨c1,h⟩
 ·obtain⟨g2,h⟩:=j6 h
  rcases i5 h with⟨c3,h⟩|⟨c3,h⟩
  ·obtain⟨y5,e4,h⟩:=d6 h
   obtain rfl:=i7 h;exact l8 [] 15 [.reg [],.reg [(5,{look:=some (.ptr 2 0 0)}),(14,{look:=some (.ptr 2 0 0)}),(18,hC (a1g y5))]]
    (Z0 (q2 (l_ 0 3 rfl (m_ 3 3 rfl (a_ (a_ (a_ (e_ true) (a_ (a5O i8 n9 t6 uu c1 g2) (pmM i8 c1 2 []))) tr) (b5 (m_ 4 5 rfl (b4 (b5 (l_ 0 3 rfl (m_ 3 3 rfl (a_ (a_ (a_ (e_ true) (a_ (a5O i8 n9 t6 uu c3 g2) (pmM i8 c3 2 []))) tr) (b5 (m_ 4 5 rfl (c_ (a3F u.B7 u.B7 y5 e4) (b4 tr))))))))))))))))
  ·rcases i5 h with⟨c4,h⟩|⟨c4,h⟩
   ·obtain⟨y6,e7,h⟩:=d6 h
    obtain⟨y9,e8,h⟩:=d6 h;obtain rfl:=i7 h;exact l8 [] 18 [.reg [],.x (.p (.po 1 (i8 b) (n9 y6))),.reg [(5,{look:=some (.ptr 2 0 0)}),(14,{look:=some (.ptr 7 0 0)}),(18,hC (a1g y9))],.x (.p (.pc 1)),.wk [] [(1,m7 uu [(i8 x_k,2)])]]
     (q3 (q0 (q2 tr) (a_ (Q0 i8 n9 e7) (a4i (s' :=2) i8 t6 c3 (Q1 i8 b))) (q2 (l_ 0 3 rfl (m_ 3 3 rfl (a_ (a_ (a_ (e_ true) (a_ (a5O i8 n9 t6 uu c1 g2) (List.mem_cons_of_mem (i8 b,7) (pmM i8 c1 2 [])))) tr) (b5 (m_ 4 5 rfl (b4 (b5 (l_ 0 3 rfl (m_ 3 3 rfl (a_ (a_ (a_ (e_ true) (a_ (N5 i8 n9 t6 uu b (isS e7)) (List.mem_cons_self (a:=((i8 b,7):LV×Nat)) (l:=[(i8 x_k,2)])))) tr) (b5 (m_ 4 5 rfl (c_ (a3F u.B7 y6.B7 y9 e8) (b4 tr))))))))))))))) (a_ (q0 (P8 i8 n9 t6 uu b e7) (e_ true) (e_ true) (show 1≠7 from by decide)) (D4 (R2 i8 n9 t6 true F1 [(i8 x_k,2)] (m:=uu) (k:=b) e7)))))
   ·cases h
 ·rcases i5 h with⟨c2,h⟩|⟨c2,h⟩
  ·obtain⟨y3,e4,h⟩:=d6 h
   rcases i5 h with⟨c5,h⟩|⟨c5,h⟩
   ·obtain⟨y7,e6,h⟩:=d6 h
    obtain rfl:=i7 h;exact l8 [] 18 [.reg [],.x (.p (.po 1 (i8 a) (n9 y3))),.reg [(5,{look:=some (.ptr 7 0 0)}),(14,{look:=some (.ptr 7 0 0)}),(18,hC (a1g y7))],.x (.p (.pc 1)),.wk [] [(1,m7 uu [(i8 x_k,2)])]]
     (q3 (q0 (q2 tr) (a_ (Q0 i8 n9 e4) (a4i (s' :=2) i8 t6 c1 (Q1 i8 a))) (q2 (l_ 0 3 rfl (m_ 3 3 rfl (a_ (a_ (a_ (e_ true) (a_ (N5 i8 n9 t6 uu a (isS e4)) (List.mem_cons_self (a:=((i8 a,7):LV×Nat)) (l:=[(i8 x_k,2)])))) tr) (b5 (m_ 4 5 rfl (b4 (b5 (l_ 0 3 rfl (m_ 3 3 rfl (a_ (a_ (a_ (e_ true) (a_ (a5O i8 n9 t6 uu c5 (isS e4)) (pmM i8 c5 7 [(i8 x_k,2)]))) tr) (b5 (m_ 4 5 rfl (c_ (a3F y3.B7 y3.B7 y7 e6) (b4 tr))))))))))))))) (a_ (q0 (P8 i8 n9 t6 uu a e4) (e_ true) (e_ true) (show 1≠7 from by decide)) (D4 (R2 i8 n9 t6 true F1 [(i8 x_k,2)] (m:=uu) (k:=a) e4)))))
   ·rcases i5 h with⟨c6,h⟩|⟨c6,h⟩
    ·obtain⟨g7,h⟩:=j6 h
     obtain⟨y9,e8,h⟩:=d6 h;obtain rfl:=i7 h;exact l8 [] 18 [.reg [],.x (.p (.po 1 (i8 a) (n9 y3))),.reg [(5,{look:=some (.ptr 7 0 0)}),(14,{look:=some (.ptr 2 0 0)}),(18,hC (a1g y9))],.x (.p (.pc 1)),.wk [] [(1,m7 uu [(i8 x_k,2)])]]
      (q3 (q0 (q2 tr) (a_ (Q0 i8 n9 e4) (a4i (s' :=2) i8 t6 c1 (Q1 i8 a))) (q2 (l_ 0 3 rfl (m_ 3 3 rfl (a_ (a_ (a_ (e_ true) (a_ (N5 i8 n9 t6 uu a (isS e4)) (List.mem_cons_self (a:=((i8 a,7):LV×Nat)) (l:=[(i8 x_k,2)])))) tr) (b5 (m_ 4 5 rfl (b4 (b5 (l_ 0 3 rfl (m_ 3 3 rfl (a_ (a_ (a_ (e_ true) (a_ (a5O i8 n9 t6 uu c6 g7) (List.mem_cons_of_mem (i8 a,7) (pmM i8 c6 2 [])))) tr) (b5 (m_ 4 5 rfl (c_ (a3F y3.B7 u.B7 y9 e8) (b4 tr))))))))))))))) (a_ (q0 (P8 i8 n9 t6 uu a e4) (e_ true) (e_ true) (show 1≠7 from by decide)) (D4 (R2 i8 n9 t6 true F1 [(i8 x_k,2)] (m:=uu) (k:=a) e4)))))
    ·rcases i5 h with⟨c7,h⟩|⟨c7,h⟩
     ·obtain⟨y8,e9,h⟩:=d6 h
      obtain⟨y11,e10,h⟩:=d6 h;obtain rfl:=i7 h;exact l8 [] 21 [.reg [],.x (.p (.po 1 (i8 a) (n9 y3))),.x (.p (.po 1 (i8 b) (n9 y8))),.reg [(5,{look:=some (.ptr 7 0 0)}),(14,{look:=some (.ptr 8 0 0)}),(18,hC (a1g y11))],.x (.p (.pc 1)),.wk [] [(1,m7 uu [(i8 a,7),(i8 x_k,2)])],.x (.p (.pc 1)),.wk [] [(1,m7 uu [(i8 x_k,2)])]]
       (q3 (q0 (q2 tr) (a_ (Q0 i8 n9 e4) (a4i (s' :=2) i8 t6 c1 (Q1 i8 a))) (a_ (Q0 i8 n9 e9) (a4i (s' :=7) i8 t6 c5 (a4i (s' :=2) i8 t6 c6 (Q1 i8 b)))) (q0 (q2 (l_ 0 3 rfl (m_ 3 3 rfl (a_ (a_ (a_ (e_ true) (a_ (N5 i8 n9 t6 uu a (isS e4)) (List.mem_cons_of_mem (i8 b,8) (List.mem_cons_self (a:=((i8 a,7):LV×Nat)) (l:=[(i8 x_k,2)]))))) tr) (b5 (m_ 4 5 rfl (b4 (b5 (l_ 0 3 rfl (m_ 3 3 rfl (a_ (a_ (a_ (e_ true) (a_ (N5 i8 n9 t6 uu b (isS e9)) (List.mem_cons_self (a:=((i8 b,8):LV×Nat)) (l:=[(i8 a,7),(i8 x_k,2)])))) tr) (b5 (m_ 4 5 rfl (c_ (a3F y3.B7 y8.B7 y11 e10) (b4 tr))))))))))))))) (q0 (P8 i8 n9 t6 uu b e9) (e_ true) (e_ true) (show 1≠8 from by decide)) (q7 tr (R2 i8 n9 t6 true F1 [(i8 a,7),(i8 x_k,2)] (m:=uu) (k:=b) e9)) (a_ (q0 (P8 i8 n9 t6 uu a e4) (e_ true) (e_ true) (show 1≠7 from by decide)) (D4 (R2 i8 n9 t6 true F1 [(i8 x_k,2)] (m:=uu) (k:=a) e4))))))
     ·cases h
  ·cases h
def a2s(r:Bool):LV:=.bool r
def a2r(a b:Int):Option Bool:=
 if a==2 then
  some true
 else
  some (b==2)
theorem c2A(a b:Int)(r:Bool)(h:a2r a b=some r):∀σ,p8 0 σ->j9 Tryz.prog 86 (n7 σ [.int .u8 a,.int .u8 b]) (p5 σ 0 []) ((a2s r).ren σ) (p6 σ []):=by
 refine u7 Tryz.func86 tr tr ?_;intro w0 W μ0 hμ;unfold a2r at h;rcases i5 h with⟨c1,h⟩|⟨c1,h⟩
 ·obtain rfl:=i7 h
  exact l8 [] 15 [.reg [],.reg [(2,hT)]]
   (Y9 (b5 (f_ c1 (u5 (b5 tr)))))
 ·obtain rfl:=i7 h
  exact l8 [] 15 [.reg [],.reg [(2,hF)]]
   (Y9 (b5 (f_ c1 (l9 tr))))
theorem a5w(a b:Int)(r:Bool)(h:a2r a b=some r):j9 Tryz.prog 86 [.int .u8 a,.int .u8 b] [] (a2s r) []:=j9.none (c2A a b r h) rfl rfl
def a9j(r:Int):LV:=.int .i64 r
def b2A(y8:Int):Option Int:=
 if 0<=(IntKind.wrap .u8 y8)/\(IntKind.wrap .u8 y8)<(X4.length:Int) then
 (some ((X4.getD ((IntKind.wrap .u8 y8)).toNat 0).toNat:Int)).bind λy2=>
 (some (IntKind.wrap .i64 (56+(IntKind.wrap .i64 y2)))).bind λy4=>
 some y4
 else none
def a9i(x:Int):Option Int:=
 if decide (4294967296<=x) then
  (some (Int.fdiv x (2^(min (Int.toNat 32) (IntKind.bits .u64))))).bind λy2=>
  if decide (65536<=y2) then
   (some (Int.fdiv y2 (2^(min (Int.toNat 16) (IntKind.bits .u64))))).bind λy5=>
   if decide (256<=y5) then
    (some (Int.fdiv y5 (2^(min (Int.toNat 8) (IntKind.bits .u64))))).bind λy8=>
    b2A y8
   else
    if 0<=(IntKind.wrap .u8 y5)/\(IntKind.wrap .u8 y5)<(X4.length:Int) then
    (some ((X4.getD ((IntKind.wrap .u8 y5)).toNat 0).toNat:Int)).bind λy9=>
    (some (IntKind.wrap .i64 (48+(IntKind.wrap .i64 y9)))).bind λy11=>
    some y11
    else none
  else
   if decide (256<=y2) then
    (some (Int.fdiv y2 (2^(min (Int.toNat 8) (IntKind.bits .u64))))).bind λy6=>
    if 0<=(IntKind.wrap .u8 y6)/\(IntKind.wrap .u8 y6)<(X4.length:Int) then
    (some ((X4.getD ((IntKind.wrap .u8 y6)).toNat 0).toNat:Int)).bind λy9=>
    (some (IntKind.wrap .i64 (40+(IntKind.wrap .i64 y9)))).bind λy11=>
    some y11
    else none
   else
    if 0<=(IntKind.wrap .u8 y2)/\(IntKind.wrap .u8 y2)<(X4.length:Int) then
    (some ((X4.getD ((IntKind.wrap .u8 y2)).toNat 0).toNat:Int)).bind λy7=>
    (some (IntKind.wrap .i64 (32+(IntKind.wrap .i64 y7)))).bind λy9=>
    some y9
    else none
 else
  if decide (65536<=x) then
   (some (Int.fdiv x (2^(min (Int.toNat 16) (IntKind.bits .u64))))).bind λy3=>
   if decide (256<=y3) then
    (some (Int.fdiv y3 (2^(min (Int.toNat 8) (IntKind.bits .u64))))).bind λy6=>
    if 0<=(IntKind.wrap .u8 y6)/\(IntKind.wrap .u8 y6)<(X4.length:Int) then
    (some ((X4.getD ((IntKind.wrap .u8 y6)).toNat 0).toNat:Int)).bind λy9=>
    (some (IntKind.wrap .i64 (24+(IntKind.wrap .i64 y9)))).bind λy11=>
    some y11
    else none
   else
    if 0<=(IntKind.wrap .u8 y3)/\(IntKind.wrap .u8 y3)<(X4.length:Int) then
    (some ((X4.getD ((IntKind.wrap .u8 y3)).toNat 0).toNat:Int)).bind λy7=>
    (some (IntKind.wrap .i64 (16+(IntKind.wrap .i64 y7)))).bind λy9=>
    some y9
    else none
  else
   if decide (256<=x) then
    (some (Int.fdiv x (2^(min (Int.toNat 8) (IntKind.bits .u64))))).bind λy4=>
    if 0<=(IntKind.wrap .u8 y4)/\(IntKind.wrap .u8 y4)<(X4.length:Int) then
    (some ((X4.getD ((IntKind.wrap .u8 y4)).toNat 0).toNat:Int)).bind λy7=>
    some (IntKind.wrap .i64 (8+(IntKind.wrap .i64 y7)))
    else none
   else
    if 0<=(IntKind.wrap .u8 x)/\(IntKind.wrap .u8 x)<(X4.length:Int) then
    (some ((X4.getD ((IntKind.wrap .u8 x)).toNat 0).toNat:Int)).bind λy5=>
    some (IntKind.wrap .i64 (0+(IntKind.wrap .i64 y5)))
    else none
theorem c2R{w0 W μ0}(hμ:p4 μ0 0)(y8:Int)(r:Int)(h:b2A y8=some r):p3 w0 W μ0 Tryz.f110 0 0 (a9j r) [] (z7 (o9 Tryz.f110) 9) ((.int .u64 y8):: .any::(.int .i64 48)::n_ 22 []) []:=by
 unfold b2A at h;obtain⟨G1,h⟩:=j6 h;obtain⟨y2,E3,h⟩:=d6 h;obtain⟨y4,E5,h⟩:=d6 h;obtain rfl:=i7 h;exact l8 [] 14 [.reg [],.reg [(3,j5 (.int .u8 y2)),(5,j5 (.int .i64 y4))]]
  (Z0 (q2 (q5 G1 (n0 (LV.int .u8) E3) (J7 tr (n0 (LV.int .i64) E5)))))
theorem c2S(x:Int)(r:Int)(h:a9i x=some r):∀σ,p8 0 σ->j9 Tryz.prog 110 (n7 σ [.int .u64 x]) (p5 σ 0 []) ((a9j r).ren σ) (p6 σ []):=by
 refine u7 Tryz.func110 tr tr ?_;intro w0 W μ0 hμ;unfold a9i at h;rcases i5 h with⟨c1,h⟩|⟨c1,h⟩
 ·obtain⟨y2,e3,h⟩:=d6 h
  rcases i5 h with⟨c4,h⟩|⟨c4,h⟩
  ·obtain⟨y5,e6,h⟩:=d6 h
   rcases i5 h with⟨c7,h⟩|⟨c7,h⟩
   ·obtain⟨y8,e9,h⟩:=d6 h
    exact n3 hμ [] 40 [.reg [],.reg [(1,hT)],.reg [(1,j5 (.int .u64 y2))],.reg [],.reg [(1,hT)],.reg [(1,j5 (.int .u64 y5))],.reg [],.reg [(1,hT)],.reg [(1,j5 (.int .u64 y8))]]
     (q6 (q8 tr) (f_ c1 tr) (J7 (I8 0 32 rfl) (n0 (LV.int .u64) e3)) (q6 (q8 tr) (f_ c4 tr) (J7 (I8 0 16 rfl) (n0 (LV.int .u64) e6)) (K8 (f_ c7 tr) (J7 (I8 0 8 rfl) (n0 (LV.int .u64) e9)) tr))) (c2R hμ y8 r h) tr
   ·obtain⟨g8,h⟩:=j6 h
    obtain⟨y9,e10,h⟩:=d6 h;obtain⟨y11,e12,h⟩:=d6 h;obtain rfl:=i7 h;exact l8 [] 41 [.reg [],.reg [(1,hT)],.reg [(1,j5 (.int .u64 y2))],.reg [],.reg [(1,hT)],.reg [(1,j5 (.int .u64 y5))],.reg [],.reg [(1,hF)],.reg [(3,j5 (.int .u8 y9)),(5,j5 (.int .i64 y11))]]
     (q3 (q6 (q8 tr) (f_ c1 tr) (J7 (I8 0 32 rfl) (n0 (LV.int .u64) e3)) (q6 (q8 tr) (f_ c4 tr) (J7 (I8 0 16 rfl) (n0 (LV.int .u64) e6)) (K8 (f_ c7 tr) (q2 (q5 g8 (n0 (LV.int .u8) e10) (J7 tr (n0 (LV.int .i64) e12)))) tr))))
  ·rcases i5 h with⟨c5,h⟩|⟨c5,h⟩
   ·obtain⟨y6,e7,h⟩:=d6 h
    obtain⟨g8,h⟩:=j6 h;obtain⟨y9,e10,h⟩:=d6 h;obtain⟨y11,e12,h⟩:=d6 h;obtain rfl:=i7 h;exact l8 [] 41 [.reg [],.reg [(1,hT)],.reg [(1,j5 (.int .u64 y2))],.reg [],.reg [(1,hF)],.reg [(1,hT)],.reg [(1,j5 (.int .u64 y6))],.reg [],.reg [(3,j5 (.int .u8 y9)),(5,j5 (.int .i64 y11))]]
     (q3 (q6 (q8 tr) (f_ c1 tr) (J7 (I8 0 32 rfl) (n0 (LV.int .u64) e3)) (q6 (q8 tr) (f_ c4 tr) (q8 (f_ c5 tr)) (q0 (J7 (I8 0 8 rfl) (n0 (LV.int .u64) e7)) (q2 tr) (q2 (q5 g8 (n0 (LV.int .u8) e10) (J7 tr (n0 (LV.int .i64) e12)))) tr))))
   ·obtain⟨g6,h⟩:=j6 h
    obtain⟨y7,e8,h⟩:=d6 h;obtain⟨y9,e10,h⟩:=d6 h;obtain rfl:=i7 h;exact l8 [] 37 [.reg [],.reg [(1,hT)],.reg [(1,j5 (.int .u64 y2))],.reg [],.reg [(1,hF)],.reg [(1,hF)],.reg [(3,j5 (.int .u8 y7)),(5,j5 (.int .i64 y9))]]
     (q3 (q6 (q8 tr) (f_ c1 tr) (J7 (I8 0 32 rfl) (n0 (LV.int .u64) e3)) (q6 (q8 tr) (f_ c4 tr) (q8 (f_ c5 tr)) (I3 (q5 g6 (n0 (LV.int .u8) e8) (J7 tr (n0 (LV.int .i64) e10)))))))
 ·rcases i5 h with⟨c2,h⟩|⟨c2,h⟩
  ·obtain⟨y3,e4,h⟩:=d6 h
   rcases i5 h with⟨c5,h⟩|⟨c5,h⟩
   ·obtain⟨y6,e7,h⟩:=d6 h
    obtain⟨g8,h⟩:=j6 h;obtain⟨y9,e10,h⟩:=d6 h;obtain⟨y11,e12,h⟩:=d6 h;obtain rfl:=i7 h;exact l8 [] 41 [.reg [],.reg [(1,hF)],.reg [(1,hT)],.reg [(1,j5 (.int .u64 y3))],.reg [],.reg [(1,hT)],.reg [(1,j5 (.int .u64 y6))],.reg [],.reg [(3,j5 (.int .u8 y9)),(5,j5 (.int .i64 y11))]]
     (V0 (f_ c1 tr) (f_ c2 tr) (q0 (J7 (I8 0 16 rfl) (n0 (LV.int .u64) e4)) (q2 tr) (q8 (f_ c5 tr)) (q0 (J7 (I8 0 8 rfl) (n0 (LV.int .u64) e7)) (q2 tr) (q2 (q5 g8 (n0 (LV.int .u8) e10) (J7 tr (n0 (LV.int .i64) e12)))) tr)))
   ·obtain⟨g6,h⟩:=j6 h
    obtain⟨y7,e8,h⟩:=d6 h;obtain⟨y9,e10,h⟩:=d6 h;obtain rfl:=i7 h;exact l8 [] 37 [.reg [],.reg [(1,hF)],.reg [(1,hT)],.reg [(1,j5 (.int .u64 y3))],.reg [],.reg [(1,hF)],.reg [(3,j5 (.int .u8 y7)),(5,j5 (.int .i64 y9))]]
     (V0 (f_ c1 tr) (f_ c2 tr) (E0 (J7 (I8 0 16 rfl) (n0 (LV.int .u64) e4)) (q2 tr) (q8 (f_ c5 tr)) (q2 (q5 g6 (n0 (LV.int .u8) e8) (J7 tr (n0 (LV.int .i64) e10))))))
  ·rcases i5 h with⟨c3,h⟩|⟨c3,h⟩
   ·obtain⟨y4,e5,h⟩:=d6 h
    obtain⟨g6,h⟩:=j6 h;obtain⟨y7,e8,h⟩:=d6 h;obtain rfl:=i7 h;exact l8 [] 37 [.reg [],.reg [(1,hF)],.reg [(1,hF)],.reg [(1,hT)],.reg [(1,j5 (.int .u64 y4))],.reg [],.reg [(3,j5 (.int .u8 y7))]]
     (V0 (f_ c1 tr) (f_ c2 tr) (q6 (q8 (f_ c3 tr)) (S6 (I8 0 8 rfl) (n0 (LV.int .u64) e5)) (q2 tr) (I3 (q5 g6 (n0 (LV.int .u8) e8) (q2 tr)))))
   ·obtain⟨g4,h⟩:=j6 h
    obtain⟨y5,e6,h⟩:=d6 h;obtain rfl:=i7 h;exact l8 [] 33 [.reg [],.reg [(1,hF)],.reg [(1,hF)],.reg [(1,hF)],.reg [(3,j5 (.int .u8 y5))]]
     (V0 (f_ c1 tr) (f_ c2 tr) (q7 (q8 (f_ c3 tr)) (q2 (q5 g4 (n0 (LV.int .u8) e6) (q2 tr)))))
theorem c2T(x:Int)(r:Int)(h:a9i x=some r):j9 Tryz.prog 110 [.int .u64 x] [] (a9j r) []:=j9.none (c2S x r h) rfl rfl
def a7g(r:Int):LV:=.int .i64 r
def a2w(x:Int):Option Int:=
 (a9i x).bind λy2=>
 some y2
theorem c2U(x:Int)(r:Int)(h:a2w x=some r):∀σ,p8 0 σ->j9 Tryz.prog 83 (n7 σ [.int .u64 x]) (p5 σ 0 []) ((a7g r).ren σ) (p6 σ []):=by
 refine u7 Tryz.func83 tr tr ?_;intro w0 W μ0 hμ;unfold a2w at h;obtain⟨y2,e1,h⟩:=d6 h;obtain rfl:=i7 h;exact l8 [] 18 [.reg [],.reg [(1,hC (a9j y2))]]
  (Y9 (q8 (c_ (c2T x y2 e1) (b4 tr))))
theorem b2B(x:Int)(r:Int)(h:a2w x=some r):j9 Tryz.prog 83 [.int .u64 x] [] (a7g r) []:=j9.none (c2U x r h) rfl rfl
def a5p(r:Int):LV:=.int .i64 r
def a5o(uu:UT)(hh ww:PT)(r:Int):i9:=[(0,some (.var [.map 1,.map 2,.map 3])),(1,some (m7 uu [])),(2,some (b9 hh)),(3,some (b9 ww))]
def a5n(uu:UT)(hh ww:PT):List LO:=[.var [.map 1,.map 2,.map 3],m7 uu [],b9 hh,b9 ww]
def a3V(uu:UT)(hh ww:PT)(a b:TX):Option Int:=
 if(f9 uu a).isSome then
  (f9 uu a).bind λy2=>
  if decide (b=a) then
   (S_ y2.B7 y2.B7).bind λy6=>
   some y6
  else
   if(f9 uu b).isSome then
    (f9 uu b).bind λy7=>
    (S_ y2.B7 y7.B7).bind λy10=>
    some y10
   else
    none
 else
  none
theorem a7a(uu:UT)(hh ww:PT)(a b:TX)(r:Int)(h:a3V uu hh ww a b=some r):∀σ,p8 4 σ->j9 Tryz.prog 53 (n7 σ [.ptr 0 0 0,i8 a,i8 b]) (p5 σ 0 (a5n uu hh ww)) ((a5p r).ren σ) (p6 σ (a5o uu hh ww r)):=by
 refine u7 Tryz.func53 ⟨rfl,uP,tr,tr,tr⟩ ⟨rfl,uP,tr,tr,tr⟩ ?_;intro w0 W μ0 hμ;unfold a3V at h;rcases i5 h with⟨c1,h⟩|⟨c1,h⟩
 ·obtain⟨y2,e3,h⟩:=d6 h
  rcases i5 h with⟨c4,h⟩|⟨c4,h⟩
  ·obtain⟨y6,e5,h⟩:=d6 h
   obtain rfl:=i7 h;exact l8 [] 18 [.reg [],.x (.p (.po 1 (i8 a) (n9 y2))),.reg [(5,{look:=some (.ptr 6 0 0)}),(14,{look:=some (.ptr 6 0 0)}),(18,hC (a1g y6))],.x (.p (.pc 1)),.wk [] [(1,m7 uu [])]]
    (q3 (q0 (q2 tr) (a_ (Q0 i8 n9 e3) (Q1 i8 a)) (q2 (l_ 0 3 rfl (m_ 3 3 rfl (a_ (a_ (a_ (e_ true) (a_ (N5 i8 n9 t6 uu a (isS e3)) (List.mem_cons_self (a:=((i8 a,6):LV×Nat)) (l:=[])))) tr) (b5 (m_ 4 5 rfl (b4 (b5 (l_ 0 3 rfl (m_ 3 3 rfl (a_ (a_ (a_ (e_ true) (a_ (a5O i8 n9 t6 uu c4 (isS e3)) (pmM i8 c4 6 []))) tr) (b5 (m_ 4 5 rfl (c_ (a3F y2.B7 y2.B7 y6 e5) (b4 tr))))))))))))))) (a_ (q0 (P8 i8 n9 t6 uu a e3) (e_ true) (e_ true) (show 1≠6 from by decide)) (D4 (R2 i8 n9 t6 true F1 [] (m:=uu) (k:=a) e3)))))
  ·rcases i5 h with⟨c5,h⟩|⟨c5,h⟩
   ·obtain⟨y7,e8,h⟩:=d6 h
    obtain⟨y10,e9,h⟩:=d6 h;obtain rfl:=i7 h;exact l8 [] 21 [.reg [],.x (.p (.po 1 (i8 a) (n9 y2))),.x (.p (.po 1 (i8 b) (n9 y7))),.reg [(5,{look:=some (.ptr 6 0 0)}),(14,{look:=some (.ptr 7 0 0)}),(18,hC (a1g y10))],.x (.p (.pc 1)),.wk [] [(1,m7 uu [(i8 a,6)])],.x (.p (.pc 1)),.wk [] [(1,m7 uu [])]]
     (q3 (q0 (q2 tr) (a_ (Q0 i8 n9 e3) (Q1 i8 a)) (a_ (Q0 i8 n9 e8) (a4i (s' :=6) i8 t6 c4 (Q1 i8 b))) (q0 (q2 (l_ 0 3 rfl (m_ 3 3 rfl (a_ (a_ (a_ (e_ true) (a_ (N5 i8 n9 t6 uu a (isS e3)) (List.mem_cons_of_mem (i8 b,7) (List.mem_cons_self (a:=((i8 a,6):LV×Nat)) (l:=[]))))) tr) (b5 (m_ 4 5 rfl (b4 (b5 (l_ 0 3 rfl (m_ 3 3 rfl (a_ (a_ (a_ (e_ true) (a_ (N5 i8 n9 t6 uu b (isS e8)) (List.mem_cons_self (a:=((i8 b,7):LV×Nat)) (l:=[(i8 a,6)])))) tr) (b5 (m_ 4 5 rfl (c_ (a3F y2.B7 y7.B7 y10 e9) (b4 tr))))))))))))))) (q0 (P8 i8 n9 t6 uu b e8) (e_ true) (e_ true) (show 1≠7 from by decide)) (q7 tr (R2 i8 n9 t6 true F1 [(i8 a,6)] (m:=uu) (k:=b) e8)) (a_ (q0 (P8 i8 n9 t6 uu a e3) (e_ true) (e_ true) (show 1≠6 from by decide)) (D4 (R2 i8 n9 t6 true F1 [] (m:=uu) (k:=a) e3))))))
   ·cases h
 ·cases h
def b3V(r:Int):LV:=.int .u64 r
def a6j(length:Int):Option Int:=
 (a2w (IntKind.wrap .u64 length)).bind λy2=>
 if 0<=y2 then
 (some (IntKind.wrap .u64 (1 * 2^(min (Int.toNat y2) (IntKind.bits .u64))))).bind λy4=>
 some y4
 else none
theorem c6D(length:Int)(r:Int)(h:a6j length=some r):∀σ,p8 0 σ->j9 Tryz.prog 118 (n7 σ [.int .i64 length]) (p5 σ 0 []) ((b3V r).ren σ) (p6 σ []):=by
 refine u7 Tryz.func118 tr tr ?_;intro w0 W μ0 hμ;unfold a6j at h;obtain⟨y2,e1,h⟩:=d6 h;obtain⟨g3,h⟩:=j6 h;obtain⟨y4,e5,h⟩:=d6 h;obtain rfl:=i7 h;exact l8 [] 15 [.reg [],.reg [(2,hC (a7g y2)),(3,j5 (.int .u64 y4))]]
  (Y9 (b5 (q9 (q3 (b2B (IntKind.wrap .u64 length) y2 e1)) (S6 g3 (n0 (LV.int .u64) e5)))))
theorem c6E(length:Int)(r:Int)(h:a6j length=some r):j9 Tryz.prog 118 [.int .i64 length] [] (b3V r) []:=j9.none (c6D length r h) rfl rfl
def b3Y(r:Int×Int):LV:=.int .u64 r.1
def b3X(r:Int×Int):i9:=[(0,some (.var [.int .u64 r.2]))]
def b3W(x_r:Int):List LO:=[.var [.int .u64 x_r]]
def a8a(x_r:Int):Option (Int×Int):=
 (some (IntKind.wrap .u64 (x_r * 2^(min (Int.toNat 13) (IntKind.bits .u64))))).bind λy1=>
 (some (IntKind.wrap .u64 ((BitVec.ofInt (IntKind.bits .u64) x_r^^^BitVec.ofInt (IntKind.bits .u64) y1).toNat:Int))).bind λy3=>
 (some (Int.fdiv y3 (2^(min (Int.toNat 7) (IntKind.bits .u64))))).bind λy5=>
 (some (IntKind.wrap .u64 ((BitVec.ofInt (IntKind.bits .u64) y3^^^BitVec.ofInt (IntKind.bits .u64) y5).toNat:Int))).bind λy7=>
 (some (IntKind.wrap .u64 (y7 * 2^(min (Int.toNat 17) (IntKind.bits .u64))))).bind λy9=>
 (some (IntKind.wrap .u64 ((BitVec.ofInt (IntKind.bits .u64) y7^^^BitVec.ofInt (IntKind.bits .u64) y9).toNat:Int))).bind λy11=>
 some (y11,y11)
theorem b8x(x_r:Int)(r:Int×Int)(h:a8a x_r=some r):∀σ,p8 1 σ->j9 Tryz.prog 119 (n7 σ [.ptr 0 0 0]) (p5 σ 0 (b3W x_r)) ((b3Y r).ren σ) (p6 σ (b3X r)):=by
 refine u7 Tryz.func119 ⟨rfl,tr⟩ ⟨rfl,tr⟩ ?_;intro w0 W μ0 hμ;unfold a8a at h;obtain⟨y1,e2,h⟩:=d6 h;obtain⟨y3,e4,h⟩:=d6 h;obtain⟨y5,e6,h⟩:=d6 h;obtain⟨y7,e8,h⟩:=d6 h;obtain⟨y9,e10,h⟩:=d6 h;obtain⟨y11,e12,h⟩:=d6 h;obtain rfl:=i7 h;exact l8 [] 24 [.reg [],.reg [(6,j5 (.int .u64 y1)),(7,j5 (.int .u64 y3))],.reg [(6,j5 (.int .u64 y5)),(7,j5 (.int .u64 y7))],.reg [(6,j5 (.int .u64 y9)),(7,j5 (.int .u64 y11))],.reg []]
  (q3 (B6 (q8 tr) (l_ 0 1 rfl (b5 (l_ 0 1 rfl (a_ (a_ (I8 0 13 rfl) (a_ (n0 (LV.int .u64) e2) tr)) (a_ (a_ tr (a_ (n0 (LV.int .u64) e4) tr)) (b4 (a_ (a_ (a_ (e_ 1) (a_ (d8 1 1 rfl) (e_ 0))) tr) tr))))))) (b5 (l_ 0 1 rfl (b5 (l_ 0 1 rfl (a_ (a_ (I8 0 7 rfl) (a_ (n0 (LV.int .u64) e6) tr)) (a_ (a_ tr (a_ (n0 (LV.int .u64) e8) tr)) (b4 (a_ (a_ (a_ (e_ 1) (a_ (d8 1 1 rfl) (e_ 0))) tr) tr)))))))) (q7 (b5 (l_ 0 1 rfl (b5 (l_ 0 1 rfl (a_ (a_ (I8 0 17 rfl) (a_ (n0 (LV.int .u64) e10) tr)) (a_ (a_ tr (a_ (n0 (LV.int .u64) e12) tr)) (b4 (a_ (a_ (a_ (e_ 1) (a_ (d8 1 1 rfl) (e_ 0))) tr) tr)))))))) (b5 (l_ 0 1 rfl (b4 tr))))))
def b3B(r:(List TX)):LV:=.tup []
def b3A(uu:UT)(hh ww:PT)(r:(List TX)):i9:=[(0,some (.gr 3 r.length (b6 f5 default r))),(1,some (.var [.map 2,.map 3,.map 4])),(2,some (m7 uu [])),(3,some (b9 hh)),(4,some (b9 ww))]
def b3z(x:List TX)(uu:UT)(hh ww:PT):List LO:=[.gr 3 x.length (b6 f5 default x),.var [.map 2,.map 3,.map 4],m7 uu [],b9 hh,b9 ww]
def a95(bb:Bool)(data:LE bb)(a b:Int)(uu:UT)(hh ww:PT)(i:Int)(l2:LE bb)(k0:Int->(LE bb)->Option ((LE bb))):Option ((LE bb)):=
 k0 (IntKind.wrap .i64 (i+1)) l2
def a96(bb:Bool)(data:LE bb)(a b:Int)(uu:UT)(hh ww:PT)(i j:Int)(l2:LE bb)(k1:Int->(LE bb)->Option ((LE bb))):Option ((LE bb)):=
 if 0<=(IntKind.wrap .i64 (j - 1))/\(IntKind.wrap .i64 (j - 1))<(l2.length:Int) then
 (some (l2.getD ((IntKind.wrap .i64 (j - 1))).toNat default)).bind λy2=>
 if 0<=j/\j<(l2.length:Int) then
 if((IntKind.wrap .i64 (j - 1))).toNat<((l2.set j.toNat y2)).length then
 (some ((l2.set j.toNat y2).set ((IntKind.wrap .i64 (j - 1))).toNat (l2.getD j.toNat default))).bind λy6=>
 k1 (IntKind.wrap .i64 (j - 1)) y6
 else none
 else none
 else none
def a4A(s1 s2:A8 Int):Nat->Int->Option Int
 |0,_=>none
 |fuel+1,t11=>
  if decide (t11<8) then
   if 0<=t11/\t11<8 then
   if decide (8<=t11) then
    some 1
   else
    (a3v (A8.get s1 t11.toNat) (A8.get s2 t11.toNat)).bind λy5=>
    if y5 !=0 then
     some y5
    else
     a4A s1 s2 fuel (IntKind.wrap .i64 (t11+1))
   else none
  else
   some 0
def sCB(s1 s2:A8 Int):Option Int:=
 a4A s1 s2 big 0
def a47(a b:A8 Int):Option Int:=
 (sCB a b).bind λy2=>
 some y2
def a7d(uu:UT)(hh ww:PT)(a b:TL):Option Int:=
 (a47 a.o7 b.o7).bind λy2=>
 (a3V uu hh ww a.m9 b.m9).bind λy4=>
 (a1b ([y2,y4]:List Int)).bind λy6=>
 some y6
def M2:(bb:Bool)->(uu:UT)->(hh:PT)->(ww:PT)->(a:(E_ bb))->(b:(E_ bb))->Option Int
 |false=>a3V
 |true=>a7d
def a1L(bb:Bool)(data:LE bb)(a b:Int)(uu:UT)(hh ww:PT)(i:Int)(k0:Int->(LE bb)->Option ((LE bb))):Nat->Int->(LE bb)->Option ((LE bb))
 |0,_,_=>none
 |fuel+1,j,l2=>
  if decide (a<j) then
   if 0<=j/\j<(l2.length:Int) then
   if 0<=(IntKind.wrap .i64 (j - 1))/\(IntKind.wrap .i64 (j - 1))<(l2.length:Int) then
   (some (l2.getD ((IntKind.wrap .i64 (j - 1))).toNat default)).bind λy4=>
   (M2 bb uu hh ww (l2.getD j.toNat default) y4).bind λy7=>
   if decide (y7<0) then
    a96 bb data a b uu hh ww i j l2 (a1L bb data a b uu hh ww i k0 fuel)
   else
    a95 bb data a b uu hh ww i l2 k0
   else none
   else none
  else
   k0 (IntKind.wrap .i64 (i+1)) l2
def a23(bb:Bool)(data:LE bb)(a b:Int)(uu:UT)(hh ww:PT):Nat->Int->(LE bb)->Option ((LE bb))
 |0,_,_=>none
 |fuel+1,i,l=>
  if decide (i<b) then
   a1L bb data a b uu hh ww i (a23 bb data a b uu hh ww fuel) big i l
  else
   some l
def sIN(bb:Bool)(data:LE bb)(a b:Int)(uu:UT)(hh ww:PT):Option ((LE bb)):=
 a23 bb data a b uu hh ww big (IntKind.wrap .i64 (a+1)) data
def b0n(bb:Bool)(data:LE bb)(lo hi first:Int)(uu:UT)(hh ww:PT)(root:Int)(l:LE bb)(y1:Int)(k0:Int->(LE bb)->Option ((LE bb))):Option ((LE bb)):=
 if 0<=(IntKind.wrap .i64 (first+root))/\(IntKind.wrap .i64 (first+root))<(l.length:Int) then
 (some (l.getD ((IntKind.wrap .i64 (first+root))).toNat default)).bind λy2=>
 (some (IntKind.wrap .i64 (first+(IntKind.wrap .i64 (y1+1))))).bind λy4=>
 if 0<=y4/\y4<(l.length:Int) then
 (M2 bb uu hh ww y2 (l.getD y4.toNat default)).bind λy8=>
 if !(decide (y8<0)) then
  some l
 else
  (some (l.set ((IntKind.wrap .i64 (first+root))).toNat (l.getD y4.toNat default))).bind λy10=>
  if y4.toNat<y10.length then
  k0 (IntKind.wrap .i64 (y1+1)) (y10.set y4.toNat y2)
  else none
 else none
 else none
def b0o(bb:Bool)(data:LE bb)(lo hi first:Int)(uu:UT)(hh ww:PT)(root:Int)(l:LE bb)(y1:Int)(k0:Int->(LE bb)->Option ((LE bb))):Option ((LE bb)):=
 if 0<=(IntKind.wrap .i64 (first+root))/\(IntKind.wrap .i64 (first+root))<(l.length:Int) then
 (some (l.getD ((IntKind.wrap .i64 (first+root))).toNat default)).bind λy2=>
 if 0<=(IntKind.wrap .i64 (first+y1))/\(IntKind.wrap .i64 (first+y1))<(l.length:Int) then
 (some (l.getD ((IntKind.wrap .i64 (first+y1))).toNat default)).bind λy5=>
 (M2 bb uu hh ww y2 y5).bind λy8=>
 if !(decide (y8<0)) then
  some l
 else
  (some (l.set ((IntKind.wrap .i64 (first+root))).toNat y5)).bind λy10=>
  if((IntKind.wrap .i64 (first+y1))).toNat<y10.length then
  (some (y10.set ((IntKind.wrap .i64 (first+y1))).toNat y2)).bind λy13=>
  k0 y1 y13
  else none
 else none
 else none
def b0p(bb:Bool)(data:LE bb)(lo hi first:Int)(uu:UT)(hh ww:PT)(root:Int)(l:LE bb)(y1:Int)(k0:Int->(LE bb)->Option ((LE bb))):Option ((LE bb)):=
 if 0<=(IntKind.wrap .i64 (first+y1))/\(IntKind.wrap .i64 (first+y1))<(l.length:Int) then
 (some (l.getD ((IntKind.wrap .i64 (first+y1))).toNat default)).bind λy2=>
 if 0<=(IntKind.wrap .i64 (first+root))/\(IntKind.wrap .i64 (first+root))<(l.length:Int) then
 (some (l.getD ((IntKind.wrap .i64 (first+root))).toNat default)).bind λy5=>
 (some (l.set ((IntKind.wrap .i64 (first+root))).toNat y2)).bind λy7=>
 if((IntKind.wrap .i64 (first+y1))).toNat<y7.length then
 (some (y7.set ((IntKind.wrap .i64 (first+y1))).toNat y5)).bind λy10=>
 k0 y1 y10
 else none
 else none
 else none
def Z_(bb:Bool)(data:LE bb)(lo hi first:Int)(uu:UT)(hh ww:PT):Nat->Int->(LE bb)->Option ((LE bb))
 |0,_,_=>none
 |fuel+1,root,l=>
  (some (IntKind.wrap .i64 ((IntKind.wrap .i64 (2 * root))+1))).bind λy1=>
  if decide (hi<=y1) then
   some l
  else
   if decide ((IntKind.wrap .i64 (y1+1))<hi) then
    if 0<=(IntKind.wrap .i64 (first+y1))/\(IntKind.wrap .i64 (first+y1))<(l.length:Int) then
    (some (l.getD ((IntKind.wrap .i64 (first+y1))).toNat default)).bind λy6=>
    (some (IntKind.wrap .i64 ((IntKind.wrap .i64 (first+y1))+1))).bind λy8=>
    if 0<=y8/\y8<(l.length:Int) then
    (M2 bb uu hh ww y6 (l.getD y8.toNat default)).bind λy12=>
    if decide (y12<0) then
     b0n bb data lo hi first uu hh ww root l y1 (Z_ bb data lo hi first uu hh ww fuel)
    else
     b0o bb data lo hi first uu hh ww root l y1 (Z_ bb data lo hi first uu hh ww fuel)
    else none
    else none
   else
    if 0<=(IntKind.wrap .i64 (first+root))/\(IntKind.wrap .i64 (first+root))<(l.length:Int) then
    (some (l.getD ((IntKind.wrap .i64 (first+root))).toNat default)).bind λy6=>
    if 0<=(IntKind.wrap .i64 (first+y1))/\(IntKind.wrap .i64 (first+y1))<(l.length:Int) then
    (some (l.getD ((IntKind.wrap .i64 (first+y1))).toNat default)).bind λy9=>
    (M2 bb uu hh ww y6 y9).bind λy12=>
    if !(decide (y12<0)) then
     some l
    else
     b0p bb data lo hi first uu hh ww root l y1 (Z_ bb data lo hi first uu hh ww fuel)
    else none
    else none
def sSD(bb:Bool)(data:LE bb)(lo hi first:Int)(uu:UT)(hh ww:PT):Option ((LE bb)):=
 Z_ bb data lo hi first uu hh ww big lo data
def a21(bb:Bool)(data:LE bb)(a b:Int)(uu:UT)(hh ww:PT):Nat->Int->(LE bb)->Option ((LE bb))
 |0,_,_=>none
 |fuel+1,i2,l2=>
  if decide (0<=i2) then
   if 0<=(IntKind.wrap .i64 (a+i2))/\(IntKind.wrap .i64 (a+i2))<(l2.length:Int) then
   (some (l2.getD ((IntKind.wrap .i64 (a+i2))).toNat default)).bind λy3=>
   if 0<=a/\a<(l2.length:Int) then
   if((IntKind.wrap .i64 (a+i2))).toNat<((l2.set a.toNat y3)).length then
   (some ((l2.set a.toNat y3).set ((IntKind.wrap .i64 (a+i2))).toNat (l2.getD a.toNat default))).bind λy7=>
   (sSD bb y7 0 i2 a uu hh ww).bind λy10=>
   if l2.length=y10.length then
   a21 bb data a b uu hh ww fuel (IntKind.wrap .i64 (i2 - 1)) y10
   else none
   else none
   else none
   else none
  else
   some l2
def a20(bb:Bool)(data:LE bb)(a b:Int)(uu:UT)(hh ww:PT):Nat->Int->(LE bb)->Option ((LE bb))
 |0,_,_=>none
 |fuel+1,i,l=>
  if decide (0<=i) then
   (sSD bb l i (IntKind.wrap .i64 (b - a)) a uu hh ww).bind λy3=>
   if l.length=y3.length then
   a20 bb data a b uu hh ww fuel (IntKind.wrap .i64 (i - 1)) y3
   else none
  else
   (some (IntKind.wrap .i64 ((IntKind.wrap .i64 (b - a)) - 1))).bind λy2=>
   a21 bb data a b uu hh ww big y2 l
def sHP(bb:Bool)(data:LE bb)(a b:Int)(uu:UT)(hh ww:PT):Option ((LE bb)):=
 (some (IntKind.wrap .i64 ((IntKind.wrap .i64 (b - a)) - 1))).bind λy1=>
 a20 bb data a b uu hh ww big (IntKind.wrap .i64 (Int.tdiv y1 2)) data
def a9Z(bb:Bool)(data:LE bb)(a b:Int)(uu:UT)(hh ww:PT)(idx:Int)(l:LE bb)(y3:Int)(y7:Int×Int)(yL0_8:Int)(k0:Int->(LE bb)->Int->Option ((LE bb))):Option ((LE bb)):=
 (some (IntKind.wrap .i64 ((IntKind.wrap .i64 yL0_8) - (IntKind.wrap .i64 (b - a))))).bind λy1=>
 if 0<=(IntKind.wrap .i64 (a+y1))/\(IntKind.wrap .i64 (a+y1))<(l.length:Int) then
 (some (l.getD ((IntKind.wrap .i64 (a+y1))).toNat default)).bind λy4=>
 if 0<=idx/\idx<(l.length:Int) then
 if((IntKind.wrap .i64 (a+y1))).toNat<((l.set idx.toNat y4)).length then
 (some ((l.set idx.toNat y4).set ((IntKind.wrap .i64 (a+y1))).toNat (l.getD idx.toNat default))).bind λyC9_8=>
 k0 (IntKind.wrap .i64 (idx+1)) yC9_8 y7.2
 else none
 else none
 else none
def a9Y(bb:Bool)(data:LE bb)(a b:Int)(uu:UT)(hh ww:PT)(idx:Int)(l:LE bb)(y3:Int)(y7:Int×Int)(y8:Int)(k0:Int->(LE bb)->Int->Option ((LE bb))):Option ((LE bb)):=
 (some (IntKind.wrap .i64 (a+(IntKind.wrap .i64 y8)))).bind λy1=>
 if 0<=y1/\y1<(l.length:Int) then
 if 0<=idx/\idx<(l.length:Int) then
 if y1.toNat<((l.set idx.toNat (l.getD y1.toNat default))).length then
 (some ((l.set idx.toNat (l.getD y1.toNat default)).set y1.toNat (l.getD idx.toNat default))).bind λy6=>
 k0 (IntKind.wrap .i64 (idx+1)) y6 y7.2
 else none
 else none
 else none
def a0W(bb:Bool)(data:LE bb)(a b:Int)(uu:UT)(hh ww:PT)(y3:Int):Nat->Int->(LE bb)->Int->Option ((LE bb))
 |0,_,_,_=>none
 |fuel+1,idx,l,x=>
  (some (IntKind.wrap .i64 (Int.tdiv (IntKind.wrap .i64 (b - a)) 4))).bind λy1=>
  (some (IntKind.wrap .i64 (a+(IntKind.wrap .i64 (y1 * 2))))).bind λyL0_3=>
  if decide (idx<=(IntKind.wrap .i64 (yL0_3+1))) then
   (a8a x).bind λy7=>
   (some (IntKind.wrap .u64 ((BitVec.ofInt (IntKind.bits .u64) y7.1&&&BitVec.ofInt (IntKind.bits .u64) (IntKind.wrap .u64 (y3 - 1))).toNat:Int))).bind λy8=>
   if decide ((IntKind.wrap .i64 (b - a))<=(IntKind.wrap .i64 y8)) then
    a9Z bb data a b uu hh ww idx l y3 y7 y8 (a0W bb data a b uu hh ww y3 fuel)
   else
    a9Y bb data a b uu hh ww idx l y3 y7 y8 (a0W bb data a b uu hh ww y3 fuel)
  else
   some l
def sBP(bb:Bool)(data:LE bb)(a b:Int)(uu:UT)(hh ww:PT):Option ((LE bb)):=
 if decide (8<=(IntKind.wrap .i64 (b - a))) then
  (a6j (IntKind.wrap .i64 (b - a))).bind λy3=>
  (some (IntKind.wrap .i64 (Int.tdiv (IntKind.wrap .i64 (b - a)) 4))).bind λy4=>
  (some (IntKind.wrap .i64 (a+(IntKind.wrap .i64 (y4 * 2))))).bind λy6=>
  a0W bb data a b uu hh ww y3 big (IntKind.wrap .i64 (y6 - 1)) data (IntKind.wrap .u64 (IntKind.wrap .i64 (b - a)))
 else
  some data
def sO2(bb:Bool)(data:LE bb)(a b swaps:Int)(uu:UT)(hh ww:PT):Option (Int×Int×Int):=
 if 0<=b/\b<(data.length:Int) then
 if 0<=a/\a<(data.length:Int) then
 (M2 bb uu hh ww (data.getD b.toNat default) (data.getD a.toNat default)).bind λy4=>
 if decide (y4<0) then
  some (b,a,(IntKind.wrap .i64 (swaps+1)))
 else
  some (a,b,swaps)
 else none
 else none
def sME(bb:Bool)(data:LE bb)(a b:Int)(c swaps:Int)(uu:UT)(hh ww:PT):Option (Int×Int):=
 (sO2 bb data a b swaps uu hh ww).bind λy2=>
 (sO2 bb data y2.2.1 c y2.2.2 uu hh ww).bind λy4=>
 (sO2 bb data y2.1 y4.1 y4.2.2 uu hh ww).bind λy6=>
 some (y6.2.1,y6.2.2)
def sMA(bb:Bool)(data:LE bb)(a swaps:Int)(uu:UT)(hh ww:PT):Option (Int×Int):=
 (sME bb data (IntKind.wrap .i64 (a - 1)) a (IntKind.wrap .i64 (a+1)) swaps uu hh ww).bind λy2=>
 some (y2.1,y2.2)
def b3y(bb:Bool)(data:LE bb)(a b:Int)(uu:UT)(hh ww:PT)(y8:Int×Int):Option (Int×Int):=
 some (y8.1,2)
def b3x(bb:Bool)(data:LE bb)(a b:Int)(uu:UT)(hh ww:PT)(y8:Int×Int):Option (Int×Int):=
 some (y8.1,0)
def a91(bb:Bool)(data:LE bb)(a b:Int)(uu:UT)(hh ww:PT)(y3 y5 y7:Int):Option (Int×Int):=
 (sMA bb data y3 0 uu hh ww).bind λy2=>
 (sMA bb data y5 y2.2 uu hh ww).bind λy4=>
 (sMA bb data y7 y4.2 uu hh ww).bind λy6=>
 (sME bb data y2.1 y4.1 y6.1 y6.2 uu hh ww).bind λy8=>
 if y8.2==0 then
  some (y8.1,1)
 else
  if y8.2==12 then
   b3y bb data a b uu hh ww y8
  else
   b3x bb data a b uu hh ww y8
def b3w(bb:Bool)(data:LE bb)(a b:Int)(uu:UT)(hh ww:PT)(y2:Int×Int):Option (Int×Int):=
 some (y2.1,2)
def b3v(bb:Bool)(data:LE bb)(a b:Int)(uu:UT)(hh ww:PT)(y2:Int×Int):Option (Int×Int):=
 some (y2.1,0)
def a90(bb:Bool)(data:LE bb)(a b:Int)(uu:UT)(hh ww:PT)(y3 y5 y7:Int):Option (Int×Int):=
 (sME bb data y3 y5 y7 0 uu hh ww).bind λy2=>
 if y2.2==0 then
  some (y2.1,1)
 else
  if y2.2==12 then
   b3w bb data a b uu hh ww y2
  else
   b3v bb data a b uu hh ww y2
def sCP(bb:Bool)(data:LE bb)(a b:Int)(uu:UT)(hh ww:PT):Option (Int×Int):=
 (some (IntKind.wrap .i64 (Int.tdiv (IntKind.wrap .i64 (b - a)) 4))).bind λy1=>
 (some (IntKind.wrap .i64 (a+(IntKind.wrap .i64 (y1 * 1))))).bind λy3=>
 (some (IntKind.wrap .i64 (a+(IntKind.wrap .i64 (y1 * 2))))).bind λy5=>
 (some (IntKind.wrap .i64 (a+(IntKind.wrap .i64 (y1 * 3))))).bind λy7=>
 if decide (8<=(IntKind.wrap .i64 (b - a))) then
  if decide (50<=(IntKind.wrap .i64 (b - a))) then
   a91 bb data a b uu hh ww y3 y5 y7
  else
   a90 bb data a b uu hh ww y3 y5 y7
 else
  some (y5,1)
def a4F(bb:Bool)(data:LE bb)(a b:Int)(uu:UT)(hh ww:PT):Nat->Int->Int->(LE bb)->Option ((LE bb))
 |0,_,_,_=>none
 |fuel+1,i,j,l=>
  if decide (i<j) then
   if 0<=j/\j<(l.length:Int) then
   if 0<=i/\i<(l.length:Int) then
   if j.toNat<((l.set i.toNat (l.getD j.toNat default))).length then
   (some ((l.set i.toNat (l.getD j.toNat default)).set j.toNat (l.getD i.toNat default))).bind λy5=>
   a4F bb data a b uu hh ww fuel (IntKind.wrap .i64 (i+1)) (IntKind.wrap .i64 (j - 1)) y5
   else none
   else none
   else none
  else
   some l
def sRR(bb:Bool)(data:LE bb)(a b:Int)(uu:UT)(hh ww:PT):Option ((LE bb)):=
 a4F bb data a b uu hh ww big a (IntKind.wrap .i64 (b - 1)) data
def b3N(bb:Bool)(data:LE bb)(a b:Int)(uu:UT)(hh ww:PT)(j i2:Int)(l4:LE bb)(k0:Int->Int->(LE bb)->Option (Bool×(LE bb))):Option (Bool×(LE bb)):=
 k0 i2 (IntKind.wrap .i64 (j+1)) l4
def b0k(bb:Bool)(data:LE bb)(a b:Int)(uu:UT)(hh ww:PT)(j i2 j3:Int)(l4:LE bb)(k3:Int->(LE bb)->Option (Bool×(LE bb))):Option (Bool×(LE bb)):=
 if 0<=(IntKind.wrap .i64 (j3 - 1))/\(IntKind.wrap .i64 (j3 - 1))<(l4.length:Int) then
 (some (l4.getD ((IntKind.wrap .i64 (j3 - 1))).toNat default)).bind λy2=>
 if 0<=j3/\j3<(l4.length:Int) then
 if((IntKind.wrap .i64 (j3 - 1))).toNat<((l4.set j3.toNat y2)).length then
 (some ((l4.set j3.toNat y2).set ((IntKind.wrap .i64 (j3 - 1))).toNat (l4.getD j3.toNat default))).bind λy6=>
 k3 (IntKind.wrap .i64 (j3+1)) y6
 else none
 else none
 else none
def a01(bb:Bool)(data:LE bb)(a b:Int)(uu:UT)(hh ww:PT)(j i2:Int)(k0:Int->Int->(LE bb)->Option (Bool×(LE bb))):Nat->Int->(LE bb)->Option (Bool×(LE bb))
 |0,_,_=>none
 |fuel+1,j3,l4=>
  if decide (j3<b) then
   if 0<=j3/\j3<(l4.length:Int) then
   if 0<=(IntKind.wrap .i64 (j3 - 1))/\(IntKind.wrap .i64 (j3 - 1))<(l4.length:Int) then
   (some (l4.getD ((IntKind.wrap .i64 (j3 - 1))).toNat default)).bind λy4=>
   (M2 bb uu hh ww (l4.getD j3.toNat default) y4).bind λy7=>
   if !(decide (y7<0)) then
    b3N bb data a b uu hh ww j i2 l4 k0
   else
    b0k bb data a b uu hh ww j i2 j3 l4 (a01 bb data a b uu hh ww j i2 k0 fuel)
   else none
   else none
  else
   k0 i2 (IntKind.wrap .i64 (j+1)) l4
def b0j(bb:Bool)(data:LE bb)(a b:Int)(uu:UT)(hh ww:PT)(j i2 j2:Int)(l3:LE bb)(k2:Int->(LE bb)->Option (Bool×(LE bb))):Option (Bool×(LE bb)):=
 if 0<=(IntKind.wrap .i64 (j2 - 1))/\(IntKind.wrap .i64 (j2 - 1))<(l3.length:Int) then
 (some (l3.getD ((IntKind.wrap .i64 (j2 - 1))).toNat default)).bind λy2=>
 if 0<=j2/\j2<(l3.length:Int) then
 if((IntKind.wrap .i64 (j2 - 1))).toNat<((l3.set j2.toNat y2)).length then
 (some ((l3.set j2.toNat y2).set ((IntKind.wrap .i64 (j2 - 1))).toNat (l3.getD j2.toNat default))).bind λy6=>
 k2 (IntKind.wrap .i64 (j2 - 1)) y6
 else none
 else none
 else none
def a3h(bb:Bool)(data:LE bb)(a b:Int)(uu:UT)(hh ww:PT)(j i2:Int)(l3:LE bb)(k0:Int->Int->(LE bb)->Option (Bool×(LE bb))):Option (Bool×(LE bb)):=
 if decide (2<=(IntKind.wrap .i64 (b - i2))) then
  a01 bb data a b uu hh ww j i2 k0 big (IntKind.wrap .i64 (i2+1)) l3
 else
  k0 i2 (IntKind.wrap .i64 (j+1)) l3
def a1Q(bb:Bool)(data:LE bb)(a b:Int)(uu:UT)(hh ww:PT)(j i2:Int)(k0:Int->Int->(LE bb)->Option (Bool×(LE bb))):Nat->Int->(LE bb)->Option (Bool×(LE bb))
 |0,_,_=>none
 |fuel+1,j2,l3=>
  if decide (1<=j2) then
   if 0<=j2/\j2<(l3.length:Int) then
   if 0<=(IntKind.wrap .i64 (j2 - 1))/\(IntKind.wrap .i64 (j2 - 1))<(l3.length:Int) then
   (some (l3.getD ((IntKind.wrap .i64 (j2 - 1))).toNat default)).bind λy4=>
   (M2 bb uu hh ww (l3.getD j2.toNat default) y4).bind λy7=>
   if !(decide (y7<0)) then
    a3h bb data a b uu hh ww j i2 l3 k0
   else
    b0j bb data a b uu hh ww j i2 j2 l3 (a1Q bb data a b uu hh ww j i2 k0 fuel)
   else none
   else none
  else
   if decide (2<=(IntKind.wrap .i64 (b - i2))) then
    a01 bb data a b uu hh ww j i2 k0 big (IntKind.wrap .i64 (i2+1)) l3
   else
    k0 i2 (IntKind.wrap .i64 (j+1)) l3
def a6e(bb:Bool)(data:LE bb)(a b:Int)(uu:UT)(hh ww:PT)(j i2:Int)(k0:Int->Int->(LE bb)->Option (Bool×(LE bb)))(l2:LE bb):Option (Bool×(LE bb)):=
 if decide (2<=(IntKind.wrap .i64 (i2 - a))) then
  a1Q bb data a b uu hh ww j i2 k0 big (IntKind.wrap .i64 (i2 - 1)) l2
 else
  if decide (2<=(IntKind.wrap .i64 (b - i2))) then
   a01 bb data a b uu hh ww j i2 k0 big (IntKind.wrap .i64 (i2+1)) l2
  else
   k0 i2 (IntKind.wrap .i64 (j+1)) l2
def b0l(bb:Bool)(data:LE bb)(a b:Int)(uu:UT)(hh ww:PT)(j:Int)(l:LE bb)(i2:Int)(k1:Int->Option (Bool×(LE bb))):Option (Bool×(LE bb)):=
 k1 (IntKind.wrap .i64 (i2+1))
def a4D(bb:Bool)(data:LE bb)(a b:Int)(uu:UT)(hh ww:PT)(j:Int)(l:LE bb)(i2:Int)(k0:Int->Int->(LE bb)->Option (Bool×(LE bb))):Option (Bool×(LE bb)):=
 if i2==b then
  some (true,l)
 else
  if decide ((IntKind.wrap .i64 (b - a))<50) then
   some (false,l)
  else
   if 0<=(IntKind.wrap .i64 (i2 - 1))/\(IntKind.wrap .i64 (i2 - 1))<(l.length:Int) then
   (some (l.getD ((IntKind.wrap .i64 (i2 - 1))).toNat default)).bind λy4=>
   if 0<=i2/\i2<(l.length:Int) then
   if((IntKind.wrap .i64 (i2 - 1))).toNat<((l.set i2.toNat y4)).length then
   (some ((l.set i2.toNat y4).set ((IntKind.wrap .i64 (i2 - 1))).toNat (l.getD i2.toNat default))).bind λy8=>
   a6e bb data a b uu hh ww j i2 k0 y8
   else none
   else none
   else none
def a3i(bb:Bool)(data:LE bb)(a b:Int)(uu:UT)(hh ww:PT)(j:Int)(l:LE bb)(k0:Int->Int->(LE bb)->Option (Bool×(LE bb))):Nat->Int->Option (Bool×(LE bb))
 |0,_=>none
 |fuel+1,i2=>
  if decide (i2<b) then
   if 0<=i2/\i2<(l.length:Int) then
   if 0<=(IntKind.wrap .i64 (i2 - 1))/\(IntKind.wrap .i64 (i2 - 1))<(l.length:Int) then
   (some (l.getD ((IntKind.wrap .i64 (i2 - 1))).toNat default)).bind λy4=>
   (M2 bb uu hh ww (l.getD i2.toNat default) y4).bind λy7=>
   if !(decide (y7<0)) then
    b0l bb data a b uu hh ww j l i2 (a3i bb data a b uu hh ww j l k0 fuel)
   else
    a4D bb data a b uu hh ww j l i2 k0
   else none
   else none
  else
   if i2==b then
    some (true,l)
   else
    if decide ((IntKind.wrap .i64 (b - a))<50) then
     some (false,l)
    else
     if 0<=(IntKind.wrap .i64 (i2 - 1))/\(IntKind.wrap .i64 (i2 - 1))<(l.length:Int) then
     (some (l.getD ((IntKind.wrap .i64 (i2 - 1))).toNat default)).bind λy5=>
     if 0<=i2/\i2<(l.length:Int) then
     if((IntKind.wrap .i64 (i2 - 1))).toNat<((l.set i2.toNat y5)).length then
     (some ((l.set i2.toNat y5).set ((IntKind.wrap .i64 (i2 - 1))).toNat (l.getD i2.toNat default))).bind λy9=>
     a6e bb data a b uu hh ww j i2 k0 y9
     else none
     else none
     else none
def a0x(bb:Bool)(data:LE bb)(a b:Int)(uu:UT)(hh ww:PT):Nat->Int->Int->(LE bb)->Option (Bool×(LE bb))
 |0,_,_,_=>none
 |fuel+1,i,j,l=>
  if decide (j<5) then
   a3i bb data a b uu hh ww j l (a0x bb data a b uu hh ww fuel) big i
  else
   some (false,l)
def sPI(bb:Bool)(data:LE bb)(a b:Int)(uu:UT)(hh ww:PT):Option (Bool×(LE bb)):=
 a0x bb data a b uu hh ww big (IntKind.wrap .i64 (a+1)) 0 data
def b3M(bb:Bool)(data:LE bb)(a b pivot:Int)(uu:UT)(hh ww:PT)(i2 j2:Int)(y6:LE bb)(k0:Int->Int->(LE bb)->Option (Int×(LE bb))):Option (Int×(LE bb)):=
 k0 (IntKind.wrap .i64 (i2+1)) (IntKind.wrap .i64 (j2 - 1)) y6
def b0i(bb:Bool)(data:LE bb)(a b pivot:Int)(uu:UT)(hh ww:PT)(l:LE bb)(i2 j2:Int)(k2:Int->Option (Int×(LE bb))):Option (Int×(LE bb)):=
 k2 (IntKind.wrap .i64 (j2 - 1))
def a78(bb:Bool)(data:LE bb)(a b pivot:Int)(uu:UT)(hh ww:PT)(l:LE bb)(i2 j2:Int)(k0:Int->Int->(LE bb)->Option (Int×(LE bb))):Option (Int×(LE bb)):=
 if decide (j2<i2) then
  some (i2,l)
 else
  if 0<=j2/\j2<(l.length:Int) then
  if 0<=i2/\i2<(l.length:Int) then
  if j2.toNat<((l.set i2.toNat (l.getD j2.toNat default))).length then
  (some ((l.set i2.toNat (l.getD j2.toNat default)).set j2.toNat (l.getD i2.toNat default))).bind λy5=>
  k0 (IntKind.wrap .i64 (i2+1)) (IntKind.wrap .i64 (j2 - 1)) y5
  else none
  else none
  else none
def a0w(bb:Bool)(data:LE bb)(a b pivot:Int)(uu:UT)(hh ww:PT)(l:LE bb)(i2:Int)(k0:Int->Int->(LE bb)->Option (Int×(LE bb))):Nat->Int->Option (Int×(LE bb))
 |0,_=>none
 |fuel+1,j2=>
  if decide (i2<=j2) then
   if 0<=a/\a<(l.length:Int) then
   if 0<=j2/\j2<(l.length:Int) then
   (M2 bb uu hh ww (l.getD a.toNat default) (l.getD j2.toNat default)).bind λy5=>
   if decide (y5<0) then
    b0i bb data a b pivot uu hh ww l i2 j2 (a0w bb data a b pivot uu hh ww l i2 k0 fuel)
   else
    a78 bb data a b pivot uu hh ww l i2 j2 k0
   else none
   else none
  else
   if decide (j2<i2) then
    some (i2,l)
   else
    if 0<=j2/\j2<(l.length:Int) then
    if 0<=i2/\i2<(l.length:Int) then
    if j2.toNat<((l.set i2.toNat (l.getD j2.toNat default))).length then
    (some ((l.set i2.toNat (l.getD j2.toNat default)).set j2.toNat (l.getD i2.toNat default))).bind λy6=>
    b3M bb data a b pivot uu hh ww i2 j2 y6 k0
    else none
    else none
    else none
def b0h(bb:Bool)(data:LE bb)(a b pivot:Int)(uu:UT)(hh ww:PT)(j:Int)(l:LE bb)(i2:Int)(k1:Int->Option (Int×(LE bb))):Option (Int×(LE bb)):=
 k1 (IntKind.wrap .i64 (i2+1))
def a3f(bb:Bool)(data:LE bb)(a b pivot:Int)(uu:UT)(hh ww:PT)(j:Int)(l:LE bb)(k0:Int->Int->(LE bb)->Option (Int×(LE bb))):Nat->Int->Option (Int×(LE bb))
 |0,_=>none
 |fuel+1,i2=>
  if decide (i2<=j) then
   if 0<=a/\a<(l.length:Int) then
   if 0<=i2/\i2<(l.length:Int) then
   (M2 bb uu hh ww (l.getD a.toNat default) (l.getD i2.toNat default)).bind λy5=>
   if !(decide (y5<0)) then
    b0h bb data a b pivot uu hh ww j l i2 (a3f bb data a b pivot uu hh ww j l k0 fuel)
   else
    a0w bb data a b pivot uu hh ww l i2 k0 big j
   else none
   else none
  else
   a0w bb data a b pivot uu hh ww l i2 k0 big j
def a3e(bb:Bool)(data:LE bb)(a b pivot:Int)(uu:UT)(hh ww:PT):Nat->Int->Int->(LE bb)->Option (Int×(LE bb))
 |0,_,_,_=>none
 |fuel+1,i,j,l=>
  a3f bb data a b pivot uu hh ww j l (a3e bb data a b pivot uu hh ww fuel) big i
def sPE(bb:Bool)(data:LE bb)(a b pivot:Int)(uu:UT)(hh ww:PT):Option (Int×(LE bb)):=
 if 0<=pivot/\pivot<(data.length:Int) then
 if 0<=a/\a<(data.length:Int) then
 (some (data.set a.toNat (data.getD pivot.toNat default))).bind λy3=>
 if pivot.toNat<y3.length then
 a3e bb data a b pivot uu hh ww big (IntKind.wrap .i64 (a+1)) (IntKind.wrap .i64 (b - 1)) (y3.set pivot.toNat (data.getD a.toNat default))
 else none
 else none
 else none
def a0s(bb:Bool)(data:LE bb)(a b limit:Int)(uu:UT)(hh ww:PT)(self_:(LE bb)->Int->Int->Int->UT->PT->PT->Option ((LE bb)))(a2 b2:Int)(wasBalanced wasPartitioned:Bool)(k0:Int->Int->Int->Bool->Bool->(LE bb)->Option ((LE bb)))(limit5 pivot3:Int)(l4:LE bb):Option ((LE bb)):=
 (sPE bb l4 a2 b2 pivot3 uu hh ww).bind λy2=>
 if l4.length=y2.2.length then
 k0 y2.1 b2 limit5 wasBalanced wasPartitioned y2.2
 else none
def b3J(bb:Bool)(data:LE bb)(a b pivot:Int)(uu:UT)(hh ww:PT)(j:Int)(y7:(E_ bb))(y10:LE bb):Option (Int×Bool×(LE bb)):=
 some (j,true,(y10.set a.toNat y7))
def b0b(bb:Bool)(data:LE bb)(a b pivot:Int)(uu:UT)(hh ww:PT)(l:LE bb)(i3 j3:Int)(k4:Int->Option (Int×Bool×(LE bb))):Option (Int×Bool×(LE bb)):=
 k4 (IntKind.wrap .i64 (j3 - 1))
def a7Z(bb:Bool)(data:LE bb)(a b pivot:Int)(uu:UT)(hh ww:PT)(l:LE bb)(i3 j3:Int)(k2:Int->Int->(LE bb)->Option (Int×Bool×(LE bb))):Option (Int×Bool×(LE bb)):=
 if decide (j3<i3) then
  if 0<=a/\a<(l.length:Int) then
  if 0<=j3/\j3<(l.length:Int) then
  if a.toNat<((l.set j3.toNat (l.getD a.toNat default))).length then
  (some ((l.set j3.toNat (l.getD a.toNat default)).set a.toNat (l.getD j3.toNat default))).bind λy5=>
  some (j3,false,y5)
  else none
  else none
  else none
 else
  if 0<=j3/\j3<(l.length:Int) then
  if 0<=i3/\i3<(l.length:Int) then
  if j3.toNat<((l.set i3.toNat (l.getD j3.toNat default))).length then
  (some ((l.set i3.toNat (l.getD j3.toNat default)).set j3.toNat (l.getD i3.toNat default))).bind λy5=>
  k2 (IntKind.wrap .i64 (i3+1)) (IntKind.wrap .i64 (j3 - 1)) y5
  else none
  else none
  else none
def b3H(bb:Bool)(data:LE bb)(a b pivot:Int)(uu:UT)(hh ww:PT)(i3 j3:Int)(y6:LE bb)(k2:Int->Int->(LE bb)->Option (Int×Bool×(LE bb))):Option (Int×Bool×(LE bb)):=
 k2 (IntKind.wrap .i64 (i3+1)) (IntKind.wrap .i64 (j3 - 1)) y6
def b3I(bb:Bool)(data:LE bb)(a b pivot:Int)(uu:UT)(hh ww:PT)(j3:Int)(y6:LE bb):Option (Int×Bool×(LE bb)):=
 some (j3,false,y6)
def a0r(bb:Bool)(data:LE bb)(a b pivot:Int)(uu:UT)(hh ww:PT)(l:LE bb)(i3:Int)(k2:Int->Int->(LE bb)->Option (Int×Bool×(LE bb))):Nat->Int->Option (Int×Bool×(LE bb))
 |0,_=>none
 |fuel+1,j3=>
  if decide (i3<=j3) then
   if 0<=j3/\j3<(l.length:Int) then
   if 0<=a/\a<(l.length:Int) then
   (M2 bb uu hh ww (l.getD j3.toNat default) (l.getD a.toNat default)).bind λy5=>
   if !(decide (y5<0)) then
    b0b bb data a b pivot uu hh ww l i3 j3 (a0r bb data a b pivot uu hh ww l i3 k2 fuel)
   else
    a7Z bb data a b pivot uu hh ww l i3 j3 k2
   else none
   else none
  else
   if decide (j3<i3) then
    if 0<=a/\a<(l.length:Int) then
    if 0<=j3/\j3<(l.length:Int) then
    if a.toNat<((l.set j3.toNat (l.getD a.toNat default))).length then
    (some ((l.set j3.toNat (l.getD a.toNat default)).set a.toNat (l.getD j3.toNat default))).bind λy6=>
    b3I bb data a b pivot uu hh ww j3 y6
    else none
    else none
    else none
   else
    if 0<=j3/\j3<(l.length:Int) then
    if 0<=i3/\i3<(l.length:Int) then
    if j3.toNat<((l.set i3.toNat (l.getD j3.toNat default))).length then
    (some ((l.set i3.toNat (l.getD j3.toNat default)).set j3.toNat (l.getD i3.toNat default))).bind λy6=>
    b3H bb data a b pivot uu hh ww i3 j3 y6 k2
    else none
    else none
    else none
def b0a(bb:Bool)(data:LE bb)(a b pivot:Int)(uu:UT)(hh ww:PT)(j2:Int)(l:LE bb)(i3:Int)(k3:Int->Option (Int×Bool×(LE bb))):Option (Int×Bool×(LE bb)):=
 k3 (IntKind.wrap .i64 (i3+1))
def a29(bb:Bool)(data:LE bb)(a b pivot:Int)(uu:UT)(hh ww:PT)(j2:Int)(l:LE bb)(k2:Int->Int->(LE bb)->Option (Int×Bool×(LE bb))):Nat->Int->Option (Int×Bool×(LE bb))
 |0,_=>none
 |fuel+1,i3=>
  if decide (i3<=j2) then
   if 0<=i3/\i3<(l.length:Int) then
   if 0<=a/\a<(l.length:Int) then
   (M2 bb uu hh ww (l.getD i3.toNat default) (l.getD a.toNat default)).bind λy5=>
   if decide (y5<0) then
    b0a bb data a b pivot uu hh ww j2 l i3 (a29 bb data a b pivot uu hh ww j2 l k2 fuel)
   else
    a0r bb data a b pivot uu hh ww l i3 k2 big j2
   else none
   else none
  else
   a0r bb data a b pivot uu hh ww l i3 k2 big j2
def a1N(bb:Bool)(data:LE bb)(a b pivot:Int)(uu:UT)(hh ww:PT):Nat->Int->Int->(LE bb)->Option (Int×Bool×(LE bb))
 |0,_,_,_=>none
 |fuel+1,i2,j2,l=>
  a29 bb data a b pivot uu hh ww j2 l (a1N bb data a b pivot uu hh ww fuel) big i2
def b3G(bb:Bool)(data:LE bb)(a b pivot:Int)(uu:UT)(hh ww:PT)(i j:Int)(y7:(E_ bb))(y10:LE bb):Option (Int×Bool×(LE bb)):=
 a1N bb data a b pivot uu hh ww big (IntKind.wrap .i64 (i+1)) (IntKind.wrap .i64 (j - 1)) (y10.set j.toNat y7)
def b0d(bb:Bool)(data:LE bb)(a b pivot:Int)(uu:UT)(hh ww:PT)(i j:Int)(y3:LE bb)(k1:Int->Option (Int×Bool×(LE bb))):Option (Int×Bool×(LE bb)):=
 k1 (IntKind.wrap .i64 (j - 1))
def a71(bb:Bool)(data:LE bb)(a b pivot:Int)(uu:UT)(hh ww:PT)(i j:Int)(y3:LE bb):Option (Int×Bool×(LE bb)):=
 if decide (j<i) then
  if 0<=a/\a<((((y3.set pivot.toNat (data.getD a.toNat default))).length:Nat):Int) then
  (some ((y3.set pivot.toNat (data.getD a.toNat default)).getD a.toNat default)).bind λyC7_3=>
  if 0<=j/\j<((((y3.set pivot.toNat (data.getD a.toNat default))).length:Nat):Int) then
  (some ((y3.set pivot.toNat (data.getD a.toNat default)).getD j.toNat default)).bind λy6=>
  (some ((y3.set pivot.toNat (data.getD a.toNat default)).set j.toNat yC7_3)).bind λy8=>
  if a.toNat<y8.length then
  some (j,true,(y8.set a.toNat y6))
  else none
  else none
  else none
 else
  if 0<=j/\j<((((y3.set pivot.toNat (data.getD a.toNat default))).length:Nat):Int) then
  (some ((y3.set pivot.toNat (data.getD a.toNat default)).getD j.toNat default)).bind λyC7_3=>
  if 0<=i/\i<((((y3.set pivot.toNat (data.getD a.toNat default))).length:Nat):Int) then
  (some ((y3.set pivot.toNat (data.getD a.toNat default)).getD i.toNat default)).bind λy6=>
  (some ((y3.set pivot.toNat (data.getD a.toNat default)).set i.toNat yC7_3)).bind λy8=>
  if j.toNat<y8.length then
  a1N bb data a b pivot uu hh ww big (IntKind.wrap .i64 (i+1)) (IntKind.wrap .i64 (j - 1)) (y8.set j.toNat y6)
  else none
  else none
  else none
def a0q(bb:Bool)(data:LE bb)(a b pivot:Int)(uu:UT)(hh ww:PT)(i:Int)(y3:LE bb):Nat->Int->Option (Int×Bool×(LE bb))
 |0,_=>none
 |fuel+1,j=>
  if decide (i<=j) then
   if 0<=j/\j<((((y3.set pivot.toNat (data.getD a.toNat default))).length:Nat):Int) then
   (some ((y3.set pivot.toNat (data.getD a.toNat default)).getD j.toNat default)).bind λyL1_3=>
   if 0<=a/\a<((((y3.set pivot.toNat (data.getD a.toNat default))).length:Nat):Int) then
   (some ((y3.set pivot.toNat (data.getD a.toNat default)).getD a.toNat default)).bind λy6=>
   (M2 bb uu hh ww yL1_3 y6).bind λy9=>
   if !(decide (y9<0)) then
    b0d bb data a b pivot uu hh ww i j y3 (a0q bb data a b pivot uu hh ww i y3 fuel)
   else
    a71 bb data a b pivot uu hh ww i j y3
   else none
   else none
  else
   if decide (j<i) then
    if 0<=a/\a<((((y3.set pivot.toNat (data.getD a.toNat default))).length:Nat):Int) then
    (some ((y3.set pivot.toNat (data.getD a.toNat default)).getD a.toNat default)).bind λy4=>
    if 0<=j/\j<((((y3.set pivot.toNat (data.getD a.toNat default))).length:Nat):Int) then
    (some ((y3.set pivot.toNat (data.getD a.toNat default)).getD j.toNat default)).bind λy7=>
    (some ((y3.set pivot.toNat (data.getD a.toNat default)).set j.toNat y4)).bind λy10=>
    if a.toNat<y10.length then
    b3J bb data a b pivot uu hh ww j y7 y10
    else none
    else none
    else none
   else
    if 0<=j/\j<((((y3.set pivot.toNat (data.getD a.toNat default))).length:Nat):Int) then
    (some ((y3.set pivot.toNat (data.getD a.toNat default)).getD j.toNat default)).bind λy4=>
    if 0<=i/\i<((((y3.set pivot.toNat (data.getD a.toNat default))).length:Nat):Int) then
    (some ((y3.set pivot.toNat (data.getD a.toNat default)).getD i.toNat default)).bind λy7=>
    (some ((y3.set pivot.toNat (data.getD a.toNat default)).set i.toNat y4)).bind λy10=>
    if j.toNat<y10.length then
    b3G bb data a b pivot uu hh ww i j y7 y10
    else none
    else none
    else none
def b0c(bb:Bool)(data:LE bb)(a b pivot:Int)(uu:UT)(hh ww:PT)(i:Int)(y3:LE bb)(k0:Int->Option (Int×Bool×(LE bb))):Option (Int×Bool×(LE bb)):=
 k0 (IntKind.wrap .i64 (i+1))
def a28(bb:Bool)(data:LE bb)(a b pivot:Int)(uu:UT)(hh ww:PT)(y3:LE bb):Nat->Int->Option (Int×Bool×(LE bb))
 |0,_=>none
 |fuel+1,i=>
  if decide (i<=(IntKind.wrap .i64 (b - 1))) then
   if 0<=i/\i<((((y3.set pivot.toNat (data.getD a.toNat default))).length:Nat):Int) then
   (some ((y3.set pivot.toNat (data.getD a.toNat default)).getD i.toNat default)).bind λyL0_3=>
   if 0<=a/\a<((((y3.set pivot.toNat (data.getD a.toNat default))).length:Nat):Int) then
   (some ((y3.set pivot.toNat (data.getD a.toNat default)).getD a.toNat default)).bind λy6=>
   (M2 bb uu hh ww yL0_3 y6).bind λy9=>
   if decide (y9<0) then
    b0c bb data a b pivot uu hh ww i y3 (a28 bb data a b pivot uu hh ww y3 fuel)
   else
    a0q bb data a b pivot uu hh ww i y3 big (IntKind.wrap .i64 (b - 1))
   else none
   else none
  else
   a0q bb data a b pivot uu hh ww i y3 big (IntKind.wrap .i64 (b - 1))
def sPA(bb:Bool)(data:LE bb)(a b pivot:Int)(uu:UT)(hh ww:PT):Option (Int×Bool×(LE bb)):=
 if 0<=pivot/\pivot<(data.length:Int) then
 if 0<=a/\a<(data.length:Int) then
 (some (data.set a.toNat (data.getD pivot.toNat default))).bind λy3=>
 if pivot.toNat<y3.length then
 a28 bb data a b pivot uu hh ww y3 big (IntKind.wrap .i64 (a+1))
 else none
 else none
 else none
def Y_(bb:Bool)(data:LE bb)(a b limit:Int)(uu:UT)(hh ww:PT)(self_:(LE bb)->Int->Int->Int->UT->PT->PT->Option ((LE bb)))(a2 b2:Int)(k0:Int->Int->Int->Bool->Bool->(LE bb)->Option ((LE bb)))(limit6 pivot4:Int)(l5:LE bb):Option ((LE bb)):=
 (sPA bb l5 a2 b2 pivot4 uu hh ww).bind λy2=>
 (some (IntKind.wrap .i64 (Int.tdiv (IntKind.wrap .i64 (b2 - a2)) 8))).bind λy3=>
 if decide ((IntKind.wrap .i64 (y2.1 - a2))<(IntKind.wrap .i64 (b2 - y2.1))) then
  if l5.length=y2.2.2.length then
  (self_ y2.2.2 a2 y2.1 limit6 uu hh ww).bind λy8=>
  if l5.length=y8.length then
  k0 (IntKind.wrap .i64 (y2.1+1)) b2 limit6 (decide (y3<=(IntKind.wrap .i64 (y2.1 - a2)))) y2.2.1 y8
  else none
  else none
 else
  if l5.length=y2.2.2.length then
  (self_ y2.2.2 (IntKind.wrap .i64 (y2.1+1)) b2 limit6 uu hh ww).bind λy8=>
  if l5.length=y8.length then
  k0 a2 y2.1 limit6 (decide (y3<=(IntKind.wrap .i64 (b2 - y2.1)))) y2.2.1 y8
  else none
  else none
def a3b(bb:Bool)(data:LE bb)(a b limit:Int)(uu:UT)(hh ww:PT)(self_:(LE bb)->Int->Int->Int->UT->PT->PT->Option ((LE bb)))(a2 b2:Int)(wasBalanced wasPartitioned:Bool)(k0:Int->Int->Int->Bool->Bool->(LE bb)->Option ((LE bb)))(limit3 pivot:Int)(l2:LE bb):Option ((LE bb)):=
 (sPI bb l2 a2 b2 uu hh ww).bind λy2=>
 if y2.1 then
  some y2.2
 else
  if decide (0<a2) then
   if 0<=(IntKind.wrap .i64 (a2 - 1))/\(IntKind.wrap .i64 (a2 - 1))<(l2.length:Int) then
   if((IntKind.wrap .i64 (a2 - 1))).toNat<y2.2.length then
   (some (y2.2.getD ((IntKind.wrap .i64 (a2 - 1))).toNat default)).bind λy7=>
   if 0<=pivot/\pivot<(l2.length:Int) then
   if pivot.toNat<y2.2.length then
   (M2 bb uu hh ww y7 (y2.2.getD pivot.toNat default)).bind λy12=>
   if !(decide (y12<0)) then
    if l2.length=y2.2.length then
    a0s bb data a b limit uu hh ww self_ a2 b2 wasBalanced wasPartitioned k0 limit3 pivot y2.2
    else none
   else
    if l2.length=y2.2.length then
    Y_ bb data a b limit uu hh ww self_ a2 b2 k0 limit3 pivot y2.2
    else none
   else none
   else none
   else none
   else none
  else
   if l2.length=y2.2.length then
   Y_ bb data a b limit uu hh ww self_ a2 b2 k0 limit3 pivot y2.2
   else none
def b0f(bb:Bool)(data:LE bb)(a b limit:Int)(uu:UT)(hh ww:PT)(self_:(LE bb)->Int->Int->Int->UT->PT->PT->Option ((LE bb)))(a2 b2:Int)(k0:Int->Int->Int->Bool->Bool->(LE bb)->Option ((LE bb)))(limit7:Int)(wasPartitioned2:Bool)(mid leftLen balanceThreshold:Int)(l6:LE bb):Option ((LE bb)):=
 (self_ l6 a2 mid limit7 uu hh ww).bind λy2=>
 if l6.length=y2.length then
 k0 (IntKind.wrap .i64 (mid+1)) b2 limit7 (decide (balanceThreshold<=leftLen)) wasPartitioned2 y2
 else none
def b0g(bb:Bool)(data:LE bb)(a b limit:Int)(uu:UT)(hh ww:PT)(self_:(LE bb)->Int->Int->Int->UT->PT->PT->Option ((LE bb)))(a2 b2:Int)(k0:Int->Int->Int->Bool->Bool->(LE bb)->Option ((LE bb)))(limit8:Int)(wasPartitioned3:Bool)(mid2 rightLen balanceThreshold2:Int)(l7:LE bb):Option ((LE bb)):=
 (self_ l7 (IntKind.wrap .i64 (mid2+1)) b2 limit8 uu hh ww).bind λy2=>
 if l7.length=y2.length then
 k0 a2 mid2 limit8 (decide (balanceThreshold2<=rightLen)) wasPartitioned3 y2
 else none
def X3(bb:Bool)(data:LE bb)(a b limit:Int)(uu:UT)(hh ww:PT)(self_:(LE bb)->Int->Int->Int->UT->PT->PT->Option ((LE bb)))(a2 b2:Int)(wasBalanced wasPartitioned:Bool)(k0:Int->Int->Int->Bool->Bool->(LE bb)->Option ((LE bb)))(limit4 pivot2:Int)(l3:LE bb):Option ((LE bb)):=
 if decide (0<a2) then
  if 0<=(IntKind.wrap .i64 (a2 - 1))/\(IntKind.wrap .i64 (a2 - 1))<(l3.length:Int) then
  (some (l3.getD ((IntKind.wrap .i64 (a2 - 1))).toNat default)).bind λy3=>
  if 0<=pivot2/\pivot2<(l3.length:Int) then
  (M2 bb uu hh ww y3 (l3.getD pivot2.toNat default)).bind λy7=>
  if !(decide (y7<0)) then
   a0s bb data a b limit uu hh ww self_ a2 b2 wasBalanced wasPartitioned k0 limit4 pivot2 l3
  else
   Y_ bb data a b limit uu hh ww self_ a2 b2 k0 limit4 pivot2 l3
  else none
  else none
 else
  (sPA bb l3 a2 b2 pivot2 uu hh ww).bind λy4=>
  (some (IntKind.wrap .i64 (Int.tdiv (IntKind.wrap .i64 (b2 - a2)) 8))).bind λy5=>
  if decide ((IntKind.wrap .i64 (y4.1 - a2))<(IntKind.wrap .i64 (b2 - y4.1))) then
   if l3.length=y4.2.2.length then
   b0f bb data a b limit uu hh ww self_ a2 b2 k0 limit4 y4.2.1 y4.1 (IntKind.wrap .i64 (y4.1 - a2)) y5 y4.2.2
   else none
  else
   if l3.length=y4.2.2.length then
   b0g bb data a b limit uu hh ww self_ a2 b2 k0 limit4 y4.2.1 y4.1 (IntKind.wrap .i64 (b2 - y4.1)) y5 y4.2.2
   else none
def a74(bb:Bool)(data:LE bb)(a b limit:Int)(uu:UT)(hh ww:PT)(self_:(LE bb)->Int->Int->Int->UT->PT->PT->Option ((LE bb)))(a2 b2 limit2:Int)(wasBalanced wasPartitioned:Bool)(yL0_5:(LE bb))(k0:Int->Int->Int->Bool->Bool->(LE bb)->Option ((LE bb))):Option ((LE bb)):=
 (sCP bb yL0_5 a2 b2 uu hh ww).bind λy2=>
 if y2.2==2 then
  (sRR bb yL0_5 a2 b2 uu hh ww).bind λyC9_5=>
  (some (IntKind.wrap .i64 ((IntKind.wrap .i64 (b2 - 1)) - (IntKind.wrap .i64 (y2.1 - a2))))).bind λy6=>
  if wasBalanced then
   if wasPartitioned then
    if yL0_5.length=yC9_5.length then
    a3b bb data a b limit uu hh ww self_ a2 b2 wasBalanced wasPartitioned k0 (IntKind.wrap .i64 (limit2 - 1)) y6 yC9_5
    else none
   else
    if yL0_5.length=yC9_5.length then
    X3 bb data a b limit uu hh ww self_ a2 b2 wasBalanced wasPartitioned k0 (IntKind.wrap .i64 (limit2 - 1)) y6 yC9_5
    else none
  else
   if yL0_5.length=yC9_5.length then
   X3 bb data a b limit uu hh ww self_ a2 b2 wasBalanced wasPartitioned k0 (IntKind.wrap .i64 (limit2 - 1)) y6 yC9_5
   else none
 else
  if wasBalanced then
   if wasPartitioned then
    if y2.2==1 then
     a3b bb data a b limit uu hh ww self_ a2 b2 wasBalanced wasPartitioned k0 (IntKind.wrap .i64 (limit2 - 1)) y2.1 yL0_5
    else
     X3 bb data a b limit uu hh ww self_ a2 b2 wasBalanced wasPartitioned k0 (IntKind.wrap .i64 (limit2 - 1)) y2.1 yL0_5
   else
    X3 bb data a b limit uu hh ww self_ a2 b2 wasBalanced wasPartitioned k0 (IntKind.wrap .i64 (limit2 - 1)) y2.1 yL0_5
  else
   X3 bb data a b limit uu hh ww self_ a2 b2 wasBalanced wasPartitioned k0 (IntKind.wrap .i64 (limit2 - 1)) y2.1 yL0_5
def a3d(bb:Bool)(data:LE bb)(a b limit:Int)(uu:UT)(hh ww:PT)(self_:(LE bb)->Int->Int->Int->UT->PT->PT->Option ((LE bb)))(a2 b2 limit2:Int)(y8:Int×Bool×(LE bb))(k0:Int->Int->Int->Bool->Bool->(LE bb)->Option ((LE bb))):Option ((LE bb)):=
 (some (IntKind.wrap .i64 (Int.tdiv (IntKind.wrap .i64 (b2 - a2)) 8))).bind λy1=>
 if decide ((IntKind.wrap .i64 (y8.1 - a2))<(IntKind.wrap .i64 (b2 - y8.1))) then
  (self_ y8.2.2 a2 y8.1 limit2 uu hh ww).bind λy5=>
  if y8.2.2.length=y5.length then
  k0 (IntKind.wrap .i64 (y8.1+1)) b2 limit2 (decide (y1<=(IntKind.wrap .i64 (y8.1 - a2)))) y8.2.1 y5
  else none
 else
  (self_ y8.2.2 (IntKind.wrap .i64 (y8.1+1)) b2 limit2 uu hh ww).bind λy5=>
  if y8.2.2.length=y5.length then
  k0 a2 y8.1 limit2 (decide (y1<=(IntKind.wrap .i64 (b2 - y8.1)))) y8.2.1 y5
  else none
def a72(bb:Bool)(data:LE bb)(a b limit:Int)(uu:UT)(hh ww:PT)(self_:(LE bb)->Int->Int->Int->UT->PT->PT->Option ((LE bb)))(a2 b2 limit2:Int)(wasBalanced wasPartitioned:Bool)(l:LE bb)(yL0_6:Int×Int)(k0:Int->Int->Int->Bool->Bool->(LE bb)->Option ((LE bb))):Option ((LE bb)):=
 if yL0_6.2==2 then
  (sRR bb l a2 b2 uu hh ww).bind λy3=>
  (some (IntKind.wrap .i64 ((IntKind.wrap .i64 (b2 - 1)) - (IntKind.wrap .i64 (yL0_6.1 - a2))))).bind λy4=>
  if wasBalanced then
   if wasPartitioned then
    if l.length=y3.length then
    a3b bb data a b limit uu hh ww self_ a2 b2 wasBalanced wasPartitioned k0 limit2 y4 y3
    else none
   else
    if l.length=y3.length then
    X3 bb data a b limit uu hh ww self_ a2 b2 wasBalanced wasPartitioned k0 limit2 y4 y3
    else none
  else
   if l.length=y3.length then
   X3 bb data a b limit uu hh ww self_ a2 b2 wasBalanced wasPartitioned k0 limit2 y4 y3
   else none
 else
  if wasBalanced then
   if wasPartitioned then
    if yL0_6.2==1 then
     (sPI bb l a2 b2 uu hh ww).bind λyC11_6=>
     if yC11_6.1 then
      some yC11_6.2
     else
      if l.length=yC11_6.2.length then
      X3 bb data a b limit uu hh ww self_ a2 b2 wasBalanced wasPartitioned k0 limit2 yL0_6.1 yC11_6.2
      else none
    else
     if decide (0<a2) then
      if 0<=(IntKind.wrap .i64 (a2 - 1))/\(IntKind.wrap .i64 (a2 - 1))<(l.length:Int) then
      (some (l.getD ((IntKind.wrap .i64 (a2 - 1))).toNat default)).bind λy7=>
      if 0<=yL0_6.1/\yL0_6.1<(l.length:Int) then
      (M2 bb uu hh ww y7 (l.getD yL0_6.1.toNat default)).bind λy11=>
      if !(decide (y11<0)) then
       a0s bb data a b limit uu hh ww self_ a2 b2 wasBalanced wasPartitioned k0 limit2 yL0_6.1 l
      else
       Y_ bb data a b limit uu hh ww self_ a2 b2 k0 limit2 yL0_6.1 l
      else none
      else none
     else
      (sPA bb l a2 b2 yL0_6.1 uu hh ww).bind λy8=>
      if l.length=y8.2.2.length then
      a3d bb data a b limit uu hh ww self_ a2 b2 limit2 y8 k0
      else none
   else
    if decide (0<a2) then
     if 0<=(IntKind.wrap .i64 (a2 - 1))/\(IntKind.wrap .i64 (a2 - 1))<(l.length:Int) then
     (some (l.getD ((IntKind.wrap .i64 (a2 - 1))).toNat default)).bind λy7=>
     if 0<=yL0_6.1/\yL0_6.1<(l.length:Int) then
     (M2 bb uu hh ww y7 (l.getD yL0_6.1.toNat default)).bind λy11=>
     if !(decide (y11<0)) then
      a0s bb data a b limit uu hh ww self_ a2 b2 wasBalanced wasPartitioned k0 limit2 yL0_6.1 l
     else
      Y_ bb data a b limit uu hh ww self_ a2 b2 k0 limit2 yL0_6.1 l
     else none
     else none
    else
     (sPA bb l a2 b2 yL0_6.1 uu hh ww).bind λy8=>
     if l.length=y8.2.2.length then
     a3d bb data a b limit uu hh ww self_ a2 b2 limit2 y8 k0
     else none
  else
   if decide (0<a2) then
    if 0<=(IntKind.wrap .i64 (a2 - 1))/\(IntKind.wrap .i64 (a2 - 1))<(l.length:Int) then
    (some (l.getD ((IntKind.wrap .i64 (a2 - 1))).toNat default)).bind λy5=>
    if 0<=yL0_6.1/\yL0_6.1<(l.length:Int) then
    (M2 bb uu hh ww y5 (l.getD yL0_6.1.toNat default)).bind λy9=>
    if !(decide (y9<0)) then
     a0s bb data a b limit uu hh ww self_ a2 b2 wasBalanced wasPartitioned k0 limit2 yL0_6.1 l
    else
     Y_ bb data a b limit uu hh ww self_ a2 b2 k0 limit2 yL0_6.1 l
    else none
    else none
   else
    (sPA bb l a2 b2 yL0_6.1 uu hh ww).bind λy8=>
    if l.length=y8.2.2.length then
    a3d bb data a b limit uu hh ww self_ a2 b2 limit2 y8 k0
    else none
def a0t(bb:Bool)(data:LE bb)(a b limit:Int)(uu:UT)(hh ww:PT)(self_:(LE bb)->Int->Int->Int->UT->PT->PT->Option ((LE bb))):Nat->Int->Int->Int->Bool->Bool->(LE bb)->Option ((LE bb))
 |0,_,_,_,_,_,_=>none
 |fuel+1,a2,b2,limit2,wasBalanced,wasPartitioned,l=>
  if decide ((IntKind.wrap .i64 (b2 - a2))<=12) then
   (sIN bb l a2 b2 uu hh ww).bind λy3=>
   some y3
  else
   if limit2==0 then
    (sHP bb l a2 b2 uu hh ww).bind λy4=>
    some y4
   else
    if !wasBalanced then
     (sBP bb l a2 b2 uu hh ww).bind λy5=>
     if l.length=y5.length then
     a74 bb data a b limit uu hh ww self_ a2 b2 limit2 wasBalanced wasPartitioned y5 (a0t bb data a b limit uu hh ww self_ fuel)
     else none
    else
     (sCP bb l a2 b2 uu hh ww).bind λy6=>
     a72 bb data a b limit uu hh ww self_ a2 b2 limit2 wasBalanced wasPartitioned l y6 (a0t bb data a b limit uu hh ww self_ fuel)
def b0e(bb:Bool)(data:LE bb)(a b limit:Int)(uu:UT)(hh ww:PT)(self_:(LE bb)->Int->Int->Int->UT->PT->PT->Option ((LE bb))):Option ((LE bb)):=
 a0t bb data a b limit uu hh ww self_ big a b limit true true data
def a6d(bb:Bool):Nat->(LE bb)->Int->Int->Int->UT->PT->PT->Option ((LE bb))
 |0,_,_,_,_,_,_,_=>none
 |n_+1,data,a,b,limit,uu,hh,ww=>b0e bb data a b limit uu hh ww (a6d bb n_)
def sPD(bb:Bool)(data:LE bb)(a b limit:Int)(uu:UT)(hh ww:PT):Option ((LE bb)):=a6d bb big data a b limit uu hh ww
def sFA(x:List TX)(uu:UT)(hh ww:PT):Option ((List TX)):=
 (a2w (IntKind.wrap .u64 (x.length:Int))).bind λy2=>
 (sPD false x 0 (x.length:Int) y2 uu hh ww).bind λy4=>
 some y4
def Q5(bb:Bool)(r:(LE bb)):LV:=.tup []
def Q4(bb:Bool)(uu:UT)(hh ww:PT)(r:(LE bb)):i9:=[(0,some (m6 bb r)),(1,some (.var [.map 2,.map 3,.map 4])),(2,some (m7 uu [])),(3,some (b9 hh)),(4,some (b9 ww))]
def Q3(bb:Bool)(data:LE bb)(uu:UT)(hh ww:PT):List LO:=[m6 bb data,.var [.map 2,.map 3,.map 4],m7 uu [],b9 hh,b9 ww]
def a0v(bb:Bool)(r:(LE bb)):LV:=.tup []
def a0u(bb:Bool)(uu:UT)(hh ww:PT)(r:(LE bb)):i9:=[(0,some (m6 bb r)),(1,some (.var [.map 2,.map 3,.map 4])),(2,some (m7 uu [])),(3,some (b9 hh)),(4,some (b9 ww))]
def c53(bb:Bool)(data:LE bb)(uu:UT)(hh ww:PT):List LO:=[m6 bb data,.var [.map 2,.map 3,.map 4],m7 uu [],b9 hh,b9 ww]
def a6b(bb:Bool)(r:(LE bb)):LV:=.tup []
def a6a(bb:Bool)(uu:UT)(hh ww:PT)(r:(LE bb)):i9:=[(0,some (m6 bb r)),(1,some (.var [.map 2,.map 3,.map 4])),(2,some (m7 uu [])),(3,some (b9 hh)),(4,some (b9 ww))]
def b76(bb:Bool)(data:LE bb)(uu:UT)(hh ww:PT):List LO:=[m6 bb data,.var [.map 2,.map 3,.map 4],m7 uu [],b9 hh,b9 ww]
abbrev b3E(bb:Bool)(a b:Int)(uu:UT)(hh ww:PT)(i:Int)(l:LE bb)(r:(LE bb)):Prop:=p3 w0 W μ0 (a1G bb) 5 5 (a6b bb r) (a6a bb uu hh ww r) (z6 (o9 (a1G bb)) 0) ((.gs 0 l.length)::(.int .i64 a)::(.int .i64 b)::(.fn (w6 bb) [.ptr 1 0 0] [])::n_ 4 ((.int .i64 i)::n_ 44 [])) [some (m6 bb l),some (.var [.map 2,.map 3,.map 4]),some (m7 uu []),some (b9 hh),some (b9 ww)]
abbrev b75(bb:Bool)(a b:Int)(uu:UT)(hh ww:PT)(i j:Int)(l2:LE bb)(r:(LE bb)):Prop:=p3 w0 W μ0 (a1G bb) 5 5 (a6b bb r) (a6a bb uu hh ww r) (z6 (o9 (a1G bb)) 1) ((.gs 0 l2.length)::(.int .i64 a)::(.int .i64 b)::(.fn (w6 bb) [.ptr 1 0 0] [])::n_ 4 ((.int .i64 i)::(.int .i64 j)::n_ 43 [])) [some (m6 bb l2),some (.var [.map 2,.map 3,.map 4]),some (m7 uu []),some (b9 hh),some (b9 ww)]
theorem c5F(bb:Bool){w0 W μ0}(hμ:p4 μ0 5)(data:LE bb)(a b:Int)(uu:UT)(hh ww:PT)(i:Int)(l2:LE bb)(k0:Int->(LE bb)->Option ((LE bb)))(hk0:∀(i:Int) (l:LE bb) (r:(LE bb)),k0 i l=some r->b3E w0 W μ0 bb a b uu hh ww i l r)(r:(LE bb))(h:a95 bb data a b uu hh ww i l2 k0=some r):p3 w0 W μ0 (a1G bb) 5 5 (a6b bb r) (a6a bb uu hh ww r) (z7 (o9 (a1G bb)) 2) ((.gs 0 l2.length)::(.int .i64 a)::(.int .i64 b)::(.fn (w6 bb) [.ptr 1 0 0] [])::n_ 4 ((.int .i64 i)::n_ 44 [])) [some (m6 bb l2),some (.var [.map 2,.map 3,.map 4]),some (m7 uu []),some (b9 hh),some (b9 ww)]:=by
 unfold a95 at h;exact t7 hμ [] 11 [.reg []]
  (I3 tr) (hk0 _ _ r h) uS
theorem c5G(bb:Bool){w0 W μ0}(hμ:p4 μ0 5)(data:LE bb)(a b:Int)(uu:UT)(hh ww:PT)(i j:Int)(l2:LE bb)(k1:Int->(LE bb)->Option ((LE bb)))(hk1:∀(j:Int) (l2:LE bb) (r:(LE bb)),k1 j l2=some r->b75 w0 W μ0 bb a b uu hh ww i j l2 r)(r:(LE bb))(h:a96 bb data a b uu hh ww i j l2 k1=some r):p3 w0 W μ0 (a1G bb) 5 5 (a6b bb r) (a6a bb uu hh ww r) (z7 (o9 (a1G bb)) 6) ((.gs 0 l2.length)::(.int .i64 a)::(.int .i64 b)::(.fn (w6 bb) [.ptr 1 0 0] [])::n_ 4 ((.int .i64 i)::(.int .i64 j)::n_ 43 [])) [some (m6 bb l2),some (.var [.map 2,.map 3,.map 4]),some (m7 uu []),some (b9 hh),some (b9 ww)]:=by
 unfold a96 at h;obtain⟨G1,h⟩:=j6 h;obtain⟨y2,E3,h⟩:=d6 h;obtain⟨G4,h⟩:=j6 h;obtain⟨G5,h⟩:=j6 h;obtain⟨y6,E7,h⟩:=d6 h;exact t7 hμ [] 15 [.reg [(9,j5 ((u4 bb) y2)),(15,{os:=[(0,m6 bb ((l2.set j.toNat y2)))]}),(17,{os:=[(0,m6 bb y6)]})],.reg [],.wk [(0,.gs 0 y6.length)] []]
  (q0 (X2 (o8 (z_ bb) G1 (a_ (n0 (u4 bb) E3) tr) (b5 (o8 (z_ bb) G4 tr (a_ (a_ (a_ (e_ (z_ bb)) G4) tr) (a_ (a_ (a_ (e_ (z_ bb)) (a_ (m8 (z_ bb)) (D1 G4))) (a_ (D5 (o5 bb) default (z_ bb) l2 j.toNat y2 (D1 G4) (B2 (b6 (o5 bb) default l2 j.toNat) 0 ((o5 bb) y2)) (by cases bb<;>kernel_rfl)) tr)) (a_ (a_ (a_ (e_ (z_ bb)) G1) tr) (a_ (a_ (a_ (e_ (z_ bb)) (a_ (m8 (z_ bb)) G5)) (a_ (LO.Sub.trans (D5 (o5 bb) default (z_ bb) (l2.set j.toNat y2) ((IntKind.wrap .i64 (j - 1))).toNat (l2.getD j.toNat default) G5 (B2 (b6 (o5 bb) default (l2.set j.toNat y2) ((IntKind.wrap .i64 (j - 1))).toNat) 0 ((o5 bb) (l2.getD j.toNat default))) (by cases bb<;>kernel_rfl)) (M0 bb E7)) tr)) tr)))))))) (q2 tr) (q9 (A5 0 (show l2.length=y6.length from by simp[<-i7 E7])) tr) tr) (hk1 _ _ r h) uS
def b6r(r:Int):LV:=.int .i64 r
def H3:(bb:Bool)->(r:Int)->LV
 |false=>a5p
 |true=>b6r
def b6q(uu:UT)(hh ww:PT)(r:Int):i9:=[(0,some (.var [.map 1,.map 2,.map 3])),(1,some (m7 uu [])),(2,some (b9 hh)),(3,some (b9 ww))]
def H2:(bb:Bool)->(uu:UT)->(hh:PT)->(ww:PT)->(r:Int)->i9
 |false=>a5o
 |true=>b6q
def b6p(uu:UT)(hh ww:PT):List LO:=[.var [.map 1,.map 2,.map 3],m7 uu [],b9 hh,b9 ww]
def G0:(bb:Bool)->(uu:UT)->(hh:PT)->(ww:PT)->List LO
 |false=>a5n
 |true=>b6p
def b1Q(r:Int):LV:=.int .i64 r
def b3u(r:Int):LV:=.int .i64 r
def b3t(s1 s2:A8 Int)(r:Int):i9:=[(0,some (.var [.int .u8 s1.a0,.int .u8 s1.a1,.int .u8 s1.a2,.int .u8 s1.a3,.int .u8 s1.a4,.int .u8 s1.a5,.int .u8 s1.a6,.int .u8 s1.a7])),(1,some (.var [.int .u8 s2.a0,.int .u8 s2.a1,.int .u8 s2.a2,.int .u8 s2.a3,.int .u8 s2.a4,.int .u8 s2.a5,.int .u8 s2.a6,.int .u8 s2.a7]))]
def b7Y(s1 s2:A8 Int):List LO:=[.var [.int .u8 s1.a0,.int .u8 s1.a1,.int .u8 s1.a2,.int .u8 s1.a3,.int .u8 s1.a4,.int .u8 s1.a5,.int .u8 s1.a6,.int .u8 s1.a7],.var [.int .u8 s2.a0,.int .u8 s2.a1,.int .u8 s2.a2,.int .u8 s2.a3,.int .u8 s2.a4,.int .u8 s2.a5,.int .u8 s2.a6,.int .u8 s2.a7]]
abbrev c5o(s1 s2:A8 Int)(t11:Int)(r:Int):Prop:=p3 w0 W μ0 Tryz.f115 2 2 (b3u r) (b3t s1 s2 r) (z6 (o9 Tryz.f115) 0) ((.sl 0 0 0 true 8 (some 8))::(.sl 1 0 0 true 8 (some 8))::n_ 7 ((.sl 0 0 0 true 8 (some 8))::(.int .i64 8)::(.int .i64 t11)::n_ 24 [])) [some (.var [.int .u8 s1.a0,.int .u8 s1.a1,.int .u8 s1.a2,.int .u8 s1.a3,.int .u8 s1.a4,.int .u8 s1.a5,.int .u8 s1.a6,.int .u8 s1.a7]),some (.var [.int .u8 s2.a0,.int .u8 s2.a1,.int .u8 s2.a2,.int .u8 s2.a3,.int .u8 s2.a4,.int .u8 s2.a5,.int .u8 s2.a6,.int .u8 s2.a7])]
theorem c5p{w0 W μ0}(hμ:p4 μ0 2)(s1 s2:A8 Int):∀(fuel:Nat) (t11:Int) (r:Int),a4A s1 s2 fuel t11=some r->c5o w0 W μ0 s1 s2 t11 r:=by
 intro fuel
 induction fuel with
 |zero=>intro t11 r h;rw[a4A] at h;cases h
 |succ fuel ih=>
  intro t11 r h;rw[a4A] at h;rcases i5 h with⟨C1,h⟩|⟨C1,h⟩
  ·obtain⟨G2,h⟩:=j6 h
   rcases i5 h with⟨C3,h⟩|⟨C3,h⟩
   ·obtain rfl:=i7 h
    exact l8 [] 29 [.go,.reg [(0,hT)],.reg [(2,j5 (.int .u8 (A8.get s1 t11.toNat)))],.reg [(3,hT)],.reg []]
     (q3 (q6 (f_ C1 tr) (q9 G2 (q5 (a_ tr (a0f (len:=8) G2 0 1 8 rfl rfl)) (a0i (A4 .u8) 1 (λ_=>rfl) s1 [] [] 0 rfl t11.toNat (a0j G2) (d8 (0+1) 1 rfl)) (b5 tr))) (q2 (f_ C3 tr)) (q3 (q8 tr))))
   ·obtain⟨y5,E4,h⟩:=d6 h
    rcases i5 h with⟨C6,h⟩|⟨C6,h⟩
    ·obtain rfl:=i7 h
     exact l8 [] 40 [.go,.reg [(0,hT)],.reg [(2,j5 (.int .u8 (A8.get s1 t11.toNat)))],.reg [(3,hF)],.reg [(3,j5 (.int .u8 (A8.get s2 t11.toNat)))],.reg [(2,hC (a6F y5))],.reg [(1,hT)],.reg []]
      (q3 (q6 (f_ C1 tr) (q9 G2 (q5 (a_ tr (a0f (len:=8) G2 0 1 8 rfl rfl)) (a0i (A4 .u8) 1 (λ_=>rfl) s1 [] [] 0 rfl t11.toNat (a0j G2) (d8 (0+1) 1 rfl)) (b5 tr))) (q2 (f_ C3 tr)) (J4 (q9 G2 (S6 (a_ tr (a0f (len:=8) G2 0 1 8 rfl rfl)) (a0i (A4 .u8) 1 (λ_=>rfl) s2 [] [] 0 rfl t11.toNat (a0j G2) (d8 (0+1) 1 rfl)))) (I2 (q3 (b00 (A8.get s1 t11.toNat) (A8.get s2 t11.toNat) y5 E4))) (q8 (f_ C6 tr)) (q3 (b5 tr)))))
    ·exact n3 hμ [] 41 [.go,.reg [(0,hT)],.reg [(2,j5 (.int .u8 (A8.get s1 t11.toNat)))],.reg [(3,hF)],.reg [(3,j5 (.int .u8 (A8.get s2 t11.toNat)))],.reg [(2,hC (a6F y5))],.reg [(1,hF)],.reg []]
      (q6 (f_ C1 tr) (q9 G2 (q5 (a_ tr (a0f (len:=8) G2 0 1 8 rfl rfl)) (a0i (A4 .u8) 1 (λ_=>rfl) s1 [] [] 0 rfl t11.toNat (a0j G2) (d8 (0+1) 1 rfl)) (b5 tr))) (q2 (f_ C3 tr)) (J4 (q9 G2 (S6 (a_ tr (a0f (len:=8) G2 0 1 8 rfl rfl)) (a0i (A4 .u8) 1 (λ_=>rfl) s2 [] [] 0 rfl t11.toNat (a0j G2) (d8 (0+1) 1 rfl)))) (I2 (q3 (b00 (A8.get s1 t11.toNat) (A8.get s2 t11.toNat) y5 E4))) (q8 (f_ C6 tr)) (q3 (b5 tr)))) (ih _ r h) ⟨rfl,rfl,tr⟩
  ·obtain rfl:=i7 h
   exact l8 [] 25 [.go,.reg [(0,hF)],.reg [],.reg []]
    (q3 (q6 (f_ C1 tr) (l9 tr) (q8 tr) tr))
theorem c5q(s1 s2:A8 Int)(r:Int)(h:sCB s1 s2=some r):∀σ,p8 2 σ->j9 Tryz.prog 115 (n7 σ [.sl 0 0 0 true 8 (some 8),.sl 1 0 0 true 8 (some 8)]) (p5 σ 0 (b7Y s1 s2)) ((b3u r).ren σ) (p6 σ (b3t s1 s2 r)):=by
 refine u7 Tryz.func115 ⟨rfl,rfl,tr⟩ ⟨rfl,rfl,tr⟩ ?_;intro w0 W μ0 hμ;unfold sCB at h;exact n3 hμ [] 18 [.reg [],.reg []]
  (X1 (q8 tr)) (c5p hμ s1 s2 big _ r h) ⟨rfl,rfl,tr⟩
theorem c1h(a b:A8 Int)(r:Int)(h:a47 a b=some r):∀σ,p8 0 σ->j9 Tryz.prog 91 (n7 σ [.agg [.int .u8 a.a0,.int .u8 a.a1,.int .u8 a.a2,.int .u8 a.a3,.int .u8 a.a4,.int .u8 a.a5,.int .u8 a.a6,.int .u8 a.a7],.agg [.int .u8 b.a0,.int .u8 b.a1,.int .u8 b.a2,.int .u8 b.a3,.int .u8 b.a4,.int .u8 b.a5,.int .u8 b.a6,.int .u8 b.a7]]) (p5 σ 0 []) ((b1Q r).ren σ) (p6 σ []):=by
 refine u7 Tryz.func91 tr tr ?_;intro w0 W μ0 hμ;unfold a47 at h;obtain⟨y2,e1,h⟩:=d6 h;obtain rfl:=i7 h;exact l8 [] 15 [.reg [],.reg [(2,i6 (g9 [0,1] (b3u y2) (b7Y a b) (b3t a b y2)))]]
  (Z0 (q0 (q1 (I8 0 0 rfl) (a_ (I8 0 8 rfl) (I8 8 8 rfl)) tr) (q1 (I8 0 0 rfl) (a_ (I8 0 8 rfl) (I8 8 8 rfl)) tr) (q3 (q0 (c5q a b y2 e1 (f8 [0,1]) i1) (l0 (.var [.int .u8 a.a0,.int .u8 a.a1,.int .u8 a.a2,.int .u8 a.a3,.int .u8 a.a4,.int .u8 a.a5,.int .u8 a.a6,.int .u8 a.a7])) (l0 (.var [.int .u8 b.a0,.int .u8 b.a1,.int .u8 b.a2,.int .u8 b.a3,.int .u8 b.a4,.int .u8 b.a5,.int .u8 b.a6,.int .u8 b.a7])) tr)) (q8 tr)))
theorem c1i(a b:A8 Int)(r:Int)(h:a47 a b=some r):j9 Tryz.prog 91 [.agg [.int .u8 a.a0,.int .u8 a.a1,.int .u8 a.a2,.int .u8 a.a3,.int .u8 a.a4,.int .u8 a.a5,.int .u8 a.a6,.int .u8 a.a7],.agg [.int .u8 b.a0,.int .u8 b.a1,.int .u8 b.a2,.int .u8 b.a3,.int .u8 b.a4,.int .u8 b.a5,.int .u8 b.a6,.int .u8 b.a7]] [] (b1Q r) []:=j9.none (c1h a b r h) rfl rfl
theorem c2m(uu:UT)(hh ww:PT)(a b:TL)(r:Int)(h:a7d uu hh ww a b=some r):∀σ,p8 4 σ->j9 Tryz.prog 65 (n7 σ [.ptr 0 0 0,p9 a,p9 b]) (p5 σ 0 (b6p uu hh ww)) ((b6r r).ren σ) (p6 σ (b6q uu hh ww r)):=by
 refine u7 Tryz.func65 ⟨rfl,uP,tr,tr,tr⟩ ⟨rfl,uP,tr,tr,tr⟩ ?_;intro w0 W μ0 hμ;unfold a7d at h;obtain⟨y2,e1,h⟩:=d6 h;obtain⟨y4,e3,h⟩:=d6 h;obtain⟨y6,e5,h⟩:=d6 h;obtain rfl:=i7 h;exact l8 [] 15 [.reg [],.reg [(4,hC (b1Q y2)),(10,i6 (g9 [0,1,2,3] (a5p y4) (a5n uu hh ww) (a5o uu hh ww y4))),(11,{os:=[(6,.gr 1 (([y2,y4]:List Int)).length (b6 (A4 .i64) default ([y2,y4]:List Int)))],v:=some (.gs 6 (([y2,y4]:List Int)).length),fz:=true}),(12,hC (a4V y6))]]
  (Z0 (q8 (m_ 11 11 rfl (b4 (m_ 11 11 rfl (c_ (c1i a.o7 b.o7 y2 e1) (b5 (m_ 3 11 rfl (b4 (m_ 3 11 rfl (a_ (a_ (a_ (a7a uu hh ww a.m9 b.m9 y4 e3 (f8 [0,1,2,3]) i1) (n4 [.map 1,.map 2,.map 3] uu hh ww)) tr) (a_ (a_ (a_ (a_ (e_ true) (a_ (e_ 1) (a_ (j4 0 1 rfl) (d8 2 16777216 rfl)))) (a_ (L5 6 2 (some 2) rfl) (a_ (L6 (A4 .i64) default 1 (λ_=>rfl) ([y2,y4]:List Int)) tr))) (a_ (m8 (([y2,y4]:List Int)).length) (J2 (enc:=(A4 .i64)) (d:=default) (λ_=>rfl) ([y2,y4]:List Int)))) (a_ (a_ (a_ (b01 ([y2,y4]:List Int) y6 e5) tr) tr) (b4 tr))))))))))))))
theorem H4(bb:Bool)(uu:UT)(hh ww:PT)(a b:(E_ bb))(r:Int)(h:M2 bb uu hh ww a b=some r):∀σ,p8 4 σ->j9 Tryz.prog (w6 bb) (n7 σ [.ptr 0 0 0,(u4 bb) a,(u4 bb) b]) (p5 σ 0 (G0 bb uu hh ww)) ((H3 bb r).ren σ) (p6 σ (H2 bb uu hh ww r)):=by
 cases bb
 ·exact a7a uu hh ww a b r h
 ·exact c2m uu hh ww a b r h
theorem c5I(bb:Bool){w0 W μ0}(hμ:p4 μ0 5)(data:LE bb)(a b:Int)(uu:UT)(hh ww:PT)(i:Int)(k0:Int->(LE bb)->Option ((LE bb)))(hk0:∀(i:Int) (l:LE bb) (r:(LE bb)),k0 i l=some r->b3E w0 W μ0 bb a b uu hh ww i l r):∀(fuel:Nat) (j:Int) (l2:LE bb) (r:(LE bb)),a1L bb data a b uu hh ww i k0 fuel j l2=some r->b75 w0 W μ0 bb a b uu hh ww i j l2 r:=by
 intro fuel
 induction fuel with
 |zero=>intro j l2 r h;rw[a1L] at h;cases h
 |succ fuel ih=>
  intro j l2 r h;rw[a1L] at h;rcases i5 h with⟨C1,h⟩|⟨C1,h⟩
  ·obtain⟨G2,h⟩:=j6 h
   obtain⟨G3,h⟩:=j6 h;obtain⟨y4,E5,h⟩:=d6 h;obtain⟨y7,E6,h⟩:=d6 h;rcases i5 h with⟨C8,h⟩|⟨C8,h⟩
   ·exact t7 hμ [] 18 [.go,.reg [(3,hT),(13,j5 ((u4 bb) y4)),(14,i6 (g9 [1,2,3,4] (H3 bb y7) (G0 bb uu hh ww) (H2 bb uu hh ww y7))),(16,hT)]]
     (I3 (f_ C1 (b4 (b5 (o8 (z_ bb) G2 tr (b4 (b5 (o8 (z_ bb) G3 (a_ (n0 (u4 bb) E5) tr) (a_ (a_ (a_ (H4 bb uu hh ww (l2.getD j.toNat default) y4 y7 E6 (f8 [1,2,3,4]) i1) (n4 [.map 2,.map 3,.map 4] uu hh ww)) tr) (b4 (f_ C8 tr))))))))))) (c5G bb hμ data a b uu hh ww i j l2 (a1L bb data a b uu hh ww i k0 fuel) ih r h) uS
   ·exact t7 hμ [] 17 [.go,.reg [(3,hT),(13,j5 ((u4 bb) y4)),(14,i6 (g9 [1,2,3,4] (H3 bb y7) (G0 bb uu hh ww) (H2 bb uu hh ww y7))),(16,hF)]]
     (I3 (f_ C1 (b4 (b5 (o8 (z_ bb) G2 tr (b4 (b5 (o8 (z_ bb) G3 (a_ (n0 (u4 bb) E5) tr) (a_ (a_ (a_ (H4 bb uu hh ww (l2.getD j.toNat default) y4 y7 E6 (f8 [1,2,3,4]) i1) (n4 [.map 2,.map 3,.map 4] uu hh ww)) tr) (b4 (f_ C8 tr))))))))))) (c5F bb hμ data a b uu hh ww i l2 k0 hk0 r h) uS
  ·exact t7 hμ [] 19 [.go,.reg [(3,hF)],.reg []]
    (X1 (q2 (f_ C1 (z8 (B3 (b4 tr)))))) (hk0 _ _ r h) uS
theorem c5H(bb:Bool){w0 W μ0}(hμ:p4 μ0 5)(data:LE bb)(a b:Int)(uu:UT)(hh ww:PT):∀(fuel:Nat) (i:Int) (l:LE bb) (r:(LE bb)),a23 bb data a b uu hh ww fuel i l=some r->b3E w0 W μ0 bb a b uu hh ww i l r:=by
 intro fuel
 induction fuel with
 |zero=>intro i l r h;rw[a23] at h;cases h
 |succ fuel ih=>
  intro i l r h;rw[a23] at h;rcases i5 h with⟨C1,h⟩|⟨C1,h⟩
  ·exact t7 hμ [] 23 [.go,.reg [(2,hT)],.reg []]
    (q7 (b5 (f_ C1 tr)) (b5 tr)) (c5I bb hμ data a b uu hh ww i (a23 bb data a b uu hh ww fuel) ih big _ _ r h) uS
  ·obtain rfl:=i7 h
   exact I9 [] 16 [.go,.reg [(2,hF)]]
    (q9 (b5 (f_ C1 tr)) tr)
theorem c5J(bb:Bool)(data:LE bb)(a b:Int)(uu:UT)(hh ww:PT)(r:(LE bb))(h:sIN bb data a b uu hh ww=some r):∀σ,p8 5 σ->j9 Tryz.prog (b6L bb) (n7 σ [.gs 0 data.length,.int .i64 a,.int .i64 b,.fn (w6 bb) [.ptr 1 0 0] []]) (p5 σ 0 (b76 bb data uu hh ww)) ((a6b bb r).ren σ) (p6 σ (a6a bb uu hh ww r)):=by
 refine o_ (c4S bb) (by cases bb<;>kernel_rfl) (by cases bb<;>kernel_rfl) (by cases bb<;>kernel_rfl) ⟨λ_ _=>by cases bb<;>rfl,rfl,uP,tr,tr,tr⟩ (by cases bb<;>kernel_rfl) ⟨λ_ _=>by cases bb<;>rfl,rfl,uP,tr,tr,tr⟩ (by cases bb<;>kernel_rfl) ?_;intro w0 W μ0 hμ;unfold sIN at h;exact t7 hμ [] 14 [.reg []]
  (I3 tr) (c5H bb hμ data a b uu hh ww big _ _ r h) uS
def a94(bb:Bool)(r:(LE bb)):LV:=.tup []
def a93(bb:Bool)(uu:UT)(hh ww:PT)(r:(LE bb)):i9:=[(0,some (m6 bb r)),(1,some (.var [.map 2,.map 3,.map 4])),(2,some (m7 uu [])),(3,some (b9 hh)),(4,some (b9 ww))]
def b74(bb:Bool)(data:LE bb)(uu:UT)(hh ww:PT):List LO:=[m6 bb data,.var [.map 2,.map 3,.map 4],m7 uu [],b9 hh,b9 ww]
def a4I(bb:Bool)(r:(LE bb)):LV:=.tup []
def a4H(bb:Bool)(uu:UT)(hh ww:PT)(r:(LE bb)):i9:=[(0,some (m6 bb r)),(1,some (.var [.map 2,.map 3,.map 4])),(2,some (m7 uu [])),(3,some (b9 hh)),(4,some (b9 ww))]
def b3P(bb:Bool)(data:LE bb)(uu:UT)(hh ww:PT):List LO:=[m6 bb data,.var [.map 2,.map 3,.map 4],m7 uu [],b9 hh,b9 ww]
abbrev b0m(bb:Bool)(hi first:Int)(uu:UT)(hh ww:PT)(root:Int)(l:LE bb)(r:(LE bb)):Prop:=p3 w0 W μ0 (a1H bb) 5 5 (a4I bb r) (a4H bb uu hh ww r) (z6 (o9 (a1H bb)) 0) ((.gs 0 l.length):: .any::(.int .i64 hi)::(.int .i64 first)::(.fn (w6 bb) [.ptr 1 0 0] [])::n_ 5 ((.int .i64 root)::n_ 71 [])) [some (m6 bb l),some (.var [.map 2,.map 3,.map 4]),some (m7 uu []),some (b9 hh),some (b9 ww)]
theorem c6o(bb:Bool){w0 W μ0}(hμ:p4 μ0 5)(data:LE bb)(lo hi first:Int)(uu:UT)(hh ww:PT)(root:Int)(l:LE bb)(y1:Int)(k0:Int->(LE bb)->Option ((LE bb)))(hk0:∀(root:Int) (l:LE bb) (r:(LE bb)),k0 root l=some r->b0m w0 W μ0 bb hi first uu hh ww root l r)(r:(LE bb))(h:b0n bb data lo hi first uu hh ww root l y1 k0=some r):p3 w0 W μ0 (a1H bb) 5 5 (a4I bb r) (a4H bb uu hh ww r) (z7 (o9 (a1H bb)) 4) ((.gs 0 l.length):: .any::(.int .i64 hi)::(.int .i64 first)::(.fn (w6 bb) [.ptr 1 0 0] [])::n_ 5 ((.int .i64 root)::(.int .i64 y1)::n_ 70 [])) [some (m6 bb l),some (.var [.map 2,.map 3,.map 4]),some (m7 uu []),some (b9 hh),some (b9 ww)]:=by
 unfold b0n at h;obtain⟨G1,h⟩:=j6 h;obtain⟨y2,E3,h⟩:=d6 h;obtain⟨y4,E5,h⟩:=d6 h;obtain⟨G6,h⟩:=j6 h;obtain⟨y8,E7,h⟩:=d6 h;rcases i5 h with⟨C9,h⟩|⟨C9,h⟩
 ·obtain rfl:=i7 h
  exact I9 [] 16 [.reg [],.reg [(6,j5 ((u4 bb) y2)),(10,j5 (.int .i64 y4)),(13,i6 (g9 [1,2,3,4] (H3 bb y8) (G0 bb uu hh ww) (H2 bb uu hh ww y8))),(15,hT)]]
   (Z0 (N7 (o8 (z_ bb) G1 (a_ (n0 (u4 bb) E3) tr) (b4 (b5 (a_ (a_ tr (a_ (n0 (LV.int .i64) E5) tr)) (o8 (z_ bb) G6 tr (a_ (a_ (a_ (H4 bb uu hh ww y2 (l.getD y4.toNat default) y8 E7 (f8 [1,2,3,4]) i1) (n4 [.map 2,.map 3,.map 4] uu hh ww)) tr) (b4 (f_ C9 tr))))))))))
 ·obtain⟨y10,E11,h⟩:=d6 h
  obtain⟨G12,h⟩:=j6 h;exact t7 hμ [] 24 [.reg [],.reg [(6,j5 ((u4 bb) y2)),(10,j5 (.int .i64 y4)),(13,i6 (g9 [1,2,3,4] (H3 bb y8) (G0 bb uu hh ww) (H2 bb uu hh ww y8))),(15,hF)],.reg [(7,j5 (.int .i64 y4)),(11,j5 (.int .i64 y4)),(19,j5 ((u4 bb) y2)),(21,{os:=[(0,m6 bb y10)]}),(23,{os:=[(0,m6 bb ((y10.set y4.toNat y2)))]})],.reg [],.wk [(0,.gs 0 ((y10.set y4.toNat y2)).length)] []]
   (K8 (l9 (o8 (z_ bb) G1 (a_ (n0 (u4 bb) E3) tr) (b4 (b5 (a_ (a_ tr (a_ (n0 (LV.int .i64) E5) tr)) (o8 (z_ bb) G6 tr (a_ (a_ (a_ (H4 bb uu hh ww y2 (l.getD y4.toNat default) y8 E7 (f8 [1,2,3,4]) i1) (n4 [.map 2,.map 3,.map 4] uu hh ww)) tr) (b4 (f_ C9 tr))))))))) (q2 (l9 (q5 tr (n0 (LV.int .i64) E5) (q2 (q5 tr (n0 (LV.int .i64) E5) (o8 (z_ bb) G6 tr (l9 (o8 (z_ bb) G1 (a_ (n0 (u4 bb) E3) tr) (a_ (a_ (a_ (e_ (z_ bb)) G1) tr) (a_ (a_ (a_ (e_ (z_ bb)) (a_ (m8 (z_ bb)) (D1 G1))) (a_ (LO.Sub.trans (D5 (o5 bb) default (z_ bb) l ((IntKind.wrap .i64 (first+root))).toNat (l.getD y4.toNat default) (D1 G1) (B2 (b6 (o5 bb) default l ((IntKind.wrap .i64 (first+root))).toNat) 0 ((o5 bb) (l.getD y4.toNat default))) (by cases bb<;>kernel_rfl)) (M0 bb E11)) tr)) (a_ (a_ (a_ (e_ (z_ bb)) G6) tr) (a_ (a_ (a_ (e_ (z_ bb)) (a_ (m8 (z_ bb)) G12)) (a_ (D5 (o5 bb) default (z_ bb) y10 y4.toNat y2 G12 (B2 (b6 (o5 bb) default y10 y4.toNat) 0 ((o5 bb) y2)) (by cases bb<;>kernel_rfl)) tr)) tr)))))))))))) (a_ (b5 tr) (K3 (A5 0 (show l.length=((y10.set y4.toNat y2)).length from by simp[<-i7 E11]))))) (hk0 _ _ r h) uS
theorem c6p(bb:Bool){w0 W μ0}(hμ:p4 μ0 5)(data:LE bb)(lo hi first:Int)(uu:UT)(hh ww:PT)(root:Int)(l:LE bb)(y1:Int)(k0:Int->(LE bb)->Option ((LE bb)))(hk0:∀(root:Int) (l:LE bb) (r:(LE bb)),k0 root l=some r->b0m w0 W μ0 bb hi first uu hh ww root l r)(r:(LE bb))(h:b0o bb data lo hi first uu hh ww root l y1 k0=some r):p3 w0 W μ0 (a1H bb) 5 5 (a4I bb r) (a4H bb uu hh ww r) (z7 (o9 (a1H bb)) 5) ((.gs 0 l.length):: .any::(.int .i64 hi)::(.int .i64 first)::(.fn (w6 bb) [.ptr 1 0 0] [])::n_ 5 ((.int .i64 root)::(.int .i64 y1)::n_ 70 [])) [some (m6 bb l),some (.var [.map 2,.map 3,.map 4]),some (m7 uu []),some (b9 hh),some (b9 ww)]:=by
 unfold b0o at h;obtain⟨G1,h⟩:=j6 h;obtain⟨y2,E3,h⟩:=d6 h;obtain⟨G4,h⟩:=j6 h;obtain⟨y5,E6,h⟩:=d6 h;obtain⟨y8,E7,h⟩:=d6 h;rcases i5 h with⟨C9,h⟩|⟨C9,h⟩
 ·obtain rfl:=i7 h
  exact I9 [] 12 [.reg [(6,j5 ((u4 bb) y2)),(12,j5 ((u4 bb) y5)),(13,i6 (g9 [1,2,3,4] (H3 bb y8) (G0 bb uu hh ww) (H2 bb uu hh ww y8))),(15,hT)]]
   (q9 (N7 (o8 (z_ bb) G1 (a_ (n0 (u4 bb) E3) tr) (l9 (o8 (z_ bb) G4 (a_ (n0 (u4 bb) E6) tr) (a_ (a_ (a_ (H4 bb uu hh ww y2 y5 y8 E7 (f8 [1,2,3,4]) i1) (n4 [.map 2,.map 3,.map 4] uu hh ww)) tr) (b4 (f_ C9 tr))))))) tr)
 ·obtain⟨y10,E11,h⟩:=d6 h
  obtain⟨G12,h⟩:=j6 h;obtain⟨y13,E14,h⟩:=d6 h;exact t7 hμ [] 20 [.reg [(6,j5 ((u4 bb) y2)),(12,j5 ((u4 bb) y5)),(13,i6 (g9 [1,2,3,4] (H3 bb y8) (G0 bb uu hh ww) (H2 bb uu hh ww y8))),(15,hF)],.reg [(13,j5 ((u4 bb) y5)),(19,j5 ((u4 bb) y2)),(21,{os:=[(0,m6 bb y10)]}),(23,{os:=[(0,m6 bb y13)]})],.reg [],.wk [(0,.gs 0 y13.length)] []]
   (q0 (N7 (o8 (z_ bb) G1 (a_ (n0 (u4 bb) E3) tr) (l9 (o8 (z_ bb) G4 (a_ (n0 (u4 bb) E6) tr) (a_ (a_ (a_ (H4 bb uu hh ww y2 y5 y8 E7 (f8 [1,2,3,4]) i1) (n4 [.map 2,.map 3,.map 4] uu hh ww)) tr) (b4 (f_ C9 tr))))))) (l9 (X2 (o8 (z_ bb) G4 (a_ (n0 (u4 bb) E6) tr) (l9 (o8 (z_ bb) G1 (a_ (n0 (u4 bb) E3) tr) (a_ (a_ (a_ (e_ (z_ bb)) G1) tr) (a_ (a_ (a_ (e_ (z_ bb)) (a_ (m8 (z_ bb)) (D1 G1))) (a_ (LO.Sub.trans (D5 (o5 bb) default (z_ bb) l ((IntKind.wrap .i64 (first+root))).toNat y5 (D1 G1) (B2 (b6 (o5 bb) default l ((IntKind.wrap .i64 (first+root))).toNat) 0 ((o5 bb) y5)) (by cases bb<;>kernel_rfl)) (M0 bb E11)) tr)) (a_ (a_ (a_ (e_ (z_ bb)) G4) tr) (a_ (a_ (a_ (e_ (z_ bb)) (a_ (m8 (z_ bb)) G12)) (a_ (LO.Sub.trans (D5 (o5 bb) default (z_ bb) y10 ((IntKind.wrap .i64 (first+y1))).toNat y2 G12 (B2 (b6 (o5 bb) default y10 ((IntKind.wrap .i64 (first+y1))).toNat) 0 ((o5 bb) y2)) (by cases bb<;>kernel_rfl)) (M0 bb E14)) tr)) tr))))))))) (b5 tr) (K3 (A5 0 (show l.length=y13.length from by simp[<-i7 E14,<-i7 E11])))) (hk0 _ _ r h) uS
theorem c6q(bb:Bool){w0 W μ0}(hμ:p4 μ0 5)(data:LE bb)(lo hi first:Int)(uu:UT)(hh ww:PT)(root:Int)(l:LE bb)(y1:Int)(k0:Int->(LE bb)->Option ((LE bb)))(hk0:∀(root:Int) (l:LE bb) (r:(LE bb)),k0 root l=some r->b0m w0 W μ0 bb hi first uu hh ww root l r)(r:(LE bb))(h:b0p bb data lo hi first uu hh ww root l y1 k0=some r):p3 w0 W μ0 (a1H bb) 5 5 (a4I bb r) (a4H bb uu hh ww r) (z7 (o9 (a1H bb)) 6) ((.gs 0 l.length):: .any::(.int .i64 hi)::(.int .i64 first)::(.fn (w6 bb) [.ptr 1 0 0] [])::n_ 5 ((.int .i64 root)::(.int .i64 y1)::n_ 70 [])) [some (m6 bb l),some (.var [.map 2,.map 3,.map 4]),some (m7 uu []),some (b9 hh),some (b9 ww)]:=by
 unfold b0p at h;obtain⟨G1,h⟩:=j6 h;obtain⟨y2,E3,h⟩:=d6 h;obtain⟨G4,h⟩:=j6 h;obtain⟨y5,E6,h⟩:=d6 h;obtain⟨y7,E8,h⟩:=d6 h;obtain⟨G9,h⟩:=j6 h;obtain⟨y10,E11,h⟩:=d6 h;exact t7 hμ [] 15 [.reg [(13,j5 ((u4 bb) y2)),(19,j5 ((u4 bb) y5)),(21,{os:=[(0,m6 bb y7)]}),(23,{os:=[(0,m6 bb y10)]})],.reg [],.wk [(0,.gs 0 y10.length)] []]
  (B6 (l9 (X2 (o8 (z_ bb) G1 (a_ (n0 (u4 bb) E3) tr) (l9 (o8 (z_ bb) G4 (a_ (n0 (u4 bb) E6) tr) (a_ (a_ (a_ (e_ (z_ bb)) G4) tr) (a_ (a_ (a_ (e_ (z_ bb)) (a_ (m8 (z_ bb)) (D1 G4))) (a_ (LO.Sub.trans (D5 (o5 bb) default (z_ bb) l ((IntKind.wrap .i64 (first+root))).toNat y2 (D1 G4) (B2 (b6 (o5 bb) default l ((IntKind.wrap .i64 (first+root))).toNat) 0 ((o5 bb) y2)) (by cases bb<;>kernel_rfl)) (M0 bb E8)) tr)) (a_ (a_ (a_ (e_ (z_ bb)) G1) tr) (a_ (a_ (a_ (e_ (z_ bb)) (a_ (m8 (z_ bb)) G9)) (a_ (LO.Sub.trans (D5 (o5 bb) default (z_ bb) y7 ((IntKind.wrap .i64 (first+y1))).toNat y5 G9 (B2 (b6 (o5 bb) default y7 ((IntKind.wrap .i64 (first+y1))).toNat) 0 ((o5 bb) y5)) (by cases bb<;>kernel_rfl)) (M0 bb E11)) tr)) tr))))))))) tr (q9 (A5 0 (show l.length=y10.length from by simp[<-i7 E11,<-i7 E8])) tr) tr) (hk0 _ _ r h) uS
theorem c6r(bb:Bool){w0 W μ0}(hμ:p4 μ0 5)(data:LE bb)(lo hi first:Int)(uu:UT)(hh ww:PT):∀(fuel:Nat) (root:Int) (l:LE bb) (r:(LE bb)),Z_ bb data lo hi first uu hh ww fuel root l=some r->b0m w0 W μ0 bb hi first uu hh ww root l r:=by
 intro fuel
 induction fuel with
 |zero=>intro root l r h;rw[Z_] at h;cases h
 |succ fuel ih=>
  intro root l r h;rw[Z_] at h;obtain⟨y1,E2,h⟩:=d6 h;rcases i5 h with⟨C3,h⟩|⟨C3,h⟩
  ·obtain rfl:=i7 h
   exact I9 [] 20 [.go,.reg [(2,j5 (.int .i64 y1))],.reg [(2,hT)]]
    (F8 (b5 (S6 tr (n0 (LV.int .i64) E2))) (b5 (f_ C3 tr)))
  ·rcases i5 h with⟨C4,h⟩|⟨C4,h⟩
   ·obtain⟨G5,h⟩:=j6 h
    obtain⟨y6,E7,h⟩:=d6 h;obtain⟨y8,E9,h⟩:=d6 h;obtain⟨G10,h⟩:=j6 h;obtain⟨y12,E11,h⟩:=d6 h;rcases i5 h with⟨C13,h⟩|⟨C13,h⟩
    ·exact t7 hμ [] 25 [.go,.reg [(2,j5 (.int .i64 y1))],.reg [(2,hF)],.reg [(4,hT),(11,j5 ((u4 bb) y6)),(16,j5 (.int .i64 y8)),(19,i6 (g9 [1,2,3,4] (H3 bb y12) (G0 bb uu hh ww) (H2 bb uu hh ww y12))),(21,hT)]]
      (J4 (S6 tr (n0 (LV.int .i64) E2)) (f_ C3 tr) (l9 (f_ C4 (b4 (l9 (o8 (z_ bb) G5 (a_ (n0 (u4 bb) E7) tr) (l9 (a_ (a_ tr (a_ (n0 (LV.int .i64) E9) tr)) (o8 (z_ bb) G10 tr (a_ (a_ (a_ (H4 bb uu hh ww y6 (l.getD y8.toNat default) y12 E11 (f8 [1,2,3,4]) i1) (n4 [.map 2,.map 3,.map 4] uu hh ww)) tr) (b4 (f_ C13 tr))))))))))) tr) (c6o bb hμ data lo hi first uu hh ww root l y1 (Z_ bb data lo hi first uu hh ww fuel) ih r h) uS
    ·exact t7 hμ [] 28 [.go,.reg [(2,j5 (.int .i64 y1))],.reg [(2,hF)],.reg [(4,hT),(11,j5 ((u4 bb) y6)),(16,j5 (.int .i64 y8)),(19,i6 (g9 [1,2,3,4] (H3 bb y12) (G0 bb uu hh ww) (H2 bb uu hh ww y12))),(21,hF)]]
      (J4 (S6 tr (n0 (LV.int .i64) E2)) (f_ C3 tr) (l9 (f_ C4 (b4 (l9 (o8 (z_ bb) G5 (a_ (n0 (u4 bb) E7) tr) (l9 (a_ (a_ tr (a_ (n0 (LV.int .i64) E9) tr)) (o8 (z_ bb) G10 tr (a_ (a_ (a_ (H4 bb uu hh ww y6 (l.getD y8.toNat default) y12 E11 (f8 [1,2,3,4]) i1) (n4 [.map 2,.map 3,.map 4] uu hh ww)) tr) (b4 (f_ C13 tr))))))))))) tr) (c6p bb hμ data lo hi first uu hh ww root l y1 (Z_ bb data lo hi first uu hh ww fuel) ih r h) uS
   ·obtain⟨G5,h⟩:=j6 h
    obtain⟨y6,E7,h⟩:=d6 h;obtain⟨G8,h⟩:=j6 h;obtain⟨y9,E10,h⟩:=d6 h;obtain⟨y12,E11,h⟩:=d6 h;rcases i5 h with⟨C13,h⟩|⟨C13,h⟩
    ·obtain rfl:=i7 h
     exact I9 [] 31 [.go,.reg [(2,j5 (.int .i64 y1))],.reg [(2,hF)],.reg [(4,hF)],.reg [(6,j5 ((u4 bb) y6)),(12,j5 ((u4 bb) y9)),(13,i6 (g9 [1,2,3,4] (H3 bb y12) (G0 bb uu hh ww) (H2 bb uu hh ww y12))),(15,hT)]]
      (q3 (J4 (S6 tr (n0 (LV.int .i64) E2)) (f_ C3 tr) (l9 (f_ C4 (B3 (B3 (b4 tr))))) (q3 (N7 (o8 (z_ bb) G5 (a_ (n0 (u4 bb) E7) tr) (l9 (o8 (z_ bb) G8 (a_ (n0 (u4 bb) E10) tr) (a_ (a_ (a_ (H4 bb uu hh ww y6 y9 y12 E11 (f8 [1,2,3,4]) i1) (n4 [.map 2,.map 3,.map 4] uu hh ww)) tr) (b4 (f_ C13 tr))))))))))
    ·exact t7 hμ [] 33 [.go,.reg [(2,j5 (.int .i64 y1))],.reg [(2,hF)],.reg [(4,hF)],.reg [(6,j5 ((u4 bb) y6)),(12,j5 ((u4 bb) y9)),(13,i6 (g9 [1,2,3,4] (H3 bb y12) (G0 bb uu hh ww) (H2 bb uu hh ww y12))),(15,hF)]]
      (J4 (S6 tr (n0 (LV.int .i64) E2)) (f_ C3 tr) (l9 (f_ C4 (B3 (B3 (b4 tr))))) (q3 (N7 (o8 (z_ bb) G5 (a_ (n0 (u4 bb) E7) tr) (l9 (o8 (z_ bb) G8 (a_ (n0 (u4 bb) E10) tr) (a_ (a_ (a_ (H4 bb uu hh ww y6 y9 y12 E11 (f8 [1,2,3,4]) i1) (n4 [.map 2,.map 3,.map 4] uu hh ww)) tr) (b4 (f_ C13 tr))))))))) (c6q bb hμ data lo hi first uu hh ww root l y1 (Z_ bb data lo hi first uu hh ww fuel) ih r h) uS
theorem b8n(bb:Bool)(data:LE bb)(lo hi first:Int)(uu:UT)(hh ww:PT)(r:(LE bb))(h:sSD bb data lo hi first uu hh ww=some r):∀σ,p8 5 σ->j9 Tryz.prog (b6T bb) (n7 σ [.gs 0 data.length,.int .i64 lo,.int .i64 hi,.int .i64 first,.fn (w6 bb) [.ptr 1 0 0] []]) (p5 σ 0 (b3P bb data uu hh ww)) ((a4I bb r).ren σ) (p6 σ (a4H bb uu hh ww r)):=by
 refine o_ (c40 bb) (by cases bb<;>kernel_rfl) (by cases bb<;>kernel_rfl) (by cases bb<;>kernel_rfl) ⟨λ_ _=>by cases bb<;>rfl,rfl,uP,tr,tr,tr⟩ (by cases bb<;>kernel_rfl) ⟨λ_ _=>by cases bb<;>rfl,rfl,uP,tr,tr,tr⟩ (by cases bb<;>kernel_rfl) ?_;intro w0 W μ0 hμ;unfold sSD at h;exact t7 hμ [] 14 [.reg []]
  (q3 (b5 tr)) (c6r bb hμ data lo hi first uu hh ww big _ _ r h) uS
abbrev c5A(bb:Bool)(a b:Int)(uu:UT)(hh ww:PT)(i:Int)(l:LE bb)(r:(LE bb)):Prop:=p3 w0 W μ0 (a7Q bb) 5 5 (a94 bb r) (a93 bb uu hh ww r) (z6 (o9 (a7Q bb)) 0) ((.gs 0 l.length):: .any:: .any::(.fn (w6 bb) [.ptr 1 0 0] [])::n_ 4 ((.int .i64 a)::(.int .i64 0)::(.int .i64 (IntKind.wrap .i64 (b - a)))::(.int .i64 i)::n_ 48 [])) [some (m6 bb l),some (.var [.map 2,.map 3,.map 4]),some (m7 uu []),some (b9 hh),some (b9 ww)]
abbrev c5B(bb:Bool)(a:Int)(uu:UT)(hh ww:PT)(i2:Int)(l2:LE bb)(r:(LE bb)):Prop:=p3 w0 W μ0 (a7Q bb) 5 5 (a94 bb r) (a93 bb uu hh ww r) (z6 (o9 (a7Q bb)) 1) ((.gs 0 l2.length):: .any:: .any::(.fn (w6 bb) [.ptr 1 0 0] [])::n_ 4 ((.int .i64 a)::(.int .i64 0):: .any:: .any::(.int .i64 i2)::n_ 47 [])) [some (m6 bb l2),some (.var [.map 2,.map 3,.map 4]),some (m7 uu []),some (b9 hh),some (b9 ww)]
theorem c5D(bb:Bool){w0 W μ0}(hμ:p4 μ0 5)(data:LE bb)(a b:Int)(uu:UT)(hh ww:PT):∀(fuel:Nat) (i2:Int) (l2:LE bb) (r:(LE bb)),a21 bb data a b uu hh ww fuel i2 l2=some r->c5B w0 W μ0 bb a uu hh ww i2 l2 r:=by
 intro fuel
 induction fuel with
 |zero=>intro i2 l2 r h;rw[a21] at h;cases h
 |succ fuel ih=>
  intro i2 l2 r h;rw[a21] at h;rcases i5 h with⟨C1,h⟩|⟨C1,h⟩
  ·obtain⟨G2,h⟩:=j6 h
   obtain⟨y3,E4,h⟩:=d6 h;obtain⟨G5,h⟩:=j6 h;obtain⟨G6,h⟩:=j6 h;obtain⟨y7,E8,h⟩:=d6 h;obtain⟨y10,E9,h⟩:=d6 h;obtain⟨G11,h⟩:=j6 h;exact t7 hμ [] 27 [.go,.reg [(1,hT)],.reg [(11,j5 ((u4 bb) y3)),(17,{os:=[(0,m6 bb ((l2.set a.toNat y3)))]}),(19,{os:=[(0,m6 bb y7)]})],.reg [(5,{call:=some (g9 [0,1,2,3,4] (a4I bb y10) (b3P bb y7 uu hh ww) (a4H bb uu hh ww y10)),cargs:=some [.gs 0 y7.length,.int .i64 0,.int .i64 i2,.int .i64 a,.fn (w6 bb) [.ptr 1 0 0] []]})],.reg [],.wk [(0,.gs 0 y10.length)] []]
    (B6 (q8 (f_ C1 tr)) (X2 (o8 (z_ bb) G2 (a_ (n0 (u4 bb) E4) tr) (b5 (o8 (z_ bb) G5 tr (a_ (a_ (a_ (e_ (z_ bb)) G5) tr) (a_ (a_ (a_ (e_ (z_ bb)) (a_ (m8 (z_ bb)) (D1 G5))) (a_ (D5 (o5 bb) default (z_ bb) l2 a.toNat y3 (D1 G5) (B2 (b6 (o5 bb) default l2 a.toNat) 0 ((o5 bb) y3)) (by cases bb<;>kernel_rfl)) tr)) (a_ (a_ (a_ (e_ (z_ bb)) G2) tr) (a_ (a_ (a_ (e_ (z_ bb)) (a_ (m8 (z_ bb)) G6)) (a_ (LO.Sub.trans (D5 (o5 bb) default (z_ bb) (l2.set a.toNat y3) ((IntKind.wrap .i64 (a+i2))).toNat (l2.getD a.toNat default) G6 (B2 (b6 (o5 bb) default (l2.set a.toNat y3) ((IntKind.wrap .i64 (a+i2))).toNat) 0 ((o5 bb) (l2.getD a.toNat default))) (by cases bb<;>kernel_rfl)) (M0 bb E8)) tr)) tr)))))))) (N7 (q9 (q0 (b8n bb y7 0 i2 a uu hh ww y10 E9 (f8 [0,1,2,3,4]) i1) (q0 (A5 0 (show l2.length=y7.length from by simp[<-i7 E8])) (LV.Le.refl (.int .i64 0)) (LV.Le.refl (.int .i64 i2)) (q7 (LV.Le.refl (.int .i64 a)) (LV.Le.refl (.fn (w6 bb) [.ptr 1 0 0] [])))) (l0 (m6 bb y7)) (n4 [.map 2,.map 3,.map 4] uu hh ww)) tr)) (a_ (q2 tr) (K3 (A5 0 G11)))) (ih _ _ r h) uS
  ·obtain rfl:=i7 h
   exact I9 [] 16 [.go,.reg [(1,hF)]]
    (q9 (q8 (f_ C1 tr)) tr)
theorem c5C(bb:Bool){w0 W μ0}(hμ:p4 μ0 5)(data:LE bb)(a b:Int)(uu:UT)(hh ww:PT):∀(fuel:Nat) (i:Int) (l:LE bb) (r:(LE bb)),a20 bb data a b uu hh ww fuel i l=some r->c5A w0 W μ0 bb a b uu hh ww i l r:=by
 intro fuel
 induction fuel with
 |zero=>intro i l r h;rw[a20] at h;cases h
 |succ fuel ih=>
  intro i l r h;rw[a20] at h;rcases i5 h with⟨C1,h⟩|⟨C1,h⟩
  ·obtain⟨y3,E2,h⟩:=d6 h
   obtain⟨G4,h⟩:=j6 h;exact t7 hμ [] 24 [.go,.reg [(1,hT)],.reg [(5,i6 (g9 [0,1,2,3,4] (a4I bb y3) (b3P bb l uu hh ww) (a4H bb uu hh ww y3)))],.reg [],.wk [(0,.gs 0 y3.length)] []]
    (q6 (q8 (f_ C1 tr)) (V1 (b8n bb l i (IntKind.wrap .i64 (b - a)) a uu hh ww y3 E2 (f8 [0,1,2,3,4]) i1) (l0 (m6 bb l)) (n4 [.map 2,.map 3,.map 4] uu hh ww)) (q2 tr) (K3 (A5 0 G4))) (ih _ _ r h) uS
  ·obtain⟨y2,E3,h⟩:=d6 h
   exact t7 hμ [] 21 [.go,.reg [(1,hF)],.reg [(1,j5 (.int .i64 y2))]]
    (q7 (q8 (f_ C1 tr)) (J7 tr (n0 (LV.int .i64) E3))) (c5D bb hμ data a b uu hh ww big _ _ r h) uS
theorem c5E(bb:Bool)(data:LE bb)(a b:Int)(uu:UT)(hh ww:PT)(r:(LE bb))(h:sHP bb data a b uu hh ww=some r):∀σ,p8 5 σ->j9 Tryz.prog (b6M bb) (n7 σ [.gs 0 data.length,.int .i64 a,.int .i64 b,.fn (w6 bb) [.ptr 1 0 0] []]) (p5 σ 0 (b74 bb data uu hh ww)) ((a94 bb r).ren σ) (p6 σ (a93 bb uu hh ww r)):=by
 refine o_ (c4T bb) (by cases bb<;>kernel_rfl) (by cases bb<;>kernel_rfl) (by cases bb<;>kernel_rfl) ⟨λ_ _=>by cases bb<;>rfl,rfl,uP,tr,tr,tr⟩ (by cases bb<;>kernel_rfl) ⟨λ_ _=>by cases bb<;>rfl,rfl,uP,tr,tr,tr⟩ (by cases bb<;>kernel_rfl) ?_;intro w0 W μ0 hμ;unfold sHP at h;obtain⟨y1,e2,h⟩:=d6 h;exact t7 hμ [] 24 [.reg [],.reg [],.reg [],.reg [(1,j5 (.int .i64 y1))]]
  (q42 tr (l9 tr) (q8 (q5 tr (n0 (LV.int .i64) e2) (I2 (K7 2 rfl))))) (c5C bb hμ data a b uu hh ww big _ _ r h) uS
def a7X(bb:Bool)(r:(LE bb)):LV:=.tup []
def a7W(bb:Bool)(uu:UT)(hh ww:PT)(r:(LE bb)):i9:=[(0,some (m6 bb r)),(1,some (.var [.map 2,.map 3,.map 4])),(2,some (m7 uu [])),(3,some (b9 hh)),(4,some (b9 ww))]
def b7X(bb:Bool)(data:LE bb)(uu:UT)(hh ww:PT):List LO:=[m6 bb data,.var [.map 2,.map 3,.map 4],m7 uu [],b9 hh,b9 ww]
abbrev b3s(bb:Bool)(a b:Int)(uu:UT)(hh ww:PT)(y3:Int)(idx:Int)(l:LE bb)(x:Int)(r:(LE bb)):Prop:=p3 w0 W μ0 (a4w bb) 5 5 (a7X bb r) (a7W bb uu hh ww r) (z6 (o9 (a4w bb)) 0) ((.gs 0 l.length)::(.int .i64 a)::n_ 6 ((.int .i64 (IntKind.wrap .i64 (b - a)))::(.ptr 5 0 0)::(.int .u64 y3)::(.int .i64 idx)::n_ 55 [])) [some (m6 bb l),some (.var [.map 2,.map 3,.map 4]),some (m7 uu []),some (b9 hh),some (b9 ww),some (.var [.int .u64 x])]
abbrev c5j(bb:Bool)(a b:Int)(uu:UT)(hh ww:PT)(idx:Int)(l:LE bb)(y3:Int)(y7:Int×Int)(y8:Int)(r:(LE bb)):Prop:=p3 w0 W μ0 (a4w bb) 5 5 (a7X bb r) (a7W bb uu hh ww r) (z7 (o9 (a4w bb)) 9) ((.gs 0 l.length)::(.int .i64 a)::n_ 6 ((.int .i64 (IntKind.wrap .i64 (b - a)))::(.ptr 5 0 0)::(.int .u64 y3)::(.int .i64 idx)::(.int .i64 (IntKind.wrap .i64 y8))::n_ 54 [])) [some (m6 bb l),some (.var [.map 2,.map 3,.map 4]),some (m7 uu []),some (b9 hh),some (b9 ww),some (.var [.int .u64 y7.2])]
theorem c5l(bb:Bool){w0 W μ0}(hμ:p4 μ0 5)(data:LE bb)(a b:Int)(uu:UT)(hh ww:PT)(idx:Int)(l:LE bb)(y3:Int)(y7:Int×Int)(yL0_8:Int)(k0:Int->(LE bb)->Int->Option ((LE bb)))(hk0:∀(idx:Int) (l:LE bb) (x:Int) (r:(LE bb)),k0 idx l x=some r->b3s w0 W μ0 bb a b uu hh ww y3 idx l x r)(r:(LE bb))(h:a9Z bb data a b uu hh ww idx l y3 y7 yL0_8 k0=some r):c5j w0 W μ0 bb a b uu hh ww idx l y3 y7 yL0_8 r:=by
 unfold a9Z at h;obtain⟨y1,E2,h⟩:=d6 h;obtain⟨G3,h⟩:=j6 h;obtain⟨y4,E5,h⟩:=d6 h;obtain⟨G6,h⟩:=j6 h;obtain⟨G7,h⟩:=j6 h;obtain⟨yC9_8,E9,h⟩:=d6 h;exact t7 hμ [5] 17 [.reg [(2,j5 (.int .i64 y1))],.reg [(11,j5 ((u4 bb) y4)),(17,{os:=[(0,m6 bb ((l.set idx.toNat y4)))]}),(19,{os:=[(0,m6 bb yC9_8)]})],.reg [],.wk [(0,.gs 0 yC9_8.length)] []]
  (J4 (S6 tr (n0 (LV.int .i64) E2)) (X2 (o8 (z_ bb) G3 (a_ (n0 (u4 bb) E5) tr) (b5 (o8 (z_ bb) G6 tr (a_ (a_ (a_ (e_ (z_ bb)) G6) tr) (a_ (a_ (a_ (e_ (z_ bb)) (a_ (m8 (z_ bb)) (D1 G6))) (a_ (D5 (o5 bb) default (z_ bb) l idx.toNat y4 (D1 G6) (B2 (b6 (o5 bb) default l idx.toNat) 0 ((o5 bb) y4)) (by cases bb<;>kernel_rfl)) tr)) (a_ (a_ (a_ (e_ (z_ bb)) G3) tr) (a_ (a_ (a_ (e_ (z_ bb)) (a_ (m8 (z_ bb)) G7)) (a_ (LO.Sub.trans (D5 (o5 bb) default (z_ bb) (l.set idx.toNat y4) ((IntKind.wrap .i64 (a+y1))).toNat (l.getD idx.toNat default) G7 (B2 (b6 (o5 bb) default (l.set idx.toNat y4) ((IntKind.wrap .i64 (a+y1))).toNat) 0 ((o5 bb) (l.getD idx.toNat default))) (by cases bb<;>kernel_rfl)) (M0 bb E9)) tr)) tr)))))))) (q2 tr) (K3 (A5 0 (show l.length=yC9_8.length from by simp[<-i7 E9])))) (hk0 _ _ _ r h) ⟨λ_ _=>by cases bb<;>rfl,rfl,uP,tr,tr,rfl,tr⟩
theorem c5k(bb:Bool){w0 W μ0}(hμ:p4 μ0 5)(data:LE bb)(a b:Int)(uu:UT)(hh ww:PT)(idx:Int)(l:LE bb)(y3:Int)(y7:Int×Int)(y8:Int)(k0:Int->(LE bb)->Int->Option ((LE bb)))(hk0:∀(idx:Int) (l:LE bb) (x:Int) (r:(LE bb)),k0 idx l x=some r->b3s w0 W μ0 bb a b uu hh ww y3 idx l x r)(r:(LE bb))(h:a9Y bb data a b uu hh ww idx l y3 y7 y8 k0=some r):p3 w0 W μ0 (a4w bb) 5 5 (a7X bb r) (a7W bb uu hh ww r) (z7 (o9 (a4w bb)) 10) ((.gs 0 l.length)::(.int .i64 a)::n_ 6 ((.int .i64 (IntKind.wrap .i64 (b - a)))::(.ptr 5 0 0)::(.int .u64 y3)::(.int .i64 idx)::(.int .i64 (IntKind.wrap .i64 y8))::n_ 54 [])) [some (m6 bb l),some (.var [.map 2,.map 3,.map 4]),some (m7 uu []),some (b9 hh),some (b9 ww),some (.var [.int .u64 y7.2])]:=by
 unfold a9Y at h;obtain⟨y1,E2,h⟩:=d6 h;obtain⟨G3,h⟩:=j6 h;obtain⟨G4,h⟩:=j6 h;obtain⟨G5,h⟩:=j6 h;obtain⟨y6,E7,h⟩:=d6 h;exact t7 hμ [5] 15 [.reg [(5,j5 (.int .i64 y1)),(9,j5 (.int .i64 y1)),(17,{os:=[(0,m6 bb ((l.set idx.toNat (l.getD y1.toNat default))))]}),(19,{os:=[(0,m6 bb y6)]})],.reg [],.wk [(0,.gs 0 y6.length)] []]
  (q0 (N7 (q5 tr (n0 (LV.int .i64) E2) (q2 (q5 tr (n0 (LV.int .i64) E2) (o8 (z_ bb) G3 tr (b5 (o8 (z_ bb) G4 tr (a_ (a_ (a_ (e_ (z_ bb)) G4) tr) (a_ (a_ (a_ (e_ (z_ bb)) (a_ (m8 (z_ bb)) (D1 G4))) (a_ (D5 (o5 bb) default (z_ bb) l idx.toNat (l.getD y1.toNat default) (D1 G4) (B2 (b6 (o5 bb) default l idx.toNat) 0 ((o5 bb) (l.getD y1.toNat default))) (by cases bb<;>kernel_rfl)) tr)) (a_ (a_ (a_ (e_ (z_ bb)) G3) tr) (a_ (a_ (a_ (e_ (z_ bb)) (a_ (m8 (z_ bb)) G5)) (a_ (LO.Sub.trans (D5 (o5 bb) default (z_ bb) (l.set idx.toNat (l.getD y1.toNat default)) y1.toNat (l.getD idx.toNat default) G5 (B2 (b6 (o5 bb) default (l.set idx.toNat (l.getD y1.toNat default)) y1.toNat) 0 ((o5 bb) (l.getD idx.toNat default))) (by cases bb<;>kernel_rfl)) (M0 bb E7)) tr)) tr))))))))))) (q2 tr) (q9 (A5 0 (show l.length=y6.length from by simp[<-i7 E7])) tr) tr) (hk0 _ _ _ r h) ⟨λ_ _=>by cases bb<;>rfl,rfl,uP,tr,tr,rfl,tr⟩
theorem c5m(bb:Bool){w0 W μ0}(hμ:p4 μ0 5)(data:LE bb)(a b:Int)(uu:UT)(hh ww:PT)(y3:Int):∀(fuel:Nat) (idx:Int) (l:LE bb) (x:Int) (r:(LE bb)),a0W bb data a b uu hh ww y3 fuel idx l x=some r->b3s w0 W μ0 bb a b uu hh ww y3 idx l x r:=by
 intro fuel
 induction fuel with
 |zero=>intro idx l x r h;rw[a0W] at h;cases h
 |succ fuel ih=>
  intro idx l x r h;rw[a0W] at h;obtain⟨y1,E2,h⟩:=d6 h;obtain⟨yL0_3,E4,h⟩:=d6 h;rcases i5 h with⟨C5,h⟩|⟨C5,h⟩
  ·obtain⟨y7,E6,h⟩:=d6 h
   obtain⟨y8,E9,h⟩:=d6 h;rcases i5 h with⟨C10,h⟩|⟨C10,h⟩
   ·exact t7 hμ [5] 26 [.go,.reg [(3,j5 (.int .i64 y1)),(5,j5 (.int .i64 yL0_3)),(7,hT)],.reg [(0,i6 (g9 [5] (b3Y y7) (b3W x) (b3X y7))),(3,j5 (.int .u64 y8))],.reg [(2,hT)]]
     (q0 (q2 (q5 (K7 4 rfl) (n0 (LV.int .i64) E2) (q8 (q5 tr (n0 (LV.int .i64) E4) (q8 (f_ C5 tr)))))) (q4 (b8x x y7 E6 (f8 [5]) i1) (q3 (l0 (.var [.int .u64 x]))) (b5 (q5 tr (n0 (LV.int .u64) E9) (b5 tr)))) (b5 (f_ C10 tr)) tr) (c5l bb hμ data a b uu hh ww idx l y3 y7 y8 (a0W bb data a b uu hh ww y3 fuel) ih r h) ⟨λ_ _=>by cases bb<;>rfl,rfl,uP,tr,tr,rfl,tr⟩
   ·exact t7 hμ [5] 27 [.go,.reg [(3,j5 (.int .i64 y1)),(5,j5 (.int .i64 yL0_3)),(7,hT)],.reg [(0,i6 (g9 [5] (b3Y y7) (b3W x) (b3X y7))),(3,j5 (.int .u64 y8))],.reg [(2,hF)]]
     (q0 (q2 (q5 (K7 4 rfl) (n0 (LV.int .i64) E2) (q8 (q5 tr (n0 (LV.int .i64) E4) (q8 (f_ C5 tr)))))) (q4 (b8x x y7 E6 (f8 [5]) i1) (q3 (l0 (.var [.int .u64 x]))) (b5 (q5 tr (n0 (LV.int .u64) E9) (b5 tr)))) (b5 (f_ C10 tr)) tr) (c5k bb hμ data a b uu hh ww idx l y3 y7 y8 (a0W bb data a b uu hh ww y3 fuel) ih r h) ⟨λ_ _=>by cases bb<;>rfl,rfl,uP,tr,tr,rfl,tr⟩
  ·obtain rfl:=i7 h
   exact I9 [] 16 [.go,.reg [(3,j5 (.int .i64 y1)),(5,j5 (.int .i64 yL0_3)),(7,hF)]]
    (q9 (q2 (q5 (K7 4 rfl) (n0 (LV.int .i64) E2) (q8 (q5 tr (n0 (LV.int .i64) E4) (q8 (f_ C5 tr)))))) tr)
end
end Go.Proofs.YtddgjfclpknkcaaGreatDoor.Wk
