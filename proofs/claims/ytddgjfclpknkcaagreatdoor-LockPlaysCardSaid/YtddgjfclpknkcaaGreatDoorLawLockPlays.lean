import Derived.Test.YtddgjfclpknkcaaGreatDoorRows
import Derived.Test.YtddgjfclpknkcaaGreatDoorPyD
import Derived.Test.YtddgjfclpknkcaaGreatDoorCnY
import Derived.Test.YtddgjfclpknkcaaGreatDoorCards
import Derived.Test.YtddgjfclpknkcaaGreatDoorTie
import Derived.WalkKit
import Derived.ProofKit
import Derived.OpenShut
import Derived.ShutString
import Derived.ChangeOld
import Derived.Below
import Derived.SizedLaws
import Derived.LaidMore
import Derived.Lay
import Derived.SevenTiedAt
import Derived.Stop.Joined
import Derived.ChangeMaps5
namespace Go.Proofs.YtddgjfclpknkcaaGreatDoor.lockPlays
open Go.ChangeShapes Go.WideShapes Go.ChangeAt Go.RowKit Go.Cn
open Go.ChangeMaps (open_string shut_string)
open Go.Proofs.YtddgjfclpknkcaaGreatDoor.Wk
set_option linter.unusedVariables false
set_option linter.unusedSimpArgs false
theorem own:ownKnob Tryz.prog.godebug=none:=by kernel_rfl
theorem laidOut:laidOutB Tryz.prog=true:=by kernel_rfl
def b03(s:Wk.TS):List LV:=[.int .u32 s.B8,.int .u8 s.b7.F3,.int .u32 s.b7.D6,.int .u32 s.b7.F5]
theorem b9x{l:List LV}(h:x6 [.int .u32,.int .u8,.int .u32,.int .u32] l=true):∃s:Wk.TS,l=b03 s:=by
 obtain⟨a0,r0,e0,h⟩:=y_ h;obtain⟨a1,r1,e1,h⟩:=y_ h;obtain⟨a2,r2,e2,h⟩:=y_ h;obtain⟨a3,r3,e3,h⟩:=y_ h;exact⟨(Wk.TS.mk a0 (Wk.TX.mk a1 a2 a3)),by rw[e0,e1,e2,e3,b1G h];rfl⟩
def a40(s:(A8 Int)):List LV:=[.int .u8 s.a0,.int .u8 s.a1,.int .u8 s.a2,.int .u8 s.a3,.int .u8 s.a4,.int .u8 s.a5,.int .u8 s.a6,.int .u8 s.a7]
theorem b4l{l:List LV}(h:x6 [.int .u8,.int .u8,.int .u8,.int .u8,.int .u8,.int .u8,.int .u8,.int .u8] l=true):∃s:(A8 Int),l=a40 s:=by
 obtain⟨a0,r0,e0,h⟩:=y_ h;obtain⟨a1,r1,e1,h⟩:=y_ h;obtain⟨a2,r2,e2,h⟩:=y_ h;obtain⟨a3,r3,e3,h⟩:=y_ h;obtain⟨a4,r4,e4,h⟩:=y_ h;obtain⟨a5,r5,e5,h⟩:=y_ h;obtain⟨a6,r6,e6,h⟩:=y_ h;obtain⟨a7,r7,e7,h⟩:=y_ h;exact⟨(A8.mk a0 a1 a2 a3 a4 a5 a6 a7),by rw[e0,e1,e2,e3,e4,e5,e6,e7,b1G h];rfl⟩
def b04(s:Wk.TA):List LV:=[.int .u8 s.S0,.int .u32 s.n5.B8,.int .u8 s.n5.b7.F3,.int .u32 s.n5.b7.D6,.int .u32 s.n5.b7.F5,.int .u8 s.j8.a0,.int .u8 s.j8.a1,.int .u8 s.j8.a2,.int .u8 s.j8.a3,.int .u8 s.j8.a4,.int .u8 s.j8.a5,.int .u8 s.j8.a6,.int .u8 s.j8.a7,.int .u8 s.v8,.ds 8 s.K4.length (b6 (λz_:A8 Int=>[.int .u8 z_.a0,.int .u8 z_.a1,.int .u8 z_.a2,.int .u8 z_.a3,.int .u8 z_.a4,.int .u8 z_.a5,.int .u8 z_.a6,.int .u8 z_.a7]) default s.K4)]
def b9o(s:Wk.TA):Prop:=(X5 ((A4 .u8) s.S0))/\(X5 (b03 s.n5))/\(X5 (a40 s.j8))/\(X5 ((A4 .u8) s.v8))/\((∀a∈s.K4,(X5 (a40 a)))/\s.K4.length * 8<=140737488351232)/\True
def a9b:List (String×DataW Unit):=[("unicode/utf8.acceptRanges",Rows.laid_unicode_utf8_acceptRanges),("unicode/utf8.first",Rows.laid_unicode_utf8_first)]
set_option maxRecDepth 100000 in
theorem c2y(os:Os)(started:os.Started)(H:Type)(enc:TypeId×Value->H):
  ReturnsInHanded {} Tryz.checked os 6 .any (λw args=>(Rows.lockPlaysSpec.pre enc Tryz.prog Tryz.f6 Rows.lockPlaysRow.domain false w args/\laidMetH Tryz.prog a9b w)/\sizedMet enc Tryz.prog Tryz.f6 (OpenSpec.ofChange Rows.lockPlaysSpec) false w args) (Rows.lockPlaysSpec.post enc Tryz.prog Tryz.f6 false true false false):=by
 refine returnsInHanded_of_change_and (C:=Tryz.checked) (X:=λw _=>laidMetH Tryz.prog a9b w) (λ_ _ _ hh h=>h.of_heap hh) own started (by kernel_rfl) Tryz.func6
  (ChangeSpec.witness_shaped (enc:=enc) (C:=Tryz.checked) (os:=os) (X:=λw _=>laidMetH Tryz.prog a9b w) false (World.laidAll Tryz.prog os a9b) #[.slice none 0 0] 8 (World.laidAll_os _ _ _)
   (World.shaped_of_ZipB (by kernel_rfl) (by kernel_rfl)) (by kernel_rfl) (by kernel_rfl) (by kernel_rfl)
   (by rw[MakeChecks.laidMetH_plain _ _ _ (by kernel_rfl)];exact laidMet_laidAll _ (by kernel_rfl) (by kernel_rfl))) ?_
 intro W base args ds gs before hval0 hW hcnd hsz0 hx_ hy_;have hval:∀(j:Nat) t v,Tryz.f6.params[j]?=some t->args[j]?=some v->Value.okWide Tryz.prog W .any base t v:=hval0;have hW' :=hW;obtain⟨p,q,hA0,hV,rfl,hfz,hnd⟩:=hW;have hA:DataW.TrodAll enc Tryz.prog W 0 (λ_=>true) true Tryz.f6.params.toList args.toList ds p:=hA0;rw[Tryz.params6] at hA hval;obtain⟨v0,vs0,d0,ds0,p0,q0,hargs,rfl,rfl,h0,r0⟩:=trodAll_cons hA;obtain⟨rfl,rfl,rfl⟩:=trodAll_nil r0;obtain rfl:args=#[v0]:=by cases args;simp_all
 obtain⟨rfl,rfl⟩:=trodVars_none hV;have lt0:∀x∈p0,x.block<W.heap.size:=by obtain⟨m,hm⟩:=h0;exact DataW.trod_lt m _ _ _ hm
 obtain⟨x0,g0,e0⟩:=c3c Tryz.underlying22 (hval 0 _ v0 rfl rfl) h0 (c7m hsz0 0 (t:=22) (by rw[Tryz.params6];rfl) rfl) (enc:=(λz_:List Wk.TA=>[.ds 15 z_.length (b6 b04 default z_)])) (W:=λx=>((∀a∈x,(b9o a))/\x.length * 56<=140737488351232)) (Rd.slice (e:=37) (z:=15) (b:=56) (α:=Wk.TA) (enc:=b04) (by kernel_rfl) (by kernel_rfl) (by kernel_rfl) (of_decide_eq_true (by kernel_rfl)) (λ_=>rfl) (λ_=>rfl) (Rd.map (enc2:=b04) (W2:=b9o) (Rd.struct (N:=15) (fs:=[(5,0),(32,1),(34,5),(5,13),(35,14)]) (by kernel_rfl) (by kernel_rfl) (O_.cons (z:=1) (α:=Int) (by kernel_rfl) (Rd.cells (d:=12) (ks:=[.int .u8]) (enc:=A4 .u8) (by kernel_rfl) b4M) (O_.cons (z:=4) (α:=Wk.TS) (by kernel_rfl) (Rd.cells (d:=12) (ks:=[.int .u32,.int .u8,.int .u32,.int .u32]) (enc:=b03) (by kernel_rfl) (λ_ h=>b9x h)) (O_.cons (z:=8) (α:=(A8 Int)) (by kernel_rfl) (Rd.cells (d:=12) (ks:=[.int .u8,.int .u8,.int .u8,.int .u8,.int .u8,.int .u8,.int .u8,.int .u8]) (enc:=a40) (by kernel_rfl) (λ_ h=>b4l h)) (O_.cons (z:=1) (α:=Int) (by kernel_rfl) (Rd.cells (d:=12) (ks:=[.int .u8]) (enc:=A4 .u8) (by kernel_rfl) b4M) (O_.cons (z:=1) (α:=(List (A8 Int))) (by kernel_rfl) (Rd.slice (e:=34) (z:=8) (b:=8) (α:=(A8 Int)) (enc:=a40) (by kernel_rfl) (by kernel_rfl) (by kernel_rfl) (of_decide_eq_true (by kernel_rfl)) (λ_=>rfl) (λ_=>rfl) (Rd.cells (d:=12) (ks:=[.int .u8,.int .u8,.int .u8,.int .u8,.int .u8,.int .u8,.int .u8,.int .u8]) (enc:=a40) (by kernel_rfl) (λ_ h=>b4l h))) O_.nil)))))) (λ(p:Int×Wk.TS×((A8 Int))×Int×((List (A8 Int)))×Unit)=>Wk.TA.mk p.1 p.2.1 p.2.2.1 p.2.2.2.1 p.2.2.2.2.1) (λ_=>rfl) (λ_ h=>h)));have e0:=c5a e0;have tri:=Wk.pl_LockPlays_tri x0 true (Wk.plays_law x0 g0);clear hA0 hval0 hsz0;refine(b9G tri (vals:=[v0]) (w:=W) (a0d.no rfl) ⟨_,_,rfl,e0,rfl⟩).mono λe W' he=>?_;obtain⟨⟨x,μ',rfl,hx⟩,bel⟩:=he;simp only[Wk.pl_LockPlays_v,i4] at hx;subst hx;exact⟨_,rfl,_,_,_,[],_,[],hW',trodAll_mk1 (shut_bool Tryz.underlying4 _),(trodAll_cons_mk (Below.trod laidOut (by kernel_rfl) (of_decide_eq_true (by kernel_rfl)) h0 bel lt0) trodAll_mk0),rfl,bel.frame _,λh=>by cases h⟩
theorem over:Rows.lockPlaysRow.holds Tryz.pinned (OpenSpec.ofChange Rows.lockPlaysSpec):=
 OpenClaim.holds_of_wide 6 Tryz.f6 rfl rfl rfl rfl rfl rfl rfl ⟨rfl,rfl,rfl,rfl,rfl⟩ rfl rfl rfl rfl rfl (by kernel_rfl) Tryz.func6 (by kernel_rfl)
  (of_decide_eq_true (by kernel_rfl)) (by unfold Func.isWrapper;first|(rw[if_pos (by decide+kernel)];kernel_rfl)|(rw[if_neg (by decide+kernel)];exact⟨rfl,rfl⟩))
  (λos started H enc _=>c2y os started H enc)
theorem card:Rows.LockPlaysCardSaid:=
 Claim7.holds_tied_plain_at .later [] [.data,.pinned] true (true, "c2506ba0eb6fad4187667338e383c662457c67c92586dcb847127be322503243") false over (λ_ h=>by cases h) (by kernel_rfl) (λ_ h=>by cases h) lockPlays_row_tie rfl ⟨rfl,rfl⟩ (by kernel_rfl) rfl
  (λf fn hf hfn=>by
   obtain rfl:f=6:=Option.some.inj ((show Tryz.prog.funcNamed "parrel/parrellaw15.LockPlays"=some 6 by kernel_rfl).symm.trans hf)|>.symm;obtain rfl:fn=Tryz.f6:=(Option.some.inj (Tryz.func6.symm.trans hfn)).symm;exact⟨by kernel_rfl,λj t ht=>by
    rw[Tryz.params6] at ht;have hm:t∈[22]:=by simpa using Array.mem_of_getElem? ht
    have hall:([22].all λu=>!Tryz.prog.wantsStandIn u)=true:=by kernel_rfl
    exact(show Tryz.prog.wantsStandIn t=false by simpa using List.all_eq_true.1 hall t hm)⟩)
  (by kernel_rfl)
theorem proved:Rows.LockPlaysCardSaid:=card
#print axioms proved
end Go.Proofs.YtddgjfclpknkcaaGreatDoor.lockPlays
namespace Go.Proofs.YtddgjfclpknkcaaGreatDoor
theorem lockPlays_holds:Rows.LockPlaysCardSaid:=lockPlays.proved
end Go.Proofs.YtddgjfclpknkcaaGreatDoor
