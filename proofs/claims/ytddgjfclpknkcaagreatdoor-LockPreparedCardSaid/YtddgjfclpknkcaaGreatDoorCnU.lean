import Derived.Test.YtddgjfclpknkcaaGreatDoorCnT
import Derived.Lib.Bytealg
import Derived.Shelf.Lays
namespace Go.Cn
open Go
def bodyOf (fn : Func) : Code := fn.body.getD .skip
def startOf (fn : Func) (args : List LV) : List LV := args ++ List.replicate (fn.ntmps - args.length) .any
def Inj (n : Nat) (σ : Nat → Nat) : Prop := ∀ c d, c < n → d < n → σ c = σ d → c = d
def sel (l : List Nat) (c : Nat) : Nat := (l[c]?).getD 0
theorem sel_inj {l : List Nat} (h : nodupB l = true) {n : Nat} (hn : n = l.length) : Inj n (sel l) := by
 subst hn
 intro c d hc hd e
 have h1 : l[c]? = some l[c] := List.getElem?_eq_getElem hc
 have h2 : l[d]? = some l[d] := List.getElem?_eq_getElem hd
 simp only [sel, h1, h2, Option.getD_some] at e
 rw [← e] at h2
 exact nodupB_get h h1 h2
def objsUnder (n : Nat) : List LO → Prop
 | [] => True
 | o :: r => o.under n ∧ objsUnder n r
def upUnder (n : Nat) : Upd → Prop
 | [] => True
 | (_, none) :: r => upUnder n r
 | (_, some o) :: r => o.under n ∧ upUnder n r
def sigB (objs : List LO) (n : Nat) (up : Upd) : Bool :=
 ((List.range objs.length).all fun j => !(((objs[j]?).map LO.wr).getD false) || up.has j) && ((List.range n).all fun c => decide (c < objs.length) || up.has c) && (up.all fun x => decide (x.1 < n)) && decide (objs.length ≤ n)
theorem sig_of {objs : List LO} {n : Nat} {args : List LV} {v : LV} {up : Upd} (h1 : underL objs.length args = true) (h2 : objsUnder objs.length objs) (h3 : v.under n = true) (h4 : upUnder n up) (h5 : sigB objs n up = true) : Sig objs n args v up := by
 simp only [sigB, Bool.and_eq_true, List.all_eq_true, List.mem_range, Bool.or_eq_true, Bool.not_eq_true', decide_eq_true_eq] at h5
 obtain ⟨⟨⟨g1, g2⟩, g3⟩, g4⟩ := h5
 have k2 : ∀ (m : Nat) (l : List LO), objsUnder m l → ∀ o ∈ l, o.under m := by
  intro m l
  induction l with
  | nil => intro _ o ho; cases ho
  | cons x r ih =>
   intro h o ho
   rcases List.mem_cons.1 ho with rfl | ho
   ·exact h.1
   ·exact ih h.2 o ho
 have k4 : ∀ (u : Upd), upUnder n u → ∀ (c : Nat) (o : LO), (c, some o) ∈ u → o.under n := by
  intro u
  induction u with
  | nil => intro _ c o ho; cases ho
  | cons x r ih =>
   intro h c o ho
   obtain ⟨d, y⟩ := x
   cases y with
   | none =>
    rcases List.mem_cons.1 ho with e | ho
    ·cases e
    ·exact ih h c o ho
   | some y =>
    rcases List.mem_cons.1 ho with e | ho
    ·cases e; exact h.1
    ·exact ih h.2 c o ho
 refine ⟨h1, k2 _ _ h2, h3, k4 _ h4, fun j o hj hw => ?_, fun c hc hn => ?_, fun c hc => ?_, g4⟩
 ·have := g1 j (List.getElem?_eq_some_iff.1 hj).1
  simpa [hj, hw] using this
 ·rcases g2 c hn with h | h
  ·omega
  ·exact h
 ·obtain ⟨o, ho⟩ := Upd.has_iff.1 hc
  exact g3 _ ho
theorem fn_of {P : Program} {f : FuncId} {fn : Func} {args : List LV} {objs : List LO} {n : Nat} {v : LV} {up : Upd} (hf : P.funcs[f]? = some fn) (hn : (fn.name == "runtime.NumGoroutine") = false) (hb : fn.body = some (bodyOf fn))
  (h1 : underL objs.length args = true) (h2 : objsUnder objs.length objs) (h3 : v.under n = true) (h4 : upUnder n up) (h5 : sigB objs n up = true)
  (h : ∀ w0 W μ0, (∀ c p, μ0 c = some p → c < objs.length) → kont P w0 W μ0 (FnPost P fn objs.length n v up) [.code (bodyOf fn)] none (startOf fn args) (objs.map some)) :
  ∀ σ, Inj n σ → FnTri P f (renL σ args) (preOf σ 0 objs) (v.ren σ) (upOf σ up) :=
 fun σ hσ => fn_tri hf hn hb (sig_of h1 h2 h3 h4 h5) h σ hσ
theorem FnTri.none {P : Program} {f : FuncId} {args : List LV} {n : Nat} {v : LV} (h : ∀ σ, Inj n σ → FnTri P f (renL σ args) (preOf σ 0 []) (v.ren σ) (upOf σ [])) (e1 : renL id args = args) (e2 : v.ren id = v) : FnTri P f args [] v [] := by
 have := h id (fun c d _ _ e => e)
 rw [e1, e2] at this
 exact this
theorem ext_indexByte {P : Program} {f : FuncId} {fn : Func} (hf : P.funcs[f]? = some fn) (hn : (fn.name == "runtime.NumGoroutine") = false) (hb : fn.body = none) (h1 : Extern.findNext fn = none) (h2 : Extern.find fn = some Extern.BytealgIndexByte.indexByte) (l : List UInt8) (c : Int) :
  ExtTri P f [.str l, .int .u8 c] (.int .i64 (Lib.indexByte l c.toNat.toUInt8)) := by
 rintro μ w vals ⟨v1, r1, rfl, e1, v2, r2, rfl, e2, rfl⟩
 simp only [Rel] at e1 e2
 subst e1 e2
 refine ⟨_, ?_, rfl⟩
 rw [run_callFunc_extern hf hn (by rw [hb]; rfl) h1 (e := Extern.BytealgIndexByte.indexByte) h2, Lib.run_indexByteString]
 rfl
end Go.Cn
