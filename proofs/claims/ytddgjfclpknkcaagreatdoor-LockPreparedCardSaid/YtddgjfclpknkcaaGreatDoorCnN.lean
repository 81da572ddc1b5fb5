import Derived.Test.YtddgjfclpknkcaaGreatDoorCnMa
namespace Go.Cn
open Go
def opnd (T : List LV) : Operand → LV
 | .tmp t => (T[t]?).getD .any
 | .const v => (ofV v).getD .any
 | .global _ => .any
 | .func f => .fn f [] []
structure FrRel (μ : Emb) (T : List LV) (tmps : Array Value) : Prop where
 size : T.length ≤ tmps.size
 get : ∀ t l, T[t]? = some l → Rel μ l (tmps.getD t undef)
theorem opnd_rel {μ : Emb} {T : List LV} {a : Act} (h : FrRel μ T a.tmps) (x : Operand) : Rel μ (opnd T x) (a.eval x) := by
 cases x with
 | tmp t =>
  simp only [opnd, Act.eval]
  cases ht : T[t]? with
  | none => simp [Rel]
  | some l => simpa using h.get t l ht
 | const v =>
  simp only [opnd, Act.eval]
  cases hv : ofV v with
  | none => simp [Rel]
  | some l => simpa using ofV_rel hv μ
 | global g => simp [opnd, Rel]
 | func f => exact ⟨#[], #[], rfl, rfl, rfl⟩
structure Hint where
 v : Option LV := none
 os : List (Nat × LO) := []
 fz : Bool := false
 app : Nat := 1
 look : Option LV := none
 call : Option (LV × Pre × Upd) := none
 ext : Option LV := none
 cargs : Option (List LV) := none
 soft : Option Nat := none
def FnTri (P : Program) (f : FuncId) (args : List LV) (pre : Pre) (v : LV) (up : Upd) : Prop :=
 (∃ fn, P.funcs[f]? = some fn ∧ fn.body.isSome = true ∧ (fn.name == "runtime.NumGoroutine") = false) ∧
 ∀ (μ : Emb) (w : World) (vals : List Value), RelL μ args vals → PreOK μ pre w → Fits μ pre up →
  Calls P f vals.toArray w fun en w' => ∃ x μ', en = .returned x ∧ Rel μ' v x ∧ Delta μ w pre up μ' w'
def ExtTri (P : Program) (f : FuncId) (args : List LV) (v : LV) : Prop :=
 ∀ (μ : Emb) (w : World) (vals : List Value), RelL μ args vals → ∃ x, (callFunc f vals.toArray).run P w = .ok (.value x) w ∧ Rel μ v x
def LV.Le (a b : LV) : Prop := ∀ μ x, Rel μ a x → Rel μ b x
theorem LV.Le.refl (a : LV) : a.Le a := fun _ _ h => h
theorem LV.Le.of_eq {a b : LV} (h : a = b) : a.Le b := h ▸ LV.Le.refl a
theorem LV.Le.trans {a b c : LV} (h : a.Le b) (k : b.Le c) : a.Le c := fun μ x r => k μ x (h μ x r)
def LeL : List LV → List LV → Prop
 | [], [] => True
 | a :: l, b :: m => a.Le b ∧ LeL l m
 | _, _ => False
theorem LeL.rel : ∀ {l m : List LV} {μ : Emb} {vs : List Value}, LeL l m → RelL μ l vs → RelL μ m vs
 | [], [], _, _, _, r => r
 | _ :: _, _ :: _, _, _, h, ⟨v, r, e, a, b⟩ => ⟨v, r, e, h.1 _ _ a, LeL.rel h.2 b⟩
 | [], _ :: _, _, _, h, _ => h.elim
 | _ :: _, [], _, _, h, _ => h.elim
theorem LeL.refl : ∀ (l : List LV), LeL l l
 | [] => trivial
 | a :: l => ⟨LV.Le.refl a, LeL.refl l⟩
def LO.Le (a b : LO) : Prop := (b.wr = true → a.wr = true) ∧ (a.void → b.void) ∧ ∀ μ p h, ObjOK μ p h a → ObjOK μ p h b
theorem LO.Le.refl (a : LO) : a.Le a := ⟨id, id, fun _ _ _ h => h⟩
theorem LO.Le.trans {a b c : LO} (h : a.Le b) (k : b.Le c) : a.Le c := ⟨fun x => h.1 (k.1 x), fun x => k.2.1 (h.2.1 x), fun μ p b x => k.2.2 μ p b (h.2.2 μ p b x)⟩
theorem ObjEq.le {a b : LO} (h : ObjEq a b) : a.Le b := ⟨fun x => by rw [h.wr]; exact x, h.void, fun _ _ _ r => r.eqv h⟩
def LeP (a b : LO) : Prop := match b.plain with | true => LO.Le a b | false => a = b
theorem LeP.le {a b : LO} (h : LeP a b) : LO.Le a b := by
 unfold LeP at h
 split at h
 ·exact h
 ·exact h ▸ LO.Le.refl a
theorem LeP.or {a b : LO} (h : LeP a b) : b.plain = true ∨ a = b := by
 unfold LeP at h
 split at h
 ·rename_i e; exact .inl e
 ·exact .inr h
theorem LeP.refl (a : LO) : LeP a a := by
 unfold LeP
 split
 ·exact LO.Le.refl a
 ·rfl
theorem LeP.xok {a b : LO} (h : LeP a b) {μ : Emb} {w : World} {p : Pl} (r : XOK μ w p a) : XOK μ w p b := h.or.elim XOK.plain (fun e => e ▸ r)
theorem LeP.xtra {a b : LO} (h : LeP a b) {μ : Emb} {w : World} {p : Pl} {x : Nat} (r : Xtra μ w p b x) : Xtra μ w p a x := h.or.elim (fun e => absurd r (Xtra.plain e)) (fun e => e ▸ r)
def PreAt (H : Heap) : Pre → Prop
 | [] => True
 | (c, o) :: r => (match H.at c with | some o' => LeP o' o | none => False) ∧ PreAt H r
theorem PreAt.get {H : Heap} : ∀ {pre : Pre}, PreAt H pre → ∀ c o, (c, o) ∈ pre → ∃ o', H.at c = some o' ∧ LeP o' o
 | [], _, _, _, h => by cases h
 | (d, p) :: r, ⟨h1, h2⟩, c, o, h => by
  rcases List.mem_cons.1 h with e | h
  ·cases e
   cases hc : H.at d with
   | none => simp [hc] at h1
   | some o' => exact ⟨o', rfl, by simpa [hc] using h1⟩
  ·exact PreAt.get h2 c o h
def minMax (op : Builtin) : List LV → Option LV
 | [.int k a, .int k' b] => if k = k' then (match op with | .min => some (.int k (if b < a then b else a)) | .max => some (.int k (if b > a then b else a)) | _ => none) else none
 | _ => none
def minMax3 (op : Builtin) : List LV → Option LV
 | [x, y] => minMax op [x, y]
 | [x, y, z] => match minMax op [x, y] with
  | some m => minMax op [m, z]
  | none => none
 | _ => none
def eCall (P : Program) (H : Heap) (new : Nat) (h : Hint) (ρ : Operand → LV) (c : Call) : Option Eff :=
 match c.callee with
 | .builtin .len => match c.argTypes[0]?, c.args.toList with
  | some t, [x] => eLen P H t (ρ x)
  | _, _ => none
 | .builtin .append => match c.argTypes.toList, c.args.toList with
  | [st, xt], [s, x] => if h.app = 3 then eAppG P H new st xt (ρ s) (ρ x) else eAppend P H new st xt (ρ s) (ρ x) h.app
  | _, _ => none
 | .builtin .copy => match c.argTypes[0]?, c.args.toList with
  | some t, [d, x] => eCopy P H t (ρ d) (ρ x)
  | _, _ => none
 | .builtin .delete => match c.argTypes[0]?, c.args.toList with
  | some t, [m, k] => eDelete P H t (ρ m) (ρ k)
  | _, _ => none
 | .builtin .min => (minMax3 .min (c.args.toList.map (ρ))).map .val
 | .builtin .max => (minMax3 .max (c.args.toList.map (ρ))).map .val
 | .value f => match ρ f with
  | .fn fid first cap => match h.ext with
   | some v => some ⟨ExtTri P fid (first ++ c.args.toList.map (ρ) ++ cap) v, v, [], []⟩
   | none => match h.call with
    | some (v, pre, up) =>
     if up.all (fun x => pre.any (fun y => y.1 == x.1 && y.2.wr) || decide (new ≤ x.1)) then
      match h.cargs with
      | none => some ⟨FnTri P fid (first ++ c.args.toList.map (ρ) ++ cap) pre v up ∧ PreAt H pre, v, pre.map (·.1), up⟩
      | some as => some ⟨FnTri P fid as pre v up ∧ LeL (first ++ c.args.toList.map (ρ) ++ cap) as ∧ PreAt H pre, v, pre.map (·.1), up⟩
     else none
    | none => none
  | _ => none
 | _ => none
def isVal : Op → Bool
 | .call c => match c.callee with
  | .value _ => true
  | _ => false
 | _ => false
def eOp1 (P : Program) (H : Heap) (new : Nat) (h : Hint) (ρ : Operand → LV) : Op → Option Eff
 | .move x | .assign x => some (.val (ρ x))
 | .pick c a b => match ρ c with
  | .bool true => some (.val (ρ a))
  | .bool false => some (.val (ρ b))
  | _ => none
 | .alloc t => eAlloc P new t
 | .box _ x => eBox new (ρ x)
 | .build t ps => eBuild P t (ps.toList.map fun p => (p.1, ρ p.2))
 | .buildSlice t n ps => eBuildSlice P new t n (ps.toList.map fun p => (p.1, ρ p.2))
 | .load t a => eLoad P H t (ρ a)
 | .store t a x => eStore P H t (ρ a) (ρ x)
 | .nilCheck x => if nonNil (ρ x) then some (.val (ρ x)) else none
 | .binOp op t x y _ => eBin P op t (ρ x) (ρ y)
 | .unOp op _ x => eUn op (ρ x)
 | .convert s d x => match eConv P s d (ρ x) with
  | some e => some e
  | none => eConvM P H new s d (ρ x)
 | .makeFunc (.func f) first cap => some (.val (.fn f (first.toList.map (ρ)) (cap.toList.map (ρ))))
 | .makeMap t none => eMakeMap P new t
 | .slice t x lo hi mx => eSlice P H t (ρ x) (lo.map (ρ)) (hi.map (ρ)) (mx.map (ρ))
 | .fieldAddr t x f => eFieldAddr P t (ρ x) f
 | .field t x f => eField P t (ρ x) f
 | .indexAddr t x i => eIndexAddr P H t (ρ x) (ρ i)
 | .index t x i => eIndex P t (ρ x) (ρ i)
 | .lookup t m k ok => eLookup P H t (ρ m) (ρ k) ok h.look
 | .mapUpdate t m k v | .insert t m k v => eMapUpdate P H t (ρ m) (ρ k) (ρ v)
 | .extract x i => eExtract (ρ x) i
 | .call c => eCall P H new h ρ c
 | _ => none
def eCallX (P : Program) (H : Heap) (h : Hint) (ρ : Operand → LV) (c : Call) : Option Eff :=
 match c.callee with
 | .builtin .len => match c.argTypes[0]?, c.args.toList with
  | some t, [x] => eLenP P H t (ρ x)
  | _, _ => none
 | .builtin .delete => match c.argTypes[0]?, c.args.toList with
  | some t, [m, k] => if h.app < 1000 then eDelP P H t (ρ m) (ρ k) else eDelMit P H t (h.app - 1000) (ρ m) (ρ k)
  | _, _ => none
 | _ => none
def eOpX (P : Program) (H : Heap) (new : Nat) (h : Hint) (ρ : Operand → LV) : Op → Option Eff
 | .range t x => eRangeM P H new t (ρ x)
 | .entry it => eEntry H (ρ it)
 | .lookup t m k ok => eLookupP P H t (ρ m) (ρ k) ok h.look
 | .mapUpdate t m k v | .insert t m k v => eUpdP P H t (ρ m) (ρ k) (ρ v)
 | .call c => eCallX P H h ρ c
 | _ => none
def eOp (P : Program) (H : Heap) (new : Nat) (h : Hint) (ρ : Operand → LV) (o : Op) : Option Eff :=
 match eOp1 P H new h ρ o with
 | some e => if e.up.plain || isVal o then some e else none
 | none => eOpX P H new h ρ o
def OpRuns (P : Program) (o : Oper) (a : Act) (w : World) (μ : Emb) (pre : Pre) (up : Upd) (v : LV) : Prop :=
 (∃ x w' μ', ((execOp a.eval o).run P w = .ok (.value x) w' ∨ ((execOp a.eval o).run P w = .ok .skip w' ∧ x = undef)) ∧ Rel μ' v x ∧ Delta μ w pre up μ' w') ∨
 (∃ f vals, (execOp a.eval o).run P w = .ok (.enter f vals) w ∧ Calls P f vals w fun en w' => ∃ x μ', en = .returned x ∧ Rel μ' v x ∧ Delta μ w pre up μ' w')
section
variable {P : Program}
theorem OpRuns.val {o : Oper} {a : Act} {w : World} {μ : Emb} {pre : Pre} {up : Upd} {v : LV} {s : Sem Value} (hpl : up.plain = true) (h : Runs P s μ w pre up v) (he : execOp a.eval o = (do pure (.value (← s)))) : OpRuns P o a w μ pre up v := by
 obtain ⟨x, w', μ', h1, h2, h3⟩ := h
 refine .inl ⟨x, w', μ', .inl ?_, h2, h3.to hpl⟩
 rw [he]
 simp [h1]
theorem OpRuns.valX {o : Oper} {a : Act} {w : World} {μ : Emb} {pre : Pre} {up : Upd} {v : LV} {s : Sem Value} (h : RunsX P s μ w pre up v) (he : execOp a.eval o = (do Pure.pure (.value (← s)))) : OpRuns P o a w μ pre up v := by
 obtain ⟨x, w', μ', h1, h2, h3⟩ := h
 refine .inl ⟨x, w', μ', .inl ?_, h2, h3⟩
 rw [he]
 simp [h1]
theorem OpRuns.pure {o : Oper} {a : Act} {w : World} {μ : Emb} {pre : Pre} {v : LV} {x : Value} (h : Rel μ v x) (he : execOp a.eval o = Pure.pure (.value x)) : OpRuns P o a w μ pre [] v :=
 .inl ⟨x, w, μ, .inl (by rw [he]; rfl), h, Delta.refl μ w pre⟩
theorem OpRuns.unit {o : Oper} {a : Act} {w w' : World} {μ : Emb} {pre : Pre} {up : Upd} {s : Sem Unit} (hpl : up.plain = true) (h : s.run P w = .ok () w') (d : Delta0 μ w pre up μ w') (he : execOp a.eval o = (do s; Pure.pure .skip)) : OpRuns P o a w μ pre up .any := by
 refine .inl ⟨undef, w', μ, .inr ⟨?_, rfl⟩, trivial, d.to hpl⟩
 rw [he]
 simp [h]
theorem parts_rel {μ : Emb} {ρ : Operand → LV} {a : Act} : ∀ (ps : List (Nat × Operand)), (∀ p ∈ ps, Rel μ (ρ p.2) (a.eval p.2)) → F2 (fun (x : Nat × LV) (y : Nat × Value) => x.1 = y.1 ∧ Rel μ x.2 y.2) (ps.map fun p => (p.1, ρ p.2)) (ps.map fun p => (p.1, a.eval p.2))
 | [], _ => .nil
 | p :: r, h => .cons ⟨rfl, h p (List.mem_cons_self)⟩ (parts_rel r (fun q hq => h q (List.mem_cons_of_mem _ hq)))
theorem opnds_rel' {μ : Emb} {ρ : Operand → LV} {a : Act} : ∀ (xs : List Operand), (∀ x ∈ xs, Rel μ (ρ x) (a.eval x)) → RelL μ (xs.map ρ) (xs.map a.eval)
 | [], _ => rfl
 | x :: r, h => ⟨_, _, rfl, h x (List.mem_cons_self), opnds_rel' r (fun q hq => h q (List.mem_cons_of_mem _ hq))⟩
theorem min2_ok {op : Builtin} {x y : LV} {z : LV} {vx vy : Value} {μ : Emb} {w : World} (h : minMax op [x, y] = some z) (hx : Rel μ x vx) (hy : Rel μ y vy) :
  (op = .min → ∃ v, (Builtin.min2 vx vy).run P w = .ok v w ∧ Rel μ z v) ∧ (op = .max → ∃ v, (Builtin.max2 vx vy).run P w = .ok v w ∧ Rel μ z v) := by
 unfold minMax at h
 split at h <;> try cases h
 rename_i k a k' b e
 simp only [List.cons.injEq, and_true] at e
 obtain ⟨rfl, rfl⟩ := e
 simp only [Rel] at hx hy; subst hx hy
 split at h <;> try cases h
 rename_i hk
 subst hk
 constructor
 ·rintro rfl
  cases h
  exact ⟨_, by simp [Builtin.min2], rfl⟩
 ·rintro rfl
  cases h
  exact ⟨_, by simp [Builtin.max2], rfl⟩
theorem opt_rel {μ : Emb} {ρ : Operand → LV} {a : Act} (x : Option Operand) (hf : ∀ y, x = some y → Rel μ (ρ y) (a.eval y)) : (∀ l, x.map ρ = some l → ∃ b, x.map a.eval = some b ∧ Rel μ l b) ∧ (x.map ρ = none → x.map a.eval = none) := by
 cases x with
 | none => exact ⟨fun l h => by simp at h, fun _ => rfl⟩
 | some y => exact ⟨fun l h => by simp at h; subst h; exact ⟨_, rfl, hf y rfl⟩, fun h => by simp at h⟩
theorem eCall_ok {H : Heap} {new : Nat} {h : Hint} {ρ : Operand → LV} {c : Call} {o : Oper} {e : Eff} {μ : Emb} {w : World} {a : Act} (hc : o.op = .call c) (he : eCall P H new h ρ c = some e) (hob : e.ob) (hf : ∀ x ∈ o.op.operands, Rel μ (ρ x) (a.eval x))
  (hpN : PreOK μ (H.pre e.foot) w) (hpl : e.up.plain = true ∨ isVal o.op = true) (hn : ∀ d, e.up.has d = true → new ≤ d → μ d = none) : OpRuns P o a w μ (H.pre e.foot) e.up e.v := by
 have hp := hpN.zero
 have hq : ∀ {b : Builtin}, c.callee = .builtin b → e.up.plain = true := fun hb => hpl.resolve_right (by rw [hc]; simp [isVal, hb])
 have hx : ∀ {b : Builtin} (hb : c.callee = .builtin b), ∃ cs, execOp a.eval o = builtin b c.argTypes o.type cs (c.args.map a.eval) := by
  intro b hb
  simp only [execOp, hc, resolve, hb, pure_bind, invoke]
  exact ⟨_, rfl⟩
 have hfa : ∀ x ∈ c.args.toList, Rel μ (ρ x) (a.eval x) := fun x hx => hf x (by
  rw [hc]
  simp only [Op.operands, Call.operands, Array.mem_append]
  exact .inr (Array.mem_toList_iff.1 hx))
 have hargs : ∀ {l : List Operand}, c.args.toList = l → c.args.map a.eval = (l.map a.eval).toArray := by
  intro l hl
  rw [← hl]
  apply Array.ext'
  simp
 unfold eCall at he
 split at he
 ·rename_i hb
  split at he <;> try cases he
  rename_i t x hat hl
  obtain ⟨h1, h2⟩ := eLen_ok (P := P) (ty := o.type) he hat (hfa x (by rw [hl]; simp)) hp
  rw [h2]
  refine OpRuns.val (by first | exact hq hb | rfl) h1 ?_
  obtain ⟨cs, hcs⟩ := hx hb
  rw [hcs, hargs hl]
  rfl
 ·rename_i hb
  split at he <;> try cases he
  rename_i st xt s x hat hl
  have hat' : c.argTypes = #[st, xt] := by apply Array.ext'; simpa using hat
  have h1 : Runs P (Builtin.append_ #[st, xt] o.type #[a.eval s, a.eval x]) μ w (H.pre e.foot) e.up e.v := by
   split at he
   ·exact eAppG_ok (P := P) (ty := o.type) he hob (hfa s (by rw [hl]; simp)) (hfa x (by rw [hl]; simp)) (fun h => hn new h (Nat.le_refl _)) hp
   ·exact eAppend_ok (P := P) (ty := o.type) he hob (hfa s (by rw [hl]; simp)) (hfa x (by rw [hl]; simp)) (fun h => hn new h (Nat.le_refl _)) hp
  refine OpRuns.val (by first | exact hq hb | rfl) h1 ?_
  obtain ⟨cs, hcs⟩ := hx hb
  rw [hcs, hargs hl, hat']
  rfl
 ·rename_i hb
  split at he <;> try cases he
  rename_i t d x hat hl
  have h1 := eCopy_ok (P := P) (ty := o.type) he hat hob (hfa d (by rw [hl]; simp)) (hfa x (by rw [hl]; simp)) hp
  refine OpRuns.val (by first | exact hq hb | rfl) h1 ?_
  obtain ⟨cs, hcs⟩ := hx hb
  rw [hcs, hargs hl]
  rfl
 ·rename_i hb
  split at he <;> try cases he
  rename_i t m k hat hl
  have h1 := eDelete_ok (P := P) (ty := o.type) he hat hob (hfa m (by rw [hl]; simp)) (hfa k (by rw [hl]; simp)) hp
  refine OpRuns.val (by first | exact hq hb | rfl) h1 ?_
  obtain ⟨cs, hcs⟩ := hx hb
  rw [hcs, hargs hl]
  rfl
 ·rename_i hb
  simp only [Option.map_eq_some_iff] at he
  obtain ⟨z, hz, rfl⟩ := he
  have key : ∃ v, (Builtin.min_ c.argTypes o.type (c.args.map a.eval)).run P w = .ok v w ∧ Rel μ z v := by
   rw [show c.args.map a.eval = (c.args.toList.map a.eval).toArray from hargs rfl]
   generalize c.args.toList = l at hz hfa
   unfold minMax3 at hz
   split at hz
   ·rename_i x y e
    match l, e with
    | [p, q], e =>
     simp only [List.map_cons, List.map_nil, List.cons.injEq, and_true] at e
     obtain ⟨rfl, rfl⟩ := e
     obtain ⟨v, h1, h2⟩ := (min2_ok (P := P) (w := w) hz (hfa p (by simp)) (hfa q (by simp))).1 rfl
     exact ⟨v, by simp [Builtin.min_, h1], h2⟩
   ·rename_i x y z' e
    split at hz <;> try cases hz
    rename_i m hm
    match l, e with
    | [p, q, r], e =>
     simp only [List.map_cons, List.map_nil, List.cons.injEq, and_true] at e
     obtain ⟨rfl, rfl, rfl⟩ := e
     obtain ⟨v, h1, h2⟩ := (min2_ok (P := P) (w := w) hm (hfa p (by simp)) (hfa q (by simp))).1 rfl
     obtain ⟨v', h3, h4⟩ := (min2_ok (P := P) (w := w) hz h2 (hfa r (by simp))).1 rfl
     exact ⟨v', by simp [Builtin.min_, h1, h3], h4⟩
   ·cases hz
  obtain ⟨v, h1, h2⟩ := key
  refine OpRuns.val (by first | exact hq hb | rfl) (Runs.same h1 h2) ?_
  obtain ⟨cs, hcs⟩ := hx hb
  rw [hcs]
  rfl
 ·rename_i hb
  simp only [Option.map_eq_some_iff] at he
  obtain ⟨z, hz, rfl⟩ := he
  have key : ∃ v, (Builtin.max_ c.argTypes o.type (c.args.map a.eval)).run P w = .ok v w ∧ Rel μ z v := by
   rw [show c.args.map a.eval = (c.args.toList.map a.eval).toArray from hargs rfl]
   generalize c.args.toList = l at hz hfa
   unfold minMax3 at hz
   split at hz
   ·rename_i x y e
    match l, e with
    | [p, q], e =>
     simp only [List.map_cons, List.map_nil, List.cons.injEq, and_true] at e
     obtain ⟨rfl, rfl⟩ := e
     obtain ⟨v, h1, h2⟩ := (min2_ok (P := P) (w := w) hz (hfa p (by simp)) (hfa q (by simp))).2 rfl
     exact ⟨v, by simp [Builtin.max_, h1], h2⟩
   ·rename_i x y z' e
    split at hz <;> try cases hz
    rename_i m hm
    match l, e with
    | [p, q, r], e =>
     simp only [List.map_cons, List.map_nil, List.cons.injEq, and_true] at e
     obtain ⟨rfl, rfl, rfl⟩ := e
     obtain ⟨v, h1, h2⟩ := (min2_ok (P := P) (w := w) hm (hfa p (by simp)) (hfa q (by simp))).2 rfl
     obtain ⟨v', h3, h4⟩ := (min2_ok (P := P) (w := w) hz h2 (hfa r (by simp))).2 rfl
     exact ⟨v', by simp [Builtin.max_, h1, h3], h4⟩
   ·cases hz
  obtain ⟨v, h1, h2⟩ := key
  refine OpRuns.val (by first | exact hq hb | rfl) (Runs.same h1 h2) ?_
  obtain ⟨cs, hcs⟩ := hx hb
  rw [hcs]
  rfl
 ·rename_i fo hb
  split at he <;> try cases he
  rename_i fid first cap hfo
  split at he
  ·cases he
   have hfr := hf fo (by rw [hc]; simp only [Op.operands, Call.operands, hb, Array.mem_append]; exact .inl (by simp))
   rw [hfo] at hfr
   obtain ⟨vf, vc, hev, rf, rc⟩ := hfr
   have hrl : RelL μ (first ++ c.args.toList.map ρ ++ cap) (vf.toList ++ c.args.toList.map a.eval ++ vc.toList) := (rf.append (opnds_rel' _ hfa)).append rc
   obtain ⟨x, h1, h2⟩ := hob μ w _ hrl
   refine .inl ⟨x, w, μ, .inl ?_, h2, Delta.refl μ w _⟩
   have hargs' : vf ++ c.args.map a.eval ++ vc = (vf.toList ++ c.args.toList.map a.eval ++ vc.toList).toArray := by
    apply Array.ext'; simp
   simp only [execOp, hc, resolve, hb, hev, Deferred.ofValue, Sem.run_bind, Sem.run_pure, Result.andThen_ok, invoke, hargs', h1]
  split at he <;> try cases he
  rename_i v pre up hcall
  split at he <;> try cases he
  rename_i hall
  suffices main : ∀ as, (FnTri P fid as pre v up ∧ LeL (first ++ c.args.toList.map ρ ++ cap) as ∧ PreAt H pre) → PreOK μ (H.pre (pre.map (·.1))) w → (∀ d, up.has d = true → new ≤ d → μ d = none) → OpRuns P o a w μ (H.pre (pre.map (·.1))) up v by
   split at he <;> cases he
   ·exact main _ ⟨hob.1, LeL.refl _, hob.2⟩ hpN hn
   ·exact main _ hob hpN hn
  intro as hob hpN hn
  obtain ⟨⟨⟨fn, hfn, hbody, hname⟩, tri⟩, hle, hpre⟩ := hob
  have hfr := hf fo (by rw [hc]; simp only [Op.operands, Call.operands, hb, Array.mem_append]; exact .inl (by simp))
  rw [hfo] at hfr
  obtain ⟨vf, vc, hev, rf, rc⟩ := hfr
  have hrl : RelL μ (first ++ c.args.toList.map ρ ++ cap) (vf.toList ++ c.args.toList.map a.eval ++ vc.toList) := (rf.append (opnds_rel' _ hfa)).append rc
  have hpre' : PreOK μ pre w := by
   have up' : ∀ d o', (d, o') ∈ pre → ∃ o'', LeP o'' o' ∧ (d, o'') ∈ H.pre (pre.map (·.1)) := by
    intro d o' hd
    obtain ⟨o'', h1, h2⟩ := hpre.get d o' hd
    exact ⟨o'', h2, Heap.mem_pre.2 ⟨List.mem_map.2 ⟨_, hd, rfl⟩, h1⟩⟩
   refine ⟨fun d o' hd => ?_, fun d o1 d' o2 p p' hd hd' hne hw => ?_, hpN.fro, fun d o1 p hd hw => ?_, hpN.tab, fun d o1 p hd hp1 => ?_, fun d o1 p b d' o2 p' hd hp1 hx hd' hp2 => ?_, fun d o1 p b hd hp1 hx => ?_⟩
   ·obtain ⟨o'', h2, h1⟩ := up' d o' hd
    exact (hpN.obj' d o'' h1).imp (fun ⟨x, y⟩ => ⟨x, h2.le.2.1 y⟩) (fun ⟨p, hp1, hp2⟩ => ⟨p, hp1, h2.le.2.2 _ _ _ hp2⟩)
   ·obtain ⟨o1', h2, h1⟩ := up' d o1 hd
    obtain ⟨o2', h4, h3⟩ := up' d' o2 hd'
    exact hpN.sep d o1' d' o2' p p' h1 h3 hne (hw.imp h2.le.1 h4.le.1)
   ·obtain ⟨o1', h2, h1⟩ := up' d o1 hd
    exact hpN.frs d o1' p h1 (h2.le.1 hw)
   ·obtain ⟨o1', h2, h1⟩ := up' d o1 hd
    exact h2.xok (hpN.xok d o1' p h1 hp1)
   ·obtain ⟨o1', h2, h1⟩ := up' d o1 hd
    obtain ⟨o2', h4, h3⟩ := up' d' o2 hd'
    have := hpN.xsep d o1' p b d' o2' p' h1 hp1 (h2.xtra hx) h3 hp2
    exact ⟨this.1, fun hne hx' => this.2 hne (h4.xtra hx')⟩
   ·obtain ⟨o1', h2, h1⟩ := up' d o1 hd
    exact hpN.xfrs d o1' p b h1 hp1 (h2.xtra hx)
  have hfits : Fits μ pre up := by
   intro d hd
   obtain ⟨o', ho'⟩ := Upd.has_iff.1 hd
   have := List.all_eq_true.1 hall _ ho'
   simp only [Bool.or_eq_true, List.any_eq_true, Bool.and_eq_true, beq_iff_eq, decide_eq_true_eq] at this
   rcases this with ⟨y, hy, e1, e2⟩ | h
   ·left; exact ⟨y.2, by rw [← e1]; exact hy, e2⟩
   ·right; exact hn d hd h
  refine .inr ⟨fid, (vf.toList ++ c.args.toList.map a.eval ++ vc.toList).toArray, ?_, ?_⟩
  ·have hargs' : vf ++ c.args.map a.eval ++ vc = (vf.toList ++ c.args.toList.map a.eval ++ vc.toList).toArray := by
    apply Array.ext'; simp
   have hb' : fn.body.isNone = false := by cases hq : fn.body <;> simp [hq] at hbody ⊢
   simp only [execOp, hc, resolve, hb, hev, Deferred.ofValue, Sem.run_bind, Sem.run_pure, Result.andThen_ok, invoke, callFunc, run_program, hfn, hname, Bool.false_eq_true, if_false, hb', hargs']
  ·refine (tri μ w _ (hle.rel hrl) hpre' hfits).mono fun en w' ⟨x, μ', h1, h2, h3⟩ => ⟨x, μ', h1, h2, ?_⟩
   have back : ∀ b, Tch μ w pre up b → Tch μ w (H.pre (pre.map (·.1))) up b := by
    rintro b ⟨d, o', p, hd, hw, hu, hm, hb⟩
    obtain ⟨o'', h1, h2⟩ := hpre.get d o' hd
    exact ⟨d, o'', p, Heap.mem_pre.2 ⟨List.mem_map.2 ⟨_, hd, rfl⟩, h1⟩, h2.le.1 hw, hu, hm, hb.imp id h2.xtra⟩
   exact { h3 with
    keep := fun b hb hk => h3.keep b hb (fun t => hk (back b t))
    place := fun d o' p hd hm => (h3.place d o' p hd hm).imp id (back _)
    frn := fun b cs hb => (h3.frn b cs hb).imp id (fun ⟨x, y⟩ => ⟨x, y.imp id (back _)⟩)
    frs := fun _ => h3.frs hpre'.froOK
    xplace := fun d o' p b hd hm hx => (h3.xplace d o' p b hd hm hx).imp id (back _)
    xfrs := fun _ => h3.xfrs hpre'.froOK }
 ·cases he
theorem eBox_up {new : Nat} {x : LV} {e : Eff} (h : eBox new x = some e) : e.up.has new = true := by
 unfold eBox at h
 split at h <;> cases h
 simp [Upd.has]
theorem eAlloc_up {new : Nat} {t : TypeId} {e : Eff} (h : eAlloc P new t = some e) : e.up.has new = true := by
 unfold eAlloc at h
 split at h <;> try cases h
 exact eBox_up h
theorem eBuildSlice_up {new n : Nat} {t : TypeId} {ps : List (Nat × LV)} {e : Eff} (h : eBuildSlice P new t n ps = some e) : e.up.has new = true := by
 unfold eBuildSlice at h
 split at h <;> try cases h
 split at h <;> try cases h
 split at h <;> cases h
 simp [Upd.has]
theorem eMakeMap_up {new : Nat} {t : TypeId} {e : Eff} (h : eMakeMap P new t = some e) : e.up.has new = true := by
 unfold eMakeMap at h
 split at h <;> try cases h
 split at h <;> cases h
 simp [Upd.has]
theorem eOp1_ok {H : Heap} {new : Nat} {h : Hint} {ρ : Operand → LV} {o : Oper} {e : Eff} {μ : Emb} {w : World} {a : Act} (he : eOp1 P H new h ρ o.op = some e) (hpl : e.up.plain = true ∨ isVal o.op = true) (hob : e.ob) (hf : ∀ x ∈ o.op.operands, Rel μ (ρ x) (a.eval x))
  (hpN : PreOK μ (H.pre e.foot) w) (hn : ∀ d, e.up.has d = true → new ≤ d → μ d = none) : OpRuns P o a w μ (H.pre e.foot) e.up e.v := by
 have hp := hpN.zero
 have hq : isVal o.op = false → e.up.plain = true := fun h => hpl.resolve_right (by rw [h]; decide)
 have hnew := fun h => hn new h (Nat.le_refl _)
 have hf0 := hf
 cases hop : o.op <;> rw [hop] at he hf <;> simp only [eOp1] at he <;> simp only [Op.operands] at hf
 case move x => cases he; exact OpRuns.pure (hf x (by simp)) (by simp [execOp, hop])
 case assign x => cases he; exact OpRuns.pure (hf x (by simp)) (by simp [execOp, hop])
 case pick c x y =>
  have hc := hf c (by simp)
  split at he <;> cases he
  ·rename_i hcv
   rw [hcv] at hc; simp only [Rel] at hc
   exact OpRuns.pure (hf x (by simp)) (by simp [execOp, hop, hc, asBool])
  ·rename_i hcv
   rw [hcv] at hc; simp only [Rel] at hc
   exact OpRuns.pure (hf y (by simp)) (by simp [execOp, hop, hc, asBool])
 case alloc t =>
  obtain ⟨h1, h2⟩ := eAlloc_ok (P := P) (w := w) (pre := H.pre e.foot) he (hnew (eAlloc_up he))
  exact OpRuns.val (by first | exact hq (by rw [hop]; rfl) | rfl) h1 (by simp [execOp, hop])
 case box t x =>
  obtain ⟨h1, h2⟩ := eBox_ok (P := P) (t := t) (w := w) (pre := H.pre e.foot) he (hf x (by simp)) (hnew (eBox_up he))
  exact OpRuns.val (by first | exact hq (by rw [hop]; rfl) | rfl) h1 (by simp [execOp, hop])
 case build t ps =>
  have hps := parts_rel (μ := μ) (ρ := ρ) (a := a) ps.toList (fun p hp => hf p.2 (by simp only [List.mem_toArray, List.mem_map]; exact ⟨p, hp, rfl⟩))
  have e1 : (ps.map fun (p : Nat × Operand) => (p.1, a.eval p.2)).toList = ps.toList.map fun p => (p.1, a.eval p.2) := by simp
  obtain ⟨h1, h2, h3⟩ := eBuild_ok (P := P) (vparts := ps.map fun p => (p.1, a.eval p.2)) (w := w) (pre := H.pre e.foot) he hob (by rw [e1]; exact hps)
  exact OpRuns.val (by first | exact hq (by rw [hop]; rfl) | rfl) h1 (by simp [execOp, hop])
 case buildSlice t n ps =>
  have hps := parts_rel (μ := μ) (ρ := ρ) (a := a) ps.toList (fun p hp => hf p.2 (by simp only [List.mem_toArray, List.mem_map]; exact ⟨p, hp, rfl⟩))
  have e1 : (ps.map fun (p : Nat × Operand) => (p.1, a.eval p.2)).toList = ps.toList.map fun p => (p.1, a.eval p.2) := by simp
  obtain ⟨h1, h2⟩ := eBuildSlice_ok (P := P) (vparts := ps.map fun p => (p.1, a.eval p.2)) (w := w) (pre := H.pre e.foot) he hob (hnew (eBuildSlice_up he)) (by rw [e1]; exact hps)
  exact OpRuns.val (by first | exact hq (by rw [hop]; rfl) | rfl) h1 (by simp [execOp, hop])
 case load t x => exact OpRuns.val (by first | exact hq (by rw [hop]; rfl) | rfl) (eLoad_ok (P := P) he hob (hf x (by simp)) hp) (by simp [execOp, hop])
 case store t x y =>
  obtain ⟨w', h1, h2⟩ := eStore_ok (P := P) he hob (hf x (by simp)) (hf y (by simp)) hp
  have hv : e.v = .any := by
   unfold eStore at he
   split at he <;> try cases he
   split at he <;> try cases he
   split at he <;> cases he <;> rfl
  rw [hv]
  exact OpRuns.unit (hq (by rw [hop]; rfl)) h1 h2 (by simp [execOp, hop])
 case nilCheck x =>
  have hx := hf x (by simp)
  split at he <;> cases he
  rename_i hnn
  refine OpRuns.pure hx ?_
  cases hv : ρ x <;> rw [hv] at hx hnn <;> simp only [nonNil, Bool.false_eq_true] at hnn
  ·obtain ⟨p, _, e1⟩ := hx; simp [execOp, hop, e1]
  ·obtain ⟨p, q, e1, _⟩ := hx; simp [execOp, hop, e1]
 case binOp op t x y t' =>
  obtain ⟨h1, h2, h3⟩ := eBin_ok (P := P) (ox := x) (oy := y) (w := w) (pre := H.pre e.foot) he hob (hf x (by simp)) (hf y (by simp))
  rw [h2]
  exact OpRuns.val (by first | exact hq (by rw [hop]; rfl) | rfl) h1 (by simp [execOp, hop])
 case unOp op t x =>
  obtain ⟨h1, h2, h3⟩ := eUn_ok (P := P) (w := w) (pre := H.pre e.foot) he (hf x (by simp))
  rw [h2]
  exact OpRuns.val (by first | exact hq (by rw [hop]; rfl) | rfl) h1 (by simp [execOp, hop])
 case convert s d x =>
  split at he
  ·rename_i e' he'
   cases he
   obtain ⟨h1, h2, h3⟩ := eConv_ok (P := P) (w := w) (pre := H.pre e.foot) he' (hf x (by simp))
   rw [h2]
   exact OpRuns.val (by first | exact hq (by rw [hop]; rfl) | rfl) h1 (by simp [execOp, hop])
  ·exact OpRuns.val (by first | exact hq (by rw [hop]; rfl) | rfl) (eConvM_ok (P := P) he hob (hf x (by simp)) hnew hp) (by simp [execOp, hop])
 case makeFunc fn first cap =>
  cases fn <;> simp only [reduceCtorEq] at he
  cases he
  exact OpRuns.pure (x := .func (.func _) (first.map a.eval) (cap.map a.eval)) ⟨_, _, rfl, by simpa using opnds_rel' (μ := μ) (ρ := ρ) (a := a) first.toList (fun x hx => hf x (by simp only [Array.mem_append]; exact .inl (Array.mem_toList_iff.1 hx))), by simpa using opnds_rel' (μ := μ) (ρ := ρ) (a := a) cap.toList (fun x hx => hf x (by simp only [Array.mem_append]; exact .inr (Array.mem_toList_iff.1 hx)))⟩ (by simp [execOp, hop, Instr.makeFunc])
 case makeMap t r =>
  cases r <;> simp only [reduceCtorEq] at he
  obtain ⟨h1, h2⟩ := eMakeMap_ok (P := P) (r := none) (w := w) (pre := H.pre e.foot) he (hnew (eMakeMap_up he)) (fun v h => by cases h)
  exact OpRuns.val (by first | exact hq (by rw [hop]; rfl) | rfl) h1 (by simp [execOp, hop])
 case slice t x lo hi mx =>
  have rlo := opt_rel (μ := μ) (ρ := ρ) (a := a) lo (fun y hy => hf y (by subst hy; simp))
  have rhi := opt_rel (μ := μ) (ρ := ρ) (a := a) hi (fun y hy => hf y (by subst hy; simp))
  have rmx := opt_rel (μ := μ) (ρ := ρ) (a := a) mx (fun y hy => hf y (by subst hy; simp))
  obtain ⟨h1, h2⟩ := eSlice_ok (P := P) he hob (hf x (by simp)) (rlo).1 (rlo).2 (rhi).1 (rhi).2 (rmx).1 (rmx).2 hp
  rw [h1]
  exact OpRuns.val (by first | exact hq (by rw [hop]; rfl) | rfl) h2 (by simp [execOp, hop])
 case fieldAddr t x f =>
  obtain ⟨h1, h2, h3⟩ := eFieldAddr_ok (P := P) (w := w) (pre := H.pre e.foot) he (hf x (by simp))
  rw [h1]
  exact OpRuns.val (by first | exact hq (by rw [hop]; rfl) | rfl) h3 (by simp [execOp, hop])
 case field t x f =>
  obtain ⟨h1, h2, h3⟩ := eField_ok (P := P) (w := w) (pre := H.pre e.foot) he hob (hf x (by simp))
  rw [h1]
  exact OpRuns.val (by first | exact hq (by rw [hop]; rfl) | rfl) h3 (by simp [execOp, hop])
 case indexAddr t x i =>
  obtain ⟨h1, h2⟩ := eIndexAddr_ok (P := P) he hob (hf x (by simp)) (hf i (by simp)) hp
  rw [h1]
  exact OpRuns.val (by first | exact hq (by rw [hop]; rfl) | rfl) h2 (by simp [execOp, hop])
 case index t x i =>
  obtain ⟨h1, h2, h3⟩ := eIndex_ok (P := P) (w := w) (pre := H.pre e.foot) he hob (hf x (by simp)) (hf i (by simp))
  rw [h1]
  exact OpRuns.val (by first | exact hq (by rw [hop]; rfl) | rfl) h3 (by simp [execOp, hop])
 case lookup t m k ok =>
  obtain ⟨h1, h2⟩ := eLookup_ok (P := P) he hob (hf m (by simp)) (hf k (by simp)) hp
  rw [h2]
  exact OpRuns.val (by first | exact hq (by rw [hop]; rfl) | rfl) h1 (by simp [execOp, hop])
 case mapUpdate t m k v =>
  obtain ⟨w', h1, h2⟩ := eMapUpdate_ok (P := P) he hob (hf m (by simp)) (hf k (by simp)) (hf v (by simp)) hp
  have hv : e.v = .any := by
   unfold eMapUpdate at he
   split at he <;> try cases he
   split at he <;> try cases he
   split at he <;> cases he; rfl
  rw [hv]
  exact OpRuns.unit (hq (by rw [hop]; rfl)) h1 h2 (by simp [execOp, hop])
 case insert t m k v =>
  obtain ⟨w', h1, h2⟩ := eMapUpdate_ok (P := P) he hob (hf m (by simp)) (hf k (by simp)) (hf v (by simp)) hp
  have hv : e.v = .any := by
   unfold eMapUpdate at he
   split at he <;> try cases he
   split at he <;> try cases he
   split at he <;> cases he; rfl
  rw [hv]
  exact OpRuns.unit (hq (by rw [hop]; rfl)) h1 h2 (by simp [execOp, hop])
 case extract x i =>
  obtain ⟨h1, h2, h3⟩ := eExtract_ok (P := P) (w := w) (pre := H.pre e.foot) he (hf x (by simp))
  rw [h2]
  exact OpRuns.val (by first | exact hq (by rw [hop]; rfl) | rfl) h1 (by simp [execOp, hop])
 case call c => exact eCall_ok hop he hob hf0 hpN hpl hn
 all_goals cases he
theorem updP_runs {H : Heap} {t : TypeId} {o : Oper} {m k v : LV} {vm vk vv : Value} {e : Eff} {μ : Emb} {w : World} {a : Act} (he : eUpdP P H t m k v = some e) (hob : e.ob) (hm : Rel μ m vm) (hk : Rel μ k vk) (hv : Rel μ v vv)
  (hp : PreOK μ (H.pre e.foot) w) (hx : execOp a.eval o = (do Instr.mapUpdate t vm vk vv; Pure.pure .skip)) : OpRuns P o a w μ (H.pre e.foot) e.up e.v := by
 obtain ⟨w', h1, h2⟩ := eUpdP_ok (P := P) he hob hm hk hv hp
 have hv : e.v = .any := by
  unfold eUpdP at he
  split at he <;> try cases he
  split at he <;> try cases he
  split at he <;> cases he
  rfl
 rw [hv]
 refine .inl ⟨undef, w', μ, .inr ⟨?_, rfl⟩, trivial, h2⟩
 simp [hx, h1]
theorem eCallX_ok {H : Heap} {h : Hint} {ρ : Operand → LV} {c : Call} {o : Oper} {e : Eff} {μ : Emb} {w : World} {a : Act} (hc : o.op = .call c) (he : eCallX P H h ρ c = some e) (hob : e.ob) (hf : ∀ x ∈ c.operands, Rel μ (ρ x) (a.eval x))
  (hp : PreOK μ (H.pre e.foot) w) : OpRuns P o a w μ (H.pre e.foot) e.up e.v := by
 have hx : ∀ {b : Builtin} (hb : c.callee = .builtin b), ∃ cs, execOp a.eval o = builtin b c.argTypes o.type cs (c.args.map a.eval) := by
  intro b hb
  simp only [execOp, hc, resolve, hb, pure_bind, invoke]
  exact ⟨_, rfl⟩
 have hfa : ∀ x ∈ c.args.toList, Rel μ (ρ x) (a.eval x) := fun x hx => hf x (by
  simp only [Call.operands, Array.mem_append]
  exact .inr (Array.mem_toList_iff.1 hx))
 have hargs : ∀ {l : List Operand}, c.args.toList = l → c.args.map a.eval = (l.map a.eval).toArray := by
  intro l hl
  rw [← hl]
  apply Array.ext'
  simp
 unfold eCallX at he
 split at he
 ·rename_i hb
  split at he <;> try cases he
  rename_i t x hat hl
  obtain ⟨h1, h2⟩ := eLenP_ok (P := P) (ty := o.type) he hat (hfa x (by rw [hl]; simp)) hp
  rw [h2]
  refine OpRuns.val rfl h1 ?_
  obtain ⟨cs, hcs⟩ := hx hb
  rw [hcs, hargs hl]
  rfl
 ·rename_i hb
  split at he <;> try cases he
  rename_i t m k hat hl
  have h1 : RunsX P (Builtin.delete_ c.argTypes o.type #[a.eval m, a.eval k]) μ w (H.pre e.foot) e.up e.v := by
   split at he
   ·exact eDelP_ok (P := P) (ty := o.type) he hat hob (hfa m (by rw [hl]; simp)) (hfa k (by rw [hl]; simp)) hp
   ·exact eDelMit_ok (P := P) (ty := o.type) he hat hob (hfa m (by rw [hl]; simp)) (hfa k (by rw [hl]; simp)) hp
  refine OpRuns.valX h1 ?_
  obtain ⟨cs, hcs⟩ := hx hb
  rw [hcs, hargs hl]
  rfl
 ·cases he
theorem eOp_ok {H : Heap} {new : Nat} {h : Hint} {ρ : Operand → LV} {o : Oper} {e : Eff} {μ : Emb} {w : World} {a : Act} (he : eOp P H new h ρ o.op = some e) (hob : e.ob) (hf : ∀ x ∈ o.op.operands, Rel μ (ρ x) (a.eval x))
  (hp : PreOK μ (H.pre e.foot) w) (hn : ∀ d, e.up.has d = true → new ≤ d → μ d = none) : OpRuns P o a w μ (H.pre e.foot) e.up e.v := by
 unfold eOp at he
 split at he
 ·rename_i e' he'
  split at he <;> cases he
  rename_i hc
  exact eOp1_ok he' (by simpa using hc) hob hf hp hn
 ·cases hop : o.op <;> rw [hop] at he hf <;> simp only [eOpX, reduceCtorEq] at he <;> simp only [Op.operands] at hf
  case range t x =>
   have hnew : μ new = none := by
    refine hn new ?_ (Nat.le_refl _)
    unfold eRangeM at he
    split at he <;> try cases he
    split at he <;> cases he
    simp [Upd.has]
   exact OpRuns.valX (eRangeM_ok (P := P) he (hf x (by simp)) hp hnew) (by simp [execOp, hop])
  case entry x => exact OpRuns.valX (eEntry_ok (P := P) he (hf x (by simp)) hp) (by simp [execOp, hop])
  case lookup t m k ok =>
   obtain ⟨h1, h2⟩ := eLookupP_ok (P := P) he hob (hf m (by simp)) (hf k (by simp)) hp
   rw [h2]
   exact OpRuns.val rfl h1 (by simp [execOp, hop])
  case mapUpdate t m k v => exact updP_runs (P := P) he hob (hf m (by simp)) (hf k (by simp)) (hf v (by simp)) hp (by simp [execOp, hop])
  case insert t m k v => exact updP_runs (P := P) he hob (hf m (by simp)) (hf k (by simp)) (hf v (by simp)) hp (by simp [execOp, hop])
  case call c => exact eCallX_ok hop he hob (fun x hx => hf x (by simpa using hx)) hp
end
end Go.Cn
