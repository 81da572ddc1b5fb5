import Derived.Test.YtddgjfclpknkcaaGreatDoorCnN
namespace Go.Cn
open Go
structure Ent where
 dst : Option Tmp
 rd : List Tmp
 v : LV
 foot : List Nat
 up : Upd
def Ent.putT (e : Ent) (T : List LV) : List LV :=
 match e.dst with
 | some d => T.set d e.v
 | none => T
def rowF {α : Type} (enc : α → List LV) (d : α) (l : List α) (i : Nat) : List LV := enc (l.getD i d)
def LO.Sub (a b : LO) : Prop := a.wr = b.wr ∧ (a.void → b.void) ∧ ∀ μ p h, ObjOK μ p h a → ObjOK μ p h b
theorem LO.Sub.refl (a : LO) : a.Sub a := ⟨rfl, id, fun _ _ _ => id⟩
theorem ObjEq.sub {a b : LO} (h : ObjEq a b) : a.Sub b := ⟨h.wr, h.void, fun _ _ _ => ObjOK.eqv h⟩
def LO.SubP (a b : LO) : Prop := match b.plain with | true => LO.Sub a b | false => a = b
theorem LO.SubP.sub {a b : LO} (h : LO.SubP a b) : LO.Sub a b := by
 unfold LO.SubP at h
 split at h
 ·exact h
 ·exact h ▸ LO.Sub.refl a
theorem LO.SubP.or {a b : LO} (h : LO.SubP a b) : b.plain = true ∨ a = b := by
 unfold LO.SubP at h
 split at h
 ·rename_i e; exact .inl e
 ·exact .inr h
theorem LO.SubP.refl (a : LO) : a.SubP a := by
 unfold LO.SubP
 split
 ·exact LO.Sub.refl a
 ·rfl
theorem LO.SubP.xok {a b : LO} (h : LO.SubP a b) {μ : Emb} {w : World} {p : Pl} (r : XOK μ w p a) : XOK μ w p b := h.or.elim XOK.plain (fun e => e ▸ r)
theorem LO.SubP.xtra {a b : LO} (h : LO.SubP a b) {μ : Emb} {w : World} {p : Pl} {x : Nat} (r : Xtra μ w p b x) : Xtra μ w p a x := h.or.elim (fun e => absurd r (Xtra.plain e)) (fun e => e ▸ r)
theorem LO.Sub.of_eq {a b : LO} (h : a = b) : a.Sub b := h ▸ LO.Sub.refl a
theorem LeL.length : ∀ {l m : List LV}, LeL l m → m.length = l.length
 | [], [], _ => rfl
 | _ :: _, _ :: _, h => by simp [LeL.length h.2]
 | [], _ :: _, h => h.elim
 | _ :: _, [], h => h.elim
theorem LO.Sub.var {a b : List LV} (h : LeL a b) : (LO.var a).Sub (.var b) :=
 ⟨rfl, id, fun μ p x ⟨h1, h2, cells, E, fr, h3, h4, h5, vs, h6, h7⟩ => ⟨h1, by rw [h.length]; exact h2, cells, E, fr, h3, h4, h5, vs, h.rel h6, h7⟩⟩
def ovUp (R : LO → LO → Prop) (os : List (Nat × LO)) : Upd → Prop × Upd
 | [] => (True, [])
 | (c, none) :: r => ((ovUp R os r).1, (c, none) :: (ovUp R os r).2)
 | (c, some o) :: r =>
  match os.find? (·.1 == c) with
  | some x => ((match x.2.plain with | true => R o x.2 | false => o = x.2) ∧ (ovUp R os r).1, (c, some x.2) :: (ovUp R os r).2)
  | none => ((ovUp R os r).1, (c, some o) :: (ovUp R os r).2)
def slotsOf (xs : List Operand) : List Tmp := xs.filterMap fun
 | .tmp t => some t
 | _ => none
def told (h : Hint) (e : Eff) : Prop × LV × Upd :=
 match h.v with
 | some u => (e.ob ∧ LV.Le e.v u ∧ (ovUp LO.Sub h.os e.up).1, u, (ovUp LO.Sub h.os e.up).2)
 | none => (e.ob ∧ (ovUp LO.Sub h.os e.up).1, e.v, (ovUp LO.Sub h.os e.up).2)
def fzTo (h : Hint) (e : Eff) : Option (Prop × LV × Upd) :=
 if h.fz then
  match fzRes (told h e).2.2 (told h e).2.1 with
  | some (q, u, c) => some ((told h e).1 ∧ q, u, upDrop c (told h e).2.2)
  | none => none
 else some (told h e)
def runOp (P : Program) (H : Heap) (T : List LV) (o : Oper) (h : Hint) (gs : List Tmp) : Option (Prop × Ent) :=
 match eOp P H H.length h (opnd T) o.op with
 | some e =>
  match fzTo h e with
  | some (q, v, up) => some (q, ⟨o.dst, gs ++ slotsOf o.op.operands.toList, v, e.foot, up⟩)
  | none => none
 | none => none
def stepOp (P : Program) (ops : Array Oper) (H : Heap) (T : List LV) (o : Oper) (h : Hint) : Option (Prop × Ent) :=
 match o.guard with
 | none => runOp P H T o h []
 | some (j, want) =>
  match (ops[j]?).bind (·.dst) with
  | some d =>
   match T[d]? with
   | some (.bool b) => if b == want then runOp P H T o h [d] else some (True, ⟨o.dst, [d], .tup [], [], []⟩)
   | some (.tup []) => some (True, ⟨o.dst, [d], .tup [], [], []⟩)
   | _ => none
  | none => none
section
variable {P : Program}
theorem ovUp_has (R : LO → LO → Prop) (os : List (Nat × LO)) (c : Nat) : ∀ (up : Upd), Upd.has (ovUp R os up).2 c = up.has c
 | [] => rfl
 | (d, none) :: r => by
  have := ovUp_has R os c r
  simp only [Upd.has] at this ⊢
  simp [ovUp, this]
 | (d, some o) :: r => by
  have := ovUp_has R os c r
  simp only [Upd.has] at this ⊢
  unfold ovUp
  split <;> simp [this]
theorem ovUp_mem {R : LO → LO → Prop} (hR : ∀ a b, R a b → LO.Sub a b) (os : List (Nat × LO)) : ∀ (up : Upd), (ovUp R os up).1 → ∀ c o, (c, some o) ∈ (ovUp R os up).2 → ∃ o0, (c, some o0) ∈ up ∧ LO.Sub o0 o ∧ (o.plain = true ∨ o0 = o)
 | [], _, c, o, h => by simp [ovUp] at h
 | (d, none) :: r, hq, c, o, h => by
  simp only [ovUp, List.mem_cons, Prod.mk.injEq, reduceCtorEq, and_false, false_or] at h hq
  obtain ⟨o0, h1, h2⟩ := ovUp_mem hR os r hq c o h
  exact ⟨o0, List.mem_cons_of_mem _ h1, h2⟩
 | (d, some o') :: r, hq, c, o, h => by
  unfold ovUp at h hq
  split at h
  ·rename_i x hx
   simp only [hx] at hq
   rcases List.mem_cons.1 h with h | h
   ·simp only [Prod.mk.injEq, Option.some.injEq] at h
    obtain ⟨rfl, rfl⟩ := h
    have h1 := hq.1
    split at h1
    ·rename_i e; exact ⟨o', List.mem_cons_self, hR _ _ h1, .inl e⟩
    ·exact ⟨o', List.mem_cons_self, h1 ▸ LO.Sub.refl _, .inr h1⟩
   ·obtain ⟨o0, h1, h2⟩ := ovUp_mem hR os r hq.2 c o h
    exact ⟨o0, List.mem_cons_of_mem _ h1, h2⟩
  ·rename_i hx
   simp only [hx] at hq
   rcases List.mem_cons.1 h with h | h
   ·simp only [Prod.mk.injEq, Option.some.injEq] at h
    obtain ⟨rfl, rfl⟩ := h
    exact ⟨o, List.mem_cons_self, LO.Sub.refl o, .inr rfl⟩
   ·obtain ⟨o0, h1, h2⟩ := ovUp_mem hR os r hq c o h
    exact ⟨o0, List.mem_cons_of_mem _ h1, h2⟩
theorem tch_ov {R : LO → LO → Prop} {os : List (Nat × LO)} {μ : Emb} {w : World} {pre : Pre} {up : Upd} {b : Nat} : Tch μ w pre (ovUp R os up).2 b ↔ Tch μ w pre up b := by
 constructor <;> rintro ⟨e, o, p, h1, h2, h3, h4⟩
 ·exact ⟨e, o, p, h1, h2, by rw [ovUp_has] at h3; exact h3, h4⟩
 ·exact ⟨e, o, p, h1, h2, by rw [ovUp_has]; exact h3, h4⟩
theorem Delta.ov {R : LO → LO → Prop} (hR : ∀ a b, R a b → LO.Sub a b) {μ μ' : Emb} {w w' : World} {pre : Pre} {up : Upd} {os : List (Nat × LO)} (d : Delta μ w pre up μ' w') (hq : (ovUp R os up).1) : Delta μ w pre (ovUp R os up).2 μ' w' :=
 have mem := fun c o (h : (c, some o) ∈ (ovUp R os up).2) => ovUp_mem hR os up hq c o h
 have xx : ∀ {o0 o : LO} {p : Pl} {b : Nat}, (o.plain = true ∨ o0 = o) → Xtra μ' w' p o b → Xtra μ' w' p o0 b := fun h hx => h.elim (fun e => absurd hx (Xtra.plain e)) (fun e => e ▸ hx)
 {ext := d.ext
  dom := fun c p h => by rw [ovUp_has]; exact d.dom c p h
  os := d.os
  tape := d.tape
  output := d.output
  draws := d.draws
  grow := d.grow
  keep := fun b hb hk => d.keep b hb (fun t => hk (tch_ov.2 t))
  obj := fun c o h => by
   obtain ⟨o0, h1, h2, _⟩ := mem c o h
   exact (d.obj c o0 h1).imp (fun ⟨x, y⟩ => ⟨x, h2.2.1 y⟩) (fun ⟨p, h3, h4⟩ => ⟨p, h3, h2.2.2 _ _ _ h4⟩)
  place := fun c o p h hp => by
   obtain ⟨o0, h1, _⟩ := mem c o h
   exact (d.place c o0 p h1 hp).imp id tch_ov.2
  sep := fun c o c' o' p p' h h' hne hw => by
   obtain ⟨o0, h1, h2, _⟩ := mem c o h
   obtain ⟨o0', h1', h2', _⟩ := mem c' o' h'
   exact d.sep c o0 c' o0' p p' h1 h1' hne (by rw [h2.1, h2'.1]; exact hw)
  frn := fun b cs hb => (d.frn b cs hb).imp id (fun ⟨x, y⟩ => ⟨x, y.imp id tch_ov.2⟩)
  frs := fun hf c o p h hw => by
   obtain ⟨o0, h1, h2, _⟩ := mem c o h
   exact d.frs hf c o0 p h1 (by rw [h2.1]; exact hw)
  xok := fun c o p h hp => by
   obtain ⟨o0, h1, _, h3⟩ := mem c o h
   exact h3.elim XOK.plain (fun e => e ▸ d.xok c o0 p h1 hp)
  xplace := fun c o p b h hp hx => by
   obtain ⟨o0, h1, _, h3⟩ := mem c o h
   exact (d.xplace c o0 p b h1 hp (xx h3 hx)).imp id tch_ov.2
  xsep := fun c o p b c' o' p' h hp hx h' hp' => by
   obtain ⟨o0, h1, _, h3⟩ := mem c o h
   obtain ⟨o0', h1', _, h3'⟩ := mem c' o' h'
   have := d.xsep c o0 p b c' o0' p' h1 hp (xx h3 hx) h1' hp'
   exact ⟨this.1, fun hne hx' => this.2 hne (xx h3' hx')⟩
  xfrs := fun hf c o p b h hp hx => by
   obtain ⟨o0, h1, _, h3⟩ := mem c o h
   exact d.xfrs hf c o0 p b h1 hp (xx h3 hx) }
theorem runOp_inv {H : Heap} {T : List LV} {o : Oper} {h : Hint} {gs : List Tmp} {q : Prop} {e : Ent} (hr : runOp P H T o h gs = some (q, e)) :
  ∃ ef, eOp P H H.length h (opnd T) o.op = some ef ∧ fzTo h ef = some (q, e.v, e.up) ∧ e.dst = o.dst ∧ e.rd = gs ++ slotsOf o.op.operands.toList ∧ e.foot = ef.foot := by
 unfold runOp at hr
 split at hr <;> try cases hr
 rename_i ef he
 split at hr <;> cases hr
 rename_i hf
 exact ⟨ef, he, hf, rfl, rfl, rfl⟩
theorem told_has (h : Hint) (e : Eff) (d : Nat) : (told h e).2.2.has d = e.up.has d := by
 unfold told
 split <;> exact ovUp_has _ _ _ _
theorem fzTo_has {h : Hint} {e : Eff} {q : Prop} {v : LV} {up : Upd} (hf : fzTo h e = some (q, v, up)) (d : Nat) : up.has d = e.up.has d := by
 unfold fzTo at hf
 split at hf
 ·split at hf <;> cases hf
  rw [upDrop_has, told_has]
 ·have e1 := Option.some.inj hf
  have := told_has h e d
  rw [e1] at this; exact this
theorem told_ok {h : Hint} {e : Eff} {μ μ' : Emb} {w w' : World} {pre : Pre} {x : Value} (hq : (told h e).1) (d : Delta μ w pre e.up μ' w') (hx : Rel μ' e.v x) :
  e.ob ∧ Delta μ w pre (told h e).2.2 μ' w' ∧ Rel μ' (told h e).2.1 x := by
 unfold told at hq ⊢
 split at hq
 ·exact ⟨hq.1, d.ov (fun _ _ h => h) hq.2.2, hq.2.1 _ _ hx⟩
 ·exact ⟨hq.1, d.ov (fun _ _ h => h) hq.2, hx⟩
theorem fzTo_ob {h : Hint} {e : Eff} {q : Prop} {v : LV} {up : Upd} (hf : fzTo h e = some (q, v, up)) (hq : q) : e.ob := by
 have : (told h e).1 → e.ob := by
  unfold told
  split <;> exact fun h => h.1
 unfold fzTo at hf
 split at hf
 ·split at hf <;> cases hf
  exact this hq.1
 ·have e1 : (told h e).1 = q := by have := Option.some.inj hf; rw [this]
  exact this (e1 ▸ hq)
theorem fzTo_ok {h : Hint} {e : Eff} {q : Prop} {v : LV} {up : Upd} {μ μ' : Emb} {w w' : World} {pre : Pre} {x : Value} (hf : fzTo h e = some (q, v, up)) (hq : q) (d : Delta μ w pre e.up μ' w') (hp : FroOK μ pre w) (hx : Rel μ' e.v x) :
  ∃ μ'', Delta μ w pre up μ'' w' ∧ Rel μ'' v x := by
 unfold fzTo at hf
 split at hf
 ·split at hf <;> cases hf
  rename_i c hr
  obtain ⟨_, k1, k2⟩ := told_ok hq.1 d hx
  exact fzRes_ok hr hq.2 k1 hp k2
 ·have e1 := Option.some.inj hf
  have hq' : (told h e).1 := by rw [e1]; exact hq
  obtain ⟨_, k1, k2⟩ := told_ok hq' d hx
  rw [e1] at k1 k2
  exact ⟨μ', k1, k2⟩
structure Needs (μ : Emb) (H : Heap) (T : List LV) (e : Ent) (a : Act) (w : World) : Prop where
 rd : ∀ t l, t ∈ e.rd → T[t]? = some l → Rel μ l (a.tmps.getD t undef) ∧ t < a.tmps.size
 pre : PreOK μ (H.pre e.foot) w
 free : ∀ d, e.up.has d = true → H.length ≤ d → μ d = none
theorem runs_wp {o : Oper} {a : Act} {w : World} {μ : Emb} {pre : Pre} {up : Upd} {v : LV} {K : Act → World → Prop} {Q : Exit → Act → World → Prop} (h : OpRuns P o a w μ pre up v)
  (hK : ∀ x w' μ', Rel μ' v x → Delta μ w pre up μ' w' → K (a.put o.dst x) w') : o.wp P a w K Q := by
 unfold Oper.wp
 rcases h with ⟨x, w', μ', h1, h2, h3⟩ | ⟨f, vals, h1, h2⟩
 ·rcases h1 with h1 | ⟨h1, rfl⟩
  ·rw [h1, Oper.upon_value]; exact hK x w' μ' h2 h3
  ·rw [h1, Oper.upon_skip]; exact hK undef w' μ' h2 h3
 ·rw [h1, Oper.upon_enter]
  refine h2.mono fun en w' ⟨x, μ', e1, e2, e3⟩ => ?_
  subst e1
  exact hK x w' μ' e2 e3
theorem stepOp_ok {ops : Array Oper} {H : Heap} {T : List LV} {i : Nat} {o : Oper} {h : Hint} {q : Prop} {e : Ent} {μ : Emb} {a : Act} {w : World} {K : Act → World → Prop} {Q : Exit → Act → World → Prop}
  (hs : stepOp P ops H T o h = some (q, e)) (hq : q) (hi : ops[i]? = some o) (hn : Needs μ H T e a w)
  (hK : ∀ x w' μ', Rel μ' e.v x → Delta μ w (H.pre e.foot) e.up μ' w' → K (a.put o.dst x) w') : wpOp P ops Q i K a w ∧ e.dst = o.dst := by
 have run : ∀ gs, (∀ t ∈ gs, t ∈ e.rd) → runOp P H T o h gs = some (q, e) → (o.wp P a w K Q) ∧ e.dst = o.dst := by
  intro gs hgs hr
  obtain ⟨ef, he, hf, e1, e2, e3⟩ := runOp_inv hr
  have h1 := fzTo_ob hf hq
  have hops : ∀ x ∈ o.op.operands, Rel μ (opnd T x) (a.eval x) := by
   intro x hx
   cases x with
   | tmp t =>
    simp only [opnd, Act.eval]
    cases ht : T[t]? with
    | none => simp [Rel]
    | some l =>
     have hmem : t ∈ slotsOf o.op.operands.toList := List.mem_filterMap.2 ⟨.tmp t, Array.mem_toList_iff.2 hx, rfl⟩
     simpa using (hn.rd t l (by rw [e2]; exact List.mem_append.2 (.inr hmem)) ht).1
   | const v =>
    simp only [opnd, Act.eval]
    cases hv : ofV v with
    | none => simp [Rel]
    | some l => simpa using ofV_rel hv μ
   | global g => simp [opnd, Rel]
   | func f => exact ⟨#[], #[], rfl, rfl, rfl⟩
  have hpre := hn.pre
  rw [e3] at hpre
  have hr := eOp_ok (P := P) (w := w) he h1 hops hpre (fun d hd hl => hn.free d (by rw [fzTo_has hf]; exact hd) hl)
  refine ⟨runs_wp hr (fun x w' μ' hx hd => ?_), e1⟩
  obtain ⟨μ'', k1, k2⟩ := fzTo_ok hf hq hd hpre.froOK hx
  refine hK x w' μ'' k2 ?_
  rw [e3]
  exact k1
 unfold stepOp at hs
 split at hs
 ·rename_i hg
  obtain ⟨h1, h2⟩ := run [] (fun _ h => by cases h) hs
  refine ⟨?_, h2⟩
  unfold wpOp
  simp only [hi, Region.wanted, hg, if_true]
  exact .inl h1
 ·rename_i j want hg
  split at hs <;> try cases hs
  rename_i d hd
  have skip : (∀ b, yielded ops a.tmps j = some b → (b == want) = false) → (True, (⟨o.dst, [d], .tup [], [], []⟩ : Ent)) = (q, e) → wpOp P ops Q i K a w ∧ e.dst = o.dst := by
   intro hy he
   cases he
   refine ⟨?_, rfl⟩
   unfold wpOp
   have hne : (yielded ops a.tmps j == some want) = false := by
    cases hyy : yielded ops a.tmps j with
    | none => rfl
    | some b => have := hy b hyy; simpa using this
   simp only [hi, Region.wanted, hg, hne, Bool.false_eq_true, if_false]
   exact hK undef w μ ⟨#[], rfl, rfl⟩ (Delta.refl μ w _)
  split at hs <;> try cases hs
  case h_2 hb =>
   refine skip (fun b hy => ?_) rfl
   obtain ⟨h1, h2⟩ := hn.rd d _ (List.mem_singleton.2 rfl) hb
   obtain ⟨vs, h1, h3⟩ := h1
   unfold yielded at hy
   rw [hd] at hy
   simp only [Option.bind_some, Array.getElem?_eq_getElem h2] at hy
   have : a.tmps[d] = .tuple vs := by rw [← h1]; simp [Array.getD, h2]
   rw [this] at hy
   cases hy
  rename_i b hb
  have guard : d ∈ e.rd → yielded ops a.tmps j = some b := by
   intro hm
   obtain ⟨h1, h2⟩ := hn.rd d _ hm hb
   simp only [Rel] at h1
   unfold yielded
   rw [hd]
   simp only [Option.bind_some]
   rw [Array.getElem?_eq_getElem h2]
   have : a.tmps[d] = .bool b := by rw [← h1]; simp [Array.getD, h2]
   rw [this]
  split at hs
  ·rename_i hbw
   have hbw' : b = want := by simpa using hbw
   have hmem : d ∈ e.rd := by
    obtain ⟨_, _, _, _, e2, _⟩ := runOp_inv hs
    rw [e2]; simp
   obtain ⟨h1, h2⟩ := run [d] (fun t ht => by simp only [List.mem_singleton] at ht; subst ht; exact hmem) hs
   refine ⟨?_, h2⟩
   unfold wpOp
   simp only [hi, Region.wanted, hg, guard hmem, hbw', beq_self_eq_true, if_true]
   exact .inl h1
  ·rename_i hbw
   have he := Option.some.inj hs
   refine skip (fun b' hy => ?_) he
   have : d ∈ e.rd := by cases he; simp
   rw [guard this] at hy
   cases hy
   simpa using hbw
structure ExtN (w0 : World) (W : Nat → Prop) (μ0 μ : Emb) : Prop where
 ext : Ext μ0 μ
 new : ∀ b cs, μ.fro b = some cs → μ0.fro b = some cs ∨ W b ∨ w0.heap.size ≤ b
theorem ExtN.refl (w0 : World) (W : Nat → Prop) (μ : Emb) : ExtN w0 W μ μ := ⟨Ext.refl μ, fun _ _ h => .inl h⟩
theorem ExtN.step {w0 : World} {W : Nat → Prop} {μ0 μ μ' : Emb} {H : Heap} {w w' : World} {pre : Pre} {up : Upd} (h : ExtN w0 W μ0 μ) (s : Sim w0 W μ H w) (hp : ∀ c o, (c, o) ∈ pre → H.at c = some o) (d : Delta μ w pre up μ' w') : ExtN w0 W μ0 μ' where
 ext := h.ext.trans d.ext
 new := fun b cs hb => by
  rcases d.frn b cs hb with hb | ⟨_, hb | ⟨c0, o0, p0, h0, hw, _, hm, rfl | hx⟩⟩
  ·exact h.new b cs hb
  ·exact .inr (.inr (Nat.le_trans s.grow hb))
  ·exact .inr (s.own c0 o0 p0 (hp _ _ h0) hw hm)
  ·exact .inr (s.xown c0 o0 p0 _ (hp _ _ h0) hm hx)
structure St (w0 : World) (W : Nat → Prop) (μ0 : Emb) (μ : Emb) (T : List LV) (H : Heap) (a : Act) (w : World) : Prop where
 sim : Sim w0 W μ H w
 fr : FrRel μ T a.tmps
 dom : ∀ c p, μ c = some p → c < H.length
 defs : a.defers = []
 ext : ExtN w0 W μ0 μ
theorem FrRel.put {μ μ' : Emb} {T : List LV} {a : Act} {e : Ent} {d : Option Tmp} {x : Value} (h : FrRel μ T a.tmps) (hx : Ext μ μ') (hd : e.dst = d) (hv : Rel μ' e.v x) : FrRel μ' (e.putT T) (a.put d x).tmps := by
 subst hd
 unfold Ent.putT Act.put
 cases e.dst with
 | none => exact ⟨h.size, fun t l ht => (h.get t l ht).mono hx⟩
 | some d =>
  refine ⟨by simp only [List.length_set, Array.size_setIfInBounds]; exact h.size, fun t l ht => ?_⟩
  simp only [List.getElem?_set] at ht
  split at ht
  ·rename_i hdt
   subst hdt
   split at ht <;> cases ht
   rename_i hl
   have := h.size
   have hlt : d < a.tmps.size := Nat.lt_of_lt_of_le hl this
   simp only [Array.getD_eq_getD_getElem?, Array.getElem?_setIfInBounds, if_true, hlt, Option.getD_some]
   exact hv
  ·rename_i hdt
   simp only [Array.getD_eq_getD_getElem?, Array.getElem?_setIfInBounds, if_neg hdt]
   have := (h.get t l ht).mono hx
   simpa using this
theorem put_defers {a : Act} {d : Option Tmp} {x : Value} : (a.put d x).defers = a.defers := by cases d <;> rfl
theorem St.step {w0 : World} {W : Nat → Prop} {μ0 μ μ' : Emb} {T : List LV} {H : Heap} {a : Act} {w w' : World} {e : Ent} {d : Option Tmp} {x : Value} (s : St w0 W μ0 μ T H a w) (hd : e.dst = d)
  (hx : Rel μ' e.v x) (hD : Delta μ w (H.pre e.foot) e.up μ' w') : St w0 W μ0 μ' (e.putT T) (H.upd e.up) (a.put d x) w' where
 sim := s.sim.step (fun c o h => (Heap.mem_pre.1 h).2) hD
 fr := s.fr.put hD.ext hd hx
 dom := fun c p h => by
  rcases hD.dom c p h with h | ⟨h, _⟩
  ·exact Nat.lt_of_lt_of_le (s.dom c p h) (upd_length _ H).1
  ·exact (upd_length _ H).2 c h
 defs := by rw [put_defers]; exact s.defs
 ext := s.ext.step s.sim (fun c o h => (Heap.mem_pre.1 h).2) hD
theorem St.needs {w0 : World} {W : Nat → Prop} {μ0 μ : Emb} {T : List LV} {H : Heap} {a : Act} {w : World} (s : St w0 W μ0 μ T H a w) (e : Ent) : Needs μ H T e a w where
 rd := fun t l _ ht => ⟨s.fr.get t l ht, Nat.lt_of_lt_of_le (List.getElem?_eq_some_iff.1 ht).1 s.fr.size⟩
 pre := s.sim.pre (fun c o h => (Heap.mem_pre.1 h).2)
 free := fun d _ hl => by
  cases hd : μ d with
  | none => rfl
  | some p => have := s.dom d p hd; omega
def regE (P : Program) (ops : Array Oper) : List (Oper × Hint) → List LV → Heap → Option (Prop × List Ent × List LV × Heap)
 | [], T, H => some (True, [], T, H)
 | (o, h) :: r, T, H =>
  match stepOp P ops H T o h with
  | some (q, e) =>
   match regE P ops r (e.putT T) (H.upd e.up) with
   | some (q', es, T', H') => some (q ∧ q', e :: es, T', H')
   | none => none
  | none => none
theorem regE_seq {ops : Array Oper} {w0 : World} {W : Nat → Prop} {μ0 : Emb} {Q : Exit → Act → World → Prop} : ∀ (l : List (Oper × Hint)) (k : Nat) (T : List LV) (H : Heap) (q : Prop) (es : List Ent) (T' : List LV) (H' : Heap) (μ : Emb) (a : Act) (w : World),
  regE P ops l T H = some (q, es, T', H') → q → (∀ j o h, l[j]? = some (o, h) → ops[k + j]? = some o) → St w0 W μ0 μ T H a w →
  (∀ μ' a' w', St w0 W μ0 μ' T' H' a' w' → Q .normal a' w') → wpOps P ops Q (List.range' k l.length) a w
 | [], k, T, H, q, es, T', H', μ, a, w, h, _, _, hs, hQ => by
  cases h
  exact hQ μ a w hs
 | (o, h0) :: r, k, T, H, q, es, T', H', μ, a, w, h, hq, hl, hs, hQ => by
  unfold regE at h
  split at h <;> try cases h
  rename_i q1 e he
  split at h <;> cases h
  rename_i q2 es2 hr
  obtain ⟨hq1, hq2⟩ := hq
  have hi : ops[k]? = some o := by have := hl 0 o h0 (by simp); simpa using this
  rw [List.length_cons, List.range'_succ, wpOps_cons]
  refine (stepOp_ok (P := P) he hq1 hi (hs.needs e) (fun x w' μ' hx hD => ?_)).1
  have hd : e.dst = o.dst := (stepOp_ok (P := P) (K := fun _ _ => True) (Q := fun _ _ _ => True) he hq1 hi (hs.needs e) (fun _ _ _ _ _ => trivial)).2
  exact regE_seq r (k + 1) _ _ q2 es2 T' H' μ' _ w' hr hq2 (fun j o' h' hj => by have := hl (j + 1) o' h' (by simpa using hj); rwa [show k + 1 + j = k + (j + 1) from by omega]) (hs.step hd hx hD) hQ
end
end Go.Cn
