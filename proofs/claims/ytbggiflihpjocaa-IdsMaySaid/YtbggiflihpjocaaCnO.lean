/- Canon, part O: regions, in the order of their text and in whatever order their edges allow. -/
import Derived.Test.YtbggiflihpjocaaCnN
namespace Go.Cn
open Go

structure Ent where
  dst : Option Tmp
  rd : List Tmp
  v : LV
  foot : List Nat
  up : Upd

def Ent.putT (e : Ent) (T : List LV) : List LV :=
  match e.dst with
  | some d => T.set d e.v
  | none => T

def ovUp (os : List (Nat × LO)) : Upd → Prop × Upd
  | [] => (True, [])
  | (c, none) :: r => ((ovUp os r).1, (c, none) :: (ovUp os r).2)
  | (c, some o) :: r =>
    match os.find? (·.1 == c) with
    | some x => (ObjEq o x.2 ∧ (ovUp os r).1, (c, some x.2) :: (ovUp os r).2)
    | none => ((ovUp os r).1, (c, some o) :: (ovUp os r).2)

def slotsOf (xs : List Operand) : List Tmp := xs.filterMap fun
  | .tmp t => some t
  | _ => none

def runOp (P : Program) (H : Heap) (T : List LV) (o : Oper) (h : Hint) (gs : List Tmp) : Option (Prop × Ent) :=
  match eOp P H H.length h (opnd T) o.op with
  | some e => some (e.ob ∧ (match h.v with | some v => e.v = v | none => True) ∧ (ovUp h.os e.up).1, ⟨o.dst, gs ++ slotsOf o.op.operands.toList, h.v.getD e.v, e.foot, (ovUp h.os e.up).2⟩)
  | none => none

def stepOp (P : Program) (ops : Array Oper) (H : Heap) (T : List LV) (o : Oper) (h : Hint) : Option (Prop × Ent) :=
  match o.guard with
  | none => runOp P H T o h []
  | some (j, want) =>
    match (ops[j]?).bind (·.dst) with
    | some d =>
      match T[d]? with
      | some (.bool b) => if b == want then runOp P H T o h [d] else some (True, ⟨o.dst, [d], .any, [], []⟩)
      | _ => none
    | none => none

section
variable {P : Program}

theorem ovUp_has (os : List (Nat × LO)) (c : Nat) : ∀ (up : Upd), Upd.has (ovUp os up).2 c = up.has c
  | [] => rfl
  | (d, none) :: r => by
    have := ovUp_has os c r
    simp only [Upd.has] at this ⊢
    simp [ovUp, this]
  | (d, some o) :: r => by
    have := ovUp_has os c r
    simp only [Upd.has] at this ⊢
    unfold ovUp
    split <;> simp [this]

theorem ovUp_mem (os : List (Nat × LO)) : ∀ (up : Upd), (ovUp os up).1 → ∀ c o, (c, some o) ∈ (ovUp os up).2 → ∃ o0, (c, some o0) ∈ up ∧ ObjEq o0 o
  | [], _, c, o, h => by simp [ovUp] at h
  | (d, none) :: r, hq, c, o, h => by
    simp only [ovUp, List.mem_cons, Prod.mk.injEq, reduceCtorEq, and_false, false_or] at h hq
    obtain ⟨o0, h1, h2⟩ := ovUp_mem os r hq c o h
    exact ⟨o0, List.mem_cons_of_mem _ h1, h2⟩
  | (d, some o') :: r, hq, c, o, h => by
    unfold ovUp at h hq
    split at h
    · rename_i x hx
      simp only [hx] at hq
      rcases List.mem_cons.1 h with h | h
      · simp only [Prod.mk.injEq, Option.some.injEq] at h
        obtain ⟨rfl, rfl⟩ := h
        exact ⟨o', List.mem_cons_self, hq.1⟩
      · obtain ⟨o0, h1, h2⟩ := ovUp_mem os r hq.2 c o h
        exact ⟨o0, List.mem_cons_of_mem _ h1, h2⟩
    · rename_i hx
      simp only [hx] at hq
      rcases List.mem_cons.1 h with h | h
      · simp only [Prod.mk.injEq, Option.some.injEq] at h
        obtain ⟨rfl, rfl⟩ := h
        exact ⟨o, List.mem_cons_self, by cases o <;> simp [ObjEq]⟩
      · obtain ⟨o0, h1, h2⟩ := ovUp_mem os r hq c o h
        exact ⟨o0, List.mem_cons_of_mem _ h1, h2⟩

theorem Delta.ov {μ μ' : Emb} {w w' : World} {pre : Pre} {up : Upd} {os : List (Nat × LO)} (d : Delta μ w pre up μ' w') (hq : (ovUp os up).1) : Delta μ w pre (ovUp os up).2 μ' w' where
  ext := d.ext
  dom := fun c p h => by rw [ovUp_has]; exact d.dom c p h
  os := d.os
  tape := d.tape
  output := d.output
  grow := d.grow
  keep := fun b hb hk => d.keep b hb (fun c o p h1 h2 h3 => hk c o p h1 h2 (by rw [ovUp_has]; exact h3))
  obj := fun c o h => by
    obtain ⟨o0, h1, h2⟩ := ovUp_mem os up hq c o h
    obtain ⟨p, h3, h4⟩ := d.obj c o0 h1
    exact ⟨p, h3, h4.eqv h2⟩
  place := fun c o p h hp => by
    obtain ⟨o0, h1, h2⟩ := ovUp_mem os up hq c o h
    rcases d.place c o0 p h1 hp with h | ⟨c0, o1, p0, g1, g2, g3, g4⟩
    · exact .inl h
    · exact .inr ⟨c0, o1, p0, g1, g2, by rw [ovUp_has]; exact g3, g4⟩
  sep := fun c o c' o' p p' h h' hne hw => by
    obtain ⟨o0, h1, h2⟩ := ovUp_mem os up hq c o h
    obtain ⟨o0', h1', h2'⟩ := ovUp_mem os up hq c' o' h'
    exact d.sep c o0 c' o0' p p' h1 h1' hne (by rw [h2.wr, h2'.wr]; exact hw)

/-- What one operation needs of the real state, and what it leaves. -/
structure Needs (μ : Emb) (H : Heap) (T : List LV) (e : Ent) (a : Act) (w : World) : Prop where
  rd : ∀ t l, t ∈ e.rd → T[t]? = some l → Rel μ l (a.tmps.getD t undef) ∧ t < a.tmps.size
  pre : PreOK μ (H.pre e.foot) w
  free : ∀ d, e.up.has d = true → H.length ≤ d → μ d = none

theorem runs_wp {o : Oper} {a : Act} {w : World} {μ : Emb} {pre : Pre} {up : Upd} {v : LV} {K : Act → World → Prop} {Q : Exit → Act → World → Prop} (h : OpRuns P o a w μ pre up v)
    (hK : ∀ x w' μ', Rel μ' v x → Delta μ w pre up μ' w' → K (a.put o.dst x) w') : o.wp P a w K Q := by
  unfold Oper.wp
  rcases h with ⟨x, w', μ', h1, h2, h3⟩ | ⟨f, vals, h1, h2⟩
  · rcases h1 with h1 | ⟨h1, rfl⟩
    · rw [h1, Oper.upon_value]; exact hK x w' μ' h2 h3
    · rw [h1, Oper.upon_skip]; exact hK undef w' μ' h2 h3
  · rw [h1, Oper.upon_enter]
    refine h2.mono fun en w' ⟨x, μ', e1, e2, e3⟩ => ?_
    subst e1
    exact hK x w' μ' e2 e3

theorem stepOp_ok {ops : Array Oper} {H : Heap} {T : List LV} {i : Nat} {o : Oper} {h : Hint} {q : Prop} {e : Ent} {μ : Emb} {a : Act} {w : World} {K : Act → World → Prop} {Q : Exit → Act → World → Prop}
    (hs : stepOp P ops H T o h = some (q, e)) (hq : q) (hi : ops[i]? = some o) (hn : Needs μ H T e a w)
    (hK : ∀ x w' μ', Rel μ' e.v x → Delta μ w (H.pre e.foot) e.up μ' w' → K (a.put o.dst x) w') : wpOp P ops Q i K a w ∧ e.dst = o.dst := by
  -- an operation that is carried out
  have run : ∀ gs, (∀ t ∈ gs, t ∈ e.rd) → runOp P H T o h gs = some (q, e) → (o.wp P a w K Q) ∧ e.dst = o.dst := by
    intro gs hgs hr
    unfold runOp at hr
    split at hr <;> cases hr
    rename_i ef he
    obtain ⟨h1, h2, h3⟩ := hq
    have hops : ∀ x ∈ o.op.operands, Rel μ (opnd T x) (a.eval x) := by
      intro x hx
      cases x with
      | tmp t =>
        simp only [opnd, Act.eval]
        cases ht : T[t]? with
        | none => simp [Rel]
        | some l =>
          have hmem : t ∈ slotsOf o.op.operands.toList := List.mem_filterMap.2 ⟨.tmp t, Array.mem_toList_iff.2 hx, rfl⟩
          simpa using (hn.rd t l (List.mem_append.2 (.inr hmem)) ht).1
      | const v =>
        simp only [opnd, Act.eval]
        cases hv : ofV v with
        | none => simp [Rel]
        | some l => simpa using ofV_rel hv μ
      | global g => simp [opnd, Rel]
      | func f => exact ⟨#[], #[], rfl, rfl, rfl⟩
    have hr := eOp_ok (P := P) (w := w) he h1 hops hn.pre (fun d hd hl => hn.free d (by simp only; rw [ovUp_has]; exact hd) hl)
    refine ⟨runs_wp hr (fun x w' μ' hx hd => hK x w' μ' ?_ (hd.ov h3)), rfl⟩
    cases hv : h.v with
    | none => simpa [hv] using hx
    | some v =>
      simp only [hv] at h2 ⊢
      rw [← h2]
      exact hx
  unfold stepOp at hs
  split at hs
  · rename_i hg
    obtain ⟨h1, h2⟩ := run [] (fun _ h => by cases h) hs
    refine ⟨?_, h2⟩
    unfold wpOp
    simp only [hi, Region.wanted, hg, if_true]
    exact .inl h1
  · rename_i j want hg
    split at hs <;> try cases hs
    rename_i d hd
    split at hs <;> try cases hs
    rename_i b hb
    -- what the guard says in the real frame
    have guard : d ∈ e.rd → yielded ops a.tmps j = some b := by
      intro hm
      obtain ⟨h1, h2⟩ := hn.rd d _ hm hb
      simp only [Rel] at h1
      unfold yielded
      rw [hd]
      simp only [Option.bind_some]
      rw [Array.getElem?_eq_getElem h2]
      have : a.tmps[d] = .bool b := by rw [← h1]; simp [Array.getD, h2]
      rw [this]
    split at hs
    · rename_i hbw
      have hbw' : b = want := by simpa using hbw
      have hmem : d ∈ e.rd := by
        unfold runOp at hs
        split at hs <;> cases hs
        simp
      obtain ⟨h1, h2⟩ := run [d] (fun t ht => by simp only [List.mem_singleton] at ht; subst ht; exact hmem) hs
      refine ⟨?_, h2⟩
      unfold wpOp
      simp only [hi, Region.wanted, hg, guard hmem, hbw', beq_self_eq_true, if_true]
      exact .inl h1
    · rename_i hbw
      cases hs
      refine ⟨?_, rfl⟩
      unfold wpOp
      have hne : (some b == some want) = false := by
        simp only [beq_eq_false_iff_ne, ne_eq, Option.some.injEq]
        intro e; exact hbw (by simp [e])
      simp only [hi, Region.wanted, hg, guard (by simp), hne, Bool.false_eq_true, if_false]
      exact hK undef w μ trivial (Delta.refl μ w _)

/-! The state of a call -/
structure St (w0 : World) (W : Nat → Prop) (μ0 : Emb) (μ : Emb) (T : List LV) (H : Heap) (a : Act) (w : World) : Prop where
  sim : Sim w0 W μ H w
  fr : FrRel μ T a.tmps
  dom : ∀ c p, μ c = some p → c < H.length
  defs : a.defers = []
  ext : Ext μ0 μ

theorem FrRel.put {μ μ' : Emb} {T : List LV} {a : Act} {e : Ent} {d : Option Tmp} {x : Value} (h : FrRel μ T a.tmps) (hx : Ext μ μ') (hd : e.dst = d) (hv : Rel μ' e.v x) : FrRel μ' (e.putT T) (a.put d x).tmps := by
  subst hd
  unfold Ent.putT Act.put
  cases e.dst with
  | none => exact ⟨h.size, fun t l ht => (h.get t l ht).mono hx⟩
  | some d =>
    refine ⟨by simp only [List.length_set, Array.size_setIfInBounds]; exact h.size, fun t l ht => ?_⟩
    simp only [List.getElem?_set] at ht
    split at ht
    · rename_i hdt
      subst hdt
      split at ht <;> cases ht
      rename_i hl
      have := h.size
      have hlt : d < a.tmps.size := Nat.lt_of_lt_of_le hl this
      simp only [Array.getD_eq_getD_getElem?, Array.getElem?_setIfInBounds, if_true, hlt, Option.getD_some]
      exact hv
    · rename_i hdt
      simp only [Array.getD_eq_getD_getElem?, Array.getElem?_setIfInBounds, if_neg hdt]
      have := (h.get t l ht).mono hx
      simpa using this

theorem put_defers {a : Act} {d : Option Tmp} {x : Value} : (a.put d x).defers = a.defers := by cases d <;> rfl

theorem St.step {w0 : World} {W : Nat → Prop} {μ0 μ μ' : Emb} {T : List LV} {H : Heap} {a : Act} {w w' : World} {e : Ent} {d : Option Tmp} {x : Value} (s : St w0 W μ0 μ T H a w) (hd : e.dst = d)
    (hx : Rel μ' e.v x) (hD : Delta μ w (H.pre e.foot) e.up μ' w') : St w0 W μ0 μ' (e.putT T) (H.upd e.up) (a.put d x) w' where
  sim := s.sim.step (fun c o h => (Heap.mem_pre.1 h).2) hD
  fr := s.fr.put hD.ext hd hx
  dom := fun c p h => by
    rcases hD.dom c p h with h | ⟨h, _⟩
    · exact Nat.lt_of_lt_of_le (s.dom c p h) (upd_length _ H).1
    · exact (upd_length _ H).2 c h
  defs := by rw [put_defers]; exact s.defs
  ext := s.ext.trans hD.ext

theorem St.needs {w0 : World} {W : Nat → Prop} {μ0 μ : Emb} {T : List LV} {H : Heap} {a : Act} {w : World} (s : St w0 W μ0 μ T H a w) (e : Ent) : Needs μ H T e a w where
  rd := fun t l _ ht => ⟨s.fr.get t l ht, Nat.lt_of_lt_of_le (List.getElem?_eq_some_iff.1 ht).1 s.fr.size⟩
  pre := s.sim.pre (fun c o h => (Heap.mem_pre.1 h).2)
  free := fun d _ hl => by
    cases hd : μ d with
    | none => rfl
    | some p => have := s.dom d p hd; omega

/-- All of a region, in the order of the text. -/
def regE (P : Program) (ops : Array Oper) : List (Oper × Hint) → List LV → Heap → Option (Prop × List Ent × List LV × Heap)
  | [], T, H => some (True, [], T, H)
  | (o, h) :: r, T, H =>
    match stepOp P ops H T o h with
    | some (q, e) =>
      match regE P ops r (e.putT T) (H.upd e.up) with
      | some (q', es, T', H') => some (q ∧ q', e :: es, T', H')
      | none => none
    | none => none

theorem regE_seq {ops : Array Oper} {w0 : World} {W : Nat → Prop} {μ0 : Emb} {Q : Exit → Act → World → Prop} : ∀ (l : List (Oper × Hint)) (k : Nat) (T : List LV) (H : Heap) (q : Prop) (es : List Ent) (T' : List LV) (H' : Heap) (μ : Emb) (a : Act) (w : World),
    regE P ops l T H = some (q, es, T', H') → q → (∀ j o h, l[j]? = some (o, h) → ops[k + j]? = some o) → St w0 W μ0 μ T H a w →
    (∀ μ' a' w', St w0 W μ0 μ' T' H' a' w' → Q .normal a' w') → wpOps P ops Q (List.range' k l.length) a w
  | [], k, T, H, q, es, T', H', μ, a, w, h, _, _, hs, hQ => by
    cases h
    exact hQ μ a w hs
  | (o, h0) :: r, k, T, H, q, es, T', H', μ, a, w, h, hq, hl, hs, hQ => by
    unfold regE at h
    split at h <;> try cases h
    rename_i q1 e he
    split at h <;> cases h
    rename_i q2 es2 hr
    obtain ⟨hq1, hq2⟩ := hq
    have hi : ops[k]? = some o := by have := hl 0 o h0 (by simp); simpa using this
    rw [List.length_cons, List.range'_succ, wpOps_cons]
    refine (stepOp_ok (P := P) he hq1 hi (hs.needs e) (fun x w' μ' hx hD => ?_)).1
    have hd : e.dst = o.dst := (stepOp_ok (P := P) (K := fun _ _ => True) (Q := fun _ _ _ => True) he hq1 hi (hs.needs e) (fun _ _ _ _ _ => trivial)).2
    exact regE_seq r (k + 1) _ _ q2 es2 T' H' μ' _ w' hr hq2 (fun j o' h' hj => by have := hl (j + 1) o' h' (by simpa using hj); rwa [show k + 1 + j = k + (j + 1) from by omega]) (hs.step hd hx hD) hQ
end
end Go.Cn
