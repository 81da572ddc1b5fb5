import Derived.Test.YtdchgoaokceomaaGreatDoorCnH
set_option linter.unusedVariables false
set_option linter.unusedSimpArgs false
namespace Go.Cn
open Go
section
variable {P : Program}
def kShape (P : Program) (t : TypeId) : Option (Bool × List CK) :=
 match tDesc P t, shp P 12 t with
 | some d, some ks => some (aggD d, ks)
 | _, _ => none
theorem keyOK_cells {ag : Bool} {ks : List CK} {x : LV} (h : keyOK ag ks x = true) : (ag = true ∧ ∃ cs, x = .agg cs ∧ fitsL ks cs = true) ∨ (ag = false ∧ (∀ cs, x ≠ .agg cs) ∧ fitsL ks [x] = true) := by
 cases x <;> simp only [keyOK, Bool.and_eq_true, Bool.not_eq_true'] at h
 case agg cs => exact .inl ⟨h.1, cs, rfl, h.2⟩
 all_goals exact .inr ⟨h.1, by simp, h.2⟩
theorem keyOK_split {ag : Bool} {ks : List CK} {x : LV} {μ : Emb} {v : Value} (h : keyOK ag ks x = true) (r : Rel μ x v) :
  ∃ cs vs, fitsL ks cs = true ∧ RelL μ cs vs ∧ v = mkV ag vs ∧ x = (if ag then .agg cs else cs.headD .any) ∧ (ag = false → cs.length = 1) := by
 rcases keyOK_cells h with ⟨rfl, cs, rfl, hf⟩ | ⟨rfl, hne, hf⟩
 ·obtain ⟨vs, rfl, hr⟩ := r
  exact ⟨cs, vs.toList, hf, hr, by simp [mkV], rfl, fun h => by cases h⟩
 ·exact ⟨[x], [v], hf, ⟨v, [], rfl, r, rfl⟩, by simp [mkV], by simp, fun _ => rfl⟩
theorem eqK_cells {ag : Bool} {ks : List CK} {cs ds : List LV} (h1 : fitsL ks cs = true) (h2 : fitsL ks ds = true) (hc : ag = false → cs.length = 1) :
  eqK (if ag then .agg cs else cs.headD .any) (if ag then .agg ds else ds.headD .any) = eqCs cs ds := by
 cases ag with
 | true => rfl
 | false =>
  have l1 := hc rfl
  have l2 := (fitsL_length h2).trans ((fitsL_length h1).symm.trans l1)
  match cs, l1, ds, l2 with
  | [c], _, [e], _ =>
   match ks, h1, h2 with
   | [k], h1, h2 =>
    simp only [fitsL, Bool.and_true] at h1 h2
    cases k <;> cases c <;> simp only [fitsC, Bool.false_eq_true] at h1 <;> cases e <;> simp only [fitsC, Bool.false_eq_true] at h2 <;> simp [eqK, eqCs]
   | [], h1, _ => simp [fitsL] at h1
   | _ :: _ :: _, h1, _ => simp [fitsL] at h1
theorem kShape_some {t : TypeId} {ag : Bool} {ks : List CK} (h : kShape P t = some (ag, ks)) : ∃ d, P.underlying t = some d ∧ aggD d = ag ∧ shp P 12 t = some ks := by
 unfold kShape at h
 split at h
 ·rename_i d ks' hd hs
  simp only [Option.some.injEq, Prod.mk.injEq] at h
  exact ⟨d, hd, h.1, by rw [hs, h.2]⟩
 ·cases h
theorem run_equal_shape {t : TypeId} {ag : Bool} {ks : List CK} {w : World} {μ ν : Emb} {x y : LV} {v u : Value} (h : kShape P t = some (ag, ks)) (hx : keyOK ag ks x = true) (hy : keyOK ag ks y = true) (rx : Rel μ x v) (ry : Rel ν y u) :
  (Op.equal t v u).run P w = .ok (eqK x y) w ∧ ∀ em, (Instr.checkKey em 10000 t v).run P w = .ok () w := by
 obtain ⟨d, hd, hag, hs⟩ := kShape_some h
 obtain ⟨cs, vs, f1, r1, rfl, rfl, l1⟩ := keyOK_split hx rx
 obtain ⟨ds, us, f2, r2, rfl, rfl, l2⟩ := keyOK_split hy ry
 have := shp_run (P := P) 9988 12 t ks hs w μ ν d cs ds vs us hd f1 f2 r1 r2
 rw [hag] at this
 refine ⟨?_, this.2⟩
 rw [eqK_cells f1 f2 l1]
 exact this.1
def eEqAgg (P : Program) (t : TypeId) (x y : LV) : Option Bool :=
 match kShape P t with
 | some (true, ks) => if keyOK true ks x && keyOK true ks y && !(P.eqGuardType P.depth t) then some (eqK x y) else none
 | _ => none
theorem eEqAgg_ok {t : TypeId} {x y : LV} {b : Bool} {w : World} {μ : Emb} {v u : Value} (h : eEqAgg P t x y = some b) (rx : Rel μ x v) (ry : Rel μ y u) :
  (Op.equal t v u).run P w = .ok b w ∧ (∃ cs, v = .agg cs) ∧ (∃ cs, u = .agg cs) ∧ P.eqGuardType P.depth t = false := by
 unfold eEqAgg at h
 split at h <;> try cases h
 rename_i ks hk
 split at h <;> cases h
 rename_i hc
 simp only [Bool.and_eq_true, Bool.not_eq_true'] at hc
 obtain ⟨⟨h1, h2⟩, h3⟩ := hc
 refine ⟨(run_equal_shape hk h1 h2 rx ry).1, ?_, ?_, h3⟩
 ·rcases keyOK_cells h1 with ⟨_, cs, rfl, _⟩ | ⟨h, _⟩
  ·obtain ⟨vs, rfl, _⟩ := rx; exact ⟨_, rfl⟩
  ·cases h
 ·rcases keyOK_cells h2 with ⟨_, cs, rfl, _⟩ | ⟨h, _⟩
  ·obtain ⟨vs, rfl, _⟩ := ry; exact ⟨_, rfl⟩
  ·cases h
def eBin (P : Program) (op : BinOp) (t : TypeId) (x y : LV) : Option Eff :=
 match op, x, y with
 | .shl, .int k a, .int _ b | .shr, .int k a, .int _ b => (bShift op k a b).map fun r => .valIf r.1 r.2
 | _, .int k a, .int k' b => if k = k' then (bInt op k a b).map fun r => .valIf r.1 r.2 else none
 | _, .str a, .str b => (bStr op a b).map fun r => .valIf r.1 r.2
 | .eql, .agg a, .agg b => (eEqAgg P t (.agg a) (.agg b)).map fun b => .val (.bool b)
 | .neq, .agg a, .agg b => (eEqAgg P t (.agg a) (.agg b)).map fun b => .val (.bool (!b))
 | .eql, x, y => match tDesc P t with
  | some d => (eqNil d x y).map fun b => .val (.bool b)
  | none => none
 | .neq, x, y => match tDesc P t with
  | some d => (eqNil d x y).map fun b => .val (.bool (!b))
  | none => none
 | _, _, _ => none
theorem guard_int {op : BinOp} {t : TypeId} {x y : Operand} {k k' : IntKind} {a b : Int} {w : World} : (eqGuard op t x y (.int k a) (.int k' b)).run P w = .ok () w := by
 cases op <;> simp [eqGuard]
theorem guard_str {op : BinOp} {t : TypeId} {x y : Operand} {a b : ByteArray} {w : World} : (eqGuard op t x y (.string a) (.string b)).run P w = .ok () w := by
 cases op <;> simp [eqGuard]
theorem eBin_ok {op : BinOp} {t : TypeId} {ox oy : Operand} {x y : LV} {vx vy : Value} {e : Eff} {μ : Emb} {w : World} {pre : Pre} (h : eBin P op t x y = some e) (hob : e.ob) (hx : Rel μ x vx) (hy : Rel μ y vy) :
  Runs P (do eqGuard op t ox oy vx vy; binOp op t vx vy) μ w pre [] e.v ∧ e.up = [] ∧ e.foot = [] := by
 have fin : ∀ {r : Value} {v : LV}, (eqGuard op t ox oy vx vy).run P w = .ok () w → (binOp op t vx vy).run P w = .ok r w → Rel μ v r → Runs P (do eqGuard op t ox oy vx vy; binOp op t vx vy) μ w pre [] v := by
  intro r v h1 h2 h3
  exact Runs.same (x := r) (by simp only [Sem.run_bind, h1, Result.andThen_ok, h2]) h3
 unfold eBin at h
 split at h
 ·rename_i k a k' b
  simp only [Option.map_eq_some_iff] at h
  obtain ⟨⟨q, v⟩, hb, rfl⟩ := h
  simp only [Rel] at hx hy; subst hx hy
  obtain ⟨r, h1, h2⟩ := bShift_ok (P := P) (k' := k') (t := t) (w := w) (μ := μ) hb hob
  exact ⟨fin guard_int h1 h2, rfl, rfl⟩
 ·rename_i k a k' b
  simp only [Option.map_eq_some_iff] at h
  obtain ⟨⟨q, v⟩, hb, rfl⟩ := h
  simp only [Rel] at hx hy; subst hx hy
  obtain ⟨r, h1, h2⟩ := bShift_ok (P := P) (k' := k') (t := t) (w := w) (μ := μ) hb hob
  exact ⟨fin guard_int h1 h2, rfl, rfl⟩
 ·rename_i k a k' b _ _
  split at h <;> try cases h
  rename_i hk
  subst hk
  simp only [Option.map_eq_some_iff] at h
  obtain ⟨⟨q, v⟩, hb, rfl⟩ := h
  simp only [Rel] at hx hy; subst hx hy
  obtain ⟨r, h1, h2⟩ := bInt_ok (P := P) (t := t) (w := w) (μ := μ) hb hob
  exact ⟨fin guard_int h1 h2, rfl, rfl⟩
 ·rename_i a b
  simp only [Option.map_eq_some_iff] at h
  obtain ⟨⟨q, v⟩, hb, rfl⟩ := h
  simp only [Rel] at hx hy; subst hx hy
  obtain ⟨r, h1, h2⟩ := bStr_ok (P := P) (t := t) (w := w) (μ := μ) hb hob
  exact ⟨fin guard_str h1 h2, rfl, rfl⟩
 ·rename_i a b
  simp only [Option.map_eq_some_iff] at h
  obtain ⟨b', hb, rfl⟩ := h
  obtain ⟨h1, ⟨c1, rfl⟩, ⟨c2, rfl⟩, h4⟩ := eEqAgg_ok (w := w) hb hx hy
  refine ⟨fin (r := .bool b') ?_ ?_ rfl, rfl, rfl⟩
  ·simp [eqGuard, h4]
  ·simp [binOp, h1]
 ·rename_i a b
  simp only [Option.map_eq_some_iff] at h
  obtain ⟨b', hb, rfl⟩ := h
  obtain ⟨h1, ⟨c1, rfl⟩, ⟨c2, rfl⟩, h4⟩ := eEqAgg_ok (w := w) hb hx hy
  refine ⟨fin (r := .bool (!b')) ?_ ?_ rfl, rfl, rfl⟩
  ·simp [eqGuard, h4]
  ·simp [binOp, h1]
 ·split at h <;> try cases h
  rename_i d hd
  simp only [Option.map_eq_some_iff] at h
  obtain ⟨b', hb, rfl⟩ := h
  obtain ⟨h6, h7, _⟩ := eqNil_ok (w := w) hd hb hx hy
  exact ⟨fin (r := .bool b') (h6 _ _ _) h7 rfl, rfl, rfl⟩
 ·split at h <;> try cases h
  rename_i d hd
  simp only [Option.map_eq_some_iff] at h
  obtain ⟨b', hb, rfl⟩ := h
  obtain ⟨h6, _, h7⟩ := eqNil_ok (w := w) hd hb hx hy
  exact ⟨fin (r := .bool (!b')) (h6 _ _ _) h7 rfl, rfl, rfl⟩
 ·cases h
def findE (k : LV) : List (LV × LV) → Option LV
 | [] => none
 | e :: r => if eqK k e.1 then some e.2 else findE k r
def updE (k v : LV) : List (LV × LV) → List (LV × LV)
 | [] => [(k, v)]
 | e :: r => if eqK k e.1 then (k, v) :: r else e :: updE k v r
def delE (k : LV) : List (LV × LV) → List (LV × LV)
 | [] => []
 | e :: r => if eqK k e.1 then r else e :: delE k r
def atE (k : LV) : List (LV × LV) → Option Nat
 | [] => none
 | e :: r => if eqK k e.1 then some 0 else (atE k r).map (· + 1)
theorem F2.get {α β : Type} {R : α → β → Prop} {l : List α} {m : List β} (h : F2 R l m) : ∀ (i : Nat) (a : α), l[i]? = some a → ∃ b, m[i]? = some b ∧ R a b := by
 induction h with
 | nil => intro i a h; simp at h
 | @cons a b l m hab _ ih =>
  intro i x hx
  cases i with
  | zero => simp at hx; subst hx; exact ⟨b, by simp, hab⟩
  | succ i => simp at hx; simpa using ih i x hx
def eLookup (P : Program) (H : Heap) (t : TypeId) (m k : LV) (ok : Bool) (r : Option LV) : Option Eff :=
 match tDesc P t with
 | some (.map kt el) =>
  match kShape P kt, tZero P el with
  | some (ag, ks), some z =>
   let out := fun (q : Prop) (foot : List Nat) => some (Eff.mk (keyOK ag ks k = true ∧ q) (if ok then .tup [r.getD z, .bool r.isSome] else r.getD z) foot [])
   match m with
   | .nilmap => out (r = none) []
   | .map c =>
    match H.at c with
    | some (.map ag' ks' es) => if ag = ag' ∧ ks = ks' then out (findE k es = r) [c] else none
    | some (.mapP ag' ks' es k' z') => if ag = ag' ∧ ks = ks' ∧ ok = false then out (findE k es = r ∧ k' = k ∧ z' = z ∧ eqK k k = true) [c] else none
    | _ => none
   | _ => none
  | _, _ => none
 | _ => none
end
end Go.Cn
