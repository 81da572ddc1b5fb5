import Derived.Test.YtddgjfclpknkcaaGreatDoorCnH
namespace Go.Cn
open Go
section
variable {P : Program}
def kShape (P : Program) (t : TypeId) : Option (Bool × List CK) :=
 match tDesc P t, shp P 12 t with
 | some d, some ks => some (aggD d, ks)
 | _, _ => none
theorem keyOK_cells {ag : Bool} {ks : List CK} {x : LV} (h : keyOK ag ks x = true) : (ag = true ∧ ∃ cs, x = .agg cs ∧ fitsL ks cs = true) ∨ (ag = false ∧ (∀ cs, x ≠ .agg cs) ∧ fitsL ks [x] = true) := by
 cases x <;> simp only [keyOK, Bool.and_eq_true, Bool.not_eq_true'] at h
 case agg cs => exact .inl ⟨h.1, cs, rfl, h.2⟩
 all_goals exact .inr ⟨h.1, by simp, h.2⟩
theorem keyOK_split {ag : Bool} {ks : List CK} {x : LV} {μ : Emb} {v : Value} (h : keyOK ag ks x = true) (r : Rel μ x v) :
  ∃ cs vs, fitsL ks cs = true ∧ RelL μ cs vs ∧ v = mkV ag vs ∧ x = (if ag then .agg cs else cs.headD .any) ∧ (ag = false → cs.length = 1) := by
 rcases keyOK_cells h with ⟨rfl, cs, rfl, hf⟩ | ⟨rfl, hne, hf⟩
 ·obtain ⟨vs, rfl, hr⟩ := r
  exact ⟨cs, vs.toList, hf, hr, by simp [mkV], rfl, fun h => by cases h⟩
 ·exact ⟨[x], [v], hf, ⟨v, [], rfl, r, rfl⟩, by simp [mkV], by simp, fun _ => rfl⟩
theorem eqK_cells {ag : Bool} {ks : List CK} {cs ds : List LV} (h1 : fitsL ks cs = true) (h2 : fitsL ks ds = true) (hc : ag = false → cs.length = 1) :
  eqK (if ag then .agg cs else cs.headD .any) (if ag then .agg ds else ds.headD .any) = eqCs cs ds := by
 cases ag with
 | true => rfl
 | false =>
  have l1 := hc rfl
  have l2 := (fitsL_length h2).trans ((fitsL_length h1).symm.trans l1)
  match cs, l1, ds, l2 with
  | [c], _, [e], _ =>
   match ks, h1, h2 with
   | [k], h1, h2 =>
    simp only [fitsL, Bool.and_true] at h1 h2
    cases k <;> cases c <;> simp only [fitsC, Bool.false_eq_true] at h1 <;> cases e <;> simp only [fitsC, Bool.false_eq_true] at h2 <;> simp [eqK, eqCs]
   | [], h1, _ => simp [fitsL] at h1
   | _ :: _ :: _, h1, _ => simp [fitsL] at h1
theorem kShape_some {t : TypeId} {ag : Bool} {ks : List CK} (h : kShape P t = some (ag, ks)) : ∃ d, P.underlying t = some d ∧ aggD d = ag ∧ shp P 12 t = some ks := by
 unfold kShape at h
 split at h
 ·rename_i d ks' hd hs
  simp only [Option.some.injEq, Prod.mk.injEq] at h
  exact ⟨d, hd, h.1, by rw [hs, h.2]⟩
 ·cases h
theorem run_equal_shape {t : TypeId} {ag : Bool} {ks : List CK} {w : World} {μ ν : Emb} {x y : LV} {v u : Value} (h : kShape P t = some (ag, ks)) (hx : keyOK ag ks x = true) (hy : keyOK ag ks y = true) (rx : Rel μ x v) (ry : Rel ν y u) :
  (Op.equal t v u).run P w = .ok (eqK x y) w ∧ ∀ em, (Instr.checkKey em 10000 t v).run P w = .ok () w := by
 obtain ⟨d, hd, hag, hs⟩ := kShape_some h
 obtain ⟨cs, vs, f1, r1, rfl, rfl, l1⟩ := keyOK_split hx rx
 obtain ⟨ds, us, f2, r2, rfl, rfl, l2⟩ := keyOK_split hy ry
 have := shp_run (P := P) 9988 12 t ks hs w μ ν d cs ds vs us hd f1 f2 r1 r2
 rw [hag] at this
 refine ⟨?_, this.2⟩
 rw [eqK_cells f1 f2 l1]
 exact this.1
def eEqAgg (P : Program) (t : TypeId) (x y : LV) : Option Bool :=
 match kShape P t with
 | some (true, ks) => if keyOK true ks x && keyOK true ks y && !(P.eqGuardType P.depth t) then some (eqK x y) else none
 | _ => none
theorem eEqAgg_ok {t : TypeId} {x y : LV} {b : Bool} {w : World} {μ : Emb} {v u : Value} (h : eEqAgg P t x y = some b) (rx : Rel μ x v) (ry : Rel μ y u) :
  (Op.equal t v u).run P w = .ok b w ∧ (∃ cs, v = .agg cs) ∧ (∃ cs, u = .agg cs) ∧ P.eqGuardType P.depth t = false := by
 unfold eEqAgg at h
 split at h <;> try cases h
 rename_i ks hk
 split at h <;> cases h
 rename_i hc
 simp only [Bool.and_eq_true, Bool.not_eq_true'] at hc
 obtain ⟨⟨h1, h2⟩, h3⟩ := hc
 refine ⟨(run_equal_shape hk h1 h2 rx ry).1, ?_, ?_, h3⟩
 ·rcases keyOK_cells h1 with ⟨_, cs, rfl, _⟩ | ⟨h, _⟩
  ·obtain ⟨vs, rfl, _⟩ := rx; exact ⟨_, rfl⟩
  ·cases h
 ·rcases keyOK_cells h2 with ⟨_, cs, rfl, _⟩ | ⟨h, _⟩
  ·obtain ⟨vs, rfl, _⟩ := ry; exact ⟨_, rfl⟩
  ·cases h
def eBin (P : Program) (op : BinOp) (t : TypeId) (x y : LV) : Option Eff :=
 match op, x, y with
 | .shl, .int k a, .int _ b | .shr, .int k a, .int _ b => (bShift op k a b).map fun r => .valIf r.1 r.2
 | _, .int k a, .int k' b => if k = k' then (bInt op k a b).map fun r => .valIf r.1 r.2 else none
 | _, .str a, .str b => (bStr op a b).map fun r => .valIf r.1 r.2
 | .eql, .agg a, .agg b => (eEqAgg P t (.agg a) (.agg b)).map fun b => .val (.bool b)
 | .neq, .agg a, .agg b => (eEqAgg P t (.agg a) (.agg b)).map fun b => .val (.bool (!b))
 | .eql, x, y => match tDesc P t with
  | some d => (eqNil d x y).map fun b => .val (.bool b)
  | none => none
 | .neq, x, y => match tDesc P t with
  | some d => (eqNil d x y).map fun b => .val (.bool (!b))
  | none => none
 | _, _, _ => none
theorem guard_int {op : BinOp} {t : TypeId} {x y : Operand} {k k' : IntKind} {a b : Int} {w : World} : (eqGuard op t x y (.int k a) (.int k' b)).run P w = .ok () w := by
 cases op <;> simp [eqGuard]
theorem guard_str {op : BinOp} {t : TypeId} {x y : Operand} {a b : ByteArray} {w : World} : (eqGuard op t x y (.string a) (.string b)).run P w = .ok () w := by
 cases op <;> simp [eqGuard]
theorem eBin_ok {op : BinOp} {t : TypeId} {ox oy : Operand} {x y : LV} {vx vy : Value} {e : Eff} {μ : Emb} {w : World} {pre : Pre} (h : eBin P op t x y = some e) (hob : e.ob) (hx : Rel μ x vx) (hy : Rel μ y vy) :
  Runs P (do eqGuard op t ox oy vx vy; binOp op t vx vy) μ w pre [] e.v ∧ e.up = [] ∧ e.foot = [] := by
 have fin : ∀ {r : Value} {v : LV}, (eqGuard op t ox oy vx vy).run P w = .ok () w → (binOp op t vx vy).run P w = .ok r w → Rel μ v r → Runs P (do eqGuard op t ox oy vx vy; binOp op t vx vy) μ w pre [] v := by
  intro r v h1 h2 h3
  exact Runs.same (x := r) (by simp only [Sem.run_bind, h1, Result.andThen_ok, h2]) h3
 unfold eBin at h
 split at h
 ·rename_i k a k' b
  simp only [Option.map_eq_some_iff] at h
  obtain ⟨⟨q, v⟩, hb, rfl⟩ := h
  simp only [Rel] at hx hy; subst hx hy
  obtain ⟨r, h1, h2⟩ := bShift_ok (P := P) (k' := k') (t := t) (w := w) (μ := μ) hb hob
  exact ⟨fin guard_int h1 h2, rfl, rfl⟩
 ·rename_i k a k' b
  simp only [Option.map_eq_some_iff] at h
  obtain ⟨⟨q, v⟩, hb, rfl⟩ := h
  simp only [Rel] at hx hy; subst hx hy
  obtain ⟨r, h1, h2⟩ := bShift_ok (P := P) (k' := k') (t := t) (w := w) (μ := μ) hb hob
  exact ⟨fin guard_int h1 h2, rfl, rfl⟩
 ·rename_i k a k' b _ _
  split at h <;> try cases h
  rename_i hk
  subst hk
  simp only [Option.map_eq_some_iff] at h
  obtain ⟨⟨q, v⟩, hb, rfl⟩ := h
  simp only [Rel] at hx hy; subst hx hy
  obtain ⟨r, h1, h2⟩ := bInt_ok (P := P) (t := t) (w := w) (μ := μ) hb hob
  exact ⟨fin guard_int h1 h2, rfl, rfl⟩
 ·rename_i a b
  simp only [Option.map_eq_some_iff] at h
  obtain ⟨⟨q, v⟩, hb, rfl⟩ := h
  simp only [Rel] at hx hy; subst hx hy
  obtain ⟨r, h1, h2⟩ := bStr_ok (P := P) (t := t) (w := w) (μ := μ) hb hob
  exact ⟨fin guard_str h1 h2, rfl, rfl⟩
 ·rename_i a b
  simp only [Option.map_eq_some_iff] at h
  obtain ⟨b', hb, rfl⟩ := h
  obtain ⟨h1, ⟨c1, rfl⟩, ⟨c2, rfl⟩, h4⟩ := eEqAgg_ok (w := w) hb hx hy
  refine ⟨fin (r := .bool b') ?_ ?_ rfl, rfl, rfl⟩
  ·simp [eqGuard, h4]
  ·simp [binOp, h1]
 ·rename_i a b
  simp only [Option.map_eq_some_iff] at h
  obtain ⟨b', hb, rfl⟩ := h
  obtain ⟨h1, ⟨c1, rfl⟩, ⟨c2, rfl⟩, h4⟩ := eEqAgg_ok (w := w) hb hx hy
  refine ⟨fin (r := .bool (!b')) ?_ ?_ rfl, rfl, rfl⟩
  ·simp [eqGuard, h4]
  ·simp [binOp, h1]
 ·split at h <;> try cases h
  rename_i d hd
  simp only [Option.map_eq_some_iff] at h
  obtain ⟨b', hb, rfl⟩ := h
  obtain ⟨h6, h7, _⟩ := eqNil_ok (w := w) hd hb hx hy
  exact ⟨fin (r := .bool b') (h6 _ _ _) h7 rfl, rfl, rfl⟩
 ·split at h <;> try cases h
  rename_i d hd
  simp only [Option.map_eq_some_iff] at h
  obtain ⟨b', hb, rfl⟩ := h
  obtain ⟨h6, _, h7⟩ := eqNil_ok (w := w) hd hb hx hy
  exact ⟨fin (r := .bool (!b')) (h6 _ _ _) h7 rfl, rfl, rfl⟩
 ·cases h
def findE (k : LV) : List (LV × LV) → Option LV
 | [] => none
 | e :: r => if eqK k e.1 then some e.2 else findE k r
def updE (k v : LV) : List (LV × LV) → List (LV × LV)
 | [] => [(k, v)]
 | e :: r => if eqK k e.1 then (k, v) :: r else e :: updE k v r
def delE (k : LV) : List (LV × LV) → List (LV × LV)
 | [] => []
 | e :: r => if eqK k e.1 then r else e :: delE k r
def atE (k : LV) : List (LV × LV) → Option Nat
 | [] => none
 | e :: r => if eqK k e.1 then some 0 else (atE k r).map (· + 1)
theorem findAsking_ok {t : TypeId} {ag : Bool} {ks : List CK} {w : World} {μ : Emb} {k : LV} {vk : Value} (h : kShape P t = some (ag, ks)) (hk : keyOK ag ks k = true) (rk : Rel μ k vk) :
  ∀ (es : List (LV × LV)) (ms : List MapEntry) (i : Nat), F2 (EntRel μ) es ms → (∀ e ∈ es, keyOK ag ks e.1 = true) →
   (Instr.findAsking t vk ms i).run P w = .ok ((atE k es).bind fun j => (ms[j]?).map fun m => (i + j, m.val)) w
 | _, _, i, .nil, _ => by simp [Instr.findAsking, atE]
 | _, _, i, @F2.cons _ _ _ a b l m hab hr, hall => by
  have h1 := (run_equal_shape (w := w) h hk (hall a (List.mem_cons_self)) rk hab.1.rel).1
  have ih := findAsking_ok (w := w) h hk rk l m (i + 1) hr (fun e he => hall e (List.mem_cons_of_mem _ he))
  simp only [Instr.findAsking, Sem.run_bind, h1, Result.andThen_ok, atE]
  cases eqK k a.1
  ·simp only [Bool.false_eq_true, if_false, ih]
   congr 1
   cases atE k l with
   | none => rfl
   | some j => simp [Nat.add_assoc, Nat.add_comm 1 j]
  ·simp
theorem findNow_ok {t : TypeId} {ag : Bool} {ks : List CK} {μ : Emb} {k : LV} {vk : Value} {kd : TypeDesc} (h : kShape P t = some (ag, ks)) (hd : P.underlying t = some kd) (hk : keyOK ag ks k = true) (rk : Rel μ k vk) :
  ∀ (es : List (LV × LV)) (ms : List MapEntry) (i : Nat) (r : Option (Nat × Value)), F2 (EntRel μ) es ms → (∀ e ∈ es, keyOK ag ks e.1 = true) →
   Instr.findNow kd vk ms i = some r → r = (atE k es).bind fun j => (ms[j]?).map fun m => (i + j, m.val)
 | _, _, i, r, .nil, _, hr => by simp [Instr.findNow] at hr; simp [atE, hr]
 | _, _, i, r, @F2.cons _ _ _ a b l m hab hrest, hall, hr => by
  have ih := findNow_ok h hd hk rk l m (i + 1)
  simp only [Instr.findNow] at hr
  have ha := hall a (List.mem_cons_self)
  have key : ∀ q, Instr.sameNow kd vk b.key = some q → q = eqK k a.1 := by
   intro q hq
   have h1 := (run_equal_shape (P := P) (w := default) h hk ha rk hab.1.rel).1
   have h2 : (Op.equal t vk b.key).run P default = .ok q default := by
    suffices hs : ∀ n, (Op.equalIn (n + 1) t vk b.key).run P default = .ok q default from hs 9999
    intro n
    generalize b.key = bk at hq
    unfold Instr.sameNow at hq
    split at hq
    ·split at hq <;> cases hq
     rename_i hkk
     subst hkk
     simp [Op.equalIn, run_under hd]
    ·cases hq
     simp [Op.equalIn, run_under hd, beq_toListBytes]
    ·cases hq
     simp [Op.equalIn, run_under hd]
    ·cases hq
   rw [h1] at h2
   cases h2
   rfl
  cases hs : Instr.sameNow kd vk b.key with
  | none => simp [hs] at hr
  | some q =>
   have hq := key q hs
   cases q with
   | true =>
    simp only [hs, Option.some.injEq] at hr
    rw [← hr, atE, ← hq]
    simp
   | false =>
    simp only [hs] at hr
    have := ih r hrest (fun e he => hall e (List.mem_cons_of_mem _ he)) hr
    rw [this, atE, ← hq]
    simp only [Bool.false_eq_true, if_false]
    cases atE k l with
    | none => rfl
    | some j => simp [Nat.add_assoc, Nat.add_comm 1 j]
theorem findKey_ok {t : TypeId} {ag : Bool} {ks : List CK} {w : World} {μ : Emb} {k : LV} {vk : Value} {es : List (LV × LV)} {ms : List MapEntry} (h : kShape P t = some (ag, ks)) (hk : keyOK ag ks k = true) (rk : Rel μ k vk)
  (hr : F2 (EntRel μ) es ms) (hall : ∀ e ∈ es, keyOK ag ks e.1 = true) : (Instr.findKey t vk ms).run P w = .ok ((atE k es).bind fun j => (ms[j]?).map fun m => (j, m.val)) w := by
 obtain ⟨d, hd, _, _⟩ := kShape_some h
 simp only [Instr.findKey, Sem.run_bind, run_under hd, Result.andThen_ok]
 cases hn : Instr.findNow d vk ms 0 with
 | some r =>
  have := findNow_ok h hd hk rk es ms 0 r hr hall hn
  simp only [Sem.run_pure, this]
  simp
 | none =>
  have := findAsking_ok (w := w) h hk rk es ms 0 hr hall
  simp only [this]
  simp
theorem F2.get {α β : Type} {R : α → β → Prop} {l : List α} {m : List β} (h : F2 R l m) : ∀ (i : Nat) (a : α), l[i]? = some a → ∃ b, m[i]? = some b ∧ R a b := by
 induction h with
 | nil => intro i a h; simp at h
 | @cons a b l m hab _ ih =>
  intro i x hx
  cases i with
  | zero => simp at hx; subst hx; exact ⟨b, by simp, hab⟩
  | succ i => simp at hx; simpa using ih i x hx
theorem atE_find {k : LV} : ∀ {es : List (LV × LV)}, findE k es = (atE k es).bind fun j => (es[j]?).map (·.2)
 | [] => rfl
 | e :: r => by
  simp only [findE, atE]
  split
  ·simp
  ·rw [atE_find (es := r)]
   cases atE k r <;> simp
theorem atE_lt {k : LV} : ∀ {es : List (LV × LV)} {j : Nat}, atE k es = some j → j < es.length ∧ ∃ e, es[j]? = some e ∧ eqK k e.1 = true
 | [], _, h => by simp [atE] at h
 | e :: r, j, h => by
  simp only [atE] at h
  split at h
  ·rename_i he; cases h; exact ⟨by simp, e, by simp, he⟩
  ·simp only [Option.map_eq_some_iff] at h
   obtain ⟨j', hj, rfl⟩ := h
   obtain ⟨h1, e', h2, h3⟩ := atE_lt hj
   exact ⟨by simp; omega, e', by simpa using h2, h3⟩
theorem updE_at {k v : LV} : ∀ {es : List (LV × LV)}, updE k v es = match atE k es with | some j => es.set j (k, v) | none => es ++ [(k, v)]
 | [] => rfl
 | e :: r => by
  simp only [updE, atE]
  split
  ·simp
  ·rw [updE_at (es := r)]
   cases atE k r <;> simp
theorem delE_at {k : LV} : ∀ {es : List (LV × LV)}, delE k es = match atE k es with | some j => es.eraseIdx j | none => es
 | [] => rfl
 | e :: r => by
  simp only [delE, atE]
  split
  ·simp
  ·rw [delE_at (es := r)]
   cases atE k r <;> simp
theorem look_ok {t : TypeId} {kt el : TypeId} {ag : Bool} {ks : List CK} {z k : LV} {es : List (LV × LV)} {ok : Bool} {r : Option LV} {vk zv : Value} {μ : Emb} {w : World} {pre : Pre} {rb : Nat} (hd : tDesc P t = some (.map kt el)) (hsh : kShape P kt = some (ag, ks))
  (hzv : (zeroValue el).run P w = .ok zv w) (hzr : ∀ μ, Rel μ z zv) (h1 : keyOK ag ks k = true) (h2 : findE k es = r) (hk : Rel μ k vk) (hok : MapOK μ w.heap[rb]? ag ks es) :
  Runs P (Instr.lookup t (.map (some rb)) vk ok) μ w pre [] (if ok then .tup [r.getD z, .bool r.isSome] else r.getD z) := by
 obtain ⟨⟨en, cl, k1, k2, k3, k4⟩, k5⟩ := hok
 have hck := (run_equal_shape (w := w) hsh h1 h1 hk hk).2
 have hg : (getObj rb).run P w = .ok (.map en cl) w := by simp [getObj, Sem.run, k1]
 have hf := findKey_ok (w := w) hsh h1 hk k2 k5
 have e1 : (Instr.lookup t (.map (some rb)) vk ok).run P w = ((Instr.findKey kt vk en.toList).run P w).andThen fun r w' =>
   (match r with | some (_, v) => (pure (if ok then .tuple #[v, .bool true] else v) : Sem Value) | none => (do let z ← zeroValue el; pure (if ok then .tuple #[z, .bool false] else z))).run P w' := by
  simp only [Instr.lookup, Sem.run_bind, run_under hd, Result.andThen_ok, hg, Sem.run_pure, hck]
  rw [hf]
  simp only [Result.andThen_ok]
  cases (atE k es).bind fun j => (en.toList[j]?).map fun m => (j, m.val) with
  | none => simp
  | some x => obtain ⟨a, b⟩ := x; simp
 rw [atE_find] at h2
 cases ha : atE k es with
 | none =>
  rw [ha] at hf h2
  simp only [Option.bind_none] at hf h2
  subst h2
  refine (Runs.same (x := if ok then .tuple #[zv, .bool false] else zv) ?_ ?_)
  ·rw [e1, hf]
   simp [hzv]
  ·cases ok
   ·exact hzr μ
   ·exact ⟨_, rfl, _, _, rfl, hzr μ, _, _, rfl, rfl, rfl⟩
 | some j =>
  obtain ⟨hlt, x, hx, _⟩ := atE_lt ha
  obtain ⟨b, hb, hab⟩ := k2.get j x hx
  rw [ha] at hf h2
  simp only [Option.bind_some, hb, hx, Option.map_some] at hf h2
  subst h2
  refine (Runs.same (x := if ok then .tuple #[b.val, .bool true] else b.val) ?_ ?_)
  ·rw [e1, hf]
   simp
  ·cases ok
   ·exact hab.2.rel
   ·exact ⟨_, rfl, _, _, rfl, hab.2.rel, _, _, rfl, rfl, rfl⟩
theorem atE_with {k z : LV} (hk : eqK k k = true) : ∀ (es : List (LV × LV)), atE k es = none → findE k (updE k z es) = some z
 | [], _ => by simp [updE, findE, hk]
 | e :: r, h => by
  simp only [atE] at h
  split at h
  ·cases h
  rename_i hne
  simp only [Option.map_eq_none_iff] at h
  simp only [updE, hne, if_false, Bool.false_eq_true, findE]
  exact atE_with hk r h
theorem entPut_eq (k v : LV) : ∀ (es : List (LV × LV)), entPut k v es = updE k v es
 | [] => rfl
 | e :: r => by simp only [entPut, updE, entPut_eq k v r]
theorem entAt_eq (k : LV) : ∀ (es : List (LV × LV)), entAt k es = atE k es
 | [] => rfl
 | e :: r => by simp only [entAt, atE, entAt_eq k r]
def eLookup (P : Program) (H : Heap) (t : TypeId) (m k : LV) (ok : Bool) (r : Option LV) : Option Eff :=
 match tDesc P t with
 | some (.map kt el) =>
  match kShape P kt, tZero P el with
  | some (ag, ks), some z =>
   let out := fun (q : Prop) (foot : List Nat) => some (Eff.mk (keyOK ag ks k = true ∧ q) (if ok then .tup [r.getD z, .bool r.isSome] else r.getD z) foot [])
   match m with
   | .nilmap => out (r = none) []
   | .map c =>
    match H.at c with
    | some (.map ag' ks' es) => if ag = ag' ∧ ks = ks' then out (findE k es = r) [c] else none
    | some (.mapR ag' ks' es) => if ag = ag' ∧ ks = ks' then out (findE k es = r) [c] else none
    | some (.mapP ag' ks' es k' z') => if ag = ag' ∧ ks = ks' ∧ ok = false then out (findE k es = r ∧ k' = k ∧ z' = z ∧ eqK k k = true) [c] else none
    | _ => none
   | _ => none
  | _, _ => none
 | _ => none
theorem eLookup_ok {H : Heap} {t : TypeId} {m k : LV} {ok : Bool} {r : Option LV} {vm vk : Value} {e : Eff} {μ : Emb} {w : World} (h : eLookup P H t m k ok r = some e) (hob : e.ob) (hm : Rel μ m vm) (hk : Rel μ k vk)
  (hp : PreOK0 μ (H.pre e.foot) w) : Runs P (Instr.lookup t vm vk ok) μ w (H.pre e.foot) [] e.v ∧ e.up = [] := by
 unfold eLookup at h
 split at h <;> try cases h
 rename_i kt el hd
 split at h <;> try cases h
 rename_i ag ks z hsh hz
 obtain ⟨zv, hzv, hzr⟩ := run_zero (w := w) hz
 dsimp only at h
 split at h <;> try cases h
 ·obtain ⟨h1, h2⟩ := hob
  subst h2
  simp only [Rel] at hm; subst hm
  have hck := (run_equal_shape (w := w) hsh h1 h1 hk hk).2
  refine ⟨Runs.same (x := if ok then .tuple #[zv, .bool false] else zv) ?_ ?_, rfl⟩
  ·simp only [Instr.lookup, Sem.run_bind, run_under hd, Result.andThen_ok, Sem.run_pure]
   simp only [hck, Result.andThen_ok]
   have hf : (Instr.findKey kt vk (#[] : Array MapEntry).toList).run P w = .ok none w := by
    have := findKey_ok (w := w) (es := []) (ms := []) hsh h1 hk .nil (fun _ h => by cases h)
    simpa [atE] using this
   simp only [hf, Result.andThen_ok, hzv, Sem.run_pure, Sem.run_bind]
  ·cases ok
   ·exact hzr μ
   ·exact ⟨_, rfl, _, _, rfl, hzr μ, _, _, rfl, rfl, rfl⟩
 ·rename_i c
  split at h <;> try cases h
  ·rename_i ag' ks' es ho
   split at h <;> cases h
   rename_i hc
   obtain ⟨rfl, rfl⟩ := hc
   obtain ⟨h1, h2⟩ := hob
   obtain ⟨p, hpc, rfl⟩ := hm
   obtain ⟨p', hpc', hok⟩ := hp.obj c _ (by rw [Heap.pre_one ho]; exact List.mem_singleton.2 rfl)
   obtain rfl := Option.some.inj (hpc'.symm.trans hpc)
   exact ⟨look_ok hd hsh hzv hzr h1 h2 hk hok, rfl⟩
  ·rename_i ag' ks' es ho
   split at h <;> cases h
   rename_i hc
   obtain ⟨rfl, rfl⟩ := hc
   obtain ⟨h1, h2⟩ := hob
   obtain ⟨p, hpc, rfl⟩ := hm
   obtain ⟨p', hpc', hok⟩ := hp.obj c _ (by rw [Heap.pre_one ho]; exact List.mem_singleton.2 rfl)
   obtain rfl := Option.some.inj (hpc'.symm.trans hpc)
   exact ⟨look_ok hd hsh hzv hzr h1 h2 hk (es := es) hok, rfl⟩
  ·rename_i ag' ks' es k' z' ho
   split at h <;> cases h
   rename_i hc
   obtain ⟨rfl, rfl, rfl⟩ := hc
   obtain ⟨h1, h2, rfl, rfl, hkk⟩ := hob
   obtain ⟨p, hpc, rfl⟩ := hm
   obtain ⟨p', hpc', hok⟩ := hp.obj c _ (by rw [Heap.pre_one ho]; exact List.mem_singleton.2 rfl)
   obtain rfl := Option.some.inj (hpc'.symm.trans hpc)
   refine ⟨?_, rfl⟩
   rcases hok with hok | hok
   ·exact look_ok hd hsh hzv hzr h1 h2 hk hok
   ·cases ha : atE k' es with
    | some j =>
     have e : entWith k' z' es = es := by unfold entWith; rw [entAt_eq, ha]
     rw [e] at hok
     exact look_ok hd hsh hzv hzr h1 h2 hk hok
    | none =>
     have e : entWith k' z' es = updE k' z' es := by unfold entWith; rw [entAt_eq, ha, ← entPut_eq]
     rw [e] at hok
     have hr : r = none := by rw [← h2, atE_find, ha]; rfl
     have := look_ok (ok := false) (pre := H.pre [c]) hd hsh hzv hzr h1 (atE_with hkk es ha) hk hok
     rw [hr]
     exact this
end
end Go.Cn
