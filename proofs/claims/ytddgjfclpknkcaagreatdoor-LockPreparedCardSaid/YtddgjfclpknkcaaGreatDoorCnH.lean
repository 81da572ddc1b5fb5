import Derived.Test.YtddgjfclpknkcaaGreatDoorCnG
import Derived.DeepKeys3
namespace Go.Cn
open Go
theorem eqCs_append : ∀ (a b c d : List LV), a.length = c.length → eqCs (a ++ b) (c ++ d) = (eqCs a c && eqCs b d)
 | [], b, [], d, _ => by simp [eqCs]
 | x :: a, b, y :: c, d, h => by simp only [List.cons_append, eqCs, eqCs_append a b c d (by simpa using h), Bool.and_assoc]
 | [], _, _ :: _, _, h => by simp at h
 | _ :: _, _, [], _, h => by simp at h
def mkV (agg : Bool) (vs : List Value) : Value := if agg then .agg vs.toArray else vs.headD undef
def shpG (P : Program) (g : TypeId → Option (List CK)) : List Field → Nat → Option (List CK)
 | [], _ => some []
 | f :: r, o =>
  match g f.type, tSize P f.type with
  | some l, some z =>
   if f.name ≠ "_" ∧ f.offset = o ∧ l.length = z then (shpG P g r (o + z)).map (l ++ ·) else none
  | _, _ => none
def shp (P : Program) : Nat → TypeId → Option (List CK)
 | 0, _ => none
 | d + 1, t =>
  match tDesc P t, tSize P t with
  | some (.int k), some 1 => some [.int k]
  | some .bool, some 1 => some [.bool]
  | some .string, some 1 => some [.str]
  | some (.struct fs), some s =>
   if P.stoodInHeld t then none else
   match shpG P (fun u => shp P d u) fs.toList 0 with
   | some l => if l.length = s then some l else none
   | none => none
  | some (.array n e), some s =>
   match shp P d e, tSize P e with
   | some l, some z => if l.length = z ∧ n * z = s then some (repC n l) else none
   | _, _ => none
  | _, _ => none
def shpFs (P : Program) (d : Nat) (fs : List Field) (o : Nat) : Option (List CK) := shpG P (fun u => shp P d u) fs o
theorem shpFs_nil (P : Program) (d o : Nat) : shpFs P d [] o = some [] := rfl
theorem shpFs_cons (P : Program) (d : Nat) (f : Field) (r : List Field) (o : Nat) : shpFs P d (f :: r) o =
  match shp P d f.type, tSize P f.type with
  | some l, some z =>
   if f.name ≠ "_" ∧ f.offset = o ∧ l.length = z then (shpFs P d r (o + z)).map (l ++ ·) else none
  | _, _ => none := rfl
section
variable {P : Program}
theorem fitsL_length : ∀ {ks : List CK} {cs : List LV}, fitsL ks cs = true → cs.length = ks.length
 | [], [], _ => rfl
 | [], _ :: _, h => by simp [fitsL] at h
 | _ :: _, [], h => by simp [fitsL] at h
 | _ :: _, _ :: _, h => by simp only [fitsL, Bool.and_eq_true] at h; simp [fitsL_length h.2]
theorem fitsL_append : ∀ {a b : List CK} {cs : List LV}, fitsL (a ++ b) cs = true → fitsL a (cs.take a.length) = true ∧ fitsL b (cs.drop a.length) = true
 | [], b, cs, h => by simpa [fitsL] using h
 | _ :: _, b, [], h => by simp [fitsL] at h
 | k :: a, b, c :: cs, h => by
  simp only [List.cons_append, fitsL, Bool.and_eq_true] at h
  have := fitsL_append h.2
  simp only [List.length_cons, List.take_succ_cons, List.drop_succ_cons, fitsL, Bool.and_eq_true]
  exact ⟨⟨h.1, this.1⟩, this.2⟩
theorem run_part {w : World} {t : TypeId} {d : TypeDesc} {s off : Nat} {xs : Array Value} (hd : P.underlying t = some d) (hs : tSize P t = some s) (h2 : aggD d = false → s = 1 ∧ off < xs.size) :
  (part t xs off).run P w = .ok (mkV (aggD d) ((xs.toList.drop off).take s)) w := by
 unfold part
 simp only [Sem.run_bind, run_isAgg hd, Result.andThen_ok]
 cases hag : aggD d with
 | true => simp [mkV, run_sizeOf' hs, arr_extract]
 | false =>
  obtain ⟨rfl, hlt⟩ := h2 hag
  have : xs[off]? = some xs[off] := Array.getElem?_eq_getElem hlt
  simp only [mkV, Bool.false_eq_true, if_false, this, Sem.run_pure]
  rw [List.drop_eq_getElem_cons (by simpa using hlt)]
  simp
def EqRun (P : Program) (t : TypeId) (ks : List CK) (D : Nat) : Prop :=
 ∀ (w : World) (μ ν : Emb) (d : TypeDesc) (cs ds : List LV) (vs us : List Value), P.underlying t = some d → fitsL ks cs = true → fitsL ks ds = true → RelL μ cs vs → RelL ν ds us →
  (Op.equalIn D t (mkV (aggD d) vs) (mkV (aggD d) us)).run P w = .ok (eqCs cs ds) w ∧ ∀ em, (Instr.checkKey em D t (mkV (aggD d) vs)).run P w = .ok () w
theorem shp_agg {d : Nat} {t : TypeId} {ks : List CK} {de : TypeDesc} (h : shp P d t = some ks) (hd : P.underlying t = some de) : tSize P t = some ks.length ∧ (aggD de = false → ks.length = 1) := by
 cases d with
 | zero => simp [shp] at h
 | succ d =>
  unfold shp at h
  simp only [tDesc, hd] at h
  split at h <;> try cases h
  ·rename_i h1 h2; cases h1; exact ⟨h2, fun _ => rfl⟩
  ·rename_i h1 h2; cases h1; exact ⟨h2, fun _ => rfl⟩
  ·rename_i h1 h2; cases h1; exact ⟨h2, fun _ => rfl⟩
  ·rename_i h1 h2
   cases h1
   split at h <;> try cases h
   split at h <;> try cases h
   split at h <;> cases h
   rename_i hl
   exact ⟨by rw [h2, hl], fun hf => by simp [aggD] at hf⟩
  ·rename_i h1 h2
   cases h1
   split at h <;> try cases h
   split at h <;> cases h
   rename_i hl
   refine ⟨?_, fun hf => by simp [aggD] at hf⟩
   rw [h2, ← hl.2, repC_length, hl.1]
theorem relL_drop_take {μ : Emb} {cs : List LV} {vs : List Value} (h : RelL μ cs vs) (o n : Nat) : RelL μ ((cs.drop o).take n) ((vs.drop o).take n) := (h.drop o).take n
def ckFields (em : Bool) (D : Nat) (xs : Array Value) (fs : List Field) : Sem PUnit :=
 forIn fs PUnit.unit fun f (_ : PUnit) => do
  if f.name ≠ "_" then
   Instr.checkKey em D f.type (← part f.type xs f.offset)
  pure (ForInStep.yield PUnit.unit)
def ckItems (em : Bool) (D : Nat) (e : TypeId) (n : Nat) (xs : Array Value) (is : List Nat) : Sem PUnit :=
 forIn is PUnit.unit fun j (_ : PUnit) => do
  Instr.checkKey em D e (← part e xs (j * n))
  pure (ForInStep.yield PUnit.unit)
theorem run_fields {w : World} {μ ν : Emb} {dd D : Nat} (ih : ∀ t ks, shp P dd t = some ks → EqRun P t ks D) {cs ds : List LV} {xs ys : Array Value} (hx : RelL μ cs xs.toList) (hy : RelL ν ds ys.toList) :
  ∀ (fs : List Field) (o : Nat) (ks : List CK), shpFs P dd fs o = some ks → fitsL ks (cs.drop o) = true → fitsL ks (ds.drop o) = true → (∀ f ∈ fs, ∃ i, P.underlying f.type = some i) →
   (Op.eqFields D xs ys fs).run P w = .ok (eqCs (cs.drop o) (ds.drop o)) w ∧
   ∀ em, (ckFields em D xs fs).run P w = .ok PUnit.unit w
 | [], o, ks, h, h1, h2, _ => by
  simp only [shpFs_nil, Option.some.injEq] at h
  subst h
  have e1 : cs.drop o = [] := by have := fitsL_length h1; simp at this; simp; omega
  have e2 : ds.drop o = [] := by have := fitsL_length h2; simp at this; simp; omega
  simp [Op.eqFields, e1, e2, eqCs, ckFields]
 | f :: fs, o, ks, h, h1, h2, hu => by
  rw [shpFs_cons] at h
  split at h <;> try cases h
  rename_i l z hl hz
  split at h <;> try cases h
  rename_i hc
  obtain ⟨hn, ho, hlz⟩ := hc
  simp only [Option.map_eq_some_iff] at h
  obtain ⟨l', hl', rfl⟩ := h
  obtain ⟨a1, a2⟩ := fitsL_append h1
  obtain ⟨b1, b2⟩ := fitsL_append h2
  rw [List.drop_drop] at a2 b2
  obtain ⟨de, hde⟩ := hu f (List.mem_cons_self)
  have hsz := (shp_agg hl hde).2
  have lx := hx.length
  have ly := hy.length
  simp only [Array.length_toList] at lx ly
  have la := fitsL_length a1
  have lb := fitsL_length b1
  simp only [List.length_take, List.length_drop] at la lb
  have px := run_part (w := w) (xs := xs) (off := o) hde hz (fun hf => ⟨by rw [← hlz]; exact hsz hf, by have := hsz hf; omega⟩)
  have py := run_part (w := w) (xs := ys) (off := o) hde hz (fun hf => ⟨by rw [← hlz]; exact hsz hf, by have := hsz hf; omega⟩)
  rw [← hlz] at px py
  obtain ⟨e1, e2⟩ := ih f.type l hl w μ ν de _ _ _ _ hde a1 b1 (relL_drop_take hx o l.length) (relL_drop_take hy o l.length)
  obtain ⟨r1, r2⟩ := run_fields ih hx hy fs (o + z) l' hl' (by rw [← hlz]; exact a2) (by rw [← hlz]; exact b2) (fun g hg => hu g (List.mem_cons_of_mem _ hg))
  rw [← hlz] at r1
  have split : eqCs (cs.drop o) (ds.drop o) = (eqCs ((cs.drop o).take l.length) ((ds.drop o).take l.length) && eqCs (cs.drop (o + l.length)) (ds.drop (o + l.length))) := by
   rw [← eqCs_append _ _ _ _ (by simp; omega)]
   rw [← List.drop_drop, ← List.drop_drop, List.take_append_drop, List.take_append_drop]
  refine ⟨?_, fun em => ?_⟩
  ·simp only [Op.eqFields, hn, ne_eq, not_false_eq_true, if_true, Sem.run_bind, ho, px, py, Result.andThen_ok, e1, split]
   cases eqCs ((cs.drop o).take l.length) ((ds.drop o).take l.length)
   ·simp
   ·simpa using r1
  ·have := r2 em
   unfold ckFields at this ⊢
   simp only [List.forIn_cons, Sem.run_bind, hn, ne_eq, not_false_eq_true, if_true, ho, px, Result.andThen_ok, e2 em, Sem.run_pure]
   exact this
theorem run_items {w : World} {μ ν : Emb} {dd D : Nat} (ih : ∀ t ks, shp P dd t = some ks → EqRun P t ks D) {cs ds : List LV} {xs ys : Array Value} (hx : RelL μ cs xs.toList) (hy : RelL ν ds ys.toList)
  {e : TypeId} {de : TypeDesc} {l : List CK} (hl : shp P dd e = some l) (hde : P.underlying e = some de) :
  ∀ (n i : Nat), fitsL (repC n l) (cs.drop (i * l.length)) = true → fitsL (repC n l) (ds.drop (i * l.length)) = true →
   (Op.eqItems D e l.length xs ys (List.range' i n)).run P w = .ok (eqCs (cs.drop (i * l.length)) (ds.drop (i * l.length))) w ∧
   ∀ em, (ckItems em D e l.length xs (List.range' i n)).run P w = .ok PUnit.unit w
 | 0, i, h1, h2 => by
  have e1 : cs.drop (i * l.length) = [] := by have := fitsL_length h1; simp [repC] at this; simp; omega
  have e2 : ds.drop (i * l.length) = [] := by have := fitsL_length h2; simp [repC] at this; simp; omega
  simp [Op.eqItems, e1, e2, eqCs, ckItems]
 | n + 1, i, h1, h2 => by
  obtain ⟨a1, a2⟩ := fitsL_append (a := l) (b := repC n l) h1
  obtain ⟨b1, b2⟩ := fitsL_append (a := l) (b := repC n l) h2
  have hsz := shp_agg hl hde
  have lx := hx.length
  have ly := hy.length
  simp only [Array.length_toList] at lx ly
  have la := fitsL_length a1
  have lb := fitsL_length b1
  simp only [List.length_take, List.length_drop] at la lb
  have px := run_part (w := w) (xs := xs) (off := i * l.length) hde hsz.1 (fun hf => ⟨hsz.2 hf, by have := hsz.2 hf; omega⟩)
  have py := run_part (w := w) (xs := ys) (off := i * l.length) hde hsz.1 (fun hf => ⟨hsz.2 hf, by have := hsz.2 hf; omega⟩)
  obtain ⟨e1, e2⟩ := ih e l hl w μ ν de _ _ _ _ hde a1 b1 (relL_drop_take hx (i * l.length) l.length) (relL_drop_take hy (i * l.length) l.length)
  have hi : (i + 1) * l.length = i * l.length + l.length := by rw [Nat.add_mul]; omega
  rw [List.drop_drop, ← hi] at a2 b2
  obtain ⟨r1, r2⟩ := run_items ih hx hy hl hde n (i + 1) a2 b2
  have split : eqCs (cs.drop (i * l.length)) (ds.drop (i * l.length)) = (eqCs ((cs.drop (i * l.length)).take l.length) ((ds.drop (i * l.length)).take l.length) && eqCs (cs.drop ((i + 1) * l.length)) (ds.drop ((i + 1) * l.length))) := by
   rw [← eqCs_append _ _ _ _ (by simp; omega), hi]
   rw [← List.drop_drop, ← List.drop_drop, List.take_append_drop, List.take_append_drop]
  refine ⟨?_, fun em => ?_⟩
  ·simp only [List.range'_succ, Op.eqItems, Sem.run_bind, px, py, Result.andThen_ok, e1, split]
   cases eqCs ((cs.drop (i * l.length)).take l.length) ((ds.drop (i * l.length)).take l.length)
   ·simp
   ·simpa using r1
  ·have := r2 em
   unfold ckItems at this ⊢
   simp only [List.range'_succ, List.forIn_cons, Sem.run_bind, px, Result.andThen_ok, e2 em, Sem.run_pure]
   exact this
theorem forIn_size {em : Bool} {D n : Nat} {e : TypeId} {xs : Array Value} (hsz : ∀ w, (sizeOf e).run P w = .ok n w) : ∀ (is : List Nat) (w : World),
  (forIn is PUnit.unit (fun i (_ : PUnit) => do
    let s ← sizeOf e
    let p ← part e xs (i * s)
    Instr.checkKey em D e p
    pure (ForInStep.yield PUnit.unit)) : Sem PUnit).run P w = (ckItems em D e n xs is).run P w
 | [], w => by simp [ckItems]
 | i :: is, w => by
  unfold ckItems
  simp only [List.forIn_cons, Sem.run_bind, hsz, Result.andThen_ok]
  cases (part e xs (i * n)).run P w with
  | halt h w' => rfl
  | ok a w' =>
   simp only [Result.andThen_ok]
   cases (Instr.checkKey em D e a).run P w' with
   | halt h w'' => rfl
   | ok b w'' =>
    simp only [Result.andThen_ok, Sem.run_pure]
    have := forIn_size (em := em) (D := D) (xs := xs) hsz is w''
    unfold ckItems at this
    exact this
theorem shpFs_under {d : Nat} : ∀ {fs : List Field} {o : Nat} {ks : List CK}, shpFs P d fs o = some ks → ∀ f ∈ fs, ∃ i, P.underlying f.type = some i
 | [], _, _, _, f, hf => by cases hf
 | g :: fs, o, ks, h, f, hf => by
  rw [shpFs_cons] at h
  split at h <;> try cases h
  rename_i l z hl hz
  split at h <;> try cases h
  simp only [Option.map_eq_some_iff] at h
  obtain ⟨l', hl', rfl⟩ := h
  rcases List.mem_cons.1 hf with rfl | hf
  ·cases d with
   | zero => simp [shp] at hl
   | succ d =>
    unfold shp at hl
    cases hd : tDesc P f.type with
    | none => simp [hd] at hl
    | some x => exact ⟨x, hd⟩
  ·exact shpFs_under hl' f hf
theorem shp_run (D0 : Nat) : ∀ (d : Nat) (t : TypeId) (ks : List CK), shp P d t = some ks → EqRun P t ks (D0 + d)
 | 0, t, ks, h => by simp [shp] at h
 | d + 1, t, ks, h => by
  intro w μ ν de cs ds vs us hde h1 h2 hx hy
  have h0 := h
  unfold shp at h
  simp only [tDesc, hde] at h
  have scal : ∀ {k : CK}, ks = [k] → aggD de = false → ∃ c e v u, cs = [c] ∧ ds = [e] ∧ vs = [v] ∧ us = [u] ∧ fitsC k c = true ∧ fitsC k e = true ∧ Rel μ c v ∧ Rel ν e u := by
   intro k hk _
   subst hk
   match cs, h1, hx with
   | [c], h1, ⟨v, _, e, r, r'⟩ =>
    cases r'
    subst e
    match ds, h2, hy with
    | [e], h2, ⟨u, _, e', s, s'⟩ =>
     cases s'
     subst e'
     simp only [fitsL, Bool.and_true] at h1 h2
     exact ⟨c, e, v, u, rfl, rfl, rfl, rfl, h1, h2, r, s⟩
    | _ :: _ :: _, h2, _ => simp [fitsL] at h2
   | _ :: _ :: _, h1, _ => simp [fitsL] at h1
  split at h <;> try cases h
  ·rename_i k e1 e2
   cases e1
   obtain ⟨c, e, v, u, rfl, rfl, rfl, rfl, f1, f2, r, s⟩ := scal rfl rfl
   cases c <;> simp only [fitsC, Bool.false_eq_true, decide_eq_true_eq] at f1
   cases e <;> simp only [fitsC, Bool.false_eq_true, decide_eq_true_eq] at f2
   subst f1; subst f2
   simp only [Rel] at r s
   subst r; subst s
   refine ⟨?_, fun em => ?_⟩
   ·show (Op.equalIn (D0 + d + 1) t _ _).run P w = _
    simp [mkV, aggD, Op.equalIn, run_under hde, eqCs, eqC]
   ·show (Instr.checkKey em (D0 + d + 1) t _).run P w = _
    simp [mkV, aggD, Instr.checkKey, run_under hde]
  ·rename_i e1 e2
   cases e1
   obtain ⟨c, e, v, u, rfl, rfl, rfl, rfl, f1, f2, r, s⟩ := scal rfl rfl
   cases c <;> simp only [fitsC, Bool.false_eq_true] at f1
   cases e <;> simp only [fitsC, Bool.false_eq_true] at f2
   simp only [Rel] at r s
   subst r; subst s
   refine ⟨?_, fun em => ?_⟩
   ·show (Op.equalIn (D0 + d + 1) t _ _).run P w = _
    simp [mkV, aggD, Op.equalIn, run_under hde, eqCs, eqC]
   ·show (Instr.checkKey em (D0 + d + 1) t _).run P w = _
    simp [mkV, aggD, Instr.checkKey, run_under hde]
  ·rename_i e1 e2
   cases e1
   obtain ⟨c, e, v, u, rfl, rfl, rfl, rfl, f1, f2, r, s⟩ := scal rfl rfl
   cases c <;> simp only [fitsC, Bool.false_eq_true] at f1
   cases e <;> simp only [fitsC, Bool.false_eq_true] at f2
   simp only [Rel] at r s
   subst r; subst s
   refine ⟨?_, fun em => ?_⟩
   ·show (Op.equalIn (D0 + d + 1) t _ _).run P w = _
    simp [mkV, aggD, Op.equalIn, run_under hde, eqCs, eqC, beq_toListBytes, toList_mk]
   ·show (Instr.checkKey em (D0 + d + 1) t _).run P w = _
    simp [mkV, aggD, Instr.checkKey, run_under hde]
  ·rename_i fs s e1 e2
   cases e1
   split at h <;> try cases h
   rename_i hst
   split at h <;> try cases h
   rename_i l hl
   split at h <;> cases h
   have hst' : P.stoodInHeld t = false := by simpa using hst
   have hfs : P.fieldsOf t = fs := by simp [Program.fieldsOf, hde]
   have ih : ∀ t ks, shp P d t = some ks → EqRun P t ks (D0 + d) := fun t ks h => shp_run D0 d t ks h
   obtain ⟨r1, r2⟩ := run_fields (w := w) ih (xs := vs.toArray) (ys := us.toArray) (by simpa using hx) (by simpa using hy) fs.toList 0 ks hl (by simpa using h1) (by simpa using h2) (shpFs_under hl)
   refine ⟨?_, fun em => ?_⟩
   ·show (Op.equalIn (D0 + d + 1) t _ _).run P w = _
    simp only [mkV, aggD, if_true]
    rw [run_equalIn_struct w (D0 + d) t _ _ (by rw [hfs]; exact hde) hst', hfs]
    simpa using r1
   ·show (Instr.checkKey em (D0 + d + 1) t _).run P w = _
    simp only [mkV, aggD, if_true, Instr.checkKey, Sem.run_bind, run_under hde, Result.andThen_ok]
    rw [← Array.forIn_toList]
    have := r2 em
    unfold ckFields at this
    simp only [Sem.run_bind] at this ⊢
    rw [this]
    rfl
  ·rename_i n e s e1 e2
   cases e1
   split at h <;> try cases h
   rename_i l z hl hz
   split at h <;> cases h
   rename_i hc
   obtain ⟨hlz, hnz⟩ := hc
   have ih : ∀ t ks, shp P d t = some ks → EqRun P t ks (D0 + d) := fun t ks h => shp_run D0 d t ks h
   obtain ⟨i, hi, his⟩ := tSize_some hz
   obtain ⟨de', hde'⟩ : ∃ x, P.underlying e = some x := by
    cases d with
    | zero => simp [shp] at hl
    | succ d =>
     unfold shp at hl
     cases hd : tDesc P e with
     | none => simp [hd] at hl
     | some x => exact ⟨x, hd⟩
   obtain ⟨r1, r2⟩ := run_items (w := w) ih (xs := vs.toArray) (ys := us.toArray) (by simpa using hx) (by simpa using hy) hl hde' n 0 (by simpa using h1) (by simpa using h2)
   have hcell : P.cellsOf e = l.length := by simp [Program.cellsOf, hi, his, hlz]
   refine ⟨?_, fun em => ?_⟩
   ·show (Op.equalIn (D0 + d + 1) t _ _).run P w = _
    simp only [mkV, aggD, if_true]
    rw [run_equalIn_array w (D0 + d) _ _ hde hi, hcell, List.range_eq_range']
    simpa using r1
   ·show (Instr.checkKey em (D0 + d + 1) t _).run P w = _
    simp only [mkV, aggD, if_true, Instr.checkKey, Sem.run_bind, run_under hde, Result.andThen_ok]
    simp only [Std.Legacy.Range.forIn_eq_forIn_range', Std.Legacy.Range.size, Nat.sub_zero, Nat.add_one_sub_one, Nat.div_one]
    have hsz : ∀ w', (sizeOf e).run P w' = .ok l.length w' := fun w' => by rw [run_sizeOf' hz, hlz]
    have := forIn_size (em := em) (D := D0 + d) (xs := vs.toArray) hsz (List.range' 0 n) w
    unfold ckItems at this
    rw [this]
    have h3 := r2 em
    unfold ckItems at h3
    rw [h3]
    rfl
end
end Go.Cn
