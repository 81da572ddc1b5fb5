import Derived.Test.YtdchgoaokceomaaGreatDoorCnA
set_option linter.unusedVariables false
set_option linter.unusedSimpArgs false
namespace Go.Cn
inductive LO where
 | var (cs : List LV)
 | row (sz n : Nat) (f : Nat → List LV) (wr : Bool)
 | map (ag : Bool) (ks : List CK) (es : List (LV × LV))
 | gr (sz n : Nat) (f : Nat → List LV)
 | mapO (ag : Bool) (ks : List CK) (es : List (LV × LV)) (k z : LV) (d : Nat)
 | mapP (ag : Bool) (ks : List CK) (es : List (LV × LV)) (k z : LV)
 | sit (l : List UInt8) (pos : Nat)
 | bld (E : TypeId) (c n : Nat)
 | tg (E : TypeId) (l : List UInt8)
 deriving Inhabited
def LO.wr : LO → Bool
 | .var _ => true
 | .row _ _ _ wr => wr
 | .map _ _ _ => true
 | .gr _ _ _ => true
 | .mapO _ _ _ _ _ _ => true
 | .mapP _ _ _ _ _ => true
 | .sit _ _ => true
 | .bld _ _ _ => true
 | .tg _ _ => true
def LO.void : LO → Prop
 | .gr _ n _ => n = 0
 | .tg _ l => l = []
 | _ => False
inductive F2 {α β : Type} (R : α → β → Prop) : List α → List β → Prop where
 | nil : F2 R [] []
 | cons {a b l m} : R a b → F2 R l m → F2 R (a :: l) (b :: m)
theorem F2.mono {α β : Type} {R S : α → β → Prop} (h : ∀ a b, R a b → S a b) {l : List α} {m : List β} (r : F2 R l m) : F2 S l m := by
 induction r with
 | nil => exact .nil
 | cons a _ ih => exact .cons (h _ _ a) ih
def EntRel (μ : Emb) (e : LV × LV) (m : MapEntry) : Prop := RelF μ.fro e.1 m.key ∧ RelF μ.fro e.2 m.val
def entAt (k : LV) : List (LV × LV) → Option Nat
 | [] => none
 | e :: r => if eqK k e.1 then some 0 else (entAt k r).map (· + 1)
def entPut (k v : LV) : List (LV × LV) → List (LV × LV)
 | [] => [(k, v)]
 | e :: r => if eqK k e.1 then (k, v) :: r else e :: entPut k v r
def entWith (k z : LV) (es : List (LV × LV)) : List (LV × LV) :=
 match entAt k es with
 | some _ => es
 | none => entPut k z es
def MapOK (μ : Emb) (h : Option Obj) (ag : Bool) (ks : List CK) (es : List (LV × LV)) : Prop :=
 (∃ entries clock, h = some (.map entries clock) ∧ F2 (EntRel μ) es entries.toList ∧ (entries.toList.map (·.born)).Nodup ∧ ∀ e ∈ entries.toList, e.born < clock) ∧ ∀ e ∈ es, keyOK ag ks e.1 = true
theorem MapOK.mono {μ μ' : Emb} {h : Option Obj} {ag : Bool} {ks : List CK} {es : List (LV × LV)} (hf : ∀ b cs, μ.fro b = some cs → μ'.fro b = some cs) (r : MapOK μ h ag ks es) : MapOK μ' h ag ks es := by
 obtain ⟨⟨en, cl, h1, h2, h3, h4⟩, h5⟩ := r
 exact ⟨⟨en, cl, h1, h2.mono (fun a b ⟨x, y⟩ => ⟨x.mono hf, y.mono hf⟩), h3, h4⟩, h5⟩
def BufRel (μ : Emb) (c n : Nat) (v : Value) : Prop := (n = 0 ∧ v = .slice none 0 0) ∨ (n ≠ 0 ∧ ∃ q, μ c = some q ∧ q.off = 0 ∧ v = .slice (some ⟨q.rb, 0, none⟩) n q.ext)
theorem BufRel.mono {μ μ' : Emb} {c n : Nat} {v : Value} (h : ∀ p, μ c = some p → μ' c = some p) (r : BufRel μ c n v) : BufRel μ' c n v :=
 r.imp id fun ⟨h0, q, hq, r⟩ => ⟨h0, q, h q hq, r⟩
def ObjOK (μ : Emb) (p : Pl) (h : Option Obj) : LO → Prop
 | .var cs => p.ext = 1 ∧ p.sz = cs.length ∧ ∃ cells E fr, h = some (.cells cells E fr) ∧ p.off + p.sz ≤ cells.size ∧ (∀ o, o < cells.size → ¬ (fr.1 ≤ o ∧ o < fr.2)) ∧
   ∃ vs, RelL μ cs vs ∧ LiesAt cells p.off vs ∧ ∀ v ∈ vs, v.oneCell' = true
 | .row sz n f wr => p.sz = sz ∧ n ≤ p.ext ∧ ∃ cells E fr, h = some (.cells cells E fr) ∧ p.off + p.ext * sz ≤ cells.size ∧ (wr = true → ∀ o, o < cells.size → ¬ (fr.1 ≤ o ∧ o < fr.2)) ∧
   ∀ i, i < n → ∃ vs, RelL μ (f i) vs ∧ vs.length = sz ∧ LiesAt cells (p.off + i * sz) vs ∧ ∀ v ∈ vs, v.oneCell' = true
 | .map ag ks es => (∃ entries clock, h = some (.map entries clock) ∧ F2 (EntRel μ) es entries.toList ∧ (entries.toList.map (·.born)).Nodup ∧ ∀ e ∈ entries.toList, e.born < clock) ∧
   ∀ e ∈ es, keyOK ag ks e.1 = true
 | .gr sz n f => p.sz = sz ∧ n ≤ p.ext ∧ ∃ cells E fr, h = some (.cells cells E fr) ∧ p.off + p.ext * sz ≤ cells.size ∧ (∀ o, o < cells.size → ¬ (fr.1 ≤ o ∧ o < fr.2)) ∧
   ∀ i, i < n → ∃ vs, RelL μ (f i) vs ∧ vs.length = sz ∧ LiesAt cells (p.off + i * sz) vs ∧ ∀ v ∈ vs, v.oneCell' = true
 | .mapO ag ks es k z d => MapOK μ h ag ks (entWith k z es) ∧ ∃ q entries clock j e, μ d = some q ∧ h = some (.map entries clock) ∧ entAt k (entWith k z es) = some j ∧ entries[j]? = some e ∧ e.born = q.off ∧ ((entWith k z es)[j]?).map (·.1) = some k
 | .mapP ag ks es k z => MapOK μ h ag ks es ∨ MapOK μ h ag ks (entWith k z es)
 | .sit l pos => p.off = 0 ∧ h = some (.stringIter ⟨l.toArray⟩ pos)
 | .bld E c n => p.off = 0 ∧ ∃ v0 v1, h = some (.cells #[v0, v1] E (0, 0)) ∧ (v0 = .pointer none ∨ v0 = .pointer (some ⟨p.rb, 0, none⟩)) ∧ BufRel μ c n v1
 | .tg E l => p.off = 0 ∧ p.sz = 1 ∧ l.length ≤ p.ext ∧ p.ext ≤ maxLen ∧ ∃ cells, h = some (.cells cells E (0, 0)) ∧ cells.size = p.ext ∧ cells.toList.take l.length = l.map fun b => Value.int .u8 b.toNat
theorem ObjOK.mono {μ μ' : Emb} (h : Ext μ μ') {p : Pl} {b : Option Obj} {o : LO} (r : ObjOK μ p b o) : ObjOK μ' p b o := by
 cases o with
 | var cs =>
  obtain ⟨h1, h2, cells, E, fr, h3, h4, h5, vs, h6, h7⟩ := r
  exact ⟨h1, h2, cells, E, fr, h3, h4, h5, vs, h6.mono h, h7⟩
 | row sz n f wr =>
  obtain ⟨h1, h2, cells, E, fr, h3, h4, h5, h6⟩ := r
  refine ⟨h1, h2, cells, E, fr, h3, h4, h5, fun i hi => ?_⟩
  obtain ⟨vs, a, b, c⟩ := h6 i hi
  exact ⟨vs, a.mono h, b, c⟩
 | map ag ks es =>
  obtain ⟨⟨en, cl, h1, h2, h3, h4⟩, h5⟩ := r
  exact ⟨⟨en, cl, h1, h2.mono (fun a b ⟨x, y⟩ => ⟨x.mono h.fro, y.mono h.fro⟩), h3, h4⟩, h5⟩
 | gr sz n f =>
  obtain ⟨h1, h2, cells, E, fr, h3, h4, h5, h6⟩ := r
  refine ⟨h1, h2, cells, E, fr, h3, h4, h5, fun i hi => ?_⟩
  obtain ⟨vs, a, b, c⟩ := h6 i hi
  exact ⟨vs, a.mono h, b, c⟩
 | mapO ag ks es k z d =>
  obtain ⟨h1, q, en, cl, j, e, h5, h6⟩ := r
  exact ⟨h1.mono h.fro, q, en, cl, j, e, h.loc _ _ h5, h6⟩
 | mapP ag ks es k z => exact r.imp (·.mono h.fro) (·.mono h.fro)
 | sit l pos => exact r
 | bld E c n =>
  obtain ⟨h1, v0, v1, h2, h3, h4⟩ := r
  exact ⟨h1, v0, v1, h2, h3, h4.mono (h.loc _)⟩
 | tg E l => exact r
theorem ObjOK.lt {μ : Emb} {p : Pl} {w : World} {o : LO} (r : ObjOK μ p w.heap[p.rb]? o) : p.rb < w.heap.size := by
 have : ∃ x, w.heap[p.rb]? = some x := by
  cases o with
  | var cs => obtain ⟨_, _, cells, E, fr, h, _⟩ := r; exact ⟨_, h⟩
  | row sz n f wr => obtain ⟨_, _, cells, E, fr, h, _⟩ := r; exact ⟨_, h⟩
  | map ag ks es => obtain ⟨⟨en, cl, h, _⟩, _⟩ := r; exact ⟨_, h⟩
  | gr sz n f => obtain ⟨_, _, cells, E, fr, h, _⟩ := r; exact ⟨_, h⟩
  | mapO ag ks es k z d => obtain ⟨⟨⟨en, cl, h, _⟩, _⟩, _⟩ := r; exact ⟨_, h⟩
  | mapP ag ks es k z => rcases r with ⟨⟨en, cl, h, _⟩, _⟩ | ⟨⟨en, cl, h, _⟩, _⟩ <;> exact ⟨_, h⟩
  | sit l pos => exact ⟨_, r.2⟩
  | bld E c n => obtain ⟨_, v0, v1, h, _⟩ := r; exact ⟨_, h⟩
  | tg E l => obtain ⟨_, _, _, _, cells, h, _⟩ := r; exact ⟨_, h⟩
 obtain ⟨x, hx⟩ := this
 exact (Array.getElem?_eq_some_iff.1 hx).1
def ObjEq : LO → LO → Prop
 | .row sz n f wr, .row sz' n' f' wr' => sz = sz' ∧ n = n' ∧ wr = wr' ∧ ∀ i, i < n → f i = f' i
 | .gr sz n f, .gr sz' n' f' => sz = sz' ∧ n = n' ∧ ∀ i, i < n → f i = f' i
 | a, b => a = b
theorem ObjOK.eqv {μ : Emb} {p : Pl} {b : Option Obj} {o o' : LO} (e : ObjEq o o') (r : ObjOK μ p b o) : ObjOK μ p b o' := by
 cases o <;> cases o' <;> simp only [ObjEq, reduceCtorEq] at e
 case var.var => cases e; exact r
 case map.map => cases e; exact r
 case mapO.mapO => cases e; exact r
 case mapP.mapP => cases e; exact r
 case sit.sit => cases e; exact r
 case bld.bld => cases e; exact r
 case tg.tg => cases e; exact r
 case row.row =>
  obtain ⟨rfl, rfl, rfl, hf⟩ := e
  obtain ⟨h1, h2, cells, E, fr, h3, h4, h5, h6⟩ := r
  exact ⟨h1, h2, cells, E, fr, h3, h4, h5, fun i hi => by rw [← hf i hi]; exact h6 i hi⟩
 case gr.gr =>
  obtain ⟨rfl, rfl, hf⟩ := e
  obtain ⟨h1, h2, cells, E, fr, h3, h4, h5, h6⟩ := r
  exact ⟨h1, h2, cells, E, fr, h3, h4, h5, fun i hi => by rw [← hf i hi]; exact h6 i hi⟩
theorem ObjEq.void {o o' : LO} (e : ObjEq o o') (h : o.void) : o'.void := by
 cases o <;> cases o' <;> simp only [ObjEq, reduceCtorEq] at e <;> first | exact h | (simp only [LO.void] at h ⊢; omega) | (cases e; exact h)
theorem ObjEq.wr {o o' : LO} (e : ObjEq o o') : o.wr = o'.wr := by
 cases o <;> cases o' <;> simp only [ObjEq, reduceCtorEq] at e
 case var.var => rfl
 case map.map => rfl
 case mapO.mapO => rfl
 case mapP.mapP => rfl
 case sit.sit => rfl
 case bld.bld => rfl
 case tg.tg => rfl
 case row.row => exact e.2.2.1
 case gr.gr => rfl
abbrev Pre := List (Nat × LO)
abbrev Upd := List (Nat × Option LO)
def Upd.has (up : Upd) (c : Nat) : Bool := up.any (·.1 == c)
theorem Upd.has_iff {up : Upd} {c : Nat} : up.has c = true ↔ ∃ o, (c, o) ∈ up := by
 simp only [Upd.has, List.any_eq_true, beq_iff_eq]
 exact ⟨fun ⟨x, hx, e⟩ => ⟨x.2, by subst e; exact hx⟩, fun ⟨o, h⟩ => ⟨(c, o), h, rfl⟩⟩
structure PreOK (μ : Emb) (pre : Pre) (w : World) : Prop where
 obj' : ∀ c o, (c, o) ∈ pre → (μ c = none ∧ o.void) ∨ ∃ p, μ c = some p ∧ ObjOK μ p w.heap[p.rb]? o
 sep : ∀ c o c' o' p p', (c, o) ∈ pre → (c', o') ∈ pre → c ≠ c' → (o.wr = true ∨ o'.wr = true) → μ c = some p → μ c' = some p' → p.rb ≠ p'.rb
 fro : ∀ b cs, μ.fro b = some cs → ∃ E fr, w.heap[b]? = some (.cells cs E fr)
 frs : ∀ c o p, (c, o) ∈ pre → o.wr = true → μ c = some p → μ.fro p.rb = none
 tab : TabOK μ.fro
theorem PreOK.obj {μ : Emb} {pre : Pre} {w : World} (h : PreOK μ pre w) (c : Nat) (o : LO) (hm : (c, o) ∈ pre) (hv : ¬ o.void := by exact id) : ∃ p, μ c = some p ∧ ObjOK μ p w.heap[p.rb]? o :=
 (h.obj' c o hm).resolve_left (fun x => hv x.2)
def FroOK (μ : Emb) (pre : Pre) (w : World) : Prop :=
 (∀ b cs, μ.fro b = some cs → b < w.heap.size) ∧ ∀ c o p, (c, o) ∈ pre → o.wr = true → μ c = some p → μ.fro p.rb = none
theorem PreOK.froOK {μ : Emb} {pre : Pre} {w : World} (h : PreOK μ pre w) : FroOK μ pre w :=
 ⟨fun b cs hb => by obtain ⟨E, fr, hx⟩ := h.fro b cs hb; exact (Array.getElem?_eq_some_iff.1 hx).1, h.frs⟩
structure Delta (μ : Emb) (w : World) (pre : Pre) (up : Upd) (μ' : Emb) (w' : World) : Prop where
 ext : Ext μ μ'
 dom : ∀ c p, μ' c = some p → μ c = some p ∨ (up.has c = true ∧ μ c = none)
 os : w'.os = w.os
 tape : w'.tape = w.tape
 output : w'.output = w.output
 draws : drawsOn = true → w.drawn ≤ w'.drawn
 grow : w.heap.size ≤ w'.heap.size
 keep : ∀ b, b < w.heap.size → (∀ c o p, (c, o) ∈ pre → o.wr = true → up.has c = true → μ c = some p → p.rb ≠ b) → w'.heap[b]? = w.heap[b]?
 obj : ∀ c o, (c, some o) ∈ up → (μ' c = none ∧ o.void) ∨ ∃ p, μ' c = some p ∧ ObjOK μ' p w'.heap[p.rb]? o
 place : ∀ c o p, (c, some o) ∈ up → μ' c = some p → w.heap.size ≤ p.rb ∨ ∃ c0 o0 p0, (c0, o0) ∈ pre ∧ o0.wr = true ∧ up.has c0 = true ∧ μ c0 = some p0 ∧ p0.rb = p.rb
 sep : ∀ c o c' o' p p', (c, some o) ∈ up → (c', some o') ∈ up → c ≠ c' → (o.wr = true ∨ o'.wr = true) → μ' c = some p → μ' c' = some p' → p.rb ≠ p'.rb
 frn : ∀ b cs, μ'.fro b = some cs → μ.fro b = some cs ∨ ((∃ E fr, w'.heap[b]? = some (.cells cs E fr)) ∧
  (w.heap.size ≤ b ∨ ∃ c0 o0 p0, (c0, o0) ∈ pre ∧ o0.wr = true ∧ up.has c0 = true ∧ μ c0 = some p0 ∧ p0.rb = b))
 frs : FroOK μ pre w → ∀ c o p, (c, some o) ∈ up → o.wr = true → μ' c = some p → μ'.fro p.rb = none
def Fits (μ : Emb) (pre : Pre) (up : Upd) : Prop := ∀ c, up.has c = true → (∃ o, (c, o) ∈ pre ∧ o.wr = true) ∨ μ c = none
theorem Delta.refl (μ : Emb) (w : World) (pre : Pre) : Delta μ w pre [] μ w where
 ext := Ext.refl μ
 dom := fun _ _ h => .inl h
 os := rfl
 tape := rfl
 output := rfl
 draws := fun _ => Nat.le_refl _
 grow := Nat.le_refl _
 keep := fun _ _ _ => rfl
 obj := fun _ _ h => by cases h
 place := fun _ _ _ h => by cases h
 sep := fun _ _ _ _ _ _ h => by cases h
 frn := fun _ _ h => .inl h
 frs := fun _ _ _ _ h => by cases h
theorem Delta.drew (μ : Emb) (w : World) (pre : Pre) : Delta μ w pre [] μ w.drew := { Delta.refl μ w pre with draws := fun _ => Nat.le_succ _ }
abbrev Heap := List (Option LO)
def Heap.at (H : Heap) (c : Nat) : Option LO := (H[c]?).getD none
def Heap.put : Heap → Nat → Option LO → Heap
 | [], 0, o => [o]
 | [], n + 1, o => none :: Heap.put [] n o
 | _ :: r, 0, o => o :: r
 | x :: r, n + 1, o => x :: Heap.put r n o
def Heap.upd (H : Heap) : Upd → Heap
 | [] => H
 | (c, o) :: r => Heap.upd (H.put c o) r
theorem Heap.at_put : ∀ (H : Heap) (c d : Nat) (o : Option LO), (H.put c o).at d = if d = c then o else H.at d
 | [], 0, d, o => by
  cases d with
  | zero => simp [Heap.put, Heap.at]
  | succ d => simp [Heap.put, Heap.at]
 | [], n + 1, d, o => by
  cases d with
  | zero => simp [Heap.put, Heap.at]
  | succ d =>
   have := Heap.at_put [] n d o
   simp only [Heap.at, Heap.put, List.getElem?_cons_succ] at this ⊢
   rw [this]
   simp
 | x :: r, 0, d, o => by
  cases d with
  | zero => simp [Heap.put, Heap.at]
  | succ d => simp [Heap.put, Heap.at]
 | x :: r, n + 1, d, o => by
  cases d with
  | zero => simp [Heap.put, Heap.at]
  | succ d =>
   have := Heap.at_put r n d o
   simp only [Heap.at, Heap.put, List.getElem?_cons_succ] at this ⊢
   rw [this]
   simp
theorem Heap.at_upd_not : ∀ (up : Upd) (H : Heap) (c : Nat), up.has c = false → (H.upd up).at c = H.at c
 | [], _, _, _ => rfl
 | (d, o) :: r, H, c, h => by
  simp only [Upd.has, List.any_cons, Bool.or_eq_false_iff, beq_eq_false_iff_ne] at h
  show ((H.put d o).upd r).at c = _
  rw [Heap.at_upd_not r (H.put d o) c (by simpa [Upd.has] using h.2), Heap.at_put, if_neg (Ne.symm h.1)]
theorem Heap.at_upd_mem : ∀ (up : Upd) (H : Heap) (c : Nat), up.has c = true → (c, (H.upd up).at c) ∈ up
 | [], _, _, h => by simp [Upd.has] at h
 | (d, o) :: r, H, c, h => by
  show (c, ((H.put d o).upd r).at c) ∈ (d, o) :: r
  cases hr : Upd.has r c with
  | true => exact List.mem_cons_of_mem _ (Heap.at_upd_mem r (H.put d o) c hr)
  | false =>
   rw [Heap.at_upd_not r _ c hr, Heap.at_put]
   have hcd : d = c := by simpa [Upd.has, List.any_cons, show (r.any fun x => x.1 == c) = false from hr] using h
   subst hcd
   simp
structure Sim (w0 : World) (W : Nat → Prop) (μ : Emb) (H : Heap) (w : World) : Prop where
 obj' : ∀ c o, H.at c = some o → (μ c = none ∧ o.void) ∨ ∃ p, μ c = some p ∧ ObjOK μ p w.heap[p.rb]? o
 sep : ∀ c o c' o' p p', H.at c = some o → H.at c' = some o' → c ≠ c' → (o.wr = true ∨ o'.wr = true) → μ c = some p → μ c' = some p' → p.rb ≠ p'.rb
 os : w.os = w0.os
 tape : w.tape = w0.tape
 output : w.output = w0.output
 draws : drawsOn = true → w0.drawn ≤ w.drawn
 grow : w0.heap.size ≤ w.heap.size
 keep : ∀ b, b < w0.heap.size → ¬ W b → w.heap[b]? = w0.heap[b]?
 own : ∀ c o p, H.at c = some o → o.wr = true → μ c = some p → W p.rb ∨ w0.heap.size ≤ p.rb
 fro : ∀ b cs, μ.fro b = some cs → ∃ E fr, w.heap[b]? = some (.cells cs E fr)
 frs : ∀ c o p, H.at c = some o → o.wr = true → μ c = some p → μ.fro p.rb = none
 tab : TabOK μ.fro
theorem Sim.obj {w0 : World} {W : Nat → Prop} {μ : Emb} {H : Heap} {w : World} (s : Sim w0 W μ H w) (c : Nat) (o : LO) (ho : H.at c = some o) (hv : ¬ o.void := by exact id) : ∃ p, μ c = some p ∧ ObjOK μ p w.heap[p.rb]? o :=
 (s.obj' c o ho).resolve_left (fun x => hv x.2)
theorem Sim.placed {w0 : World} {W : Nat → Prop} {μ : Emb} {H : Heap} {w : World} (s : Sim w0 W μ H w) {c : Nat} {o : LO} {p : Pl} (ho : H.at c = some o) (hp : μ c = some p) : ObjOK μ p w.heap[p.rb]? o := by
 rcases s.obj' c o ho with ⟨h, _⟩ | ⟨q, hq, hok⟩
 ·rw [h] at hp; cases hp
 ·obtain rfl := Option.some.inj (hq.symm.trans hp); exact hok
theorem PreOK.placed {μ : Emb} {pre : Pre} {w : World} (s : PreOK μ pre w) {c : Nat} {o : LO} {p : Pl} (ho : (c, o) ∈ pre) (hp : μ c = some p) : ObjOK μ p w.heap[p.rb]? o := by
 rcases s.obj' c o ho with ⟨h, _⟩ | ⟨q, hq, hok⟩
 ·rw [h] at hp; cases hp
 ·obtain rfl := Option.some.inj (hq.symm.trans hp); exact hok
def Heap.pre (H : Heap) (foot : List Nat) : Pre := foot.filterMap fun c => (H.at c).map fun o => (c, o)
theorem Heap.mem_pre {H : Heap} {foot : List Nat} {c : Nat} {o : LO} : (c, o) ∈ H.pre foot ↔ c ∈ foot ∧ H.at c = some o := by
 simp only [Heap.pre, List.mem_filterMap, Option.map_eq_some_iff, Prod.mk.injEq]
 constructor
 ·rintro ⟨a, ha, o', ho, rfl, rfl⟩; exact ⟨ha, ho⟩
 ·rintro ⟨ha, ho⟩; exact ⟨c, ha, o, ho, rfl, rfl⟩
theorem Sim.pre {w0 : World} {W : Nat → Prop} {μ : Emb} {H : Heap} {w : World} (s : Sim w0 W μ H w) {pre : Pre} (h : ∀ c o, (c, o) ∈ pre → H.at c = some o) : PreOK μ pre w where
 obj' := fun c o hc => s.obj' c o (h c o hc)
 sep := fun c o c' o' p p' hc hc' => s.sep c o c' o' p p' (h c o hc) (h c' o' hc')
 fro := s.fro
 frs := fun c o p hc => s.frs c o p (h c o hc)
 tab := s.tab
theorem put_length : ∀ (H : Heap) (c : Nat) (o : Option LO), H.length ≤ (H.put c o).length ∧ c < (H.put c o).length
 | [], 0, o => by simp [Heap.put]
 | [], n + 1, o => by have := put_length [] n o; simp only [Heap.put, List.length_cons, List.length_nil] at this ⊢; omega
 | _ :: r, 0, o => by simp [Heap.put]
 | x :: r, n + 1, o => by have := put_length r n o; simp only [Heap.put, List.length_cons] at this ⊢; omega
theorem upd_length : ∀ (up : Upd) (H : Heap), H.length ≤ (H.upd up).length ∧ ∀ c, up.has c = true → c < (H.upd up).length
 | [], H => ⟨Nat.le_refl _, fun c h => by simp [Upd.has] at h⟩
 | (d, o) :: r, H => by
  have h1 := put_length H d o
  have h2 := upd_length r (H.put d o)
  refine ⟨Nat.le_trans h1.1 h2.1, fun c hc => ?_⟩
  show c < ((H.put d o).upd r).length
  cases hr : Upd.has r c with
  | true => exact h2.2 c hr
  | false =>
   have hcd : d = c := by simpa [Upd.has, List.any_cons, show (r.any fun x => x.1 == c) = false from hr] using hc
   subst hcd
   exact Nat.lt_of_lt_of_le h1.2 h2.1
theorem Sim.step {w0 : World} {W : Nat → Prop} {μ μ' : Emb} {H : Heap} {w w' : World} {pre : Pre} {up : Upd} (s : Sim w0 W μ H w)
  (hp : ∀ c o, (c, o) ∈ pre → H.at c = some o) (d : Delta μ w pre up μ' w') : Sim w0 W μ' (H.upd up) w' := by
 have old : ∀ c o p, H.at c = some o → up.has c = false → μ c = some p → w'.heap[p.rb]? = w.heap[p.rb]? := by
  intro c o p ho hn hpc
  refine d.keep p.rb (s.placed ho hpc).lt (fun c0 o0 p0 h0 hw h1 h2 => ?_)
  exact s.sep c0 o0 c o p0 p (hp _ _ h0) ho (fun e => by subst e; rw [h1] at hn; cases hn) (.inl hw) h2 hpc
 have at' : ∀ c o, (H.upd up).at c = some o → (up.has c = true ∧ (c, some o) ∈ up) ∨ (up.has c = false ∧ H.at c = some o) := by
  intro c o h
  cases hc : up.has c with
  | true => exact .inl ⟨rfl, by have := Heap.at_upd_mem up H c hc; rwa [h] at this⟩
  | false => exact .inr ⟨rfl, by rwa [Heap.at_upd_not up H c hc] at h⟩
 have back : ∀ c o p, H.at c = some o → up.has c = false → μ' c = some p → μ c = some p := by
  intro c o p _ hn h
  rcases d.dom c p h with h | ⟨h, _⟩
  ·exact h
  ·rw [hn] at h; cases h
 have far : ∀ c o p c' o' p', (c, some o) ∈ up → μ' c = some p → H.at c' = some o' → up.has c' = false → μ c' = some p' → p.rb ≠ p'.rb := by
  intro c o p c' o' p' hc hpc ho' hn' hpc'
  rcases d.place c o p hc hpc with h | ⟨c0, o0, p0, h0, hw0, hu0, hm0, e⟩
  ·have := (s.placed ho' hpc').lt; omega
  ·rw [← e]
   exact s.sep c0 o0 c' o' p0 p' (hp _ _ h0) ho' (fun e => by subst e; rw [hu0] at hn'; cases hn') (.inl hw0) hm0 hpc'
 have cold : ∀ b cs, μ.fro b = some cs → w'.heap[b]? = w.heap[b]? := by
  intro b cs hb
  obtain ⟨E, fr, hx⟩ := s.fro b cs hb
  refine d.keep b (Array.getElem?_eq_some_iff.1 hx).1 (fun c0 o0 p0 h0 hw h1 h2 e => ?_)
  have := s.frs c0 o0 p0 (hp _ _ h0) hw h2
  rw [e, hb] at this; cases this
 refine ⟨?_, ?_, d.os.trans s.os, d.tape.trans s.tape, d.output.trans s.output, fun h => Nat.le_trans (s.draws h) (d.draws h), Nat.le_trans s.grow d.grow, ?_, ?_, ?_, ?_, s.tab.mono d.ext.fro⟩
 ·intro c o h
  rcases at' c o h with ⟨_, hm⟩ | ⟨hn, ho⟩
  ·exact d.obj c o hm
  ·rcases s.obj' c o ho with ⟨h1, h2⟩ | ⟨p, hpc, hok⟩
   ·cases hm : μ' c with
    | none => exact .inl ⟨rfl, h2⟩
    | some p =>
     have := back c o p ho hn hm
     rw [h1] at this; cases this
   ·exact .inr ⟨p, d.ext.loc _ _ hpc, by rw [old c o p ho hn hpc]; exact hok.mono d.ext⟩
 ·intro c o c' o' p p' h h' hne hw hpc hpc'
  rcases at' c o h with ⟨_, hm⟩ | ⟨hn, ho⟩ <;> rcases at' c' o' h' with ⟨_, hm'⟩ | ⟨hn', ho'⟩
  ·exact d.sep c o c' o' p p' hm hm' hne hw hpc hpc'
  ·exact far c o p c' o' p' hm hpc ho' hn' (back c' o' p' ho' hn' hpc')
  ·exact (far c' o' p' c o p hm' hpc' ho hn (back c o p ho hn hpc)).symm
  ·exact s.sep c o c' o' p p' ho ho' hne hw (back c o p ho hn hpc) (back c' o' p' ho' hn' hpc')
 ·intro b hb hW
  rw [← s.keep b hb hW]
  refine d.keep b (Nat.lt_of_lt_of_le hb s.grow) (fun c o p hc hw _ hpc e => ?_)
  rcases s.own c o p (hp _ _ hc) hw hpc with h | h
  ·exact hW (e ▸ h)
  ·omega
 ·intro c o p h hw hpc
  rcases at' c o h with ⟨_, hm⟩ | ⟨hn, ho⟩
  ·rcases d.place c o p hm hpc with h | ⟨c0, o0, p0, h0, hw0, _, hm0, e⟩
   ·right; exact Nat.le_trans s.grow h
   ·rw [← e]; exact s.own c0 o0 p0 (hp _ _ h0) hw0 hm0
  ·exact s.own c o p ho hw (back c o p ho hn hpc)
 ·intro b cs hb
  rcases d.frn b cs hb with h | ⟨h, _⟩
  ·rw [cold b cs h]; exact s.fro b cs h
  ·exact h
 ·intro c o p h hw hpc
  rcases at' c o h with ⟨_, hm⟩ | ⟨hn, ho⟩
  ·exact d.frs ⟨fun b cs hb => by obtain ⟨E, fr, hx⟩ := s.fro b cs hb; exact (Array.getElem?_eq_some_iff.1 hx).1, fun c o p hc => s.frs c o p (hp _ _ hc)⟩ c o p hm hw hpc
  ·have hpc0 := back c o p ho hn hpc
   cases hf : μ'.fro p.rb with
   | none => rfl
   | some cs =>
    rcases d.frn p.rb cs hf with h | ⟨_, h | ⟨c0, o0, p0, h0, hw0, hu0, hm0, e⟩⟩
    ·rw [s.frs c o p ho hw hpc0] at h; cases h
    ·have := (s.placed ho hpc0).lt; omega
    ·exact absurd e (s.sep c0 o0 c o p0 p (hp _ _ h0) ho (fun e => by subst e; rw [hu0] at hn; cases hn) (.inl hw0) hm0 hpc0)
theorem Sim.weaken {w0 : World} {W : Nat → Prop} {μ : Emb} {H H' : Heap} {w : World} (s : Sim w0 W μ H w)
  (h : ∀ c o', H'.at c = some o' → ∃ o, H.at c = some o ∧ ObjEq o o') : Sim w0 W μ H' w where
 obj' := fun c o' hc => by
  obtain ⟨o, ho, e⟩ := h c o' hc
  rcases s.obj' c o ho with ⟨h1, h2⟩ | ⟨p, hp, hok⟩
  ·exact .inl ⟨h1, e.void h2⟩
  ·exact .inr ⟨p, hp, hok.eqv e⟩
 sep := fun c o' c' o2' p p' hc hc' hne hw => by
  obtain ⟨o, ho, e⟩ := h c o' hc
  obtain ⟨o2, ho2, e2⟩ := h c' o2' hc'
  exact s.sep c o c' o2 p p' ho ho2 hne (by rw [e.wr, e2.wr]; exact hw)
 os := s.os
 tape := s.tape
 output := s.output
 draws := s.draws
 grow := s.grow
 keep := s.keep
 own := fun c o' p hc hw => by
  obtain ⟨o, ho, e⟩ := h c o' hc
  exact s.own c o p ho (by rw [e.wr]; exact hw)
 fro := s.fro
 frs := fun c o' p hc hw => by
  obtain ⟨o, ho, e⟩ := h c o' hc
  exact s.frs c o p ho (by rw [e.wr]; exact hw)
 tab := s.tab
end Go.Cn
