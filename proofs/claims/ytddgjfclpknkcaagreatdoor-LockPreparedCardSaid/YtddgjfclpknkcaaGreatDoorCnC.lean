import Derived.Test.YtddgjfclpknkcaaGreatDoorCnB
import Derived.Laws.Cells
import Derived.Laws.World
namespace Go.Cn
open Go
def splice (cs : Array Value) (o : Nat) : List Value → Array Value
 | [] => cs
 | v :: r => splice (cs.setIfInBounds o v) (o + 1) r
theorem splice_size : ∀ (vs : List Value) (cs : Array Value) (o : Nat), (splice cs o vs).size = cs.size
 | [], _, _ => rfl
 | v :: r, cs, o => by simp [splice, splice_size r]
theorem splice_get : ∀ (vs : List Value) (cs : Array Value) (o k : Nat), o + vs.length ≤ cs.size →
  (splice cs o vs)[k]? = if o ≤ k ∧ k < o + vs.length then vs[k - o]? else cs[k]?
 | [], cs, o, k, _ => by simp [splice]; intro h1 h2; omega
 | v :: r, cs, o, k, h => by
  simp only [List.length_cons] at h
  have ih := splice_get r (cs.setIfInBounds o v) (o + 1) k (by simp; omega)
  simp only [splice, ih]
  by_cases hk : o = k
  ·subst hk
   rw [if_neg (by omega), if_pos ⟨Nat.le_refl _, by simp⟩]
   simp [Array.getElem?_setIfInBounds]
   omega
  ·by_cases h1 : o + 1 ≤ k ∧ k < o + 1 + r.length
   ·rw [if_pos h1, if_pos (by simp; omega)]
    rw [show k - o = (k - (o + 1)) + 1 from by omega]
    simp
   ·rw [if_neg h1, if_neg (by simp; omega), Array.getElem?_setIfInBounds]
    simp [hk]
def setB (w : World) (b : Nat) (o : Obj) : World := { w with heap := w.heap.setIfInBounds b o }
theorem setB_heap {w : World} {b : Nat} {o : Obj} (k : Nat) : (setB w b o).heap[k]? = if b = k ∧ k < w.heap.size then some o else w.heap[k]? := by
 show (w.heap.setIfInBounds b o)[k]? = _
 rw [Array.getElem?_setIfInBounds]
 by_cases hk : b = k
 ·subst hk
  by_cases hb : b < w.heap.size
  ·simp [hb]
  ·simp [hb]
 ·simp [hk]
theorem setB_size {w : World} {b : Nat} {o : Obj} : (setB w b o).heap.size = w.heap.size := by simp [setB]
theorem setCell_eq {w : World} {rb o : Nat} {v : Value} {cs : Array Value} {E : TypeId} {fr : Nat × Nat} (h : w.heap[rb]? = some (.cells cs E fr)) :
  w.setCell ⟨rb, o, none⟩ v = setB w rb (.cells (cs.setIfInBounds o v) E fr) := by
 have hlt : rb < w.heap.size := (Array.getElem?_eq_some_iff.1 h).1
 unfold World.setCell setB
 congr 1
 apply Array.ext_getElem?
 intro k
 rw [Array.getElem?_modify, Array.getElem?_setIfInBounds]
 by_cases hk : rb = k
 ·subst hk
  have he : w.heap[rb] = .cells cs E fr := by
   rw [Array.getElem?_eq_getElem hlt] at h
   exact Option.some.inj h
  simp [hlt, he]
 ·simp [hk]
theorem setB_setB {w : World} {b : Nat} {o o' : Obj} : setB (setB w b o) b o' = setB w b o' := by
 unfold setB
 congr 1
 apply Array.ext_getElem?
 intro k
 simp only [Array.getElem?_setIfInBounds, Array.size_setIfInBounds]
 by_cases hk : b = k <;> simp [hk]
section
variable {P : Program}
theorem run_storeCells' {rb o : Nat} {E : TypeId} {fr : Nat × Nat} : ∀ (vs : List Value) (i : Nat) (cs : Array Value) (w : World), w.heap[rb]? = some (.cells cs E fr) →
  (∀ k, k < cs.size → ¬ (fr.1 ≤ k ∧ k < fr.2)) → o + i + vs.length ≤ cs.size → (∀ v ∈ vs, v.oneCell' = true) →
  (storeCells ⟨rb, o, none⟩ vs i).run P w = .ok () (setB w rb (.cells (splice cs (o + i) vs) E fr))
 | [], i, cs, w, h, _, _, _ => by
  simp only [storeCells, Sem.run_pure, splice]
  congr 1
  have hlt : rb < w.heap.size := (Array.getElem?_eq_some_iff.1 h).1
  unfold setB
  cases w
  congr 1
  apply Array.ext_getElem?
  intro k
  rw [Array.getElem?_setIfInBounds]
  by_cases hk : rb = k
  ·subst hk; simp only [] at h hlt; simp [hlt]; simpa [Array.getElem?_eq_getElem hlt] using h
  ·simp [hk]
 | v :: r, i, cs, w, h, hf, hl, hv => by
  simp only [List.length_cons] at hl
  have ha : (⟨rb, o, none⟩ : Addr).add i = ⟨rb, o + i, none⟩ := by
   unfold Addr.add; split
   ·rename_i h0; subst h0; rfl
   ·rfl
  have hc : w.cell? ⟨rb, o + i, none⟩ = some (cs[o + i]'(by omega)) := by
   simp only [World.cell?, h]
   simp [show o + i < cs.size from by omega]
  have hfz : w.frozen? ⟨rb, o + i, none⟩ = false := by
   have h1 := hf (o + i) (by omega)
   obtain ⟨lo, hi⟩ := fr
   simp only [World.frozen?, h, Bool.and_eq_false_iff, decide_eq_false_iff_not]
   simp only at h1
   omega
  have hone : v.oneCell' = true := hv v (List.mem_cons_self)
  simp only [storeCells, Sem.run_bind, ha]
  rw [run_store P w _ v .plain hone]
  simp only [hc, hfz, Bool.false_eq_true, if_false, Result.andThen_ok]
  rw [setCell_eq h]
  have hlt : rb < w.heap.size := (Array.getElem?_eq_some_iff.1 h).1
  rw [run_storeCells' (E := E) (fr := fr) r (i + 1) (cs.setIfInBounds (o + i) v) _ (by rw [setB_heap]; simp [hlt]) (by simpa using hf) (by simp; omega) (fun x hx => hv x (List.mem_cons_of_mem _ hx))]
  rw [setB_setB]
  rfl
theorem run_loadCells' {rb o : Nat} {E : TypeId} {fr : Nat × Nat} {cs : Array Value} {w : World} (h : w.heap[rb]? = some (.cells cs E fr)) (vs : List Value) (hl : LiesAt cs o vs) :
  (loadCells ⟨rb, o, none⟩ vs.length).run P w = .ok vs.toArray w := by
 refine run_loadCells_list w ⟨rb, o, none⟩ vs (fun j v hj => ?_)
 have ha : (⟨rb, o, none⟩ : Addr).add j = ⟨rb, o + j, none⟩ := by
  unfold Addr.add; split
  ·rename_i h0; subst h0; rfl
  ·rfl
 rw [ha]
 simp only [World.cell?, h]
 simpa using hl j v hj
theorem addr_add (p : Pl) (i j n : Nat) : (p.addr i j).add n = ⟨p.rb, p.off + i * p.sz + j + n, none⟩ := by
 unfold Addr.add Pl.addr; split
 ·rename_i h0; subst h0; rfl
 ·rfl
def Emb.set (μ : Emb) (c : Nat) (p : Pl) : Emb := ⟨fun d => if d = c then some p else μ d, μ.fro⟩
theorem Emb.set_at {μ : Emb} {c d : Nat} {p : Pl} : μ.set c p d = if d = c then some p else μ d := rfl
theorem Emb.ext_set {μ : Emb} {c : Nat} {p : Pl} (h : μ c = none) : Ext μ (μ.set c p) := by
 refine ⟨fun d q hq => ?_, fun _ _ h => h⟩
 rw [Emb.set_at]
 split
 ·rename_i e; subst e; rw [h] at hq; cases hq
 ·exact hq
theorem Emb.set_self {μ : Emb} {c : Nat} {p : Pl} : μ.set c p c = some p := by simp [Emb.set]
theorem Upd.has_one {c d : Nat} {o : Option LO} : Upd.has [(c, o)] d = true ↔ c = d := by simp [Upd.has]
theorem Delta0.new {μ : Emb} {w : World} {pre : Pre} {c : Nat} {p : Pl} {o : LO} {x : Obj} (hc : μ c = none) (hp : p.rb = w.heap.size) (ho : ObjOK (μ.set c p) p (some x) o) :
  Delta0 μ w pre [(c, some o)] (μ.set c p) (w.alloc x) where
 ext := Emb.ext_set hc
 dom := fun d q hq => by
  rw [Emb.set_at] at hq
  split at hq
  ·rename_i e; subst e; exact .inr ⟨by simp [Upd.has], hc⟩
  ·exact .inl hq
 os := rfl
 tape := rfl
 output := rfl
 draws := fun _ => Nat.le_refl _
 grow := by simp
 keep := fun b hb _ => by show (w.heap.push x)[b]? = _; rw [Array.getElem?_push, if_neg (by omega)]
 obj := fun d q hq => by
  simp only [List.mem_singleton, Prod.mk.injEq, Option.some.injEq] at hq
  obtain ⟨rfl, rfl⟩ := hq
  refine .inr ⟨p, Emb.set_self, ?_⟩
  have : (w.alloc x).heap[p.rb]? = some x := by show (w.heap.push x)[p.rb]? = _; rw [hp]; simp
  rw [this]; exact ho
 place := fun d q r hq hr => by
  simp only [List.mem_singleton, Prod.mk.injEq, Option.some.injEq] at hq
  obtain ⟨rfl, rfl⟩ := hq
  rw [Emb.set_self] at hr
  obtain rfl := Option.some.inj hr
  left; omega
 sep := fun d q d' q' r r' hq hq' hne => by
  simp only [List.mem_singleton, Prod.mk.injEq, Option.some.injEq] at hq hq'
  exact absurd (hq.1.trans hq'.1.symm) hne
 frn := fun _ _ h => .inl h
 frs := fun hf d q r hq _ hr => by
  simp only [List.mem_singleton, Prod.mk.injEq, Option.some.injEq] at hq
  obtain ⟨rfl, rfl⟩ := hq
  rw [Emb.set_self] at hr
  obtain rfl := Option.some.inj hr
  cases h : (μ.set d p).fro p.rb with
  | none => rfl
  | some cs => have := hf.1 _ _ h; omega
theorem Delta0.put {μ : Emb} {w : World} {pre : Pre} {c : Nat} {p : Pl} {o o' : LO} {x : Obj} (hc : μ c = some p) (hm : (c, o) ∈ pre) (hw : o.wr = true) (hlt : p.rb < w.heap.size)
  (ho : ObjOK μ p (some x) o') : Delta0 μ w pre [(c, some o')] μ (setB w p.rb x) where
 ext := Ext.refl μ
 dom := fun _ _ h => .inl h
 os := rfl
 tape := rfl
 output := rfl
 draws := fun _ => Nat.le_refl _
 grow := by rw [setB_size]; exact Nat.le_refl _
 keep := fun b hb hk => by
  rw [setB_heap, if_neg]
  rintro ⟨e, _⟩
  exact hk c o p hm hw (by simp [Upd.has]) hc e
 obj := fun d q hq => by
  simp only [List.mem_singleton, Prod.mk.injEq, Option.some.injEq] at hq
  obtain ⟨rfl, rfl⟩ := hq
  exact .inr ⟨p, hc, by rw [setB_heap, if_pos ⟨rfl, hlt⟩]; exact ho⟩
 place := fun d q r hq hr => by
  simp only [List.mem_singleton, Prod.mk.injEq, Option.some.injEq] at hq
  obtain ⟨rfl, rfl⟩ := hq
  exact .inr ⟨d, o, p, hm, hw, by simp [Upd.has], hc, by rw [hc] at hr; rw [Option.some.inj hr]⟩
 sep := fun d q d' q' r r' hq hq' hne => by
  simp only [List.mem_singleton, Prod.mk.injEq, Option.some.injEq] at hq hq'
  exact absurd (hq.1.trans hq'.1.symm) hne
 frn := fun _ _ h => .inl h
 frs := fun hf d q r hq _ hr => by
  simp only [List.mem_singleton, Prod.mk.injEq, Option.some.injEq] at hq
  obtain ⟨rfl, rfl⟩ := hq
  rw [hc] at hr
  obtain rfl := Option.some.inj hr
  exact hf.2 d o p hm hw hc
theorem Delta0.move {μ : Emb} {w : World} {pre : Pre} {c d : Nat} {p q : Pl} {o o' : LO} {x : Obj} (hc : μ c = some p) (hm : (c, o) ∈ pre) (hw : o.wr = true) (hlt : p.rb < w.heap.size)
  (hd : μ d = none) (hq : q.rb = p.rb) (ho : ObjOK (μ.set d q) q (some x) o') : Delta0 μ w pre [(c, none), (d, some o')] (μ.set d q) (setB w p.rb x) where
 ext := Emb.ext_set hd
 dom := fun e r hr => by
  rw [Emb.set_at] at hr
  split at hr
  ·rename_i h; subst h; exact .inr ⟨by simp [Upd.has], hd⟩
  ·exact .inl hr
 os := rfl
 tape := rfl
 output := rfl
 draws := fun _ => Nat.le_refl _
 grow := by rw [setB_size]; exact Nat.le_refl _
 keep := fun b hb hk => by
  rw [setB_heap, if_neg]
  rintro ⟨e, _⟩
  exact hk c o p hm hw (by simp [Upd.has]) hc e
 obj := fun e r hr => by
  simp only [List.mem_cons, Prod.mk.injEq, reduceCtorEq, and_false, Option.some.injEq, List.not_mem_nil, or_false, false_or] at hr
  obtain ⟨rfl, rfl⟩ := hr
  exact .inr ⟨q, Emb.set_self, by rw [hq, setB_heap, if_pos ⟨rfl, hlt⟩]; exact ho⟩
 place := fun e r s hr hs => by
  simp only [List.mem_cons, Prod.mk.injEq, reduceCtorEq, and_false, Option.some.injEq, List.not_mem_nil, or_false, false_or] at hr
  obtain ⟨rfl, rfl⟩ := hr
  rw [Emb.set_self] at hs
  obtain rfl := Option.some.inj hs
  exact .inr ⟨c, o, p, hm, hw, by simp [Upd.has], hc, hq.symm⟩
 sep := fun e r e' r' s s' hr hr' hne => by
  simp only [List.mem_cons, Prod.mk.injEq, reduceCtorEq, and_false, Option.some.injEq, List.not_mem_nil, or_false, false_or] at hr hr'
  exact absurd (hr.1.trans hr'.1.symm) hne
 frn := fun _ _ h => .inl h
 frs := fun hf e r s hr _ hs => by
  simp only [List.mem_cons, Prod.mk.injEq, reduceCtorEq, and_false, Option.some.injEq, List.not_mem_nil, or_false, false_or] at hr
  obtain ⟨rfl, rfl⟩ := hr
  rw [Emb.set_self] at hs
  obtain rfl := Option.some.inj hs
  rw [hq]; exact hf.2 c o p hm hw hc
end
end Go.Cn
