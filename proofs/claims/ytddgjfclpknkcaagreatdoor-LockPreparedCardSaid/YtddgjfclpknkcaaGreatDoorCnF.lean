import Derived.Test.YtddgjfclpknkcaaGreatDoorCnE
import Derived.Laws.MakeOwn
namespace Go.Cn
open Go
theorem LiesAt.self (vs : List Value) : LiesAt vs.toArray 0 vs := by
 intro j v hj
 simpa using hj
theorem newVar_ok {P : Program} {t : TypeId} {x : LV} {v : Value} {μ : Emb} {w : World} {pre : Pre} {new : Nat} (hx : Rel μ x v) (hc : x.cells.all LV.isCell = true) (hn : μ new = none) :
  Runs P (do pure (Value.pointer (some (← newVar t v)))) μ w pre [(new, some (.var x.cells))] (.ptr new 0 0) := by
 have hr := cells_rel hc hx
 have hl := hr.length
 have hext : Ext μ (μ.set new ⟨w.heap.size, 0, x.cells.length, 1⟩) := Emb.ext_set hn
 refine ⟨.pointer (some ⟨w.heap.size, 0, none⟩), w.alloc (.cells v.cells t), μ.set new ⟨w.heap.size, 0, x.cells.length, 1⟩, ?_, ?_, ?_⟩
 ·simp [newVar, newRow]
 ·exact ⟨_, Emb.set_self, by simp [Pl.addr]⟩
 ·refine Delta0.new hn rfl ⟨rfl, rfl, v.cells, t, (0, 0), rfl, ?_, fun o _ h => by omega, v.cells.toList, hr.mono hext, ?_, all_oneCell hc hr⟩
  ·simp only [Array.length_toList] at hl; simp; omega
  ·have := LiesAt.self v.cells.toList
   simpa using this
def eBox (new : Nat) (x : LV) : Option Eff :=
 if x.cells.all LV.isCell then some ⟨True, .ptr new 0 0, [], [(new, some (.var x.cells))]⟩ else none
theorem eBox_ok {P : Program} {t : TypeId} {new : Nat} {x : LV} {e : Eff} {μ : Emb} {w : World} {pre : Pre} {v : Value} (h : eBox new x = some e) (hx : Rel μ x v) (hn : μ new = none) :
  Runs P (Instr.box t v) μ w pre e.up e.v ∧ e.foot = [] := by
 unfold eBox at h
 split at h <;> cases h
 rename_i hc
 exact ⟨newVar_ok hx hc hn, rfl⟩
def eAlloc (P : Program) (new : Nat) (t : TypeId) : Option Eff :=
 match tZero P t with
 | some z => eBox new z
 | none => none
theorem eAlloc_ok {P : Program} {t : TypeId} {new : Nat} {e : Eff} {μ : Emb} {w : World} {pre : Pre} (h : eAlloc P new t = some e) (hn : μ new = none) :
  Runs P (Instr.alloc t true (.tuple #[])) μ w pre e.up e.v ∧ e.foot = [] := by
 unfold eAlloc at h
 split at h <;> try cases h
 rename_i z hz
 obtain ⟨v, hv, hr⟩ := run_zero (w := w) hz
 have hb := eBox_ok (P := P) (t := t) (w := w) (pre := pre) h (hr μ) hn
 refine ⟨?_, hb.2⟩
 obtain ⟨x, w', μ', h1, h2, h3⟩ := hb.1
 refine ⟨x, w', μ', ?_, h2, h3⟩
 simp only [Instr.alloc, Sem.run_bind, hv, Result.andThen_ok]
 exact h1
def fillL (place : Nat → Option (Nat × Nat)) (cells : List LV) : List (Nat × LV) → Option (List LV)
 | [] => some cells
 | (i, v) :: r =>
  match place i with
  | some (off, size) =>
   if v.cells.length = size ∧ off + v.cells.length ≤ cells.length ∧ v.cells.all LV.isCell = true then fillL place (splL cells off v.cells) r else none
  | none => none
theorem foldl_splice : ∀ (us : List Value) (k o : Nat) (cs : Array Value), (us.zipIdx k).foldl (fun cs (x : Value × Nat) => cs.setIfInBounds (o + x.2) x.1) cs = splice cs (o + k) us
 | [], _, _, _ => rfl
 | u :: r, k, o, cs => by
  simp only [List.zipIdx_cons, List.foldl_cons, splice]
  rw [foldl_splice r (k + 1) o]
  rfl
theorem splice_list {us : List Value} {cs : Array Value} {o : Nat} (h : o + us.length ≤ cs.size) : (splice cs o us).toList = cs.toList.take o ++ us ++ cs.toList.drop (o + us.length) := by
 apply List.ext_getElem?
 intro k
 rw [Array.getElem?_toList, splice_get us cs o k h]
 by_cases h1 : k < o
 ·rw [if_neg (by omega), List.append_assoc, List.getElem?_append_left (by simp; omega), List.getElem?_take, if_pos h1, Array.getElem?_toList]
 ·by_cases h2 : k < o + us.length
  ·rw [if_pos (by omega), List.append_assoc, List.getElem?_append_right (by simp; omega), List.getElem?_append_left (by simp; omega)]
   simp only [List.length_take, Array.length_toList]
   rw [show min o cs.size = o from by omega]
  ·rw [if_neg (by omega), List.getElem?_append_right (by simp; omega), List.getElem?_drop, Array.getElem?_toList]
   simp only [List.length_append, List.length_take, Array.length_toList]
   rw [show o + us.length + (k - (min o cs.size + us.length)) = k from by omega]
theorem fillL_ok {μ : Emb} {place : Nat → Option (Nat × Nat)} : ∀ (parts : List (Nat × LV)) (vparts : List (Nat × Value)) (cells : List LV) (vcells : Array Value) (out : List LV),
  fillL place cells parts = some out → RelL μ cells vcells.toList → F2 (fun (a : Nat × LV) (b : Nat × Value) => a.1 = b.1 ∧ Rel μ a.2 b.2) parts vparts →
  ∃ vout, Instr.fill place vcells vparts = some vout ∧ RelL μ out vout.toList
 | [], _, cells, vcells, out, h, hr, hp => by
  cases hp
  cases h
  exact ⟨vcells, rfl, hr⟩
 | (i, v) :: r, _, cells, vcells, out, h, hr, hp => by
  cases hp with
  | @cons _ b _ m hab hrest =>
   obtain ⟨j, u⟩ := b
   obtain ⟨rfl, huv⟩ := hab
   unfold fillL at h
   split at h <;> try cases h
   rename_i off size hpl
   split at h <;> try cases h
   rename_i hc
   obtain ⟨h1, h2, h3⟩ := hc
   have hcr := cells_rel h3 huv
   have hlen : u.cells.size = v.cells.length := by simpa using hcr.length
   have hclen : vcells.size = cells.length := by simpa using hr.length
   have hlr := hr.length
   have e1 : (u.cells.zipIdx.foldl (fun cs (x : Value × Nat) => cs.setIfInBounds (off + x.2) x.1) vcells) = splice vcells off u.cells.toList := by
    have := foldl_splice u.cells.toList 0 off vcells
    rw [← Array.foldl_toList, Array.toList_zipIdx]
    simpa using this
   obtain ⟨vout, ho, hro⟩ := fillL_ok (μ := μ) (place := place) r m (splL cells off v.cells) (splice vcells off u.cells.toList) out h (by
    rw [splice_list (by simp; omega)]
    unfold splL
    have e2 : u.cells.toList.length = v.cells.length := by simpa using hlen
    rw [e2]
    exact ((hr.take off).append hcr).append (hr.drop _)) hrest
   refine ⟨vout, ?_, hro⟩
   simp only [Instr.fill, hpl]
   rw [if_neg (by simp; omega)]
   rw [← ho, ← e1]
def placesOf (P : Program) : List Field → Option (List (Nat × Nat))
 | [] => some []
 | f :: r =>
  match tSize P f.type, placesOf P r with
  | some s, some l => some ((f.offset, s) :: l)
  | _, _ => none
theorem run_places {P : Program} {w : World} : ∀ (fs : List Field) (l : List (Nat × Nat)), placesOf P fs = some l →
  (fs.mapM (fun f => do pure (f.offset, ← sizeOf f.type)) : Sem (List (Nat × Nat))).run P w = .ok l w
 | [], l, h => by cases h; rfl
 | f :: r, l, h => by
  unfold placesOf at h
  split at h <;> cases h
  rename_i s l' hs hl
  simp only [List.mapM_cons, Sem.run_bind, run_sizeOf' hs, Result.andThen_ok, Sem.run_pure, run_places r l' hl]
def eBuild (P : Program) (t : TypeId) (parts : List (Nat × LV)) : Option Eff :=
 match tDesc P t, tZero P t with
 | some (.struct fs), some z =>
  match placesOf P fs.toList with
  | some pl =>
   match fillL (fun i => pl[i]?) z.cells parts with
   | some cs => some (.valIf (z.cells.all LV.isCell = true) (.agg cs))
   | none => none
  | none => none
 | some (.array _ el), some z =>
  match tSize P el with
  | some s =>
   match fillL (fun i => some (i * s, s)) z.cells parts with
   | some cs => some (.valIf (z.cells.all LV.isCell = true) (.agg cs))
   | none => none
  | none => none
 | _, _ => none
theorem eBuild_ok {P : Program} {t : TypeId} {parts : List (Nat × LV)} {vparts : Array (Nat × Value)} {e : Eff} {μ : Emb} {w : World} {pre : Pre} (h : eBuild P t parts = some e) (hob : e.ob)
  (hp : F2 (fun (a : Nat × LV) (b : Nat × Value) => a.1 = b.1 ∧ Rel μ a.2 b.2) parts vparts.toList) : Runs P (Instr.build t vparts) μ w pre e.up e.v ∧ e.up = [] ∧ e.foot = [] := by
 unfold eBuild at h
 split at h <;> try cases h
 ·rename_i fs z hd hz
  split at h <;> try cases h
  rename_i pl hpl
  split at h <;> cases h
  rename_i cs hfill
  obtain ⟨v, hv, hr⟩ := run_zero (w := w) hz
  have hcr := cells_rel hob (hr μ)
  obtain ⟨vout, ho, hro⟩ := fillL_ok parts vparts.toList z.cells v.cells cs hfill hcr hp
  refine ⟨Runs.same (x := .agg vout) ?_ ⟨vout, rfl, hro⟩, rfl, rfl⟩
  have hpl' : (fs.mapM (fun f => do pure (f.offset, ← sizeOf f.type)) : Sem (Array (Nat × Nat))).run P w = .ok pl.toArray w := by
   rw [← Array.toArray_toList (xs := fs), List.mapM_toArray]
   have hpl2 := run_places (w := w) fs.toList pl hpl
   simp only [bind_pure_comp] at hpl2
   simp [hpl2]
  have hfn : (fun (i : Nat) => (pl.toArray)[i]?) = (fun (i : Nat) => pl[i]?) := by funext i; simp
  simp only [Instr.build, Sem.run_bind, hv, Result.andThen_ok, run_under hd]
  rw [hpl']
  simp only [Result.andThen_ok, hfn, ho, Sem.run_pure]
 ·rename_i n el z hd hz
  split at h <;> try cases h
  rename_i s hs
  split at h <;> cases h
  rename_i cs hfill
  obtain ⟨v, hv, hr⟩ := run_zero (w := w) hz
  have hcr := cells_rel hob (hr μ)
  obtain ⟨vout, ho, hro⟩ := fillL_ok parts vparts.toList z.cells v.cells cs hfill hcr hp
  refine ⟨Runs.same (x := .agg vout) ?_ ⟨vout, rfl, hro⟩, rfl, rfl⟩
  simp only [Instr.build, Sem.run_bind, hv, Result.andThen_ok, run_under hd, run_sizeOf' hs, ho, Sem.run_pure]
def chunk (s : Nat) (cs : List LV) (i : Nat) : List LV := (cs.drop (i * s)).take s
def repL : Nat → List LV → List LV
 | 0, _ => []
 | n + 1, z => z ++ repL n z
def eBuildSlice (P : Program) (new : Nat) (t : TypeId) (len : Nat) (parts : List (Nat × LV)) : Option Eff :=
 match tDesc P t with
 | some (.slice el) =>
  match tSize P el, tZero P el with
  | some s, some z =>
   match fillL (fun i => some (i * s, s)) (repL len z.cells) parts with
   | some cs => some ⟨z.cells.all LV.isCell = true ∧ z.cells.length = s ∧ 0 < s ∧ len * s ≤ 16777216, .sl new 0 0 false len (some len), [], [(new, some (.row s len (chunk s cs) true))]⟩
   | none => none
  | _, _ => none
 | _ => none
theorem fillL_all {place : Nat → Option (Nat × Nat)} : ∀ (parts : List (Nat × LV)) (cells out : List LV), fillL place cells parts = some out → cells.all LV.isCell = true → out.all LV.isCell = true
 | [], cells, out, h, hc => by cases h; exact hc
 | (i, v) :: r, cells, out, h, hc => by
  unfold fillL at h
  split at h <;> try cases h
  split at h <;> try cases h
  rename_i hq
  refine fillL_all r _ _ h ?_
  rw [List.all_eq_true] at hc ⊢
  intro x hx
  unfold splL at hx
  rcases List.mem_append.1 hx with hx | hx
  ·rcases List.mem_append.1 hx with hx | hx
   ·exact hc x (List.mem_of_mem_take hx)
   ·exact List.all_eq_true.1 hq.2.2 x hx
  ·exact hc x (List.mem_of_mem_drop hx)
theorem repL_all {z : List LV} (h : z.all LV.isCell = true) : ∀ n, (repL n z).all LV.isCell = true
 | 0 => rfl
 | n + 1 => by simp only [repL, List.all_append, h, repL_all h n, Bool.and_self]
theorem fillL_length {place : Nat → Option (Nat × Nat)} : ∀ (parts : List (Nat × LV)) (cells out : List LV), fillL place cells parts = some out → out.length = cells.length
 | [], cells, out, h => by cases h; rfl
 | (i, v) :: r, cells, out, h => by
  unfold fillL at h
  split at h <;> try cases h
  split at h <;> try cases h
  rename_i hc
  rw [fillL_length r _ _ h, splL_length hc.2.1]
theorem repL_length (n : Nat) (z : List LV) : (repL n z).length = n * z.length := by
 induction n with
 | zero => simp [repL]
 | succ n ih => simp [repL, ih, Nat.add_mul]; omega
theorem repL_rel {μ : Emb} {z : List LV} {v : Array Value} (hr : RelL μ z v.toList) : ∀ (n : Nat), 0 < z.length → RelL μ (repL n z) ((Array.range (n * z.length)).map (v[· % v.size]!)).toList := by
 intro n hz
 have hsz : v.size = z.length := by simpa using hr.length
 have key : ∀ n, ((Array.range (n * z.length)).map (v[· % v.size]!)).toList = (List.range (n * z.length)).map (fun i => v[i % v.size]!) := by
  intro n; simp
 rw [key]
 induction n with
 | zero => simp [repL, RelL]
 | succ n ih =>
  have : (n + 1) * z.length = z.length + n * z.length := by rw [Nat.add_mul]; omega
  rw [this, List.range_add, List.map_append]
  refine RelL.append ?_ ?_
  ·have : (List.range z.length).map (fun i => v[i % v.size]!) = v.toList := by
    apply List.ext_getElem?
    intro k
    simp only [List.getElem?_map, Array.getElem?_toList]
    by_cases hk : k < z.length
    ·rw [List.getElem?_range hk]
     simp only [Option.map_some, hsz, Nat.mod_eq_of_lt hk]
     simp [hsz, hk]
    ·rw [List.getElem?_eq_none (by simp; omega), Array.getElem?_eq_none (by omega)]
     rfl
   rw [this]; exact hr
  ·rw [List.map_map]
   have : ((fun i => v[i % v.size]!) ∘ fun x => z.length + x) = (fun i => v[i % v.size]!) := by
    funext i
    simp [Function.comp, hsz]
   rw [this]
   exact ih
theorem chunk_lies {cs : List LV} {vs : List Value} {μ : Emb} {s i n : Nat} (hr : RelL μ cs vs) (hone : ∀ v ∈ vs, v.oneCell' = true) (hl : cs.length = n * s) (hi : i < n) :
  ∃ us, RelL μ (chunk s cs i) us ∧ us.length = s ∧ LiesAt vs.toArray (0 + i * s) us ∧ ∀ v ∈ us, v.oneCell' = true := by
 have hlen := hr.length
 have : (i + 1) * s ≤ n * s := Nat.mul_le_mul_right _ (by omega)
 rw [Nat.add_mul, Nat.one_mul] at this
 refine ⟨(vs.drop (i * s)).take s, (hr.drop _).take _, by simp; omega, ?_, fun v hv => hone v (List.mem_of_mem_drop (List.mem_of_mem_take hv))⟩
 exact ((LiesAt.self vs).drop (i * s)).take s
theorem newRow_ok {P : Program} {el : TypeId} {cs : List LV} {v : Array Value} {s n len : Nat} {cap : Option Nat} {μ : Emb} {w : World} {pre : Pre} {new : Nat} {f : Nat → List LV} (hr : RelL μ cs v.toList) (hone : ∀ x ∈ v.toList, x.oneCell' = true) (hl : cs.length = n * s)
  (hf : ∀ i, i < len → f i = chunk s cs i) (hlen : len ≤ n) (hcap : ∀ k, cap = some k → n = k) (hn : μ new = none) :
  Runs P (do pure (Value.slice (some (← newRow el v)) len n)) μ w pre [(new, some (.row s len f true))] (.sl new 0 0 false len cap) := by
 have hext : Ext μ (μ.set new ⟨w.heap.size, 0, s, n⟩) := Emb.ext_set hn
 have hsz : v.size = n * s := by have := hr.length; simp at this; omega
 refine ⟨.slice (some ⟨w.heap.size, 0, none⟩) len n, w.alloc (.cells v el), μ.set new ⟨w.heap.size, 0, s, n⟩, ?_, ?_, ?_⟩
 ·simp [newRow]
 ·exact ⟨_, ⟨w.heap.size, 0, none⟩, n, Emb.set_self, rfl, hlen, hcap, rfl, rfl, fun _ => by simp [Pl.addr], fun _ => ⟨rfl, fun _ => by simp⟩⟩
 ·refine Delta0.new hn rfl ⟨rfl, hlen, v, el, (0, 0), rfl, by simp; omega, fun _ o _ h => by omega, fun i hi => ?_⟩
  rw [hf i hi]
  obtain ⟨us, h1, h2, h3, h4⟩ := chunk_lies (hr.mono hext) hone hl (Nat.lt_of_lt_of_le hi hlen)
  exact ⟨us, h1, h2, by simpa using h3, h4⟩
theorem eBuildSlice_ok {P : Program} {t : TypeId} {new len : Nat} {parts : List (Nat × LV)} {vparts : Array (Nat × Value)} {e : Eff} {μ : Emb} {w : World} {pre : Pre} (h : eBuildSlice P new t len parts = some e) (hob : e.ob)
  (hn : μ new = none) (hp : F2 (fun (a : Nat × LV) (b : Nat × Value) => a.1 = b.1 ∧ Rel μ a.2 b.2) parts vparts.toList) : Runs P (Instr.buildSlice t len vparts) μ w pre e.up e.v ∧ e.foot = [] := by
 unfold eBuildSlice at h
 split at h <;> try cases h
 rename_i el hd
 split at h <;> try cases h
 rename_i s z hs hz
 split at h <;> cases h
 rename_i cs hfill
 obtain ⟨h1, h2, h3, h4⟩ := hob
 obtain ⟨v, hv, hr⟩ := run_zero (w := w) hz
 have hcr := cells_rel h1 (hr μ)
 have hrep := repL_rel hcr len (by omega)
 obtain ⟨vout, ho, hro⟩ := fillL_ok parts vparts.toList _ _ cs hfill hrep hp
 have hcl : cs.length = len * s := by rw [fillL_length _ _ _ hfill, repL_length, h2]
 refine ⟨?_, rfl⟩
 obtain ⟨x, w', μ', k1, k2, k3⟩ := newRow_ok (P := P) (el := el) (len := len) (cap := some len) (w := w) (pre := pre) (f := chunk s cs) hro (all_oneCell (fillL_all _ _ _ hfill (repL_all h1 len)) hro) hcl (fun _ _ => rfl) (Nat.le_refl _) (fun k hk => Option.some.inj hk) hn
 refine ⟨x, w', μ', ?_, k2, k3⟩
 rw [← k1]
 have hsz : v.cells.size = s := by have := hcr.length; simp at this; omega
 rw [h2] at ho
 simp only [Instr.buildSlice, Sem.run_bind, run_under hd, Result.andThen_ok, run_sizeOf' hs]
 have g1 : ¬ len * s > 2 ^ 24 := by omega
 simp only [Sem.run_ite, g1, if_false, Sem.run_pure, Result.andThen_ok]
 by_cases hz0 : len * s = 0
 ·have : len = 0 := by
   rcases Nat.mul_eq_zero.1 hz0 with h | h <;> omega
  subst this
  simp only [Nat.zero_mul, if_true, Sem.run_pure, Result.andThen_ok] at ho ⊢
  simp only [Array.range_zero', Array.map_empty] at ho ⊢
  simp [ho]
 ·simp only [hz0, if_false, hv, Sem.run_bind, Result.andThen_ok, Sem.run_pure, ho]
end Go.Cn
