import Derived.Test.YtddgjfclpknkcaaGreatDoorCnC
import Derived.Laws.Strings
import Derived.Laws.Slices
namespace Go.Cn
open Go
def ofCell : Value → Option LV
 | .int k n => some (.int k n)
 | .bool b => some (.bool b)
 | .string s => some (.str s.data.toList)
 | .pointer none => some .nilptr
 | .slice none 0 0 => some .nilsl
 | .map none => some .nilmap
 | .nilFunc => some .nilfn
 | _ => none
def ofCells : List Value → Option (List LV)
 | [] => some []
 | v :: r => match ofCell v, ofCells r with
  | some x, some l => some (x :: l)
  | _, _ => none
def ofV : Value → Option LV
 | .agg cs => (ofCells cs.toList).map .agg
 | v => ofCell v
theorem ofCell_rel {v : Value} {l : LV} (h : ofCell v = some l) (μ : Emb) : Rel μ l v := by
 unfold ofCell at h
 split at h <;> cases h <;> simp only [Rel]
theorem ofCells_rel : ∀ {vs : List Value} {l : List LV}, ofCells vs = some l → ∀ (μ : Emb), RelL μ l vs
 | [], l, h, μ => by cases h; rfl
 | v :: r, l, h, μ => by
  unfold ofCells at h
  split at h
  ·rename_i x l' hx hl
   cases h
   exact ⟨v, r, rfl, ofCell_rel hx μ, ofCells_rel hl μ⟩
  ·cases h
theorem ofV_rel {v : Value} {l : LV} (h : ofV v = some l) (μ : Emb) : Rel μ l v := by
 unfold ofV at h
 split at h
 ·rename_i cs
  simp only [Option.map_eq_some_iff] at h
  obtain ⟨l', hl, rfl⟩ := h
  exact ⟨cs, rfl, ofCells_rel hl μ⟩
 ·exact ofCell_rel h μ
def tDesc (P : Program) (t : TypeId) : Option TypeDesc := P.underlying t
def tSize (P : Program) (t : TypeId) : Option Nat := (P.info? t).map (·.size)
def tBytes (P : Program) (t : TypeId) : Option Nat := (P.info? t).map (·.bytes)
def tZero (P : Program) (t : TypeId) : Option LV := ((P.info? t).bind (·.zero)).bind ofV
def aggD : TypeDesc → Bool
 | .struct _ | .array _ _ => true
 | _ => false
section
variable {P : Program} {w : World} {t : TypeId}
theorem run_under {d : TypeDesc} (h : P.underlying t = some d) : (underlying t).run P w = .ok d w := run_underlying h w
theorem tSize_some {n : Nat} (h : tSize P t = some n) : ∃ i, P.info? t = some i ∧ i.size = n := by
 simpa [tSize, Option.map_eq_some_iff] using h
theorem run_sizeOf' {n : Nat} (h : tSize P t = some n) : (sizeOf t).run P w = .ok n w := by
 obtain ⟨i, hi, rfl⟩ := tSize_some h
 simp [sizeOf, run_typeInfo w hi]
theorem run_bytes {n : Nat} (h : tBytes P t = some n) : ∃ i, (typeInfo t).run P w = .ok i w ∧ i.bytes = n := by
 simp only [tBytes, Option.map_eq_some_iff] at h
 obtain ⟨i, hi, rfl⟩ := h
 exact ⟨i, run_typeInfo w hi, rfl⟩
theorem run_zero {l : LV} (h : tZero P t = some l) : ∃ z, (zeroValue t).run P w = .ok z w ∧ ∀ μ, Rel μ l z := by
 simp only [tZero, Option.bind_eq_some_iff] at h
 obtain ⟨z, ⟨i, hi, hz⟩, hl⟩ := h
 exact ⟨z, by simp [zeroValue, run_typeInfo w hi, hz], ofV_rel hl⟩
theorem run_isAgg {d : TypeDesc} (h : P.underlying t = some d) : (isAgg t).run P w = .ok (aggD d) w := by
 unfold isAgg
 simp only [Sem.run_bind, run_under h, Result.andThen_ok]
 cases d <;> rfl
end
structure Eff where
 ob : Prop
 v : LV
 foot : List Nat
 up : Upd
def Eff.val (v : LV) : Eff := ⟨True, v, [], []⟩
def Eff.valIf (q : Prop) (v : LV) : Eff := ⟨q, v, [], []⟩
def Runs (P : Program) (s : Sem Value) (μ : Emb) (w : World) (pre : Pre) (up : Upd) (v : LV) : Prop :=
 ∃ x w' μ', s.run P w = .ok x w' ∧ Rel μ' v x ∧ Delta0 μ w pre up μ' w'
theorem Runs.same {P : Program} {s : Sem Value} {μ : Emb} {w : World} {pre : Pre} {v : LV} {x : Value} (h : s.run P w = .ok x w) (r : Rel μ v x) : Runs P s μ w pre [] v :=
 ⟨x, w, μ, h, r, Delta0.refl μ w pre⟩
def cellsAt : LO → Nat → Option (Prop × List LV)
 | .var cs, 0 => some (True, cs)
 | .row _ n f _, i => some (i < n, f i)
 | .gr _ n f, i => some (i < n, f i)
 | _, _ => none
theorem cellsAt_ok {μ : Emb} {p : Pl} {h : Option Obj} {o : LO} {i : Nat} {q : Prop} {cs : List LV} (ho : ObjOK μ p h o) (hc : cellsAt o i = some (q, cs)) (hq : q) :
  ∃ cells E fr vs, h = some (.cells cells E fr) ∧ RelL μ cs vs ∧ LiesAt cells (p.off + i * p.sz) vs ∧ cs.length = p.sz ∧ p.off + i * p.sz + p.sz ≤ cells.size ∧ i < p.ext ∧ ∀ v ∈ vs, v.oneCell' = true := by
 unfold cellsAt at hc
 split at hc
 ·cases hc
  obtain ⟨h1, h2, cells, E, fr, h3, h4, h5, vs, h6, h7, h8⟩ := ho
  exact ⟨cells, E, fr, vs, h3, h6, by simpa using h7, h2.symm, by simpa using h4, by omega, h8⟩
 ·cases hc
  obtain ⟨h1, h2, cells, E, fr, h3, h4, h5, h6⟩ := ho
  obtain ⟨vs, a, b, c, d⟩ := h6 i hq
  subst h1
  refine ⟨cells, E, fr, vs, h3, a, c, by rw [← a.length, b], ?_, by omega, d⟩
  have : (i + 1) * p.sz ≤ p.ext * p.sz := Nat.mul_le_mul_right _ (by omega)
  rw [Nat.add_mul, Nat.one_mul] at this
  omega
 ·cases hc
  obtain ⟨h1, h2, cells, E, fr, h3, h4, h5, h6⟩ := ho
  obtain ⟨vs, a, b, c, d⟩ := h6 i hq
  subst h1
  refine ⟨cells, E, fr, vs, h3, a, c, by rw [← a.length, b], ?_, by omega, d⟩
  have : (i + 1) * p.sz ≤ p.ext * p.sz := Nat.mul_le_mul_right _ (by omega)
  rw [Nat.add_mul, Nat.one_mul] at this
  omega
 ·cases hc
theorem LiesAt.drop {cs : Array Value} {o : Nat} {vs : List Value} (h : LiesAt cs o vs) (n : Nat) : LiesAt cs (o + n) (vs.drop n) := by
 intro j v hj
 rw [List.getElem?_drop] at hj
 rw [Nat.add_assoc]
 exact h (n + j) v hj
theorem LiesAt.take {cs : Array Value} {o : Nat} {vs : List Value} (h : LiesAt cs o vs) (n : Nat) : LiesAt cs o (vs.take n) := by
 intro j v hj
 rw [List.getElem?_take] at hj
 split at hj
 ·exact h j v hj
 ·cases hj
theorem Heap.pre_one {H : Heap} {c : Nat} {o : LO} (h : H.at c = some o) : H.pre [c] = [(c, o)] := by simp [Heap.pre, h]
def eLoad (P : Program) (H : Heap) (t : TypeId) : LV → Option Eff
 | .ptr c i j =>
  match H.at c with
  | some o =>
   match cellsAt o i, tDesc P t with
   | some (q, cs), some d =>
    if aggD d then
     match tSize P t with
     | some s => some ⟨q ∧ j + s ≤ cs.length, .agg ((cs.drop j).take s), [c], []⟩
     | none => none
    else some ⟨q ∧ j < cs.length, (cs[j]?).getD .any, [c], []⟩
   | _, _ => none
  | none => none
 | .dp cs =>
  match tDesc P t with
  | some d =>
   if aggD d then
    match tSize P t with
    | some s => some ⟨s ≤ cs.length, .agg (cs.take s), [], []⟩
    | none => none
   else some ⟨0 < cs.length, (cs[0]?).getD .any, [], []⟩
  | none => none
 | _ => none
theorem eLoad_dp {P : Program} {H : Heap} {t : TypeId} {cs : List LV} {e : Eff} {μ : Emb} {w : World} {va : Value} (h : eLoad P H t (.dp cs) = some e) (hob : e.ob) (ha : Rel μ (.dp cs) va)
  (hp : PreOK0 μ (H.pre e.foot) w) : Runs P (Instr.loadAt t va) μ w (H.pre e.foot) e.up e.v := by
 simp only [eLoad] at h
 simp only [Rel, RelF] at ha
 obtain ⟨a, cells, vs, rfl, hsp, hfz, hr, hl, h1⟩ := ha
 obtain ⟨E, fr, hb⟩ := hp.fro _ _ hfz
 obtain ⟨ab, ao, asp⟩ := a
 simp only at hsp hl hb
 subst hsp
 have hlen := hr.length
 have hrun : (Instr.loadAt t (.pointer (some ⟨ab, ao, none⟩))).run P w = (loadVar t ⟨ab, ao, none⟩).run P w := by simp [Instr.loadAt, Instr.sureAddr]
 split at h <;> try cases h
 rename_i d hd
 split at h
 ·rename_i hag
  split at h <;> cases h
  rename_i s hs
  refine Runs.same (x := .agg ((vs.take s).toArray)) ?_ ⟨_, rfl, by simpa using (hr.rel).take s⟩
  rw [hrun]
  have hls : (vs.take s).length = s := by
   have h2 : s ≤ cs.length := hob
   simp only [List.length_take]
   omega
  have := run_loadCells' (P := P) (o := ao) hb (vs.take s) (hl.take s)
  rw [hls] at this
  simp only [loadVar, Sem.run_bind, run_isAgg hd, Result.andThen_ok, hag, if_true, run_sizeOf' hs]
  rw [this]
  rfl
 ·rename_i hag
  cases h
  have h2 : 0 < cs.length := hob
  obtain ⟨x, hx⟩ : ∃ x, cs[0]? = some x := ⟨_, List.getElem?_eq_getElem h2⟩
  obtain ⟨v, hv, hrv⟩ := (hr.rel (μ := μ)).get hx
  refine Runs.same (x := v) ?_ (by simpa [hx] using hrv)
  rw [hrun]
  have hcell : w.cell? ⟨ab, ao, none⟩ = some v := by
   simp only [World.cell?, hb]
   simpa using hl 0 v hv
  simp only [loadVar, Sem.run_bind, run_isAgg hd, Result.andThen_ok, hag, Bool.false_eq_true, if_false, run_load, hcell]
theorem eLoad_ok {P : Program} {H : Heap} {t : TypeId} {a : LV} {e : Eff} {μ : Emb} {w : World} {va : Value} (h : eLoad P H t a = some e) (hob : e.ob) (ha : Rel μ a va)
  (hp : PreOK0 μ (H.pre e.foot) w) : Runs P (Instr.loadAt t va) μ w (H.pre e.foot) e.up e.v := by
 have h' := h
 unfold eLoad at h
 split at h <;> first | (exact eLoad_dp h' hob ha hp) | (cases h; done) | skip
 rename_i c i j
 clear h'
 split at h <;> try cases h
 rename_i o ho
 obtain ⟨p, hpc, rfl⟩ := ha
 split at h <;> try cases h
 rename_i q cs d hca hd
 have hfoot : e.foot = [c] := by
  split at h
  ·split at h <;> cases h; rfl
  ·cases h; rfl
 have hok := hp.placed (c := c) (o := o) (by rw [hfoot, Heap.pre_one ho]; simp) hpc
 have hq : q := by
  split at h
  ·split at h <;> cases h; exact hob.1
  ·cases h; exact hob.1
 obtain ⟨cells, E, fr, vs, hb, hr, hl, hlen, hsz, _, _⟩ := cellsAt_ok hok hca hq
 have hrun : (Instr.loadAt t (.pointer (some (p.addr i j)))).run P w = (loadVar t (p.addr i j)).run P w := by simp [Instr.loadAt, Instr.sureAddr]
 split at h
 ·rename_i hag
  split at h <;> cases h
  rename_i s hs
  refine Runs.same (x := .agg (((vs.drop j).take s).toArray)) ?_ ⟨_, rfl, by simpa using (hr.drop j).take s⟩
  rw [hrun]
  have hls : ((vs.drop j).take s).length = s := by
   have := hr.length
   have h2 := hob.2
   simp only [List.length_take, List.length_drop]
   omega
  have := run_loadCells' (P := P) (o := p.off + i * p.sz + j) hb ((vs.drop j).take s) (by have := (hl.drop j).take s; simpa using this)
  rw [hls] at this
  simp only [loadVar, Sem.run_bind, run_isAgg hd, Result.andThen_ok, hag, if_true, run_sizeOf' hs]
  unfold Pl.addr
  rw [this]
  rfl
 ·rename_i hag
  cases h
  have h2 := hob.2
  obtain ⟨x, hx⟩ : ∃ x, cs[j]? = some x := ⟨_, List.getElem?_eq_getElem h2⟩
  obtain ⟨v, hv, hrv⟩ := hr.get hx
  refine Runs.same (x := v) ?_ (by simpa [hx] using hrv)
  rw [hrun]
  have hcell : w.cell? (p.addr i j) = some v := by
   simp only [World.cell?, Pl.addr, hb]
   simpa using hl j v hv
  simp only [loadVar, Sem.run_bind, run_isAgg hd, Result.andThen_ok, hag, Bool.false_eq_true, if_false, run_load, hcell]
def splL (cs : List LV) (j : Nat) (xs : List LV) : List LV := cs.take j ++ xs ++ cs.drop (j + xs.length)
theorem splL_length {cs : List LV} {j : Nat} {xs : List LV} (h : j + xs.length ≤ cs.length) : (splL cs j xs).length = cs.length := by
 simp [splL]; omega
theorem splice_lies {cells : Array Value} {o j : Nat} {vs us : List Value} (hl : LiesAt cells o vs) (hj : j + us.length ≤ vs.length) (hs : o + vs.length ≤ cells.size) :
  LiesAt (splice cells (o + j) us) o (vs.take j ++ us ++ vs.drop (j + us.length)) := by
 intro k v hk
 rw [splice_get us cells (o + j) (o + k) (by omega)]
 by_cases h1 : k < j
 ·rw [if_neg (by omega)]
  rw [List.append_assoc, List.getElem?_append_left (by simp; omega), List.getElem?_take, if_pos h1] at hk
  exact hl k v hk
 ·by_cases h2 : k < j + us.length
  ·rw [if_pos (by omega)]
   rw [List.append_assoc, List.getElem?_append_right (by simp; omega), List.getElem?_append_left (by simp; omega)] at hk
   simp only [List.length_take] at hk
   rw [show o + k - (o + j) = k - min j vs.length from by omega]
   exact hk
  ·rw [if_neg (by omega)]
   rw [List.getElem?_append_right (by simp; omega), List.getElem?_drop] at hk
   simp only [List.length_append, List.length_take] at hk
   rw [show j + us.length + (k - (min j vs.length + us.length)) = k from by omega] at hk
   exact hl k v hk
theorem splice_other {cells : Array Value} {o j o' : Nat} {us vs : List Value} {n : Nat} (hl : LiesAt cells o' vs) (hn : j + us.length ≤ n) (hs : o + n ≤ cells.size) (hd : o' + vs.length ≤ o ∨ o + n ≤ o') :
  LiesAt (splice cells (o + j) us) o' vs := by
 intro k v hk
 have hk' : k < vs.length := (List.getElem?_eq_some_iff.1 hk).1
 rw [splice_get us cells (o + j) (o' + k) (by omega), if_neg (by omega)]
 exact hl k v hk
def eStore (P : Program) (H : Heap) (t : TypeId) (a x : LV) : Option Eff :=
 match a with
 | .ptr c i j =>
  match tSize P t, x.cells.all LV.isCell with
  | some s, true =>
   match H.at c with
   | some (.var cs) => some ⟨x.cells.length = s ∧ j + s ≤ cs.length ∧ i = 0, .any, [c], [(c, some (.var (splL cs j x.cells)))]⟩
   | some (.row sz n f true) => some ⟨x.cells.length = s ∧ j + s ≤ (f i).length ∧ i < n, .any, [c], [(c, some (.row sz n (fun m => if m = i then splL (f i) j x.cells else f m) true))]⟩
   | some (.gr sz n f) => some ⟨x.cells.length = s ∧ j + s ≤ (f i).length ∧ i < n, .any, [c], [(c, some (.gr sz n (fun m => if m = i then splL (f i) j x.cells else f m)))]⟩
   | _ => none
  | _, _ => none
 | _ => none
theorem all_oneCell {μ : Emb} : ∀ {l : List LV} {vs : List Value}, l.all LV.isCell = true → RelL μ l vs → ∀ v ∈ vs, v.oneCell' = true
 | [], _, _, r, v, hv => by cases r; cases hv
 | x :: l, _, h, ⟨a, r, e, hx, hr⟩, v, hv => by
  subst e
  simp only [List.all_cons, Bool.and_eq_true] at h
  rcases List.mem_cons.1 hv with rfl | hv
  ·exact Rel.oneCell h.1 hx
  ·exact all_oneCell h.2 hr v hv
theorem cells_rel {μ : Emb} {x : LV} {v : Value} (h : x.cells.all LV.isCell = true) (r : Rel μ x v) : RelL μ x.cells v.cells.toList := by
 refine Rel.cells ?_ r
 cases x <;> simp [LV.cells, LV.isCell] at h ⊢
theorem spl_one {vs us : List Value} {j : Nat} (h : ∀ v ∈ vs, v.oneCell' = true) (k : ∀ v ∈ us, v.oneCell' = true) : ∀ v ∈ vs.take j ++ us ++ vs.drop (j + us.length), v.oneCell' = true := by
 intro v hv
 rcases List.mem_append.1 hv with hv | hv
 ·rcases List.mem_append.1 hv with hv | hv
  ·exact h v (List.mem_of_mem_take hv)
  ·exact k v hv
 ·exact h v (List.mem_of_mem_drop hv)
theorem eStore_ok {P : Program} {H : Heap} {t : TypeId} {a x : LV} {e : Eff} {μ : Emb} {w : World} {va vx : Value} (h : eStore P H t a x = some e) (hob : e.ob) (ha : Rel μ a va) (hx : Rel μ x vx)
  (hp : PreOK0 μ (H.pre e.foot) w) : ∃ w', (Instr.storeAt t va vx).run P w = .ok () w' ∧ Delta0 μ w (H.pre e.foot) e.up μ w' := by
 unfold eStore at h
 split at h <;> try cases h
 rename_i c i j
 split at h <;> try cases h
 rename_i s hs hall
 obtain ⟨p, hpc, rfl⟩ := ha
 have hcr := cells_rel hall hx
 have hone := all_oneCell hall hcr
 have hlen := hcr.length
 have hrun : ∀ (hsz : vx.cells.size = s), (Instr.storeAt t (.pointer (some (p.addr i j))) vx).run P w = (storeCells (p.addr i j) vx.cells.toList).run P w := by
  intro hsz
  simp [Instr.storeAt, Instr.sureAddr, storeVar, run_sizeOf' hs, hsz]
 simp only [Array.length_toList] at hlen
 split at h <;> try cases h
 ·rename_i cs ho
  obtain ⟨h1, h2, rfl⟩ := hob
  rw [Heap.pre_one ho] at hp ⊢
  have hok := hp.placed (List.mem_singleton.2 rfl) hpc
  have hlt := hok.lt
  obtain ⟨k1, k2, cells, E, fr, hb, hsz, hfr, vs, hr, hl, h1c⟩ := hok
  have hvl := hr.length
  refine ⟨setB w p.rb (.cells (splice cells (p.off + j) vx.cells.toList) E fr), ?_, ?_⟩
  ·rw [hrun (by omega)]
   have := run_storeCells' (P := P) (rb := p.rb) (o := p.off + j) (E := E) (fr := fr) vx.cells.toList 0 cells w hb hfr (by simp; omega) hone
   simpa [Pl.addr] using this
  ·refine Delta0.put hpc (List.mem_singleton.2 rfl) rfl hlt ⟨k1, by rw [splL_length (by omega)]; exact k2, _, E, fr, rfl, by rw [splice_size]; exact hsz, by rw [splice_size]; exact hfr, _, ?_, splice_lies hl (by simp; omega) (by omega), spl_one h1c hone⟩
   unfold splL
   have e1 : vx.cells.toList.length = x.cells.length := by simpa using hlen
   rw [e1]
   exact ((hr.take j).append hcr).append (hr.drop _)
 ·rename_i sz n f ho
  obtain ⟨h1, h2, h3⟩ := hob
  rw [Heap.pre_one ho] at hp ⊢
  have hok := hp.placed (List.mem_singleton.2 rfl) hpc
  have hlt := hok.lt
  obtain ⟨k1, k2, cells, E, fr, hb, hsz, hfr, hel⟩ := hok
  subst k1
  have hin : p.off + i * p.sz + p.sz ≤ cells.size := by
   have : (i + 1) * p.sz ≤ p.ext * p.sz := Nat.mul_le_mul_right _ (by omega)
   rw [Nat.add_mul, Nat.one_mul] at this
   omega
  obtain ⟨vs, hr, hvs, hl, h1c⟩ := hel i h3
  have hvl := hr.length
  refine ⟨setB w p.rb (.cells (splice cells (p.off + i * p.sz + j) vx.cells.toList) E fr), ?_, ?_⟩
  ·rw [hrun (by omega)]
   have := run_storeCells' (P := P) (rb := p.rb) (o := p.off + i * p.sz + j) (E := E) (fr := fr) vx.cells.toList 0 cells w hb (hfr rfl) (by simp; omega) hone
   simpa [Pl.addr] using this
  ·refine Delta0.put hpc (List.mem_singleton.2 rfl) rfl hlt ⟨rfl, k2, _, E, fr, rfl, by rw [splice_size]; exact hsz, by rw [splice_size]; exact hfr, fun m hm => ?_⟩
   by_cases hmi : m = i
   ·subst hmi
    simp only [if_true]
    have e1 : vx.cells.toList.length = x.cells.length := by simpa using hlen
    refine ⟨vs.take j ++ vx.cells.toList ++ vs.drop (j + vx.cells.toList.length), ?_, by simp; omega, splice_lies hl (by simp; omega) (by omega), spl_one h1c hone⟩
    unfold splL
    rw [e1]
    exact ((hr.take j).append hcr).append (hr.drop _)
   ·simp only [if_neg hmi]
    obtain ⟨us, a, b, c', d'⟩ := hel m hm
    refine ⟨us, a, b, splice_other (n := p.sz) c' (by simp; omega) hin ?_, d'⟩
    rw [b]
    rcases Nat.lt_or_gt_of_ne hmi with h4 | h4
    ·left
     have : (m + 1) * p.sz ≤ i * p.sz := Nat.mul_le_mul_right _ (by omega)
     rw [Nat.add_mul, Nat.one_mul] at this
     omega
    ·right
     have : (i + 1) * p.sz ≤ m * p.sz := Nat.mul_le_mul_right _ (by omega)
     rw [Nat.add_mul, Nat.one_mul] at this
     omega
 ·rename_i sz n f ho
  obtain ⟨h1, h2, h3⟩ := hob
  rw [Heap.pre_one ho] at hp ⊢
  have hok := hp.placed (List.mem_singleton.2 rfl) hpc
  have hlt := hok.lt
  obtain ⟨k1, k2, cells, E, fr, hb, hsz, hfr, hel⟩ := hok
  subst k1
  have hin : p.off + i * p.sz + p.sz ≤ cells.size := by
   have : (i + 1) * p.sz ≤ p.ext * p.sz := Nat.mul_le_mul_right _ (by omega)
   rw [Nat.add_mul, Nat.one_mul] at this
   omega
  obtain ⟨vs, hr, hvs, hl, h1c⟩ := hel i h3
  have hvl := hr.length
  refine ⟨setB w p.rb (.cells (splice cells (p.off + i * p.sz + j) vx.cells.toList) E fr), ?_, ?_⟩
  ·rw [hrun (by omega)]
   have := run_storeCells' (P := P) (rb := p.rb) (o := p.off + i * p.sz + j) (E := E) (fr := fr) vx.cells.toList 0 cells w hb hfr (by simp; omega) hone
   simpa [Pl.addr] using this
  ·refine Delta0.put hpc (List.mem_singleton.2 rfl) rfl hlt ⟨rfl, k2, _, E, fr, rfl, by rw [splice_size]; exact hsz, by rw [splice_size]; exact hfr, fun m hm => ?_⟩
   by_cases hmi : m = i
   ·subst hmi
    simp only [if_true]
    have e1 : vx.cells.toList.length = x.cells.length := by simpa using hlen
    refine ⟨vs.take j ++ vx.cells.toList ++ vs.drop (j + vx.cells.toList.length), ?_, by simp; omega, splice_lies hl (by simp; omega) (by omega), spl_one h1c hone⟩
    unfold splL
    rw [e1]
    exact ((hr.take j).append hcr).append (hr.drop _)
   ·simp only [if_neg hmi]
    obtain ⟨us, a, b, c', d'⟩ := hel m hm
    refine ⟨us, a, b, splice_other (n := p.sz) c' (by simp; omega) hin ?_, d'⟩
    rw [b]
    rcases Nat.lt_or_gt_of_ne hmi with h4 | h4
    ·left
     have : (m + 1) * p.sz ≤ i * p.sz := Nat.mul_le_mul_right _ (by omega)
     rw [Nat.add_mul, Nat.one_mul] at this
     omega
    ·right
     have : (i + 1) * p.sz ≤ m * p.sz := Nat.mul_le_mul_right _ (by omega)
     rw [Nat.add_mul, Nat.one_mul] at this
     omega
end Go.Cn
