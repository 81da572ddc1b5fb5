import Derived.Test.YtddgjfclpknkcaaGreatDoorCnMb
namespace Go.Cn
open Go
variable {P : Program}
theorem Delta.newAbs {μ : Emb} {w : World} {pre : Pre} {m new : Nat} {p q : Pl} {om o : LO} {x : Obj} (hp : PreOK μ pre w) (hm : (m, om) ∈ pre) (hw : om.wr = true) (hq : μ m = some q) (hn : μ new = none) (hpb : p.rb = w.heap.size)
  (hok : ObjOK (μ.set new p) p (some x) o) (hx : XOK (μ.set new p) (w.alloc x) p o) (hxt : ∀ b, Xtra (μ.set new p) (w.alloc x) p o b → b = q.rb) : Delta μ w pre [(m, none), (new, some o)] (μ.set new p) (w.alloc x) :=
 have hlt : q.rb < w.heap.size := (hp.placed hm hq).lt
 have one : ∀ {e r}, (e, some r) ∈ ([(m, none), (new, some o)] : Upd) → e = new ∧ r = o := fun h => by simpa using h
 have tq : Tch μ w pre [(m, none), (new, some o)] q.rb := ⟨m, om, q, hm, hw, by simp [Upd.has], hq, .inl rfl⟩
 {ext := Emb.ext_set hn
  dom := fun d r hr => by
   rw [Emb.set_at] at hr
   split at hr
   ·rename_i e; subst e; exact .inr ⟨by simp [Upd.has], hn⟩
   ·exact .inl hr
  os := rfl
  tape := rfl
  output := rfl
  draws := fun _ => Nat.le_refl _
  grow := by simp
  keep := fun b hb _ => by show (w.heap.push x)[b]? = _; rw [Array.getElem?_push, if_neg (by omega)]
  obj := fun e r h => by
   obtain ⟨rfl, rfl⟩ := one h
   refine .inr ⟨p, Emb.set_self, ?_⟩
   have : (w.alloc x).heap[p.rb]? = some x := by show (w.heap.push x)[p.rb]? = _; rw [hpb]; simp
   rw [this]; exact hok
  place := fun e r s h hs => by
   obtain ⟨rfl, rfl⟩ := one h
   rw [Emb.set_self] at hs; obtain rfl := Option.some.inj hs
   exact .inl (by omega)
  sep := fun e r e' r' s s' h h' hne => absurd ((one h).1.trans (one h').1.symm) hne
  frn := fun _ _ h => .inl h
  frs := fun hf e r s h _ hs => by
   obtain ⟨rfl, rfl⟩ := one h
   rw [Emb.set_self] at hs; obtain rfl := Option.some.inj hs
   cases h : (μ.set e p).fro p.rb with
   | none => rfl
   | some cs => have := hf.1 _ _ h; omega
  xok := fun e r s h hs => by
   obtain ⟨rfl, rfl⟩ := one h
   rw [Emb.set_self] at hs; obtain rfl := Option.some.inj hs
   exact hx
  xplace := fun e r s b h hs hxb => by
   obtain ⟨rfl, rfl⟩ := one h
   rw [Emb.set_self] at hs; obtain rfl := Option.some.inj hs
   rw [hxt b hxb]; exact .inr tq
  xsep := fun e r s b e' r' s' h hs hxb h' hs' => by
   obtain ⟨rfl, rfl⟩ := one h
   obtain ⟨rfl, rfl⟩ := one h'
   rw [Emb.set_self] at hs hs'; obtain rfl := Option.some.inj hs; obtain rfl := Option.some.inj hs'
   exact ⟨by rw [hxt b hxb]; omega, fun hne => absurd rfl hne⟩
  xfrs := fun hf e r s b h hs hxb => by
   obtain ⟨rfl, rfl⟩ := one h
   rw [Emb.set_self] at hs; obtain rfl := Option.some.inj hs
   rw [hxt b hxb]; exact hf.2.1 m om q hm hw hq }
def eRangeM (P : Program) (H : Heap) (new : Nat) (t : TypeId) : LV → Option Eff
 | .map m =>
  match tDesc P t, H.at m with
  | some (.map _ _), some (.map ag ks es) => some ⟨True, .ptr new 0 0, [m], [(m, none), (new, some (.mit m ag ks es none es))]⟩
  | _, _ => none
 | _ => none
theorem eRangeM_ok {H : Heap} {new : Nat} {t : TypeId} {x : LV} {vx : Value} {e : Eff} {μ : Emb} {w : World} (h : eRangeM P H new t x = some e) (hx : Rel μ x vx) (hp : PreOK μ (H.pre e.foot) w) (hn : μ new = none) :
  RunsX P (Instr.range t vx) μ w (H.pre e.foot) e.up e.v := by
 unfold eRangeM at h
 split at h <;> try cases h
 rename_i m
 split at h <;> cases h
 rename_i kt vt ag ks es hd hm
 obtain ⟨q, hq, rfl⟩ := hx
 have hmm : (m, LO.map ag ks es) ∈ H.pre [m] := Heap.mem_pre.2 ⟨by simp, hm⟩
 have hok := hp.placed hmm hq
 have hlt := hok.lt
 obtain ⟨⟨en, cl, hb, h2, h3, h4⟩, h5⟩ := hok
 have hne : new ≠ m := fun e => by subst e; rw [hn] at hq; cases hq
 have hqs : (μ.set new ⟨w.heap.size, 0, 0, 0⟩) m = some q := by rw [Emb.set_at, if_neg (fun e => hne e.symm)]; exact hq
 refine ⟨.pointer (some ⟨w.heap.size, 0, none⟩), w.alloc (.mapIter (some q.rb) cl #[] cl), μ.set new ⟨w.heap.size, 0, 0, 0⟩, ?_, ⟨_, Emb.set_self, rfl⟩, ?_⟩
 ·have hg : (getObj q.rb).run P w = .ok (.map en cl) w := by simp [getObj, Sem.run, hb]
  simp only [Instr.range, Sem.run_bind, run_under hd, Result.andThen_ok, hg, Sem.run_pure, run_newObj, World.alloc_eq]
 ·have hold : (w.alloc (.mapIter (some q.rb) cl #[] cl)).heap[q.rb]? = some (.map en cl) := by
   show (w.heap.push _)[q.rb]? = _; rw [Array.getElem?_push, if_neg (by omega)]; exact hb
  refine Delta.newAbs (q := q) hp hmm rfl hq hn rfl ⟨rfl, q, cl, #[], cl, hqs, rfl⟩ ⟨q, cl, #[], cl, en, cl, en.toList, hqs, ?_, hold, ?_, h3, h4, h5, h4, rfl, ?_, ?_, fun x hx => by cases hx⟩ ?_
  ·show (w.heap.push _)[w.heap.size]? = _; simp
  ·exact h2.mono fun a b ⟨x, y⟩ => ⟨x, y⟩
  ·rw [List.filter_eq_self.2 (fun _ _ => by simp)]
  ·exact h2.mono fun a b ⟨x, y⟩ => ⟨x, y⟩
  ·rintro b ⟨q', h, rfl⟩
   rw [hqs] at h; rw [Option.some.inj h]
def eEntry (H : Heap) : LV → Option Eff
 | .ptr d 0 0 =>
  match H.at d with
  | some (.mit _ _ _ _ (some (k, v)) _) => some ⟨True, .tup [k, v], [d], []⟩
  | _ => none
 | _ => none
theorem eEntry_ok {H : Heap} {x : LV} {vx : Value} {e : Eff} {μ : Emb} {w : World} (h : eEntry H x = some e) (hx : Rel μ x vx) (hp : PreOK μ (H.pre e.foot) w) : RunsX P (Instr.entry vx) μ w (H.pre e.foot) e.up e.v := by
 unfold eEntry at h
 split at h <;> try cases h
 rename_i d
 split at h <;> cases h
 rename_i c ag ks es k v rest hd
 obtain ⟨p, hpc, rfl⟩ := hx
 have hmm : (d, LO.mit c ag ks es (some (k, v)) rest) ∈ H.pre [d] := Heap.mem_pre.2 ⟨by simp, hd⟩
 obtain ⟨hoff, _⟩ := hp.placed hmm hpc
 obtain ⟨q, si, se, st, en, cl, RS, k1, k2, k3, k4, k5, k6, k7, k8, k9, k10, k11, k12⟩ := hp.xok _ _ p hmm hpc
 obtain ⟨s, m, g1, g2, g3, g4⟩ := k12 _ rfl
 subst k9
 refine ⟨.tuple #[m.key, m.val], w, μ, ?_, ⟨_, rfl, m.key, _, rfl, g3.rel, m.val, _, rfl, g4.rel, rfl⟩, Delta.refl μ w _⟩
 have e0 : p.addr 0 0 = ⟨p.rb, 0, none⟩ := by simp [Pl.addr, hoff]
 have hg1 : (getObj p.rb).run P w = .ok (.mapIter (some q.rb) si se cl) w := by simp [getObj, Sem.run, k2]
 have hg2 : (getObj q.rb).run P w = .ok (.map en cl) w := by simp [getObj, Sem.run, k3]
 rw [e0]
 simp [Instr.entry, hg1, hg2, g1, g2]
theorem XOK.drew {μ : Emb} {w : World} {p : Pl} {o : LO} : XOK μ w.drew p o ↔ XOK μ w p o := by cases o <;> exact Iff.rfl
theorem Xtra.drew {μ : Emb} {w : World} {p : Pl} {o : LO} {b : Nat} : Xtra μ w.drew p o b ↔ Xtra μ w p o b := by cases o <;> exact Iff.rfl
theorem PreOK.drew {μ : Emb} {pre : Pre} {w : World} (h : PreOK μ pre w) : PreOK μ pre w.drew :=
 ⟨h.obj', h.sep, h.fro, h.frs, h.tab, fun c o p a b => XOK.drew.2 (h.xok c o p a b), fun c o p b c' o' p' h1 h2 h3 h4 h5 => by
  have := h.xsep c o p b c' o' p' h1 h2 (Xtra.drew.1 h3) h4 h5
  exact ⟨this.1, fun hne hx => this.2 hne (Xtra.drew.1 hx)⟩, fun c o p b h1 h2 h3 => h.xfrs c o p b h1 h2 (Xtra.drew.1 h3)⟩
theorem Tch.drew {μ : Emb} {w : World} {pre : Pre} {up : Upd} {b : Nat} (h : Tch μ w.drew pre up b) : Tch μ w pre up b := by
 obtain ⟨c, o, p, h1, h2, h3, h4, h5⟩ := h
 exact ⟨c, o, p, h1, h2, h3, h4, h5.imp id Xtra.drew.1⟩
theorem FroOK.drew {μ : Emb} {pre : Pre} {w : World} (h : FroOK μ pre w) : FroOK μ pre w.drew := ⟨h.1, h.2.1, fun c o p b h1 h2 h3 => h.2.2 c o p b h1 h2 (Xtra.drew.1 h3)⟩
theorem Delta.fromDrew {μ μ' : Emb} {w w' : World} {pre : Pre} {up : Upd} (d : Delta μ w.drew pre up μ' w') : Delta μ w pre up μ' w' :=
 {ext := d.ext, dom := d.dom, os := d.os, tape := d.tape, output := d.output, draws := fun h => Nat.le_trans (Nat.le_succ _) (d.draws h), grow := d.grow,
  keep := fun b hb hk => d.keep b hb (fun t => hk t.drew)
  obj := d.obj
  place := fun c o p h1 h2 => (d.place c o p h1 h2).imp id Tch.drew
  sep := d.sep
  frn := fun b cs hb => (d.frn b cs hb).imp id fun ⟨h1, h2⟩ => ⟨h1, h2.imp id Tch.drew⟩
  frs := fun hf => d.frs hf.drew
  xok := d.xok
  xplace := fun c o p b h1 h2 h3 => (d.xplace c o p b h1 h2 h3).imp id Tch.drew
  xsep := d.xsep
  xfrs := fun hf => d.xfrs hf.drew }
theorem born_perm : ∀ {L : List MapEntry} {e : MapEntry}, (L.map (·.born)).Nodup → e ∈ L → L.Perm (e :: L.filter fun x => x.born != e.born)
 | [], e, _, h => by cases h
 | a :: L, e, hn, h => by
  rw [List.map_cons, List.nodup_cons] at hn
  rcases List.mem_cons.1 h with rfl | h
  ·rw [List.filter_cons_of_neg (by simp), List.filter_eq_self.2]
   intro x hx
   have : x.born ≠ e.born := fun hb => hn.1 (List.mem_map.2 ⟨x, hx, hb⟩)
   simpa using this
  ·have hb : a.born ≠ e.born := fun hb => hn.1 (List.mem_map.2 ⟨e, h, hb.symm⟩)
   rw [List.filter_cons_of_pos (by simpa using hb)]
   exact ((born_perm hn.2 h).cons a).trans (List.Perm.swap _ _ _)
theorem born_find : ∀ {L : List MapEntry} {e : MapEntry}, (L.map (·.born)).Nodup → e ∈ L → L.find? (fun x => x.born == e.born) = some e
 | [], e, _, h => by cases h
 | a :: L, e, hn, h => by
  rw [List.map_cons, List.nodup_cons] at hn
  rcases List.mem_cons.1 h with rfl | h
  ·rw [List.find?_cons_of_pos (by simp)]
  ·have hb : a.born ≠ e.born := fun hb => hn.1 (List.mem_map.2 ⟨e, h, hb.symm⟩)
   rw [List.find?_cons_of_neg (by simpa using hb)]
   exact born_find hn.2 h
theorem F2.erase {α β : Type} {R : α → β → Prop} {l : List α} {m : List β} (h : F2 R l m) : ∀ i, F2 R (l.eraseIdx i) (m.eraseIdx i) := by
 induction h with
 | nil => intro i; exact .nil
 | cons x r ih =>
  intro i
  cases i with
  | zero => exact r
  | succ i => exact .cons x (ih i)
theorem erase_perm {α : Type} : ∀ {l : List α} {i : Nat} {x : α}, l[i]? = some x → l.Perm (x :: l.eraseIdx i)
 | [], i, x, h => by simp at h
 | a :: l, 0, x, h => by simp at h; subst h; exact List.Perm.refl _
 | a :: l, i + 1, x, h => by
  have := erase_perm (l := l) (i := i) (by simpa using h)
  exact (this.cons a).trans (List.Perm.swap _ _ _)
theorem next_mit {μ : Emb} {w : World} {pre : Pre} {d c : Nat} {ag : Bool} {ks : List CK} {es : List (LV × LV)} {cur : Option (LV × LV)} {rest : List (LV × LV)} {vx : Value} {ty : TypeId}
  (hp : PreOK μ pre w) (hm : (d, LO.mit c ag ks es cur rest) ∈ pre) (hx : Rel μ (.ptr d 0 0) vx) :
  (rest = [] ∧ (Instr.next vx false ty).run P w = .ok (.tuple #[.bool false]) w) ∨
  ∃ i k v x w', rest[i]? = some (k, v) ∧ (Instr.next vx false ty).run P w = .ok x w' ∧ Rel μ (.tup [.bool true, k, v]) x ∧ Delta μ w pre [(d, some (.mit c ag ks es (some (k, v)) (rest.eraseIdx i)))] μ w' := by
 obtain ⟨p, hpc, rfl⟩ := hx
 obtain ⟨hoff, _⟩ := hp.placed hm hpc
 obtain ⟨q, si, se, st, en, cl, RS, k1, k2, k3, k4, k5, k6, k7, k8, k9, k10, k11, k12⟩ := hp.xok _ _ p hm hpc
 subst k9
 have e0 : p.addr 0 0 = ⟨p.rb, 0, none⟩ := by simp [Pl.addr, hoff]
 have hg1 : (getObj p.rb).run P w = .ok (.mapIter (some q.rb) si se cl) w := by simp [getObj, Sem.run, k2]
 have hg2 : (getObj q.rb).run P w = .ok (.map en cl) w := by simp [getObj, Sem.run, k3]
 have hun : (!se.isEmpty && !en.isEmpty && en.all fun x => decide (x.born ≥ cl)) = false := by
  cases hen : en.isEmpty with
  | true => simp
  | false =>
   simp only [Bool.not_false, Bool.and_true, Bool.and_eq_false_iff]
   right
   have hne : 0 < en.size := by
    rcases Nat.eq_zero_or_pos en.size with h | h
    ·rw [Array.isEmpty, h] at hen; simp at hen
    ·exact h
   rw [Bool.eq_false_iff]
   intro hall
   have := Array.all_eq_true.1 hall 0 hne
   have hlt := k6 en[0] (by simp)
   simp at this
   omega
 have hnew : ((en.filter fun e => !se.contains e.born).filter fun x => decide (x.born ≥ si)) = #[] := by
  rw [Array.filter_eq_empty_iff]
  intro e he
  have hm := k8 e (Array.mem_toList_iff.2 (Array.mem_filter.1 he).1)
  simp; omega
 have hold : ((en.filter fun e => !se.contains e.born).filter fun x => decide (x.born < si)) = en.filter fun e => !se.contains e.born := by
  rw [Array.filter_eq_self]
  intro e he
  have hm := k8 e (Array.mem_toList_iff.2 (Array.mem_filter.1 he).1)
  simpa using hm
 have hL : (en.filter fun e => !se.contains e.born).toList = en.toList.filter fun e => !se.contains e.born := by simp
 generalize hA : (en.filter fun e => !se.contains e.born) = A at hnew hold hL
 have head : (Instr.next (.pointer (some (p.addr 0 0))) false ty).run P w = ((do
   match ((if A.isEmpty then #[none] else #[]) ++ (A ++ #[]).map some)[← choose (.mapNext ((if A.isEmpty then #[none] else #[]) ++ (A ++ #[]).map some).size)]? with
   | some (some e) =>
    setObj p.rb (.mapIter (some q.rb) si (se.push e.born) cl)
    pure (.tuple #[.bool true, e.key, e.val])
   | some none => pure (.tuple #[.bool false])
   | none => stuck "Next: no such candidate" : Sem Value)).run P w := by
  rw [e0]
  simp only [Instr.next, Sem.run_bind, hg1, Result.andThen_ok, hg2, hun, Bool.false_eq_true, if_false, Sem.run_pure, hA, hold, hnew]
  congr 1
 have hnd : (A.toList.map (·.born)).Nodup := by rw [hL]; exact (List.Sublist.map _ List.filter_sublist).nodup k5
 by_cases hA0 : A = #[]
 ·left
  subst hA0
  have hR : RS = [] := by
   have : RS.Perm [] := by rw [← hL] at k10; exact k10
   exact List.Perm.eq_nil this
  have hr : rest = [] := by subst hR; cases k11; rfl
  refine ⟨hr, ?_⟩
  rw [head]
  simp [run_choose, Question.forced]
 ·right
  have hAe : A.isEmpty = false := by simpa [Array.isEmpty_iff] using hA0
  have hsz : 0 < A.size := Nat.pos_of_ne_zero (fun h => hA0 (Array.eq_empty_of_size_eq_zero h))
  have hcand : ((if A.isEmpty then #[none] else #[]) ++ (A ++ #[]).map some) = A.map some := by simp [hAe]
  rw [hcand] at head
  obtain ⟨k, w1, hk, hch, hw1⟩ : ∃ k w1, k < A.size ∧ (choose (.mapNext (A.map some).size)).run P w = .ok k w1 ∧ (w1 = w ∨ w1 = w.drew) := by
   rw [run_choose, Array.size_map]
   by_cases h1 : (Question.mapNext A.size).forced = true
   ·exact ⟨0, w, hsz, by rw [if_pos h1], .inl rfl⟩
   ·refine ⟨_, w.drew, ?_, by rw [if_neg h1]; rfl, .inr rfl⟩
    exact Nat.mod_lt _ hsz
  obtain ⟨e, he⟩ : ∃ e, A[k]? = some e := ⟨_, Array.getElem?_eq_getElem hk⟩
  have heA : e ∈ A.toList := by rw [← Array.getElem?_toList] at he; exact List.mem_of_getElem? he
  have heR : e ∈ RS := by rw [← hL] at k10; exact k10.mem_iff.2 heA
  have heE : e ∈ en.toList := by rw [hL] at heA; exact (List.mem_filter.1 heA).1
  obtain ⟨i, hi⟩ := List.mem_iff_getElem?.1 heR
  obtain ⟨x, hxr⟩ : ∃ x, rest[i]? = some x := by
   have := k11.len
   have hlt := (List.getElem?_eq_some_iff.1 hi).1
   exact ⟨_, List.getElem?_eq_getElem (by omega)⟩
  obtain ⟨kk, vv⟩ := x
  have hrel : EntRel μ (kk, vv) e := k11.get1 hxr hi
  have hh : w1.heap = w.heap := by rcases hw1 with rfl | rfl <;> rfl
  have hrun : (Instr.next (.pointer (some (p.addr 0 0))) false ty).run P w = .ok (.tuple #[.bool true, e.key, e.val]) (setB w1 p.rb (.mapIter (some q.rb) si (se.push e.born) cl)) := by
   have h2 : w1.heap[p.rb]? = some (.mapIter (some q.rb) si se cl) := by rw [hh]; exact k2
   have hset : ∀ o, (setObj p.rb o).run P w1 = .ok () (setB w1 p.rb o) := by intro o; simp [setObj, Sem.run, h2, setB]
   rw [head]
   simp only [Sem.run_bind, hch, Result.andThen_ok, Array.getElem?_map, he, Option.map_some, hset, Sem.run_pure]
  have hp1 : PreOK μ pre w1 := by rcases hw1 with rfl | rfl <;> first | exact hp | exact hp.drew
  have hqp : q.rb ≠ p.rb := fun e => (hp.xsep d _ p q.rb d _ p hm hpc ⟨q, k1, rfl⟩ hm hpc).1 e.symm
  have hplt : p.rb < w1.heap.size := by rw [hh]; exact (Array.getElem?_eq_some_iff.1 k2).1
  have hq2 : (setB w1 p.rb (.mapIter (some q.rb) si (se.push e.born) cl)).heap[q.rb]? = some (.map en cl) := by
   rw [setB_heap, if_neg (fun h => hqp h.1.symm), hh]; exact k3
  have hp2 : (setB w1 p.rb (.mapIter (some q.rb) si (se.push e.born) cl)).heap[p.rb]? = some (.mapIter (some q.rb) si (se.push e.born) cl) := by
   rw [setB_heap, if_pos ⟨rfl, hplt⟩]
  have hfil : (en.toList.filter fun x => !(se.push e.born).contains x.born) = (en.toList.filter fun x => !se.contains x.born).filter fun x => x.born != e.born := by
   rw [List.filter_filter]
   apply List.filter_congr
   intro x _
   simp [Bool.and_comm, bne, Bool.beq_eq_decide_eq]
  have d1 : Delta μ w1 pre [(d, some (.mit c ag ks es (some (kk, vv)) (rest.eraseIdx i)))] μ (setB w1 p.rb (.mapIter (some q.rb) si (se.push e.born) cl)) := by
   refine Delta.own1 hp1 hpc hm rfl ⟨hoff, q, si, se.push e.born, cl, k1, rfl⟩ ⟨q, si, se.push e.born, cl, en, cl, RS.eraseIdx i, k1, hp2, hq2, k4, k5, k6, k7, k8, rfl, ?_, k11.erase i, fun x hx => ?_⟩ fun b hb => hb
   ·rw [hfil, ← hL]
    rw [← hL] at k10
    exact List.Perm.cons_inv ((erase_perm hi).symm.trans (k10.trans (born_perm hnd heA)))
   ·cases hx
    refine ⟨e.born, e, by simp, ?_, hrel⟩
    rw [← Array.find?_toList]
    exact born_find k5 heE
  refine ⟨i, kk, vv, _, _, hxr, hrun, ⟨_, rfl, .bool true, _, rfl, rfl, e.key, _, rfl, hrel.1.rel, e.val, _, rfl, hrel.2.rel, rfl⟩, ?_⟩
  rcases hw1 with rfl | rfl
  ·exact d1
  ·exact d1.fromDrew
theorem Delta.ownX {μ : Emb} {w : World} {pre : Pre} {c b : Nat} {p : Pl} {o o' : LO} {x : Obj} (hp : PreOK μ pre w) (hc : μ c = some p) (hm : (c, o) ∈ pre) (hw : o.wr = true) (hb : Xtra μ w p o b)
  (hok : ObjOK μ p w.heap[p.rb]? o') (hx : XOK μ (setB w b x) p o') (hxt : ∀ b', Xtra μ (setB w b x) p o' b' → Xtra μ w p o b') : Delta μ w pre [(c, some o')] μ (setB w b x) :=
 have hpb : p.rb ≠ b := (hp.xsep _ o p b _ o p hm hc hb hm hc).1
 have one : ∀ {e r}, (e, some r) ∈ ([(c, some o')] : Upd) → e = c ∧ r = o' := fun h => by simpa using h
 have tb : Tch μ w pre [(c, some o')] b := ⟨c, o, p, hm, hw, by simp [Upd.has], hc, .inr hb⟩
 have tc : Tch μ w pre [(c, some o')] p.rb := ⟨c, o, p, hm, hw, by simp [Upd.has], hc, .inl rfl⟩
 {ext := Ext.refl μ
  dom := fun _ _ h => .inl h
  os := rfl
  tape := rfl
  output := rfl
  draws := fun _ => Nat.le_refl _
  grow := by rw [setB_size]; exact Nat.le_refl _
  keep := fun b' hb' hk => by
   rw [setB_heap, if_neg]
   rintro ⟨e, _⟩
   exact hk (e ▸ tb)
  obj := fun e r h => by
   obtain ⟨rfl, rfl⟩ := one h
   exact .inr ⟨p, hc, by rw [setB_heap, if_neg (fun e => hpb e.1.symm)]; exact hok⟩
  place := fun e r q h hq => by
   obtain ⟨rfl, rfl⟩ := one h
   rw [hc] at hq; obtain rfl := Option.some.inj hq
   exact .inr tc
  sep := fun e r e' r' q q' h h' hne => absurd ((one h).1.trans (one h').1.symm) hne
  frn := fun _ _ h => .inl h
  frs := fun hf e r q h _ hq => by
   obtain ⟨rfl, rfl⟩ := one h
   rw [hc] at hq; obtain rfl := Option.some.inj hq
   exact hf.2.1 _ o p hm hw hc
  xok := fun e r q h hq => by
   obtain ⟨rfl, rfl⟩ := one h
   rw [hc] at hq; obtain rfl := Option.some.inj hq
   exact hx
  xplace := fun e r q b' h hq hxb => by
   obtain ⟨rfl, rfl⟩ := one h
   rw [hc] at hq; obtain rfl := Option.some.inj hq
   exact .inr ⟨_, o, p, hm, hw, by simp [Upd.has], hc, .inr (hxt b' hxb)⟩
  xsep := fun e r q b' e' r' q' h hq hxb h' hq' => by
   obtain ⟨rfl, rfl⟩ := one h
   obtain ⟨rfl, rfl⟩ := one h'
   rw [hc] at hq hq'; obtain rfl := Option.some.inj hq; obtain rfl := Option.some.inj hq'
   exact ⟨(hp.xsep _ o p b' _ o p hm hc (hxt b' hxb) hm hc).1, fun hne => absurd rfl hne⟩
  xfrs := fun hf e r q b' h hq hxb => by
   obtain ⟨rfl, rfl⟩ := one h
   rw [hc] at hq; obtain rfl := Option.some.inj hq
   exact hf.2.2 _ o p b' hm hc (hxt b' hxb) }
theorem fits_inj {μ : Emb} : ∀ {ks : List CK} {cs ds : List LV} {vs : List Value}, fitsL ks cs = true → fitsL ks ds = true → RelL μ cs vs → RelL μ ds vs → cs = ds
 | [], [], [], _, _, _, _, _ => rfl
 | k :: ks, c :: cs, e :: ds, vs, h1, h2, ⟨v, r, e1, rv, rr⟩, ⟨u, r', e2, ru, rr'⟩ => by
  subst e1
  cases e2
  simp only [fitsL, Bool.and_eq_true] at h1 h2
  have h3 := fits_inj h1.2 h2.2 rr rr'
  have h4 : c = e := by
   have a := h1.1; have b := h2.1
   cases k <;> cases c <;> simp only [fitsC, Bool.false_eq_true, and_false, false_and, decide_eq_true_eq] at a <;> cases e <;> simp only [fitsC, Bool.false_eq_true, and_false, false_and, decide_eq_true_eq] at b <;> simp only [Rel] at rv ru <;> rw [rv] at ru <;> simp_all
  rw [h3, h4]
 | [], _ :: _, _, _, h, _, _, _ => by simp [fitsL] at h
 | [], [], _ :: _, _, _, h, _, _ => by simp [fitsL] at h
 | _ :: _, [], _, _, h, _, _, _ => by simp [fitsL] at h
 | _ :: _, _ :: _, [], _, _, h, _, _ => by simp [fitsL] at h
theorem key_inj {μ : Emb} {ag : Bool} {ks : List CK} {x y : LV} {v : Value} (hx : keyOK ag ks x = true) (hy : keyOK ag ks y = true) (rx : Rel μ x v) (ry : Rel μ y v) : x = y := by
 rcases keyOK_cells hx with ⟨ha, cs, rfl, hc⟩ | ⟨ha, hne, hc⟩ <;> rcases keyOK_cells hy with ⟨hb, ds, rfl, hd⟩ | ⟨hb, hne', hd⟩
 ·obtain ⟨vs, rfl, r1⟩ := rx
  obtain ⟨us, e, r2⟩ := ry
  cases e
  rw [fits_inj hc hd r1 r2]
 ·rw [ha] at hb; cases hb
 ·rw [ha] at hb; cases hb
 ·exact (List.cons.inj (fits_inj (vs := [v]) hc hd ⟨v, [], rfl, rx, rfl⟩ ⟨v, [], rfl, ry, rfl⟩)).1
def eDelMit (P : Program) (H : Heap) (t : TypeId) (d : Nat) (m k : LV) : Option Eff :=
 match tDesc P t, m with
 | some (.map kt _), .map c =>
  match kShape P kt, H.at d with
  | some (ag, ks), some (.mit c' ag' ks' es _ rest) => if ag = ag' ∧ ks = ks' ∧ c = c' then some ⟨keyOK ag ks k = true ∧ ∀ e ∈ rest, keyOK ag ks e.1 = true ∧ eqK k e.1 = false, .tup [], [d], [(d, some (.mit c ag ks (delE k es) none rest))]⟩ else none
  | _, _ => none
 | _, _ => none
theorem eDelMit_ok {H : Heap} {t ty : TypeId} {d : Nat} {ats : Array TypeId} {m k : LV} {vm vk : Value} {e : Eff} {μ : Emb} {w : World} (h : eDelMit P H t d m k = some e) (hat : ats[0]? = some t) (hob : e.ob) (hm : Rel μ m vm) (hk : Rel μ k vk)
  (hp : PreOK μ (H.pre e.foot) w) : RunsX P (Builtin.delete_ ats ty #[vm, vk]) μ w (H.pre e.foot) e.up e.v := by
 unfold eDelMit at h
 split at h <;> try cases h
 rename_i kt el c hd
 split at h <;> try cases h
 rename_i ag ks c' ag' ks' es cur rest hsh ho
 split at h <;> cases h
 rename_i hc
 obtain ⟨rfl, rfl, rfl⟩ := hc
 obtain ⟨h1, h2⟩ := hob
 obtain ⟨q0, hq0, rfl⟩ := hm
 have hmm : (d, LO.mit c ag ks es cur rest) ∈ H.pre [d] := Heap.mem_pre.2 ⟨by simp, ho⟩
 obtain ⟨p, hpc⟩ : ∃ p, μ d = some p := by
  rcases hp.obj' _ _ hmm with ⟨_, h⟩ | ⟨p, h, _⟩
  ·exact h.elim
  ·exact ⟨p, h⟩
 obtain ⟨hoff, q1, si1, se1, st1, hq1, hit⟩ := hp.placed hmm hpc
 obtain ⟨q, si, se, st, en, cl, RS, k1, k2, k3, k4, k5, k6, k7, k8, k9, k10, k11, k12⟩ := hp.xok _ _ p hmm hpc
 rw [k1] at hq0; obtain rfl := Option.some.inj hq0
 have hxb : Xtra μ w p (.mit c ag ks es cur rest) q.rb := ⟨q, k1, rfl⟩
 have hpb : p.rb ≠ q.rb := (hp.xsep _ _ p _ _ _ p hmm hpc hxb hmm hpc).1
 have hlt : q.rb < w.heap.size := (Array.getElem?_eq_some_iff.1 k3).1
 have hck := (run_equal_shape (w := w) hsh h1 h1 hk hk).2
 have hg : (getObj q.rb).run P w = .ok (.map en cl) w := by simp [getObj, Sem.run, k3]
 have hset : ∀ o, (setObj q.rb o).run P w = .ok () (setB w q.rb o) := by intro o; simp [setObj, Sem.run, k3, setB]
 have hf := findKey_ok (w := w) hsh h1 hk k4 k7
 have fin : ∀ (en2 : Array MapEntry) (es2 : List (LV × LV)), F2 (EntRel μ) es2 en2.toList → (∀ x ∈ es2, x ∈ es) → en2.toList.Sublist en.toList → (en2.toList.filter fun e => !se.contains e.born) = (en.toList.filter fun e => !se.contains e.born) →
   Delta μ w (H.pre [d]) [(d, some (.mit c ag ks es2 none rest))] μ (setB w q.rb (.map en2 cl)) := by
  intro en2 es2 g1 g2 g3 g4
  refine Delta.ownX hp hpc hmm rfl hxb ⟨hoff, q1, si1, se1, st1, hq1, hit⟩ ⟨q, si, se, st, en2, cl, RS, k1, ?_, ?_, g1, (g3.map _).nodup k5, fun x hx => k6 x (g3.subset hx), fun x hx => k7 x (g2 x hx), fun x hx => k8 x (g3.subset hx), k9, by rw [g4]; exact k10, k11, fun x hx => by cases hx⟩ fun b hb => hb
  ·rw [setB_heap, if_neg (fun e => hpb e.1.symm)]; exact k2
  ·rw [setB_heap, if_pos ⟨rfl, hlt⟩]
 cases ha : atE k es with
 | none =>
  rw [ha] at hf
  simp only [Option.bind_none] at hf
  refine ⟨.tuple #[], setB w q.rb (.map en cl), μ, ?_, ⟨_, rfl, rfl⟩, ?_⟩
  ·simp [Builtin.delete_, hat, run_under hd, hck, hg, hf, hset]
  ·rw [delE_at, ha]; exact fin en es k4 (fun _ h => h) (List.Sublist.refl _) rfl
 | some j =>
  obtain ⟨hjlt, x, hx, hxe⟩ := atE_lt ha
  obtain ⟨b, hb, hab⟩ := k4.get j x hx
  rw [ha] at hf
  simp only [Option.bind_some, hb, Option.map_some] at hf
  have her : (en.eraseIdxIfInBounds j).toList = en.toList.eraseIdx j := by
   have hl : j < en.size := by have := (List.getElem?_eq_some_iff.1 hb).1; simpa using this
   simp [Array.eraseIdxIfInBounds, hl]
  have hseen : se.contains b.born = true := by
   cases hs : se.contains b.born with
   | true => rfl
   | false =>
    exfalso
    have hbm : b ∈ RS := k10.mem_iff.2 (List.mem_filter.2 ⟨List.mem_of_getElem? hb, by simp only [Bool.not_eq_true']; exact hs⟩)
    obtain ⟨i, hi⟩ := List.mem_iff_getElem?.1 hbm
    obtain ⟨y, hy⟩ : ∃ y, rest[i]? = some y := by
     have := k11.len; have := (List.getElem?_eq_some_iff.1 hi).1
     exact ⟨_, List.getElem?_eq_getElem (by omega)⟩
    have hyr := k11.get1 hy hi
    obtain ⟨g1, g2⟩ := h2 y (List.mem_of_getElem? hy)
    have e1 : k = x.1 := eqK_eq h1 (k7 x (List.mem_of_getElem? hx)) hxe
    have e2 : x.1 = y.1 := key_inj (μ := μ) (k7 x (List.mem_of_getElem? hx)) g1 hab.1.rel hyr.1.rel
    rw [← e2, ← e1, eqK_self h1] at g2
    cases g2
  refine ⟨.tuple #[], setB w q.rb (.map (en.eraseIdxIfInBounds j) cl), μ, ?_, ⟨_, rfl, rfl⟩, ?_⟩
  ·simp [Builtin.delete_, hat, run_under hd, hck, hg, hf, hset]
  ·rw [delE_at, ha]
   refine fin _ (es.eraseIdx j) (by rw [her]; exact k4.erase j) (fun x hx => (List.eraseIdx_sublist _ _).subset hx) (by rw [her]; exact List.eraseIdx_sublist _ _) ?_
   rw [her]
   have : ∀ (l : List MapEntry) (j : Nat), l[j]? = some b → (l.eraseIdx j).filter (fun e => !se.contains e.born) = l.filter (fun e => !se.contains e.born) := by
    intro l
    induction l with
    | nil => intro j h; simp at h
    | cons a l ih =>
     intro j h
     cases j with
     | zero =>
      simp at h; subst h
      rw [List.eraseIdx_cons_zero, List.filter_cons, if_neg (by rw [hseen]; decide)]
     | succ j =>
      rw [List.eraseIdx_cons_succ, List.filter_cons, List.filter_cons, ih j (by simpa using h)]
   exact this _ j hb
inductive XTok where
 | vwn (c n : Nat) (ag : Bool) (ks : List CK)
 | vwo (c i : Nat) (es : List (LV × LV))
 | vwc (c : Nat)
 | vww (c : Nat) (W : Nat → Option (List (LV × LV)))
 | mitz (d : Nat)
 | mitn (d : Nat)
 | p (t : PTok)
def xst (new : Nat) (H : Heap) : XTok → Option (Prop × List Nat × Upd)
 | .vwn c n ag ks =>
  match H.at c with
  | some (.var cs) => some (n ≤ cs.length ∧ cs.drop (cs.length - n) = List.replicate n .nilmap, [c], [(c, some (.vw (cs.take (cs.length - n)) ag ks n (fun _ => none) []))])
  | _ => none
 | .vwo c i es =>
  match H.at c with
  | some (.vw cs ag ks n W []) => some (i < n ∧ W i = some es, [c], [(c, some (.vw cs ag ks n W [(i, new)])), (new, some (.map ag ks es))])
  | _ => none
 | .vwc c =>
  match H.at c with
  | some (.vw cs ag ks n W [(i, s)]) =>
   match H.at s with
   | some (.map ag' ks' es) => some (i < n ∧ ag' = ag ∧ ks' = ks ∧ c ≠ s, [c, s], [(c, some (.vw cs ag ks n (fun m => if m = i then some es else W m) [])), (s, none)])
   | _ => none
  | _ => none
 | .vww c W' =>
  match H.at c with
  | some (.vw cs ag ks n W opn) => some (∀ i, i < n → W i = W' i, [c], [(c, some (.vw cs ag ks n W' opn))])
  | _ => none
 | .mitz d =>
  match H.at d with
  | some (.mit c ag ks es _ _) => some (c ≠ d, [d], [(d, none), (c, some (.map ag ks es))])
  | _ => none
 | .mitn d =>
  match H.at d with
  | some (.mit c ag ks es _ rest) => some (True, [d], [(d, some (.mit c ag ks es none rest))])
  | _ => none
 | .p t => pst new H t
theorem xst_ok {new : Nat} {H : Heap} {t : XTok} {q : Prop} {foot : List Nat} {up : Upd} {μ : Emb} {w : World} (h : xst new H t = some (q, foot, up)) (hq : q) (hp : PreOK μ (H.pre foot) w) (hn : μ new = none)
  (hv : ∀ c o, (c, o) ∈ H.pre foot → ¬ o.void → ∃ p, μ c = some p) : ∃ μ', Retold μ w (H.pre foot) up μ' := by
 cases t with
 | p t => exact pst_ok h hq hp hn hv
 | vwn c n ag ks =>
  dsimp only [xst] at h
  split at h <;> cases h
  rename_i cs ho
  obtain ⟨hn1, hn2⟩ := hq
  have hm : (c, LO.var cs) ∈ H.pre [c] := Heap.mem_pre.2 ⟨by simp, ho⟩
  obtain ⟨p, hpc⟩ := hv _ _ hm id
  obtain ⟨h1, h2, cells, E, fr, hb, h4, h5, vs, h6, h7, h8⟩ := hp.placed hm hpc
  have hvl := h6.length
  have hlen : (cs.take (cs.length - n)).length = cs.length - n := by simp
  have cell : ∀ i, i < n → cells[p.off + (cs.take (cs.length - n)).length + i]? = some (.map none) := by
   intro i hi
   rw [hlen]
   have hx : cs[cs.length - n + i]? = some .nilmap := by
    have : (cs.drop (cs.length - n))[i]? = some .nilmap := by rw [hn2, List.getElem?_replicate, if_pos hi]
    rwa [List.getElem?_drop] at this
   obtain ⟨v, hv1, hv2⟩ := h6.get hx
   have := h7 _ _ hv1
   simp only [Rel] at hv2
   rw [hv2] at this
   rw [Nat.add_assoc]; exact this
  have one : ∀ {e r}, (e, some r) ∈ ([(c, some (LO.vw (cs.take (cs.length - n)) ag ks n (fun _ => none) []))] : Upd) → e = c ∧ r = .vw (cs.take (cs.length - n)) ag ks n (fun _ => none) [] := fun h => by simpa using h
  have tc : Tch μ w (H.pre [c]) [(c, some (LO.vw (cs.take (cs.length - n)) ag ks n (fun _ => none) []))] p.rb := ⟨c, _, p, hm, rfl, by simp [Upd.has], hpc, .inl rfl⟩
  have nox : ∀ b, ¬ Xtra μ w p (.vw (cs.take (cs.length - n)) ag ks n (fun _ => none) []) b := by
   rintro b ⟨cells', E', fr', i, g1, g2, g3, _⟩
   rw [hb] at g1; cases g1
   rw [cell i g2] at g3; cases g3
  refine ⟨μ, Ext.refl μ, rfl, fun _ _ h => .inl h, fun e r h => ?_, fun e r e' r' p p' h h' hne => absurd ((one h).1.trans (one h').1.symm) hne, fun e r p' b e' r' p2 h hp' hx => ?_⟩
  ·obtain ⟨rfl, rfl⟩ := one h
   refine ⟨p, hpc, ⟨h1, by rw [hlen]; omega, cells, E, fr, hb, h4, h5, ⟨vs.take (cs.length - n), h6.take _, h7.take _, fun v hv => h8 v (List.mem_of_mem_take hv)⟩, fun i hi => ⟨none, cell i hi, fun s hs => by cases hs⟩⟩,
    ⟨cells, E, fr, hb, fun i hi => .inr (.inl ⟨rfl, cell i hi⟩), fun i j b hi hj g1 => by rw [cell i hi] at g1; cases g1⟩, tc, fun b hx => absurd hx (nox b)⟩
  ·obtain ⟨rfl, rfl⟩ := one h
   rw [hpc] at hp'; obtain rfl := Option.some.inj hp'
   exact absurd hx (nox b)
 | vwo c i es =>
  dsimp only [xst] at h
  split at h <;> cases h
  rename_i cs ag ks n W ho
  obtain ⟨hi, hW⟩ := hq
  have hm : (c, LO.vw cs ag ks n W []) ∈ H.pre [c] := Heap.mem_pre.2 ⟨by simp, ho⟩
  obtain ⟨p, hpc⟩ := hv _ _ hm id
  obtain ⟨h1, h2, cells, E, fr, hb, h4, h5, ⟨vs, h6, h7⟩, h8⟩ := hp.placed hm hpc
  obtain ⟨cells', E', fr', hb', hw, hinj⟩ := hp.xok _ _ p hm hpc
  rw [hb] at hb'; cases hb'
  obtain ⟨b, hcell, hmap⟩ : ∃ b, cells[p.off + cs.length + i]? = some (.map (some b)) ∧ MapOK μ w.heap[b]? ag ks es := by
   rcases hw i hi with ⟨s, hs⟩ | ⟨g1, _⟩ | ⟨b, es', g1, g2, g3⟩
   ·cases hs
   ·rw [hW] at g1; cases g1
   ·rw [hW] at g2; cases g2; exact ⟨b, g1, g3⟩
  have hxb : Xtra μ w p (.vw cs ag ks n W []) b := ⟨cells, E, fr, i, hb, hi, hcell, fun ⟨s, hs⟩ => by cases hs⟩
  have hcn : c ≠ new := fun e => by subst e; rw [hn] at hpc; cases hpc
  have hset : (μ.set new ⟨b, 0, 0, 0⟩) c = some p := by rw [Emb.set_at, if_neg hcn]; exact hpc
  have hset' : (μ.set new ⟨b, 0, 0, 0⟩) new = some ⟨b, 0, 0, 0⟩ := Emb.set_self
  have up2 : ∀ {e r}, (e, some r) ∈ ([(c, some (LO.vw cs ag ks n W [(i, new)])), (new, some (.map ag ks es))] : Upd) → (e = c ∧ r = .vw cs ag ks n W [(i, new)]) ∨ (e = new ∧ r = .map ag ks es) := fun h => by simpa using h
  have tx : ∀ b', Xtra μ w p (.vw cs ag ks n W []) b' → Tch μ w (H.pre [c]) [(c, some (LO.vw cs ag ks n W [(i, new)])), (new, some (.map ag ks es))] b' := fun b' hx => ⟨c, _, p, hm, rfl, by simp [Upd.has], hpc, .inr hx⟩
  have xold : ∀ b', Xtra (μ.set new ⟨b, 0, 0, 0⟩) w p (.vw cs ag ks n W [(i, new)]) b' → Xtra μ w p (.vw cs ag ks n W []) b' ∧ b' ≠ b := by
   rintro b' ⟨cells2, E2, fr2, k, g1, g2, g3, g4⟩
   rw [hb] at g1; cases g1
   refine ⟨⟨cells, E, fr, k, hb, g2, g3, fun ⟨s, hs⟩ => by cases hs⟩, fun e => g4 ?_⟩
   rw [e] at g3
   have := hinj k i b g2 hi g3 hcell
   subst this
   exact ⟨new, List.mem_singleton.2 rfl⟩
  have hpb : p.rb ≠ b := (hp.xsep c _ p b c _ p hm hpc hxb hm hpc).1
  refine ⟨μ.set new ⟨b, 0, 0, 0⟩, Emb.ext_set hn, rfl, fun d r hr => ?_, fun e r h => ?_, fun e r e' r' p1 p2 h h' hne hp1 hp2 => ?_, fun e r p1 b' e' r' p2 h hp1 hx h' hp2 => ?_⟩
  ·rw [Emb.set_at] at hr
   split at hr
   ·rename_i e; subst e; exact .inr ⟨by simp [Upd.has], hn⟩
   ·exact .inl hr
  ·rcases up2 h with ⟨rfl, rfl⟩ | ⟨rfl, rfl⟩
   ·refine ⟨p, hset, ⟨h1, h2, cells, E, fr, hb, h4, h5, ⟨vs, h6.mono (Emb.ext_set hn), h7⟩, fun k hk => ?_⟩, ⟨cells, E, fr, hb, fun k hk => ?_, hinj⟩, ⟨e, _, p, hm, rfl, by simp [Upd.has], hpc, .inl rfl⟩, fun b' hx => tx b' (xold b' hx).1⟩
    ·obtain ⟨ob, k1, k2⟩ := h8 k hk
     refine ⟨ob, k1, fun s hs => ?_⟩
     simp only [List.mem_singleton, Prod.mk.injEq] at hs
     obtain ⟨rfl, rfl⟩ := hs
     rw [hcell] at k1; cases k1
     exact ⟨_, hset', rfl⟩
    ·by_cases hki : k = i
     ·subst hki; exact .inl ⟨new, List.mem_singleton.2 rfl⟩
     ·rcases hw k hk with ⟨s, hs⟩ | g | ⟨b2, es2, g1, g2, g3⟩
      ·cases hs
      ·exact .inr (.inl g)
      ·exact .inr (.inr ⟨b2, es2, g1, g2, g3.mono (fun _ _ x => x)⟩)
   ·exact ⟨_, hset', hmap.mono (fun _ _ x => x), trivial, tx b hxb, fun b' hx => hx.elim⟩
  ·rcases up2 h with ⟨rfl, rfl⟩ | ⟨rfl, rfl⟩ <;> rcases up2 h' with ⟨rfl, rfl⟩ | ⟨rfl, rfl⟩
   ·exact absurd rfl hne
   ·rw [hset] at hp1; rw [hset'] at hp2; cases hp1; cases hp2; exact hpb
   ·rw [hset'] at hp1; rw [hset] at hp2; cases hp1; cases hp2; exact hpb.symm
   ·exact absurd rfl hne
  ·rcases up2 h with ⟨rfl, rfl⟩ | ⟨rfl, rfl⟩
   ·rw [hset] at hp1; cases hp1
    obtain ⟨x1, x2⟩ := xold b' hx
    rcases up2 h' with ⟨rfl, rfl⟩ | ⟨rfl, rfl⟩
    ·rw [hset] at hp2; cases hp2
     exact ⟨(hp.xsep _ _ p b' _ _ p hm hpc x1 hm hpc).1, fun hne => absurd rfl hne⟩
    ·rw [hset'] at hp2; cases hp2
     exact ⟨x2.symm, fun _ hx' => hx'.elim⟩
   ·exact hx.elim
 | vwc c =>
  dsimp only [xst] at h
  split at h <;> try cases h
  rename_i cs ag ks n W i s ho
  split at h <;> cases h
  rename_i ag' ks' es hs
  obtain ⟨hi, rfl, rfl, hcs⟩ := hq
  have hm : (c, LO.vw cs ag' ks' n W [(i, s)]) ∈ H.pre [c, s] := Heap.mem_pre.2 ⟨by simp, ho⟩
  have hms : (s, LO.map ag' ks' es) ∈ H.pre [c, s] := Heap.mem_pre.2 ⟨by simp, hs⟩
  obtain ⟨p, hpc⟩ := hv _ _ hm id
  obtain ⟨q, hqs⟩ := hv _ _ hms id
  obtain ⟨h1, h2, cells, E, fr, hb, h4, h5, hvs, h8⟩ := hp.placed hm hpc
  obtain ⟨cells', E', fr', hb', hw, hinj⟩ := hp.xok _ _ p hm hpc
  rw [hb] at hb'; cases hb'
  have hmap := hp.placed hms hqs
  have hcell : cells[p.off + cs.length + i]? = some (.map (some q.rb)) := by
   obtain ⟨ob, k1, k2⟩ := h8 i hi
   obtain ⟨q', g1, rfl⟩ := k2 s (List.mem_singleton.2 rfl)
   rw [hqs] at g1; cases g1
   exact k1
  have hne : p.rb ≠ q.rb := hp.sep _ _ _ _ p q hm hms hcs (.inl rfl) hpc hqs
  have out1 : ∀ k, Out [(i, s)] k ↔ k = i := fun k => ⟨fun ⟨s', hs'⟩ => by simp at hs'; exact hs'.1, fun e => ⟨s, by simp [e]⟩⟩
  have xnew : ∀ b, Xtra μ w p (.vw cs ag' ks' n (fun m => if m = i then some es else W m) []) b → b = q.rb ∨ Xtra μ w p (.vw cs ag' ks' n W [(i, s)]) b := by
   rintro b ⟨cells2, E2, fr2, k, g1, g2, g3, _⟩
   rw [hb] at g1; cases g1
   by_cases hki : k = i
   ·subst hki; rw [hcell] at g3; cases g3; exact .inl rfl
   ·exact .inr ⟨cells, E, fr, k, hb, g2, g3, fun h => hki ((out1 k).1 h)⟩
  have one : ∀ {e r}, (e, some r) ∈ ([(c, some (LO.vw cs ag' ks' n (fun m => if m = i then some es else W m) [])), (s, none)] : Upd) → e = c ∧ r = .vw cs ag' ks' n (fun m => if m = i then some es else W m) [] := fun h => by simpa using h
  refine ⟨μ, Ext.refl μ, rfl, fun _ _ h => .inl h, fun e r h => ?_, fun e r e' r' p p' h h' hne => absurd ((one h).1.trans (one h').1.symm) hne, fun e r p1 b e' r' p2 h hp1 hx h' hp2 => ?_⟩
  ·obtain ⟨rfl, rfl⟩ := one h
   refine ⟨p, hpc, ⟨h1, h2, cells, E, fr, hb, h4, h5, hvs, fun k hk => ?_⟩, ⟨cells, E, fr, hb, fun k hk => ?_, hinj⟩, ⟨e, _, p, hm, rfl, by simp [Upd.has], hpc, .inl rfl⟩, fun b hx => ?_⟩
   ·obtain ⟨ob, k1, _⟩ := h8 k hk
    exact ⟨ob, k1, fun s hs => by cases hs⟩
   ·by_cases hki : k = i
    ·subst hki; exact .inr (.inr ⟨q.rb, es, hcell, if_pos rfl, hmap⟩)
    ·rcases hw k hk with g | ⟨g1, g2⟩ | ⟨b2, es2, g1, g2, g3⟩
     ·exact absurd ((out1 k).1 g) hki
     ·exact .inr (.inl ⟨(if_neg hki).trans g1, g2⟩)
     ·exact .inr (.inr ⟨b2, es2, g1, (if_neg hki).trans g2, g3⟩)
   ·rcases xnew b hx with rfl | hx
    ·exact ⟨s, _, q, hms, rfl, by simp [Upd.has], hqs, .inl rfl⟩
    ·exact ⟨e, _, p, hm, rfl, by simp [Upd.has], hpc, .inr hx⟩
  ·obtain ⟨rfl, rfl⟩ := one h
   obtain ⟨rfl, rfl⟩ := one h'
   rw [hpc] at hp1 hp2; cases hp1; cases hp2
   refine ⟨?_, fun hne => absurd rfl hne⟩
   rcases xnew b hx with rfl | hx
   ·exact hne
   ·exact (hp.xsep _ _ p b _ _ p hm hpc hx hm hpc).1
 | vww c W' =>
  dsimp only [xst] at h
  split at h <;> cases h
  rename_i cs ag ks n W opn ho
  have hm : (c, LO.vw cs ag ks n W opn) ∈ H.pre [c] := Heap.mem_pre.2 ⟨by simp, ho⟩
  obtain ⟨p, hpc⟩ := hv _ _ hm id
  have hok := hp.placed hm hpc
  obtain ⟨cells, E, fr, hb, hw, hinj⟩ := hp.xok _ _ p hm hpc
  have one : ∀ {e r}, (e, some r) ∈ ([(c, some (LO.vw cs ag ks n W' opn))] : Upd) → e = c ∧ r = .vw cs ag ks n W' opn := fun h => by simpa using h
  refine ⟨μ, Ext.refl μ, rfl, fun _ _ h => .inl h, fun e r h => ?_, fun e r e' r' p p' h h' hne => absurd ((one h).1.trans (one h').1.symm) hne, fun e r p1 b e' r' p2 h hp1 hx h' hp2 => ?_⟩
  ·obtain ⟨rfl, rfl⟩ := one h
   exact ⟨p, hpc, hok, ⟨cells, E, fr, hb, fun i hi => by rw [← hq i hi]; exact hw i hi, hinj⟩, ⟨e, _, p, hm, rfl, by simp [Upd.has], hpc, .inl rfl⟩, fun b hx => ⟨e, _, p, hm, rfl, by simp [Upd.has], hpc, .inr hx⟩⟩
  ·obtain ⟨rfl, rfl⟩ := one h
   obtain ⟨rfl, rfl⟩ := one h'
   rw [hpc] at hp1 hp2; cases hp1; cases hp2
   exact ⟨(hp.xsep _ _ p b _ _ p hm hpc hx hm hpc).1, fun hne => absurd rfl hne⟩
 | mitz d =>
  dsimp only [xst] at h
  split at h <;> cases h
  rename_i c ag ks es cur rest ho
  have hm : (d, LO.mit c ag ks es cur rest) ∈ H.pre [d] := Heap.mem_pre.2 ⟨by simp, ho⟩
  obtain ⟨p, hpc⟩ := hv _ _ hm id
  obtain ⟨q, si, se, st, en, cl, RS, k1, k2, k3, k4, k5, k6, k7, _⟩ := hp.xok _ _ p hm hpc
  have one : ∀ {e r}, (e, some r) ∈ ([(d, none), (c, some (LO.map ag ks es))] : Upd) → e = c ∧ r = .map ag ks es := fun h => by simpa using h
  refine ⟨μ, Ext.refl μ, rfl, fun _ _ h => .inl h, fun e r h => ?_, fun e r e' r' p p' h h' hne => absurd ((one h).1.trans (one h').1.symm) hne, fun e r p1 b e' r' p2 h hp1 hx h' hp2 => ?_⟩
  ·obtain ⟨rfl, rfl⟩ := one h
   exact ⟨q, k1, ⟨⟨en, cl, k3, k4, k5, k6⟩, k7⟩, trivial, ⟨d, _, p, hm, rfl, by simp [Upd.has], hpc, .inr ⟨q, k1, rfl⟩⟩, fun b hx => hx.elim⟩
  ·obtain ⟨rfl, rfl⟩ := one h
   exact hx.elim
 | mitn d =>
  dsimp only [xst] at h
  split at h <;> cases h
  rename_i c ag ks es cur rest ho
  have hm : (d, LO.mit c ag ks es cur rest) ∈ H.pre [d] := Heap.mem_pre.2 ⟨by simp, ho⟩
  obtain ⟨p, hpc⟩ := hv _ _ hm id
  have hok := hp.placed hm hpc
  obtain ⟨q, si, se, st, en, cl, RS, k1, k2, k3, k4, k5, k6, k7, k8, k9, k10, k11, _⟩ := hp.xok _ _ p hm hpc
  have one : ∀ {e r}, (e, some r) ∈ ([(d, some (LO.mit c ag ks es none rest))] : Upd) → e = d ∧ r = .mit c ag ks es none rest := fun h => by simpa using h
  refine ⟨μ, Ext.refl μ, rfl, fun _ _ h => .inl h, fun e r h => ?_, fun e r e' r' p p' h h' hne => absurd ((one h).1.trans (one h').1.symm) hne, fun e r p1 b e' r' p2 h hp1 hx h' hp2 => ?_⟩
  ·obtain ⟨rfl, rfl⟩ := one h
   exact ⟨p, hpc, hok, ⟨q, si, se, st, en, cl, RS, k1, k2, k3, k4, k5, k6, k7, k8, k9, k10, k11, fun x hx => by cases hx⟩, ⟨e, _, p, hm, rfl, by simp [Upd.has], hpc, .inl rfl⟩, fun b hx => ⟨e, _, p, hm, rfl, by simp [Upd.has], hpc, .inr hx⟩⟩
  ·obtain ⟨rfl, rfl⟩ := one h
   obtain ⟨rfl, rfl⟩ := one h'
   rw [hpc] at hp1 hp2; cases hp1; cases hp2
   exact ⟨(hp.xsep _ _ p b _ _ p hm hpc hx hm hpc).1, fun hne => absurd rfl hne⟩
end Go.Cn
