import Derived.Test.YtddgjfclpknkcaaGreatDoorCnK
namespace Go.Cn
open Go
section
variable {P : Program}
theorem append_room {st xt ty : TypeId} {el : TypeId} {xd : TypeDesc} {z n len rc rb o : Nat} {vx : Value} {w : World} {app cells : Array Value} {E : TypeId} {fr : Nat × Nat}
  (hd : P.underlying st = some (.slice el)) (hxd : P.underlying xt = some xd) (hxi : isInt xd = false) (hz : tSize P el = some z)
  (hlen : (Builtin.lenOf vx).run P w = .ok n w) (happ : (Builtin.firstCells z n vx).run P w = .ok app w) (hrc : len + n ≤ rc) (ha : app.size = n * z)
  (hb : w.heap[rb]? = some (.cells cells E fr)) (hfr : ∀ k, k < cells.size → ¬ (fr.1 ≤ k ∧ k < fr.2)) (hsz : o + len * z + n * z ≤ cells.size) (hone : ∀ v ∈ app.toList, v.oneCell' = true) :
  (Builtin.append_ #[st, xt] ty #[.slice (some ⟨rb, o, none⟩) len rc, vx]).run P w = .ok (.slice (some ⟨rb, o, none⟩) (len + n) rc) (setB w rb (.cells (splice cells (o + len * z) app.toList) E fr)) := by
 have hadd : (⟨rb, o, none⟩ : Addr).add (len * z) = ⟨rb, o + len * z, none⟩ := by
  unfold Addr.add; split
  ·rename_i h0; rw [h0]; rfl
  ·rfl
 have hst := run_storeCells' (P := P) (rb := rb) (o := o + len * z) (E := E) (fr := fr) app.toList 0 cells w hb hfr (by simp; omega) hone
 simp only [Nat.add_zero] at hst
 unfold Builtin.append_
 simp only [List.getElem?_toArray, List.getElem?_cons_zero, List.getElem?_cons_succ, Sem.run_bind, run_under hd, run_under hxd, Result.andThen_ok, run_sizeOf' hz, Sem.run_pure]
 cases xd with
 | int k => simp [isInt] at hxi
 | _ => simp only [Bool.false_eq_true, if_false, Sem.run_bind, hlen, Result.andThen_ok, Sem.run_ite, hrc, Bool.not_false, if_true, happ, hadd, hst, Sem.run_pure]
theorem append_none {st xt ty : TypeId} {el : TypeId} {xd : TypeDesc} {z len rc : Nat} {base : Option Addr} {vx : Value} {w : World} {app : Array Value}
  (hd : P.underlying st = some (.slice el)) (hxd : P.underlying xt = some xd) (hxi : isInt xd = false) (hz : tSize P el = some z)
  (hlen : (Builtin.lenOf vx).run P w = .ok 0 w) (happ : (Builtin.firstCells z 0 vx).run P w = .ok app w) (hrc : len ≤ rc) (ha : app.size = 0 * z) :
  (Builtin.append_ #[st, xt] ty #[.slice base len rc, vx]).run P w = .ok (.slice base len rc) w := by
 have happ0 : app = #[] := by apply Array.eq_empty_of_size_eq_zero; omega
 subst happ0
 unfold Builtin.append_
 simp only [List.getElem?_toArray, List.getElem?_cons_zero, List.getElem?_cons_succ, Sem.run_bind, run_under hd, run_under hxd, Result.andThen_ok, run_sizeOf' hz, Sem.run_pure]
 cases xd with
 | int k => simp [isInt] at hxi
 | _ =>
  simp only [Bool.false_eq_true, if_false, Sem.run_bind, hlen, Result.andThen_ok, Sem.run_ite, Nat.add_zero, hrc, Bool.not_false, if_true, happ]
  cases base <;> simp [storeCells]
theorem Delta0.fromDrew {μ μ' : Emb} {w w' : World} {pre : Pre} {up : Upd} (d : Delta0 μ w.drew pre up μ' w') : Delta0 μ w pre up μ' w' :=
 ⟨d.ext, d.dom, d.os, d.tape, d.output, fun h => Nat.le_trans (Nat.le_succ _) (d.draws h), d.grow, d.keep, d.obj, d.place, d.sep, d.frn, d.frs⟩
theorem SrcOK.one {μ : Emb} {g : Nat → List LV} {s n : Nat} {cells : Array Value} (h : SrcOK μ g s n cells) (hs : 0 < s) : ∀ v ∈ cells.toList, v.oneCell' = true := by
 intro v hv
 obtain ⟨k, hk, e⟩ := List.mem_iff_getElem.1 hv
 simp only [Array.length_toList, h.1] at hk
 have hq : k / s < n := by
  rw [Nat.div_lt_iff_lt_mul hs]; exact hk
 obtain ⟨us, h1, h2, h3, h4⟩ := h.2 (k / s) hq
 have hm : k % s < s := Nat.mod_lt _ hs
 have hu : us[k % s]? = some us[k % s] := List.getElem?_eq_getElem (by omega)
 have := h3 _ _ hu
 have e2 : k / s * s + k % s = k := by rw [Nat.mul_comm]; exact Nat.div_add_mod k s
 rw [e2] at this
 have e3 : cells[k]? = some v := by
  rw [← Array.getElem?_toList, List.getElem?_eq_getElem (by simpa [h.1] using hk), e]
 rw [e3] at this
 rw [Option.some.inj this]
 exact h4 _ (List.getElem_mem _)
theorem eAppend_ok {H : Heap} {new : Nat} {st xt ty : TypeId} {s x : LV} {mode : Nat} {vs vx : Value} {e : Eff} {μ : Emb} {w : World} (h : eAppend P H new st xt s x mode = some e) (hob : e.ob) (hs : Rel μ s vs) (hx : Rel μ x vx)
  (hn0 : e.up.has new = true → μ new = none) (hp : PreOK0 μ (H.pre e.foot) w) : Runs P (Builtin.append_ #[st, xt] ty #[vs, vx]) μ w (H.pre e.foot) e.up e.v := by
 unfold eAppend at h
 split at h <;> try cases h
 rename_i el xd hd hxd
 split at h <;> try cases h
 rename_i hxi
 have hxi : isInt xd = false := by simpa using hxi
 split at h <;> try cases h
 rename_i z b zl hz hb hzl
 split at h <;> try cases h
 rename_i q n g ft hsrc
 dsimp only at h
 have mem_ft : ∀ {c : Nat} {o : LO}, c ∈ ft → H.at c = some o → (c, o) ∈ H.pre ft := fun hc ho => Heap.mem_pre.2 ⟨hc, ho⟩
 have anew : ∀ (hn : μ new = none) (pre : Pre) (len rc : Nat) (base : Option Addr) (f : Nat → List LV) (old cells : Array Value) (up : Upd), (∀ w' : World, w'.heap = w.heap → (Builtin.firstCells z n vx).run P w' = .ok cells w') → (∀ w' : World, (Builtin.lenOf vx).run P w' = .ok n w') →
   SrcOK μ g z n cells → (∀ w' : World, w'.heap = w.heap → (Builtin.firstCells z len (.slice base len rc)).run P w' = .ok old w') → SrcOK μ f z len old → rc < len + n →
   (0 < n ∧ 0 < z ∧ 0 < b ∧ (len + n) * b ≤ 140737488351232 ∧ zl.cells.length = z ∧ zl.cells.all LV.isCell = true) →
   (∀ (μ' : Emb) (w' : World), Delta0 μ w pre [(new, some (.row z (len + n) (appRow len f g) true))] μ' w' → Delta0 μ w pre up μ' w') →
   Runs P (Builtin.append_ #[st, xt] ty #[.slice base len rc, vx]) μ w pre up (.sl new 0 0 false (len + n) none) := by
  intro hn pre len rc base f old cells up h1 h2 h3 k1 k2 hrc hroom hup
  obtain ⟨newCap, rest, hrun, hrest, hcap⟩ := append_anew (ty := ty) hd hxd hxi hz hb hzl (h2 w) h1 k1 hrc hroom k2.1 h3.1
  have hext : Ext μ (μ.set new ⟨w.heap.size, 0, z, newCap⟩) := Emb.ext_set hn
  refine ⟨_, _, μ.set new ⟨w.heap.size, 0, z, newCap⟩, hrun, ?_, hup _ _ (Delta0.fromDrew ?_)⟩
  ·exact ⟨_, ⟨w.heap.size, 0, none⟩, newCap, Emb.set_self, rfl, hcap, (fun _ h => by cases h), rfl, rfl, fun _ => by simp [Pl.addr], fun _ => ⟨rfl, fun _ => by simp⟩⟩
  ·exact Delta0.new hn rfl (((k2.append h3).mono hext).row rest hrest hcap)
 split at h <;> try cases h
 ·
  obtain ⟨hq, hn0⟩ := hob
  subst hn0
  obtain ⟨cells, h1, h2, h3⟩ := srcOf_ok (P := P) hsrc hq hx hp (fun _ _ hc ho => mem_ft hc ho)
  simp only [Rel] at hs; subst hs
  exact Runs.same (append_none hd hxd hxi hz (h2 w) (h1 w rfl) (Nat.le_refl _) h3.1) rfl
 ·
  rename_i c i j inn len cap
  obtain ⟨hq, hn0⟩ := hob
  subst hn0
  obtain ⟨cells, h1, h2, h3⟩ := srcOf_ok (P := P) hsrc hq hx hp (fun _ _ hc ho => mem_ft hc ho)
  obtain ⟨p, a, rc, hpc, rfl, hlen, r⟩ := hs
  exact Runs.same (append_none hd hxd hxi hz (h2 w) (h1 w rfl) hlen h3.1) ⟨p, a, rc, hpc, rfl, hlen, r⟩
 ·
  obtain ⟨hq, hroom⟩ := hob
  obtain ⟨cells, h1, h2, h3⟩ := srcOf_ok (P := P) hsrc hq hx hp (fun _ _ hc ho => mem_ft hc ho)
  simp only [Rel] at hs; subst hs
  have := anew (hn0 (by simp [Upd.has])) (H.pre ft) 0 0 none (fun _ => []) #[] cells [(new, some (.row z n g true))] h1 h2 h3 (fun w' _ => by simp [Builtin.firstCells]) ⟨by simp, fun q hq => by omega⟩ (by omega) hroom
   (fun μ' w' d => by
    have e : appRow 0 (fun _ => ([] : List LV)) g = g := by funext t; simp [appRow]
    rw [e, Nat.zero_add] at d
    exact d)
  rw [Nat.zero_add] at this
  exact this
 ·
  rename_i c i j len cap
  split at h <;> cases h
  rename_i sz m f ho
  obtain ⟨hq, hroom, rfl, him⟩ := hob
  have hpc0 : (c, LO.row sz m f true) ∈ H.pre (c :: ft) := Heap.mem_pre.2 ⟨List.mem_cons_self, ho⟩
  obtain ⟨cells, h1, h2, h3⟩ := srcOf_ok (P := P) hsrc hq hx hp (fun _ _ hc ho => Heap.mem_pre.2 ⟨List.mem_cons_of_mem _ hc, ho⟩)
  obtain ⟨p, a, rc, hpc, rfl, hlen, hcap, hsp, hbl, haddr, hinn⟩ := hs
  have hok := hp.placed hpc0 hpc
  have hlt := hok.lt
  have hok0 := hok
  obtain ⟨k1, k2, bcells, E, fr, hbk, hsz, hfr, hel⟩ := hok
  have hj := (hinn rfl).1
  subst hj
  have hn : μ new = none := hn0 (by simp [Upd.has])
  have hcd : c ≠ new := fun e => by subst e; rw [hn] at hpc; cases hpc
  have hold := srcOf_ok (P := P) (H := H) (s := sz) (x := .sl c i 0 false len cap) (g := fun q => f (i + q)) (n := len) (ft := [c]) (q := sz = sz ∧ i + len ≤ m) (w := w) (μ := μ) (vx := .slice (some a) len rc) (by simp [srcOf, ho]) ⟨rfl, him⟩
   ⟨p, a, rc, hpc, rfl, hlen, hcap, hsp, hbl, haddr, hinn⟩ hp (fun c' o' hc' ho' => by
    simp only [List.mem_singleton] at hc'; subst hc'; rw [ho] at ho'; cases ho'; exact hpc0)
  obtain ⟨old, o1, o2, o3⟩ := hold
  by_cases hrc : len + n ≤ rc
  ·
   have ha := haddr (by omega)
   have hiext := (hinn rfl).2 (by omega)
   subst ha
   have hcs : bcells.size ≥ p.off + (i + rc) * sz := by
    have : (i + rc) * sz ≤ p.ext * sz := Nat.mul_le_mul_right _ hiext
    omega
   have hrcs : (len + n) * sz ≤ rc * sz := Nat.mul_le_mul_right _ hrc
   rw [Nat.add_mul] at hrcs hcs
   have hrun := append_room (P := P) (ty := ty) (o := p.off + i * sz) hd hxd hxi hz (h2 w) (h1 w rfl) hrc h3.1 hbk (hfr rfl) (by omega) (h3.one hroom.2.1)
   have hext : Ext μ (μ.set new ⟨p.rb, p.off + i * sz, sz, rc⟩) := Emb.ext_set hn
   refine ⟨.slice (some ⟨p.rb, p.off + i * sz, none⟩) (len + n) rc, setB w p.rb (.cells (splice bcells (p.off + i * sz + len * sz) cells.toList) E fr), μ.set new ⟨p.rb, p.off + i * sz, sz, rc⟩, ?_, ?_, ?_⟩
   ·rw [← hrun]
    simp [Pl.addr, k1]
   ·exact ⟨_, ⟨p.rb, p.off + i * sz, none⟩, rc, Emb.set_self, rfl, hrc, (fun _ h => by cases h), rfl, rfl, fun _ => by simp [Pl.addr], fun _ => ⟨rfl, fun _ => by simp⟩⟩
   ·refine Delta0.move hpc hpc0 rfl hlt hn rfl ⟨rfl, hrc, _, E, fr, rfl, by rw [splice_size]; show p.off + i * sz + rc * sz ≤ _; omega, fun _ => by rw [splice_size]; exact hfr rfl, fun t ht => ?_⟩
    show ∃ vs, RelL _ (appRow len (fun t => f (i + t)) g t) vs ∧ _
    unfold appRow
    have hal : cells.toList.length = n * sz := by simpa using h3.1
    by_cases htl : t < len
    ·rw [if_pos htl]
     obtain ⟨us, a1, a2, a3, a4⟩ := hel (i + t) (by omega)
     refine ⟨us, a1.mono hext, a2, ?_, a4⟩
     have hts := mul_lt_next (s := sz) htl
     have e1 : p.off + (i + t) * sz = p.off + i * sz + t * sz := by rw [Nat.add_mul]; omega
     rw [e1] at a3
     intro k v hk
     have hkl : k < us.length := (List.getElem?_eq_some_iff.1 hk).1
     show (splice bcells (p.off + i * sz + len * sz) cells.toList)[p.off + i * sz + t * sz + k]? = some v
     rw [splice_get _ _ _ _ (by omega), if_neg (by omega)]
     exact a3 k v hk
    ·rw [if_neg htl]
     obtain ⟨us, a1, a2, a3, a4⟩ := h3.2 (t - len) (by omega)
     refine ⟨us, a1.mono hext, a2, ?_, a4⟩
     have hts := mul_lt_next (s := sz) (show t - len < n by omega)
     have e1 : t * sz = len * sz + (t - len) * sz := by rw [← Nat.add_mul]; congr 1; omega
     intro k v hk
     have hkl : k < us.length := (List.getElem?_eq_some_iff.1 hk).1
     show (splice bcells (p.off + i * sz + len * sz) cells.toList)[p.off + i * sz + t * sz + k]? = some v
     rw [splice_get _ _ _ _ (by omega), if_pos (by omega)]
     rw [show p.off + i * sz + t * sz + k - (p.off + i * sz + len * sz) = (t - len) * sz + k from by omega, Array.getElem?_toList]
     exact a3 k v hk
  ·
   refine anew hn (H.pre (c :: ft)) len rc (some a) (fun t => f (i + t)) old cells _ h1 h2 h3 o1 o3 (by omega) hroom (fun μ' w' d => ?_)
   exact { d with
    dom := fun e q hq => (d.dom e q hq).imp id (fun ⟨h, h'⟩ => ⟨by rw [Upd.has_one] at h; subst h; simp [Upd.has], h'⟩)
    keep := fun b hb _ => d.keep b hb (fun c0 o0 p0 hm hw hu hm0 e => by
     rw [Upd.has_one] at hu; subst hu; rw [hn] at hm0; cases hm0)
    obj := fun e q hq => d.obj e q (by simp only [List.mem_cons, Prod.mk.injEq, reduceCtorEq, and_false, List.not_mem_nil, or_false, false_or] at hq ⊢; exact hq)
    place := fun e q r hq hr => by
     rcases d.place e q r (by simp only [List.mem_cons, Prod.mk.injEq, reduceCtorEq, and_false, List.not_mem_nil, or_false, false_or] at hq ⊢; exact hq) hr with h | ⟨c0, o0, p0, g1, g2, g3, g4, g5⟩
     ·exact .inl h
     ·rw [Upd.has_one] at g3; subst g3; rw [hn] at g4; cases g4
    sep := fun e q e' q' r r' hq hq' => d.sep e q e' q' r r' (by simp only [List.mem_cons, Prod.mk.injEq, reduceCtorEq, and_false, List.not_mem_nil, or_false, false_or] at hq ⊢; exact hq) (by simp only [List.mem_cons, Prod.mk.injEq, reduceCtorEq, and_false, List.not_mem_nil, or_false, false_or] at hq' ⊢; exact hq')
    frn := fun b cs hb => (d.frn b cs hb).imp id (fun ⟨h1, h2⟩ => ⟨h1, h2.imp id (fun ⟨c0, o0, p0, g1, g2, g3, g4, g5⟩ => by
     rw [Upd.has_one] at g3; subst g3; rw [hn] at g4; cases g4)⟩)
    frs := fun hf e q r hq => d.frs hf e q r (by simp only [List.mem_cons, Prod.mk.injEq, reduceCtorEq, and_false, List.not_mem_nil, or_false, false_or] at hq ⊢; exact hq) }
 ·
  rename_i c i j len k
  split at h <;> cases h
  rename_i sz m f wr ho
  obtain ⟨hq, hroom, rfl, him, hk⟩ := hob
  have hpc0 : (c, LO.row sz m f wr) ∈ H.pre (c :: ft) := Heap.mem_pre.2 ⟨List.mem_cons_self, ho⟩
  obtain ⟨cells, h1, h2, h3⟩ := srcOf_ok (P := P) hsrc hq hx hp (fun _ _ hc ho => Heap.mem_pre.2 ⟨List.mem_cons_of_mem _ hc, ho⟩)
  obtain ⟨p, a, rc, hpc, rfl, hlen, hcap, hsp, hbl, haddr, hinn⟩ := hs
  have hrck := hcap k rfl
  have hj := (hinn rfl).1
  subst hj
  have hold := srcOf_ok (P := P) (H := H) (s := sz) (x := .sl c i 0 false len (some k)) (g := fun q => f (i + q)) (n := len) (ft := [c]) (q := sz = sz ∧ i + len ≤ m) (w := w) (μ := μ) (vx := .slice (some a) len rc) (by simp [srcOf, ho]) ⟨rfl, him⟩
   ⟨p, a, rc, hpc, rfl, hlen, hcap, hsp, hbl, haddr, hinn⟩ hp (fun c' o' hc' ho' => by
    simp only [List.mem_singleton] at hc'; subst hc'; rw [ho] at ho'; cases ho'; exact hpc0)
  obtain ⟨old, o1, o2, o3⟩ := hold
  exact anew (hn0 (by simp [Upd.has])) (H.pre (c :: ft)) len rc (some a) (fun t => f (i + t)) old cells _ h1 h2 h3 o1 o3 (by omega) hroom (fun _ _ d => d)
 ·
  obtain ⟨hq, hroom⟩ := hob
  obtain ⟨cells, h1, h2, h3⟩ := srcOf_ok (P := P) hsrc hq hx hp (fun _ _ hc ho => mem_ft hc ho)
  obtain ⟨p, a, rc, hpc, rfl, hlen, hcap, _⟩ := hs
  obtain rfl := hcap 0 rfl
  have := anew (hn0 (by simp [Upd.has])) (H.pre ft) 0 0 (some a) (fun _ => []) #[] cells [(new, some (.row z n g true))] h1 h2 h3 (fun w' _ => by simp [Builtin.firstCells, loadCells, loadCellsFrom]) ⟨by simp, fun q hq => by omega⟩ (by omega) hroom
   (fun μ' w' d => by
    have e : appRow 0 (fun _ => ([] : List LV)) g = g := by funext t; simp [appRow]
    rw [e, Nat.zero_add] at d
    exact d)
  rw [Nat.zero_add] at this
  exact this
theorem Delta0.swap {μ μ' : Emb} {w w' : World} {pre pre2 : Pre} {up up2 : Upd} (d : Delta0 μ w pre up μ' w')
  (hp : ∀ c o, (c, o) ∈ pre → o.wr = true → ∃ o', (c, o') ∈ pre2 ∧ o'.wr = true)
  (hu : ∀ c o, (c, some o) ∈ up2 → ∃ o', (c, some o') ∈ up ∧ (o.wr = true → o'.wr = true) ∧ (o'.void → o.void) ∧ ∀ p h, ObjOK μ' p h o' → ObjOK μ' p h o) (hh : ∀ c, up.has c = true → up2.has c = true) : Delta0 μ w pre2 up2 μ' w' where
 ext := d.ext
 dom := fun c p h => (d.dom c p h).imp id (fun ⟨h1, h2⟩ => ⟨hh c h1, h2⟩)
 os := d.os
 tape := d.tape
 output := d.output
 draws := d.draws
 grow := d.grow
 keep := fun b hb hk => d.keep b hb (fun c o p hc hw hu' hm => by
  obtain ⟨o', h1, h2⟩ := hp c o hc hw
  exact hk c o' p h1 h2 (hh c hu') hm)
 obj := fun c o h => by
  obtain ⟨o', h1, _, h2, h3⟩ := hu c o h
  exact (d.obj c o' h1).imp (fun ⟨x, y⟩ => ⟨x, h2 y⟩) (fun ⟨p, x, y⟩ => ⟨p, x, h3 _ _ y⟩)
 place := fun c o p h hpc => by
  obtain ⟨o', h1, _⟩ := hu c o h
  refine (d.place c o' p h1 hpc).imp id (fun ⟨c0, o0, p0, g1, g2, g3, g4⟩ => ?_)
  obtain ⟨o'', k1, k2⟩ := hp c0 o0 g1 g2
  exact ⟨c0, o'', p0, k1, k2, hh c0 g3, g4⟩
 sep := fun c o c' o' p p' h h' hne hw hpc hpc' => by
  obtain ⟨x, h1, hx, _⟩ := hu c o h
  obtain ⟨y, h2, hy, _⟩ := hu c' o' h'
  exact d.sep c x c' y p p' h1 h2 hne (hw.imp hx hy) hpc hpc'
 frn := fun b cs hb => (d.frn b cs hb).imp id (fun ⟨h1, h2⟩ => ⟨h1, h2.imp id (fun ⟨c0, o0, p0, g1, g2, g3, g4⟩ => by
  obtain ⟨o'', k1, k2⟩ := hp c0 o0 g1 g2
  exact ⟨c0, o'', p0, k1, k2, hh c0 g3, g4⟩)⟩)
 frs := fun hf c o p h hw hpc => by
  obtain ⟨o', h1, hx, _⟩ := hu c o h
  refine d.frs ⟨hf.1, fun c0 o0 p0 g1 g2 g3 => ?_⟩ c o' p h1 (hx hw) hpc
  obtain ⟨o'', k1, k2⟩ := hp c0 o0 g1 g2
  exact hf.2 c0 o'' p0 k1 k2 g3
theorem Delta0.alias {μ : Emb} {w : World} {pre : Pre} {c d : Nat} {p : Pl} {o o' : LO} (hc : μ c = some p) (hm : (c, o) ∈ pre) (hw : o.wr = true) (hd : μ d = none)
  (ho : ObjOK (μ.set d p) p w.heap[p.rb]? o') : Delta0 μ w pre [(c, none), (d, some o')] (μ.set d p) w where
 ext := Emb.ext_set hd
 dom := fun e r hr => by
  rw [Emb.set_at] at hr
  split at hr
  ·rename_i h; subst h; exact .inr ⟨by simp [Upd.has], hd⟩
  ·exact .inl hr
 os := rfl
 tape := rfl
 output := rfl
 draws := fun _ => Nat.le_refl _
 grow := Nat.le_refl _
 keep := fun b hb hk => rfl
 obj := fun e r hr => by
  simp only [List.mem_cons, Prod.mk.injEq, reduceCtorEq, and_false, Option.some.injEq, List.not_mem_nil, or_false, false_or] at hr
  obtain ⟨rfl, rfl⟩ := hr
  exact .inr ⟨p, Emb.set_self, ho⟩
 place := fun e r s hr hs => by
  simp only [List.mem_cons, Prod.mk.injEq, reduceCtorEq, and_false, Option.some.injEq, List.not_mem_nil, or_false, false_or] at hr
  obtain ⟨rfl, rfl⟩ := hr
  rw [Emb.set_self] at hs
  obtain rfl := Option.some.inj hs
  exact .inr ⟨c, o, p, hm, hw, by simp [Upd.has], hc, rfl⟩
 sep := fun e r e' r' s s' hr hr' hne => by
  simp only [List.mem_cons, Prod.mk.injEq, reduceCtorEq, and_false, Option.some.injEq, List.not_mem_nil, or_false, false_or] at hr hr'
  exact absurd (hr.1.trans hr'.1.symm) hne
 frn := fun _ _ h => .inl h
 frs := fun hf e r s hr _ hs => by
  simp only [List.mem_cons, Prod.mk.injEq, reduceCtorEq, and_false, Option.some.injEq, List.not_mem_nil, or_false, false_or] at hr
  obtain ⟨rfl, rfl⟩ := hr
  rw [Emb.set_self] at hs
  obtain rfl := Option.some.inj hs
  exact hf.2 c o p hm hw hc
theorem Delta0.voids {μ : Emb} {w : World} {pre : Pre} {up : Upd} (h : ∀ c o, (c, some o) ∈ up → μ c = none ∧ o.void) : Delta0 μ w pre up μ w where
 ext := Ext.refl μ
 dom := fun _ _ h => .inl h
 os := rfl
 tape := rfl
 output := rfl
 draws := fun _ => Nat.le_refl _
 grow := Nat.le_refl _
 keep := fun _ _ _ => rfl
 obj := fun c o hc => .inl (h c o hc)
 place := fun c o p hc hp => by rw [(h c o hc).1] at hp; cases hp
 sep := fun c o _ _ p _ hc _ _ _ hp => by rw [(h c o hc).1] at hp; cases hp
 frn := fun _ _ h => .inl h
 frs := fun _ c o p hc _ hp => by rw [(h c o hc).1] at hp; cases hp
def eAppG (P : Program) (H : Heap) (new : Nat) (st xt : TypeId) (s x : LV) : Option Eff :=
 match tDesc P st, tDesc P xt with
 | some (.slice el), some xd =>
  if isInt xd then none else
  match tSize P el, tBytes P el, tZero P el with
  | some z, some b, some zl =>
   match srcOf H z x with
   | some (q, n, g, ft) =>
    let room := fun (k : Nat) => 0 < z ∧ 0 < b ∧ (k + n) * b ≤ 140737488351232 ∧ zl.cells.length = z ∧ zl.cells.all LV.isCell = true
    match s with
    | .nilsl => some ⟨q ∧ room 0, .gs new n, ft, [(new, some (.gr z n g))]⟩
    | .gs c k =>
     match H.at c with
     | some (.gr sz m f) => if ft.contains c then none else some ⟨q ∧ room k ∧ sz = z ∧ k ≤ m, .gs new (k + n), c :: ft, [(c, none), (new, some (.gr z (k + n) (appRow k f g)))]⟩
     | _ => none
    | .sl c 0 0 false 0 _ =>
     match H.at c with
     | some (.row sz _ _ true) => if ft.contains c then none else some ⟨q ∧ room 0 ∧ sz = z ∧ n ≠ 0, .gs new n, c :: ft, [(c, none), (new, some (.gr z n g))]⟩
     | _ => none
    | _ => none
   | none => none
  | _, _, _ => none
 | _, _ => none
theorem ObjOK.row_gr {μ : Emb} {p : Pl} {h : Option Obj} {sz n : Nat} {f : Nat → List LV} : ObjOK μ p h (.row sz n f true) ↔ ObjOK μ p h (.gr sz n f) :=
 ⟨fun ⟨h1, h2, cells, E, fr, h3, h4, h5, h6⟩ => ⟨h1, h2, cells, E, fr, h3, h4, h5 rfl, h6⟩, fun ⟨h1, h2, cells, E, fr, h3, h4, h5, h6⟩ => ⟨h1, h2, cells, E, fr, h3, h4, fun _ => h5, h6⟩⟩
theorem srcOf_put {H : Heap} {c s : Nat} {o : Option LO} {x : LV} {q : Prop} {n : Nat} {g : Nat → List LV} {ft : List Nat} (h : srcOf H s x = some (q, n, g, ft)) (hc : c ∉ ft) : srcOf (H.put c o) s x = some (q, n, g, ft) := by
 unfold srcOf at h ⊢
 split at h <;> first | exact h | skip
 all_goals
  split at h <;> try cases h
  simp only [Heap.at_put]
  simp only [List.mem_singleton] at hc
  rw [if_neg (fun e => hc e.symm)]
  rename_i ho
  simp only [ho]
theorem Rel.sl_gs {μ : Emb} {c n : Nat} {cap : Option Nat} {v : Value} (hn : n ≠ 0) (h : Rel μ (.sl c 0 0 false n cap) v) : Rel μ (.gs c n) v := by
 obtain ⟨p, a, rc, hpc, rfl, hlen, _, _, _, haddr, hinn⟩ := h
 have := haddr (by omega)
 subst this
 exact .inr ⟨hn, p, rc, hpc, rfl, hlen, by have := (hinn rfl).2 (by omega); omega⟩
theorem Rel.gs_sl {μ : Emb} {c n : Nat} {v : Value} (hn : n ≠ 0) (h : Rel μ (.gs c n) v) : Rel μ (.sl c 0 0 false n none) v := by
 rcases h with ⟨h0, _⟩ | ⟨_, p, rc, hpc, rfl, h1, h2⟩
 ·exact absurd h0 hn
 ·exact ⟨p, _, rc, hpc, rfl, h1, (fun _ h => by cases h), rfl, rfl, (fun _ => rfl), fun _ => ⟨rfl, fun _ => by omega⟩⟩
theorem Rel.gs_nil {μ : Emb} {c : Nat} {v : Value} (h : Rel μ (.gs c 0) v) : v = .slice none 0 0 := by
 rcases h with ⟨_, h⟩ | ⟨h, _⟩
 ·exact h
 ·exact absurd rfl h
theorem eAppG_ok {H : Heap} {new : Nat} {st xt ty : TypeId} {s x : LV} {vs vx : Value} {e : Eff} {μ : Emb} {w : World} (h : eAppG P H new st xt s x = some e) (hob : e.ob) (hs : Rel μ s vs) (hx : Rel μ x vx)
  (hn0 : e.up.has new = true → μ new = none) (hp : PreOK0 μ (H.pre e.foot) w) : Runs P (Builtin.append_ #[st, xt] ty #[vs, vx]) μ w (H.pre e.foot) e.up e.v := by
 unfold eAppG at h
 split at h <;> try cases h
 rename_i el xd hd hxd
 split at h <;> try cases h
 rename_i hxi
 have hxi' : isInt xd = false := by simpa using hxi
 split at h <;> try cases h
 rename_i z b zl hz hb hzl
 split at h <;> try cases h
 rename_i q n g ft hsrc
 dsimp only at h
 split at h <;> try cases h
 ·
  obtain ⟨hq, r1, r2, r3, r4, r5⟩ := hob
  have hn := hn0 (by simp [Upd.has])
  by_cases hn1 : n = 0
  ·subst hn1
   obtain ⟨cells, h1, h2, h3⟩ := srcOf_ok (P := P) hsrc hq hx hp (fun c o hc ho => Heap.mem_pre.2 ⟨hc, ho⟩)
   simp only [Rel] at hs; subst hs
   refine ⟨_, _, μ, append_none hd hxd hxi' hz (h2 w) (h1 w rfl) (Nat.le_refl _) h3.1, .inl ⟨rfl, rfl⟩, Delta0.voids ?_⟩
   intro c o hc
   simp only [List.mem_singleton, Prod.mk.injEq, Option.some.injEq] at hc
   obtain ⟨rfl, rfl⟩ := hc
   exact ⟨hn, rfl⟩
  ·have := eAppend_ok (P := P) (H := H) (new := new) (st := st) (xt := xt) (ty := ty) (s := .nilsl) (x := x) (mode := 1) (w := w) (μ := μ) (vs := vs) (vx := vx) (e := ⟨q ∧ (0 < n ∧ 0 < z ∧ 0 < b ∧ (0 + n) * b ≤ 140737488351232 ∧ zl.cells.length = z ∧ zl.cells.all LV.isCell = true), .sl new 0 0 false n none, ft, [(new, some (.row z n g true))]⟩)
    (by simp only [eAppend, hd, hxd, hxi', hz, hb, hzl, hsrc, Bool.false_eq_true, if_false]) ⟨hq, by omega, r1, r2, r3, r4, r5⟩ hs hx (fun _ => hn) hp
   obtain ⟨v, w', μ', g1, g2, g3⟩ := this
   refine ⟨v, w', μ', g1, Rel.sl_gs hn1 g2, g3.swap (fun c o h1 h2 => ⟨o, h1, h2⟩) ?_ (fun c h => by simpa [Upd.has] using h)⟩
   intro c o hc
   simp only [List.mem_singleton, Prod.mk.injEq, Option.some.injEq] at hc
   obtain ⟨rfl, rfl⟩ := hc
   exact ⟨_, List.mem_singleton.2 rfl, fun _ => rfl, fun h => h.elim, fun p h => ObjOK.row_gr.1⟩
 ·
  rename_i c k
  split at h <;> try cases h
  rename_i sz m f ho
  split at h <;> cases h
  rename_i hct
  have hct : c ∉ ft := by simpa using hct
  obtain ⟨hq, ⟨r1, r2, r3, r4, r5⟩, rfl, him⟩ := hob
  have hn := hn0 (by simp [Upd.has])
  have hpc0 : (c, LO.gr sz m f) ∈ H.pre (c :: ft) := Heap.mem_pre.2 ⟨List.mem_cons_self, ho⟩
  by_cases hk : k = 0
  ·subst hk
   have := Rel.gs_nil hs
   subst this
   have hp' : PreOK0 μ (H.pre ft) w := ⟨fun c' o' hc' => hp.obj' c' o' (Heap.mem_pre.2 ⟨List.mem_cons_of_mem _ (Heap.mem_pre.1 hc').1, (Heap.mem_pre.1 hc').2⟩),
    fun a o a' o' p p' h h' => hp.sep a o a' o' p p' (Heap.mem_pre.2 ⟨List.mem_cons_of_mem _ (Heap.mem_pre.1 h).1, (Heap.mem_pre.1 h).2⟩) (Heap.mem_pre.2 ⟨List.mem_cons_of_mem _ (Heap.mem_pre.1 h').1, (Heap.mem_pre.1 h').2⟩), hp.fro,
    fun a o p h => hp.frs a o p (Heap.mem_pre.2 ⟨List.mem_cons_of_mem _ (Heap.mem_pre.1 h).1, (Heap.mem_pre.1 h).2⟩), hp.tab⟩
   have e0 : appRow 0 f g = g := by funext t; simp [appRow]
   rw [e0, Nat.zero_add]
   by_cases hn1 : n = 0
   ·subst hn1
    obtain ⟨cells, h1, h2, h3⟩ := srcOf_ok (P := P) hsrc hq hx hp' (fun c o hc ho => Heap.mem_pre.2 ⟨hc, ho⟩)
    refine ⟨_, _, μ, append_none hd hxd hxi' hz (h2 w) (h1 w rfl) (Nat.le_refl _) h3.1, .inl ⟨rfl, rfl⟩, Delta0.voids ?_⟩
    intro c' o' hc
    simp only [List.mem_cons, Prod.mk.injEq, reduceCtorEq, and_false, Option.some.injEq, List.not_mem_nil, or_false, false_or] at hc
    obtain ⟨rfl, rfl⟩ := hc
    exact ⟨hn, rfl⟩
   ·have := eAppend_ok (P := P) (H := H) (new := new) (st := st) (xt := xt) (ty := ty) (s := .nilsl) (x := x) (mode := 1) (w := w) (μ := μ) (vs := .slice none 0 0) (vx := vx) (e := ⟨q ∧ (0 < n ∧ 0 < sz ∧ 0 < b ∧ (0 + n) * b ≤ 140737488351232 ∧ zl.cells.length = sz ∧ zl.cells.all LV.isCell = true), .sl new 0 0 false n none, ft, [(new, some (.row sz n g true))]⟩)
     (by simp only [eAppend, hd, hxd, hxi', hz, hb, hzl, hsrc, Bool.false_eq_true, if_false]) ⟨hq, by omega, r1, r2, r3, r4, r5⟩ rfl hx (fun _ => hn) hp'
    obtain ⟨v, w', μ', g1, g2, g3⟩ := this
    refine ⟨v, w', μ', g1, Rel.sl_gs hn1 g2, g3.swap (fun a o h1 h2 => ⟨o, Heap.mem_pre.2 ⟨List.mem_cons_of_mem _ (Heap.mem_pre.1 h1).1, (Heap.mem_pre.1 h1).2⟩, h2⟩) ?_ (fun a h => by simp only [Upd.has_one] at h; subst h; simp [Upd.has])⟩
    intro c' o' hc
    simp only [List.mem_cons, Prod.mk.injEq, reduceCtorEq, and_false, Option.some.injEq, List.not_mem_nil, or_false, false_or] at hc
    obtain ⟨rfl, rfl⟩ := hc
    exact ⟨_, List.mem_singleton.2 rfl, fun _ => rfl, fun h => h.elim, fun p h => ObjOK.row_gr.1⟩
  ·obtain ⟨p, hpc⟩ : ∃ p, μ c = some p := by
    rcases hs with ⟨h, _⟩ | ⟨_, p, rc, h, _⟩
    ·exact absurd h hk
    ·exact ⟨p, h⟩
   have hok := hp.placed hpc0 hpc
   by_cases hn1 : n = 0
   ·subst hn1
    obtain ⟨cells, h1, h2, h3⟩ := srcOf_ok (P := P) hsrc hq hx hp (fun c o hc ho => Heap.mem_pre.2 ⟨List.mem_cons_of_mem _ hc, ho⟩)
    rcases hs with ⟨h0, _⟩ | ⟨_, p', rc, hpc', rfl, l1, l2⟩
    ·exact absurd h0 hk
    obtain rfl := Option.some.inj (hpc'.symm.trans hpc)
    refine ⟨_, _, μ.set new p', append_none hd hxd hxi' hz (h2 w) (h1 w rfl) l1 h3.1, .inr ⟨by omega, p', rc, Emb.set_self, rfl, l1, l2⟩, Delta0.alias hpc' hpc0 rfl hn ?_⟩
    obtain ⟨a1, a2, cs, E, fr, a3, a4, a5, a6⟩ := hok.mono (Emb.ext_set (p := p') hn)
    refine ⟨a1, by omega, cs, E, fr, a3, a4, a5, fun i hi => ?_⟩
    have : appRow k f g i = f i := by simp only [appRow]; rw [if_pos (by omega)]
    rw [this]
    exact a6 i (by omega)
   ·have hmem : ∀ d o', (d, o') ∈ (H.put c (some (.row sz m f true))).pre (c :: ft) → ∃ o, (d, o) ∈ H.pre (c :: ft) ∧ o.wr = o'.wr ∧ (d ≠ c → o = o') ∧ (d = c → o' = .row sz m f true) := by
     intro d o' hd'
     obtain ⟨k1, k2⟩ := Heap.mem_pre.1 hd'
     rw [Heap.at_put] at k2
     by_cases hdc : d = c
     ·rw [if_pos hdc] at k2
      cases k2
      subst hdc
      exact ⟨_, hpc0, rfl, fun h => absurd rfl h, fun _ => rfl⟩
     ·rw [if_neg hdc] at k2
      exact ⟨o', Heap.mem_pre.2 ⟨k1, k2⟩, rfl, fun _ => rfl, fun h => absurd h hdc⟩
    have hp' : PreOK0 μ ((H.put c (some (.row sz m f true))).pre (c :: ft)) w := by
     refine ⟨fun d o' hd' => ?_, fun d o d' o' p p' h h' hne hw hpd hpd' => ?_, hp.fro, fun d o p h hw hpd => ?_, hp.tab⟩
     ·obtain ⟨o, g1, g2, g3, g4⟩ := hmem d o' hd'
      by_cases hdc : d = c
      ·subst hdc
       rw [g4 rfl]
       exact .inr ⟨p, hpc, ObjOK.row_gr.2 hok⟩
      ·rw [← g3 hdc]
       exact hp.obj' d o g1
     ·obtain ⟨o1, g1, g2, _⟩ := hmem d o h
      obtain ⟨o2, g3, g4, _⟩ := hmem d' o' h'
      exact hp.sep d o1 d' o2 p p' g1 g3 hne (by rw [g2, g4]; exact hw) hpd hpd'
     ·obtain ⟨o1, g1, g2, _⟩ := hmem d o h
      exact hp.frs d o1 p g1 (by rw [g2]; exact hw) hpd
    have hat : (H.put c (some (.row sz m f true))).at c = some (.row sz m f true) := by rw [Heap.at_put, if_pos rfl]
    have := eAppend_ok (P := P) (H := H.put c (some (.row sz m f true))) (new := new) (st := st) (xt := xt) (ty := ty) (s := .sl c 0 0 false k none) (x := x) (mode := 1) (w := w) (μ := μ) (vs := vs) (vx := vx)
     (e := ⟨q ∧ (0 < n ∧ 0 < sz ∧ 0 < b ∧ (k + n) * b ≤ 140737488351232 ∧ zl.cells.length = sz ∧ zl.cells.all LV.isCell = true) ∧ sz = sz ∧ 0 + k ≤ m, .sl new 0 0 false (k + n) none, c :: ft, [(c, none), (new, some (.row sz (k + n) (appRow k (fun t => f (0 + t)) g) true))]⟩)
     (by simp only [eAppend, hd, hxd, hxi', hz, hb, hzl, srcOf_put hsrc hct, hat, Bool.false_eq_true, if_false]) ⟨hq, ⟨by omega, r1, r2, r3, r4, r5⟩, rfl, by omega⟩ (Rel.gs_sl hk hs) hx (fun _ => hn) hp'
    obtain ⟨v, w', μ', g1, g2, g3⟩ := this
    refine ⟨v, w', μ', g1, Rel.sl_gs (by omega) g2, g3.swap (fun a o h1 h2 => by obtain ⟨o1, k1, k2, _⟩ := hmem a o h1; exact ⟨o1, k1, by rw [k2]; exact h2⟩) ?_ (fun a h => by simpa [Upd.has] using h)⟩
    intro c' o' hc
    simp only [List.mem_cons, Prod.mk.injEq, reduceCtorEq, and_false, Option.some.injEq, List.not_mem_nil, or_false, false_or] at hc
    obtain ⟨rfl, rfl⟩ := hc
    refine ⟨.row sz (k + n) (appRow k (fun t => f (0 + t)) g) true, by simp, fun _ => rfl, fun h => h.elim, fun p h => ?_⟩
    have : (fun t => f (0 + t)) = f := by funext t; rw [Nat.zero_add]
    rw [this]
    exact ObjOK.row_gr.1
 ·
  rename_i c cp
  split at h <;> try cases h
  rename_i sz m f ho
  split at h <;> cases h
  rename_i hct
  obtain ⟨hq, ⟨r1, r2, r3, r4, r5⟩, rfl, hn1⟩ := hob
  have hn := hn0 (by simp [Upd.has])
  have := eAppend_ok (P := P) (H := H) (new := new) (st := st) (xt := xt) (ty := ty) (s := .sl c 0 0 false 0 cp) (x := x) (mode := 1) (w := w) (μ := μ) (vs := vs) (vx := vx)
   (e := ⟨q ∧ (0 < n ∧ 0 < sz ∧ 0 < b ∧ (0 + n) * b ≤ 140737488351232 ∧ zl.cells.length = sz ∧ zl.cells.all LV.isCell = true) ∧ sz = sz ∧ 0 + 0 ≤ m, .sl new 0 0 false (0 + n) none, c :: ft, [(c, none), (new, some (.row sz (0 + n) (appRow 0 (fun t => f (0 + t)) g) true))]⟩)
   (by simp only [eAppend, hd, hxd, hxi', hz, hb, hzl, hsrc, ho, Bool.false_eq_true, if_false]) ⟨hq, ⟨by omega, r1, r2, r3, r4, r5⟩, rfl, by omega⟩ hs hx (fun _ => hn) hp
  obtain ⟨v, w', μ', g1, g2, g3⟩ := this
  rw [Nat.zero_add] at g2 g3
  refine ⟨v, w', μ', g1, Rel.sl_gs hn1 g2, g3.swap (fun a o h1 h2 => ⟨o, h1, h2⟩) ?_ (fun a h => by simpa [Upd.has] using h)⟩
  intro c' o' hc
  simp only [List.mem_cons, Prod.mk.injEq, reduceCtorEq, and_false, Option.some.injEq, List.not_mem_nil, or_false, false_or] at hc
  obtain ⟨rfl, rfl⟩ := hc
  refine ⟨.row sz n (appRow 0 (fun t => f (0 + t)) g) true, by simp, fun _ => rfl, fun h => h.elim, fun p h => ?_⟩
  have : appRow 0 (fun t => f (0 + t)) g = g := by funext t; simp [appRow]
  rw [this]
  exact ObjOK.row_gr.1
end
end Go.Cn
