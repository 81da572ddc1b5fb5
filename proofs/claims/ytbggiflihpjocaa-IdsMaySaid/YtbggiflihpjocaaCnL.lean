/- Canon, part L: append as a whole; copy onto bytes; bytes of strings and strings of bytes. -/
import Derived.Test.YtbggiflihpjocaaCnK
namespace Go.Cn
open Go

section
variable {P : Program}

/-- append where there is room: the cells behind are written. -/
theorem append_room {st xt ty : TypeId} {el : TypeId} {xd : TypeDesc} {z n len rc rb o : Nat} {vx : Value} {w : World} {app cells : Array Value} {E : TypeId} {fr : Nat × Nat}
    (hd : P.underlying st = some (.slice el)) (hxd : P.underlying xt = some xd) (hxi : isInt xd = false) (hz : tSize P el = some z)
    (hlen : (Builtin.lenOf vx).run P w = .ok n w) (happ : (Builtin.firstCells z n vx).run P w = .ok app w) (hrc : len + n ≤ rc) (ha : app.size = n * z)
    (hb : w.heap[rb]? = some (.cells cells E fr)) (hfr : ∀ k, k < cells.size → ¬ (fr.1 ≤ k ∧ k < fr.2)) (hsz : o + len * z + n * z ≤ cells.size) (hone : ∀ v ∈ app.toList, v.oneCell' = true) :
    (Builtin.append_ #[st, xt] ty #[.slice (some ⟨rb, o, none⟩) len rc, vx]).run P w = .ok (.slice (some ⟨rb, o, none⟩) (len + n) rc) (setB w rb (.cells (splice cells (o + len * z) app.toList) E fr)) := by
  have hadd : (⟨rb, o, none⟩ : Addr).add (len * z) = ⟨rb, o + len * z, none⟩ := by
    unfold Addr.add; split
    · rename_i h0; rw [h0]; rfl
    · rfl
  have hst := run_storeCells' (P := P) (rb := rb) (o := o + len * z) (E := E) (fr := fr) app.toList 0 cells w hb hfr (by simp; omega) hone
  simp only [Nat.add_zero] at hst
  unfold Builtin.append_
  simp only [List.getElem?_toArray, List.getElem?_cons_zero, List.getElem?_cons_succ, Sem.run_bind, run_under hd, run_under hxd, Result.andThen_ok, run_sizeOf' hz, Sem.run_pure]
  cases xd with
  | int k => simp [isInt] at hxi
  | _ => simp only [Bool.false_eq_true, if_false, Sem.run_bind, hlen, Result.andThen_ok, Sem.run_ite, hrc, Bool.not_false, if_true, happ, hadd, hst, Sem.run_pure]

/-- append of nothing. -/
theorem append_none {st xt ty : TypeId} {el : TypeId} {xd : TypeDesc} {z len rc : Nat} {base : Option Addr} {vx : Value} {w : World} {app : Array Value}
    (hd : P.underlying st = some (.slice el)) (hxd : P.underlying xt = some xd) (hxi : isInt xd = false) (hz : tSize P el = some z)
    (hlen : (Builtin.lenOf vx).run P w = .ok 0 w) (happ : (Builtin.firstCells z 0 vx).run P w = .ok app w) (hrc : len ≤ rc) (ha : app.size = 0 * z) :
    (Builtin.append_ #[st, xt] ty #[.slice base len rc, vx]).run P w = .ok (.slice base len rc) w := by
  have happ0 : app = #[] := by apply Array.eq_empty_of_size_eq_zero; omega
  subst happ0
  unfold Builtin.append_
  simp only [List.getElem?_toArray, List.getElem?_cons_zero, List.getElem?_cons_succ, Sem.run_bind, run_under hd, run_under hxd, Result.andThen_ok, run_sizeOf' hz, Sem.run_pure]
  cases xd with
  | int k => simp [isInt] at hxi
  | _ =>
    simp only [Bool.false_eq_true, if_false, Sem.run_bind, hlen, Result.andThen_ok, Sem.run_ite, Nat.add_zero, hrc, Bool.not_false, if_true, happ]
    cases base <;> simp [storeCells]

theorem Delta.fromDrew {μ μ' : Emb} {w w' : World} {pre : Pre} {up : Upd} (d : Delta μ w.drew pre up μ' w') : Delta μ w pre up μ' w' :=
  ⟨d.ext, d.dom, d.os, d.tape, d.output, d.grow, d.keep, d.obj, d.place, d.sep⟩

theorem SrcOK.one {μ : Emb} {g : Nat → List LV} {s n : Nat} {cells : Array Value} (h : SrcOK μ g s n cells) (hs : 0 < s) : ∀ v ∈ cells.toList, v.oneCell' = true := by
  intro v hv
  obtain ⟨k, hk, e⟩ := List.mem_iff_getElem.1 hv
  simp only [Array.length_toList, h.1] at hk
  have hq : k / s < n := by
    rw [Nat.div_lt_iff_lt_mul hs]; exact hk
  obtain ⟨us, h1, h2, h3, h4⟩ := h.2 (k / s) hq
  have hm : k % s < s := Nat.mod_lt _ hs
  have hu : us[k % s]? = some us[k % s] := List.getElem?_eq_getElem (by omega)
  have := h3 _ _ hu
  have e2 : k / s * s + k % s = k := by rw [Nat.mul_comm]; exact Nat.div_add_mod k s
  rw [e2] at this
  have e3 : cells[k]? = some v := by
    rw [← Array.getElem?_toList, List.getElem?_eq_getElem (by simpa [h.1] using hk), e]
  rw [e3] at this
  rw [Option.some.inj this]
  exact h4 _ (List.getElem_mem _)

theorem eAppend_ok {H : Heap} {new : Nat} {st xt ty : TypeId} {s x : LV} {mode : Nat} {vs vx : Value} {e : Eff} {μ : Emb} {w : World} (h : eAppend P H new st xt s x mode = some e) (hob : e.ob) (hs : Rel μ s vs) (hx : Rel μ x vx)
    (hn0 : e.up.has new = true → μ new = none) (hp : PreOK μ (H.pre e.foot) w) : Runs P (Builtin.append_ #[st, xt] ty #[vs, vx]) μ w (H.pre e.foot) e.up e.v := by
  unfold eAppend at h
  split at h <;> try cases h
  rename_i el xd hd hxd
  split at h <;> try cases h
  rename_i hxi
  have hxi : isInt xd = false := by simpa using hxi
  split at h <;> try cases h
  rename_i z b zl hz hb hzl
  split at h <;> try cases h
  rename_i q n g ft hsrc
  dsimp only at h
  have mem_ft : ∀ {c : Nat} {o : LO}, c ∈ ft → H.at c = some o → (c, o) ∈ H.pre ft := fun hc ho => Heap.mem_pre.2 ⟨hc, ho⟩
  -- a slice made anew
  have anew : ∀ (hn : μ new = none) (pre : Pre) (len rc : Nat) (base : Option Addr) (f : Nat → List LV) (old cells : Array Value) (up : Upd), (∀ w' : World, w'.heap = w.heap → (Builtin.firstCells z n vx).run P w' = .ok cells w') → (∀ w' : World, (Builtin.lenOf vx).run P w' = .ok n w') →
      SrcOK μ g z n cells → (∀ w' : World, w'.heap = w.heap → (Builtin.firstCells z len (.slice base len rc)).run P w' = .ok old w') → SrcOK μ f z len old → rc < len + n →
      (0 < n ∧ 0 < z ∧ 0 < b ∧ (len + n) * b ≤ 140737488351232 ∧ zl.cells.length = z ∧ zl.cells.all LV.isCell = true) →
      (∀ (μ' : Emb) (w' : World), Delta μ w pre [(new, some (.row z (len + n) (appRow len f g) true))] μ' w' → Delta μ w pre up μ' w') →
      Runs P (Builtin.append_ #[st, xt] ty #[.slice base len rc, vx]) μ w pre up (.sl new 0 0 false (len + n) none) := by
    intro hn pre len rc base f old cells up h1 h2 h3 k1 k2 hrc hroom hup
    obtain ⟨newCap, rest, hrun, hrest, hcap⟩ := append_anew (ty := ty) hd hxd hxi hz hb hzl (h2 w) h1 k1 hrc hroom k2.1 h3.1
    have hext : Ext μ (μ.set new ⟨w.heap.size, 0, z, newCap⟩) := Emb.ext_set hn
    refine ⟨_, _, μ.set new ⟨w.heap.size, 0, z, newCap⟩, hrun, ?_, hup _ _ (Delta.fromDrew ?_)⟩
    · exact ⟨_, ⟨w.heap.size, 0, none⟩, newCap, Emb.set_self, rfl, hcap, (fun _ h => by cases h), rfl, rfl, fun _ => by simp [Pl.addr], fun _ => ⟨rfl, fun _ => by simp⟩⟩
    · exact Delta.new hn rfl (((k2.append h3).mono hext).row rest hrest hcap)
  split at h <;> try cases h
  · -- nothing, onto nil
    obtain ⟨hq, hn0⟩ := hob
    subst hn0
    obtain ⟨cells, h1, h2, h3⟩ := srcOf_ok (P := P) hsrc hq hx hp (fun _ _ hc ho => mem_ft hc ho)
    simp only [Rel] at hs; subst hs
    exact Runs.same (append_none hd hxd hxi hz (h2 w) (h1 w rfl) (Nat.le_refl _) h3.1) rfl
  · -- nothing
    rename_i c i j inn len cap
    obtain ⟨hq, hn0⟩ := hob
    subst hn0
    obtain ⟨cells, h1, h2, h3⟩ := srcOf_ok (P := P) hsrc hq hx hp (fun _ _ hc ho => mem_ft hc ho)
    obtain ⟨p, a, rc, hpc, rfl, hlen, r⟩ := hs
    exact Runs.same (append_none hd hxd hxi hz (h2 w) (h1 w rfl) hlen h3.1) ⟨p, a, rc, hpc, rfl, hlen, r⟩
  · -- onto nil
    obtain ⟨hq, hroom⟩ := hob
    obtain ⟨cells, h1, h2, h3⟩ := srcOf_ok (P := P) hsrc hq hx hp (fun _ _ hc ho => mem_ft hc ho)
    simp only [Rel] at hs; subst hs
    have := anew (hn0 (by simp [Upd.has])) (H.pre ft) 0 0 none (fun _ => []) #[] cells [(new, some (.row z n g true))] h1 h2 h3 (fun w' _ => by simp [Builtin.firstCells]) ⟨by simp, fun q hq => by omega⟩ (by omega) hroom
      (fun μ' w' d => by
        have e : appRow 0 (fun _ => ([] : List LV)) g = g := by funext t; simp [appRow]
        rw [e, Nat.zero_add] at d
        exact d)
    rw [Nat.zero_add] at this
    exact this
  · -- where it lies, or anew
    rename_i c i j len cap
    split at h <;> cases h
    rename_i sz m f ho
    obtain ⟨hq, hroom, rfl, him⟩ := hob
    have hpc0 : (c, LO.row sz m f true) ∈ H.pre (c :: ft) := Heap.mem_pre.2 ⟨List.mem_cons_self, ho⟩
    obtain ⟨cells, h1, h2, h3⟩ := srcOf_ok (P := P) hsrc hq hx hp (fun _ _ hc ho => Heap.mem_pre.2 ⟨List.mem_cons_of_mem _ hc, ho⟩)
    obtain ⟨p, a, rc, hpc, rfl, hlen, hcap, hsp, hbl, haddr, hinn⟩ := hs
    obtain ⟨p', hpc', hok⟩ := hp.obj c _ hpc0
    obtain rfl := Option.some.inj (hpc'.symm.trans hpc)
    have hlt := hok.lt
    have hok0 := hok
    obtain ⟨k1, k2, bcells, E, fr, hbk, hsz, hfr, hel⟩ := hok
    have hj := (hinn rfl).1
    subst hj
    have hn : μ new = none := hn0 (by simp [Upd.has])
    have hcd : c ≠ new := fun e => by subst e; rw [hn] at hpc; cases hpc
    -- what was there
    have hold := srcOf_ok (P := P) (H := H) (s := sz) (x := .sl c i 0 false len cap) (g := fun q => f (i + q)) (n := len) (ft := [c]) (q := sz = sz ∧ i + len ≤ m) (w := w) (μ := μ) (vx := .slice (some a) len rc) (by simp [srcOf, ho]) ⟨rfl, him⟩
      ⟨p', a, rc, hpc, rfl, hlen, hcap, hsp, hbl, haddr, hinn⟩ hp (fun c' o' hc' ho' => by
        simp only [List.mem_singleton] at hc'; subst hc'; rw [ho] at ho'; cases ho'; exact hpc0)
    obtain ⟨old, o1, o2, o3⟩ := hold
    by_cases hrc : len + n ≤ rc
    · -- there is room
      have ha := haddr (by omega)
      have hiext := (hinn rfl).2 (by omega)
      subst ha
      have hcs : bcells.size ≥ p'.off + (i + rc) * sz := by
        have : (i + rc) * sz ≤ p'.ext * sz := Nat.mul_le_mul_right _ hiext
        omega
      have hrcs : (len + n) * sz ≤ rc * sz := Nat.mul_le_mul_right _ hrc
      rw [Nat.add_mul] at hrcs hcs
      have hrun := append_room (P := P) (ty := ty) (o := p'.off + i * sz) hd hxd hxi hz (h2 w) (h1 w rfl) hrc h3.1 hbk (hfr rfl) (by omega) (h3.one hroom.2.1)
      have hext : Ext μ (μ.set new ⟨p'.rb, p'.off + i * sz, sz, rc⟩) := Emb.ext_set hn
      refine ⟨.slice (some ⟨p'.rb, p'.off + i * sz, none⟩) (len + n) rc, setB w p'.rb (.cells (splice bcells (p'.off + i * sz + len * sz) cells.toList) E fr), μ.set new ⟨p'.rb, p'.off + i * sz, sz, rc⟩, ?_, ?_, ?_⟩
      · rw [← hrun]
        simp [Pl.addr, k1]
      · exact ⟨_, ⟨p'.rb, p'.off + i * sz, none⟩, rc, Emb.set_self, rfl, hrc, (fun _ h => by cases h), rfl, rfl, fun _ => by simp [Pl.addr], fun _ => ⟨rfl, fun _ => by simp⟩⟩
      · refine Delta.move hpc hpc0 rfl hlt hn rfl ⟨rfl, hrc, _, E, fr, rfl, by rw [splice_size]; show p'.off + i * sz + rc * sz ≤ _; omega, fun _ => by rw [splice_size]; exact hfr rfl, fun t ht => ?_⟩
        show ∃ vs, RelL _ (appRow len (fun t => f (i + t)) g t) vs ∧ _
        unfold appRow
        have hal : cells.toList.length = n * sz := by simpa using h3.1
        by_cases htl : t < len
        · rw [if_pos htl]
          obtain ⟨us, a1, a2, a3, a4⟩ := hel (i + t) (by omega)
          refine ⟨us, a1.mono hext, a2, ?_, a4⟩
          have hts := mul_lt_next (s := sz) htl
          have e1 : p'.off + (i + t) * sz = p'.off + i * sz + t * sz := by rw [Nat.add_mul]; omega
          rw [e1] at a3
          intro k v hk
          have hkl : k < us.length := (List.getElem?_eq_some_iff.1 hk).1
          show (splice bcells (p'.off + i * sz + len * sz) cells.toList)[p'.off + i * sz + t * sz + k]? = some v
          rw [splice_get _ _ _ _ (by omega), if_neg (by omega)]
          exact a3 k v hk
        · rw [if_neg htl]
          obtain ⟨us, a1, a2, a3, a4⟩ := h3.2 (t - len) (by omega)
          refine ⟨us, a1.mono hext, a2, ?_, a4⟩
          have hts := mul_lt_next (s := sz) (show t - len < n by omega)
          have e1 : t * sz = len * sz + (t - len) * sz := by rw [← Nat.add_mul]; congr 1; omega
          intro k v hk
          have hkl : k < us.length := (List.getElem?_eq_some_iff.1 hk).1
          show (splice bcells (p'.off + i * sz + len * sz) cells.toList)[p'.off + i * sz + t * sz + k]? = some v
          rw [splice_get _ _ _ _ (by omega), if_pos (by omega)]
          rw [show p'.off + i * sz + t * sz + k - (p'.off + i * sz + len * sz) = (t - len) * sz + k from by omega, Array.getElem?_toList]
          exact a3 k v hk
    · -- anew
      refine anew hn (H.pre (c :: ft)) len rc (some a) (fun t => f (i + t)) old cells _ h1 h2 h3 o1 o3 (by omega) hroom (fun μ' w' d => ?_)
      exact { d with
        dom := fun e q hq => (d.dom e q hq).imp id (fun ⟨h, h'⟩ => ⟨by rw [Upd.has_one] at h; subst h; simp [Upd.has], h'⟩)
        keep := fun b hb _ => d.keep b hb (fun c0 o0 p0 hm hw hu hm0 e => by
          rw [Upd.has_one] at hu; subst hu; rw [hn] at hm0; cases hm0)
        obj := fun e q hq => d.obj e q (by simp only [List.mem_cons, Prod.mk.injEq, reduceCtorEq, and_false, List.not_mem_nil, or_false, false_or] at hq ⊢; exact hq)
        place := fun e q r hq hr => by
          rcases d.place e q r (by simp only [List.mem_cons, Prod.mk.injEq, reduceCtorEq, and_false, List.not_mem_nil, or_false, false_or] at hq ⊢; exact hq) hr with h | ⟨c0, o0, p0, g1, g2, g3, g4, g5⟩
          · exact .inl h
          · rw [Upd.has_one] at g3; subst g3; rw [hn] at g4; cases g4
        sep := fun e q e' q' r r' hq hq' => d.sep e q e' q' r r' (by simp only [List.mem_cons, Prod.mk.injEq, reduceCtorEq, and_false, List.not_mem_nil, or_false, false_or] at hq ⊢; exact hq) (by simp only [List.mem_cons, Prod.mk.injEq, reduceCtorEq, and_false, List.not_mem_nil, or_false, false_or] at hq' ⊢; exact hq') }
  · -- surely anew
    rename_i c i j len k
    split at h <;> cases h
    rename_i sz m f wr ho
    obtain ⟨hq, hroom, rfl, him, hk⟩ := hob
    have hpc0 : (c, LO.row sz m f wr) ∈ H.pre (c :: ft) := Heap.mem_pre.2 ⟨List.mem_cons_self, ho⟩
    obtain ⟨cells, h1, h2, h3⟩ := srcOf_ok (P := P) hsrc hq hx hp (fun _ _ hc ho => Heap.mem_pre.2 ⟨List.mem_cons_of_mem _ hc, ho⟩)
    obtain ⟨p, a, rc, hpc, rfl, hlen, hcap, hsp, hbl, haddr, hinn⟩ := hs
    have hrck := hcap k rfl
    have hj := (hinn rfl).1
    subst hj
    have hold := srcOf_ok (P := P) (H := H) (s := sz) (x := .sl c i 0 false len (some k)) (g := fun q => f (i + q)) (n := len) (ft := [c]) (q := sz = sz ∧ i + len ≤ m) (w := w) (μ := μ) (vx := .slice (some a) len rc) (by simp [srcOf, ho]) ⟨rfl, him⟩
      ⟨p, a, rc, hpc, rfl, hlen, hcap, hsp, hbl, haddr, hinn⟩ hp (fun c' o' hc' ho' => by
        simp only [List.mem_singleton] at hc'; subst hc'; rw [ho] at ho'; cases ho'; exact hpc0)
    obtain ⟨old, o1, o2, o3⟩ := hold
    exact anew (hn0 (by simp [Upd.has])) (H.pre (c :: ft)) len rc (some a) (fun t => f (i + t)) old cells _ h1 h2 h3 o1 o3 (by omega) hroom (fun _ _ d => d)
  · -- onto a slice without room
    obtain ⟨hq, hroom⟩ := hob
    obtain ⟨cells, h1, h2, h3⟩ := srcOf_ok (P := P) hsrc hq hx hp (fun _ _ hc ho => mem_ft hc ho)
    obtain ⟨p, a, rc, hpc, rfl, hlen, hcap, _⟩ := hs
    obtain rfl := hcap 0 rfl
    have := anew (hn0 (by simp [Upd.has])) (H.pre ft) 0 0 (some a) (fun _ => []) #[] cells [(new, some (.row z n g true))] h1 h2 h3 (fun w' _ => by simp [Builtin.firstCells, loadCells, loadCellsFrom]) ⟨by simp, fun q hq => by omega⟩ (by omega) hroom
      (fun μ' w' d => by
        have e : appRow 0 (fun _ => ([] : List LV)) g = g := by funext t; simp [appRow]
        rw [e, Nat.zero_add] at d
        exact d)
    rw [Nat.zero_add] at this
    exact this
end
end Go.Cn
