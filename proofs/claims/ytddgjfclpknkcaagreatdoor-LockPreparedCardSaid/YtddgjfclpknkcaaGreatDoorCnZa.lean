import Derived.Test.YtddgjfclpknkcaaGreatDoorCnZ
import Derived.Test.YtddgjfclpknkcaaGreatDoorCnXb
namespace Go.Cn
open Go Go.RowKit
set_option linter.unusedSectionVars false
theorem PreOK.below {μ : Emb} {pre : Pre} {w w' : World} (h : PreOK μ pre w) (hb : ∀ b, b < w.heap.size → w'.heap[b]? = w.heap[b]?) : PreOK μ pre w' :=
 have at' : ∀ c o p, (c, o) ∈ pre → μ c = some p → w'.heap[p.rb]? = w.heap[p.rb]? := fun c o p hc hp => hb _ (h.placed hc hp).lt
 have xb : ∀ c o p b, (c, o) ∈ pre → μ c = some p → Xtra μ w' p o b → Xtra μ w p o b := fun c o p b hc hp hx => Xtra.back (h.xok c o p hc hp) (Ext.refl μ) (at' c o p hc hp) hx
 {obj' := fun c o hc => (h.obj' c o hc).imp id fun ⟨p, h1, h2⟩ => ⟨p, h1, by rw [at' c o p hc h1]; exact h2⟩
  sep := h.sep
  fro := fun b cs hf => by
   obtain ⟨E, fr, hx⟩ := h.fro b cs hf
   exact ⟨E, fr, (hb b (Array.getElem?_eq_some_iff.1 hx).1).trans hx⟩
  frs := h.frs
  tab := h.tab
  xok := fun c o p hc hp => (h.xok c o p hc hp).keep (Ext.refl μ) (at' c o p hc hp) fun b hx => hb b (Xtra.lt (h.xok c o p hc hp) hx)
  xsep := fun c o p b c' o' p' hc hp hx hc' hp' => by
   have := h.xsep c o p b c' o' p' hc hp (xb c o p b hc hp hx) hc' hp'
   exact ⟨this.1, fun hne hx' => this.2 hne (xb c' o' p' b hc' hp' hx')⟩
  xfrs := fun c o p b hc hp hx => h.xfrs c o p b hc hp (xb c o p b hc hp hx) }
theorem PreOK.sub {μ : Emb} {pre full : Pre} {w : World} (hp : PreOK μ full w) (h : ∀ z ∈ pre, z ∈ full) : PreOK μ pre w :=
 {obj' := fun c o hc => hp.obj' c o (h _ hc)
  sep := fun c o c' o' p p' hc hc' => hp.sep c o c' o' p p' (h _ hc) (h _ hc')
  fro := hp.fro
  frs := fun c o p hc => hp.frs c o p (h _ hc)
  tab := hp.tab
  xok := fun c o p hc => hp.xok c o p (h _ hc)
  xsep := fun c o p b c' o' p' hc h1 h2 hc' => hp.xsep c o p b c' o' p' (h _ hc) h1 h2 (h _ hc')
  xfrs := fun c o p b hc => hp.xfrs c o p b (h _ hc) }
section
open Go.Sort Go.Proofs
theorem PreOK.apart {μ : Emb} {pre : Pre} {w w' : World} {x : Nat} (h : PreOK μ pre w) (hb : ∀ b, b < w.heap.size → b ≠ x → w'.heap[b]? = w.heap[b]?) (hx : ∀ c o p, (c, o) ∈ pre → μ c = some p → p.rb ≠ x ∧ ¬ Xtra μ w p o x) (hf : μ.fro x = none) : PreOK μ pre w' :=
 have at' : ∀ c o p, (c, o) ∈ pre → μ c = some p → w'.heap[p.rb]? = w.heap[p.rb]? := fun c o p hc hp => hb _ (h.placed hc hp).lt (hx c o p hc hp).1
 have xb : ∀ c o p b, (c, o) ∈ pre → μ c = some p → Xtra μ w' p o b → Xtra μ w p o b := fun c o p b hc hp hx => Xtra.back (h.xok c o p hc hp) (Ext.refl μ) (at' c o p hc hp) hx
 {obj' := fun c o hc => (h.obj' c o hc).imp id fun ⟨p, h1, h2⟩ => ⟨p, h1, by rw [at' c o p hc h1]; exact h2⟩
  sep := h.sep
  fro := fun b cs hfr => by
   obtain ⟨E, fr, hxx⟩ := h.fro b cs hfr
   exact ⟨E, fr, (hb b (Array.getElem?_eq_some_iff.1 hxx).1 (fun e => by rw [e, hf] at hfr; cases hfr)).trans hxx⟩
  frs := h.frs
  tab := h.tab
  xok := fun c o p hc hp => (h.xok c o p hc hp).keep (Ext.refl μ) (at' c o p hc hp) fun b hxx => hb b (Xtra.lt (h.xok c o p hc hp) hxx) (fun e => (hx c o p hc hp).2 (e ▸ hxx))
  xsep := fun c o p b c' o' p' hc hp hx hc' hp' => by
   have := h.xsep c o p b c' o' p' hc hp (xb c o p b hc hp hx) hc' hp'
   exact ⟨this.1, fun hne hx' => this.2 hne (xb c' o' p' b hc' hp' hx')⟩
  xfrs := fun c o p b hc hp hx => h.xfrs c o p b hc hp (xb c o p b hc hp hx) }
theorem Delta.same {μ : Emb} {pre : Pre} {w : World} {c : Nat} {o : LO} (hp : PreOK μ pre w) (hm : (c, o) ∈ pre) (hw : o.wr = true) (hpl : o.plain = true) : Delta μ w pre [(c, some o)] μ w :=
 have one : ∀ {e r}, (e, some r) ∈ ([(c, some o)] : Upd) → e = c ∧ r = o := fun h => by simpa using h
 Delta0.to ⟨Ext.refl μ, fun _ _ h => .inl h, rfl, rfl, rfl, fun _ => Nat.le_refl _, Nat.le_refl _, fun _ _ _ => rfl, fun e r h => by obtain ⟨rfl, rfl⟩ := one h; exact hp.obj' _ _ hm,
  fun e r q h hq => by obtain ⟨rfl, rfl⟩ := one h; exact .inr ⟨_, _, q, hm, hw, by simp [Upd.has], hq, rfl⟩, fun e r e' r' q q' h h' hne => absurd ((one h).1.trans (one h').1.symm) hne, fun _ _ h => .inl h,
  fun hf e r q h _ hq => by obtain ⟨rfl, rfl⟩ := one h; exact hf.2 _ _ q hm hw hq⟩ (by simp [Upd.plain, hpl])
theorem collect_fin {α : Type} [Inhabited α] {enc : α → List LV} {kc : α → List Value} {k : Nat} (henc : ∀ φ x, RelFL φ (enc x) (kc x)) (hk : ∀ x, (kc x).length = k) (h1 : ∀ x, ∀ v ∈ kc x, v.oneCell' = true)
  {μ : Emb} {pre : Pre} {w w' : World} {v : Value} {ss ks : List α} {T : TypeId} {new : Nat} (hn : μ new = none) (hp : PreOK μ pre w) (hb : Below w.heap.size w w') (hd : w.drawn ≤ w'.drawn) (ho : w'.ownsRow w.heap.size T k v ss.length (ss.flatMap kc)) (hnil : v = .slice none 0 0 ↔ ss = []) (hpm : ss.Perm ks) :
  ∃ μ', Rel μ' (.gs new ks.length) v ∧ Delta μ w pre [(new, some (.bag k ((Bag.of ks).map enc)))] μ' w' := by
 have one : ∀ {c r}, (c, some r) ∈ ([(new, some (LO.bag k ((Bag.of ks).map enc)))] : Upd) → c = new ∧ r = .bag k ((Bag.of ks).map enc) := fun h => by simpa using h
 have hq : (Bag.of ks).map enc = Bag.of (ss.map enc) := (Bag.sound (hpm.map enc)).symm
 have hlen := hpm.length_eq
 rcases ho.2 with ⟨rfl, h0⟩ | ⟨g, cap, cur, rfl, hg, hcur, hc1, hc2, hs, ht⟩
 ·have hss := List.eq_nil_of_length_eq_zero h0
  subst hss
  have hks : ks = [] := List.eq_nil_of_length_eq_zero (by rw [← hlen]; rfl)
  subst hks
  refine ⟨μ, .inl ⟨rfl, rfl⟩, Delta0.to ⟨Ext.refl μ, fun c p h => .inl h, hb.os, hb.tape, hb.output, (fun _ => hd), hb.size, fun b h _ => hb.block b h, fun c o h => ?_, fun c o p h hq => ?_, fun c o c' o' p p' h h' hne => absurd ((one h).1.trans (one h').1.symm) hne, fun b cs h => .inl h, fun _ c o p h _ hq => ?_⟩ rfl⟩
  ·obtain ⟨rfl, rfl⟩ := one h; exact .inl ⟨hn, rfl⟩
  ·obtain ⟨rfl, rfl⟩ := one h; rw [hn] at hq; cases hq
  ·obtain ⟨rfl, rfl⟩ := one h; rw [hn] at hq; cases hq
 ·have hset : (μ.set new ⟨g, 0, k, cap⟩) new = some ⟨g, 0, k, cap⟩ := Emb.set_self
  by_cases h0 : ks.length = 0
  ·have hks := List.eq_nil_of_length_eq_zero h0
   subst hks
   have hss := List.eq_nil_of_length_eq_zero hlen
   cases hnil.2 hss
  refine ⟨μ.set new ⟨g, 0, k, cap⟩, .inr ⟨h0, _, cap, hset, by rw [hlen]; simp [Pl.addr], by omega, Nat.le_refl _⟩, Delta0.to ⟨Emb.ext_set hn, fun c p h => ?_, hb.os, hb.tape, hb.output, (fun _ => hd), hb.size, fun b h _ => hb.block b h, fun c o h => ?_, fun c o p h hq => ?_, fun c o c' o' p p' h h' hne => absurd ((one h).1.trans (one h').1.symm) hne, fun b cs h => .inl h, fun hf c o p h _ hq => ?_⟩ rfl⟩
  ·rw [Emb.set_at] at h
   split at h
   ·rename_i e; subst e; exact .inr ⟨by simp [Upd.has], hn⟩
   ·exact .inl h
  ·obtain ⟨rfl, rfl⟩ := one h
   refine .inr ⟨_, hset, ss.map enc, hq.symm, rfl, by rw [List.length_map]; exact hc1, cur, T, (0, 0), hcur, by rw [Nat.zero_add, hs]; exact Nat.le_refl _, fun o _ => by simp, fun i hi => ⟨kc (ss.getD i default), ?_, hk _, fun j u hu => ?_, h1 _⟩⟩
   ·rw [List.length_map] at hi
    have : (ss.map enc).getD i [] = enc (ss.getD i default) := by
     simp only [List.getD_eq_getElem?_getD, List.getElem?_map, List.getElem?_eq_getElem hi, Option.map_some, Option.getD_some]
    show RelFL _ ((ss.map enc).getD i []) _
    rw [this]; exact henc _ _
   ·rw [List.length_map] at hi
    have hj : j < k := by rw [← hk (ss.getD i default)]; exact (List.getElem?_eq_some_iff.1 hu).1
    have h2 := flat_at kc k hk ss i j hi hj
    rw [hu, ← ht, List.getElem?_take] at h2
    split at h2
    ·simpa using h2
    ·cases h2
  ·obtain ⟨rfl, rfl⟩ := one h
   rw [hset] at hq; cases hq
   exact .inl hg
  ·obtain ⟨rfl, rfl⟩ := one h
   rw [hset] at hq; cases hq
   cases hfr : (μ.set c ⟨g, 0, k, cap⟩).fro g with
   | none => rfl
   | some cs => have := hf.1 _ _ hfr; omega
end
end Go.Cn
