import Derived.Test.YtljjdeanilgloaaGreatDoorCnZ
import Derived.Test.YtljjdeanilgloaaGreatDoorCnXb
set_option linter.unusedVariables false
set_option linter.unusedSimpArgs false
namespace Go.Cn
open Go Go.RowKit
set_option linter.unusedSectionVars false
theorem PreOK.below {μ : Emb} {pre : Pre} {w w' : World} (h : PreOK μ pre w) (hb : ∀ b, b < w.heap.size → w'.heap[b]? = w.heap[b]?) : PreOK μ pre w' :=
 have at' : ∀ c o p, (c, o) ∈ pre → μ c = some p → w'.heap[p.rb]? = w.heap[p.rb]? := fun c o p hc hp => hb _ (h.placed hc hp).lt
 have xb : ∀ c o p b, (c, o) ∈ pre → μ c = some p → Xtra μ w' p o b → Xtra μ w p o b := fun c o p b hc hp hx => Xtra.back (h.xok c o p hc hp) (Ext.refl μ) (at' c o p hc hp) (fun b hx => hb b (Xtra.lt (h.xok c o p hc hp) hx)) hx
 {obj' := fun c o hc => (h.obj' c o hc).imp id fun ⟨p, h1, h2⟩ => ⟨p, h1, by rw [at' c o p hc h1]; exact h2⟩
  sep := h.sep
  fro := fun b cs hf => by
   obtain ⟨E, fr, hx⟩ := h.fro b cs hf
   exact ⟨E, fr, (hb b (Array.getElem?_eq_some_iff.1 hx).1).trans hx⟩
  frs := h.frs
  tab := h.tab
  xok := fun c o p hc hp => (h.xok c o p hc hp).keep (Ext.refl μ) (at' c o p hc hp) fun b hx => hb b (Xtra.lt (h.xok c o p hc hp) hx)
  xsep := fun c o p b c' o' p' hc hp hx hc' hp' => by
   have := h.xsep c o p b c' o' p' hc hp (xb c o p b hc hp hx) hc' hp'
   exact ⟨this.1, fun hne hx' => this.2 hne (xb c' o' p' b hc' hp' hx')⟩
  xfrs := fun c o p b hc hp hx => h.xfrs c o p b hc hp (xb c o p b hc hp hx) }
theorem PreOK.sub {μ : Emb} {pre full : Pre} {w : World} (hp : PreOK μ full w) (h : ∀ z ∈ pre, z ∈ full) : PreOK μ pre w :=
 {obj' := fun c o hc => hp.obj' c o (h _ hc)
  sep := fun c o c' o' p p' hc hc' => hp.sep c o c' o' p p' (h _ hc) (h _ hc')
  fro := hp.fro
  frs := fun c o p hc => hp.frs c o p (h _ hc)
  tab := hp.tab
  xok := fun c o p hc => hp.xok c o p (h _ hc)
  xsep := fun c o p b c' o' p' hc h1 h2 hc' => hp.xsep c o p b c' o' p' (h _ hc) h1 h2 (h _ hc')
  xfrs := fun c o p b hc => hp.xfrs c o p b (h _ hc) }
section
open Go.Sort Go.Proofs
theorem cmp_of_triX {P : Program} {α : Type} [Inhabited α] {g : FuncId} {ek : α → LV} {enc : α → List Value} {cf : α → α → Int} {caps : List LV} {pre : Pre} (h : ∀ x y, FnTri P g (ek x :: ek y :: caps) pre (.int .i64 (cf x y)) [])
  (hr : ∀ μ x, Rel μ (ek x) (.agg (enc x).toArray)) {μ : Emb} {w : World} (hp : PreOK μ pre w) {vc : List Value} (hc : RelL μ caps vc) {w1 : World} (hB : Below w.heap.size w w1) {blk : Nat} (hblk : w.heap.size ≤ blk) (k off size : Nat) :
  CmpLays P g vc.toArray enc k cf blk off size w1 := by
 intro m os dk _ x y
 have hW := (below_sort enc k w1 blk off m dk os w.heap.size hblk hB.size).1
 generalize sortWorldK enc k w1 blk off m dk os = W at hW
 have hbl := hB.trans hW
 have := (h x y).2 μ W (.agg (enc x).toArray :: .agg (enc y).toArray :: vc) ⟨_, _, rfl, hr _ x, _, _, rfl, hr _ y, hc⟩ (hp.below fun b hb => hbl.block b hb) (fun c hc => by simp [Upd.has] at hc)
 have e : (#[Value.agg (enc x).toArray, Value.agg (enc y).toArray] ++ vc.toArray : Array Value) = (Value.agg (enc x).toArray :: Value.agg (enc y).toArray :: vc).toArray := by apply Array.ext'; simp
 rw [e]
 refine this.mono ?_
 rintro en w' ⟨v, μ', rfl, hv, hd⟩
 simp only [Rel] at hv
 subst hv
 exact ⟨rfl, drawn_back W w' hd.os hd.tape hd.output (hd.draws rfl) hd.grow (fun b hb => hd.keep b hb (fun ⟨c, o, p, _, _, h, _⟩ => by simp [Upd.has] at h))⟩
theorem PreOK.apart {μ : Emb} {pre : Pre} {w w' : World} {x : Nat} (h : PreOK μ pre w) (hb : ∀ b, b < w.heap.size → b ≠ x → w'.heap[b]? = w.heap[b]?) (hx : ∀ c o p, (c, o) ∈ pre → μ c = some p → p.rb ≠ x ∧ ¬ Xtra μ w p o x) (hf : μ.fro x = none) : PreOK μ pre w' :=
 have at' : ∀ c o p, (c, o) ∈ pre → μ c = some p → w'.heap[p.rb]? = w.heap[p.rb]? := fun c o p hc hp => hb _ (h.placed hc hp).lt (hx c o p hc hp).1
 have xb : ∀ c o p b, (c, o) ∈ pre → μ c = some p → Xtra μ w' p o b → Xtra μ w p o b := fun c o p b hc hp hy => Xtra.back (h.xok c o p hc hp) (Ext.refl μ) (at' c o p hc hp) (fun b hxx => hb b (Xtra.lt (h.xok c o p hc hp) hxx) (fun e => (hx c o p hc hp).2 (e ▸ hxx))) hy
 {obj' := fun c o hc => (h.obj' c o hc).imp id fun ⟨p, h1, h2⟩ => ⟨p, h1, by rw [at' c o p hc h1]; exact h2⟩
  sep := h.sep
  fro := fun b cs hfr => by
   obtain ⟨E, fr, hxx⟩ := h.fro b cs hfr
   exact ⟨E, fr, (hb b (Array.getElem?_eq_some_iff.1 hxx).1 (fun e => by rw [e, hf] at hfr; cases hfr)).trans hxx⟩
  frs := h.frs
  tab := h.tab
  xok := fun c o p hc hp => (h.xok c o p hc hp).keep (Ext.refl μ) (at' c o p hc hp) fun b hxx => hb b (Xtra.lt (h.xok c o p hc hp) hxx) (fun e => (hx c o p hc hp).2 (e ▸ hxx))
  xsep := fun c o p b c' o' p' hc hp hx hc' hp' => by
   have := h.xsep c o p b c' o' p' hc hp (xb c o p b hc hp hx) hc' hp'
   exact ⟨this.1, fun hne hx' => this.2 hne (xb c' o' p' b hc' hp' hx')⟩
  xfrs := fun c o p b hc hp hx => h.xfrs c o p b hc hp (xb c o p b hc hp hx) }
theorem Delta.same {μ : Emb} {pre : Pre} {w : World} {c : Nat} {o : LO} (hp : PreOK μ pre w) (hm : (c, o) ∈ pre) (hw : o.wr = true) (hpl : o.plain = true) : Delta μ w pre [(c, some o)] μ w :=
 have one : ∀ {e r}, (e, some r) ∈ ([(c, some o)] : Upd) → e = c ∧ r = o := fun h => by simpa using h
 Delta0.to ⟨Ext.refl μ, fun _ _ h => .inl h, rfl, rfl, rfl, fun _ => Nat.le_refl _, Nat.le_refl _, fun _ _ _ => rfl, fun e r h => by obtain ⟨rfl, rfl⟩ := one h; exact hp.obj' _ _ hm,
  fun e r q h hq => by obtain ⟨rfl, rfl⟩ := one h; exact .inr ⟨_, _, q, hm, hw, by simp [Upd.has], hq, rfl⟩, fun e r e' r' q q' h h' hne => absurd ((one h).1.trans (one h').1.symm) hne, fun _ _ h => .inl h,
  fun hf e r q h _ hq => by obtain ⟨rfl, rfl⟩ := one h; exact hf.2 _ _ q hm hw hq⟩ (by simp [Upd.plain, hpl])
end
end Go.Cn
