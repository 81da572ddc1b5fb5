/- Canon, part Za: sorting: a comparing function that reads objects; slices.SortFunc at a row of the call's own. -/
import Derived.Test.YteigbcpbehddoaaCnZ
import Derived.Test.YteigbcpbehddoaaCnXa
set_option linter.unusedVariables false
set_option linter.unusedSimpArgs false
namespace Go.Cn
open Go Go.RowKit

/-- Where all old blocks stand, the objects do. -/
theorem PreOK.below {μ : Emb} {pre : Pre} {w w' : World} (h : PreOK μ pre w) (hb : ∀ b, b < w.heap.size → w'.heap[b]? = w.heap[b]?) : PreOK μ pre w' :=
  have at' : ∀ c o p, (c, o) ∈ pre → μ c = some p → w'.heap[p.rb]? = w.heap[p.rb]? := fun c o p hc hp => hb _ (h.placed hc hp).lt
  have xb : ∀ c o p b, (c, o) ∈ pre → μ c = some p → Xtra μ w' p o b → Xtra μ w p o b := fun c o p b hc hp hx => Xtra.back (h.xok c o p hc hp) (Ext.refl μ) (at' c o p hc hp) hx
  { obj' := fun c o hc => (h.obj' c o hc).imp id fun ⟨p, h1, h2⟩ => ⟨p, h1, by rw [at' c o p hc h1]; exact h2⟩
    sep := h.sep
    fro := fun b cs hf => by
      obtain ⟨E, fr, hx⟩ := h.fro b cs hf
      exact ⟨E, fr, (hb b (Array.getElem?_eq_some_iff.1 hx).1).trans hx⟩
    frs := h.frs
    tab := h.tab
    xok := fun c o p hc hp => (h.xok c o p hc hp).keep (Ext.refl μ) (at' c o p hc hp) fun b hx => hb b (Xtra.lt (h.xok c o p hc hp) hx)
    xsep := fun c o p b c' o' p' hc hp hx hc' hp' => by
      have := h.xsep c o p b c' o' p' hc hp (xb c o p b hc hp hx) hc' hp'
      exact ⟨this.1, fun hne hx' => this.2 hne (xb c' o' p' b hc' hp' hx')⟩
    xfrs := fun c o p b hc hp hx => h.xfrs c o p b hc hp (xb c o p b hc hp hx) }

theorem PreOK.sub {μ : Emb} {pre full : Pre} {w : World} (hp : PreOK μ full w) (h : ∀ z ∈ pre, z ∈ full) : PreOK μ pre w :=
  { obj' := fun c o hc => hp.obj' c o (h _ hc)
    sep := fun c o c' o' p p' hc hc' => hp.sep c o c' o' p p' (h _ hc) (h _ hc')
    fro := hp.fro
    frs := fun c o p hc => hp.frs c o p (h _ hc)
    tab := hp.tab
    xok := fun c o p hc => hp.xok c o p (h _ hc)
    xsep := fun c o p b c' o' p' hc h1 h2 hc' => hp.xsep c o p b c' o' p' (h _ hc) h1 h2 (h _ hc')
    xfrs := fun c o p b hc => hp.xfrs c o p b (h _ hc) }
theorem det_intL {μ : Emb} {k : IntKind} {a : Int} {cs : List LV} {vs : List Value} (h : RelL μ (.int k a :: cs) vs) : ∃ r, vs = .int k a :: r ∧ RelL μ cs r := by
  obtain ⟨v, r, rfl, hv, hr⟩ := h
  simp only [Rel] at hv
  subst hv
  exact ⟨r, rfl, hr⟩

section
open Go.Sort Go.Proofs
/-- A comparing function with a contract that turns nothing, at a row that is newer than what it reads. -/
theorem cmp_of_triX {P : Program} {α : Type} [Inhabited α] {g : FuncId} {ek : α → LV} {enc : α → List Value} {cf : α → α → Int} {caps : List LV} {pre : Pre} (h : ∀ x y, FnTri P g (ek x :: ek y :: caps) pre (.int .i64 (cf x y)) [])
    (hr : ∀ μ x, Rel μ (ek x) (.agg (enc x).toArray)) {μ : Emb} {w : World} (hp : PreOK μ pre w) {vc : List Value} (hc : RelL μ caps vc) {w1 : World} (hB : Below w.heap.size w w1) {blk : Nat} (hblk : w.heap.size ≤ blk) (k off size : Nat) :
    CmpLays P g vc.toArray enc k cf blk off size w1 := by
  intro m os dk _ x y
  have hW := (below_sort enc k w1 blk off m dk os w.heap.size hblk hB.size).1
  generalize sortWorldK enc k w1 blk off m dk os = W at hW
  have hbl := hB.trans hW
  have := (h x y).2 μ W (.agg (enc x).toArray :: .agg (enc y).toArray :: vc) ⟨_, _, rfl, hr _ x, _, _, rfl, hr _ y, hc⟩ (hp.below fun b hb => hbl.block b hb) (fun c hc => by simp [Upd.has] at hc)
  have e : (#[Value.agg (enc x).toArray, Value.agg (enc y).toArray] ++ vc.toArray : Array Value) = (Value.agg (enc x).toArray :: Value.agg (enc y).toArray :: vc).toArray := by apply Array.ext'; simp
  rw [e]
  refine this.mono ?_
  rintro en w' ⟨v, μ', rfl, hv, hd⟩
  simp only [Rel] at hv
  subst hv
  exact ⟨rfl, drawn_back W w' hd.os hd.tape hd.output (hd.draws rfl) hd.grow (fun b hb => hd.keep b hb (fun ⟨c, o, p, _, _, h, _⟩ => by simp [Upd.has] at h))⟩

theorem relF_fixed {μ : Emb} {α : Type} {enc : α → List LV} {kc : α → List Value} (hdet : ∀ μ x vs, RelL μ (enc x) vs → vs = kc x) {x : α} {vs : List Value} (h : RelL μ (enc x) vs) : vs = kc x := hdet μ x vs h

/-- A row of the call's own, as the sort sees it. -/
theorem gr_holds {α : Type} [Inhabited α] {enc : α → List LV} {kc : α → List Value} {k : Nat} (hk : ∀ x, (kc x).length = k) (hdet : ∀ μ x vs, RelL μ (enc x) vs → vs = kc x) {μ : Emb} {p : Pl} {w : World} {l : List α}
    (h : ObjOK μ p w.heap[p.rb]? (.gr k l.length (rowF enc default l))) : HoldsK kc k w p.rb p.off l.toArray := by
  obtain ⟨h1, h2, cells, E, fr, hb, h4, h5, h6⟩ := h
  intro j hj
  simp only [size_flatK, List.size_toArray] at hj
  have hk0 : 0 < k := Nat.pos_of_ne_zero (fun e => by subst e; simp at hj)
  have hq : j / k < l.length := by rw [Nat.div_lt_iff_lt_mul hk0]; exact hj
  have hm : j % k < k := Nat.mod_lt _ hk0
  obtain ⟨vs, g1, g2, g3, _⟩ := h6 _ hq
  have e1 : j / k * k + j % k = j := by rw [Nat.mul_comm]; exact Nat.div_add_mod j k
  have hv : vs = kc (l.getD (j / k) default) := hdet _ _ _ g1
  have hlt : j % k < (kc (l.getD (j / k) default)).length := by rw [hk]; exact hm
  have hg := g3 (j % k) _ (by rw [hv]; exact List.getElem?_eq_getElem hlt)
  rw [Nat.add_assoc, e1] at hg
  have hsz : p.off + j < cells.size := (Array.getElem?_eq_some_iff.1 hg).1
  refine ⟨?_, ?_⟩
  · simp only [World.cell?, hb, Option.isSome_none, Bool.false_eq_true, if_false, id]
    rw [hg, get_flatK _ _ _ _ (by simpa using hj)]
    have e3 : (l.toArray)[j / k]! = l.getD (j / k) default := by
      rw [List.getD_eq_getElem?_getD, List.getElem?_eq_getElem hq, getElem!_pos _ _ (by simpa using hq)]; simp
    rw [e3, getElem!_pos (kc (l.getD (j / k) default)) (j % k) hlt]
  · have := h5 (p.off + j) hsz
    obtain ⟨lo, hi⟩ := fr
    simp only [World.frozen?, hb, Bool.and_eq_false_iff, decide_eq_false_iff_not]
    simp only at this
    omega

/-- The row sorted. -/
theorem sortG_fin {α : Type} [Inhabited α] {enc : α → List LV} {kc : α → List Value} {k : Nat} (henc : ∀ φ x, RelFL φ (enc x) (kc x)) (hk : ∀ x, (kc x).length = k) (h1c : ∀ x, ∀ v ∈ kc x, v.oneCell' = true)
    {μ : Emb} {pre : Pre} {w : World} {c : Nat} {p : Pl} {l L : List α} (hp : PreOK μ pre w) (hm : (c, LO.gr k l.length (rowF enc default l)) ∈ pre) (hpc : μ c = some p) (hL : L.length = l.length) (m : Nat) (os : Array Obj) :
    Delta μ w pre [(c, some (.gr k L.length (rowF enc default L)))] μ (sortWorldK kc k w p.rb p.off m L.toArray os) := by
  obtain ⟨h1, h2, cells, E, fr, hb, h4, h5, h6⟩ := hp.placed hm hpc
  have hlt : p.rb < w.heap.size := (Array.getElem?_eq_some_iff.1 hb).1
  have heap : ∀ b, b < w.heap.size → (sortWorldK kc k w p.rb p.off m L.toArray os).heap[b]? = if p.rb = b then some (.cells (putCells id p.off (flatK kc k L.toArray) cells) E fr) else w.heap[b]? := by
    intro b hbs
    show ((w.heap.modify p.rb _) ++ os)[b]? = _
    rw [Array.getElem?_append_left (by simpa using hbs), Array.getElem?_modify]
    by_cases e : p.rb = b
    · subst e; simp [hb, onCells]
    · simp [e]
  have one : ∀ {e r}, (e, some r) ∈ ([(c, some (LO.gr k L.length (rowF enc default L)))] : Upd) → e = c ∧ r = .gr k L.length (rowF enc default L) := fun h => by simpa using h
  have hobj : ObjOK μ p (some (.cells (putCells id p.off (flatK kc k L.toArray) cells) E fr)) (.gr k L.length (rowF enc default L)) := by
    have hsz : (putCells id p.off (flatK kc k L.toArray) cells).size = cells.size := by simp [putCells]
    refine ⟨h1, by omega, _, E, fr, rfl, by rw [hsz]; exact h4, by rw [hsz]; exact h5, fun i hi => ⟨kc (L.getD i default), RelFL.rel (henc μ.fro _), hk _, fun j v hv => ?_, h1c _⟩⟩
    have hj : j < k := by rw [← hk (L.getD i default)]; exact (List.getElem?_eq_some_iff.1 hv).1
    have hij : i * k + j < L.length * k := by
      have := Nat.mul_le_mul_right k (show i + 1 ≤ L.length from hi)
      rw [Nat.add_mul, Nat.one_mul] at this; omega
    have hin : p.off + i * k + j < cells.size := by
      have h7 : L.length * k ≤ p.ext * k := Nat.mul_le_mul_right k (by omega)
      omega
    have hk0 : 0 < k := by omega
    simp only [putCells, Array.getElem?_mapIdx, Array.getElem?_eq_getElem hin, Option.map_some, size_flatK, List.size_toArray]
    rw [if_pos (by omega), show p.off + i * k + j - p.off = i * k + j by omega, get_flatK _ _ _ _ (by simpa using hij)]
    have e1 : (i * k + j) / k = i := by rw [Nat.mul_comm, Nat.mul_add_div hk0, Nat.div_eq_of_lt hj, Nat.add_zero]
    have e2 : (i * k + j) % k = j := by rw [Nat.mul_comm, Nat.mul_add_mod, Nat.mod_eq_of_lt hj]
    have e3 : (L.toArray)[i]! = L.getD i default := by
      rw [List.getD_eq_getElem?_getD, List.getElem?_eq_getElem hi, getElem!_pos _ _ (by simpa using hi)]; simp
    have hjl : j < (kc (L.getD i default)).length := by rw [hk]; exact hj
    rw [e1, e2, e3, getElem!_pos (kc (L.getD i default)) j hjl, ← hv, List.getElem?_eq_getElem hjl]; rfl
  refine Delta0.to ⟨Ext.refl μ, fun _ _ h => .inl h, rfl, rfl, rfl, fun _ => Nat.le_add_right _ _, ?_, fun b hbs hkp => ?_, fun e r h => ?_, fun e r q h hq => ?_, fun e r e' r' q q' h h' hne => absurd ((one h).1.trans (one h').1.symm) hne, fun _ _ h => .inl h, fun hf e r q h _ hq => ?_⟩ rfl
  · show w.heap.size ≤ ((w.heap.modify p.rb _) ++ os).size
    simp
  · rw [heap b hbs, if_neg (hkp c _ p hm rfl (by simp [Upd.has]) hpc)]
  · obtain ⟨rfl, rfl⟩ := one h
    exact .inr ⟨p, hpc, by rw [heap _ hlt, if_pos rfl]; exact hobj⟩
  · obtain ⟨rfl, rfl⟩ := one h
    rw [hpc] at hq; obtain rfl := Option.some.inj hq
    exact .inr ⟨_, _, p, hm, rfl, by simp [Upd.has], hpc, rfl⟩
  · obtain ⟨rfl, rfl⟩ := one h
    rw [hpc] at hq; obtain rfl := Option.some.inj hq
    exact hf.2 _ _ p hm rfl hpc

/-- Where all old blocks but one stand, and that is none of theirs, the objects stand. -/
theorem PreOK.apart {μ : Emb} {pre : Pre} {w w' : World} {x : Nat} (h : PreOK μ pre w) (hb : ∀ b, b < w.heap.size → b ≠ x → w'.heap[b]? = w.heap[b]?) (hx : ∀ c o p, (c, o) ∈ pre → μ c = some p → p.rb ≠ x ∧ ¬ Xtra μ w p o x) (hf : μ.fro x = none) : PreOK μ pre w' :=
  have at' : ∀ c o p, (c, o) ∈ pre → μ c = some p → w'.heap[p.rb]? = w.heap[p.rb]? := fun c o p hc hp => hb _ (h.placed hc hp).lt (hx c o p hc hp).1
  have xb : ∀ c o p b, (c, o) ∈ pre → μ c = some p → Xtra μ w' p o b → Xtra μ w p o b := fun c o p b hc hp hx => Xtra.back (h.xok c o p hc hp) (Ext.refl μ) (at' c o p hc hp) hx
  { obj' := fun c o hc => (h.obj' c o hc).imp id fun ⟨p, h1, h2⟩ => ⟨p, h1, by rw [at' c o p hc h1]; exact h2⟩
    sep := h.sep
    fro := fun b cs hfr => by
      obtain ⟨E, fr, hxx⟩ := h.fro b cs hfr
      exact ⟨E, fr, (hb b (Array.getElem?_eq_some_iff.1 hxx).1 (fun e => by rw [e, hf] at hfr; cases hfr)).trans hxx⟩
    frs := h.frs
    tab := h.tab
    xok := fun c o p hc hp => (h.xok c o p hc hp).keep (Ext.refl μ) (at' c o p hc hp) fun b hxx => hb b (Xtra.lt (h.xok c o p hc hp) hxx) (fun e => (hx c o p hc hp).2 (e ▸ hxx))
    xsep := fun c o p b c' o' p' hc hp hx hc' hp' => by
      have := h.xsep c o p b c' o' p' hc hp (xb c o p b hc hp hx) hc' hp'
      exact ⟨this.1, fun hne hx' => this.2 hne (xb c' o' p' b hc' hp' hx')⟩
    xfrs := fun c o p b hc hp hx => h.xfrs c o p b hc hp (xb c o p b hc hp hx) }

/-- The same, at a row of the call's own. -/
theorem cmp_of_triY {P : Program} {α : Type} [Inhabited α] {g : FuncId} {ek : α → LV} {enc : α → List Value} {cf : α → α → Int} {caps : List LV} {pre : Pre} (h : ∀ x y, FnTri P g (ek x :: ek y :: caps) pre (.int .i64 (cf x y)) [])
    (hr : ∀ μ x, Rel μ (ek x) (.agg (enc x).toArray)) {μ : Emb} {w : World} (hp : PreOK μ pre w) {vc : List Value} (hc : RelL μ caps vc) {blk : Nat} (hblk : blk < w.heap.size) (hx : ∀ c o p, (c, o) ∈ pre → μ c = some p → p.rb ≠ blk ∧ ¬ Xtra μ w p o blk) (hf : μ.fro blk = none) (k off size : Nat) :
    CmpLays P g vc.toArray enc k cf blk off size w := by
  intro m os dk _ x y
  have hW : ∀ b, b < w.heap.size → b ≠ blk → (sortWorldK enc k w blk off m dk os).heap[b]? = w.heap[b]? := by
    intro b hb hne
    show ((w.heap.modify blk _) ++ os)[b]? = _
    rw [Array.getElem?_append_left (by simpa using hb), Array.getElem?_modify, if_neg (fun e => hne e.symm)]
  generalize sortWorldK enc k w blk off m dk os = W at hW
  have := (h x y).2 μ W (.agg (enc x).toArray :: .agg (enc y).toArray :: vc) ⟨_, _, rfl, hr _ x, _, _, rfl, hr _ y, hc⟩ (hp.apart hW hx hf) (fun c hc => by simp [Upd.has] at hc)
  have e : (#[Value.agg (enc x).toArray, Value.agg (enc y).toArray] ++ vc.toArray : Array Value) = (Value.agg (enc x).toArray :: Value.agg (enc y).toArray :: vc).toArray := by apply Array.ext'; simp
  rw [e]
  refine this.mono ?_
  rintro en w' ⟨v, μ', rfl, hv, hd⟩
  simp only [Rel] at hv
  subst hv
  exact ⟨rfl, drawn_back W w' hd.os hd.tape hd.output (hd.draws rfl) hd.grow (fun b hb => hd.keep b hb (fun ⟨c, o, p, _, _, h, _⟩ => by simp [Upd.has] at h))⟩

/-- An object of the call's own told again as it stands. -/
theorem Delta.same {μ : Emb} {pre : Pre} {w : World} {c : Nat} {o : LO} (hp : PreOK μ pre w) (hm : (c, o) ∈ pre) (hw : o.wr = true) (hpl : o.plain = true) : Delta μ w pre [(c, some o)] μ w :=
  have one : ∀ {e r}, (e, some r) ∈ ([(c, some o)] : Upd) → e = c ∧ r = o := fun h => by simpa using h
  Delta0.to ⟨Ext.refl μ, fun _ _ h => .inl h, rfl, rfl, rfl, fun _ => Nat.le_refl _, Nat.le_refl _, fun _ _ _ => rfl, fun e r h => by obtain ⟨rfl, rfl⟩ := one h; exact hp.obj' _ _ hm,
    fun e r q h hq => by obtain ⟨rfl, rfl⟩ := one h; exact .inr ⟨_, _, q, hm, hw, by simp [Upd.has], hq, rfl⟩, fun e r e' r' q q' h h' hne => absurd ((one h).1.trans (one h').1.symm) hne, fun _ _ h => .inl h,
    fun hf e r q h _ hq => by obtain ⟨rfl, rfl⟩ := one h; exact hf.2 _ _ q hm hw hq⟩ (by simp [Upd.plain, hpl])

/-- slices.SortFunc at a row of the call's own. -/
theorem sortG_tri {P : Program} {FO g : FuncId} {α : Type} [Inhabited α] {ek : α → LV} {enc : α → List LV} {kc : α → List Value} {k : Nat} {cf : α → α → Int} {caps : List LV} {pre : Pre} (hT : TotCmp cf)
    (hfn : ∃ fn, P.funcs[FO]? = some fn ∧ fn.body.isSome = true ∧ (fn.name == "runtime.NumGoroutine") = false)
    (hnone : ∀ (q : Option Addr) (cap : Nat) (fv : Value) (w : World), Calls P FO #[.slice q 0 cap, fv] w fun e w' => e = .returned (.tuple #[]) ∧ w' = w)
    (htot : ∀ (cb : Array Value) (blk off cap : Nat) (d : Array α) (w : World), CmpLays P g cb kc k cf blk off d.size w → HoldsK kc k w blk off d → blk < w.heap.size → d.size < 4611686018427387904 →
      Calls P FO #[.slice (some ⟨blk, off, none⟩) d.size cap, .func (.func g) #[] cb] w fun e w' => e = .returned (.tuple #[]) ∧ ∃ n os, w' = sortWorldK kc k w blk off n (d.toList.mergeSort fun x y => !(ltOf cf) y x).toArray os)
    (henc : ∀ φ x, RelFL φ (enc x) (kc x)) (hk : ∀ x, (kc x).length = k) (h1c : ∀ x, ∀ v ∈ kc x, v.oneCell' = true) (hdet : ∀ μ x vs, RelL μ (enc x) vs → vs = kc x) (hr : ∀ μ x, Rel μ (ek x) (.agg (kc x).toArray))
    (h : ∀ x y, FnTri P g (ek x :: ek y :: caps) pre (.int .i64 (cf x y)) []) (c : Nat) (hc : ∀ o, (c, o) ∉ pre) (l : List α) (hl : l.length < 4611686018427387904) :
    FnTri P FO [.gs c l.length, .fn g [] caps] ((c, .gr k l.length (rowF enc default l)) :: pre) (.tup []) [(c, some (.gr k (sortL cf l).length (rowF enc default (sortL cf l))))] := by
  refine ⟨hfn, fun μ w vals hrl hp hf => ?_⟩
  obtain ⟨v0, r0, rfl, hgs, v1, r1, rfl, ⟨a1, b1, rfl, ha1, hb1⟩, rfl⟩ := hrl
  obtain rfl := rel_nocap ha1
  have hmem : (c, LO.gr k l.length (rowF enc default l)) ∈ (c, LO.gr k l.length (rowF enc default l)) :: pre := List.mem_cons_self
  have hp2 : PreOK μ pre w :=
    { obj' := fun c o hc => hp.obj' c o (List.mem_cons_of_mem _ hc)
      sep := fun c o c' o' p p' hc hc' => hp.sep c o c' o' p p' (List.mem_cons_of_mem _ hc) (List.mem_cons_of_mem _ hc')
      fro := hp.fro
      frs := fun c o p hc => hp.frs c o p (List.mem_cons_of_mem _ hc)
      tab := hp.tab
      xok := fun c o p hc => hp.xok c o p (List.mem_cons_of_mem _ hc)
      xsep := fun c o p b c' o' p' hc h1 h2 hc' => hp.xsep c o p b c' o' p' (List.mem_cons_of_mem _ hc) h1 h2 (List.mem_cons_of_mem _ hc')
      xfrs := fun c o p b hc => hp.xfrs c o p b (List.mem_cons_of_mem _ hc) }
  rcases hgs with ⟨hn, rfl⟩ | ⟨hn, p, rc, hpc, rfl, h1, h2⟩
  · have hnil : l = [] := List.eq_nil_of_length_eq_zero hn
    subst hnil
    have hs : sortL cf ([] : List α) = [] := List.eq_nil_of_length_eq_zero (sortL_len cf [])
    rw [hs]
    refine (hnone none 0 _ w).mono ?_
    rintro e w' ⟨rfl, rfl⟩
    exact ⟨_, μ, rfl, ⟨#[], rfl, rfl⟩, Delta.same hp hmem rfl rfl⟩
  · have hok := hp.placed hmem hpc
    have hlt := hok.lt
    have hfr : μ.fro p.rb = none := hp.frs _ _ p hmem rfl hpc
    have hcb : b1 = b1.toList.toArray := by simp
    have hcl : CmpLays P g b1.toList.toArray kc k cf p.rb p.off l.toArray.size w := cmp_of_triY h hr hp2 hb1 hlt (fun d o q hd hq => by
      have hne : c ≠ d := fun e => hc o (e ▸ hd)
      refine ⟨(hp.sep _ _ _ _ p q hmem (List.mem_cons_of_mem _ hd) hne (.inl rfl) hpc hq).symm, fun hx => ?_⟩
      exact (hp.xsep _ _ q p.rb _ _ p (List.mem_cons_of_mem _ hd) hq hx hmem hpc).1 rfl) hfr k p.off _
    have hH := gr_holds hk hdet hok
    have hsz : l.toArray.size < 4611686018427387904 := by simpa using hl
    have hres := htot b1.toList.toArray p.rb p.off rc l.toArray w hcl hH hlt hsz
    have ead : p.addr 0 0 = ⟨p.rb, p.off, none⟩ := by simp [Pl.addr]
    rw [ead]
    rw [← hcb, List.size_toArray] at hres
    refine hres.mono ?_
    rintro e w' ⟨rfl, n, os, rfl⟩
    exact ⟨_, μ, rfl, ⟨#[], rfl, rfl⟩, sortG_fin henc hk h1c hp hmem hpc (sortL_len cf l) n os⟩
end
end Go.Cn
