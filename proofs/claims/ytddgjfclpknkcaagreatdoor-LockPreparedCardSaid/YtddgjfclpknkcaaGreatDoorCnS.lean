import Derived.Test.YtddgjfclpknkcaaGreatDoorCnX
import Derived.ChangeArms
import Derived.Deep.Slices
import Derived.OpenShut
import Derived.Below
namespace Go.Cn
open Go
theorem wfL_append {a b : List LV} (ha : wfL a) (hb : wfL b) : wfL (a ++ b) := fun x hx => (List.mem_append.1 hx).elim (ha x) (hb x)
theorem fitsL_app : ∀ {a b : List CK} {x y : List LV}, fitsL a x = true → fitsL b y = true → fitsL (a ++ b) (x ++ y) = true
 | [], b, [], y, _, h => h
 | [], _, _ :: _, _, h, _ => by simp [fitsL] at h
 | _ :: _, _, [], _, h, _ => by simp [fitsL] at h
 | k :: a, b, c :: x, y, h, h' => by
  simp only [fitsL, Bool.and_eq_true, List.cons_append] at h ⊢
  exact ⟨h.1, fitsL_app h.2 h'⟩
def Cells (ks : List CK) (cs : List Value) : Prop := ∃ ls, fitsL ks ls = true ∧ (∀ μ, RelL μ ls cs) ∧ wfL ls
theorem Cells.append {a b : List CK} {x y : List Value} (h : Cells a x) (h' : Cells b y) : Cells (a ++ b) (x ++ y) := by
 obtain ⟨l, h1, h2, h3⟩ := h
 obtain ⟨m, g1, g2, g3⟩ := h'
 exact ⟨l ++ m, fitsL_app h1 g1, fun μ => (h2 μ).append (g2 μ), wfL_append h3 g3⟩
section
variable {H : Type} {enc : TypeId × Value → H} {P : Program} {w : World} {base : Nat} {spare : Nat → Bool} {held : Bool}
theorem cellsOf_size {t : TypeId} {s : Nat} (h : tSize P t = some s) : P.cellsOf t = s := by
 unfold tSize at h
 unfold Program.cellsOf
 rw [h]; rfl
mutual
theorem trod_cells : ∀ (d : Nat) (t : TypeId) (ks : List CK), shp P d t = some ks → ∀ (fuel : Nat) (cs : List Value) (x : DataW H × List MemPlace), DataW.trod enc P w base spare held fuel t cs = some x → Cells ks cs
 | 0, t, ks, hs => by simp [shp] at hs
 | d + 1, t, ks, hs => by
  intro fuel cs x h
  unfold shp at hs
  split at hs
  ·rename_i k hd hz
   cases hs
   cases fuel with
   | zero => simp [DataW.trod] at h
   | succ n =>
    unfold DataW.trod at h
    rw [show P.underlying t = _ from hd] at h
    split at h <;> simp_all
    obtain ⟨h1, h2⟩ := h
    rename_i n' hk
    subst hk
    exact ⟨[.int k n'], by simp [fitsL, fitsC], fun μ => ⟨_, _, rfl, by simp [Rel], rfl⟩, fun y hy => by
     simp at hy; subst hy; exact h1.2⟩
  ·rename_i hd hz
   cases hs
   cases fuel with
   | zero => simp [DataW.trod] at h
   | succ n =>
    unfold DataW.trod at h
    rw [show P.underlying t = _ from hd] at h
    split at h <;> simp_all
    rename_i b
    exact ⟨[.bool b], by simp [fitsL, fitsC], fun μ => ⟨_, _, rfl, by simp [Rel], rfl⟩, fun y hy => by
     simp at hy; subst hy; trivial⟩
  ·rename_i hd hz
   cases hs
   cases fuel with
   | zero => simp [DataW.trod] at h
   | succ n =>
    unfold DataW.trod at h
    rw [show P.underlying t = _ from hd] at h
    split at h <;> simp_all
    rename_i s
    obtain ⟨h1, h2⟩ := h
    exact ⟨[.str s.data.toList], by simp [fitsL, fitsC], fun μ => ⟨_, _, rfl, by simp [Rel], rfl⟩, fun y hy => by
     simp at hy; subst hy; simpa [wfC] using h1⟩
  ·rename_i fs s hd hz
   split at hs <;> try cases hs
   split at hs <;> try cases hs
   rename_i l hl
   split at hs <;> cases hs
   rename_i hlen
   obtain ⟨xs, n, rfl, _, h2, h3, h4⟩ := DataW.trod_struct hd h
   have h5 : cs.length = ks.length := by rw [h2, cellsOf_size hz, hlen]
   have := trodFs_cells d fs.toList 0 ks hl n cs (fun f hf => by
    obtain ⟨i, hi⟩ := List.getElem?_of_mem hf
    have hi' : fs[i]? = some f := by simpa using hi
    have := h4 i f hi'
    have hlt : i < xs.length := by rw [h3]; exact (Array.getElem?_eq_some_iff.1 hi').1
    exact ⟨_, this.trans (List.getElem?_eq_getElem hlt)⟩) (by omega)
   simpa [← h5] using this
  ·rename_i n e s hd hz
   split at hs <;> try cases hs
   rename_i l z hl hze
   split at hs <;> cases hs
   rename_i hlen
   obtain ⟨xs, m, rfl, _, h2, h3, h4⟩ := DataW.trod_array hd h
   rw [cellsOf_size hz] at h2
   rw [cellsOf_size hze] at h4
   have elems : ∀ i, i < n → Cells l ((cs.drop (i * z)).take z) := fun i hi =>
    trod_cells d e l hl m _ _ ((h4 i hi).trans (List.getElem?_eq_getElem (by omega)))
   have key : ∀ j, j ≤ n → Cells (repC j l) (cs.take (j * z)) := by
    intro j
    induction j with
    | zero => intro _; exact ⟨[], rfl, fun μ => by simp [RelL], fun y hy => by cases hy⟩
    | succ j ih =>
     intro hj
     have a := ih (by omega)
     have b := elems j (by omega)
     have e1 : ∀ j, repC (j + 1) l = repC j l ++ l := by
      intro j
      induction j with
      | zero => simp [repC]
      | succ j ih =>
       rw [show repC (j + 1 + 1) l = l ++ repC (j + 1) l from rfl, ih, ← List.append_assoc]
       congr 1
     rw [e1, Nat.add_mul, Nat.one_mul, List.take_add]
     exact a.append b
   have := key n (Nat.le_refl _)
   rwa [List.take_of_length_le (by omega)] at this
  ·cases hs
theorem trodFs_cells : ∀ (d : Nat) (fs : List Field) (o : Nat) (l : List CK), shpFs P d fs o = some l → ∀ (n : Nat) (cs : List Value), (∀ f ∈ fs, ∃ x, DataW.trod enc P w base spare held n f.type ((cs.drop f.offset).take (P.cellsOf f.type)) = some x) → o + l.length ≤ cs.length →
  Cells l ((cs.drop o).take l.length)
 | d, [], o, l, hs => by
  intro n cs _ _
  simp only [shpFs_nil, Option.some.injEq] at hs
  subst hs
  exact ⟨[], rfl, fun μ => by simp [RelL], fun y hy => by cases hy⟩
 | d, f :: r, o, l, hs => by
  intro n cs hf hlen
  rw [shpFs_cons] at hs
  split at hs <;> try cases hs
  rename_i a z ha hz
  split at hs <;> try cases hs
  rename_i hc
  simp only [Option.map_eq_some_iff] at hs
  obtain ⟨b, hb, rfl⟩ := hs
  obtain ⟨x, hx⟩ := hf f (List.mem_cons_self)
  rw [hc.2.1, cellsOf_size hz] at hx
  have h1 := trod_cells d f.type a ha n _ x hx
  rw [List.length_append] at hlen ⊢
  have h2 := trodFs_cells d r (o + z) b hb n cs (fun g hg => hf g (List.mem_cons_of_mem _ hg)) (by omega)
  rw [List.take_add, List.drop_drop, hc.2.2]
  exact h1.append h2
end
theorem open_cells {r : Reach} {b0 : Nat} {t : TypeId} {v : Value} {dd : DataW H} {ps : List MemPlace} {d : Nat} {ks : List CK} (hs : shp P d t = some ks) (hag : (match P.underlying t with | some (.struct _) | some (.array _ _) => true | _ => false) = true)
  (hval : Value.okWide P w r b0 t v) (h : DataW.Trod enc P w base spare held t v dd ps) : ∃ ls, fitsL ks ls = true ∧ wfL ls ∧ ∀ μ, Rel μ (.agg ls) v := by
 obtain ⟨fuel, h⟩ := h
 obtain ⟨ls, h1, h2, h3⟩ := trod_cells d t ks hs fuel _ _ h
 have : ∃ cs, v = .agg cs := by
  unfold Value.okWide at hval
  split at hval
  ·obtain ⟨cs, h, _⟩ := hval; exact ⟨cs, h⟩
  ·obtain ⟨cs, h, _⟩ := hval; exact ⟨cs, h⟩
  ·rename_i g1 g2
   split at hag
   ·rename_i fs hu; exact (g1 fs hu).elim
   ·rename_i n e hu; exact (g2 n e hu).elim
   ·cases hag
 obtain ⟨cs, rfl⟩ := this
 exact ⟨ls, h1, h3, fun μ => ⟨cs, rfl, h2 μ⟩⟩
end
theorem fits_int {k : IntKind} {ks : List CK} {l : List LV} (h : fitsL (.int k :: ks) l = true) : ∃ n r, l = .int k n :: r ∧ fitsL ks r = true := by
 cases l with
 | nil => simp [fitsL] at h
 | cons x r =>
  simp only [fitsL, Bool.and_eq_true] at h
  cases x <;> simp [fitsC] at h
  obtain ⟨rfl, h⟩ := h
  exact ⟨_, _, rfl, h⟩
theorem fits_nil {l : List LV} (h : fitsL [] l = true) : l = [] := by
 cases l with
 | nil => rfl
 | cons x r => simp [fitsL] at h
def froOf (w : World) : Fro := fun b => match w.heap[b]? with
 | some (.cells cs _ _) => some cs
 | _ => none
def mu0 (w : World) : Emb := ⟨fun _ => none, froOf w⟩
theorem below_of_tri {P : Program} {f : FuncId} {ls : List LV} {v : LV} (h : FnTri P f ls [] v []) {vals : List Value} {w : World} (ht : TabOK (froOf w)) (hr : RelL (mu0 w) ls vals) :
  Calls P f vals.toArray w fun e w' => (∃ x μ', e = .returned x ∧ Rel μ' v x) ∧ RowKit.Below w.heap.size w w' := by
 refine (h.2 (mu0 w) w vals hr ⟨(fun c o hc => by cases hc), (fun c o c' o' p p' hc => by cases hc), fun b cs hb => ?_, (fun c o p hc => by cases hc), ht, (fun c o p hc => by cases hc), (fun c o p b c' o' p' hc => by cases hc), (fun c o p b hc => by cases hc)⟩ (fun c hc => by simp [Upd.has] at hc)).mono ?_
 ·simp only [mu0, froOf] at hb
  split at hb
  ·rename_i cs' E fr hx; cases hb; exact ⟨E, fr, hx⟩
  ·cases hb
 ·rintro en w' ⟨x, μ', h1, h2, h3⟩
  refine ⟨⟨x, μ', h1, h2⟩, h3.os, h3.tape, h3.output, h3.grow, fun k hk => h3.keep k hk (fun ⟨c, o, p, hc, _⟩ => by cases hc)⟩
end Go.Cn
