import Derived.Test.YtddgjfclpknkcaaGreatDoorCnXa
namespace Go.Cn
open Go
set_option linter.unusedSectionVars false
section
variable {α β : Type} [DecidableEq α] (ek : α → LV) (ec : β → List LV)
def encP (m : List (α × β)) : List (LV × List LV) := m.map fun e => (ek e.1, ec e.2)
theorem keys_enc (m : List (α × β)) : keysE (encP ek ec m) = encM ek (fun _ => .any) m := by simp [keysE, encP, encM]
theorem at_enc (h : ∀ a b, eqK (ek a) (ek b) = decide (a = b)) (m : List (α × β)) (k : α) : (atE (ek k) (keysE (encP ek ec m))).isSome = (mget m k).isSome := by
 induction m with
 | nil => rfl
 | cons e r ih =>
  simp only [keysE, encP, List.map_cons, atE, mget, h] at ih ⊢
  by_cases he : k = e.1
  ·simp [he]
  ·simp only [he, decide_false, Bool.false_eq_true, if_false, Option.isSome_map]; exact ih
theorem pmN (h : ∀ a b, eqK (ek a) (ek b) = decide (a = b)) (m : List (α × β)) (k : α) (hn : (mget m k).isSome = false) : atE (ek k) (keysE (encP ek ec m)) = none := by
 have := at_enc ek ec h m k
 rw [hn] at this
 exact Option.not_isSome_iff_eq_none.1 (by rw [this]; decide)
theorem pmSi (h : ∀ a b, eqK (ek a) (ek b) = decide (a = b)) (m : List (α × β)) (k : α) (hn : (mget m k).isSome = true) : (atE (ek k) (keysE (encP ek ec m))).isSome = true := by
 rw [at_enc ek ec h m k, hn]
theorem pmSe (h : ∀ a b, eqK (ek a) (ek b) = decide (a = b)) (m : List (α × β)) {k k' : α} (he : decide (k = k') = true) (hn : (mget m k').isSome = true) : (atE (ek k) (keysE (encP ek ec m))).isSome = true := by
 rw [of_decide_eq_true he]; exact pmSi ek ec h m k' hn
theorem pmIn {m : List (α × β)} {k : α} {v : β} (hn : mget m k = some v) : (ek k, ec v) ∈ encP ek ec m := by
 induction m with
 | nil => simp [mget] at hn
 | cons e r ih =>
  simp only [mget] at hn
  simp only [encP, List.map_cons, List.mem_cons]
  split at hn
  ·rename_i he; cases hn; left; rw [he]
  ·right; exact ih hn
theorem pmO0 (k : α) : ∀ s, (ek k, s) ∉ ([] : List (LV × Nat)) := fun s h => by cases h
theorem pmO1 (h : ∀ a b, eqK (ek a) (ek b) = decide (a = b)) {k k' : α} {s' : Nat} {r : List (LV × Nat)} (hne : decide (k = k') = false) (hr : ∀ s, (ek k, s) ∉ r) : ∀ s, (ek k, s) ∉ ((ek k', s') :: r) := fun s hs => by
 rcases List.mem_cons.1 hs with e | hs
 ·have h1 : ek k = ek k' := (Prod.mk.inj e).1
  have h2 := h k k
  rw [show eqK (ek k) (ek k) = eqK (ek k) (ek k') from by rw [← h1], h, hne] at h2
  simp at h2
 ·exact hr s hs
theorem pmM {k k' : α} (h : decide (k = k') = true) (s : Nat) (r : List (LV × Nat)) : (ek k, s) ∈ ((ek k', s) :: r) := by
 rw [of_decide_eq_true h]; exact List.mem_cons_self
theorem updP_enc (h : ∀ a b, eqK (ek a) (ek b) = decide (a = b)) (m : List (α × β)) (k : α) (v : β) : updP (ek k) (ec v) (encP ek ec m) = encP ek ec (mset m k v) := by
 induction m with
 | nil => rfl
 | cons e r ih =>
  simp only [encP, List.map_cons, updP, mset, h] at ih ⊢
  by_cases he : k = e.1
  ·simp [he]
  ·simp only [he, decide_false, Bool.false_eq_true, if_false, List.map_cons, ih]
theorem delP_enc (h : ∀ a b, eqK (ek a) (ek b) = decide (a = b)) (m : List (α × β)) (k : α) : delP (ek k) (encP ek ec m) = encP ek ec (mdel m k) := by
 induction m with
 | nil => rfl
 | cons e r ih =>
  simp only [encP, List.map_cons, delP, mdel, h] at ih ⊢
  by_cases he : k = e.1
  ·simp [he]
  ·simp only [he, decide_false, Bool.false_eq_true, if_false, List.map_cons, ih]
theorem getP_enc (h : ∀ a b, eqK (ek a) (ek b) = decide (a = b)) (m : List (α × β)) (k : α) {v : β} (hn : mget m k = some v) : (getP (ek k) (encP ek ec m)).isSome = true := by
 induction m with
 | nil => simp [mget] at hn
 | cons e r ih =>
  simp only [mget] at hn
  simp only [encP, List.map_cons, getP, h] at ih ⊢
  by_cases he : k = e.1
  ·simp [he]
  ·rw [if_neg he] at hn
   simp only [he, decide_false, Bool.false_eq_true, if_false]; exact ih hn
omit [DecidableEq α] in
theorem isS {γ : Type} {o : Option γ} {v : γ} (h : o = some v) : o.isSome = true := by rw [h]; rfl
theorem mset_same {m : List (α × β)} {k : α} {v : β} (hn : mget m k = some v) : mset m k v = m := by
 induction m with
 | nil => simp [mget] at hn
 | cons e r ih =>
  simp only [mget] at hn
  simp only [mset]
  split at hn
  ·rename_i he; cases hn; rw [if_pos he, he]
  ·rename_i he; rw [if_neg he, ih hn]
theorem pm_same (h : ∀ a b, eqK (ek a) (ek b) = decide (a = b)) (ag : Bool) (ks : List CK) (r : List (LV × Nat)) {m : List (α × β)} {k : α} {v : β} (hn : mget m k = some v) : LO.pm ag ks (updP (ek k) (ec v) (encP ek ec m)) r = .pm ag ks (encP ek ec m) r := by
 rw [updP_enc ek ec h, mset_same hn]
theorem pm_upd (h : ∀ a b, eqK (ek a) (ek b) = decide (a = b)) (ag : Bool) (ks : List CK) (r : List (LV × Nat)) (m : List (α × β)) (k : α) (v : β) : LO.pm ag ks (updP (ek k) (ec v) (encP ek ec m)) r = .pm ag ks (encP ek ec (mset m k v)) r := by
 rw [updP_enc ek ec h]
theorem pm_del (h : ∀ a b, eqK (ek a) (ek b) = decide (a = b)) (ag : Bool) (ks : List CK) (r : List (LV × Nat)) (m : List (α × β)) (k : α) : LO.pm ag ks (delP (ek k) (encP ek ec m)) r = .pm ag ks (encP ek ec (mdel m k)) r := by
 rw [delP_enc ek ec h]
theorem le_pmlen (m : List (α × β)) : LV.Le (.int .i64 ((encP ek ec m).length : Nat)) (.int .i64 (m.length : Nat)) := LV.Le.of_eq (by simp [encP])
theorem le_pmR {ag : Bool} {ks : List CK} {m : List (α × β)} {opn : List (LV × Nat)} : LO.Le (.pm ag ks (encP ek ec m) opn) (.mapR ag ks (encM ek (fun _ => .any) m)) := ⟨fun h => (by cases h), fun h => h.elim, fun μ p h r => by
 have := pm_map r
 rw [keys_enc] at this
 exact this⟩
theorem delmit_ob (h : ∀ a b, eqK (ek a) (ek b) = decide (a = b)) {γ : Type} {ev : γ → LV} {ag : Bool} {ks : List CK} (hk : ∀ a, keyOK ag ks (ek a) = true) {rest : List (α × γ)} {k : α} (hn : mget rest k = none) : keyOK ag ks (ek k) = true ∧ ∀ e ∈ encM ek ev rest, keyOK ag ks e.1 = true ∧ eqK (ek k) e.1 = false := by
 refine ⟨hk k, fun e he => ?_⟩
 obtain ⟨x, hx, rfl⟩ := List.mem_map.1 he
 refine ⟨hk _, ?_⟩
 rw [h]
 refine decide_eq_false fun e => ?_
 subst e
 have : ∀ (l : List (α × γ)), x ∈ l → mget l x.1 ≠ none := by
  intro l
  induction l with
  | nil => intro h; cases h
  | cons y r ih =>
   intro h hn
   simp only [mget] at hn
   split at hn
   ·cases hn
   ·rename_i hne
    rcases List.mem_cons.1 h with rfl | h
    ·exact hne rfl
    ·exact ih h hn
 exact this rest hx hn
theorem mit_del (h : ∀ a b, eqK (ek a) (ek b) = decide (a = b)) {γ : Type} {ev : γ → LV} (c : Nat) (ag : Bool) (ks : List CK) (m rest : List (α × γ)) (k : α) : LO.mit c ag ks (delE (ek k) (encM ek ev m)) none (encM ek ev rest) = .mit c ag ks (encM ek ev (mdel m k)) none (encM ek ev rest) := by
 rw [delE_enc ek ev h]
end
theorem le_nm {α : Type} (f : α → LV) {a b : α} (h : some a = some b) : LV.Le (f a) (f b) := LV.Le.of_eq (by rw [Option.some.inj h])
theorem nm_eq {α : Type} (f : α → LO) {a b : α} (h : some a = some b) : f a = f b := by rw [Option.some.inj h]
theorem LO.Sub.trans {a b c : LO} (h : a.Sub b) (k : b.Sub c) : a.Sub c := ⟨h.1.trans k.1, fun x => k.2.1 (h.2.1 x), fun μ p o x => k.2.2 μ p o (h.2.2 μ p o x)⟩
section
variable {P : Program} {w0 : World} {W : Nat → Prop} {μ0 : Emb} {Post : List LV → Heap → Prop}
theorem Sim.told {μ : Emb} {H : Heap} {w : World} {c : Nat} {o o' : LO} (s : Sim w0 W μ H w) (ho : H.at c = some o) (hw : o.wr = o'.wr) (hpl : o.plain = true) (hpl' : o'.plain = true) (hv : o.void → o'.void)
  (hok : ∀ p, μ c = some p → ObjOK μ p w.heap[p.rb]? o → ObjOK μ p w.heap[p.rb]? o') : Sim w0 W μ (H.upd [(c, some o')]) w := by
 have at' : ∀ {d x}, (H.upd [(c, some o')]).at d = some x → (d = c ∧ x = o') ∨ (d ≠ c ∧ H.at d = some x) := by
  intro d x h
  have h2 : (H.put c (some o')).at d = some x := h
  rw [Heap.at_put] at h2
  split at h2
  ·rename_i e; cases h2; exact .inl ⟨e, rfl⟩
  ·rename_i e; exact .inr ⟨e, h2⟩
 have old : ∀ {d x}, (H.upd [(c, some o')]).at d = some x → ∃ y, H.at d = some y ∧ y.wr = x.wr := by
  intro d x h
  rcases at' h with ⟨rfl, rfl⟩ | ⟨_, h⟩
  ·exact ⟨o, ho, hw⟩
  ·exact ⟨x, h, rfl⟩
 have xx : ∀ {d x p b}, (H.upd [(c, some o')]).at d = some x → Xtra μ w p x b → H.at d = some x := by
  intro d x p b h hx
  rcases at' h with ⟨rfl, rfl⟩ | ⟨_, h⟩
  ·exact absurd hx (Xtra.plain hpl')
  ·exact h
 refine ⟨fun d x h => ?_, fun d x d' x' p p' h h' hne hw' hp hp' => ?_, s.os, s.tape, s.output, s.draws, s.grow, s.keep, fun d x p h hw' hp => ?_, s.fro, fun d x p h hw' hp => ?_, s.tab, fun d x p h hp => ?_, fun d x p b d' x' p' h hp hx h' hp' => ?_, fun d x p b h hp hx => s.xown d x p b (xx h hx) hp hx, fun d x p b h hp hx => s.xfrs d x p b (xx h hx) hp hx⟩
 ·rcases at' h with ⟨rfl, rfl⟩ | ⟨_, h⟩
  ·rcases s.obj' _ _ ho with ⟨h1, h2⟩ | ⟨p, h1, h2⟩
   ·exact .inl ⟨h1, hv h2⟩
   ·exact .inr ⟨p, h1, hok p h1 h2⟩
  ·exact s.obj' d x h
 ·obtain ⟨y, hy, e1⟩ := old h
  obtain ⟨y', hy', e2⟩ := old h'
  exact s.sep d y d' y' p p' hy hy' hne (by rw [e1, e2]; exact hw') hp hp'
 ·obtain ⟨y, hy, e1⟩ := old h
  exact s.own d y p hy (by rw [e1]; exact hw') hp
 ·obtain ⟨y, hy, e1⟩ := old h
  exact s.frs d y p hy (by rw [e1]; exact hw') hp
 ·rcases at' h with ⟨rfl, rfl⟩ | ⟨_, h⟩
  ·exact XOK.plain hpl'
  ·exact s.xok d x p h hp
 ·have g := xx h hx
  obtain ⟨y', hy', e2⟩ := old h'
  have := s.xsep d x p b d' y' p' g hp hx hy' hp'
  refine ⟨this.1, fun hne hx' => ?_⟩
  have g' := xx h' hx'
  rw [hy'] at g'; cases g'
  exact this.2 hne hx'
theorem k_bag {α : Type} (enc : α → List LV) (d : α) {sz c : Nat} {q : Bag α} {k : List It} {T : List LV} {H : Heap} (hk : headOk k = true) (hc : H.at c = some (.bag sz (q.map enc)))
  (hh : ∀ l : List α, Bag.of l = q → kont P w0 W μ0 Post k none T (H.upd [(c, some (.gr sz l.length (rowF enc d l)))])) : kont P w0 W μ0 Post k none T H := by
 have key : ∀ {μ : Emb} {a : Act} {w : World}, St w0 W μ0 μ T H a w → ∃ l : List α, Bag.of l = q ∧ St w0 W μ0 μ T (H.upd [(c, some (.gr sz l.length (rowF enc d l)))]) a w := by
  intro μ a w s
  have fin : ∀ l : List α, Bag.of l = q → (LO.bag sz (q.map enc)).void → l = [] := by
   intro l e hv
   subst e
   have hv' : Bag.of (l.map enc) = Bag.of [] := hv
   have := (Bag.exact hv').length_eq
   cases l with
   | nil => rfl
   | cons _ _ => simp at this
  have st : ∀ l : List α, Bag.of l = q → (∀ p, μ c = some p → ObjOK μ p w.heap[p.rb]? (.bag sz (q.map enc)) → ObjOK μ p w.heap[p.rb]? (.gr sz l.length (rowF enc d l))) → St w0 W μ0 μ T (H.upd [(c, some (.gr sz l.length (rowF enc d l)))]) a w := fun l e h =>
   ⟨s.sim.told hc rfl rfl rfl (fun hv => by have := fin l e hv; subst this; rfl) h, s.fr, fun c' p hp => Nat.lt_of_lt_of_le (s.dom c' p hp) (upd_length _ H).1, s.defs, s.ext⟩
  rcases s.sim.obj' c _ hc with ⟨h1, h2⟩ | ⟨p, h1, l', e, h2⟩
  ·obtain ⟨l, e⟩ := q.ex
   exact ⟨l, e, st l e fun p hp => by rw [h1] at hp; cases hp⟩
  ·obtain ⟨l, e1, rfl⟩ := Bag.of_map e
   refine ⟨l, e1, st l e1 fun p' hp' _ => ?_⟩
   rw [h1] at hp'; cases hp'
   obtain ⟨g1, g2, cells, E, fr, g3, g4, g5, g6⟩ := h2
   rw [List.length_map] at g2 g6
   refine ⟨g1, g2, cells, E, fr, g3, g4, g5, fun i hi => ?_⟩
   obtain ⟨vs, k1, k2⟩ := g6 i hi
   refine ⟨vs, ?_, k2⟩
   have : (l.map enc).getD i [] = rowF enc d l i := by
    simp only [rowF, List.getD_eq_getElem?_getD, List.getElem?_map, List.getElem?_eq_getElem hi, Option.map_some, Option.getD_some]
   exact RelFL.rel (by rw [← this]; exact k1)
 cases k with
 | nil => cases hk
 | cons it k =>
  cases it with
  | code cd => exact fun μ a w s => let ⟨l, e, s'⟩ := key s; hh l e μ a w s'
  | loop cd => exact fun μ a w s => let ⟨l, e, s'⟩ := key s; hh l e μ a w s'
  | blk i => cases hk
theorem k_bagM {α β : Type} (ek : α → LV) (ev : β → LV) {ag : Bool} {ks : List CK} {c : Nat} {q : Bag (α × β)} {k : List It} {T : List LV} {H : Heap} (hk : headOk k = true) (hc : H.at c = some (.mapq ag ks (q.map fun e => (ek e.1, ev e.2))))
  (hh : ∀ m : List (α × β), Bag.of m = q → kont P w0 W μ0 Post k none T (H.upd [(c, some (.map ag ks (encM ek ev m)))])) : kont P w0 W μ0 Post k none T H := by
 have key : ∀ {μ : Emb} {a : Act} {w : World}, St w0 W μ0 μ T H a w → ∃ m : List (α × β), Bag.of m = q ∧ St w0 W μ0 μ T (H.upd [(c, some (.map ag ks (encM ek ev m)))]) a w := by
  intro μ a w s
  have st : ∀ m : List (α × β), (∀ p, μ c = some p → ObjOK μ p w.heap[p.rb]? (.mapq ag ks (q.map fun e => (ek e.1, ev e.2))) → ObjOK μ p w.heap[p.rb]? (.map ag ks (encM ek ev m))) → St w0 W μ0 μ T (H.upd [(c, some (.map ag ks (encM ek ev m)))]) a w := fun l h =>
   ⟨s.sim.told hc rfl rfl rfl (fun hv => hv) h, s.fr, fun c' p hp => Nat.lt_of_lt_of_le (s.dom c' p hp) (upd_length _ H).1, s.defs, s.ext⟩
  rcases s.sim.obj' c _ hc with ⟨_, h2⟩ | ⟨p, h1, es, e, h2⟩
  ·exact h2.elim
  ·obtain ⟨m, e1, rfl⟩ := Bag.of_map e
   refine ⟨m, e1, st m fun p' hp' _ => ?_⟩
   rw [h1] at hp'; cases hp'
   exact h2
 cases k with
 | nil => cases hk
 | cons it k =>
  cases it with
  | code cd => exact fun μ a w s => let ⟨l, e, s'⟩ := key s; hh l e μ a w s'
  | loop cd => exact fun μ a w s => let ⟨l, e, s'⟩ := key s; hh l e μ a w s'
  | blk i => cases hk
end
theorem sub_bag {α : Type} (enc : α → List LV) (d : α) (sz : Nat) (l : List α) (h : ∀ x, fzbL (enc x) = true) : LO.Sub (.gr sz l.length (rowF enc d l)) (.bag sz ((Bag.of l).map enc)) := by
 refine ⟨rfl, fun hv => ?_, fun μ p hh r => ?_⟩
 ·have : l = [] := List.eq_nil_of_length_eq_zero hv
  subst this; rfl
 ·obtain ⟨g1, g2, cells, E, fr, g3, g4, g5, g6⟩ := r
  refine ⟨l.map enc, rfl, g1, by rw [List.length_map]; exact g2, cells, E, fr, g3, g4, g5, fun i hi => ?_⟩
  rw [List.length_map] at hi
  obtain ⟨vs, k1, k2⟩ := g6 i hi
  have : (l.map enc).getD i [] = rowF enc d l i := by
   simp only [rowF, List.getD_eq_getElem?_getD, List.getElem?_map, List.getElem?_eq_getElem hi, Option.map_some, Option.getD_some]
  exact ⟨vs, by show RelFL μ.fro ((l.map enc).getD i []) vs; rw [this]; exact k1.frz (h _), k2⟩
theorem sub_mapq {α β : Type} (ek : α → LV) (ev : β → LV) (ag : Bool) (ks : List CK) (m : List (α × β)) : LO.Sub (.map ag ks (encM ek ev m)) (.mapq ag ks ((Bag.of m).map fun e => (ek e.1, ev e.2))) :=
 ⟨rfl, fun hv => hv, fun μ p hh r => ⟨_, rfl, r⟩⟩
noncomputable def agreeB {α R : Type} (q : Bag α) (f : List α → Option R) : Option R :=
 open Classical in
 if h : ∃ r, ∀ l, Bag.of l = q → f l = some r then some h.choose else none
theorem agreeB_some {α R : Type} {q : Bag α} {f : List α → Option R} {r : R} (h : agreeB q f = some r) {l : List α} (hl : Bag.of l = q) : f l = some r := by
 unfold agreeB at h
 split at h
 ·rename_i hx
  cases h
  exact hx.choose_spec l hl
 ·cases h
theorem agreeB_eq {α R : Type} {q : Bag α} {f : List α → Option R} {r : R} (h : ∀ l, Bag.of l = q → f l = some r) : agreeB q f = some r := by
 unfold agreeB
 have hx : ∃ r, ∀ l, Bag.of l = q → f l = some r := ⟨r, h⟩
 rw [dif_pos hx]
 obtain ⟨l, hl⟩ := q.ex
 exact (hx.choose_spec l hl).symm.trans (h l hl)
end Go.Cn
