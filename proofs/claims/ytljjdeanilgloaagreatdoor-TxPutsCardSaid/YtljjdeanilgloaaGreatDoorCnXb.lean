import Derived.Test.YtljjdeanilgloaaGreatDoorCnXa
set_option linter.unusedVariables false
set_option linter.unusedSimpArgs false
namespace Go.Cn
open Go
set_option linter.unusedVariables false
set_option linter.unusedSimpArgs false
set_option linter.unusedSectionVars false
section
variable {α β : Type} [DecidableEq α] (ek : α → LV) (ec : β → List LV)
def encP (m : List (α × β)) : List (LV × List LV) := m.map fun e => (ek e.1, ec e.2)
theorem keys_enc (m : List (α × β)) : keysE (encP ek ec m) = encM ek (fun _ => .any) m := by simp [keysE, encP, encM]
theorem at_enc (h : ∀ a b, eqK (ek a) (ek b) = decide (a = b)) (m : List (α × β)) (k : α) : (atE (ek k) (keysE (encP ek ec m))).isSome = (mget m k).isSome := by
 induction m with
 | nil => rfl
 | cons e r ih =>
  simp only [keysE, encP, List.map_cons, atE, mget, h] at ih ⊢
  by_cases he : k = e.1
  ·simp [he]
  ·simp only [he, decide_false, Bool.false_eq_true, if_false, Option.isSome_map]; exact ih
theorem pmN (h : ∀ a b, eqK (ek a) (ek b) = decide (a = b)) (m : List (α × β)) (k : α) (hn : (mget m k).isSome = false) : atE (ek k) (keysE (encP ek ec m)) = none := by
 have := at_enc ek ec h m k
 rw [hn] at this
 exact Option.not_isSome_iff_eq_none.1 (by rw [this]; decide)
theorem pmSi (h : ∀ a b, eqK (ek a) (ek b) = decide (a = b)) (m : List (α × β)) (k : α) (hn : (mget m k).isSome = true) : (atE (ek k) (keysE (encP ek ec m))).isSome = true := by
 rw [at_enc ek ec h m k, hn]
theorem pmIn {m : List (α × β)} {k : α} {v : β} (hn : mget m k = some v) : (ek k, ec v) ∈ encP ek ec m := by
 induction m with
 | nil => simp [mget] at hn
 | cons e r ih =>
  simp only [mget] at hn
  simp only [encP, List.map_cons, List.mem_cons]
  split at hn
  ·rename_i he; cases hn; left; rw [he]
  ·right; exact ih hn
theorem pmO0 (k : α) : ∀ s, (ek k, s) ∉ ([] : List (LV × Nat)) := fun s h => by cases h
theorem updP_enc (h : ∀ a b, eqK (ek a) (ek b) = decide (a = b)) (m : List (α × β)) (k : α) (v : β) : updP (ek k) (ec v) (encP ek ec m) = encP ek ec (mset m k v) := by
 induction m with
 | nil => rfl
 | cons e r ih =>
  simp only [encP, List.map_cons, updP, mset, h] at ih ⊢
  by_cases he : k = e.1
  ·simp [he]
  ·simp only [he, decide_false, Bool.false_eq_true, if_false, List.map_cons, ih]
theorem getP_enc (h : ∀ a b, eqK (ek a) (ek b) = decide (a = b)) (m : List (α × β)) (k : α) {v : β} (hn : mget m k = some v) : (getP (ek k) (encP ek ec m)).isSome = true := by
 induction m with
 | nil => simp [mget] at hn
 | cons e r ih =>
  simp only [mget] at hn
  simp only [encP, List.map_cons, getP, h] at ih ⊢
  by_cases he : k = e.1
  ·simp [he]
  ·rw [if_neg he] at hn
   simp only [he, decide_false, Bool.false_eq_true, if_false]; exact ih hn
omit [DecidableEq α] in
theorem isS {γ : Type} {o : Option γ} {v : γ} (h : o = some v) : o.isSome = true := by rw [h]; rfl
theorem mset_same {m : List (α × β)} {k : α} {v : β} (hn : mget m k = some v) : mset m k v = m := by
 induction m with
 | nil => simp [mget] at hn
 | cons e r ih =>
  simp only [mget] at hn
  simp only [mset]
  split at hn
  ·rename_i he; cases hn; rw [if_pos he, he]
  ·rename_i he; rw [if_neg he, ih hn]
theorem pm_same (h : ∀ a b, eqK (ek a) (ek b) = decide (a = b)) (ag : Bool) (ks : List CK) (r : List (LV × Nat)) {m : List (α × β)} {k : α} {v : β} (hn : mget m k = some v) : LO.pm ag ks (updP (ek k) (ec v) (encP ek ec m)) r = .pm ag ks (encP ek ec m) r := by
 rw [updP_enc ek ec h, mset_same hn]
theorem pm_upd (h : ∀ a b, eqK (ek a) (ek b) = decide (a = b)) (ag : Bool) (ks : List CK) (r : List (LV × Nat)) (m : List (α × β)) (k : α) (v : β) : LO.pm ag ks (updP (ek k) (ec v) (encP ek ec m)) r = .pm ag ks (encP ek ec (mset m k v)) r := by
 rw [updP_enc ek ec h]
theorem le_pmR {ag : Bool} {ks : List CK} {m : List (α × β)} {opn : List (LV × Nat)} : LO.Le (.pm ag ks (encP ek ec m) opn) (.mapR ag ks (encM ek (fun _ => .any) m)) := ⟨fun h => (by cases h), fun h => h.elim, fun μ p h r => by
 have := pm_map r
 rw [keys_enc] at this
 exact this⟩
theorem le_pmP {ag : Bool} {ks : List CK} {m : List (α × β)} {opn : List (LV × Nat)} : LO.Le (.pm ag ks (encP ek ec m) opn) (.mapR ag ks (encM ek (fun _ => .pp) m)) := ⟨fun h => (by cases h), fun h => h.elim, fun μ p h r => by
 obtain ⟨en, cl, h1, h2, h3, h4, h5⟩ := r
 have e : encM ek (fun _ => LV.pp) m = (encP ek ec m).map fun e => (e.1, LV.pp) := by simp [encM, encP]
 rw [e]
 refine ⟨⟨en, cl, h1, F2.left (fun e : LV × List LV => (e.1, LV.pp)) (fun a b hr => ?_) h2, h3, h4⟩, fun e he => ?_⟩
 ·obtain ⟨h, b, o, hv, _⟩ := hr
  exact ⟨h, _, hv⟩
 ·obtain ⟨x, hx, rfl⟩ := List.mem_map.1 he
  exact h5 x hx⟩
theorem le_ppR {α β : Type} {ag : Bool} {ks : List CK} (ek : α → LV) (m : List (α × β)) : LO.Le (.mapR ag ks (encM ek (fun _ => .pp) m)) (.mapR ag ks (encM ek (fun _ => .any) m)) := ⟨fun h => (by cases h), fun h => h.elim, fun μ p h r => by
 obtain ⟨⟨en, cl, h1, h2, h3, h4⟩, h5⟩ := r
 have e : encM ek (fun _ => LV.any) m = (encM ek (fun _ => LV.pp) m).map fun e => (e.1, LV.any) := by simp [encM]
 rw [e]
 refine ⟨⟨en, cl, h1, F2.left (fun e : LV × LV => (e.1, LV.any)) (fun a b hr => ⟨hr.1, trivial⟩) h2, h3, h4⟩, fun e he => ?_⟩
 obtain ⟨x, hx, rfl⟩ := List.mem_map.1 he
 exact h5 x hx⟩
theorem lookS (h : ∀ a b, eqK (ek a) (ek b) = decide (a = b)) (m : List (α × β)) (k : α) (c : (mget m k).isSome = true) : findE (ek k) (encM ek (fun _ => LV.pp) m) = some .pp := by
 rw [findE_enc ek (fun _ => LV.pp) h]
 cases hm : mget m k with
 | none => rw [hm] at c; cases c
 | some v => rfl
theorem lookN (h : ∀ a b, eqK (ek a) (ek b) = decide (a = b)) (m : List (α × β)) (k : α) (c : (mget m k).isSome = false) : findE (ek k) (encM ek (fun _ => LV.pp) m) = none := by
 rw [findE_enc ek (fun _ => LV.pp) h]
 cases hm : mget m k with
 | none => rfl
 | some v => rw [hm] at c; cases c
end
theorem LO.Sub.trans {a b c : LO} (h : a.Sub b) (k : b.Sub c) : a.Sub c := ⟨h.1.trans k.1, fun x => k.2.1 (h.2.1 x), fun μ p o x => k.2.2 μ p o (h.2.2 μ p o x)⟩
section
variable {P : Program} {w0 : World} {W : Nat → Prop} {μ0 : Emb} {Post : List LV → Heap → Prop}
theorem Sim.told {μ : Emb} {H : Heap} {w : World} {c : Nat} {o o' : LO} (s : Sim w0 W μ H w) (ho : H.at c = some o) (hw : o.wr = o'.wr) (hpl : o.plain = true) (hpl' : o'.plain = true) (hv : o.void → o'.void)
  (hok : ∀ p, μ c = some p → ObjOK μ p w.heap[p.rb]? o → ObjOK μ p w.heap[p.rb]? o') : Sim w0 W μ (H.upd [(c, some o')]) w := by
 have at' : ∀ {d x}, (H.upd [(c, some o')]).at d = some x → (d = c ∧ x = o') ∨ (d ≠ c ∧ H.at d = some x) := by
  intro d x h
  have h2 : (H.put c (some o')).at d = some x := h
  rw [Heap.at_put] at h2
  split at h2
  ·rename_i e; cases h2; exact .inl ⟨e, rfl⟩
  ·rename_i e; exact .inr ⟨e, h2⟩
 have old : ∀ {d x}, (H.upd [(c, some o')]).at d = some x → ∃ y, H.at d = some y ∧ y.wr = x.wr := by
  intro d x h
  rcases at' h with ⟨rfl, rfl⟩ | ⟨_, h⟩
  ·exact ⟨o, ho, hw⟩
  ·exact ⟨x, h, rfl⟩
 have xx : ∀ {d x p b}, (H.upd [(c, some o')]).at d = some x → Xtra μ w p x b → H.at d = some x := by
  intro d x p b h hx
  rcases at' h with ⟨rfl, rfl⟩ | ⟨_, h⟩
  ·exact absurd hx (Xtra.plain hpl')
  ·exact h
 refine ⟨fun d x h => ?_, fun d x d' x' p p' h h' hne hw' hp hp' => ?_, s.os, s.tape, s.output, s.draws, s.grow, s.keep, fun d x p h hw' hp => ?_, s.fro, fun d x p h hw' hp => ?_, s.tab, fun d x p h hp => ?_, fun d x p b d' x' p' h hp hx h' hp' => ?_, fun d x p b h hp hx => s.xown d x p b (xx h hx) hp hx, fun d x p b h hp hx => s.xfrs d x p b (xx h hx) hp hx⟩
 ·rcases at' h with ⟨rfl, rfl⟩ | ⟨_, h⟩
  ·rcases s.obj' _ _ ho with ⟨h1, h2⟩ | ⟨p, h1, h2⟩
   ·exact .inl ⟨h1, hv h2⟩
   ·exact .inr ⟨p, h1, hok p h1 h2⟩
  ·exact s.obj' d x h
 ·obtain ⟨y, hy, e1⟩ := old h
  obtain ⟨y', hy', e2⟩ := old h'
  exact s.sep d y d' y' p p' hy hy' hne (by rw [e1, e2]; exact hw') hp hp'
 ·obtain ⟨y, hy, e1⟩ := old h
  exact s.own d y p hy (by rw [e1]; exact hw') hp
 ·obtain ⟨y, hy, e1⟩ := old h
  exact s.frs d y p hy (by rw [e1]; exact hw') hp
 ·rcases at' h with ⟨rfl, rfl⟩ | ⟨_, h⟩
  ·exact XOK.plain hpl'
  ·exact s.xok d x p h hp
 ·have g := xx h hx
  obtain ⟨y', hy', e2⟩ := old h'
  have := s.xsep d x p b d' y' p' g hp hx hy' hp'
  refine ⟨this.1, fun hne hx' => ?_⟩
  have g' := xx h' hx'
  rw [hy'] at g'; cases g'
  exact this.2 hne hx'
end
theorem le_op_nil {c : Nat} {b : Bool} (h : b = false) : LV.Le (.op c b) .nilptr := fun μ x r => r.elim (·.2) fun ⟨h', _⟩ => by rw [h] at h'; cases h'
theorem le_op_ptr {c : Nat} {b : Bool} (h : b = true) : LV.Le (.op c b) (.ptr c 0 0) := fun μ x r => r.elim (fun ⟨h', _⟩ => by rw [h] at h'; cases h') (·.2)
theorem le_nil_op {c : Nat} {b : Bool} (h : b = false) : LV.Le .nilptr (.op c b) := fun μ x r => .inl ⟨h, r⟩
theorem le_ptr_op {c : Nat} {b : Bool} (h : b = true) : LV.Le (.ptr c 0 0) (.op c b) := fun μ x r => .inr ⟨h, r⟩
theorem sub_vo_var {β : Type} [Inhabited β] (f : β → List LV) {g : Option β} {y : β} (h : g = some y) : LO.Sub (.vo g.isSome (f (g.getD default))) (.var (f y)) := by
 subst h
 exact ⟨rfl, fun x => (by cases x), fun μ p b ⟨_, r⟩ => r⟩
theorem sub_var_vo {β : Type} [Inhabited β] (f : β → List LV) {g : Option β} {y : β} (h : g = some y) : LO.Sub (.var (f y)) (.vo g.isSome (f (g.getD default))) := by
 subst h
 exact ⟨rfl, fun x => x.elim, fun μ p b r => ⟨rfl, r⟩⟩
theorem isS_of {α : Type} {g : Option α} {y : α} (h : g = some y) : g.isSome = true := by rw [h]; rfl
theorem LO.Le.ofVarL {cs ds : List LV} (h : LeL cs ds) : (LO.var cs).Le (.row cs.length 1 (fun _ => ds) false) := by
 have e : ds.length = cs.length := h.length
 have := (LO.Le.ofVar ds)
 rw [e] at this
 exact LO.Le.trans ⟨fun _ => rfl, fun x => x.elim, (LO.Sub.var h).2.2⟩ this
theorem mit_keys {α β : Type} [DecidableEq α] (ek : α → LV) (ec : β → List LV) (c : Nat) (ag : Bool) (ks : List CK) (m : List (α × β)) : LO.mit c ag ks (keysE (encP ek ec m)) none (keysE (encP ek ec m)) (some (encP ek ec m)) = .mit c ag ks (encM ek (fun _ => .any) m) none (encM ek (fun _ => .any) m) (some (encP ek ec m)) := by
 rw [keys_enc]
theorem ltD {ix : Int} {a n : Nat} (h : 0 ≤ ix ∧ ix < ((n - a : Nat) : Int)) : a + ix.toNat < n := by omega
end Go.Cn
