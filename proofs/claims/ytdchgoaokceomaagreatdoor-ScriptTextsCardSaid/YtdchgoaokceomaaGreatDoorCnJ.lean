import Derived.Test.YtdchgoaokceomaaGreatDoorCnI
import Derived.Laws.AppendOwn
set_option linter.unusedVariables false
set_option linter.unusedSimpArgs false
namespace Go.Cn
open Go
section
variable {P : Program}
def eMakeMap (P : Program) (new : Nat) (t : TypeId) : Option Eff :=
 match tDesc P t with
 | some (.map kt _) =>
  match kShape P kt with
  | some (ag, ks) => some ⟨True, .map new, [], [(new, some (.map ag ks []))]⟩
  | none => none
 | _ => none
def eMapUpdate (P : Program) (H : Heap) (t : TypeId) (m k v : LV) : Option Eff :=
 match tDesc P t, m with
 | some (.map kt _), .map c =>
  match kShape P kt, H.at c with
  | some (ag, ks), some (.map ag' ks' es) =>
   if ag = ag' ∧ ks = ks' then some ⟨keyOK ag ks k = true ∧ v.fzb = true, .any, [c], [(c, some (.map ag ks (updE k v es)))]⟩ else none
  | _, _ => none
 | _, _ => none
theorem F2.set {α β : Type} {R : α → β → Prop} {l : List α} {m : List β} (h : F2 R l m) : ∀ (i : Nat) {a : α} {b : β}, R a b → F2 R (l.set i a) (m.set i b) := by
 induction h with
 | nil => intro i a b _; simpa using F2.nil
 | @cons a b l m hab hr ih =>
  intro i x y hxy
  cases i with
  | zero => exact .cons hxy hr
  | succ i => exact .cons hab (ih i hxy)
theorem fitsL_fzb : ∀ {ks : List CK} {l : List LV}, fitsL ks l = true → fzbL l = true
 | [], [], _ => rfl
 | k :: ks, x :: l, h => by
  simp only [fitsL, Bool.and_eq_true] at h
  simp only [fzbL, Bool.and_eq_true]
  refine ⟨?_, fitsL_fzb h.2⟩
  have := h.1
  cases k <;> cases x <;> simp [fitsC] at this <;> rfl
 | [], _ :: _, h => by simp [fitsL] at h
 | _ :: _, [], h => by simp [fitsL] at h
def eMapEntry (P : Program) (H : Heap) (new : Nat) (t : TypeId) (m k : LV) : Option Eff :=
 match tDesc P t, m with
 | some (.map kt el), .map c =>
  match kShape P kt, H.at c, tZero P el with
  | some (ag, ks), some (.mapP ag' ks' es k' z'), some z =>
   if ag = ag' ∧ ks = ks' ∧ c ≠ new then some ⟨keyOK ag ks k = true ∧ z.fzb = true ∧ eqK k k = true ∧ k' = k ∧ z' = z, .tup [.any, .stamp new], [c], [(c, some (.mapO ag ks es k z new)), (new, none)]⟩ else none
  | _, _, _ => none
 | _, _ => none
def eEntryStore (H : Heap) (m s v : LV) : Option Eff :=
 match m, s with
 | .map c, .stamp d =>
  match H.at c with
  | some (.mapO ag ks es k z d') => if d = d' then some ⟨v.fzb = true ∧ eqK k k = true, .any, [c], [(c, some (.map ag ks (updE k v es)))]⟩ else none
  | _ => none
 | _, _ => none
def eDelete (P : Program) (H : Heap) (t : TypeId) (m k : LV) : Option Eff :=
 match tDesc P t with
 | some (.map kt _) =>
  match kShape P kt, m with
  | some (ag, ks), .nilmap => some ⟨keyOK ag ks k = true, .tup [], [], []⟩
  | some (ag, ks), .map c =>
   match H.at c with
   | some (.map ag' ks' es) =>
    if ag = ag' ∧ ks = ks' then some ⟨keyOK ag ks k = true, .tup [], [c], [(c, some (.map ag ks (delE k es)))]⟩ else none
   | _ => none
  | _, _ => none
 | _ => none
end
end Go.Cn
