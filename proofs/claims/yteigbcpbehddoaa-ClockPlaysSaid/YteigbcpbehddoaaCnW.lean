/- Canon, part W: rows out of lists, maps out of lists of pairs; words for printed walks. -/
import Derived.Test.YteigbcpbehddoaaCnU
set_option linter.unusedVariables false
set_option linter.unusedSimpArgs false
namespace Go.Cn
open Go
set_option linter.unusedSectionVars false

/-! Values that are weaker -/
theorem leB {X b : Bool} (h : X = b) : LV.Le (.bool X) (.bool b) := LV.Le.of_eq (by rw [h])
theorem leI {k : IntKind} {a b : Int} (h : a = b) : LV.Le (.int k a) (.int k b) := LV.Le.of_eq (by rw [h])
theorem le_ (a b : Nat) (h : Nat.ble a b = true) : a ≤ b := Nat.le_of_ble_eq_true h
theorem lt_ (a b : Nat) (h : Nat.ble (a + 1) b = true) : a < b := Nat.le_of_ble_eq_true h
theorem lei_ (a b : Int) (h : decide (a ≤ b) = true) : a ≤ b := of_decide_eq_true h
theorem lti_ (a b : Int) (h : decide (a < b) = true) : a < b := of_decide_eq_true h

theorem le_nil_ds (sz : Nat) (f : Nat → List LV) : LV.Le .nilsl (.ds sz 0 f) := fun μ x h => by
  simp only [Rel] at h; subst h; exact ds_nil
theorem altA {α β : Type} {x : Option (Bool × α × β)} {y : Bool × α × β} (e : x = some y) (c : y.1 = true) : x = some (true, y.2.1, y.2.2) := by rw [e, ← c]
theorem altB {α β : Type} {x : Option (Bool × α × β)} {y : Bool × α × β} (e : x = some y) (c : y.1 = false) : x = some (false, y.2.1, y.2.2) := by rw [e, ← c]
theorem le_agg {l m : List LV} (h : LeL l m) : LV.Le (.agg l) (.agg m) := fun μ x hx => by
  simp only [Rel] at hx ⊢
  obtain ⟨vs, e, hx⟩ := hx
  exact ⟨vs, e, LeL.rel h hx⟩
theorem le_nil_gs (c : Nat) : LV.Le .nilsl (.gs c 0) := fun μ x h => .inl ⟨rfl, h⟩
theorem le_ds {sz n n' : Nat} {f f' : Nat → List LV} (hn : n = n') (h : ∀ i, i < n → f i = f' i) : LV.Le (.ds sz n f) (.ds sz n' f') := fun μ x hx => by
  subst hn
  simp only [Rel, RelF] at hx ⊢
  obtain ⟨base, rc, rfl, h1, h2, h3, h4⟩ := hx
  exact ⟨base, rc, rfl, h1, h2, h3, fun i hi => by rw [← h i hi]; exact h4 i hi⟩
theorem le_gs (c : Nat) {n n' : Nat} (h : n = n') : LV.Le (.gs c n) (.gs c n') := LV.Le.of_eq (by rw [h])
theorem le_sl_gs (c n : Nat) (cap : Option Nat) (h : Nat.ble 1 n = true) : LV.Le (.sl c 0 0 false n cap) (.gs c n) := fun μ x hx =>
  Rel.sl_gs (by have := Nat.le_of_ble_eq_true h; omega) hx

theorem tr : True := trivial
theorem a_ {A B : Prop} (a : A) (b : B) : A ∧ B := ⟨a, b⟩
theorem r1_ {Q : Prop} (q : Q) : (True ∧ True) ∧ Q := ⟨⟨trivial, trivial⟩, q⟩
theorem r2_ {Q : Prop} (q : Q) : (True ∧ True) ∧ (True ∧ True) ∧ Q := r1_ (r1_ q)
theorem r4_ {Q : Prop} (q : Q) : (True ∧ True) ∧ (True ∧ True) ∧ (True ∧ True) ∧ (True ∧ True) ∧ Q := r2_ (r2_ q)
theorem r8_ {Q : Prop} (q : Q) : (True ∧ True) ∧ (True ∧ True) ∧ (True ∧ True) ∧ (True ∧ True) ∧ (True ∧ True) ∧ (True ∧ True) ∧ (True ∧ True) ∧ (True ∧ True) ∧ Q := r4_ (r4_ q)
theorem t2_ {Q : Prop} (q : Q) : True ∧ True ∧ Q := ⟨trivial, trivial, q⟩
theorem t4_ {Q : Prop} (q : Q) : True ∧ True ∧ True ∧ True ∧ Q := t2_ (t2_ q)
theorem t8_ {Q : Prop} (q : Q) : True ∧ True ∧ True ∧ True ∧ True ∧ True ∧ True ∧ True ∧ Q := t4_ (t4_ q)
def cInt (k : IntKind) (x : Int) : List LV := [.int k x]
def cBool (x : Bool) : List LV := [.bool x]
def cStr (x : List UInt8) : List LV := [.str x]
theorem k_int (k : IntKind) (a b : Int) : eqK (.int k a) (.int k b) = decide (a = b) := by
  show (a == b) = decide (a = b)
  rw [Bool.eq_iff_iff, beq_iff_eq, decide_eq_true_eq]
theorem k_str (a b : List UInt8) : eqK (.str a) (.str b) = decide (a = b) := by
  show (a == b) = decide (a = b)
  rw [Bool.eq_iff_iff, beq_iff_eq, decide_eq_true_eq]
theorem k_bool (a b : Bool) : eqK (.bool a) (.bool b) = decide (a = b) := by
  cases a <;> cases b <;> rfl
theorem le_all {α : Type} (enc : α → List LV) (d : α) (s : Nat) (l : List α) : LV.Le (.ds s (l.length - 0) (fun q => rowF enc d l (0 + q))) (.ds s l.length (rowF enc d l)) :=
  le_ds (by simp) (fun i _ => by rw [Nat.zero_add])
theorem ltN {i : Int} {n : Nat} (h : 0 ≤ i ∧ i < (n : Int)) : i.toNat < n := by omega
theorem ltN0 {i : Int} {n : Nat} (h : 0 ≤ i ∧ i < (n : Int)) : 0 + i.toNat < n := by omega

/-! Rows -/
section
variable {α : Type} (enc : α → List LV) (d : α)

theorem rowF_getD (l : List α) (i : Nat) : rowF enc d l i = enc (l.getD i d) := rfl

theorem chunk_flat (s : Nat) (h : ∀ x, (enc x).length = s) : ∀ (l : List α) (i : Nat), i < l.length → chunk s (l.flatMap enc) i = enc (l.getD i d)
  | [], i, hi => by simp at hi
  | x :: l, 0, _ => by
    simp only [chunk, List.flatMap_cons, Nat.zero_mul, List.drop_zero, List.getD_cons_zero]
    rw [List.take_append_of_le_length (by rw [h x]; exact Nat.le_refl _), List.take_of_length_le (by rw [h x]; exact Nat.le_refl _)]
  | x :: l, i + 1, hi => by
    have ih := chunk_flat s h l i (by simpa using hi)
    simp only [chunk, List.flatMap_cons, List.getD_cons_succ] at ih ⊢
    rw [show (i + 1) * s = (enc x).length + i * s from by rw [h x, Nat.add_mul, Nat.one_mul, Nat.add_comm], ← List.drop_drop, List.drop_append_of_le_length (Nat.le_refl _), List.drop_length, List.nil_append]
    exact ih

/-- A row of told elements. -/
theorem sub_lit (s : Nat) (h : ∀ x, (enc x).length = s) (l : List α) : LO.Sub (.row s l.length (chunk s (l.flatMap enc)) true) (.gr s l.length (rowF enc d l)) := by
  refine ⟨rfl, fun h => h.elim, fun μ p hh r => ?_⟩
  exact ObjOK.eqv (o := .gr s l.length (chunk s (l.flatMap enc))) ⟨rfl, rfl, fun i hi => chunk_flat enc d s h l i hi⟩ (ObjOK.row_gr.1 r)
theorem sub_litr (s : Nat) (h : ∀ x, (enc x).length = s) (l : List α) : LO.Sub (.row s l.length (chunk s (l.flatMap enc)) true) (.row s l.length (rowF enc d l) true) :=
  ObjEq.sub ⟨rfl, rfl, rfl, fun i hi => chunk_flat enc d s h l i hi⟩

theorem appRow_rowF (l m : List α) : appRow l.length (rowF enc d l) (rowF enc d m) = rowF enc d (l ++ m) := by
  funext t
  simp only [appRow, rowF]
  by_cases h : t < l.length
  · rw [if_pos h, List.getD_eq_getElem?_getD, List.getD_eq_getElem?_getD, List.getElem?_append_left h]
  · rw [if_neg h, List.getD_eq_getElem?_getD, List.getD_eq_getElem?_getD, List.getElem?_append_right (by omega)]

/-- What was appended. -/
theorem sub_app (s : Nat) (l m : List α) : LO.Sub (.gr s (l.length + m.length) (appRow l.length (rowF enc d l) (rowF enc d m))) (.gr s (l ++ m).length (rowF enc d (l ++ m))) := by
  rw [appRow_rowF, List.length_append]; exact LO.Sub.refl _
theorem gr_sub {s n : Nat} {f g : Nat → List LV} (h : ∀ i, i < n → f i = g i) : LO.Sub (.gr s n f) (.gr s n g) :=
  ⟨rfl, id, fun μ _ _ ⟨k1, k2, cells, E, fr, k3, k4, k5, k6⟩ => ⟨k1, k2, cells, E, fr, k3, k4, k5, fun i hi => by rw [← h i hi]; exact k6 i hi⟩⟩
theorem sub_appF (s : Nat) (l m : List α) (f : Nat → List LV) (hf : ∀ q, q < l.length → f q = rowF enc d l q) : LO.Sub (.gr s (l.length + m.length) (appRow l.length f (rowF enc d m))) (.gr s (l ++ m).length (rowF enc d (l ++ m))) := by
  rw [← appRow_rowF, List.length_append]
  refine gr_sub fun i _ => ?_
  unfold appRow
  split
  · exact hf i ‹_›
  · rfl
theorem sub_app0 (s : Nat) (l m : List α) : LO.Sub (.gr s (l.length + m.length) (appRow l.length (rowF enc d l) (fun q => rowF enc d m (0 + q)))) (.gr s (l ++ m).length (rowF enc d (l ++ m))) := by
  have : (fun q => rowF enc d m (0 + q)) = rowF enc d m := by funext q; rw [Nat.zero_add]
  rw [this]; exact sub_app enc d s l m
theorem le_gs_app (c : Nat) (l m : List α) : LV.Le (.gs c (l.length + m.length)) (.gs c (l ++ m).length) := le_gs c (by simp)
theorem sub_row0 (s : Nat) (m : List α) : LO.Sub (.gr s m.length (fun q => rowF enc d m (0 + q))) (.gr s m.length (rowF enc d m)) := by
  have : (fun q => rowF enc d m (0 + q)) = rowF enc d m := by funext q; rw [Nat.zero_add]
  rw [this]; exact LO.Sub.refl _

/-- A part of a frozen row. -/
theorem le_slice (s : Nat) (l : List α) (a b : Nat) (h1 : a ≤ b) (h2 : b ≤ l.length) : LV.Le (.ds s (b - a) (fun q => rowF enc d l (a + q))) (.ds s ((l.take b).drop a).length (rowF enc d ((l.take b).drop a))) := by
  refine le_ds (by simp; omega) (fun i hi => ?_)
  simp only [rowF]
  congr 1
  rw [List.getD_eq_getElem?_getD, List.getD_eq_getElem?_getD, List.getElem?_drop, List.getElem?_take, if_pos (by omega)]
theorem le_take (s : Nat) (l : List α) (b : Nat) (h2 : b ≤ l.length) : LV.Le (.ds s (b - 0) (fun q => rowF enc d l (0 + q))) (.ds s (l.take b).length (rowF enc d (l.take b))) := by
  have := le_slice enc d s l 0 b (Nat.zero_le _) h2
  simpa using this
theorem le_drop (s : Nat) (l : List α) (a : Nat) (h2 : a ≤ l.length) : LV.Le (.ds s (l.length - a) (fun q => rowF enc d l (a + q))) (.ds s (l.drop a).length (rowF enc d (l.drop a))) := by
  have := le_slice enc d s l a l.length h2 (Nat.le_refl _)
  simpa using this

/-- An element written. -/
theorem set_rowF (l : List α) (i : Nat) (x : α) (hi : i < l.length) (g : List LV) (hg : g = enc x) : ∀ m, m < l.length → (if m = i then g else rowF enc d l m) = rowF enc d (l.set i x) m := by
  intro m hm
  simp only [rowF]
  rw [List.getD_eq_getElem?_getD (l := l.set i x), List.getElem?_set]
  by_cases h : i = m
  · subst h; simp [hi, hg]
  · rw [if_neg (fun e => h e.symm), if_neg h, List.getD_eq_getElem?_getD]
theorem sub_set_gr (s : Nat) (l : List α) (i : Nat) (x : α) (hi : i < l.length) (g : List LV) (hg : g = enc x) :
    LO.Sub (.gr s l.length (fun m => if m = i then g else rowF enc d l m)) (.gr s (l.set i x).length (rowF enc d (l.set i x))) := by
  refine ObjEq.sub ⟨rfl, by simp, fun m hm => set_rowF enc d l i x hi g hg m hm⟩
theorem sub_set_row (s : Nat) (l : List α) (i : Nat) (x : α) (hi : i < l.length) (g : List LV) (hg : g = enc x) :
    LO.Sub (.row s l.length (fun m => if m = i then g else rowF enc d l m) true) (.row s (l.set i x).length (rowF enc d (l.set i x)) true) := by
  refine ObjEq.sub ⟨rfl, by simp, rfl, fun m hm => set_rowF enc d l i x hi g hg m hm⟩
end

theorem fz_row {α : Type} {enc : α → List LV} {d : α} (h : ∀ x, fzbL (enc x) = true) (l : List α) : ∀ i, i < l.length → fzbL (rowF enc d l i) = true := fun i _ => h _

/-! Maps -/
section
variable {α β : Type} (ek : α → LV) (ev : β → LV)

def encM (m : List (α × β)) : List (LV × LV) := m.map fun e => (ek e.1, ev e.2)

section
variable [DecidableEq α]
def mget (m : List (α × β)) (k : α) : Option β :=
  match m with
  | [] => none
  | e :: r => if k = e.1 then some e.2 else mget r k
def mset (m : List (α × β)) (k : α) (v : β) : List (α × β) :=
  match m with
  | [] => [(k, v)]
  | e :: r => if k = e.1 then (k, v) :: r else e :: mset r k v
def mdel (m : List (α × β)) (k : α) : List (α × β) :=
  match m with
  | [] => []
  | e :: r => if k = e.1 then r else e :: mdel r k

theorem findE_enc (h : ∀ a b, eqK (ek a) (ek b) = decide (a = b)) (m : List (α × β)) (k : α) : findE (ek k) (encM ek ev m) = (mget m k).map ev := by
  induction m with
  | nil => rfl
  | cons e r ih =>
    simp only [encM, List.map_cons, findE, mget, h] at ih ⊢
    by_cases he : k = e.1
    · simp [he]
    · simp only [he, decide_false, Bool.false_eq_true, if_false]; exact ih
theorem updE_enc (h : ∀ a b, eqK (ek a) (ek b) = decide (a = b)) (m : List (α × β)) (k : α) (v : β) : updE (ek k) (ev v) (encM ek ev m) = encM ek ev (mset m k v) := by
  induction m with
  | nil => rfl
  | cons e r ih =>
    simp only [encM, List.map_cons, updE, mset, h] at ih ⊢
    by_cases he : k = e.1
    · simp [he]
    · simp only [he, decide_false, Bool.false_eq_true, if_false, List.map_cons, ih]
theorem delE_enc (h : ∀ a b, eqK (ek a) (ek b) = decide (a = b)) (m : List (α × β)) (k : α) : delE (ek k) (encM ek ev m) = encM ek ev (mdel m k) := by
  induction m with
  | nil => rfl
  | cons e r ih =>
    simp only [encM, List.map_cons, delE, mdel, h] at ih ⊢
    by_cases he : k = e.1
    · simp [he]
    · simp only [he, decide_false, Bool.false_eq_true, if_false, List.map_cons, ih]

theorem le_look (o : Option β) (z : β) : LV.Le ((o.map ev).getD (ev z)) (ev (o.getD z)) := LV.Le.of_eq (by cases o <;> rfl)
theorem le_lookok (o : Option β) (z : β) : LV.Le (.tup [(o.map ev).getD (ev z), .bool (o.map ev).isSome]) (.tup [ev (o.getD z), .bool o.isSome]) := LV.Le.of_eq (by cases o <;> rfl)
theorem le_look0 (o : Option β) (d : β) {z : LV} (hz : LV.Le z (ev d)) : LV.Le ((o.map ev).getD z) (ev (o.getD d)) := by
  cases o with
  | none => exact hz
  | some x => exact LV.Le.refl _
theorem le_lookok0 (o : Option β) (d : β) {z : LV} (hz : LV.Le z (ev d)) : LV.Le (.tup [(o.map ev).getD z, .bool (o.map ev).isSome]) (.tup [ev (o.getD d), .bool o.isSome]) := fun μ x h => by
  simp only [Rel] at h ⊢
  obtain ⟨vs, e, h⟩ := h
  have hb : LV.Le (.bool (o.map ev).isSome) (.bool o.isSome) := by cases o <;> exact LV.Le.refl _
  have hl : LeL [(o.map ev).getD z, .bool (o.map ev).isSome] [ev (o.getD d), .bool o.isSome] := ⟨le_look0 ev o d hz, hb, trivial⟩
  exact ⟨vs, e, LeL.rel hl h⟩
theorem le_maplen (m : List (α × β)) : LV.Le (.int .i64 ((encM ek ev m).length : Nat)) (.int .i64 (m.length : Nat)) := LV.Le.of_eq (by simp [encM])
theorem sub_upd (h : ∀ a b, eqK (ek a) (ek b) = decide (a = b)) (ag : Bool) (ks : List CK) (m : List (α × β)) (k : α) (v : β) :
    LO.Sub (.map ag ks (updE (ek k) (ev v) (encM ek ev m))) (.map ag ks (encM ek ev (mset m k v))) := LO.Sub.of_eq (by rw [updE_enc ek ev h])
theorem sub_begin (ag : Bool) (ks : List CK) (es : List (LV × LV)) (k z : LV) : LO.Sub (.map ag ks es) (.mapP ag ks es k z) :=
  ⟨rfl, fun h => h, fun _ _ _ h => .inl h⟩
theorem sub_begun (ag : Bool) (ks : List CK) (es : List (LV × LV)) (k z : LV) (d : Nat) : LO.Sub (.mapO ag ks es k z d) (.mapP ag ks es k z) :=
  ⟨rfl, fun h => h, fun _ _ _ h => .inr h.1⟩
theorem sub_del (h : ∀ a b, eqK (ek a) (ek b) = decide (a = b)) (ag : Bool) (ks : List CK) (m : List (α × β)) (k : α) :
    LO.Sub (.map ag ks (delE (ek k) (encM ek ev m))) (.map ag ks (encM ek ev (mdel m k))) := LO.Sub.of_eq (by rw [delE_enc ek ev h])
end
end

/-! Printed functions -/
theorem ite_some {c : Prop} [Decidable c] {α : Type} {A B : Option α} {r : α} (h : (if c then A else B) = some r) : (c ∧ A = some r) ∨ (¬ c ∧ B = some r) := by
  by_cases hc : c
  · rw [if_pos hc] at h; exact .inl ⟨hc, h⟩
  · rw [if_neg hc] at h; exact .inr ⟨hc, h⟩
theorem itb_some {c : Bool} {α : Type} {A B : Option α} {r : α} (h : (if c then A else B) = some r) : (c = true ∧ A = some r) ∨ (c = false ∧ B = some r) := by
  cases c
  · exact .inr ⟨rfl, h⟩
  · exact .inl ⟨rfl, h⟩
theorem guard_some {c : Prop} [Decidable c] {α : Type} {A : Option α} {r : α} (h : (if c then A else none) = some r) : c ∧ A = some r := by
  by_cases hc : c
  · rw [if_pos hc] at h; exact ⟨hc, h⟩
  · rw [if_neg hc] at h; cases h
theorem bind_some {α β : Type} {o : Option α} {f : α → Option β} {r : β} (h : o.bind f = some r) : ∃ y, o = some y ∧ f y = some r := by
  cases o with
  | none => cases h
  | some y => exact ⟨y, rfl, h⟩

/-- More rounds than any loop has. -/
@[irreducible] def big : Nat := 1180591620717411303424
theorem big_eq : big = 1180591620717411303424 := by unfold big; rfl

theorem toN_le {a : Int} {n : Nat} (h : a ≤ (n : Int)) : a.toNat ≤ n := by omega
theorem toN_le2 {a b : Int} (h : a ≤ b) : a.toNat ≤ b.toNat := by omega
theorem ne0 (b : Int) (h : decide (b = 0) = false) : b ≠ 0 := of_decide_eq_false h

/-- An array of two. -/
structure A2 (α : Type) where
  a0 : α
  a1 : α
  deriving DecidableEq, Inhabited

/-- An array of eight. -/
structure A8 (α : Type) where
  a0 : α
  a1 : α
  a2 : α
  a3 : α
  a4 : α
  a5 : α
  a6 : α
  a7 : α
  deriving DecidableEq, Inhabited

def A8.get {α : Type} (v : A8 α) : Nat → α
  | 0 => v.a0 | 1 => v.a1 | 2 => v.a2 | 3 => v.a3 | 4 => v.a4 | 5 => v.a5 | 6 => v.a6 | _ => v.a7
def A8.set {α : Type} (v : A8 α) (x : α) : Nat → A8 α
  | 0 => { v with a0 := x } | 1 => { v with a1 := x } | 2 => { v with a2 := x } | 3 => { v with a3 := x } | 4 => { v with a4 := x } | 5 => { v with a5 := x } | 6 => { v with a6 := x } | _ => { v with a7 := x }
def A8.list {α : Type} (v : A8 α) : List α := [v.a0, v.a1, v.a2, v.a3, v.a4, v.a5, v.a6, v.a7]
theorem lt8 {n : Nat} (h : n < 8) : n = 0 ∨ n = 1 ∨ n = 2 ∨ n = 3 ∨ n = 4 ∨ n = 5 ∨ n = 6 ∨ n = 7 := by omega

theorem A8.x {α : Type} (a b : A8 α) : a = b ↔ a.a0 = b.a0 ∧ a.a1 = b.a1 ∧ a.a2 = b.a2 ∧ a.a3 = b.a3 ∧ a.a4 = b.a4 ∧ a.a5 = b.a5 ∧ a.a6 = b.a6 ∧ a.a7 = b.a7 := by
  cases a; cases b; simp
theorem A2.x {α : Type} (a b : A2 α) : a = b ↔ a.a0 = b.a0 ∧ a.a1 = b.a1 := by
  cases a; cases b; simp
theorem k_arr8 (k : IntKind) (a b : A8 Int) : eqK (.agg [.int k a.a0, .int k a.a1, .int k a.a2, .int k a.a3, .int k a.a4, .int k a.a5, .int k a.a6, .int k a.a7])
    (.agg [.int k b.a0, .int k b.a1, .int k b.a2, .int k b.a3, .int k b.a4, .int k b.a5, .int k b.a6, .int k b.a7]) = decide (a = b) := by
  rw [Bool.eq_iff_iff, decide_eq_true_eq]
  simp only [A8.x, eqK, eqCs, eqC, Bool.and_eq_true, beq_iff_eq, and_true]

/-! Elements of arrays in a variable -/
theorem A8.list_get {α : Type} (v : A8 α) (d : α) {n : Nat} (h : n < 8) : v.list.getD n d = v.get n := by
  rcases lt8 h with rfl | rfl | rfl | rfl | rfl | rfl | rfl | rfl <;> rfl
theorem A8.list_set {α : Type} (v : A8 α) (x : α) {n : Nat} (h : n < 8) : (v.set x n).list = v.list.set n x := by
  rcases lt8 h with rfl | rfl | rfl | rfl | rfl | rfl | rfl | rfl <;> rfl
def A2.get {α : Type} (v : A2 α) : Nat → α
  | 0 => v.a0 | _ => v.a1
def A2.list {α : Type} (v : A2 α) : List α := [v.a0, v.a1]

section
variable {α : Type} (enc : α → List LV)

theorem flat_len (z : Nat) (h : ∀ x, (enc x).length = z) : ∀ (l : List α), (l.flatMap enc).length = l.length * z
  | [] => by simp
  | x :: l => by rw [List.flatMap_cons, List.length_append, h x, flat_len z h l, List.length_cons, Nat.add_mul, Nat.one_mul, Nat.add_comm]

theorem flat_part (z : Nat) (h : ∀ x, (enc x).length = z) (d : α) (a s : Nat) (ha : a + s ≤ z) (post : List LV) : ∀ (l : List α) (n : Nat), n < l.length →
    ((l.flatMap enc ++ post).drop (n * z + a)).take s = ((enc (l.getD n d)).drop a).take s
  | [], n, hn => by simp at hn
  | x :: l, 0, _ => by
    simp only [List.flatMap_cons, Nat.zero_mul, Nat.zero_add, List.getD_cons_zero, List.append_assoc]
    rw [List.drop_append_of_le_length (by rw [h x]; omega), List.take_append_of_le_length (by rw [List.length_drop, h x]; omega)]
  | x :: l, n + 1, hn => by
    have ih := flat_part z h d a s ha post l n (by simpa using hn)
    rw [List.flatMap_cons, List.getD_cons_succ, List.append_assoc, show (n + 1) * z + a = (enc x).length + (n * z + a) from by rw [h x, Nat.add_mul, Nat.one_mul]; omega,
      ← List.drop_drop, List.drop_append_of_le_length (Nat.le_refl _), List.drop_length, List.nil_append]
    exact ih

theorem part8 (z : Nat) (h : ∀ x, (enc x).length = z) (v : A8 α) (pre post : List LV) (off : Nat) (ho : pre.length = off) (n a s : Nat) (hn : n < 8) (ha : a + s ≤ z) :
    ((pre ++ (v.list.flatMap enc ++ post)).drop (off + n * z + a)).take s = ((enc (v.get n)).drop a).take s := by
  rw [Nat.add_assoc, ← ho, ← List.drop_drop, List.drop_append_of_le_length (Nat.le_refl _), List.drop_length, List.nil_append,
    flat_part enc z h v.a0 a s ha post v.list n (by simpa [A8.list] using hn), A8.list_get v v.a0 hn]

/-- An element's part is read. -/
theorem ld8a (z : Nat) (h : ∀ x, (enc x).length = z) (v : A8 α) (pre post : List LV) (off : Nat) (ho : pre.length = off) (n a s : Nat) (hn : n < 8) (ha : a + s ≤ z) :
    LV.Le (.agg (((pre ++ (v.list.flatMap enc ++ post)).drop (off + n * z + a)).take s)) (.agg (((enc (v.get n)).drop a).take s)) := LV.Le.of_eq (by rw [part8 enc z h v pre post off ho n a s hn ha])
theorem ld8 (z : Nat) (h : ∀ x, (enc x).length = z) (v : A8 α) (pre post : List LV) (off : Nat) (ho : pre.length = off) (n s : Nat) (hn : n < 8) (ha : 0 + s ≤ z) :
    LV.Le (.agg (((pre ++ (v.list.flatMap enc ++ post)).drop (off + n * z)).take s)) (.agg (((enc (v.get n)).drop 0).take s)) := ld8a enc z h v pre post off ho n 0 s hn ha
theorem get_take (l : List LV) (j : Nat) : l[j]? = (((l.drop j).take 1))[0]? := by
  rw [List.getElem?_take, if_pos (by omega), List.getElem?_drop, Nat.add_zero]
theorem ld8sa (z : Nat) (h : ∀ x, (enc x).length = z) (v : A8 α) (pre post : List LV) (off : Nat) (ho : pre.length = off) (n a : Nat) (hn : n < 8) (ha : a + 1 ≤ z) :
    LV.Le (((pre ++ (v.list.flatMap enc ++ post))[off + n * z + a]?).getD .any) (((enc (v.get n))[a]?).getD .any) := LV.Le.of_eq (by
      rw [get_take, part8 enc z h v pre post off ho n a 1 hn ha, ← get_take])
theorem ld8s (z : Nat) (h : ∀ x, (enc x).length = z) (v : A8 α) (pre post : List LV) (off : Nat) (ho : pre.length = off) (n : Nat) (hn : n < 8) (ha : 0 + 1 ≤ z) :
    LV.Le (((pre ++ (v.list.flatMap enc ++ post))[off + n * z]?).getD .any) (((enc (v.get n))[0]?).getD .any) := ld8sa enc z h v pre post off ho n 0 hn ha

/-- An element of an array's value. -/
theorem ix8 (z : Nat) (h : ∀ x, (enc x).length = z) (v : A8 α) (n : Nat) (hn : n < 8) (_ : z ≤ z) :
    LV.Le (.agg (((v.list.flatMap enc).drop (n * z)).take z)) (.agg (enc (v.get n))) := by
  have := ld8 enc z h v [] [] 0 rfl n z hn (by omega)
  rw [Nat.zero_add, List.nil_append, List.append_nil, List.drop_zero, List.take_of_length_le (l := enc (v.get n)) (by rw [h]; omega)] at this
  exact this
theorem ix8s (z : Nat) (h : ∀ x, (enc x).length = z) (v : A8 α) (n : Nat) (hn : n < 8) (hz : 1 ≤ z) :
    LV.Le (((v.list.flatMap enc)[n * z]?).getD .any) (((enc (v.get n))[0]?).getD .any) := by
  have := ld8s enc z h v [] [] 0 rfl n hn (by omega)
  rw [Nat.zero_add, List.nil_append, List.append_nil] at this
  exact this
theorem flat_set (z : Nat) (h : ∀ x, (enc x).length = z) (x : α) : ∀ (l : List α) (n : Nat), n < l.length → splL (l.flatMap enc) (n * z) (enc x) = (l.set n x).flatMap enc
  | [], n, hn => by simp at hn
  | y :: l, 0, _ => by
    simp only [splL, List.flatMap_cons, Nat.zero_mul, List.take_zero, List.nil_append, Nat.zero_add, List.set_cons_zero]
    rw [h x, ← h y, List.drop_append_of_le_length (Nat.le_refl _), List.drop_length, List.nil_append]
  | y :: l, n + 1, hn => by
    have ih := flat_set z h x l n (by simpa using hn)
    simp only [splL, List.flatMap_cons, List.set_cons_succ] at ih ⊢
    have e : (n + 1) * z = (enc y).length + n * z := by rw [h y, Nat.add_mul, Nat.one_mul, Nat.add_comm]
    rw [e, List.take_append, List.take_of_length_le (by omega), show (enc y).length + n * z - (enc y).length = n * z from by omega,
      Nat.add_assoc, ← List.drop_drop, List.drop_append_of_le_length (Nat.le_refl _), List.drop_length, List.nil_append, List.append_assoc, List.append_assoc, ← ih]
    simp only [List.append_assoc]

theorem splL_mid (pre mid post xs : List LV) (j : Nat) (h : j + xs.length ≤ mid.length) : splL (pre ++ (mid ++ post)) (pre.length + j) xs = pre ++ (splL mid j xs ++ post) := by
  simp only [splL]
  rw [List.take_append, List.take_of_length_le (by omega), show pre.length + j - pre.length = j from by omega, List.take_append_of_le_length (by omega),
    Nat.add_assoc, ← List.drop_drop, List.drop_append_of_le_length (Nat.le_refl _), List.drop_length, List.nil_append, List.drop_append_of_le_length (by omega)]
  simp only [List.append_assoc]

/-- An element is written. -/
theorem st8 (z : Nat) (h : ∀ x, (enc x).length = z) (v : A8 α) (pre post : List LV) (off : Nat) (ho : pre.length = off) (n : Nat) (hn : n < 8) (x : α) :
    LO.Sub (.var (splL (pre ++ (v.list.flatMap enc ++ post)) (off + n * z) (enc x))) (.var (pre ++ ((v.set x n).list.flatMap enc ++ post))) := by
  have hl : v.list.length = 8 := rfl
  have hle : n * z + (enc x).length ≤ (v.list.flatMap enc).length := by
    rw [flat_len enc z h, hl, h x]
    have : (n + 1) * z ≤ 8 * z := Nat.mul_le_mul_right _ (by omega)
    rw [Nat.add_mul, Nat.one_mul] at this; exact this
  refine LO.Sub.of_eq ?_
  rw [← ho, splL_mid pre _ post (enc x) (n * z) hle, flat_set enc z h x v.list n (by omega), A8.list_set v x hn]
end

theorem arrLe {i : Int} {len : Nat} (h : 0 ≤ i ∧ i < (len : Int)) (off z tot s : Nat) (hh : Nat.ble (off + len * z) tot = true) (hs : Nat.ble s z = true) : off + i.toNat * z + s ≤ tot := by
  have h1 := Nat.le_of_ble_eq_true hh
  have h2 := Nat.le_of_ble_eq_true hs
  have h3 : (i.toNat + 1) * z ≤ len * z := Nat.mul_le_mul_right _ (by omega)
  rw [Nat.add_mul, Nat.one_mul] at h3
  omega
theorem arrLea {i : Int} {len : Nat} (h : 0 ≤ i ∧ i < (len : Int)) (off z tot a s : Nat) (hh : Nat.ble (off + len * z) tot = true) (hs : Nat.ble (a + s) z = true) : off + i.toNat * z + a + s ≤ tot := by
  have := arrLe h off z tot (a + s) hh hs; omega
theorem arrLt {i : Int} {len : Nat} (h : 0 ≤ i ∧ i < (len : Int)) (off z tot : Nat) (hh : Nat.ble (off + len * z) tot = true) (hs : Nat.ble 1 z = true) : off + i.toNat * z < tot := arrLe h off z tot 1 hh hs
theorem arrLta {i : Int} {len : Nat} (h : 0 ≤ i ∧ i < (len : Int)) (off z tot a : Nat) (hh : Nat.ble (off + len * z) tot = true) (hs : Nat.ble (a + 1) z = true) : off + i.toNat * z + a < tot := arrLea h off z tot a 1 hh hs
theorem ix8lt {i : Int} {n : Nat} (h : 0 ≤ i ∧ i < (n : Int)) (z tot : Nat) (hh : Nat.ble (n * z) tot = true) (hs : Nat.ble 1 z = true) : i.toNat * z < tot := by
  have := arrLt (len := n) h 0 z tot (by rw [Nat.zero_add]; exact hh) hs
  omega
theorem lt8N {i : Int} (h : 0 ≤ i ∧ i < 8) : i.toNat < 8 := by omega

/-! Made slices -/
theorem le_cap (c i j : Nat) (inn : Bool) (n k : Nat) : LV.Le (.sl c i j inn n (some k)) (.sl c i j inn n none) := fun μ x hx => by
  simp only [Rel] at hx ⊢
  obtain ⟨p, a, rc, h1, h2, h3, _, h5⟩ := hx
  exact ⟨p, a, rc, h1, h2, h3, (fun _ h => by cases h), h5⟩
theorem sub_made {α : Type} (enc : α → List LV) (d : α) (s n : Nat) (z : α) : LO.Sub (.row s n (fun _ => enc z) true) (.row s (List.replicate n z).length (rowF enc d (List.replicate n z)) true) :=
  ObjEq.sub ⟨rfl, by simp, rfl, fun i hi => by simp [rowF, List.getD_eq_getElem?_getD, hi]⟩
theorem fz_sl {n m : Nat} (h : n = m) : 0 + n ≤ m := by omega
theorem le_fz_sl {α : Type} (enc : α → List LV) (s : Nat) {d : α} {n : Nat} {l : List α} (h : n = l.length) : LV.Le (.ds s n (fun q => rowF enc d l (0 + q))) (.ds s l.length (rowF enc d l)) := LV.Le.of_eq (by
  subst h
  simp)

/-! A row of slices, one of which grows -/
section
variable {α : Type} (enc : α → List LV) (d : α)
/-- The first ones are done. -/
def rowN (L : List α) (q : Nat) : List LV := if q < L.length then rowF enc d L q else [.nilsl]
/-- The next one grows. -/
def rowC (L : List α) (c m : Nat) (q : Nat) : List LV := if q = L.length then [.gs c m] else rowN enc d L q
theorem row_sub {s n : Nat} {f g : Nat → List LV} (h : ∀ i, i < n → ∀ μ vs, RelL μ (f i) vs → RelL μ (g i) vs) : LO.Sub (.row s n f true) (.row s n g true) :=
  ⟨rfl, id, fun μ _ _ ⟨k1, k2, cells, E, fr, k3, k4, k5, k6⟩ => ⟨k1, k2, cells, E, fr, k3, k4, k5, fun i hi => by
    obtain ⟨vs, j1, j2⟩ := k6 i hi
    exact ⟨vs, h i hi μ vs j1, j2⟩⟩⟩
theorem sub_nmade (n : Nat) : LO.Sub (.row 1 n (fun _ => [.nilsl]) true) (.row 1 n (rowN enc d []) true) := row_sub fun i _ μ vs h => by simpa [rowN] using h
theorem sub_open (n : Nat) (L : List α) (c : Nat) : LO.Sub (.row 1 n (rowN enc d L) true) (.row 1 n (rowC enc d L c 0) true) := row_sub fun i _ μ vs h => by
  unfold rowC
  split
  · rename_i e
    rw [rowN, if_neg (by omega)] at h
    obtain ⟨v, r, rfl, h1, h2⟩ := h
    exact ⟨v, r, rfl, .inl ⟨rfl, h1⟩, h2⟩
  · exact h
theorem rowC_at (L : List α) (c m i : Nat) (h : i = L.length) : rowC enc d L c m (0 + i) = [.gs c m] := by rw [rowC, if_pos (by omega)]
theorem le_rowC (L : List α) (c m i : Nat) (h : i = L.length) : LV.Le (((rowC enc d L c m (0 + i))[0]?).getD .any) (.gs c m) := LV.Le.of_eq (by rw [rowC_at enc d L c m i h]; rfl)
theorem lt_rowC (L : List α) (c m i : Nat) (h : i = L.length) : 0 < (rowC enc d L c m (0 + i)).length := by rw [rowC_at enc d L c m i h]; exact Nat.one_pos
theorem sub_rowC (n : Nat) (L : List α) (c m c' m' i : Nat) (h : i = L.length) :
    LO.Sub (.row 1 n (fun q => if q = 0 + i then splL (rowC enc d L c m (0 + i)) 0 [.gs c' m'] else rowC enc d L c m q) true) (.row 1 n (rowC enc d L c' m') true) := row_sub fun q _ μ vs hq => by
  by_cases e : q = L.length
  · rw [if_pos (by omega), rowC_at enc d L c m i h] at hq
    rw [rowC, if_pos e]
    simpa [splL] using hq
  · rw [if_neg (by omega), rowC, if_neg e] at hq
    rw [rowC, if_neg e]; exact hq
theorem sub_close (n : Nat) (L : List α) (l : α) (c s m : Nat) (f : Nat → List LV) (h1 : ∀ x, (fzL c s m f (enc x)).2 = enc x) (h2 : enc l = [.ds s m f]) :
    LO.Sub (.row 1 n (fun q => (fzL c s m f (rowC enc d L c m q)).2) true) (.row 1 n (rowN enc d (L ++ [l])) true) := row_sub fun q _ μ vs hq => by
  rcases Nat.lt_trichotomy q L.length with h | h | h
  · rw [rowC, if_neg (by omega), rowN, if_pos h, rowF, h1] at hq
    rw [rowN, if_pos (by simp; omega), rowF, List.getD_eq_getElem?_getD, List.getElem?_append_left h, ← List.getD_eq_getElem?_getD]
    exact hq
  · rw [rowC, if_pos h] at hq
    rw [rowN, if_pos (by simp; omega), rowF, List.getD_eq_getElem?_getD, List.getElem?_append_right (by omega), h, Nat.sub_self]
    simp only [List.getElem?_cons_zero, Option.getD_some, h2]
    simpa [fzL, fzV] using hq
  · rw [rowC, if_neg (by omega), rowN, if_neg (by omega)] at hq
    rw [rowN, if_neg (by simp; omega)]
    simpa [fzL, fzV] using hq
theorem ob_close (n : Nat) (L : List α) (c s m : Nat) (f : Nat → List LV) (h1 : ∀ x, (fzL c s m f (enc x)).1 = []) : ∀ q, q < n → AllP (fzL c s m f (rowC enc d L c m q)).1 := fun q _ => by
  unfold rowC
  split
  · simp [fzL, fzV, AllP]
  · unfold rowN
    split
    · rw [rowF, h1]; trivial
    · simp [fzL, fzV, AllP]
theorem ren_rowN {τ : Nat → Nat} {n : Nat} {L : List α} (h : ∀ x, renL τ (enc x) = enc x) : (LO.row 1 n (rowN enc d L) true).ren τ = .row 1 n (rowN enc d L) true := by
  simp only [LO.ren]
  congr 1
  funext q
  unfold rowN
  split
  · exact h _
  · rfl
theorem ren_rowC {τ : Nat → Nat} {n : Nat} {L : List α} {c m : Nat} (h : ∀ x, renL τ (enc x) = enc x) : (LO.row 1 n (rowC enc d L c m) true).ren τ = .row 1 n (rowC enc d L (τ c) m) true := by
  simp only [LO.ren]
  congr 1
  funext q
  unfold rowC
  split
  · simp [renL, LV.ren]
  · unfold rowN
    split
    · exact h _
    · rfl
/-! Short names, for long proofs -/
theorem f_ {a b : Bool} {q : Prop} (h : a = b) (r : q) : (True ∧ LV.Le (.bool a) (.bool b) ∧ True) ∧ q := ⟨⟨trivial, leB h, trivial⟩, r⟩
theorem l_ (a b : Nat) (h : Nat.ble (a + 1) b = true) {q : Prop} (r : q) : ((True ∧ a < b) ∧ True) ∧ q := ⟨⟨⟨trivial, lt_ a b h⟩, trivial⟩, r⟩
theorem m_ (a b : Nat) (h : Nat.ble a b = true) {q : Prop} (r : q) : ((True ∧ a ≤ b) ∧ True) ∧ q := ⟨⟨⟨trivial, le_ a b h⟩, trivial⟩, r⟩
theorem c_ {p q : Prop} (h : p) (r : q) : ((p ∧ True) ∧ True) ∧ q := ⟨⟨⟨h, trivial⟩, trivial⟩, r⟩
def hF : Hint := { v := some (.bool false) }
def hT : Hint := { v := some (.bool true) }
def hC (v : LV) : Hint := { call := some (v, [], []) }
theorem underL_drop1 {N : Nat} : ∀ (k : Nat) {l : List LV}, underL N l = true → underL N (l.drop k) = true
  | 0, _, h => by simpa using h
  | _ + 1, [], _ => by simp [underL]
  | k + 1, _ :: l, h => by
    simp only [underL, Bool.and_eq_true] at h
    simpa using underL_drop1 k h.2
theorem underL_take1 {N : Nat} : ∀ (k : Nat) {l : List LV}, underL N l = true → underL N (l.take k) = true
  | 0, _, _ => by simp [underL]
  | _ + 1, [], _ => by simp [underL]
  | k + 1, _ :: l, h => by
    simp only [underL, Bool.and_eq_true] at h
    simp only [List.take_succ_cons, underL, Bool.and_eq_true]
    exact ⟨h.1, underL_take1 k h.2⟩
theorem under_chunk {N z n : Nat} {l : List LV} (h : underL N l = true) : ∀ i, i < n → underL N (chunk z l i) = true := fun i _ => underL_take1 z (underL_drop1 (i * z) h)
theorem renL_drop1 (σ : Nat → Nat) : ∀ (k : Nat) (l : List LV), renL σ (l.drop k) = (renL σ l).drop k
  | 0, l => by simp
  | k + 1, [] => by simp [renL]
  | k + 1, x :: l => by simp only [List.drop_succ_cons, renL]; exact renL_drop1 σ k l
theorem renL_take1 (σ : Nat → Nat) : ∀ (k : Nat) (l : List LV), renL σ (l.take k) = (renL σ l).take k
  | 0, l => by simp [renL]
  | k + 1, [] => by simp [renL]
  | k + 1, x :: l => by simp only [List.take_succ_cons, renL]; rw [renL_take1 σ k l]
theorem ren_lrow {σ : Nat → Nat} {z n : Nat} (l m : List LV) (h : renL σ l = m) : (LO.row z n (chunk z l) true).ren σ = .row z n (chunk z m) true := by
  subst h
  show LO.row z n (fun i => renL σ (chunk z l i)) true = _
  congr 1
  funext i
  unfold chunk
  rw [renL_take1, renL_drop1]
theorem under_rowN {N : Nat} (h : ∀ x, underL N (enc x) = true) (L : List α) (n : Nat) : ∀ i, i < n → underL N (rowN enc d L i) = true := fun i _ => by
  unfold rowN
  split
  · exact h _
  · rfl
theorem under_rowC {N : Nat} (h : ∀ x, underL N (enc x) = true) (L : List α) (c m n : Nat) (hc : underL N [.gs c m] = true) : ∀ i, i < n → underL N (rowC enc d L c m i) = true := fun i hi => by
  unfold rowC
  split
  · exact hc
  · exact under_rowN enc d h L n i hi
theorem fz_rowN (h : ∀ x, fzbL (enc x) = true) (L : List α) (n : Nat) : ∀ i, i < n → fzbL (rowN enc d L i) = true := fun i _ => by
  unfold rowN
  split
  · exact h _
  · rfl
theorem ob_self (L : List α) (c s m : Nat) (f : Nat → List LV) (n : Nat) (h1 : ∀ x, (fzL c s m f (enc x)).1 = []) : ∀ q, q < n → AllP (fzL c s m f (rowN enc d L q)).1 := fun q _ => by
  unfold rowN
  split
  · rw [rowF, h1]; trivial
  · simp [fzL, fzV, AllP]
theorem ob_row (L : List α) (c s m : Nat) (f : Nat → List LV) (n : Nat) (h1 : ∀ x, (fzL c s m f (enc x)).1 = []) : ∀ q, q < n → AllP (fzL c s m f (rowF enc d L q)).1 := fun q _ => by
  rw [rowF, h1]; trivial
theorem lel_set : ∀ (cs : List LV) (j : Nat) (a v : LV), cs[j]? = some a → a.Le v → LeL cs (cs.set j v)
  | [], _, _, _, h, _ => by simp at h
  | x :: cs, 0, a, v, h, k => by
    simp only [List.getElem?_cons_zero, Option.some.injEq] at h
    subst h
    exact ⟨k, LeL.refl cs⟩
  | x :: cs, j + 1, a, v, h, k => ⟨LV.Le.refl x, lel_set cs j a v (by simpa using h) k⟩
theorem ob_rov (cs : List LV) (c s m : Nat) (f : Nat → List LV) (h1 : (fzL c s m f cs).1 = []) : ∀ q, q < 1 → AllP (fzL c s m f ((fun _ => cs) q)).1 := fun q _ => by
  show AllP (fzL c s m f cs).1
  rw [h1]; trivial
theorem le_fz_n {n : Nat} (L : List α) (h : n = L.length) : LV.Le (.ds 1 n (fun q => rowN enc d L (0 + q))) (.ds 1 L.length (rowF enc d L)) := fun μ x hx => by
  subst h
  simp only [Rel, RelF] at hx ⊢
  obtain ⟨base, rc, h1, h2, h3, h4, h5⟩ := hx
  refine ⟨base, rc, h1, h2, h3, h4, fun i hi => ?_⟩
  have := h5 i hi
  rwa [Nat.zero_add, rowN, if_pos hi] at this
end

/-! Bytes and texts -/
def bytesI (l : List UInt8) : List Int := l.map fun b => (b.toNat : Int)
def strI (l : List Int) : List UInt8 := l.map fun a => UInt8.ofNat a.toNat

theorem bytesI_len (l : List UInt8) : (bytesI l).length = l.length := by simp [bytesI]
theorem bytesI_get (l : List UInt8) (q : Nat) (h : q < l.length) : [LV.int .u8 (l.getD q 0).toNat] = rowF (cInt .u8) default (bytesI l) q := by
  simp [rowF, cInt, bytesI, List.getD_eq_getElem?_getD, h]

/-- The bytes of a text. -/
theorem sub_app_str (l : List Int) (t : List UInt8) : LO.Sub (.gr 1 (l.length + t.length) (appRow l.length (rowF (cInt .u8) default l) (fun q => [.int .u8 (t.getD q 0).toNat]))) (.gr 1 (l ++ bytesI t).length (rowF (cInt .u8) default (l ++ bytesI t))) := by
  rw [← appRow_rowF, List.length_append, bytesI_len]
  refine gr_sub fun i hi => ?_
  unfold appRow
  split
  · rfl
  · exact bytesI_get t _ (by omega)
theorem le_gs_app_str (c : Nat) (l : List Int) (t : List UInt8) : LV.Le (.gs c (l.length + t.length)) (.gs c (l ++ bytesI t).length) := le_gs c (by simp [bytesI_len])
theorem le_bytes (c : Nat) (l : List UInt8) : LV.Le (.sl c 0 0 false l.length none) (.sl c 0 0 false (bytesI l).length none) := LV.Le.of_eq (by rw [bytesI_len])
theorem sub_bytes (l : List UInt8) : LO.Sub (.row 1 l.length (fun q => [.int .u8 (l.getD q 0).toNat]) true) (.row 1 (bytesI l).length (rowF (cInt .u8) default (bytesI l)) true) :=
  ObjEq.sub ⟨rfl, (bytesI_len l).symm, rfl, fun i hi => bytesI_get l i hi⟩
theorem sub_bytes_gr (l : List UInt8) : LO.Sub (.gr 1 l.length (fun q => [.int .u8 (l.getD q 0).toNat])) (.gr 1 (bytesI l).length (rowF (cInt .u8) default (bytesI l))) := by
  rw [bytesI_len]
  exact gr_sub fun i hi => bytesI_get l i hi
theorem le_gs_bytes (c : Nat) (l : List UInt8) : LV.Le (.gs c l.length) (.gs c (bytesI l).length) := le_gs c (by rw [bytesI_len])
/-- The text of bytes. -/
theorem str_ob (l : List Int) : ∀ t, t < l.length → ∃ a, rowF (cInt .u8) default l t = [.int .u8 a] := fun t _ => ⟨_, rfl⟩
theorem le_str (l : List Int) : LV.Le (.str ((List.range l.length).map fun t => byteAt (rowF (cInt .u8) default l t))) (.str (strI l)) := LV.Le.of_eq (by
  congr 1
  apply List.ext_getElem?
  intro i
  simp only [List.getElem?_map, strI, rowF, cInt, byteAt]
  by_cases h : i < l.length
  · rw [List.getElem?_range h]; simp [List.getD_eq_getElem?_getD, h]
  · rw [List.getElem?_eq_none (by simpa using h), List.getElem?_eq_none (by omega)]; rfl)


/-- The text of an array's first bytes. -/
theorem arr_ob (l : List Int) (n m : Nat) (h : n ≤ m) (hm : m = l.length) : ((0 : Nat) = 0 ∧ 0 + n * 1 ≤ (l.map (LV.int .u8)).length) ∧ ∀ t, t < n → ∃ a, ((l.map (LV.int .u8)).drop (0 + t * 1)).take 1 = [.int .u8 a] := by
  subst hm
  refine ⟨⟨rfl, by simp; omega⟩, fun t ht => ⟨l[t]'(by omega), ?_⟩⟩
  rw [List.drop_eq_getElem_cons (by simp; omega)]
  simp
theorem le_arr (l : List Int) (n m : Nat) (h : n ≤ m) (hm : m = l.length) : LV.Le (.str ((List.range n).map fun t => byteAt (((l.map (LV.int .u8)).drop (0 + t * 1)).take 1))) (.str (strI (l.take n))) := LV.Le.of_eq (by
  subst hm
  congr 1
  apply List.ext_getElem?
  intro i
  simp only [List.getElem?_map, strI]
  by_cases hi : i < n
  · rw [List.getElem?_range hi, List.getElem?_take_of_lt hi, List.getElem?_eq_getElem (by omega)]
    simp only [Option.map_some]
    rw [List.drop_eq_getElem_cons (by simp; omega)]
    simp [byteAt]
  · rw [List.getElem?_eq_none (by simpa using hi), List.getElem?_eq_none (by simp; omega)]; rfl)

/-! slices.Clone: nil stays nil -/
/-- A contract at frozen rows, out of one at nil and one at rows that are not nil. -/
theorem tri_clone {P : Program} {f : FuncId} {sz n : Nat} {g : Nat → List LV} {v : LV} (hnil : n = 0 → FnTri P f [.nilsl] [] v []) (hdn : FnTri P f [.dn sz n g] [] v []) : FnTri P f [.ds sz n g] [] v [] := by
  refine ⟨hdn.1, fun μ w vals hr hp hf => ?_⟩
  obtain ⟨x, r, rfl, hx, hr'⟩ := hr
  cases hr'
  have hx0 := hx
  simp only [Rel, RelF] at hx
  obtain ⟨base, rc, rfl, h1, h2, h3, h4⟩ := hx
  cases base with
  | none =>
    obtain rfl := h2 rfl
    have hn : n = 0 := by omega
    subst hn
    exact (hnil rfl).2 μ w _ ⟨_, _, rfl, rfl, rfl⟩ hp hf
  | some a => exact hdn.2 μ w _ ⟨_, _, rfl, ⟨hx0, a, rc, rfl⟩, rfl⟩ hp hf
theorem tri_nil_ds {P : Program} {f : FuncId} {sz : Nat} {g : Nat → List LV} (h : FnTri P f [.nilsl] [] .nilsl []) : FnTri P f [.nilsl] [] (.ds sz 0 g) [] := h.le (fun _ _ r => r) (le_nil_ds sz g)
/-- A frozen slice of elements is not nil. -/
theorem tri_dn_ds {P : Program} {f : FuncId} {sz n : Nat} {g : Nat → List LV} {v : LV} {up : Upd} (hn : (n == 0) = false) (h : FnTri P f [.dn sz n g] [] v up) : FnTri P f [.ds sz n g] [] v up := by
  refine h.le (fun μ vals hr => ?_) (LV.Le.refl v)
  obtain ⟨x, r, rfl, hx, hr'⟩ := hr
  refine ⟨x, r, rfl, ?_, hr'⟩
  have hx0 := hx
  simp only [Rel, RelF] at hx
  obtain ⟨base, rc, rfl, h1, h2, h3, h4⟩ := hx
  cases base with
  | none =>
    obtain rfl := h2 rfl
    have : n = 0 := by omega
    subst this; cases hn
  | some a => exact ⟨hx0, a, rc, rfl⟩
theorem le_ds_nil {α : Type} (enc : α → List LV) (d : α) (z : Nat) (l : List α) (h : (l.length == 0) = true) : LV.Le (.ds z l.length (rowF enc d l)) (.ds z ([] : List α).length (rowF enc d [])) := by
  obtain rfl : l = [] := List.eq_nil_of_length_eq_zero (by simpa using h)
  exact LV.Le.refl _

/-! The numbers of a set of bits, rising -/
def bitsL (t : Int) : List Int := ((List.range 64).filter t.toNat.testBit).map fun (i : Nat) => (i : Int)
theorem bitsL_zero : bitsL 0 = [] := by simp [bitsL]
theorem filter_first (p q : Nat → Bool) (k : Nat) (hk : p k = true) (hlo : ∀ i, i < k → p i = false) (hq : ∀ i, q i = (p i && decide (i ≠ k))) : ∀ n, k < n → (List.range n).filter p = k :: (List.range n).filter q := by
  intro n
  induction n with
  | zero => intro h; omega
  | succ n ih =>
    intro h
    rw [List.range_succ, List.filter_append, List.filter_append]
    by_cases e : k = n
    · subst e
      have h1 : (List.range k).filter p = [] := List.filter_eq_nil_iff.2 fun i hi => by simp [hlo i (List.mem_range.1 hi)]
      have h2 : (List.range k).filter q = [] := List.filter_eq_nil_iff.2 fun i hi => by simp [hq, hlo i (List.mem_range.1 hi)]
      have h3 : q k = false := by simp [hq]
      rw [h1, h2]
      simp [hk, h3]
    · rw [ih (by omega)]
      have h3 : q n = p n := by rw [hq]; simp; intro _; omega
      simp [h3, List.filter_cons]
theorem bits_step (x : Nat) (h0 : x ≠ 0) (h : x < 2 ^ 64) : (List.range 64).filter x.testBit = Lib.ctz 64 x :: (List.range 64).filter (x &&& (x - 1)).testBit := by
  obtain ⟨m, hm, hk⟩ := Lib.ctzFrom_spec 64 x (by omega) h
  have e : Lib.ctz 64 x = Lib.ctzFrom 64 x := by simp [Lib.ctz, h0]
  rw [e]
  generalize Lib.ctzFrom 64 x = k at hm hk
  have hp : ∀ i, x.testBit i = (decide (k ≤ i) && (2 * m + 1).testBit (i - k)) := fun i => by rw [hm, Nat.testBit_two_pow_mul]
  have hx1 : x - 1 = 2 ^ k * (2 * m) + (2 ^ k - 1) := by
    have : 0 < 2 ^ k := Nat.two_pow_pos k
    rw [hm, Nat.mul_add, Nat.mul_one]; omega
  have hy : ∀ i, (x - 1).testBit i = if i < k then (2 ^ k - 1).testBit i else (2 * m).testBit (i - k) := fun i => by
    rw [hx1]; exact Nat.testBit_two_pow_mul_add _ (by have := Nat.two_pow_pos k; omega) i
  refine filter_first _ _ k ?_ ?_ ?_ 64 hk
  · rw [hp]; simp [Nat.testBit_zero]
  · intro i hi; rw [hp]; simp; omega
  · intro i
    rw [Nat.testBit_and, hy, hp]
    rcases Nat.lt_trichotomy i k with hi | rfl | hi
    · have : decide (k ≤ i) = false := by simp; omega
      simp [this]
    · simp [Nat.testBit_zero]
    · rw [if_neg (by omega)]
      obtain ⟨d, hd⟩ : ∃ d, i - k = d + 1 := ⟨i - k - 1, by omega⟩
      rw [hd, Nat.testBit_succ, Nat.testBit_succ]
      have e1 : (2 * m + 1) / 2 = m := by omega
      have e2 : 2 * m / 2 = m := by omega
      have e3 : decide (i ≠ k) = true := by simp; omega
      rw [e1, e2, e3]
      simp
theorem and_pred_lt (x : Nat) (h0 : x ≠ 0) : x &&& (x - 1) < x := Nat.lt_of_le_of_lt Nat.and_le_right (by omega)
theorem bitsL_step (x : Nat) (h0 : x ≠ 0) (h : x < 2 ^ 64) : bitsL (x : Int) = (Lib.ctz 64 x : Int) :: bitsL ((x &&& (x - 1) : Nat) : Int) := by
  simp only [bitsL, Int.toNat_natCast]
  rw [bits_step x h0 h]; rfl
theorem bitsL_len (t : Int) : (bitsL t).length ≤ 64 := by
  simp only [bitsL, List.length_map]
  exact Nat.le_trans (List.length_filter_le _ _) (by simp)
theorem eqk_self {α : Type} [DecidableEq α] (ek : α → LV) (h : ∀ a b, eqK (ek a) (ek b) = decide (a = b)) (k : α) : eqK (ek k) (ek k) = true := by rw [h]; exact decide_eq_true rfl

theorem RelFL.take {φ : Fro} : ∀ {l : List LV} {vs : List Value} (n : Nat), RelFL φ l vs → RelFL φ (l.take n) (vs.take n)
  | l, vs, 0, _ => by simp [RelFL]
  | [], vs, n + 1, h => by simp only [RelFL] at h; subst h; simp [RelFL]
  | c :: l, vs, n + 1, h => by
    simp only [RelFL] at h
    obtain ⟨v, r, e, a, b⟩ := h
    subst e
    simp only [List.take_succ_cons, RelFL]
    exact ⟨v, r.take n, rfl, a, RelFL.take n b⟩
/-- A pointer to frozen cells is one to the first of them. -/
theorem le_dp_take (cs : List LV) (s : Nat) : LV.Le (.dp cs) (.dp (cs.take s)) := fun μ x hx => by
  simp only [Rel, RelF] at hx ⊢
  obtain ⟨a, cells, vs, h1, h2, h3, h4, h5, h6⟩ := hx
  exact ⟨a, cells, vs.take s, h1, h2, h3, h4.take s, fun j v hv => h5 j v (by
    rw [List.getElem?_take] at hv; split at hv
    · exact hv
    · cases hv), fun v hv => h6 v (List.mem_of_mem_take hv)⟩
/-- An element of a frozen array. -/
theorem dp8 {α : Type} [Inhabited α] (enc : α → List LV) (z : Nat) (h : ∀ x, (enc x).length = z) (v : A8 α) (post : List LV) (n : Nat) (hn : n < 8) :
    LV.Le (.dp ((v.list.flatMap enc ++ post).drop (n * z))) (.dp (enc (v.get n))) := by
  have := le_dp_take ((v.list.flatMap enc ++ post).drop (n * z)) z
  have e := part8 enc z h v [] post 0 rfl n 0 z hn (by omega)
  rw [Nat.zero_add, Nat.add_zero, List.nil_append, List.drop_zero, List.take_of_length_le (l := enc (v.get n)) (by rw [h]; omega)] at e
  rw [e] at this
  exact this
end Go.Cn
