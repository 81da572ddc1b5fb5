import Derived.Test.YtddgjfclpknkcaaGreatDoorCnO
namespace Go.Cn
open Go
def TD (D : Nat → Bool) : Nat → List Ent → List LV → List LV
 | _, [], T => T
 | k, e :: r, T => TD D (k + 1) r (if D k then e.putT T else T)
def HD (D : Nat → Bool) : Nat → List Ent → Heap → Heap
 | _, [], H => H
 | k, e :: r, H => HD D (k + 1) r (if D k then H.upd e.up else H)
def foldT : List Ent → List LV → List LV
 | [], T => T
 | e :: r, T => foldT r (e.putT T)
def foldH : List Ent → Heap → Heap
 | [], H => H
 | e :: r, H => foldH r (H.upd e.up)
theorem putT_length (e : Ent) (T : List LV) : (e.putT T).length = T.length := by
 unfold Ent.putT; split <;> simp
theorem putT_get (e : Ent) (T : List LV) (t : Nat) : (e.putT T)[t]? = if e.dst = some t then T[t]?.map (fun _ => e.v) else T[t]? := by
 unfold Ent.putT
 split
 ·rename_i d hd
  rw [List.getElem?_set, hd]
  by_cases h : d = t
  ·subst h
   simp only [if_true]
   by_cases hl : d < T.length
   ·simp [hl]
   ·simp [hl]
  ·simp [h]
 ·rename_i hd
  simp [hd]
theorem TD_length (D : Nat → Bool) : ∀ (es : List Ent) (k : Nat) (T : List LV), (TD D k es T).length = T.length
 | [], _, _ => rfl
 | e :: r, k, T => by
  simp only [TD, TD_length D r]
  split
  ·exact putT_length e T
  ·rfl
theorem TD_congr {D D' : Nat → Bool} (t : Nat) : ∀ (es : List Ent) (k : Nat) (T T' : List LV), (∀ j e, es[j]? = some e → e.dst = some t → D (k + j) = D' (k + j)) → T[t]? = T'[t]? → (TD D k es T)[t]? = (TD D' k es T')[t]?
 | [], _, _, _, _, h => h
 | e :: r, k, T, T', h, ht => by
  simp only [TD]
  refine TD_congr t r (k + 1) _ _ (fun j e' hj hd => by have := h (j + 1) e' (by simpa using hj) hd; rwa [show k + 1 + j = k + (j + 1) from by omega]) ?_
  by_cases hd : e.dst = some t
  ·have h0 := h 0 e (by simp) hd
   simp only [Nat.add_zero] at h0
   rw [h0]
   split
   ·rw [putT_get, putT_get, ht]
   ·exact ht
  ·have : ∀ (b : Bool) (X : List LV), (if b = true then e.putT X else X)[t]? = X[t]? := by
    intro b X
    cases b
    ·rfl
    ·simp [putT_get, hd]
   rw [this, this, ht]
def lastU (up : Upd) (c : Nat) : Option LO := (Heap.upd [] up).at c
theorem upd_at_has : ∀ (up : Upd) (H H' : Heap) (c : Nat), up.has c = true → (H.upd up).at c = (H'.upd up).at c
 | [], _, _, _, h => by simp [Upd.has] at h
 | (d, o) :: r, H, H', c, h => by
  show ((H.put d o).upd r).at c = ((H'.put d o).upd r).at c
  cases hr : Upd.has r c with
  | true => exact upd_at_has r _ _ c hr
  | false =>
   rw [Heap.at_upd_not r _ c hr, Heap.at_upd_not r _ c hr, Heap.at_put, Heap.at_put]
   have hcd : d = c := by simpa [Upd.has, List.any_cons, show (r.any fun x => x.1 == c) = false from hr] using h
   simp [hcd]
theorem HD_congr {D D' : Nat → Bool} (c : Nat) : ∀ (es : List Ent) (k : Nat) (H H' : Heap), (∀ j e, es[j]? = some e → e.up.has c = true → D (k + j) = D' (k + j)) → H.at c = H'.at c → (HD D k es H).at c = (HD D' k es H').at c
 | [], _, _, _, _, h => h
 | e :: r, k, H, H', h, hc => by
  simp only [HD]
  refine HD_congr c r (k + 1) _ _ (fun j e' hj hd => by have := h (j + 1) e' (by simpa using hj) hd; rwa [show k + 1 + j = k + (j + 1) from by omega]) ?_
  cases hd : e.up.has c with
  | true =>
   have h0 := h 0 e (by simp) hd
   simp only [Nat.add_zero] at h0
   rw [h0]
   split
   ·exact upd_at_has e.up H H' c hd
   ·exact hc
  | false =>
   have : ∀ (b : Bool) (X : Heap), (if b = true then X.upd e.up else X).at c = X.at c := by
    intro b X
    cases b
    ·rfl
    ·simp [Heap.at_upd_not e.up X c hd]
   rw [this, this, hc]
theorem TD_prefix : ∀ (es : List Ent) (k i : Nat) (T : List LV), TD (fun j => decide (j < k + i)) k es T = foldT (es.take i) T
 | [], k, i, T => by simp [TD, foldT]
 | e :: r, k, 0, T => by
  have := TD_prefix r (k + 1) 0 T
  simp only [TD, Nat.add_zero, List.take_zero, foldT, Nat.lt_irrefl, decide_false, Bool.false_eq_true, if_false] at this ⊢
  have none : ∀ (r : List Ent) (m : Nat), k ≤ m → TD (fun j => decide (j < k)) m r T = T := by
   intro r
   induction r with
   | nil => intro m _; rfl
   | cons f r ih =>
    intro m hm
    simp only [TD, show ¬ m < k from by omega, decide_false, Bool.false_eq_true, if_false]
    exact ih (m + 1) (by omega)
  exact none r (k + 1) (by omega)
 | e :: r, k, i + 1, T => by
  have := TD_prefix r (k + 1) i (e.putT T)
  simp only [TD, List.take_succ_cons, foldT, show k < k + (i + 1) from by omega, decide_true, if_true]
  rw [← this]
  congr 1
  funext j
  rw [show k + 1 + i = k + (i + 1) from by omega]
theorem HD_prefix : ∀ (es : List Ent) (k i : Nat) (H : Heap), HD (fun j => decide (j < k + i)) k es H = foldH (es.take i) H
 | [], k, i, H => by simp [HD, foldH]
 | e :: r, k, 0, H => by
  simp only [HD, Nat.add_zero, List.take_zero, foldH, Nat.lt_irrefl, decide_false, Bool.false_eq_true, if_false]
  have none : ∀ (r : List Ent) (m : Nat), k ≤ m → HD (fun j => decide (j < k)) m r H = H := by
   intro r
   induction r with
   | nil => intro m _; rfl
   | cons f r ih =>
    intro m hm
    simp only [HD, show ¬ m < k from by omega, decide_false, Bool.false_eq_true, if_false]
    exact ih (m + 1) (by omega)
  exact none r (k + 1) (by omega)
 | e :: r, k, i + 1, H => by
  have := HD_prefix r (k + 1) i (H.upd e.up)
  simp only [HD, List.take_succ_cons, foldH, show k < k + (i + 1) from by omega, decide_true, if_true]
  rw [← this]
  congr 1
  funext j
  rw [show k + 1 + i = k + (i + 1) from by omega]
theorem foldT_snoc : ∀ (es : List Ent) (i : Nat) (e : Ent) (T : List LV), es[i]? = some e → foldT (es.take (i + 1)) T = e.putT (foldT (es.take i) T)
 | [], _, _, _, h => by simp at h
 | f :: r, 0, e, T, h => by simp at h; subst h; simp [foldT]
 | f :: r, i + 1, e, T, h => by simp at h; simp only [List.take_succ_cons, foldT]; exact foldT_snoc r i e _ h
theorem foldH_snoc : ∀ (es : List Ent) (i : Nat) (e : Ent) (H : Heap), es[i]? = some e → foldH (es.take (i + 1)) H = (foldH (es.take i) H).upd e.up
 | [], _, _, _, h => by simp at h
 | f :: r, 0, e, H, h => by simp at h; subst h; simp [foldH]
 | f :: r, i + 1, e, H, h => by simp at h; simp only [List.take_succ_cons, foldH]; exact foldH_snoc r i e _ h
def maskOf (acc : List Nat) : List Edge → Nat
 | [] => 0
 | e :: r => if Region.binds .any e then 2 ^ e.on ||| (acc.getD e.on 0 ||| maskOf acc r) else maskOf acc r
def befL : List Oper → List Nat → List Nat
 | [], acc => acc
 | o :: r, acc => befL r (acc ++ [maskOf acc o.after.toList])
def clashE (e f : Ent) : Bool :=
 (match e.dst with | some d => f.rd.contains d || f.dst == some d | none => false) || (match f.dst with | some d => e.rd.contains d | none => false) ||
 e.up.any (fun x => f.foot.contains x.1 || f.up.has x.1) || f.up.any (fun x => e.foot.contains x.1)
abbrev Soft := Option (Nat × Nat)
def softE (sf : Soft) (j : Nat) (e : Ent) : Ent :=
 match sf with
 | some (j0, c0) => if j = j0 then { e with foot := e.foot.filter (· != c0) } else e
 | none => e
theorem softE_rest (sf : Soft) (j : Nat) (e : Ent) : (softE sf j e).dst = e.dst ∧ (softE sf j e).rd = e.rd ∧ (softE sf j e).up = e.up := by
 unfold softE
 split
 ·split <;> exact ⟨rfl, rfl, rfl⟩
 ·exact ⟨rfl, rfl, rfl⟩
theorem softE_foot {sf : Soft} {j : Nat} {e : Ent} {c : Nat} (hc : c ∈ e.foot) (h : sf ≠ some (j, c)) : c ∈ (softE sf j e).foot := by
 unfold softE
 split
 ·rename_i j0 c0
  split
  ·rename_i hj
   subst hj
   simp only [List.mem_filter, bne_iff_ne, ne_eq]
   exact ⟨hc, fun e => h (by rw [e])⟩
  ·exact hc
 ·exact hc
def softUp (H0 : Heap) (es : List Ent) (j c : Nat) : Option Prop :=
 match es[j]?, H0.at c with
 | some f, some o1 =>
  match lastU f.up c with
  | some o2 => if f.up.has c && (es.take j).all (fun e => !(e.up.has c)) then some (LO.SubP o2 o1) else none
  | none => none
 | _, _ => none
def SoftOK (H0 : Heap) (es : List Ent) : Soft → Prop
 | none => True
 | some (j0, c0) => (∃ f o1 o2, es[j0]? = some f ∧ H0.at c0 = some o1 ∧ f.up.has c0 = true ∧ lastU f.up c0 = some o2 ∧ LO.SubP o2 o1) ∧ ∀ i e, i < j0 → es[i]? = some e → e.up.has c0 = false
theorem softUp_ok {H0 : Heap} {es : List Ent} {j c : Nat} {q : Prop} (h : softUp H0 es j c = some q) (hq : q) : SoftOK H0 es (some (j, c)) := by
 unfold softUp at h
 split at h <;> try cases h
 rename_i f o1 hf ho
 split at h <;> try cases h
 rename_i o2 hu
 split at h <;> cases h
 rename_i hc
 rw [Bool.and_eq_true] at hc
 refine ⟨⟨f, o1, o2, hf, ho, hc.1, hu, hq⟩, fun i e hi he => ?_⟩
 have := List.all_eq_true.1 hc.2 e (List.mem_of_getElem? (i := i) (by rw [List.getElem?_take, if_pos hi]; exact he))
 simpa using this
def chkPair (masks : List Nat) (sf : Soft) (es : List Ent) (i j : Nat) : Bool :=
 match es[i]?, es[j]? with
 | some e, some f => !(clashE (softE sf j e) f) || (masks.getD j 0).testBit i
 | _, _ => true
def chkReg (ops : Array Oper) (sf : Soft) (es : List Ent) : Bool :=
 (List.range ops.size).all (fun j => match ops[j]? with | some o => o.after.toList.all fun e => !(Region.binds .any e) || decide (e.on < j) | none => true) &&
 (List.range es.length).all (fun j => (List.range j).all fun i => chkPair (befL ops.toList []) sf es i j)
def Closed (ops : Array Oper) (D : Nat → Bool) : Prop := ∀ j o e, ops[j]? = some o → D j = true → e ∈ o.after.toList → Region.binds .any e = true → D e.on = true
theorem mask_bits {acc : List Nat} {i : Nat} : ∀ {es : List Edge}, (maskOf acc es).testBit i = true → ∃ e ∈ es, Region.binds .any e = true ∧ (e.on = i ∨ (acc.getD e.on 0).testBit i = true)
 | [], h => by simp [maskOf] at h
 | e :: r, h => by
  unfold maskOf at h
  split at h
  ·rename_i hb
   rw [Nat.testBit_or, Nat.testBit_or, Bool.or_eq_true, Bool.or_eq_true] at h
   rcases h with h | h | h
   ·rw [Nat.testBit_two_pow] at h
    exact ⟨e, List.mem_cons_self, hb, .inl (by simpa using h)⟩
   ·exact ⟨e, List.mem_cons_self, hb, .inr h⟩
   ·obtain ⟨e', h1, h2⟩ := mask_bits h
    exact ⟨e', List.mem_cons_of_mem _ h1, h2⟩
  ·obtain ⟨e', h1, h2⟩ := mask_bits h
   exact ⟨e', List.mem_cons_of_mem _ h1, h2⟩
theorem bef_closed {ops : Array Oper} {D : Nat → Bool} (hc : Closed ops D) : ∀ (l : List Oper) (acc : List Nat), (∀ j o, l[j]? = some o → ops[acc.length + j]? = some o) →
  (∀ j i, (acc.getD j 0).testBit i = true → D j = true → D i = true) → ∀ j i, ((befL l acc).getD j 0).testBit i = true → D j = true → D i = true
 | [], acc, _, h => h
 | o :: r, acc, hl, h => by
  refine bef_closed hc r (acc ++ [maskOf acc o.after.toList]) (fun j o' hj => ?_) (fun j i hb hD => ?_)
  ·have := hl (j + 1) o' (by simpa using hj)
   rw [List.length_append, List.length_singleton]
   rwa [show acc.length + 1 + j = acc.length + (j + 1) from by omega]
  ·by_cases hj : j < acc.length
   ·refine h j i ?_ hD
    rwa [List.getD_eq_getElem?_getD, List.getElem?_append_left hj, ← List.getD_eq_getElem?_getD] at hb
   ·by_cases hj2 : j = acc.length
    ·subst hj2
     rw [List.getD_eq_getElem?_getD, List.getElem?_append_right (Nat.le_refl _)] at hb
     simp at hb
     obtain ⟨e, h1, h2, h3⟩ := mask_bits hb
     have hon := hc acc.length o e (by have := hl 0 o (by simp); simpa using this) hD h1 h2
     rcases h3 with h3 | h3
     ·rw [← h3]; exact hon
     ·exact h e.on i h3 hon
    ·rw [List.getD_eq_getElem?_getD, List.getElem?_eq_none (by simp; omega)] at hb
     simp at hb
theorem clash_dst_rd {e f : Ent} {t : Nat} (h : e.dst = some t) (k : t ∈ f.rd) : clashE e f = true := by
 unfold clashE
 have : f.rd.contains t = true := by simpa using k
 simp only [h, this, Bool.true_or]
theorem clash_dst_dst {e f : Ent} {t : Nat} (h : e.dst = some t) (k : f.dst = some t) : clashE e f = true := by
 unfold clashE
 simp [h, k]
theorem clash_rd_dst {e f : Ent} {t : Nat} (h : t ∈ e.rd) (k : f.dst = some t) : clashE e f = true := by
 unfold clashE
 have : e.rd.contains t = true := by simpa using h
 simp only [k, this, Bool.or_true, Bool.true_or]
theorem clash_up_foot {e f : Ent} {c : Nat} (h : e.up.has c = true) (k : c ∈ f.foot) : clashE e f = true := by
 unfold clashE
 obtain ⟨o, ho⟩ := Upd.has_iff.1 h
 have : (e.up.any fun x => f.foot.contains x.1 || f.up.has x.1) = true := List.any_eq_true.2 ⟨_, ho, by simp [k]⟩
 simp only [this, Bool.or_true, Bool.true_or]
theorem clash_up_up {e f : Ent} {c : Nat} (h : e.up.has c = true) (k : f.up.has c = true) : clashE e f = true := by
 unfold clashE
 obtain ⟨o, ho⟩ := Upd.has_iff.1 h
 have : (e.up.any fun x => f.foot.contains x.1 || f.up.has x.1) = true := List.any_eq_true.2 ⟨_, ho, by simp [k]⟩
 simp only [this, Bool.or_true, Bool.true_or]
theorem clash_foot_up {e f : Ent} {c : Nat} (h : c ∈ e.foot) (k : f.up.has c = true) : clashE e f = true := by
 unfold clashE
 obtain ⟨o, ho⟩ := Upd.has_iff.1 k
 have : (f.up.any fun x => e.foot.contains x.1) = true := List.any_eq_true.2 ⟨_, ho, by simpa using h⟩
 simp only [this, Bool.or_true]
section
variable {P : Program} {ops : Array Oper} {es : List Ent} {sf : Soft}
theorem chk_edges (h : chkReg ops sf es = true) {j : Nat} {o : Oper} {e : Edge} (ho : ops[j]? = some o) (he : e ∈ o.after.toList) (hb : Region.binds .any e = true) : e.on < j := by
 unfold chkReg at h
 rw [Bool.and_eq_true] at h
 have hj : j < ops.size := (Array.getElem?_eq_some_iff.1 ho).1
 have := List.all_eq_true.1 h.1 j (List.mem_range.2 hj)
 rw [ho] at this
 have := List.all_eq_true.1 this e he
 simpa [hb] using this
theorem chk_pair (h : chkReg ops sf es = true) {i j : Nat} {e f : Ent} (hi : es[i]? = some e) (hj : es[j]? = some f) (hlt : i < j) (hc : clashE (softE sf j e) f = true) {D : Nat → Bool} (hD : Closed ops D) (hDj : D j = true) : D i = true := by
 unfold chkReg at h
 rw [Bool.and_eq_true] at h
 have hjl : j < es.length := (List.getElem?_eq_some_iff.1 hj).1
 have h1 := List.all_eq_true.1 (List.all_eq_true.1 h.2 j (List.mem_range.2 hjl)) i (List.mem_range.2 hlt)
 unfold chkPair at h1
 rw [hi, hj] at h1
 simp only [hc, Bool.not_true, Bool.false_or] at h1
 exact bef_closed hD ops.toList [] (fun j o ho => by simpa using ho) (fun j i hb _ => by simp at hb) j i h1 hDj
def upD (D : Nat → Bool) (i : Nat) : Nat → Bool := fun j => if j = i then true else D j
theorem upD_self {D : Nat → Bool} {i : Nat} : upD D i i = true := by simp [upD]
theorem upD_ne {D : Nat → Bool} {i j : Nat} (h : j ≠ i) : upD D i j = D j := by simp [upD, h]
theorem ready_clash (h : chkReg ops sf es = true) {D : Nat → Bool} {i : Nat} {e : Ent} (hi : es[i]? = some e) (hD : Closed ops D) (hU : Closed ops (upD D i)) (hn : D i = false) {k : Nat} {f : Ent} (hk : es[k]? = some f)
  (hc1 : k < i → clashE (softE sf i f) e = true) (hc2 : i < k → clashE (softE sf k e) f = true) : D k = decide (k < i) := by
 rcases Nat.lt_trichotomy k i with hlt | rfl | hgt
 ·have := chk_pair h hk hi hlt (hc1 hlt) hU upD_self
  rw [upD_ne (by omega)] at this
  simp [this, hlt]
 ·simp [hn]
 ·have h0 : D k = false := by
   cases hk' : D k with
   | false => rfl
   | true =>
    have := chk_pair h hi hk hgt (hc2 hgt) hD hk'
    rw [hn] at this; cases this
  simp [h0]; omega
structure InvD (w0 : World) (W : Nat → Prop) (μ0 : Emb) (N0 : Nat) (es : List Ent) (T0 : List LV) (H0 : Heap) (D : Nat → Bool) (μ : Emb) (a : Act) (w : World) : Prop where
 sim : Sim w0 W μ (HD D 0 es H0) w
 fr : FrRel μ (TD D 0 es T0) a.tmps
 dom : ∀ c p, μ c = some p → c < N0 ∨ ∃ k e, es[k]? = some e ∧ D k = true ∧ e.up.has c = true
 defs : a.defers = []
 ext : ExtN w0 W μ0 μ
theorem Sim.congr {w0 : World} {W : Nat → Prop} {μ : Emb} {H H' : Heap} {w : World} (s : Sim w0 W μ H w) (h : ∀ c, H'.at c = H.at c) : Sim w0 W μ H' w :=
 s.weaken (fun c o hc => ⟨o, by rw [← h c]; exact hc, by cases o <;> simp [ObjEq]⟩)
theorem foldH_length : ∀ (es : List Ent) (H : Heap), H.length ≤ (foldH es H).length
 | [], H => Nat.le_refl _
 | e :: r, H => Nat.le_trans (upd_length e.up H).1 (foldH_length r _)
theorem foldH_has : ∀ (es : List Ent) (H : Heap) (k : Nat) (e : Ent) (c : Nat), es[k]? = some e → e.up.has c = true → c < (foldH es H).length
 | [], _, _, _, _, h, _ => by simp at h
 | f :: r, H, 0, e, c, h, hc => by
  simp at h; subst h
  exact Nat.lt_of_lt_of_le ((upd_length f.up H).2 c hc) (foldH_length r _)
 | f :: r, H, k + 1, e, c, h, hc => by
  simp at h
  exact foldH_has r _ k e c h hc
theorem Sim.preSub {w0 : World} {W : Nat → Prop} {μ : Emb} {H : Heap} {w : World} (s : Sim w0 W μ H w) {pre : Pre} (h : ∀ c o', (c, o') ∈ pre → ∃ o, H.at c = some o ∧ LO.SubP o o') : PreOK μ pre w where
 obj' := fun c o' hc => by
  obtain ⟨o, ho, hs⟩ := h c o' hc
  exact (s.obj' c o ho).imp (fun ⟨x, y⟩ => ⟨x, hs.sub.2.1 y⟩) (fun ⟨p, x, y⟩ => ⟨p, x, hs.sub.2.2 _ _ _ y⟩)
 sep := fun c o1 c' o2 p p' hc hc' hne hw => by
  obtain ⟨o, ho, hs⟩ := h c o1 hc
  obtain ⟨o', ho', hs'⟩ := h c' o2 hc'
  exact s.sep c o c' o' p p' ho ho' hne (by rw [hs.sub.1, hs'.sub.1]; exact hw)
 fro := s.fro
 frs := fun c o' p hc hw => by
  obtain ⟨o, ho, hs⟩ := h c o' hc
  exact s.frs c o p ho (by rw [hs.sub.1]; exact hw)
 tab := s.tab
 xok := fun c o' p hc hp => by
  obtain ⟨o, ho, hs⟩ := h c o' hc
  exact hs.xok (s.xok c o p ho hp)
 xsep := fun c o1 p b c' o2 p' hc hp hx hc' hp' => by
  obtain ⟨o, ho, hs⟩ := h c o1 hc
  obtain ⟨o', ho', hs'⟩ := h c' o2 hc'
  have := s.xsep c o p b c' o' p' ho hp (hs.xtra hx) ho' hp'
  exact ⟨this.1, fun hne hx' => this.2 hne (hs'.xtra hx')⟩
 xfrs := fun c o' p b hc hp hx => by
  obtain ⟨o, ho, hs⟩ := h c o' hc
  exact s.xfrs c o p b ho hp (hs.xtra hx)
theorem Delta.preSub {μ μ' : Emb} {w w' : World} {pre pre2 : Pre} {up : Upd} (d : Delta μ w pre up μ' w') (h1 : ∀ c o', (c, o') ∈ pre → ∃ o, (c, o) ∈ pre2 ∧ LO.SubP o o') : Delta μ w pre2 up μ' w' :=
 have tch : ∀ {b}, Tch μ w pre up b → Tch μ w pre2 up b := fun ⟨c, o', p, g1, g2, g3, g4, g5⟩ => by
  obtain ⟨o, k1, k2⟩ := h1 c o' g1
  exact ⟨c, o, p, k1, by rw [k2.sub.1]; exact g2, g3, g4, g5.imp id k2.xtra⟩
 have hF : FroOK μ pre2 w → FroOK μ pre w := fun hf => ⟨hf.1, fun c o' p hc hw hm => by
   obtain ⟨o, k1, k2⟩ := h1 c o' hc
   exact hf.2.1 c o p k1 (by rw [k2.sub.1]; exact hw) hm, fun c o' p b hc hm hx => by
   obtain ⟨o, k1, k2⟩ := h1 c o' hc
   exact hf.2.2 c o p b k1 hm (k2.xtra hx)⟩
 {d with
  keep := fun b hb hk => d.keep b hb (fun t => hk (tch t))
  place := fun c o p hc hp => (d.place c o p hc hp).imp id tch
  frn := fun b cs hb => (d.frn b cs hb).imp id (fun ⟨h1, h2⟩ => ⟨h1, h2.imp id tch⟩)
  frs := fun hf => d.frs (hF hf)
  xplace := fun c o p b hc hp hx => (d.xplace c o p b hc hp hx).imp id tch
  xfrs := fun hf => d.xfrs (hF hf) }
theorem InvD.step {H0 : Heap} (hsf : SoftOK H0 es sf) (hchk : chkReg ops sf es = true) {w0 : World} {W : Nat → Prop} {μ0 μ : Emb} {T0 : List LV} {D : Nat → Bool} {a : Act} {w : World} {i : Nat} {o : Oper} {hint : Hint} {q : Prop} {e : Ent} {K : Act → World → Prop} {Q : Exit → Act → World → Prop}
  (s : InvD w0 W μ0 H0.length es T0 H0 D μ a w) (hi : es[i]? = some e) (ho : ops[i]? = some o) (hs : stepOp P ops (foldH (es.take i) H0) (foldT (es.take i) T0) o hint = some (q, e)) (hq : q)
  (hD : Closed ops D) (hU : Closed ops (upD D i)) (hn : D i = false)
  (hK : ∀ μ' a' w', InvD w0 W μ0 H0.length es T0 H0 (upD D i) μ' a' w' → K a' w') : wpOp P ops Q i K a w := by
 have slot : ∀ t, t ∈ e.rd → (TD D 0 es T0)[t]? = (foldT (es.take i) T0)[t]? := by
  intro t ht
  rw [← TD_prefix es 0 i T0]
  refine TD_congr t es 0 T0 T0 (fun j f hj hd => ?_) rfl
  simp only [Nat.zero_add]
  exact ready_clash hchk hi hD hU hn hj (fun _ => clash_dst_rd ((softE_rest sf i f).1.trans hd) ht) (fun _ => clash_rd_dst ((softE_rest sf j e).2.1 ▸ ht) hd)
 have heapEq : ∀ c, c ∈ e.foot → (∀ j0, sf = some (j0, c) → ¬ i < j0) → (HD D 0 es H0).at c = (foldH (es.take i) H0).at c := by
  intro c hc hns
  rw [← HD_prefix es 0 i H0]
  refine HD_congr c es 0 H0 H0 (fun j f hj hd => ?_) rfl
  simp only [Nat.zero_add]
  exact ready_clash hchk hi hD hU hn hj (fun _ => clash_up_foot ((softE_rest sf i f).2.2.symm ▸ hd) hc) (fun hij => clash_foot_up (softE_foot hc (fun e => hns j e hij)) hd)
 have heap : ∀ c, c ∈ e.foot → ∀ o', (foldH (es.take i) H0).at c = some o' → ∃ o, (HD D 0 es H0).at c = some o ∧ LO.SubP o o' := by
  intro c hc o' ho'
  by_cases hns : ∀ j0, sf = some (j0, c) → ¬ i < j0
  ·exact ⟨o', by rw [heapEq c hc hns]; exact ho', LO.SubP.refl _⟩
  ·obtain ⟨j0, hj0, hij⟩ : ∃ j0, sf = some (j0, c) ∧ i < j0 := by
    simp only [Classical.not_forall, Classical.not_not] at hns
    obtain ⟨j0, h1, h2⟩ := hns
    exact ⟨j0, h1, h2⟩
   have hsf' := hsf
   rw [hj0] at hsf'
   obtain ⟨⟨f, o1, o2, g1, g2, g3, g4, g5⟩, lone⟩ := hsf'
   have base : ∀ D' : Nat → Bool, (∀ j f', es[j]? = some f' → f'.up.has c = true → D' j = false) → (HD D' 0 es H0).at c = H0.at c := by
    intro D' hD'
    have h1 := HD_congr (D := D') (D' := fun j => decide (j < 0 + 0)) c es 0 H0 H0 (fun j f' hj hd => by simp only [Nat.zero_add]; rw [hD' j f' hj hd]; simp) rfl
    rw [h1, HD_prefix es 0 0 H0]; rfl
   have hfold : (foldH (es.take i) H0).at c = H0.at c := by
    rw [← HD_prefix es 0 i H0]
    refine base _ (fun j f' hj hd => ?_)
    simp only [Nat.zero_add, decide_eq_false_iff_not, Nat.not_lt]
    rcases Nat.lt_or_ge j i with h | h
    ·have := lone j f' (by omega) hj
     rw [this] at hd; cases hd
    ·exact h
   rw [hfold, g2] at ho'
   cases ho'
   have late : ∀ j f', es[j]? = some f' → f'.up.has c = true → j0 < j → D j = false := by
    intro j f' hj hd hlt
    cases hDj : D j with
    | false => rfl
    | true =>
     have h1 := chk_pair hchk hi hj (by omega) (clash_foot_up (softE_foot hc (fun e => by rw [hj0] at e; cases e; omega)) hd) hD hDj
     rw [hn] at h1; cases h1
   cases hD0 : D j0 with
   | false =>
    refine ⟨o', ?_, LO.SubP.refl _⟩
    rw [base D (fun j f' hj hd => ?_)]
    ·exact g2
    ·rcases Nat.lt_trichotomy j j0 with h | rfl | h
     ·have := lone j f' h hj
      rw [this] at hd; cases hd
     ·exact hD0
     ·exact late j f' hj hd h
   | true =>
    refine ⟨o2, ?_, g5⟩
    have h1 := HD_congr (D := D) (D' := fun j => decide (j < 0 + (j0 + 1))) c es 0 H0 H0 (fun j f' hj hd => by
     simp only [Nat.zero_add]
     rcases Nat.lt_trichotomy j j0 with h | rfl | h
     ·have := lone j f' h hj
      rw [this] at hd; cases hd
     ·rw [hD0]; simp
     ·rw [late j f' hj hd h]; simp; omega) rfl
    rw [h1, HD_prefix es 0 (j0 + 1) H0, foldH_snoc es j0 f H0 g1, upd_at_has f.up _ [] c g3]
    exact g4
 have hpre : ∀ c o', (c, o') ∈ (foldH (es.take i) H0).pre e.foot → ∃ o, (HD D 0 es H0).at c = some o ∧ LO.SubP o o' := by
  intro c o' h
  obtain ⟨h1, h2⟩ := Heap.mem_pre.1 h
  exact heap c h1 o' h2
 have needs : Needs μ (foldH (es.take i) H0) (foldT (es.take i) T0) e a w := by
  refine ⟨fun t l ht hl => ?_, s.sim.preSub hpre, fun d hd hl => ?_⟩
  ·have h1 : (TD D 0 es T0)[t]? = some l := by rw [slot t ht]; exact hl
   exact ⟨s.fr.get t l h1, Nat.lt_of_lt_of_le (List.getElem?_eq_some_iff.1 h1).1 s.fr.size⟩
  ·cases hμ : μ d with
   | none => rfl
   | some p =>
    exfalso
    rcases s.dom d p hμ with h | ⟨k, f, hk, hDk, hf⟩
    ·have := foldH_length (es.take i) H0; omega
    ·have h1 := ready_clash hchk hi hD hU hn hk (fun _ => clash_up_up ((softE_rest sf i f).2.2.symm ▸ hf) hd) (fun _ => clash_up_up ((softE_rest sf k e).2.2.symm ▸ hd) hf)
     rw [hDk] at h1
     have hki : k < i := by simpa using h1.symm
     have := foldH_has (es.take i) H0 k f d (by rw [List.getElem?_take, if_pos hki]; exact hk) hf
     omega
 have hdst := (stepOp_ok (P := P) (K := fun _ _ => True) (Q := fun _ _ _ => True) hs hq ho needs (fun _ _ _ _ _ => trivial)).2
 refine (stepOp_ok (P := P) hs hq ho needs (fun x w' μ' hx hDl => hK μ' _ w' ?_)).1
 have hT : TD (upD D i) 0 es T0 = e.putT (TD D 0 es T0) := by
  apply List.ext_getElem?
  intro t
  rw [putT_get]
  by_cases hd : e.dst = some t
  ·rw [if_pos hd]
   have h1 : (TD (upD D i) 0 es T0)[t]? = (foldT (es.take (i + 1)) T0)[t]? := by
    rw [← TD_prefix es 0 (i + 1) T0]
    refine TD_congr t es 0 T0 T0 (fun j f hj hd' => ?_) rfl
    simp only [Nat.zero_add]
    by_cases hji : j = i
    ·subst hji; simp [upD_self]
    ·rw [upD_ne hji, ready_clash hchk hi hD hU hn hj (fun _ => clash_dst_dst ((softE_rest sf i f).1.trans hd') hd) (fun _ => clash_dst_dst ((softE_rest sf j e).1.trans hd) hd')]
     congr 1
     exact propext ⟨fun h => by omega, fun h => by omega⟩
   rw [h1, foldT_snoc es i e T0 hi, putT_get, if_pos hd]
   have l1 : (TD D 0 es T0).length = T0.length := TD_length D es 0 T0
   have l2 : (foldT (es.take i) T0).length = T0.length := by rw [← TD_prefix es 0 i T0]; exact TD_length _ es 0 T0
   by_cases ht : t < T0.length
   ·rw [List.getElem?_eq_getElem (by omega), List.getElem?_eq_getElem (by omega)]; rfl
   ·rw [List.getElem?_eq_none (by omega), List.getElem?_eq_none (by omega)]
  ·rw [if_neg hd]
   refine TD_congr t es 0 T0 T0 (fun j f hj hd' => ?_) rfl
   simp only [Nat.zero_add]
   by_cases hji : j = i
   ·subst hji; rw [hi] at hj; cases hj; exact absurd hd' hd
   ·exact upD_ne hji
 have hH : ∀ c, (HD (upD D i) 0 es H0).at c = ((HD D 0 es H0).upd e.up).at c := by
  intro c
  cases hc : e.up.has c with
  | true =>
   have h1 : (HD (upD D i) 0 es H0).at c = (foldH (es.take (i + 1)) H0).at c := by
    rw [← HD_prefix es 0 (i + 1) H0]
    refine HD_congr c es 0 H0 H0 (fun j f hj hd' => ?_) rfl
    simp only [Nat.zero_add]
    by_cases hji : j = i
    ·subst hji; simp [upD_self]
    ·rw [upD_ne hji, ready_clash hchk hi hD hU hn hj (fun _ => clash_up_up ((softE_rest sf i f).2.2.symm ▸ hd') hc) (fun _ => clash_up_up ((softE_rest sf j e).2.2.symm ▸ hc) hd')]
     congr 1
     exact propext ⟨fun h => by omega, fun h => by omega⟩
   rw [h1, foldH_snoc es i e H0 hi]
   exact upd_at_has e.up _ _ c hc
  | false =>
   rw [Heap.at_upd_not e.up _ c hc]
   refine HD_congr c es 0 H0 H0 (fun j f hj hd' => ?_) rfl
   simp only [Nat.zero_add]
   by_cases hji : j = i
   ·subst hji; rw [hi] at hj; cases hj; rw [hc] at hd'; cases hd'
   ·exact upD_ne hji
 have hDl2 : Delta μ w ((HD D 0 es H0).pre e.foot) e.up μ' w' := hDl.preSub (fun c o' hc => by
   obtain ⟨h1, _⟩ := Heap.mem_pre.1 hc
   obtain ⟨o, h3, h4⟩ := hpre c o' hc
   exact ⟨o, Heap.mem_pre.2 ⟨h1, h3⟩, h4⟩)
 have hpre2 : ∀ c o', (c, o') ∈ (HD D 0 es H0).pre e.foot → (HD D 0 es H0).at c = some o' := fun c o' h => (Heap.mem_pre.1 h).2
 refine ⟨?_, ?_, ?_, by rw [put_defers]; exact s.defs, s.ext.step s.sim hpre2 hDl2⟩
 ·exact (s.sim.step hpre2 hDl2).congr hH
 ·rw [hT]; exact s.fr.put hDl.ext hdst hx
 ·intro c p h
  rcases hDl.dom c p h with h | ⟨h, _⟩
  ·rcases s.dom c p h with h | ⟨k, f, h1, h2, h3⟩
   ·exact .inl h
   ·refine .inr ⟨k, f, h1, ?_, h3⟩
    by_cases hki : k = i
    ·subst hki; exact upD_self
    ·rw [upD_ne hki]; exact h2
  ·exact .inr ⟨i, e, hi, upD_self, h⟩
theorem unl_set {l : Array Bool} {i : Nat} (hi : i < l.size) (h : l.getD i true = false) : ((l.setIfInBounds i true).toList.filter (!·)).length + 1 = (l.toList.filter (!·)).length := by
 obtain ⟨L⟩ := l
 simp only [List.size_toArray] at hi
 simp only [Array.getD_eq_getD_getElem?, List.getElem?_toArray] at h
 simp only [List.setIfInBounds_toArray]
 induction L generalizing i with
 | nil => simp at hi
 | cons b r ih =>
  cases i with
  | zero => simp at h; subst h; simp
  | succ i =>
   simp at hi h
   have := ih hi h
   cases b <;> simp at this ⊢ <;> omega
theorem all_listed {l : Array Bool} (h : (l.toList.filter (!·)).length = 0) (i : Nat) : l.getD i true = true := by
 have h0 := List.eq_nil_of_length_eq_zero h
 rw [List.filter_eq_nil_iff] at h0
 simp only [Array.getD_eq_getD_getElem?]
 cases hi : l[i]? with
 | none => rfl
 | some b =>
  have := h0 b (by rw [← Array.getElem?_toList] at hi; exact List.mem_of_getElem? hi)
  simpa using this
theorem draw_all {hints : List (Oper × Hint)} {H0 : Heap} (hsf : SoftOK H0 es sf) (hchk : chkReg ops sf es = true) (hsz : ops.size = es.length) {w0 : World} {W : Nat → Prop} {μ0 : Emb} {T0 : List LV} {Q : Exit → Act → World → Prop}
  (hgood : ∀ i o, ops[i]? = some o → ∃ e hint q, es[i]? = some e ∧ stepOp P ops (foldH (es.take i) H0) (foldT (es.take i) T0) o hint = some (q, e) ∧ q)
  (hQ : ∀ μ a w, InvD w0 W μ0 H0.length es T0 H0 (fun _ => true) μ a w → Q .normal a w) :
  ∀ (fuel : Nat) (l : Array Bool) (μ : Emb) (a : Act) (w : World), (l.toList.filter (!·)).length = fuel → l.size = ops.size → Closed ops (fun i => l.getD i true) → InvD w0 W μ0 H0.length es T0 H0 (fun i => l.getD i true) μ a w →
   wpAny P .any ops Q fuel l a w := by
 have fin : ∀ (l : Array Bool) (μ : Emb) (a : Act) (w : World), (l.toList.filter (!·)).length = 0 → InvD w0 W μ0 H0.length es T0 H0 (fun i => l.getD i true) μ a w → Q .normal a w := by
  intro l μ a w h hI
  refine hQ μ a w ?_
  have : (fun i => l.getD i true) = fun _ => true := by funext i; exact all_listed h i
  rw [this] at hI
  exact hI
 have some_ready : ∀ (l : Array Bool), l.size = ops.size → Region.ready .any ops l = [] → (l.toList.filter (!·)).length = 0 := by
  intro l hl hr
  by_cases h : ∃ i, i < ops.size ∧ l.getD i true = false
  ·exfalso
   have least : ∀ k, (∃ i, i ≤ k ∧ i < ops.size ∧ l.getD i true = false) → ∃ i, i < ops.size ∧ l.getD i true = false ∧ ∀ j, j < i → l.getD j true = true := by
    intro k
    induction k with
    | zero =>
     rintro ⟨i, h0, h1, h2⟩
     exact ⟨i, h1, h2, fun j hj => by omega⟩
    | succ k ih =>
     rintro ⟨i, h0, h1, h2⟩
     by_cases hlow : ∃ j, j ≤ k ∧ j < ops.size ∧ l.getD j true = false
     ·exact ih hlow
     ·refine ⟨i, h1, h2, fun j hj => ?_⟩
      cases hb : l.getD j true with
      | true => rfl
      | false => exact absurd ⟨j, by omega, by omega, hb⟩ hlow
   obtain ⟨i0, h1, h2⟩ := h
   obtain ⟨i, hi1, hi2, hi3⟩ := least i0 ⟨i0, Nat.le_refl _, h1, h2⟩
   have hmem : i ∈ Region.ready .any ops l := by
    unfold Region.ready
    rw [List.mem_filter, List.mem_range]
    refine ⟨hi1, ?_⟩
    rw [hi2, Array.getElem?_eq_getElem hi1]
    simp only [Bool.not_false, Bool.true_and, Option.map_some, Option.getD_some]
    rw [Array.all_eq_true_iff_forall_mem]
    intro e he
    cases hb : Region.binds .any e with
    | false => simp
    | true =>
     have hlt := chk_edges hchk (Array.getElem?_eq_getElem hi1) (Array.mem_toList_iff.2 he) hb
     have := hi3 e.on hlt
     have hls : e.on < l.size := by omega
     simp only [Bool.not_true, Bool.false_or]
     simp only [Array.getD_eq_getD_getElem?, Array.getElem?_eq_getElem hls] at this ⊢
     exact this
   rw [hr] at hmem
   cases hmem
  ·refine List.length_eq_zero_iff.2 (List.filter_eq_nil_iff.2 (fun b hb => ?_))
   obtain ⟨i, hi⟩ := List.mem_iff_getElem?.1 hb
   rw [Array.getElem?_toList] at hi
   have hlt : i < l.size := (Array.getElem?_eq_some_iff.1 hi).1
   cases b with
   | true => simp
   | false => exact absurd ⟨i, by omega, by simp [Array.getD_eq_getD_getElem?, hi]⟩ h
 intro fuel
 induction fuel with
 | zero =>
  intro l μ a w h hl hc hI
  refine ⟨?_, fin l μ a w h hI⟩
  refine List.eq_nil_iff_forall_not_mem.2 (fun i hi => ?_)
  unfold Region.ready at hi
  rw [List.mem_filter] at hi
  have := all_listed h i
  rw [this] at hi
  simp at hi
 | succ fuel ih =>
  intro l μ a w h hl hc hI
  refine ⟨fun hr => fin l μ a w (some_ready l hl hr) hI, fun i hi => ?_⟩
  unfold Region.ready at hi
  rw [List.mem_filter, List.mem_range, Bool.and_eq_true] at hi
  obtain ⟨hi1, hi2, hi3⟩ := hi
  have hn : l.getD i true = false := by simpa using hi2
  have ho : ops[i]? = some ops[i] := Array.getElem?_eq_getElem hi1
  rw [ho] at hi3
  simp only [Option.map_some, Option.getD_some] at hi3
  rw [Array.all_eq_true_iff_forall_mem] at hi3
  obtain ⟨e, hint, q, he, hs, hq⟩ := hgood i _ ho
  have hup : (fun j => (l.setIfInBounds i true).getD j true) = upD (fun j => l.getD j true) i := by
   funext j
   simp only [upD, Array.getD_eq_getD_getElem?, Array.getElem?_setIfInBounds]
   by_cases hj : i = j
   ·subst hj
    have : i < l.size := by omega
    simp [this]
   ·simp [hj, Ne.symm hj]
  have hU : Closed ops (upD (fun j => l.getD j true) i) := by
   intro j o ed ho' hD hed hb
   by_cases hji : j = i
   ·subst hji
    rw [ho] at ho'
    cases ho'
    have h1 := hi3 ed (Array.mem_toList_iff.1 hed)
    rw [hb] at h1
    simp only [Bool.not_true, Bool.false_or] at h1
    by_cases hon : ed.on = j
    ·rw [hon]; exact upD_self
    ·rw [upD_ne hon]
     have hlt := chk_edges hchk ho hed hb
     have : l[ed.on]? = some l[ed.on]! ∨ True := .inr trivial
     have hsz' : ed.on < l.size := by omega
     simp only [Array.getD_eq_getD_getElem?, Array.getElem?_eq_getElem hsz'] at h1 ⊢
     exact h1
   ·rw [upD_ne hji] at hD
    have := hc j o ed ho' hD hed hb
    by_cases hon : ed.on = i
    ·rw [hon]; exact upD_self
    ·rw [upD_ne hon]; exact this
  refine hI.step (P := P) hsf hchk he ho hs hq hc hU hn (fun μ' a' w' hI' => ?_)
  refine ih (l.setIfInBounds i true) μ' a' w' ?_ (by simpa using hl) (by rw [hup]; exact hU) (by rw [hup]; exact hI')
  have := unl_set (l := l) (i := i) (by omega) hn
  omega
end
end Go.Cn
