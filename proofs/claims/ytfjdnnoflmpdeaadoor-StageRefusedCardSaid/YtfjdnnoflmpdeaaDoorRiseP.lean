/- Plain facts: a list that rises by its keys, and a map that has the same entries. -/
import Derived.Test.YtfjdnnoflmpdeaaDoorCnX
import Derived.Test.YtfjdnnoflmpdeaaDoorCnZ
set_option linter.unusedVariables false
set_option linter.unusedSimpArgs false
set_option linter.unusedSectionVars false
namespace Go.Proofs.YtfjdnnoflmpdeaaDoor.Ri
open Go Go.Cn

theorem getD_drop {α : Type} (l : List α) (k : Nat) (d : α) (h : k < l.length) : l.drop k = l.getD k d :: l.drop (k + 1) := by
  rw [List.drop_eq_getElem_cons h, List.getD_eq_getElem?_getD, List.getElem?_eq_getElem h]; rfl
/-- A counting loop, by what holds between its rounds. -/
theorem walkN_inv {S R : Type} (P : Nat → S → Prop) {f : Nat → S → (S → Option R) → Option R} {e : S → Option R} {r : Option R} (n : Nat) (hf : ∀ i s, i < n → P i s → ∃ s', P (i + 1) s' ∧ ∀ k, f i s k = k s') (he : ∀ s, P n s → e s = r) (s : S) (h0 : P 0 s) : walkN f e n 0 s = r := by
  have key : ∀ (m i : Nat) (s : S), i + m = n → P i s → walkN f e m i s = r := by
    intro m
    induction m with
    | zero => intro i s hi hp; have : i = n := by omega
              subst this; exact he s hp
    | succ m ih =>
      intro i s hi hp
      obtain ⟨s', h1, h2⟩ := hf i s (by omega) hp
      rw [walkN, h2]
      exact ih (i + 1) s' (by omega) h1
  exact key n 0 s (by omega) h0
theorem walkL_inv {S R α : Type} (P : S → Prop) {f : α → S → (S → Option R) → Option R} {e : S → Option R} {r : Option R} : ∀ (l : List α), (∀ a ∈ l, ∀ s, P s → ∃ s', P s' ∧ ∀ k, f a s k = k s') → (∀ s, P s → e s = r) → ∀ s, P s → walkL f e l s = r
  | [], _, he, s, hp => he s hp
  | a :: l, hf, he, s, hp => by
    obtain ⟨s', h1, h2⟩ := hf a List.mem_cons_self s hp
    rw [walkL, h2]
    exact walkL_inv P l (fun x hx => hf x (List.mem_cons_of_mem _ hx)) he s' h1
section
variable {E K V : Type} [DecidableEq K] {cf : K → K → Int}
theorem lt_irr (h : TotCmp cf) (a : K) : ¬ cf a a < 0 := by
  have := h.swo.irrefl a; simpa [Go.Proofs.ltOf] using this
theorem lt_tr (h : TotCmp cf) {a b c : K} (h1 : cf a b < 0) (h2 : cf b c < 0) : cf a c < 0 := by
  have := h.swo.trans a b c (by simpa [Go.Proofs.ltOf] using h1) (by simpa [Go.Proofs.ltOf] using h2); simpa [Go.Proofs.ltOf] using this
theorem lt_tot (h : TotCmp cf) {a b : K} (h1 : ¬ cf a b < 0) (h2 : ¬ cf b a < 0) : a = b :=
  h.tot a b (by simpa [Go.Proofs.ltOf] using h1) (by simpa [Go.Proofs.ltOf] using h2)
theorem lt_asym (h : TotCmp cf) {a b : K} (h1 : cf a b < 0) : ¬ cf b a < 0 := fun h2 => lt_irr h a (lt_tr h h1 h2)

variable (cf) (kf : E → K)
def Rises (L : List E) : Prop := L.Pairwise (fun x y => cf (kf x) (kf y) < 0)
def pre (L : List E) (k : K) : List E := L.takeWhile fun x => decide (cf (kf x) k < 0)
def suf (L : List E) (k : K) : List E := L.dropWhile fun x => decide (cf (kf x) k < 0)
/-- The entry of a key. -/
def at_ (L : List E) (k : K) : Option E :=
  match suf cf kf L k with
  | [] => none
  | x :: _ => if kf x = k then some x else none
variable {cf kf}
theorem pre_suf (L : List E) (k : K) : pre cf kf L k ++ suf cf kf L k = L := List.takeWhile_append_dropWhile
theorem pre_lt {L : List E} {k : K} {x : E} (h : x ∈ pre cf kf L k) : cf (kf x) k < 0 := by
  have : ∀ (L : List E), x ∈ L.takeWhile (fun x => decide (cf (kf x) k < 0)) → cf (kf x) k < 0 := by
    intro L
    induction L with
    | nil => intro h; cases h
    | cons a L ih =>
      intro h
      rw [List.takeWhile_cons] at h
      split at h
      · rename_i hb
        rcases List.mem_cons.1 h with rfl | h
        · simpa using hb
        · exact ih h
      · cases h
  exact this L h
theorem suf_head {L : List E} {k : K} {x : E} {r : List E} (h : suf cf kf L k = x :: r) : ¬ cf (kf x) k < 0 := by
  have : ∀ (L : List E), L.dropWhile (fun x => decide (cf (kf x) k < 0)) = x :: r → ¬ cf (kf x) k < 0 := by
    intro L
    induction L with
    | nil => intro h; cases h
    | cons a L ih =>
      intro h
      rw [List.dropWhile_cons] at h
      split at h
      · exact ih h
      · rename_i hb
        cases h
        simpa using hb
  exact this L h
theorem Rises.parts {L : List E} (h : Rises cf kf L) (k : K) : Rises cf kf (pre cf kf L k) ∧ Rises cf kf (suf cf kf L k) ∧ ∀ a ∈ pre cf kf L k, ∀ b ∈ suf cf kf L k, cf (kf a) (kf b) < 0 := by
  have h2 := h; unfold Rises at h2; rw [← pre_suf (cf := cf) (kf := kf) L k] at h2
  exact List.pairwise_append.1 h2
theorem at_mem {L : List E} {k : K} {x : E} (h : at_ cf kf L k = some x) : x ∈ L ∧ kf x = k ∧ ∃ r, suf cf kf L k = x :: r := by
  unfold at_ at h
  split at h
  · cases h
  · rename_i y r hs
    split at h
    · rename_i hk
      cases h
      exact ⟨by rw [← pre_suf (cf := cf) (kf := kf) L k, hs]; simp, hk, r, hs⟩
    · cases h
theorem at_some (hT : TotCmp cf) {L : List E} (h : Rises cf kf L) {k : K} {x : E} (hx : x ∈ L) (hk : kf x = k) : at_ cf kf L k = some x := by
  obtain ⟨_, hs, _⟩ := h.parts k
  have hm : x ∈ pre cf kf L k ∨ x ∈ suf cf kf L k := by rw [← List.mem_append, pre_suf]; exact hx
  rcases hm with hm | hm
  · have := pre_lt hm; rw [hk] at this; exact absurd this (lt_irr hT k)
  · unfold at_
    cases hd : suf cf kf L k with
    | nil => rw [hd] at hm; cases hm
    | cons y r =>
      rw [hd] at hm hs
      rcases List.mem_cons.1 hm with rfl | hr
      · simp [hk]
      · have h1 := (List.pairwise_cons.1 hs).1 x hr
        rw [hk] at h1
        exact absurd h1 (suf_head hd)
theorem at_iff (hT : TotCmp cf) {L : List E} (h : Rises cf kf L) {k : K} {x : E} : at_ cf kf L k = some x ↔ x ∈ L ∧ kf x = k :=
  ⟨fun hh => ⟨(at_mem hh).1, (at_mem hh).2.1⟩, fun hh => at_some hT h hh.1 hh.2⟩
theorem at_none (hT : TotCmp cf) {L : List E} (h : Rises cf kf L) {k : K} : at_ cf kf L k = none ↔ ∀ x ∈ L, kf x ≠ k := by
  constructor
  · intro hn x hx hk; rw [at_some hT h hx hk] at hn; cases hn
  · intro hh
    cases ha : at_ cf kf L k with
    | none => rfl
    | some x => exact absurd (at_mem ha).2.1 (hh x (at_mem ha).1)
theorem suf_gt (hT : TotCmp cf) {L : List E} (h : Rises cf kf L) {k : K} {x : E} (hn : at_ cf kf L k = none) (hx : x ∈ suf cf kf L k) : cf k (kf x) < 0 := by
  obtain ⟨_, hs, _⟩ := h.parts k
  cases hd : suf cf kf L k with
  | nil => rw [hd] at hx; cases hx
  | cons y r =>
    have hy : cf k (kf y) < 0 := by
      have h1 := suf_head hd
      have h2 : kf y ≠ k := (at_none hT h).1 hn y (by rw [← pre_suf (cf := cf) (kf := kf) L k, hd]; simp)
      rcases Classical.em (cf k (kf y) < 0) with h3 | h3
      · exact h3
      · exact absurd (lt_tot hT h1 h3) h2
    rw [hd] at hx hs
    rcases List.mem_cons.1 hx with rfl | hr
    · exact hy
    · exact lt_tr hT hy ((List.pairwise_cons.1 hs).1 x hr)
theorem ins_rises (hT : TotCmp cf) {L : List E} (h : Rises cf kf L) {e : E} (hn : at_ cf kf L (kf e) = none) : Rises cf kf ((pre cf kf L (kf e) ++ [e]) ++ suf cf kf L (kf e)) := by
  obtain ⟨p1, p2, p3⟩ := h.parts (kf e)
  refine List.pairwise_append.2 ⟨List.pairwise_append.2 ⟨p1, List.pairwise_singleton _ _, fun a ha b hb => ?_⟩, p2, fun a ha b hb => ?_⟩
  · rw [List.mem_singleton.1 hb]; exact pre_lt ha
  · rcases List.mem_append.1 ha with ha | ha
    · exact p3 a ha b hb
    · rw [List.mem_singleton.1 ha]; exact suf_gt hT h hn hb
theorem ins_perm (L : List E) (k : K) (e : E) : ((pre cf kf L k ++ [e]) ++ suf cf kf L k).Perm (e :: L) := by
  conv => rhs; rw [← pre_suf (cf := cf) (kf := kf) L k]
  rw [List.append_assoc]
  exact List.perm_middle
/-- The list around an entry. -/
theorem at_split {L : List E} {k : K} {x : E} (h : at_ cf kf L k = some x) : L = pre cf kf L k ++ x :: (suf cf kf L k).drop 1 := by
  obtain ⟨_, _, r, hs⟩ := at_mem h
  conv => lhs; rw [← pre_suf (cf := cf) (kf := kf) L k, hs]
  rw [hs]; rfl
theorem del_perm {L : List E} {k : K} {x : E} (h : at_ cf kf L k = some x) : L.Perm (x :: (pre cf kf L k ++ (suf cf kf L k).drop 1)) := by
  conv => lhs; rw [at_split h]
  exact List.perm_middle
theorem del_rises {L : List E} (h : Rises cf kf L) (k : K) : Rises cf kf (pre cf kf L k ++ (suf cf kf L k).drop 1) := by
  have h2 := h; unfold Rises at h2; rw [← pre_suf (cf := cf) (kf := kf) L k] at h2
  exact h2.sublist (List.Sublist.append (List.Sublist.refl _) (List.drop_sublist _ _))
theorem set_eq {L : List E} {k : K} {x : E} (h : at_ cf kf L k = some x) (e : E) : L.set (pre cf kf L k).length e = pre cf kf L k ++ e :: (suf cf kf L k).drop 1 := by
  have : (pre cf kf L k ++ x :: (suf cf kf L k).drop 1).set (pre cf kf L k).length e = pre cf kf L k ++ e :: (suf cf kf L k).drop 1 := by
    rw [List.set_append_right _ _ (Nat.le_refl _), Nat.sub_self]; rfl
  rwa [← at_split h] at this
theorem set_perm {L : List E} {k : K} {x : E} (h : at_ cf kf L k = some x) (e : E) : (L.set (pre cf kf L k).length e).Perm (e :: (pre cf kf L k ++ (suf cf kf L k).drop 1)) := by
  rw [set_eq h]; exact List.perm_middle
theorem set_rises {L : List E} (hr : Rises cf kf L) {k : K} {x : E} (h : at_ cf kf L k = some x) {e : E} (he : kf e = k) : Rises cf kf (L.set (pre cf kf L k).length e) := by
  have h2 := hr; unfold Rises at h2; rw [at_split h] at h2
  rw [set_eq h]
  obtain ⟨p1, p2, p3⟩ := List.pairwise_append.1 h2
  obtain ⟨q1, q2⟩ := List.pairwise_cons.1 p2
  have hx := (at_mem h).2.1
  refine List.pairwise_append.2 ⟨p1, List.pairwise_cons.2 ⟨fun b hb => ?_, q2⟩, fun a ha b hb => ?_⟩
  · have := q1 b hb; rwa [hx, ← he] at this
  · rcases List.mem_cons.1 hb with rfl | hb
    · have := p3 a ha x List.mem_cons_self; rwa [hx, ← he] at this
    · exact p3 a ha b (List.mem_cons_of_mem _ hb)
theorem take_pre (L : List E) (k : K) : L.take (pre cf kf L k).length = pre cf kf L k := by
  have : (pre cf kf L k ++ suf cf kf L k).take (pre cf kf L k).length = pre cf kf L k := List.take_left
  rwa [pre_suf] at this
theorem drop_pre (L : List E) (k : K) (n : Nat) : L.drop ((pre cf kf L k).length + n) = (suf cf kf L k).drop n := by
  have : (pre cf kf L k ++ suf cf kf L k).drop (pre cf kf L k).length = suf cf kf L k := List.drop_left
  rw [pre_suf] at this
  rw [← List.drop_drop, this]
theorem getD_pre [Inhabited E] {L : List E} {k : K} {x : E} (h : at_ cf kf L k = some x) : (pre cf kf L k).length < L.length ∧ L.getD (pre cf kf L k).length default = x := by
  have hl := congrArg List.length (at_split h)
  simp only [List.length_append, List.length_cons] at hl
  refine ⟨by omega, ?_⟩
  have : (pre cf kf L k ++ x :: (suf cf kf L k).drop 1).getD (pre cf kf L k).length default = x := by
    rw [List.getD_eq_getElem?_getD, List.getElem?_append_right (Nat.le_refl _), Nat.sub_self]
    rfl
  rwa [← at_split h] at this
theorem pre_le (L : List E) (k : K) : (pre cf kf L k).length ≤ L.length := by
  have := congrArg List.length (pre_suf (cf := cf) (kf := kf) L k); rw [List.length_append] at this; omega
/-- The place of a key, by counting. -/
theorem place_walk [Inhabited E] {L : List E} {k : K} (f : Nat → Unit → (Unit → Option (Int × Bool)) → Option (Int × Bool)) (e : Unit → Option (Int × Bool))
    (hf : ∀ i kk, i < L.length → f i () kk = if cf (kf (L.getD i default)) k < 0 then kk () else some ((i : Int), decide (kf (L.getD i default) = k)))
    (he : e () = some ((L.length : Int), false)) : walkN f e L.length 0 () = some (((pre cf kf L k).length : Int), (at_ cf kf L k).isSome) := by
  have key : ∀ (m : List E) (i : Nat), L.drop i = m → i + m.length = L.length → walkN f e m.length i () = some (((i + (pre cf kf m k).length : Nat) : Int), (at_ cf kf m k).isSome) := by
    intro m
    induction m with
    | nil =>
      intro i _ hi
      have : i = L.length := by simpa using hi
      subst this
      exact he
    | cons a m ih =>
      intro i hd hi
      have hlt : i < L.length := by simp at hi; omega
      have h1 := getD_drop L i default hlt
      rw [hd] at h1
      have ha := (List.cons.inj h1).1.symm
      have hd2 := (List.cons.inj h1).2.symm
      rw [List.length_cons, walkN, hf i _ hlt, ha]
      by_cases hc : cf (kf a) k < 0
      · rw [if_pos hc, ih (i + 1) hd2 (by simp at hi; omega)]
        have e1 : pre cf kf (a :: m) k = a :: pre cf kf m k := by simp [pre, List.takeWhile_cons, hc]
        have e2 : suf cf kf (a :: m) k = suf cf kf m k := by simp [suf, List.dropWhile_cons, hc]
        have e3 : at_ cf kf (a :: m) k = at_ cf kf m k := by simp only [at_, e2]
        rw [e1, e3, List.length_cons]
        congr 3
        omega
      · rw [if_neg hc]
        have e1 : pre cf kf (a :: m) k = [] := by simp [pre, List.takeWhile_cons, hc]
        have e2 : suf cf kf (a :: m) k = a :: m := by simp [suf, List.dropWhile_cons, hc]
        have e3 : (at_ cf kf (a :: m) k).isSome = decide (kf a = k) := by
          simp only [at_, e2]; split <;> simp_all
        rw [e1, e3]; rfl
  have := key L 0 rfl (by simp)
  rwa [Nat.zero_add] at this

/-- The place of a key, by looking for it. -/
theorem at_cons_lt (hT : TotCmp cf) {a : E} {m : List E} {k : K} (hc : cf (kf a) k < 0) : pre cf kf (a :: m) k = a :: pre cf kf m k ∧ suf cf kf (a :: m) k = suf cf kf m k ∧ at_ cf kf (a :: m) k = at_ cf kf m k := by
  have e1 : pre cf kf (a :: m) k = a :: pre cf kf m k := by simp [pre, List.takeWhile_cons, hc]
  have e2 : suf cf kf (a :: m) k = suf cf kf m k := by simp [suf, List.dropWhile_cons, hc]
  exact ⟨e1, e2, by simp only [at_, e2]⟩
theorem find_walk [Inhabited E] (hT : TotCmp cf) {L : List E} (hr : Rises cf kf L) {k : K} (f : Nat → Unit → (Unit → Option Int) → Option Int) (e : Unit → Option Int)
    (hf : ∀ i kk, i < L.length → f i () kk = if kf (L.getD i default) = k then some (i : Int) else kk ()) (he : e () = some (-1)) :
    walkN f e L.length 0 () = some (if (at_ cf kf L k).isSome then ((pre cf kf L k).length : Int) else -1) := by
  have key : ∀ (m : List E) (i : Nat), L.drop i = m → i + m.length = L.length → Rises cf kf m → walkN f e m.length i () = some (if (at_ cf kf m k).isSome then ((i + (pre cf kf m k).length : Nat) : Int) else -1) := by
    intro m
    induction m with
    | nil => intro i _ _ _; exact he
    | cons a m ih =>
      intro i hd hi hm
      have hlt : i < L.length := by simp at hi; omega
      have h1 := getD_drop L i default hlt
      rw [hd] at h1
      have ha := (List.cons.inj h1).1.symm
      have hd2 := (List.cons.inj h1).2.symm
      obtain ⟨hm1, hm2⟩ := List.pairwise_cons.1 hm
      rw [List.length_cons, walkN, hf i _ hlt, ha]
      by_cases hk : kf a = k
      · have hat : at_ cf kf (a :: m) k = some a := at_some hT hm List.mem_cons_self hk
        have hp : pre cf kf (a :: m) k = [] := by
          have : ¬ cf (kf a) k < 0 := by rw [hk]; exact lt_irr hT k
          simp [pre, List.takeWhile_cons, this]
        rw [if_pos hk, hat, hp]; rfl
      · rw [if_neg hk, ih (i + 1) hd2 (by simp at hi; omega) hm2]
        by_cases hc : cf (kf a) k < 0
        · obtain ⟨e1, _, e3⟩ := at_cons_lt (m := m) hT hc
          rw [e1, e3, List.length_cons, show i + 1 + (pre cf kf m k).length = i + ((pre cf kf m k).length + 1) by omega]
        · have n1 : at_ cf kf m k = none := (at_none hT hm2).2 fun x hx e => by
            have := hm1 x hx
            rw [e] at this
            exact hc this
          have n2 : at_ cf kf (a :: m) k = none := (at_none hT hm).2 fun x hx e => by
            rcases List.mem_cons.1 hx with rfl | hx
            · exact hk e
            · exact (at_none hT hm2).1 n1 x hx e
          rw [n1, n2]; rfl
  have := key L 0 rfl (by simp) hr
  rwa [Nat.zero_add] at this
/-- Are two lists the same? -/
theorem eqL_walk {α : Type} [DecidableEq α] [Inhabited α] {a b : List α} (hl : a.length = b.length) (f : Nat → Unit → (Unit → Option Bool) → Option Bool) (e : Unit → Option Bool)
    (hf : ∀ i kk, i < a.length → f i () kk = if a.getD i default = b.getD i default then kk () else some false) (he : e () = some true) : walkN f e a.length 0 () = some (decide (a = b)) := by
  have key : ∀ (m n : List α) (i : Nat), a.drop i = m → b.drop i = n → m.length = n.length → i + m.length = a.length → walkN f e m.length i () = some (decide (m = n)) := by
    intro m
    induction m with
    | nil =>
      intro n i _ _ h _
      rw [List.eq_nil_of_length_eq_zero h.symm]
      show e () = _
      rw [he]; simp
    | cons x m ih =>
      intro n i hd hd' hmn hi
      have hlt : i < a.length := by simp at hi; omega
      have h1 := getD_drop a i default hlt
      have h2 := getD_drop b i default (by omega)
      rw [hd] at h1
      rw [hd'] at h2
      subst h2
      rw [List.length_cons, walkN, hf i _ hlt, ← (List.cons.inj h1).1]
      by_cases hx : x = b.getD i default
      · rw [if_pos hx, ih (b.drop (i + 1)) (i + 1) (List.cons.inj h1).2.symm rfl (by simpa using hmn) (by simp at hi; omega)]
        congr 1
        rw [Bool.eq_iff_iff, decide_eq_true_eq, decide_eq_true_eq]
        simp [hx]
      · rw [if_neg hx]
        congr 1
        symm
        rw [decide_eq_false_iff_not]
        intro h
        exact hx (List.cons.inj h).1
  exact key a b 0 rfl rfl hl (by simp)

/-! The map -/
theorem mget_iff {m : List (K × V)} (hn : (m.map (·.1)).Nodup) {k : K} {v : V} : mget m k = some v ↔ (k, v) ∈ m := by
  induction m with
  | nil => simp [mget]
  | cons a m ih =>
    obtain ⟨a, b⟩ := a
    simp only [List.map_cons, List.nodup_cons] at hn
    simp only [mget, List.mem_cons, Prod.mk.injEq]
    by_cases h : k = a
    · subst h
      rw [if_pos rfl]
      constructor
      · intro h; cases h; exact .inl ⟨rfl, rfl⟩
      · rintro (⟨_, rfl⟩ | h)
        · rfl
        · exact absurd (List.mem_map.2 ⟨_, h, rfl⟩) hn.1
    · rw [if_neg h, ih hn.2]
      simp [h]
theorem mset_new {m : List (K × V)} {k : K} (hn : k ∉ m.map (·.1)) (v : V) : mset m k v = m ++ [(k, v)] := by
  induction m with
  | nil => rfl
  | cons e m ih =>
    simp only [List.map_cons, List.mem_cons, not_or] at hn
    simp only [mset]
    rw [if_neg hn.1, ih hn.2]; rfl
theorem mset_old {m : List (K × V)} {k : K} {v0 : V} (hm : mget m k = some v0) (v : V) : (mset m k v).Perm ((k, v) :: mdel m k) := by
  induction m with
  | nil => simp [mget] at hm
  | cons e m ih =>
    simp only [mget] at hm
    simp only [mset, mdel]
    by_cases h : k = e.1
    · rw [if_pos h, if_pos h]
    · rw [if_neg h] at hm ⊢
      rw [if_neg h]
      exact ((ih hm).cons e).trans (List.Perm.swap _ _ _)
theorem mdel_perm {m : List (K × V)} {k : K} {v0 : V} (hm : mget m k = some v0) : m.Perm ((k, v0) :: mdel m k) := by
  induction m with
  | nil => simp [mget] at hm
  | cons e m ih =>
    obtain ⟨a, b⟩ := e
    simp only [mget] at hm
    simp only [mdel]
    by_cases h : k = a
    · rw [if_pos h] at hm ⊢
      cases hm; rw [h]
    · rw [if_neg h] at hm ⊢
      exact ((ih hm).cons _).trans (List.Perm.swap _ _ _)

variable (cf) (pr : E → K × V)
/-- A list that rises, a map of the same entries. -/
structure Pair (L : List E) (m : List (K × V)) : Prop where
  rises : Rises cf (fun e => (pr e).1) L
  perm : (L.map pr).Perm m
variable {cf pr}
theorem Pair.nil : Pair cf pr ([] : List E) ([] : List (K × V)) := ⟨List.Pairwise.nil, List.Perm.refl _⟩
theorem Pair.keys {L : List E} {m : List (K × V)} (h : Pair cf pr L m) : (m.map (·.1)).Perm (L.map fun e => (pr e).1) := by
  have := h.perm.map (·.1); rw [List.map_map] at this; exact this.symm
theorem Pair.nodup (hT : TotCmp cf) {L : List E} {m : List (K × V)} (h : Pair cf pr L m) : (m.map (·.1)).Nodup := by
  rw [h.keys.nodup_iff]
  rw [List.Nodup, List.pairwise_map]
  refine h.rises.imp ?_
  intro x y hxy e
  have h2 : cf (pr x).1 (pr y).1 < 0 := hxy
  rw [e] at h2
  exact lt_irr hT _ h2
theorem Pair.len {L : List E} {m : List (K × V)} (h : Pair cf pr L m) : m.length = L.length := by rw [← h.perm.length_eq, List.length_map]
theorem Pair.get (hT : TotCmp cf) {L : List E} {m : List (K × V)} (h : Pair cf pr L m) (k : K) : mget m k = (at_ cf (fun e => (pr e).1) L k).map fun e => (pr e).2 := by
  apply Option.ext
  intro v
  rw [mget_iff (h.nodup hT), ← h.perm.mem_iff, List.mem_map, Option.map_eq_some_iff]
  constructor
  · rintro ⟨e, he, h1⟩
    exact ⟨e, at_some hT h.rises he (by rw [h1]), by rw [h1]⟩
  · rintro ⟨e, he, h1⟩
    obtain ⟨h2, h3, _⟩ := at_mem he
    exact ⟨e, h2, Prod.ext h3 h1⟩
theorem Pair.sorted (hT : TotCmp cf) {L : List E} {m : List (K × V)} (h : Pair cf pr L m) : sortL cf (m.map (·.1)) = L.map fun e => (pr e).1 :=
  sortL_uniq hT (by
    rw [List.pairwise_map]
    exact h.rises.imp fun {x y} hxy => by
      have := lt_asym hT hxy
      simp only [Go.Proofs.ltOf, Bool.not_eq_true', decide_eq_false_iff_not]; exact this) h.keys.symm
theorem Pair.add (hT : TotCmp cf) {L : List E} {m : List (K × V)} (h : Pair cf pr L m) {e : E} {k : K} {v : V} (he : pr e = (k, v)) (hn : at_ cf (fun e => (pr e).1) L k = none) :
    Pair cf pr ((pre cf (fun e => (pr e).1) L k ++ [e]) ++ suf cf (fun e => (pr e).1) L k) (mset m k v) := by
  have hk : (pr e).1 = k := by rw [he]
  refine ⟨by rw [← hk] at hn ⊢; exact ins_rises hT h.rises hn, ?_⟩
  have hg := h.get hT k
  rw [hn] at hg
  have hnot : k ∉ m.map (·.1) := by
    intro hm
    rw [h.keys.mem_iff, List.mem_map] at hm
    obtain ⟨x, hx, hxk⟩ := hm
    exact (at_none hT h.rises).1 hn x hx hxk
  rw [mset_new hnot]
  have := (ins_perm (cf := cf) (kf := fun e => (pr e).1) L k e).map pr
  rw [List.map_cons, he] at this
  exact this.trans ((h.perm.cons _).trans (List.perm_append_comm (l₁ := [(k, v)])))
theorem Pair.upd (hT : TotCmp cf) {L : List E} {m : List (K × V)} (h : Pair cf pr L m) {e e0 : E} {k : K} {v : V} (he : pr e = (k, v)) (h0 : at_ cf (fun e => (pr e).1) L k = some e0) :
    Pair cf pr (L.set (pre cf (fun e => (pr e).1) L k).length e) (mset m k v) := by
  refine ⟨set_rises h.rises h0 (by show (pr e).1 = k; rw [he]), ?_⟩
  have hg := h.get hT k
  rw [h0] at hg
  have p1 := (set_perm h0 e).map pr
  have p2 := (del_perm h0).map pr
  have p3 := mdel_perm hg
  have p4 := mset_old hg v
  rw [List.map_cons, he] at p1
  rw [List.map_cons] at p2
  have hk : pr e0 = (k, (pr e0).2) := Prod.ext (at_mem h0).2.1 rfl
  rw [hk] at p2
  have p5 := (List.perm_cons _).1 (p2.symm.trans (h.perm.trans p3))
  exact p1.trans ((p5.cons _).trans p4.symm)
theorem Pair.del (hT : TotCmp cf) {L : List E} {m : List (K × V)} (h : Pair cf pr L m) {e0 : E} {k : K} (h0 : at_ cf (fun e => (pr e).1) L k = some e0) :
    Pair cf pr (pre cf (fun e => (pr e).1) L k ++ (suf cf (fun e => (pr e).1) L k).drop 1) (mdel m k) := by
  refine ⟨del_rises h.rises k, ?_⟩
  have hg := h.get hT k
  rw [h0] at hg
  have p2 := (del_perm h0).map pr
  have p3 := mdel_perm hg
  rw [List.map_cons] at p2
  have hk : pr e0 = (k, (pr e0).2) := Prod.ext (at_mem h0).2.1 rfl
  rw [hk] at p2
  exact (List.perm_cons _).1 (p2.symm.trans (h.perm.trans p3))
end
end Go.Proofs.YtfjdnnoflmpdeaaDoor.Ri
