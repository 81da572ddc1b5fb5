/- Plain facts on histories: their order. -/
import Derived.Test.YtofkaccoofafmaaHistQ
set_option linter.unusedVariables false
set_option linter.unusedSimpArgs false
set_option linter.unusedSectionVars false
namespace Go.Proofs.Ytofkaccoofafmaa.Wk
open Go Go.Cn

/-! An order of a graph -/
section
variable (n : Nat) (E : Nat → Nat → Bool)
/-- It waits for none. -/
def freeB (out : List Nat) (i : Nat) : Bool := !out.contains i && (List.range n).all fun k => out.contains k || !E k i
def nextB (out : List Nat) : Option Nat := (List.range n).find? (freeB n E out)
def kahn : Nat → List Nat → List Nat
  | 0, out => out
  | f + 1, out => match nextB n E out with
    | none => out
    | some i => kahn f (out ++ [i])
def cntB (out : List Nat) (i : Nat) : Nat := ((List.range n).filter fun k => !out.contains k && E k i).length
def waitB (out : List Nat) (i : Nat) : Int := if out.contains i then -1 else (cntB n E out i : Int)
def rowB (i : Nat) : List Int := ((List.range n).filter (E i)).map fun (k : Nat) => (k : Int)
def grB : List (List Int) := (List.range n).map (rowB n E)
structure Inv (out : List Nat) : Prop where
  nd : out.Nodup
  lt : ∀ i ∈ out, i < n
  cl : ∀ i ∈ out, ∀ k, k < n → E k i = true → k ∈ out
theorem Inv.nil : Inv n E [] := ⟨List.nodup_nil, (fun _ h => by cases h), (fun _ h => by cases h)⟩
theorem Inv.len {n : Nat} {E : Nat → Nat → Bool} {out : List Nat} (h : Inv n E out) : out.length ≤ n := by
  have := h.nd.length_le_of_subset (l₂ := List.range n) (fun i hi => List.mem_range.2 (h.lt i hi))
  simpa using this
theorem freeB_iff {n : Nat} {E : Nat → Nat → Bool} {out : List Nat} {i : Nat} : freeB n E out i = true ↔ i ∉ out ∧ ∀ k, k < n → E k i = true → k ∈ out := by
  simp only [freeB, Bool.and_eq_true, Bool.not_eq_true', List.all_eq_true, List.mem_range, Bool.or_eq_true, List.contains_iff_mem]
  constructor
  · rintro ⟨h1, h2⟩
    refine ⟨(fun h => by have := List.contains_iff_mem.2 h; rw [h1] at this; cases this), fun k hk he => ?_⟩
    rcases h2 k hk with h | h
    · exact h
    · rw [he] at h; cases h
  · rintro ⟨h1, h2⟩
    refine ⟨by rw [Bool.eq_false_iff]; exact fun h => h1 (List.contains_iff_mem.1 h), fun k hk => ?_⟩
    cases he : E k i with
    | true => exact .inl (h2 k hk he)
    | false => exact .inr rfl
theorem next_some {n : Nat} {E : Nat → Nat → Bool} {out : List Nat} {i : Nat} (h : nextB n E out = some i) : i < n ∧ freeB n E out i = true :=
  ⟨List.mem_range.1 (List.mem_of_find?_eq_some h), List.find?_some h⟩
theorem Inv.step {n : Nat} {E : Nat → Nat → Bool} {out : List Nat} {i : Nat} (hI : Inv n E out) (h : nextB n E out = some i) : Inv n E (out ++ [i]) := by
  obtain ⟨h1, h2⟩ := next_some h
  obtain ⟨h3, h4⟩ := freeB_iff.1 h2
  refine ⟨?_, fun j hj => ?_, fun j hj k hk he => ?_⟩
  · rw [List.nodup_append]
    exact ⟨hI.nd, List.nodup_cons.2 ⟨by simp, List.nodup_nil⟩, fun a ha b hb e => by simp only [List.mem_singleton] at hb; subst hb; subst e; exact h3 ha⟩
  · rcases List.mem_append.1 hj with hj | hj
    · exact hI.lt j hj
    · simp only [List.mem_singleton] at hj; subst hj; exact h1
  · rcases List.mem_append.1 hj with hj | hj
    · exact List.mem_append_left _ (hI.cl j hj k hk he)
    · simp only [List.mem_singleton] at hj; subst hj; exact List.mem_append_left _ (h4 k hk he)
theorem kahn_inv {n : Nat} {E : Nat → Nat → Bool} : ∀ (f : Nat) (out : List Nat), Inv n E out → Inv n E (kahn n E f out)
  | 0, _, h => h
  | f + 1, out, h => by
    rw [kahn]
    cases hn : nextB n E out with
    | none => exact h
    | some i => exact kahn_inv f _ (h.step hn)
theorem filter_rm (p : Nat → Bool) (x : Nat) : ∀ (L : List Nat), L.Nodup → (L.filter fun k => p k && !(k == x)).length + (if x ∈ L ∧ p x = true then 1 else 0) = (L.filter p).length
  | [], _ => by simp
  | a :: L, h => by
    rw [List.nodup_cons] at h
    have ih := filter_rm p x L h.2
    rw [List.filter_cons, List.filter_cons]
    by_cases e : a = x
    · subst e
      have hx : ¬ (a ∈ L ∧ p a = true) := fun hh => h.1 hh.1
      rw [if_neg hx] at ih
      cases hp : p a with
      | true => simp [hp]; omega
      | false => simp [hp]; omega
    · have hm : (x ∈ a :: L ∧ p x = true) ↔ (x ∈ L ∧ p x = true) := by
        rw [List.mem_cons]
        exact ⟨fun ⟨h1, h2⟩ => ⟨h1.resolve_left (fun h => e h.symm), h2⟩, fun ⟨h1, h2⟩ => ⟨.inr h1, h2⟩⟩
      simp only [hm]
      have hb : (!(a == x)) = true := by simp [e]
      rw [hb, Bool.and_true]
      cases p a <;> simp <;> omega
theorem cnt_step {n : Nat} {E : Nat → Nat → Bool} {out : List Nat} {i : Nat} (hi : i < n) (ho : i ∉ out) (j : Nat) : cntB n E (out ++ [i]) j + (if E i j = true then 1 else 0) = cntB n E out j := by
  have := filter_rm (fun k => !out.contains k && E k j) i (List.range n) List.nodup_range
  rw [cntB, cntB, ← this]
  congr 1
  · congr 1
    congr 1
    funext k
    rw [Bool.eq_iff_iff]
    simp only [Bool.and_eq_true, Bool.not_eq_true', List.contains_eq_mem, List.mem_append, List.mem_singleton, decide_eq_false_iff_not, not_or, beq_eq_false_iff_ne]
    constructor
    · rintro ⟨⟨h1, h2⟩, h3⟩; exact ⟨⟨h1, h3⟩, h2⟩
    · rintro ⟨⟨h1, h3⟩, h2⟩; exact ⟨⟨h1, h2⟩, h3⟩
  · congr 1
    apply propext
    simp only [List.mem_range, Bool.and_eq_true, Bool.not_eq_true', List.contains_eq_mem, decide_eq_false_iff_not]
    exact ⟨fun h => ⟨hi, ho, h⟩, fun h => h.2.2⟩
theorem wait_zero {n : Nat} {E : Nat → Nat → Bool} (out : List Nat) (i : Nat) : (0 == waitB n E out i) = freeB n E out i := by
  rw [Bool.eq_iff_iff, freeB_iff, beq_iff_eq, waitB]
  by_cases h : out.contains i = true
  · rw [if_pos h]
    exact ⟨fun h => absurd h (by decide), fun hh => absurd (List.contains_iff_mem.1 h) hh.1⟩
  · rw [if_neg h]
    constructor
    · intro h0
      refine ⟨fun hm => h (List.contains_iff_mem.2 hm), fun k hk he => Classical.byContradiction fun hn => ?_⟩
      have hc : cntB n E out i = 0 := by omega
      rw [cntB, List.length_eq_zero_iff, List.filter_eq_nil_iff] at hc
      exact hc k (List.mem_range.2 hk) (by simp [he, hn])
    · rintro ⟨_, h2⟩
      have : cntB n E out i = 0 := by
        rw [cntB, List.length_eq_zero_iff, List.filter_eq_nil_iff]
        intro k hk
        simp only [Bool.and_eq_true, Bool.not_eq_true', List.contains_eq_mem, decide_eq_false_iff_not, not_and]
        exact fun hk' he => hk' (h2 k (List.mem_range.1 hk) he)
      rw [this]; rfl
theorem getD_rm {α : Type} [Inhabited α] (f : Nat → α) {n i : Nat} (h : i < n) : ((List.range n).map f).getD i default = f i := by
  rw [List.getD_eq_getElem?_getD, List.getElem?_map, List.getElem?_range h]; rfl
theorem set_rm (f : Nat → Int) (n i : Nat) (v : Int) : ((List.range n).map f).set i v = (List.range n).map fun j => if j = i then v else f j := by
  apply List.ext_getElem?
  intro j
  rw [List.getElem?_set, List.getElem?_map, List.getElem?_map]
  by_cases e : i = j
  · subst e
    rw [if_pos rfl, List.length_map, List.length_range]
    by_cases hi : i < n
    · rw [if_pos hi, List.getElem?_range hi]; simp
    · rw [if_neg hi, List.getElem?_eq_none (by simp; omega)]; rfl
  · rw [if_neg e]
    by_cases hj : j < n
    · rw [List.getElem?_range hj]; simp only [Option.map_some]; rw [if_neg (fun h => e h.symm)]
    · rw [List.getElem?_eq_none (by simp; omega)]; rfl
/-- Some numbers are turned by one. -/
theorem bumpL (d : Int) (hd : d = 1 ∨ d = -1) (B : Int → List Int → (List Int → Option (List Int)) → Option (List Int)) (e : List Int → Option (List Int))
    (hB : ∀ (a : Nat) (s : List Int) k, a < n → s.length = n → B (a : Int) s k = k (s.set a (IntKind.wrap .i64 (s.getD a default + d)))) :
    ∀ (ks : List Nat) (f : Nat → Int), ks.Nodup → (∀ k ∈ ks, k < n) → (∀ k ∈ ks, -1000 ≤ f k ∧ f k ≤ 1000) → walkL B e (ks.map fun (k : Nat) => (k : Int)) ((List.range n).map f) = e ((List.range n).map fun j => f j + if j ∈ ks then d else 0)
  | [], f, _, _, _ => by simp [walkL]
  | a :: ks, f, h1, h2, h3 => by
    rw [List.nodup_cons] at h1
    have ha := h2 a List.mem_cons_self
    have hf := h3 a List.mem_cons_self
    rw [List.map_cons, walkL, hB a _ _ ha (by simp), getD_rm f ha, w64 (by omega) (by omega), set_rm,
      bumpL d hd B e hB ks _ h1.2 (fun k hk => h2 k (List.mem_cons_of_mem _ hk)) (fun k hk => by
        rw [if_neg (fun he : k = a => h1.1 (he ▸ hk))]; exact h3 k (List.mem_cons_of_mem _ hk))]
    congr 1
    apply List.map_congr_left
    intro j _
    by_cases hj : j = a
    · subst hj; simp [h1.1]
    · simp [hj]
end

/-! The program's -/
def Eg (l : List RT) (i k : Nat) : Bool := decide (i ≠ k) && aheadB (l.getD i default) (l.getD k default)
theorem Eg_irr (l : List RT) (i : Nat) : Eg l i i = false := by simp [Eg]
theorem range_filter_succ (p : Nat → Bool) (i : Nat) : (List.range (i + 1)).filter p = (List.range i).filter p ++ if p i = true then [i] else [] := by
  rw [List.range_succ, List.filter_append, List.filter_cons]; rfl
theorem graph_eq (l : List RT) (h : ∀ t ∈ l, ndT t) (hl : l.length ≤ 64) : hist_graph (l.map tt) = some (grB l.length (Eg l)) := by
  rw [hist_graph, if_pos (by simp only [List.length_map]; omega), hist_graph_w0 _ _ (by simp only [List.length_map]; omega), List.length_map]
  have row : ∀ (i : Nat), i < l.length → ∀ (l2 : List (List Int)), l2.length = i → ∀ (k : List (List Int) → Option (List (List Int))) (m q : Nat), q + m = l.length →
      walkN (hist_graph_b1 (l.map tt) (i : Int) l2 k) (hist_graph_e1 l2 k) m q (((List.range q).filter (Eg l i)).map fun (k : Nat) => (k : Int)) = k (l2 ++ [rowB l.length (Eg l) i]) := by
    intro i hi l2 hl2 k m
    have en : ((i : Nat) : Int).toNat = i := Int.toNat_natCast i
    induction m with
    | zero => intro q hq; rw [show q = l.length by omega]; rfl
    | succ m ih =>
      intro q hq
      rw [walkN, hist_graph_b1]
      have step := ih (q + 1) (by omega)
      rw [range_filter_succ] at step
      have hle : ((List.range q).filter (Eg l i)).length ≤ q := by have := List.length_filter_le (Eg l i) (List.range q); simpa using this
      by_cases e : i = q
      · rw [if_neg (by simp; omega)]
        subst e
        rw [Eg_irr] at step
        simpa using step
      · rw [if_pos (by simp; omega), en, getD_map tt hi, getD_map tt (by omega), isAhead_eq _ _ (h _ (getD_mem hi)) (h _ (getD_mem (by omega))), Option.bind_some]
        have eE : Eg l i q = aheadB (l.getD i default) (l.getD q default) := by simp [Eg, e]
        rw [eE] at step
        cases ha : aheadB (l.getD i default) (l.getD q default) with
        | true =>
          rw [ha] at step
          rw [if_pos rfl, if_pos (by simp only [List.length_map]; omega), if_pos hl2.symm, if_pos (by simp only [List.length_map, List.length_cons, List.length_nil]; omega)]
          simpa using step
        | false =>
          rw [ha] at step
          rw [if_neg Bool.false_ne_true]
          simpa using step
  have all : ∀ (m q : Nat), q + m = l.length → walkN (hist_graph_b0 (l.map tt)) (hist_graph_e0 (l.map tt)) m q ((List.range q).map (rowB l.length (Eg l))) = some (grB l.length (Eg l)) := by
    intro m
    induction m with
    | zero =>
      intro q hq
      rw [walkN, hist_graph_e0, if_pos (by simp; omega), show q = l.length by omega]; rfl
    | succ m ih =>
      intro q hq
      rw [walkN, hist_graph_b0, hist_graph_w1 _ _ _ _ _ (by simp only [List.length_map]; omega), List.length_map]
      have := row q (by omega) ((List.range q).map (rowB l.length (Eg l))) (by simp) (fun l2_ => walkN (hist_graph_b0 (l.map tt)) (hist_graph_e0 (l.map tt)) m (q + 1) l2_) l.length 0 (by omega)
      rw [show (((List.range 0).filter (Eg l q)).map fun (k : Nat) => (k : Int)) = [] from rfl] at this
      rw [this, ← ih (q + 1) (by omega), List.range_succ, List.map_append]
      rfl
  exact all l.length 0 (by omega)

theorem findN (p : Nat → Bool) {R : Type} (r : Nat → Option R) (e : Unit → Option R) (f : Nat → Unit → (Unit → Option R) → Option R) : ∀ (n i : Nat), (∀ j, i ≤ j → j < i + n → ∀ k, f j () k = if p j = true then r j else k ()) → walkN f e n i () = match (List.range' i n).find? p with | some j => r j | none => e ()
  | 0, _, _ => rfl
  | n + 1, i, h => by
    rw [walkN, h i (Nat.le_refl _) (by omega), List.range'_succ, List.find?_cons]
    cases hp : p i with
    | true => rfl
    | false => rw [if_neg Bool.false_ne_true]; exact findN p r e f n (i + 1) (fun j h1 h2 => h j (by omega) (by omega))
theorem index_eq (n : Nat) (hn : n ≤ 64) (f : Nat → Int) (v : Int) : slices_Index_int_int ((List.range n).map f) n v = some (match (List.range n).find? (fun i => v == f i) with | some j => (j : Int) | none => -1) := by
  rw [slices_Index_int_int, slices_Index_int_int_w0 _ _ _ (by omega), findN (fun i => v == f i) (fun j => some (j : Int)), List.range_eq_range']
  · cases (List.range' 0 n).find? (fun i => v == f i) <;> rfl
  · intro j _ hj k
    rw [slices_Index_int_int_b0, if_pos (by simp; omega), Nat.zero_add, getD_rm f (by omega)]

theorem order_loop (n : Nat) (E : Nat → Nat → Bool) (hn : n ≤ 64) (hE : ∀ i, E i i = false) : ∀ (f : Nat) (out : List Nat) (fuel : Nat), Inv n E out → n < f + out.length → f ≤ fuel →
    hist_order_l2 (grB n E) fuel ((List.range n).map (waitB n E out)) (out.map fun (k : Nat) => (k : Int)) = some ((kahn n E f out).map fun (k : Nat) => (k : Int)) := by
  intro f
  induction f with
  | zero => intro out fuel hI hlt _; have := hI.len; omega
  | succ f ih =>
    intro out fuel hI hlt hfu
    obtain ⟨g, rfl⟩ : ∃ g, fuel = g + 1 := ⟨fuel - 1, by omega⟩
    have hgl : (grB n E).length = n := by simp [grB]
    rw [hist_order_l2, hgl, Int.toNat_natCast, index_eq n hn, kahn]
    have enx : (List.range n).find? (fun i => 0 == waitB n E out i) = nextB n E out := by
      rw [nextB]; congr 1; funext i; exact wait_zero out i
    rw [enx, Option.bind_some]
    cases hx : nextB n E out with
    | none => rfl
    | some i =>
      obtain ⟨h1, h2⟩ := next_some hx
      obtain ⟨h3, h4⟩ := freeB_iff.1 h2
      have hI' := hI.step hx
      have hlen' := hI'.len
      simp only [List.length_append, List.length_cons, List.length_nil] at hlen'
      simp only
      rw [if_neg (by rw [decide_eq_true_eq]; omega), if_pos (by omega), Int.toNat_natCast, if_pos (by simp; omega), if_pos (by omega), hist_order_w3 _ _ _ _ _ (by
        rw [Int.toNat_natCast, grB, getD_rm _ h1, rowB, List.length_map]
        have := List.length_filter_le (E i) (List.range n)
        rw [List.length_range] at this
        omega)]
      rw [Int.toNat_natCast, grB, getD_rm _ h1, rowB, Nat.zero_add, set_rm, bumpL n (-1) (.inr rfl)]
      · rw [hist_order_e3, if_pos (by simp only [List.length_map, List.length_cons, List.length_nil]; omega)]
        have ew : ((List.range n).map fun j => (if j = i then -1 else waitB n E out j) + if j ∈ (List.range n).filter (E i) then -1 else 0) = (List.range n).map (waitB n E (out ++ [i])) := by
          apply List.map_congr_left
          intro j hj
          have hjn := List.mem_range.1 hj
          have hjm : (j ∈ (List.range n).filter (E i)) ↔ E i j = true := by rw [List.mem_filter]; exact ⟨fun h => h.2, fun h => ⟨hj, h⟩⟩
          simp only [hjm]
          by_cases e : j = i
          · subst e
            rw [if_pos rfl, hE, if_neg Bool.false_ne_true, waitB, if_pos (by simp)]; rfl
          · rw [if_neg e]
            by_cases ho : j ∈ out
            · have : E i j = false := by
                cases hc : E i j with
                | false => rfl
                | true => exact absurd (hI.cl j ho i h1 hc) h3
              rw [this, if_neg Bool.false_ne_true, waitB, waitB, if_pos (by simpa using ho), if_pos (by simp [ho])]; rfl
            · have w1 : waitB n E out j = (cntB n E out j : Int) := if_neg (by simpa using ho)
              have w2 : waitB n E (out ++ [i]) j = (cntB n E (out ++ [i]) j : Int) := if_neg (by simp [ho, e])
              rw [w1, w2]
              have := cnt_step (E := E) h1 h3 j
              by_cases hc : E i j = true
              · rw [if_pos hc] at this ⊢; omega
              · rw [if_neg hc] at this ⊢; omega
        rw [ew]
        have := ih (out ++ [i]) g hI' (by simp; omega) (by omega)
        rw [List.map_append] at this
        exact this
      · intro a s k ha hs
        rw [hist_order_b3, show (List.map (rowB n E) (List.range n)).length = n by simp, if_pos (by omega), Int.toNat_natCast, Nat.zero_add, if_pos (by omega)]
        rfl
      · exact List.Nodup.sublist List.filter_sublist List.nodup_range
      · intro k hk; exact List.mem_range.1 (List.mem_filter.1 hk).1
      · intro k hk
        have hle : (cntB n E out k) ≤ n := by
          have := List.length_filter_le (fun j => !out.contains j && E j k) (List.range n)
          rw [List.length_range] at this; exact this
        simp only [waitB]
        split
        · omega
        · split <;> omega
theorem order_eq (n : Nat) (E : Nat → Nat → Bool) (hn : n ≤ 64) (hE : ∀ i, E i i = false) : hist_order (grB n E) = some ((kahn n E (n + 1) []).map fun (k : Nat) => (k : Int)) := by
  have hgl : (grB n E).length = n := by simp [grB]
  rw [hist_order, hgl, if_pos (by omega), hist_order_w0 _ _ (by omega), hgl]
  have start : ∀ (m q : Nat), q + m = n → walkN (hist_order_b0 (grB n E)) (hist_order_e0 (grB n E)) m q ((List.range n).map fun j => ((((List.range q).filter fun k => E k j).length : Nat) : Int)) = some ((kahn n E (n + 1) []).map fun (k : Nat) => (k : Int)) := by
    intro m
    induction m with
    | zero =>
      intro q hq
      rw [walkN, hist_order_e0]
      have : ((List.range n).map fun j => ((((List.range q).filter fun k => E k j).length : Nat) : Int)) = (List.range n).map (waitB n E []) := by
        apply List.map_congr_left
        intro j _
        rw [waitB, if_neg (by simp), cntB, show q = n by omega]
        simp
      rw [this]
      exact order_loop n E hn hE (n + 1) [] big (Inv.nil n E) (by simp) (Nat.le_of_lt (big_lt (by omega)))
    | succ m ih =>
      intro q hq
      rw [walkN, hist_order_b0, hist_order_w1 _ _ _ _ (by
        rw [Int.toNat_natCast, grB, getD_rm _ (by omega), rowB, List.length_map]
        have := List.length_filter_le (E q) (List.range n)
        rw [List.length_range] at this
        omega)]
      rw [Int.toNat_natCast, grB, getD_rm _ (by omega), rowB, bumpL n 1 (.inl rfl)]
      · rw [hist_order_e1, ← ih (q + 1) (by omega), grB]
        congr 1
        apply List.map_congr_left
        intro j hj
        have hjm : (j ∈ (List.range n).filter (E q)) ↔ E q j = true := by rw [List.mem_filter]; exact ⟨fun h => h.2, fun h => ⟨hj, h⟩⟩
        simp only [hjm]
        rw [range_filter_succ (fun k => E k j) q]
        by_cases hc : E q j = true
        · rw [if_pos hc, if_pos hc]; simp
        · rw [if_neg hc, if_neg hc]; simp
      · intro a s k ha hs
        rw [hist_order_b1, show (List.map (rowB n E) (List.range n)).length = n by simp, if_pos (by omega), Int.toNat_natCast, Nat.zero_add, if_pos (by omega)]
      · exact List.Nodup.sublist List.filter_sublist List.nodup_range
      · intro k hk; exact List.mem_range.1 (List.mem_filter.1 hk).1
      · intro k hk
        have := List.length_filter_le (fun j => E j k) (List.range q)
        rw [List.length_range] at this
        omega
  have e0 : (List.replicate ((((n : Nat) : Int)).toNat) 0 : List Int) = (List.range n).map fun j => ((((List.range 0).filter fun k => E k j).length : Nat) : Int) := by
    rw [Int.toNat_natCast]
    simp
    apply List.ext_getElem?
    intro j
    rw [List.getElem?_replicate, List.getElem?_map]
    by_cases hj : j < n
    · rw [if_pos hj, List.getElem?_range hj]; rfl
    · rw [if_neg hj, List.getElem?_eq_none (by simp; omega)]; rfl
  rw [e0]
  exact start n 0 (by omega)

def orderN (l : List RT) : List Nat := kahn l.length (Eg l) (l.length + 1) []
def orderB (l : List RT) : List Int × Int := if checkB l ≠ 0 then ([], checkB l) else if (orderN l).length < l.length then ([], 11) else ((orderN l).map fun (k : Nat) => (k : Int), 0)
theorem check_zero {l : List RT} (h : checkB l = 0) : mayB l = true := by
  unfold checkB at h
  cases hm : mayB l with
  | true => rfl
  | false => rw [hm] at h; simp at h
theorem check_nd {l : List RT} (h : checkB l = 0) : l.length ≤ 64 ∧ ∀ t ∈ l, ndT t := by
  obtain ⟨h1, h2⟩ := may_all (check_zero h)
  exact ⟨h1, fun t ht => ndT_of (h2 t ht)⟩
theorem histOrder_eq (l : List RT) (h : l.length < 9223372036854775807) : hist_Order (l.map tt) = some (orderB l) := by
  rw [hist_Order, histCheck_eq l h, Option.bind_some, orderB]
  by_cases hc : checkB l = 0
  · obtain ⟨h1, h2⟩ := check_nd hc
    rw [if_neg (by simp [hc]), if_neg (by simp [hc]), graph_eq l h2 h1, Option.bind_some, order_eq _ _ h1 (Eg_irr l), Option.bind_some, List.length_map, List.length_map]
    show (if decide (((orderN l).length : Int) < (l.length : Int)) = true then _ else _) = _
    by_cases hlt : (orderN l).length < l.length
    · rw [if_pos (by rw [decide_eq_true_eq]; omega), if_pos hlt]
    · rw [if_neg (by rw [decide_eq_true_eq]; omega), if_neg hlt]; rfl
  · rw [if_pos (by simpa using hc), if_pos hc]

/-! The document's -/
theorem has2_eq (l : List Int) (n : Int) (h : l.length < 9223372036854775807) : parrelref26_has_2 l n = some (l.contains n) := by
  rw [parrelref26_has_2, parrelref26_has_2_w0 _ _ h, walkL_any (fun a => a == n) (some true)]
  · rw [show parrelref26_has_2_e0 () = some false from rfl, bnil]
    congr 1
    rw [Bool.eq_iff_iff]
    simp only [List.any_eq_true, beq_iff_eq, List.contains_iff_mem]
    exact ⟨fun ⟨a, h, e⟩ => e ▸ h, fun h => ⟨n, h, rfl⟩⟩
  · intro a _ k
    rfl
theorem cont_cast (out : List Nat) (k : Nat) : (out.map fun (k : Nat) => (k : Int)).contains (k : Int) = out.contains k := by
  rw [Bool.eq_iff_iff, List.contains_iff_mem, List.contains_iff_mem, List.mem_map]
  constructor
  · rintro ⟨a, ha, e⟩
    have : a = k := by omega
    rw [← this]; exact ha
  · exact fun h => ⟨k, h, rfl⟩
theorem ref_free (l : List RT) (h : ∀ t ∈ l, ndT t) (hl : l.length ≤ 64) (out : List Nat) (ho : out.length ≤ 64) (i : Nat) (hi : i < l.length) (next : Int) (k1 : Int → Option (List Int × Int)) : ∀ (m q : Nat) (s : Bool), q + m = l.length →
    walkN (parrelref26_Order_b2 l (out.map fun (k : Nat) => (k : Int)) next (i : Int) k1) (parrelref26_Order_e2 next (i : Int) k1) m q s = if (s && (List.range' q m).all fun k => out.contains k || !Eg l k i) = true then k1 (i : Int) else k1 next := by
  intro m
  induction m with
  | zero => intro q s _; rw [walkN, parrelref26_Order_e2]; simp
  | succ m ih =>
    intro q s hq
    rw [walkN, parrelref26_Order_b2, List.range'_succ, List.all_cons]
    cases s with
    | false => rw [if_neg Bool.false_ne_true, if_neg Bool.false_ne_true, Bool.false_and, if_neg Bool.false_ne_true]
    | true =>
      rw [if_pos rfl]
      by_cases e : q = i
      · subst e
        rw [if_pos (by simp), ih _ _ (by omega), Eg_irr]
        rw [Bool.not_false, Bool.or_true]
        rfl
      · have eE : Eg l q i = aheadB (l.getD q default) (l.getD i default) := by simp [Eg, e]
        rw [if_neg (by simp; omega), has2_eq _ _ (by simp; omega), Option.bind_some, cont_cast, eE]
        cases hc : out.contains q with
        | true => rw [if_pos rfl, ih _ _ (by omega)]; rfl
        | false =>
          rw [if_neg Bool.false_ne_true, if_pos (by omega), Int.toNat_natCast, ahead_eq _ _ (h _ (getD_mem (by omega))) (h _ (getD_mem hi)), Option.bind_some, ih _ _ (by omega)]
          rfl
theorem ref_next (l : List RT) (h : ∀ t ∈ l, ndT t) (hl : l.length ≤ 64) (out : List Nat) (ho : out.length ≤ 64) (k0 : List Int → Option (List Int × Int)) : ∀ (m q : Nat), q + m = l.length →
    walkN (parrelref26_Order_b1 l (out.map fun (k : Nat) => (k : Int)) k0) (parrelref26_Order_e1 (out.map fun (k : Nat) => (k : Int)) k0) m q (-1) = match (List.range' q m).find? (freeB l.length (Eg l) out) with | some j => k0 ((out ++ [j]).map fun (k : Nat) => (k : Int)) | none => some ([], 11) := by
  intro m
  have found : ∀ (m' q' j : Nat), walkN (parrelref26_Order_b1 l (out.map fun (k : Nat) => (k : Int)) k0) (parrelref26_Order_e1 (out.map fun (k : Nat) => (k : Int)) k0) m' q' (j : Int) = k0 ((out ++ [j]).map fun (k : Nat) => (k : Int)) := by
    intro m' q' j
    cases m' with
    | zero => rw [walkN, parrelref26_Order_e1, if_neg (by rw [decide_eq_true_eq]; omega), if_pos (by simp only [List.length_map, List.length_cons, List.length_nil]; omega), List.map_append]; rfl
    | succ m' => rw [walkN, parrelref26_Order_b1, if_neg (by rw [decide_eq_true_eq]; omega), if_neg (by rw [decide_eq_true_eq]; omega), if_pos (by simp only [List.length_map, List.length_cons, List.length_nil]; omega), List.map_append]; rfl
  induction m with
  | zero => intro q _; rfl
  | succ m ih =>
    intro q hq
    rw [walkN, parrelref26_Order_b1, if_pos (by decide), has2_eq _ _ (by simp; omega), Option.bind_some, parrelref26_Order_w2 _ _ _ _ _ _ (by omega), cont_cast, ref_free l h hl out ho q (by omega) _ _ _ _ _ (by omega), List.range'_succ, List.find?_cons]
    have ef : (!out.contains q && (List.range' 0 l.length).all fun k => out.contains k || !Eg l k q) = freeB l.length (Eg l) out q := by rw [freeB, List.range_eq_range']
    rw [ef]
    cases freeB l.length (Eg l) out q with
    | true => rw [if_pos rfl]; exact found m (q + 1) q
    | false => rw [if_neg Bool.false_ne_true]; exact ih (q + 1) (by omega)
theorem refOrder_loop (l : List RT) (h : ∀ t ∈ l, ndT t) (hl : l.length ≤ 64) : ∀ (f : Nat) (out : List Nat) (fuel : Nat), Inv l.length (Eg l) out → l.length < f + out.length → f ≤ fuel →
    parrelref26_Order_l0 l fuel (out.map fun (k : Nat) => (k : Int)) = some (if (kahn l.length (Eg l) f out).length < l.length then ([], 11) else ((kahn l.length (Eg l) f out).map fun (k : Nat) => (k : Int), 0)) := by
  intro f
  induction f with
  | zero => intro out fuel hI hlt _; have := hI.len; omega
  | succ f ih =>
    intro out fuel hI hlt hfu
    obtain ⟨g, rfl⟩ : ∃ g, fuel = g + 1 := ⟨fuel - 1, by omega⟩
    have hlen := hI.len
    rw [parrelref26_Order_l0, List.length_map, kahn]
    by_cases hc : out.length < l.length
    · rw [if_pos (by rw [decide_eq_true_eq]; omega), parrelref26_Order_w1 _ _ _ _ (by omega), ref_next l h hl out (by omega) _ _ _ (by omega)]
      have : (List.range' 0 l.length).find? (freeB l.length (Eg l) out) = nextB l.length (Eg l) out := by rw [nextB, List.range_eq_range']
      rw [this]
      cases hx : nextB l.length (Eg l) out with
      | none => show some (([] : List Int), (11 : Int)) = some (if out.length < l.length then _ else _); rw [if_pos hc]
      | some i => exact ih (out ++ [i]) g (hI.step hx) (by simp; omega) (by omega)
    · rw [if_neg (by rw [decide_eq_true_eq]; omega)]
      cases hx : nextB l.length (Eg l) out with
      | none => show some _ = some (if out.length < l.length then _ else _); rw [if_neg hc]
      | some i =>
        have := (hI.step hx).len
        rw [List.length_append, List.length_singleton] at this
        omega
theorem refOrder_eq (l : List RT) (h : l.length < 9223372036854775807) (hw : ∀ a ∈ l, a.f_Writes.length < 9223372036854775807) : parrelref26_Order l = some (orderB l) := by
  rw [parrelref26_Order, refCheck_eq l h hw, Option.bind_some, orderB]
  by_cases hc : checkB l = 0
  · obtain ⟨h1, h2⟩ := check_nd hc
    rw [if_neg (by simp [hc]), if_neg (by simp [hc])]
    exact refOrder_loop l h2 h1 (l.length + 1) [] big (Inv.nil _ _) (by simp) (Nat.le_of_lt (big_lt (by omega)))
  · rw [if_pos (by simpa using hc), if_pos hc]
end Go.Proofs.Ytofkaccoofafmaa.Wk
