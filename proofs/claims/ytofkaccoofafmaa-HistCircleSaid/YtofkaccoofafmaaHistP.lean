/- Plain facts on histories: what both texts compute, as one. -/
import Derived.Test.YtofkaccoofafmaaHistWF
set_option linter.unusedVariables false
set_option linter.unusedSimpArgs false
set_option linter.unusedSectionVars false
namespace Go.Proofs.Ytofkaccoofafmaa.Wk
open Go Go.Cn

abbrev Ky := A8 Int
abbrev RI := T_parrelref26_Item
abbrev RT := T_parrelref26_Tx
/-- The same item, the same transaction. -/
def ti (i : RI) : T_hist_Item := ⟨i.f_Key, i.f_Version, i.f_Value⟩
def tt (t : RT) : T_hist_Tx := ⟨t.f_Reads.map ti, t.f_Writes.map ti, t.f_Begin, t.f_End⟩
/-- Sizes. -/
def Sz (l : List RT) : Prop := (∀ a ∈ l, a.f_Reads.length * 32 ≤ 140737488351232 ∧ a.f_Writes.length * 32 ≤ 140737488351232) ∧ l.length * 64 ≤ 140737488351232
theorem Sz.cons {a : RT} {l : List RT} (h : Sz (a :: l)) : Sz l := ⟨fun b hb => h.1 b (List.mem_cons_of_mem _ hb), by have := h.2; simp only [List.length_cons] at this; omega⟩

theorem items_eq (l : List RI) (h : l.length * 32 ≤ 140737488351232) : parrellaw26_items l = some (l.map ti) := by
  have key : ∀ (r : List RI) (s : List T_hist_Item), (s.length + r.length) * 32 ≤ 140737488351232 → walkL parrellaw26_items_b0 parrellaw26_items_e0 r s = some (s ++ r.map ti) := by
    intro r
    induction r with
    | nil => intro s _; simp [walkL, parrellaw26_items_e0]
    | cons a r ih =>
      intro s hs
      simp only [List.length_cons] at hs
      rw [walkL, parrellaw26_items_b0, if_pos (by simp only [List.length_cons, List.length_nil]; omega), ih _ (by simp; omega)]
      simp [ti]
  rw [parrellaw26_items, parrellaw26_items_w0 _ _ (by omega), key l [] (by simpa using h)]
  rfl
theorem theirs_eq (l : List RT) (h : Sz l) : parrellaw26_theirs l = some (l.map tt) := by
  have key : ∀ (r : List RT) (s : List T_hist_Tx), (∀ a ∈ r, a.f_Reads.length * 32 ≤ 140737488351232 ∧ a.f_Writes.length * 32 ≤ 140737488351232) → (s.length + r.length) * 64 ≤ 140737488351232 → walkL parrellaw26_theirs_b0 parrellaw26_theirs_e0 r s = some (s ++ r.map tt) := by
    intro r
    induction r with
    | nil => intro s _ _; simp [walkL, parrellaw26_theirs_e0]
    | cons a r ih =>
      intro s h1 hs
      simp only [List.length_cons] at hs
      have ha := h1 a List.mem_cons_self
      rw [walkL, parrellaw26_theirs_b0, items_eq _ ha.1, items_eq _ ha.2]
      simp only [Option.bind_some]
      rw [if_pos (by simp only [List.length_cons, List.length_nil]; omega), ih _ (fun b hb => h1 b (List.mem_cons_of_mem _ hb)) (by simp; omega)]
      simp [tt]
  have hl := h.2
  rw [parrellaw26_theirs, parrellaw26_theirs_w0 _ _ (by omega), key l [] h.1 (by simpa using hl)]
  rfl

/-! What may be -/
def dupB (l : List Ky) : Bool := decide (¬ l.Nodup)
theorem isTwice_eq (l : List RI) (h : l.length < 9223372036854775807) : hist_isTwice (l.map ti) = some (dupB (l.map (·.f_Key))) := by
  have key : ∀ (r : List RI) (m : List (Ky × Bool)) (seen : List Ky), (∀ k, (mget m k).getD default = true ↔ k ∈ seen) →
      walkL hist_isTwice_b0 hist_isTwice_e0 (r.map ti) m = some (decide (¬ ((r.map (·.f_Key)).Nodup ∧ ∀ k ∈ r.map (·.f_Key), k ∉ seen))) := by
    intro r
    induction r with
    | nil => intro m seen _; simp [walkL, hist_isTwice_e0]
    | cons a r ih =>
      intro m seen hm
      rw [List.map_cons, walkL, hist_isTwice_b0]
      by_cases hs : a.f_Key ∈ seen
      · rw [if_pos (show ((mget m (ti a).f_Key).getD default) = true from (hm _).2 hs)]
        simp [hs]
      · rw [if_neg (show ¬ ((mget m (ti a).f_Key).getD default) = true from fun e => hs ((hm _).1 e)), ih _ (a.f_Key :: seen) (fun k => by
          rw [mget_mset]
          show ((if k = a.f_Key then some true else mget m k).getD default) = true ↔ _
          by_cases e : k = a.f_Key
          · simp [e]
          · rw [if_neg e, hm k]; simp [e])]
        congr 1
        rw [decide_eq_decide]
        simp only [List.map_cons, List.nodup_cons, List.mem_cons, not_or, forall_eq_or_imp]
        constructor
        · rintro h ⟨⟨h1, h2⟩, h3, h4⟩
          exact h ⟨h2, fun k hk => ⟨fun e => h1 (e ▸ hk), h4 k hk⟩⟩
        · rintro h ⟨h1, h2⟩
          exact h ⟨⟨fun hk => (h2 _ hk).1 rfl, h1⟩, hs, fun k hk => (h2 k hk).2⟩
  rw [hist_isTwice, hist_isTwice_w0 _ _ (by simpa using h), key l [] [] (by simp [mget])]
  simp [dupB]
theorem twice_eq (l : List RI) (h : l.length < 9223372036854775807) : parrelref26_twice l = some (dupB (l.map (·.f_Key))) := by
  rw [parrelref26_twice, parrelref26_twice_w0 _ h]
  have one : ∀ (i : Nat), i < l.length → ∀ (k : Unit → Option Bool), parrelref26_twice_b0 l i () k = if (List.range' 0 i).any (fun j => decide ((l.getD j default).f_Key = (l.getD i default).f_Key)) = true then some true else k () := by
    intro i hi k
    rw [parrelref26_twice_b0, parrelref26_twice_w1 _ _ _ (by omega)]
    rw [show (((i : Nat) : Int)).toNat = i by omega]
    rw [walkN_any (fun j => decide ((l.getD j default).f_Key = (l.getD i default).f_Key)) (some true)]
    · rfl
    · intro j _ hj k'
      rw [parrelref26_twice_b1, if_pos (by omega), if_pos (by omega)]
      rfl
  rw [walkN_any (fun i => (List.range' 0 i).any (fun j => decide ((l.getD j default).f_Key = (l.getD i default).f_Key))) (some true) _ _ l.length 0 (fun j _ hj k => one j (by omega) k)]
  rw [parrelref26_twice_e0, bnil]
  congr 1
  rw [Bool.eq_iff_iff, dupB, decide_eq_true_eq, List.any_eq_true]
  simp only [List.any_eq_true, List.mem_range'_1, decide_eq_true_eq]
  rw [List.Nodup, List.pairwise_iff_getElem]
  constructor
  · rintro ⟨i, hi, j, hj, e⟩ hp
    refine hp j i (by simp; omega) (by simp; omega) (by omega) ?_
    simp only [List.getElem_map]
    rw [List.getD_eq_getElem?_getD, List.getD_eq_getElem?_getD, List.getElem?_eq_getElem (by omega), List.getElem?_eq_getElem (by omega)] at e
    exact e
  · intro hp
    apply Classical.byContradiction
    intro hn
    apply hp
    intro i j hi hj hij e
    apply hn
    simp only [List.length_map] at hi hj
    refine ⟨j, by omega, i, by omega, ?_⟩
    rw [List.getD_eq_getElem?_getD, List.getD_eq_getElem?_getD, List.getElem?_eq_getElem hi, List.getElem?_eq_getElem hj]
    simpa using e

def wrongB (t : RT) : Bool := decide (64 < t.f_Reads.length) || decide (64 < t.f_Writes.length) || dupB (t.f_Reads.map (·.f_Key)) || dupB (t.f_Writes.map (·.f_Key)) || t.f_Writes.any (fun i => i.f_Version == 0)
theorem isWrong_eq (t : RT) : hist_isWrong (tt t) = some (wrongB t) := by
  have e1 : (tt t).f_Reads = t.f_Reads.map ti := rfl
  have e2 : (tt t).f_Writes = t.f_Writes.map ti := rfl
  rw [hist_isWrong, e1, e2, wrongB]
  by_cases h1 : 64 < t.f_Reads.length
  · rw [if_pos (by simp only [List.length_map, decide_eq_true_eq]; omega)]; simp [h1]
  rw [if_neg (by simp only [List.length_map, decide_eq_true_eq]; omega)]
  by_cases h2 : 64 < t.f_Writes.length
  · rw [if_pos (by simp only [List.length_map, decide_eq_true_eq]; omega)]; simp [h2]
  rw [if_neg (by simp only [List.length_map, decide_eq_true_eq]; omega), isTwice_eq _ (by omega), isTwice_eq _ (by omega)]
  simp only [Option.bind_some, h1, h2, decide_false, Bool.false_or]
  cases h3 : dupB (t.f_Reads.map (·.f_Key)) with
  | true => rfl
  | false =>
    rw [if_neg Bool.false_ne_true]
    cases h4 : dupB (t.f_Writes.map (·.f_Key)) with
    | true => rfl
    | false =>
      rw [if_neg Bool.false_ne_true]
      have e : slices_ContainsFunc_hist_Item_hist_Item (t.f_Writes.map ti) = some (t.f_Writes.any fun i => i.f_Version == 0) := by
        rw [slices_ContainsFunc_hist_Item_hist_Item, slices_IndexFunc_hist_Item_hist_Item, slices_IndexFunc_hist_Item_hist_Item_w0 _ (by simp; omega)]
        have := walk_find (fun i : T_hist_Item => i.f_Version == 0) hist_isWrong_L1 (t.f_Writes.map ti) (fun a _ => rfl)
        rw [show walkN (slices_IndexFunc_hist_Item_hist_Item_b0 (t.f_Writes.map ti)) slices_IndexFunc_hist_Item_hist_Item_e0 (t.f_Writes.map ti).length 0 () = _ from this, Option.bind_some, find_any, List.any_map]
        rfl
      rw [e]; rfl
theorem wrong_any (l : List RT) (h : l.length < 9223372036854775807) : slices_ContainsFunc_hist_Tx_hist_Tx (l.map tt) = some (l.any wrongB) := by
  rw [slices_ContainsFunc_hist_Tx_hist_Tx, slices_IndexFunc_hist_Tx_hist_Tx, slices_IndexFunc_hist_Tx_hist_Tx_w0 _ (by simpa using h)]
  let w : T_hist_Tx → Bool := fun t => (hist_isWrong t).getD false
  have hw : ∀ t : RT, w (tt t) = wrongB t := fun t => by show (hist_isWrong (tt t)).getD false = _; rw [isWrong_eq]; rfl
  have := walk_find w hist_isWrong (l.map tt) (fun a ha => by
    obtain ⟨t, _, rfl⟩ := List.mem_map.1 ha
    rw [isWrong_eq, hw])
  rw [show walkN (slices_IndexFunc_hist_Tx_hist_Tx_b0 (l.map tt)) slices_IndexFunc_hist_Tx_hist_Tx_e0 (l.map tt).length 0 () = _ from this, Option.bind_some, find_any, List.any_map]
  congr 1
  congr 1
  funext t
  exact hw t
def mayB (l : List RT) : Bool := !l.any wrongB && decide (l.length ≤ 64)
theorem may_eq (l : List RT) (h : l.length < 9223372036854775807) (hs : ∀ a ∈ l, a.f_Writes.length < 9223372036854775807) : parrelref26_may l = some (mayB l) := by
  rw [parrelref26_may, parrelref26_may_w0 _ h]
  have one : ∀ (i : Nat), i < l.length → ∀ (k : Unit → Option Bool), parrelref26_may_b0 l i () k = if wrongB (l.getD i default) = true then some false else k () := by
    intro i hi k
    have hm := getD_mem hi
    generalize hgt : l.getD i default = t at hm
    rw [parrelref26_may_b0, hgt, wrongB]
    by_cases h1 : 64 < t.f_Reads.length
    · rw [if_pos (by rw [decide_eq_true_eq]; omega)]; simp [h1]
    rw [if_neg (by rw [decide_eq_true_eq]; omega)]
    by_cases h2 : 64 < t.f_Writes.length
    · rw [if_pos (by rw [decide_eq_true_eq]; omega)]; simp [h2]
    rw [if_neg (by rw [decide_eq_true_eq]; omega), twice_eq _ (by omega), twice_eq _ (by omega)]
    simp only [Option.bind_some, h1, h2, decide_false, Bool.false_or]
    cases h3 : dupB (t.f_Reads.map (·.f_Key)) with
    | true => rfl
    | false =>
      rw [if_neg Bool.false_ne_true]
      cases h4 : dupB (t.f_Writes.map (·.f_Key)) with
      | true => rfl
      | false =>
        rw [if_neg Bool.false_ne_true, parrelref26_may_w1 _ _ _ (by rw [show (((i : Nat) : Int)).toNat = i by omega, hgt]; omega) (by omega), show (((i : Nat) : Int)).toNat = i by omega, hgt]
        exact walkL_any (fun i : RI => i.f_Version == 0) (some false) _ _ _ (fun a _ k => rfl)
  rw [walkN_any (fun i => wrongB (l.getD i default)) (some false) _ _ l.length 0 (fun j _ hj k => one j (by omega) k)]
  have e : (List.range' 0 l.length).any (fun i => wrongB (l.getD i default)) = l.any wrongB := by
    rw [Bool.eq_iff_iff, List.any_eq_true, List.any_eq_true]
    constructor
    · rintro ⟨i, hi, h⟩
      exact ⟨_, getD_mem (by have := (List.mem_range'_1.1 hi).2; omega), h⟩
    · rintro ⟨a, ha, h⟩
      obtain ⟨i, hi, rfl⟩ := List.getElem_of_mem ha
      exact ⟨i, List.mem_range'_1.2 ⟨Nat.zero_le _, by omega⟩, by rw [List.getD_eq_getElem?_getD, List.getElem?_eq_getElem hi]; exact h⟩
  rw [e, mayB, parrelref26_may_e0]
  cases l.any wrongB with
  | true => rfl
  | false => rw [if_neg Bool.false_ne_true]; congr 1; simp; omega

/-! Playing -/
def ownB (t : RT) (r : RI) : Bool := t.f_Writes.any fun w => decide (w.f_Key = r.f_Key) && (w.f_Version == r.f_Version)
/-- The last one's value. -/
def valB (l : List RI) (k : Ky) (s : List UInt8) : List UInt8 := l.foldl (fun s i => if i.f_Key = k then i.f_Value else s) s
theorem value_eq (l : List RI) (k : Ky) (h : l.length < 9223372036854775807) : parrelref26_value l k = some (valB l k []) := by
  rw [parrelref26_value, parrelref26_value_w0 _ _ _ h]
  have : ∀ (r : List RI) (s : List UInt8), walkL (parrelref26_value_b0 k) parrelref26_value_e0 r s = some (valB r k s) := by
    intro r
    induction r with
    | nil => intro s; rfl
    | cons a r ih =>
      intro s
      rw [walkL, parrelref26_value_b0, valB, List.foldl_cons]
      by_cases e : a.f_Key = k
      · rw [if_pos (by simpa using e), if_pos e, ih]; rfl
      · rw [if_neg (by simpa using e), if_neg e, ih]; rfl
  exact this l []
theorem own_eq (t : RT) (r : RI) (h : t.f_Writes.length < 9223372036854775807) : parrelref26_own t r = some (ownB t r) := by
  rw [parrelref26_own, parrelref26_own_w0 _ _ h, walkL_any (fun w : RI => decide (w.f_Key = r.f_Key) && (w.f_Version == r.f_Version)) (some true)]
  · exact bnil _
  · intro a _ k
    rw [parrelref26_own_b0]
    cases decide (a.f_Key = r.f_Key) <;> rfl
theorem has_eq (l : List Int) (n : Int) (h : l.length < 9223372036854775807) : parrelref26_has l n = some (l.contains n) := by
  rw [parrelref26_has, parrelref26_has_w0 _ _ h, walkL_any (fun a => a == n) (some true)]
  · rw [show parrelref26_has_e0 () = some false from rfl, bnil]
    congr 1
    rw [Bool.eq_iff_iff]
    simp only [List.any_eq_true, beq_iff_eq, List.contains_iff_mem]
    exact ⟨fun ⟨a, h, e⟩ => e ▸ h, fun h => ⟨n, h, rfl⟩⟩
  · intro a _ k
    rfl

/-- One transaction's reads hold. -/
def okB (t : RT) (st : Ky → List UInt8) : Bool := t.f_Reads.all fun r => r.f_Value == (if ownB t r then valB t.f_Writes r.f_Key [] else st r.f_Key)
def upd (t : RT) (st : Ky → List UInt8) : Ky → List UInt8 := fun k => valB t.f_Writes k (st k)
def playG (l : List RT) : List Int → List Int → (Ky → List UInt8) → Bool
  | [], _, _ => true
  | n :: r, seen, st => decide (0 ≤ n ∧ n < l.length) && !seen.contains n && okB (l.getD n.toNat default) st && playG l r (seen ++ [n]) (upd (l.getD n.toNat default) st)

theorem walkL_all {α : Type} {R : Type} (p : α → Bool) (r : Option R) (e : Unit → Option R) (f : α → Unit → (Unit → Option R) → Option R) : ∀ (l : List α), (∀ a ∈ l, ∀ k, f a () k = if p a = true then k () else r) → walkL f e l () = if l.all p = true then e () else r
  | [], _ => rfl
  | a :: l, h => by
    show f a () (walkL f e l) = _
    rw [h a List.mem_cons_self, List.all_cons]
    cases hp : p a with
    | true => rw [if_pos rfl, walkL_all p r e f l (fun b hb => h b (List.mem_cons_of_mem _ hb)), Bool.true_and]
    | false => rfl

/-- The document's. -/
theorem refPlay_loop (l : List RT) (order : List Int) (hl : l.length ≤ 64) (hw : ∀ a ∈ l, a.f_Reads.length ≤ 64 ∧ a.f_Writes.length ≤ 64) (ho : order.length ≤ 100) : ∀ (rest : List Int) (i : Nat) (state : List RI), order.drop i = rest → state.length ≤ 64 * i →
    walkN (parrelref26_Play_b0 l order) parrelref26_Play_e0 rest.length i state = some (playG l rest (order.take i) (fun k => valB state k [])) := by
  intro rest
  induction rest with
  | nil => intro i state _ _; rfl
  | cons n rest ih =>
    intro i state hd hs
    obtain ⟨h1, h2, h3, h4, _⟩ := drop_cons hd
    show parrelref26_Play_b0 l order i state (walkN _ _ rest.length (i + 1)) = _
    rw [parrelref26_Play_b0, h2, playG]
    by_cases c1 : n < 0
    · rw [if_pos (by simpa using c1)]; simp; omega
    rw [if_neg (by simpa using c1)]
    by_cases c2 : (l.length : Int) ≤ n
    · rw [if_pos (by simpa using c2)]; simp; omega
    rw [if_neg (by simpa using c2), if_pos (by omega), has_eq _ _ (by simp; omega), Option.bind_some, decide_eq_true (by omega), Bool.true_and]
    cases c3 : (order.take i).contains n with
    | true => rfl
    | false =>
      rw [if_neg Bool.false_ne_true, if_pos (by omega)]
      have hm : l.getD n.toNat default ∈ l := getD_mem (by omega)
      have hwn := hw _ hm
      have en : ((i : Nat) : Int).toNat = i := Int.toNat_natCast i
      have hx : order.getD ((i : Nat) : Int).toNat default = n := by rw [en, h2]
      rw [parrelref26_Play_w1 _ _ _ _ _ (by rw [hx]; omega) , hx]
      rw [walkL_all (fun r : RI => r.f_Value == (if ownB (l.getD n.toNat default) r then valB (l.getD n.toNat default).f_Writes r.f_Key [] else valB state r.f_Key [])) (some false)]
      · show (if okB (l.getD n.toNat default) (fun k => valB state k []) = true then _ else _) = _
        cases okB (l.getD n.toNat default) (fun k => valB state k []) with
        | false => rfl
        | true =>
          rw [if_pos rfl, parrelref26_Play_e1, hx, if_pos (by omega), if_pos (by omega), ih (i + 1) _ h3 (by rw [List.length_append]; omega), h4]
          simp only [Bool.not_false, Bool.true_and]
          congr 2
          funext k
          simp only [upd, valB, List.foldl_append]
      · intro a _ k
        rw [parrelref26_Play_b1, hx, value_eq _ _ (by omega), own_eq _ _ (by omega), Option.bind_some, Option.bind_some, value_eq _ _ (by omega), Option.bind_some]
        cases ownB (l.getD n.toNat default) a with
        | true => simp only [if_true]; cases (a.f_Value == valB (l.getD n.toNat default).f_Writes a.f_Key []) <;> rfl
        | false => simp only [Bool.false_eq_true, if_false]; cases (a.f_Value == valB state a.f_Key []) <;> rfl

/-- What one writes, by versions. -/
def ownM (l : List RI) (m : List (T_hist_version × List UInt8)) : List (T_hist_version × List UInt8) := l.foldl (fun m i => mset m ⟨i.f_Key, i.f_Version⟩ i.f_Value) m
def stM (l : List RI) (m : List (Ky × List UInt8)) : List (Ky × List UInt8) := l.foldl (fun m i => mset m i.f_Key i.f_Value) m
theorem stM_get (l : List RI) : ∀ (m : List (Ky × List UInt8)) (k : Ky), (mget (stM l m) k).getD default = valB l k ((mget m k).getD default) := by
  induction l with
  | nil => intro m k; rfl
  | cons a l ih =>
    intro m k
    show (mget (stM l (mset m a.f_Key a.f_Value)) k).getD default = valB l k (if a.f_Key = k then a.f_Value else (mget m k).getD default)
    rw [ih, mget_mset]
    by_cases e : a.f_Key = k
    · rw [if_pos e, if_pos e.symm]; rfl
    · rw [if_neg e, if_neg (fun h => e h.symm)]
theorem valB_none : ∀ (l : List RI) (k : Ky) (s : List UInt8), (∀ w ∈ l, w.f_Key ≠ k) → valB l k s = s
  | [], _, _, _ => rfl
  | a :: l, k, s, h => by
    show valB l k (if a.f_Key = k then a.f_Value else s) = s
    rw [if_neg (h a List.mem_cons_self)]
    exact valB_none l k s (fun w hw => h w (List.mem_cons_of_mem _ hw))
theorem ownM_get : ∀ (l : List RI) (m : List (T_hist_version × List UInt8)) (k : Ky) (v : Int) (s : List UInt8), (l.map (·.f_Key)).Nodup →
    mget (ownM l m) ⟨k, v⟩ = if (l.any fun w => decide (w.f_Key = k) && (w.f_Version == v)) = true then some (valB l k s) else mget m ⟨k, v⟩
  | [], _, _, _, _, _ => rfl
  | a :: l, m, k, v, s, h => by
    rw [List.map_cons, List.nodup_cons] at h
    show mget (ownM l (mset m ⟨a.f_Key, a.f_Version⟩ a.f_Value)) ⟨k, v⟩ = _
    have ev : valB (a :: l) k s = valB l k (if a.f_Key = k then a.f_Value else s) := rfl
    rw [ownM_get l _ k v (if a.f_Key = k then a.f_Value else s) h.2, List.any_cons, ev]
    cases ha : (l.any fun w => decide (w.f_Key = k) && (w.f_Version == v)) with
    | true => simp
    | false =>
      rw [if_neg Bool.false_ne_true, Bool.or_false, mget_mset]
      simp only [T_hist_version.mk.injEq]
      by_cases e : a.f_Key = k
      · rw [if_pos e, valB_none l k _ (fun w hw he => h.1 (List.mem_map.2 ⟨w, hw, he.trans e.symm⟩))]
        by_cases e2 : a.f_Version = v
        · rw [if_pos ⟨e.symm, e2.symm⟩, if_pos (by simp [e, e2])]
        · rw [if_neg (fun h => e2 h.2.symm), if_neg (by simp [e2])]
      · rw [if_neg (fun h => e h.1.symm), if_neg (by simp [e])]

theorem histPlay_loop (l : List RT) (order : List Int) (hl : l.length ≤ 64) (hw : ∀ a ∈ l, wrongB a = false) (ho : order.length ≤ 100) : ∀ (rest : List Int) (i : Nat) (m : List (Int × Bool)) (m2 : List (Ky × List UInt8)),
    order.drop i = rest → i + rest.length = order.length → (∀ n, (mget m n).getD default = (order.take i).contains n) → (∀ n, (mget m n).isSome = (order.take i).contains n) → m.length = i →
    walkN (hist_Play_b0 (l.map tt) order) (hist_Play_e0 (l.map tt)) rest.length i (m, m2) = some (playG l rest (order.take i) (fun k => (mget m2 k).getD default) && decide (order.length = l.length)) := by
  intro rest
  induction rest with
  | nil =>
    intro i m m2 _ hi _ _ hml
    show hist_Play_e0 (l.map tt) (m, m2) = _
    rw [hist_Play_e0, playG, Bool.true_and]
    congr 1
    rw [Bool.eq_iff_iff, beq_iff_eq, decide_eq_true_eq, List.length_map]
    simp only [List.length_nil] at hi
    show ((m.length : Nat) : Int) = _ ↔ _
    omega
  | cons n rest ih =>
    intro i m m2 hd hi hm hm' hml
    obtain ⟨h1, h2, h3, h4, _⟩ := drop_cons hd
    simp only [List.length_cons] at hi
    show hist_Play_b0 (l.map tt) order i (m, m2) (walkN _ _ rest.length (i + 1)) = _
    rw [hist_Play_b0, h2, playG, List.length_map]
    by_cases c1 : n < 0
    · rw [if_pos (by simpa using c1), decide_eq_false (by omega)]; rfl
    rw [if_neg (by simpa using c1)]
    by_cases c2 : (l.length : Int) ≤ n
    · rw [if_pos (by simpa using c2), decide_eq_false (by omega)]; rfl
    rw [if_neg (by simpa using c2), hm n, decide_eq_true (by omega), Bool.true_and]
    cases c3 : (order.take i).contains n with
    | true => rfl
    | false =>
      rw [if_neg Bool.false_ne_true, if_pos (by omega)]
      have hlt : n.toNat < l.length := by omega
      have hmem : l.getD n.toNat default ∈ l := getD_mem hlt
      have hwn := hw _ hmem
      have eg : (l.map tt).getD n.toNat default = tt (l.getD n.toNat default) := getD_map tt hlt
      generalize l.getD n.toNat default = t at eg hwn hmem
      simp only [wrongB, Bool.or_eq_false_iff, decide_eq_false_iff_not, dupB, Classical.not_not] at hwn
      obtain ⟨⟨⟨⟨w1, w2⟩, w3⟩, w4⟩, w5⟩ := hwn
      have en : ((i : Nat) : Int).toNat = i := Int.toNat_natCast i
      have hx : order.getD ((i : Nat) : Int).toNat default = n := by rw [en, h2]
      have e1 : (tt t).f_Writes = t.f_Writes.map ti := rfl
      have e2 : (tt t).f_Reads = t.f_Reads.map ti := rfl
      rw [hist_Play_w1 _ _ _ _ _ _ _ (by rw [hx, eg, e1, List.length_map]; omega), hx, eg, e1]
      have f1 : ∀ (k : List (Int × Bool) × List (Ky × List UInt8) → Option Bool) (r : List RI) (mm : List (T_hist_version × List UInt8)), walkL (hist_Play_b1 k) (hist_Play_e1 (l.map tt) order i m m2 k) (r.map ti) mm = hist_Play_e1 (l.map tt) order i m m2 k (ownM r mm) := by
        intro k r
        induction r with
        | nil => intro mm; rfl
        | cons a r ihr => intro mm; exact ihr _
      rw [f1, hist_Play_e1, hx, if_pos (by rw [List.length_map]; omega), hist_Play_w2 _ _ _ _ _ _ _ (by rw [hx, eg, e2, List.length_map]; omega), hx, eg, e2]
      rw [walkL_all (fun r : T_hist_Item => r.f_Value == (if (mget (ownM t.f_Writes []) ⟨r.f_Key, r.f_Version⟩).isSome then (mget (ownM t.f_Writes []) ⟨r.f_Key, r.f_Version⟩).getD default else (mget m2 r.f_Key).getD default)) (some false)]
      · have eok : ((t.f_Reads.map ti).all fun r : T_hist_Item => r.f_Value == (if (mget (ownM t.f_Writes []) ⟨r.f_Key, r.f_Version⟩).isSome then (mget (ownM t.f_Writes []) ⟨r.f_Key, r.f_Version⟩).getD default else (mget m2 r.f_Key).getD default)) = okB t (fun k => (mget m2 k).getD default) := by
          rw [List.all_map, okB]
          congr 1
          funext r
          show (r.f_Value == (if (mget (ownM t.f_Writes []) ⟨r.f_Key, r.f_Version⟩).isSome = true then (mget (ownM t.f_Writes []) ⟨r.f_Key, r.f_Version⟩).getD default else (mget m2 r.f_Key).getD default)) = (r.f_Value == if ownB t r = true then valB t.f_Writes r.f_Key [] else (mget m2 r.f_Key).getD default)
          rw [ownM_get t.f_Writes [] _ _ [] w4]
          show _ = (r.f_Value == if (t.f_Writes.any fun w => decide (w.f_Key = r.f_Key) && (w.f_Version == r.f_Version)) = true then _ else _)
          by_cases c : (t.f_Writes.any fun w => decide (w.f_Key = r.f_Key) && (w.f_Version == r.f_Version)) = true
          · rw [if_pos c, if_pos c]; rfl
          · rw [if_neg c, if_neg c]; rfl
        rw [eok]
        cases okB t (fun k => (mget m2 k).getD default) with
        | false => rfl
        | true =>
          rw [if_pos rfl, hist_Play_e2, hx, if_pos (by rw [List.length_map]; omega), hist_Play_w3 _ _ _ _ _ _ (by rw [hx, eg, e1, List.length_map]; omega), hx, eg, e1]
          have f3 : ∀ (k : List (Int × Bool) × List (Ky × List UInt8) → Option Bool) (r : List RI) (mm : List (Ky × List UInt8)), walkL (hist_Play_b3 k) (hist_Play_e3 order i m k) (r.map ti) mm = k (mset m (order.getD ((i : Nat) : Int).toNat default) true, stM r mm) := by
            intro k r
            induction r with
            | nil => intro mm; rfl
            | cons a r ihr => intro mm; exact ihr _
          rw [f3, hx]
          simp only
          have c4 : (mget m n).isSome = false := by rw [hm' n]; exact c3
          rw [ih (i + 1) _ _ h3 (by omega) ?_ ?_ ?_, h4]
          · simp only [Bool.not_false, Bool.true_and]
            congr 3
            funext k
            rw [stM_get]; rfl
          · intro j
            rw [mget_mset, h4]
            by_cases ej : j = n
            · subst ej; simp
            · rw [if_neg ej, hm j]; simp [ej]
          · intro j
            rw [mget_mset, h4]
            by_cases ej : j = n
            · subst ej; simp
            · rw [if_neg ej, hm' j]; simp [ej]
          · rw [mset_len, c4]; simp [hml]
      · intro a _ k
        rw [hist_Play_b2]
        show (if (!((mget (ownM t.f_Writes []) ⟨a.f_Key, a.f_Version⟩).isSome)) = true then _ else _) = _
        cases (mget (ownM t.f_Writes []) ⟨a.f_Key, a.f_Version⟩) with
        | none =>
          simp only [Option.isSome_none, Bool.not_false, if_true, Bool.false_eq_true, if_false]
          cases (a.f_Value == (mget m2 a.f_Key).getD default) <;> rfl
        | some x =>
          simp only [Option.isSome_some, Bool.not_true, if_true, Bool.false_eq_true, if_false]
          show (if (!(a.f_Value == x)) = true then _ else _) = if (a.f_Value == x) = true then _ else _
          cases (a.f_Value == x) <;> rfl

def playB (l : List RT) (o : List Int) : Bool := mayB l && decide (o.length = l.length) && playG l o [] (fun _ => [])
theorem wrong_lens {a : RT} (h : wrongB a = false) : a.f_Reads.length ≤ 64 ∧ a.f_Writes.length ≤ 64 := by
  simp only [wrongB, Bool.or_eq_false_iff, decide_eq_false_iff_not] at h
  omega
theorem may_all {l : List RT} (h : mayB l = true) : l.length ≤ 64 ∧ ∀ a ∈ l, wrongB a = false := by
  rw [mayB, Bool.and_eq_true, decide_eq_true_eq, Bool.not_eq_true', List.any_eq_false] at h
  exact ⟨h.2, fun a ha => by simpa using h.1 a ha⟩
theorem refPlay_eq (l : List RT) (o : List Int) (hl : l.length < 9223372036854775807) (hs : ∀ a ∈ l, a.f_Writes.length < 9223372036854775807) (ho : o.length ≤ 100) : parrelref26_Play l o = some (playB l o) := by
  rw [parrelref26_Play, playB, may_eq l hl hs]
  by_cases e : o.length = l.length
  · rw [if_neg (by simp [e]), Option.bind_some]
    cases hm : mayB l with
    | false => rfl
    | true =>
      obtain ⟨h1, h2⟩ := may_all hm
      simp only [Bool.not_true, Bool.false_eq_true, if_false]
      rw [parrelref26_Play_w0 _ _ _ (by omega), refPlay_loop l o h1 (fun a ha => wrong_lens (h2 a ha)) ho o 0 [] rfl (by simp)]
      simp [e, valB]
  · rw [if_pos (by simp; omega)]; simp [e]
theorem histPlay_eq (l : List RT) (o : List Int) (hl : l.length < 9223372036854775807) (ho : o.length ≤ 100) : hist_Play (l.map tt) o = some (playB l o) := by
  rw [hist_Play, playB, wrong_any l hl, List.length_map]
  by_cases e : 64 < l.length
  · rw [if_pos (by rw [decide_eq_true_eq]; omega), mayB, decide_eq_false (by omega)]; simp
  · rw [if_neg (by rw [decide_eq_true_eq]; omega), Option.bind_some]
    cases hm : l.any wrongB with
    | true => simp [mayB, hm]
    | false =>
      have hm2 : mayB l = true := by simp [mayB, hm]; omega
      obtain ⟨h1, h2⟩ := may_all hm2
      rw [if_neg Bool.false_ne_true, hist_Play_w0 _ _ _ _ (by omega), histPlay_loop l o h1 h2 ho o 0 [] [] rfl (by simp) (fun n => by simp [mget]) (fun n => by simp [mget]) rfl]
      simp only [hm2, Bool.true_and, List.take_zero, mget, Option.getD_none]
      rw [Bool.and_comm]; rfl

/-! The law -/
theorem alive_eq : parrellaw26_alive = some true := by kernel_rfl
def cap70 (l : List RI) : Int := if 70 < (l.length : Int) then 70 else (l.length : Int)
def termB (t : RT) : Int := cap70 t.f_Reads + cap70 t.f_Writes
def sumB : List RT → Int
  | [] => 0
  | a :: l => termB a + sumB l
theorem termB_le (t : RT) : 0 ≤ termB t ∧ termB t ≤ 140 := by
  unfold termB cap70
  split <;> split <;> omega
theorem sumB_nn : ∀ (l : List RT), 0 ≤ sumB l
  | [] => Int.le_refl _
  | a :: l => by have := termB_le a; have := sumB_nn l; rw [sumB]; omega
def farB (l : List RT) : Bool := decide (70 < l.length) || decide (400 < sumB (l.take 70))
theorem far_eq (l : List RT) : parrellaw26_far l = some (farB l) := by
  have et : ((if 70 < ((l).length : Int) then 70 else ((l).length : Int))).toNat = min 70 l.length := by split <;> omega
  have etk : l.take ((if 70 < ((l).length : Int) then 70 else ((l).length : Int))).toNat = l.take 70 := by
    rw [et]
    rcases Nat.le_total 70 l.length with h | h
    · rw [Nat.min_eq_left h]
    · rw [Nat.min_eq_right h, List.take_of_length_le (Nat.le_refl _), List.take_of_length_le h]
  have hlen : (l.take 70).length ≤ 70 := by rw [List.length_take]; omega
  rw [parrellaw26_far, if_pos (by split <;> omega), parrellaw26_far_w0 _ _ (by rw [etk]; omega)]
  rw [etk]
  have key : ∀ (r : List RT) (s : Int), 0 ≤ s → s + 140 * (r.length : Int) ≤ 9800 → walkL parrellaw26_far_b0 (parrellaw26_far_e0 l) r s = parrellaw26_far_e0 l (s + sumB r) := by
    intro r
    induction r with
    | nil => intro s _ _; rw [sumB, Int.add_zero]; rfl
    | cons a r ih =>
      intro s h1 h2
      have ht := termB_le a
      simp only [List.length_cons] at h2
      show walkL _ _ r (IntKind.wrap .i64 (s + IntKind.wrap .i64 (termB a))) = _
      rw [w64 (x := termB a) (by omega) (by omega), w64 (by omega) (by omega), ih _ (by omega) (by omega), sumB]
      congr 1
      omega
  rw [key _ 0 (by omega) (by omega), parrellaw26_far_e0, Int.zero_add]
  unfold farB
  by_cases h : 70 < l.length
  · rw [if_pos (by rw [decide_eq_true_eq]; omega), decide_eq_true h]; rfl
  · rw [if_neg (by rw [decide_eq_true_eq]; omega), decide_eq_false h]; rfl

/-- The arguments' bounds, as the row has them. -/
def wsTx (s : RT) : Prop := ((∀ a ∈ s.f_Reads, (wfL (c_T_parrelref26_Item a))) ∧ s.f_Reads.length * 32 ≤ 140737488351232) ∧ ((∀ a ∈ s.f_Writes, (wfL (c_T_parrelref26_Item a))) ∧ s.f_Writes.length * 32 ≤ 140737488351232) ∧ (wfL ((cInt .i64) s.f_Begin)) ∧ (wfL ((cInt .i64) s.f_End)) ∧ True
theorem sz_of {l : List RT} (h : (∀ a ∈ l, wsTx a) ∧ l.length * 64 ≤ 140737488351232) : Sz l := ⟨fun a ha => ⟨(h.1 a ha).1.2, (h.1 a ha).2.1.2⟩, h.2⟩

theorem plays_law (l : List RT) (o : List Int) (h1 : (∀ a ∈ l, wsTx a) ∧ l.length * 64 ≤ 140737488351232) (h2 : (∀ a ∈ o, wfL (cInt .i64 a)) ∧ o.length * 8 ≤ 140737488351232) : parrellaw26_HistPlays l o = some true := by
  have hs := sz_of h1
  have hl := h1.2
  rw [parrellaw26_HistPlays, far_eq, Option.bind_some]
  have hal : ∀ (b : Bool), (b = true) → (parrellaw26_alive.bind fun y => some y) = some b := fun b hb => by rw [alive_eq, hb]; rfl
  cases hf : farB l with
  | true => exact hal true rfl
  | false =>
    rw [if_neg Bool.false_ne_true]
    by_cases ho : 100 < o.length
    · rw [if_pos (by rw [decide_eq_true_eq]; omega)]; exact hal true rfl
    · rw [if_neg (by rw [decide_eq_true_eq]; omega), theirs_eq l hs, Option.bind_some, histPlay_eq l o (by omega) (by omega), Option.bind_some,
        refPlay_eq l o (by omega) (fun a ha => by have := (hs.1 a ha).2; omega) (by omega), Option.bind_some]
      cases playB l o <;> exact hal true rfl
end Go.Proofs.Ytofkaccoofafmaa.Wk
