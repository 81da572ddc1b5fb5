/- Plain facts on histories: what is wrong with one, which one comes ahead of which. -/
import Derived.Test.YtofkaccoofafmaaHistP
set_option linter.unusedVariables false
set_option linter.unusedSimpArgs false
set_option linter.unusedSectionVars false
namespace Go.Proofs.Ytofkaccoofafmaa.Wk
open Go Go.Cn

def ver (i : RI) : T_hist_version := ⟨i.f_Key, i.f_Version⟩
/-- All that is written, all that is read. -/
def allW (l : List RT) : List RI := l.flatMap (·.f_Writes)
def allR (l : List RT) : List RI := l.flatMap (·.f_Reads)
/-- Versions that are written, each once. -/
def wput : List RI → List (T_hist_version × List UInt8) → Option (List (T_hist_version × List UInt8))
  | [], m => some m
  | a :: r, m => if (mget m (ver a)).isSome then none else wput r (mset m (ver a) a.f_Value)
theorem wput_append : ∀ (a b : List RI) (m : List (T_hist_version × List UInt8)), wput (a ++ b) m = (wput a m).bind (wput b)
  | [], _, _ => rfl
  | x :: a, b, m => by
    rw [List.cons_append, wput, wput]
    split
    · rfl
    · exact wput_append a b _
theorem wput_eq : ∀ (l : List RI) (m : List (T_hist_version × List UInt8)), wput l m = if (l.map ver).Nodup ∧ (∀ a ∈ l, mget m (ver a) = none) then some (ownM l m) else none
  | [], m => by simp [wput, ownM]
  | a :: r, m => by
    rw [wput]
    cases h : mget m (ver a) with
    | some x => rw [if_pos (by rfl), if_neg (fun hh => by have := hh.2 a List.mem_cons_self; rw [h] at this; cases this)]
    | none =>
      rw [if_neg (by simp), wput_eq r]
      show (if _ then some (ownM r (mset m (ver a) a.f_Value)) else none) = if _ then some (ownM r (mset m (ver a) a.f_Value)) else none
      congr 1
      apply propext
      rw [List.map_cons, List.nodup_cons]
      constructor
      · rintro ⟨h1, h2⟩
        have h3 : ∀ b ∈ r, ver b ≠ ver a ∧ mget m (ver b) = none := by
          intro b hb
          have := h2 b hb
          rw [mget_mset] at this
          by_cases e : ver b = ver a
          · rw [if_pos e] at this; cases this
          · rw [if_neg e] at this; exact ⟨e, this⟩
        refine ⟨⟨fun hm => ?_, h1⟩, fun b hb => ?_⟩
        · obtain ⟨b, hb, e⟩ := List.mem_map.1 hm
          exact (h3 b hb).1 e
        · rcases List.mem_cons.1 hb with rfl | hb
          · exact h
          · exact (h3 b hb).2
      · rintro ⟨⟨h1, h2⟩, h3⟩
        refine ⟨h2, fun b hb => ?_⟩
        rw [mget_mset, if_neg (fun e => h1 (List.mem_map.2 ⟨b, hb, e⟩))]
        exact h3 b (List.mem_cons_of_mem _ hb)
/-- Reading. -/
def rdC (look : RI → Option (List UInt8)) : List RI → Int → Int
  | [], bad => bad
  | r :: l, bad =>
    if (look r).isSome = false ∧ r.f_Version ≠ 0 then 6
    else rdC look l (if (look r).getD [] = r.f_Value then bad else 8)
theorem rdC_append (look : RI → Option (List UInt8)) : ∀ (a b : List RI) (bad : Int), bad ≠ 6 → rdC look (a ++ b) bad = if rdC look a bad = 6 then 6 else rdC look b (rdC look a bad)
  | [], b, bad, h => by rw [List.nil_append, rdC, if_neg h]
  | r :: a, b, bad, h => by
    rw [List.cons_append, rdC, rdC]
    split
    · rfl
    · exact rdC_append look a b _ (by split <;> omega)
theorem rdC_congr {f g : RI → Option (List UInt8)} : ∀ (l : List RI) (bad : Int), (∀ r ∈ l, f r = g r) → rdC f l bad = rdC g l bad
  | [], _, _ => rfl
  | r :: l, bad, h => by
    rw [rdC, rdC, h r List.mem_cons_self, rdC_congr l _ (fun x hx => h x (List.mem_cons_of_mem _ hx))]

theorem rd_fin {b : Bool} {v R : Int} {k : Int → Option Int} {T : Option Int} (hT : T = if R = 6 then some 6 else k R) :
    (if (!b) = true then (if (v != 0) = true then some 6 else T) else T) = if (if b = false ∧ v ≠ 0 then 6 else R) = 6 then some 6 else k (if b = false ∧ v ≠ 0 then 6 else R) := by
  cases b with
  | true => simp [hT]
  | false =>
    by_cases h : v = 0
    · simp [h, hT]
    · simp [h]
def findV (l : List RI) (r : RI) : Option (List UInt8) := (l.find? fun w => decide (ver w = ver r)).map (·.f_Value)
theorem ownM_find : ∀ (l : List RI) (m : List (T_hist_version × List UInt8)) (r : RI), (l.map ver).Nodup → mget (ownM l m) (ver r) = match findV l r with | some x => some x | none => mget m (ver r)
  | [], _, _, _ => rfl
  | a :: l, m, r, h => by
    rw [List.map_cons, List.nodup_cons] at h
    show mget (ownM l (mset m (ver a) a.f_Value)) (ver r) = _
    rw [ownM_find l _ r h.2, findV, findV, List.find?_cons]
    by_cases e : ver a = ver r
    · rw [decide_eq_true e]
      have : l.find? (fun w => decide (ver w = ver r)) = none := by
        rw [List.find?_eq_none]
        intro w hw he
        rw [decide_eq_true_eq] at he
        exact h.1 (List.mem_map.2 ⟨w, hw, he.trans e.symm⟩)
      rw [this, mget_mset, if_pos e.symm]; rfl
    · rw [decide_eq_false e]
      simp only
      rw [mget_mset, if_neg (fun h => e h.symm)]

/-- What is wrong: 1, 6, 7, 8; 0: nothing. -/
def checkB (l : List RT) : Int := if mayB l then (if (allW l |>.map ver).Nodup then rdC (findV (allW l)) (allR l) 0 else 7) else 1

theorem histCheck_eq (l : List RT) (h : l.length < 9223372036854775807) : hist_Check (l.map tt) = some (checkB l) := by
  rw [hist_Check, checkB, wrong_any l h, List.length_map]
  by_cases e : 64 < l.length
  · rw [if_pos (by rw [decide_eq_true_eq]; omega), mayB, decide_eq_false (by omega)]; simp
  rw [if_neg (by rw [decide_eq_true_eq]; omega), Option.bind_some]
  cases hm : l.any wrongB with
  | true => simp [mayB, hm]
  | false =>
    have hm2 : mayB l = true := by simp [mayB, hm]; omega
    obtain ⟨h1, h2⟩ := may_all hm2
    rw [if_neg Bool.false_ne_true, if_pos hm2, hist_Check_w0 _ _ (by simp; omega)]
    -- all writes
    have one : ∀ (ws : List RI) (k : List (T_hist_version × List UInt8) → Option Int) (m : List (T_hist_version × List UInt8)), walkL (hist_Check_b1 k) (hist_Check_e1 k) (ws.map ti) m = match wput ws m with | none => some 7 | some m' => k m' := by
      intro ws k
      induction ws with
      | nil => intro m; rfl
      | cons a ws ih =>
        intro m
        show (if ((mget m (ver a)).isSome) = true then some 7 else walkL _ _ (ws.map ti) (mset m (ver a) a.f_Value)) = _
        rw [wput]
        by_cases c : (mget m (ver a)).isSome = true
        · rw [if_pos c, if_pos c]
        · rw [if_neg c, if_neg c]; exact ih _
    have two : ∀ (rs : List RI) (M : List (T_hist_version × List UInt8)) (k : Int → Option Int) (bad : Int), bad ≠ 6 → walkL (hist_Check_b3 M k) (hist_Check_e3 k) (rs.map ti) bad = if rdC (fun r => mget M (ver r)) rs bad = 6 then some 6 else k (rdC (fun r => mget M (ver r)) rs bad) := by
      intro rs M k
      induction rs with
      | nil => intro bad hb; rw [rdC, if_neg hb]; rfl
      | cons a rs ih =>
        intro bad hb
        show (if (!((mget M (ver a)).isSome)) = true then (if (a.f_Version != 0) = true then some 6 else (if (!(((mget M (ver a)).getD default) == a.f_Value)) = true then walkL _ _ (rs.map ti) 8 else walkL _ _ (rs.map ti) bad)) else (if (!(((mget M (ver a)).getD default) == a.f_Value)) = true then walkL _ _ (rs.map ti) 8 else walkL _ _ (rs.map ti) bad)) = _
        have tail : (if (!(((mget M (ver a)).getD default) == a.f_Value)) = true then walkL (hist_Check_b3 M k) (hist_Check_e3 k) (rs.map ti) 8 else walkL (hist_Check_b3 M k) (hist_Check_e3 k) (rs.map ti) bad) = if rdC (fun r => mget M (ver r)) rs (if (mget M (ver a)).getD [] = a.f_Value then bad else 8) = 6 then some 6 else k (rdC (fun r => mget M (ver r)) rs (if (mget M (ver a)).getD [] = a.f_Value then bad else 8)) := by
          by_cases c : (mget M (ver a)).getD [] = a.f_Value
          · rw [if_neg (by simp; exact c), if_pos c, ih bad hb]
          · rw [if_pos (by simp; exact c), if_neg c, ih 8 (by decide)]
        rw [rdC]
        exact rd_fin tail
    have outer2 : ∀ (M : List (T_hist_version × List UInt8)), hist_Check_e0 (l.map tt) M = some (rdC (fun r => mget M (ver r)) (allR l) 0) := by
      intro M
      rw [hist_Check_e0, hist_Check_w2 _ _ _ (by simp; omega)]
      rw [walkN_L (l.map tt) _ (fun (t : T_hist_Tx) (s : Int) (k : Int → Option Int) => walkL (hist_Check_b3 M k) (hist_Check_e3 k) t.f_Reads s) _ (fun i s k hi => by
        rw [hist_Check_b2]
        have en : ((i : Nat) : Int).toNat = i := Int.toNat_natCast i
        have hm : (l.map tt).getD i default ∈ l.map tt := getD_mem hi
        obtain ⟨t, ht, e⟩ := List.mem_map.1 hm
        rw [hist_Check_w3 _ _ _ _ _ (by rw [en, ← e]; have := (wrong_lens (h2 t ht)).1; simp [tt]; omega), en])]
      have : ∀ (r : List RT) (bad : Int), bad ≠ 6 → walkL (fun (t : T_hist_Tx) (s : Int) (k : Int → Option Int) => walkL (hist_Check_b3 M k) (hist_Check_e3 k) t.f_Reads s) hist_Check_e2 (r.map tt) bad = some (rdC (fun r => mget M (ver r)) (allR r) bad) := by
        intro r
        induction r with
        | nil => intro bad _; rfl
        | cons t r ih =>
          intro bad hb
          show walkL (hist_Check_b3 M _) (hist_Check_e3 _) (t.f_Reads.map ti) bad = _
          rw [two _ _ _ _ hb, show allR (t :: r) = t.f_Reads ++ allR r from rfl, rdC_append _ _ _ _ hb]
          by_cases c : rdC (fun r => mget M (ver r)) t.f_Reads bad = 6
          · rw [if_pos c, if_pos c]
          · rw [if_neg c, if_neg c]; exact ih _ c
      exact this l 0 (by decide)
    rw [walkN_L (l.map tt) _ (fun (t : T_hist_Tx) (s : List (T_hist_version × List UInt8)) (k : List (T_hist_version × List UInt8) → Option Int) => walkL (hist_Check_b1 k) (hist_Check_e1 k) t.f_Writes s) _ (fun i s k hi => by
        rw [hist_Check_b0]
        have en : ((i : Nat) : Int).toNat = i := Int.toNat_natCast i
        have hm : (l.map tt).getD i default ∈ l.map tt := getD_mem hi
        obtain ⟨t, ht, e⟩ := List.mem_map.1 hm
        rw [hist_Check_w1 _ _ _ _ (by rw [en, ← e]; have := (wrong_lens (h2 t ht)).2; simp [tt]; omega), en])]
    have : ∀ (r : List RT) (m : List (T_hist_version × List UInt8)), walkL (fun (t : T_hist_Tx) (s : List (T_hist_version × List UInt8)) (k : List (T_hist_version × List UInt8) → Option Int) => walkL (hist_Check_b1 k) (hist_Check_e1 k) t.f_Writes s) (hist_Check_e0 (l.map tt)) (r.map tt) m = match wput (allW r) m with | none => some 7 | some m' => hist_Check_e0 (l.map tt) m' := by
      intro r
      induction r with
      | nil => intro m; rfl
      | cons t r ih =>
        intro m
        show walkL (hist_Check_b1 _) (hist_Check_e1 _) (t.f_Writes.map ti) m = _
        rw [one, show allW (t :: r) = t.f_Writes ++ allW r from rfl, wput_append]
        cases wput t.f_Writes m with
        | none => rfl
        | some m' => exact ih m'
    rw [this l [], wput_eq]
    by_cases hn : ((allW l).map ver).Nodup
    · rw [if_pos ⟨hn, fun a _ => rfl⟩, if_pos hn]
      simp only
      rw [outer2]
      congr 1
      exact rdC_congr _ _ (fun r _ => by rw [ownM_find _ _ _ hn]; cases findV (allW l) r <;> rfl)
    · rw [if_neg (fun h => hn h.1), if_neg hn]

/-! The document's -/
def wrF (k : Ky) (v : Int) : List RT → Nat → Int × List UInt8
  | [], _ => (-1, [])
  | t :: r, i => match t.f_Writes.find? (fun w => decide (ver w = ⟨k, v⟩)) with
    | some w => ((i : Int), w.f_Value)
    | none => wrF k v r (i + 1)
theorem writer_eq (l : List RT) (k : Ky) (v : Int) (h : l.length < 9223372036854775807) (hw : ∀ t ∈ l, t.f_Writes.length < 9223372036854775807) : parrelref26_writer l k v = some (wrF k v l 0) := by
  rw [parrelref26_writer, parrelref26_writer_w0 _ _ _ h]
  have key : ∀ (r : List RT) (i : Nat), l.drop i = r → walkN (parrelref26_writer_b0 l k v) parrelref26_writer_e0 r.length i () = some (wrF k v r i) := by
    intro r
    induction r with
    | nil => intro i _; rfl
    | cons t r ih =>
      intro i hd
      obtain ⟨h1, h2, h3, _, h5⟩ := drop_cons hd
      have en : ((i : Nat) : Int).toNat = i := Int.toNat_natCast i
      rw [List.length_cons, walkN, parrelref26_writer_b0, parrelref26_writer_w1 _ _ _ _ _ (by rw [en, h2]; exact hw t h5) (by omega), en, h2, wrF]
      have inner : ∀ (ws : List RI) (kk : Unit → Option (Int × List UInt8)), walkL (parrelref26_writer_b1 k v (i : Int) kk) (parrelref26_writer_e1 kk) ws () = match ws.find? (fun w => decide (ver w = ⟨k, v⟩)) with | some w => some ((i : Int), w.f_Value) | none => kk () := by
        intro ws kk
        induction ws with
        | nil => rfl
        | cons a ws ihw =>
          rw [walkL, parrelref26_writer_b1, List.find?_cons, ver]
          by_cases c1 : a.f_Key = k
          · rw [if_pos (by simpa using c1)]
            by_cases c2 : a.f_Version = v
            · rw [if_pos (by simpa using c2), decide_eq_true (by rw [c1, c2])]
            · rw [if_neg (by simpa using c2), decide_eq_false (by rw [T_hist_version.mk.injEq]; exact fun h => c2 h.2)]; exact ihw
          · rw [if_neg (by simpa using c1), decide_eq_false (by rw [T_hist_version.mk.injEq]; exact fun h => c1 h.1)]; exact ihw
      rw [inner]
      cases t.f_Writes.find? (fun w => decide (ver w = ⟨k, v⟩)) with
      | some w => rfl
      | none => exact ih (i + 1) h3
  exact key l 0 rfl
theorem wrF_find (r : RI) : ∀ (l : List RT) (i : Nat), ((wrF r.f_Key r.f_Version l i).1 < 0 ↔ findV (allW l) r = none) ∧ (wrF r.f_Key r.f_Version l i).2 = (findV (allW l) r).getD []
  | [], i => by simp [wrF, allW, findV]
  | t :: l, i => by
    have e : findV (allW (t :: l)) r = match t.f_Writes.find? (fun w => decide (ver w = ver r)) with | some w => some w.f_Value | none => findV (allW l) r := by
      rw [findV, show allW (t :: l) = t.f_Writes ++ allW l from rfl, List.find?_append]
      cases t.f_Writes.find? (fun w => decide (ver w = ver r)) <;> rfl
    rw [wrF, e]
    show ((match t.f_Writes.find? (fun w => decide (ver w = ver r)) with | some w => ((i : Int), w.f_Value) | none => wrF r.f_Key r.f_Version l (i + 1)).1 < 0 ↔ _) ∧ _ = _
    cases hf : t.f_Writes.find? (fun w => decide (ver w = ver r)) with
    | some w =>
      have : (match t.f_Writes.find? (fun w => decide (ver w = (⟨r.f_Key, r.f_Version⟩ : T_hist_version))) with | some w => ((i : Int), w.f_Value) | none => wrF r.f_Key r.f_Version l (i + 1)) = ((i : Int), w.f_Value) := by
        rw [show t.f_Writes.find? (fun w => decide (ver w = (⟨r.f_Key, r.f_Version⟩ : T_hist_version))) = some w from hf]
      rw [this]
      refine ⟨⟨fun h => absurd h (by simp), fun h => by cases h⟩, rfl⟩
    | none =>
      have : (match t.f_Writes.find? (fun w => decide (ver w = (⟨r.f_Key, r.f_Version⟩ : T_hist_version))) with | some w => ((i : Int), w.f_Value) | none => wrF r.f_Key r.f_Version l (i + 1)) = wrF r.f_Key r.f_Version l (i + 1) := by
        rw [show t.f_Writes.find? (fun w => decide (ver w = (⟨r.f_Key, r.f_Version⟩ : T_hist_version))) = none from hf]
      rw [this]
      exact wrF_find r l (i + 1)
/-- Who is the first. -/
theorem wrF_first (k : Ky) (v : Int) : ∀ (l : List RT) (i j : Nat), j < l.length → (∃ w ∈ (l.getD j default).f_Writes, ver w = ⟨k, v⟩) →
    ((wrF k v l i).1 ≠ ((i + j : Nat) : Int) ↔ ∃ j', j' < j ∧ ∃ w ∈ (l.getD j' default).f_Writes, ver w = ⟨k, v⟩)
  | [], _, _, h, _ => by simp at h
  | t :: l, i, j, h, hw => by
    rw [wrF]
    cases hf : t.f_Writes.find? (fun w => decide (ver w = (⟨k, v⟩ : T_hist_version))) with
    | some w =>
      have h1 := List.mem_of_find?_eq_some hf
      have h2 := List.find?_some hf
      rw [decide_eq_true_eq] at h2
      constructor
      · intro hne
        have : j ≠ 0 := fun e => hne (by subst e; rfl)
        exact ⟨0, by omega, w, h1, h2⟩
      · rintro ⟨j', hj, _⟩
        show ((i : Nat) : Int) ≠ _
        omega
    | none =>
      rw [List.find?_eq_none] at hf
      cases j with
      | zero =>
        obtain ⟨w, h1, h2⟩ := hw
        exact absurd (decide_eq_true h2) (hf w h1)
      | succ j =>
        have ih := wrF_first k v l (i + 1) j (by simpa using h) hw
        simp only
        rw [show i + (j + 1) = i + 1 + j by omega, ih]
        constructor
        · rintro ⟨j', hj, w, h1, h2⟩
          exact ⟨j' + 1, by omega, w, h1, h2⟩
        · rintro ⟨j', hj, w, h1, h2⟩
          cases j' with
          | zero => exact absurd (decide_eq_true h2) (hf w h1)
          | succ j' => exact ⟨j', by omega, w, h1, h2⟩

theorem nodup_ver {l : List RI} (h : (l.map (·.f_Key)).Nodup) : (l.map ver).Nodup := by
  rw [List.Nodup, List.pairwise_map] at h ⊢
  exact h.imp fun {a b} hab e => hab (congrArg T_hist_version.f_key e)
/-- Versions that are written twice are so by two. -/
theorem allW_nodup (l : List RT) (h : ∀ t ∈ l, (t.f_Writes.map ver).Nodup) : ((allW l).map ver).Nodup ↔ ∀ j, j < l.length → ∀ w ∈ (l.getD j default).f_Writes, ¬ ∃ j', j' < j ∧ ∃ w' ∈ (l.getD j' default).f_Writes, ver w' = ver w := by
  rw [allW, List.map_flatMap, List.Nodup, List.pairwise_flatMap, List.pairwise_iff_getElem]
  constructor
  · rintro ⟨_, h2⟩ j hj w hw ⟨j', hj', w', hw', e⟩
    have := h2 j' j (by omega) hj hj' (ver w') (List.mem_map.2 ⟨w', by rwa [List.getD_eq_getElem?_getD, List.getElem?_eq_getElem (by omega)] at hw', rfl⟩) (ver w) (List.mem_map.2 ⟨w, by rwa [List.getD_eq_getElem?_getD, List.getElem?_eq_getElem hj] at hw, rfl⟩)
    exact this e
  · intro h2
    refine ⟨fun t ht => h t ht, fun i j hi hj hij x hx y hy e => ?_⟩
    obtain ⟨w', hw', rfl⟩ := List.mem_map.1 hx
    obtain ⟨w, hw, rfl⟩ := List.mem_map.1 hy
    exact h2 j hj w (by rwa [List.getD_eq_getElem?_getD, List.getElem?_eq_getElem hj]) ⟨i, hij, w', by rwa [List.getD_eq_getElem?_getD, List.getElem?_eq_getElem hi], e⟩

theorem refCheck_eq (l : List RT) (h : l.length < 9223372036854775807) (hw : ∀ a ∈ l, a.f_Writes.length < 9223372036854775807) : parrelref26_Check l = some (checkB l) := by
  rw [parrelref26_Check, checkB, may_eq l h hw]
  by_cases e : 64 < l.length
  · rw [if_pos (by rw [decide_eq_true_eq]; omega), mayB, decide_eq_false (by omega)]; simp
  rw [if_neg (by rw [decide_eq_true_eq]; omega), Option.bind_some]
  cases hm : mayB l with
  | false => rfl
  | true =>
    obtain ⟨h1, h2⟩ := may_all hm
    rw [if_neg (by simp), if_pos rfl, parrelref26_Check_w0 _ (by omega)]
    have lens : ∀ t ∈ l, t.f_Reads.length ≤ 64 ∧ t.f_Writes.length ≤ 64 := fun t ht => wrong_lens (h2 t ht)
    have nd : ∀ t ∈ l, (t.f_Writes.map ver).Nodup := fun t ht => by
      have := h2 t ht
      simp only [wrongB, Bool.or_eq_false_iff, decide_eq_false_iff_not, dupB, Classical.not_not] at this
      exact nodup_ver this.1.2
    -- reads
    have two : ∀ (rs : List RI) (k : Int → Option Int) (bad : Int), bad ≠ 6 → walkL (parrelref26_Check_b3 l k) (parrelref26_Check_e3 k) rs bad = if rdC (findV (allW l)) rs bad = 6 then some 6 else k (rdC (findV (allW l)) rs bad) := by
      intro rs k
      induction rs with
      | nil => intro bad hb; rw [rdC, if_neg hb]; rfl
      | cons a rs ih =>
        intro bad hb
        rw [walkL, parrelref26_Check_b3, writer_eq l _ _ h hw, Option.bind_some]
        obtain ⟨f1, f2⟩ := wrF_find a l 0
        rw [f2]
        have tail : (if (!((findV (allW l) a).getD [] == a.f_Value)) = true then walkL (parrelref26_Check_b3 l k) (parrelref26_Check_e3 k) rs 8 else walkL (parrelref26_Check_b3 l k) (parrelref26_Check_e3 k) rs bad) = if rdC (findV (allW l)) rs (if (findV (allW l) a).getD [] = a.f_Value then bad else 8) = 6 then some 6 else k (rdC (findV (allW l)) rs (if (findV (allW l) a).getD [] = a.f_Value then bad else 8)) := by
          by_cases c : (findV (allW l) a).getD [] = a.f_Value
          · rw [if_neg (by simp; exact c), if_pos c, ih bad hb]
          · rw [if_pos (by simp; exact c), if_neg c, ih 8 (by decide)]
        have ed : decide ((wrF a.f_Key a.f_Version l 0).1 < 0) = !(findV (allW l) a).isSome := by
          rw [Bool.eq_iff_iff, decide_eq_true_eq, f1]
          cases findV (allW l) a <;> simp
        rw [rdC, ed]
        exact rd_fin tail
    have outer2 : parrelref26_Check_e0 l () = some (rdC (findV (allW l)) (allR l) 0) := by
      rw [parrelref26_Check_e0, parrelref26_Check_w2 _ _ (by omega)]
      rw [walkN_L l _ (fun (t : RT) (s : Int) (k : Int → Option Int) => walkL (parrelref26_Check_b3 l k) (parrelref26_Check_e3 k) t.f_Reads s) _ (fun i s k hi => by
        rw [parrelref26_Check_b2]
        have en : ((i : Nat) : Int).toNat = i := Int.toNat_natCast i
        have hm := getD_mem hi
        rw [parrelref26_Check_w3 _ _ _ _ (by rw [en]; have := (lens _ hm).1; omega) (by omega), en])]
      have : ∀ (r : List RT) (bad : Int), bad ≠ 6 → walkL (fun (t : RT) (s : Int) (k : Int → Option Int) => walkL (parrelref26_Check_b3 l k) (parrelref26_Check_e3 k) t.f_Reads s) parrelref26_Check_e2 r bad = some (rdC (findV (allW l)) (allR r) bad) := by
        intro r
        induction r with
        | nil => intro bad _; rfl
        | cons t r ih =>
          intro bad hb
          show walkL (parrelref26_Check_b3 l _) (parrelref26_Check_e3 _) t.f_Reads bad = _
          rw [two _ _ _ hb, show allR (t :: r) = t.f_Reads ++ allR r from rfl, rdC_append _ _ _ _ hb]
          by_cases c : rdC (findV (allW l)) t.f_Reads bad = 6
          · rw [if_pos c, if_pos c]
          · rw [if_neg c, if_neg c]; exact ih _ c
      exact this l 0 (by decide)
    rw [walkN_any (fun j => (l.getD j default).f_Writes.any fun w => (wrF w.f_Key w.f_Version l 0).1 != (j : Int)) (some 7)]
    · by_cases hn : ((allW l).map ver).Nodup
      · rw [if_neg, outer2, if_pos hn]
        intro hc
        obtain ⟨j, hj, hc⟩ := List.any_eq_true.1 hc
        obtain ⟨w, hw', hc⟩ := List.any_eq_true.1 hc
        have hj' : j < l.length := by have := (List.mem_range'_1.1 hj).2; omega
        have := (wrF_first w.f_Key w.f_Version l 0 j hj' ⟨w, hw', rfl⟩).1 (by simpa using hc)
        exact (allW_nodup l nd).1 hn j hj' w hw' this
      · rw [if_pos, if_neg hn]
        apply Classical.byContradiction
        intro hc
        apply hn
        rw [allW_nodup l nd]
        intro j hj w hw' hex
        apply hc
        refine List.any_eq_true.2 ⟨j, List.mem_range'_1.2 ⟨Nat.zero_le _, by omega⟩, List.any_eq_true.2 ⟨w, hw', ?_⟩⟩
        have := (wrF_first w.f_Key w.f_Version l 0 j hj ⟨w, hw', rfl⟩).2 hex
        simpa using this
    · intro j _ hj k
      have en : ((j : Nat) : Int).toNat = j := Int.toNat_natCast j
      have hjl : j < l.length := by omega
      have hm := getD_mem hjl
      rw [parrelref26_Check_b0, parrelref26_Check_w1 _ _ _ (by rw [en]; have := (lens _ hm).2; omega) (by omega), en]
      exact walkL_any (fun w : RI => (wrF w.f_Key w.f_Version l 0).1 != (j : Int)) (some 7) _ _ _ (fun a _ k' => by
        rw [parrelref26_Check_b1, writer_eq l _ _ h hw, Option.bind_some])

/-! Which one comes ahead -/
theorem any_swap {α β : Type} (p : α → β → Bool) (l : List α) (m : List β) : (l.any fun a => m.any fun b => p a b) = (m.any fun b => l.any fun a => p a b) := by
  rw [Bool.eq_iff_iff]
  simp only [List.any_eq_true]
  constructor
  · rintro ⟨a, ha, b, hb, h⟩; exact ⟨b, hb, a, ha, h⟩
  · rintro ⟨b, hb, a, ha, h⟩; exact ⟨a, ha, b, hb, h⟩
/-- One of greater, or (same) of the same, version. -/
def aftB (l m : List RI) (same : Bool) : Bool := l.any fun x => m.any fun y => decide (y.f_Key = x.f_Key) && (decide (x.f_Version < y.f_Version) || (same && decide (y.f_Version = x.f_Version)))
def aheadB (a b : RT) : Bool := (a.f_End != 0 && decide (a.f_End < b.f_Begin)) || aftB a.f_Writes b.f_Writes false || aftB a.f_Writes b.f_Reads true || aftB a.f_Reads b.f_Writes false

def firM (l : List RI) (m : List (Ky × Int)) : List (Ky × Int) := l.foldl (fun m i => mset m i.f_Key i.f_Version) m
theorem first_eq (l : List RI) (h : l.length < 9223372036854775807) : hist_first (l.map ti) = some (firM l []) := by
  rw [hist_first, hist_first_w0 _ _ (by simpa using h)]
  have : ∀ (r : List RI) (m : List (Ky × Int)), walkL hist_first_b0 hist_first_e0 (r.map ti) m = some (firM r m) := by
    intro r
    induction r with
    | nil => intro m; rfl
    | cons a r ih => intro m; exact ih _
  exact this l []
theorem firM_find : ∀ (l : List RI) (m : List (Ky × Int)) (k : Ky), (l.map (·.f_Key)).Nodup → mget (firM l m) k = match l.find? (fun w => decide (w.f_Key = k)) with | some w => some w.f_Version | none => mget m k
  | [], _, _, _ => rfl
  | a :: l, m, k, h => by
    rw [List.map_cons, List.nodup_cons] at h
    show mget (firM l (mset m a.f_Key a.f_Version)) k = _
    rw [firM_find l _ k h.2, List.find?_cons]
    by_cases e : a.f_Key = k
    · rw [decide_eq_true e]
      have : l.find? (fun w => decide (w.f_Key = k)) = none := by
        rw [List.find?_eq_none]
        intro w hw he
        rw [decide_eq_true_eq] at he
        exact h.1 (List.mem_map.2 ⟨w, hw, he.trans e.symm⟩)
      rw [this, mget_mset, if_pos e.symm]
    · rw [decide_eq_false e]
      simp only
      rw [mget_mset, if_neg (fun h => e h.symm)]
theorem find_nd : ∀ (l : List RI) (k : Ky) (q : RI → Bool), (l.map (·.f_Key)).Nodup → (match l.find? (fun w => decide (w.f_Key = k)) with | some w => q w | none => false) = l.any fun w => decide (w.f_Key = k) && q w
  | [], _, _, _ => rfl
  | a :: l, k, q, h => by
    rw [List.map_cons, List.nodup_cons] at h
    rw [List.find?_cons, List.any_cons, ← find_nd l k q h.2]
    by_cases e : a.f_Key = k
    · rw [decide_eq_true e]
      have : l.find? (fun w => decide (w.f_Key = k)) = none := by
        rw [List.find?_eq_none]
        intro w hw he
        rw [decide_eq_true_eq] at he
        exact h.1 (List.mem_map.2 ⟨w, hw, he.trans e.symm⟩)
      rw [this]; simp
    · rw [decide_eq_false e]; simp
def follP (m : List (Ky × Int)) (same : Bool) (i : T_hist_Item) : Bool := match mget m i.f_Key with | some n => decide (n < i.f_Version) || (same && (i.f_Version == n)) | none => false
theorem follows_eq (m : List (Ky × Int)) (l : List RI) (same : Bool) (h : l.length < 9223372036854775807) : hist_follows m (l.map ti) same = some ((l.map ti).any (follP m same)) := by
  rw [hist_follows, slices_ContainsFunc_hist_Item_hist_Item_2, slices_IndexFunc_hist_Item_hist_Item_2, slices_IndexFunc_hist_Item_hist_Item_2_w0 _ _ _ (by simpa using h)]
  have := walk_find (follP m same) (fun i => hist_follows_L1 i m same) (l.map ti) (fun a _ => by
    rw [hist_follows_L1, follP]
    cases mget m a.f_Key with
    | none => rfl
    | some n =>
      rw [if_pos (by rfl)]
      show (if decide (n < a.f_Version) = true then some true else if same = true then some (a.f_Version == n) else some false) = some (decide (n < a.f_Version) || (same && (a.f_Version == n)))
      cases decide (n < a.f_Version) <;> cases same <;> cases (a.f_Version == n) <;> rfl)
  rw [show walkN (slices_IndexFunc_hist_Item_hist_Item_2_b0 (l.map ti) m same) slices_IndexFunc_hist_Item_hist_Item_2_e0 (l.map ti).length 0 () = _ from this, Option.bind_some, find_any, Option.bind_some]
theorem foll_aft (a l : List RI) (same : Bool) (h : (a.map (·.f_Key)).Nodup) : (l.map ti).any (follP (firM a []) same) = aftB a l same := by
  rw [List.any_map, aftB, any_swap]
  congr 1
  funext y
  show (match mget (firM a []) y.f_Key with | some n => decide (n < y.f_Version) || (same && (y.f_Version == n)) | none => false) = _
  rw [firM_find a [] _ h]
  have := find_nd a y.f_Key (fun x => decide (x.f_Version < y.f_Version) || (same && (y.f_Version == x.f_Version))) h
  cases hf : a.find? (fun w => decide (w.f_Key = y.f_Key)) with
  | none =>
    rw [hf] at this
    simp only [mget]
    simp only at this
    rw [this]
    congr 1; funext x; rw [show decide (x.f_Key = y.f_Key) = decide (y.f_Key = x.f_Key) from decide_eq_decide.2 ⟨Eq.symm, Eq.symm⟩]; rfl
  | some w =>
    rw [hf] at this
    simp only at this ⊢
    rw [this]
    congr 1; funext x; rw [show decide (x.f_Key = y.f_Key) = decide (y.f_Key = x.f_Key) from decide_eq_decide.2 ⟨Eq.symm, Eq.symm⟩]; rfl
def ndT (t : RT) : Prop := (t.f_Reads.map (·.f_Key)).Nodup ∧ (t.f_Writes.map (·.f_Key)).Nodup ∧ t.f_Reads.length ≤ 64 ∧ t.f_Writes.length ≤ 64
theorem ndT_of {t : RT} (h : wrongB t = false) : ndT t := by
  have hl := wrong_lens h
  simp only [wrongB, Bool.or_eq_false_iff, decide_eq_false_iff_not, dupB, Classical.not_not] at h
  exact ⟨h.1.1.2, h.1.2, hl.1, hl.2⟩
theorem isAhead_eq (a b : RT) (ha : ndT a) (hb : ndT b) : hist_isAhead (tt a) (tt b) = some (aheadB a b) := by
  obtain ⟨a1, a2, a3, a4⟩ := ha
  obtain ⟨b1, b2, b3, b4⟩ := hb
  rw [hist_isAhead]
  show (hist_first (a.f_Writes.map ti)).bind _ = _
  rw [first_eq _ (by omega), Option.bind_some]
  show (if (a.f_End != 0) = true then (if decide (a.f_End < b.f_Begin) = true then some true else (hist_follows (firM a.f_Writes []) (b.f_Writes.map ti) false).bind fun y6 => if y6 = true then some true else (hist_follows (firM a.f_Writes []) (b.f_Reads.map ti) true).bind fun y9 => if y9 = true then some true else (hist_first (a.f_Reads.map ti)).bind fun y12 => (hist_follows y12 (b.f_Writes.map ti) false).bind fun y14 => some y14) else
    (hist_follows (firM a.f_Writes []) (b.f_Writes.map ti) false).bind fun y6 => if y6 = true then some true else (hist_follows (firM a.f_Writes []) (b.f_Reads.map ti) true).bind fun y9 => if y9 = true then some true else (hist_first (a.f_Reads.map ti)).bind fun y12 => (hist_follows y12 (b.f_Writes.map ti) false).bind fun y14 => some y14) = _
  rw [first_eq _ (by omega)]
  simp only [Option.bind_some, follows_eq _ _ _ (show b.f_Writes.length < 9223372036854775807 by omega), follows_eq _ _ _ (show b.f_Reads.length < 9223372036854775807 by omega), foll_aft _ _ _ a1, foll_aft _ _ _ a2]
  rw [aheadB]
  cases (a.f_End != 0) <;> cases decide (a.f_End < b.f_Begin) <;> cases aftB a.f_Writes b.f_Writes false <;> cases aftB a.f_Writes b.f_Reads true <;> rfl
theorem ite_or_ {p q : Prop} [Decidable p] [Decidable q] {α : Type} {x y : α} : (if p ∨ q then x else y) = if p then x else if q then x else y := by
  by_cases hp : p
  · simp [hp]
  · simp [hp]
theorem any_range {α : Type} [Inhabited α] (p : α → Bool) (l : List α) : (List.range' 0 l.length).any (fun i => p (l.getD i default)) = l.any p := by
  rw [Bool.eq_iff_iff, List.any_eq_true, List.any_eq_true]
  constructor
  · rintro ⟨i, hi, h⟩
    exact ⟨_, getD_mem (by have := (List.mem_range'_1.1 hi).2; omega), h⟩
  · rintro ⟨a, ha, h⟩
    obtain ⟨i, hi, rfl⟩ := List.getElem_of_mem ha
    exact ⟨i, List.mem_range'_1.2 ⟨Nat.zero_le _, by omega⟩, by rw [List.getD_eq_getElem?_getD, List.getElem?_eq_getElem hi]; exact h⟩
theorem ahead_eq (a b : RT) (ha : ndT a) (hb : ndT b) : parrelref26_ahead a b = some (aheadB a b) := by
  obtain ⟨a1, a2, a3, a4⟩ := ha
  obtain ⟨b1, b2, b3, b4⟩ := hb
  have l3 : parrelref26_ahead_l3 a b big 0 = some (aftB a.f_Reads b.f_Writes false) := by
    rw [parrelref26_ahead_w3 _ _ (by omega), walkN_any (fun i => b.f_Writes.any fun y => decide (y.f_Key = (a.f_Reads.getD i default).f_Key) && (decide ((a.f_Reads.getD i default).f_Version < y.f_Version) || (false && decide (y.f_Version = (a.f_Reads.getD i default).f_Version)))) (some true)]
    · rw [any_range (fun x : RI => b.f_Writes.any fun y => decide (y.f_Key = x.f_Key) && (decide (x.f_Version < y.f_Version) || (false && decide (y.f_Version = x.f_Version)))) a.f_Reads]
      exact bnil _
    · intro j _ hj k
      have en : ((j : Nat) : Int).toNat = j := Int.toNat_natCast j
      rw [parrelref26_ahead_b3, parrelref26_ahead_w4 _ _ _ _ (by omega)]
      refine walkL_any (fun y : RI => decide (y.f_Key = (a.f_Reads.getD j default).f_Key) && (decide ((a.f_Reads.getD j default).f_Version < y.f_Version) || (false && decide (y.f_Version = (a.f_Reads.getD j default).f_Version)))) (some true) _ _ _ (fun y _ k' => ?_)
      rw [parrelref26_ahead_b4, en]
      cases decide (y.f_Key = (a.f_Reads.getD j default).f_Key) <;> cases decide ((a.f_Reads.getD j default).f_Version < y.f_Version) <;> rfl
  have l0 : parrelref26_ahead_l0 a b big 0 = some (aftB a.f_Writes b.f_Writes false || aftB a.f_Writes b.f_Reads true || aftB a.f_Reads b.f_Writes false) := by
    rw [parrelref26_ahead_w0 _ _ (by omega), walkN_any (fun i => (b.f_Writes.any fun y => decide (y.f_Key = (a.f_Writes.getD i default).f_Key) && (decide ((a.f_Writes.getD i default).f_Version < y.f_Version) || (false && decide (y.f_Version = (a.f_Writes.getD i default).f_Version)))) || (b.f_Reads.any fun y => decide (y.f_Key = (a.f_Writes.getD i default).f_Key) && (decide ((a.f_Writes.getD i default).f_Version < y.f_Version) || (true && decide (y.f_Version = (a.f_Writes.getD i default).f_Version))))) (some true)]
    · rw [any_range (fun x : RI => (b.f_Writes.any fun y => decide (y.f_Key = x.f_Key) && (decide (x.f_Version < y.f_Version) || (false && decide (y.f_Version = x.f_Version)))) || (b.f_Reads.any fun y => decide (y.f_Key = x.f_Key) && (decide (x.f_Version < y.f_Version) || (true && decide (y.f_Version = x.f_Version))))) a.f_Writes, parrelref26_ahead_e0, l3]
      have e : (a.f_Writes.any fun x : RI => (b.f_Writes.any fun y => decide (y.f_Key = x.f_Key) && (decide (x.f_Version < y.f_Version) || (false && decide (y.f_Version = x.f_Version)))) || (b.f_Reads.any fun y => decide (y.f_Key = x.f_Key) && (decide (x.f_Version < y.f_Version) || (true && decide (y.f_Version = x.f_Version))))) = (aftB a.f_Writes b.f_Writes false || aftB a.f_Writes b.f_Reads true) := by
        rw [aftB, aftB]
        induction a.f_Writes with
        | nil => rfl
        | cons x r ih =>
          rw [List.any_cons, List.any_cons, List.any_cons, ih]
          generalize (b.f_Writes.any fun y => decide (y.f_Key = x.f_Key) && (decide (x.f_Version < y.f_Version) || (false && decide (y.f_Version = x.f_Version)))) = p
          generalize (b.f_Reads.any fun y => decide (y.f_Key = x.f_Key) && (decide (x.f_Version < y.f_Version) || (true && decide (y.f_Version = x.f_Version)))) = q
          cases p <;> cases q <;> simp
      rw [e]
      cases aftB a.f_Writes b.f_Writes false <;> cases aftB a.f_Writes b.f_Reads true <;> rfl
    · intro j _ hj k
      have en : ((j : Nat) : Int).toNat = j := Int.toNat_natCast j
      rw [parrelref26_ahead_b0, parrelref26_ahead_w1 _ _ _ _ (by omega)]
      rw [walkL_any (fun y : RI => decide (y.f_Key = (a.f_Writes.getD j default).f_Key) && (decide ((a.f_Writes.getD j default).f_Version < y.f_Version) || (false && decide (y.f_Version = (a.f_Writes.getD j default).f_Version)))) (some true) _ _ _ (fun y _ k' => by
        rw [parrelref26_ahead_b1, en]
        cases decide (y.f_Key = (a.f_Writes.getD j default).f_Key) <;> cases decide ((a.f_Writes.getD j default).f_Version < y.f_Version) <;> rfl)]
      rw [parrelref26_ahead_e1, parrelref26_ahead_w2 _ _ _ _ (by omega)]
      rw [walkL_any (fun y : RI => decide (y.f_Key = (a.f_Writes.getD j default).f_Key) && (decide ((a.f_Writes.getD j default).f_Version < y.f_Version) || (true && decide (y.f_Version = (a.f_Writes.getD j default).f_Version)))) (some true) _ _ _ (fun y _ k' => by
        rw [parrelref26_ahead_b2, en]
        have : decide ((a.f_Writes.getD j default).f_Version ≤ y.f_Version) = (decide ((a.f_Writes.getD j default).f_Version < y.f_Version) || (true && decide (y.f_Version = (a.f_Writes.getD j default).f_Version))) := by
          rw [Bool.eq_iff_iff]; simp; omega
        rw [this]
        cases decide (y.f_Key = (a.f_Writes.getD j default).f_Key) <;> simp)]
      show _ = if (_ || _) = true then some true else k ()
      rw [show parrelref26_ahead_e2 (fun s_ => k ()) () = k () from rfl]
      generalize (b.f_Writes.any fun y => decide (y.f_Key = (a.f_Writes.getD j default).f_Key) && (decide ((a.f_Writes.getD j default).f_Version < y.f_Version) || (false && decide (y.f_Version = (a.f_Writes.getD j default).f_Version)))) = p
      generalize (b.f_Reads.any fun y => decide (y.f_Key = (a.f_Writes.getD j default).f_Key) && (decide ((a.f_Writes.getD j default).f_Version < y.f_Version) || (true && decide (y.f_Version = (a.f_Writes.getD j default).f_Version)))) = q
      cases p <;> cases q <;> rfl
  rw [parrelref26_ahead, l0, aheadB]
  cases (a.f_End != 0) <;> cases decide (a.f_End < b.f_Begin) <;> simp
end Go.Proofs.Ytofkaccoofafmaa.Wk
