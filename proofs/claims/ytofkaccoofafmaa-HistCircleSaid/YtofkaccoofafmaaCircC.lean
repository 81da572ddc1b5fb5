/- The document's distances to one. -/
import Derived.Test.YtofkaccoofafmaaCircB
set_option linter.unusedVariables false
set_option linter.unusedSimpArgs false
set_option linter.unusedSectionVars false
namespace Go.Proofs.Ytofkaccoofafmaa.Wk
open Go Go.Cn

abbrev ic (l : List Nat) : List Int := l.map fun (k : Nat) => (k : Int)
section
variable {l : List RT} {t : Nat} (h : ∀ x ∈ l, ndT x) (hl : l.length ≤ 64) (ht : t < l.length)
theorem Eg_ne {l : List RT} {i k : Nat} (h : i ≠ k) : Eg l i k = aheadB (l.getD i default) (l.getD k default) := by simp [Eg, h]
/-- What is met anew. -/
def New (l : List RT) (t : Nat) (row met N : List Nat) : Prop := (met ++ N).Nodup ∧ ∀ k ∈ N, k < l.length ∧ t ≤ k ∧ ∃ b ∈ row, Eg l b k = true
theorem nd_len {L : List Nat} {n : Nat} (h : L.Nodup) (h2 : ∀ k ∈ L, k < n) : L.length ≤ n := by
  have := h.length_le_of_subset (l₂ := List.range n) (fun b hb => List.mem_range.2 (h2 b hb))
  simpa using this
include h hl in
theorem far_in (row met : List Nat) (hmet : ∀ k ∈ met, k < l.length) (m : Int) (i : Nat) (hi : i < row.length) (hb : row.getD i default < l.length) (K : List Int × List Int → Option Int) :
    ∀ (c x : Nat) (N : List Nat), x + c = l.length → t ≤ x → (t < x ∨ Eg l (row.getD i default) t = false) → New l t row met N →
    ∃ N', New l t row met N' ∧ (∀ k ∈ N, k ∈ N') ∧ (∀ k, x ≤ k → k < l.length → Eg l (row.getD i default) k = true → k ∈ met ++ N') ∧
      walkN (parrelref26_far_b2 l (t : Int) m (ic row) (i : Int) K) (parrelref26_far_e2 K) c x (ic (met ++ N), ic N) = K (ic (met ++ N'), ic N') := by
  intro c
  induction c with
  | zero => intro x N hx _ _ hN; exact ⟨N, hN, fun _ h => h, fun k h1 h2 => by omega, rfl⟩
  | succ c ih =>
    intro x N hx htx hor hN
    have hxl : x < l.length := by omega
    have e1 : (ic row).getD ((i : Int)).toNat default = ((row.getD i default : Nat) : Int) := by
      rw [Int.toNat_natCast]; exact getD_map (fun (k : Nat) => (k : Int)) hi
    have hml : (met ++ N).length ≤ l.length := nd_len hN.1 (fun k hk => by
      rcases List.mem_append.1 hk with hk | hk
      · exact hmet k hk
      · exact (hN.2 k hk).1)
    have hskip : Eg l (row.getD i default) x = false → ∃ N', New l t row met N' ∧ (∀ k ∈ N, k ∈ N') ∧ (∀ k, x ≤ k → k < l.length → Eg l (row.getD i default) k = true → k ∈ met ++ N') ∧
        walkN (parrelref26_far_b2 l (t : Int) m (ic row) (i : Int) K) (parrelref26_far_e2 K) c (x + 1) (ic (met ++ N), ic N) = K (ic (met ++ N'), ic N') := by
      intro he
      obtain ⟨N', g1, g2, g3, g4⟩ := ih (x + 1) N (by omega) (by omega) (.inl (by omega)) hN
      refine ⟨N', g1, g2, fun k k1 k2 k3 => ?_, g4⟩
      by_cases ek : k = x
      · subst ek; rw [he] at k3; cases k3
      · exact g3 k (by omega) k2 k3
    rw [walkN, parrelref26_far_b2]
    dsimp only
    rw [if_pos (by simp only [List.length_map]; omega), e1]
    by_cases exb : x = row.getD i default
    · rw [if_pos (by rw [beq_iff_eq]; omega)]
      exact hskip (by rw [exb]; exact Eg_irr l _)
    · rw [if_neg (by rw [beq_iff_eq]; omega), if_pos (by omega), Int.toNat_natCast, ahead_eq _ _ (h _ (getD_mem hb)) (h _ (getD_mem hxl)), Option.bind_some]
      rw [← Eg_ne (fun e => exb e.symm)]
      cases he : Eg l (row.getD i default) x with
      | false => rw [if_pos (show (!false) = true from rfl)]; exact hskip he
      | true =>
        have htx' : t < x := by
          rcases hor with h | h
          · exact h
          · rcases Nat.lt_or_ge t x with h' | h'
            · exact h'
            · have : x = t := by omega
              rw [this, h] at he; cases he
        rw [if_neg (by simp), if_neg (by rw [beq_iff_eq]; omega), has2_eq _ _ (by simp only [List.length_map]; omega), Option.bind_some, cont_cast]
        cases hc : (met ++ N).contains x with
        | true =>
          rw [if_neg (by simp)]
          obtain ⟨N', g1, g2, g3, g4⟩ := ih (x + 1) N (by omega) (by omega) (.inl (by omega)) hN
          refine ⟨N', g1, g2, fun k k1 k2 k3 => ?_, g4⟩
          by_cases ek : k = x
          · subst ek
            have := List.contains_iff_mem.1 hc
            rcases List.mem_append.1 this with h | h
            · exact List.mem_append_left _ h
            · exact List.mem_append_right _ (g2 k h)
          · exact g3 k (by omega) k2 k3
        | false =>
          have hnot : x ∉ met ++ N := fun hx => by rw [List.contains_iff_mem.2 hx] at hc; cases hc
          have hN2 : New l t row met (N ++ [x]) := by
            refine ⟨?_, fun k hk => ?_⟩
            · rw [← List.append_assoc, List.nodup_append]
              exact ⟨hN.1, List.nodup_cons.2 ⟨by simp, List.nodup_nil⟩, fun a ha b hb e => by simp only [List.mem_singleton] at hb; subst hb; subst e; exact hnot ha⟩
            · rcases List.mem_append.1 hk with hk | hk
              · exact hN.2 k hk
              · simp only [List.mem_singleton] at hk
                subst hk
                exact ⟨hxl, htx, _, getD_mem hi, he⟩
          rw [if_pos (show (!false) = true from rfl), if_pos (by simp only [List.length_map, List.length_cons, List.length_nil]; omega), if_pos (by simp only [List.length_map, List.length_cons, List.length_nil]; simp only [List.length_append] at hml; omega)]
          obtain ⟨N', g1, g2, g3, g4⟩ := ih (x + 1) (N ++ [x]) (by omega) (by omega) (.inl (by omega)) hN2
          refine ⟨N', g1, fun k hk => g2 k (List.mem_append_left _ hk), fun k k1 k2 k3 => ?_, ?_⟩
          · by_cases ek : k = x
            · subst ek; exact List.mem_append_right _ (g2 k (by simp))
            · exact g3 k (by omega) k2 k3
          · rw [← g4]
            simp [ic]
include h hl ht in
theorem far_hit (row met : List Nat) (m : Int) (i : Nat) (hi : i < row.length) (hb : row.getD i default < l.length) (he : Eg l (row.getD i default) t = true) (K : List Int × List Int → Option Int) (s : List Int × List Int) (c : Nat) :
    walkN (parrelref26_far_b2 l (t : Int) m (ic row) (i : Int) K) (parrelref26_far_e2 K) (c + 1) t s = some m := by
  have e1 : (ic row).getD ((i : Int)).toNat default = ((row.getD i default : Nat) : Int) := by
    rw [Int.toNat_natCast]; exact getD_map (fun (k : Nat) => (k : Int)) hi
  have hne : t ≠ row.getD i default := fun e => by rw [← e, Eg_irr] at he; cases he
  rw [walkN, parrelref26_far_b2, if_pos (by simp only [List.length_map]; omega), e1, if_neg (by rw [beq_iff_eq]; omega), if_pos (by omega), Int.toNat_natCast, ahead_eq _ _ (h _ (getD_mem hb)) (h _ (getD_mem ht)), Option.bind_some, ← Eg_ne (fun e => hne e.symm), he, if_neg (by simp), if_pos (by rw [beq_iff_eq])]
include h hl ht in
theorem far_mid (row met : List Nat) (hmet : ∀ k ∈ met, k < l.length) (hrow : ∀ k ∈ row, k < l.length) (m : Int) (k0 : Int → List Int → List Int → Option Int) :
    ∀ (c i : Nat) (N : List Nat), i + c = row.length → New l t row met N → (∀ j, j < i → Eg l (row.getD j default) t = false ∧ ∀ k, t ≤ k → k < l.length → Eg l (row.getD j default) k = true → k ∈ met ++ N) →
    ((∃ b ∈ row, Eg l b t = true) ∧ walkN (parrelref26_far_b1 l (t : Int) (t : Int) m (ic row) k0) (parrelref26_far_e1 m k0) c i (ic (met ++ N), ic N) = some m) ∨
    ((∀ b ∈ row, Eg l b t = false) ∧ ∃ N', New l t row met N' ∧ (∀ b ∈ row, ∀ k, t ≤ k → k < l.length → Eg l b k = true → k ∈ met ++ N') ∧
      walkN (parrelref26_far_b1 l (t : Int) (t : Int) m (ic row) k0) (parrelref26_far_e1 m k0) c i (ic (met ++ N), ic N) = k0 (IntKind.wrap .i64 (m + 1)) (ic N') (ic (met ++ N'))) := by
  intro c
  induction c with
  | zero =>
    intro i N hi hN hj
    refine .inr ⟨fun b hb => ?_, N, hN, fun b hb => ?_, rfl⟩
    · obtain ⟨j, hj1, hj2⟩ := List.mem_iff_getElem.1 hb
      have := (hj j (by omega)).1
      rw [List.getD_eq_getElem?_getD, List.getElem?_eq_getElem hj1] at this
      simpa [hj2] using this
    · obtain ⟨j, hj1, hj2⟩ := List.mem_iff_getElem.1 hb
      have := (hj j (by omega)).2
      rw [List.getD_eq_getElem?_getD, List.getElem?_eq_getElem hj1] at this
      simpa [hj2] using this
  | succ c ih =>
    intro i N hi hN hj
    have hil : i < row.length := by omega
    have hb := hrow _ (getD_mem hil)
    rw [walkN, parrelref26_far_b1, parrelref26_far_ws2 _ _ _ _ _ _ _ _ _ t (by omega) (by omega)]
    cases he : Eg l (row.getD i default) t with
    | true =>
      refine .inl ⟨⟨_, getD_mem hil, he⟩, ?_⟩
      obtain ⟨c', hc'⟩ : ∃ c', l.length - t = c' + 1 := ⟨l.length - t - 1, by omega⟩
      rw [hc']
      exact far_hit h hl ht row met m i hil hb he _ _ c'
    | false =>
      obtain ⟨N', g1, g2, g3, g4⟩ := far_in h hl row met hmet m i hil hb (fun s_ => walkN (parrelref26_far_b1 l (t : Int) (t : Int) m (ic row) k0) (parrelref26_far_e1 m k0) c (i + 1) (s_.1, s_.2)) (l.length - t) t N (by omega) (Nat.le_refl _) (.inr he) hN
      have g4' := g4
      rw [g4']
      exact ih (i + 1) N' (by omega) g1 (fun j hj' => by
        by_cases e : j = i
        · subst e; exact ⟨he, g3⟩
        · obtain ⟨q1, q2⟩ := hj j (by omega)
          refine ⟨q1, fun k k1 k2 k3 => ?_⟩
          rcases List.mem_append.1 (q2 k k1 k2 k3) with h | h
          · exact List.mem_append_left _ h
          · exact List.mem_append_right _ (g2 k h))
include h hl ht in
theorem far_out (a : Nat) : ∀ (f p fuel : Nat) (row met : List Nat), (row = [] → 1 ≤ f) → (row ≠ [] → l.length + 2 ≤ f + met.length) → f ≤ fuel → p ≤ met.length → (row ≠ [] → p + 1 ≤ met.length) → row.Nodup → met.Nodup → (∀ k ∈ met, k < l.length) →
    (∀ k ∈ row, k < l.length ∧ Wk' l.length (Eg l) t k p a) → (∀ k ∈ met, ∃ r, r ≤ p ∧ Wk' l.length (Eg l) t k r a) →
    (∀ b, Wk' l.length (Eg l) t b p a → b ∈ row ∨ ∃ r, r < p ∧ Wk' l.length (Eg l) t b r a) → (∀ q, 1 ≤ q → q ≤ p → ¬ Wk' l.length (Eg l) t t q a) →
    parrelref26_far_l0 l (t : Int) (t : Int) fuel ((p + 1 : Nat) : Int) (ic row) (ic met) = some (match dst l.length (Eg l) t t a with | some q => (q : Int) | none => 0) := by
  intro f
  induction f with
  | zero =>
    intro p fuel row met h1 h2 _ _ _ _ hnd hm
    exfalso
    have := nd_len hnd hm
    by_cases e : row = []
    · have := h1 e; omega
    · have := h2 e; omega
  | succ f ih =>
    intro p fuel row met h1 h2 h3 h4 hpm hrn h5 h6 h7 h8 h9 h10
    obtain ⟨g, rfl⟩ : ∃ g, fuel = g + 1 := ⟨fuel - 1, by omega⟩
    rw [parrelref26_far_l0]
    by_cases er : row = []
    · subst er
      rw [if_neg (by simp)]
      have hall : ∀ q b, Wk' l.length (Eg l) t b q a → ∃ r, r < p ∧ Wk' l.length (Eg l) t b r a := by
        intro q
        induction q with
        | zero =>
          intro b hb
          rcases Nat.eq_zero_or_pos p with e | e
          · subst e
            rcases h9 b hb with h | ⟨r, hr, _⟩
            · cases h
            · omega
          · exact ⟨0, e, hb⟩
        | succ q ihq =>
          intro b hb
          obtain ⟨k, k1, k2, k3, k4, k5⟩ := wk_last hb
          obtain ⟨r, r1, r2⟩ := ihq k k1
          have hs := wk_snoc k4 k5 r2 k2
          rcases Nat.lt_or_ge (r + 1) p with h | h
          · exact ⟨r + 1, h, hs⟩
          · have e : r + 1 = p := by omega
            rw [e] at hs
            rcases h9 b hs with h | h
            · cases h
            · exact h
      have : dst l.length (Eg l) t t a = none := dst_none.2 fun q hq hw => by
        obtain ⟨q', rfl⟩ : ∃ q', q = q' + 1 := ⟨q - 1, by omega⟩
        obtain ⟨k, k1, k2, k3, k4, k5⟩ := wk_last hw
        obtain ⟨r, r1, r2⟩ := hall q' k k1
        exact h10 (r + 1) (by omega) (by omega) (wk_snoc k4 k5 r2 k2)
      rw [this]
    · have hne : 0 < row.length := List.length_pos_iff.2 er
      have hml := nd_len h5 h6
      rw [if_pos (by rw [decide_eq_true_eq]; simp only [List.length_map]; omega), parrelref26_far_w1 _ _ _ _ _ _ _ _ (by
        have := nd_len hrn (fun k hk => (h7 k hk).1)
        simp only [List.length_map]; omega)]
      have hmid := far_mid h hl ht row met h6 (fun k hk => (h7 k hk).1) ((p + 1 : Nat) : Int) (parrelref26_far_l0 l (t : Int) (t : Int) g) row.length 0 [] (by omega) ⟨by rw [List.append_nil]; exact h5, fun _ h => by cases h⟩ (fun j hj => by omega)
      rw [List.append_nil, show ic [] = [] from rfl] at hmid
      rw [show (ic row).length = row.length by simp]
      rcases hmid with ⟨⟨b, hb, he⟩, hw⟩ | ⟨hno, N', hN, hall, hw⟩
      · rw [hw]
        have : dst l.length (Eg l) t t a = some (p + 1) := dst_some.2 ⟨by omega, wk_snoc ht (Nat.le_refl _) (h7 b hb).2 he, fun q q1 q2 => h10 q q1 (by omega)⟩
        rw [this]
      · rw [hw, w64 (by omega) (by omega)]
        have hml2 : (met ++ N').length ≤ l.length := nd_len hN.1 (fun k hk => by
          rcases List.mem_append.1 hk with hk | hk
          · exact h6 k hk
          · exact (hN.2 k hk).1)
        rw [List.length_append] at hml2
        have h2' := h2 er
        have hpm' := hpm er
        have := ih (p + 1) g N' (met ++ N') (fun _ => by omega) (fun hN' => by
            have := List.length_pos_iff.2 hN'
            rw [List.length_append]; omega) (by omega) (by rw [List.length_append]; omega) (fun hN' => by
            have := List.length_pos_iff.2 hN'
            rw [List.length_append]; omega) (List.nodup_append.1 hN.1).2.1 hN.1 (fun k hk => by
            rcases List.mem_append.1 hk with hk | hk
            · exact h6 k hk
            · exact (hN.2 k hk).1)
          (fun k hk => by
            obtain ⟨k1, k2, b, k3, k4⟩ := hN.2 k hk
            exact ⟨k1, wk_snoc k1 k2 (h7 b k3).2 k4⟩)
          (fun k hk => by
            rcases List.mem_append.1 hk with hk | hk
            · obtain ⟨r, r1, r2⟩ := h8 k hk; exact ⟨r, by omega, r2⟩
            · obtain ⟨k1, k2, b, k3, k4⟩ := hN.2 k hk
              exact ⟨p + 1, Nat.le_refl _, wk_snoc k1 k2 (h7 b k3).2 k4⟩)
          (fun b hb => by
            obtain ⟨k, k1, k2, k3, k4, k5⟩ := wk_last hb
            rcases h9 k k1 with hk | ⟨r, r1, r2⟩
            · rcases List.mem_append.1 (hall k hk b k5 k4 k2) with h | h
              · obtain ⟨r, r1, r2⟩ := h8 b h
                exact .inr ⟨r, by omega, r2⟩
              · exact .inl h
            · exact .inr ⟨r + 1, by omega, wk_snoc k4 k5 r2 k2⟩)
          (fun q q1 q2 hwk => by
            rcases Nat.lt_or_ge p q with hq | hq
            · have e : q = p + 1 := by omega
              subst e
              obtain ⟨k, k1, k2, k3, k4, k5⟩ := wk_last hwk
              rcases h9 k k1 with hk | ⟨r, r1, r2⟩
              · rw [hno k hk] at k2; cases k2
              · exact h10 (r + 1) (by omega) (by omega) (wk_snoc k4 k5 r2 k2)
            · exact h10 q q1 hq hwk)
        exact this
include h hl ht in
theorem far_eq2 (a : Nat) (ha : a < l.length) : parrelref26_far l (a : Int) (t : Int) (t : Int) = some (match dst l.length (Eg l) t t a with | some q => (q : Int) | none => 0) := by
  rw [parrelref26_far]
  exact far_out h hl ht a (l.length + 2) 0 big [a] [a] (fun h => by cases h) (fun _ => by simp) (Nat.le_of_lt (big_lt (by omega))) (by omega) (fun _ => by simp) (List.nodup_cons.2 ⟨by simp, List.nodup_nil⟩) (List.nodup_cons.2 ⟨by simp, List.nodup_nil⟩) (fun k hk => by simp only [List.mem_singleton] at hk; subst hk; exact ha)
    (fun k hk => by simp only [List.mem_singleton] at hk; subst hk; exact ⟨ha, rfl⟩) (fun k hk => by simp only [List.mem_singleton] at hk; subst hk; exact ⟨0, Nat.le_refl _, rfl⟩) (fun b hb => by have hb' : a = b := hb; exact .inl (by simp [hb'])) (fun q q1 q2 => by omega)
end
end Go.Proofs.Ytofkaccoofafmaa.Wk
