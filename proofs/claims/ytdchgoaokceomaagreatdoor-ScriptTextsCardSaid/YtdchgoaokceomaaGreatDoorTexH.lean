import Derived.Test.YtdchgoaokceomaaGreatDoorTexN
import Derived.Test.YtdchgoaokceomaaGreatDoorTexS
import Derived.Test.YtdchgoaokceomaaGreatDoorTexL
set_option linter.unusedVariables false
set_option linter.unusedSimpArgs false
set_option linter.unusedSectionVars false
namespace Go.Proofs.YtdchgoaokceomaaGreatDoor.Wk
open Go Go.Cn
set_option maxRecDepth 10000
def Sm (l : List (List UInt8)) : Prop := ∀ w ∈ l, w.length ≤ 20000
theorem D_P (v : Int) (h : 0 ≤ v) (h2 : v < 100000000000) : (∀ x ∈ D v, isDg x) ∧ dv (D v) 0 = v.toNat ∧ ∃ a r, D v = a :: r ∧ (1 ≤ v.toNat → a ≠ 48) ∧ (v.toNat = 0 → r = []) := dec_P 10 v.toNat (by omega)
theorem bigS {s : List UInt8} (h : s.length ≤ 20000) : s.length < big + 0 := by have := big_lt (n := 100000) (by omega); omega
theorem numB (l : List (List UInt8)) (b : Bool) (s : List UInt8) (hs : s.length ≤ 20000) (most : Int) (hm : 0 ≤ most ∧ most ≤ 2147483647) :
  ∃ v b', sr_number ⟨l, b⟩ s most = some (v, l, b') ∧ 0 ≤ v ∧ v ≤ most ∧ (b' = false → b = false ∧ s = D v) := by
 obtain ⟨⟨v, b', e, h1, h2, h3⟩, _⟩ := num_loop ⟨l, b⟩ s most hm big 0 0 (bigS hs) (by omega)
 refine ⟨v, b', e, h1, h2, fun hb => ?_⟩
 obtain ⟨i1, i2, i3, i4, i5⟩ := h3 hb
 rw [List.drop_zero] at i2 i3
 refine ⟨i1, ?_⟩
 match s, i4 with
 | a :: r, _ =>
  have hv : v.toNat = dv (a :: r) 0 := by omega
  unfold D
  rw [hv]
  refine (dec_U 10 (a :: r) a r rfl i2 (fun hr ha => i5 ?_ (by rw [List.getD_cons_zero, ha]; rfl)) (by omega)).symm
  have := List.length_pos_iff.2 hr
  simp; omega
theorem numA (l : List (List UInt8)) (b : Bool) (v most : Int) (h1 : 0 ≤ v) (h2 : v ≤ most) (hm : 0 ≤ most ∧ most ≤ 2147483647) : sr_number ⟨l, b⟩ (D v) most = some (v, l, b) := by
 obtain ⟨p1, p2, a, r, p3, p4, p5⟩ := D_P v h1 (by omega)
 have hl := D_len v
 have := (num_loop ⟨l, b⟩ (D v) most hm big 0 0 (bigS (by omega)) (by omega)).2 (by simpa using p1) (by rw [List.drop_zero, p2]; omega) (by rw [p3]; simp) (by
  intro h3 h4
  rw [p3] at h3 h4
  rw [List.getD_cons_zero] at h4
  rcases Nat.eq_zero_or_pos v.toNat with h | h
  ·rw [p5 h] at h3; simp at h3
  ·exact p4 h (UInt8.toNat_inj.1 (by rw [h4]; rfl)))
 rw [List.drop_zero, p2] at this
 refine this.trans ?_
 congr 2
 show ((v.toNat : Nat) : Int) = v
 omega
theorem word_cons (w : List UInt8) (l : List (List UInt8)) (b : Bool) : sr_word ⟨w :: l, b⟩ = some (w, l, b) := by
 unfold sr_word
 rw [if_neg (by rw [beq_iff_eq, List.length_cons]; omega), if_pos (by simp only [List.length_cons]; omega), if_pos (by simp only [List.length_cons]; omega)]; simp
theorem sm_tail {w : List UInt8} {l : List (List UInt8)} (h : Sm (w :: l)) : Sm l := fun x hx => h x (List.mem_cons_of_mem _ hx)
theorem wordB (l : List (List UInt8)) (b : Bool) (h : Sm l) : ∃ w l' b', sr_word ⟨l, b⟩ = some (w, l', b') ∧ w.length ≤ 20000 ∧ Sm l' ∧ (b' = false → b = false ∧ l = w :: l') := by
 match l with
 | [] => exact ⟨[], [], true, rfl, by simp, h, by simp⟩
 | w :: l => exact ⟨w, l, b, word_cons w l b, h w (List.mem_cons_self ..), sm_tail h, fun hb => ⟨hb, rfl⟩⟩
theorem rnumB (l : List (List UInt8)) (b : Bool) (h : Sm l) : ∃ v l' b', sr_num ⟨l, b⟩ = some (v, l', b') ∧ Sm l' ∧ 0 ≤ v ∧ v ≤ 2147483647 ∧ (b' = false → b = false ∧ l = D v :: l') := by
 obtain ⟨w, l', b1, e1, h1, h2, h3⟩ := wordB l b h
 obtain ⟨v, b2, e2, h4, h5, h6⟩ := numB l' b1 w h1 2147483647 (by omega)
 refine ⟨v, l', b2, ?_, h2, h4, h5, fun hb => ?_⟩
 ·unfold sr_num; rw [e1, Option.bind_some, e2]; rfl
 ·obtain ⟨i1, i2⟩ := h6 hb; obtain ⟨j1, j2⟩ := h3 i1
  exact ⟨j1, by rw [j2, i2]⟩
theorem rnumA (l : List (List UInt8)) (b : Bool) (v : Int) (h1 : 0 ≤ v) (h2 : v ≤ 2147483647) : sr_num ⟨D v :: l, b⟩ = some (v, l, b) := by
 unfold sr_num; rw [word_cons, Option.bind_some, numA l b v _ h1 h2 (by omega)]; rfl
theorem rsmallB (l : List (List UInt8)) (b : Bool) (h : Sm l) : ∃ v l' b', sr_small ⟨l, b⟩ = some (v, l', b') ∧ Sm l' ∧ 0 ≤ v ∧ v < 256 ∧ (b' = false → b = false ∧ l = D v :: l') := by
 obtain ⟨w, l', b1, e1, h1, h2, h3⟩ := wordB l b h
 obtain ⟨v, b2, e2, h4, h5, h6⟩ := numB l' b1 w h1 255 (by omega)
 refine ⟨v, l', b2, ?_, h2, h4, by omega, fun hb => ?_⟩
 ·unfold sr_small; rw [e1, Option.bind_some, e2]
  show some (IntKind.wrap .u8 v, _, _) = _
  rw [wu8 h4 (by omega)]
 ·obtain ⟨i1, i2⟩ := h6 hb; obtain ⟨j1, j2⟩ := h3 i1
  exact ⟨j1, by rw [j2, i2]⟩
theorem rsmallA (l : List (List UInt8)) (b : Bool) (v : Int) (h1 : 0 ≤ v) (h2 : v < 256) : sr_small ⟨D v :: l, b⟩ = some (v, l, b) := by
 unfold sr_small; rw [word_cons, Option.bind_some, numA l b v _ h1 (by omega) (by omega)]
 show some (IntKind.wrap .u8 v, _, _) = _
 rw [wu8 h1 h2]
theorem D_ne (v : Int) (h : 0 ≤ v) (h2 : v < 100000000000) : D v ≠ [45, 49] := by
 intro e
 have := (D_P v h h2).1 45 (by rw [e]; simp)
 unfold isDg at this
 exact absurd this.1 (by decide)
theorem rkeepB (l : List (List UInt8)) (b : Bool) (h : Sm l) : ∃ v l' b', sr_keep ⟨l, b⟩ = some (v, l', b') ∧ Sm l' ∧ -1 ≤ v ∧ v ≤ 2147483647 ∧ (b' = false → b = false ∧ l = S v :: l') := by
 obtain ⟨w, l', b1, e1, h1, h2, h3⟩ := wordB l b h
 unfold sr_keep; rw [e1, Option.bind_some]
 by_cases hw : w = [45, 49]
 ·refine ⟨-1, l', b1, by rw [if_pos (by simpa using hw)], h2, by omega, by omega, fun hb => ?_⟩
  obtain ⟨j1, j2⟩ := h3 hb
  exact ⟨j1, by rw [j2, hw]; rfl⟩
 ·obtain ⟨v, b2, e2, h4, h5, h6⟩ := numB l' b1 w h1 2147483647 (by omega)
  refine ⟨v, l', b2, by rw [if_neg (by simpa using hw), e2]; rfl, h2, by omega, h5, fun hb => ?_⟩
  obtain ⟨i1, i2⟩ := h6 hb; obtain ⟨j1, j2⟩ := h3 i1
  exact ⟨j1, by rw [j2, i2]; unfold S; rw [if_neg (by omega)]⟩
theorem rkeepA (l : List (List UInt8)) (b : Bool) (v : Int) (h1 : -1 ≤ v) (h2 : v ≤ 2147483647) : sr_keep ⟨S v :: l, b⟩ = some (v, l, b) := by
 unfold sr_keep S; rw [word_cons, Option.bind_some]
 by_cases h : v < 0
 ·rw [if_pos h, if_pos (by rfl)]; rw [show v = -1 from by omega]
 ·rw [if_neg h, if_neg (by simpa using D_ne v (by omega) (by omega)), numA l b v _ (by omega) h2 (by omega)]; rfl
theorem ix_loop (L : List (List UInt8)) (w : List UInt8) (hL : L.length < 1000) : ∀ (fuel i : Nat), L.length < fuel + i → i ≤ L.length →
  ∃ k : Int, slices_Index_string_string_l0 L w fuel (i : Int) = some k ∧ (k = -1 ∨ (0 ≤ k ∧ k < L.length ∧ L.getD k.toNat default = w))
 | 0, i, h, hi => by omega
 | fuel + 1, i, h, hi => by
  rw [slices_Index_string_string_l0]
  by_cases hlt : i < L.length
  ·rw [if_pos (by rw [decide_eq_true_eq]; omega), if_pos (by omega), Int.toNat_natCast]
   by_cases hw : w = L.getD i default
   ·exact ⟨i, by rw [if_pos (by rw [beq_iff_eq]; exact hw)], .inr ⟨by omega, by omega, by rw [Int.toNat_natCast, ← hw]⟩⟩
   ·rw [if_neg (by rw [beq_iff_eq]; exact hw), w64 (by omega) (by omega)]
    exact ix_loop L w hL fuel (i + 1) (by omega) (by omega)
  ·exact ⟨-1, by rw [if_neg (by rw [decide_eq_true_eq]; omega)], .inl rfl⟩
theorem rofB (L : List (List UInt8)) (hL : L.length < 200) (l : List (List UInt8)) (b : Bool) (h : Sm l) : ∃ v l' b', sr_of ⟨l, b⟩ L = some (v, l', b') ∧ Sm l' ∧ 0 ≤ v ∧ (v = 0 ∨ v < L.length) ∧
  (b' = false → b = false ∧ 1 ≤ v ∧ v < L.length ∧ l = L.getD v.toNat default :: l') := by
 obtain ⟨w, l', b1, e1, h1, h2, h3⟩ := wordB l b h
 obtain ⟨k, e2, h4⟩ := ix_loop L w (by omega) big 0 (by have := big_lt (n := 100000) (by omega); omega) (by omega)
 have e2 : slices_Index_string_string L w = some k := e2
 unfold sr_of; rw [e1, Option.bind_some, e2, Option.bind_some]
 by_cases hk : k < 1
 ·exact ⟨0, l', true, by rw [if_pos (by simpa using hk)], h2, by omega, .inl rfl, by simp⟩
 ·refine ⟨k, l', b1, by rw [if_neg (by simpa using hk)], h2, by omega, .inr (by omega), fun hb => ?_⟩
  obtain ⟨j1, j2⟩ := h3 hb
  rcases h4 with h4 | ⟨h4, h5, h6⟩
  ·omega
  ·exact ⟨j1, by omega, h5, by rw [h6]; exact j2⟩
theorem ix_first (L : List (List UInt8)) (w : List UInt8) (hL : L.length < 1000) (m : Nat) (hm : m < L.length) (hw : L.getD m default = w) (hn : ∀ k, k < m → L.getD k default ≠ w) : ∀ (fuel i : Nat), L.length < fuel + i → i ≤ m →
  slices_Index_string_string_l0 L w fuel (i : Int) = some (m : Int)
 | 0, i, h, hi => by omega
 | fuel + 1, i, h, hi => by
  rw [slices_Index_string_string_l0, if_pos (by rw [decide_eq_true_eq]; omega), if_pos (by omega), Int.toNat_natCast]
  by_cases he : i = m
  ·subst he; rw [if_pos (by rw [beq_iff_eq]; exact hw.symm)]
  ·rw [if_neg (by rw [beq_iff_eq]; exact fun e => hn i (by omega) e.symm), w64 (by omega) (by omega)]
   exact ix_first L w hL m hm hw hn fuel (i + 1) (by omega) (by omega)
theorem rofA (L : List (List UInt8)) (hL : L.length < 200) (w : List UInt8) (m : Nat) (h1 : 1 ≤ m) (hm : m < L.length) (hw : L.getD m default = w) (hn : ∀ k, k < m → L.getD k default ≠ w) (l : List (List UInt8)) (b : Bool) :
  sr_of ⟨w :: l, b⟩ L = some ((m : Int), l, b) := by
 have e : slices_Index_string_string L w = some (m : Int) := ix_first L w (by omega) m hm hw hn big 0 (by have := big_lt (n := 100000) (by omega); omega) (by omega)
 unfold sr_of; rw [word_cons, Option.bind_some, e, Option.bind_some, if_neg (by rw [decide_eq_true_eq]; omega)]
end Go.Proofs.YtdchgoaokceomaaGreatDoor.Wk
