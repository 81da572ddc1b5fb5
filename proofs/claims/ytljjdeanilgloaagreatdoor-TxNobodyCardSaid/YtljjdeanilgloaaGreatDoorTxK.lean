import Derived.Test.YtljjdeanilgloaaGreatDoorTxW
import Derived.Test.YtljjdeanilgloaaGreatDoorCnX
import Derived.Test.YtljjdeanilgloaaGreatDoorCnY
import Derived.Test.YtljjdeanilgloaaGreatDoorCnZ
import Derived.Lib.IndexLaws
set_option linter.unusedVariables false
set_option linter.unusedSimpArgs false
set_option linter.unusedSectionVars false
namespace Go.Proofs.YtljjdeanilgloaaGreatDoor.Wk
open Go Go.Cn
theorem cmp8_eq (x y : Int) : BG x y = some (cmp3 x y) := by
  simp only [BG, Ad, Option.bind_some, bne_self_eq_false, Bool.false_eq_true, if_false, decide_eq_true_eq, cmp3]
  split <;> (try split) <;> rfl
theorem getD_drop {α : Type} (l : List α) (k : Nat) (d : α) (h : k < l.length) : l.drop k = l.getD k d :: l.drop (k + 1) := by
  rw [List.drop_eq_getElem_cons h, List.getD_eq_getElem?_getD, List.getElem?_eq_getElem h]; rfl
theorem cmp3_zero {a b : Int} : cmp3 a b = 0 ↔ ¬ a < b ∧ ¬ b < a := by
  unfold cmp3; split
  · omega
  · split <;> omega
theorem keys_loop (a b : A8 Int) : ∀ (fuel k : Nat), 8 - k < fuel → k ≤ 8 → AP_l0 a b fuel (k : Int) = some (lexI (a.list.drop k) (b.list.drop k))
  | 0, k, h, _ => by omega
  | fuel + 1, k, h, hk => by
    rw [AP_l0]
    by_cases hlt : k < 8
    · rw [if_pos (by simp only [decide_eq_true_eq]; omega), if_pos (by omega), if_neg (by simp only [decide_eq_true_eq]; omega)]
      rw [getD_drop a.list k default (by simpa [A8.list] using hlt), getD_drop b.list k default (by simpa [A8.list] using hlt), A8.list_get a default hlt, A8.list_get b default hlt]
      simp only [Int.toNat_natCast, cmp8_eq, Option.bind_some, bne_iff_ne, ne_eq]
      rw [w64 (by omega) (by omega)]
      have ih := keys_loop a b fuel (k + 1) (by omega) (by omega)
      simp only [lexI]
      by_cases h1 : a.get k < b.get k
      · rw [if_pos (by unfold cmp3; rw [if_pos h1]; decide), if_pos h1]; simp [cmp3, h1]
      · by_cases h2 : b.get k < a.get k
        · rw [if_pos (by unfold cmp3; rw [if_neg h1, if_pos h2]; decide), if_neg h1, if_pos h2]; simp [cmp3, h1, h2]
        · rw [if_neg (by simp [cmp3_zero, h1, h2]), if_neg h1, if_neg h2]; exact ih
    · rw [if_neg (by simp only [decide_eq_true_eq]; omega)]
      have : k = 8 := by omega
      subst this
      rfl
theorem keys_eq (a b : A8 Int) : CV a b = some (lexI a.list b.list) := by
  have := keys_loop a b big 0 (big_lt (by omega)) (by omega)
  simp only [CV, AP]
  rw [show (0 : Int) = ((0 : Nat) : Int) from rfl, this]
  rfl
theorem lex_anti : ∀ (l m : List Int), lexI l m = - lexI m l
  | [], [] => rfl
  | [], _ :: _ => rfl
  | _ :: _, [] => rfl
  | a :: l, b :: m => by
    have ih := lex_anti l m
    simp only [lexI]
    split <;> split <;> first | omega | (try split) <;> first | omega | exact ih
theorem lex_zero : ∀ (l m : List Int), l.length = m.length → (lexI l m = 0 ↔ l = m)
  | [], [], _ => by simp [lexI]
  | [], _ :: _, h => by simp at h
  | _ :: _, [], h => by simp at h
  | a :: l, b :: m, h => by
    have ih := lex_zero l m (by simpa using h)
    simp only [lexI, List.cons.injEq]
    split
    · constructor <;> intro h <;> omega
    · split
      · constructor <;> intro h <;> omega
      · rw [ih]
        constructor
        · intro h; exact ⟨by omega, h⟩
        · intro h; exact h.2
theorem lex_trans : ∀ (l m p : List Int), l.length = m.length → m.length = p.length → lexI l m ≤ 0 → lexI m p ≤ 0 → lexI l p ≤ 0
  | [], _, _, _, _, _, _ => by simp [lexI]
  | _ :: _, [], _, h, _, _, _ => by simp at h
  | _ :: _, _ :: _, [], _, h, _, _ => by simp at h
  | a :: l, b :: m, c :: p, h1, h2, h3, h4 => by
    have ih := lex_trans l m p (by simpa using h1) (by simpa using h2)
    simp only [lexI] at h3 h4 ⊢
    split at h3
    · split at h4
      · rw [if_pos (by omega)]; decide
      · split at h4
        · omega
        · rw [if_pos (by omega)]; decide
    · split at h3
      · omega
      · split at h4
        · rw [if_pos (by omega)]; decide
        · split at h4
          · omega
          · rw [if_neg (by omega), if_neg (by omega)]
            exact ih h3 h4
theorem list8_inj (a b : A8 Int) : a.list = b.list ↔ a = b := by
  rw [A8.x]; simp [A8.list]
def bI (l : List UInt8) (i : Nat) : Int := ((l.getD i 0).toNat : Int)
def pad (l : List UInt8) : A8 Int := ⟨bI l 0, bI l 1, bI l 2, bI l 3, bI l 4, bI l 5, bI l 6, bI l 7⟩
def Tight (t : List UInt8) : Prop := ∀ u, t ≠ u ++ [0]
theorem last0 (t : List UInt8) (h : t ≠ []) (hz : t.getD (t.length - 1) 0 = 0) : ∃ u, t = u ++ [0] := by
  have hp : 0 < t.length := List.length_pos_iff.mpr h
  refine ⟨t.dropLast, ?_⟩
  have h1 := List.dropLast_concat_getLast h
  rw [List.getD_eq_getElem?_getD, List.getElem?_eq_getElem (by omega)] at hz
  rw [List.getLast_eq_getElem] at h1
  rw [show t[t.length - 1] = 0 from hz] at h1
  exact h1.symm
theorem bI_app (t : List UInt8) (a i : Nat) : bI (t ++ List.replicate a 0) i = bI t i := by
  unfold bI
  simp only [List.getD_eq_getElem?_getD]
  rcases Nat.lt_or_ge i t.length with h | h
  · rw [List.getElem?_append_left h]
  · rw [List.getElem?_append_right h, List.getElem?_eq_none (l := t) (by omega), List.getElem?_replicate]
    split <;> rfl
theorem pad_app (t : List UInt8) (a : Nat) : pad (t ++ List.replicate a 0) = pad t := by simp only [pad, bI_app]
def kb (k : A8 Int) : List UInt8 := strI (([k.a0, k.a1, k.a2, k.a3, k.a4, k.a5, k.a6, k.a7] : List Int).take 8)
def wfK (k : A8 Int) : Prop := ∀ x ∈ k.list, 0 ≤ x ∧ x < 256
theorem of_toNat (x : Int) (h : 0 ≤ x ∧ x < 256) : (((UInt8.ofNat x.toNat).toNat : Nat) : Int) = x := by
  rw [UInt8.toNat_ofNat']
  omega
theorem kb_len (k : A8 Int) : (kb k).length = 8 := by simp [kb, strI]
theorem pad_kb (k : A8 Int) (h : wfK k) : pad (kb k) = k := by
  obtain ⟨a0, a1, a2, a3, a4, a5, a6, a7⟩ := k
  simp only [wfK, A8.list, List.mem_cons, List.not_mem_nil, or_false, forall_eq_or_imp, forall_eq] at h
  obtain ⟨h0, h1, h2, h3, h4, h5, h6, h7⟩ := h
  show A8.mk _ _ _ _ _ _ _ _ = _
  simp only [A8.mk.injEq]
  exact ⟨of_toNat _ h0, of_toNat _ h1, of_toNat _ h2, of_toNat _ h3, of_toNat _ h4, of_toNat _ h5, of_toNat _ h6, of_toNat _ h7⟩
theorem pad_get (l : List UInt8) (j : Nat) (h : j < 8) : A8.get (pad l) j = bI l j := by
  rcases lt8 h with rfl | rfl | rfl | rfl | rfl | rfl | rfl | rfl <;> rfl
open Classical in
theorem rest_loop (k : A8 Int) (m : Int) (hm : 0 ≤ m ∧ m ≤ 8) : ∀ (fuel i : Nat), 8 < fuel + i → i ≤ 8 →
    AQ_l1 k m fuel (i : Int) = if (∃ j, i ≤ j ∧ j < 8 ∧ A8.get k j ≠ 0) ∨ m = 0 then some ([], false) else some (strI (([k.a0, k.a1, k.a2, k.a3, k.a4, k.a5, k.a6, k.a7] : List Int).take m.toNat), true)
  | 0, i, h, hi => by omega
  | fuel + 1, i, h, hi => by
    rw [AQ_l1]
    by_cases hlt : i < 8
    · rw [if_pos (by simp only [decide_eq_true_eq]; omega), if_pos (by omega), Int.toNat_natCast]
      by_cases hb : A8.get k i = 0
      · rw [if_neg (by simp [hb]), w64 (by omega) (by omega)]
        have := rest_loop k m hm fuel (i + 1) (by omega) (by omega)
        rw [show ((i : Nat) : Int) + 1 = ((i + 1 : Nat) : Int) from rfl, this]
        have e : (∃ j, i + 1 ≤ j ∧ j < 8 ∧ A8.get k j ≠ 0) ↔ (∃ j, i ≤ j ∧ j < 8 ∧ A8.get k j ≠ 0) := by
          constructor
          · rintro ⟨j, h1, h2, h3⟩; exact ⟨j, by omega, h2, h3⟩
          · rintro ⟨j, h1, h2, h3⟩
            refine ⟨j, ?_, h2, h3⟩
            rcases Nat.eq_or_lt_of_le h1 with rfl | h4
            · exact absurd hb h3
            · exact h4
        simp only [e]
      · rw [if_pos (by simp [hb]), if_pos (.inl ⟨i, Nat.le_refl _, hlt, hb⟩)]
    · rw [if_neg (by simp only [decide_eq_true_eq]; omega)]
      have e : ¬ ∃ j, i ≤ j ∧ j < 8 ∧ A8.get k j ≠ 0 := by rintro ⟨j, h1, h2, _⟩; omega
      by_cases hz : m = 0
      · rw [if_pos (by simpa using hz), if_pos (.inr hz)]
      · rw [if_neg (by simpa using hz), if_pos (by omega), if_neg (by simp only [e, hz, or_self, not_false_eq_true])]
theorem nfirst_loop (k : A8 Int) (m : Nat) (hm : m ≤ 8) (h1 : ∀ j, j < m → A8.get k j ≠ 0) (h2 : m = 8 ∨ A8.get k m = 0) : ∀ (fuel i : Nat), 8 < fuel + i → i ≤ m →
    AQ_l0 k fuel (i : Int) = AQ_l1 k (m : Int) big (m : Int)
  | 0, i, h, hi => by omega
  | fuel + 1, i, h, hi => by
    rw [AQ_l0]
    by_cases hlt : i < m
    · rw [if_pos (by simp only [decide_eq_true_eq]; omega), if_pos (by omega), Int.toNat_natCast, if_pos (by simpa using h1 i hlt), w64 (by omega) (by omega)]
      exact nfirst_loop k m hm h1 h2 fuel (i + 1) (by omega) (by omega)
    · have him : i = m := by omega
      rw [him]
      rcases h2 with h2 | h2
      · rw [if_neg (by simp only [decide_eq_true_eq]; omega)]
      · by_cases h8 : m = 8
        · rw [if_neg (by simp only [decide_eq_true_eq]; omega)]
        · rw [if_pos (by simp only [decide_eq_true_eq]; omega), if_pos (by omega), Int.toNat_natCast, if_neg (by simp [h2])]
theorem bI_zero (l : List UInt8) (i : Nat) : bI l i = 0 ↔ l.getD i 0 = 0 := by
  unfold bI
  constructor
  · intro h; exact UInt8.toNat_inj.mp (by simpa using h)
  · intro h; rw [h]; rfl
open Classical in
theorem name2 (k : A8 Int) (h : wfK k) (t : List UInt8) (a : Nat) (he : kb k = t ++ List.replicate a 0) (ht : Tight t) :
    AQ k = if t = [] ∨ (0 : UInt8) ∈ t then some ([], false) else some (t, true) := by
  have hlen := kb_len k
  rw [he] at hlen
  simp only [List.length_append, List.length_replicate] at hlen
  have hk : pad t = k := by rw [← pad_app t a, ← he, pad_kb k h]
  have hget : ∀ j, j < 8 → (A8.get k j = 0 ↔ t.getD j 0 = 0) := fun j hj => by rw [← hk, pad_get t j hj, bI_zero]
  have hb : ∀ i, i ≤ 8 → 8 < big + i := fun i _ => by have := big_lt (n := 8) (by omega); omega
  have mk : ∀ m : Nat, m ≤ 8 → (∀ j, j < m → t.getD j 0 ≠ 0) → (m = 8 ∨ t.getD m 0 = 0) → AQ k = if (∃ j, m ≤ j ∧ j < 8 ∧ A8.get k j ≠ 0) ∨ (m : Int) = 0 then some ([], false) else some (strI (([k.a0, k.a1, k.a2, k.a3, k.a4, k.a5, k.a6, k.a7] : List Int).take m), true) := by
    intro m hm h1 h2
    have e1 := nfirst_loop k m hm (fun j hj hc => h1 j hj ((hget j (by omega)).1 hc)) (by
      rcases h2 with h2 | h2
      · exact .inl h2
      · by_cases h8 : m = 8
        · exact .inl h8
        · exact .inr ((hget m (by omega)).2 h2)) big 0 (hb 0 (by omega)) (by omega)
    have e2 := rest_loop k m ⟨by omega, by omega⟩ big m (hb m hm) hm
    rw [Int.toNat_natCast] at e2
    exact e1.trans e2
  by_cases h1 : t = []
  · subst h1
    rw [mk 0 (by omega) (fun j hj => by omega) (.inr rfl), if_pos (.inr rfl), if_pos (.inl rfl)]
  · by_cases h2 : (0 : UInt8) ∈ t
    · obtain ⟨u, v, e, hu⟩ := List.eq_append_cons_of_mem h2
      have hv : v ≠ [] := by rintro rfl; exact ht u e
      have hul : u.length < t.length := by rw [e]; simp
      have g1 : ∀ j, j < u.length → t.getD j 0 ≠ 0 := fun j hj hc => by
        rw [e, List.getD_eq_getElem?_getD, List.getElem?_append_left hj, List.getElem?_eq_getElem hj] at hc
        exact hu (hc ▸ List.getElem_mem hj)
      have g2 : t.getD u.length 0 = 0 := by rw [e, List.getD_eq_getElem?_getD, List.getElem?_append_right (Nat.le_refl _)]; simp
      have hvl : 0 < v.length := List.length_pos_iff.mpr hv
      have htl : t.length = u.length + (v.length + 1) := by rw [e]; simp
      have g3 : A8.get k (t.length - 1) ≠ 0 := fun hc => by
        obtain ⟨u', hu'⟩ := last0 t h1 ((hget (t.length - 1) (by omega)).1 hc)
        exact ht u' hu'
      rw [mk u.length (by omega) g1 (.inr g2), if_pos (.inl ⟨t.length - 1, by omega, by omega, g3⟩), if_pos (.inr h2)]
    · have hl0 : t.length ≠ 0 := fun h => h1 (List.length_eq_zero_iff.mp h)
      have g1 : ∀ j, j < t.length → t.getD j 0 ≠ 0 := fun j hj hc => by
        rw [List.getD_eq_getElem?_getD, List.getElem?_eq_getElem hj] at hc
        exact h2 (hc ▸ List.getElem_mem hj)
      have g2 : t.getD t.length 0 = 0 := by rw [List.getD_eq_getElem?_getD, List.getElem?_eq_none (Nat.le_refl _)]; rfl
      rw [mk t.length (by omega) g1 (.inr g2), if_neg ?_, if_neg (by simp [h1, h2])]
      · have : strI (([k.a0, k.a1, k.a2, k.a3, k.a4, k.a5, k.a6, k.a7] : List Int).take t.length) = t := by
          have e1 : (kb k).take t.length = t := by rw [he, List.take_left]
          conv => rhs; rw [← e1]
          unfold kb strI
          rw [← List.map_take, List.take_take, Nat.min_eq_left (by omega)]
        rw [this]
      · rintro (⟨j, h3, h4, h5⟩ | h3)
        · refine h5 ((hget j h4).2 ?_)
          rw [List.getD_eq_getElem?_getD, List.getElem?_eq_none (by omega)]; rfl
        · omega
def kc (k : A8 Int) : List LV := [.int .u8 k.a0, .int .u8 k.a1, .int .u8 k.a2, .int .u8 k.a3, .int .u8 k.a4, .int .u8 k.a5, .int .u8 k.a6, .int .u8 k.a7]
def cfK (a b : A8 Int) : Int := lexI a.list b.list
theorem key_total : ∀ x y, CV x y = some (cfK x y) := keys_eq
open Classical in
noncomputable def mayK (k : A8 Int) : Bool := if h : ∃ t a, kb k = t ++ List.replicate a 0 ∧ Tight t then (if h.choose = [] ∨ (0 : UInt8) ∈ h.choose then false else true) else false
end Go.Proofs.YtljjdeanilgloaaGreatDoor.Wk
