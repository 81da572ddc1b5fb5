import Derived.Test.YtdchgoaokceomaaGreatDoorTexW
import Derived.Test.YtdchgoaokceomaaGreatDoorCnX
import Derived.Lib.IndexLaws
set_option linter.unusedVariables false
set_option linter.unusedSimpArgs false
set_option linter.unusedSectionVars false
namespace Go.Proofs.YtdchgoaokceomaaGreatDoor.Wk
open Go Go.Cn
theorem getD_drop {α : Type} (l : List α) (k : Nat) (d : α) (h : k < l.length) : l.drop k = l.getD k d :: l.drop (k + 1) := by
 rw [List.drop_eq_getElem_cons h, List.getD_eq_getElem?_getD, List.getElem?_eq_getElem h]; rfl
def KeyB (k : A8 Int) : Prop := ∀ i, i < 8 → 0 ≤ k.get i ∧ k.get i < 256
def bI (l : List UInt8) (i : Nat) : Int := ((l.getD i 0).toNat : Int)
def pad (l : List UInt8) : A8 Int := ⟨bI l 0, bI l 1, bI l 2, bI l 3, bI l 4, bI l 5, bI l 6, bI l 7⟩
def zeroK : A8 Int := A8.mk 0 0 0 0 0 0 0 0
def keyOf (s : List UInt8) : A8 Int × Int := if s = [] ∨ 8 < s.length ∨ (0 : UInt8) ∈ s then (zeroK, 1) else (pad s, 0)
theorem bI_if (s : List UInt8) (i : Nat) : (if i < s.length then ((s.getD i 0).toNat : Int) else 0) = bI s i := by
 unfold bI
 by_cases h : i < s.length
 ·rw [if_pos h]
 ·rw [if_neg h, List.getD_eq_getElem?_getD, List.getElem?_eq_none (by omega)]; rfl
theorem ib_lt (s : List UInt8) : (0 ≤ Lib.indexByte s 0) ↔ (0 : UInt8) ∈ s := by
 constructor
 ·intro h
  obtain ⟨o, ho⟩ := Int.eq_ofNat_of_zero_le h
  exact List.mem_of_getElem? (Lib.indexByte_some ho).1
 ·intro h
  have hge := Lib.indexByte_ge s 0
  rcases Int.lt_or_le (Lib.indexByte s 0) 0 with hl | hl
  ·obtain ⟨k, hk⟩ := List.getElem?_of_mem h
   exact absurd hk (Lib.indexByte_none (by omega) k)
  ·exact hl
theorem key1 (s : List UInt8) : ids_KeyOf s = some (keyOf s) := by
 have e0 : strings_IndexByte s 0 = some (Lib.indexByte s 0) := rfl
 unfold ids_KeyOf keyOf
 rw [e0]
 by_cases h1 : s = []
 ·subst h1; rfl
 ·rw [if_neg (by simpa using h1)]
  by_cases h2 : 8 < s.length
  ·rw [if_pos (by simp only [decide_eq_true_eq]; omega), if_pos (.inr (.inl h2))]; rfl
  ·rw [if_neg (by simp only [decide_eq_true_eq]; omega)]
   simp only [Option.bind_some]
   by_cases h3 : (0 : UInt8) ∈ s
   ·rw [if_pos (by simpa using (ib_lt s).2 h3), if_pos (.inr (.inr h3))]; rfl
   ·rw [if_neg (by rw [decide_eq_true_eq]; exact fun h => h3 ((ib_lt s).1 h)), show (if s = [] ∨ 8 < s.length ∨ (0 : UInt8) ∈ s then (zeroK, (1 : Int)) else (pad s, 0)) = (pad s, 0) from if_neg (by simp [h1, h3]; omega)]
    simp only [bI_if]; rfl
theorem bI_take (s : List UInt8) (i j : Nat) : bI (s.take i) j = if j < i then bI s j else 0 := by
 unfold bI
 simp only [List.getD_eq_getElem?_getD, List.getElem?_take]
 split <;> rfl
theorem bI_nil (i : Nat) : bI [] i = 0 := rfl
def Tight (t : List UInt8) : Prop := ∀ u, t ≠ u ++ [0]
theorem tight_of (t : List UInt8) (h : (0 : UInt8) ∉ t) : Tight t := by
 rintro u rfl
 exact h (by simp)
theorem split0 : ∀ (n : Nat) (l : List UInt8), l.length = n → ∃ t a, l = t ++ List.replicate a 0 ∧ Tight t
 | 0, l, h => ⟨[], 0, by simpa using List.length_eq_zero_iff.mp h, by intro u hu; simp at hu⟩
 | n + 1, l, h => by
  by_cases hz : ∃ u, l = u ++ [0]
  ·obtain ⟨u, rfl⟩ := hz
   obtain ⟨t, a, rfl, ht⟩ := split0 n u (by simpa using h)
   exact ⟨t, a + 1, by rw [List.replicate_succ', List.append_assoc], ht⟩
  ·exact ⟨l, 0, by simp, fun u hu => hz ⟨u, hu⟩⟩
theorem last0 (t : List UInt8) (h : t ≠ []) (hz : t.getD (t.length - 1) 0 = 0) : ∃ u, t = u ++ [0] := by
 have hp : 0 < t.length := List.length_pos_iff.mpr h
 refine ⟨t.dropLast, ?_⟩
 have h1 := List.dropLast_concat_getLast h
 rw [List.getD_eq_getElem?_getD, List.getElem?_eq_getElem (by omega)] at hz
 rw [List.getLast_eq_getElem] at h1
 rw [show t[t.length - 1] = 0 from hz] at h1
 exact h1.symm
theorem trim_loop : ∀ (a fuel : Nat) (t : List UInt8), a < fuel → t.length + a ≤ 100 → Tight t → strings_trimRightByte_l0 0 fuel (t ++ List.replicate a 0) = some t
 | _, 0, _, h, _, _ => by omega
 | 0, fuel + 1, t, h, hl, ht => by
  rw [strings_trimRightByte_l0]
  simp only [List.replicate_zero, List.append_nil]
  by_cases hn : t = []
  ·subst hn; rfl
  ·have hp : 0 < t.length := List.length_pos_iff.mpr hn
   rw [if_pos (by simp only [decide_eq_true_eq]; omega), w64 (by omega) (by omega), if_pos (by omega), if_neg ?_]
   simp only [beq_iff_eq]
   intro hc
   have e1 : (((t.length : Nat) : Int) - 1).toNat = t.length - 1 := by omega
   rw [e1] at hc
   have e2 : t.getD (t.length - 1) 0 = 0 := UInt8.toNat_inj.mp (by simpa using hc)
   obtain ⟨u, hu⟩ := last0 t hn e2
   exact ht u hu
 | a + 1, fuel + 1, t, h, hl, ht => by
  rw [strings_trimRightByte_l0]
  have hlen : (t ++ List.replicate (a + 1) (0 : UInt8)).length = t.length + a + 1 := by simp; omega
  rw [hlen, if_pos (by simp only [decide_eq_true_eq]; omega), w64 (by omega) (by omega), if_pos (by omega)]
  have e1 : (((t.length + a + 1 : Nat) : Int) - 1).toNat = t.length + a := by omega
  rw [e1]
  have e2 : (t ++ List.replicate (a + 1) (0 : UInt8)).getD (t.length + a) 0 = 0 := by
   rw [List.getD_eq_getElem?_getD, List.getElem?_append_right (by omega)]
   simp
  rw [e2, if_pos (by rfl), if_pos (by omega)]
  have e3 : ((t ++ List.replicate (a + 1) (0 : UInt8)).drop 0).take (t.length + a - 0) = t ++ List.replicate a 0 := by
   rw [List.drop_zero, Nat.sub_zero, List.replicate_succ', ← List.append_assoc, List.take_left' (by simp)]
  rw [e3]
  exact trim_loop a fuel t (by omega) (by omega) ht
theorem trim_eq (a : Nat) (t : List UInt8) (hl : t.length + a ≤ 100) (ht : Tight t) : strings_TrimRight (t ++ List.replicate a 0) = some t := by
 unfold strings_TrimRight
 by_cases hn : t ++ List.replicate a (0 : UInt8) = []
 ·rw [if_pos (by simpa using hn), hn, (List.append_eq_nil_iff.mp hn).1]
 ·rw [if_neg (by simpa using hn), strings_trimRightByte, trim_loop a big t (big_lt (by omega)) hl ht]
  rfl
theorem bI_app (t : List UInt8) (a i : Nat) : bI (t ++ List.replicate a 0) i = bI t i := by
 unfold bI
 simp only [List.getD_eq_getElem?_getD]
 rcases Nat.lt_or_ge i t.length with h | h
 ·rw [List.getElem?_append_left h]
 ·rw [List.getElem?_append_right h, List.getElem?_eq_none (l := t) (by omega), List.getElem?_replicate]
  split <;> rfl
theorem pad_app (t : List UInt8) (a : Nat) : pad (t ++ List.replicate a 0) = pad t := by simp only [pad, bI_app]
def kb (k : A8 Int) : List UInt8 := strI (([k.a0, k.a1, k.a2, k.a3, k.a4, k.a5, k.a6, k.a7] : List Int).take 8)
def wfK (k : A8 Int) : Prop := ∀ x ∈ k.list, 0 ≤ x ∧ x < 256
theorem of_toNat (x : Int) (h : 0 ≤ x ∧ x < 256) : (((UInt8.ofNat x.toNat).toNat : Nat) : Int) = x := by
 rw [UInt8.toNat_ofNat']
 omega
theorem kb_len (k : A8 Int) : (kb k).length = 8 := by simp [kb, strI]
theorem pad_kb (k : A8 Int) (h : wfK k) : pad (kb k) = k := by
 obtain ⟨a0, a1, a2, a3, a4, a5, a6, a7⟩ := k
 simp only [wfK, A8.list, List.mem_cons, List.not_mem_nil, or_false, forall_eq_or_imp, forall_eq] at h
 obtain ⟨h0, h1, h2, h3, h4, h5, h6, h7⟩ := h
 show A8.mk _ _ _ _ _ _ _ _ = _
 simp only [A8.mk.injEq]
 exact ⟨of_toNat _ h0, of_toNat _ h1, of_toNat _ h2, of_toNat _ h3, of_toNat _ h4, of_toNat _ h5, of_toNat _ h6, of_toNat _ h7⟩
theorem pad_get (l : List UInt8) (j : Nat) (h : j < 8) : A8.get (pad l) j = bI l j := by
 rcases lt8 h with rfl | rfl | rfl | rfl | rfl | rfl | rfl | rfl <;> rfl
theorem kb_pad (l : List UInt8) (h : l.length ≤ 8) : kb (pad l) = l ++ List.replicate (8 - l.length) 0 := by
 have e : ∀ i, UInt8.ofNat (bI l i).toNat = l.getD i 0 := fun i => by unfold bI; rw [Int.toNat_natCast]; exact UInt8.ofNat_toNat
 have : kb (pad l) = (List.range 8).map fun i => l.getD i 0 := by
  show [UInt8.ofNat (bI l 0).toNat, UInt8.ofNat (bI l 1).toNat, UInt8.ofNat (bI l 2).toNat, UInt8.ofNat (bI l 3).toNat, UInt8.ofNat (bI l 4).toNat, UInt8.ofNat (bI l 5).toNat, UInt8.ofNat (bI l 6).toNat, UInt8.ofNat (bI l 7).toNat] = _
  simp only [e]; rfl
 rw [this]
 apply List.ext_getElem?
 intro i
 rcases Nat.lt_or_ge i 8 with hi | hi
 ·rw [List.getElem?_map, List.getElem?_range hi]
  rcases Nat.lt_or_ge i l.length with h2 | h2
  ·rw [List.getElem?_append_left h2, List.getElem?_eq_getElem h2]; simp [List.getD_eq_getElem?_getD, h2]
  ·rw [List.getElem?_append_right h2, List.getElem?_replicate, if_pos (by omega)]; simp [List.getD_eq_getElem?_getD, List.getElem?_eq_none h2]
 ·rw [List.getElem?_eq_none (by simpa using hi), List.getElem?_eq_none (by simp; omega)]
theorem name1 (k : A8 Int) (h : wfK k) (t : List UInt8) (a : Nat) (he : kb k = t ++ List.replicate a 0) (ht : Tight t) :
  ids_Name k = if t = [] ∨ (0 : UInt8) ∈ t then some ([], false) else some (t, true) := by
 have hlen := kb_len k
 rw [he] at hlen
 simp only [List.length_append, List.length_replicate] at hlen
 have hk : pad t = k := by rw [← pad_app t a, ← he, pad_kb k h]
 have e0 : strings_TrimRight (strI (([k.a0, k.a1, k.a2, k.a3, k.a4, k.a5, k.a6, k.a7] : List Int).take 8)) = some t := by
  show strings_TrimRight (kb k) = _
  rw [he, trim_eq a t (by omega) ht]
 unfold ids_Name
 rw [e0]
 simp only [Option.bind_some, key1]
 by_cases hc : t = [] ∨ (0 : UInt8) ∈ t
 ·have : keyOf t = (zeroK, 1) := by unfold keyOf; rw [if_pos (by rcases hc with hc | hc; exact .inl hc; exact .inr (.inr hc))]
  rw [this, if_pos hc]; rfl
 ·have : keyOf t = (k, 0) := by
   unfold keyOf
   rw [if_neg ?_, hk]
   intro hd
   rcases hd with hd | hd | hd
   ·exact hc (.inl hd)
   ·omega
   ·exact hc (.inr hd)
  rw [this, if_neg hc, if_neg (by simp), if_neg (by simp)]; rfl
open Classical in
theorem rest_loop (k : A8 Int) (m : Int) (hm : 0 ≤ m ∧ m ≤ 8) : ∀ (fuel i : Nat), 8 < fuel + i → i ≤ 8 →
  parrelref05_Name_l1 k m fuel (i : Int) = if (∃ j, i ≤ j ∧ j < 8 ∧ A8.get k j ≠ 0) ∨ m = 0 then some ([], false) else some (strI (([k.a0, k.a1, k.a2, k.a3, k.a4, k.a5, k.a6, k.a7] : List Int).take m.toNat), true)
 | 0, i, h, hi => by omega
 | fuel + 1, i, h, hi => by
  rw [parrelref05_Name_l1]
  by_cases hlt : i < 8
  ·rw [if_pos (by simp only [decide_eq_true_eq]; omega), if_pos (by omega), Int.toNat_natCast]
   by_cases hb : A8.get k i = 0
   ·rw [if_neg (by simp [hb]), w64 (by omega) (by omega)]
    have := rest_loop k m hm fuel (i + 1) (by omega) (by omega)
    rw [show ((i : Nat) : Int) + 1 = ((i + 1 : Nat) : Int) from rfl, this]
    have e : (∃ j, i + 1 ≤ j ∧ j < 8 ∧ A8.get k j ≠ 0) ↔ (∃ j, i ≤ j ∧ j < 8 ∧ A8.get k j ≠ 0) := by
     constructor
     ·rintro ⟨j, h1, h2, h3⟩; exact ⟨j, by omega, h2, h3⟩
     ·rintro ⟨j, h1, h2, h3⟩
      refine ⟨j, ?_, h2, h3⟩
      rcases Nat.eq_or_lt_of_le h1 with rfl | h4
      ·exact absurd hb h3
      ·exact h4
    simp only [e]
   ·rw [if_pos (by simp [hb]), if_pos (.inl ⟨i, Nat.le_refl _, hlt, hb⟩)]
  ·rw [if_neg (by simp only [decide_eq_true_eq]; omega)]
   have e : ¬ ∃ j, i ≤ j ∧ j < 8 ∧ A8.get k j ≠ 0 := by rintro ⟨j, h1, h2, _⟩; omega
   by_cases hz : m = 0
   ·rw [if_pos (by simpa using hz), if_pos (.inr hz)]
   ·rw [if_neg (by simpa using hz), if_pos (by omega), if_neg (by simp only [e, hz, or_self, not_false_eq_true])]
theorem nfirst_loop (k : A8 Int) (m : Nat) (hm : m ≤ 8) (h1 : ∀ j, j < m → A8.get k j ≠ 0) (h2 : m = 8 ∨ A8.get k m = 0) : ∀ (fuel i : Nat), 8 < fuel + i → i ≤ m →
  parrelref05_Name_l0 k fuel (i : Int) = parrelref05_Name_l1 k (m : Int) big (m : Int)
 | 0, i, h, hi => by omega
 | fuel + 1, i, h, hi => by
  rw [parrelref05_Name_l0]
  by_cases hlt : i < m
  ·rw [if_pos (by simp only [decide_eq_true_eq]; omega), if_pos (by omega), Int.toNat_natCast, if_pos (by simpa using h1 i hlt), w64 (by omega) (by omega)]
   exact nfirst_loop k m hm h1 h2 fuel (i + 1) (by omega) (by omega)
  ·have him : i = m := by omega
   rw [him]
   rcases h2 with h2 | h2
   ·rw [if_neg (by simp only [decide_eq_true_eq]; omega)]
   ·by_cases h8 : m = 8
    ·rw [if_neg (by simp only [decide_eq_true_eq]; omega)]
    ·rw [if_pos (by simp only [decide_eq_true_eq]; omega), if_pos (by omega), Int.toNat_natCast, if_neg (by simp [h2])]
theorem bI_zero (l : List UInt8) (i : Nat) : bI l i = 0 ↔ l.getD i 0 = 0 := by
 unfold bI
 constructor
 ·intro h; exact UInt8.toNat_inj.mp (by simpa using h)
 ·intro h; rw [h]; rfl
open Classical in
theorem name2 (k : A8 Int) (h : wfK k) (t : List UInt8) (a : Nat) (he : kb k = t ++ List.replicate a 0) (ht : Tight t) :
  parrelref05_Name k = if t = [] ∨ (0 : UInt8) ∈ t then some ([], false) else some (t, true) := by
 have hlen := kb_len k
 rw [he] at hlen
 simp only [List.length_append, List.length_replicate] at hlen
 have hk : pad t = k := by rw [← pad_app t a, ← he, pad_kb k h]
 have hget : ∀ j, j < 8 → (A8.get k j = 0 ↔ t.getD j 0 = 0) := fun j hj => by rw [← hk, pad_get t j hj, bI_zero]
 have hb : ∀ i, i ≤ 8 → 8 < big + i := fun i _ => by have := big_lt (n := 8) (by omega); omega
 have mk : ∀ m : Nat, m ≤ 8 → (∀ j, j < m → t.getD j 0 ≠ 0) → (m = 8 ∨ t.getD m 0 = 0) → parrelref05_Name k = if (∃ j, m ≤ j ∧ j < 8 ∧ A8.get k j ≠ 0) ∨ (m : Int) = 0 then some ([], false) else some (strI (([k.a0, k.a1, k.a2, k.a3, k.a4, k.a5, k.a6, k.a7] : List Int).take m), true) := by
  intro m hm h1 h2
  have e1 := nfirst_loop k m hm (fun j hj hc => h1 j hj ((hget j (by omega)).1 hc)) (by
   rcases h2 with h2 | h2
   ·exact .inl h2
   ·by_cases h8 : m = 8
    ·exact .inl h8
    ·exact .inr ((hget m (by omega)).2 h2)) big 0 (hb 0 (by omega)) (by omega)
  have e2 := rest_loop k m ⟨by omega, by omega⟩ big m (hb m hm) hm
  rw [Int.toNat_natCast] at e2
  exact e1.trans e2
 by_cases h1 : t = []
 ·subst h1
  rw [mk 0 (by omega) (fun j hj => by omega) (.inr rfl), if_pos (.inr rfl), if_pos (.inl rfl)]
 ·by_cases h2 : (0 : UInt8) ∈ t
  ·obtain ⟨u, v, e, hu⟩ := List.eq_append_cons_of_mem h2
   have hv : v ≠ [] := by rintro rfl; exact ht u e
   have hul : u.length < t.length := by rw [e]; simp
   have g1 : ∀ j, j < u.length → t.getD j 0 ≠ 0 := fun j hj hc => by
    rw [e, List.getD_eq_getElem?_getD, List.getElem?_append_left hj, List.getElem?_eq_getElem hj] at hc
    exact hu (hc ▸ List.getElem_mem hj)
   have g2 : t.getD u.length 0 = 0 := by rw [e, List.getD_eq_getElem?_getD, List.getElem?_append_right (Nat.le_refl _)]; simp
   have hvl : 0 < v.length := List.length_pos_iff.mpr hv
   have htl : t.length = u.length + (v.length + 1) := by rw [e]; simp
   have g3 : A8.get k (t.length - 1) ≠ 0 := fun hc => by
    obtain ⟨u', hu'⟩ := last0 t h1 ((hget (t.length - 1) (by omega)).1 hc)
    exact ht u' hu'
   rw [mk u.length (by omega) g1 (.inr g2), if_pos (.inl ⟨t.length - 1, by omega, by omega, g3⟩), if_pos (.inr h2)]
  ·have hl0 : t.length ≠ 0 := fun h => h1 (List.length_eq_zero_iff.mp h)
   have g1 : ∀ j, j < t.length → t.getD j 0 ≠ 0 := fun j hj hc => by
    rw [List.getD_eq_getElem?_getD, List.getElem?_eq_getElem hj] at hc
    exact h2 (hc ▸ List.getElem_mem hj)
   have g2 : t.getD t.length 0 = 0 := by rw [List.getD_eq_getElem?_getD, List.getElem?_eq_none (Nat.le_refl _)]; rfl
   rw [mk t.length (by omega) g1 (.inr g2), if_neg ?_, if_neg (by simp [h1, h2])]
   ·have : strI (([k.a0, k.a1, k.a2, k.a3, k.a4, k.a5, k.a6, k.a7] : List Int).take t.length) = t := by
     have e1 : (kb k).take t.length = t := by rw [he, List.take_left]
     conv => rhs; rw [← e1]
     unfold kb strI
     rw [← List.map_take, List.take_take, Nat.min_eq_left (by omega)]
    rw [this]
   ·rintro (⟨j, h3, h4, h5⟩ | h3)
    ·refine h5 ((hget j h4).2 ?_)
     rw [List.getD_eq_getElem?_getD, List.getElem?_eq_none (by omega)]; rfl
    ·omega
def kc (k : A8 Int) : List LV := [.int .u8 k.a0, .int .u8 k.a1, .int .u8 k.a2, .int .u8 k.a3, .int .u8 k.a4, .int .u8 k.a5, .int .u8 k.a6, .int .u8 k.a7]
theorem wfK_of (k : A8 Int) (h : wfL (kc k)) : wfK k := by
 intro x hx
 refine wf_u8 (h _ ?_)
 simp only [A8.list, List.mem_cons, List.not_mem_nil, or_false] at hx
 simp only [kc, List.mem_cons, List.not_mem_nil, or_false, LV.int.injEq, true_and]
 exact hx
open Classical in
noncomputable def mayK (k : A8 Int) : Bool := if h : ∃ t a, kb k = t ++ List.replicate a 0 ∧ Tight t then (if h.choose = [] ∨ (0 : UInt8) ∈ h.choose then false else true) else false
theorem mayK_eq (k : A8 Int) (h : wfK k) : ∃ s, ids_Name k = some (s, mayK k) ∧ parrelref05_Name k = some (s, mayK k) := by
 have hx : ∃ t a, kb k = t ++ List.replicate a 0 ∧ Tight t := split0 8 (kb k) (kb_len k)
 obtain ⟨a, he, ht⟩ := hx.choose_spec
 rw [name1 k h _ a he ht, name2 k h _ a he ht]
 unfold mayK
 rw [dif_pos hx]
 by_cases hc : hx.choose = [] ∨ (0 : UInt8) ∈ hx.choose
 ·rw [if_pos hc, if_pos hc]; exact ⟨_, rfl, rfl⟩
 ·rw [if_neg hc, if_neg hc]; exact ⟨_, rfl, rfl⟩
end Go.Proofs.YtdchgoaokceomaaGreatDoor.Wk
