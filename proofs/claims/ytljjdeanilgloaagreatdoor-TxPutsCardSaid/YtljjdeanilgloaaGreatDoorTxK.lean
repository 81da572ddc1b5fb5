import Derived.Test.YtljjdeanilgloaaGreatDoorTxW
import Derived.Test.YtljjdeanilgloaaGreatDoorCnX
import Derived.Test.YtljjdeanilgloaaGreatDoorCnY
import Derived.Test.YtljjdeanilgloaaGreatDoorCnZ
import Derived.Lib.IndexLaws
set_option linter.unusedVariables false
set_option linter.unusedSimpArgs false
set_option linter.unusedSectionVars false
namespace Go.Proofs.YtljjdeanilgloaaGreatDoor.Wk
open Go Go.Cn
theorem cmp8_eq (x y : Int) : Ar x y = some (cmp3 x y) := by
  simp only [Ar, Aa, Option.bind_some, bne_self_eq_false, Bool.false_eq_true, if_false, decide_eq_true_eq, cmp3]
  split <;> (try split) <;> rfl
theorem getD_drop {α : Type} (l : List α) (k : Nat) (d : α) (h : k < l.length) : l.drop k = l.getD k d :: l.drop (k + 1) := by
  rw [List.drop_eq_getElem_cons h, List.getD_eq_getElem?_getD, List.getElem?_eq_getElem h]; rfl
theorem cmp3_zero {a b : Int} : cmp3 a b = 0 ↔ ¬ a < b ∧ ¬ b < a := by
  unfold cmp3; split
  · omega
  · split <;> omega
theorem keys_loop (a b : A8 Int) : ∀ (fuel k : Nat), 8 - k < fuel → k ≤ 8 → AU_l0 a b fuel (k : Int) = some (lexI (a.list.drop k) (b.list.drop k))
  | 0, k, h, _ => by omega
  | fuel + 1, k, h, hk => by
    rw [AU_l0]
    by_cases hlt : k < 8
    · rw [if_pos (by simp only [decide_eq_true_eq]; omega), if_pos (by omega), if_neg (by simp only [decide_eq_true_eq]; omega)]
      rw [getD_drop a.list k default (by simpa [A8.list] using hlt), getD_drop b.list k default (by simpa [A8.list] using hlt), A8.list_get a default hlt, A8.list_get b default hlt]
      simp only [Int.toNat_natCast, cmp8_eq, Option.bind_some, bne_iff_ne, ne_eq]
      rw [w64 (by omega) (by omega)]
      have ih := keys_loop a b fuel (k + 1) (by omega) (by omega)
      simp only [lexI]
      by_cases h1 : a.get k < b.get k
      · rw [if_pos (by unfold cmp3; rw [if_pos h1]; decide), if_pos h1]; simp [cmp3, h1]
      · by_cases h2 : b.get k < a.get k
        · rw [if_pos (by unfold cmp3; rw [if_neg h1, if_pos h2]; decide), if_neg h1, if_pos h2]; simp [cmp3, h1, h2]
        · rw [if_neg (by simp [cmp3_zero, h1, h2]), if_neg h1, if_neg h2]; exact ih
    · rw [if_neg (by simp only [decide_eq_true_eq]; omega)]
      have : k = 8 := by omega
      subst this
      rfl
theorem keys_eq (a b : A8 Int) : Bc a b = some (lexI a.list b.list) := by
  have := keys_loop a b big 0 (big_lt (by omega)) (by omega)
  simp only [Bc, AU]
  rw [show (0 : Int) = ((0 : Nat) : Int) from rfl, this]
  rfl
theorem lex_anti : ∀ (l m : List Int), lexI l m = - lexI m l
  | [], [] => rfl
  | [], _ :: _ => rfl
  | _ :: _, [] => rfl
  | a :: l, b :: m => by
    have ih := lex_anti l m
    simp only [lexI]
    split <;> split <;> first | omega | (try split) <;> first | omega | exact ih
theorem lex_zero : ∀ (l m : List Int), l.length = m.length → (lexI l m = 0 ↔ l = m)
  | [], [], _ => by simp [lexI]
  | [], _ :: _, h => by simp at h
  | _ :: _, [], h => by simp at h
  | a :: l, b :: m, h => by
    have ih := lex_zero l m (by simpa using h)
    simp only [lexI, List.cons.injEq]
    split
    · constructor <;> intro h <;> omega
    · split
      · constructor <;> intro h <;> omega
      · rw [ih]
        constructor
        · intro h; exact ⟨by omega, h⟩
        · intro h; exact h.2
theorem lex_trans : ∀ (l m p : List Int), l.length = m.length → m.length = p.length → lexI l m ≤ 0 → lexI m p ≤ 0 → lexI l p ≤ 0
  | [], _, _, _, _, _, _ => by simp [lexI]
  | _ :: _, [], _, h, _, _, _ => by simp at h
  | _ :: _, _ :: _, [], _, h, _, _ => by simp at h
  | a :: l, b :: m, c :: p, h1, h2, h3, h4 => by
    have ih := lex_trans l m p (by simpa using h1) (by simpa using h2)
    simp only [lexI] at h3 h4 ⊢
    split at h3
    · split at h4
      · rw [if_pos (by omega)]; decide
      · split at h4
        · omega
        · rw [if_pos (by omega)]; decide
    · split at h3
      · omega
      · split at h4
        · rw [if_pos (by omega)]; decide
        · split at h4
          · omega
          · rw [if_neg (by omega), if_neg (by omega)]
            exact ih h3 h4
theorem list8_inj (a b : A8 Int) : a.list = b.list ↔ a = b := by
  rw [A8.x]; simp [A8.list]
def bI (l : List UInt8) (i : Nat) : Int := ((l.getD i 0).toNat : Int)
def pad (l : List UInt8) : A8 Int := ⟨bI l 0, bI l 1, bI l 2, bI l 3, bI l 4, bI l 5, bI l 6, bI l 7⟩
def zeroK : A8 Int := A8.mk 0 0 0 0 0 0 0 0
def keyOf (s : List UInt8) : A8 Int × Int := if s = [] ∨ 8 < s.length ∨ (0 : UInt8) ∈ s then (zeroK, 1) else (pad s, 0)
theorem bI_if (s : List UInt8) (i : Nat) : (if i < s.length then ((s.getD i 0).toNat : Int) else 0) = bI s i := by
  unfold bI
  by_cases h : i < s.length
  · rw [if_pos h]
  · rw [if_neg h, List.getD_eq_getElem?_getD, List.getElem?_eq_none (by omega)]; rfl
theorem ib_lt (s : List UInt8) : (0 ≤ Lib.indexByte s 0) ↔ (0 : UInt8) ∈ s := by
  constructor
  · intro h
    obtain ⟨o, ho⟩ := Int.eq_ofNat_of_zero_le h
    exact List.mem_of_getElem? (Lib.indexByte_some ho).1
  · intro h
    have hge := Lib.indexByte_ge s 0
    rcases Int.lt_or_le (Lib.indexByte s 0) 0 with hl | hl
    · obtain ⟨k, hk⟩ := List.getElem?_of_mem h
      exact absurd hk (Lib.indexByte_none (by omega) k)
    · exact hl
theorem key1 (s : List UInt8) : BU s = some (keyOf s) := by
  have e0 : BG s 0 = some (Lib.indexByte s 0) := rfl
  unfold BU keyOf
  rw [e0]
  by_cases h1 : s = []
  · subst h1; rfl
  · rw [if_neg (by simpa using h1)]
    by_cases h2 : 8 < s.length
    · rw [if_pos (by simp only [decide_eq_true_eq]; omega), if_pos (.inr (.inl h2))]; rfl
    · rw [if_neg (by simp only [decide_eq_true_eq]; omega)]
      simp only [Option.bind_some]
      by_cases h3 : (0 : UInt8) ∈ s
      · rw [if_pos (by simpa using (ib_lt s).2 h3), if_pos (.inr (.inr h3))]; rfl
      · rw [if_neg (by rw [decide_eq_true_eq]; exact fun h => h3 ((ib_lt s).1 h)), show (if s = [] ∨ 8 < s.length ∨ (0 : UInt8) ∈ s then (zeroK, (1 : Int)) else (pad s, 0)) = (pad s, 0) from if_neg (by simp [h1, h3]; omega)]
        simp only [bI_if]; rfl
def Tight (t : List UInt8) : Prop := ∀ u, t ≠ u ++ [0]
theorem split0 : ∀ (n : Nat) (l : List UInt8), l.length = n → ∃ t a, l = t ++ List.replicate a 0 ∧ Tight t
  | 0, l, h => ⟨[], 0, by simpa using List.length_eq_zero_iff.mp h, by intro u hu; simp at hu⟩
  | n + 1, l, h => by
    by_cases hz : ∃ u, l = u ++ [0]
    · obtain ⟨u, rfl⟩ := hz
      obtain ⟨t, a, rfl, ht⟩ := split0 n u (by simpa using h)
      exact ⟨t, a + 1, by rw [List.replicate_succ', List.append_assoc], ht⟩
    · exact ⟨l, 0, by simp, fun u hu => hz ⟨u, hu⟩⟩
theorem last0 (t : List UInt8) (h : t ≠ []) (hz : t.getD (t.length - 1) 0 = 0) : ∃ u, t = u ++ [0] := by
  have hp : 0 < t.length := List.length_pos_iff.mpr h
  refine ⟨t.dropLast, ?_⟩
  have h1 := List.dropLast_concat_getLast h
  rw [List.getD_eq_getElem?_getD, List.getElem?_eq_getElem (by omega)] at hz
  rw [List.getLast_eq_getElem] at h1
  rw [show t[t.length - 1] = 0 from hz] at h1
  exact h1.symm
theorem trim_loop : ∀ (a fuel : Nat) (t : List UInt8), a < fuel → t.length + a ≤ 100 → Tight t → AX_l0 0 fuel (t ++ List.replicate a 0) = some t
  | _, 0, _, h, _, _ => by omega
  | 0, fuel + 1, t, h, hl, ht => by
    rw [AX_l0]
    simp only [List.replicate_zero, List.append_nil]
    by_cases hn : t = []
    · subst hn; rfl
    · have hp : 0 < t.length := List.length_pos_iff.mpr hn
      rw [if_pos (by simp only [decide_eq_true_eq]; omega), w64 (by omega) (by omega), if_pos (by omega), if_neg ?_]
      simp only [beq_iff_eq]
      intro hc
      have e1 : (((t.length : Nat) : Int) - 1).toNat = t.length - 1 := by omega
      rw [e1] at hc
      have e2 : t.getD (t.length - 1) 0 = 0 := UInt8.toNat_inj.mp (by simpa using hc)
      obtain ⟨u, hu⟩ := last0 t hn e2
      exact ht u hu
  | a + 1, fuel + 1, t, h, hl, ht => by
    rw [AX_l0]
    have hlen : (t ++ List.replicate (a + 1) (0 : UInt8)).length = t.length + a + 1 := by simp; omega
    rw [hlen, if_pos (by simp only [decide_eq_true_eq]; omega), w64 (by omega) (by omega), if_pos (by omega)]
    have e1 : (((t.length + a + 1 : Nat) : Int) - 1).toNat = t.length + a := by omega
    rw [e1]
    have e2 : (t ++ List.replicate (a + 1) (0 : UInt8)).getD (t.length + a) 0 = 0 := by
      rw [List.getD_eq_getElem?_getD, List.getElem?_append_right (by omega)]
      simp
    rw [e2, if_pos (by rfl), if_pos (by omega)]
    have e3 : ((t ++ List.replicate (a + 1) (0 : UInt8)).drop 0).take (t.length + a - 0) = t ++ List.replicate a 0 := by
      rw [List.drop_zero, Nat.sub_zero, List.replicate_succ', ← List.append_assoc, List.take_left' (by simp)]
    rw [e3]
    exact trim_loop a fuel t (by omega) (by omega) ht
theorem trim_eq (a : Nat) (t : List UInt8) (hl : t.length + a ≤ 100) (ht : Tight t) : Ap (t ++ List.replicate a 0) = some t := by
  unfold Ap
  by_cases hn : t ++ List.replicate a (0 : UInt8) = []
  · rw [if_pos (by simpa using hn), hn, (List.append_eq_nil_iff.mp hn).1]
  · rw [if_neg (by simpa using hn), AX, trim_loop a big t (big_lt (by omega)) hl ht]
    rfl
theorem bI_app (t : List UInt8) (a i : Nat) : bI (t ++ List.replicate a 0) i = bI t i := by
  unfold bI
  simp only [List.getD_eq_getElem?_getD]
  rcases Nat.lt_or_ge i t.length with h | h
  · rw [List.getElem?_append_left h]
  · rw [List.getElem?_append_right h, List.getElem?_eq_none (l := t) (by omega), List.getElem?_replicate]
    split <;> rfl
theorem pad_app (t : List UInt8) (a : Nat) : pad (t ++ List.replicate a 0) = pad t := by simp only [pad, bI_app]
def kb (k : A8 Int) : List UInt8 := strI (([k.a0, k.a1, k.a2, k.a3, k.a4, k.a5, k.a6, k.a7] : List Int).take 8)
def wfK (k : A8 Int) : Prop := ∀ x ∈ k.list, 0 ≤ x ∧ x < 256
theorem of_toNat (x : Int) (h : 0 ≤ x ∧ x < 256) : (((UInt8.ofNat x.toNat).toNat : Nat) : Int) = x := by
  rw [UInt8.toNat_ofNat']
  omega
theorem kb_len (k : A8 Int) : (kb k).length = 8 := by simp [kb, strI]
theorem pad_kb (k : A8 Int) (h : wfK k) : pad (kb k) = k := by
  obtain ⟨a0, a1, a2, a3, a4, a5, a6, a7⟩ := k
  simp only [wfK, A8.list, List.mem_cons, List.not_mem_nil, or_false, forall_eq_or_imp, forall_eq] at h
  obtain ⟨h0, h1, h2, h3, h4, h5, h6, h7⟩ := h
  show A8.mk _ _ _ _ _ _ _ _ = _
  simp only [A8.mk.injEq]
  exact ⟨of_toNat _ h0, of_toNat _ h1, of_toNat _ h2, of_toNat _ h3, of_toNat _ h4, of_toNat _ h5, of_toNat _ h6, of_toNat _ h7⟩
theorem name1 (k : A8 Int) (h : wfK k) (t : List UInt8) (a : Nat) (he : kb k = t ++ List.replicate a 0) (ht : Tight t) :
    Ax k = if t = [] ∨ (0 : UInt8) ∈ t then some ([], false) else some (t, true) := by
  have hlen := kb_len k
  rw [he] at hlen
  simp only [List.length_append, List.length_replicate] at hlen
  have hk : pad t = k := by rw [← pad_app t a, ← he, pad_kb k h]
  have e0 : Ap (strI (([k.a0, k.a1, k.a2, k.a3, k.a4, k.a5, k.a6, k.a7] : List Int).take 8)) = some t := by
    show Ap (kb k) = _
    rw [he, trim_eq a t (by omega) ht]
  unfold Ax
  rw [e0]
  simp only [Option.bind_some, key1]
  by_cases hc : t = [] ∨ (0 : UInt8) ∈ t
  · have : keyOf t = (zeroK, 1) := by unfold keyOf; rw [if_pos (by rcases hc with hc | hc; exact .inl hc; exact .inr (.inr hc))]
    rw [this, if_pos hc]; rfl
  · have : keyOf t = (k, 0) := by
      unfold keyOf
      rw [if_neg ?_, hk]
      intro hd
      rcases hd with hd | hd | hd
      · exact hc (.inl hd)
      · omega
      · exact hc (.inr hd)
    rw [this, if_neg hc, if_neg (by simp), if_neg (by simp)]; rfl
def kc (k : A8 Int) : List LV := [.int .u8 k.a0, .int .u8 k.a1, .int .u8 k.a2, .int .u8 k.a3, .int .u8 k.a4, .int .u8 k.a5, .int .u8 k.a6, .int .u8 k.a7]
theorem wfK_of (k : A8 Int) (h : wfL (kc k)) : wfK k := by
  intro x hx
  refine wf_u8 (h _ ?_)
  simp only [A8.list, List.mem_cons, List.not_mem_nil, or_false] at hx
  simp only [kc, List.mem_cons, List.not_mem_nil, or_false, LV.int.injEq, true_and]
  exact hx
def cfK (a b : A8 Int) : Int := lexI a.list b.list
theorem key_total : ∀ x y, Bc x y = some (cfK x y) := keys_eq
open Classical in
noncomputable def mayK (k : A8 Int) : Bool := if h : ∃ t a, kb k = t ++ List.replicate a 0 ∧ Tight t then (if h.choose = [] ∨ (0 : UInt8) ∈ h.choose then false else true) else false
end Go.Proofs.YtljjdeanilgloaaGreatDoor.Wk
