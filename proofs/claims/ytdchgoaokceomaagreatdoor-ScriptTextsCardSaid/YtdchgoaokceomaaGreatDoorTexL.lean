import Derived.Test.YtdchgoaokceomaaGreatDoorTexC
import Derived.Lib.Join
set_option linter.unusedVariables false
set_option linter.unusedSimpArgs false
set_option linter.unusedSectionVars false
namespace Go.Proofs.YtdchgoaokceomaaGreatDoor.Wk
open Go Go.Cn
set_option maxRecDepth 10000
theorem rkey_loop (k : A8 Int) (m : Nat) (hm : m ≤ 8) (h1 : ∀ j, j < m → A8.get k j ≠ 0) (h2 : m = 8 ∨ A8.get k m = 0) : ∀ (fuel i : Nat), 8 < fuel + i → i ≤ m →
  r27_key_l0 k fuel (i : Int) = r27_hex (strI (([k.a0, k.a1, k.a2, k.a3, k.a4, k.a5, k.a6, k.a7] : List Int).take m))
 | 0, i, h, hi => by omega
 | fuel + 1, i, h, hi => by
  have bs : ∀ o : Option (List UInt8), (o.bind fun y => some y) = o := fun o => by cases o <;> rfl
  rw [r27_key_l0]
  by_cases hlt : i < m
  ·rw [if_pos (by simp only [decide_eq_true_eq]; omega), if_pos (by omega), Int.toNat_natCast, if_pos (by simpa using h1 i hlt), w64 (by omega) (by omega)]
   exact rkey_loop k m hm h1 h2 fuel (i + 1) (by omega) (by omega)
  ·have him : i = m := by omega
   rw [him, Int.toNat_natCast]
   by_cases h8 : m = 8
   ·rw [if_neg (by simp only [decide_eq_true_eq]; omega), if_pos (by omega), bs]
   ·rcases h2 with h2 | h2
    ·exact absurd h2 h8
    ·rw [if_pos (by simp only [decide_eq_true_eq]; omega), if_pos (by omega), if_neg (by simp [h2]), if_pos (by omega), bs]
theorem key_name (k : A8 Int) (h : wfK k) (hm : mayK k = true) : ∃ t, ids_Name k = some (t, true) ∧ r27_key k = some (H t) ∧ t.length ≤ 8 := by
 obtain ⟨t, a, he, ht⟩ := split0 8 (kb k) (kb_len k)
 obtain ⟨s', e1, _⟩ := mayK_eq k h
 have n1 := name1 k h t a he ht
 have hlen := kb_len k
 rw [he] at hlen
 simp only [List.length_append, List.length_replicate] at hlen
 by_cases hc : t = [] ∨ (0 : UInt8) ∈ t
 ·rw [if_pos hc, e1, hm] at n1
  simp at n1
 ·rw [if_neg hc] at n1
  refine ⟨t, n1, ?_, by omega⟩
  have hk : pad t = k := by rw [← pad_app t a, ← he, pad_kb k h]
  have hget : ∀ j, j < 8 → (A8.get k j = 0 ↔ t.getD j 0 = 0) := fun j hj => by rw [← hk, pad_get t j hj, bI_zero]
  have e := rkey_loop k t.length (by omega) (fun j hj hz => by
   have := (hget j (by omega)).1 hz
   rw [List.getD_eq_getElem?_getD, List.getElem?_eq_getElem hj] at this
   exact hc (.inr (this ▸ List.getElem_mem hj))) (by
   by_cases h8 : t.length = 8
   ·exact .inl h8
   ·refine .inr ((hget t.length (by omega)).2 ?_)
    rw [List.getD_eq_getElem?_getD, List.getElem?_eq_none (Nat.le_refl _)]; rfl) big 0 (by have := big_lt (n := 8) (by omega); omega) (by omega)
  have et : strI (([k.a0, k.a1, k.a2, k.a3, k.a4, k.a5, k.a6, k.a7] : List Int).take t.length) = t := by
   have e1 : (kb k).take t.length = t := by rw [he, List.take_left]
   conv => rhs; rw [← e1]
   unfold kb strI
   rw [← List.map_take, List.take_take, Nat.min_eq_left (by omega)]
  rw [et, rhex (by omega)] at e
  exact e
theorem join_eq (x : List UInt8) (r : List (List UInt8)) (sep : List UInt8) : Lib.join (x :: r) sep = x ++ r.flatMap (sep ++ ·) := by
 rw [Lib.join_cons, Lib.joinTail, List.flatMap_def]
structure WfS (s : T_r27_Step) : Prop where
 cl : 0 ≤ s.f_Call.f_Client ∧ s.f_Call.f_Client < 256
 sq : 0 ≤ s.f_Call.f_Seq ∧ s.f_Call.f_Seq < 4294967296
 tn : 0 ≤ s.f_Call.f_Tx.f_Node ∧ s.f_Call.f_Tx.f_Node < 256
 tb : 0 ≤ s.f_Call.f_Tx.f_Boot ∧ s.f_Call.f_Tx.f_Boot < 4294967296
 tm : 0 ≤ s.f_Call.f_Tx.f_Num ∧ s.f_Call.f_Tx.f_Num < 4294967296
 r : 0 ≤ s.f_Call.f_R ∧ s.f_Call.f_R < 256
 w : 0 ≤ s.f_Call.f_W ∧ s.f_Call.f_W < 256
 ky : wfK s.f_Call.f_Key
 vt : wB s.f_Call.f_Votes
 bs : wB s.f_Bytes
def N (t : TX) : List UInt8 := D t.f_Node ++ [46] ++ D t.f_Boot ++ [46] ++ D t.f_Num
theorem N_len (t : TX) : (N t).length ≤ 35 := by
 have a := D_len t.f_Node; have b := D_len t.f_Boot; have c := D_len t.f_Num
 simp only [N, List.length_append, List.length_cons, List.length_nil]; omega
theorem name_eq (t : TX) (h1 : 0 ≤ t.f_Node ∧ t.f_Node < 256) (h2 : 0 ≤ t.f_Boot ∧ t.f_Boot < 4294967296) (h3 : 0 ≤ t.f_Num ∧ t.f_Num < 4294967296) :
  script_name t = some (N t) ∧ r27_name t = some (N t) := by
 have a := D_len t.f_Node; have b := D_len t.f_Boot; have c := D_len t.f_Num
 unfold script_name r27_name
 simp only [w64 (show (0 : Int) - 9223372036854775808 ≤ t.f_Node by omega) (by omega), w64 (show (0 : Int) - 9223372036854775808 ≤ t.f_Boot by omega) (by omega), w64 (show (0 : Int) - 9223372036854775808 ≤ t.f_Num by omega) (by omega),
  wu64 h1.1 (by omega), wu64 h2.1 (by omega), wu64 h3.1 (by omega), sdig h1.1 (by omega), sdig h2.1 (by omega), sdig h3.1 (by omega), rdig h1.1 (by omega), rdig h2.1 (by omega), rdig h3.1 (by omega), Option.bind_some,
  join_eq, List.flatMap_cons, List.flatMap_nil, List.append_nil]
 constructor
 ·rw [if_pos (by simp only [List.length_append, List.length_cons, List.length_nil]; omega)]
  simp [N]
 ·repeat rw [if_pos (by simp only [List.length_append, List.length_cons, List.length_nil]; omega)]
  rfl
end Go.Proofs.YtdchgoaokceomaaGreatDoor.Wk
