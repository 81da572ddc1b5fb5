import Derived.Test.YtdchgoaokceomaaGreatDoorTexX
set_option linter.unusedVariables false
set_option linter.unusedSimpArgs false
set_option linter.unusedSectionVars false
namespace Go.Proofs.YtdchgoaokceomaaGreatDoor.Wk
open Go Go.Cn
set_option maxRecDepth 10000
theorem dg_no (c : UInt8) (hc : ¬ isDg c) {v : Int} (h : 0 ≤ v) (h2 : v < 100000000000) : c ∉ D v := fun hm => hc ((D_P v h h2).1 c hm)
theorem spl_len (c : UInt8) (s : List UInt8) : ∀ w ∈ spl c s, w.length ≤ s.length := by
 obtain ⟨w, ws, e1, e2⟩ := join_spl c s
 rw [e1]
 have : ∀ (ws : List (List UInt8)), ∀ x ∈ ws, x.length ≤ (ws.flatMap (([c] : List UInt8) ++ ·)).length := by
  intro ws
  induction ws with
  | nil => intro x hx; simp at hx
  | cons y r ih =>
   intro x hx
   rw [List.flatMap_cons]
   simp only [List.length_append]
   rcases List.mem_cons.1 hx with rfl | hx
   ·omega
   ·have := ih x hx; omega
 intro x hx
 have hl := congrArg List.length e2
 simp only [List.length_append] at hl
 rcases List.mem_cons.1 hx with rfl | hx
 ·omega
 ·have := this ws x hx; omega
structure WfT (t : TX) : Prop where
 a : 0 ≤ t.f_Node ∧ t.f_Node < 256
 b : 0 ≤ t.f_Boot ∧ t.f_Boot ≤ 2147483647
 c : 0 ≤ t.f_Num ∧ t.f_Num ≤ 2147483647
theorem rtxB (l : List (List UInt8)) (b : Bool) (h : Sm l) : ∃ t l' b', sr_tx ⟨l, b⟩ = some (t, l', b') ∧ Sm l' ∧ WfT t ∧ (b' = false → b = false ∧ l = N t :: l') := by
 obtain ⟨w, l', b1, e1, h1, h2, h3⟩ := wordB l b h
 unfold sr_tx; rw [e1, Option.bind_some]; dsimp only; rw [splB_eq w (by omega), Option.bind_some]
 by_cases hl : (spl 46 w).length = 3
 ·rw [if_neg (by rw [bne_iff_ne]; omega)]
  have hs := spl_len 46 w
  obtain ⟨w0, ws, e2, e3⟩ := join_spl 46 w
  match hm : ws, e2 with
  | [], e2 => rw [e2] at hl; simp at hl
  | [_], e2 => rw [e2] at hl; simp at hl
  | _ :: _ :: _ :: _, e2 => rw [e2] at hl; simp at hl
  | [w1, w2], e2 =>
   rw [e2] at hs ⊢
   obtain ⟨v0, c0, n0, a0, a1, a2⟩ := numB l' b1 w0 (by have := hs w0 (by simp); omega) 255 (by omega)
   obtain ⟨v1, c1, n1, a3, a4, a5⟩ := numB l' c0 w1 (by have := hs w1 (by simp); omega) 2147483647 (by omega)
   obtain ⟨v2, c2, n2, a6, a7, a8⟩ := numB l' c1 w2 (by have := hs w2 (by simp); omega) 2147483647 (by omega)
   refine ⟨⟨v0, v1, v2⟩, l', c2, ?_, h2, ⟨⟨a0, by show v0 < 256; omega⟩, ⟨a3, a4⟩, ⟨a6, a7⟩⟩, fun hc => ?_⟩
   ·rw [if_pos (by simp)]
    show (sr_number ⟨l', b1⟩ w0 255).bind _ = _
    rw [n0, Option.bind_some, if_pos (by simp)]
    show (sr_number ⟨l', c0⟩ w1 2147483647).bind _ = _
    rw [n1, Option.bind_some, if_pos (by simp)]
    show (sr_number ⟨l', c1⟩ w2 2147483647).bind _ = _
    rw [n2, Option.bind_some]
    show some (TX.mk (IntKind.wrap .u8 v0) (IntKind.wrap .u32 v1) (IntKind.wrap .u32 v2), _, _) = _
    rw [wu8 a0 (by omega), wu32 a3 (by omega), wu32 a6 (by omega)]
   ·obtain ⟨i2, j2⟩ := a8 hc; obtain ⟨i1, j1⟩ := a5 i2; obtain ⟨i0, j0⟩ := a2 i1
    obtain ⟨k1, k2⟩ := h3 i0
    refine ⟨k1, ?_⟩
    rw [k2, e3, j0, j1, j2]
    simp [N]
 ·rw [if_pos (by rw [bne_iff_ne]; omega)]
  exact ⟨_, _, _, rfl, h2, ⟨by simp, by simp, by simp⟩, by simp⟩
theorem rtxA (l : List (List UInt8)) (b : Bool) (t : TX) (h : WfT t) : sr_tx ⟨N t :: l, b⟩ = some (t, l, b) := by
 obtain ⟨⟨a1, a2⟩, ⟨b1, b2⟩, ⟨c1, c2⟩⟩ := h
 have e : spl 46 (N t) = [D t.f_Node, D t.f_Boot, D t.f_Num] := by
  have n46 : ¬ isDg 46 := by unfold isDg; decide
  have := spl_join 46 [D t.f_Boot, D t.f_Num] (D t.f_Node) (dg_no 46 n46 a1 (by omega)) (by
   intro x hx
   simp only [List.mem_cons, List.not_mem_nil, or_false] at hx
   rcases hx with rfl | rfl
   ·exact dg_no 46 n46 b1 (by omega)
   ·exact dg_no 46 n46 c1 (by omega))
  simpa [N] using this
 have hl := N_len t
 unfold sr_tx; rw [word_cons, Option.bind_some]; dsimp only; rw [splB_eq (N t) (by omega), Option.bind_some, e]
 rw [if_neg (by simp), if_pos (by simp)]
 show (sr_number ⟨l, b⟩ (D t.f_Node) 255).bind _ = _
 rw [numA l b _ 255 a1 (by omega) (by omega), Option.bind_some, if_pos (by simp)]
 show (sr_number ⟨l, b⟩ (D t.f_Boot) 2147483647).bind _ = _
 rw [numA l b _ _ b1 b2 (by omega), Option.bind_some, if_pos (by simp)]
 show (sr_number ⟨l, b⟩ (D t.f_Num) 2147483647).bind _ = _
 rw [numA l b _ _ c1 c2 (by omega), Option.bind_some]
 show some (TX.mk (IntKind.wrap .u8 _) (IntKind.wrap .u32 _) (IntKind.wrap .u32 _), _, _) = _
 rw [wu8 a1 (by omega), wu32 b1 (by omega), wu32 c1 (by omega)]
def KN (k : A8 Int) (t : List UInt8) : Prop := t ≠ [] ∧ t.length ≤ 8 ∧ (0 : UInt8) ∉ t ∧ k = pad t
theorem wfK_pad (t : List UInt8) : wfK (pad t) := by
 intro x hx
 have : ∀ i, 0 ≤ bI t i ∧ bI t i < 256 := fun i => by unfold bI; have := (t.getD i 0).toNat_lt; omega
 simp only [pad, A8.list, List.mem_cons, List.not_mem_nil, or_false] at hx
 rcases hx with rfl | rfl | rfl | rfl | rfl | rfl | rfl | rfl <;> exact this _
theorem rkeyB (l : List (List UInt8)) (b : Bool) (h : Sm l) : ∃ k l' b', sr_key ⟨l, b⟩ = some (k, l', b') ∧ Sm l' ∧ wfK k ∧ (b' = false → b = false ∧ ∃ t, KN k t ∧ l = H t :: l') := by
 obtain ⟨o, l', b1, e1, h1, h2, h3⟩ := rbytesB l b h
 unfold sr_key; rw [e1, Option.bind_some]
 show ∃ k l'_1 b', ((ids_KeyOf (strI (bytesI o))).bind _ = _) ∧ _
 rw [strI_bytesI, key1, Option.bind_some]
 have hw : wfK (keyOf o).1 := by
  unfold keyOf; split
  ·intro x hx
   simp only [zeroK, A8.list, List.mem_cons, List.not_mem_nil, or_false, or_self] at hx
   subst hx; omega
  ·exact wfK_pad o
 cases b1
 ·rw [if_neg (by simp)]
  refine ⟨_, _, _, rfl, h1, hw, fun hb => ?_⟩
  obtain ⟨i1, i2⟩ := h3 rfl
  refine ⟨i1, o, ?_, i2⟩
  have hb : ((keyOf o).2 != 0) = false := hb
  unfold keyOf at hb ⊢
  by_cases hc : o = [] ∨ 8 < o.length ∨ (0 : UInt8) ∈ o
  ·rw [if_pos hc] at hb; simp at hb
  ·rw [if_neg hc]
   exact ⟨fun e => hc (.inl e), by have := fun e => hc (.inr (.inl e)); omega, fun e => hc (.inr (.inr e)), rfl⟩
 ·rw [if_pos rfl]
  exact ⟨_, _, _, rfl, h1, hw, by simp⟩
theorem rkeyA (l : List (List UInt8)) (k : A8 Int) (t : List UInt8) (h : KN k t) : sr_key ⟨H t :: l, false⟩ = some (k, l, false) := by
 obtain ⟨h1, h2, h3, h4⟩ := h
 unfold sr_key; rw [rbytesA l t (by omega), Option.bind_some]
 show ((ids_KeyOf (strI (bytesI t))).bind _ = _)
 rw [strI_bytesI, key1, Option.bind_some]
 have : keyOf t = (k, 0) := by
  unfold keyOf; rw [if_neg (by rintro (e | e | e); exact h1 e; omega; exact h3 e), h4]
 rw [this]; rfl
def K (k : A8 Int) : List UInt8 := H ((kb k).takeWhile (· != 0))
theorem tw0 : ∀ (t : List UInt8) (n : Nat), (0 : UInt8) ∉ t → (t ++ List.replicate n 0).takeWhile (· != 0) = t
 | [], 0, _ => rfl
 | [], n + 1, _ => by rw [List.nil_append, List.replicate_succ, List.takeWhile_cons]; rfl
 | x :: t, n, h => by
  have hx : (x != 0) = true := by rw [bne_iff_ne]; exact fun e => h (by rw [← e]; exact List.mem_cons_self ..)
  rw [List.cons_append, List.takeWhile_cons, hx, if_pos rfl, tw0 t n (fun e => h (List.mem_cons_of_mem _ e))]
theorem KN_K {k : A8 Int} {t : List UInt8} (h : KN k t) : K k = H t := by
 unfold K; rw [h.2.2.2, kb_pad t h.2.1, tw0 t _ h.2.2.1]
theorem KN_of (k : A8 Int) (h : wfK k) (hm : mayK k = true) : ∃ t, KN k t := by
 obtain ⟨t, a, he, ht⟩ := split0 8 (kb k) (kb_len k)
 obtain ⟨s', e1, _⟩ := mayK_eq k h
 have n1 := name1 k h t a he ht
 have hlen := kb_len k
 rw [he] at hlen
 simp only [List.length_append, List.length_replicate] at hlen
 by_cases hc : t = [] ∨ (0 : UInt8) ∈ t
 ·rw [if_pos hc, e1, hm] at n1; simp at n1
 ·exact ⟨t, fun e => hc (.inl e), by omega, fun e => hc (.inr e), by rw [← pad_app t a, ← he, pad_kb k h]⟩
end Go.Proofs.YtdchgoaokceomaaGreatDoor.Wk
