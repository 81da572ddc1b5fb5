import Derived.Test.YtdchgoaokceomaaGreatDoorTexG
set_option linter.unusedVariables false
set_option linter.unusedSimpArgs false
set_option linter.unusedSectionVars false
namespace Go.Proofs.YtdchgoaokceomaaGreatDoor.Wk
open Go Go.Cn
set_option maxRecDepth 10000
def glue (a : List UInt8) : List (List UInt8) → List (List UInt8)
 | [] => [a]
 | w :: ws => (a ++ w) :: ws
theorem rspl_loop (c : UInt8) (s : List UInt8) (hs : s.length ≤ 20000) : ∀ (fuel i : Nat) (ini : List (List UInt8)) (a : List UInt8), s.length < fuel + i → i ≤ s.length → ini.length ≤ i → a.length ≤ i →
  r27_split_l0 s (c.toNat : Int) fuel (i : Int) (ini ++ [a]) = some (ini ++ glue a (spl c (s.drop i)))
 | 0, i, ini, a, h, hi, _, _ => by omega
 | fuel + 1, i, ini, a, h, hi, h1, h2 => by
  rw [r27_split_l0]
  by_cases hlt : i < s.length
  ·rw [if_pos (by rw [decide_eq_true_eq]; omega), if_pos (by omega), Int.toNat_natCast, drop_cons' s i hlt, spl]
   by_cases hc : s.getD i 0 = c
   ·rw [if_pos (by rw [hc, beq_iff_eq]), if_pos hc, if_pos (by simp only [List.length_append, List.length_cons, List.length_nil]; omega), w64 (by omega) (by omega)]
    have := rspl_loop c s hs fuel (i + 1) (ini ++ [a]) [] (by omega) (by omega) (by simp; omega) (by simp)
    rw [show ((i : Int) + 1) = ((i + 1 : Nat) : Int) from rfl, this]
    obtain ⟨w, ws, e, _⟩ := join_spl c (s.drop (i + 1))
    rw [e]; simp [glue]
   ·have hn : ¬ (((s.getD i 0).toNat : Int) == (c.toNat : Int)) = true := by
     rw [beq_iff_eq]; intro e; exact hc (UInt8.toNat_inj.1 (by omega))
    rw [if_neg hn, if_neg hc]
    have hl : ((ini ++ [a]).length : Int) - 1 = (ini.length : Int) := by simp
    rw [hl, w64 (x := (ini.length : Int)) (by omega) (by omega), w64 (x := (i : Int) + 1) (by omega) (by omega)]
    have hg : (ini ++ [a]).getD (ini.length : Int).toNat default = a := by rw [Int.toNat_natCast, List.getD_eq_getElem?_getD]; simp
    have ht : (s.getD i 0 :: s.drop (i + 1)).take (((i : Int) + 1).toNat - i) = [s.getD i 0] := by
     rw [show ((i : Int) + 1).toNat - i = 1 from by omega]; rfl
    rw [hg, ht, if_pos (by simp; omega), if_pos (by omega), if_pos (by simp; omega), Int.toNat_natCast]
    have hst : (ini ++ [a]).set ini.length (a ++ [s.getD i 0]) = ini ++ [a ++ [s.getD i 0]] := by simp
    rw [hst]
    have := rspl_loop c s hs fuel (i + 1) ini (a ++ [s.getD i 0]) (by omega) (by omega) (by omega) (by simp; omega)
    rw [show ((i : Int) + 1) = ((i + 1 : Nat) : Int) from rfl, this]
    obtain ⟨w, ws, e, _⟩ := join_spl c (s.drop (i + 1))
    rw [e]; simp [glue]
  ·rw [if_neg (by rw [decide_eq_true_eq]; omega), List.drop_eq_nil_of_le (by omega), spl]; simp [glue]
theorem rspl (c : UInt8) (s : List UInt8) (hs : s.length ≤ 20000) : r27_split s (c.toNat : Int) = some (spl c s) := by
 have := rspl_loop c s hs big 0 [] [] (bigS hs) (by omega) (by simp) (by simp)
 obtain ⟨w, ws, e, _⟩ := join_spl c s
 rw [List.drop_zero, e] at this
 rw [e]
 exact this
theorem at_eq (w : List (List UInt8)) (i : Nat) : r27_at w (i : Int) = some (w.getD i []) := by
 unfold r27_at
 by_cases h : i < w.length
 ·rw [if_pos (by rw [decide_eq_true_eq]; omega), if_pos (by omega), Int.toNat_natCast]; rfl
 ·rw [if_neg (by rw [decide_eq_true_eq]; omega), List.getD_eq_getElem?_getD, List.getElem?_eq_none (by omega)]; rfl
theorem val_loop (s : List UInt8) (hs : s.length ≤ 10) : ∀ (fuel i n : Nat), s.length < fuel + i → i ≤ s.length → n < 10 ^ i →
  ∃ v, r27_value_l0 s fuel (n : Int) (i : Int) = some v ∧ -2 ≤ v ∧ v ≤ 2147483647 ∧ ((∀ x ∈ s.drop i, isDg x) → dv (s.drop i) n ≤ 2147483647 → v = (dv (s.drop i) n : Int))
 | 0, i, n, h, hi, _ => by omega
 | fuel + 1, i, n, h, hi, hn => by
  rw [r27_value_l0]
  have hp : 10 ^ i ≤ 10 ^ 10 := Nat.pow_le_pow_right (by omega) (by omega)
  by_cases hlt : i < s.length
  ·rw [if_pos (by rw [decide_eq_true_eq]; omega), if_pos (by omega), Int.toNat_natCast, drop_cons' s i hlt]
   have bad : ∀ hd : ¬ isDg (s.getD i 0), (∀ x ∈ s.getD i 0 :: s.drop (i + 1), isDg x) → False := fun hd ha => hd (ha _ (List.mem_cons_self ..))
   by_cases h1 : (s.getD i 0).toNat < 48
   ·rw [if_pos (by rw [decide_eq_true_eq]; omega)]
    exact ⟨-2, rfl, by omega, by omega, fun ha => (bad (by unfold isDg; omega) ha).elim⟩
   ·rw [if_neg (by rw [decide_eq_true_eq]; omega)]
    by_cases h2 : 57 < (s.getD i 0).toNat
    ·rw [if_pos (by rw [decide_eq_true_eq]; omega)]
     exact ⟨-2, rfl, by omega, by omega, fun ha => (bad (by unfold isDg; omega) ha).elim⟩
    ·rw [if_neg (by rw [decide_eq_true_eq]; omega), w64 (x := (n : Int) * 10) (by omega) (by omega), wu8 (by omega) (by omega), w64 (x := _ - 48) (by omega) (by omega), w64 (x := (n : Int) * 10 + _) (by omega) (by omega), w64 (x := (i : Int) + 1) (by omega) (by omega)]
     obtain ⟨v, e, a1, a2, a3⟩ := val_loop s hs fuel (i + 1) (n * 10 + ((s.getD i 0).toNat - 48)) (by omega) (by omega) (by rw [Nat.pow_succ]; omega)
     refine ⟨v, ?_, a1, a2, fun ha hv => a3 (fun x hx => ha x (List.mem_cons_of_mem _ hx)) hv⟩
     rw [← e]
     congr 1; omega
  ·rw [if_neg (by rw [decide_eq_true_eq]; omega), List.drop_eq_nil_of_le (by omega)]
   by_cases h1 : (2147483647 : Int) < n
   ·rw [if_pos (by simpa using h1)]; exact ⟨-2, rfl, by omega, by omega, fun _ hv => by rw [dv] at hv; omega⟩
   ·rw [if_neg (by simpa using h1)]; exact ⟨n, rfl, by omega, by omega, fun _ _ => rfl⟩
theorem val_tot (s : List UInt8) : ∃ v, r27_value s = some v ∧ -2 ≤ v ∧ v ≤ 2147483647 := by
 unfold r27_value
 by_cases h0 : s = []
 ·exact ⟨-2, by rw [if_pos (by rw [beq_iff_eq]; exact h0)], by omega, by omega⟩
 rw [if_neg (by rw [beq_iff_eq]; exact h0)]
 by_cases h1 : 10 < s.length
 ·exact ⟨-2, by rw [if_pos (by rw [decide_eq_true_eq]; omega)], by omega, by omega⟩
 rw [if_neg (by rw [decide_eq_true_eq]; omega)]
 obtain ⟨v, e, a1, a2, _⟩ := val_loop s (by omega) big 0 0 (bigS (by omega)) (by omega) (by simp)
 have e : r27_value_l0 s big 0 0 = some v := e
 by_cases h2 : 1 < s.length
 ·rw [if_pos (by rw [decide_eq_true_eq]; omega), if_pos (by omega)]
  split
  ·exact ⟨-2, rfl, by omega, by omega⟩
  ·exact ⟨v, e, a1, a2⟩
 ·rw [if_neg (by rw [decide_eq_true_eq]; omega)]; exact ⟨v, e, a1, a2⟩
theorem dec_len2 : ∀ (k j n : Nat), n < 10 ^ (k + 1) → (dec j n []).length ≤ k + 1
 | k, 0, _, _ => by simp [dec]
 | k, j + 1, n, h => by
  rw [dec]
  split
  ·simp
  ·match k with
   | 0 => exact absurd h (by omega)
   | k + 1 =>
    rw [dec_app]
    have := dec_len2 k j (n / 10) (by rw [Nat.pow_succ] at h; omega)
    simp; omega
theorem valA (v : Int) (h1 : 0 ≤ v) (h2 : v ≤ 2147483647) : r27_value (D v) = some v := by
 obtain ⟨p1, p2, a, r, p3, p4, p5⟩ := D_P v h1 (by omega)
 have hl : (D v).length ≤ 10 := dec_len2 9 11 v.toNat (by omega)
 obtain ⟨u, e, _, _, a3⟩ := val_loop (D v) hl big 0 0 (bigS (by omega)) (by omega) (by simp)
 rw [List.drop_zero] at a3
 have hu := a3 p1 (by omega)
 have e : r27_value_l0 (D v) big 0 0 = some v := by
  refine e.trans ?_
  rw [hu, p2]; congr 1; omega
 unfold r27_value
 rw [if_neg (by rw [beq_iff_eq, p3]; simp), if_neg (by rw [decide_eq_true_eq]; omega)]
 by_cases h3 : 1 < (D v).length
 ·rw [if_pos (by rw [decide_eq_true_eq]; omega), if_pos (by omega), if_neg ?_, e]
  rw [beq_iff_eq, p3, List.getD_cons_zero]
  intro h4
  rcases Nat.eq_zero_or_pos v.toNat with h | h
  ·rw [p3, p5 h] at h3; simp at h3
  ·exact p4 h (UInt8.toNat_inj.1 (by show a.toNat = 48; omega))
 ·rw [if_neg (by rw [decide_eq_true_eq]; omega), e]
theorem leastA (v : Int) (h1 : -1 ≤ v) (h2 : v ≤ 2147483647) : r27_least (S v) = some v := by
 unfold r27_least S
 by_cases h : v < 0
 ·rw [if_pos h, if_pos (by rfl), show v = -1 from by omega]
 ·rw [if_neg h, if_neg (by rw [beq_iff_eq]; exact D_ne v (by omega) (by omega)), valA v (by omega) h2]; rfl
theorem least_tot (s : List UInt8) : ∃ v, r27_least s = some v ∧ -2 ≤ v ∧ v ≤ 2147483647 := by
 unfold r27_least
 obtain ⟨v, e, a1, a2⟩ := val_tot s
 split
 ·exact ⟨-1, rfl, by omega, by omega⟩
 ·rw [e]; exact ⟨v, rfl, a1, a2⟩
theorem nbl_tot (c : Int) : ∃ v, r27_nibble c = some v := by
 unfold r27_nibble
 split <;> exact ⟨_, rfl⟩
def hexOK (n : Nat) : Bool := (r27_nibble ((hd n).toNat : Int) == some (n : Int)) && ((decide (48 ≤ (hd n).toNat) && decide ((hd n).toNat ≤ 57)) || (decide (97 ≤ (hd n).toNat) && decide ((hd n).toNat ≤ 102)))
theorem hex_all : (List.range 16).all hexOK = true := by kernel_rfl
theorem hex_P (n : Nat) (h : n < 16) : r27_nibble ((hd n).toNat : Int) = some (n : Int) ∧ ((48 ≤ (hd n).toNat ∧ (hd n).toNat ≤ 57) ∨ (97 ≤ (hd n).toNat ∧ (hd n).toNat ≤ 102)) := by
 have := (List.all_eq_true.1 hex_all) n (List.mem_range.2 h)
 unfold hexOK at this
 simp only [Bool.and_eq_true, Bool.or_eq_true, decide_eq_true_eq, beq_iff_eq] at this
 exact this
theorem l1_loop (w : List UInt8) (hl : w.length ≤ 20000) (hev : w.length % 2 = 0) : ∀ (fuel i : Nat) (out : List UInt8), w.length < fuel + i → i ≤ w.length → i % 2 = 0 → out.length ≤ i →
  (∃ o, r27_bytes_l1 w fuel out (i : Int) = some (o, true)) ∧ (∀ o, w.drop i = o.flatMap hx → r27_bytes_l1 w fuel out (i : Int) = some (out ++ o, true))
 | 0, i, out, h, hi, _, _ => by omega
 | fuel + 1, i, out, h, hi, hm, ho => by
  rw [r27_bytes_l1]
  by_cases hlt : i < w.length
  ·have h1 : i + 1 < w.length := by omega
   obtain ⟨p, hp⟩ := nbl_tot ((w.getD i 0).toNat : Int)
   obtain ⟨q, hq⟩ := nbl_tot ((w.getD (i + 1) 0).toNat : Int)
   rw [if_pos (by rw [decide_eq_true_eq]; omega), if_pos (by omega), Int.toNat_natCast, hp, Option.bind_some, w64 (x := (i : Int) + 1) (by omega) (by omega), if_pos (by omega)]
   rw [show ((i : Int) + 1).toNat = i + 1 from by omega, hq, Option.bind_some, if_pos (by show out.length + 1 ≤ _; omega), w64 (x := (i : Int) + 2) (by omega) (by omega)]
   obtain ⟨⟨o, e⟩, e2⟩ := l1_loop w hl hev fuel (i + 2) (out ++ strI [IntKind.wrap .u8 (IntKind.wrap .u8 (p * 16) + q)]) (by omega) (by omega) (by omega) (by show (out ++ [_]).length ≤ _; simp; omega)
   refine ⟨⟨o, e⟩, fun o' ho' => ?_⟩
   rw [drop_cons' w i hlt, drop_cons' w (i + 1) h1] at ho'
   match o', ho' with
   | x :: o'', ho' =>
    rw [List.flatMap_cons] at ho'
    have ho' : w.getD i 0 :: w.getD (i + 1) 0 :: w.drop (i + 2) = hd (x.toNat / 16) :: hd (x.toNat % 16) :: o''.flatMap hx := ho'
    simp only [List.cons.injEq] at ho'
    obtain ⟨g1, g2, g3⟩ := ho'
    have hx8 := x.toNat_lt
    have n1 := (hex_P (x.toNat / 16) (by omega)).1
    have n2 := (hex_P (x.toNat % 16) (by omega)).1
    rw [← g1, hp] at n1; rw [← g2, hq] at n2
    have n1 := Option.some.inj n1; have n2 := Option.some.inj n2
    refine (e2 o'' g3).trans ?_
    rw [n1, n2, wu8 (x := ((x.toNat / 16 : Nat) : Int) * 16) (by omega) (by omega), wu8 (by omega) (by omega), List.append_assoc]
    congr 3
    show UInt8.ofNat _ :: o'' = x :: o''
    congr 1
    rw [show (((x.toNat / 16 : Nat) : Int) * 16 + ((x.toNat % 16 : Nat) : Int)).toNat = x.toNat from by omega]
    exact UInt8.ofNat_toNat
  ·rw [if_neg (by rw [decide_eq_true_eq]; omega), List.drop_eq_nil_of_le (by omega)]
   refine ⟨⟨out, rfl⟩, fun o ho' => ?_⟩
   rw [flat_hx_nil ho'.symm, List.append_nil]
theorem l0_loop (w : List UInt8) (hl : w.length ≤ 20000) : ∀ (fuel i : Nat), w.length < fuel + i → i ≤ w.length →
  (r27_bytes_l0 w fuel (i : Int) = some ([], false) ∨ r27_bytes_l0 w fuel (i : Int) = r27_bytes_l1 w big [] 0) ∧
  ((∀ x ∈ w.drop i, (48 ≤ x.toNat ∧ x.toNat ≤ 57) ∨ (97 ≤ x.toNat ∧ x.toNat ≤ 102)) → r27_bytes_l0 w fuel (i : Int) = r27_bytes_l1 w big [] 0)
 | 0, i, h, hi => by omega
 | fuel + 1, i, h, hi => by
  rw [r27_bytes_l0]
  by_cases hlt : i < w.length
  ·rw [if_pos (by rw [decide_eq_true_eq]; omega), if_pos (by omega), Int.toNat_natCast, w64 (by omega) (by omega), drop_cons' w i hlt]
   have ih := l0_loop w hl fuel (i + 1) (by omega) (by omega)
   rw [show ((i : Int) + 1) = ((i + 1 : Nat) : Int) from rfl]
   by_cases hh : (48 ≤ (w.getD i 0).toNat ∧ (w.getD i 0).toNat ≤ 57) ∨ (97 ≤ (w.getD i 0).toNat ∧ (w.getD i 0).toNat ≤ 102)
   ·have e : ∀ X Y : Option (List UInt8 × Bool), (if decide (48 ≤ ((w.getD i 0).toNat : Int)) = true then if decide (((w.getD i 0).toNat : Int) ≤ 57) = true then X else if decide (97 ≤ ((w.getD i 0).toNat : Int)) = true then if (!decide (((w.getD i 0).toNat : Int) ≤ 102)) = true then Y else X else Y
      else if decide (97 ≤ ((w.getD i 0).toNat : Int)) = true then if (!decide (((w.getD i 0).toNat : Int) ≤ 102)) = true then Y else X else Y) = X := by
     intro X Y
     rw [if_pos (by rw [decide_eq_true_eq]; omega)]
     by_cases h5 : (w.getD i 0).toNat ≤ 57
     ·rw [if_pos (by rw [decide_eq_true_eq]; omega)]
     ·rw [if_neg (by rw [decide_eq_true_eq]; omega), if_pos (by rw [decide_eq_true_eq]; omega), if_neg (by rw [Bool.not_eq_true', decide_eq_false_iff_not]; omega)]
    rw [e]
    exact ⟨ih.1, fun ha => ih.2 fun x hx => ha x (List.mem_cons_of_mem _ hx)⟩
   ·have e : ∀ X Y : Option (List UInt8 × Bool), (if decide (48 ≤ ((w.getD i 0).toNat : Int)) = true then if decide (((w.getD i 0).toNat : Int) ≤ 57) = true then X else if decide (97 ≤ ((w.getD i 0).toNat : Int)) = true then if (!decide (((w.getD i 0).toNat : Int) ≤ 102)) = true then Y else X else Y
      else if decide (97 ≤ ((w.getD i 0).toNat : Int)) = true then if (!decide (((w.getD i 0).toNat : Int) ≤ 102)) = true then Y else X else Y) = Y := by
     intro X Y
     by_cases h4 : 48 ≤ (w.getD i 0).toNat
     ·rw [if_pos (by rw [decide_eq_true_eq]; omega), if_neg (by rw [decide_eq_true_eq]; omega)]
      by_cases h5 : 97 ≤ (w.getD i 0).toNat
      ·rw [if_pos (by rw [decide_eq_true_eq]; omega), if_pos (by rw [Bool.not_eq_true', decide_eq_false_iff_not]; omega)]
      ·rw [if_neg (by rw [decide_eq_true_eq]; omega)]
     ·rw [if_neg (by rw [decide_eq_true_eq]; omega), if_neg (by rw [decide_eq_true_eq]; omega)]
    rw [e]
    exact ⟨.inl rfl, fun ha => absurd (ha _ (List.mem_cons_self ..)) hh⟩
  ·rw [if_neg (by rw [decide_eq_true_eq]; omega)]
   exact ⟨.inr rfl, fun _ => rfl⟩
theorem text_tot (s : List UInt8) (hs : s.length ≤ 20000) : ∃ o, r27_text s = some o := by
 unfold r27_text r27_bytes
 split
 ·exact ⟨_, rfl⟩
 split
 ·exact ⟨_, rfl⟩
 split
 ·exact ⟨_, rfl⟩
 ·rename_i h
  have hev : s.length % 2 = 0 := by
   rw [beq_iff_eq] at h
   have e : Int.tmod (s.length : Int) 2 = ((s.length % 2 : Nat) : Int) := rfl
   rw [e] at h; omega
  rcases (l0_loop s hs big 0 (bigS hs) (by omega)).1 with e | e
  ·have e : r27_bytes_l0 s big 0 = some ([], false) := e
   rw [e]; exact ⟨_, rfl⟩
  ·obtain ⟨o, e2⟩ := (l1_loop s hs hev big 0 [] (bigS hs) (by omega) rfl (by simp)).1
   have e : r27_bytes_l0 s big 0 = some (o, true) := e.trans e2
   rw [e]; exact ⟨_, rfl⟩
theorem hx_mem : ∀ (o : List UInt8), ∀ x ∈ o.flatMap hx, (48 ≤ x.toNat ∧ x.toNat ≤ 57) ∨ (97 ≤ x.toNat ∧ x.toNat ≤ 102) := by
 intro o x h
 rw [List.mem_flatMap] at h
 obtain ⟨y, _, hy⟩ := h
 have := y.toNat_lt
 simp only [hx, List.mem_cons, List.not_mem_nil, or_false] at hy
 rcases hy with rfl | rfl
 ·exact (hex_P _ (by omega)).2
 ·exact (hex_P _ (by omega)).2
theorem textA (o : List UInt8) (ho : o.length ≤ 9000) : r27_text (H o) = some o := by
 by_cases hn : o = []
 ·subst hn; rfl
 ·have hh : H o = o.flatMap hx := by unfold H; rw [if_neg hn]
  have hlen := hx_len o
  unfold r27_text r27_bytes
  rw [hh, if_neg (by rw [beq_iff_eq]; exact H_ne o hn), if_neg (by rw [beq_iff_eq]; exact fun e => hn (flat_hx_nil e)), if_neg ?_]
  ·have e1 := (l0_loop (o.flatMap hx) (by omega) big 0 (bigS (by omega)) (by omega)).2 (by rw [List.drop_zero]; exact hx_mem o)
   have e2 := (l1_loop (o.flatMap hx) (by omega) (by omega) big 0 [] (bigS (by omega)) (by omega) rfl (by simp)).2 o (by rw [List.drop_zero])
   have e : r27_bytes_l0 (o.flatMap hx) big 0 = some (o, true) := e1.trans e2
   rw [e]; rfl
  ·have e : Int.tmod ((o.flatMap hx).length : Int) 2 = (((o.flatMap hx).length % 2 : Nat) : Int) := rfl
   rw [e, beq_iff_eq]; omega
end Go.Proofs.YtdchgoaokceomaaGreatDoor.Wk
