import Derived.Test.YtdchgoaokceomaaGreatDoorTexA
set_option linter.unusedVariables false
set_option linter.unusedSimpArgs false
set_option linter.unusedSectionVars false
namespace Go.Proofs.YtdchgoaokceomaaGreatDoor.Wk
open Go Go.Cn
set_option maxRecDepth 10000
def isDg (x : UInt8) : Prop := 48 ≤ x.toNat ∧ x.toNat ≤ 57
def dv : List UInt8 → Nat → Nat
 | [], n => n
 | x :: r, n => dv r (n * 10 + (x.toNat - 48))
theorem dv_ge : ∀ (r : List UInt8) (n : Nat), n ≤ dv r n
 | [], _ => Nat.le_refl _
 | x :: r, n => by rw [dv]; have := dv_ge r (n * 10 + (x.toNat - 48)); omega
theorem dv_app : ∀ (p : List UInt8) (d : UInt8) (n : Nat), dv (p ++ [d]) n = dv p n * 10 + (d.toNat - 48)
 | [], _, _ => rfl
 | x :: p, d, n => by rw [List.cons_append, dv, dv_app p d, dv]
theorem dec_app : ∀ (k n : Nat) (s : List UInt8), dec k n s = dec k n [] ++ s
 | 0, _, _ => rfl
 | k + 1, n, s => by
  rw [dec, dec]
  split
  ·rfl
  ·rw [dec_app k (n / 10) (_ :: s), dec_app k (n / 10) [_]]; simp
theorem dg_toNat (n : Nat) (h : n < 10) : (UInt8.ofNat (48 + n)).toNat = 48 + n := by rw [UInt8.toNat_ofNat']; omega
theorem dec_P : ∀ (k n : Nat), n < 10 ^ (k + 1) → (∀ x ∈ dec (k + 1) n [], isDg x) ∧ dv (dec (k + 1) n []) 0 = n ∧ ∃ a r, dec (k + 1) n [] = a :: r ∧ (1 ≤ n → a ≠ 48) ∧ (n = 0 → r = [])
 | k, n, h => by
  rw [dec]
  by_cases h1 : n < 10
  ·rw [if_pos h1]
   refine ⟨?_, ?_, _, _, rfl, ?_, fun _ => rfl⟩
   ·intro x hx; rw [List.mem_singleton] at hx; subst hx; unfold isDg; rw [dg_toNat n h1]; omega
   ·rw [dv, dv, dg_toNat n h1]; omega
   ·intro h2 e; have := congrArg UInt8.toNat e; rw [dg_toNat n h1] at this; simp at this; omega
  ·rw [if_neg h1]
   match k with
   | 0 => exact absurd h (by omega)
   | k + 1 =>
    obtain ⟨p1, p2, a, r, p3, p4, p5⟩ := dec_P k (n / 10) (by rw [Nat.pow_succ] at h; omega)
    have hm : n % 10 < 10 := by omega
    rw [dec_app]
    refine ⟨?_, ?_, a, r ++ [_], by rw [p3]; rfl, fun _ => p4 (by omega), fun e => by omega⟩
    ·intro x hx
     rcases List.mem_append.1 hx with hx | hx
     ·exact p1 x hx
     ·rw [List.mem_singleton] at hx; subst hx; unfold isDg; rw [dg_toNat _ hm]; omega
    ·rw [dv_app, p2, dg_toNat _ hm]; omega
theorem dec_U : ∀ (k : Nat) (s : List UInt8) (a : UInt8) (r : List UInt8), s = a :: r → (∀ x ∈ s, isDg x) → (r ≠ [] → a ≠ 48) → dv s 0 < 10 ^ (k + 1) → dec (k + 1) (dv s 0) [] = s
 | k, s, a, r, hs, hd, hz, hv => by
  have hda := hd a (by rw [hs]; exact List.mem_cons_self ..)
  unfold isDg at hda
  rcases List.eq_nil_or_concat r with rfl | ⟨p, d, rfl⟩
  ·subst hs
   have e : dv [a] 0 = a.toNat - 48 := by rw [dv, dv]; omega
   rw [dec, e, if_pos (by omega)]
   congr 1
   apply UInt8.toNat_inj.1
   rw [dg_toNat _ (by omega)]; omega
  ·rw [List.concat_eq_append] at hs
   have e : s = (a :: p) ++ [d] := by rw [hs]; rfl
   have hdd := hd d (by rw [e]; simp)
   unfold isDg at hdd
   have ev : dv s 0 = dv (a :: p) 0 * 10 + (d.toNat - 48) := by rw [e, dv_app]
   have ha : a ≠ 48 := hz (by simp)
   have ha2 : a.toNat ≠ 48 := fun h => ha (UInt8.toNat_inj.1 (by rw [h]; rfl))
   have hge : 1 ≤ dv (a :: p) 0 := by
    rw [dv]; have := dv_ge p (0 * 10 + (a.toNat - 48)); omega
   rw [dec, if_neg (by omega)]
   match k with
   | 0 => exact absurd hv (by omega)
   | k + 1 =>
    have ih := dec_U k (a :: p) a p rfl (fun x hx => hd x (by rw [e]; exact List.mem_append_left _ hx)) (fun _ => ha) (by rw [Nat.pow_succ] at hv; omega)
    rw [dec_app, show dv s 0 / 10 = dv (a :: p) 0 from by omega, ih, e, show dv (a :: p ++ [d]) 0 % 10 = d.toNat - 48 from by rw [dv_app]; omega]
    congr 2
    apply UInt8.toNat_inj.1
    rw [dg_toNat _ (by omega)]; omega
theorem wi32 {x : Int} (h1 : -2147483648 ≤ x) (h2 : x < 2147483648) : IntKind.wrap .i32 x = x := by
 have e : IntKind.wrap .i32 x = (if x % 4294967296 ≥ 2147483648 then x % 4294967296 - 4294967296 else x % 4294967296) := by
  simp [IntKind.wrap, IntKind.bits, IntKind.signed]
 rw [e]
 split <;> omega
theorem get0 (l : List UInt8) (pos : Nat) : (ByteArray.mk l.toArray).get! pos = l.getD pos 0 := by
 show l.toArray[pos]! = _
 rw [List.getElem!_toArray]
 rw [List.getElem!_eq_getElem?_getD, List.getD_eq_getElem?_getD]; rfl
theorem rune_lo (l : List UInt8) (pos : Nat) (h : (l.getD pos 0).toNat < 128) : runeAt l pos = (l.getD pos 0).toNat ∧ widAt l pos = 1 := by
 unfold runeAt widAt Utf8.decode
 simp only [get0, Nat.add_zero]
 rw [if_pos h]; exact ⟨rfl, rfl⟩
theorem rune_hi (l : List UInt8) (pos : Nat) (h : 128 ≤ (l.getD pos 0).toNat) : 128 ≤ runeAt l pos := by
 unfold runeAt Utf8.decode
 simp only [get0, Nat.add_zero]
 rw [if_neg (by omega)]
 split
 ·split
  ·rename_i h; exact h
  ·decide
 ·split
  ·split
   ·rename_i h; rw [Bool.and_eq_true, decide_eq_true_eq] at h; omega
   ·decide
  ·split
   ·split
    ·rename_i h; rw [Bool.and_eq_true, decide_eq_true_eq] at h; omega
    ·decide
   ·decide
theorem drop_cons' (s : List UInt8) (i : Nat) (h : i < s.length) : s.drop i = s.getD i 0 :: s.drop (i + 1) := by
 rw [List.drop_eq_getElem_cons h, List.getD_eq_getElem?_getD, List.getElem?_eq_getElem h]; rfl
theorem num_end (r : TQ) (s : List UInt8) (most n : Int) (hn : 0 ≤ n) (hm : 0 ≤ most) (h : s = [] ∨ (1 < s.length ∧ (s.getD 0 0).toNat = 48) ∨ most < n ∨ (s ≠ [] ∧ (1 < s.length → (s.getD 0 0).toNat ≠ 48) ∧ n ≤ most)) :
  ∀ (fuel pos : Nat), s.length ≤ pos → sr_number_l0 r s most (fuel + 1) n pos =
   if s ≠ [] ∧ (1 < s.length → (s.getD 0 0).toNat ≠ 48) ∧ n ≤ most then some (n, r.f_l, r.f_bad) else some (0, r.f_l, true) := by
 intro fuel pos hp
 rw [sr_number_l0, if_neg (by simpa using hp)]
 by_cases h1 : s = []
 ·rw [if_pos (by simpa using h1), if_neg (fun h => h.1 h1)]
 ·rw [if_neg (by simpa using h1)]
  by_cases h2 : 1 < s.length
  ·rw [if_pos (by rw [decide_eq_true_eq]; omega), if_pos (by omega)]
   by_cases h3 : (s.getD 0 0).toNat = 48
   ·rw [if_pos (by rw [beq_iff_eq, h3]; rfl), if_neg (fun h => h.2.1 h2 h3)]
   ·rw [if_neg (by rw [beq_iff_eq]; omega)]
    by_cases h4 : most < n
    ·rw [if_pos (by simpa using h4), if_neg (fun h => by omega)]
    ·rw [if_neg (by simpa using h4), if_pos ⟨h1, fun _ => h3, by omega⟩]
  ·rw [if_neg (by rw [decide_eq_true_eq]; omega)]
   by_cases h4 : most < n
   ·rw [if_pos (by simpa using h4), if_neg (fun h => by omega)]
   ·rw [if_neg (by simpa using h4), if_pos ⟨h1, fun h => absurd h h2, by omega⟩]
theorem num_loop (r : TQ) (s : List UInt8) (most : Int) (hm : 0 ≤ most ∧ most ≤ 2147483647) : ∀ (fuel pos n : Nat), s.length < fuel + pos → pos ≤ s.length →
  (∃ v b, sr_number_l0 r s most fuel (n : Int) pos = some (v, r.f_l, b) ∧ 0 ≤ v ∧ v ≤ most ∧
   (b = false → r.f_bad = false ∧ (∀ x ∈ s.drop pos, isDg x) ∧ v = (dv (s.drop pos) n : Int) ∧ s ≠ [] ∧ (1 < s.length → (s.getD 0 0).toNat ≠ 48))) ∧
  ((∀ x ∈ s.drop pos, isDg x) → ((dv (s.drop pos) n : Nat) : Int) ≤ most → s ≠ [] → (1 < s.length → (s.getD 0 0).toNat ≠ 48) → sr_number_l0 r s most fuel (n : Int) pos = some ((dv (s.drop pos) n : Int), r.f_l, r.f_bad))
 | 0, pos, n, h, hp => by omega
 | fuel + 1, pos, n, h, hp => by
  by_cases hlt : pos < s.length
  ·rw [drop_cons' s pos hlt]
   have bad : ∀ e : sr_number_l0 r s most (fuel + 1) (n : Int) pos = some (0, r.f_l, true), ∃ v b, sr_number_l0 r s most (fuel + 1) (n : Int) pos = some (v, r.f_l, b) ∧ 0 ≤ v ∧ v ≤ most ∧
     (b = false → r.f_bad = false ∧ (∀ x ∈ s.getD pos 0 :: s.drop (pos + 1), isDg x) ∧ v = (dv (s.getD pos 0 :: s.drop (pos + 1)) n : Int) ∧ s ≠ [] ∧ (1 < s.length → (s.getD 0 0).toNat ≠ 48)) :=
    fun e => ⟨0, true, e, by omega, by omega, by simp⟩
   by_cases hd : isDg (s.getD pos 0)
   ·obtain ⟨e1, e2⟩ := rune_lo s pos (by unfold isDg at hd; omega)
    unfold isDg at hd
    by_cases ht : (2147483647 : Int) < n
    ·have e : sr_number_l0 r s most (fuel + 1) (n : Int) pos = some (0, r.f_l, true) := by
      rw [sr_number_l0, if_pos (by simpa using hlt), e1, if_neg (by rw [decide_eq_true_eq]; omega), if_neg (by rw [decide_eq_true_eq]; omega), if_pos (by simpa using ht)]
     refine ⟨bad e, fun _ hv _ _ => ?_⟩
     have := dv_ge (s.getD pos 0 :: s.drop (pos + 1)) n
     omega
    ·have e : sr_number_l0 r s most (fuel + 1) (n : Int) pos = sr_number_l0 r s most fuel ((n * 10 + ((s.getD pos 0).toNat - 48) : Nat) : Int) (pos + 1) := by
      rw [sr_number_l0, if_pos (by simpa using hlt), e1, e2, if_neg (by rw [decide_eq_true_eq]; omega), if_neg (by rw [decide_eq_true_eq]; omega), if_neg (by simpa using ht)]
      rw [w64 (x := (n : Int) * 10) (by omega) (by omega), wi32 (by omega) (by omega), w64 (x := _ - 48) (by omega) (by omega), w64 (by omega) (by omega)]
      congr 1; omega
     obtain ⟨⟨v, b, i1, i2, i3, i4⟩, i5⟩ := num_loop r s most hm fuel (pos + 1) (n * 10 + ((s.getD pos 0).toNat - 48)) (by omega) (by omega)
     rw [e]
     refine ⟨⟨v, b, i1, i2, i3, fun hb => ?_⟩, fun ha hv h1 h2 => ?_⟩
     ·obtain ⟨j1, j2, j3, j4, j5⟩ := i4 hb
      refine ⟨j1, ?_, j3, j4, j5⟩
      intro x hx
      rcases List.mem_cons.1 hx with rfl | hx
      ·exact hd
      ·exact j2 x hx
     ·exact i5 (fun x hx => ha x (List.mem_cons_of_mem _ hx)) hv h1 h2
   ·have e : sr_number_l0 r s most (fuel + 1) (n : Int) pos = some (0, r.f_l, true) := by
     rw [sr_number_l0, if_pos (by simpa using hlt)]
     by_cases hlo : (s.getD pos 0).toNat < 128
     ·rw [(rune_lo s pos hlo).1]
      unfold isDg at hd
      by_cases h1 : (s.getD pos 0).toNat < 48
      ·rw [if_pos (by rw [decide_eq_true_eq]; omega)]
      ·rw [if_neg (by rw [decide_eq_true_eq]; omega), if_pos (by rw [decide_eq_true_eq]; omega)]
     ·have := rune_hi s pos (by omega)
      rw [if_neg (by rw [decide_eq_true_eq]; omega), if_pos (by rw [decide_eq_true_eq]; omega)]
    exact ⟨bad e, fun ha => absurd (ha _ (List.mem_cons_self ..)) hd⟩
  ·have hnil : s.drop pos = [] := List.drop_eq_nil_of_le (by omega)
   rw [hnil]
   have e := num_end r s most n (by omega) hm.1 (by
    by_cases a : s = []
    ·exact .inl a
    by_cases b : 1 < s.length ∧ (s.getD 0 0).toNat = 48
    ·exact .inr (.inl b)
    by_cases c : most < n
    ·exact .inr (.inr (.inl c))
    ·exact .inr (.inr (.inr ⟨a, fun h1 h2 => b ⟨h1, h2⟩, by omega⟩))) fuel pos (by omega)
   rw [e]
   constructor
   ·split
    ·rename_i hh; exact ⟨_, _, rfl, by omega, hh.2.2, fun hb => ⟨hb, by simp, rfl, hh.1, hh.2.1⟩⟩
    ·exact ⟨_, _, rfl, by omega, by omega, by simp⟩
   ·intro _ hv h1 h2
    rw [if_pos ⟨h1, h2, hv⟩]; rfl
end Go.Proofs.YtdchgoaokceomaaGreatDoor.Wk
