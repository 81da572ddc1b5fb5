import Derived.Test.YtdchgoaokceomaaGreatDoorTexH
set_option linter.unusedVariables false
set_option linter.unusedSimpArgs false
set_option linter.unusedSectionVars false
namespace Go.Proofs.YtdchgoaokceomaaGreatDoor.Wk
open Go Go.Cn
set_option maxRecDepth 10000
def sgn : List UInt8 := [48, 49, 50, 51, 52, 53, 54, 55, 56, 57, 97, 98, 99, 100, 101, 102]
def nib (x : UInt8) : Int := Lib.indexByte sgn x
def nibOK (n : Nat) : Bool := decide (nib (UInt8.ofNat n) < 0) || (decide (0 ≤ nib (UInt8.ofNat n)) && decide (nib (UInt8.ofNat n) < 16) && (hd (nib (UInt8.ofNat n)).toNat == UInt8.ofNat n))
theorem nib_all : (List.range 256).all nibOK = true := by kernel_rfl
theorem hd_all : (List.range 16).all (fun n => decide (nib (hd n) = (n : Int))) = true := by kernel_rfl
theorem nib_P (x : UInt8) : nib x < 0 ∨ (0 ≤ nib x ∧ nib x < 16 ∧ hd (nib x).toNat = x) := by
 have := (List.all_eq_true.1 nib_all) x.toNat (List.mem_range.2 x.toNat_lt)
 unfold nibOK at this
 rw [UInt8.ofNat_toNat] at this
 simp only [Bool.or_eq_true, Bool.and_eq_true, decide_eq_true_eq, beq_iff_eq] at this
 rcases this with h | ⟨⟨h1, h2⟩, h3⟩
 ·exact .inl h
 ·exact .inr ⟨h1, h2, h3⟩
theorem nib_hd (n : Nat) (h : n < 16) : nib (hd n) = (n : Int) := by
 have := (List.all_eq_true.1 hd_all) n (List.mem_range.2 h)
 simpa using this
def two16 (h l : Nat) : Bool := decide (IntKind.wrap .u8 (IntKind.wrap .i64 ((BitVec.ofInt (IntKind.bits .i64) (IntKind.wrap .i64 ((h : Int) * 2 ^ (min (Int.toNat 4) (IntKind.bits .i64)))) ||| BitVec.ofInt (IntKind.bits .i64) (l : Int)).toNat : Int)) = ((h * 16 + l : Nat) : Int))
theorem two_all : (List.range 16).all (fun h => (List.range 16).all (two16 h)) = true := by kernel_rfl
theorem two_eq (h l : Nat) (h1 : h < 16) (h2 : l < 16) : IntKind.wrap .u8 (IntKind.wrap .i64 ((BitVec.ofInt (IntKind.bits .i64) (IntKind.wrap .i64 ((h : Int) * 2 ^ (min (Int.toNat 4) (IntKind.bits .i64)))) ||| BitVec.ofInt (IntKind.bits .i64) (l : Int)).toNat : Int)) = ((h * 16 + l : Nat) : Int) :=
 of_decide_eq_true ((List.all_eq_true.1 ((List.all_eq_true.1 two_all) h (List.mem_range.2 h1))) l (List.mem_range.2 h2))
def unhx : List UInt8 → Option (List UInt8)
 | [] => some []
 | [_] => none
 | a :: b :: r => if nib a < 0 ∨ nib b < 0 then none else (unhx r).map fun o => UInt8.ofNat ((nib a).toNat * 16 + (nib b).toNat) :: o
theorem unhx_B : ∀ (w o : List UInt8), unhx w = some o → w = o.flatMap hx
 | [], o, h => by cases h; rfl
 | [_], o, h => by cases h
 | a :: b :: r, o, h => by
  rw [unhx] at h
  by_cases hc : nib a < 0 ∨ nib b < 0
  ·rw [if_pos hc] at h; cases h
  ·rw [if_neg hc] at h
   cases hu : unhx r with
   | none => rw [hu] at h; cases h
   | some o' =>
    rw [hu] at h; cases h
    rcases nib_P a with h1 | ⟨a1, a2, a3⟩
    ·exact absurd (.inl h1) hc
    rcases nib_P b with h1 | ⟨b1, b2, b3⟩
    ·exact absurd (.inr h1) hc
    have e : (UInt8.ofNat ((nib a).toNat * 16 + (nib b).toNat)).toNat = (nib a).toNat * 16 + (nib b).toNat := by rw [UInt8.toNat_ofNat']; omega
    rw [List.flatMap_cons, ← unhx_B r o' hu]
    unfold hx
    rw [e, show ((nib a).toNat * 16 + (nib b).toNat) / 16 = (nib a).toNat from by omega, show ((nib a).toNat * 16 + (nib b).toNat) % 16 = (nib b).toNat from by omega, a3, b3]; rfl
theorem unhx_A : ∀ o : List UInt8, unhx (o.flatMap hx) = some o
 | [] => rfl
 | x :: o => by
  have hx8 := x.toNat_lt
  rw [List.flatMap_cons]
  show unhx (hd (x.toNat / 16) :: hd (x.toNat % 16) :: o.flatMap hx) = _
  rw [unhx, nib_hd _ (by omega), nib_hd _ (by omega), if_neg (by omega), unhx_A o]
  rw [Int.toNat_natCast, Int.toNat_natCast, show x.toNat / 16 * 16 + x.toNat % 16 = x.toNat from by omega]
  simp
theorem sib (x : Int) (c : UInt8) (h : x = (c.toNat : Int)) : strings_IndexByte ([48, 49, 50, 51, 52, 53, 54, 55, 56, 57, 97, 98, 99, 100, 101, 102] : List UInt8) x = some (nib c) := by
 subst h
 show some (Lib.indexByte sgn ((c.toNat : Int)).toNat.toUInt8) = some (Lib.indexByte sgn c)
 rw [Int.toNat_natCast]
 congr 2
 exact UInt8.ofNat_toNat
theorem bytes_loop (r0 : TQ) (w : List UInt8) (l' : List (List UInt8)) (b0 : Bool) (hl : w.length ≤ 20000) (hev : w.length % 2 = 0) : ∀ (fuel i : Nat) (out : List Int), w.length < fuel + i → i ≤ w.length → i % 2 = 0 → out.length ≤ 20000 + i →
  sr_bytes_l0 r0 (w, l', b0) fuel (i : Int) false out = match unhx (w.drop i) with | some o => some (out ++ bytesI o, l', false) | none => some ([], l', true)
 | 0, i, out, h, hi, _, _ => by omega
 | fuel + 1, i, out, h, hi, hm, ho => by
  rw [sr_bytes_l0]
  by_cases hlt : i < w.length
  ·have h1 : i + 1 < w.length := by omega
   have ed : w.drop i = w.getD i 0 :: w.getD (i + 1) 0 :: w.drop (i + 2) := by rw [drop_cons' w i hlt, drop_cons' w (i + 1) h1]
   rw [w64 (x := (i : Int) + 1) (by omega) (by omega), if_pos (by rw [decide_eq_true_eq]; show (i : Int) + 1 < (w.length : Int); omega), if_pos (by decide), if_pos (by show 0 ≤ (i : Int) ∧ (i : Int) < ((w.length : Nat) : Int); omega)]
   rw [sib _ (w.getD i 0) (by rw [Int.toNat_natCast]), Option.bind_some, if_pos (by show 0 ≤ (i : Int) + 1 ∧ (i : Int) + 1 < ((w.length : Nat) : Int); omega)]
   rw [sib _ (w.getD (i + 1) 0) (by rw [show ((i : Int) + 1).toNat = i + 1 from by omega]), Option.bind_some, ed, unhx]
   rcases nib_P (w.getD i 0) with a | ⟨a1, a2, a3⟩
   ·rw [if_pos (by simpa using a), if_pos (.inl a)]
   rw [if_neg (by rw [decide_eq_true_eq]; omega)]
   rcases nib_P (w.getD (i + 1) 0) with b | ⟨b1, b2, b3⟩
   ·rw [if_pos (by simpa using b), if_pos (.inr b)]
   rw [if_neg (by rw [decide_eq_true_eq]; omega), if_pos (by simp only [List.length_cons, List.length_nil]; omega), if_neg (by omega), w64 (x := (i : Int) + 2) (by omega) (by omega)]
   obtain ⟨p, hp⟩ := Int.eq_ofNat_of_zero_le a1
   obtain ⟨q, hq⟩ := Int.eq_ofNat_of_zero_le b1
   rw [hp, hq]
   have e2 := two_eq p q (by omega) (by omega)
   rw [e2]
   have := bytes_loop r0 w l' b0 hl hev fuel (i + 2) (out ++ [((p * 16 + q : Nat) : Int)]) (by omega) (by omega) (by omega) (by simp; omega)
   rw [show ((i : Int) + 2) = ((i + 2 : Nat) : Int) from rfl, this]
   cases hu : unhx (w.drop (i + 2)) with
   | none => rfl
   | some o =>
    show some (_, l', false) = some (_, l', false)
    rw [Int.toNat_natCast, Int.toNat_natCast, List.append_assoc]
    congr 3
    show ((p * 16 + q : Nat) : Int) :: bytesI o = (((UInt8.ofNat (p * 16 + q)).toNat : Nat) : Int) :: bytesI o
    rw [UInt8.toNat_ofNat', Nat.mod_eq_of_lt (by omega)]
  ·have hnil : w.drop i = [] := List.drop_eq_nil_of_le (by omega)
   rw [w64 (x := (i : Int) + 1) (by omega) (by omega), if_neg (by rw [decide_eq_true_eq]; show ¬ (i : Int) + 1 < (w.length : Int); omega), hnil, unhx]
   simp [bytesI]
theorem bytes_bad (r0 : TQ) (w : List UInt8) (l' : List (List UInt8)) (b0 : Bool) : sr_bytes_c5 r0 (w, l', b0) true = some ([], l', true) := by
 unfold sr_bytes_c5
 rw [show big = (big - 1) + 1 from by have := big_lt (n := 1) (by omega); omega, sr_bytes_l0]
 split
 ·rfl
 ·rfl
theorem flat_hx_nil {o : List UInt8} (h : o.flatMap hx = []) : o = [] := by
 have := hx_len o; rw [h] at this; simp at this; exact List.length_eq_zero_iff.1 (by omega)
theorem bytesI_wB (o : List UInt8) : wB (bytesI o) := by
 intro x hx
 simp only [bytesI, List.mem_map] at hx
 obtain ⟨y, _, rfl⟩ := hx
 have := y.toNat_lt
 omega
theorem rbytesB (l : List (List UInt8)) (b : Bool) (h : Sm l) : ∃ o l' b', sr_bytes ⟨l, b⟩ = some (bytesI o, l', b') ∧ Sm l' ∧ o.length ≤ 20000 ∧ (b' = false → b = false ∧ l = H o :: l') := by
 obtain ⟨w, l', b1, e1, h1, h2, h3⟩ := wordB l b h
 unfold sr_bytes; rw [e1, Option.bind_some]
 by_cases hw : w = [45]
 ·exact ⟨[], l', b1, by rw [if_pos (by rw [beq_iff_eq]; exact hw)]; rfl, h2, by simp, fun hb => by rw [(h3 hb).2, hw]; exact ⟨(h3 hb).1, rfl⟩⟩
 rw [if_neg (by rw [beq_iff_eq]; exact hw)]
 cases b1
 ·rw [if_neg (by simp)]
  by_cases hn : w = []
  ·rw [if_pos (by rw [beq_iff_eq]; exact hn), bytes_bad]; exact ⟨[], l', true, rfl, h2, by simp, by simp⟩
  rw [if_neg (by rw [beq_iff_eq]; exact hn)]
  have et : (Int.tmod (w.length : Int) 2 != 0) = decide (w.length % 2 ≠ 0) := by
   have : Int.tmod (w.length : Int) 2 = ((w.length % 2 : Nat) : Int) := rfl
   rw [this, Bool.eq_iff_iff]; simp; omega
  show ∃ o l'_1 b', sr_bytes_c5 ⟨l, b⟩ (w, l', false) (Int.tmod (w.length : Int) 2 != 0) = _ ∧ _
  rw [et]
  by_cases ho : w.length % 2 = 0
  ·rw [show decide (w.length % 2 ≠ 0) = false from by simpa using ho]
   have := bytes_loop ⟨l, b⟩ w l' false h1 ho big 0 [] (bigS h1) (by omega) rfl (by simp)
   unfold sr_bytes_c5
   rw [show (0 : Int) = ((0 : Nat) : Int) from rfl, this, List.drop_zero]
   cases hu : unhx w with
   | none => exact ⟨[], l', true, rfl, h2, by simp, by simp⟩
   | some o =>
    have hwo := unhx_B w o hu
    have hol := hx_len o
    rw [← hwo] at hol
    refine ⟨o, l', false, rfl, h2, by omega, fun _ => ⟨(h3 rfl).1, ?_⟩⟩
    rw [(h3 rfl).2]
    unfold H
    rw [if_neg (fun e => hn (by rw [hwo, e]; rfl)), ← hwo]
  ·rw [show decide (w.length % 2 ≠ 0) = true from by simpa using ho, bytes_bad]
   exact ⟨[], l', true, rfl, h2, by simp, by simp⟩
 ·rw [if_pos rfl, bytes_bad]; exact ⟨[], l', true, rfl, h2, by simp, by simp⟩
theorem H_ne (o : List UInt8) (h : o ≠ []) : o.flatMap hx ≠ [45] := by
 intro e
 have := hx_len o
 rw [e] at this
 simp at this; omega
theorem rbytesA (l : List (List UInt8)) (o : List UInt8) (ho : o.length ≤ 9000) : sr_bytes ⟨H o :: l, false⟩ = some (bytesI o, l, false) := by
 unfold sr_bytes; rw [word_cons, Option.bind_some]
 by_cases hn : o = []
 ·subst hn; rfl
 ·have hh : H o = o.flatMap hx := by unfold H; rw [if_neg hn]
  have hlen := hx_len o
  rw [hh, if_neg (by rw [beq_iff_eq]; exact H_ne o hn), if_neg (by simp), if_neg (by rw [beq_iff_eq]; exact fun e => hn (flat_hx_nil e))]
  have et : (Int.tmod (((o.flatMap hx, l, false) : List UInt8 × List (List UInt8) × Bool).1.length : Int) 2 != 0) = false := by
   show (Int.tmod ((o.flatMap hx).length : Int) 2 != 0) = false
   rw [hlen]
   have : Int.tmod ((2 * o.length : Nat) : Int) 2 = ((2 * o.length % 2 : Nat) : Int) := rfl
   rw [this]; simp
  rw [et]
  have := bytes_loop ⟨o.flatMap hx :: l, false⟩ (o.flatMap hx) l false (by omega) (by omega) big 0 [] (bigS (by omega)) (by omega) rfl (by simp)
  unfold sr_bytes_c5
  rw [show (0 : Int) = ((0 : Nat) : Int) from rfl, this, List.drop_zero, unhx_A]; rfl
end Go.Proofs.YtdchgoaokceomaaGreatDoor.Wk
