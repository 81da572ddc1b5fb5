import Derived.Test.YtdchgoaokceomaaGreatDoorTexW
import Derived.Test.YtdchgoaokceomaaGreatDoorCnX
set_option linter.unusedVariables false
set_option linter.unusedSimpArgs false
set_option linter.unusedSectionVars false
namespace Go.Proofs.YtdchgoaokceomaaGreatDoor.Wk
open Go Go.Cn
set_option maxRecDepth 10000
def dec : Nat → Nat → List UInt8 → List UInt8
 | 0, _, s => s
 | f + 1, n, s => if n < 10 then UInt8.ofNat (48 + n) :: s else dec f (n / 10) (UInt8.ofNat (48 + n % 10) :: s)
theorem dec_len : ∀ (k n : Nat) (s : List UInt8), (dec k n s).length ≤ k + s.length
 | 0, _, s => by simp [dec]
 | k + 1, n, s => by
  rw [dec]
  split
  ·simp; omega
  ·have := dec_len k (n / 10) (UInt8.ofNat (48 + n % 10) :: s)
   simp only [List.length_cons] at this; omega
theorem tm (n : Nat) : Int.tmod (n : Int) 10 = ((n % 10 : Nat) : Int) := rfl
theorem td (n : Nat) : Int.tdiv (n : Int) 10 = ((n / 10 : Nat) : Int) := rfl
theorem strI_append (a b : List Int) : strI (a ++ b) = strI a ++ strI b := by simp [strI]
theorem strI_one (x : Int) : strI [x] = [UInt8.ofNat x.toNat] := rfl
theorem ref_dig : ∀ (k fuel n : Nat) (s : List UInt8), n < 10 ^ (k + 1) → k + 1 ≤ fuel → n < 100000000000 → s.length + k ≤ 1000000 →
  r27_digits_l0 fuel (n : Int) s = some (dec (k + 1) n s)
 | k, 0, _, _, _, h, _, _ => by omega
 | k, fuel + 1, n, s, h1, h2, h3, h4 => by
  rw [r27_digits_l0, dec]
  simp only [tm, td]
  rw [wu64 (by omega) (by omega), wu64 (by omega) (by omega), wu8 (by omega) (by omega), strI_one, if_pos (by simp; omega)]
  rw [show ((48 : Int) + ((n % 10 : Nat) : Int)).toNat = 48 + n % 10 from by omega]
  by_cases hn : n < 10
  ·rw [if_pos (by simp; omega), if_pos hn, Nat.mod_eq_of_lt hn]; rfl
  ·rw [if_neg (by simp; omega), if_neg hn]
   match k with
   | 0 => exact absurd h1 (by omega)
   | k + 1 =>
    exact ref_dig k fuel (n / 10) _ (by rw [Nat.pow_succ] at h1; omega) (by omega) (by omega) (by simp; omega)
theorem set_app_left (a b : List Int) (x y : Int) : (a ++ x :: b).set a.length y = a ++ y :: b := by
 simp
theorem rev_loop (s : List Int) : ∀ (fuel : Nat) (a m b l : List Int), m.length < 2 * fuel → l = a ++ (m ++ b) → l.length < 1000000000 →
  slices_Reverse_byte_byte_l0 s fuel (a.length : Int) ((a.length : Int) + (m.length : Int) - 1) l = some (a ++ (m.reverse ++ b))
 | 0, a, m, b, l, h, _, _ => by omega
 | fuel + 1, a, m, b, l, h, hl, hs => by
  rw [slices_Reverse_byte_byte_l0]
  match m, h, hl with
  | [], h, hl => rw [if_neg (by simp; omega), hl]; rfl
  | x :: r, h, hl =>
   rcases List.eq_nil_or_concat r with rfl | ⟨m', y, rfl⟩
   ·rw [if_neg (by simp), hl]; rfl
   ·simp only [List.concat_eq_append] at h hl ⊢
    have e : l = a ++ x :: (m' ++ y :: b) := by rw [hl]; simp
    have hlen : l.length = a.length + (m'.length + 2) + b.length := by rw [e]; simp; omega
    have ej : ((a.length : Int) + ((x :: (m' ++ [y])).length : Int) - 1) = ((a.length + (m'.length + 1) : Nat) : Int) := by simp; omega
    rw [ej, if_pos (by simp; omega), if_pos (by omega), if_pos (by omega), if_pos (by simp; omega)]
    have g1 : l.getD (a.length + (m'.length + 1)) default = y := by
     rw [e, List.getD_eq_getElem?_getD, List.getElem?_append_right (by omega), show a.length + (m'.length + 1) - a.length = m'.length + 1 from by omega]
     simp
    have g2 : l.getD a.length default = x := by rw [e, List.getD_eq_getElem?_getD]; simp
    simp only [Int.toNat_natCast, g1, g2]
    have e2 : (l.set a.length y).set (a.length + (m'.length + 1)) x = (a ++ [y]) ++ (m' ++ (x :: b)) := by
     rw [e, set_app_left, show a ++ y :: (m' ++ y :: b) = (a ++ y :: m') ++ y :: b from by simp, show a.length + (m'.length + 1) = (a ++ y :: m').length from by simp, set_app_left]
     simp
    rw [e2, w64 (by omega) (by omega), w64 (by omega) (by omega)]
    have := rev_loop s fuel (a ++ [y]) m' (x :: b) _ (by simp at h; omega) rfl (by simp; omega)
    rw [show ((a.length : Int) + 1) = ((a ++ [y]).length : Int) from by simp, show (((a.length + (m'.length + 1) : Nat) : Int) - 1) = ((a ++ [y]).length : Int) + (m'.length : Int) - 1 from by simp; omega, this]
    simp
theorem rev_eq (s : List Int) (h : s.length < 1000) : slices_Reverse_byte_byte s = some s.reverse := by
 have e := rev_loop s big [] s [] s (by have := big_lt (n := 1000) (by omega); omega) (by simp) (by omega)
 unfold slices_Reverse_byte_byte
 rw [w64 (by omega) (by omega)]
 simpa using e
theorem hd10 : ∀ n : Nat, n < 10 → UInt8.ofNat ((([48, 49, 50, 51, 52, 53, 54, 55, 56, 57, 97, 98, 99, 100, 101, 102] : List UInt8).getD n 0).toNat : Int).toNat = UInt8.ofNat (48 + n)
 | 0, _ => rfl | 1, _ => rfl | 2, _ => rfl | 3, _ => rfl | 4, _ => rfl | 5, _ => rfl | 6, _ => rfl | 7, _ => rfl | 8, _ => rfl | 9, _ => rfl
 | n + 10, h => by omega
theorem scr_dig : ∀ (k fuel n : Nat) (l : List Int), n < 10 ^ (k + 1) → k + 1 ≤ fuel → n < 100000000000 → l.length + k ≤ 900 →
  script_digits_l0 fuel (n : Int) l = some (dec (k + 1) n (strI l.reverse))
 | k, 0, _, _, _, h, _, _ => by omega
 | k, fuel + 1, n, l, h1, h2, h3, h4 => by
  rw [script_digits_l0, dec]
  simp only [tm, td]
  by_cases hn : n < 10
  ·rw [if_neg (by simp; omega), if_pos hn, if_pos (by simp; omega), if_pos (by simp; omega), rev_eq _ (by simp; omega)]
   simp only [Option.bind_some]
   rw [if_pos (by simp), List.reverse_append, strI_append, Int.toNat_natCast]
   show some (UInt8.ofNat _ :: _) = _
   rw [hd10 n hn]; rfl
  ·rw [if_pos (by simp; omega), if_neg hn, if_pos (by simp; omega), if_pos (by simp; omega), w64 (by omega) (by omega)]
   match k with
   | 0 => exact absurd h1 (by omega)
   | k + 1 =>
    rw [scr_dig k fuel (n / 10) _ (by rw [Nat.pow_succ] at h1; omega) (by omega) (by omega) (by simp; omega), List.reverse_append, strI_append, Int.toNat_natCast]
    show some (dec _ _ (UInt8.ofNat _ :: _)) = _
    rw [hd10 (n % 10) (by omega)]; rfl
def D (x : Int) : List UInt8 := dec 11 x.toNat []
theorem D_len (x : Int) : (D x).length ≤ 11 := by have := dec_len 11 x.toNat []; simpa [D] using this
theorem rdig {x : Int} (h1 : 0 ≤ x) (h2 : x < 100000000000) : r27_digits x = some (D x) := by
 obtain ⟨n, rfl⟩ := Int.eq_ofNat_of_zero_le h1
 exact ref_dig 10 big n [] (by omega) (by have := big_lt (n := 1000) (by omega); omega) (by omega) (by simp)
theorem sdig {x : Int} (h1 : 0 ≤ x) (h2 : x < 100000000000) : script_digits x = some (D x) := by
 obtain ⟨n, rfl⟩ := Int.eq_ofNat_of_zero_le h1
 unfold script_digits
 rw [if_neg (by simp)]
 exact scr_dig 10 big n [] (by omega) (by have := big_lt (n := 1000) (by omega); omega) (by omega) (by simp)
def S (x : Int) : List UInt8 := if x < 0 then [45, 49] else D x
theorem S_len (x : Int) : (S x).length ≤ 11 := by
 unfold S; split
 ·simp
 ·exact D_len x
theorem dig_m1 : script_digits (-1) = some [45, 49] := by kernel_rfl
theorem ssig {x : Int} (h1 : -1 ≤ x) (h2 : x < 100000000000) : script_digits x = some (S x) := by
 unfold S
 by_cases h : x < 0
 ·rw [if_pos h, show x = -1 from by omega, dig_m1]
 ·rw [if_neg h, sdig (by omega) h2]
theorem rsig {x : Int} (h1 : -1 ≤ x) (h2 : x < 100000000000) : r27_signed x = some (S x) := by
 unfold r27_signed S
 by_cases h : x < 0
 ·rw [if_pos (by simpa using h), if_pos h]
 ·rw [if_neg (by simpa using h), if_neg h, wu64 (by omega) (by omega), rdig (by omega) h2]; rfl
def hd (n : Nat) : UInt8 := ([48, 49, 50, 51, 52, 53, 54, 55, 56, 57, 97, 98, 99, 100, 101, 102] : List UInt8).getD n 0
def hx (b : UInt8) : List UInt8 := [hd (b.toNat / 16), hd (b.toNat % 16)]
def H (b : List UInt8) : List UInt8 := if b = [] then [45] else b.flatMap hx
theorem hx_len (b : List UInt8) : (b.flatMap hx).length = 2 * b.length := by
 induction b with
 | nil => rfl
 | cons x r ih => rw [List.flatMap_cons, List.length_append, ih]; simp [hx]; omega
theorem H_len (b : List UInt8) : (H b).length ≤ 2 * b.length + 1 := by
 unfold H; split
 ·simp
 ·rw [hx_len]; omega
theorem fd16 (n : Nat) : Int.fdiv (n : Int) (2 ^ (min (Int.toNat 4) (IntKind.bits .u8))) = ((n / 16 : Nat) : Int) := by
 show Int.fdiv (n : Int) 16 = _
 rw [Int.fdiv_eq_ediv_of_nonneg _ (by omega)]; rfl
theorem fm16 (n : Nat) (h : n < 256) : IntKind.wrap .u8 ((BitVec.ofInt (IntKind.bits .u8) (n : Int) &&& BitVec.ofInt (IntKind.bits .u8) 15).toNat : Int) = ((n % 16 : Nat) : Int) := by
 have e : (BitVec.ofInt 8 (n : Int) &&& BitVec.ofInt 8 15).toNat = n % 16 := by
  rw [BitVec.toNat_and, BitVec.toNat_ofInt, BitVec.toNat_ofInt]
  have : ((n : Int) % ((2 ^ 8 : Nat) : Int)).toNat = n := by omega
  rw [this]
  exact Nat.and_two_pow_sub_one_eq_mod n 4
 show IntKind.wrap .u8 (((BitVec.ofInt 8 (n : Int) &&& BitVec.ofInt 8 15).toNat : Nat) : Int) = _
 rw [e, wu8 (by omega) (by omega)]
theorem hd_of (n : Nat) : UInt8.ofNat ((([48, 49, 50, 51, 52, 53, 54, 55, 56, 57, 97, 98, 99, 100, 101, 102] : List UInt8).getD n 0).toNat : Int).toNat = hd n := by
 rw [Int.toNat_natCast, UInt8.ofNat_toNat]; rfl
theorem flat_step (b : List UInt8) (i : Nat) (h : i < b.length) : (b.drop i).flatMap hx = hx (b.getD i 0) ++ (b.drop (i + 1)).flatMap hx := by
 rw [List.drop_eq_getElem_cons h, List.flatMap_cons, List.getD_eq_getElem?_getD, List.getElem?_eq_getElem h]; rfl
theorem flat_end (b : List UInt8) (i : Nat) (h : b.length ≤ i) : (b.drop i).flatMap hx = [] := by
 rw [List.drop_eq_nil_of_le h]; rfl
theorem td16 (n : Nat) : Int.tdiv (n : Int) 16 = ((n / 16 : Nat) : Int) := rfl
theorem tm16 (n : Nat) : Int.tmod (n : Int) 16 = ((n % 16 : Nat) : Int) := rfl
theorem u8lt (b : UInt8) : b.toNat < 256 := b.toNat_lt
theorem rhex_loop (b : List UInt8) (hb : b.length ≤ 100000) : ∀ (fuel i : Nat) (s : List UInt8), b.length < fuel + i → i ≤ b.length → s.length ≤ 2 * i →
  r27_hex_l0 b fuel s (i : Int) = some (s ++ (b.drop i).flatMap hx)
 | 0, i, s, h, hi, _ => by omega
 | fuel + 1, i, s, h, hi, hs => by
  rw [r27_hex_l0]
  by_cases hl : i < b.length
  ·rw [if_pos (by simpa using hl), if_pos (by omega), Int.toNat_natCast]
   simp only [td16, tm16]
   have hc := u8lt (b.getD i 0)
   rw [wu8 (by omega) (by omega), if_pos ⟨by omega, by show _ < (16 : Int); omega⟩, if_pos ⟨by omega, by show _ < (16 : Int); omega⟩, if_pos (by show s.length + 2 ≤ _; omega), w64 (by omega) (by omega)]
   rw [show strI [_, _] = [UInt8.ofNat _, UInt8.ofNat _] from rfl, hd_of, hd_of]
   have := rhex_loop b hb fuel (i + 1) (s ++ hx (b.getD i 0)) (by omega) (by omega) (by simp [hx]; omega)
   rw [flat_step b i hl, ← List.append_assoc]
   exact this
  ·rw [if_neg (by simpa using hl), flat_end b i (by omega), List.append_nil]
theorem rhex {b : List UInt8} (hb : b.length ≤ 100000) : r27_hex b = some (H b) := by
 unfold r27_hex H
 by_cases h : b = []
 ·rw [if_pos (by simpa using h), if_pos h]
 ·rw [if_neg (by simpa using h), if_neg h]
  exact rhex_loop b hb big 0 [] (by have := big_lt (n := 1000000) (by omega); omega) (by omega) (by simp)
theorem shexb_loop (b : List Int) (hw : ∀ x ∈ b, 0 ≤ x ∧ x < 256) (hb : b.length ≤ 100000) : ∀ (fuel i : Nat) (s : List Int), b.length < fuel + i → i ≤ b.length → s.length ≤ 2 * i →
  script_hex_byte_l0 b fuel (i : Int) s = some (strI s ++ ((strI b).drop i).flatMap hx)
 | 0, i, s, h, hi, _ => by omega
 | fuel + 1, i, s, h, hi, hs => by
  rw [script_hex_byte_l0]
  have hsl : (strI b).length = b.length := by simp [strI]
  by_cases hl : i < b.length
  ·rw [if_pos (by simpa using hl), if_pos (by omega), Int.toNat_natCast]
   have hg : b.getD i default = b[i] := by rw [List.getD_eq_getElem?_getD, List.getElem?_eq_getElem hl]; rfl
   have hx1 := hw b[i] (List.getElem_mem hl)
   obtain ⟨n, hn⟩ := Int.eq_ofNat_of_zero_le hx1.1
   have hsg : (strI b).getD i 0 = UInt8.ofNat n := by
    rw [List.getD_eq_getElem?_getD, strI, List.getElem?_map, List.getElem?_eq_getElem hl, hn]; rfl
   have hn2 : n < 256 := by omega
   have hun : (UInt8.ofNat n).toNat = n := by rw [UInt8.toNat_ofNat']; omega
   rw [hg, hn]
   simp only [fd16, fm16 n hn2]
   rw [if_pos ⟨by omega, by show _ < (16 : Int); omega⟩, if_pos ⟨by omega, by show _ < (16 : Int); omega⟩, if_pos (by show (s.length + 2) * 1 ≤ _; omega), w64 (by omega) (by omega)]
   have := shexb_loop b hw hb fuel (i + 1) (s ++ [((([48, 49, 50, 51, 52, 53, 54, 55, 56, 57, 97, 98, 99, 100, 101, 102] : List UInt8).getD (n / 16) 0).toNat : Int), ((([48, 49, 50, 51, 52, 53, 54, 55, 56, 57, 97, 98, 99, 100, 101, 102] : List UInt8).getD (n % 16) 0).toNat : Int)]) (by omega) (by omega) (by simp; omega)
   rw [flat_step (strI b) i (by omega), hsg]
   refine this.trans ?_
   rw [strI_append, show strI [_, _] = [UInt8.ofNat _, UInt8.ofNat _] from rfl, hd_of, hd_of]
   simp only [hx, hun, List.append_assoc]
  ·rw [if_neg (by simpa using hl), flat_end (strI b) i (by omega), List.append_nil]
theorem shexb {b : List Int} (hw : ∀ x ∈ b, 0 ≤ x ∧ x < 256) (hb : b.length ≤ 100000) : script_hex_byte b = some (H (strI b)) := by
 unfold script_hex_byte H
 by_cases h : b = []
 ·subst h; rfl
 ·rw [if_neg (by simpa using h), if_neg (by simpa [strI] using h)]
  exact shexb_loop b hw hb big 0 [] (by have := big_lt (n := 1000000) (by omega); omega) (by omega) (by simp)
theorem strI_bytesI (b : List UInt8) : strI (bytesI b) = b := by
 induction b with
 | nil => rfl
 | cons x r ih =>
  show UInt8.ofNat _ :: strI (bytesI r) = _
  rw [ih, Int.toNat_natCast, UInt8.ofNat_toNat]
theorem shexs_loop (b : List UInt8) : ∀ (fuel : Nat) (t : Int) (s : List Int), script_hex_string_l0 b fuel t s = script_hex_byte_l0 (bytesI b) fuel t s
 | 0, t, s => rfl
 | fuel + 1, t, s => by
  rw [script_hex_string_l0, script_hex_byte_l0]
  simp only [Nat.zero_add, shexs_loop b fuel]
theorem shexs {b : List UInt8} (hb : b.length ≤ 100000) : script_hex_string b = some (H b) := by
 have e : script_hex_string b = script_hex_byte (bytesI b) := by
  unfold script_hex_string script_hex_byte
  rw [shexs_loop, show (bytesI b).length = b.length from by simp [bytesI]]
 rw [e, shexb (fun x hx => ?_) (by simpa [bytesI] using hb), strI_bytesI]
 simp only [bytesI, List.mem_map] at hx
 obtain ⟨y, _, rfl⟩ := hx
 have := y.toNat_lt
 omega
end Go.Proofs.YtdchgoaokceomaaGreatDoor.Wk
