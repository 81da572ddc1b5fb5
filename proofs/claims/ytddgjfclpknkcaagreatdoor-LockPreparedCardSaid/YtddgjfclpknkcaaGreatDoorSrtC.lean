import Derived.Test.YtddgjfclpknkcaaGreatDoorSrtB
set_option linter.unusedVariables false
set_option linter.unusedSimpArgs false
set_option linter.unusedSectionVars false
namespace Go.Proofs.YtddgjfclpknkcaaGreatDoor.Wk
open Go Go.Cn Go.Sort
section
variable {bb : Bool} {uu : UT} {hh ww : PT} {S : E_ bb → Prop} {cf : E_ bb → E_ bb → Int}
theorem pe2 (hc : CmpOn bb uu hh ww S cf) (data : List (E_ bb)) (a : Nat) (B pv : Int) (d : Array (E_ bb)) (hS : AllS S d) (hz : d.size < 2305843009213693952) (i2 : Nat) (ha : a < i2) (k0 : Int → Int → List (E_ bb) → Option (Int × List (E_ bb))) : ∀ (fuel j2 : Nat), j2 < fuel → j2 < d.size →
  sPE_l2 bb data a B pv uu hh ww d.toList i2 k0 fuel j2 = sPE_c7 bb data a B pv uu hh ww d.toList i2 (scanDown (fun x => lc cf d[a]! x) d i2 j2 : Nat) k0
 | 0, _, h, _ => by omega
 | fuel + 1, 0, _, _ => by
  rw [sPE_l2, if_neg (dF (by omega)), scanDown]
  rfl
 | fuel + 1, j2 + 1, hf, hj => by
  rw [sPE_l2, scanDown]
  by_cases h : i2 ≤ j2 + 1
  ·rw [if_pos (dT (by omega)), gI (by omega) (by omega), gI (by omega) (by omega)]
   simp only [Int.toNat_natCast, gd, Option.bind_some, hc.at hS (show a < d.size by omega) (show j2 + 1 < d.size by omega)]
   by_cases hl : cf d[a]! d[j2 + 1]! < 0
   ·have hx : (decide (i2 ≤ j2 + 1) && lc cf d[a]! d[j2 + 1]!) = true := by simp [lc, hl, h]
    have e1 : ((j2 + 1 : Nat) : Int) - 1 = (j2 : Int) := by omega
    rw [if_pos hx, if_pos (by simpa using hl), sPE_c6, e1, w64 (by omega) (by omega)]
    exact pe2 hc data a B pv d hS hz i2 ha k0 fuel j2 (by omega) (by omega)
   ·have hx : ¬ ((decide (i2 ≤ j2 + 1) && lc cf d[a]! d[j2 + 1]!) = true) := by simp [lc, hl]
    rw [if_neg hx, if_neg (by simpa using hl)]
  ·have hx : ¬ ((decide (i2 ≤ j2 + 1) && lc cf d[a]! d[j2 + 1]!) = true) := by simp [h]
   rw [if_neg hx, if_neg (dF (by omega))]
   rfl
theorem pe1 (hc : CmpOn bb uu hh ww S cf) (data : List (E_ bb)) (a : Nat) (B pv : Int) (d : Array (E_ bb)) (hS : AllS S d) (hz : d.size < 2305843009213693952) (j : Nat) (hj : j < d.size) (k0 : Int → Int → List (E_ bb) → Option (Int × List (E_ bb))) : ∀ (fuel i2 : Nat), j + 1 - i2 < fuel → a < i2 →
  sPE_l1 bb data a B pv uu hh ww j d.toList k0 fuel i2 = sPE_l2 bb data a B pv uu hh ww d.toList (scanUp (fun x => !lc cf d[a]! x) d j i2 : Nat) k0 big j
 | 0, _, h, _ => by omega
 | fuel + 1, i2, hf, ha => by
  rw [sPE_l1, scanUp]
  by_cases h : i2 ≤ j
  ·rw [if_pos (dT (by omega)), gI (by omega) (by omega), gI (by omega) (by omega)]
   simp only [Int.toNat_natCast, gd, Option.bind_some, hc.at hS (show a < d.size by omega) (show i2 < d.size by omega)]
   by_cases hl : cf d[a]! d[i2]! < 0
   ·have hx : ¬ ((decide (i2 ≤ j) && !lc cf d[a]! d[i2]!) = true) := by simp [lc, hl]
    rw [if_neg hx, if_neg (by simpa using hl)]
   ·have hx : (decide (i2 ≤ j) && !lc cf d[a]! d[i2]!) = true := by simp [lc, hl, h]
    rw [if_pos hx, if_pos (by simpa using hl), sPE_c4, w64 (by omega) (by omega)]
    exact pe1 hc data a B pv d hS hz j hj k0 fuel (i2 + 1) (by omega) (by omega)
  ·have hx : ¬ ((decide (i2 ≤ j) && !lc cf d[a]! d[i2]!) = true) := by simp [h]
   rw [if_neg hx, if_neg (dF (by omega))]
theorem pe0 (hc : CmpOn bb uu hh ww S cf) (data : List (E_ bb)) (a : Nat) (B pv : Int) : ∀ (n fuel i j : Nat) (d : Array (E_ bb)), j + 1 - i ≤ n → n < fuel → a < i → j < d.size → d.size < 2305843009213693952 → AllS S d →
  sPE_l0 bb data a B pv uu hh ww fuel i j d.toList = some (((partEqLoop (lc cf) a i j d).1 : Int), (partEqLoop (lc cf) a i j d).2.toList)
 | n, 0, i, j, d, _, h, _, _, _, _ => by omega
 | n, fuel + 1, i, j, d, hn, hf, ha, hj, hz, hS => by
  have hu := scanUp_ge (fun x => !lc cf d[a]! x) d j i
  have hd := scanDown_le (fun x => lc cf d[a]! x) d (scanUp (fun x => !lc cf d[a]! x) d j i) j
  rw [sPE_l0, pe1 hc data a B pv d hS hz j hj _ big i (by rw [big_eq]; omega) ha, pe2 hc data a B pv d hS hz _ (by omega) _ big j (by rw [big_eq]; omega) hj, sPE_c7, partEqLoop_eq]
  generalize hi2 : scanUp (fun x => !lc cf d[a]! x) d j i = i2 at hu hd ⊢
  generalize hj2 : scanDown (fun x => lc cf d[a]! x) d i2 j = j2 at hd ⊢
  by_cases h : i2 > j2
  ·rw [if_pos (dT (by omega)), if_pos h]
  ·rw [if_neg (dF (by omega)), if_neg h, gI (by omega) (by omega), gI (by omega) (by omega)]
   simp only [Int.toNat_natCast, gd, Option.bind_some]
   have e1 : (j2 : Int) - 1 = ((j2 - 1 : Nat) : Int) := by omega
   rw [if_pos (by rw [szs]; omega), sw, w64 (by omega) (by omega), w64 (by omega) (by omega), e1]
   cases n with
   | zero => omega
   | succ n => exact pe0 hc data a B pv n fuel (i2 + 1) (j2 - 1) _ (by omega) (by omega) (by omega) (by rw [swp_size]; omega) (by rw [swp_size]; exact hz) (hS.swp (by omega) (by omega))
theorem pe_eq (hc : CmpOn bb uu hh ww S cf) (a b pivot : Nat) (d : Array (E_ bb)) (hp1 : a ≤ pivot) (hp2 : pivot < b) (hb : b ≤ d.size) (hz : d.size < 2305843009213693952) (hS : AllS S d) :
  sPE bb d.toList a b pivot uu hh ww = some (((partitionEqual (lc cf) d a b pivot).1 : Int), (partitionEqual (lc cf) d a b pivot).2.toList) := by
 have e1 : (b : Int) - 1 = ((b - 1 : Nat) : Int) := by omega
 rw [sPE, gI (by omega) (by omega), gI (by omega) (by omega)]
 simp only [Int.toNat_natCast, gd, Option.bind_some]
 rw [if_pos (by rw [szs]; omega), sw, w64 (by omega) (by omega), w64 (by omega) (by omega), e1]
 exact pe0 hc _ a b pivot d.size big (a + 1) (b - 1) (swp d a pivot) (by omega) (by rw [big_eq]; omega) (by omega) (by rw [swp_size]; omega) (by rw [swp_size]; exact hz) (hS.swp (by omega) (by omega))
theorem pt4 (hc : CmpOn bb uu hh ww S cf) (data : List (E_ bb)) (a : Nat) (B pv : Int) (d : Array (E_ bb)) (hS : AllS S d) (hz : d.size < 2305843009213693952) (i2 : Nat) (ha : a < i2) (has : a < d.size) (k0 : Int → Int → List (E_ bb) → Option (Int × Bool × List (E_ bb))) : ∀ (fuel j2 : Nat), j2 < fuel → j2 < d.size →
  sPA_l4 bb data a B pv uu hh ww d.toList i2 k0 fuel j2 = sPA_c17 bb data a B pv uu hh ww d.toList i2 (scanDown (fun x => !lc cf x d[a]!) d i2 j2 : Nat) k0
 | 0, _, h, _ => by omega
 | fuel + 1, 0, _, _ => by
  rw [sPA_l4, if_neg (dF (by omega)), scanDown]
  rfl
 | fuel + 1, j2 + 1, hf, hj => by
  rw [sPA_l4, scanDown]
  by_cases h : i2 ≤ j2 + 1
  ·rw [if_pos (dT (by omega)), gI (by omega) (by omega), gI (by omega) (by omega)]
   simp only [Int.toNat_natCast, gd, Option.bind_some, hc.at hS (show j2 + 1 < d.size by omega) has]
   by_cases hl : cf d[j2 + 1]! d[a]! < 0
   ·have hx : ¬ ((decide (i2 ≤ j2 + 1) && !lc cf d[j2 + 1]! d[a]!) = true) := by simp [lc, hl]
    rw [if_neg hx, if_neg (by simpa using hl)]
   ·have hx : (decide (i2 ≤ j2 + 1) && !lc cf d[j2 + 1]! d[a]!) = true := by simp [lc, hl, h]
    have e1 : ((j2 + 1 : Nat) : Int) - 1 = (j2 : Int) := by omega
    rw [if_pos hx, if_pos (by simpa using hl), sPA_c16, e1, w64 (by omega) (by omega)]
    exact pt4 hc data a B pv d hS hz i2 ha has k0 fuel j2 (by omega) (by omega)
  ·have hx : ¬ ((decide (i2 ≤ j2 + 1) && !lc cf d[j2 + 1]! d[a]!) = true) := by simp [h]
   rw [if_neg hx, if_neg (dF (by omega))]
   rfl
theorem pt3 (hc : CmpOn bb uu hh ww S cf) (data : List (E_ bb)) (a : Nat) (B pv : Int) (d : Array (E_ bb)) (hS : AllS S d) (hz : d.size < 2305843009213693952) (has : a < d.size) (j : Nat) (hj : j < d.size) (k0 : Int → Int → List (E_ bb) → Option (Int × Bool × List (E_ bb))) : ∀ (fuel i2 : Nat), j + 1 - i2 < fuel → a < i2 →
  sPA_l3 bb data a B pv uu hh ww j d.toList k0 fuel i2 = sPA_l4 bb data a B pv uu hh ww d.toList (scanUp (fun x => lc cf x d[a]!) d j i2 : Nat) k0 big j
 | 0, _, h, _ => by omega
 | fuel + 1, i2, hf, ha => by
  rw [sPA_l3, scanUp]
  by_cases h : i2 ≤ j
  ·rw [if_pos (dT (by omega)), gI (by omega) (by omega), gI (by omega) (by omega)]
   simp only [Int.toNat_natCast, gd, Option.bind_some, hc.at hS (show i2 < d.size by omega) has]
   by_cases hl : cf d[i2]! d[a]! < 0
   ·have hx : (decide (i2 ≤ j) && lc cf d[i2]! d[a]!) = true := by simp [lc, hl, h]
    rw [if_pos hx, if_pos (by simpa using hl), sPA_c14, w64 (by omega) (by omega)]
    exact pt3 hc data a B pv d hS hz has j hj k0 fuel (i2 + 1) (by omega) (by omega)
   ·have hx : ¬ ((decide (i2 ≤ j) && lc cf d[i2]! d[a]!) = true) := by simp [lc, hl]
    rw [if_neg hx, if_neg (by simpa using hl)]
  ·have hx : ¬ ((decide (i2 ≤ j) && lc cf d[i2]! d[a]!) = true) := by simp [h]
   rw [if_neg hx, if_neg (dF (by omega))]
theorem pt2 (hc : CmpOn bb uu hh ww S cf) (data : List (E_ bb)) (a : Nat) (B pv : Int) : ∀ (n fuel i j : Nat) (d : Array (E_ bb)), j + 1 - i ≤ n → n < fuel → a < i → a < d.size → j < d.size → d.size < 2305843009213693952 → AllS S d →
  sPA_l2 bb data a B pv uu hh ww fuel i j d.toList = some (((partLoop (lc cf) a i j d).1 : Int), false, (swp (partLoop (lc cf) a i j d).2 (partLoop (lc cf) a i j d).1 a).toList)
 | n, 0, i, j, d, _, h, _, _, _, _, _ => by omega
 | n, fuel + 1, i, j, d, hn, hf, ha, has, hj, hz, hS => by
  have hu := scanUp_ge (fun x => lc cf x d[a]!) d j i
  have hd := scanDown_le (fun x => !lc cf x d[a]!) d (scanUp (fun x => lc cf x d[a]!) d j i) j
  rw [sPA_l2, pt3 hc data a B pv d hS hz has j hj _ big i (by rw [big_eq]; omega) ha, pt4 hc data a B pv d hS hz _ (by omega) has _ big j (by rw [big_eq]; omega) hj, sPA_c17, partLoop_eq]
  generalize hi2 : scanUp (fun x => lc cf x d[a]!) d j i = i2 at hu hd ⊢
  generalize hj2 : scanDown (fun x => !lc cf x d[a]!) d i2 j = j2 at hd ⊢
  by_cases h : i2 > j2
  ·rw [if_pos (dT (by omega)), if_pos h, gI (by omega) (by omega), gI (by omega) (by omega)]
   simp only [Int.toNat_natCast, gd, Option.bind_some]
   rw [if_pos (by rw [szs]; omega), sw]
  ·rw [if_neg (dF (by omega)), if_neg h, gI (by omega) (by omega), gI (by omega) (by omega)]
   simp only [Int.toNat_natCast, gd, Option.bind_some]
   have e1 : (j2 : Int) - 1 = ((j2 - 1 : Nat) : Int) := by omega
   rw [if_pos (by rw [szs]; omega), sw, w64 (by omega) (by omega), w64 (by omega) (by omega), e1]
   cases n with
   | zero => omega
   | succ n => exact pt2 hc data a B pv n fuel (i2 + 1) (j2 - 1) _ (by omega) (by omega) (by omega) (by rw [swp_size]; omega) (by rw [swp_size]; omega) (by rw [swp_size]; exact hz) (hS.swp (by omega) (by omega))
theorem pt1 (hc : CmpOn bb uu hh ww S cf) (data y3 : List (E_ bb)) (a : Nat) (B pv : Int) (d : Array (E_ bb)) (hy : y3.set pv.toNat (data.getD (a : Int).toNat default) = d.toList) (hS : AllS S d) (hz : d.size < 2305843009213693952) (i2 : Nat) (ha : a < i2) (has : a < d.size) : ∀ (fuel j2 : Nat), j2 < fuel → j2 < d.size →
  sPA_l1 bb data a B pv uu hh ww i2 y3 fuel j2 = sPA_c7 bb data a B pv uu hh ww i2 (scanDown (fun x => !lc cf x d[a]!) d i2 j2 : Nat) y3
 | 0, _, h, _ => by omega
 | fuel + 1, 0, _, _ => by
  rw [sPA_l1, if_neg (dF (by omega)), scanDown]
  rfl
 | fuel + 1, j2 + 1, hf, hj => by
  rw [sPA_l1, scanDown]
  by_cases h : i2 ≤ j2 + 1
  ·rw [if_pos (dT (by omega)), hy, gI (by omega) (by omega)]
   simp only [Option.bind_some]
   rw [gI (by omega) (by omega)]
   simp only [Int.toNat_natCast, gd, Option.bind_some, hc.at hS (show j2 + 1 < d.size by omega) has]
   by_cases hl : cf d[j2 + 1]! d[a]! < 0
   ·have hx : ¬ ((decide (i2 ≤ j2 + 1) && !lc cf d[j2 + 1]! d[a]!) = true) := by simp [lc, hl]
    rw [if_neg hx, if_neg (by simpa using hl)]
   ·have hx : (decide (i2 ≤ j2 + 1) && !lc cf d[j2 + 1]! d[a]!) = true := by simp [lc, hl, h]
    have e1 : ((j2 + 1 : Nat) : Int) - 1 = (j2 : Int) := by omega
    rw [if_pos hx, if_pos (by simpa using hl), sPA_c6, e1, w64 (by omega) (by omega)]
    exact pt1 hc data y3 a B pv d hy hS hz i2 ha has fuel j2 (by omega) (by omega)
  ·have hx : ¬ ((decide (i2 ≤ j2 + 1) && !lc cf d[j2 + 1]! d[a]!) = true) := by simp [h]
   rw [if_neg hx, if_neg (dF (by omega))]
   rfl
theorem pt0 (hc : CmpOn bb uu hh ww S cf) (data y3 : List (E_ bb)) (a b : Nat) (pv : Int) (d : Array (E_ bb)) (hy : y3.set pv.toNat (data.getD (a : Int).toNat default) = d.toList) (hS : AllS S d) (hz : d.size < 2305843009213693952) (has : a < d.size) (hb0 : 0 < b) (hb : b ≤ d.size) : ∀ (fuel i2 : Nat), b - i2 < fuel → a < i2 →
  sPA_l0 bb data a b pv uu hh ww y3 fuel i2 = sPA_l1 bb data a b pv uu hh ww (scanUp (fun x => lc cf x d[a]!) d (b - 1) i2 : Nat) y3 big ((b - 1 : Nat) : Int)
 | 0, _, h, _ => by omega
 | fuel + 1, i2, hf, ha => by
  have e1 : (b : Int) - 1 = ((b - 1 : Nat) : Int) := by omega
  rw [sPA_l0, scanUp, w64 (x := (b : Int) - 1) (by omega) (by omega), e1]
  by_cases h : i2 ≤ b - 1
  ·rw [if_pos (dT (by omega)), hy, gI (by omega) (by omega)]
   simp only [Option.bind_some]
   rw [gI (by omega) (by omega)]
   simp only [Int.toNat_natCast, gd, Option.bind_some, hc.at hS (show i2 < d.size by omega) has]
   by_cases hl : cf d[i2]! d[a]! < 0
   ·have hx : (decide (i2 ≤ b - 1) && lc cf d[i2]! d[a]!) = true := by simp [lc, hl, h]
    rw [if_pos hx, if_pos (by simpa using hl), sPA_c4, w64 (by omega) (by omega)]
    exact pt0 hc data y3 a b pv d hy hS hz has hb0 hb fuel (i2 + 1) (by omega) (by omega)
   ·have hx : ¬ ((decide (i2 ≤ b - 1) && lc cf d[i2]! d[a]!) = true) := by simp [lc, hl]
    rw [if_neg hx, if_neg (by simpa using hl)]
  ·have hx : ¬ ((decide (i2 ≤ b - 1) && lc cf d[i2]! d[a]!) = true) := by simp [h]
   rw [if_neg hx, if_neg (dF (by omega))]
theorem pt_eq (hc : CmpOn bb uu hh ww S cf) (a b pivot : Nat) (d : Array (E_ bb)) (hp1 : a ≤ pivot) (hp2 : pivot < b) (hb : b ≤ d.size) (hz : d.size < 2305843009213693952) (hS : AllS S d) :
  sPA bb d.toList a b pivot uu hh ww = some (((partition (lc cf) d a b pivot).1 : Int), (partition (lc cf) d a b pivot).2.1, (partition (lc cf) d a b pivot).2.2.toList) := by
 rw [sPA, gI (by omega) (by omega), gI (by omega) (by omega)]
 simp only [Option.bind_some]
 have hy : (d.toList.set (a : Int).toNat (d.toList.getD (pivot : Int).toNat default)).set (pivot : Int).toNat (d.toList.getD (a : Int).toNat default) = (swp d a pivot).toList := by
  simp only [Int.toNat_natCast, gd]; exact sw d a pivot
 have hS2 : AllS S (swp d a pivot) := hS.swp (by omega) (by omega)
 rw [if_pos (by simp only [Int.toNat_natCast, gd]; rw [szs]; omega), w64 (by omega) (by omega)]
 have h0 := pt0 hc d.toList _ a b pivot (swp d a pivot) hy hS2 (by rw [swp_size]; exact hz) (by rw [swp_size]; omega) (by omega) (by rw [swp_size]; exact hb) big (a + 1) (by rw [big_eq]; omega) (by omega)
 have hu := scanUp_ge (fun x => lc cf x (swp d a pivot)[a]!) (swp d a pivot) (b - 1) (a + 1)
 have h1 := pt1 hc d.toList _ a b pivot (swp d a pivot) hy hS2 (by rw [swp_size]; exact hz) (scanUp (fun x => lc cf x (swp d a pivot)[a]!) (swp d a pivot) (b - 1) (a + 1)) (by omega) (by rw [swp_size]; omega) big (b - 1) (by rw [big_eq]; omega) (by rw [swp_size]; omega)
 have hd := scanDown_le (fun x => !lc cf x (swp d a pivot)[a]!) (swp d a pivot) (scanUp (fun x => lc cf x (swp d a pivot)[a]!) (swp d a pivot) (b - 1) (a + 1)) (b - 1)
 refine h0.trans (h1.trans ?_)
 rw [sPA_c7, hy, partition]
 have hsz : (swp d a pivot).size = d.size := swp_size d a pivot
 generalize swp d a pivot = e at hS2 hu hd hsz ⊢
 dsimp only
 generalize scanUp (fun x => lc cf x e[a]!) e (b - 1) (a + 1) = i2 at hu hd ⊢
 generalize scanDown (fun x => !lc cf x e[a]!) e i2 (b - 1) = j2 at hd ⊢
 by_cases h : i2 > j2
 ·rw [if_pos (dT (by omega)), if_pos h, gI (by omega) (by omega)]
  simp only [Option.bind_some]
  rw [gI (by omega) (by omega)]
  simp only [Int.toNat_natCast, gd]
  rw [if_pos (by rw [szs]; omega), sw]
 ·rw [if_neg (dF (by omega)), if_neg h, gI (by omega) (by omega)]
  simp only [Option.bind_some]
  rw [gI (by omega) (by omega)]
  simp only [Int.toNat_natCast, gd]
  have e1 : (j2 : Int) - 1 = ((j2 - 1 : Nat) : Int) := by omega
  rw [if_pos (by rw [szs]; omega), sw, w64 (by omega) (by omega), w64 (by omega) (by omega), e1]
  exact pt2 hc _ a b pivot e.size big (i2 + 1) (j2 - 1) (swp e i2 j2) (by omega) (by rw [big_eq]; omega) (by omega) (by rw [swp_size]; omega) (by rw [swp_size]; omega) (by rw [swp_size]; omega) (hS2.swp (by omega) (by omega))
end
end Go.Proofs.YtddgjfclpknkcaaGreatDoor.Wk
