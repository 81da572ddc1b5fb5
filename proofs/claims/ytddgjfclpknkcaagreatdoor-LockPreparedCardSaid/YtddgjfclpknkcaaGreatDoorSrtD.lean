import Derived.Test.YtddgjfclpknkcaaGreatDoorSrtC
import Derived.Sort.LotD3
set_option linter.unusedVariables false
set_option linter.unusedSimpArgs false
set_option linter.unusedSectionVars false
namespace Go.Proofs.YtddgjfclpknkcaaGreatDoor.Wk
open Go Go.Cn Go.Sort
section
variable {bb : Bool} {uu : UT} {hh ww : PT} {S : E_ bb → Prop} {cf : E_ bb → E_ bb → Int}
def Good (cf : E_ bb → E_ bb → Int) (a b : Nat) (d : Array (E_ bb)) (x : Option (List (E_ bb))) : Prop := ∃ r : Array (E_ bb), x = some r.toList ∧ PermIn a b d r ∧ SortedIn (lc cf) a b r
def HK (S : E_ bb → Prop) (cf : E_ bb → E_ bb → Int) (k0 : Int → Int → Int → Bool → Bool → List (E_ bb) → Option (List (E_ bb))) (m : Nat) : Prop :=
 ∀ (a b limit : Nat) (wb wp : Bool) (d : Array (E_ bb)), limit < 1000 → b - a < m → a ≤ b → b ≤ d.size → d.size < 256 → AllS S d → Below (lc cf) a b d → Good cf a b d (k0 a b limit wb wp d.toList)
def HS (uu : UT) (hh ww : PT) (S : E_ bb → Prop) (cf : E_ bb → E_ bb → Int) (self_ : List (E_ bb) → Int → Int → Int → UT → PT → PT → Option (List (E_ bb))) (m : Nat) : Prop :=
 ∀ (a b limit : Nat) (d : Array (E_ bb)), limit < 1000 → b - a < m → a ≤ b → b ≤ d.size → d.size < 256 → AllS S d → Below (lc cf) a b d → Good cf a b d (self_ d.toList a b limit uu hh ww)
theorem Good.trans {a b : Nat} {d e : Array (E_ bb)} {x : Option (List (E_ bb))} (hp : PermIn a b d e) (h : Good cf a b e x) : Good cf a b d x := by
 obtain ⟨r, h1, h2, h3⟩ := h
 exact ⟨r, h1, permIn_trans _ _ _ _ _ hp h2, h3⟩
theorem rpart (hO : SWO (lc cf)) {a b pivot mid : Nat} {ap : Bool} {d d4 : Array (E_ bb)} (hp1 : a ≤ pivot) (hp2 : pivot < b) (hb : b ≤ d.size) (hz : d.size < 256) (hS : AllS S d) (hB : Below (lc cf) a b d) (hx : partition (lc cf) d a b pivot = (mid, ap, d4))
  {k0 : Int → Int → Int → Bool → Bool → List (E_ bb) → Option (List (E_ bb))} {self_ : List (E_ bb) → Int → Int → Int → UT → PT → PT → Option (List (E_ bb))} (hk : HK S cf k0 (b - a)) (hs : HS uu hh ww S cf self_ (b - a)) (limit : Nat) (hlim : limit < 1000) :
  a ≤ mid ∧ mid < b ∧ d4.size = d.size ∧
  (∃ L : Array (E_ bb), self_ d4.toList a mid limit uu hh ww = some L.toList ∧ L.size = d.size ∧ ∀ w1 w2, Good cf a b d (k0 ((mid + 1 : Nat) : Int) b limit w1 w2 L.toList)) ∧
  (∃ L : Array (E_ bb), self_ d4.toList ((mid + 1 : Nat) : Int) b limit uu hh ww = some L.toList ∧ L.size = d.size ∧ ∀ w1 w2, Good cf a b d (k0 a mid limit w1 w2 L.toList)) := by
 obtain ⟨h1, h2, h3, h4, h5, h6, h7⟩ := round_part hO (partition_holds _) hp1 hp2 hb hB hx
 have hp := (partition_holds _ hO d a b pivot hp1 hp2 hb).2.2.1
 rw [hx] at hp
 have hS4 : AllS S d4 := hS.perm hb hp
 refine ⟨h1, h2, h3, ?_, ?_⟩
 ·obtain ⟨L, l1, l2, l3⟩ := hs a mid limit d4 hlim (by omega) h1 (by omega) (by omega) hS4 h4
  refine ⟨L, l1, by rw [l2.1, h3], fun w1 w2 => ?_⟩
  obtain ⟨hBL, hfin⟩ := h6 L l2 l3
  obtain ⟨R, r1, r2, r3⟩ := hk (mid + 1) b limit w1 w2 L hlim (by omega) (by omega) (by rw [l2.1]; omega) (by rw [l2.1]; omega) (hS4.perm (by omega) l2) hBL
  exact ⟨R, r1, (hfin R r2 r3).1, (hfin R r2 r3).2⟩
 ·obtain ⟨L, l1, l2, l3⟩ := hs (mid + 1) b limit d4 hlim (by omega) (by omega) (by omega) (by omega) hS4 h5
  refine ⟨L, l1, by rw [l2.1, h3], fun w1 w2 => ?_⟩
  obtain ⟨hBL, hfin⟩ := h7 L l2 l3
  obtain ⟨R, r1, r2, r3⟩ := hk a mid limit w1 w2 L hlim (by omega) h1 (by rw [l2.1]; omega) (by rw [l2.1]; omega) (hS4.perm (by omega) l2) hBL
  exact ⟨R, r1, (hfin R r2 r3).1, (hfin R r2 r3).2⟩
theorem r18 (hc : CmpOn bb uu hh ww S cf) (hO : SWO (lc cf)) (data : List (E_ bb)) (A B M : Int) (self_ : List (E_ bb) → Int → Int → Int → UT → PT → PT → Option (List (E_ bb))) {a b pivot : Nat} (limit : Nat) (hlim : limit < 1000) (wb wp : Bool) {k0 : Int → Int → Int → Bool → Bool → List (E_ bb) → Option (List (E_ bb))} (hk : HK S cf k0 (b - a))
  {d : Array (E_ bb)} (ha0 : 0 < a) (hp1 : a ≤ pivot) (hp2 : pivot < b) (hb : b ≤ d.size) (hz : d.size < 256) (hS : AllS S d) (hB : Below (lc cf) a b d) (hnl : lc cf d[a - 1]! d[pivot]! = false) :
  Good cf a b d (sPD_b_c18 bb data A B M uu hh ww self_ a b wb wp k0 limit pivot d.toList) := by
 rw [sPD_b_c18, pe_eq hc a b pivot d hp1 hp2 hb (by omega) hS, Option.bind_some]
 have hge : ∀ i, a ≤ i → i < b → lc cf d[i]! d[pivot]! = false := fun i hi hi' => by
  rcases hB with h0 | hB
  ·omega
  ·exact hO.ntrans _ _ _ (hB i hi hi') hnl
 have hp := (partitionEqual_holds _ hO d a b pivot hp1 hp2 hb hge).2.2.1
 generalize hx : partitionEqual (lc cf) d a b pivot = p at hp
 obtain ⟨mid, d4⟩ := p
 obtain ⟨h1, h2, h3, h4, h5⟩ := round_eq hO (partitionEqual_holds _) ha0 hp1 hp2 hb hB hnl hx
 dsimp only at hp ⊢
 rw [gle h3]
 obtain ⟨R, r1, r2, r3⟩ := hk mid b limit wb wp d4 hlim (by omega) h2 (by omega) (by omega) (hS.perm hb hp) h4
 exact ⟨R, r1, (h5 R r2 r3).1, (h5 R r2 r3).2⟩
theorem r20 (hc : CmpOn bb uu hh ww S cf) (hO : SWO (lc cf)) (data : List (E_ bb)) (A B M : Int) {self_ : List (E_ bb) → Int → Int → Int → UT → PT → PT → Option (List (E_ bb))} {a b pivot : Nat} (limit : Nat) (hlim : limit < 1000) {k0 : Int → Int → Int → Bool → Bool → List (E_ bb) → Option (List (E_ bb))} (hk : HK S cf k0 (b - a)) (hs : HS uu hh ww S cf self_ (b - a))
  {d : Array (E_ bb)} (hp1 : a ≤ pivot) (hp2 : pivot < b) (hb : b ≤ d.size) (hz : d.size < 256) (hS : AllS S d) (hB : Below (lc cf) a b d) :
  Good cf a b d (sPD_b_c20 bb data A B M uu hh ww self_ a b k0 limit pivot d.toList) := by
 rw [sPD_b_c20, pt_eq hc a b pivot d hp1 hp2 hb (by omega) hS, Option.bind_some, Option.bind_some]
 generalize hx : partition (lc cf) d a b pivot = p
 obtain ⟨mid, ap, d4⟩ := p
 obtain ⟨h1, h2, h3, ⟨L, l1, l2, l3⟩, ⟨R, r1, r2, r3⟩⟩ := rpart hO hp1 hp2 hb hz hS hB hx hk hs limit hlim
 dsimp only
 have e1 : ((mid : Int) + 1) = ((mid + 1 : Nat) : Int) := by omega
 rw [w64 (x := (mid : Int) - (a : Int)) (by omega) (by omega), w64 (x := (b : Int) - (mid : Int)) (by omega) (by omega), w64 (x := (mid : Int) + 1) (by omega) (by omega), e1, gle h3, gle h3, l1, r1, Option.bind_some, Option.bind_some, gle l2, gle r2]
 split
 ·exact l3 _ _
 ·exact r3 _ _
theorem r17 (hc : CmpOn bb uu hh ww S cf) (hO : SWO (lc cf)) (data : List (E_ bb)) (A B M : Int) {self_ : List (E_ bb) → Int → Int → Int → UT → PT → PT → Option (List (E_ bb))} {a b pivot : Nat} (limit : Nat) (hlim : limit < 1000) (wb wp : Bool) {k0 : Int → Int → Int → Bool → Bool → List (E_ bb) → Option (List (E_ bb))} (hk : HK S cf k0 (b - a)) (hs : HS uu hh ww S cf self_ (b - a))
  {d : Array (E_ bb)} (hp1 : a ≤ pivot) (hp2 : pivot < b) (hb : b ≤ d.size) (hz : d.size < 256) (hS : AllS S d) (hB : Below (lc cf) a b d) :
  Good cf a b d (sPD_b_c17 bb data A B M uu hh ww self_ a b wb wp k0 limit pivot d.toList) := by
 rw [sPD_b_c17]
 by_cases ha : 0 < a
 ·have e1 : (a : Int) - 1 = ((a - 1 : Nat) : Int) := by omega
  rw [if_pos (dT (by omega)), w64 (x := (a : Int) - 1) (by omega) (by omega), e1, gI (by omega) (by omega), Option.bind_some, gI (by omega) (by omega)]
  simp only [Int.toNat_natCast, gd, hc.at hS (show a - 1 < d.size by omega) (show pivot < d.size by omega), Option.bind_some]
  by_cases hl : cf d[a - 1]! d[pivot]! < 0
  ·rw [if_neg (by simpa using hl)]
   exact r20 hc hO data A B M limit hlim hk hs hp1 hp2 hb hz hS hB
  ·rw [if_pos (by simpa using hl)]
   exact r18 hc hO data A B M self_ limit hlim wb wp hk ha hp1 hp2 hb hz hS hB (by simp only [lc, decide_eq_false_iff_not]; exact hl)
 ·rw [if_neg (dF (by omega)), pt_eq hc a b pivot d hp1 hp2 hb (by omega) hS, Option.bind_some, Option.bind_some]
  generalize hx : partition (lc cf) d a b pivot = p
  obtain ⟨mid, ap, d4⟩ := p
  obtain ⟨h1, h2, h3, ⟨L, l1, l2, l3⟩, ⟨R, r1, r2, r3⟩⟩ := rpart hO hp1 hp2 hb hz hS hB hx hk hs limit hlim
  dsimp only
  have e1 : ((mid : Int) + 1) = ((mid + 1 : Nat) : Int) := by omega
  rw [gle h3, gle h3, sPD_b_c25, sPD_b_c28, w64 (x := (mid : Int) + 1) (by omega) (by omega), e1, l1, r1, Option.bind_some, Option.bind_some, gle (by rw [l2, h3]), gle (by rw [r2, h3])]
  split
  ·exact l3 _ _
  ·exact r3 _ _
theorem r21 (hc : CmpOn bb uu hh ww S cf) (hO : SWO (lc cf)) (data : List (E_ bb)) (A B M : Int) {self_ : List (E_ bb) → Int → Int → Int → UT → PT → PT → Option (List (E_ bb))} {a b pivot : Nat} (limit : Nat) (hlim : limit < 1000) {k0 : Int → Int → Int → Bool → Bool → List (E_ bb) → Option (List (E_ bb))} (hk : HK S cf k0 (b - a)) (hs : HS uu hh ww S cf self_ (b - a))
  {d : Array (E_ bb)} (hp1 : a ≤ pivot) (hp2 : pivot < b) (hb : b ≤ d.size) (hz : d.size < 256) (hS : AllS S d) (hB : Below (lc cf) a b d) :
  Good cf a b d ((sPA bb d.toList a b pivot uu hh ww).bind fun y => if (d.toList).length = (y.2.2).length then sPD_b_c21 bb data A B M uu hh ww self_ a b limit y k0 else none) := by
 rw [pt_eq hc a b pivot d hp1 hp2 hb (by omega) hS, Option.bind_some]
 generalize hx : partition (lc cf) d a b pivot = p
 obtain ⟨mid, ap, d4⟩ := p
 obtain ⟨h1, h2, h3, ⟨L, l1, l2, l3⟩, ⟨R, r1, r2, r3⟩⟩ := rpart hO hp1 hp2 hb hz hS hB hx hk hs limit hlim
 dsimp only
 have e1 : ((mid : Int) + 1) = ((mid + 1 : Nat) : Int) := by omega
 rw [gle h3, sPD_b_c21, Option.bind_some]
 dsimp only
 rw [w64 (x := (mid : Int) + 1) (by omega) (by omega), e1, l1, r1, Option.bind_some, Option.bind_some, gle (by rw [l2, h3]), gle (by rw [r2, h3])]
 split
 ·exact l3 _ _
 ·exact r3 _ _
theorem r17b (hc : CmpOn bb uu hh ww S cf) (hO : SWO (lc cf)) (data : List (E_ bb)) (A B M : Int) {self_ : List (E_ bb) → Int → Int → Int → UT → PT → PT → Option (List (E_ bb))} {a b pivot : Nat} (limit : Nat) (hlim : limit < 1000) (wb wp : Bool) {k0 : Int → Int → Int → Bool → Bool → List (E_ bb) → Option (List (E_ bb))} (hk : HK S cf k0 (b - a)) (hs : HS uu hh ww S cf self_ (b - a))
  {d : Array (E_ bb)} (hp1 : a ≤ pivot) (hp2 : pivot < b) (hb : b ≤ d.size) (hz : d.size < 256) (hS : AllS S d) (hB : Below (lc cf) a b d) (ha : 0 < a) :
  Good cf a b d ((some (d.toList.getD (IntKind.wrap .i64 ((a : Int) - 1)).toNat default)).bind fun y => if 0 ≤ (pivot : Int) ∧ (pivot : Int) < ((d.toList.length : Nat) : Int) then (cmp_ bb uu hh ww y (d.toList.getD (pivot : Int).toNat default)).bind fun z => if ((!(decide (z < 0))) : Bool) then sPD_b_c18 bb data A B M uu hh ww self_ a b wb wp k0 limit pivot d.toList else sPD_b_c20 bb data A B M uu hh ww self_ a b k0 limit pivot d.toList else none) := by
 have h := r17 hc hO data A B M limit hlim wb wp hk hs hp1 hp2 hb hz hS hB
 rw [sPD_b_c17, if_pos (dT (by omega)), w64 (x := (a : Int) - 1) (by omega) (by omega), gI (by omega) (by omega)] at h
 rw [w64 (x := (a : Int) - 1) (by omega) (by omega)]
 exact h
theorem r16 (hc : CmpOn bb uu hh ww S cf) (hO : SWO (lc cf)) (data : List (E_ bb)) (A B M : Int) {self_ : List (E_ bb) → Int → Int → Int → UT → PT → PT → Option (List (E_ bb))} {a b pivot : Nat} (limit : Nat) (hlim : limit < 1000) (wb wp : Bool) {k0 : Int → Int → Int → Bool → Bool → List (E_ bb) → Option (List (E_ bb))} (hk : HK S cf k0 (b - a)) (hs : HS uu hh ww S cf self_ (b - a))
  {d : Array (E_ bb)} (hp1 : a ≤ pivot) (hp2 : pivot < b) (hb : b ≤ d.size) (hz : d.size < 256) (hS : AllS S d) (hB : Below (lc cf) a b d) :
  Good cf a b d (sPD_b_c16 bb data A B M uu hh ww self_ a b wb wp k0 limit pivot d.toList) := by
 obtain ⟨hp, hp3⟩ := partialInsertionSort_holds hO d a b (by omega) hb hB
 rw [sPD_b_c16, pi_eq hc a b d (by omega) hb (by omega) hS, Option.bind_some]
 generalize partialInsertionSort (lc cf) d a b = p at hp hp3
 obtain ⟨d3, ok⟩ := p
 dsimp only at hp hp3 ⊢
 cases ok with
 | true => rw [if_pos rfl]; exact ⟨d3, rfl, hp, hp3 rfl⟩
 | false =>
  rw [if_neg (by simp)]
  have hS3 : AllS S d3 := hS.perm hb hp
  have hB3 := hB.perm hb hp
  have h := r17 hc hO data A B M limit hlim wb wp hk hs hp1 hp2 (by rw [hp.1]; exact hb) (by rw [hp.1]; exact hz) hS3 hB3
  refine Good.trans hp ?_
  by_cases ha : 0 < a
  ·have e1 : (a : Int) - 1 = ((a - 1 : Nat) : Int) := by omega
   rw [sPD_b_c17, if_pos (dT (by omega)), w64 (x := (a : Int) - 1) (by omega) (by omega), gI (by omega) (by rw [hp.1]; omega), Option.bind_some, gI (by omega) (by rw [hp.1]; omega)] at h
   rw [if_pos (dT (by omega)), w64 (x := (a : Int) - 1) (by omega) (by omega), gI (by omega) (by omega), if_pos (by simp only [Array.length_toList]; rw [hp.1]; omega), Option.bind_some, gI (by omega) (by omega), if_pos (by simp only [Array.length_toList]; rw [hp.1]; omega)]
   simp only [gle hp.1]
   exact h
  ·rw [if_neg (dF (by omega)), gle hp.1]
   exact r20 hc hO data A B M limit hlim hk hs hp1 hp2 (by rw [hp.1]; exact hb) (by rw [hp.1]; exact hz) hS3 hB3
end
end Go.Proofs.YtddgjfclpknkcaaGreatDoor.Wk
