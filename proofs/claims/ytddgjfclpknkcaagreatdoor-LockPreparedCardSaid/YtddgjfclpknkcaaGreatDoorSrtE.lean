import Derived.Test.YtddgjfclpknkcaaGreatDoorSrtD
set_option linter.unusedVariables false
set_option linter.unusedSimpArgs false
set_option linter.unusedSectionVars false
namespace Go.Proofs.YtddgjfclpknkcaaGreatDoor.Wk
open Go Go.Cn Go.Sort
section
variable {bb : Bool} {uu : UT} {hh ww : PT} {S : E_ bb → Prop} {cf : E_ bb → E_ bb → Int}
section
variable (hc : CmpOn bb uu hh ww S cf) (hO : SWO (lc cf)) (data : List (E_ bb)) (A B M : Int) {self_ : List (E_ bb) → Int → Int → Int → UT → PT → PT → Option (List (E_ bb))} {a b : Nat} (limit : Nat) (hlim : limit < 1000) (wb wp : Bool) {k0 : Int → Int → Int → Bool → Bool → List (E_ bb) → Option (List (E_ bb))} (hk : HK S cf k0 (b - a)) (hs : HS uu hh ww S cf self_ (b - a))
 {d : Array (E_ bb)} (hn : 12 < b - a) (hb : b ≤ d.size) (hz : d.size < 256) (hS : AllS S d) (hB : Below (lc cf) a b d)
include hc hO hlim hk hs hn hb hz hS hB
theorem r17c {pivot : Nat} (hp1 : a ≤ pivot) (hp2 : pivot < b) : Good cf a b d (if ((decide ((0 : Int) < (a : Int))) : Bool) then
   if 0 ≤ (IntKind.wrap .i64 ((a : Int) - 1)) ∧ (IntKind.wrap .i64 ((a : Int) - 1)) < ((d.toList.length : Nat) : Int) then
   (some (d.toList.getD (IntKind.wrap .i64 ((a : Int) - 1)).toNat default)).bind fun y => if 0 ≤ (pivot : Int) ∧ (pivot : Int) < ((d.toList.length : Nat) : Int) then (cmp_ bb uu hh ww y (d.toList.getD (pivot : Int).toNat default)).bind fun z => if ((!(decide (z < 0))) : Bool) then sPD_b_c18 bb data A B M uu hh ww self_ a b wb wp k0 limit pivot d.toList else sPD_b_c20 bb data A B M uu hh ww self_ a b k0 limit pivot d.toList else none
   else none
  else
   (sPA bb d.toList a b pivot uu hh ww).bind fun y => if (d.toList).length = (y.2.2).length then sPD_b_c21 bb data A B M uu hh ww self_ a b limit y k0 else none) := by
 by_cases ha : 0 < a
 ·rw [if_pos (dT (by omega)), w64 (x := (a : Int) - 1) (by omega) (by omega), gI (by omega) (by omega)]
  have h := r17b hc hO data A B M limit hlim wb wp hk hs hp1 hp2 hb hz hS hB ha
  rw [w64 (x := (a : Int) - 1) (by omega) (by omega)] at h
  exact h
 ·rw [if_neg (dF (by omega))]
  exact r21 hc hO data A B M limit hlim hk hs hp1 hp2 hb hz hS hB
theorem rrev {pivot : Nat} (hp1 : a ≤ pivot) (hp2 : pivot < b) (lim : Nat) (hlm : lim < 1000) : Good cf a b d ((sRR bb d.toList a b uu hh ww).bind fun y =>
  (some (IntKind.wrap .i64 ((IntKind.wrap .i64 ((b : Int) - 1)) - (IntKind.wrap .i64 ((pivot : Int) - (a : Int)))))).bind fun z =>
  if (wb : Bool) then
   if (wp : Bool) then
    if (d.toList).length = y.length then sPD_b_c16 bb data A B M uu hh ww self_ a b wb wp k0 lim z y else none
   else
    if (d.toList).length = y.length then sPD_b_c17 bb data A B M uu hh ww self_ a b wb wp k0 lim z y else none
  else
   if (d.toList).length = y.length then sPD_b_c17 bb data A B M uu hh ww self_ a b wb wp k0 lim z y else none) := by
 have hp := reverseRange_holds d a b (by omega) hb
 have e : IntKind.wrap .i64 ((IntKind.wrap .i64 ((b : Int) - 1)) - (IntKind.wrap .i64 ((pivot : Int) - (a : Int)))) = ((b - 1 - (pivot - a) : Nat) : Int) := by
  rw [w64 (x := (b : Int) - 1) (by omega) (by omega), w64 (x := (pivot : Int) - (a : Int)) (by omega) (by omega), w64 (by omega) (by omega)]; omega
 rw [rev_eq a b d (by omega) hb (by omega), Option.bind_some, e, Option.bind_some]
 simp only [gle hp.1]
 refine Good.trans hp ?_
 have h16 := r16 hc hO data A B M lim hlm wb wp hk hs (d := reverseRange d a b) (pivot := b - 1 - (pivot - a)) (by omega) (by omega) (by rw [hp.1]; exact hb) (by rw [hp.1]; exact hz) (hS.perm hb hp) (hB.perm hb hp)
 have h17 := r17 hc hO data A B M lim hlm wb wp hk hs (d := reverseRange d a b) (pivot := b - 1 - (pivot - a)) (by omega) (by omega) (by rw [hp.1]; exact hb) (by rw [hp.1]; exact hz) (hS.perm hb hp) (hB.perm hb hp)
 split
 ·split
  ·exact h16
  ·exact h17
 ·exact h17
theorem r9 (hl : 0 < limit) : Good cf a b d (sPD_b_c9 bb data A B M uu hh ww self_ a b limit wb wp d.toList k0) := by
 have e : IntKind.wrap .i64 ((limit : Int) - 1) = ((limit - 1 : Nat) : Int) := by
  rw [w64 (by omega) (by omega)]; omega
 obtain ⟨p, h, hch, hp1, hp2⟩ := cho hc d hS (by omega) (a := a) (b := b) (by omega) hb
 rw [sPD_b_c9, hch, Option.bind_some, e]
 have h16 := r16 hc hO data A B M (limit - 1) (by omega) wb wp hk hs hp1 hp2 hb hz hS hB
 have h17 := r17 hc hO data A B M (limit - 1) (by omega) wb wp hk hs hp1 hp2 hb hz hS hB
 have hr := rrev hc hO data A B M limit hlim wb wp hk hs hn hb hz hS hB hp1 hp2 (limit - 1) (by omega)
 dsimp only
 split
 ·exact hr
 ·split
  ·split
   ·split
    ·exact h16
    ·exact h17
   ·exact h17
  ·exact h17
theorem r11 {p : Nat} {h : Int} (hp1 : a ≤ p) (hp2 : p < b) : Good cf a b d (sPD_b_c11 bb data A B M uu hh ww self_ a b limit wb wp d.toList ((p : Int), h) k0) := by
 rw [sPD_b_c11]
 have hr := rrev hc hO data A B M limit hlim wb wp hk hs hn hb hz hS hB hp1 hp2 limit hlim
 have h17 := r17c hc hO data A B M limit hlim wb wp hk hs hn hb hz hS hB hp1 hp2
 dsimp only
 split
 ·exact hr
 ·split
  ·split
   ·split
    ·obtain ⟨hp, hp3⟩ := partialInsertionSort_holds hO d a b (by omega) hb hB
     rw [pi_eq hc a b d (by omega) hb (by omega) hS, Option.bind_some]
     generalize partialInsertionSort (lc cf) d a b = q at hp hp3
     obtain ⟨d3, ok⟩ := q
     dsimp only at hp hp3 ⊢
     cases ok with
     | true => rw [if_pos rfl]; exact ⟨d3, rfl, hp, hp3 rfl⟩
     | false =>
      rw [if_neg (by simp), gle hp.1]
      exact Good.trans hp (r17 hc hO data A B M limit hlim wb wp hk hs hp1 hp2 (by rw [hp.1]; exact hb) (by rw [hp.1]; exact hz) (hS.perm hb hp) (hB.perm hb hp))
    ·exact h17
   ·exact h17
  ·exact h17
end
theorem pd0 (hc : CmpOn bb uu hh ww S cf) (hO : SWO (lc cf)) (data : List (E_ bb)) (A B M : Int) {self_ : List (E_ bb) → Int → Int → Int → UT → PT → PT → Option (List (E_ bb))} : ∀ (m fuel a b limit : Nat) (wb wp : Bool) (d : Array (E_ bb)), b - a ≤ m → m < fuel → limit < 1000 → a ≤ b → b ≤ d.size → d.size < 256 → AllS S d → Below (lc cf) a b d → HS uu hh ww S cf self_ (b - a) →
  Good cf a b d (sPD_b_l0 bb data A B M uu hh ww self_ fuel a b limit wb wp d.toList)
 | m, 0, a, b, limit, wb, wp, d, _, h, _, _, _, _, _, _, _ => by omega
 | m, fuel + 1, a, b, limit, wb, wp, d, hm, hf, hlim, hab, hb, hz, hS, hB, hs => by
  rw [sPD_b_l0, w64 (x := (b : Int) - (a : Int)) (by omega) (by omega)]
  by_cases h12 : b - a ≤ 12
  ·rw [if_pos (dT (by omega)), ins_eq hc a b d hb hab (by omega) hS]
   have := insertionSort_holds hO d a b hab hb
   exact ⟨_, rfl, this.1, this.2⟩
  ·rw [if_neg (dF (by omega))]
   by_cases hl : limit = 0
   ·subst hl
    rw [if_pos (by simp), heap_eq hc a b d (by omega) hb (by omega) hS]
    have := heapSort_holds hO d a b hab hb
    exact ⟨_, rfl, this.1, this.2⟩
   ·rw [if_neg (by simp; omega)]
    have hk : HK S cf (sPD_b_l0 bb data A B M uu hh ww self_ fuel) (b - a) := fun a' b' limit' wb' wp' d' hl' h1 h2 h3 h4 h5 h6 => by
     cases m with
     | zero => omega
     | succ m => exact pd0 hc hO data A B M m fuel a' b' limit' wb' wp' d' (by omega) (by omega) hl' h2 h3 h4 h5 h6 (fun a1 b1 l1 d1 g1 g2 => hs a1 b1 l1 d1 g1 (by omega))
    cases wb with
    | false =>
     obtain ⟨r, hr, hp⟩ := brk (uu := uu) (hh := hh) (ww := ww) d (a := a) (b := b) (by omega) hb hz
     rw [if_pos (by simp), hr, Option.bind_some, gle hp.1]
     exact Good.trans hp (r9 hc hO data A B M limit hlim false wp hk hs (by omega) (by rw [hp.1]; exact hb) (by rw [hp.1]; exact hz) (hS.perm hb hp) (hB.perm hb hp) (by omega))
    | true =>
     obtain ⟨p, h, hch, hp1, hp2⟩ := cho hc d hS (by omega) (a := a) (b := b) (by omega) hb
     rw [if_neg (by simp), hch, Option.bind_some]
     exact r11 hc hO data A B M limit hlim true wp hk hs (by omega) hb hz hS hB hp1 hp2
theorem pdf (hc : CmpOn bb uu hh ww S cf) (hO : SWO (lc cf)) : ∀ (n : Nat), HS uu hh ww S cf (sPD_f bb n) n
 | 0 => fun a b limit d _ h => by omega
 | n + 1 => fun a b limit d hlim h hab hb hz hS hB => by
  rw [sPD_f, sPD_b]
  exact pd0 hc hO d.toList a b limit 256 big a b limit true true d (by omega) (by rw [big_eq]; omega) hlim hab hb hz hS hB (fun a1 b1 l1 d1 g1 g2 => pdf hc hO n a1 b1 l1 d1 g1 (by omega))
theorem pdq_eq (hc : CmpOn bb uu hh ww S cf) (hO : SWO (lc cf)) (l : List (E_ bb)) (hz : l.length < 256) (hS : ∀ x ∈ l, S x) (limit : Nat) (hlim : limit < 1000) :
  ∃ r : List (E_ bb), sPD bb l 0 (l.length : Int) limit uu hh ww = some r ∧ r.Perm l ∧ r.Pairwise (fun x y => ¬ cf y x < 0) := by
 have hS' : AllS S l.toArray := fun i hi => by
  have hi' : i < l.length := by simpa using hi
  have : l.toArray[i]! = l[i] := by simp [hi']
  rw [this]; exact hS _ (List.getElem_mem hi')
 obtain ⟨r, h1, h2, h3⟩ := pdf hc hO big 0 l.length limit l.toArray hlim (by rw [big_eq]; omega) (by omega) (by simp) (by simpa using hz) hS' (Or.inl rfl)
 refine ⟨r.toList, h1, ?_, ?_⟩
 ·have := h2.2.2
  have e1 : (r.extract 0 l.length).toList = r.toList := by have := h2.1; simp at this; simp only [Array.toList_extract]; simp; exact List.take_of_length_le (by simp [this])
  have e2 : (l.toArray.extract 0 l.length).toList = l := by simp
  rw [e1, e2] at this
  exact this
 ·rw [List.pairwise_iff_getElem]
  intro i j hi hj hij
  have hl : r.size = l.length := by simpa using h2.1
  have hi' : i < r.size := by simpa using hi
  have hj' : j < r.size := by simpa using hj
  have := h3 i j (by omega) hij (by omega)
  simp only [lc, decide_eq_false_iff_not] at this
  have g1 : r[i]! = r.toList[i] := by rw [Array.getElem_toList]; simp [hi']
  have g2 : r[j]! = r.toList[j] := by rw [Array.getElem_toList]; simp [hj']
  rw [g1, g2] at this
  exact this
end
end Go.Proofs.YtddgjfclpknkcaaGreatDoor.Wk
