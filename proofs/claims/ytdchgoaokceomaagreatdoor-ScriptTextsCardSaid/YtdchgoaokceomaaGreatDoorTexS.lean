import Derived.Test.YtdchgoaokceomaaGreatDoorTexW
import Derived.Test.YtdchgoaokceomaaGreatDoorCnX
import Derived.Lib.IndexLaws
set_option linter.unusedVariables false
set_option linter.unusedSimpArgs false
set_option linter.unusedSectionVars false
namespace Go.Proofs.YtdchgoaokceomaaGreatDoor.Wk
open Go Go.Cn
set_option maxRecDepth 10000
def spl (c : UInt8) : List UInt8 → List (List UInt8)
 | [] => [[]]
 | x :: r => if x = c then [] :: spl c r else match spl c r with | [] => [[x]] | w :: ws => (x :: w) :: ws
theorem spl_none (c : UInt8) : ∀ s : List UInt8, c ∉ s → spl c s = [s]
 | [], _ => rfl
 | x :: r, h => by
  rw [spl, if_neg (fun e : x = c => h (by rw [← e]; exact List.mem_cons_self ..)), spl_none c r (fun hh => h (List.mem_cons_of_mem _ hh))]
theorem spl_app (c : UInt8) : ∀ (a r : List UInt8), c ∉ a → spl c (a ++ c :: r) = a :: spl c r
 | [], r, _ => by rw [List.nil_append, spl, if_pos rfl]
 | x :: a, r, h => by
  rw [List.cons_append, spl, if_neg (fun e : x = c => h (by rw [← e]; exact List.mem_cons_self ..)), spl_app c a r (fun hh => h (List.mem_cons_of_mem _ hh))]
theorem spl_join (c : UInt8) : ∀ (ws : List (List UInt8)) (w : List UInt8), c ∉ w → (∀ x ∈ ws, c ∉ x) → spl c (w ++ ws.flatMap (([c] : List UInt8) ++ ·)) = w :: ws
 | [], w, h, _ => by rw [List.flatMap_nil, List.append_nil, spl_none c w h]
 | v :: ws, w, h, hs => by
  rw [List.flatMap_cons]
  show spl c (w ++ c :: (v ++ _)) = _
  rw [spl_app c w _ h, spl_join c ws v (hs v (List.mem_cons_self ..)) fun x hx => hs x (List.mem_cons_of_mem _ hx)]
theorem join_spl (c : UInt8) : ∀ s : List UInt8, ∃ w ws, spl c s = w :: ws ∧ s = w ++ ws.flatMap (([c] : List UInt8) ++ ·)
 | [] => ⟨[], [], rfl, rfl⟩
 | x :: r => by
  obtain ⟨w, ws, e1, e2⟩ := join_spl c r
  rw [spl]
  by_cases h : x = c
  ·refine ⟨[], w :: ws, by rw [if_pos h, e1], ?_⟩
   rw [List.flatMap_cons, h]
   show c :: r = c :: (w ++ _)
   rw [← e2]
  ·refine ⟨x :: w, ws, by rw [if_neg h, e1], ?_⟩
   rw [List.cons_append, ← e2]
theorem take_set_succ (l : List (List UInt8)) (i : Nat) (a : List UInt8) (h : i < l.length) : (l.set i a).take (i + 1) = l.take i ++ [a] := by
 apply List.ext_getElem?
 intro k
 simp only [List.getElem?_take, List.getElem?_append, List.length_take, List.getElem?_set]
 rcases Nat.lt_trichotomy k i with hk | hk | hk
 ·rw [if_pos (by omega), if_neg (by omega), if_pos (by omega), if_pos hk]
 ·subst hk
  rw [if_pos (by omega), if_pos rfl, if_pos h, if_neg (by omega), Nat.min_eq_left (by omega)]; simp
 ·rw [if_neg (by omega), if_neg (by omega), List.getElem?_eq_none (by simp; omega)]
theorem idx_split (c : UInt8) : ∀ s : List UInt8, c ∈ s → ∃ a r, s = a ++ c :: r ∧ c ∉ a ∧ Lib.indexByte s c = (a.length : Int)
 | [], h => by simp at h
 | x :: s, h => by
  by_cases e : x = c
  ·refine ⟨[], s, by rw [e]; rfl, by simp, ?_⟩
   unfold Lib.indexByte; rw [if_pos (by simpa using e)]; rfl
  ·have hm : c ∈ s := by rcases List.mem_cons.1 h with h | h; exact absurd h.symm e; exact h
   obtain ⟨a, r, e1, e2, e3⟩ := idx_split c s hm
   refine ⟨x :: a, r, by rw [e1]; rfl, by simp only [List.mem_cons, not_or]; exact ⟨fun h => e h.symm, e2⟩, ?_⟩
   unfold Lib.indexByte
   rw [if_neg (by simpa using e), e3, if_neg (by simp only [beq_iff_eq]; omega)]
   simp
theorem idxA_eq (s : List UInt8) : strings_Index s = some (Lib.indexByte s (32 : UInt8)) := by
 unfold strings_Index sl_Index
 by_cases h : s = [(32 : UInt8)]
 ·subst h; rfl
 ·rw [if_neg (by simpa using fun e => h e.symm)]; rfl
theorem genA_loop (s : List UInt8) (n : Nat) (hn : n < 1000000) (hc : n = s.count (32 : UInt8)) (HS : s.length < 1000000) : ∀ (fuel i : Nat) (s2 : List UInt8) (l : List (List UInt8)), n < fuel + i → s2.count (32 : UInt8) + i = n → l.length = n + 1 → s2.length < 1000000 →
  strings_genSplit_l0 s (n : Int) fuel s2 (i : Int) l = some (l.take i ++ spl (32 : UInt8) s2)
 | 0, i, s2, l, h, h2, h3, _ => by omega
 | fuel + 1, i, s2, l, h, h2, h3, h4 => by
  have hle : s.count (32 : UInt8) ≤ s.length := List.count_le_length
  have hm : (if (IntKind.wrap .i64 (((s).length : Int) + 1)) < (IntKind.wrap .i64 ((n : Int) + 1)) then (IntKind.wrap .i64 (((s).length : Int) + 1)) else (IntKind.wrap .i64 ((n : Int) + 1))) = ((n + 1 : Nat) : Int) := by
   rw [w64 (x := (n : Int) + 1) (by omega) (by omega)]
   rw [w64 (by omega) (by omega), if_neg (by omega)]; rfl
  rw [strings_genSplit_l0]
  rw [hm]
  have hw : IntKind.wrap .i64 (((n + 1 : Nat) : Int) - 1) = (n : Int) := by rw [w64 (by omega) (by omega)]; omega
  rw [hw]
  by_cases hi : i < n
  ·rw [if_pos (by simpa using hi), idxA_eq, Option.bind_some]
   have hmem : (32 : UInt8) ∈ s2 := List.count_pos_iff.1 (by omega)
   obtain ⟨a, r, e, ha, hx⟩ := idx_split (32 : UInt8) s2 hmem
   have hcr : s2.count (32 : UInt8) = r.count (32 : UInt8) + 1 := by
    rw [e, List.count_append, List.count_cons_self, List.count_eq_zero_of_not_mem ha]; omega
   have hl : s2.length = a.length + r.length + 1 := by rw [e]; simp only [List.length_append, List.length_cons]; omega
   rw [hx, if_neg (by simp)]
   rw [w64 (x := (a.length : Int) + 0) (by omega) (by omega), w64 (x := (a.length : Int) + 1) (by omega) (by omega), w64 (x := (i : Int) + 1) (by omega) (by omega)]
   rw [if_pos (by omega), if_pos (by omega), if_pos (by omega), if_pos (by omega)]
   have e1 : (s2.drop ((a.length : Int) + 1).toNat).take (s2.length - ((a.length : Int) + 1).toNat) = r := by
    rw [show ((a.length : Int) + 1).toNat = a.length + 1 from by omega, List.take_of_length_le (by simp), e]
    rw [show a ++ (32 : UInt8) :: r = (a ++ [(32 : UInt8)]) ++ r from by simp]
    rw [show a.length + 1 = (a ++ [(32 : UInt8)]).length from by simp, List.drop_left]
   have e2 : (s2.drop 0).take (((a.length : Int) + 0).toNat - 0) = a := by
    rw [show ((a.length : Int) + 0).toNat - 0 = a.length from by omega, List.drop_zero, e, List.take_left]
   rw [e1, e2, Nat.zero_add, Int.toNat_natCast]
   have := genA_loop s n hn hc HS fuel (i + 1) r (l.set i a) (by omega) (by omega) (by simpa using h3) (by omega)
   rw [show ((i : Int) + 1) = ((i + 1 : Nat) : Int) from rfl, this, e, spl_app (32 : UInt8) a r ha]
   rw [take_set_succ l i a (by omega)]
   simp
  ·have hin : i = n := by omega
   rw [if_neg (by simpa using hi), if_pos (by omega), if_pos (by omega), if_pos (by simp; omega)]
   rw [w64 (x := (i : Int) + 1) (by omega) (by omega), if_pos (by simp; omega)]
   have hno : (32 : UInt8) ∉ s2 := fun hh => by have := List.count_pos_iff.2 hh; omega
   rw [spl_none (32 : UInt8) s2 hno, Nat.zero_add, Int.toNat_natCast, show ((i : Int) + 1).toNat = i + 1 from by omega, take_set_succ l i s2 (by omega)]
theorem splA_eq (s : List UInt8) (h : s.length < 1000000) : strings_Split s = some (spl (32 : UInt8) s) := by
 have hle : s.count (32 : UInt8) ≤ s.length := List.count_le_length
 unfold strings_Split strings_genSplit strings_Count
 have hcb : ((Lib.countByte s ((32 : Int)).toNat.toUInt8 : Nat) : Int) = ((s.count (32 : UInt8) : Nat) : Int) := rfl
 simp only [Option.bind_some, hcb]
 have hm : (if (IntKind.wrap .i64 (((s).length : Int) + 1)) < (IntKind.wrap .i64 (((s.count (32 : UInt8) : Nat) : Int) + 1)) then (IntKind.wrap .i64 (((s).length : Int) + 1)) else (IntKind.wrap .i64 (((s.count (32 : UInt8) : Nat) : Int) + 1))) = ((s.count (32 : UInt8) + 1 : Nat) : Int) := by
  rw [w64 (x := ((s.count (32 : UInt8) : Nat) : Int) + 1) (by omega) (by omega), w64 (by omega) (by omega), if_neg (by omega)]; rfl
 rw [hm, if_pos (by omega)]
 have := genA_loop s (s.count (32 : UInt8)) (by omega) rfl h big 0 s (List.replicate (s.count (32 : UInt8) + 1) []) (by have := big_lt (n := 1000000) (by omega); omega) (by omega) (by simp) h
 rw [show (((s.count (32 : UInt8) + 1 : Nat) : Int)).toNat = s.count (32 : UInt8) + 1 from by omega]
 refine (congrArg (fun o => Option.bind o some) this).trans ?_
 simp
theorem idxB_eq (s : List UInt8) : strings_Index_2 s = some (Lib.indexByte s (46 : UInt8)) := by
 unfold strings_Index_2 sl_Index_2
 by_cases h : s = [(46 : UInt8)]
 ·subst h; rfl
 ·rw [if_neg (by simpa using fun e => h e.symm)]; rfl
theorem genB_loop (s : List UInt8) (n : Nat) (hn : n < 1000000) (hc : n = s.count (46 : UInt8)) (HS : s.length < 1000000) : ∀ (fuel i : Nat) (s2 : List UInt8) (l : List (List UInt8)), n < fuel + i → s2.count (46 : UInt8) + i = n → l.length = n + 1 → s2.length < 1000000 →
  strings_genSplit_2_l0 s (n : Int) fuel s2 (i : Int) l = some (l.take i ++ spl (46 : UInt8) s2)
 | 0, i, s2, l, h, h2, h3, _ => by omega
 | fuel + 1, i, s2, l, h, h2, h3, h4 => by
  have hle : s.count (46 : UInt8) ≤ s.length := List.count_le_length
  have hm : (if (IntKind.wrap .i64 (((s).length : Int) + 1)) < (IntKind.wrap .i64 ((n : Int) + 1)) then (IntKind.wrap .i64 (((s).length : Int) + 1)) else (IntKind.wrap .i64 ((n : Int) + 1))) = ((n + 1 : Nat) : Int) := by
   rw [w64 (x := (n : Int) + 1) (by omega) (by omega)]
   rw [w64 (by omega) (by omega), if_neg (by omega)]; rfl
  rw [strings_genSplit_2_l0]
  rw [hm]
  have hw : IntKind.wrap .i64 (((n + 1 : Nat) : Int) - 1) = (n : Int) := by rw [w64 (by omega) (by omega)]; omega
  rw [hw]
  by_cases hi : i < n
  ·rw [if_pos (by simpa using hi), idxB_eq, Option.bind_some]
   have hmem : (46 : UInt8) ∈ s2 := List.count_pos_iff.1 (by omega)
   obtain ⟨a, r, e, ha, hx⟩ := idx_split (46 : UInt8) s2 hmem
   have hcr : s2.count (46 : UInt8) = r.count (46 : UInt8) + 1 := by
    rw [e, List.count_append, List.count_cons_self, List.count_eq_zero_of_not_mem ha]; omega
   have hl : s2.length = a.length + r.length + 1 := by rw [e]; simp only [List.length_append, List.length_cons]; omega
   rw [hx, if_neg (by simp)]
   rw [w64 (x := (a.length : Int) + 0) (by omega) (by omega), w64 (x := (a.length : Int) + 1) (by omega) (by omega), w64 (x := (i : Int) + 1) (by omega) (by omega)]
   rw [if_pos (by omega), if_pos (by omega), if_pos (by omega), if_pos (by omega)]
   have e1 : (s2.drop ((a.length : Int) + 1).toNat).take (s2.length - ((a.length : Int) + 1).toNat) = r := by
    rw [show ((a.length : Int) + 1).toNat = a.length + 1 from by omega, List.take_of_length_le (by simp), e]
    rw [show a ++ (46 : UInt8) :: r = (a ++ [(46 : UInt8)]) ++ r from by simp]
    rw [show a.length + 1 = (a ++ [(46 : UInt8)]).length from by simp, List.drop_left]
   have e2 : (s2.drop 0).take (((a.length : Int) + 0).toNat - 0) = a := by
    rw [show ((a.length : Int) + 0).toNat - 0 = a.length from by omega, List.drop_zero, e, List.take_left]
   rw [e1, e2, Nat.zero_add, Int.toNat_natCast]
   have := genB_loop s n hn hc HS fuel (i + 1) r (l.set i a) (by omega) (by omega) (by simpa using h3) (by omega)
   rw [show ((i : Int) + 1) = ((i + 1 : Nat) : Int) from rfl, this, e, spl_app (46 : UInt8) a r ha]
   rw [take_set_succ l i a (by omega)]
   simp
  ·have hin : i = n := by omega
   rw [if_neg (by simpa using hi), if_pos (by omega), if_pos (by omega), if_pos (by simp; omega)]
   rw [w64 (x := (i : Int) + 1) (by omega) (by omega), if_pos (by simp; omega)]
   have hno : (46 : UInt8) ∉ s2 := fun hh => by have := List.count_pos_iff.2 hh; omega
   rw [spl_none (46 : UInt8) s2 hno, Nat.zero_add, Int.toNat_natCast, show ((i : Int) + 1).toNat = i + 1 from by omega, take_set_succ l i s2 (by omega)]
theorem splB_eq (s : List UInt8) (h : s.length < 1000000) : strings_Split_2 s = some (spl (46 : UInt8) s) := by
 have hle : s.count (46 : UInt8) ≤ s.length := List.count_le_length
 unfold strings_Split_2 strings_genSplit_2 strings_Count_2
 have hcb : ((Lib.countByte s ((46 : Int)).toNat.toUInt8 : Nat) : Int) = ((s.count (46 : UInt8) : Nat) : Int) := rfl
 simp only [Option.bind_some, hcb]
 have hm : (if (IntKind.wrap .i64 (((s).length : Int) + 1)) < (IntKind.wrap .i64 (((s.count (46 : UInt8) : Nat) : Int) + 1)) then (IntKind.wrap .i64 (((s).length : Int) + 1)) else (IntKind.wrap .i64 (((s.count (46 : UInt8) : Nat) : Int) + 1))) = ((s.count (46 : UInt8) + 1 : Nat) : Int) := by
  rw [w64 (x := ((s.count (46 : UInt8) : Nat) : Int) + 1) (by omega) (by omega), w64 (by omega) (by omega), if_neg (by omega)]; rfl
 rw [hm, if_pos (by omega)]
 have := genB_loop s (s.count (46 : UInt8)) (by omega) rfl h big 0 s (List.replicate (s.count (46 : UInt8) + 1) []) (by have := big_lt (n := 1000000) (by omega); omega) (by omega) (by simp) h
 rw [show (((s.count (46 : UInt8) + 1 : Nat) : Int)).toNat = s.count (46 : UInt8) + 1 from by omega]
 refine (congrArg (fun o => Option.bind o some) this).trans ?_
 simp
end Go.Proofs.YtdchgoaokceomaaGreatDoor.Wk
