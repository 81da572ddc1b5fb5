import Derived.Test.YtddgjfclpknkcaaGreatDoorLkR
set_option linter.unusedVariables false
set_option linter.unusedSimpArgs false
namespace Go.Proofs.YtddgjfclpknkcaaGreatDoor.Wk
open Go Go.Cn
theorem ok_new : Ok [] [] [] 0 := ⟨List.nodup_nil, List.nodup_nil, List.nodup_nil, by simp, by simp, by simp, by simp, by simp, by simp, by omega⟩
theorem Ok.perm {us : Us} {hd wt hd' wt' : Ps} {n : Nat} (h : Ok us hd wt n) (h1 : hd.Perm hd') (h2 : wt.Perm wt') : Ok us hd' wt' n :=
 ⟨h.uu, uk_perm h1 h.uh, uk_perm h2 h.uw, fun e he => h.hu e (h1.mem_iff.2 he), fun e he => h.wu e (h2.mem_iff.2 he), h.su, h.nu, by rw [← h2.length_eq]; exact h.nw, by rw [← h1.length_eq, ← h2.length_eq]; exact h.nh, h.nn⟩
theorem alive_eq : pl_alive = some true := by
 obtain ⟨e1, o1⟩ := ask_eq ok_new (by omega) ⟨5, ⟨0, 1, 6⟩⟩ ⟨97, 0, 0, 0, 0, 0, 0, 0⟩ 1
 obtain ⟨e2, o2⟩ := ask_eq o1 (by omega) ⟨3, ⟨0, 1, 4⟩⟩ ⟨97, 0, 0, 0, 0, 0, 0, 0⟩ 2
 have s5 : pl_stamp 5 = some ⟨5, ⟨0, 1, 6⟩⟩ := by kernel_rfl
 have s3 : pl_stamp 3 = some ⟨3, ⟨0, 1, 4⟩⟩ := by kernel_rfl
 simp only [pl_alive, lock_New, s5, s3, Option.bind_some, e1, e2, mode_eq]
 have hA : askR [] [] [] ⟨5, ⟨0, 1, 6⟩⟩ ⟨97, 0, 0, 0, 0, 0, 0, 0⟩ 1 = (⟨[], [⟨⟨0, 1, 6⟩, ⟨97, 0, 0, 0, 0, 0, 0, 0⟩, 1⟩]⟩, 0, [(⟨0, 1, 6⟩, ⟨⟨5, ⟨0, 1, 6⟩⟩, false⟩)], [(⟨⟨0, 1, 6⟩, ⟨97, 0, 0, 0, 0, 0, 0, 0⟩⟩, 1)], []) := by kernel_rfl
 rw [hA]
 have hB : askR [(⟨0, 1, 6⟩, ⟨⟨5, ⟨0, 1, 6⟩⟩, false⟩)] [(⟨⟨0, 1, 6⟩, ⟨97, 0, 0, 0, 0, 0, 0, 0⟩⟩, 1)] [] ⟨3, ⟨0, 1, 4⟩⟩ ⟨97, 0, 0, 0, 0, 0, 0, 0⟩ 2 = (⟨[⟨0, 1, 6⟩], [⟨⟨0, 1, 4⟩, ⟨97, 0, 0, 0, 0, 0, 0, 0⟩, 2⟩]⟩, 0, [(⟨0, 1, 4⟩, ⟨⟨3, ⟨0, 1, 4⟩⟩, false⟩)], [(⟨⟨0, 1, 4⟩, ⟨97, 0, 0, 0, 0, 0, 0, 0⟩⟩, 2)], []) := by kernel_rfl
 rw [hB]
 rfl
theorem short_eq (l : List TA) : pl_short l = some (l.take 60) := by
 rw [pl_short, Option.bind_some]
 by_cases h : (60 : Int) < (l.length : Int)
 ·rw [if_pos h, if_pos (by omega)]; rfl
 ·rw [if_neg h, if_pos (by omega), Int.toNat_natCast, List.take_length, List.take_of_length_le (by omega)]
def farB (l : List TA) : Bool := (l.take 60).any fun a => decide (30 < a.f_Keys.length)
theorem far0 (y : List TA) (hy : y.length ≤ 1000) : ∀ (fuel k : Nat), y.length - k < fuel → k ≤ y.length → pl_far_l0 y fuel k = some ((y.drop k).any fun a => decide (30 < a.f_Keys.length))
 | 0, k, h, _ => by omega
 | fuel + 1, k, h, hk => by
  rw [pl_far_l0]
  by_cases hlt : k < y.length
  ·rw [if_pos (dT (by omega)), if_pos (by omega), Int.toNat_natCast, Option.bind_some, drop_any y _ k default hlt, w64 (by omega) (by omega), show (((k : Nat) : Int) + 1) = ((k + 1 : Nat) : Int) by omega, far0 y hy fuel (k + 1) (by omega) (by omega)]
   by_cases h1 : 30 < (y.getD k default).f_Keys.length
   ·rw [if_pos (dT (by omega))]; simp only [h1, decide_true, Bool.true_or]
   ·rw [if_neg (dF (by omega))]; simp only [h1, decide_false, Bool.false_or]
  ·rw [if_neg (dF (by omega))]
   have : k = y.length := by omega
   subst this
   rw [List.drop_length]; rfl
theorem far_eq (l : List TA) : pl_far l = some (farB l) := by
 have hlen := List.length_take_le 60 l
 rw [pl_far, short_eq, Option.bind_some]
 have := far0 (l.take 60) (by omega) big 0 (big_lt (by omega)) (by omega)
 rw [List.drop_zero] at this
 exact this
theorem far_keys {l : List TA} (h : farB l = false) : ∀ a ∈ l.take 60, a.f_Keys.length ≤ 30 := fun a ha => by
 rw [farB, Bool.eq_false_iff] at h
 by_cases hc : a.f_Keys.length ≤ 30
 ·exact hc
 ·exact absurd (List.any_eq_true.2 ⟨a, ha, by simp only [decide_eq_true_eq]; omega⟩) h
end Go.Proofs.YtddgjfclpknkcaaGreatDoor.Wk
