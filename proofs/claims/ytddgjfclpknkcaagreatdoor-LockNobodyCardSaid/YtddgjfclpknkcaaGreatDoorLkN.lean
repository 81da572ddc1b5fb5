/- LockNobody: a table that nobody made; no more than 64 users. -/
import Derived.Test.YtddgjfclpknkcaaGreatDoorLkA
import Derived.Test.YtddgjfclpknkcaaGreatDoorLkRr
set_option linter.unusedVariables false
set_option linter.unusedSimpArgs false
set_option linter.unusedSectionVars false
namespace Go.Proofs.YtddgjfclpknkcaaGreatDoor.Wk
open Go Go.Cn

def tN (i : Nat) : Tx := ⟨0, 1, (i : Int) + 1⟩
def sN (i : Nat) : TS := ⟨(i : Int), tN i⟩
def kA : Ky := ⟨97, 0, 0, 0, 0, 0, 0, 0⟩
def uN (i : Nat) : Us := (List.range (min i 64)).map fun j => (tN j, ⟨sN j, false⟩)
def hN (i : Nat) : Ps := (List.range (min i 64)).map fun j => (⟨tN j, kA⟩, 1)
def rN (i : Nat) : Rs := (if i < 64 then ⟨[], [⟨tN i, kA, 1⟩]⟩ else oE, if i < 64 then 0 else 5, uN (i + 1), hN (i + 1), [])
theorem ask_all : (List.range 66).map (fun i => askR (uN i) (hN i) [] (sN i) kA 1) = (List.range 66).map rN := by kernel_rfl
theorem ask_at {i : Nat} (h : i < 66) : askR (uN i) (hN i) [] (sN i) kA 1 = rN i := by
  have := congrArg (fun l : List Rs => l[i]?) ask_all
  simp only [List.getElem?_map, List.getElem?_range h, Option.map_some] at this
  exact Option.some.inj this
theorem rel_all : (relR (uN 66) (hN 66) [] (tN 0)).2.1 = 0 ∧ (relR (relR (uN 66) (hN 66) [] (tN 0)).2.2.1 (relR (uN 66) (hN 66) [] (tN 0)).2.2.2.1 (relR (uN 66) (hN 66) [] (tN 0)).2.2.2.2 (tN 0)).2.1 = 6 :=
  ⟨by kernel_rfl, by kernel_rfl⟩
theorem stampN {i : Nat} (h : i < 100) : pl_stamp (i : Int) = some (sN i) := by
  rw [pl_stamp, Option.bind_some, wu32 (by omega) (by omega)]; rfl
theorem nob1 : ∀ (fuel i : Nat), 66 - i < fuel → i ≤ 66 → Ok (uN i) (hN i) [] i → pl_LockNobody_l1 fuel i (uN i) (hN i) [] = some true
  | 0, i, h, _, _ => by omega
  | fuel + 1, i, h, hi, ho => by
    rw [pl_LockNobody_l1]
    by_cases hlt : i < 66
    · obtain ⟨e, o⟩ := ask_eq ho (by omega) (sN i) kA 1
      have ha := ask_at hlt
      rw [ha] at e o
      have e' : lT_Ask (uN i) (hN i) [] (sN i) ⟨97, 0, 0, 0, 0, 0, 0, 0⟩ 1 = some (rN i) := e
      rw [if_pos (by simp only [decide_eq_true_eq]; omega), wu32 (by omega) (by omega), stampN (by omega), Option.bind_some, e', Option.bind_some, w64 (by omega) (by omega)]
      have ih := nob1 fuel (i + 1) (by omega) (by omega) o
      have ih' : pl_LockNobody_l1 fuel ((i : Int) + 1) (rN i).2.2.1 (rN i).2.2.2.1 (rN i).2.2.2.2 = some true := ih
      by_cases h64 : i < 64
      · have d : decide ((i : Int) < 64) = true := by simp only [decide_eq_true_eq]; omega
        rw [d, if_neg (by simp [rN, h64]), if_neg (by simp [rN, h64]), if_neg (by simp [rN, h64])]
        exact ih'
      · have d : decide ((i : Int) < 64) = false := by simp only [decide_eq_false_iff_not]; omega
        rw [d, if_neg (by simp [rN, h64]), if_neg (by simp [rN, h64, oE]), if_pos (by simp [rN, h64]), if_neg (by simp [rN, h64])]
        exact ih'
    · have : i = 66 := by omega
      subst this
      obtain ⟨e1, o1⟩ := rel_eq ho (tN 0)
      obtain ⟨e2, o2⟩ := rel_eq o1 (tN 0)
      have s0 : pl_stamp 0 = some (sN 0) := stampN (i := 0) (by omega)
      have t0 : (sN 0).f_Tx = tN 0 := rfl
      rw [if_neg (by simp only [decide_eq_true_eq]; omega), s0]
      simp only [Option.bind_some, t0, e1, e2]
      rw [if_pos (by rw [rel_all.1]; rfl), if_pos (by rw [rel_all.2]; rfl), alive_eq]; rfl
theorem nobody_law (a : TA) {p : Prop} (_ : p) : pl_LockNobody a = some true := by
  rw [pl_LockNobody, far_eq, Option.bind_some]
  cases hf : farB [a] with
  | true => rw [if_pos rfl, alive_eq]; rfl
  | false =>
    have h10 : pl_LockNobody_c10 = some true := by
      rw [pl_LockNobody_c10, lock_New, Option.bind_some]
      exact nob1 big 0 (big_lt (by omega)) (by omega) ok_new
    have d1 : pl_does a = some oE := by
      simp only [pl_does, lT_Prepare, lT_Release, lT_Restore, lT_Ask_2, lT_ok_2, Option.bind_some]
      repeat' split
      all_goals rfl
    have d2 : pl_does_2 a = some oE := by
      simp only [pl_does_2, lT_Prepare_2, lT_Release_2, lT_Restore_2, lT_Ask_3, lT_ok_3, Option.bind_some]
      repeat' split
      all_goals rfl
    rw [if_neg (by simp), d1]
    simp only [Option.bind_some, d2, lT_Mode_2, lT_Mode_3, lT_Waits, lT_Waits_2, lT_Prepared, lT_Prepared_2, lT_Users, lT_Users_2, lT_Queue, lT_Queue_2, lT_ok_2, lT_ok_3, h10]
    rfl
end Go.Proofs.YtddgjfclpknkcaaGreatDoor.Wk
