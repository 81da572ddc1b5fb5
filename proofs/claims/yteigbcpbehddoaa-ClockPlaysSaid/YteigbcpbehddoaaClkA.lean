/- Plain facts of the clock: it is alive. -/
import Derived.Test.YteigbcpbehddoaaClkT
set_option linter.unusedVariables false
set_option linter.unusedSimpArgs false
set_option linter.unusedSectionVars false
namespace Go.Proofs.Yteigbcpbehddoaa.Wk
open Go Go.Cn

theorem len_eq (now : Int) (at_ : Mp) (wheel : Wh) : clock_Clock_Len now at_ wheel = some (at_.length : Int) := by simp [clock_Clock_Len, clock_Clock_ok]
theorem now_eq (now : Int) (at_ : Mp) (wheel : Wh) : clock_Clock_Now now at_ wheel = some now := by simp [clock_Clock_Now, clock_Clock_ok]
theorem alive_eq : parrellaw09_alive = some true := by
  obtain ⟨w0, g0, c0⟩ := new_eq
  obtain ⟨w1, g1, c1⟩ := set_ok (now := 0) (n := T_clock_Name.mk 1 (T_api_Tx.mk 0 0 0)) (after := 2) c0 (by omega) (by omega) (by omega) (.inr (by simp))
  have e1 : mset (mdel ([] : Mp) (T_clock_Name.mk 1 (T_api_Tx.mk 0 0 0))) (T_clock_Name.mk 1 (T_api_Tx.mk 0 0 0)) (0 + 2) = [(T_clock_Name.mk 1 (T_api_Tx.mk 0 0 0), 2)] := rfl
  rw [e1] at g1 c1
  obtain ⟨L1, w2, a2, g2, c2, m2, n2, s2, f2, k2⟩ := tick_eq (now := 0) c1 (by omega) (by simp)
  have hL1 : L1 = [] := by
    refine List.eq_nil_iff_forall_not_mem.2 fun x hx => ?_
    have := (m2 x).1 hx
    simp only [mget] at this
    split at this
    · cases this
    · cases this
  subst hL1
  have e2 : a2 = [(T_clock_Name.mk 1 (T_api_Tx.mk 0 0 0), 2)] := f2
  rw [e2] at g2 c2
  obtain ⟨L2, w3, a3, g3, c3, m3, n3, s3, f3, k3⟩ := tick_eq (now := 0 + 1) c2 (by omega) (by simp)
  have hm : ∀ x, x ∈ L2 ↔ x = T_clock_Name.mk 1 (T_api_Tx.mk 0 0 0) := by
    intro x
    rw [m3]
    simp only [mget]
    split
    · rename_i e; simp [e]
    · rename_i e; simp [e]
  have hL2 : L2 = [T_clock_Name.mk 1 (T_api_Tx.mk 0 0 0)] := by
    match L2, hm, n3 with
    | [], hm, _ => exact absurd ((hm _).2 rfl) (by simp)
    | [x], hm, _ => rw [(hm x).1 (by simp)]
    | x :: y :: r, hm, n3 =>
      have h1 := (hm x).1 (by simp)
      have h2 := (hm y).1 (by simp)
      rw [List.nodup_cons] at n3
      exact absurd (by rw [h1, ← h2]; simp) n3.1
  subst hL2
  have e3 : a3 = [] := by rw [f3]; rfl
  unfold parrellaw09_alive
  rw [g0]
  simp only [Option.bind_some]
  rw [g1]
  simp only [Option.bind_some, len_eq, now_eq]
  rw [g2]
  simp only [Option.bind_some]
  rw [g3]
  simp [e3, len_eq, now_eq]

end Go.Proofs.Yteigbcpbehddoaa.Wk
