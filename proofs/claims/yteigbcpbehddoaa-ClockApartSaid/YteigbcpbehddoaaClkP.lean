/- The law of the clock: ClockApart. -/
import Derived.Test.YteigbcpbehddoaaClkT
set_option linter.unusedVariables false
set_option linter.unusedSimpArgs false
set_option linter.unusedSectionVars false
namespace Go.Proofs.Yteigbcpbehddoaa.Wk
open Go Go.Cn

theorem len_eq (now : Int) (at_ : Mp) (wheel : Wh) : clock_Clock_Len now at_ wheel = some (at_.length : Int) := by simp [clock_Clock_Len, clock_Clock_ok]
theorem now_eq (now : Int) (at_ : Mp) (wheel : Wh) : clock_Clock_Now now at_ wheel = some now := by simp [clock_Clock_Now, clock_Clock_ok]
theorem alive_eq : parrellaw09_alive = some true := by
  obtain ⟨w0, g0, c0⟩ := new_eq
  obtain ⟨w1, g1, c1⟩ := set_ok (now := 0) (n := T_clock_Name.mk 1 (T_api_Tx.mk 0 0 0)) (after := 2) c0 (by omega) (by omega) (by omega) (.inr (by simp))
  have e1 : mset (mdel ([] : Mp) (T_clock_Name.mk 1 (T_api_Tx.mk 0 0 0))) (T_clock_Name.mk 1 (T_api_Tx.mk 0 0 0)) (0 + 2) = [(T_clock_Name.mk 1 (T_api_Tx.mk 0 0 0), 2)] := rfl
  rw [e1] at g1 c1
  obtain ⟨L1, w2, a2, g2, c2, m2, n2, s2, f2, k2⟩ := tick_eq (now := 0) c1 (by omega) (by simp)
  have hL1 : L1 = [] := by
    refine List.eq_nil_iff_forall_not_mem.2 fun x hx => ?_
    have := (m2 x).1 hx
    simp only [mget] at this
    split at this
    · cases this
    · cases this
  subst hL1
  have e2 : a2 = [(T_clock_Name.mk 1 (T_api_Tx.mk 0 0 0), 2)] := f2
  rw [e2] at g2 c2
  obtain ⟨L2, w3, a3, g3, c3, m3, n3, s3, f3, k3⟩ := tick_eq (now := 0 + 1) c2 (by omega) (by simp)
  have hm : ∀ x, x ∈ L2 ↔ x = T_clock_Name.mk 1 (T_api_Tx.mk 0 0 0) := by
    intro x
    rw [m3]
    simp only [mget]
    split
    · rename_i e; simp [e]
    · rename_i e; simp [e]
  have hL2 : L2 = [T_clock_Name.mk 1 (T_api_Tx.mk 0 0 0)] := by
    match L2, hm, n3 with
    | [], hm, _ => exact absurd ((hm _).2 rfl) (by simp)
    | [x], hm, _ => rw [(hm x).1 (by simp)]
    | x :: y :: r, hm, n3 =>
      have h1 := (hm x).1 (by simp)
      have h2 := (hm y).1 (by simp)
      rw [List.nodup_cons] at n3
      exact absurd (by rw [h1, ← h2]; simp) n3.1
  subst hL2
  have e3 : a3 = [] := by rw [f3]; rfl
  unfold parrellaw09_alive
  rw [g0]
  simp only [Option.bind_some]
  rw [g1]
  simp only [Option.bind_some, len_eq, now_eq]
  rw [g2]
  simp only [Option.bind_some]
  rw [g3]
  simp [e3, len_eq, now_eq]

theorem apart_end {now : Int} {at_ : Mp} {w : Wh} (hc : Cor at_ w) {n : Nm} (hg : mget at_ n = some 7) : ∃ w1 w2 a1, clock_Clock_Stop now at_ w n = some (true, now, w1, a1) ∧ clock_Clock_Stop now a1 w1 n = some (false, now, w2, mdel a1 n) := by
  obtain ⟨w1, g1, c1⟩ := stop_eq (now := now) hc n
  obtain ⟨w2, g2, c2⟩ := stop_eq (now := now) c1 n
  refine ⟨w1, w2, _, by rw [g1, hg]; rfl, ?_⟩
  rw [g2, mdel_get hc.uk]; simp

theorem apart_law (a b : T_parrelref09_Name) (act : T_parrellaw09_Act) (_ : wfL (c_T_parrelref09_Name a)) (_ : wfL (c_T_parrelref09_Name b)) (h3 : wfL (c_T_parrellaw09_Act act)) : parrellaw09_ClockApart a b act = some true := by
  have hA : 0 ≤ act.f_After ∧ act.f_After < 4294967296 := wf_u32 (h3 (.int .u32 act.f_After) (by simp [c_T_parrellaw09_Act]))
  unfold parrellaw09_ClockApart
  rw [alive_eq]
  by_cases hab : a = b
  · simp [hab]
  rw [if_neg (by simpa using hab)]
  obtain ⟨w0, g0, c0⟩ := new_eq
  have hnab : T_clock_Name.mk a.f_Kind a.f_Tx ≠ T_clock_Name.mk b.f_Kind b.f_Tx := by
    intro e
    apply hab
    cases a; cases b; simpa using e
  simp only [parrellaw09_theirs, Option.bind_some]
  generalize T_clock_Name.mk a.f_Kind a.f_Tx = na at hnab ⊢
  generalize T_clock_Name.mk b.f_Kind b.f_Tx = nb at hnab ⊢
  obtain ⟨w1, g1, c1⟩ := set_ok (now := 0) (n := na) (after := 7) c0 (by omega) (by omega) (by omega) (.inr (by simp))
  have e1 : mset (mdel ([] : Mp) na) na (0 + 7) = [(na, 7)] := rfl
  rw [e1] at g1 c1
  have hg1 : mget ([(na, 7)] : Mp) na = some 7 := by simp [mget]
  rw [g0]
  simp only [Option.bind_some]
  rw [g1]
  simp only [Option.bind_some, until_eq]
  rw [if_neg (by simp)]
  by_cases hk : (Int.tmod act.f_Kind 4 == 2) = true
  · rw [if_pos hk]
    obtain ⟨w2, g2, c2⟩ := stop_eq (now := 0) c1 nb
    have hg2 : mget (mdel ([(na, 7)] : Mp) nb) na = some 7 := by rw [mdel_get c1.uk, if_neg hnab]; exact hg1
    obtain ⟨w3, w4, a3, k1, k2⟩ := apart_end (now := 0) c2 hg2
    rw [g2]
    simp only [Option.bind_some, hg2]
    rw [if_neg (by simp), if_neg (by simp), k1]
    simp only [Option.bind_some, if_true]
    rw [k2]
    simp
  · rw [if_neg hk]
    have key : ∃ e at2 w2, clock_Clock_Set 0 ([(na, 7)] : Mp) w1 nb act.f_After = some (e, 0, w2, at2) ∧ Cor at2 w2 ∧ mget at2 na = some 7 := by
      by_cases hno : act.f_After = 0 ∨ 2147483647 - 0 < act.f_After ∨ ((mget ([(na, 7)] : Mp) nb) = none ∧ ([(na, 7)] : Mp).length = 1024)
      · obtain ⟨e, _, k⟩ := set_no (now := 0) (wheel := w1) (by omega) hA.1 hno
        exact ⟨e, _, _, k, c1, hg1⟩
      · obtain ⟨w2, k, c2⟩ := set_ok (now := 0) (n := nb) (after := act.f_After) c1 (by omega) (by omega) (by omega) (.inr (by simp))
        refine ⟨0, _, w2, k, c2, ?_⟩
        rw [mset_get, if_neg hnab, mdel_get c1.uk, if_neg hnab]; exact hg1
    obtain ⟨e, at2, w2, g2, c2, hg2⟩ := key
    obtain ⟨w3, w4, a3, k1, k2⟩ := apart_end (now := 0) c2 hg2
    rw [g2]
    simp only [Option.bind_some, hg2]
    rw [if_neg (by simp), if_neg (by simp), k1]
    simp only [Option.bind_some, if_true]
    rw [k2]
    simp
end Go.Proofs.Yteigbcpbehddoaa.Wk
