/- The law of the clock: ClockNext. -/
import Derived.Test.YteigbcpbehddoaaClkN
import Derived.Test.YteigbcpbehddoaaCnY
set_option linter.unusedVariables false
set_option linter.unusedSimpArgs false
set_option linter.unusedSectionVars false
namespace Go.Proofs.Yteigbcpbehddoaa.Wk
open Go Go.Cn

theorem mset_len (m : Mp) (k : Nm) (v : Int) : (mset m k v).length ≤ m.length + 1 := by
  induction m with
  | nil => simp [mset]
  | cons e r ih =>
    simp only [mset]
    split
    · simp
    · simp only [List.length_cons]; omega
theorem mdel_len (m : Mp) (k : Nm) : (mdel m k).length ≤ m.length := (mdel_sub m k).length_le
theorem fold_len : ∀ (y : List Nm) (m : Mp), (y.foldl mdel m).length ≤ m.length
  | [], m => Nat.le_refl _
  | a :: y, m => Nat.le_trans (fold_len y (mdel m a)) (mdel_len m a)
/-- A set, whatever comes of it: what is there rings later than now. -/
theorem set_any {now : Int} {at_ : Mp} {wheel : Wh} (hc : Cor at_ wheel) (n : Nm) {after : Int} (h0 : 0 ≤ now ∧ now ≤ 2147483647) (ha : 0 ≤ after) (hf : ∀ n v, mget at_ n = some v → now < v) :
    ∃ e w' m', clock_Clock_Set now at_ wheel n after = some (e, now, w', m') ∧ Cor m' w' ∧ m'.length ≤ at_.length + 1 ∧ ∀ n v, mget m' n = some v → now < v := by
  by_cases hno : after = 0 ∨ 2147483647 - now < after ∨ ((mget at_ n) = none ∧ at_.length = 1024)
  · obtain ⟨e, _, k⟩ := set_no (now := now) (wheel := wheel) h0 ha hno
    exact ⟨e, _, _, k, hc, by omega, hf⟩
  · obtain ⟨w2, k, c2⟩ := set_ok (now := now) (n := n) (after := after) hc h0 (by omega) (by omega) (by
      by_cases h : mget at_ n = none
      · right; intro hl; exact hno (.inr (.inr ⟨h, hl⟩))
      · left; cases hg : mget at_ n with
        | none => exact absurd hg h
        | some v => rfl)
    refine ⟨0, w2, _, k, c2, ?_, fun j v hj => ?_⟩
    · have := mset_len (mdel at_ n) n (now + after)
      have := mdel_len at_ n
      omega
    · rw [mset_get] at hj
      split at hj
      · cases hj; omega
      · rw [mdel_get hc.uk] at hj
        split at hj
        · cases hj
        · exact hf j v hj

set_option maxHeartbeats 4000000 in
theorem next_loop {y : List T_parrellaw09_Act} (hy : y.length ≤ 150) (hw : ∀ a ∈ y, 0 ≤ a.f_After) : ∀ (fuel k : Nat) (now : Int) (w : Wh) (m : Mp), y.length - k < fuel → k ≤ y.length → (0 ≤ now ∧ now ≤ k) → Cor m w → m.length ≤ k → (∀ n v, mget m n = some v → now < v) →
    parrellaw09_ClockNext_l0 y fuel (k : Int) now w m = some true
  | 0, k, now, w, m, h, _, _, _, _, _ => by omega
  | fuel + 1, k, now, w, m, h, hk, hn, hc, hl, hf => by
    rw [parrellaw09_ClockNext_l0]
    by_cases hlt : k < y.length
    · rw [if_pos (by simp only [decide_eq_true_eq]; omega), if_pos (by omega)]
      rw [Int.toNat_natCast, w64 (by omega) (by omega), show ((k : Int) + 1) = ((k + 1 : Nat) : Int) by omega]
      have hin : y.getD k default ∈ y := by rw [List.getD_eq_getElem?_getD, List.getElem?_eq_getElem hlt]; exact List.getElem_mem hlt
      have e2 : IntKind.wrap .u32 (now + 1) = now + 1 := wu32' (by omega) (by omega)
      have aSet : ∀ n : Nm, (clock_Clock_Set now m w n (y.getD k default).f_After).bind (fun z => parrellaw09_ClockNext_l0 y fuel ((k + 1 : Nat) : Int) z.2.1 z.2.2.1 z.2.2.2) = some true := by
        intro n
        obtain ⟨e, w', m', k1, k2, k3, k4⟩ := set_any hc n (now := now) (by omega) (hw _ hin) hf
        rw [k1]
        exact next_loop hy hw fuel (k + 1) now w' m' (by omega) (by omega) (by omega) k2 (by omega) k4
      obtain ⟨L, w', m', t1, t2, t3, t4, t5, t6, t7⟩ := tick_eq (now := now) hc (by omega) (by omega)
      have aTick : parrellaw09_ClockNext_l0 y fuel ((k + 1 : Nat) : Int) (now + 1) w' m' = some true :=
        next_loop hy hw fuel (k + 1) (now + 1) w' m' (by omega) (by omega) (by omega) t2 (by have := fold_len L m; rw [t6]; omega) (fun j v hj => by
          rw [t7] at hj
          split at hj
          · cases hj
          · rename_i hne
            have := hf j v hj
            have : v ≠ now + 1 := fun e => hne (e ▸ hj)
            omega)
      by_cases hm : m = []
      · subst hm
        rw [next_nil]
        simp only [Option.bind_some, len_eq, now_eq, Bool.false_eq_true, if_false, Bool.not_false, if_true]
        rw [if_neg (by simp)]
        split
        · exact aSet _
        · have hL : L = [] := List.eq_nil_iff_forall_not_mem.2 fun x hx => by have := (t3 x).1 hx; simp [mget] at this
          subst hL
          rw [t1]
          simp only [Option.bind_some, now_eq, e2]
          rw [if_neg (by simp), if_neg (by simp), if_neg (by simp), if_neg (by simp)]
          exact aTick
      · obtain ⟨x, v, n1, n2, n3⟩ := next_some (now := now) hc hm (by omega)
        have hpos : 0 < m.length := List.length_pos_iff.2 hm
        have hv := hf x v n2
        rw [n1]
        simp only [Option.bind_some, len_eq, now_eq, if_true, Bool.not_true, Bool.false_eq_true, if_false]
        rw [if_neg (by simp; omega), if_neg (by simp; omega)]
        split
        · exact aSet _
        · rw [t1]
          simp only [Option.bind_some, now_eq, e2]
          rw [if_neg (by simp), if_neg (by simp)]
          have hiff : L ≠ [] ↔ v = now + 1 := by
            constructor
            · intro hne
              obtain ⟨z, hz⟩ := List.exists_mem_of_ne_nil _ hne
              have hz' := (t3 z).1 hz
              have := (cfT_time n2 hz' (n3 z _ hz')).1
              omega
            · rintro rfl
              exact List.ne_nil_of_mem ((t3 x).2 n2)
          by_cases hL : L = []
          · have hv1 : ¬ v = now + 1 := fun h => hiff.2 h hL
            subst hL
            rw [if_neg (by simp [hv1]), if_neg (by simp)]
            exact aTick
          · have hv1 := hiff.1 hL
            have hLp : 0 < L.length := List.length_pos_iff.2 hL
            rw [if_neg (by simp [hv1, hLp]), if_pos (by simp only [decide_eq_true_eq]; omega), if_pos (by omega)]
            have hfirst : L.getD 0 default = x := by
              cases L with
              | nil => exact absurd rfl hL
              | cons a L =>
                show a = x
                have ha : mget m a = some (now + 1) := (t3 a).1 List.mem_cons_self
                have h1 := (cfT_time n2 ha (n3 a _ ha)).2 hv1
                have hxm : x ∈ a :: L := (t3 x).2 (by rw [n2, hv1])
                have h2 : cfN a x ≤ 0 := by
                  rcases List.mem_cons.1 hxm with rfl | hx
                  · exact h1
                  · exact (List.pairwise_cons.1 t5).1 x hx
                have h3 : cfN x a = - cfN a x := lex_anti _ _
                exact (cfN_zero a x).1 (by omega)
            rw [hfirst, if_neg (by simp)]
            exact aTick
    · rw [if_neg (by simp only [decide_eq_true_eq]; omega), alive_eq]
      rfl

theorem next_start {y : List T_parrellaw09_Act} (hy : y.length ≤ 150) (hw : ∀ a ∈ y, 0 ≤ a.f_After) {w : Wh} (hc : Cor [] w) (fuel : Nat) (hf : y.length < fuel) : parrellaw09_ClockNext_l0 y fuel 0 0 w [] = some true := by
  have := next_loop hy hw fuel 0 0 w [] (by omega) (by omega) (by omega) hc (by simp) (fun n v h => by simp [mget] at h)
  simpa only [Int.natCast_zero] using this
theorem next_law (l : List T_parrellaw09_Act) (h1 : (∀ a ∈ l, wfL (c_T_parrellaw09_Act a)) ∧ l.length * 24 ≤ 140737488351232) : parrellaw09_ClockNext l = some true := by
  obtain ⟨w0, g0, c0⟩ := new_eq
  unfold parrellaw09_ClockNext parrellaw09_short
  rw [g0]
  simp only [Option.bind_some]
  rw [if_pos (by split <;> omega)]
  simp only [Option.bind_some]
  generalize hy : l.take _ = y
  have hy1 : y.length ≤ 150 := by rw [← hy, List.length_take]; split <;> omega
  have hy2 : ∀ a ∈ y, 0 ≤ a.f_After := fun a ha => (wf_u32 (h1.1 a (by rw [← hy] at ha; exact List.mem_of_mem_take ha) (.int .u32 a.f_After) (by simp [c_T_parrellaw09_Act]))).1
  exact next_start hy1 hy2 c0 big (big_lt (by omega))
end Go.Proofs.Yteigbcpbehddoaa.Wk
