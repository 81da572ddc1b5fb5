/- Plain facts of the clock: Next. -/
import Derived.Test.YteigbcpbehddoaaClkA
set_option linter.unusedVariables false
set_option linter.unusedSimpArgs false
set_option linter.unusedSectionVars false
namespace Go.Proofs.Yteigbcpbehddoaa.Wk
open Go Go.Cn

def tmL (at_ : Mp) (n : Nm) : List Int := (mget at_ n).getD default :: nmL n
def cfT (at_ : Mp) (a b : Nm) : Int := lexI (tmL at_ a) (tmL at_ b)
theorem L1_eq (x y : Nm) (now : Int) (at_ : Mp) : clock_Clock_Next_L1 x y now at_ = some (cfT at_ x y) := by
  simp only [clock_Clock_Next_L1, cmp32_eq, names_eq, Option.bind_some]
  rw [or_eq _ (by simp)]
  simp only [Option.bind_some, cfT, tmL, firstNZ]
  conv => rhs; rw [lexI]
  unfold cmp3 cfN
  generalize (mget at_ x).getD default = p
  generalize (mget at_ y).getD default = q
  congr 1
  by_cases h1 : p < q
  · simp [h1]
  · by_cases h2 : q < p
    · simp [h1, h2]
    · simp only [h1, h2, if_false, if_true]
      split <;> simp_all
theorem cfT_anti (at_ : Mp) (a b : Nm) : cfT at_ a b = - cfT at_ b a := lex_anti _ _
theorem cfT_zero (at_ : Mp) (a b : Nm) : cfT at_ a b = 0 ↔ a = b := by
  unfold cfT; rw [lex_zero (tmL at_ a) (tmL at_ b) rfl]
  constructor
  · intro h
    simp only [tmL, List.cons.injEq] at h
    exact (cfN_zero a b).1 ((lex_zero (nmL a) (nmL b) rfl).2 h.2)
  · rintro rfl; rfl
theorem cfT_trans (at_ : Mp) {a b c : Nm} (h1 : cfT at_ a b ≤ 0) (h2 : cfT at_ b c ≤ 0) : cfT at_ a c ≤ 0 := lex_trans (tmL at_ a) (tmL at_ b) (tmL at_ c) rfl rfl h1 h2
theorem cfT_total (at_ : Mp) : TotCmp (cfT at_) := by
  refine ⟨⟨fun x => ?_, fun x y z h1 h2 => ?_, fun x y z h1 h2 => ?_⟩, fun x y h1 h2 => ?_⟩
  · have := (cfT_zero at_ x x).2 rfl
    simp [Go.Proofs.ltOf, this]
  · simp only [Go.Proofs.ltOf, decide_eq_true_eq] at h1 h2 ⊢
    have h3 := cfT_trans at_ (a := x) (b := y) (c := z) (by omega) (by omega)
    have : cfT at_ x z ≠ 0 := fun h => by
      have e := (cfT_zero at_ x z).1 h; subst e
      have := cfT_anti at_ x y; omega
    omega
  · simp only [Go.Proofs.ltOf, decide_eq_false_iff_not] at h1 h2 ⊢
    have a1 := cfT_anti at_ x y; have a2 := cfT_anti at_ y z; have a3 := cfT_anti at_ x z
    have := cfT_trans at_ (a := z) (b := y) (c := x) (by omega) (by omega)
    omega
  · simp only [Go.Proofs.ltOf, decide_eq_false_iff_not] at h1 h2
    have a1 := cfT_anti at_ x y
    exact (cfT_zero at_ x y).1 (by omega)
theorem next_nil (now : Int) (wheel : Wh) : clock_Clock_Next now [] wheel = some (T_clock_Name.mk 0 (T_api_Tx.mk 0 0 0), 0, false) := by
  simp [clock_Clock_Next, len_eq]
/-- What Next tells, where there is something: the first by time, then name. -/
theorem next_some {now : Int} {at_ : Mp} {wheel : Wh} (hc : Cor at_ wheel) (h0 : at_ ≠ []) (hl : at_.length ≤ 8796093021952) : ∃ x v, clock_Clock_Next now at_ wheel = some (x, v, true) ∧ mget at_ x = some v ∧ ∀ y u, mget at_ y = some u → cfT at_ x y ≤ 0 := by
  have hs : sortO (fun x y => clock_Clock_Next_L1 x y now at_) 16 (at_.map (·.1)) = some (sortL (cfT at_) (at_.map (·.1))) :=
    sortO_eq (cfT_total at_) (fun x y => L1_eq x y now at_) (by unfold maxLen; simp; omega) (by simp; omega)
  have hp := sortL_perm (cfT at_) (at_.map (·.1))
  have hsd := sortL_sorted (cfT_total at_) (at_.map (·.1))
  unfold clock_Clock_Next
  rw [len_eq]
  have h1 : 0 < at_.length := List.length_pos_iff.2 h0
  simp only [Option.bind_some]
  rw [if_neg (by simp; omega)]
  have hk : ∃ u, maps_Keys_clock_slot_clock_Name_uint32 at_ = some u := ⟨_, rfl⟩
  obtain ⟨u, hu⟩ := hk
  rw [hu, hs]
  simp only [Option.bind_some]
  generalize sortL (cfT at_) (at_.map (·.1)) = S at hp hsd
  cases S with
  | nil =>
    have := hp.length_eq
    simp at this; omega
  | cons x S =>
    rw [if_pos (by simp)]
    have hx : x ∈ at_.map (·.1) := hp.mem_iff.1 List.mem_cons_self
    obtain ⟨e, he, rfl⟩ := List.mem_map.1 hx
    have hg : mget at_ e.1 = some e.2 := mem_mget hc.uk he
    refine ⟨e.1, e.2, ?_, hg, fun y u hy => ?_⟩
    · show some (e.1, (mget at_ e.1).getD default, true) = _
      rw [hg]; rfl
    · have hy' : y ∈ e.1 :: S := hp.mem_iff.2 (List.mem_map.2 ⟨_, mget_mem hy, rfl⟩)
      rcases List.mem_cons.1 hy' with h | hy'
      · rw [h]; have := (cfT_zero at_ e.1 e.1).2 rfl; omega
      · have := (List.pairwise_cons.1 hsd).1 y hy'
        simp only [Go.Proofs.ltOf, Bool.not_eq_true', decide_eq_false_iff_not] at this
        have := cfT_anti at_ e.1 y
        omega
/-- The first by time has the least time. -/
theorem cfT_time {at_ : Mp} {x y : Nm} {v u : Int} (hx : mget at_ x = some v) (hy : mget at_ y = some u) (h : cfT at_ x y ≤ 0) : v ≤ u ∧ (v = u → cfN x y ≤ 0) := by
  unfold cfT tmL at h
  rw [hx, hy] at h
  simp only [Option.getD_some, lexI] at h
  split at h
  · exact ⟨by omega, fun e => by omega⟩
  · split at h
    · omega
    · exact ⟨by omega, fun _ => h⟩
end Go.Proofs.Yteigbcpbehddoaa.Wk
