/- Plain facts: configurations that may be. -/
import Derived.Test.YtffmmflapagkhaaDoorGathWF
import Derived.Test.YtffmmflapagkhaaDoorCnX
import Derived.Test.YtffmmflapagkhaaDoorCnY
set_option linter.unusedVariables false
set_option linter.unusedSimpArgs false
set_option linter.unusedSectionVars false
namespace Go.Proofs.YtffmmflapagkhaaDoor.Wk
open Go Go.Cn
structure WfV (c : T_api_Config) : Prop where
  e : 0 ≤ c.f_Epoch ∧ c.f_Epoch < 4294967296
  r : 0 ≤ c.f_R ∧ c.f_R < 256
  w : 0 ≤ c.f_W ∧ c.f_W < 256
  v : ∀ i, i < 8 → 0 ≤ A8.get c.f_Votes i ∧ A8.get c.f_Votes i < 256
def tot (c : T_api_Config) : Int := 0 + A8.get c.f_Votes 0 + A8.get c.f_Votes 1 + A8.get c.f_Votes 2 + A8.get c.f_Votes 3 + A8.get c.f_Votes 4 + A8.get c.f_Votes 5 + A8.get c.f_Votes 6 + A8.get c.f_Votes 7
def low (c : T_api_Config) : Bool := (List.range 8).all fun i => decide (A8.get c.f_Votes i ≤ 15)
theorem low_iff {c : T_api_Config} : low c = true ↔ ∀ i, i < 8 → A8.get c.f_Votes i ≤ 15 := by simp [low]
def mayV (c : T_api_Config) : Bool := decide (1 ≤ c.f_Epoch ∧ c.f_Epoch ≤ 2147483647) && (low c && (decide (1 ≤ c.f_R ∧ c.f_R ≤ tot c) && (decide (1 ≤ c.f_W ∧ c.f_W ≤ tot c) && (decide (tot c < c.f_R + c.f_W) && decide (tot c < 2 * c.f_W)))))
theorem tot_bounds {c : T_api_Config} (h : WfV c) : 0 ≤ tot c ∧ tot c ≤ 2040 := by
  have g0 := h.v 0 (by decide); have g1 := h.v 1 (by decide); have g2 := h.v 2 (by decide); have g3 := h.v 3 (by decide)
  have g4 := h.v 4 (by decide); have g5 := h.v 5 (by decide); have g6 := h.v 6 (by decide); have g7 := h.v 7 (by decide)
  unfold tot; omega
theorem bit255 : ∀ i : Nat, i < 8 → IntKind.wrap .i64 (IntKind.wrap .u64 ((BitVec.ofInt (IntKind.bits .u64) (Int.fdiv 255 (2 ^ (min (Int.toNat (i : Int)) (IntKind.bits .u64)))) &&& BitVec.ofInt (IntKind.bits .u64) 1).toNat : Int)) = 1 := by decide +kernel
theorem of_b {c : T_api_Config} (h : WfV c) (i : Nat) (hi : i < 8) (s : Int) (h1 : 0 ≤ s) (h2 : s ≤ 10000) (k : Int → Option Int) : votes_Of_b0 c 255 i s k = k (s + A8.get c.f_Votes i) := by
  unfold votes_Of_b0
  have g := h.v i hi
  rw [if_pos (by omega), bit255 i hi, w64 (x := A8.get c.f_Votes i) (by omega) (by omega), Int.mul_one, w64 (x := A8.get c.f_Votes i) (by omega) (by omega), w64 (by omega) (by omega)]
theorem total_b {c : T_api_Config} (h : WfV c) (i : Nat) (hi : i < 8) (s : Int) (h1 : 0 ≤ s) (h2 : s ≤ 10000) (k : Int → Option Int) : parrelref06_Total_b0 c i s k = k (s + A8.get c.f_Votes i) := by
  unfold parrelref06_Total_b0
  have g := h.v i hi
  rw [w64 (x := A8.get c.f_Votes i) (by omega) (by omega), w64 (by omega) (by omega)]
theorem sum8 {c : T_api_Config} (h : WfV c) (f : Nat → Int → (Int → Option Int) → Option Int) (e : Int → Option Int)
    (hf : ∀ i, i < 8 → ∀ s, 0 ≤ s → s ≤ 10000 → ∀ k, f i s k = k (s + A8.get c.f_Votes i)) (he : ∀ s, e s = some s) : walkN f e 8 0 0 = some (tot c) := by
  have g0 := h.v 0 (by decide); have g1 := h.v 1 (by decide); have g2 := h.v 2 (by decide); have g3 := h.v 3 (by decide)
  have g4 := h.v 4 (by decide); have g5 := h.v 5 (by decide); have g6 := h.v 6 (by decide); have g7 := h.v 7 (by decide)
  rw [walkN, hf 0 (by decide) _ (by omega) (by omega), walkN, hf 1 (by decide) _ (by omega) (by omega), walkN, hf 2 (by decide) _ (by omega) (by omega), walkN, hf 3 (by decide) _ (by omega) (by omega),
    walkN, hf 4 (by decide) _ (by omega) (by omega), walkN, hf 5 (by decide) _ (by omega) (by omega), walkN, hf 6 (by decide) _ (by omega) (by omega), walkN, hf 7 (by decide) _ (by omega) (by omega), walkN, he]
  rfl
theorem votesTotal_eq {c : T_api_Config} (h : WfV c) : votes_Total c = some (tot c) := by
  unfold votes_Total votes_Of
  rw [votes_Of_w0 c 255 0 (by decide), sum8 h (votes_Of_b0 c 255) votes_Of_e0 (fun i hi s h1 h2 k => of_b h i hi s h1 h2 k) (fun _ => rfl)]; rfl
theorem refTotal_eq {c : T_api_Config} (h : WfV c) : parrelref06_Total c = some (tot c) := by
  unfold parrelref06_Total
  rw [parrelref06_Total_w0 c 0 (by decide), sum8 h (parrelref06_Total_b0 c) parrelref06_Total_e0 (fun i hi s h1 h2 k => total_b h i hi s h1 h2 k) (fun _ => rfl)]
theorem max_loop (c : T_api_Config) : ∀ (fuel k : Nat) (m : Int), 8 - k < fuel → k ≤ 8 → ∃ r, slices_Max_uint8_uint8_l0 c fuel m (k : Int) = some r ∧ (r ≤ 15 ↔ m ≤ 15 ∧ ∀ i, k ≤ i → i < 8 → A8.get c.f_Votes i ≤ 15)
  | 0, k, _, h, _ => by omega
  | fuel + 1, k, m, h, hk => by
    rw [slices_Max_uint8_uint8_l0]
    by_cases hlt : k < 8
    · rw [if_pos (by simp only [decide_eq_true_eq]; omega), if_pos (by omega), w64 (by omega) (by omega)]
      obtain ⟨r, h1, h2⟩ := max_loop c fuel (k + 1) (if A8.get c.f_Votes (k : Int).toNat > m then A8.get c.f_Votes (k : Int).toNat else m) (by omega) (by omega)
      refine ⟨r, h1, h2.trans ?_⟩
      rw [Int.toNat_natCast]
      constructor
      · rintro ⟨h3, h4⟩
        refine ⟨by split at h3 <;> omega, fun i hi hi8 => ?_⟩
        by_cases e : i = k
        · subst e; split at h3 <;> omega
        · exact h4 i (by omega) hi8
      · rintro ⟨h3, h4⟩
        refine ⟨by have := h4 k (Nat.le_refl _) hlt; split <;> omega, fun i hi hi8 => h4 i (by omega) hi8⟩
    · rw [if_neg (by simp only [decide_eq_true_eq]; omega)]
      exact ⟨m, rfl, fun h => ⟨h, fun i h1 h2 => by omega⟩, fun h => h.1⟩
theorem max_eq (c : T_api_Config) : ∃ r, slices_Max_uint8_uint8 c = some r ∧ decide (r ≤ 15) = low c := by
  obtain ⟨r, h1, h2⟩ := max_loop c big 1 c.f_Votes.a0 (big_lt (by omega)) (by omega)
  refine ⟨r, h1, ?_⟩
  rw [Bool.eq_iff_iff, decide_eq_true_eq, low_iff, h2]
  constructor
  · rintro ⟨h3, h4⟩ i hi
    by_cases e : i = 0
    · subst e; exact h3
    · exact h4 i (by omega) hi
  · intro h
    exact ⟨h 0 (by decide), fun i _ hi => h i hi⟩
theorem mayL_eq (n x : Int) (h1 : 0 ≤ n) (h2 : n < 256) : votes_May_L1 n x = some (decide (1 ≤ n ∧ n ≤ x)) := by
  unfold votes_May_L1
  rw [w64 (by omega) (by omega)]
  by_cases h : 1 ≤ n
  · rw [if_pos (by simpa using h)]; simp [h]
  · rw [if_neg (by simpa using h)]; simp [h]
theorem votesMay_eq {c : T_api_Config} (h : WfV c) : votes_May c = some (mayV c) := by
  obtain ⟨r, h1, h2⟩ := max_eq c
  have ht := tot_bounds h; have hr := h.r; have hw := h.w; have he := h.e
  unfold votes_May
  rw [votesTotal_eq h, Option.bind_some, h1, mayL_eq _ _ hr.1 hr.2, mayL_eq _ _ hw.1 hw.2, Option.bind_some, Option.bind_some, h2, w64 (x := c.f_R) (by omega) (by omega), w64 (x := c.f_W) (by omega) (by omega), w64 (by omega) (by omega), w64 (by omega) (by omega)]
  have e1 : decide (IntKind.wrap .u32 (c.f_Epoch - 1) < 2147483647) = decide (1 ≤ c.f_Epoch ∧ c.f_Epoch ≤ 2147483647) := by
    by_cases h0 : c.f_Epoch = 0
    · rw [h0]; decide
    · rw [wu32 (by omega) (by omega), Bool.eq_iff_iff, decide_eq_true_eq, decide_eq_true_eq]; omega
  rw [e1]
  unfold mayV
  cases decide (1 ≤ c.f_Epoch ∧ c.f_Epoch ≤ 2147483647) <;> cases low c <;> cases decide (1 ≤ c.f_R ∧ c.f_R ≤ tot c) <;> cases decide (1 ≤ c.f_W ∧ c.f_W ≤ tot c) <;> cases decide (tot c < c.f_R + c.f_W) <;> rfl
theorem refMay_eq {c : T_api_Config} (h : WfV c) : parrelref06_May c = some (mayV c) := by
  have ht := tot_bounds h; have hr := h.r; have hw := h.w; have he := h.e
  unfold parrelref06_May
  rw [refTotal_eq h, Option.bind_some, parrelref06_May_w0 c (tot c) (by decide),
    walkN_any (fun i => decide (15 < A8.get c.f_Votes i)) (some false) (parrelref06_May_e0 c (tot c)) _ 8 0 (fun j _ _ k => by rfl)]
  have e2 : (List.range' 0 8).any (fun i => decide (15 < A8.get c.f_Votes i)) = !low c := by
    cases hl : low c with
    | true =>
      rw [Bool.not_true, List.any_eq_false]
      intro i hi
      have := low_iff.1 hl i (by rw [List.mem_range'_1] at hi; omega)
      simp only [decide_eq_true_eq]; omega
    | false =>
      rw [Bool.not_false, List.any_eq_true]
      simp only [low, List.all_eq_false, List.mem_range, decide_eq_true_eq] at hl
      obtain ⟨i, hi, h3⟩ := hl
      exact ⟨i, by rw [List.mem_range'_1]; omega, by simp only [decide_eq_true_eq]; omega⟩
  rw [e2]
  unfold parrelref06_May_e0 mayV
  rw [w64 (x := c.f_R) (by omega) (by omega), w64 (x := c.f_W) (by omega) (by omega), w64 (by omega) (by omega), w64 (by omega) (by omega)]
  by_cases h1 : 1 ≤ c.f_Epoch <;> by_cases h2 : c.f_Epoch ≤ 2147483647 <;> cases hl : low c <;> by_cases h4 : 1 ≤ c.f_R <;> by_cases h5 : 1 ≤ c.f_W <;> by_cases h6 : c.f_R ≤ tot c <;> by_cases h7 : c.f_W ≤ tot c <;> by_cases h8 : tot c < c.f_R + c.f_W <;> simp [h1, h2, h4, h5, h6, h7, h8]
end Go.Proofs.YtffmmflapagkhaaDoor.Wk
