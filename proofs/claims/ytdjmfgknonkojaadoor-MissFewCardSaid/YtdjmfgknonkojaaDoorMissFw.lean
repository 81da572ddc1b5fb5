/- Plain facts: MissFew. -/
import Derived.Test.YtdjmfgknonkojaaDoorMissL
set_option linter.unusedVariables false
set_option linter.unusedSimpArgs false
set_option linter.unusedSectionVars false
namespace Go.Proofs.YtdjmfgknonkojaaDoor.Wk
open Go Go.Cn

theorem bitU (s i : Nat) (hs : s < 18446744073709551616) (h : i < 8) : ((IntKind.wrap .u64 ((BitVec.ofInt (IntKind.bits .u64) (Int.fdiv (s : Int) (2 ^ (min (Int.toNat (i : Int)) (IntKind.bits .u64)))) &&& BitVec.ofInt (IntKind.bits .u64) 1).toNat : Int)) == 1) = s.testBit i := by
  have e : min (Int.toNat (i : Int)) (IntKind.bits .u64) = i := by
    show min (Int.toNat (i : Int)) 64 = i
    omega
  have hd : s / 2 ^ i < 18446744073709551616 := Nat.lt_of_le_of_lt (Nat.div_le_self _ _) hs
  have h1 := and_u (s / 2 ^ i) 1 hd (by omega)
  rw [e, fd]
  rw [show ((1 : Nat) : Int) = 1 from rfl] at h1
  rw [h1, Nat.and_one_is_mod, Nat.testBit_eq_decide_div_mod_eq, Bool.eq_iff_iff, beq_iff_eq, decide_eq_true_eq]
  omega
def gF (i : Nat) : T_gather_Got := T_gather_Got.mk (i : Int) (T_api_Reg.mk 1 1) (T_api_Item.mk 0 [] (T_api_Config.mk 0 0 0 (A8.mk 0 0 0 0 0 0 0 0)))
def fewL (s i : Nat) : List T_gather_Got := ((List.range i).filter s.testBit).map gF
theorem fewL_len (s i : Nat) : (fewL s i).length ≤ i := by
  unfold fewL; rw [List.length_map]
  exact Nat.le_trans (List.length_filter_le _ _) (by simp)
theorem mem_fewL {s i : Nat} {g : T_gather_Got} : g ∈ fewL s i ↔ ∃ n, n < i ∧ s.testBit n = true ∧ g = gF n := by
  unfold fewL
  rw [List.mem_map]
  constructor
  · rintro ⟨n, hn, rfl⟩
    rw [List.mem_filter, List.mem_range] at hn
    exact ⟨n, hn.1, hn.2, rfl⟩
  · rintro ⟨n, h1, h2, rfl⟩
    exact ⟨n, List.mem_filter.2 ⟨List.mem_range.2 h1, h2⟩, rfl⟩
theorem few_loop (s : Nat) (hs : s < 18446744073709551616) (w : List T_api_Write) (mode : Int) : ∀ (m i fuel : Nat), i + m = 8 → m < fuel →
    parrellaw20_MissFew_l0 (s : Int) w mode fuel (i : Int) (fewL s i) = parrellaw20_MissFew_l0 (s : Int) w mode (fuel - m) 8 (fewL s 8)
  | 0, i, fuel, hi, _ => by obtain rfl : i = 8 := by omega
                            rfl
  | m + 1, i, fuel, hi, hf => by
    obtain ⟨f, rfl⟩ : ∃ f, fuel = f + 1 := ⟨fuel - 1, by omega⟩
    have hl := fewL_len s i
    have e8 : IntKind.wrap .u8 ((i : Int) + 1) = ((i + 1 : Nat) : Int) := by rw [wu8 (by omega) (by omega)]; rfl
    have es : fewL s (i + 1) = fewL s i ++ (if s.testBit i = true then [gF i] else []) := by
      unfold fewL
      rw [List.range_succ, List.filter_append, List.map_append]
      congr 1
      cases h : s.testBit i <;> simp [h]
    rw [parrellaw20_MissFew_l0, if_pos (by simp only [decide_eq_true_eq]; omega), if_pos (by omega), bitU s i hs (by omega), e8]
    have ih := few_loop s hs w mode m (i + 1) f (by omega) (by omega)
    rw [es] at ih
    rw [show f + 1 - (m + 1) = f - m by omega]
    cases h : s.testBit i with
    | true =>
      rw [h, if_pos rfl] at ih
      rw [if_pos rfl, if_pos (by simp only [List.length_singleton]; omega)]
      exact ih
    | false =>
      rw [h, if_neg Bool.false_ne_true, List.append_nil] at ih
      rw [if_neg Bool.false_ne_true]
      exact ih
theorem sumV_congr {c : T_api_Config} {a b : Nat} (h : ∀ i, i < 8 → a.testBit i = b.testBit i) : sumV c a = sumV c b := by
  simp only [sumV, show List.range 8 = [0, 1, 2, 3, 4, 5, 6, 7] from rfl, List.foldl]
  rw [h 0 (by omega), h 1 (by omega), h 2 (by omega), h 3 (by omega), h 4 (by omega), h 5 (by omega), h 6 (by omega), h 7 (by omega)]
def fewK (x : T_api_Write) (m : Int) (s : Nat) : T_miss_Lock := T_miss_Lock.mk x.f_Key m (fewL s 8)
theorem few_mem {x : T_api_Write} {m : Int} {s : Nat} {g : Gr} (h : g ∈ (abM (fewK x m s)).g) : ∃ n, n < 8 ∧ s.testBit n = true ∧ g = ((n : Int), T_api_Reg.mk 1 1) := by
  have h' : g ∈ (fewL s 8).map gM := h
  obtain ⟨y, hy, rfl⟩ := List.mem_map.1 h'
  obtain ⟨n, h1, h2, rfl⟩ := mem_fewL.1 hy
  exact ⟨n, h1, h2, rfl⟩
theorem few_wf {x : T_api_Write} (hx : WfW x) {m : Int} (hm : m = 1 ∨ m = 2) (s : Nat) : WfM (fewK x m s) := by
  refine ⟨⟨hx.k, ?_, fun g hg => ?_⟩, ?_⟩
  · show 0 ≤ m ∧ m < 256
    omega
  · obtain ⟨n, h1, _, rfl⟩ := few_mem hg
    exact ⟨⟨by show (0 : Int) ≤ (n : Int); omega, by show (n : Int) < 256; omega⟩, ⟨by show (0 : Int) ≤ 1 ∧ (1 : Int) < 4294967296; omega, by show (0 : Int) ≤ 1 ∧ (1 : Int) < 4294967296; omega⟩⟩
  · have := fewL_len s 8
    show (fewL s 8).length < _
    omega
theorem few_of {x : T_api_Write} {m : Int} {s i : Nat} : (ofA [abM (fewK x m s)] x.f_Key).testBit i = true ↔ m = 2 ∧ i < 8 ∧ s.testBit i = true := by
  rw [ofA_bit]
  constructor
  · rintro ⟨_, y, hy, _, h2, g, hg, e⟩
    rw [List.mem_singleton] at hy; subst hy
    obtain ⟨n, h3, h4, rfl⟩ := few_mem hg
    have e' : n = i := by simpa using e
    subst e'
    exact ⟨h2, h3, h4⟩
  · rintro ⟨h1, h2, h3⟩
    exact ⟨by omega, _, List.mem_singleton.2 rfl, rfl, h1, gM (gF i), List.mem_map.2 ⟨gF i, mem_fewL.2 ⟨i, h2, h3, rfl⟩, rfl⟩, by simp [gM, gF]⟩
theorem few_plan {x : T_api_Write} (hmw : mayW [x] = true) {m : Int} (hm : m = 1 ∨ m = 2) (s : Nat) :
    (planA [abM (fewK x m s)] [x]).2.2 = if m = 1 ∨ fewL s 8 = [] then 6 else if canW x.f_Item.f_Conf s = true then 0 else 16 := by
  have hk : mayK x.f_Key = true := by
    simp only [mayW, wGo, Bool.and_eq_true] at hmw
    exact hmw.1.1
  have hok : [abM (fewK x m s)].all okL = true := by
    simp only [List.all_cons, List.all_nil, Bool.and_true, okL, Bool.and_eq_true, List.all_eq_true]
    refine ⟨hk, ?_, fun g hg => ?_⟩
    · show (decide (m = 1) || decide (m = 2)) = true
      rcases hm with rfl | rfl <;> rfl
    · obtain ⟨n, h1, _, rfl⟩ := few_mem hg
      simp only [gotOK, Bool.and_eq_true, decide_eq_true_eq]
      exact ⟨by omega, by decide⟩
  have hc : clash (gots [abM (fewK x m s)]) = false := by
    cases hcl : clash (gots [abM (fewK x m s)]) with
    | false => rfl
    | true =>
      obtain ⟨a, ha, b, hb, _, ne⟩ := clash_iff.1 hcl
      obtain ⟨y, hy, ha2⟩ := mem_gots.1 ha
      obtain ⟨z, hz, hb2⟩ := mem_gots.1 hb
      rw [List.mem_singleton] at hy hz
      subst hy; subst hz
      obtain ⟨_, _, _, rfl⟩ := few_mem ha2
      obtain ⟨_, _, _, rfl⟩ := few_mem hb2
      exact absurd rfl ne
  unfold planA
  rw [hok, hmw, hc, if_neg (by simp), if_neg (by simp), if_neg (by simp)]
  simp only [List.any_cons, List.any_nil, Bool.or_false, decide_eq_true_eq, Bool.not_eq_true']
  by_cases h0 : m = 1 ∨ fewL s 8 = []
  · have hz : ofA [abM (fewK x m s)] x.f_Key = 0 := by
      refine ext_bit fun i => ?_
      rw [few_of, Nat.zero_testBit]
      constructor
      · rintro ⟨h1, h2, h3⟩
        rcases h0 with h0 | h0
        · omega
        · have : gF i ∈ fewL s 8 := mem_fewL.2 ⟨i, h2, h3, rfl⟩
          rw [h0] at this; cases this
      · intro h; cases h
    rw [if_pos hz, if_pos h0]
  · have h1 := not_or.1 h0
    have h2 : m = 2 := hm.resolve_left h1.1
    have hnz : ofA [abM (fewK x m s)] x.f_Key ≠ 0 := by
      intro hz
      obtain ⟨g, hg⟩ := List.exists_mem_of_ne_nil _ h1.2
      obtain ⟨n, g1, g2, rfl⟩ := mem_fewL.1 hg
      have := few_of (x := x).2 ⟨h2, g1, g2⟩
      rw [hz, Nat.zero_testBit] at this; cases this
    have hcw : canW x.f_Item.f_Conf (ofA [abM (fewK x m s)] x.f_Key) = canW x.f_Item.f_Conf s := by
      unfold canW
      rw [sumV_congr (a := ofA [abM (fewK x m s)] x.f_Key) (b := s) (fun i hi => Bool.eq_iff_iff.2 ⟨fun h => (few_of.1 h).2.2, fun h => few_of.2 ⟨h2, hi, h⟩⟩)]
    rw [if_neg hnz, if_neg h0, hcw]
    cases canW x.f_Item.f_Conf s <;> rfl
theorem few_eq {n mode : Int} {w : List T_api_Write} (hn : 0 ≤ n ∧ n < 18446744073709551616) (hmo : 0 ≤ mode ∧ mode < 256) (hw : WfWs w) : parrellaw20_MissFew n w mode = some true := by
  obtain ⟨f, hf1, hf2⟩ := far_eq (l := []) (w := w) (by simp) hw.len (fun x hx => by cases hx)
  unfold parrellaw20_MissFew
  rw [hf1, Option.bind_some]
  cases f with
  | true => exact alive_tail
  | false =>
    rw [if_neg Bool.false_ne_true]
    by_cases h1 : w.length = 1
    · rw [if_neg (by simp [h1]), refWritesMay_eq hw, Option.bind_some]
      cases hmw : mayW w with
      | false => exact alive_tail
      | true =>
        rw [if_neg (by simp)]
        obtain ⟨x, rfl⟩ : ∃ x, w = [x] := List.length_eq_one_iff.1 h1
        obtain ⟨s, rfl⟩ : ∃ s : Nat, n = (s : Int) := ⟨n.toNat, by omega⟩
        have hs : s < 18446744073709551616 := by omega
        have hx := hw.w x List.mem_cons_self
        have e0 : parrellaw20_MissFew_l0 (s : Int) [x] mode big 0 [] = parrellaw20_MissFew_l0 (s : Int) [x] mode (big - 8) 8 (fewL s 8) := few_loop s hs [x] mode 8 0 big (by omega) (big_lt (by omega))
        obtain ⟨g, hg⟩ : ∃ g, big - 8 = g + 1 := ⟨big - 8 - 1, by have := big_lt (n := 9) (by omega); omega⟩
        rw [e0, hg, parrellaw20_MissFew_l0, if_neg (by decide), if_pos (by simp)]
        have em : ∃ m : Int, (m = 1 ∨ m = 2) ∧ IntKind.wrap .u8 (Int.tmod mode 2 + 1) = m ∧ (m = 1 ↔ Int.tmod mode 2 = 0) := by
          have e2 : Int.tmod mode 2 = mode % 2 := Int.tmod_eq_emod_of_nonneg hmo.1
          rw [e2]
          refine ⟨mode % 2 + 1, by omega, wu8 (by omega) (by omega), by omega⟩
        obtain ⟨m, hm, em1, em2⟩ := em
        rw [em1]
        have hp : miss_Plan [T_miss_Lock.mk ([x].getD 0 default).f_Key m (fewL s 8)] [x] = some (toM (planA [abM (fewK x m s)] [x])) := plan_eq (l := [fewK x m s]) (by simp) (fun y hy => by rw [List.mem_singleton] at hy; subst hy; exact few_wf hx hm s) hw
        rw [hp, Option.bind_some]
        have he : (toM (planA [abM (fewK x m s)] [x])).2.2 = _ := few_plan hmw hm s
        rw [he]
        by_cases hm1 : m = 1
        · rw [if_pos (by rw [beq_iff_eq]; exact em2.1 hm1), if_pos (by rw [if_pos (.inl hm1)]; rfl)]; exact alive_tail
        · rw [if_neg (by rw [beq_iff_eq]; exact fun e => hm1 (em2.2 e))]
          by_cases hL : fewL s 8 = []
          · rw [if_pos (by simp [hL]), if_pos (by rw [if_pos (.inr hL)]; rfl)]; exact alive_tail
          · have hL2 : ¬ (fewL s 8).length = 0 := fun e => hL (List.length_eq_zero_iff.1 e)
            have hv : votes_Writes ([x].getD 0 default).f_Item.f_Conf (s : Int) = some (canW x.f_Item.f_Conf s) := writes_eq hx.i.c hs
            rw [if_neg (by rw [beq_iff_eq]; omega), if_neg (not_or.2 ⟨hm1, hL⟩), hv, Option.bind_some]
            cases canW x.f_Item.f_Conf s with
            | true => rw [if_neg (by simp), if_pos (by simp)]; exact alive_tail
            | false => rw [if_pos (by simp), if_pos (by simp)]; exact alive_tail
    · rw [if_pos (by simp; omega)]; exact alive_tail
theorem few_law (n : Int) (w : List T_api_Write) (mode : Int) (h0 : (Lit.int .u64 n).wf = true) (h1 : (∀ a ∈ w, wfL (c_T_api_Write a)) ∧ w.length * 48 ≤ 140737488351232) (h2 : (Lit.int .u8 mode).wf = true) : parrellaw20_MissFew n w mode = some true :=
  few_eq (wf_u64 h0) (wf_u8 h2) ⟨fun x hx => wfW_of (h1.1 x hx), h1.2⟩
end Go.Proofs.YtdjmfgknonkojaaDoor.Wk
