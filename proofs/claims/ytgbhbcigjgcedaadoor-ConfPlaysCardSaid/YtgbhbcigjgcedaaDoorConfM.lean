/- ConfPlays' law. -/
import Derived.Test.YtgbhbcigjgcedaaDoorConfN
set_option linter.unusedVariables false
set_option linter.unusedSimpArgs false
set_option linter.unusedSectionVars false
namespace Go.Proofs.YtgbhbcigjgcedaaDoor.Wk
open Go Go.Cn
open Go.Proofs.YtgbhbcigjgcedaaDoor.Ri (Rises pre suf at_ Pair)
structure WfA (a : T_parrellaw21_Act) : Prop where
  c : WfC a
  n : 0 ≤ a.f_Many ∧ a.f_Many < 256
theorem wfA_of {a : T_parrellaw21_Act} (h : wfL (c_T_parrellaw21_Act a)) : WfA a := by
  refine ⟨wfAct_of h, ?_⟩
  have e : c_T_parrellaw21_Act a = kc a.f_Key ++ (c_T_api_Config a.f_Conf ++ [.bool a.f_Next, .int .u8 a.f_Many]) := rfl
  rw [e] at h
  exact wf_u8 (h (.int .u8 a.f_Many) (List.mem_append_right _ (List.mem_append_right _ (by simp))))
theorem far_len (l : List T_api_Write) : ∃ b, parrellaw21_far l = some b ∧ (b = false → l.length ≤ 100) := by
  have hmin : (if 100 < (l.length : Int) then (100 : Int) else (l.length : Int)) = ((min l.length 100 : Nat) : Int) := by split <;> omega
  unfold parrellaw21_far
  rw [if_pos (by rw [hmin]; omega), parrellaw21_far_w0 l 0 (by rw [hmin, Int.toNat_natCast, List.length_take]; omega)]
  have : ∀ (y : List T_api_Write) (s : Int), ∃ b, walkL parrellaw21_far_b0 (parrellaw21_far_e0 l) y s = some b ∧ (b = false → l.length ≤ 100) := by
    intro y
    induction y with
    | nil =>
      intro s
      show ∃ b, parrellaw21_far_e0 l s = some b ∧ _
      unfold parrellaw21_far_e0
      split
      · exact ⟨_, rfl, fun h => by cases h⟩
      · exact ⟨_, rfl, fun h => by rw [decide_eq_false_iff_not] at h; omega⟩
    | cons w y ih => intro s; rw [walkL]; exact ih _
  exact this _ _
theorem tail_both {L : List Kn} {m : Bk} (h : Both L m) (k : A8 Int) (k_ : List Kn × Bk → Option Bool) :
    ((conf_Book_Of m k).bind fun y14 => (parrelref21_Book_Of ⟨L⟩ k).bind fun y16 => if (!decide (y14.1 = y16.1)) = true then some false else if (!(y14.2 == y16.2)) = true then some false else
      (conf_Book_Keys m).bind fun y20 => (parrelref21_Book_Keys ⟨L⟩).bind fun y22 => (parrellaw21_keys y20 y22).bind fun y24 => if (!y24) = true then some false else k_ (L, m)) = k_ (L, m) := by
  obtain ⟨r, r1, r2⟩ := of_both h k
  obtain ⟨q, q1, q2, q3⟩ := keys_both h
  rw [r1, r2, q1, q2]
  simp only [Option.bind_some]
  rw [keys_self q (by omega), if_neg (by simp), if_neg (by simp)]; rfl
theorem plays_b {L : List Kn} {m : Bk} (h : Both L m) (y : List T_parrellaw21_Act) (i : Nat) (ha : WfA (y.getD i default)) : ∃ L' m', Both L' m' ∧ ∀ k, parrellaw21_ConfPlays_b0 y i (L, m) k = k (L', m') := by
  generalize hA : y.getD i default = a at ha
  cases hn : a.f_Next with
  | true =>
    refine ⟨L, m, h, fun k => ?_⟩
    have t0 := Int.tmod_nonneg 10 ha.n.1
    have t1 := Int.tmod_lt_of_pos a.f_Many (b := 10) (by decide)
    have hv : ∀ x ∈ ([a.f_Conf.f_Votes.a0, a.f_Conf.f_Votes.a1, a.f_Conf.f_Votes.a2, a.f_Conf.f_Votes.a3, a.f_Conf.f_Votes.a4, a.f_Conf.f_Votes.a5, a.f_Conf.f_Votes.a6, a.f_Conf.f_Votes.a7] ++ [1] : List Int).take (Int.tmod a.f_Many 10).toNat, 0 ≤ x ∧ x < 256 := fun x hx => by
      have hx := List.mem_of_mem_take hx
      have g := ha.c.c.v
      have g0 := g 0 (by decide); have g1 := g 1 (by decide); have g2 := g 2 (by decide); have g3 := g 3 (by decide)
      have g4 := g 4 (by decide); have g5 := g 5 (by decide); have g6 := g 6 (by decide); have g7 := g 7 (by decide)
      simp only [A8.get] at g0 g1 g2 g3 g4 g5 g6 g7
      simp only [List.mem_append, List.mem_cons, List.not_mem_nil, or_false] at hx
      rcases hx with (rfl | rfl | rfl | rfl | rfl | rfl | rfl | rfl) | rfl <;> omega
    obtain ⟨q, q1, q2⟩ := next_both h a.f_Key ha.c.c.r ha.c.c.w hv (by rw [List.length_take]; simp; omega)
    unfold parrellaw21_ConfPlays_b0
    rw [hA, hn, if_pos rfl, if_pos (by simp), if_pos (by simp), if_pos (by simp; omega)]
    dsimp only
    rw [q1, q2, Option.bind_some, Option.bind_some, if_neg (by simp), if_neg (by simp)]
    exact tail_both h a.f_Key k
  | false =>
    obtain ⟨n, L', m', h1, h2, h3⟩ := learn_both h a.f_Key ha.c.c
    refine ⟨L', m', h3, fun k => ?_⟩
    unfold parrellaw21_ConfPlays_b0
    rw [hA, hn, if_neg Bool.false_ne_true]
    dsimp only
    rw [h1, h2, Option.bind_some, Option.bind_some, if_neg (by simp)]
    exact tail_both h3 a.f_Key k
theorem plays_eq (l : List T_api_Write) (s : List T_parrellaw21_Act) (hw : ∀ w ∈ l, WfW w) (hs : ∀ a ∈ s, WfA a) : parrellaw21_ConfPlays l s = some true := by
  obtain ⟨b, hb, hbl⟩ := far_len l
  unfold parrellaw21_ConfPlays
  rw [hb, Option.bind_some]
  cases b with
  | true => exact alive_tail
  | false =>
    rw [if_neg Bool.false_ne_true]
    rcases new_both l (hbl rfl) hw with ⟨h1, b, h2⟩ | ⟨L, m, h1, h2, h3⟩
    · rw [h1, Option.bind_some, if_pos rfl, h2, Option.bind_some, if_neg (by simp), if_neg (by simp), if_pos (by simp)]
      exact alive_tail
    · rw [h1, Option.bind_some, if_neg Bool.false_ne_true, h2, Option.bind_some, if_neg (by simp), if_neg (by simp), if_neg (by simp), short_eq, Option.bind_some, parrellaw21_ConfPlays_w0 _ _ _ (by rw [List.length_take]; omega)]
      have key : ∀ (c i : Nat) (L : List Kn) (m : Bk), i + c = (s.take (min s.length 60)).length → Both L m → walkN (parrellaw21_ConfPlays_b0 (s.take (min s.length 60))) parrellaw21_ConfPlays_e0 c i (L, m) = some true := by
        intro c
        induction c with
        | zero => intro i L m _ _; exact alive_tail
        | succ c ih =>
          intro i L m hi h
          obtain ⟨L', m', h', e⟩ := plays_b h (s.take (min s.length 60)) i (hs _ (List.mem_of_mem_take (getD_mem (by omega))))
          rw [walkN, e]
          exact ih (i + 1) L' m' (by omega) h'
      exact key _ 0 L m (by omega) h3
theorem plays_law (l : List T_api_Write) (s : List T_parrellaw21_Act) (h1 : (∀ a ∈ l, wfL (c_T_api_Write a)) ∧ l.length * 48 ≤ 140737488351232) (h2 : (∀ a ∈ s, wfL (c_T_parrellaw21_Act a)) ∧ s.length * 28 ≤ 140737488351232) : parrellaw21_ConfPlays l s = some true :=
  plays_eq l s (fun w hw => wfW_of (h1.1 w hw)) (fun a ha => wfA_of (h2.1 a ha))
end Go.Proofs.YtgbhbcigjgcedaaDoor.Wk
