/- Plain facts: no new line in a step's words; what may be is as it is kept. -/
import Derived.Test.YtdchgoaokceomaaDoorBacO
set_option linter.unusedVariables false
set_option linter.unusedSimpArgs false
set_option linter.unusedSectionVars false
namespace Go.Proofs.YtdchgoaokceomaaDoor.Wk
open Go Go.Cn
set_option maxRecDepth 10000
theorem dot_nn {v : Int} (h : 0 ≤ v) (h2 : v < 100000000000) : (10 : UInt8) ∉ D v := dg_no 10 (by unfold isDg; decide) h h2
theorem S_nn {v : Int} (h : -1 ≤ v) (h2 : v < 100000000000) : (10 : UInt8) ∉ S v := by
  unfold S; split
  · decide
  · exact dot_nn (by omega) h2
theorem H_nn (o : List UInt8) : (10 : UInt8) ∉ H o := by
  unfold H; split
  · decide
  · intro h
    have := hx_mem o 10 h
    revert this; decide
theorem N_nn (t : T_api_Tx) (h : WfT t) : (10 : UInt8) ∉ N t := by
  unfold N
  simp only [List.mem_append, not_or]
  exact ⟨⟨⟨⟨dot_nn h.a.1 (by have := h.a.2; omega), by decide⟩, dot_nn h.b.1 (by have := h.b.2; omega)⟩, by decide⟩, dot_nn h.c.1 (by have := h.c.2; omega)⟩
theorem CR_nn (c : T_parrelref27_Call) (h : WfC c) : ∀ x ∈ CR c, (10 : UInt8) ∉ x := by
  have n1 := N_nn _ h.tx
  have r1 := dot_nn h.r.1 (by have := h.r.2; omega)
  have w1 := dot_nn h.w.1 (by have := h.w.2; omega)
  unfold CR
  intro x hx
  split at hx
  · simp only [List.mem_cons, List.not_mem_nil, or_false] at hx; subst hx; decide
  split at hx
  · simp only [List.mem_cons, List.not_mem_nil, or_false] at hx; rcases hx with rfl | rfl | rfl; decide; exact n1; exact H_nn _
  split at hx
  · simp only [List.mem_cons, List.not_mem_nil, or_false] at hx; rcases hx with rfl | rfl | rfl | rfl; decide; exact n1; exact H_nn _; exact H_nn _
  split at hx
  · simp only [List.mem_cons, List.not_mem_nil, or_false] at hx; rcases hx with rfl | rfl; decide; exact n1
  split at hx
  · simp only [List.mem_cons, List.not_mem_nil, or_false] at hx; rcases hx with rfl | rfl; decide; exact n1
  · rcases List.mem_append.1 hx with hx | hx
    · simp only [List.mem_cons, List.not_mem_nil, or_false] at hx; rcases hx with rfl | rfl | rfl | rfl | rfl; decide; exact n1; exact H_nn _; exact r1; exact w1
    · rw [List.mem_map] at hx
      obtain ⟨v, hv, rfl⟩ := hx
      have := h.vt v hv
      exact dot_nn this.1 (by omega)
theorem TW_nn (g : T_parrelref27_Step) (ok : MayOK g) (wc : WfC g.f_Call) : ∀ x ∈ TW g, (10 : UInt8) ∉ x := by
  have nd := dot_nn ok.node.1 (by have := ok.node.2; omega)
  have wr := dot_nn ok.wire.1 (by have := ok.wire.2; omega)
  have to := dot_nn ok.to.1 (by have := ok.to.2; omega)
  have nn := S_nn ok.n.1 (by have := ok.n.2; omega)
  have cl := dot_nn wc.cl.1 (by have := wc.cl.2; omega)
  have sq := dot_nn wc.sq.1 (by have := wc.sq.2; omega)
  have cr := CR_nn _ wc
  unfold TW
  intro x hx
  split at hx
  · unfold CW at hx
    simp only [List.mem_cons] at hx
    rcases hx with rfl | rfl | rfl | rfl | hx
    · decide
    · exact nd
    · exact cl
    · exact sq
    · exact cr x hx
  split at hx
  · simp only [List.mem_cons, List.not_mem_nil, or_false] at hx; rcases hx with rfl | rfl; decide; exact wr
  split at hx
  · simp only [List.mem_cons, List.not_mem_nil, or_false] at hx; rcases hx with rfl | rfl; decide; exact wr
  split at hx
  · simp only [List.mem_cons, List.not_mem_nil, or_false] at hx; rcases hx with rfl | rfl; decide; exact wr
  split at hx
  · simp only [List.mem_cons, List.not_mem_nil, or_false] at hx; rcases hx with rfl | rfl; decide; exact wr
  split at hx
  · simp only [List.mem_cons, List.not_mem_nil, or_false] at hx; rcases hx with rfl | rfl; decide; exact nd
  split at hx
  · simp only [List.mem_cons, List.not_mem_nil, or_false] at hx; rcases hx with rfl | rfl; decide; exact nd
  split at hx
  · simp only [List.mem_cons, List.not_mem_nil, or_false] at hx
    rcases hx with rfl | rfl | rfl | rfl | rfl
    · decide
    · exact nd
    · exact nn
    · split <;> decide
    · exact H_nn _
  split at hx
  · simp only [List.mem_cons, List.not_mem_nil, or_false] at hx; rcases hx with rfl | rfl | rfl; decide; exact nd; exact nn
  · simp only [List.mem_cons, List.not_mem_nil, or_false] at hx; rcases hx with rfl | rfl | rfl | rfl; decide; exact nd; exact to; exact H_nn _
theorem J_nn (c : UInt8) (hc : c ≠ 32) : ∀ ws : List (List UInt8), (∀ w ∈ ws, c ∉ w) → c ∉ J ws
  | [], _ => by simp [J]
  | w :: ws, h => by
    rw [J, List.mem_append, List.mem_flatMap]
    rintro (h1 | ⟨x, hx, h1⟩)
    · exact h w (List.mem_cons_self ..) h1
    · rcases List.mem_append.1 h1 with h1 | h1
      · exact hc (List.mem_singleton.1 h1)
      · exact h x (List.mem_cons_of_mem _ hx) h1
theorem kept_wB (s r : T_parrelref27_Step) (h1 : 1 ≤ s.f_Kind) (h2 : s.f_Kind ≤ 10) (hv : wB s.f_Call.f_Votes) (hl : s.f_Call.f_Votes.length ≤ 300) (hb : wB s.f_Bytes) (hk : kept s = some r) : wB r.f_Bytes := by
  obtain ⟨k, n, w, m, ct, c, t, bs⟩ := s
  rcases kinds h1 h2 with h | h | h | h | h | h | h | h | h | h <;> (simp only at h; subst h)
  · obtain ⟨q, _, e2, _⟩ := pure_eq c hv hl
    have e : script_clean (toP ⟨1, n, w, m, ct, c, t, bs⟩) = some (toP ⟨1, n, 0, 0, false, q, 0, []⟩) := by
      show (script_pure (toC c)).bind _ = _
      rw [e2]; rfl
    unfold kept at hk
    rw [e] at hk
    cases (Option.some.inj hk); exact nB
  · have hk : some (T_parrelref27_Step.mk 2 0 w 0 false (T_parrelref27_Call.mk 0 0 0 ⟨0, 0, 0⟩ (A8.mk 0 0 0 0 0 0 0 0) [] 0 0 []) 0 []) = some r := hk
    cases (Option.some.inj hk); first | exact nB | exact hb
  · have hk : some (T_parrelref27_Step.mk 3 0 w 0 false (T_parrelref27_Call.mk 0 0 0 ⟨0, 0, 0⟩ (A8.mk 0 0 0 0 0 0 0 0) [] 0 0 []) 0 []) = some r := hk
    cases (Option.some.inj hk); first | exact nB | exact hb
  · have hk : some (T_parrelref27_Step.mk 4 0 w 0 false (T_parrelref27_Call.mk 0 0 0 ⟨0, 0, 0⟩ (A8.mk 0 0 0 0 0 0 0 0) [] 0 0 []) 0 []) = some r := hk
    cases (Option.some.inj hk); first | exact nB | exact hb
  · have hk : some (T_parrelref27_Step.mk 5 0 w 0 false (T_parrelref27_Call.mk 0 0 0 ⟨0, 0, 0⟩ (A8.mk 0 0 0 0 0 0 0 0) [] 0 0 []) 0 []) = some r := hk
    cases (Option.some.inj hk); first | exact nB | exact hb
  · have hk : some (T_parrelref27_Step.mk 6 n 0 0 false (T_parrelref27_Call.mk 0 0 0 ⟨0, 0, 0⟩ (A8.mk 0 0 0 0 0 0 0 0) [] 0 0 []) 0 []) = some r := hk
    cases (Option.some.inj hk); first | exact nB | exact hb
  · have hk : some (T_parrelref27_Step.mk 7 n 0 0 false (T_parrelref27_Call.mk 0 0 0 ⟨0, 0, 0⟩ (A8.mk 0 0 0 0 0 0 0 0) [] 0 0 []) 0 []) = some r := hk
    cases (Option.some.inj hk); first | exact nB | exact hb
  · have hk : some (T_parrelref27_Step.mk 8 n 0 m ct (T_parrelref27_Call.mk 0 0 0 ⟨0, 0, 0⟩ (A8.mk 0 0 0 0 0 0 0 0) [] 0 0 []) 0 bs) = some r := hk
    cases (Option.some.inj hk); first | exact nB | exact hb
  · have hk : some (T_parrelref27_Step.mk 9 n 0 m false (T_parrelref27_Call.mk 0 0 0 ⟨0, 0, 0⟩ (A8.mk 0 0 0 0 0 0 0 0) [] 0 0 []) 0 []) = some r := hk
    cases (Option.some.inj hk); first | exact nB | exact hb
  · have hk : some (T_parrelref27_Step.mk 10 n 0 0 false (T_parrelref27_Call.mk 0 0 0 ⟨0, 0, 0⟩ (A8.mk 0 0 0 0 0 0 0 0) [] 0 0 []) t bs) = some r := hk
    cases (Option.some.inj hk); first | exact nB | exact hb
/-- What may be is as it is kept. -/
theorem may_kept (s : T_parrelref27_Step) (hy : wfK s.f_Call.f_Key) (hv : wB s.f_Call.f_Votes) (hl : s.f_Call.f_Votes.length ≤ 300) (hb : wB s.f_Bytes) (hm : script_May (toP s) = some true) : MayOK s ∧ kept s = some s := by
  obtain ⟨m, e0, h⟩ := may_law s hy hv hl
  obtain rfl := Option.some.inj (e0.symm.trans hm)
  obtain ⟨ok, r, e1, e2, w1, w3⟩ := h rfl
  refine ⟨ok, ?_⟩
  have w2 := kept_wB s r ok.k1 ok.k2 hv hl hb e1
  obtain ⟨b, e3, q⟩ := same1 (toP r) (toP s) w1 hv w3
  obtain rfl := Option.some.inj (e3.symm.trans e2)
  obtain ⟨a1, a2, a3, a4, a5, a6, ⟨b1, b3, b4, b5, b6, b7, b8, b9⟩, a7⟩ := q.1 rfl
  have d9 := (strI_inj _ _ w1 hv).1 b9; clear b9
  have d7 := (strI_inj _ _ w2 hb).1 a7; clear a7
  have c1 := congrArg T_sess_Call.f_Client b1
  have c2 := congrArg T_sess_Call.f_Seq b1
  rw [e1]
  obtain ⟨k, n, w, m, ct, ⟨c1, c2, c3, c4, c5, c6, c7, c8, c9⟩, t, bs⟩ := r
  obtain ⟨k', n', w', m', ct', ⟨c1', c2', c3', c4', c5', c6', c7', c8', c9'⟩, t', bs'⟩ := s
  simp only [toP, toC] at a1 a2 a3 a4 a5 a6 d7 c1 c2 b3 b4 b5 b6 b7 b8 d9
  subst a1 a2 a3 a4 a5 a6 d7 c1 c2 b3 b4 b5 b6 b7 b8 d9
  rfl
/-- A step that may be. -/
structure Good (g : T_parrelref27_Step) : Prop where
  wf : WfS g
  wc : WfC g.f_Call
  ok : MayOK g
  k : kept g = some g
  m : script_May (toP g) = some true
theorem TW_len (g : T_parrelref27_Step) (h : Good g) : Sm (TW g) := by
  intro w hw
  have h1 := J_len g h.ok
  have : ∀ ws : List (List UInt8), w ∈ ws → w.length ≤ (J ws).length := by
    intro ws hw
    cases ws with
    | nil => cases hw
    | cons a ws =>
      rw [J, List.length_append]
      rcases List.mem_cons.1 hw with rfl | hw
      · omega
      · obtain ⟨x, y, rfl⟩ := List.append_of_mem hw
        rw [List.flatMap_append, List.flatMap_cons]
        simp only [List.length_append]; omega
  have := this _ hw
  omega
theorem line_good (g : T_parrelref27_Step) (h : Good g) : script_Line (toP g) = some (J (TW g), 0) := line_eq g h.wf h.ok h.m
theorem parse_good (g : T_parrelref27_Step) (h : Good g) : script_Parse (J (TW g)) = some (toP g, 0) := by
  have hl := J_len g h.ok
  have sp : strings_Split (J (TW g)) = some (spl 32 (J (TW g))) := splA_eq _ (by omega)
  unfold script_Parse
  rw [if_neg (by rw [decide_eq_true_eq]; omega), sp, Option.bind_some, spl_J g h.ok h.wc, stepA g h.ok h.k h.wc h.wf.bs, Option.bind_some]
  dsimp only
  rw [if_neg (by decide), if_neg (by simp), h.m, Option.bind_some]; rfl
theorem nl_good (g : T_parrelref27_Step) (h : Good g) : (10 : UInt8) ∉ J (TW g) := J_nn 10 (by decide) _ (TW_nn g h.ok h.wc)
theorem parse_tot (t : List UInt8) (hl : t.length ≤ 20000) : ∃ s e, script_Parse t = some (s, e) ∧ (e = 0 → ∃ g, Good g ∧ s = toP g ∧ t = J (TW g)) := by
  by_cases hb : 16384 < t.length
  · refine ⟨⟨0, 0, 0, 0, false, zC, 0, []⟩, 5, ?_, fun h => absurd h (by decide)⟩
    unfold script_Parse; rw [if_pos (by rw [decide_eq_true_eq]; omega)]; rfl
  have hS : Sm (spl 32 t) := fun w hw => by have := spl_len 32 t w hw; omega
  obtain ⟨s, l', b', e1, rd, hB⟩ := rstepB (spl 32 t) false hS
  have wv : (ofP s).f_Call.f_Votes.length ≤ 300 := by have h := rd.c.vl; have h : (ofP s).f_Call.f_Votes.length ≤ 9 := h; omega
  obtain ⟨m, m1, m2⟩ := may_law (ofP s) rd.c.ky rd.c.vt wv
  have m1 : script_May s = some m := m1
  have sp : strings_Split t = some (spl 32 t) := splA_eq t (by omega)
  have P : script_Parse t = if b' = true then script_Parse_c6 else if (decide (0 < (l'.length : Int))) = true then script_Parse_c6 else if (!m) = true then script_Parse_c6 else some (s, 0) := by
    unfold script_Parse
    rw [if_neg (by rw [decide_eq_true_eq]; omega), sp, Option.bind_some, e1, Option.bind_some]
    dsimp only
    rw [m1]; rfl
  by_cases hok : b' = false ∧ l' = [] ∧ m = true
  · obtain ⟨h1, h2, h3⟩ := hok
    subst h1; subst h2; subst h3
    have hw : spl 32 t = TW (ofP s) := by have := hB rfl; rwa [List.append_nil] at this
    obtain ⟨ok, hk⟩ := may_kept (ofP s) rd.c.ky rd.c.vt wv rd.b m1
    have tx := rd.c.tx
    refine ⟨s, 0, by rw [P]; rfl, fun _ => ⟨ofP s, ⟨⟨rd.c.cl, ⟨rd.c.sq.1, by have h := rd.c.sq.2; have h : (ofP s).f_Call.f_Seq ≤ 2147483647 := h; omega⟩, tx.a, ⟨tx.b.1, by have h := tx.b.2; have h : (ofP s).f_Call.f_Tx.f_Boot ≤ 2147483647 := h; omega⟩, ⟨tx.c.1, by have h := tx.c.2; have h : (ofP s).f_Call.f_Tx.f_Num ≤ 2147483647 := h; omega⟩, rd.c.r, rd.c.w, rd.c.ky, rd.c.vt, rd.b⟩, rd.c, ok, hk, m1⟩, rfl, by rw [← hw, J_spl]⟩⟩
  · refine ⟨⟨0, 0, 0, 0, false, zC, 0, []⟩, 3, ?_, fun h => absurd h (by decide)⟩
    rw [P]
    split
    · rfl
    split
    · rfl
    split
    · rfl
    · rename_i g1 g2 g3
      refine absurd ⟨by simpa using g1, ?_, by simpa using g3⟩ hok
      rw [decide_eq_true_eq] at g2
      exact List.length_eq_zero_iff.1 (by omega)
end Go.Proofs.YtdchgoaokceomaaDoor.Wk
