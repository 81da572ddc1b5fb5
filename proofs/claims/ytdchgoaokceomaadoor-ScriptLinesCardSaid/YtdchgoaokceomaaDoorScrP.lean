/- Plain facts: ScriptLines. -/
import Derived.Test.YtdchgoaokceomaaDoorScrL
set_option linter.unusedVariables false
set_option linter.unusedSimpArgs false
set_option linter.unusedSectionVars false
namespace Go.Proofs.YtdchgoaokceomaaDoor.Wk
open Go Go.Cn
set_option maxRecDepth 10000
set_option maxHeartbeats 2000000
theorem bytes_D (x : Int) (h : 0 ≤ x ∧ x < 256) : script_digits (IntKind.wrap .i64 x) = some (D x) := by rw [w64 (by omega) (by omega), sdig h.1 (by omega)]
theorem swords_loop (c : T_node_Call) (hw : wB ([c.f_R, c.f_W] ++ c.f_Votes)) (hl : c.f_Votes.length ≤ 100) : ∀ (fuel i : Nat) (l : List (List UInt8)), c.f_Votes.length + 2 < fuel + i → i ≤ c.f_Votes.length + 2 → l.length ≤ 100 + i →
    script_words_l0 c fuel (i : Int) l = some (l ++ (([c.f_R, c.f_W] ++ c.f_Votes).drop i).map D)
  | 0, i, l, h, hi, _ => by omega
  | fuel + 1, i, l, h, hi, hs => by
    have hL : ([c.f_R, c.f_W] ++ c.f_Votes).length = c.f_Votes.length + 2 := by simp
    rw [script_words_l0]
    by_cases hlt : i < c.f_Votes.length + 2
    · rw [if_pos (by rw [decide_eq_true_eq, hL]; omega), if_pos (by rw [hL]; omega), Int.toNat_natCast]
      have e1 := getD_drop ([c.f_R, c.f_W] ++ c.f_Votes) i default (by omega)
      have hm : ([c.f_R, c.f_W] ++ c.f_Votes).getD i default ∈ [c.f_R, c.f_W] ++ c.f_Votes := by
        rw [List.getD_eq_getElem?_getD, List.getElem?_eq_getElem (by omega)]; exact List.getElem_mem _
      rw [bytes_D _ (hw _ hm), Option.bind_some, if_pos (by simp only [List.length_cons, List.length_nil]; omega), w64 (by omega) (by omega)]
      rw [show ((i : Int) + 1) = ((i + 1 : Nat) : Int) from rfl, swords_loop c hw hl fuel (i + 1) _ (by omega) (by omega) (by simp; omega), e1, List.map_cons, List.append_assoc]; rfl
    · rw [if_neg (by rw [decide_eq_true_eq, hL]; omega), List.drop_eq_nil_of_le (by omega)]; simp
theorem rwords_loop (c : T_parrelref27_Call) (hw : wB c.f_Votes) (hl : c.f_Votes.length ≤ 100) : ∀ (fuel i : Nat) (s : List UInt8), c.f_Votes.length < fuel + i → i ≤ c.f_Votes.length → s.length ≤ 10000 + 20 * i →
    parrelref27_words_l0 c fuel s (i : Int) = some (s ++ (c.f_Votes.drop i).flatMap (fun v => [32] ++ D v))
  | 0, i, s, h, hi, _ => by omega
  | fuel + 1, i, s, h, hi, hs => by
    rw [parrelref27_words_l0]
    by_cases hlt : i < c.f_Votes.length
    · rw [if_pos (by rw [decide_eq_true_eq]; omega), if_pos (by omega), Int.toNat_natCast]
      have e1 := getD_drop c.f_Votes i default hlt
      have hm : c.f_Votes.getD i default ∈ c.f_Votes := by
        rw [List.getD_eq_getElem?_getD, List.getElem?_eq_getElem (by omega)]; exact List.getElem_mem _
      have hb := hw _ hm
      have hd := D_len (c.f_Votes.getD i default)
      rw [wu64 hb.1 (by omega), rdig hb.1 (by omega), Option.bind_some, if_pos (by simp only [List.length_cons, List.length_nil]; omega), if_pos (by simp only [List.length_append, List.length_cons, List.length_nil]; omega), w64 (by omega) (by omega)]
      rw [show ((i : Int) + 1) = ((i + 1 : Nat) : Int) from rfl, rwords_loop c hw hl fuel (i + 1) _ (by omega) (by omega) (by simp only [List.length_append, List.length_cons, List.length_nil]; omega), e1, List.flatMap_cons, List.append_assoc]
    · rw [if_neg (by rw [decide_eq_true_eq]; omega), List.drop_eq_nil_of_le (by omega)]; simp
theorem hk1 : script_hasKey 1 = some false := rfl
theorem hk2 : script_hasKey 2 = some true := rfl
theorem hk3 : script_hasKey 3 = some true := rfl
theorem hk4 : script_hasKey 4 = some false := rfl
theorem hk5 : script_hasKey 5 = some false := rfl
theorem hk6 : script_hasKey 6 = some true := rfl
theorem vl : ∀ l : List Int, (l.flatMap (fun v => [32] ++ D v)).length ≤ 12 * l.length
  | [] => by simp
  | x :: r => by
    have := vl r; have := D_len x
    rw [List.flatMap_cons]
    simp only [List.length_append, List.length_cons, List.length_nil]; omega
/-- The texts of a call's words. -/
def Joins (x : List (List UInt8)) (r : List UInt8) : Prop := ∃ v m, x = v :: m ∧ r = v ++ m.flatMap (([32] : List UInt8) ++ ·)
theorem words_law (s : T_parrelref27_Step) (wf : WfS s) (k1 : 1 ≤ s.f_Call.f_Kind) (k2 : s.f_Call.f_Kind ≤ 6) (hv : s.f_Call.f_Votes.length ≤ 8) (hl : s.f_Call.f_Value.length ≤ 64)
    (hk : (s.f_Call.f_Kind = 2 ∨ s.f_Call.f_Kind = 3 ∨ s.f_Call.f_Kind = 6) → mayK s.f_Call.f_Key = true) :
    ∃ x r, script_words (toC s.f_Call) = some (D s.f_Call.f_Client :: D s.f_Call.f_Seq :: x) ∧ parrelref27_words s.f_Call = some r ∧ Joins x r ∧ x.length ≤ 30 ∧ r.length ≤ 2000 := by
  have kk : ∀ {k : Int}, 1 ≤ k → k ≤ 6 → k = 1 ∨ k = 2 ∨ k = 3 ∨ k = 4 ∨ k = 5 ∨ k = 6 := fun a b => by omega
  have wcl := wf.cl; have wsq := wf.sq; have wr := wf.r; have ww := wf.w; have wv := wf.vt
  obtain ⟨n1, n2⟩ := name_eq s.f_Call.f_Tx wf.tn wf.tb wf.tm
  have nl := N_len s.f_Call.f_Tx
  have hky := wf.ky
  generalize hc : s.f_Call = c at *
  obtain ⟨cl, sq, k, tx, ky, v, r, w, vt⟩ := c
  simp only at *
  have d1 : script_digits (IntKind.wrap .i64 cl) = some (D cl) := bytes_D cl wcl
  have d2 : script_digits (IntKind.wrap .i64 sq) = some (D sq) := by rw [w64 (by omega) (by omega), sdig wsq.1 (by omega)]
  have dr : parrelref27_digits (IntKind.wrap .u64 r) = some (D r) := by rw [wu64 wr.1 (by omega), rdig wr.1 (by omega)]
  have dw : parrelref27_digits (IntKind.wrap .u64 w) = some (D w) := by rw [wu64 ww.1 (by omega), rdig ww.1 (by omega)]
  have lr := D_len r; have lw := D_len w
  have sv := shexs (b := v) (by omega); have rv := rhex (b := v) (by omega); have lv := H_len v
  rcases kk k1 k2 with rfl | rfl | rfl | rfl | rfl | rfl
  · refine ⟨[[98, 101, 103, 105, 110]], [98, 101, 103, 105, 110], ?_, ?_, ?_, ?_, ?_⟩
    · unfold script_words script_words_c7 script_calls
      simp only [toC]
      repeat (first | simp only [d1, d2, Option.bind_some, hk1] | rw [if_pos (by decide)] | rw [if_neg (by decide)] | rw [if_pos (by simp only [List.length_append, List.length_cons, List.length_nil]; omega)])
      try rfl
    · unfold parrelref27_words
      repeat (first | simp only [Option.bind_some] | rw [if_pos (by decide)] | rw [if_neg (by decide)] | rw [if_pos (by simp only [List.length_append, List.length_cons, List.length_nil]; omega)])
    · exact ⟨_, _, rfl, by simp⟩
    · simp
    · simp only [List.length_append, List.length_cons, List.length_nil]; omega
  · obtain ⟨t, t1, t2, t3⟩ := key_name ky hky (hk (by simp))
    have st := shexs (b := t) (by omega); have lt := H_len t
    refine ⟨[[114, 101, 97, 100], N tx, H t], [114, 101, 97, 100, 32] ++ N tx ++ [32] ++ H t, ?_, ?_, ?_, ?_, ?_⟩
    · unfold script_words script_words_c5 script_words_c16 script_calls
      simp only [toC]
      repeat (first | simp only [d1, d2, Option.bind_some, hk2, n1, t1, st] | rw [if_pos (by decide)] | rw [if_neg (by decide)] | rw [if_pos (by simp only [List.length_append, List.length_cons, List.length_nil]; omega)])
      try rfl
    · unfold parrelref27_words
      repeat (first | simp only [Option.bind_some, n2, t2] | rw [if_pos (by decide)] | rw [if_neg (by decide)] | rw [if_pos (by simp only [List.length_append, List.length_cons, List.length_nil]; omega)])
    · exact ⟨_, _, rfl, by simp⟩
    · simp
    · simp only [List.length_append, List.length_cons, List.length_nil]; omega
  · obtain ⟨t, t1, t2, t3⟩ := key_name ky hky (hk (by simp))
    have st := shexs (b := t) (by omega); have lt := H_len t
    refine ⟨[[119, 114, 105, 116, 101], N tx, H t, H v], [119, 114, 105, 116, 101, 32] ++ N tx ++ [32] ++ H t ++ [32] ++ H v, ?_, ?_, ?_, ?_, ?_⟩
    · unfold script_words script_words_c5 script_words_c16 script_calls
      simp only [toC]
      repeat (first | simp only [d1, d2, Option.bind_some, hk3, n1, t1, st, sv] | rw [if_pos (by decide)] | rw [if_neg (by decide)] | rw [if_pos (by simp only [List.length_append, List.length_cons, List.length_nil]; omega)])
      try rfl
    · unfold parrelref27_words
      repeat (first | simp only [Option.bind_some, n2, t2, rv] | rw [if_pos (by decide)] | rw [if_neg (by decide)] | rw [if_pos (by simp only [List.length_append, List.length_cons, List.length_nil]; omega)])
    · exact ⟨_, _, rfl, by simp⟩
    · simp
    · simp only [List.length_append, List.length_cons, List.length_nil]; omega
  · refine ⟨[[99, 111, 109, 109, 105, 116], N tx], [99, 111, 109, 109, 105, 116, 32] ++ N tx, ?_, ?_, ?_, ?_, ?_⟩
    · unfold script_words script_words_c7 script_calls
      simp only [toC]
      repeat (first | simp only [d1, d2, Option.bind_some, hk4, n1] | rw [if_pos (by decide)] | rw [if_neg (by decide)] | rw [if_pos (by simp only [List.length_append, List.length_cons, List.length_nil]; omega)])
      try rfl
    · unfold parrelref27_words
      repeat (first | simp only [Option.bind_some, n2] | rw [if_pos (by decide)] | rw [if_neg (by decide)] | rw [if_pos (by simp only [List.length_append, List.length_cons, List.length_nil]; omega)])
    · exact ⟨_, _, rfl, by simp⟩
    · simp
    · simp only [List.length_append, List.length_cons, List.length_nil]; omega
  · refine ⟨[[97, 98, 111, 114, 116], N tx], [97, 98, 111, 114, 116, 32] ++ N tx, ?_, ?_, ?_, ?_, ?_⟩
    · unfold script_words script_words_c7 script_calls
      simp only [toC]
      repeat (first | simp only [d1, d2, Option.bind_some, hk5, n1] | rw [if_pos (by decide)] | rw [if_neg (by decide)] | rw [if_pos (by simp only [List.length_append, List.length_cons, List.length_nil]; omega)])
      try rfl
    · unfold parrelref27_words
      repeat (first | simp only [Option.bind_some, n2] | rw [if_pos (by decide)] | rw [if_neg (by decide)] | rw [if_pos (by simp only [List.length_append, List.length_cons, List.length_nil]; omega)])
    · exact ⟨_, _, rfl, by simp⟩
    · simp
    · simp only [List.length_append, List.length_cons, List.length_nil]; omega
  · obtain ⟨t, t1, t2, t3⟩ := key_name ky hky (hk (by simp))
    have st := shexs (b := t) (by omega); have lt := H_len t
    refine ⟨([[99, 104, 97, 110, 103, 101], N tx, H t, D r, D w] ++ vt.map D), ([99, 104, 97, 110, 103, 101, 32] ++ N tx ++ [32] ++ H t ++ [32] ++ D r ++ [32] ++ D w) ++ vt.flatMap (fun v => [32] ++ D v), ?_, ?_, ?_, ?_, ?_⟩
    · show script_words ⟨⟨cl, sq⟩, 6, tx, ky, v, r, w, vt⟩ = _
      unfold script_words script_words_c5 script_words_c11 script_calls
      repeat (first | simp only [d1, d2, Option.bind_some, hk6, n1, t1, st] | rw [if_pos (by rfl)] | rw [if_neg (by exact Bool.false_ne_true)] | rw [if_pos (by decide)] | rw [if_pos (by simp only [List.length_append, List.length_cons, List.length_nil]; omega)])
      have e := swords_loop ⟨⟨cl, sq⟩, 6, tx, ky, v, r, w, vt⟩ (by intro x hx; simp only [List.mem_append, List.mem_cons, List.not_mem_nil, or_false] at hx; rcases hx with (rfl | rfl) | hx; exact wr; exact ww; exact wv x hx) (by show vt.length ≤ 100; omega) big 0
      refine (e _ ?_ (by omega) ?_).trans ?_
      · have := big_lt (n := 1000) (by omega); show vt.length + 2 < _; omega
      · show 5 ≤ 100 + 0; omega
      · rfl
    · unfold parrelref27_words
      repeat (first | simp only [Option.bind_some, n2, t2, dr, dw] | rw [if_pos (by decide)] | rw [if_neg (by decide)] | rw [if_pos (by simp only [List.length_append, List.length_cons, List.length_nil]; omega)])
      unfold parrelref27_words_c13
      exact (rwords_loop ⟨cl, sq, 6, tx, ky, v, r, w, vt⟩ wv (by show vt.length ≤ 100; omega) big 0 _ (by have := big_lt (n := 1000) (by omega); show vt.length < _; omega) (by omega) (by simp only [List.length_append, List.length_cons, List.length_nil]; omega)).trans (by simp)
    · exact ⟨_, _, rfl, by simp [List.flatMap_map]⟩
    · simp; omega
    · have := vl vt; simp only [List.length_append, List.length_cons, List.length_nil]; omega

theorem two (a b : List UInt8) : (0 : Int) ≤ 1 ∧ (1 : Int) < ((([a, b] : List (List UInt8)).length : Nat) : Int) := by simp
theorem vbs : script_verbs = some ([[], ([100, 111] : List UInt8), ([100, 101, 108, 105, 118, 101, 114] : List UInt8), ([100, 114, 111, 112] : List UInt8), ([116, 119, 105, 99, 101] : List UInt8), ([108, 97, 116, 101] : List UInt8), ([116, 105, 99, 107] : List UInt8), ([99, 114, 97, 115, 104] : List UInt8), ([115, 116, 97, 114, 116] : List UInt8), ([97, 114, 109] : List UInt8), ([105, 110, 106, 101, 99, 116] : List UInt8)] : List (List UInt8)) := rfl
theorem vb1 : ([[], ([100, 111] : List UInt8), ([100, 101, 108, 105, 118, 101, 114] : List UInt8), ([100, 114, 111, 112] : List UInt8), ([116, 119, 105, 99, 101] : List UInt8), ([108, 97, 116, 101] : List UInt8), ([116, 105, 99, 107] : List UInt8), ([99, 114, 97, 115, 104] : List UInt8), ([115, 116, 97, 114, 116] : List UInt8), ([97, 114, 109] : List UInt8), ([105, 110, 106, 101, 99, 116] : List UInt8)] : List (List UInt8)).getD (Int.toNat 1) default = [100, 111] := rfl
theorem vb2 : ([[], ([100, 111] : List UInt8), ([100, 101, 108, 105, 118, 101, 114] : List UInt8), ([100, 114, 111, 112] : List UInt8), ([116, 119, 105, 99, 101] : List UInt8), ([108, 97, 116, 101] : List UInt8), ([116, 105, 99, 107] : List UInt8), ([99, 114, 97, 115, 104] : List UInt8), ([115, 116, 97, 114, 116] : List UInt8), ([97, 114, 109] : List UInt8), ([105, 110, 106, 101, 99, 116] : List UInt8)] : List (List UInt8)).getD (Int.toNat 2) default = [100, 101, 108, 105, 118, 101, 114] := rfl
theorem vb3 : ([[], ([100, 111] : List UInt8), ([100, 101, 108, 105, 118, 101, 114] : List UInt8), ([100, 114, 111, 112] : List UInt8), ([116, 119, 105, 99, 101] : List UInt8), ([108, 97, 116, 101] : List UInt8), ([116, 105, 99, 107] : List UInt8), ([99, 114, 97, 115, 104] : List UInt8), ([115, 116, 97, 114, 116] : List UInt8), ([97, 114, 109] : List UInt8), ([105, 110, 106, 101, 99, 116] : List UInt8)] : List (List UInt8)).getD (Int.toNat 3) default = [100, 114, 111, 112] := rfl
theorem vb4 : ([[], ([100, 111] : List UInt8), ([100, 101, 108, 105, 118, 101, 114] : List UInt8), ([100, 114, 111, 112] : List UInt8), ([116, 119, 105, 99, 101] : List UInt8), ([108, 97, 116, 101] : List UInt8), ([116, 105, 99, 107] : List UInt8), ([99, 114, 97, 115, 104] : List UInt8), ([115, 116, 97, 114, 116] : List UInt8), ([97, 114, 109] : List UInt8), ([105, 110, 106, 101, 99, 116] : List UInt8)] : List (List UInt8)).getD (Int.toNat 4) default = [116, 119, 105, 99, 101] := rfl
theorem vb5 : ([[], ([100, 111] : List UInt8), ([100, 101, 108, 105, 118, 101, 114] : List UInt8), ([100, 114, 111, 112] : List UInt8), ([116, 119, 105, 99, 101] : List UInt8), ([108, 97, 116, 101] : List UInt8), ([116, 105, 99, 107] : List UInt8), ([99, 114, 97, 115, 104] : List UInt8), ([115, 116, 97, 114, 116] : List UInt8), ([97, 114, 109] : List UInt8), ([105, 110, 106, 101, 99, 116] : List UInt8)] : List (List UInt8)).getD (Int.toNat 5) default = [108, 97, 116, 101] := rfl
theorem vb6 : ([[], ([100, 111] : List UInt8), ([100, 101, 108, 105, 118, 101, 114] : List UInt8), ([100, 114, 111, 112] : List UInt8), ([116, 119, 105, 99, 101] : List UInt8), ([108, 97, 116, 101] : List UInt8), ([116, 105, 99, 107] : List UInt8), ([99, 114, 97, 115, 104] : List UInt8), ([115, 116, 97, 114, 116] : List UInt8), ([97, 114, 109] : List UInt8), ([105, 110, 106, 101, 99, 116] : List UInt8)] : List (List UInt8)).getD (Int.toNat 6) default = [116, 105, 99, 107] := rfl
theorem vb7 : ([[], ([100, 111] : List UInt8), ([100, 101, 108, 105, 118, 101, 114] : List UInt8), ([100, 114, 111, 112] : List UInt8), ([116, 119, 105, 99, 101] : List UInt8), ([108, 97, 116, 101] : List UInt8), ([116, 105, 99, 107] : List UInt8), ([99, 114, 97, 115, 104] : List UInt8), ([115, 116, 97, 114, 116] : List UInt8), ([97, 114, 109] : List UInt8), ([105, 110, 106, 101, 99, 116] : List UInt8)] : List (List UInt8)).getD (Int.toNat 7) default = [99, 114, 97, 115, 104] := rfl
theorem vb8 : ([[], ([100, 111] : List UInt8), ([100, 101, 108, 105, 118, 101, 114] : List UInt8), ([100, 114, 111, 112] : List UInt8), ([116, 119, 105, 99, 101] : List UInt8), ([108, 97, 116, 101] : List UInt8), ([116, 105, 99, 107] : List UInt8), ([99, 114, 97, 115, 104] : List UInt8), ([115, 116, 97, 114, 116] : List UInt8), ([97, 114, 109] : List UInt8), ([105, 110, 106, 101, 99, 116] : List UInt8)] : List (List UInt8)).getD (Int.toNat 8) default = [115, 116, 97, 114, 116] := rfl
theorem vb9 : ([[], ([100, 111] : List UInt8), ([100, 101, 108, 105, 118, 101, 114] : List UInt8), ([100, 114, 111, 112] : List UInt8), ([116, 119, 105, 99, 101] : List UInt8), ([108, 97, 116, 101] : List UInt8), ([116, 105, 99, 107] : List UInt8), ([99, 114, 97, 115, 104] : List UInt8), ([115, 116, 97, 114, 116] : List UInt8), ([97, 114, 109] : List UInt8), ([105, 110, 106, 101, 99, 116] : List UInt8)] : List (List UInt8)).getD (Int.toNat 9) default = [97, 114, 109] := rfl
theorem vb10 : ([[], ([100, 111] : List UInt8), ([100, 101, 108, 105, 118, 101, 114] : List UInt8), ([100, 114, 111, 112] : List UInt8), ([116, 119, 105, 99, 101] : List UInt8), ([108, 97, 116, 101] : List UInt8), ([116, 105, 99, 107] : List UInt8), ([99, 114, 97, 115, 104] : List UInt8), ([115, 116, 97, 114, 116] : List UInt8), ([97, 114, 109] : List UInt8), ([105, 110, 106, 101, 99, 116] : List UInt8)] : List (List UInt8)).getD (Int.toNat 10) default = [105, 110, 106, 101, 99, 116] := rfl
theorem line_law (s : T_parrelref27_Step) (wf : WfS s) (hl : s.f_Call.f_Votes.length ≤ 300) : ∃ y, script_Line (toP s) = some y ∧ parrelref27_Line s = some y := by
  obtain ⟨m, e1, e2, hm⟩ := may_law s wf.ky wf.vt hl
  cases m
  · unfold script_Line parrelref27_Line
    rw [e1, e2]
    exact ⟨_, rfl, rfl⟩
  have ok := hm rfl
  have nd := ok.node; have wr := ok.wire; have to := ok.to; have nn := ok.n; have by_ := ok.bytes
  have s1 := sdig nd.1 (by omega); have s2 := sdig wr.1 (by omega); have s3 := sdig to.1 (by omega); have s4 := ssig nn.1 (by omega)
  have r1 := rdig nd.1 (by omega); have r2 := rdig wr.1 (by omega); have r3 := rdig to.1 (by omega); have r4 := rsig nn.1 (by omega)
  have q1 := wu64 nd.1 (by omega); have q2 := wu64 wr.1 (by omega); have q3 := wu64 to.1 (by omega)
  have l1 := D_len s.f_Node; have l2 := D_len s.f_Wire; have l3 := D_len s.f_To; have l4 := S_len s.f_N
  have s5 := shexb wf.bs (by omega); have l5 := H_len (strI s.f_Bytes)
  have hsb : (strI s.f_Bytes).length = s.f_Bytes.length := by simp [strI]
  have r5 := rhex (b := strI s.f_Bytes) (by omega)
  have kk := kinds ok.k1 ok.k2
  have wl := fun h => words_law s wf (ok.call h).1 (ok.call h).2.1 (ok.call h).2.2.1 (ok.call h).2.2.2 (ok.key h)
  have wcl := wf.cl; have wsq := wf.sq
  have lc1 := D_len s.f_Call.f_Client; have lc2 := D_len s.f_Call.f_Seq
  have r6 := rdig wcl.1 (by omega); have r7 := rdig wsq.1 (by omega)
  have q6 := wu64 wcl.1 (by omega); have q7 := wu64 wsq.1 (by omega)
  clear hm ok hl wf
  obtain ⟨k, n, w, m, ct, c, t, bs⟩ := s
  simp only at *
  rcases kk with rfl | rfl | rfl | rfl | rfl | rfl | rfl | rfl | rfl | rfl
  · obtain ⟨x, r, x1, x2, x3, x4, x5⟩ := wl rfl
    refine ⟨([100, 111, 32] ++ D n ++ [32] ++ D c.f_Client ++ [32] ++ D c.f_Seq ++ [32] ++ r, 0), ?_, ?_⟩
    · have e1 : script_May ⟨1, n, w, m, ct, toC c, t, bs⟩ = some true := e1
      have ej : Lib.join ([[100, 111], D n] ++ (D c.f_Client :: D c.f_Seq :: x)) [32] = [100, 111, 32] ++ D n ++ [32] ++ D c.f_Client ++ [32] ++ D c.f_Seq ++ [32] ++ r := by
        obtain ⟨v, mm, rfl, rfl⟩ := x3
        show Lib.join ([100, 111] :: _) [32] = _
        rw [join_eq]; simp
      show script_Line ⟨1, n, w, m, ct, toC c, t, bs⟩ = _
      unfold script_Line script_Line_c6
      repeat (first | simp only [e1, vbs, vb1, s1, x1, ej, Option.bind_some] | rw [if_pos (by rfl)] | rw [if_neg (by exact Bool.false_ne_true)] | rw [if_pos (by decide)] | rw [if_pos (by simp only [List.length_append, List.length_cons, List.length_nil]; omega)])
    · unfold parrelref27_Line parrelref27_Line_c6
      repeat (first | simp only [e2, q1, q2, q3, q6, q7, r1, r2, r3, r4, r5, r6, r7, x2, Option.bind_some] | rw [if_pos (by rfl)] | rw [if_neg (by exact Bool.false_ne_true)] | rw [if_pos (by decide)] | rw [if_pos (two _ _)] | rw [if_pos (by simp only [join_eq, List.flatMap_cons, List.flatMap_nil, List.length_append, List.length_cons, List.length_nil, List.length_set, List.set_cons_succ, List.set_cons_zero, List.cons_append, List.nil_append]; omega)])
  · refine ⟨([100, 101, 108, 105, 118, 101, 114, 32] ++ D w, 0), ?_, ?_⟩
    · have e1 : script_May ⟨2, n, w, m, ct, toC c, t, bs⟩ = some true := e1
      show script_Line ⟨2, n, w, m, ct, toC c, t, bs⟩ = _
      unfold script_Line script_Line_c7 script_Line_c21 script_Line_c1021 script_Line_c2021 script_Line_c3021 script_Line_c4021 script_Line_c5021 script_Line_c6021
      repeat (first | simp only [e1, vbs, vb2, s1, s2, s3, s4, s5, Option.bind_some] | rw [if_pos (by rfl)] | rw [if_neg (by exact Bool.false_ne_true)] | rw [if_pos (by decide)] | rw [if_pos (two _ _)] | rw [if_pos (by simp only [join_eq, List.flatMap_cons, List.flatMap_nil, List.length_append, List.length_cons, List.length_nil, List.length_set, List.set_cons_succ, List.set_cons_zero, List.cons_append, List.nil_append]; omega)])
      simp [join_eq]
      try omega
    · unfold parrelref27_Line parrelref27_Line_c7
      repeat (first | simp only [e2, q1, q2, q3, r1, r2, r3, r4, r5, Option.bind_some] | rw [if_pos (by rfl)] | rw [if_neg (by exact Bool.false_ne_true)] | rw [if_pos (by decide)] | rw [if_pos (two _ _)] | rw [if_pos (by simp only [join_eq, List.flatMap_cons, List.flatMap_nil, List.length_append, List.length_cons, List.length_nil, List.length_set, List.set_cons_succ, List.set_cons_zero, List.cons_append, List.nil_append]; omega)])
      try simp
  · refine ⟨([100, 114, 111, 112, 32] ++ D w, 0), ?_, ?_⟩
    · have e1 : script_May ⟨3, n, w, m, ct, toC c, t, bs⟩ = some true := e1
      show script_Line ⟨3, n, w, m, ct, toC c, t, bs⟩ = _
      unfold script_Line script_Line_c7 script_Line_c21 script_Line_c1021 script_Line_c2021 script_Line_c3021 script_Line_c4021 script_Line_c5021 script_Line_c6021
      repeat (first | simp only [e1, vbs, vb3, s1, s2, s3, s4, s5, Option.bind_some] | rw [if_pos (by rfl)] | rw [if_neg (by exact Bool.false_ne_true)] | rw [if_pos (by decide)] | rw [if_pos (two _ _)] | rw [if_pos (by simp only [join_eq, List.flatMap_cons, List.flatMap_nil, List.length_append, List.length_cons, List.length_nil, List.length_set, List.set_cons_succ, List.set_cons_zero, List.cons_append, List.nil_append]; omega)])
      simp [join_eq]
      try omega
    · unfold parrelref27_Line parrelref27_Line_c7
      repeat (first | simp only [e2, q1, q2, q3, r1, r2, r3, r4, r5, Option.bind_some] | rw [if_pos (by rfl)] | rw [if_neg (by exact Bool.false_ne_true)] | rw [if_pos (by decide)] | rw [if_pos (two _ _)] | rw [if_pos (by simp only [join_eq, List.flatMap_cons, List.flatMap_nil, List.length_append, List.length_cons, List.length_nil, List.length_set, List.set_cons_succ, List.set_cons_zero, List.cons_append, List.nil_append]; omega)])
      try simp
  · refine ⟨([116, 119, 105, 99, 101, 32] ++ D w, 0), ?_, ?_⟩
    · have e1 : script_May ⟨4, n, w, m, ct, toC c, t, bs⟩ = some true := e1
      show script_Line ⟨4, n, w, m, ct, toC c, t, bs⟩ = _
      unfold script_Line script_Line_c7 script_Line_c21 script_Line_c1021 script_Line_c2021 script_Line_c3021 script_Line_c4021 script_Line_c5021 script_Line_c6021
      repeat (first | simp only [e1, vbs, vb4, s1, s2, s3, s4, s5, Option.bind_some] | rw [if_pos (by rfl)] | rw [if_neg (by exact Bool.false_ne_true)] | rw [if_pos (by decide)] | rw [if_pos (two _ _)] | rw [if_pos (by simp only [join_eq, List.flatMap_cons, List.flatMap_nil, List.length_append, List.length_cons, List.length_nil, List.length_set, List.set_cons_succ, List.set_cons_zero, List.cons_append, List.nil_append]; omega)])
      simp [join_eq]
      try omega
    · unfold parrelref27_Line parrelref27_Line_c7
      repeat (first | simp only [e2, q1, q2, q3, r1, r2, r3, r4, r5, Option.bind_some] | rw [if_pos (by rfl)] | rw [if_neg (by exact Bool.false_ne_true)] | rw [if_pos (by decide)] | rw [if_pos (two _ _)] | rw [if_pos (by simp only [join_eq, List.flatMap_cons, List.flatMap_nil, List.length_append, List.length_cons, List.length_nil, List.length_set, List.set_cons_succ, List.set_cons_zero, List.cons_append, List.nil_append]; omega)])
      try simp
  · refine ⟨([108, 97, 116, 101, 32] ++ D w, 0), ?_, ?_⟩
    · have e1 : script_May ⟨5, n, w, m, ct, toC c, t, bs⟩ = some true := e1
      show script_Line ⟨5, n, w, m, ct, toC c, t, bs⟩ = _
      unfold script_Line script_Line_c7 script_Line_c21 script_Line_c1021 script_Line_c2021 script_Line_c3021 script_Line_c4021 script_Line_c5021 script_Line_c6021
      repeat (first | simp only [e1, vbs, vb5, s1, s2, s3, s4, s5, Option.bind_some] | rw [if_pos (by rfl)] | rw [if_neg (by exact Bool.false_ne_true)] | rw [if_pos (by decide)] | rw [if_pos (two _ _)] | rw [if_pos (by simp only [join_eq, List.flatMap_cons, List.flatMap_nil, List.length_append, List.length_cons, List.length_nil, List.length_set, List.set_cons_succ, List.set_cons_zero, List.cons_append, List.nil_append]; omega)])
      simp [join_eq]
      try omega
    · unfold parrelref27_Line parrelref27_Line_c7
      repeat (first | simp only [e2, q1, q2, q3, r1, r2, r3, r4, r5, Option.bind_some] | rw [if_pos (by rfl)] | rw [if_neg (by exact Bool.false_ne_true)] | rw [if_pos (by decide)] | rw [if_pos (two _ _)] | rw [if_pos (by simp only [join_eq, List.flatMap_cons, List.flatMap_nil, List.length_append, List.length_cons, List.length_nil, List.length_set, List.set_cons_succ, List.set_cons_zero, List.cons_append, List.nil_append]; omega)])
      try simp
  · refine ⟨([116, 105, 99, 107, 32] ++ D n, 0), ?_, ?_⟩
    · have e1 : script_May ⟨6, n, w, m, ct, toC c, t, bs⟩ = some true := e1
      show script_Line ⟨6, n, w, m, ct, toC c, t, bs⟩ = _
      unfold script_Line script_Line_c7 script_Line_c21 script_Line_c1021 script_Line_c2021 script_Line_c3021 script_Line_c4021 script_Line_c5021 script_Line_c6021
      repeat (first | simp only [e1, vbs, vb6, s1, s2, s3, s4, s5, Option.bind_some] | rw [if_pos (by rfl)] | rw [if_neg (by exact Bool.false_ne_true)] | rw [if_pos (by decide)] | rw [if_pos (two _ _)] | rw [if_pos (by simp only [join_eq, List.flatMap_cons, List.flatMap_nil, List.length_append, List.length_cons, List.length_nil, List.length_set, List.set_cons_succ, List.set_cons_zero, List.cons_append, List.nil_append]; omega)])
      simp [join_eq]
      try omega
    · unfold parrelref27_Line parrelref27_Line_c7
      repeat (first | simp only [e2, q1, q2, q3, r1, r2, r3, r4, r5, Option.bind_some] | rw [if_pos (by rfl)] | rw [if_neg (by exact Bool.false_ne_true)] | rw [if_pos (by decide)] | rw [if_pos (two _ _)] | rw [if_pos (by simp only [join_eq, List.flatMap_cons, List.flatMap_nil, List.length_append, List.length_cons, List.length_nil, List.length_set, List.set_cons_succ, List.set_cons_zero, List.cons_append, List.nil_append]; omega)])
      try simp
  · refine ⟨([99, 114, 97, 115, 104, 32] ++ D n, 0), ?_, ?_⟩
    · have e1 : script_May ⟨7, n, w, m, ct, toC c, t, bs⟩ = some true := e1
      show script_Line ⟨7, n, w, m, ct, toC c, t, bs⟩ = _
      unfold script_Line script_Line_c7 script_Line_c21 script_Line_c1021 script_Line_c2021 script_Line_c3021 script_Line_c4021 script_Line_c5021 script_Line_c6021
      repeat (first | simp only [e1, vbs, vb7, s1, s2, s3, s4, s5, Option.bind_some] | rw [if_pos (by rfl)] | rw [if_neg (by exact Bool.false_ne_true)] | rw [if_pos (by decide)] | rw [if_pos (two _ _)] | rw [if_pos (by simp only [join_eq, List.flatMap_cons, List.flatMap_nil, List.length_append, List.length_cons, List.length_nil, List.length_set, List.set_cons_succ, List.set_cons_zero, List.cons_append, List.nil_append]; omega)])
      simp [join_eq]
      try omega
    · unfold parrelref27_Line parrelref27_Line_c7
      repeat (first | simp only [e2, q1, q2, q3, r1, r2, r3, r4, r5, Option.bind_some] | rw [if_pos (by rfl)] | rw [if_neg (by exact Bool.false_ne_true)] | rw [if_pos (by decide)] | rw [if_pos (two _ _)] | rw [if_pos (by simp only [join_eq, List.flatMap_cons, List.flatMap_nil, List.length_append, List.length_cons, List.length_nil, List.length_set, List.set_cons_succ, List.set_cons_zero, List.cons_append, List.nil_append]; omega)])
      try simp
  · cases ct
    · refine ⟨([115, 116, 97, 114, 116, 32] ++ D n ++ [32] ++ S m ++ [32, 119, 104, 111, 108, 101, 32] ++ H (strI bs), 0), ?_, ?_⟩
      · have e1 : script_May ⟨8, n, w, m, false, toC c, t, bs⟩ = some true := e1
        show script_Line ⟨8, n, w, m, false, toC c, t, bs⟩ = _
        unfold script_Line script_Line_c7 script_Line_c21 script_Line_c1021 script_Line_c2021 script_Line_c3021 script_Line_c4021 script_Line_c5021 script_Line_c6021
        repeat (first | simp only [e1, vbs, vb8, s1, s2, s3, s4, s5, Option.bind_some] | rw [if_pos (by rfl)] | rw [if_neg (by exact Bool.false_ne_true)] | rw [if_pos (by decide)] | rw [if_pos (two _ _)] | rw [if_pos (by simp only [join_eq, List.flatMap_cons, List.flatMap_nil, List.length_append, List.length_cons, List.length_nil, List.length_set, List.set_cons_succ, List.set_cons_zero, List.cons_append, List.nil_append]; omega)])
        simp [join_eq]
        try omega
      · unfold parrelref27_Line parrelref27_Line_c7
        repeat (first | simp only [e2, q1, q2, q3, r1, r2, r3, r4, r5, Option.bind_some] | rw [if_pos (by rfl)] | rw [if_neg (by exact Bool.false_ne_true)] | rw [if_pos (by decide)] | rw [if_pos (two _ _)] | rw [if_pos (by simp only [join_eq, List.flatMap_cons, List.flatMap_nil, List.length_append, List.length_cons, List.length_nil, List.length_set, List.set_cons_succ, List.set_cons_zero, List.cons_append, List.nil_append]; omega)])
        try simp
    · refine ⟨([115, 116, 97, 114, 116, 32] ++ D n ++ [32] ++ S m ++ [32, 99, 117, 116, 32] ++ H (strI bs), 0), ?_, ?_⟩
      · have e1 : script_May ⟨8, n, w, m, true, toC c, t, bs⟩ = some true := e1
        show script_Line ⟨8, n, w, m, true, toC c, t, bs⟩ = _
        unfold script_Line script_Line_c7 script_Line_c21 script_Line_c1021 script_Line_c2021 script_Line_c3021 script_Line_c4021 script_Line_c5021 script_Line_c6021
        repeat (first | simp only [e1, vbs, vb8, s1, s2, s3, s4, s5, Option.bind_some] | rw [if_pos (by rfl)] | rw [if_neg (by exact Bool.false_ne_true)] | rw [if_pos (by decide)] | rw [if_pos (two _ _)] | rw [if_pos (by simp only [join_eq, List.flatMap_cons, List.flatMap_nil, List.length_append, List.length_cons, List.length_nil, List.length_set, List.set_cons_succ, List.set_cons_zero, List.cons_append, List.nil_append]; omega)])
        simp [join_eq]
        try omega
      · unfold parrelref27_Line parrelref27_Line_c7
        repeat (first | simp only [e2, q1, q2, q3, r1, r2, r3, r4, r5, Option.bind_some] | rw [if_pos (by rfl)] | rw [if_neg (by exact Bool.false_ne_true)] | rw [if_pos (by decide)] | rw [if_pos (two _ _)] | rw [if_pos (by simp only [join_eq, List.flatMap_cons, List.flatMap_nil, List.length_append, List.length_cons, List.length_nil, List.length_set, List.set_cons_succ, List.set_cons_zero, List.cons_append, List.nil_append]; omega)])
        try simp
  · refine ⟨([97, 114, 109, 32] ++ D n ++ [32] ++ S m, 0), ?_, ?_⟩
    · have e1 : script_May ⟨9, n, w, m, ct, toC c, t, bs⟩ = some true := e1
      show script_Line ⟨9, n, w, m, ct, toC c, t, bs⟩ = _
      unfold script_Line script_Line_c7 script_Line_c21 script_Line_c1021 script_Line_c2021 script_Line_c3021 script_Line_c4021 script_Line_c5021 script_Line_c6021
      repeat (first | simp only [e1, vbs, vb9, s1, s2, s3, s4, s5, Option.bind_some] | rw [if_pos (by rfl)] | rw [if_neg (by exact Bool.false_ne_true)] | rw [if_pos (by decide)] | rw [if_pos (two _ _)] | rw [if_pos (by simp only [join_eq, List.flatMap_cons, List.flatMap_nil, List.length_append, List.length_cons, List.length_nil, List.length_set, List.set_cons_succ, List.set_cons_zero, List.cons_append, List.nil_append]; omega)])
      simp [join_eq]
      try omega
    · unfold parrelref27_Line parrelref27_Line_c7
      repeat (first | simp only [e2, q1, q2, q3, r1, r2, r3, r4, r5, Option.bind_some] | rw [if_pos (by rfl)] | rw [if_neg (by exact Bool.false_ne_true)] | rw [if_pos (by decide)] | rw [if_pos (two _ _)] | rw [if_pos (by simp only [join_eq, List.flatMap_cons, List.flatMap_nil, List.length_append, List.length_cons, List.length_nil, List.length_set, List.set_cons_succ, List.set_cons_zero, List.cons_append, List.nil_append]; omega)])
      try simp
  · refine ⟨([105, 110, 106, 101, 99, 116, 32] ++ D n ++ [32] ++ D t ++ [32] ++ H (strI bs), 0), ?_, ?_⟩
    · have e1 : script_May ⟨10, n, w, m, ct, toC c, t, bs⟩ = some true := e1
      show script_Line ⟨10, n, w, m, ct, toC c, t, bs⟩ = _
      unfold script_Line script_Line_c7 script_Line_c21 script_Line_c1021 script_Line_c2021 script_Line_c3021 script_Line_c4021 script_Line_c5021 script_Line_c6021
      repeat (first | simp only [e1, vbs, vb10, s1, s2, s3, s4, s5, Option.bind_some] | rw [if_pos (by rfl)] | rw [if_neg (by exact Bool.false_ne_true)] | rw [if_pos (by decide)] | rw [if_pos (two _ _)] | rw [if_pos (by simp only [join_eq, List.flatMap_cons, List.flatMap_nil, List.length_append, List.length_cons, List.length_nil, List.length_set, List.set_cons_succ, List.set_cons_zero, List.cons_append, List.nil_append]; omega)])
      simp [join_eq]
      try omega
    · unfold parrelref27_Line parrelref27_Line_c7
      repeat (first | simp only [e2, q1, q2, q3, r1, r2, r3, r4, r5, Option.bind_some] | rw [if_pos (by rfl)] | rw [if_neg (by exact Bool.false_ne_true)] | rw [if_pos (by decide)] | rw [if_pos (two _ _)] | rw [if_pos (by simp only [join_eq, List.flatMap_cons, List.flatMap_nil, List.length_append, List.length_cons, List.length_nil, List.length_set, List.set_cons_succ, List.set_cons_zero, List.cons_append, List.nil_append]; omega)])
      try simp

theorem alive_eq : parrellaw27_alive = some true := by kernel_rfl
theorem long_eq (s : T_parrelref27_Step) : ∃ b, parrellaw27_long s = some b ∧ (b = false → s.f_Call.f_Votes.length ≤ 300) := by
  unfold parrellaw27_long
  simp only [iteD]
  refine ⟨_, rfl, fun h => ?_⟩
  simp only [Bool.or_eq_false_iff, Bool.and_eq_false_iff, Bool.not_eq_false', decide_eq_true_eq, decide_eq_false_iff_not] at h
  simp only [Bool.not_eq_eq_eq_not, Bool.not_false, decide_eq_true_eq, Bool.true_eq_false, or_false] at h
  omega
theorem lines_law0 (a b : T_parrelref27_Step) (wa : WfS a) (wb : wB b.f_Call.f_Votes) : parrellaw27_ScriptLines a b = some true := by
  unfold parrellaw27_ScriptLines
  obtain ⟨x, e1, h1⟩ := long_eq a
  obtain ⟨y, e2, h2⟩ := long_eq b
  rw [e1, alive_eq]
  cases x
  · rw [e2]
    cases y
    · have l1 := h1 rfl
      obtain ⟨l, e3, e4⟩ := line_law a wa l1
      obtain ⟨m, e5, e6, _⟩ := may_law a wa.ky wa.vt l1
      obtain ⟨r, e7, e8⟩ := same_eq a b wa.vt wb l1
      simp only [Option.bind_some, theirs_eq, e3, e4, Bool.false_eq_true, if_false]
      unfold parrellaw27_ScriptLines_c5
      simp only [Option.bind_some, theirs_eq, e5, e6, e7, e8, alive_eq, BEq.rfl, if_true]
    · rfl
  · rfl
def wsC (s : T_parrelref27_Call) : Prop := (wfL ((cInt .u8) s.f_Client)) ∧ (wfL ((cInt .u32) s.f_Seq)) ∧ (wfL ((cInt .u8) s.f_Kind)) ∧ (wfL [.int .u8 s.f_Tx.f_Node, .int .u32 s.f_Tx.f_Boot, .int .u32 s.f_Tx.f_Num]) ∧ (wfL (kc s.f_Key)) ∧ (wfL ((fun z_ : List UInt8 => [LV.str z_]) s.f_Value)) ∧ (wfL ((cInt .u8) s.f_R)) ∧ (wfL ((cInt .u8) s.f_W)) ∧ ((∀ a ∈ s.f_Votes, (wfL ((cInt .u8) a))) ∧ s.f_Votes.length * 1 ≤ 140737488351232) ∧ True
def wsS (s : T_parrelref27_Step) : Prop := (wfL ((cInt .u8) s.f_Kind)) ∧ (wfL ((cInt .i64) s.f_Node)) ∧ (wfL ((cInt .i64) s.f_Wire)) ∧ (wfL ((cInt .i64) s.f_N)) ∧ (wfL ((fun z_ : Bool => [LV.bool z_]) s.f_Cut)) ∧ (wsC s.f_Call) ∧ (wfL ((cInt .i64) s.f_To)) ∧ ((∀ a ∈ s.f_Bytes, (wfL ((cInt .u8) a))) ∧ s.f_Bytes.length * 1 ≤ 140737488351232) ∧ True
theorem one8 {x : Int} (h : wfL ((cInt .u8) x)) : 0 ≤ x ∧ x < 256 := wf_u8 (h _ (List.mem_cons_self ..))
theorem one32 {x : Int} (h : wfL ((cInt .u32) x)) : 0 ≤ x ∧ x < 4294967296 := wf_u32 (h _ (List.mem_cons_self ..))
theorem wfS_of (s : T_parrelref27_Step) (h : wsS s) : WfS s := by
  obtain ⟨_, _, _, _, _, ⟨c1, c2, _, c4, c5, _, c7, c8, ⟨c9, _⟩, _⟩, _, ⟨b, _⟩, _⟩ := h
  exact ⟨one8 c1, one32 c2, wf_u8 (c4 _ (by simp)), wf_u32 (c4 _ (by simp)), wf_u32 (c4 _ (by simp)), one8 c7, one8 c8, wfK_of _ c5, fun x hx => one8 (c9 x hx), fun x hx => one8 (b x hx)⟩
theorem lines_law (a b : T_parrelref27_Step) (ha : wsS a) (hb : wsS b) : parrellaw27_ScriptLines a b = some true := lines_law0 a b (wfS_of a ha) (wfS_of b hb).vt
end Go.Proofs.YtdchgoaokceomaaDoor.Wk
