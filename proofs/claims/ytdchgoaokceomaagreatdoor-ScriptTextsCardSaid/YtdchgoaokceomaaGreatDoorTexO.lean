import Derived.Test.YtdchgoaokceomaaGreatDoorTexM
set_option linter.unusedVariables false
set_option linter.unusedSimpArgs false
set_option linter.unusedSectionVars false
namespace Go.Proofs.YtdchgoaokceomaaGreatDoor.Wk
open Go Go.Cn
set_option maxRecDepth 10000
set_option maxHeartbeats 2000000
theorem bytes_D (x : Int) (h : 0 ≤ x ∧ x < 256) : script_digits (IntKind.wrap .i64 x) = some (D x) := by rw [w64 (by omega) (by omega), sdig h.1 (by omega)]
theorem swords_loop (c : TN) (hw : wB ([c.f_R, c.f_W] ++ c.f_Votes)) (hl : c.f_Votes.length ≤ 100) : ∀ (fuel i : Nat) (l : List (List UInt8)), c.f_Votes.length + 2 < fuel + i → i ≤ c.f_Votes.length + 2 → l.length ≤ 100 + i →
  script_words_l0 c fuel (i : Int) l = some (l ++ (([c.f_R, c.f_W] ++ c.f_Votes).drop i).map D)
 | 0, i, l, h, hi, _ => by omega
 | fuel + 1, i, l, h, hi, hs => by
  have hL : ([c.f_R, c.f_W] ++ c.f_Votes).length = c.f_Votes.length + 2 := by simp
  rw [script_words_l0]
  by_cases hlt : i < c.f_Votes.length + 2
  ·rw [if_pos (by rw [decide_eq_true_eq, hL]; omega), if_pos (by rw [hL]; omega), Int.toNat_natCast]
   have e1 := getD_drop ([c.f_R, c.f_W] ++ c.f_Votes) i default (by omega)
   have hm : ([c.f_R, c.f_W] ++ c.f_Votes).getD i default ∈ [c.f_R, c.f_W] ++ c.f_Votes := by
    rw [List.getD_eq_getElem?_getD, List.getElem?_eq_getElem (by omega)]; exact List.getElem_mem _
   rw [bytes_D _ (hw _ hm), Option.bind_some, if_pos (by simp only [List.length_cons, List.length_nil]; omega), w64 (by omega) (by omega)]
   rw [show ((i : Int) + 1) = ((i + 1 : Nat) : Int) from rfl, swords_loop c hw hl fuel (i + 1) _ (by omega) (by omega) (by simp; omega), e1, List.map_cons, List.append_assoc]; rfl
  ·rw [if_neg (by rw [decide_eq_true_eq, hL]; omega), List.drop_eq_nil_of_le (by omega)]; simp
theorem hk1 : script_hasKey 1 = some false := rfl
theorem hk2 : script_hasKey 2 = some true := rfl
theorem hk3 : script_hasKey 3 = some true := rfl
theorem hk4 : script_hasKey 4 = some false := rfl
theorem hk5 : script_hasKey 5 = some false := rfl
theorem hk6 : script_hasKey 6 = some true := rfl
theorem key_nameP (k : A8 Int) (h : wfK k) (hm : mayK k = true) : ∃ t, ids_Name k = some (t, true) ∧ K k = H t ∧ t.length ≤ 8 := by
 obtain ⟨t, a, he, ht⟩ := split0 8 (kb k) (kb_len k)
 obtain ⟨s', e1, _⟩ := mayK_eq k h
 have n1 := name1 k h t a he ht
 have hlen := kb_len k
 rw [he] at hlen
 simp only [List.length_append, List.length_replicate] at hlen
 by_cases hc : t = [] ∨ (0 : UInt8) ∈ t
 ·rw [if_pos hc, e1, hm] at n1
  simp at n1
 ·rw [if_neg hc] at n1
  have hk : pad t = k := by rw [← pad_app t a, ← he, pad_kb k h]
  exact ⟨t, n1, KN_K ⟨fun e => hc (.inl e), by omega, fun e => hc (.inr e), hk.symm⟩, by omega⟩
theorem words_law (s : T_r27_Step) (wf : WfS s) (k1 : 1 ≤ s.f_Call.f_Kind) (k2 : s.f_Call.f_Kind ≤ 6) (hv : s.f_Call.f_Votes.length ≤ 8) (hl : s.f_Call.f_Value.length ≤ 64)
  (hk : (s.f_Call.f_Kind = 2 ∨ s.f_Call.f_Kind = 3 ∨ s.f_Call.f_Kind = 6) → mayK s.f_Call.f_Key = true) :
  script_words (toC s.f_Call) = some (CW s.f_Call) := by
 have kk : ∀ {k : Int}, 1 ≤ k → k ≤ 6 → k = 1 ∨ k = 2 ∨ k = 3 ∨ k = 4 ∨ k = 5 ∨ k = 6 := fun a b => by omega
 have wcl := wf.cl; have wsq := wf.sq; have wr := wf.r; have ww := wf.w; have wv := wf.vt
 have n1 := name_eq s.f_Call.f_Tx wf.tn wf.tb wf.tm
 have nl := N_len s.f_Call.f_Tx
 have hky := wf.ky
 generalize hc : s.f_Call = c at *
 obtain ⟨cl, sq, k, tx, ky, v, r, w, vt⟩ := c
 simp only at *
 have d1 : script_digits (IntKind.wrap .i64 cl) = some (D cl) := bytes_D cl wcl
 have d2 : script_digits (IntKind.wrap .i64 sq) = some (D sq) := by rw [w64 (by omega) (by omega), sdig wsq.1 (by omega)]
 have lr := D_len r; have lw := D_len w
 have sv := shexs (b := v) (by omega)
 rcases kk k1 k2 with rfl | rfl | rfl | rfl | rfl | rfl
 ·show _ = some (D cl :: D sq :: [[98, 101, 103, 105, 110]])
  unfold script_words script_words_c7 script_calls
  simp only [toC]
  repeat (first | simp only [d1, d2, Option.bind_some, hk1] | rw [if_pos (by decide)] | rw [if_neg (by decide)] | rw [if_pos (by simp only [List.length_append, List.length_cons, List.length_nil]; omega)])
  try rfl
 ·obtain ⟨t, t1, t2, t3⟩ := key_nameP ky hky (hk (by simp))
  have st := shexs (b := t) (by omega)
  show _ = some (D cl :: D sq :: [[114, 101, 97, 100], N tx, K ky])
  rw [t2]
  unfold script_words script_words_c5 script_words_c16 script_calls
  simp only [toC]
  repeat (first | simp only [d1, d2, Option.bind_some, hk2, n1, t1, st] | rw [if_pos (by decide)] | rw [if_neg (by decide)] | rw [if_pos (by simp only [List.length_append, List.length_cons, List.length_nil]; omega)])
  try rfl
 ·obtain ⟨t, t1, t2, t3⟩ := key_nameP ky hky (hk (by simp))
  have st := shexs (b := t) (by omega)
  show _ = some (D cl :: D sq :: [[119, 114, 105, 116, 101], N tx, K ky, H v])
  rw [t2]
  unfold script_words script_words_c5 script_words_c16 script_calls
  simp only [toC]
  repeat (first | simp only [d1, d2, Option.bind_some, hk3, n1, t1, st, sv] | rw [if_pos (by decide)] | rw [if_neg (by decide)] | rw [if_pos (by simp only [List.length_append, List.length_cons, List.length_nil]; omega)])
  try rfl
 ·show _ = some (D cl :: D sq :: [[99, 111, 109, 109, 105, 116], N tx])
  unfold script_words script_words_c7 script_calls
  simp only [toC]
  repeat (first | simp only [d1, d2, Option.bind_some, hk4, n1] | rw [if_pos (by decide)] | rw [if_neg (by decide)] | rw [if_pos (by simp only [List.length_append, List.length_cons, List.length_nil]; omega)])
  try rfl
 ·show _ = some (D cl :: D sq :: [[97, 98, 111, 114, 116], N tx])
  unfold script_words script_words_c7 script_calls
  simp only [toC]
  repeat (first | simp only [d1, d2, Option.bind_some, hk5, n1] | rw [if_pos (by decide)] | rw [if_neg (by decide)] | rw [if_pos (by simp only [List.length_append, List.length_cons, List.length_nil]; omega)])
  try rfl
 ·obtain ⟨t, t1, t2, t3⟩ := key_nameP ky hky (hk (by simp))
  have st := shexs (b := t) (by omega)
  show _ = some (D cl :: D sq :: ([[99, 104, 97, 110, 103, 101], N tx, K ky, D r, D w] ++ vt.map D))
  rw [t2]
  show script_words ⟨⟨cl, sq⟩, 6, tx, ky, v, r, w, vt⟩ = _
  unfold script_words script_words_c5 script_words_c11 script_calls
  repeat (first | simp only [d1, d2, Option.bind_some, hk6, n1, t1, st] | rw [if_pos (by rfl)] | rw [if_neg (by exact Bool.false_ne_true)] | rw [if_pos (by decide)] | rw [if_pos (by simp only [List.length_append, List.length_cons, List.length_nil]; omega)])
  have e := swords_loop ⟨⟨cl, sq⟩, 6, tx, ky, v, r, w, vt⟩ (by intro x hx; simp only [List.mem_append, List.mem_cons, List.not_mem_nil, or_false] at hx; rcases hx with (rfl | rfl) | hx; exact wr; exact ww; exact wv x hx) (by show vt.length ≤ 100; omega) big 0
  refine (e _ ?_ (by omega) ?_).trans ?_
  ·have := big_lt (n := 1000) (by omega); show vt.length + 2 < _; omega
  ·show 5 ≤ 100 + 0; omega
  ·rfl
theorem two (a b : List UInt8) : (0 : Int) ≤ 1 ∧ (1 : Int) < ((([a, b] : List (List UInt8)).length : Nat) : Int) := by simp
theorem vbs : script_verbs = some ([[], ([100, 111] : List UInt8), ([100, 101, 108, 105, 118, 101, 114] : List UInt8), ([100, 114, 111, 112] : List UInt8), ([116, 119, 105, 99, 101] : List UInt8), ([108, 97, 116, 101] : List UInt8), ([116, 105, 99, 107] : List UInt8), ([99, 114, 97, 115, 104] : List UInt8), ([115, 116, 97, 114, 116] : List UInt8), ([97, 114, 109] : List UInt8), ([105, 110, 106, 101, 99, 116] : List UInt8)] : List (List UInt8)) := rfl
theorem vb1 : ([[], ([100, 111] : List UInt8), ([100, 101, 108, 105, 118, 101, 114] : List UInt8), ([100, 114, 111, 112] : List UInt8), ([116, 119, 105, 99, 101] : List UInt8), ([108, 97, 116, 101] : List UInt8), ([116, 105, 99, 107] : List UInt8), ([99, 114, 97, 115, 104] : List UInt8), ([115, 116, 97, 114, 116] : List UInt8), ([97, 114, 109] : List UInt8), ([105, 110, 106, 101, 99, 116] : List UInt8)] : List (List UInt8)).getD (Int.toNat 1) default = [100, 111] := rfl
theorem vb2 : ([[], ([100, 111] : List UInt8), ([100, 101, 108, 105, 118, 101, 114] : List UInt8), ([100, 114, 111, 112] : List UInt8), ([116, 119, 105, 99, 101] : List UInt8), ([108, 97, 116, 101] : List UInt8), ([116, 105, 99, 107] : List UInt8), ([99, 114, 97, 115, 104] : List UInt8), ([115, 116, 97, 114, 116] : List UInt8), ([97, 114, 109] : List UInt8), ([105, 110, 106, 101, 99, 116] : List UInt8)] : List (List UInt8)).getD (Int.toNat 2) default = [100, 101, 108, 105, 118, 101, 114] := rfl
theorem vb3 : ([[], ([100, 111] : List UInt8), ([100, 101, 108, 105, 118, 101, 114] : List UInt8), ([100, 114, 111, 112] : List UInt8), ([116, 119, 105, 99, 101] : List UInt8), ([108, 97, 116, 101] : List UInt8), ([116, 105, 99, 107] : List UInt8), ([99, 114, 97, 115, 104] : List UInt8), ([115, 116, 97, 114, 116] : List UInt8), ([97, 114, 109] : List UInt8), ([105, 110, 106, 101, 99, 116] : List UInt8)] : List (List UInt8)).getD (Int.toNat 3) default = [100, 114, 111, 112] := rfl
theorem vb4 : ([[], ([100, 111] : List UInt8), ([100, 101, 108, 105, 118, 101, 114] : List UInt8), ([100, 114, 111, 112] : List UInt8), ([116, 119, 105, 99, 101] : List UInt8), ([108, 97, 116, 101] : List UInt8), ([116, 105, 99, 107] : List UInt8), ([99, 114, 97, 115, 104] : List UInt8), ([115, 116, 97, 114, 116] : List UInt8), ([97, 114, 109] : List UInt8), ([105, 110, 106, 101, 99, 116] : List UInt8)] : List (List UInt8)).getD (Int.toNat 4) default = [116, 119, 105, 99, 101] := rfl
theorem vb5 : ([[], ([100, 111] : List UInt8), ([100, 101, 108, 105, 118, 101, 114] : List UInt8), ([100, 114, 111, 112] : List UInt8), ([116, 119, 105, 99, 101] : List UInt8), ([108, 97, 116, 101] : List UInt8), ([116, 105, 99, 107] : List UInt8), ([99, 114, 97, 115, 104] : List UInt8), ([115, 116, 97, 114, 116] : List UInt8), ([97, 114, 109] : List UInt8), ([105, 110, 106, 101, 99, 116] : List UInt8)] : List (List UInt8)).getD (Int.toNat 5) default = [108, 97, 116, 101] := rfl
theorem vb6 : ([[], ([100, 111] : List UInt8), ([100, 101, 108, 105, 118, 101, 114] : List UInt8), ([100, 114, 111, 112] : List UInt8), ([116, 119, 105, 99, 101] : List UInt8), ([108, 97, 116, 101] : List UInt8), ([116, 105, 99, 107] : List UInt8), ([99, 114, 97, 115, 104] : List UInt8), ([115, 116, 97, 114, 116] : List UInt8), ([97, 114, 109] : List UInt8), ([105, 110, 106, 101, 99, 116] : List UInt8)] : List (List UInt8)).getD (Int.toNat 6) default = [116, 105, 99, 107] := rfl
theorem vb7 : ([[], ([100, 111] : List UInt8), ([100, 101, 108, 105, 118, 101, 114] : List UInt8), ([100, 114, 111, 112] : List UInt8), ([116, 119, 105, 99, 101] : List UInt8), ([108, 97, 116, 101] : List UInt8), ([116, 105, 99, 107] : List UInt8), ([99, 114, 97, 115, 104] : List UInt8), ([115, 116, 97, 114, 116] : List UInt8), ([97, 114, 109] : List UInt8), ([105, 110, 106, 101, 99, 116] : List UInt8)] : List (List UInt8)).getD (Int.toNat 7) default = [99, 114, 97, 115, 104] := rfl
theorem vb8 : ([[], ([100, 111] : List UInt8), ([100, 101, 108, 105, 118, 101, 114] : List UInt8), ([100, 114, 111, 112] : List UInt8), ([116, 119, 105, 99, 101] : List UInt8), ([108, 97, 116, 101] : List UInt8), ([116, 105, 99, 107] : List UInt8), ([99, 114, 97, 115, 104] : List UInt8), ([115, 116, 97, 114, 116] : List UInt8), ([97, 114, 109] : List UInt8), ([105, 110, 106, 101, 99, 116] : List UInt8)] : List (List UInt8)).getD (Int.toNat 8) default = [115, 116, 97, 114, 116] := rfl
theorem vb9 : ([[], ([100, 111] : List UInt8), ([100, 101, 108, 105, 118, 101, 114] : List UInt8), ([100, 114, 111, 112] : List UInt8), ([116, 119, 105, 99, 101] : List UInt8), ([108, 97, 116, 101] : List UInt8), ([116, 105, 99, 107] : List UInt8), ([99, 114, 97, 115, 104] : List UInt8), ([115, 116, 97, 114, 116] : List UInt8), ([97, 114, 109] : List UInt8), ([105, 110, 106, 101, 99, 116] : List UInt8)] : List (List UInt8)).getD (Int.toNat 9) default = [97, 114, 109] := rfl
theorem vb10 : ([[], ([100, 111] : List UInt8), ([100, 101, 108, 105, 118, 101, 114] : List UInt8), ([100, 114, 111, 112] : List UInt8), ([116, 119, 105, 99, 101] : List UInt8), ([108, 97, 116, 101] : List UInt8), ([116, 105, 99, 107] : List UInt8), ([99, 114, 97, 115, 104] : List UInt8), ([115, 116, 97, 114, 116] : List UInt8), ([97, 114, 109] : List UInt8), ([105, 110, 106, 101, 99, 116] : List UInt8)] : List (List UInt8)).getD (Int.toNat 10) default = [105, 110, 106, 101, 99, 116] := rfl
theorem J_le : ∀ (ws : List (List UInt8)), (J ws).length ≤ (ws.map fun w => w.length + 1).sum
 | [] => by simp [J]
 | w :: ws => by
  have : ∀ l : List (List UInt8), (l.flatMap (([32] : List UInt8) ++ ·)).length = (l.map fun w => w.length + 1).sum := by
   intro l
   induction l with
   | nil => rfl
   | cons a l ih => rw [List.flatMap_cons, List.length_append, ih, List.map_cons, List.sum_cons]; simp
  rw [J, List.length_append, this, List.map_cons, List.sum_cons]; omega
theorem vt_sum : ∀ l : List Int, ((l.map D).map fun w => w.length + 1).sum ≤ 12 * l.length
 | [] => by simp
 | x :: l => by
  have := vt_sum l; have := D_len x
  simp only [List.map_cons, List.sum_cons, List.length_cons]; omega
theorem K_len (k : A8 Int) : (K k).length ≤ 17 := by
 have h := H_len ((kb k).takeWhile (· != 0))
 have h2 : ((kb k).takeWhile (· != 0)).length ≤ 8 := by rw [← kb_len k]; exact (List.takeWhile_sublist _).length_le
 unfold K; omega
theorem CW_sum (c : T_r27_Call) (hv : c.f_Votes.length ≤ 8) (hl : c.f_Value.length ≤ 64) : ((CW c).map fun w => w.length + 1).sum ≤ 1000 := by
 have a := D_len c.f_Client; have b := D_len c.f_Seq; have n := N_len c.f_Tx; have k := K_len c.f_Key; have h := H_len c.f_Value; have r := D_len c.f_R; have w := D_len c.f_W; have v := vt_sum c.f_Votes
 have : ((CR c).map fun w => w.length + 1).sum ≤ 800 := by
  unfold CR
  repeat (split; · simp only [List.map_cons, List.map_nil, List.sum_cons, List.sum_nil, List.length_cons, List.length_nil]; omega)
  rw [List.map_append, List.sum_append]
  simp only [List.map_cons, List.map_nil, List.sum_cons, List.sum_nil, List.length_cons, List.length_nil] at v ⊢
  omega
 simp only [CW, List.map_cons, List.sum_cons]; omega
theorem CW_cnt (c : T_r27_Call) (hv : c.f_Votes.length ≤ 8) : (CW c).length ≤ 20 := by
 have : (CR c).length ≤ 18 := by
  unfold CR
  repeat (split; · simp)
  rw [List.length_append, List.length_map]; simp; omega
 simp only [CW, List.length_cons]; omega
theorem J_len (s : T_r27_Step) (ok : MayOK s) : (J (TW s)).length ≤ 16384 := by
 refine Nat.le_trans (J_le _) ?_
 have nd := D_len s.f_Node; have wr := D_len s.f_Wire; have to := D_len s.f_To; have nn := S_len s.f_N; have hb := H_len (strI s.f_Bytes)
 have hsb : (strI s.f_Bytes).length = s.f_Bytes.length := by simp [strI]
 have by_ := ok.bytes
 unfold TW
 split
 ·rename_i h
  have := CW_sum s.f_Call (ok.call h).2.2.1 (ok.call h).2.2.2
  simp only [List.map_cons, List.sum_cons, List.length_cons, List.length_nil]; omega
 repeat (split; · simp only [List.map_cons, List.map_nil, List.sum_cons, List.sum_nil, List.length_cons, List.length_nil]; first | omega | (split <;> simp only [List.length_cons, List.length_nil] <;> omega))
 simp only [List.map_cons, List.map_nil, List.sum_cons, List.sum_nil, List.length_cons, List.length_nil]; omega
theorem line_eq (s : T_r27_Step) (wf : WfS s) (ok : MayOK s) (e1 : script_May (toP s) = some true) : script_Line (toP s) = some (J (TW s), 0) := by
 have nd := ok.node; have wr := ok.wire; have to := ok.to; have nn := ok.n; have by_ := ok.bytes
 have s1 := sdig nd.1 (by omega); have s2 := sdig wr.1 (by omega); have s3 := sdig to.1 (by omega); have s4 := ssig nn.1 (by omega)
 have l1 := D_len s.f_Node; have l2 := D_len s.f_Wire; have l3 := D_len s.f_To; have l4 := S_len s.f_N
 have s5 := shexb wf.bs (by omega); have l5 := H_len (strI s.f_Bytes)
 have hsb : (strI s.f_Bytes).length = s.f_Bytes.length := by simp [strI]
 have kk := kinds ok.k1 ok.k2
 have wl := fun h => words_law s wf (ok.call h).1 (ok.call h).2.1 (ok.call h).2.2.1 (ok.call h).2.2.2 (ok.key h)
 have hv := fun h => (ok.call h).2.2.1
 have hJ := J_len s ok
 have wcl := wf.cl; have wsq := wf.sq
 have lc1 := D_len s.f_Call.f_Client; have lc2 := D_len s.f_Call.f_Seq
 clear ok wf
 obtain ⟨k, n, w, m, ct, c, t, bs⟩ := s
 simp only at *
 rcases kk with rfl | rfl | rfl | rfl | rfl | rfl | rfl | rfl | rfl | rfl
 ·have x1 := wl rfl
  have hcw := CW_cnt c (hv rfl)
  have hj : (J ([100, 111] :: D n :: CW c)).length ≤ 16384 := hJ
  have e1 : script_May ⟨1, n, w, m, ct, toC c, t, bs⟩ = some true := e1
  have ej : Lib.join ([[100, 111], D n] ++ CW c) [32] = J ([100, 111] :: D n :: CW c) := by
   show Lib.join ([100, 111] :: _) [32] = _
   rw [join_eq]; rfl
  show script_Line ⟨1, n, w, m, ct, toC c, t, bs⟩ = some (J ([100, 111] :: D n :: CW c), 0)
  unfold script_Line script_Line_c6
  repeat (first | simp only [e1, vbs, vb1, s1, x1, ej, Option.bind_some] | rw [if_pos (by rfl)] | rw [if_neg (by exact Bool.false_ne_true)] | rw [if_pos (by decide)] | rw [if_pos (by simp only [List.length_append, List.length_cons, List.length_nil]; omega)])
 ·have e1 : script_May ⟨2, n, w, m, ct, toC c, t, bs⟩ = some true := e1
  show script_Line ⟨2, n, w, m, ct, toC c, t, bs⟩ = some (J [[100, 101, 108, 105, 118, 101, 114], D w], 0)
  unfold script_Line script_Line_c7 script_Line_c21 script_Line_c1021 script_Line_c2021 script_Line_c3021 script_Line_c4021 script_Line_c5021 script_Line_c6021
  repeat (first | simp only [e1, vbs, vb2, s1, s2, s3, s4, s5, Option.bind_some] | rw [if_pos (by rfl)] | rw [if_neg (by exact Bool.false_ne_true)] | rw [if_pos (by decide)] | rw [if_pos (two _ _)] | rw [if_pos (by simp only [join_eq, List.flatMap_cons, List.flatMap_nil, List.length_append, List.length_cons, List.length_nil, List.length_set, List.set_cons_succ, List.set_cons_zero, List.cons_append, List.nil_append]; omega)])
  simp [join_eq, J]
  try omega
 ·have e1 : script_May ⟨3, n, w, m, ct, toC c, t, bs⟩ = some true := e1
  show script_Line ⟨3, n, w, m, ct, toC c, t, bs⟩ = some (J [[100, 114, 111, 112], D w], 0)
  unfold script_Line script_Line_c7 script_Line_c21 script_Line_c1021 script_Line_c2021 script_Line_c3021 script_Line_c4021 script_Line_c5021 script_Line_c6021
  repeat (first | simp only [e1, vbs, vb3, s1, s2, s3, s4, s5, Option.bind_some] | rw [if_pos (by rfl)] | rw [if_neg (by exact Bool.false_ne_true)] | rw [if_pos (by decide)] | rw [if_pos (two _ _)] | rw [if_pos (by simp only [join_eq, List.flatMap_cons, List.flatMap_nil, List.length_append, List.length_cons, List.length_nil, List.length_set, List.set_cons_succ, List.set_cons_zero, List.cons_append, List.nil_append]; omega)])
  simp [join_eq, J]
  try omega
 ·have e1 : script_May ⟨4, n, w, m, ct, toC c, t, bs⟩ = some true := e1
  show script_Line ⟨4, n, w, m, ct, toC c, t, bs⟩ = some (J [[116, 119, 105, 99, 101], D w], 0)
  unfold script_Line script_Line_c7 script_Line_c21 script_Line_c1021 script_Line_c2021 script_Line_c3021 script_Line_c4021 script_Line_c5021 script_Line_c6021
  repeat (first | simp only [e1, vbs, vb4, s1, s2, s3, s4, s5, Option.bind_some] | rw [if_pos (by rfl)] | rw [if_neg (by exact Bool.false_ne_true)] | rw [if_pos (by decide)] | rw [if_pos (two _ _)] | rw [if_pos (by simp only [join_eq, List.flatMap_cons, List.flatMap_nil, List.length_append, List.length_cons, List.length_nil, List.length_set, List.set_cons_succ, List.set_cons_zero, List.cons_append, List.nil_append]; omega)])
  simp [join_eq, J]
  try omega
 ·have e1 : script_May ⟨5, n, w, m, ct, toC c, t, bs⟩ = some true := e1
  show script_Line ⟨5, n, w, m, ct, toC c, t, bs⟩ = some (J [[108, 97, 116, 101], D w], 0)
  unfold script_Line script_Line_c7 script_Line_c21 script_Line_c1021 script_Line_c2021 script_Line_c3021 script_Line_c4021 script_Line_c5021 script_Line_c6021
  repeat (first | simp only [e1, vbs, vb5, s1, s2, s3, s4, s5, Option.bind_some] | rw [if_pos (by rfl)] | rw [if_neg (by exact Bool.false_ne_true)] | rw [if_pos (by decide)] | rw [if_pos (two _ _)] | rw [if_pos (by simp only [join_eq, List.flatMap_cons, List.flatMap_nil, List.length_append, List.length_cons, List.length_nil, List.length_set, List.set_cons_succ, List.set_cons_zero, List.cons_append, List.nil_append]; omega)])
  simp [join_eq, J]
  try omega
 ·have e1 : script_May ⟨6, n, w, m, ct, toC c, t, bs⟩ = some true := e1
  show script_Line ⟨6, n, w, m, ct, toC c, t, bs⟩ = some (J [[116, 105, 99, 107], D n], 0)
  unfold script_Line script_Line_c7 script_Line_c21 script_Line_c1021 script_Line_c2021 script_Line_c3021 script_Line_c4021 script_Line_c5021 script_Line_c6021
  repeat (first | simp only [e1, vbs, vb6, s1, s2, s3, s4, s5, Option.bind_some] | rw [if_pos (by rfl)] | rw [if_neg (by exact Bool.false_ne_true)] | rw [if_pos (by decide)] | rw [if_pos (two _ _)] | rw [if_pos (by simp only [join_eq, List.flatMap_cons, List.flatMap_nil, List.length_append, List.length_cons, List.length_nil, List.length_set, List.set_cons_succ, List.set_cons_zero, List.cons_append, List.nil_append]; omega)])
  simp [join_eq, J]
  try omega
 ·have e1 : script_May ⟨7, n, w, m, ct, toC c, t, bs⟩ = some true := e1
  show script_Line ⟨7, n, w, m, ct, toC c, t, bs⟩ = some (J [[99, 114, 97, 115, 104], D n], 0)
  unfold script_Line script_Line_c7 script_Line_c21 script_Line_c1021 script_Line_c2021 script_Line_c3021 script_Line_c4021 script_Line_c5021 script_Line_c6021
  repeat (first | simp only [e1, vbs, vb7, s1, s2, s3, s4, s5, Option.bind_some] | rw [if_pos (by rfl)] | rw [if_neg (by exact Bool.false_ne_true)] | rw [if_pos (by decide)] | rw [if_pos (two _ _)] | rw [if_pos (by simp only [join_eq, List.flatMap_cons, List.flatMap_nil, List.length_append, List.length_cons, List.length_nil, List.length_set, List.set_cons_succ, List.set_cons_zero, List.cons_append, List.nil_append]; omega)])
  simp [join_eq, J]
  try omega
 ·cases ct
  ·have e1 : script_May ⟨8, n, w, m, false, toC c, t, bs⟩ = some true := e1
   show script_Line ⟨8, n, w, m, false, toC c, t, bs⟩ = some (J [[115, 116, 97, 114, 116], D n, S m, [119, 104, 111, 108, 101], H (strI bs)], 0)
   unfold script_Line script_Line_c7 script_Line_c21 script_Line_c1021 script_Line_c2021 script_Line_c3021 script_Line_c4021 script_Line_c5021 script_Line_c6021
   repeat (first | simp only [e1, vbs, vb8, s1, s2, s3, s4, s5, Option.bind_some] | rw [if_pos (by rfl)] | rw [if_neg (by exact Bool.false_ne_true)] | rw [if_pos (by decide)] | rw [if_pos (two _ _)] | rw [if_pos (by simp only [join_eq, List.flatMap_cons, List.flatMap_nil, List.length_append, List.length_cons, List.length_nil, List.length_set, List.set_cons_succ, List.set_cons_zero, List.cons_append, List.nil_append]; omega)])
   simp [join_eq, J]
   try omega
  ·have e1 : script_May ⟨8, n, w, m, true, toC c, t, bs⟩ = some true := e1
   show script_Line ⟨8, n, w, m, true, toC c, t, bs⟩ = some (J [[115, 116, 97, 114, 116], D n, S m, [99, 117, 116], H (strI bs)], 0)
   unfold script_Line script_Line_c7 script_Line_c21 script_Line_c1021 script_Line_c2021 script_Line_c3021 script_Line_c4021 script_Line_c5021 script_Line_c6021
   repeat (first | simp only [e1, vbs, vb8, s1, s2, s3, s4, s5, Option.bind_some] | rw [if_pos (by rfl)] | rw [if_neg (by exact Bool.false_ne_true)] | rw [if_pos (by decide)] | rw [if_pos (two _ _)] | rw [if_pos (by simp only [join_eq, List.flatMap_cons, List.flatMap_nil, List.length_append, List.length_cons, List.length_nil, List.length_set, List.set_cons_succ, List.set_cons_zero, List.cons_append, List.nil_append]; omega)])
   simp [join_eq, J]
   try omega
 ·have e1 : script_May ⟨9, n, w, m, ct, toC c, t, bs⟩ = some true := e1
  show script_Line ⟨9, n, w, m, ct, toC c, t, bs⟩ = some (J [[97, 114, 109], D n, S m], 0)
  unfold script_Line script_Line_c7 script_Line_c21 script_Line_c1021 script_Line_c2021 script_Line_c3021 script_Line_c4021 script_Line_c5021 script_Line_c6021
  repeat (first | simp only [e1, vbs, vb9, s1, s2, s3, s4, s5, Option.bind_some] | rw [if_pos (by rfl)] | rw [if_neg (by exact Bool.false_ne_true)] | rw [if_pos (by decide)] | rw [if_pos (two _ _)] | rw [if_pos (by simp only [join_eq, List.flatMap_cons, List.flatMap_nil, List.length_append, List.length_cons, List.length_nil, List.length_set, List.set_cons_succ, List.set_cons_zero, List.cons_append, List.nil_append]; omega)])
  simp [join_eq, J]
  try omega
 ·have e1 : script_May ⟨10, n, w, m, ct, toC c, t, bs⟩ = some true := e1
  show script_Line ⟨10, n, w, m, ct, toC c, t, bs⟩ = some (J [[105, 110, 106, 101, 99, 116], D n, D t, H (strI bs)], 0)
  unfold script_Line script_Line_c7 script_Line_c21 script_Line_c1021 script_Line_c2021 script_Line_c3021 script_Line_c4021 script_Line_c5021 script_Line_c6021
  repeat (first | simp only [e1, vbs, vb10, s1, s2, s3, s4, s5, Option.bind_some] | rw [if_pos (by rfl)] | rw [if_neg (by exact Bool.false_ne_true)] | rw [if_pos (by decide)] | rw [if_pos (two _ _)] | rw [if_pos (by simp only [join_eq, List.flatMap_cons, List.flatMap_nil, List.length_append, List.length_cons, List.length_nil, List.length_set, List.set_cons_succ, List.set_cons_zero, List.cons_append, List.nil_append]; omega)])
  simp [join_eq, J]
  try omega
end Go.Proofs.YtdchgoaokceomaaGreatDoor.Wk
