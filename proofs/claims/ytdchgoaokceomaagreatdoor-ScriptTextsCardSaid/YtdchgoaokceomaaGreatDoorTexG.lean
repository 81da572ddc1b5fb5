import Derived.Test.YtdchgoaokceomaaGreatDoorTexR
set_option linter.unusedVariables false
set_option linter.unusedSimpArgs false
set_option linter.unusedSectionVars false
namespace Go.Proofs.YtdchgoaokceomaaGreatDoor.Wk
open Go Go.Cn
set_option maxRecDepth 10000
set_option maxHeartbeats 2000000
theorem stepE (m : Nat) (hm : 1 ≤ m ∧ m < 11) (rest : List (List UInt8)) : sr_step ⟨VL.getD m default :: rest, false⟩ = stepBody ⟨VL.getD m default :: rest, false⟩ ((m : Int), rest, false) := by
 rw [step_def, ofA VL m (by decide) hm.1 hm.2 (by
  have : m = 1 ∨ m = 2 ∨ m = 3 ∨ m = 4 ∨ m = 5 ∨ m = 6 ∨ m = 7 ∨ m = 8 ∨ m = 9 ∨ m = 10 := by omega
  rcases this with rfl | rfl | rfl | rfl | rfl | rfl | rfl | rfl | rfl | rfl <;> decide) rest false, Option.bind_some]
theorem strI_id (bs : List Int) (h : wB bs) : bytesI (strI bs) = bs := by
 induction bs with
 | nil => rfl
 | cons x r ih =>
  have hx := h x (List.mem_cons_self ..)
  show ((UInt8.ofNat x.toNat).toNat : Int) :: bytesI (strI r) = _
  rw [ih (fun y hy => h y (List.mem_cons_of_mem _ hy)), UInt8.toNat_ofNat']
  congr 1; omega
theorem stepA (g : T_r27_Step) (ok : MayOK g) (hk : r27_kept g = some g) (wc : WfC g.f_Call) (wb : wB g.f_Bytes) : sr_step ⟨TW g, false⟩ = some (toP g, [], false) := by
 have kk := kinds ok.k1 ok.k2
 have nd := ok.node; have wr := ok.wire; have to := ok.to; have nn := ok.n; have by_ := ok.bytes
 have cc := ok.call; have ck := ok.key
 obtain ⟨k, n, w, m, ct, c, t, bs⟩ := g
 simp only at kk nd wr to nn by_ cc ck wc wb
 have hs : bytesI (strI bs) = bs := strI_id bs wb
 have hsl : (strI bs).length = bs.length := by simp [strI]
 rcases kk with rfl | rfl | rfl | rfl | rfl | rfl | rfl | rfl | rfl | rfl
 ·obtain ⟨r, e1, _⟩ := pure_eq c wc.vt (by have := wc.vl; omega)
  have hk2 : (r27_call c).bind (fun y => some (T_r27_Step.mk 1 n 0 0 false y 0 [])) = some ⟨1, n, w, m, ct, c, t, bs⟩ := hk
  rw [e1] at hk2
  cases (Option.some.inj hk2)
  obtain ⟨c1, c2, c3, c4⟩ := cc rfl
  refine (stepE 1 (by omega) (D n :: CW c)).trans ?_
  show stepBody _ (1, D n :: CW c, false) = _
  rw [sb1, rnumA _ false n nd.1 nd.2, Option.bind_some]
  show (sr_call ⟨CW c, false⟩).bind _ = _
  rw [callA c wc c1 c2 e1 (fun h => KN_of _ wc.ky (ck rfl h)) c3 c4]; rfl
 ·cases (Option.some.inj hk)
  refine (stepE 2 (by omega) [D w]).trans ?_
  show stepBody _ (2, [D w], false) = _
  rw [sb2, rnumA _ false w wr.1 wr.2]; rfl
 ·cases (Option.some.inj hk)
  refine (stepE 3 (by omega) [D w]).trans ?_
  show stepBody _ (3, [D w], false) = _
  rw [sb3, rnumA _ false w wr.1 wr.2]; rfl
 ·cases (Option.some.inj hk)
  refine (stepE 4 (by omega) [D w]).trans ?_
  show stepBody _ (4, [D w], false) = _
  rw [sb4, rnumA _ false w wr.1 wr.2]; rfl
 ·cases (Option.some.inj hk)
  refine (stepE 5 (by omega) [D w]).trans ?_
  show stepBody _ (5, [D w], false) = _
  rw [sb5, rnumA _ false w wr.1 wr.2]; rfl
 ·cases (Option.some.inj hk)
  refine (stepE 6 (by omega) [D n]).trans ?_
  show stepBody _ (6, [D n], false) = _
  rw [sb6, rnumA _ false n nd.1 nd.2]; rfl
 ·cases (Option.some.inj hk)
  refine (stepE 7 (by omega) [D n]).trans ?_
  show stepBody _ (7, [D n], false) = _
  rw [sb7, rnumA _ false n nd.1 nd.2]; rfl
 ·cases (Option.some.inj hk)
  have fin : ∀ (j : Nat), (1 ≤ j ∧ j < 3) → stepBody ⟨VL.getD 8 default :: [D n, S m, HL.getD j default, H (strI bs)], false⟩ (8, [D n, S m, HL.getD j default, H (strI bs)], false) = some (⟨8, n, 0, m, ((j : Int) == 2), zC, 0, bs⟩, [], false) := by
   intro j hj
   rw [sb8, rnumA _ false n nd.1 nd.2, Option.bind_some]
   show (sr_keep ⟨[S m, HL.getD j default, H (strI bs)], false⟩).bind _ = _
   rw [rkeepA _ false m nn.1 nn.2, Option.bind_some]
   show (sr_of ⟨[HL.getD j default, H (strI bs)], false⟩ HL).bind _ = _
   rw [ofA HL j (by decide) hj.1 hj.2 (by
    have : j = 1 ∨ j = 2 := by omega
    rcases this with rfl | rfl <;> decide) _ false, Option.bind_some]
   show (sr_bytes ⟨[H (strI bs)], false⟩).bind _ = _
   rw [rbytesA [] (strI bs) (by omega), hs]; rfl
  cases ct
  ·exact (stepE 8 (by omega) [D n, S m, [119, 104, 111, 108, 101], H (strI bs)]).trans (fin 1 (by omega))
  ·exact (stepE 8 (by omega) [D n, S m, [99, 117, 116], H (strI bs)]).trans (fin 2 (by omega))
 ·cases (Option.some.inj hk)
  refine (stepE 9 (by omega) [D n, S m]).trans ?_
  show stepBody _ (9, [D n, S m], false) = _
  rw [sb9, rnumA _ false n nd.1 nd.2, Option.bind_some]
  show (sr_keep ⟨[S m], false⟩).bind _ = _
  rw [rkeepA _ false m nn.1 nn.2]; rfl
 ·cases (Option.some.inj hk)
  refine (stepE 10 (by omega) [D n, D t, H (strI bs)]).trans ?_
  show stepBody _ (10, [D n, D t, H (strI bs)], false) = _
  rw [sb10, rnumA _ false n nd.1 nd.2, Option.bind_some]
  show (sr_num ⟨[D t, H (strI bs)], false⟩).bind _ = _
  rw [rnumA _ false t to.1 to.2, Option.bind_some]
  show (sr_bytes ⟨[H (strI bs)], false⟩).bind _ = _
  rw [rbytesA [] (strI bs) (by omega), hs]; rfl
def J : List (List UInt8) → List UInt8
 | [] => []
 | w :: ws => w ++ ws.flatMap (([32] : List UInt8) ++ ·)
theorem key_K (k : A8 Int) (h : wfK k) (hm : mayK k = true) : r27_key k = some (K k) ∧ (K k).length ≤ 17 := by
 obtain ⟨t, ht⟩ := KN_of k h hm
 obtain ⟨t0, n0, e0, l0⟩ := key_name k h hm
 have n1 := name1 k h t (8 - t.length) (by rw [ht.2.2.2, kb_pad t ht.2.1]) (tight_of t ht.2.2.1)
 rw [if_neg (by rintro (e | e); exact ht.1 e; exact ht.2.2.1 e), n0] at n1
 simp only [Option.some.injEq, Prod.mk.injEq, and_true] at n1
 have := H_len t
 have h8 := ht.2.1
 rw [KN_K ht, e0, n1]
 exact ⟨rfl, by omega⟩
theorem rwords_loop (c : T_r27_Call) (hw : wB c.f_Votes) (hl : c.f_Votes.length ≤ 100) : ∀ (fuel i : Nat) (s : List UInt8), c.f_Votes.length < fuel + i → i ≤ c.f_Votes.length → s.length ≤ 10000 + 20 * i →
  r27_words_l0 c fuel s (i : Int) = some (s ++ (c.f_Votes.drop i).flatMap (fun v => [32] ++ D v))
 | 0, i, s, h, hi, _ => by omega
 | fuel + 1, i, s, h, hi, hs => by
  rw [r27_words_l0]
  by_cases hlt : i < c.f_Votes.length
  ·rw [if_pos (by rw [decide_eq_true_eq]; omega), if_pos (by omega), Int.toNat_natCast]
   have e1 := getD_drop c.f_Votes i default hlt
   have hm : c.f_Votes.getD i default ∈ c.f_Votes := by
    rw [List.getD_eq_getElem?_getD, List.getElem?_eq_getElem (by omega)]; exact List.getElem_mem _
   have hb := hw _ hm
   have hd := D_len (c.f_Votes.getD i default)
   rw [wu64 hb.1 (by omega), rdig hb.1 (by omega), Option.bind_some, if_pos (by simp only [List.length_cons, List.length_nil]; omega), if_pos (by simp only [List.length_append, List.length_cons, List.length_nil]; omega), w64 (by omega) (by omega)]
   rw [show ((i : Int) + 1) = ((i + 1 : Nat) : Int) from rfl, rwords_loop c hw hl fuel (i + 1) _ (by omega) (by omega) (by simp only [List.length_append, List.length_cons, List.length_nil]; omega), e1, List.flatMap_cons, List.append_assoc]
  ·rw [if_neg (by rw [decide_eq_true_eq]; omega), List.drop_eq_nil_of_le (by omega)]; simp
theorem vl : ∀ l : List Int, (l.flatMap (fun v => [32] ++ D v)).length ≤ 12 * l.length
 | [] => by simp
 | x :: r => by
  have := vl r; have := D_len x
  rw [List.flatMap_cons]
  simp only [List.length_append, List.length_cons, List.length_nil]; omega
theorem docwords (c : T_r27_Call) (wt : 0 ≤ c.f_Tx.f_Node ∧ c.f_Tx.f_Node < 256) (wt2 : 0 ≤ c.f_Tx.f_Boot ∧ c.f_Tx.f_Boot < 4294967296) (wt3 : 0 ≤ c.f_Tx.f_Num ∧ c.f_Tx.f_Num < 4294967296) (wr : 0 ≤ c.f_R ∧ c.f_R < 256) (ww : 0 ≤ c.f_W ∧ c.f_W < 256) (wv : wB c.f_Votes) (hky : wfK c.f_Key)
  (k1 : 1 ≤ c.f_Kind) (k2 : c.f_Kind ≤ 6) (hv : c.f_Votes.length ≤ 8) (hl : c.f_Value.length ≤ 64) (hk : (c.f_Kind = 2 ∨ c.f_Kind = 3 ∨ c.f_Kind = 6) → mayK c.f_Key = true) :
  r27_words c = some (J (CR c)) ∧ (J (CR c)).length ≤ 2000 := by
 obtain ⟨n1, n2⟩ := name_eq c.f_Tx wt wt2 wt3
 have nl := N_len c.f_Tx
 obtain ⟨cl, sq, k, tx, ky, v, r, w, vt⟩ := c
 simp only at *
 have dr : r27_digits (IntKind.wrap .u64 r) = some (D r) := by rw [wu64 wr.1 (by omega), rdig wr.1 (by omega)]
 have dw : r27_digits (IntKind.wrap .u64 w) = some (D w) := by rw [wu64 ww.1 (by omega), rdig ww.1 (by omega)]
 have lr := D_len r; have lw := D_len w
 have rv := rhex (b := v) (by omega); have lv := H_len v
 have kk : k = 1 ∨ k = 2 ∨ k = 3 ∨ k = 4 ∨ k = 5 ∨ k = 6 := by omega
 rcases kk with rfl | rfl | rfl | rfl | rfl | rfl
 ·have e : J (CR ⟨cl, sq, 1, tx, ky, v, r, w, vt⟩) = J ([[98, 101, 103, 105, 110]]) := rfl
  rw [e]
  constructor
  ·unfold r27_words
   repeat (first | simp only [Option.bind_some] | rw [if_pos (by rfl)] | rw [if_neg (by exact Bool.false_ne_true)] | rw [if_pos (by decide)] | rw [if_pos (by simp only [List.length_append, List.length_cons, List.length_nil]; omega)])
   rfl
  ·simp only [J, List.flatMap_cons, List.flatMap_nil, List.length_append, List.length_cons, List.length_nil]; omega
 ·obtain ⟨kt, kl⟩ := key_K ky hky (hk (by simp))
  have e : J (CR ⟨cl, sq, 2, tx, ky, v, r, w, vt⟩) = J ([[114, 101, 97, 100], N tx, K ky]) := rfl
  rw [e]
  constructor
  ·unfold r27_words
   repeat (first | simp only [Option.bind_some, n2, kt] | rw [if_pos (by rfl)] | rw [if_neg (by exact Bool.false_ne_true)] | rw [if_pos (by decide)] | rw [if_pos (by simp only [List.length_append, List.length_cons, List.length_nil]; omega)])
   simp [J]
  ·simp only [J, List.flatMap_cons, List.flatMap_nil, List.length_append, List.length_cons, List.length_nil]; omega
 ·obtain ⟨kt, kl⟩ := key_K ky hky (hk (by simp))
  have e : J (CR ⟨cl, sq, 3, tx, ky, v, r, w, vt⟩) = J ([[119, 114, 105, 116, 101], N tx, K ky, H v]) := rfl
  rw [e]
  constructor
  ·unfold r27_words
   repeat (first | simp only [Option.bind_some, n2, kt, rv] | rw [if_pos (by rfl)] | rw [if_neg (by exact Bool.false_ne_true)] | rw [if_pos (by decide)] | rw [if_pos (by simp only [List.length_append, List.length_cons, List.length_nil]; omega)])
   simp [J]
  ·simp only [J, List.flatMap_cons, List.flatMap_nil, List.length_append, List.length_cons, List.length_nil]; omega
 ·have e : J (CR ⟨cl, sq, 4, tx, ky, v, r, w, vt⟩) = J ([[99, 111, 109, 109, 105, 116], N tx]) := rfl
  rw [e]
  constructor
  ·unfold r27_words
   repeat (first | simp only [Option.bind_some, n2] | rw [if_pos (by rfl)] | rw [if_neg (by exact Bool.false_ne_true)] | rw [if_pos (by decide)] | rw [if_pos (by simp only [List.length_append, List.length_cons, List.length_nil]; omega)])
   simp [J]
  ·simp only [J, List.flatMap_cons, List.flatMap_nil, List.length_append, List.length_cons, List.length_nil]; omega
 ·have e : J (CR ⟨cl, sq, 5, tx, ky, v, r, w, vt⟩) = J ([[97, 98, 111, 114, 116], N tx]) := rfl
  rw [e]
  constructor
  ·unfold r27_words
   repeat (first | simp only [Option.bind_some, n2] | rw [if_pos (by rfl)] | rw [if_neg (by exact Bool.false_ne_true)] | rw [if_pos (by decide)] | rw [if_pos (by simp only [List.length_append, List.length_cons, List.length_nil]; omega)])
   simp [J]
  ·simp only [J, List.flatMap_cons, List.flatMap_nil, List.length_append, List.length_cons, List.length_nil]; omega
 ·obtain ⟨kt, kl⟩ := key_K ky hky (hk (by simp))
  have e : J (CR ⟨cl, sq, 6, tx, ky, v, r, w, vt⟩) = J ([[99, 104, 97, 110, 103, 101], N tx, K ky, D r, D w] ++ vt.map D) := rfl
  rw [e]
  constructor
  ·unfold r27_words
   repeat (first | simp only [Option.bind_some, n2, kt, dr, dw] | rw [if_pos (by rfl)] | rw [if_neg (by exact Bool.false_ne_true)] | rw [if_pos (by decide)] | rw [if_pos (by simp only [List.length_append, List.length_cons, List.length_nil]; omega)])
   unfold r27_words_c13
   exact (rwords_loop ⟨cl, sq, 6, tx, ky, v, r, w, vt⟩ wv (by show vt.length ≤ 100; omega) big 0 _ (by have := big_lt (n := 1000) (by omega); show vt.length < _; omega) (by omega) (by simp only [List.length_append, List.length_cons, List.length_nil]; omega)).trans (by simp [J, List.flatMap_map])
  ·have := vl vt
   have e2 : (J ([[99, 104, 97, 110, 103, 101], N tx, K ky, D r, D w] ++ vt.map D)).length = ([99, 104, 97, 110, 103, 101, 32] ++ N tx ++ [32] ++ K ky ++ [32] ++ D r ++ [32] ++ D w ++ vt.flatMap (fun v => [32] ++ D v)).length := by simp [J, List.flatMap_map]
   rw [e2]; simp only [List.length_append, List.length_cons, List.length_nil]; omega
theorem docline (s : T_r27_Step) (wf : WfS s) (ok : MayOK s) (e2 : r27_May s = some true) : r27_Line s = some (J (TW s), 0) := by
 have nd := ok.node; have wr := ok.wire; have to := ok.to; have nn := ok.n; have by_ := ok.bytes
 have r1 := rdig nd.1 (by omega); have r2 := rdig wr.1 (by omega); have r3 := rdig to.1 (by omega); have r4 := rsig nn.1 (by omega)
 have q1 := wu64 nd.1 (by omega); have q2 := wu64 wr.1 (by omega); have q3 := wu64 to.1 (by omega)
 have l1 := D_len s.f_Node; have l2 := D_len s.f_Wire; have l3 := D_len s.f_To; have l4 := S_len s.f_N
 have l5 := H_len (strI s.f_Bytes)
 have hsb : (strI s.f_Bytes).length = s.f_Bytes.length := by simp [strI]
 have r5 := rhex (b := strI s.f_Bytes) (by omega)
 have kk := kinds ok.k1 ok.k2
 have wl := fun h => docwords s.f_Call wf.tn wf.tb wf.tm wf.r wf.w wf.vt wf.ky (ok.call h).1 (ok.call h).2.1 (ok.call h).2.2.1 (ok.call h).2.2.2 (ok.key h)
 have wcl := wf.cl; have wsq := wf.sq
 have lc1 := D_len s.f_Call.f_Client; have lc2 := D_len s.f_Call.f_Seq
 have r6 := rdig wcl.1 (by omega); have r7 := rdig wsq.1 (by omega)
 have q6 := wu64 wcl.1 (by omega); have q7 := wu64 wsq.1 (by omega)
 clear ok wf
 obtain ⟨k, n, w, m, ct, c, t, bs⟩ := s
 simp only at *
 rcases kk with rfl | rfl | rfl | rfl | rfl | rfl | rfl | rfl | rfl | rfl
 ·obtain ⟨x2, x5⟩ := wl rfl
  have e : J (TW ⟨1, n, w, m, ct, c, t, bs⟩) = [100, 111, 32] ++ D n ++ [32] ++ D c.f_Client ++ [32] ++ D c.f_Seq ++ [32] ++ J (CR c) := by
   show J ([100, 111] :: D n :: D c.f_Client :: D c.f_Seq :: CR c) = _
   have : CR c ≠ [] := by unfold CR; repeat (first | split | simp)
   cases hcr : CR c with
   | nil => exact absurd hcr this
   | cons a b => simp [J]
  rw [e]
  unfold r27_Line r27_Line_c6
  repeat (first | simp only [e2, q1, q2, q3, q6, q7, r1, r2, r3, r4, r5, r6, r7, x2, Option.bind_some] | rw [if_pos (by rfl)] | rw [if_neg (by exact Bool.false_ne_true)] | rw [if_pos (by decide)] | rw [if_pos (by simp only [List.length_append, List.length_cons, List.length_nil]; omega)])
 ·have e : J (TW ⟨2, n, w, m, ct, c, t, bs⟩) = J ([[100, 101, 108, 105, 118, 101, 114], D w]) := rfl
  rw [e]
  unfold r27_Line r27_Line_c7
  repeat (first | simp only [e2, q1, q2, q3, r1, r2, r3, r4, r5, Option.bind_some] | rw [if_pos (by rfl)] | rw [if_neg (by exact Bool.false_ne_true)] | rw [if_pos (by decide)] | rw [if_pos (by simp only [List.length_append, List.length_cons, List.length_nil]; omega)])
  simp [J]
 ·have e : J (TW ⟨3, n, w, m, ct, c, t, bs⟩) = J ([[100, 114, 111, 112], D w]) := rfl
  rw [e]
  unfold r27_Line r27_Line_c7
  repeat (first | simp only [e2, q1, q2, q3, r1, r2, r3, r4, r5, Option.bind_some] | rw [if_pos (by rfl)] | rw [if_neg (by exact Bool.false_ne_true)] | rw [if_pos (by decide)] | rw [if_pos (by simp only [List.length_append, List.length_cons, List.length_nil]; omega)])
  simp [J]
 ·have e : J (TW ⟨4, n, w, m, ct, c, t, bs⟩) = J ([[116, 119, 105, 99, 101], D w]) := rfl
  rw [e]
  unfold r27_Line r27_Line_c7
  repeat (first | simp only [e2, q1, q2, q3, r1, r2, r3, r4, r5, Option.bind_some] | rw [if_pos (by rfl)] | rw [if_neg (by exact Bool.false_ne_true)] | rw [if_pos (by decide)] | rw [if_pos (by simp only [List.length_append, List.length_cons, List.length_nil]; omega)])
  simp [J]
 ·have e : J (TW ⟨5, n, w, m, ct, c, t, bs⟩) = J ([[108, 97, 116, 101], D w]) := rfl
  rw [e]
  unfold r27_Line r27_Line_c7
  repeat (first | simp only [e2, q1, q2, q3, r1, r2, r3, r4, r5, Option.bind_some] | rw [if_pos (by rfl)] | rw [if_neg (by exact Bool.false_ne_true)] | rw [if_pos (by decide)] | rw [if_pos (by simp only [List.length_append, List.length_cons, List.length_nil]; omega)])
  simp [J]
 ·have e : J (TW ⟨6, n, w, m, ct, c, t, bs⟩) = J ([[116, 105, 99, 107], D n]) := rfl
  rw [e]
  unfold r27_Line r27_Line_c7
  repeat (first | simp only [e2, q1, q2, q3, r1, r2, r3, r4, r5, Option.bind_some] | rw [if_pos (by rfl)] | rw [if_neg (by exact Bool.false_ne_true)] | rw [if_pos (by decide)] | rw [if_pos (by simp only [List.length_append, List.length_cons, List.length_nil]; omega)])
  simp [J]
 ·have e : J (TW ⟨7, n, w, m, ct, c, t, bs⟩) = J ([[99, 114, 97, 115, 104], D n]) := rfl
  rw [e]
  unfold r27_Line r27_Line_c7
  repeat (first | simp only [e2, q1, q2, q3, r1, r2, r3, r4, r5, Option.bind_some] | rw [if_pos (by rfl)] | rw [if_neg (by exact Bool.false_ne_true)] | rw [if_pos (by decide)] | rw [if_pos (by simp only [List.length_append, List.length_cons, List.length_nil]; omega)])
  simp [J]
 ·cases ct
  ·have e : J (TW ⟨8, n, w, m, false, c, t, bs⟩) = J ([[115, 116, 97, 114, 116], D n, S m, [119, 104, 111, 108, 101], H (strI bs)]) := rfl
   rw [e]
   unfold r27_Line r27_Line_c7
   repeat (first | simp only [e2, q1, q2, q3, r1, r2, r3, r4, r5, Option.bind_some] | rw [if_pos (by rfl)] | rw [if_neg (by exact Bool.false_ne_true)] | rw [if_pos (by decide)] | rw [if_pos (by simp only [List.length_append, List.length_cons, List.length_nil]; omega)])
   simp [J]
  ·have e : J (TW ⟨8, n, w, m, true, c, t, bs⟩) = J ([[115, 116, 97, 114, 116], D n, S m, [99, 117, 116], H (strI bs)]) := rfl
   rw [e]
   unfold r27_Line r27_Line_c7
   repeat (first | simp only [e2, q1, q2, q3, r1, r2, r3, r4, r5, Option.bind_some] | rw [if_pos (by rfl)] | rw [if_neg (by exact Bool.false_ne_true)] | rw [if_pos (by decide)] | rw [if_pos (by simp only [List.length_append, List.length_cons, List.length_nil]; omega)])
   simp [J]
 ·have e : J (TW ⟨9, n, w, m, ct, c, t, bs⟩) = J ([[97, 114, 109], D n, S m]) := rfl
  rw [e]
  unfold r27_Line r27_Line_c7
  repeat (first | simp only [e2, q1, q2, q3, r1, r2, r3, r4, r5, Option.bind_some] | rw [if_pos (by rfl)] | rw [if_neg (by exact Bool.false_ne_true)] | rw [if_pos (by decide)] | rw [if_pos (by simp only [List.length_append, List.length_cons, List.length_nil]; omega)])
  simp [J]
 ·have e : J (TW ⟨10, n, w, m, ct, c, t, bs⟩) = J ([[105, 110, 106, 101, 99, 116], D n, D t, H (strI bs)]) := rfl
  rw [e]
  unfold r27_Line r27_Line_c7
  repeat (first | simp only [e2, q1, q2, q3, r1, r2, r3, r4, r5, Option.bind_some] | rw [if_pos (by rfl)] | rw [if_neg (by exact Bool.false_ne_true)] | rw [if_pos (by decide)] | rw [if_pos (by simp only [List.length_append, List.length_cons, List.length_nil]; omega)])
  simp [J]
end Go.Proofs.YtdchgoaokceomaaGreatDoor.Wk
