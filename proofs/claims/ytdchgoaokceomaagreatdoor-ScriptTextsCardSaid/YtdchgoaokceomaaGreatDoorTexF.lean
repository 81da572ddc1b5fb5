import Derived.Test.YtdchgoaokceomaaGreatDoorTexE
set_option linter.unusedVariables false
set_option linter.unusedSimpArgs false
set_option linter.unusedSectionVars false
namespace Go.Proofs.YtdchgoaokceomaaGreatDoor.Wk
open Go Go.Cn
set_option maxRecDepth 10000
structure WfC2 (c : T_r27_Call) : Prop where
 cl : 0 ≤ c.f_Client ∧ c.f_Client < 256
 sq : 0 ≤ c.f_Seq ∧ c.f_Seq < 4294967296
 tx : WfT2 c.f_Tx
 ky : wfK c.f_Key
 r : 0 ≤ c.f_R ∧ c.f_R < 256
 w : 0 ≤ c.f_W ∧ c.f_W < 256
 vt : wB c.f_Votes
 vl : c.f_Votes.length ≤ 9
theorem wfT20 : WfT2 ⟨0, 0, 0⟩ := ⟨by simp, by simp, by simp⟩
theorem call_wf (c : T_r27_Call) (h : WfC2 c) : ∃ r, r27_call c = some r ∧ WfC2 r := by
 obtain ⟨c1, c2, k, t, ky, v, r, w, vt⟩ := c
 obtain ⟨h1, h2, h3, h4, h5, h6, h7, h8⟩ := h
 have z : (0 : Int) ≤ 0 ∧ (0 : Int) < 256 := by omega
 have nl : ([] : List Int).length ≤ 9 := by simp
 unfold r27_call
 by_cases k2 : k = 2
 ·subst k2; exact ⟨_, rfl, h1, h2, h3, h4, z, z, nB, nl⟩
 by_cases k3 : k = 3
 ·subst k3; exact ⟨_, rfl, h1, h2, h3, h4, z, z, nB, nl⟩
 by_cases k6 : k = 6
 ·subst k6; exact ⟨_, rfl, h1, h2, h3, h4, h5, h6, h7, h8⟩
 have b2 : (k == 2) = false := by simpa using k2
 have b3 : (k == 3) = false := by simpa using k3
 have b6 : (k == 6) = false := by simpa using k6
 by_cases k1 : 1 < k
 ·simp only [k1, b2, b3, b6, decide_true, if_true, Bool.false_eq_true, if_false, r27_call_c6]
  exact ⟨_, rfl, h1, h2, h3, wfZ, z, z, nB, nl⟩
 ·simp only [k1, b2, b3, b6, decide_false, Bool.false_eq_true, if_false, r27_call_c8]
  exact ⟨_, rfl, h1, h2, wfT20, wfZ, z, z, nB, nl⟩
theorem sm_get (w : List (List UInt8)) (h : Sm w) (i : Nat) : (w.getD i []).length ≤ 20000 := by
 rw [List.getD_eq_getElem?_getD]
 rcases Nat.lt_or_ge i w.length with hi | hi
 ·rw [List.getElem?_eq_getElem hi]; exact h _ (List.getElem_mem hi)
 ·rw [List.getElem?_eq_none hi]; simp
theorem asked_gen (w : List (List UInt8)) (h : Sm w) : ∃ y4 y8 t o v r x, r27_value (w.getD 2 []) = some y4 ∧ r27_value (w.getD 3 []) = some y8 ∧ (1 < kd (w.getD 4 []) → r27_tx (w.getD 5 []) = some t) ∧ WfT2 t ∧
  r27_text (w.getD 6 []) = some o ∧ r27_text (w.getD 7 []) = some v ∧ r27_value (w.getD 7 []) = some r ∧ r27_value (w.getD 8 []) = some x ∧
  (∃ vs, r27_asked w = r27_call ⟨IntKind.wrap .u8 y4, IntKind.wrap .u32 y8, kd (w.getD 4 []), t, pad o, v, IntKind.wrap .u8 r, IntKind.wrap .u8 x, vs⟩ ∧ wB vs ∧ vs.length ≤ 9) ∧
  (∀ us, wB us → us.length ≤ 8 → w.drop 9 = us.map D → r27_asked w = r27_call ⟨IntKind.wrap .u8 y4, IntKind.wrap .u32 y8, kd (w.getD 4 []), t, pad o, v, IntKind.wrap .u8 r, IntKind.wrap .u8 x, us⟩) := by
 obtain ⟨y4, e4, _⟩ := val_tot (w.getD 2 [])
 obtain ⟨y8, e8, _⟩ := val_tot (w.getD 3 [])
 obtain ⟨o, eo⟩ := text_tot (w.getD 6 []) (sm_get w h 6)
 obtain ⟨v, ev⟩ := text_tot (w.getD 7 []) (sm_get w h 7)
 obtain ⟨r, er, _⟩ := val_tot (w.getD 7 [])
 obtain ⟨x, ex, _⟩ := val_tot (w.getD 8 [])
 have a2 : r27_at w 2 = some (w.getD 2 []) := at_eq w 2
 have a3 : r27_at w 3 = some (w.getD 3 []) := at_eq w 3
 have a5 : r27_at w 5 = some (w.getD 5 []) := at_eq w 5
 have a6 : r27_at w 6 = some (w.getD 6 []) := at_eq w 6
 have a7 : r27_at w 7 = some (w.getD 7 []) := at_eq w 7
 have a8 : r27_at w 8 = some (w.getD 8 []) := at_eq w 8
 have bg : big = (big - 7) + 7 := by have := big_lt (n := 100) (by omega); omega
 have b8 : 8 < big + 0 := by have := big_lt (n := 100) (by omega); omega
 have b20 : 20 < big + 9 := by have := big_lt (n := 100) (by omega); omega
 have e : r27_asked w = l0end w y4 y8 (kd (w.getD 4 [])) := by
  unfold r27_asked
  rw [a2, Option.bind_some, e4, Option.bind_some, a3, Option.bind_some, e8, Option.bind_some, bg, l0_kind]
 have l1 : ∀ t, r27_asked_l1 w (kd (w.getD 4 [])) y4 y8 big o 0 t (A8.mk 0 0 0 0 0 0 0 0) = r27_asked_l2 w (kd (w.getD 4 [])) t (pad o) y4 y8 big 9 v (IntKind.wrap .u8 r) (IntKind.wrap .u8 x) [] := by
  intro t
  refine (l1_key w (kd (w.getD 4 [])) y4 y8 t o big 0 b8 (by omega) (by omega)).trans ?_
  unfold l1end
  rw [a7, Option.bind_some, ev, Option.bind_some, Option.bind_some, er, Option.bind_some, a8, Option.bind_some, ex, Option.bind_some]
 have main : ∃ t, (1 < kd (w.getD 4 []) → r27_tx (w.getD 5 []) = some t) ∧ WfT2 t ∧ r27_asked w = r27_asked_l2 w (kd (w.getD 4 [])) t (pad o) y4 y8 big 9 v (IntKind.wrap .u8 r) (IntKind.wrap .u8 x) [] := by
  rw [e]; unfold l0end
  by_cases hk : 1 < kd (w.getD 4 [])
  ·obtain ⟨t, et, wt⟩ := tx_tot (w.getD 5 []) (sm_get w h 5)
   refine ⟨t, fun _ => et, wt, ?_⟩
   rw [if_pos (by rw [decide_eq_true_eq]; exact hk), a5, Option.bind_some, et, Option.bind_some, a6, Option.bind_some, eo, Option.bind_some]
   exact l1 t
  ·refine ⟨⟨0, 0, 0⟩, fun h => absurd h hk, wfT20, ?_⟩
   rw [if_neg (by rw [decide_eq_true_eq]; exact hk), a6, Option.bind_some, eo, Option.bind_some]
   exact l1 _
 obtain ⟨t, et, wt, em⟩ := main
 have L := l2_loop w (kd (w.getD 4 [])) t (pad o) y4 y8 v (IntKind.wrap .u8 r) (IntKind.wrap .u8 x) big 9 [] b20 (by omega) (by omega) (by simp) nB
 refine ⟨y4, y8, t, o, v, r, x, e4, e8, et, wt, eo, ev, er, ex, ?_, ?_⟩
 ·obtain ⟨vs, g1, g2, g3⟩ := L.1
  exact ⟨vs, em.trans g1, g2, g3⟩
 ·intro us hu hl hd
  exact em.trans (L.2 us hu (by omega) hd)
theorem asked_tot (w : List (List UInt8)) (h : Sm w) : ∃ c, r27_asked w = some c ∧ WfC2 c := by
 obtain ⟨y4, y8, t, o, v, r, x, _, _, _, wt, _, _, _, _, ⟨vs, e, w1, w2⟩, _⟩ := asked_gen w h
 rw [e]
 exact call_wf _ ⟨rw8 _, rw32 _, wt, wfK_pad o, rw8 _, rw8 _, w1, w2⟩
theorem askedA (c : T_r27_Call) (n : Int) (hS : Sm ([100, 111] :: D n :: CW c)) (wf : WfC c) (k1 : 1 ≤ c.f_Kind) (k2 : c.f_Kind ≤ 6) (hk : r27_call c = some c) (hy : (c.f_Kind = 2 ∨ c.f_Kind = 3 ∨ c.f_Kind = 6) → ∃ t, KN c.f_Key t) (hv : c.f_Votes.length ≤ 8) (hl : c.f_Value.length ≤ 64) :
  r27_asked ([100, 111] :: D n :: CW c) = some c := by
 obtain ⟨y4, y8, t, o, v, r, x, e4, e8, et, _, eo, ev, er, ex, ⟨vs, ea, _, _⟩, eu⟩ := asked_gen _ hS
 obtain ⟨cl, sq, k, tx, ky, val, R, W, vt⟩ := c
 obtain ⟨w1, w2, w3, w4, w5, w6, w7, _⟩ := wf
 simp only at w1 w2 w3 w4 w5 w6 w7 k1 k2 hy hv hl
 have h4 : y4 = cl := by
  have e4 : r27_value (D cl) = some y4 := e4
  rw [valA cl w1.1 (by omega)] at e4; exact (Option.some.inj e4).symm
 have h8 : y8 = sq := by
  have e8 : r27_value (D sq) = some y8 := e8
  rw [valA sq w2.1 w2.2] at e8; exact (Option.some.inj e8).symm
 subst h4; subst h8
 rw [wu8 w1.1 w1.2, wu32 w2.1 (by omega)] at ea eu
 have kk : k = 1 ∨ k = 2 ∨ k = 3 ∨ k = 4 ∨ k = 5 ∨ k = 6 := by omega
 have tt : ∀ {q : TX}, r27_tx (N tx) = some q → q = tx := fun hq => by rw [txA tx w3] at hq; exact (Option.some.inj hq).symm
 have oo : ∀ {q : List UInt8} {tk : List UInt8}, KN ky tk → r27_text (K ky) = some q → pad q = ky := fun ht hq => by
  rw [KN_K ht, textA _ (by have := ht.2.1; omega)] at hq; rw [← Option.some.inj hq]; exact ht.2.2.2.symm
 rcases kk with rfl | rfl | rfl | rfl | rfl | rfl
 ·cases (Option.some.inj hk)
  rw [ea]; rfl
 ·cases (Option.some.inj hk)
  obtain ⟨tk, ht⟩ := hy (by simp)
  have h1 := tt (et (show (1 : Int) < 2 from by decide)); have h2 := oo ht eo
  rw [ea, h1, h2]; rfl
 ·cases (Option.some.inj hk)
  obtain ⟨tk, ht⟩ := hy (by simp)
  have h1 := tt (et (show (1 : Int) < 3 from by decide)); have h2 := oo ht eo
  have h3 : v = val := by
   have ev : r27_text (H val) = some v := ev
   rw [textA val (by omega)] at ev; exact (Option.some.inj ev).symm
  rw [ea, h1, h2, h3]; rfl
 ·cases (Option.some.inj hk)
  have h1 := tt (et (show (1 : Int) < 4 from by decide))
  rw [ea, h1]; rfl
 ·cases (Option.some.inj hk)
  have h1 := tt (et (show (1 : Int) < 5 from by decide))
  rw [ea, h1]; rfl
 ·cases (Option.some.inj hk)
  obtain ⟨tk, ht⟩ := hy (by simp)
  have h1 := tt (et (show (1 : Int) < 6 from by decide)); have h2 := oo ht eo
  have h5 : r = R := by
   have er : r27_value (D R) = some r := er
   rw [valA R w5.1 (by omega)] at er; exact (Option.some.inj er).symm
  have h6 : x = W := by
   have ex : r27_value (D W) = some x := ex
   rw [valA W w6.1 (by omega)] at ex; exact (Option.some.inj ex).symm
  have := eu vt w7 hv rfl
  rw [this, h1, h2, h5, h6, wu8 w5.1 w5.2, wu8 w6.1 w6.2]; rfl
theorem wfC20 : WfC2 ⟨0, 0, 0, ⟨0, 0, 0⟩, A8.mk 0 0 0 0 0 0 0 0, [], 0, 0, []⟩ := ⟨by simp, by simp, wfT20, wfZ, by simp, by simp, nB, by simp⟩
structure GW (g : T_r27_Step) : Prop where
 c : WfC2 g.f_Call
 b : wB g.f_Bytes
theorem guess_tot (w : List (List UInt8)) (h : Sm w) : ∃ g, r27_guess w = some g ∧ GW g := by
 obtain ⟨n, en, _⟩ := val_tot (w.getD 1 [])
 have a0 : r27_at w 0 = some (w.getD 0 []) := at_eq w 0
 have a1 : r27_at w 1 = some (w.getD 1 []) := at_eq w 1
 have a2 : r27_at w 2 = some (w.getD 2 []) := at_eq w 2
 have a3 : r27_at w 3 = some (w.getD 3 []) := at_eq w 3
 have a4 : r27_at w 4 = some (w.getD 4 []) := at_eq w 4
 unfold r27_guess
 rw [a1, Option.bind_some, en, Option.bind_some, a0, Option.bind_some]
 split
 ·obtain ⟨c, e, wc⟩ := asked_tot w h
  rw [e]; exact ⟨_, rfl, wc, nB⟩
 split
 ·exact ⟨_, rfl, wfC20, nB⟩
 split
 ·exact ⟨_, rfl, wfC20, nB⟩
 split
 ·exact ⟨_, rfl, wfC20, nB⟩
 split
 ·exact ⟨_, rfl, wfC20, nB⟩
 unfold r27_guess_c13
 split
 ·exact ⟨_, rfl, wfC20, nB⟩
 split
 ·exact ⟨_, rfl, wfC20, nB⟩
 split
 ·obtain ⟨m, em, _⟩ := least_tot (w.getD 2 [])
  obtain ⟨o, eo⟩ := text_tot (w.getD 4 []) (sm_get w h 4)
  rw [a2, Option.bind_some, em, Option.bind_some, a3, Option.bind_some, a4, Option.bind_some, eo]
  exact ⟨_, rfl, wfC20, bytesI_wB o⟩
 split
 ·obtain ⟨m, em, _⟩ := least_tot (w.getD 2 [])
  rw [a2, Option.bind_some, em]
  exact ⟨_, rfl, wfC20, nB⟩
 split
 ·obtain ⟨m, em, _⟩ := val_tot (w.getD 2 [])
  obtain ⟨o, eo⟩ := text_tot (w.getD 3 []) (sm_get w h 3)
  rw [a2, Option.bind_some, em, Option.bind_some, a3, Option.bind_some, eo]
  exact ⟨_, rfl, wfC20, bytesI_wB o⟩
 ·exact ⟨_, rfl, wfC20, nB⟩
theorem guessE (w : List (List UInt8)) (n : Int) (e : r27_value (w.getD 1 []) = some n) (a : List UInt8) (ha : w.getD 0 [] = a) (X : Option T_r27_Step)
  (hX : (if ((a == ([100, 111] : List UInt8)) : Bool) then (r27_asked w).bind fun y9 => some (T_r27_Step.mk 1 n 0 0 false y9 0 ([] : List (Int)))
   else if ((a == ([100, 101, 108, 105, 118, 101, 114] : List UInt8)) : Bool) then some (T_r27_Step.mk 2 0 n 0 false (T_r27_Call.mk 0 0 0 (TX.mk 0 0 0) (A8.mk 0 0 0 0 0 0 0 0) [] 0 0 ([] : List (Int))) 0 ([] : List (Int)))
   else if ((a == ([100, 114, 111, 112] : List UInt8)) : Bool) then some (T_r27_Step.mk 3 0 n 0 false (T_r27_Call.mk 0 0 0 (TX.mk 0 0 0) (A8.mk 0 0 0 0 0 0 0 0) [] 0 0 ([] : List (Int))) 0 ([] : List (Int)))
   else if ((a == ([116, 119, 105, 99, 101] : List UInt8)) : Bool) then some (T_r27_Step.mk 4 0 n 0 false (T_r27_Call.mk 0 0 0 (TX.mk 0 0 0) (A8.mk 0 0 0 0 0 0 0 0) [] 0 0 ([] : List (Int))) 0 ([] : List (Int)))
   else if ((a == ([108, 97, 116, 101] : List UInt8)) : Bool) then r27_guess_c12 n else r27_guess_c13 w n a) = X) : r27_guess w = X := by
 have a0 : r27_at w 0 = some (w.getD 0 []) := at_eq w 0
 have a1 : r27_at w 1 = some (w.getD 1 []) := at_eq w 1
 unfold r27_guess
 rw [a1, Option.bind_some, e, Option.bind_some, a0, Option.bind_some, ha]
 exact hX
theorem guessA (g : T_r27_Step) (hS : Sm (TW g)) (ok : MayOK g) (hk : r27_kept g = some g) (wc : WfC g.f_Call) (wb : wB g.f_Bytes) : r27_guess (TW g) = some g := by
 have kk := kinds ok.k1 ok.k2
 have nd := ok.node; have wr := ok.wire; have to := ok.to; have nn := ok.n; have by_ := ok.bytes
 have cc := ok.call; have ck := ok.key
 obtain ⟨k, n, w, m, ct, c, t, bs⟩ := g
 simp only at kk nd wr to nn by_ cc ck wc wb
 have hs : bytesI (strI bs) = bs := strI_id bs wb
 have hsl : (strI bs).length = bs.length := by simp [strI]
 rcases kk with rfl | rfl | rfl | rfl | rfl | rfl | rfl | rfl | rfl | rfl
 ·obtain ⟨r, e1, _⟩ := pure_eq c wc.vt (by have := wc.vl; omega)
  have hk2 : (r27_call c).bind (fun y => some (T_r27_Step.mk 1 n 0 0 false y 0 [])) = some ⟨1, n, w, m, ct, c, t, bs⟩ := hk
  rw [e1] at hk2
  cases (Option.some.inj hk2)
  obtain ⟨c1, c2, c3, c4⟩ := cc rfl
  refine guessE _ n ?_ [100, 111] rfl _ ?_
  ·exact valA n nd.1 nd.2
  rw [if_pos (by rfl)]
  have := askedA c n hS wc c1 c2 e1 (fun h => KN_of _ wc.ky (ck rfl h)) c3 c4
  refine (congrArg (fun o => Option.bind o _) this).trans ?_
  rfl
 ·cases (Option.some.inj hk); refine guessE _ w ?_ _ rfl _ ?_; exact valA w wr.1 wr.2; rfl
 ·cases (Option.some.inj hk); refine guessE _ w ?_ _ rfl _ ?_; exact valA w wr.1 wr.2; rfl
 ·cases (Option.some.inj hk); refine guessE _ w ?_ _ rfl _ ?_; exact valA w wr.1 wr.2; rfl
 ·cases (Option.some.inj hk); refine guessE _ w ?_ _ rfl _ ?_; exact valA w wr.1 wr.2; rfl
 ·cases (Option.some.inj hk); refine guessE _ n ?_ _ rfl _ ?_; exact valA n nd.1 nd.2; rfl
 ·cases (Option.some.inj hk); refine guessE _ n ?_ _ rfl _ ?_; exact valA n nd.1 nd.2; rfl
 ·cases (Option.some.inj hk)
  have fin : ∀ h : List UInt8, r27_guess_c13 [[115, 116, 97, 114, 116], D n, S m, h, H (strI bs)] n [115, 116, 97, 114, 116] = some ⟨8, n, 0, m, (h == [99, 117, 116]), ⟨0, 0, 0, ⟨0, 0, 0⟩, A8.mk 0 0 0 0 0 0 0 0, [], 0, 0, []⟩, 0, bs⟩ := by
   intro h
   have a2 : r27_at [[115, 116, 97, 114, 116], D n, S m, h, H (strI bs)] 2 = some (S m) := at_eq _ 2
   have a3 : r27_at [[115, 116, 97, 114, 116], D n, S m, h, H (strI bs)] 3 = some h := at_eq _ 3
   have a4 : r27_at [[115, 116, 97, 114, 116], D n, S m, h, H (strI bs)] 4 = some (H (strI bs)) := at_eq _ 4
   unfold r27_guess_c13
   rw [if_neg (by exact Bool.false_ne_true), if_neg (by exact Bool.false_ne_true), if_pos (by rfl), a2, Option.bind_some, leastA m nn.1 nn.2, Option.bind_some, a3, Option.bind_some, a4, Option.bind_some, textA _ (by omega), Option.bind_some, hs]
  cases ct
  ·refine guessE _ n ?_ _ rfl _ (fin [119, 104, 111, 108, 101]); exact valA n nd.1 nd.2
  ·refine guessE _ n ?_ _ rfl _ (fin [99, 117, 116]); exact valA n nd.1 nd.2
 ·cases (Option.some.inj hk)
  refine guessE _ n ?_ _ rfl _ ?_
  ·exact valA n nd.1 nd.2
  show r27_guess_c13 [[97, 114, 109], D n, S m] n [97, 114, 109] = _
  have a2 : r27_at [[97, 114, 109], D n, S m] 2 = some (S m) := at_eq _ 2
  unfold r27_guess_c13
  rw [if_neg (by exact Bool.false_ne_true), if_neg (by exact Bool.false_ne_true), if_neg (by exact Bool.false_ne_true), if_pos (by rfl), a2, Option.bind_some, leastA m nn.1 nn.2, Option.bind_some]
 ·cases (Option.some.inj hk)
  refine guessE _ n ?_ _ rfl _ ?_
  ·exact valA n nd.1 nd.2
  show r27_guess_c13 [[105, 110, 106, 101, 99, 116], D n, D t, H (strI bs)] n [105, 110, 106, 101, 99, 116] = _
  have a2 : r27_at [[105, 110, 106, 101, 99, 116], D n, D t, H (strI bs)] 2 = some (D t) := at_eq _ 2
  have a3 : r27_at [[105, 110, 106, 101, 99, 116], D n, D t, H (strI bs)] 3 = some (H (strI bs)) := at_eq _ 3
  unfold r27_guess_c13
  rw [if_neg (by exact Bool.false_ne_true), if_neg (by exact Bool.false_ne_true), if_neg (by exact Bool.false_ne_true), if_neg (by exact Bool.false_ne_true), if_pos (by rfl), a2, Option.bind_some, valA t to.1 to.2, Option.bind_some, a3, Option.bind_some, textA _ (by omega), Option.bind_some, hs]
end Go.Proofs.YtdchgoaokceomaaGreatDoor.Wk
