import Derived.Test.YtdchgoaokceomaaGreatDoorTexQ
set_option linter.unusedVariables false
set_option linter.unusedSimpArgs false
set_option linter.unusedSectionVars false
namespace Go.Proofs.YtdchgoaokceomaaGreatDoor.Wk
open Go Go.Cn
set_option maxRecDepth 10000
def ofP (s : TS) : T_r27_Step := ⟨s.f_Kind, s.f_Node, s.f_Wire, s.f_N, s.f_Cut, ofC s.f_Call, s.f_To, s.f_Bytes⟩
def VL : List (List UInt8) := [[], [100, 111], [100, 101, 108, 105, 118, 101, 114], [100, 114, 111, 112], [116, 119, 105, 99, 101], [108, 97, 116, 101], [116, 105, 99, 107], [99, 114, 97, 115, 104], [115, 116, 97, 114, 116], [97, 114, 109], [105, 110, 106, 101, 99, 116]]
def HL : List (List UInt8) := [[], [119, 104, 111, 108, 101], [99, 117, 116]]
def TW (s : T_r27_Step) : List (List UInt8) :=
 if s.f_Kind = 1 then [100, 111] :: D s.f_Node :: CW s.f_Call else if s.f_Kind = 2 then [[100, 101, 108, 105, 118, 101, 114], D s.f_Wire] else if s.f_Kind = 3 then [[100, 114, 111, 112], D s.f_Wire]
 else if s.f_Kind = 4 then [[116, 119, 105, 99, 101], D s.f_Wire] else if s.f_Kind = 5 then [[108, 97, 116, 101], D s.f_Wire] else if s.f_Kind = 6 then [[116, 105, 99, 107], D s.f_Node]
 else if s.f_Kind = 7 then [[99, 114, 97, 115, 104], D s.f_Node] else if s.f_Kind = 8 then [[115, 116, 97, 114, 116], D s.f_Node, S s.f_N, if s.f_Cut then [99, 117, 116] else [119, 104, 111, 108, 101], H (strI s.f_Bytes)]
 else if s.f_Kind = 9 then [[97, 114, 109], D s.f_Node, S s.f_N] else [[105, 110, 106, 101, 99, 116], D s.f_Node, D s.f_To, H (strI s.f_Bytes)]
def stepBody (x_r : TQ) (y4 : RB) : Option (TS × List (List UInt8) × Bool) :=
 if (((IntKind.wrap .u8 y4.1) == 2) : Bool) then
  (sr_num (TQ.mk y4.2.1 y4.2.2)).bind fun y7 =>
  some ((TS.mk (IntKind.wrap .u8 y4.1) 0 y7.1 0 false (TN.mk (TE.mk 0 0) 0 (TX.mk 0 0 0) (A8.mk 0 0 0 0 0 0 0 0) [] 0 0 ([] : List (Int))) 0 ([] : List (Int))), y7.2.1, y7.2.2)
 else
  if (((IntKind.wrap .u8 y4.1) == 3) : Bool) then
   sr_step_c7 x_r y4
  else
   sr_step_c5 x_r y4
theorem step_def (x : TQ) : sr_step x = (sr_of x VL).bind fun y4 => stepBody x y4 := rfl
def zC : TN := TN.mk (TE.mk 0 0) 0 (TX.mk 0 0 0) (A8.mk 0 0 0 0 0 0 0 0) [] 0 0 []
section
variable (x : TQ) (l : List (List UInt8)) (b : Bool)
theorem sb0 : stepBody x (0, l, b) = (sr_num ⟨l, b⟩).bind fun n => some (⟨0, n.1, 0, 0, false, zC, 0, []⟩, n.2.1, n.2.2) := rfl
theorem sb1 : stepBody x (1, l, b) = (sr_num ⟨l, b⟩).bind fun n => (sr_call ⟨n.2.1, n.2.2⟩).bind fun c => some (⟨1, n.1, 0, 0, false, c.1, 0, []⟩, c.2.1, c.2.2) := rfl
theorem sb2 : stepBody x (2, l, b) = (sr_num ⟨l, b⟩).bind fun n => some (⟨2, 0, n.1, 0, false, zC, 0, []⟩, n.2.1, n.2.2) := rfl
theorem sb3 : stepBody x (3, l, b) = (sr_num ⟨l, b⟩).bind fun n => some (⟨3, 0, n.1, 0, false, zC, 0, []⟩, n.2.1, n.2.2) := rfl
theorem sb4 : stepBody x (4, l, b) = (sr_num ⟨l, b⟩).bind fun n => some (⟨4, 0, n.1, 0, false, zC, 0, []⟩, n.2.1, n.2.2) := rfl
theorem sb5 : stepBody x (5, l, b) = (sr_num ⟨l, b⟩).bind fun n => some (⟨5, 0, n.1, 0, false, zC, 0, []⟩, n.2.1, n.2.2) := rfl
theorem sb6 : stepBody x (6, l, b) = (sr_num ⟨l, b⟩).bind fun n => some (⟨6, n.1, 0, 0, false, zC, 0, []⟩, n.2.1, n.2.2) := rfl
theorem sb7 : stepBody x (7, l, b) = (sr_num ⟨l, b⟩).bind fun n => some (⟨7, n.1, 0, 0, false, zC, 0, []⟩, n.2.1, n.2.2) := rfl
theorem sb8 : stepBody x (8, l, b) = (sr_num ⟨l, b⟩).bind fun n => (sr_keep ⟨n.2.1, n.2.2⟩).bind fun k => (sr_of ⟨k.2.1, k.2.2⟩ HL).bind fun h => (sr_bytes ⟨h.2.1, h.2.2⟩).bind fun o =>
  some (⟨8, n.1, 0, k.1, (h.1 == 2), zC, 0, o.1⟩, o.2.1, o.2.2) := rfl
theorem sb9 : stepBody x (9, l, b) = (sr_num ⟨l, b⟩).bind fun n => (sr_keep ⟨n.2.1, n.2.2⟩).bind fun k => some (⟨9, n.1, 0, k.1, false, zC, 0, []⟩, k.2.1, k.2.2) := rfl
theorem sb10 : stepBody x (10, l, b) = (sr_num ⟨l, b⟩).bind fun n => (sr_num ⟨n.2.1, n.2.2⟩).bind fun t => (sr_bytes ⟨t.2.1, t.2.2⟩).bind fun o => some (⟨10, n.1, 0, 0, false, zC, t.1, o.1⟩, o.2.1, o.2.2) := rfl
end
theorem wfZC : WfC (ofC zC) := ⟨by simp [ofC, zC], by simp [ofC, zC], wfT0, wfZ, by simp [ofC, zC], by simp [ofC, zC], nB, by simp [ofC, zC]⟩
structure RdS (s : TS) : Prop where
 c : WfC (ofC s.f_Call)
 b : wB s.f_Bytes
theorem rstepB (l : List (List UInt8)) (b : Bool) (h : Sm l) : ∃ s l' b', sr_step ⟨l, b⟩ = some (s, l', b') ∧ RdS s ∧ (b' = false → l = TW (ofP s) ++ l') := by
 obtain ⟨v, l1, b1, e1, s1, p1, q1, r1⟩ := rofB VL (by decide) l b h
 have hd : ∀ {k : Nat}, b1 = false → v = (k : Int) → l = VL.getD k default :: l1 := by
  intro k hb hk
  obtain ⟨_, _, _, i4⟩ := r1 hb
  rw [i4, hk, Int.toNat_natCast]
 rw [step_def, e1, Option.bind_some]
 have hv : v = 0 ∨ v = 1 ∨ v = 2 ∨ v = 3 ∨ v = 4 ∨ v = 5 ∨ v = 6 ∨ v = 7 ∨ v = 8 ∨ v = 9 ∨ v = 10 := by
  have : (VL.length : Int) = 11 := rfl
  omega
 obtain ⟨n, l2, b2, e2, s2, p2, q2, r2⟩ := rnumB l1 b1 s1
 rcases hv with rfl | rfl | rfl | rfl | rfl | rfl | rfl | rfl | rfl | rfl | rfl
 ·refine ⟨⟨0, n, 0, 0, false, zC, 0, []⟩, l2, b2, by rw [sb0, e2]; rfl, ⟨wfZC, nB⟩, fun hb => ?_⟩
  have := (r1 (r2 hb).1).2.1; omega
 ·obtain ⟨c, l3, b3, e3, s3, w3, r3⟩ := rcallB l2 b2 s2
  refine ⟨⟨1, n, 0, 0, false, c, 0, []⟩, l3, b3, ?_, ⟨w3, nB⟩, fun hb => ?_⟩
  ·rw [sb1, e2, Option.bind_some]
   show (sr_call ⟨l2, b2⟩).bind _ = _
   rw [e3]; rfl
  ·obtain ⟨i3, j3⟩ := r3 hb; obtain ⟨i2, j2⟩ := r2 i3
   rw [hd (k := 1) i2 rfl, j2, j3]; rfl
 ·refine ⟨⟨2, 0, n, 0, false, zC, 0, []⟩, l2, b2, by rw [sb2, e2]; rfl, ⟨wfZC, nB⟩, fun hb => ?_⟩
  obtain ⟨i2, j2⟩ := r2 hb; rw [hd (k := 2) i2 rfl, j2]; rfl
 ·refine ⟨⟨3, 0, n, 0, false, zC, 0, []⟩, l2, b2, by rw [sb3, e2]; rfl, ⟨wfZC, nB⟩, fun hb => ?_⟩
  obtain ⟨i2, j2⟩ := r2 hb; rw [hd (k := 3) i2 rfl, j2]; rfl
 ·refine ⟨⟨4, 0, n, 0, false, zC, 0, []⟩, l2, b2, by rw [sb4, e2]; rfl, ⟨wfZC, nB⟩, fun hb => ?_⟩
  obtain ⟨i2, j2⟩ := r2 hb; rw [hd (k := 4) i2 rfl, j2]; rfl
 ·refine ⟨⟨5, 0, n, 0, false, zC, 0, []⟩, l2, b2, by rw [sb5, e2]; rfl, ⟨wfZC, nB⟩, fun hb => ?_⟩
  obtain ⟨i2, j2⟩ := r2 hb; rw [hd (k := 5) i2 rfl, j2]; rfl
 ·refine ⟨⟨6, n, 0, 0, false, zC, 0, []⟩, l2, b2, by rw [sb6, e2]; rfl, ⟨wfZC, nB⟩, fun hb => ?_⟩
  obtain ⟨i2, j2⟩ := r2 hb; rw [hd (k := 6) i2 rfl, j2]; rfl
 ·refine ⟨⟨7, n, 0, 0, false, zC, 0, []⟩, l2, b2, by rw [sb7, e2]; rfl, ⟨wfZC, nB⟩, fun hb => ?_⟩
  obtain ⟨i2, j2⟩ := r2 hb; rw [hd (k := 7) i2 rfl, j2]; rfl
 ·obtain ⟨m, l3, b3, e3, s3, p3, q3, r3⟩ := rkeepB l2 b2 s2
  obtain ⟨hw, l4, b4, e4, s4, p4, q4, r4⟩ := rofB HL (by decide) l3 b3 s3
  obtain ⟨o, l5, b5, e5, s5, lo, r5⟩ := rbytesB l4 b4 s4
  refine ⟨⟨8, n, 0, m, (hw == 2), zC, 0, bytesI o⟩, l5, b5, ?_, ⟨wfZC, bytesI_wB o⟩, fun hb => ?_⟩
  ·rw [sb8, e2, Option.bind_some]
   show (sr_keep ⟨l2, b2⟩).bind _ = _
   rw [e3, Option.bind_some]
   show (sr_of ⟨l3, b3⟩ HL).bind _ = _
   rw [e4, Option.bind_some]
   show (sr_bytes ⟨l4, b4⟩).bind _ = _
   rw [e5]; rfl
  ·obtain ⟨i5, j5⟩ := r5 hb; obtain ⟨i4, k1, k2, j4⟩ := r4 i5; obtain ⟨i3, j3⟩ := r3 i4; obtain ⟨i2, j2⟩ := r2 i3
   have hh : hw = 1 ∨ hw = 2 := by
    have : (HL.length : Int) = 3 := rfl
    omega
   rw [hd (k := 8) i2 rfl, j2, j3, j4, j5]
   show _ = [[115, 116, 97, 114, 116], D n, S m, if (hw == 2) = true then [99, 117, 116] else [119, 104, 111, 108, 101], H (strI (bytesI o))] ++ l5
   rw [strI_bytesI]
   rcases hh with rfl | rfl <;> rfl
 ·obtain ⟨m, l3, b3, e3, s3, p3, q3, r3⟩ := rkeepB l2 b2 s2
  refine ⟨⟨9, n, 0, m, false, zC, 0, []⟩, l3, b3, ?_, ⟨wfZC, nB⟩, fun hb => ?_⟩
  ·rw [sb9, e2, Option.bind_some]
   show (sr_keep ⟨l2, b2⟩).bind _ = _
   rw [e3]; rfl
  ·obtain ⟨i3, j3⟩ := r3 hb; obtain ⟨i2, j2⟩ := r2 i3
   rw [hd (k := 9) i2 rfl, j2, j3]; rfl
 ·obtain ⟨t, l3, b3, e3, s3, p3, q3, r3⟩ := rnumB l2 b2 s2
  obtain ⟨o, l5, b5, e5, s5, lo, r5⟩ := rbytesB l3 b3 s3
  refine ⟨⟨10, n, 0, 0, false, zC, t, bytesI o⟩, l5, b5, ?_, ⟨wfZC, bytesI_wB o⟩, fun hb => ?_⟩
  ·rw [sb10, e2, Option.bind_some]
   show (sr_num ⟨l2, b2⟩).bind _ = _
   rw [e3, Option.bind_some]
   show (sr_bytes ⟨l3, b3⟩).bind _ = _
   rw [e5]; rfl
  ·obtain ⟨i5, j5⟩ := r5 hb; obtain ⟨i3, j3⟩ := r3 i5; obtain ⟨i2, j2⟩ := r2 i3
   rw [hd (k := 10) i2 rfl, j2, j3, j5]
   show _ = [[105, 110, 106, 101, 99, 116], D n, D t, H (strI (bytesI o))] ++ l5
   rw [strI_bytesI]; rfl
theorem ofA (L : List (List UInt8)) (m : Nat) (hL : L.length < 200) (h1 : 1 ≤ m) (hm : m < L.length) (hn : ∀ k, k < m → L.getD k default ≠ L.getD m default) (l : List (List UInt8)) (b : Bool) :
  sr_of ⟨L.getD m default :: l, b⟩ L = some ((m : Int), l, b) := rofA L hL _ m h1 hm rfl hn l b
theorem callA (c : T_r27_Call) (wf : WfC c) (k1 : 1 ≤ c.f_Kind) (k2 : c.f_Kind ≤ 6) (hk : r27_call c = some c) (hy : (c.f_Kind = 2 ∨ c.f_Kind = 3 ∨ c.f_Kind = 6) → ∃ t, KN c.f_Key t) (hv : c.f_Votes.length ≤ 8) (hl : c.f_Value.length ≤ 64) :
  sr_call ⟨CW c, false⟩ = some (toC c, [], false) := by
 obtain ⟨cl, sq, k, tx, ky, v, r, w, vt⟩ := c
 obtain ⟨w1, w2, w3, w4, w5, w6, w7, _⟩ := wf
 simp only at w1 w2 w3 w4 w5 w6 w7 k1 k2 hy hv hl
 have E : ∀ (m : Nat) (rest : List (List UInt8)), (1 ≤ m ∧ m < 7) → sr_call ⟨D cl :: D sq :: CL.getD m default :: rest, false⟩ = callBody ⟨D cl :: D sq :: CL.getD m default :: rest, false⟩ (cl, D sq :: CL.getD m default :: rest, false) (sq, CL.getD m default :: rest, false) ((m : Int), rest, false) := by
  intro m rest hm
  rw [call_def, rsmallA _ false cl w1.1 w1.2, Option.bind_some]
  show (sr_num ⟨D sq :: CL.getD m default :: rest, false⟩).bind _ = _
  rw [rnumA _ false sq w2.1 w2.2, Option.bind_some]
  show (sr_of ⟨CL.getD m default :: rest, false⟩ CL).bind _ = _
  rw [ofA CL m (by decide) hm.1 hm.2 (by
   have : m = 1 ∨ m = 2 ∨ m = 3 ∨ m = 4 ∨ m = 5 ∨ m = 6 := by omega
   rcases this with rfl | rfl | rfl | rfl | rfl | rfl <;> decide) rest false, Option.bind_some]
 have ws : IntKind.wrap .u32 sq = sq := wu32 w2.1 (by omega)
 have kk : k = 1 ∨ k = 2 ∨ k = 3 ∨ k = 4 ∨ k = 5 ∨ k = 6 := by omega
 rcases kk with rfl | rfl | rfl | rfl | rfl | rfl
 ·cases (Option.some.inj hk)
  refine (E 1 [] (by omega)).trans ?_
  show callBody _ _ _ (1, [], false) = _
  rw [cb1]; unfold mkC; rw [ws]; rfl
 ·cases (Option.some.inj hk)
  obtain ⟨t, ht⟩ := hy (by simp)
  refine (E 2 [N tx, K ky] (by omega)).trans ?_
  show callBody _ _ _ (2, [N tx, K ky], false) = _
  rw [cb2, rtxA _ false tx w3, Option.bind_some]
  show (sr_key ⟨[K ky], false⟩).bind _ = _
  rw [KN_K ht, rkeyA [] ky t ht, Option.bind_some]; unfold mkC; rw [ws]; rfl
 ·cases (Option.some.inj hk)
  obtain ⟨t, ht⟩ := hy (by simp)
  refine (E 3 [N tx, K ky, H v] (by omega)).trans ?_
  show callBody _ _ _ (3, [N tx, K ky, H v], false) = _
  rw [cb3, rtxA _ false tx w3, Option.bind_some]
  show (sr_key ⟨[K ky, H v], false⟩).bind _ = _
  rw [KN_K ht, rkeyA [H v] ky t ht, Option.bind_some]
  show (sr_bytes ⟨[H v], false⟩).bind _ = _
  rw [rbytesA [] v (by omega), Option.bind_some]; unfold mkC
  show some (TN.mk _ 3 tx ky (strI (bytesI v)) 0 0 [], _, _) = _
  rw [strI_bytesI, ws]; rfl
 ·cases (Option.some.inj hk)
  refine (E 4 [N tx] (by omega)).trans ?_
  show callBody _ _ _ (4, [N tx], false) = _
  rw [cb4, rtxA _ false tx w3, Option.bind_some]; unfold mkC; rw [ws]; rfl
 ·cases (Option.some.inj hk)
  refine (E 5 [N tx] (by omega)).trans ?_
  show callBody _ _ _ (5, [N tx], false) = _
  rw [cb5, rtxA _ false tx w3, Option.bind_some]; unfold mkC; rw [ws]; rfl
 ·cases (Option.some.inj hk)
  obtain ⟨t, ht⟩ := hy (by simp)
  refine (E 6 ([N tx, K ky, D r, D w] ++ vt.map D) (by omega)).trans ?_
  show callBody _ _ _ (6, N tx :: K ky :: D r :: D w :: vt.map D, false) = _
  rw [cb6, rtxA _ false tx w3, Option.bind_some]
  show (sr_key ⟨K ky :: D r :: D w :: vt.map D, false⟩).bind _ = _
  rw [KN_K ht, rkeyA _ ky t ht, Option.bind_some]
  show (sr_small ⟨D r :: D w :: vt.map D, false⟩).bind _ = _
  rw [rsmallA _ false r w5.1 w5.2, Option.bind_some]
  show (sr_small ⟨D w :: vt.map D, false⟩).bind _ = _
  rw [rsmallA _ false w w6.1 w6.2, Option.bind_some]
  refine (vloopA _ _ _ _ false tx ky r w vt big [] w7 (by have := big_lt (n := 1000) (by omega); omega) (by simpa using hv)).trans ?_
  unfold mkC; rw [ws]; rfl
end Go.Proofs.YtdchgoaokceomaaGreatDoor.Wk
