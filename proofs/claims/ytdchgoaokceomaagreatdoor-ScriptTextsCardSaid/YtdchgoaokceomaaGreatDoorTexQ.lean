import Derived.Test.YtdchgoaokceomaaGreatDoorTexY
set_option linter.unusedVariables false
set_option linter.unusedSimpArgs false
set_option linter.unusedSectionVars false
namespace Go.Proofs.YtdchgoaokceomaaGreatDoor.Wk
open Go Go.Cn
set_option maxRecDepth 10000
def ofC (c : TN) : T_r27_Call := ⟨c.f_Call.f_Client, c.f_Call.f_Seq, c.f_Kind, c.f_Tx, c.f_Key, c.f_Value, c.f_R, c.f_W, c.f_Votes⟩
def CR (c : T_r27_Call) : List (List UInt8) :=
 if c.f_Kind = 1 then [[98, 101, 103, 105, 110]] else if c.f_Kind = 2 then [[114, 101, 97, 100], N c.f_Tx, K c.f_Key] else if c.f_Kind = 3 then [[119, 114, 105, 116, 101], N c.f_Tx, K c.f_Key, H c.f_Value]
 else if c.f_Kind = 4 then [[99, 111, 109, 109, 105, 116], N c.f_Tx] else if c.f_Kind = 5 then [[97, 98, 111, 114, 116], N c.f_Tx] else [[99, 104, 97, 110, 103, 101], N c.f_Tx, K c.f_Key, D c.f_R, D c.f_W] ++ c.f_Votes.map D
def CW (c : T_r27_Call) : List (List UInt8) := D c.f_Client :: D c.f_Seq :: CR c
structure WfC (c : T_r27_Call) : Prop where
 cl : 0 ≤ c.f_Client ∧ c.f_Client < 256
 sq : 0 ≤ c.f_Seq ∧ c.f_Seq ≤ 2147483647
 tx : WfT c.f_Tx
 ky : wfK c.f_Key
 r : 0 ≤ c.f_R ∧ c.f_R < 256
 w : 0 ≤ c.f_W ∧ c.f_W < 256
 vt : wB c.f_Votes
 vl : c.f_Votes.length ≤ 9
abbrev TB := TN × List (List UInt8) × Bool
abbrev RB := Int × List (List UInt8) × Bool
def callBody (x_r : TQ) (y2 y4 y8 : RB) : Option TB :=
 if ((decide (1 < (IntKind.wrap .u8 y8.1))) : Bool) then
  (sr_tx (TQ.mk y8.2.1 y8.2.2)).bind fun y11 =>
  (script_hasKey (IntKind.wrap .u8 y8.1)).bind fun y13 =>
  if (y13 : Bool) then
   sr_call_c8 x_r y2 y4 y8  y11.2.1 y11.2.2 y11.1
  else
   sr_call_c9 x_r y2 y4 y8  y11.2.1 y11.2.2 y11.1
 else
  (script_hasKey (IntKind.wrap .u8 y8.1)).bind fun y12 =>
  if (y12 : Bool) then
   sr_call_c8 x_r y2 y4 y8  y8.2.1 y8.2.2 (TX.mk 0 0 0)
  else
   sr_call_c9 x_r y2 y4 y8  y8.2.1 y8.2.2 (TX.mk 0 0 0)
def CL : List (List UInt8) := [[], [98, 101, 103, 105, 110], [114, 101, 97, 100], [119, 114, 105, 116, 101], [99, 111, 109, 109, 105, 116], [97, 98, 111, 114, 116], [99, 104, 97, 110, 103, 101]]
theorem call_def (x : TQ) : sr_call x = (sr_small x).bind fun y2 => (sr_num ⟨y2.2.1, y2.2.2⟩).bind fun y4 => (sr_of ⟨y4.2.1, y4.2.2⟩ CL).bind fun y8 => callBody x y2 y4 y8 := rfl
def mkC (y2 y4 : RB) (k : Int) (t : TX) (ky : A8 Int) (v : List UInt8) (r w : Int) (vs : List Int) : TN := TN.mk (TE.mk y2.1 (IntKind.wrap .u32 y4.1)) k t ky v r w vs
theorem cb0 (x : TQ) (y2 y4 : RB) (l : List (List UInt8)) (b : Bool) : callBody x y2 y4 (0, l, b) = some (mkC y2 y4 0 ⟨0, 0, 0⟩ zeroK [] 0 0 [], l, b) := rfl
theorem cb1 (x : TQ) (y2 y4 : RB) (l : List (List UInt8)) (b : Bool) : callBody x y2 y4 (1, l, b) = some (mkC y2 y4 1 ⟨0, 0, 0⟩ zeroK [] 0 0 [], l, b) := rfl
theorem cb2 (x : TQ) (y2 y4 : RB) (l : List (List UInt8)) (b : Bool) : callBody x y2 y4 (2, l, b) = (sr_tx ⟨l, b⟩).bind fun t => (sr_key ⟨t.2.1, t.2.2⟩).bind fun k => some (mkC y2 y4 2 t.1 k.1 [] 0 0 [], k.2.1, k.2.2) := rfl
theorem cb3 (x : TQ) (y2 y4 : RB) (l : List (List UInt8)) (b : Bool) : callBody x y2 y4 (3, l, b) = (sr_tx ⟨l, b⟩).bind fun t => (sr_key ⟨t.2.1, t.2.2⟩).bind fun k => (sr_bytes ⟨k.2.1, k.2.2⟩).bind fun v => some (mkC y2 y4 3 t.1 k.1 (strI v.1) 0 0 [], v.2.1, v.2.2) := rfl
theorem cb4 (x : TQ) (y2 y4 : RB) (l : List (List UInt8)) (b : Bool) : callBody x y2 y4 (4, l, b) = (sr_tx ⟨l, b⟩).bind fun t => some (mkC y2 y4 4 t.1 zeroK [] 0 0 [], t.2.1, t.2.2) := rfl
theorem cb5 (x : TQ) (y2 y4 : RB) (l : List (List UInt8)) (b : Bool) : callBody x y2 y4 (5, l, b) = (sr_tx ⟨l, b⟩).bind fun t => some (mkC y2 y4 5 t.1 zeroK [] 0 0 [], t.2.1, t.2.2) := rfl
theorem cb6 (x : TQ) (y2 y4 : RB) (l : List (List UInt8)) (b : Bool) : callBody x y2 y4 (6, l, b) = (sr_tx ⟨l, b⟩).bind fun t => (sr_key ⟨t.2.1, t.2.2⟩).bind fun k => (sr_small ⟨k.2.1, k.2.2⟩).bind fun r => (sr_small ⟨r.2.1, r.2.2⟩).bind fun w => sr_call_l0 x y2 y4 (6, l, b) big w.2.1 w.2.2 t.1 k.1 r.1 w.1 [] := rfl
theorem vloopB (x : TQ) (y2 y4 : RB) (l0 : List (List UInt8)) (b0 : Bool) (t : TX) (k : A8 Int) (R W : Int) : ∀ (fuel : Nat) (l : List (List UInt8)) (b : Bool) (acc : List Int), Sm l → wB acc → 10 < fuel + acc.length → acc.length ≤ 9 →
  ∃ vs l' b', sr_call_l0 x y2 y4 (6, l0, b0) fuel l b t k R W acc = some (mkC y2 y4 6 t k [] R W (acc ++ vs), l', b') ∧ Sm l' ∧ wB (acc ++ vs) ∧ (acc ++ vs).length ≤ 9 ∧ (b' = false → b = false ∧ l = vs.map D ++ l')
 | 0, l, b, acc, _, _, h, h' => by omega
 | fuel + 1, l, b, acc, hS, hB, h, h' => by
  have stop : sr_call_l0 x y2 y4 (6, l0, b0) (fuel + 1) l b t k R W acc = some (mkC y2 y4 6 t k [] R W acc, l, b) → ∃ vs l' b', sr_call_l0 x y2 y4 (6, l0, b0) (fuel + 1) l b t k R W acc = some (mkC y2 y4 6 t k [] R W (acc ++ vs), l', b') ∧ Sm l' ∧ wB (acc ++ vs) ∧ (acc ++ vs).length ≤ 9 ∧ (b' = false → b = false ∧ l = vs.map D ++ l') :=
   fun e => ⟨[], l, b, by rw [e, List.append_nil], hS, by rw [List.append_nil]; exact hB, by simpa using h', fun hb => ⟨hb, rfl⟩⟩
  by_cases h0 : 0 < l.length
  ·by_cases h8 : acc.length ≤ 8
   ·obtain ⟨v, l1, b1, e1, s1, r1, r2, r3⟩ := rsmallB l b hS
    have e : sr_call_l0 x y2 y4 (6, l0, b0) (fuel + 1) l b t k R W acc = sr_call_l0 x y2 y4 (6, l0, b0) fuel l1 b1 t k R W (acc ++ [v]) := by
     rw [sr_call_l0, if_pos (by rw [decide_eq_true_eq]; omega), if_pos (by rw [decide_eq_true_eq]; omega), e1, Option.bind_some, if_pos (by simp only [List.length_cons, List.length_nil]; omega)]
    obtain ⟨vs, l', b', i1, i2, i3, i4, i5⟩ := vloopB x y2 y4 l0 b0 t k R W fuel l1 b1 (acc ++ [v]) s1 (by
     intro z hz
     rcases List.mem_append.1 hz with hz | hz
     ·exact hB z hz
     ·rw [List.mem_singleton] at hz; subst hz; exact ⟨r1, r2⟩) (by simp; omega) (by simp; omega)
    refine ⟨v :: vs, l', b', by rw [e, i1, List.append_assoc]; rfl, i2, by simpa using i3, by simpa using i4, fun hb => ?_⟩
    obtain ⟨j1, j2⟩ := i5 hb
    obtain ⟨j3, j4⟩ := r3 j1
    exact ⟨j3, by rw [j4, j2]; rfl⟩
   ·exact stop (by rw [sr_call_l0, if_pos (by rw [decide_eq_true_eq]; omega), if_neg (by rw [decide_eq_true_eq]; omega)]; rfl)
  ·exact stop (by rw [sr_call_l0, if_neg (by rw [decide_eq_true_eq]; omega)]; rfl)
theorem vloopA (x : TQ) (y2 y4 : RB) (l0 : List (List UInt8)) (b0 : Bool) (t : TX) (k : A8 Int) (R W : Int) : ∀ (vs : List Int) (fuel : Nat) (acc : List Int), wB vs → vs.length < fuel → acc.length + vs.length ≤ 8 →
  sr_call_l0 x y2 y4 (6, l0, b0) fuel (vs.map D) false t k R W acc = some (mkC y2 y4 6 t k [] R W (acc ++ vs), [], false)
 | _, 0, _, _, h, _ => by omega
 | [], fuel + 1, acc, _, _, _ => by rw [sr_call_l0, if_neg (by simp), List.append_nil]; rfl
 | v :: vs, fuel + 1, acc, hw, h, h' => by
  have hv := hw v (List.mem_cons_self ..)
  simp only [List.length_cons] at h h'
  rw [sr_call_l0, if_pos (by rw [decide_eq_true_eq, List.length_map, List.length_cons]; omega), if_pos (by rw [decide_eq_true_eq]; omega), List.map_cons, rsmallA (vs.map D) false v hv.1 hv.2, Option.bind_some, if_pos (by simp only [List.length_cons, List.length_nil]; omega)]
  have := vloopA x y2 y4 l0 b0 t k R W vs fuel (acc ++ [v]) (fun z hz => hw z (List.mem_cons_of_mem _ hz)) (by omega) (by simp; omega)
  rw [List.append_assoc] at this
  exact this
theorem wfZ : wfK zeroK := by
 intro x hx
 simp only [zeroK, A8.list, List.mem_cons, List.not_mem_nil, or_false, or_self] at hx
 subst hx; omega
theorem wfT0 : WfT ⟨0, 0, 0⟩ := ⟨by simp, by simp, by simp⟩
theorem nB : wB ([] : List Int) := fun x hx => by simp at hx
theorem rcallB (l : List (List UInt8)) (b : Bool) (h : Sm l) : ∃ c l' b', sr_call ⟨l, b⟩ = some (c, l', b') ∧ Sm l' ∧ WfC (ofC c) ∧ (b' = false → b = false ∧ l = CW (ofC c) ++ l') := by
 obtain ⟨v2, l2, b2, e2, s2, p2, q2, r2⟩ := rsmallB l b h
 obtain ⟨v4, l4, b4, e4, s4, p4, q4, r4⟩ := rnumB l2 b2 s2
 obtain ⟨v8, l8, b8, e8, s8, p8, q8, r8⟩ := rofB CL (by decide) l4 b4 s4
 have E : sr_call ⟨l, b⟩ = callBody ⟨l, b⟩ (v2, l2, b2) (v4, l4, b4) (v8, l8, b8) := by
  rw [call_def, e2, Option.bind_some]
  show (sr_num ⟨l2, b2⟩).bind _ = _
  rw [e4, Option.bind_some]
  show (sr_of ⟨l4, b4⟩ CL).bind _ = _
  rw [e8, Option.bind_some]
 have w4 : IntKind.wrap .u32 v4 = v4 := wu32 p4 (by omega)
 have hd : ∀ {b' : Bool} {x : List (List UInt8)} {k : Nat}, (b8 = false) → v8 = (k : Int) → b = false ∧ l = D v2 :: D v4 :: CL.getD k default :: l8 := by
  intro _ _ k hb hk
  obtain ⟨i1, _, _, i4⟩ := r8 hb
  obtain ⟨i5, i6⟩ := r4 i1
  obtain ⟨i7, i8⟩ := r2 i5
  refine ⟨i7, ?_⟩
  rw [i8, i6, i4, hk, Int.toNat_natCast]
 rw [E]
 have hv : v8 = 0 ∨ v8 = 1 ∨ v8 = 2 ∨ v8 = 3 ∨ v8 = 4 ∨ v8 = 5 ∨ v8 = 6 := by
  have : (CL.length : Int) = 7 := rfl
  omega
 have wc : ∀ (k : Int) (t : TX) (ky : A8 Int) (v : List UInt8) (r w : Int) (vs : List Int), WfT t → wfK ky → (0 ≤ r ∧ r < 256) → (0 ≤ w ∧ w < 256) → wB vs → vs.length ≤ 9 → WfC (ofC (mkC (v2, l2, b2) (v4, l4, b4) k t ky v r w vs)) :=
  fun k t ky v r w vs a1 a2 a3 a4 a5 a6 => ⟨⟨p2, q2⟩, by show 0 ≤ IntKind.wrap .u32 v4 ∧ IntKind.wrap .u32 v4 ≤ _; rw [w4]; exact ⟨p4, q4⟩, a1, a2, a3, a4, a5, a6⟩
 have cw : ∀ (k : Int) (t : TX) (ky : A8 Int) (v : List UInt8) (r w : Int) (vs : List Int), CW (ofC (mkC (v2, l2, b2) (v4, l4, b4) k t ky v r w vs)) = D v2 :: D v4 :: CR (ofC (mkC (v2, l2, b2) (v4, l4, b4) k t ky v r w vs)) :=
  fun k t ky v r w vs => by show D v2 :: D (IntKind.wrap .u32 v4) :: _ = _; rw [w4]
 rcases hv with rfl | rfl | rfl | rfl | rfl | rfl | rfl
 ·rw [cb0]
  refine ⟨_, _, _, rfl, s8, wc _ _ _ _ _ _ _ wfT0 wfZ (by simp) (by simp) nB (by simp), fun hb => ?_⟩
  have := (r8 hb).2.1; omega
 ·rw [cb1]
  refine ⟨_, _, _, rfl, s8, wc _ _ _ _ _ _ _ wfT0 wfZ (by simp) (by simp) nB (by simp), fun hb => ?_⟩
  obtain ⟨j1, j2⟩ := hd (b' := true) (x := []) (k := 1) hb rfl
  exact ⟨j1, by rw [j2, cw]; rfl⟩
 ·obtain ⟨t, l9, b9, e9, s9, w9, r9⟩ := rtxB l8 b8 s8
  obtain ⟨ky, la, ba, ea, sa, wa, ra⟩ := rkeyB l9 b9 s9
  refine ⟨mkC (v2, l2, b2) (v4, l4, b4) 2 t ky [] 0 0 [], la, ba, ?_, sa, wc _ _ _ _ _ _ _ w9 wa (by simp) (by simp) nB (by simp), fun hb => ?_⟩
  ·rw [cb2, e9, Option.bind_some]
   show (sr_key ⟨l9, b9⟩).bind _ = _
   rw [ea]; rfl
  ·obtain ⟨j5, tt, j6, j7⟩ := ra hb
   obtain ⟨j3, j4⟩ := r9 j5
   obtain ⟨j1, j2⟩ := hd (b' := true) (x := []) (k := 2) j3 rfl
   refine ⟨j1, ?_⟩
   rw [j2, j4, j7, cw, ← KN_K j6]; rfl
 ·obtain ⟨t, l9, b9, e9, s9, w9, r9⟩ := rtxB l8 b8 s8
  obtain ⟨ky, la, ba, ea, sa, wa, ra⟩ := rkeyB l9 b9 s9
  obtain ⟨o, lb, bb, eb, sb, lo, rb⟩ := rbytesB la ba sa
  refine ⟨mkC (v2, l2, b2) (v4, l4, b4) 3 t ky o 0 0 [], lb, bb, ?_, sb, wc _ _ _ _ _ _ _ w9 wa (by simp) (by simp) nB (by simp), fun hb => ?_⟩
  ·rw [cb3, e9, Option.bind_some]
   show (sr_key ⟨l9, b9⟩).bind _ = _
   rw [ea, Option.bind_some]
   show (sr_bytes ⟨la, ba⟩).bind _ = _
   rw [eb, Option.bind_some]
   show some (mkC _ _ 3 t ky (strI (bytesI o)) 0 0 [], _, _) = _
   rw [strI_bytesI]
  ·obtain ⟨j8, j9⟩ := rb hb
   obtain ⟨j5, tt, j6, j7⟩ := ra j8
   obtain ⟨j3, j4⟩ := r9 j5
   obtain ⟨j1, j2⟩ := hd (b' := true) (x := []) (k := 3) j3 rfl
   refine ⟨j1, ?_⟩
   rw [j2, j4, j7, j9, cw, ← KN_K j6]; rfl
 ·obtain ⟨t, l9, b9, e9, s9, w9, r9⟩ := rtxB l8 b8 s8
  refine ⟨mkC (v2, l2, b2) (v4, l4, b4) 4 t zeroK [] 0 0 [], l9, b9, ?_, s9, wc _ _ _ _ _ _ _ w9 wfZ (by simp) (by simp) nB (by simp), fun hb => ?_⟩
  ·rw [cb4, e9]; rfl
  ·obtain ⟨j3, j4⟩ := r9 hb
   obtain ⟨j1, j2⟩ := hd (b' := true) (x := []) (k := 4) j3 rfl
   exact ⟨j1, by rw [j2, j4, cw]; rfl⟩
 ·obtain ⟨t, l9, b9, e9, s9, w9, r9⟩ := rtxB l8 b8 s8
  refine ⟨mkC (v2, l2, b2) (v4, l4, b4) 5 t zeroK [] 0 0 [], l9, b9, ?_, s9, wc _ _ _ _ _ _ _ w9 wfZ (by simp) (by simp) nB (by simp), fun hb => ?_⟩
  ·rw [cb5, e9]; rfl
  ·obtain ⟨j3, j4⟩ := r9 hb
   obtain ⟨j1, j2⟩ := hd (b' := true) (x := []) (k := 5) j3 rfl
   exact ⟨j1, by rw [j2, j4, cw]; rfl⟩
 ·obtain ⟨t, l9, b9, e9, s9, w9, r9⟩ := rtxB l8 b8 s8
  obtain ⟨ky, la, ba, ea, sa, wa, ra⟩ := rkeyB l9 b9 s9
  obtain ⟨R, lb, bb, eb, sb, pb, qb, rb⟩ := rsmallB la ba sa
  obtain ⟨W, lc, bc, ec, sc, pc, qc, rc⟩ := rsmallB lb bb sb
  obtain ⟨vs, ld, bd, ed, sd, wd, ldl, rd⟩ := vloopB ⟨l, b⟩ (v2, l2, b2) (v4, l4, b4) l8 b8 t ky R W big lc bc [] sc nB (by have := big_lt (n := 100) (by omega); simp; omega) (by simp)
  rw [List.nil_append] at ed wd ldl
  refine ⟨mkC (v2, l2, b2) (v4, l4, b4) 6 t ky [] R W vs, ld, bd, ?_, sd, wc _ _ _ _ _ _ _ w9 wa ⟨pb, qb⟩ ⟨pc, qc⟩ wd ldl, fun hb => ?_⟩
  ·rw [cb6, e9, Option.bind_some]
   show (sr_key ⟨l9, b9⟩).bind _ = _
   rw [ea, Option.bind_some]
   show (sr_small ⟨la, ba⟩).bind _ = _
   rw [eb, Option.bind_some]
   show (sr_small ⟨lb, bb⟩).bind _ = _
   rw [ec, Option.bind_some]
   exact ed
  ·obtain ⟨j12, j13⟩ := rd hb
   obtain ⟨j10, j11⟩ := rc j12
   obtain ⟨j8, j9⟩ := rb j10
   obtain ⟨j5, tt, j6, j7⟩ := ra j8
   obtain ⟨j3, j4⟩ := r9 j5
   obtain ⟨j1, j2⟩ := hd (b' := true) (x := []) (k := 6) j3 rfl
   refine ⟨j1, ?_⟩
   rw [j2, j4, j7, j9, j11, j13, cw, ← KN_K j6]; rfl
end Go.Proofs.YtdchgoaokceomaaGreatDoor.Wk
