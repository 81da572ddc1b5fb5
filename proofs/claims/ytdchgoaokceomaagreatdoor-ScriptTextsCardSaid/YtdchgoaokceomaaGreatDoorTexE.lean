import Derived.Test.YtdchgoaokceomaaGreatDoorTexD
set_option linter.unusedVariables false
set_option linter.unusedSimpArgs false
set_option linter.unusedSectionVars false
namespace Go.Proofs.YtdchgoaokceomaaGreatDoor.Wk
open Go Go.Cn
set_option maxRecDepth 10000
theorem pad_set (s : List UInt8) (i : Nat) (hi : i < 8) : A8.set (pad (s.take i)) (bI s i) i = pad (s.take (i + 1)) := by
 rcases lt8 hi with rfl | rfl | rfl | rfl | rfl | rfl | rfl | rfl <;> simp [A8.set, pad, bI_take, bI_nil]
theorem rw8 (x : Int) : 0 ≤ IntKind.wrap .u8 x ∧ IntKind.wrap .u8 x < 256 := by
 simp only [IntKind.wrap, IntKind.bits, IntKind.signed, Bool.false_and, Bool.false_eq_true, if_false]; omega
theorem rw32 (x : Int) : 0 ≤ IntKind.wrap .u32 x ∧ IntKind.wrap .u32 x < 4294967296 := by
 simp only [IntKind.wrap, IntKind.bits, IntKind.signed, Bool.false_and, Bool.false_eq_true, if_false]; omega
structure WfT2 (t : TX) : Prop where
 a : 0 ≤ t.f_Node ∧ t.f_Node < 256
 b : 0 ≤ t.f_Boot ∧ t.f_Boot < 4294967296
 c : 0 ≤ t.f_Num ∧ t.f_Num < 4294967296
theorem tx_tot (s : List UInt8) (hs : s.length ≤ 20000) : ∃ t, r27_tx s = some t ∧ WfT2 t := by
 unfold r27_tx
 have e : r27_split s 46 = some (spl 46 s) := rspl 46 s hs
 rw [e, Option.bind_some]
 have a0 := at_eq (spl 46 s) 0; have a1 := at_eq (spl 46 s) 1; have a2 := at_eq (spl 46 s) 2
 obtain ⟨v0, e0, _⟩ := val_tot ((spl 46 s).getD 0 [])
 obtain ⟨v1, e1, _⟩ := val_tot ((spl 46 s).getD 1 [])
 obtain ⟨v2, e2, _⟩ := val_tot ((spl 46 s).getD 2 [])
 refine ⟨⟨IntKind.wrap .u8 v0, IntKind.wrap .u32 v1, IntKind.wrap .u32 v2⟩, ?_, rw8 _, rw32 _, rw32 _⟩
 refine (congrArg (fun o => Option.bind o _) a0).trans ?_
 rw [Option.bind_some, e0, Option.bind_some]
 refine (congrArg (fun o => Option.bind o _) a1).trans ?_
 rw [Option.bind_some, e1, Option.bind_some]
 refine (congrArg (fun o => Option.bind o _) a2).trans ?_
 rw [Option.bind_some, e2, Option.bind_some]
theorem spl_N (t : TX) (h : WfT t) : spl 46 (N t) = [D t.f_Node, D t.f_Boot, D t.f_Num] := by
 obtain ⟨⟨a1, a2⟩, ⟨b1, b2⟩, ⟨c1, c2⟩⟩ := h
 have n46 : ¬ isDg 46 := by unfold isDg; decide
 have := spl_join 46 [D t.f_Boot, D t.f_Num] (D t.f_Node) (dg_no 46 n46 a1 (by omega)) (by
  intro x hx
  simp only [List.mem_cons, List.not_mem_nil, or_false] at hx
  rcases hx with rfl | rfl
  ·exact dg_no 46 n46 b1 (by omega)
  ·exact dg_no 46 n46 c1 (by omega))
 simpa [N] using this
theorem txA (t : TX) (h : WfT t) : r27_tx (N t) = some t := by
 have hl := N_len t
 unfold r27_tx
 have e : r27_split (N t) 46 = some (spl 46 (N t)) := rspl 46 (N t) (by omega)
 rw [e, Option.bind_some, spl_N t h]
 obtain ⟨⟨a1, a2⟩, ⟨b1, b2⟩, ⟨c1, c2⟩⟩ := h
 have a0 : r27_at [D t.f_Node, D t.f_Boot, D t.f_Num] 0 = some (D t.f_Node) := at_eq _ 0
 have a1' : r27_at [D t.f_Node, D t.f_Boot, D t.f_Num] 1 = some (D t.f_Boot) := at_eq _ 1
 have a2' : r27_at [D t.f_Node, D t.f_Boot, D t.f_Num] 2 = some (D t.f_Num) := at_eq _ 2
 rw [a0, Option.bind_some, valA _ a1 (by omega), Option.bind_some, a1', Option.bind_some, valA _ b1 b2, Option.bind_some, a2', Option.bind_some, valA _ c1 c2, Option.bind_some, wu8 a1 a2, wu32 b1 (by omega), wu32 c1 (by omega)]
theorem l2_loop (w : List (List UInt8)) (k : Int) (t : TX) (ky : A8 Int) (y4 y8 : Int) (v : List UInt8) (R W : Int) : ∀ (fuel i : Nat) (acc : List Int), 20 < fuel + i → 9 ≤ i → i ≤ 18 → acc.length + 9 ≤ i → wB acc →
  (∃ vs, r27_asked_l2 w k t ky y4 y8 fuel (i : Int) v R W acc = r27_call ⟨IntKind.wrap .u8 y4, IntKind.wrap .u32 y8, k, t, ky, v, R, W, vs⟩ ∧ wB vs ∧ vs.length ≤ 9) ∧
  (∀ vs, wB vs → i + vs.length ≤ 17 → w.drop i = vs.map D → r27_asked_l2 w k t ky y4 y8 fuel (i : Int) v R W acc = r27_call ⟨IntKind.wrap .u8 y4, IntKind.wrap .u32 y8, k, t, ky, v, R, W, acc ++ vs⟩)
 | 0, i, acc, h, h1, h2, _, _ => by omega
 | fuel + 1, i, acc, h, h1, h2, h3, hb => by
  have bs : ∀ o : Option T_r27_Call, (o.bind fun y => some y) = o := fun o => by cases o <;> rfl
  rw [r27_asked_l2]
  by_cases hl : i < w.length
  ·rw [if_pos (by rw [decide_eq_true_eq]; omega)]
   by_cases h18 : i < 18
   ·obtain ⟨u, e, _, _⟩ := val_tot (w.getD i default)
    rw [if_pos (by rw [decide_eq_true_eq]; omega), if_pos (by omega), Int.toNat_natCast, e, Option.bind_some, if_pos (by simp only [List.length_cons, List.length_nil]; omega), w64 (by omega) (by omega)]
    obtain ⟨⟨vs, a1, a2, a3⟩, a4⟩ := l2_loop w k t ky y4 y8 v R W fuel (i + 1) (acc ++ [IntKind.wrap .u8 u]) (by omega) (by omega) (by omega) (by simp; omega) (by
     intro z hz
     rcases List.mem_append.1 hz with hz | hz
     ·exact hb z hz
     ·rw [List.mem_singleton] at hz; subst hz; exact rw8 u)
    refine ⟨⟨vs, a1, a2, a3⟩, fun us hu hlen hd => ?_⟩
    rw [getD_drop w i default hl] at hd
    match us, hd with
    | x :: us, hd =>
     simp only [List.map_cons, List.cons.injEq] at hd
     obtain ⟨d1, d2⟩ := hd
     have hx := hu x (List.mem_cons_self ..)
     rw [d1, valA x hx.1 (by omega)] at e
     have hux : u = x := (Option.some.inj e).symm
     have := a4 us (fun z hz => hu z (List.mem_cons_of_mem _ hz)) (by simp at hlen; omega) d2
     rw [show ((i : Int) + 1) = ((i + 1 : Nat) : Int) from rfl, this, hux, wu8 hx.1 hx.2, List.append_assoc]; rfl
   ·rw [if_neg (by rw [decide_eq_true_eq]; omega), bs]
    refine ⟨⟨acc, rfl, hb, by omega⟩, fun us _ hlen _ => by omega⟩
  ·rw [if_neg (by rw [decide_eq_true_eq]; omega), bs]
   refine ⟨⟨acc, rfl, hb, by omega⟩, fun us _ _ hd => ?_⟩
   rw [List.drop_eq_nil_of_le (by omega)] at hd
   have : us = [] := by cases us with | nil => rfl | cons a b => simp at hd
   rw [this, List.append_nil]
def l1end (w : List (List UInt8)) (k y4 y8 : Int) (t : TX) (ky : A8 Int) : Option T_r27_Call :=
 (r27_at w 7).bind fun a => (r27_text a).bind fun v => (r27_at w 7).bind fun b => (r27_value b).bind fun r => (r27_at w 8).bind fun c => (r27_value c).bind fun x =>
  r27_asked_l2 w k t ky y4 y8 big 9 v (IntKind.wrap .u8 r) (IntKind.wrap .u8 x) []
theorem l1_key (w : List (List UInt8)) (k y4 y8 : Int) (t : TX) (o : List UInt8) : ∀ (fuel i : Nat), 8 < fuel + i → i ≤ 8 → i ≤ o.length →
  r27_asked_l1 w k y4 y8 fuel o (i : Int) t (pad (o.take i)) = l1end w k y4 y8 t (pad o)
 | 0, i, h, _, _ => by omega
 | fuel + 1, i, h, h8, hi => by
  have hp : ∀ j, (8 ≤ j ∨ o.length ≤ j) → pad (o.take j) = pad o := by
   intro j hj
   rcases hj with hj | hj
   ·simp only [pad, bI_take]
    repeat rw [if_pos (by omega)]
   ·rw [List.take_of_length_le hj]
  rw [r27_asked_l1]
  by_cases hl : i < o.length
  ·rw [if_pos (by rw [decide_eq_true_eq]; omega)]
   by_cases h88 : i < 8
   ·rw [if_pos (by rw [decide_eq_true_eq]; omega), if_pos (by omega), if_pos (by omega), Int.toNat_natCast]
    have e1 : A8.set (pad (o.take i)) ((o.getD i 0).toNat : Int) i = pad (o.take (i + 1)) := pad_set o i h88
    rw [e1, w64 (by omega) (by omega)]
    exact l1_key w k y4 y8 t o fuel (i + 1) (by omega) (by omega) (by omega)
   ·rw [if_neg (by rw [decide_eq_true_eq]; omega), hp i (by omega)]; rfl
  ·rw [if_neg (by rw [decide_eq_true_eq]; omega), hp i (by omega)]; rfl
def kd (w : List UInt8) : Int :=
 if w = [98, 101, 103, 105, 110] then 1 else if w = [114, 101, 97, 100] then 2 else if w = [119, 114, 105, 116, 101] then 3 else if w = [99, 111, 109, 109, 105, 116] then 4 else if w = [97, 98, 111, 114, 116] then 5 else if w = [99, 104, 97, 110, 103, 101] then 6 else 0
def l0end (w : List (List UInt8)) (y4 y8 k : Int) : Option T_r27_Call :=
 if ((decide (1 < k)) : Bool) then
  (r27_at w 5).bind fun a => (r27_tx a).bind fun t => (r27_at w 6).bind fun b => (r27_text b).bind fun o => r27_asked_c11 w k y4 y8 t o
 else
  (r27_at w 6).bind fun b => (r27_text b).bind fun o => r27_asked_l1 w k y4 y8 big o 0 ⟨0, 0, 0⟩ (A8.mk 0 0 0 0 0 0 0 0)
theorem l0_kind (w : List (List UInt8)) (y4 y8 : Int) (fuel : Nat) : r27_asked_l0 w y4 y8 (fuel + 7) 0 0 = l0end w y4 y8 (kd (w.getD 4 [])) := by
 have a4 : r27_at w 4 = some (w.getD 4 []) := at_eq w 4
 generalize w.getD 4 [] = x at a4
 have st : ∀ (f : Nat) (i : Nat) (K : Int) (hi : i < 6), r27_asked_l0 w y4 y8 (f + 1) (i : Int) K = r27_asked_l0 w y4 y8 f ((i + 1 : Nat) : Int) (if CL.getD (i + 1) default = x then ((i + 1 : Nat) : Int) else K) := by
  intro f i K hi
  rw [r27_asked_l0, if_pos (by rw [decide_eq_true_eq]; show (i : Int) < 6; omega), if_pos (by refine ⟨by omega, ?_⟩; show (i : Int) < 6; omega), a4, Option.bind_some, w64 (by omega) (by omega)]
  have hc : (([([98, 101, 103, 105, 110] : List UInt8), ([114, 101, 97, 100] : List UInt8), ([119, 114, 105, 116, 101] : List UInt8), ([99, 111, 109, 109, 105, 116] : List UInt8), ([97, 98, 111, 114, 116] : List UInt8), ([99, 104, 97, 110, 103, 101] : List UInt8)] : List (List UInt8)).getD (i : Int).toNat default) = CL.getD (i + 1) default := rfl
  rw [hc]
  by_cases h : CL.getD (i + 1) default = x
  ·rw [if_pos (by rw [beq_iff_eq]; exact h), if_pos h, wu8 (by omega) (by omega)]; rfl
  ·rw [if_neg (by rw [beq_iff_eq]; exact h), if_neg h]; rfl
 have e0 := st (fuel + 6) 0 0 (by omega)
 refine e0.trans ?_
 refine (st (fuel + 5) 1 _ (by omega)).trans ?_
 refine (st (fuel + 4) 2 _ (by omega)).trans ?_
 refine (st (fuel + 3) 3 _ (by omega)).trans ?_
 refine (st (fuel + 2) 4 _ (by omega)).trans ?_
 refine (st (fuel + 1) 5 _ (by omega)).trans ?_
 have ek : (if CL.getD 6 default = x then ((6 : Nat) : Int) else if CL.getD 5 default = x then ((5 : Nat) : Int) else if CL.getD 4 default = x then ((4 : Nat) : Int) else if CL.getD 3 default = x then ((3 : Nat) : Int) else if CL.getD 2 default = x then ((2 : Nat) : Int) else if CL.getD 1 default = x then ((1 : Nat) : Int) else 0) = kd x := by
  unfold kd
  by_cases h1 : x = [98, 101, 103, 105, 110]
  ·subst h1; rfl
  by_cases h2 : x = [114, 101, 97, 100]
  ·subst h2; rfl
  by_cases h3 : x = [119, 114, 105, 116, 101]
  ·subst h3; rfl
  by_cases h4 : x = [99, 111, 109, 109, 105, 116]
  ·subst h4; rfl
  by_cases h5 : x = [97, 98, 111, 114, 116]
  ·subst h5; rfl
  by_cases h6 : x = [99, 104, 97, 110, 103, 101]
  ·subst h6; rfl
  rw [if_neg h1, if_neg h2, if_neg h3, if_neg h4, if_neg h5, if_neg h6, if_neg (fun e => h6 e.symm), if_neg (fun e => h5 e.symm), if_neg (fun e => h4 e.symm), if_neg (fun e => h3 e.symm), if_neg (fun e => h2 e.symm), if_neg (fun e => h1 e.symm)]
 refine (congrArg (fun q => r27_asked_l0 w y4 y8 (fuel + 1) ((6 : Nat) : Int) q) ek).trans ?_
 generalize kd x = q
 show r27_asked_l0 w y4 y8 (fuel + 1) 6 q = _
 rw [r27_asked_l0, if_neg (by decide)]
 rfl
end Go.Proofs.YtdchgoaokceomaaGreatDoor.Wk
