import Derived.Test.YtdchgoaokceomaaGreatDoorTexK
import Derived.Test.YtdchgoaokceomaaGreatDoorTexA
set_option linter.unusedVariables false
set_option linter.unusedSimpArgs false
set_option linter.unusedSectionVars false
namespace Go.Proofs.YtdchgoaokceomaaGreatDoor.Wk
open Go Go.Cn
set_option maxRecDepth 10000
def toC (c : T_r27_Call) : TN := ⟨⟨c.f_Client, c.f_Seq⟩, c.f_Kind, c.f_Tx, c.f_Key, c.f_Value, c.f_R, c.f_W, c.f_Votes⟩
def toP (s : T_r27_Step) : TS := ⟨s.f_Kind, s.f_Node, s.f_Wire, s.f_N, s.f_Cut, toC s.f_Call, s.f_To, s.f_Bytes⟩
def wB (l : List Int) : Prop := ∀ x ∈ l, 0 ≤ x ∧ x < 256
theorem strI_inj : ∀ (a b : List Int), wB a → wB b → (strI a = strI b ↔ a = b)
 | [], [], _, _ => by simp
 | [], y :: b, _, _ => by simp [strI]
 | x :: a, [], _, _ => by simp [strI]
 | x :: a, y :: b, ha, hb => by
  have ih := strI_inj a b (fun z hz => ha z (List.mem_cons_of_mem _ hz)) (fun z hz => hb z (List.mem_cons_of_mem _ hz))
  have h1 := ha x (List.mem_cons_self ..)
  have h2 := hb y (List.mem_cons_self ..)
  show UInt8.ofNat x.toNat :: strI a = UInt8.ofNat y.toNat :: strI b ↔ _
  rw [List.cons.injEq, List.cons.injEq, ih]
  constructor
  ·rintro ⟨h, h'⟩
   have e := congrArg UInt8.toNat h
   rw [UInt8.toNat_ofNat', UInt8.toNat_ofNat'] at e
   exact ⟨by omega, h'⟩
  ·rintro ⟨rfl, h'⟩; exact ⟨rfl, h'⟩
theorem eq_loop (s1 s2 : List Int) (hl : s1.length = s2.length) (hm : s1.length < 1000000000000000) : ∀ (fuel i : Nat), s1.length < fuel + i → i ≤ s1.length →
  slices_Equal_uint8_uint8_l0 s1 s2 fuel (i : Int) = some (decide (s1.drop i = s2.drop i))
 | 0, i, h, hi => by omega
 | fuel + 1, i, h, hi => by
  rw [slices_Equal_uint8_uint8_l0]
  by_cases hlt : i < s1.length
  ·rw [if_pos (by simpa using hlt), if_pos (by omega), if_pos (by omega), Int.toNat_natCast]
   have e1 := getD_drop s1 i default hlt
   have e2 := getD_drop s2 i default (by omega)
   by_cases hb : s1.getD i default = s2.getD i default
   ·rw [if_neg (by simpa using hb), w64 (by omega) (by omega)]
    rw [show ((i : Int) + 1) = ((i + 1 : Nat) : Int) from rfl, eq_loop s1 s2 hl hm fuel (i + 1) (by omega) (by omega), e1, e2]
    simp only [List.cons.injEq, hb, true_and]
   ·rw [if_pos (by simpa using hb), e1, e2]
    simp only [List.cons.injEq, hb, false_and, decide_false]
  ·rw [if_neg (by simpa using hlt), List.drop_eq_nil_of_le (by omega), List.drop_eq_nil_of_le (by omega)]; rfl
theorem eq_eq {a b : List Int} (h : a.length < 1000000000000000) : slices_Equal_uint8_uint8 a b = some (decide (a = b)) := by
 unfold slices_Equal_uint8_uint8
 by_cases hl : a.length = b.length
 ·rw [if_neg (by simp [hl])]
  exact eq_loop a b hl h big 0 (by have := big_lt (n := 1000000000000000) (by omega); omega) (by omega)
 ·rw [if_pos (by simp; omega)]
  have : ¬ a = b := fun e => hl (by rw [e])
  rw [decide_eq_false this]
theorem iteA (c d : Bool) : (if c = true then some d else some false) = some (c && d) := by cases c <;> rfl
theorem same1 (x y : TS) (h1 : wB x.f_Call.f_Votes) (h2 : wB y.f_Call.f_Votes) (h3 : x.f_Call.f_Votes.length ≤ 140737488351232) :
  ∃ r, script_Same x y = some r ∧ (r = true ↔ x.f_Kind = y.f_Kind ∧ x.f_Node = y.f_Node ∧ x.f_Wire = y.f_Wire ∧ x.f_N = y.f_N ∧ x.f_Cut = y.f_Cut ∧ x.f_To = y.f_To ∧
   (x.f_Call.f_Call = y.f_Call.f_Call ∧ x.f_Call.f_Kind = y.f_Call.f_Kind ∧ x.f_Call.f_Tx = y.f_Call.f_Tx ∧ x.f_Call.f_Key = y.f_Call.f_Key ∧ x.f_Call.f_Value = y.f_Call.f_Value ∧ x.f_Call.f_R = y.f_Call.f_R ∧ x.f_Call.f_W = y.f_Call.f_W ∧ strI x.f_Call.f_Votes = strI y.f_Call.f_Votes) ∧
   strI x.f_Bytes = strI y.f_Bytes) := by
 unfold script_Same script_sameCall bytes_Equal
 simp only [eq_eq (show x.f_Call.f_Votes.length < 1000000000000000 by omega), Option.bind_some, iteA]
 refine ⟨_, rfl, ?_⟩
 simp only [Bool.and_eq_true, decide_eq_true_eq, beq_iff_eq, strI_inj _ _ h1 h2]
theorem same2 (x y : T_r27_Step) :
  ∃ r, r27_Same x y = some r ∧ (r = true ↔ x.f_Kind = y.f_Kind ∧ x.f_Node = y.f_Node ∧ x.f_Wire = y.f_Wire ∧ x.f_N = y.f_N ∧ x.f_Cut = y.f_Cut ∧
   (x.f_Call.f_Client = y.f_Call.f_Client ∧ x.f_Call.f_Seq = y.f_Call.f_Seq ∧ x.f_Call.f_Kind = y.f_Call.f_Kind ∧ x.f_Call.f_Tx = y.f_Call.f_Tx ∧ x.f_Call.f_Key = y.f_Call.f_Key ∧ x.f_Call.f_Value = y.f_Call.f_Value ∧ x.f_Call.f_R = y.f_Call.f_R ∧ x.f_Call.f_W = y.f_Call.f_W ∧ strI x.f_Call.f_Votes = strI y.f_Call.f_Votes) ∧
   x.f_To = y.f_To ∧ strI x.f_Bytes = strI y.f_Bytes) := by
 unfold r27_Same r27_SameCall
 simp only [Option.bind_some, iteA]
 refine ⟨_, rfl, ?_⟩
 simp only [Bool.and_eq_true, decide_eq_true_eq, beq_iff_eq]
theorem same_eq (a b : T_r27_Step) (h1 : wB a.f_Call.f_Votes) (h2 : wB b.f_Call.f_Votes) (h3 : a.f_Call.f_Votes.length ≤ 140737488351232) : ∃ r, script_Same (toP a) (toP b) = some r ∧ r27_Same a b = some r := by
 obtain ⟨r, e1, q1⟩ := same1 (toP a) (toP b) h1 h2 h3
 obtain ⟨r', e2, q2⟩ := same2 a b
 have : r = r' := by
  rw [Bool.eq_iff_iff, q1, q2]
  constructor
  ·rintro ⟨a1, a2, a3, a4, a5, a6, ⟨b1, b3, b4, b5, b6, b7, b8, b9⟩, a7⟩
   exact ⟨a1, a2, a3, a4, a5, ⟨congrArg TE.f_Client b1, congrArg TE.f_Seq b1, b3, b4, b5, b6, b7, b8, b9⟩, a6, a7⟩
  ·rintro ⟨a1, a2, a3, a4, a5, ⟨b1, b2, b3, b4, b5, b6, b7, b8, b9⟩, a6, a7⟩
   exact ⟨a1, a2, a3, a4, a5, a6, ⟨by show TE.mk _ _ = TE.mk _ _; rw [b1, b2], b3, b4, b5, b6, b7, b8, b9⟩, a7⟩
 exact ⟨r, e1, this ▸ e2⟩
theorem pure_eq (c : T_r27_Call) (hw : wB c.f_Votes) (hl : c.f_Votes.length ≤ 140737488351232) : ∃ r, r27_call c = some r ∧ script_pure (toC c) = some (toC r) ∧ wB r.f_Votes ∧ r.f_Votes.length ≤ 140737488351232 := by
 obtain ⟨c1, c2, k, t, ky, v, r, w, vt⟩ := c
 have hn : wB ([] : List Int) := fun x hx => by simp at hx
 unfold r27_call script_pure script_hasKey
 by_cases h2 : k = 2
 ·subst h2; exact ⟨_, rfl, rfl, hn, by simp⟩
 by_cases h3 : k = 3
 ·subst h3; exact ⟨_, rfl, rfl, hn, by simp⟩
 by_cases h6 : k = 6
 ·subst h6; exact ⟨_, rfl, rfl, hw, hl⟩
 have b2 : (k == 2) = false := by simpa using h2
 have b3 : (k == 3) = false := by simpa using h3
 have b6 : (k == 6) = false := by simpa using h6
 by_cases h1 : 1 < k
 ·simp only [toC, h1, b2, b3, b6, decide_true, if_true, Option.bind_some, Bool.false_eq_true, if_false, r27_call_c6, script_pure_c6]
  exact ⟨_, rfl, rfl, hn, by simp⟩
 ·simp only [toC, h1, b2, b3, b6, decide_false, Option.bind_some, Bool.false_eq_true, if_false, r27_call_c8, script_pure_c7]
  exact ⟨_, rfl, rfl, hn, by simp⟩
theorem kinds {k : Int} (h1 : 1 ≤ k) (h2 : k ≤ 10) : k = 1 ∨ k = 2 ∨ k = 3 ∨ k = 4 ∨ k = 5 ∨ k = 6 ∨ k = 7 ∨ k = 8 ∨ k = 9 ∨ k = 10 := by omega
theorem clean_eq (s : T_r27_Step) (h1 : 1 ≤ s.f_Kind) (h2 : s.f_Kind ≤ 10) (hw : wB s.f_Call.f_Votes) (hl : s.f_Call.f_Votes.length ≤ 140737488351232) :
  ∃ r, r27_kept s = some r ∧ script_clean (toP s) = some (toP r) ∧ wB r.f_Call.f_Votes ∧ r.f_Call.f_Votes.length ≤ 140737488351232 := by
 obtain ⟨k, n, w, m, ct, c, t, bs⟩ := s
 have hn : wB ([] : List Int) := fun x hx => by simp at hx
 rcases kinds h1 h2 with h | h | h | h | h | h | h | h | h | h <;> (simp only at h; subst h)
 ·obtain ⟨r, e1, e2, e3, e4⟩ := pure_eq c hw hl
  refine ⟨⟨1, n, 0, 0, false, r, 0, []⟩, ?_, ?_, e3, e4⟩
  ·show (r27_call c).bind _ = _
   rw [e1]; rfl
  ·show (script_pure (toC c)).bind _ = _
   rw [e2]; rfl
 all_goals exact ⟨_, rfl, rfl, hn, by simp⟩
structure MayOK (s : T_r27_Step) : Prop where
 k1 : 1 ≤ s.f_Kind
 k2 : s.f_Kind ≤ 10
 node : 0 ≤ s.f_Node ∧ s.f_Node ≤ 2147483647
 wire : 0 ≤ s.f_Wire ∧ s.f_Wire ≤ 2147483647
 to : 0 ≤ s.f_To ∧ s.f_To ≤ 2147483647
 n : -1 ≤ s.f_N ∧ s.f_N ≤ 2147483647
 bytes : s.f_Bytes.length ≤ 4096
 call : s.f_Kind = 1 → 1 ≤ s.f_Call.f_Kind ∧ s.f_Call.f_Kind ≤ 6 ∧ s.f_Call.f_Votes.length ≤ 8 ∧ s.f_Call.f_Value.length ≤ 64
 top : s.f_Kind = 1 → s.f_Call.f_Seq ≤ 2147483647 ∧ s.f_Call.f_Tx.f_Boot ≤ 2147483647 ∧ s.f_Call.f_Tx.f_Num ≤ 2147483647
 key : s.f_Kind = 1 → (s.f_Call.f_Kind = 2 ∨ s.f_Call.f_Kind = 3 ∨ s.f_Call.f_Kind = 6) → mayK s.f_Call.f_Key = true
def nums (s : TS) : Bool := decide (0 ≤ s.f_Node ∧ s.f_Node ≤ 2147483647 ∧ 0 ≤ s.f_Wire ∧ s.f_Wire ≤ 2147483647 ∧ 0 ≤ s.f_To ∧ s.f_To ≤ 2147483647 ∧ -1 ≤ s.f_N ∧ s.f_N ≤ 2147483647 ∧ s.f_Bytes.length ≤ 4096)
theorem isNum (x : Int) : script_isNumber x = some (decide (0 ≤ x ∧ x ≤ 2147483647)) := by
 unfold script_isNumber
 simp only [iteA]; congr 1; rw [Bool.eq_iff_iff]; simp
theorem iteD (c d e : Bool) : (if c = true then some d else some e) = some ((c && d) || (!c && e)) := by cases c <;> cases d <;> cases e <;> rfl
theorem nums1 (s : TS) : script_May_c3 s = some (nums s) := by
 unfold script_May_c3
 simp only [isNum, Option.bind_some, iteD]
 congr 1; rw [Bool.eq_iff_iff]; unfold nums
 simp only [Bool.and_eq_true, Bool.or_eq_true, decide_eq_true_eq, beq_iff_eq, Bool.not_eq_true', decide_eq_false_iff_not, Bool.false_eq_true, and_false, or_false]
 omega
theorem nums2 (s : T_r27_Step) : r27_May_c8 s = some (nums (toP s)) := nums1 (toP s)
def callOK (c : TN) (k : Bool) : Bool := decide ((c.f_Kind = 2 ∨ c.f_Kind = 3 ∨ c.f_Kind = 6 → k = true) ∧ 1 ≤ c.f_Kind ∧ c.f_Kind ≤ 6 ∧ c.f_Call.f_Seq ≤ 2147483647 ∧ c.f_Tx.f_Boot ≤ 2147483647 ∧ c.f_Tx.f_Num ≤ 2147483647 ∧ c.f_Votes.length ≤ 8 ∧ c.f_Value.length ≤ 64)
theorem mx (a b c : Int) : (if c > (if b > a then b else a) then c else (if b > a then b else a)) ≤ 2147483647 ↔ a ≤ 2147483647 ∧ b ≤ 2147483647 ∧ c ≤ 2147483647 := by
 split <;> split <;> omega
theorem callMay_eq (c : TN) (hk : wfK c.f_Key) : script_callMay c = some (callOK c (mayK c.f_Key)) := by
 obtain ⟨t, e1, _⟩ := mayK_eq c.f_Key hk
 have hh : script_hasKey c.f_Kind = some (decide (c.f_Kind = 2 ∨ c.f_Kind = 3 ∨ c.f_Kind = 6)) := by
  unfold script_hasKey
  by_cases h2 : c.f_Kind = 2
  ·rw [if_pos (by simpa using h2)]; simp [h2]
  by_cases h3 : c.f_Kind = 3
  ·rw [if_neg (by simpa using h2), if_pos (by simpa using h3)]; simp [h3]
  ·rw [if_neg (by simpa using h2), if_neg (by simpa using h3)]; simp only [h2, h3, false_or]; rfl
 unfold script_callMay
 rw [hh, Option.bind_some, e1]
 simp only [Option.bind_some, iteA, mx]
 unfold callOK
 by_cases hq : c.f_Kind = 2 ∨ c.f_Kind = 3 ∨ c.f_Kind = 6
 ·rw [if_pos (by simpa using hq)]
  cases hm : mayK c.f_Key
  ·rw [if_pos (by decide)]
   congr 1; rw [eq_comm, decide_eq_false_iff_not]
   rintro ⟨h, _⟩; exact absurd (h hq) (by simp)
  ·rw [if_neg (by simp)]
   congr 1; rw [Bool.eq_iff_iff]
   simp only [Bool.and_eq_true, decide_eq_true_eq, implies_true, true_and]
   omega
 ·rw [if_neg (by simpa using hq)]
  congr 1; rw [Bool.eq_iff_iff]
  simp only [Bool.and_eq_true, decide_eq_true_eq, hq, false_imp_iff, true_and]
  omega
theorem may4 (s : T_r27_Step) (hk : wfK s.f_Call.f_Key) (h1 : s.f_Kind = 1) :
  r27_May_c4 s = some (callOK (toC s.f_Call) (mayK s.f_Call.f_Key) && nums (toP s)) := by
 obtain ⟨t, _, e1⟩ := mayK_eq s.f_Call.f_Key hk
 have ek : parrelref10_KeyMay s.f_Call.f_Key = some (mayK s.f_Call.f_Key) := by unfold parrelref10_KeyMay; rw [e1]; rfl
 unfold r27_May_c4
 rw [if_pos (by simpa using h1), nums2]
 simp only [ek, Option.bind_some, r27_May_c7, iteD]
 show _ = some (decide ((s.f_Call.f_Kind = 2 ∨ s.f_Call.f_Kind = 3 ∨ s.f_Call.f_Kind = 6 → mayK s.f_Call.f_Key = true) ∧ 1 ≤ s.f_Call.f_Kind ∧ s.f_Call.f_Kind ≤ 6 ∧ s.f_Call.f_Seq ≤ 2147483647 ∧ s.f_Call.f_Tx.f_Boot ≤ 2147483647 ∧ s.f_Call.f_Tx.f_Num ≤ 2147483647 ∧ s.f_Call.f_Votes.length ≤ 8 ∧ s.f_Call.f_Value.length ≤ 64) && nums (toP s))
 generalize nums (toP s) = nn
 generalize mayK s.f_Call.f_Key = mk
 congr 1; rw [Bool.eq_iff_iff]
 cases mk <;> cases nn <;> simp only [Bool.and_eq_true, Bool.or_eq_true, Bool.not_eq_true', decide_eq_true_eq, decide_eq_false_iff_not, beq_iff_eq, beq_eq_false_iff_ne, Bool.false_eq_true, and_false, false_and, or_false, false_or, Bool.not_false, Bool.not_true, and_true, true_and, Bool.true_eq_false, implies_true, imp_false, iff_false, not_false_eq_true, reduceCtorEq] <;> omega
theorem nums3 (s : T_r27_Step) (h : s.f_Kind ≠ 1) : r27_May_c4 s = some (nums (toP s)) := by
 unfold r27_May_c4
 rw [if_neg (by simpa using h)]
 exact nums2 s
theorem may_law (s : T_r27_Step) (hk : wfK s.f_Call.f_Key) (hv : wB s.f_Call.f_Votes) (hl : s.f_Call.f_Votes.length ≤ 140737488351232) :
  ∃ m, script_May (toP s) = some m ∧ r27_May s = some m ∧ (m = true → MayOK s) := by
 unfold script_May r27_May
 show ∃ m, (if (decide (s.f_Kind < 1) : Bool) = true then some false else if (decide (10 < s.f_Kind) : Bool) = true then some false else _) = some m ∧ _
 by_cases h1 : s.f_Kind < 1
 ·exact ⟨false, by rw [if_pos (by simpa using h1)], by rw [if_pos (by simpa using h1)], by simp⟩
 by_cases h2 : 10 < s.f_Kind
 ·exact ⟨false, by rw [if_neg (by simpa using h1), if_pos (by simpa using h2)], by rw [if_neg (by simpa using h1), if_pos (by simpa using h2)], by simp⟩
 obtain ⟨r, e1, e2, w1, w2⟩ := clean_eq s (by omega) (by omega) hv hl
 obtain ⟨b, e3, e4⟩ := same_eq r s w1 hv w2
 have q1 : decide (s.f_Kind < 1) = false := decide_eq_false h1
 have q2 : decide (10 < s.f_Kind) = false := decide_eq_false h2
 show ∃ m, (if (decide (s.f_Kind < 1) : Bool) = true then some false else if (decide (10 < s.f_Kind) : Bool) = true then some false else (script_clean (toP s)).bind fun y4 => (script_Same y4 (toP s)).bind fun y6 =>
   if ((!y6) : Bool) then some false else if ((s.f_Kind == 1) : Bool) then (script_callMay (toC s.f_Call)).bind fun y10 => if ((!y10) : Bool) then script_May_c2 else script_May_c3 (toP s) else script_May_c3 (toP s)) = some m ∧ _
 simp only [q1, q2, Bool.false_eq_true, if_false, e1, e2, Option.bind_some, e3, e4]
 cases b
 ·exact ⟨false, rfl, rfl, by simp⟩
 have fin : nums (toP s) = true → (s.f_Kind = 1 → callOK (toC s.f_Call) (mayK s.f_Call.f_Key) = true) → MayOK s := by
  intro a c
  have a := of_decide_eq_true a
  have a : 0 ≤ s.f_Node ∧ s.f_Node ≤ 2147483647 ∧ 0 ≤ s.f_Wire ∧ s.f_Wire ≤ 2147483647 ∧ 0 ≤ s.f_To ∧ s.f_To ≤ 2147483647 ∧ -1 ≤ s.f_N ∧ s.f_N ≤ 2147483647 ∧ s.f_Bytes.length ≤ 4096 := a
  refine ⟨by omega, by omega, by omega, by omega, by omega, by omega, by omega, fun h => ?_, fun h => ?_, fun h => ?_⟩
  all_goals
   have d := of_decide_eq_true (c h)
   have d : (s.f_Call.f_Kind = 2 ∨ s.f_Call.f_Kind = 3 ∨ s.f_Call.f_Kind = 6 → mayK s.f_Call.f_Key = true) ∧ 1 ≤ s.f_Call.f_Kind ∧ s.f_Call.f_Kind ≤ 6 ∧ s.f_Call.f_Seq ≤ 2147483647 ∧ s.f_Call.f_Tx.f_Boot ≤ 2147483647 ∧ s.f_Call.f_Tx.f_Num ≤ 2147483647 ∧ s.f_Call.f_Votes.length ≤ 8 ∧ s.f_Call.f_Value.length ≤ 64 := d
  ·omega
  ·omega
  ·exact d.1
 simp only [Bool.not_true, Bool.false_eq_true, if_false]
 by_cases h : s.f_Kind = 1
 ·rw [may4 s hk h]
  refine ⟨_, ?_, rfl, fun q => ?_⟩
  ·rw [if_pos (by simpa using h), callMay_eq (toC s.f_Call) hk, Option.bind_some]
   show _ = some (callOK (toC s.f_Call) (mayK (toC s.f_Call).f_Key) && _)
   cases callOK (toC s.f_Call) (mayK (toC s.f_Call).f_Key)
   ·rw [if_pos (by decide)]; rfl
   ·rw [if_neg (by decide), nums1]; rfl
  ·rw [Bool.and_eq_true] at q
   exact fin q.2 fun _ => q.1
 ·rw [nums3 s h]
  refine ⟨_, ?_, rfl, fun q => fin q fun hh => absurd hh h⟩
  rw [if_neg (by simpa using h)]
  exact nums1 (toP s)
end Go.Proofs.YtdchgoaokceomaaGreatDoor.Wk
