/- Plain facts: GatherPlays. -/
import Derived.Test.YtffmmflapagkhaaDoorGathC
import Derived.Test.YtffmmflapagkhaaDoorGathK
set_option linter.unusedVariables false
set_option linter.unusedSimpArgs false
set_option linter.unusedSectionVars false
namespace Go.Proofs.YtffmmflapagkhaaDoor.Wk
open Go Go.Cn

theorem get_set {α : Type} (A : A8 α) (x : α) {i j : Nat} (hi : i < 8) (hj : j < 8) : (A.set x i).get j = if j = i then x else A.get j := by
  rcases lt8 hi with rfl | rfl | rfl | rfl | rfl | rfl | rfl | rfl <;> rcases lt8 hj with rfl | rfl | rfl | rfl | rfl | rfl | rfl | rfl <;> rfl
def Q8 (s : Nat) : List Nat := (List.range 8).filter s.testBit
theorem mem_Q8 {s j : Nat} : j ∈ Q8 s ↔ j < 8 ∧ s.testBit j = true := by unfold Q8; rw [List.mem_filter, List.mem_range]
theorem Q8_len (s : Nat) : (Q8 s).length ≤ 8 := Nat.le_trans (List.length_filter_le _ _) (by simp)
theorem bits_Q8 {n s : Nat} (h : ∀ j, n.testBit j = (decide (j < 8) && s.testBit j)) : bitsL (n : Int) = (Q8 s).map fun (i : Nat) => (i : Int) := by
  unfold bitsL Q8
  rw [Int.toNat_natCast]
  congr 1
  rw [show List.range 64 = List.range 8 ++ List.range' 8 56 from by decide, List.filter_append]
  have h2 : (List.range' 8 56).filter n.testBit = [] := by
    rw [List.filter_eq_nil_iff]
    intro j hj
    rw [List.mem_range'_1] at hj
    rw [h, show decide (j < 8) = false from decide_eq_false (by omega)]; simp
  rw [h2, List.append_nil]
  exact List.filter_congr fun j hj => by
    rw [List.mem_range] at hj
    rw [h, show decide (j < 8) = true from decide_eq_true hj, Bool.true_and]
/-- Numbers below 8 alone. -/
def In8 (n : Nat) : Prop := ∀ j, n.testBit j = true → j < 8
theorem In8.lt {n : Nat} (h : In8 n) : n < 18446744073709551616 := by
  have : n < 2 ^ 8 := Nat.lt_pow_two_of_testBit n (fun i hi => by
    cases hb : n.testBit i with
    | false => rfl
    | true => have := h i hb; omega)
  omega
theorem In8.bits {n : Nat} (h : In8 n) : bitsL (n : Int) = (Q8 n).map fun (i : Nat) => (i : Int) := bits_Q8 fun j => by
  cases hb : n.testBit j with
  | false => simp
  | true => simp [h j hb]
def toR (x : T_gather_Got) : T_parrelref19_Got := T_parrelref19_Got.mk x.f_Node x.f_Reg x.f_Item
def toG (x : T_parrelref19_Got) : T_gather_Got := T_gather_Got.mk x.f_Node x.f_Reg x.f_Item
theorem toR_toG (x : T_parrelref19_Got) : toR (toG x) = x := rfl
def lstG (gr : A8 T_gather_Got) (n : Nat) : List T_gather_Got := (Q8 n).map gr.get
theorem lstG_len (gr : A8 T_gather_Got) (n : Nat) : (lstG gr n).length ≤ 8 := by unfold lstG; rw [List.length_map]; exact Q8_len n
/-- The document's gathering is the program's. -/
structure InvP (conf : T_api_Config) (gr : A8 T_gather_Got) (n : Nat) (L : List T_parrelref19_Got) : Prop where
  c : WfV conf
  n8 : In8 n
  nd : ∀ j, n.testBit j = true → (gr.get j).f_Node = (j : Int)
  l : L = (lstG gr n).map toR
theorem InvP.len {conf : T_api_Config} {gr : A8 T_gather_Got} {n : Nat} {L : List T_parrelref19_Got} (h : InvP conf gr n L) : L.length ≤ 8 := by
  rw [h.l, List.length_map]; exact lstG_len gr n
theorem ok_eq {mode : Int} (ho : mode = 1 ∨ mode = 2) (conf : T_api_Config) (mo : List T_api_Config) (gr : A8 T_gather_Got) (n : Int) : gather_Gather_ok (T_gather_Gather.mk mode conf mo gr n) = some true := by
  unfold gather_Gather_ok; rcases ho with rfl | rfl <;> rfl

/-! What may be granted -/
theorem imay_eq {i : T_api_Item} (h : WfV i.f_Conf) : ∃ b, msg_ItemMay i = some b ∧ parrelref10_ItemMay i = some b := by
  unfold msg_ItemMay parrelref10_ItemMay
  rw [votesMay_eq h, refMay_eq h]
  by_cases h1 : i.f_Version ≤ 2147483647
  · rw [if_pos (by simpa using h1)]
    by_cases h2 : (i.f_Value.length : Int) ≤ 64
    · rw [if_pos (by simpa using h2)]; exact ⟨_, rfl, rfl⟩
    · rw [if_neg (by simpa using h2)]; exact ⟨_, rfl, rfl⟩
  · rw [if_neg (by simpa using h1)]; exact ⟨_, rfl, rfl⟩
theorem count_eq {x : Int} (h : 0 ≤ x ∧ x < 4294967296) : ids_isCount x = parrelref05_count x := by
  unfold ids_isCount parrelref05_count
  by_cases h0 : x = 0
  · rw [h0]; decide
  · rw [wu32 (by omega) (by omega), if_pos (by simp only [decide_eq_true_eq]; omega)]
    congr 1
    rw [Bool.eq_iff_iff, decide_eq_true_eq, decide_eq_true_eq]; omega
theorem gmay_eq {g : T_api_Reg} (h : 0 ≤ g.f_Boot ∧ g.f_Boot < 4294967296) (h' : 0 ≤ g.f_N ∧ g.f_N < 4294967296) : ∃ b, ids_RegMay g = some b ∧ parrelref05_RegMay g = some b := by
  unfold ids_RegMay parrelref05_RegMay
  rw [count_eq h, count_eq h']
  have key : ∀ x, ∃ b, parrelref05_count x = some b := by
    intro x; unfold parrelref05_count; split <;> exact ⟨_, rfl⟩
  obtain ⟨b, hb⟩ := key g.f_Boot
  obtain ⟨d, hd⟩ := key g.f_N
  rw [hb, hd]
  cases b <;> exact ⟨_, rfl, rfl⟩

/-! A grant takes its place -/
def lowQ (n v : Nat) : List Nat := (List.range v).filter n.testBit
def highQ (n v : Nat) : List Nat := (List.range' (v + 1) (7 - v)).filter n.testBit
theorem Q8_split (n v : Nat) (hv : v < 8) : Q8 n = lowQ n v ++ ((if n.testBit v = true then [v] else []) ++ highQ n v) := by
  unfold Q8 lowQ highQ
  have e : List.range 8 = List.range v ++ ([v] ++ List.range' (v + 1) (7 - v)) := by
    rcases lt8 hv with rfl | rfl | rfl | rfl | rfl | rfl | rfl | rfl <;> rfl
  have e2 : [v].filter n.testBit = if n.testBit v = true then [v] else [] := by
    cases h : n.testBit v <;> simp [h]
  rw [e, List.filter_append, List.filter_append, e2]
theorem lowQ_add (n v : Nat) : lowQ (addN n v) v = lowQ n v := List.filter_congr fun j hj => by
  rw [List.mem_range] at hj
  rw [addN_bit, decide_eq_false (by omega : ¬ j = v), Bool.false_and, Bool.or_false]
theorem highQ_add (n v : Nat) : highQ (addN n v) v = highQ n v := List.filter_congr fun j hj => by
  rw [List.mem_range'_1] at hj
  rw [addN_bit, decide_eq_false (by omega : ¬ j = v), Bool.false_and, Bool.or_false]
theorem Q8_add {n v : Nat} (hv : v < 8) : Q8 (addN n v) = lowQ n v ++ (v :: highQ n v) := by
  rw [Q8_split _ v hv, lowQ_add, highQ_add, addN_bit, decide_eq_true rfl, decide_eq_true (by omega : v < 64), if_pos (by simp)]; rfl
theorem mem_lowQ {n v j : Nat} : j ∈ lowQ n v ↔ j < v ∧ n.testBit j = true := by unfold lowQ; rw [List.mem_filter, List.mem_range]
theorem mem_highQ {n v j : Nat} (hv : v < 8) : j ∈ highQ n v ↔ v < j ∧ j < 8 ∧ n.testBit j = true := by
  unfold highQ; rw [List.mem_filter, List.mem_range'_1]
  constructor
  · rintro ⟨⟨h1, h2⟩, h3⟩; exact ⟨by omega, by omega, h3⟩
  · rintro ⟨h1, h2, h3⟩; exact ⟨⟨by omega, by omega⟩, h3⟩
def OutR := Int × Int × T_api_Config × List T_api_Config × List T_parrelref19_Got
/-- The document's loop goes over the lower ones. -/
theorem place_loop (g : T_parrelref19_Gather) (x : T_parrelref19_Got) (A B : List T_parrelref19_Got) (hl : g.f_L = A ++ B) (hb : g.f_L.length ≤ 1000) (ha : ∀ a ∈ A, a.f_Node < x.f_Node) :
    ∀ (m i f : Nat), i + m = A.length → m < f → parrelref19_Gather_Grant_l0 g x f (i : Int) = parrelref19_Gather_Grant_l0 g x (f - m) (A.length : Int)
  | 0, i, f, hi, _ => by obtain rfl : i = A.length := by omega
                         rfl
  | m + 1, i, f, hi, hf => by
    obtain ⟨f, rfl⟩ : ∃ q, f = q + 1 := ⟨f - 1, by omega⟩
    have hil : i < g.f_L.length := by rw [hl, List.length_append]; omega
    have hx : (g.f_L.getD i default).f_Node < x.f_Node := by
      have e : g.f_L.getD i default = A.getD i default := by
        rw [hl, List.getD_eq_getElem?_getD, List.getElem?_append_left (by omega), ← List.getD_eq_getElem?_getD]
      rw [e]; exact ha _ (getD_mem (by omega))
    rw [parrelref19_Gather_Grant_l0, if_pos (by simp only [decide_eq_true_eq]; omega), if_pos (by omega), Int.toNat_natCast, if_pos (by simpa using hx), w64 (by omega) (by omega)]
    have := place_loop g x A B hl hb ha m (i + 1) f (by omega) (by omega)
    rw [show ((i : Int) + 1) = ((i + 1 : Nat) : Int) from rfl, this, show f + 1 - (m + 1) = f - m by omega]
theorem rgrant_there (mode : Int) (conf : T_api_Config) (mo : List T_api_Config) (x b : T_parrelref19_Got) (A B : List T_parrelref19_Got) (hb : (A ++ b :: B).length ≤ 1000) (ha : ∀ a ∈ A, a.f_Node < x.f_Node) (hn : b.f_Node = x.f_Node) :
    parrelref19_Gather_Grant_l0 (T_parrelref19_Gather.mk mode conf mo (A ++ b :: B)) x big 0 = some ((if b.f_Reg = x.f_Reg then 7 else 14), mode, conf, mo, A ++ b :: B) := by
  have h := place_loop (T_parrelref19_Gather.mk mode conf mo (A ++ b :: B)) x A (b :: B) rfl hb ha A.length 0 big (by omega) (big_lt (by simp only [List.length_append, List.length_cons] at hb; omega))
  refine h.trans ?_
  obtain ⟨f, hf⟩ : ∃ f, big - A.length = f + 1 := ⟨big - A.length - 1, by have := big_lt (n := A.length + 1) (by simp only [List.length_append, List.length_cons] at hb; omega); omega⟩
  have eg : (A ++ b :: B).getD A.length default = b := by simp [List.getD_eq_getElem?_getD]
  have hlt : A.length < (A ++ b :: B).length := by simp
  rw [hf, parrelref19_Gather_Grant_l0]
  simp only [Int.toNat_natCast, eg]
  rw [if_pos (by simp only [decide_eq_true_eq]; omega), if_pos (by omega), if_neg (by simp only [decide_eq_true_eq]; omega), if_pos (by simp only [decide_eq_true_eq]; omega), if_pos (by simpa using hn)]
  by_cases h : b.f_Reg = x.f_Reg
  · rw [if_pos (by simpa using h), if_pos h]
  · rw [if_neg (by simpa using h), if_neg h]
theorem rgrant_new (mode : Int) (conf : T_api_Config) (mo : List T_api_Config) (x : T_parrelref19_Got) (A B : List T_parrelref19_Got) (hb : (A ++ B).length ≤ 1000) (ha : ∀ a ∈ A, a.f_Node < x.f_Node) (hn : ∀ b ∈ B, x.f_Node < b.f_Node) :
    parrelref19_Gather_Grant_l0 (T_parrelref19_Gather.mk mode conf mo (A ++ B)) x big 0 = some (0, mode, (if conf.f_Epoch < x.f_Item.f_Conf.f_Epoch then x.f_Item.f_Conf else conf), mo, A ++ (x :: B)) := by
  have hb' : A.length + B.length ≤ 1000 := by simpa using hb
  have h := place_loop (T_parrelref19_Gather.mk mode conf mo (A ++ B)) x A B rfl hb ha A.length 0 big (by omega) (big_lt (by omega))
  refine h.trans ?_
  obtain ⟨f, hf⟩ : ∃ f, big - A.length = f + 1 := ⟨big - A.length - 1, by have := big_lt (n := A.length + 1) (by omega); omega⟩
  have et : (A ++ B).take A.length = A := by simp
  have ed : (A ++ B).drop A.length = B := by simp
  rw [hf, parrelref19_Gather_Grant_l0]
  simp only [Int.toNat_natCast, et, ed]
  have e2 : (A ++ [x]) ++ B = A ++ (x :: B) := by simp
  cases B with
  | nil =>
    simp only [List.length_nil] at hb'
    rw [if_neg (by simp only [decide_eq_true_eq, List.append_nil]; omega), if_neg (by simp only [decide_eq_true_eq, List.append_nil]; omega)]
    rw [if_pos (by simp only [List.append_nil]; omega), if_pos (by omega), if_pos (by simp only [List.length_singleton]; omega), if_pos (by simp only [List.append_nil]; omega), if_pos (by rw [List.length_append, List.length_singleton, List.length_nil]; omega), e2]
    by_cases h : conf.f_Epoch < x.f_Item.f_Conf.f_Epoch
    · rw [if_pos (by simpa using h), if_pos h]
    · rw [if_neg (by simpa using h), if_neg h]
  | cons b B =>
    have eg : (A ++ b :: B).getD A.length default = b := by simp [List.getD_eq_getElem?_getD]
    have hbn := hn b List.mem_cons_self
    simp only [List.length_cons] at hb'
    have hL : (A ++ b :: B).length = A.length + (B.length + 1) := by simp
    simp only [eg]
    rw [if_pos (by simp only [decide_eq_true_eq]; omega), if_pos (by omega), if_neg (by simp only [decide_eq_true_eq]; omega), if_pos (by simp only [decide_eq_true_eq]; omega), if_neg (by simp only [beq_iff_eq]; omega)]
    rw [if_pos (by omega), if_pos (by omega), if_pos (by simp only [List.length_singleton]; omega), if_pos (by omega), if_pos (by simp only [List.length_append, List.length_cons, List.length_nil]; omega), e2]
    by_cases h : conf.f_Epoch < x.f_Item.f_Conf.f_Epoch
    · rw [if_pos (by simpa using h), if_pos h]
    · rw [if_neg (by simpa using h), if_neg h]
/-- A grant that may come. -/
structure WfG (x : T_parrelref19_Got) : Prop where
  n : 0 ≤ x.f_Node ∧ x.f_Node < 256
  b : 0 ≤ x.f_Reg.f_Boot ∧ x.f_Reg.f_Boot < 4294967296
  m : 0 ≤ x.f_Reg.f_N ∧ x.f_Reg.f_N < 4294967296
  c : WfV x.f_Item.f_Conf
theorem grant_both {mode : Int} (ho : mode = 1 ∨ mode = 2) (mo : List T_api_Config) {conf : T_api_Config} {gr : A8 T_gather_Got} {n : Nat} {L : List T_parrelref19_Got} (hI : InvP conf gr n L) {x : T_parrelref19_Got} (hx : WfG x) :
    ∃ (e : Int) (conf' : T_api_Config) (gr' : A8 T_gather_Got) (n' : Nat) (L' : List T_parrelref19_Got), InvP conf' gr' n' L' ∧
      gather_Gather_Grant (T_gather_Gather.mk mode conf mo gr (n : Int)) (toG x) = some (e, mode, conf', mo, gr', (n' : Int)) ∧
      parrelref19_Gather_Grant (T_parrelref19_Gather.mk mode conf mo L) x = some (e, mode, conf', mo, L') := by
  have hn := hI.n8.lt
  have hxn := hx.n
  unfold gather_Gather_Grant parrelref19_Gather_Grant
  rw [ok_eq ho, Option.bind_some, if_neg (by simp)]
  show ∃ e conf' gr' n' L', InvP conf' gr' n' L' ∧ (if ((decide (8 ≤ x.f_Node)) : Bool) then _ else (ids_RegMay x.f_Reg).bind _) = _ ∧ _
  by_cases h8 : 8 ≤ x.f_Node
  · have h8' : decide (8 ≤ x.f_Node) = true := by simpa using h8
    rw [if_pos h8', if_pos h8']
    exact ⟨1, conf, gr, n, L, hI, rfl, rfl⟩
  have h8' : ¬ decide (8 ≤ x.f_Node) = true := by simpa using h8
  rw [if_neg h8', if_neg h8']
  obtain ⟨b, hb1, hb2⟩ := gmay_eq hx.b hx.m
  obtain ⟨d, hd1, hd2⟩ := imay_eq hx.c
  rw [hb1, hb2, Option.bind_some, Option.bind_some]
  cases b with
  | false => exact ⟨1, conf, gr, n, L, hI, rfl, rfl⟩
  | true =>
    have hf : ¬ (!true) = true := by simp
    rw [if_neg hf, if_neg hf]
    show ∃ e conf' gr' n' L', InvP conf' gr' n' L' ∧ ((msg_ItemMay x.f_Item).bind _) = _ ∧ _
    rw [hd1, hd2, Option.bind_some, Option.bind_some]
    cases d with
    | false => exact ⟨1, conf, gr, n, L, hI, rfl, rfl⟩
    | true =>
      rw [if_neg hf, if_neg hf]
      obtain ⟨v, hv⟩ : ∃ v : Nat, x.f_Node = (v : Int) := ⟨x.f_Node.toNat, by omega⟩
      have hv8 : v < 8 := by omega
      have e1 : IntKind.wrap .i64 x.f_Node = (v : Int) := by rw [w64 (by omega) (by omega), hv]
      have e2 : (toG x).f_Node = (v : Int) := hv
      have e3 : IntKind.wrap .i64 (toG x).f_Node = (v : Int) := e1
      have lowN : ∀ a ∈ (lowQ n v).map (fun i => toR (gr.get i)), a.f_Node < x.f_Node := by
        intro a ha
        obtain ⟨j, hj, rfl⟩ := List.mem_map.1 ha
        obtain ⟨h1, h2⟩ := mem_lowQ.1 hj
        show (gr.get j).f_Node < _
        rw [hI.nd j h2]; omega
      have highN : ∀ a ∈ (highQ n v).map (fun i => toR (gr.get i)), x.f_Node < a.f_Node := by
        intro a ha
        obtain ⟨j, hj, rfl⟩ := List.mem_map.1 ha
        obtain ⟨h1, h2, h3⟩ := (mem_highQ hv8).1 hj
        show _ < (gr.get j).f_Node
        rw [hI.nd j h3]; omega
      have hL : L = (Q8 n).map (fun i => toR (gr.get i)) := by rw [hI.l]; unfold lstG; rw [List.map_map]; rfl
      have hlen := hI.len
      rw [e3, has_eq hn, Option.bind_some, e2, Int.toNat_natCast]
      rw [Q8_split n v hv8] at hL
      cases hbit : n.testBit v with
      | true =>
        rw [if_pos rfl, if_pos (by omega)]
        rw [hbit, if_pos rfl, List.map_append, List.map_append] at hL
        have hL' : L = (lowQ n v).map (fun i => toR (gr.get i)) ++ (toR (gr.get v) :: (highQ n v).map (fun i => toR (gr.get i))) := hL
        refine ⟨(if (gr.get v).f_Reg = x.f_Reg then 7 else 14), conf, gr, n, L, hI, ?_, ?_⟩
        · show (if ((decide ((gr.get v).f_Reg = x.f_Reg)) : Bool) then _ else _) = _
          by_cases h : (gr.get v).f_Reg = x.f_Reg
          · rw [if_pos (by simpa using h), if_pos h]
          · rw [if_neg (by simpa using h), if_neg h]
        · rw [hL'] at hlen ⊢
          exact rgrant_there mode conf mo x _ _ _ (by omega) lowN (by show (gr.get v).f_Node = _; rw [hI.nd v hbit, hv])
      | false =>
        rw [if_neg Bool.false_ne_true, if_pos (by omega), with_eq hn, Option.bind_some]
        rw [hbit, if_neg Bool.false_ne_true, List.nil_append, List.map_append] at hL
        have nd' : ∀ j, (addN n v).testBit j = true → j < 8 ∧ ((gr.set (toG x) v).get j).f_Node = (j : Int) := by
          intro j hj
          rw [addN_bit, Bool.or_eq_true, Bool.and_eq_true, decide_eq_true_eq, decide_eq_true_eq] at hj
          have hj8 : j < 8 := by
            rcases hj with h | ⟨h, _⟩
            · exact hI.n8 j h
            · omega
          refine ⟨hj8, ?_⟩
          rw [get_set _ _ hv8 hj8]
          by_cases e : j = v
          · rw [if_pos e, e2, e]
          · rw [if_neg e]
            rcases hj with h | ⟨h, _⟩
            · exact hI.nd j h
            · exact absurd h e
        have keep : ∀ q : List Nat, (∀ j ∈ q, j ≠ v ∧ j < 8) → q.map (fun i => toR ((gr.set (toG x) v).get i)) = q.map (fun i => toR (gr.get i)) := by
          intro q hq
          refine List.map_congr_left fun j hj => ?_
          obtain ⟨h1, h2⟩ := hq j hj
          rw [get_set _ _ hv8 h2, if_neg h1]
        refine ⟨0, (if conf.f_Epoch < x.f_Item.f_Conf.f_Epoch then x.f_Item.f_Conf else conf), gr.set (toG x) v, addN n v, _, ⟨by split <;> first | exact hx.c | exact hI.c, fun j hj => (nd' j hj).1, fun j hj => (nd' j hj).2, rfl⟩, ?_, ?_⟩
        · show (if ((decide (conf.f_Epoch < x.f_Item.f_Conf.f_Epoch)) : Bool) then _ else _) = _
          by_cases h : conf.f_Epoch < x.f_Item.f_Conf.f_Epoch
          · rw [if_pos (by simpa using h), if_pos h]; rfl
          · rw [if_neg (by simpa using h), if_neg h]
        · rw [hL] at hlen ⊢
          rw [rgrant_new mode conf mo x _ _ (by omega) lowN highN]
          congr 5
          unfold lstG
          rw [Q8_add hv8, List.map_map, List.map_append, List.map_cons]
          show _ = (lowQ n v).map (fun i => toR ((gr.set (toG x) v).get i)) ++ (toR ((gr.set (toG x) v).get v) :: (highQ n v).map (fun i => toR ((gr.set (toG x) v).get i)))
          rw [keep _ (fun j hj => by have := (mem_lowQ.1 hj).1; omega), keep _ (fun j hj => by have := (mem_highQ hv8).1 hj; omega), get_set _ _ hv8 hv8, if_pos rfl, toR_toG]

/-! All, nodes, the newest -/
theorem all_eq {mode : Int} (ho : mode = 1 ∨ mode = 2) (mo : List T_api_Config) (conf : T_api_Config) (gr : A8 T_gather_Got) {n : Nat} (hn : In8 n) : gather_Gather_All (T_gather_Gather.mk mode conf mo gr (n : Int)) = some (lstG gr n) := by
  have hl := Q8_len n
  have eb := hn.bits
  have hlt := hn.lt
  unfold gather_Gather_All
  rw [ok_eq ho, Option.bind_some, if_neg (by simp), if_pos (show 0 ≤ (n : Int) ∧ (n : Int) < 18446744073709551616 by omega), gather_Gather_All_w0 _ [] (by show (bitsL (n : Int)).length < _; rw [eb, List.length_map]; omega)]
  show walkN _ _ (bitsL (n : Int)).length 0 [] = _
  rw [eb, List.length_map]
  have key : ∀ (m i : Nat) (r : List T_gather_Got), i + m = (Q8 n).length → r.length + m ≤ 8 → walkN (gather_Gather_All_b0 (T_gather_Gather.mk mode conf mo gr (n : Int))) gather_Gather_All_e0 m i r = some (r ++ ((Q8 n).drop i).map gr.get) := by
    intro m
    induction m with
    | zero => intro i r hi _; rw [List.drop_eq_nil_of_le (by omega)]; simp [walkN, gather_Gather_All_e0]
    | succ m ih =>
      intro i r hi hr
      have hlt : i < (Q8 n).length := by omega
      have hm : (Q8 n).getD i 0 ∈ Q8 n := by rw [List.getD_eq_getElem?_getD, List.getElem?_eq_getElem hlt]; exact List.getElem_mem hlt
      have hm' := mem_Q8.1 hm
      have e1 : (bitsL (n : Int)).getD i default = (((Q8 n).getD i 0 : Nat) : Int) := by
        rw [eb]; simp [List.getD_eq_getElem?_getD, List.getElem?_eq_getElem hlt]
      have hb0 : ∀ k, gather_Gather_All_b0 (T_gather_Gather.mk mode conf mo gr (n : Int)) i r k = k (r ++ [gr.get ((Q8 n).getD i 0)]) := by
        intro k
        unfold gather_Gather_All_b0
        show (if 0 ≤ (bitsL (n : Int)).getD i default ∧ (bitsL (n : Int)).getD i default < 8 then _ else none) = _
        rw [e1, if_pos (by omega), Int.toNat_natCast, if_pos (by simp only [List.length_singleton]; omega)]
      rw [walkN, hb0, ih (i + 1) _ (by omega) (by simp only [List.length_append, List.length_singleton]; omega), getD_drop (Q8 n) i 0 hlt]; simp
  have := key (Q8 n).length 0 [] (by omega) (by simpa using hl)
  simpa [lstG] using this
theorem ours_eq {l : List T_gather_Got} (hl : l.length ≤ 8) : parrellaw19_ours l = some (l.map toR) := by
  unfold parrellaw19_ours
  rw [parrellaw19_ours_w0 l [] (by omega)]
  have key : ∀ (l : List T_gather_Got) (r : List T_parrelref19_Got), r.length + l.length ≤ 8 → walkL parrellaw19_ours_b0 parrellaw19_ours_e0 l r = some (r ++ l.map toR) := by
    intro l
    induction l with
    | nil => intro r _; simp [walkL, parrellaw19_ours_e0]
    | cons a l ih =>
      intro r hr
      simp only [List.length_cons] at hr
      have hb : ∀ k, parrellaw19_ours_b0 a r k = k (r ++ [toR a]) := by
        intro k; unfold parrellaw19_ours_b0; rw [if_pos (by simp only [List.length_singleton]; omega)]; rfl
      rw [walkL, hb, ih _ (by simp only [List.length_append, List.length_singleton]; omega)]
      simp
  have := key l [] (by simpa using hl)
  simpa using this
theorem same_eq {l : List T_parrelref19_Got} (hl : l.length ≤ 8) : parrellaw19_same l l = some true := by
  unfold parrellaw19_same
  rw [if_neg (by simp), parrellaw19_same_w0 l l (by omega)]
  have key : ∀ (m i : Nat), i + m = l.length → walkN (parrellaw19_same_b0 l l) parrellaw19_same_e0 m i () = some true := by
    intro m
    induction m with
    | zero => intro i _; rfl
    | succ m ih =>
      intro i hi
      have hb : ∀ k, parrellaw19_same_b0 l l i () k = k () := by
        intro k; unfold parrellaw19_same_b0; rw [if_pos (by omega), if_neg (by simp)]
      rw [walkN, hb, ih (i + 1) (by omega)]
  exact key l.length 0 (by omega)
theorem newest_walk : ∀ (m : List T_api_Item) (l : List T_api_Item) (i : Nat) (s : Int × List UInt8 × T_api_Config), l.drop i = m → walkL item_Newest_b0 item_Newest_e0 m s = walkN (parrelref13_Newest_b0 l) parrelref13_Newest_e0 m.length i s
  | [], l, i, s, _ => rfl
  | a :: m, l, i, s, h => by
    obtain ⟨h1, h2, h3, _⟩ := drop_cons h
    rw [walkL, List.length_cons, walkN, show walkL item_Newest_b0 item_Newest_e0 m = walkN (parrelref13_Newest_b0 l) parrelref13_Newest_e0 m.length (i + 1) from funext fun s => newest_walk m l (i + 1) s h3]
    have hb : ∀ k, item_Newest_b0 a s k = parrelref13_Newest_b0 l i s k := by
      intro k; unfold item_Newest_b0 parrelref13_Newest_b0; rw [h2]
    rw [hb]
theorem inewest_eq {l : List T_api_Item} (hl : l.length ≤ 8) : item_Newest l = parrelref13_Newest l := by
  cases l with
  | nil => rfl
  | cons a l =>
    simp only [List.length_cons] at hl
    unfold item_Newest parrelref13_Newest
    have h0 : ¬ (((((a :: l).length : Nat) : Int) == 0) : Bool) = true := by simp; omega
    have g0 : 0 ≤ (0 : Int) ∧ (0 : Int) < (((a :: l).length : Nat) : Int) := by simp only [List.length_cons]; omega
    rw [if_neg h0, if_neg h0, if_pos g0, if_pos g0, if_pos (by simp only [List.length_cons]; omega),
      item_Newest_w0 _ _ _ _ (by rw [List.length_drop]; simp only [List.length_cons]; omega)]
    have := parrelref13_Newest_ws0 (a :: l) ((a :: l).getD 0 default).f_Version ((a :: l).getD 0 default).f_Value ((a :: l).getD 0 default).f_Conf 1 (by simp) (by simp only [List.length_cons]; omega)
    rw [show ((1 : Nat) : Int) = 1 from rfl] at this
    rw [this]
    exact newest_walk l (a :: l) 1 _ rfl
theorem inewest_some {l : List T_api_Item} (hl : l.length ≤ 8) : ∃ y, item_Newest l = some y := by
  cases l with
  | nil => exact ⟨_, rfl⟩
  | cons a l =>
    simp only [List.length_cons] at hl
    unfold item_Newest
    rw [if_neg (by simp; omega), if_pos (by simp only [List.length_cons]; omega), if_pos (by simp only [List.length_cons]; omega),
      item_Newest_w0 _ _ _ _ (by rw [List.length_drop]; simp only [List.length_cons]; omega)]
    have key : ∀ (m : List T_api_Item) s, ∃ y, walkL item_Newest_b0 item_Newest_e0 m s = some y := by
      intro m
      induction m with
      | nil => intro s; exact ⟨_, rfl⟩
      | cons a m ih =>
        intro s
        have hb : ∀ k : (Int × List UInt8 × T_api_Config) → Option (T_api_Item × Bool), (∀ s, ∃ y, k s = some y) → ∃ y, item_Newest_b0 a s k = some y := by
          intro k hk; unfold item_Newest_b0
          split
          · exact hk _
          · exact hk _
        exact hb _ ih
    exact key _ _
theorem gnewest_eq {mode : Int} (ho : mode = 1 ∨ mode = 2) (mo : List T_api_Config) (conf : T_api_Config) (gr : A8 T_gather_Got) {n : Nat} (hn : In8 n) : gather_Gather_Newest (T_gather_Gather.mk mode conf mo gr (n : Int)) = item_Newest ((lstG gr n).map (·.f_Item)) := by
  have hl := lstG_len gr n
  unfold gather_Gather_Newest
  rw [all_eq ho mo conf gr hn, Option.bind_some, gather_Gather_Newest_w0 _ _ [] (by omega)]
  have key : ∀ (m i : Nat) (r : List T_api_Item), i + m = (lstG gr n).length → r.length + m ≤ 8 → walkN (gather_Gather_Newest_b0 (lstG gr n)) gather_Gather_Newest_e0 m i r = gather_Gather_Newest_e0 (r ++ ((lstG gr n).drop i).map (·.f_Item)) := by
    intro m
    induction m with
    | zero => intro i r hi _; rw [List.drop_eq_nil_of_le (by omega)]; simp [walkN]
    | succ m ih =>
      intro i r hi hr
      have hlt : i < (lstG gr n).length := by omega
      have hb : ∀ k, gather_Gather_Newest_b0 (lstG gr n) i r k = k (r ++ [((lstG gr n).getD i default).f_Item]) := by
        intro k; unfold gather_Gather_Newest_b0; rw [if_pos (by simp only [List.length_singleton]; omega)]
      rw [walkN, hb, ih (i + 1) _ (by omega) (by simp only [List.length_append, List.length_singleton]; omega), getD_drop (lstG gr n) i default hlt]; simp
  rw [key (lstG gr n).length 0 [] (by omega) (by simpa using hl), List.nil_append, List.drop_zero]
  unfold gather_Gather_Newest_e0
  obtain ⟨y, hy⟩ := inewest_some (l := (lstG gr n).map (·.f_Item)) (by rw [List.length_map]; exact hl)
  rw [hy]; rfl
theorem rnewest_eq (mode : Int) (mo : List T_api_Config) {conf : T_api_Config} {gr : A8 T_gather_Got} {n : Nat} {L : List T_parrelref19_Got} (hI : InvP conf gr n L) : parrelref19_Gather_Newest (T_parrelref19_Gather.mk mode conf mo L) = item_Newest ((lstG gr n).map (·.f_Item)) := by
  have hl := hI.len
  unfold parrelref19_Gather_Newest
  rw [parrelref19_Gather_Newest_w0 _ [] (by show L.length < _; omega)]
  show walkL _ _ L [] = _
  have key : ∀ (l : List T_parrelref19_Got) (r : List T_api_Item), r.length + l.length ≤ 8 → walkL parrelref19_Gather_Newest_b0 parrelref19_Gather_Newest_e0 l r = parrelref19_Gather_Newest_e0 (r ++ l.map (·.f_Item)) := by
    intro l
    induction l with
    | nil => intro r _; simp [walkL]
    | cons a l ih =>
      intro r hr
      simp only [List.length_cons] at hr
      have hb : ∀ k, parrelref19_Gather_Newest_b0 a r k = k (r ++ [a.f_Item]) := by
        intro k; unfold parrelref19_Gather_Newest_b0; rw [if_pos (by simp only [List.length_singleton]; omega)]
      rw [walkL, hb, ih _ (by simp only [List.length_append, List.length_singleton]; omega)]
      simp
  rw [key L [] (by simpa using hl), List.nil_append]
  unfold parrelref19_Gather_Newest_e0
  have e : L.map (·.f_Item) = (lstG gr n).map (·.f_Item) := by rw [hI.l, List.map_map]; rfl
  rw [e, ← inewest_eq (by rw [List.length_map]; exact lstG_len gr n)]
  obtain ⟨y, hy⟩ := inewest_some (l := (lstG gr n).map (·.f_Item)) (by rw [List.length_map]; exact lstG_len gr n)
  rw [hy]; rfl
theorem gnodes_eq {mode : Int} (ho : mode = 1 ∨ mode = 2) (mo : List T_api_Config) (conf : T_api_Config) (gr : A8 T_gather_Got) (n : Int) : gather_Gather_Nodes (T_gather_Gather.mk mode conf mo gr n) = some n := by
  unfold gather_Gather_Nodes
  rw [ok_eq ho]; rfl
theorem gconf_eq {mode : Int} (ho : mode = 1 ∨ mode = 2) (mo : List T_api_Config) (conf : T_api_Config) (gr : A8 T_gather_Got) (n : Int) : gather_Gather_Conf (T_gather_Gather.mk mode conf mo gr n) = some conf := by
  unfold gather_Gather_Conf
  rw [ok_eq ho]; rfl
theorem rwith_eq {s : Nat} (hs : s < 18446744073709551616) (n : Nat) : parrelref01_With (s : Int) (n : Int) = some ((addN s n : Nat) : Int) := by
  unfold parrelref01_With addN
  rw [if_neg (by simp only [decide_eq_true_eq]; omega)]
  by_cases h : n < 64
  · rw [if_neg (by simp only [decide_eq_true_eq]; omega), rhas_eq hs, Option.bind_some, if_pos h]
    cases hb : s.testBit n with
    | true =>
      rw [if_pos rfl]
      congr 2
      apply Nat.eq_of_testBit_eq
      intro i
      rw [Nat.testBit_or, Nat.testBit_two_pow]
      by_cases e : n = i
      · subst e; simp [hb]
      · simp [e]
    | false =>
      have hadd := add_or hb
      have hlt := or_lt hs (pow_lt h)
      rw [if_neg Bool.false_ne_true, power_eq n h, Option.bind_some, show ((s : Int) + ((2 ^ n : Nat) : Int)) = ((s + 2 ^ n : Nat) : Int) from rfl, hadd, u64n _ hlt]
  · rw [if_pos (by simp only [decide_eq_true_eq]; omega), if_neg h]
theorem fold_bit : ∀ (l : List Nat) (s : Nat), (∀ j ∈ l, j < 64) → ∀ i, (l.foldl addN s).testBit i = (s.testBit i || decide (i ∈ l))
  | [], s, _, i => by simp
  | n :: l, s, h, i => by
    rw [List.foldl_cons, fold_bit l _ (fun j hj => h j (List.mem_cons_of_mem _ hj)), addN_bit]
    have hn := h n List.mem_cons_self
    by_cases e : i = n
    · subst e; simp [hn]
    · simp [e]
theorem rnodes_eq (mode : Int) (mo : List T_api_Config) {conf : T_api_Config} {gr : A8 T_gather_Got} {n : Nat} {L : List T_parrelref19_Got} (hI : InvP conf gr n L) : parrelref19_Gather_Nodes (T_parrelref19_Gather.mk mode conf mo L) = some (n : Int) := by
  have hl := hI.len
  unfold parrelref19_Gather_Nodes
  rw [parrelref19_Gather_Nodes_w0 _ 0 (by show L.length < _; omega)]
  show walkL _ _ L 0 = _
  have hL : L = (Q8 n).map (fun i => toR (gr.get i)) := by rw [hI.l]; unfold lstG; rw [List.map_map]; rfl
  have key : ∀ (q : List Nat) (s : Nat), (∀ j ∈ q, n.testBit j = true) → s < 18446744073709551616 → walkL parrelref19_Gather_Nodes_b0 parrelref19_Gather_Nodes_e0 (q.map fun i => toR (gr.get i)) (s : Int) = some ((q.foldl addN s : Nat) : Int) := by
    intro q
    induction q with
    | nil => intro s _ _; rfl
    | cons j q ih =>
      intro s hq hs
      have hj := hq j List.mem_cons_self
      have h8 := hI.n8 j hj
      have e : (toR (gr.get j)).f_Node = (j : Int) := hI.nd j hj
      have hb : ∀ k, parrelref19_Gather_Nodes_b0 (toR (gr.get j)) (s : Int) k = k ((addN s j : Nat) : Int) := by
        intro k; unfold parrelref19_Gather_Nodes_b0; rw [e, w64 (by omega) (by omega), rwith_eq hs, Option.bind_some]
      rw [List.map_cons, walkL, hb]
      exact ih _ (fun i hi => hq i (List.mem_cons_of_mem _ hi)) (addN_lt hs j)
  rw [hL]
  refine (key (Q8 n) 0 (fun j hj => (mem_Q8.1 hj).2) (by omega)).trans ?_
  congr 2
  apply Nat.eq_of_testBit_eq
  intro i
  rw [fold_bit _ _ (fun j hj => by have := (mem_Q8.1 hj).1; omega), Nat.zero_testBit, Bool.false_or]
  cases hb : n.testBit i with
  | true => exact decide_eq_true (mem_Q8.2 ⟨hI.n8 i hb, hb⟩)
  | false => exact decide_eq_false fun h => by rw [(mem_Q8.1 h).2] at hb; cases hb

/-! Enough -/
theorem lacks_eq {mo : List T_api_Config} (hm : ∀ c ∈ mo, WfV c) (hl : mo.length ≤ 8) (mode : Int) (c : T_api_Config) (mo' : List T_api_Config) (gr : A8 T_gather_Got) {n : Nat} (hn : n < 18446744073709551616) :
    slices_ContainsFunc_api_Config_api_Config_2 mo (T_gather_Gather.mk mode c mo' gr (n : Int)) = some (mo.any fun x => !canW x n) := by
  unfold slices_ContainsFunc_api_Config_api_Config_2 slices_IndexFunc_api_Config_api_Config_2
  rw [slices_IndexFunc_api_Config_api_Config_2_w0 _ _ (by omega)]
  have := walk_find (fun x => !canW x n) (fun x => gather_Gather_Enough_L1 x (T_gather_Gather.mk mode c mo' gr (n : Int))) mo (fun x hx => by
    unfold gather_Gather_Enough_L1
    show ((votes_Writes x (n : Int)).bind _) = _
    rw [writes_eq (hm x hx) hn]; rfl)
  rw [show walkN (slices_IndexFunc_api_Config_api_Config_2_b0 mo (T_gather_Gather.mk mode c mo' gr (n : Int))) slices_IndexFunc_api_Config_api_Config_2_e0 mo.length 0 () = _ from this, Option.bind_some, find_any]
theorem genough_eq {mode : Int} (ho : mode = 1 ∨ mode = 2) {mo : List T_api_Config} (hm : ∀ c ∈ mo, WfV c) (hl : mo.length ≤ 8) {conf : T_api_Config} (hc : WfV conf) (gr : A8 T_gather_Got) {n : Nat} (hn : n < 18446744073709551616) :
    gather_Gather_Enough (T_gather_Gather.mk mode conf mo gr (n : Int)) = some ((if mode = 2 then canW conf n else canR conf n) && !(mo.any fun x => !canW x n)) := by
  unfold gather_Gather_Enough
  rw [ok_eq ho, Option.bind_some, if_neg (by simp)]
  rcases ho with rfl | rfl
  · rw [if_neg (show ¬ ((1 : Int) == 2) = true by decide), if_neg (show ¬ (1 : Int) = 2 by decide)]
    simp only [reads_eq hc hn, Option.bind_some, lacks_eq hm hl 1 conf mo gr hn]
    cases canR conf n <;> rfl
  · rw [if_pos (show ((2 : Int) == 2) = true by decide), if_pos rfl]
    simp only [writes_eq hc hn, Option.bind_some, lacks_eq hm hl 2 conf mo gr hn]
    cases canW conf n <;> rfl
theorem renough_loop (mode : Int) {mo : List T_api_Config} (hm : ∀ c ∈ mo, WfV c) (hl : mo.length ≤ 8) {conf : T_api_Config} {gr : A8 T_gather_Got} {n : Nat} {L : List T_parrelref19_Got} (hI : InvP conf gr n L) :
    parrelref19_Gather_Enough_l0 (T_parrelref19_Gather.mk mode conf mo L) big 0 = some (!(mo.any fun x => !canW x n)) := by
  rw [parrelref19_Gather_Enough_w0 _ (by show mo.length < _; omega)]
  show walkL _ _ mo () = _
  rw [walkL_any (fun x => !canW x n) (some false) parrelref19_Gather_Enough_e0 _ mo (fun a ha k => ?_)]
  · cases (mo.any fun x => !canW x n) <;> rfl
  · have hw := (hm a ha).w
    unfold parrelref19_Gather_Enough_b0
    rw [rnodes_eq mode mo hI, Option.bind_some, rof_eq (hm a ha) hI.n8.lt, Option.bind_some, w64 (by omega) (by omega)]
    unfold canW
    by_cases h : sumV a n < a.f_W
    · rw [if_pos (by simpa using h), if_pos (by simpa using h)]
    · rw [if_neg (by simpa using h), if_neg (by simpa using h)]
theorem renough_eq {mode : Int} (ho : mode = 1 ∨ mode = 2) {mo : List T_api_Config} (hm : ∀ c ∈ mo, WfV c) (hl : mo.length ≤ 8) {conf : T_api_Config} {gr : A8 T_gather_Got} {n : Nat} {L : List T_parrelref19_Got} (hI : InvP conf gr n L) :
    parrelref19_Gather_Enough (T_parrelref19_Gather.mk mode conf mo L) = some ((if mode = 2 then canW conf n else canR conf n) && !(mo.any fun x => !canW x n)) := by
  have hw := hI.c.w; have hr := hI.c.r
  unfold parrelref19_Gather_Enough
  simp only [rnodes_eq mode mo hI, rof_eq hI.c hI.n8.lt, Option.bind_some, renough_loop mode hm hl hI]
  rcases ho with rfl | rfl
  · rw [if_neg (show ¬ ((1 : Int) == 2) = true by decide), if_neg (show ¬ (1 : Int) = 2 by decide), w64 (by omega) (by omega)]
    unfold canR
    by_cases h : sumV conf n < conf.f_R
    · rw [if_pos (by simpa using h), decide_eq_false (by omega)]; rfl
    · rw [if_neg (by simpa using h), decide_eq_true (by omega)]; rfl
  · rw [if_pos (show ((2 : Int) == 2) = true by decide), if_pos rfl, w64 (by omega) (by omega)]
    unfold canW
    by_cases h : sumV conf n < conf.f_W
    · rw [if_pos (by simpa using h), decide_eq_false (by omega)]; rfl
    · rw [if_neg (by simpa using h), decide_eq_true (by omega)]; rfl

/-! Who is to be asked -/
def setM (c : T_api_Config) (mo : List T_api_Config) : Nat := mo.foldl (fun s c => s ||| setOf (voterV c)) (setOf (voterV c))
def votM (c : T_api_Config) (mo : List T_api_Config) (i : Nat) : Bool := voterV c i || mo.any fun x => voterV x i
theorem setM_gen : ∀ (mo : List T_api_Config) (s : Nat), s < 18446744073709551616 → mo.foldl (fun s c => s ||| setOf (voterV c)) s < 18446744073709551616 ∧ ∀ i, (mo.foldl (fun s c => s ||| setOf (voterV c)) s).testBit i = (s.testBit i || (decide (i < 8) && mo.any fun x => voterV x i))
  | [], s, h => ⟨h, fun i => by simp⟩
  | c :: mo, s, h => by
    obtain ⟨h1, h2⟩ := setM_gen mo (s ||| setOf (voterV c)) (or_lt h (setOf_lt _))
    refine ⟨h1, fun i => ?_⟩
    rw [List.foldl_cons, h2, Nat.testBit_or, setOf_bit, List.any_cons]
    cases s.testBit i <;> cases decide (i < 8) <;> cases voterV c i <;> simp
theorem setM_lt (c : T_api_Config) (mo : List T_api_Config) : setM c mo < 18446744073709551616 := (setM_gen mo _ (setOf_lt _)).1
theorem setM_bit (c : T_api_Config) (mo : List T_api_Config) (i : Nat) : (setM c mo).testBit i = (decide (i < 8) && votM c mo i) := by
  unfold setM votM
  rw [(setM_gen mo _ (setOf_lt _)).2, setOf_bit]
  cases decide (i < 8) <;> simp
def askM (c : T_api_Config) (mo : List T_api_Config) (n : Nat) : Nat := less (setM c mo) n
theorem askM_bit (c : T_api_Config) (mo : List T_api_Config) (n j : Nat) : (askM c mo n).testBit j = (decide (j < 8) && (votM c mo j && !n.testBit j)) := by
  unfold askM
  rw [less_bit _ _ (setM_lt _ _), setM_bit, Bool.and_assoc]
theorem gask_eq {mode : Int} (ho : mode = 1 ∨ mode = 2) {mo : List T_api_Config} (hl : mo.length ≤ 8) (c : T_api_Config) (gr : A8 T_gather_Got) (n : Nat) : gather_Gather_Ask (T_gather_Gather.mk mode c mo gr (n : Int)) = some ((Q8 (askM c mo n)).map fun (i : Nat) => (i : Int)) := by
  have hql := Q8_len (askM c mo n)
  have hlt : askM c mo n < 18446744073709551616 := less_lt _ _
  have hb := bits_Q8 (n := askM c mo n) (s := askM c mo n) (fun j => by rw [askM_bit]; cases decide (j < 8) <;> simp)
  unfold gather_Gather_Ask
  rw [ok_eq ho, Option.bind_some, if_neg (by simp), voters_eq, Option.bind_some, gather_Gather_Ask_w0 _ _ (by show mo.length < _; omega)]
  show walkL gather_Gather_Ask_b0 _ mo _ = _
  have key : ∀ (l : List T_api_Config) (s : Nat) (e : Int → Option (List Int)), s < 18446744073709551616 → walkL gather_Gather_Ask_b0 e l (s : Int) = e ((l.foldl (fun s c => s ||| setOf (voterV c)) s : Nat) : Int) := by
    intro l
    induction l with
    | nil => intro s e _; rfl
    | cons a l ih =>
      intro s e hs
      have hb : ∀ k, gather_Gather_Ask_b0 a (s : Int) k = k ((s ||| setOf (voterV a) : Nat) : Int) := by
        intro k; unfold gather_Gather_Ask_b0; rw [voters_eq, Option.bind_some, or_u _ _ hs (setOf_lt _)]
      rw [walkL, hb]
      exact ih _ e (or_lt hs (setOf_lt _))
  rw [key mo _ _ (setOf_lt _)]
  show gather_Gather_Ask_e0 _ ((setM c mo : Nat) : Int) = _
  unfold gather_Gather_Ask_e0
  show (if 0 ≤ (IntKind.wrap .u64 ((BitVec.ofInt (IntKind.bits .u64) ((setM c mo : Nat) : Int) &&& ~~~ BitVec.ofInt (IntKind.bits .u64) (n : Int)).toNat : Int)) ∧ _ then gather_Gather_Ask_l1 _ _ big 0 [] else none) = _
  rw [less_u]
  show (if 0 ≤ ((askM c mo n : Nat) : Int) ∧ ((askM c mo n : Nat) : Int) < 18446744073709551616 then _ else none) = _
  rw [if_pos (by omega)]
  have hL : bitsL (IntKind.wrap .u64 ((BitVec.ofInt (IntKind.bits .u64) ((setM c mo : Nat) : Int) &&& ~~~ BitVec.ofInt (IntKind.bits .u64) (n : Int)).toNat : Int)) = (Q8 (askM c mo n)).map fun (i : Nat) => (i : Int) := by rw [less_u]; exact hb
  rw [gather_Gather_Ask_w1 _ _ [] (by show (bitsL _).length < _; rw [hL, List.length_map]; omega)]
  show walkN _ _ (bitsL (IntKind.wrap .u64 ((BitVec.ofInt (IntKind.bits .u64) ((setM c mo : Nat) : Int) &&& ~~~ BitVec.ofInt (IntKind.bits .u64) (n : Int)).toNat : Int))).length 0 [] = _
  rw [hL, List.length_map]
  have key : ∀ (m i : Nat) (r : List Int), i + m = (Q8 (askM c mo n)).length → r.length + m ≤ 8 → walkN (gather_Gather_Ask_b1 (T_gather_Gather.mk mode c mo gr (n : Int)) ((setM c mo : Nat) : Int)) gather_Gather_Ask_e1 m i r = some (r ++ ((Q8 (askM c mo n)).drop i).map fun (i : Nat) => (i : Int)) := by
    intro m
    induction m with
    | zero => intro i r hi _; rw [List.drop_eq_nil_of_le (by omega)]; simp [walkN, gather_Gather_Ask_e1]
    | succ m ih =>
      intro i r hi hr
      have hlt : i < (Q8 (askM c mo n)).length := by omega
      have hm : (Q8 (askM c mo n)).getD i 0 ∈ Q8 (askM c mo n) := by rw [List.getD_eq_getElem?_getD, List.getElem?_eq_getElem hlt]; exact List.getElem_mem hlt
      have hm8 := (mem_Q8.1 hm).1
      have hb0 : ∀ k, gather_Gather_Ask_b1 (T_gather_Gather.mk mode c mo gr (n : Int)) ((setM c mo : Nat) : Int) i r k = k (r ++ [(((Q8 (askM c mo n)).getD i 0 : Nat) : Int)]) := by
        intro k
        unfold gather_Gather_Ask_b1
        show (if (r.length + _) * 1 ≤ 140737488351232 then k (r ++ [IntKind.wrap .u8 ((bitsL (IntKind.wrap .u64 ((BitVec.ofInt (IntKind.bits .u64) ((setM c mo : Nat) : Int) &&& ~~~ BitVec.ofInt (IntKind.bits .u64) (n : Int)).toNat : Int))).getD i default)]) else none) = _
        rw [hL]
        have e1 : ((Q8 (askM c mo n)).map fun (i : Nat) => (i : Int)).getD i default = (((Q8 (askM c mo n)).getD i 0 : Nat) : Int) := by simp [List.getD_eq_getElem?_getD, List.getElem?_eq_getElem hlt]
        rw [e1, wu8 (by omega) (by omega), if_pos (by simp only [List.length_singleton]; omega)]
      rw [walkN, hb0, ih (i + 1) _ (by omega) (by simp only [List.length_append, List.length_singleton]; omega), getD_drop (Q8 (askM c mo n)) i 0 hlt]; simp
  have := key (Q8 (askM c mo n)).length 0 [] (by omega) (by simpa using hql)
  simpa using this
theorem rask_eq (mode : Int) {mo : List T_api_Config} (hl : mo.length ≤ 8) {conf : T_api_Config} {gr : A8 T_gather_Got} {n : Nat} {L : List T_parrelref19_Got} (hI : InvP conf gr n L) :
    parrelref19_Gather_Ask (T_parrelref19_Gather.mk mode conf mo L) = some ((Q8 (askM conf mo n)).map fun (i : Nat) => (i : Int)) := by
  have hn := hI.n8.lt
  unfold parrelref19_Gather_Ask
  rw [parrelref19_Gather_Ask_w0 _ [] (by decide)]
  have round : ∀ (i : Nat), i < 8 → ∀ (r : List Int), r.length ≤ 8 → ∀ k, parrelref19_Gather_Ask_b0 (T_parrelref19_Gather.mk mode conf mo L) i r k = k (r ++ ([i].filter (askM conf mo n).testBit).map fun (i : Nat) => (i : Int)) := by
    intro i hi r hr k
    unfold parrelref19_Gather_Ask_b0
    rw [parrelref19_Gather_Ask_w1 _ _ _ _ _ (by show mo.length < _; omega)]
    have inner : ∀ (l : List T_api_Config) (v : Bool) (e : Bool → Option (List Int)), walkL (parrelref19_Gather_Ask_b1 (i : Int) k) e l v = e (v || l.any fun x => voterV x i) := by
      intro l
      induction l with
      | nil => intro v e; rw [walkL, List.any_nil, Bool.or_false]
      | cons a l ih =>
        intro v e
        have hb : ∀ K, parrelref19_Gather_Ask_b1 (i : Int) k a v K = K (v || voterV a i) := by
          intro K; unfold parrelref19_Gather_Ask_b1
          cases v with
          | true => rw [if_pos rfl, Bool.true_or]
          | false => rw [if_neg Bool.false_ne_true, if_pos (by omega), Int.toNat_natCast, Bool.false_or]; rfl
        rw [walkL, hb, ih, List.any_cons, Bool.or_assoc]
    refine (inner mo _ _).trans ?_
    have hv : (decide (0 < A8.get conf.f_Votes i) || mo.any fun x => voterV x i) = votM conf mo i := rfl
    show parrelref19_Gather_Ask_e1 _ _ _ _ (decide (0 < A8.get conf.f_Votes i) || mo.any fun x => voterV x i) = _
    rw [hv]
    unfold parrelref19_Gather_Ask_e1
    have hb := askM_bit conf mo n i
    rw [decide_eq_true hi, Bool.true_and] at hb
    cases hvm : votM conf mo i with
    | false =>
      rw [hvm, Bool.false_and] at hb
      rw [if_neg Bool.false_ne_true]; simp [hb]
    | true =>
      rw [hvm, Bool.true_and] at hb
      rw [if_pos rfl, rnodes_eq mode mo hI, Option.bind_some, rhas_eq hn, Option.bind_some, wu8 (by omega) (by omega)]
      cases hbn : n.testBit i with
      | true => rw [hbn] at hb; rw [if_neg (by simp)]; simp [hb]
      | false => rw [hbn] at hb; rw [if_pos (by simp), if_pos (by simp only [List.length_singleton]; omega)]; simp [hb]
  have key : ∀ (m i : Nat) (r : List Int), i + m = 8 → r.length ≤ i → walkN (parrelref19_Gather_Ask_b0 (T_parrelref19_Gather.mk mode conf mo L)) parrelref19_Gather_Ask_e0 m i r = some (r ++ ((List.range' i m).filter (askM conf mo n).testBit).map fun (i : Nat) => (i : Int)) := by
    intro m
    induction m with
    | zero => intro i r _ _; simp [walkN, parrelref19_Gather_Ask_e0]
    | succ m ih =>
      intro i r hi hr
      rw [walkN, round i (by omega) r (by omega), ih (i + 1) _ (by omega) (by
        rw [List.length_append, List.length_map]
        have := List.length_filter_le (askM conf mo n).testBit [i]
        simp only [List.length_singleton] at this; omega), List.range'_succ, ← List.singleton_append (l := List.range' (i + 1) m), List.filter_append, List.map_append, List.append_assoc]
  have := key 8 0 [] (by omega) (by simp)
  rw [this, List.nil_append]; rfl

/-! A round; the law -/
theorem any_may {l : List T_api_Config} : (l.any fun c => !mayV c) = !(l.all mayV) := by
  induction l with
  | nil => rfl
  | cons a l ih => rw [List.any_cons, List.all_cons, ih]; cases mayV a <;> simp
theorem new_both (k : A8 Int) (hk : wfK k) {c : T_api_Config} (hc : WfV c) {mo : List T_api_Config} (hm : ∀ x ∈ mo, WfV x) (hl : mo.length ≤ 8) {mode : Int} (hmo : 0 ≤ mode ∧ mode ≤ 2) :
    (gather_New k mode c mo = some (true, (), default) ∧ ∃ r, parrelref19_New k mode c mo = some (r, 1)) ∨
    ((mode = 1 ∨ mode = 2) ∧ gather_New k mode c mo = some (false, default, (mode, c, mo, G0)) ∧ parrelref19_New k mode c mo = some (T_parrelref19_Gather.mk mode c mo [], 0)) := by
  obtain ⟨s, hn1, hn2⟩ := mayK_eq k hk
  have hk1 : parrelref10_KeyMay k = some (mayK k) := by unfold parrelref10_KeyMay; rw [hn2]; rfl
  have hcf : slices_ContainsFunc_api_Config_api_Config ([c] ++ mo) = some (!(mayV c && mo.all mayV)) := by
    rw [cont1 (by rw [List.length_append, List.length_singleton]; omega) (fun x hx => by
      rcases List.mem_append.1 hx with hx | hx
      · rw [List.mem_singleton] at hx; subst hx; exact hc
      · exact hm x hx), any_may]
    simp
  have hl0 : parrelref19_New_l0 mode c mo big 0 = some (if mo.all mayV = true then (T_parrelref19_Gather.mk mode c mo [], 0) else (T_parrelref19_Gather.mk 0 (T_api_Config.mk 0 0 0 (A8.mk 0 0 0 0 0 0 0 0)) [] [], 1)) := by
    rw [parrelref19_New_w0 _ _ _ (by omega), walkL_any (fun x => !mayV x) (some (T_parrelref19_Gather.mk 0 (T_api_Config.mk 0 0 0 (A8.mk 0 0 0 0 0 0 0 0)) [] [], 1)) (parrelref19_New_e0 mode c mo) _ mo (fun a ha k => by
      unfold parrelref19_New_b0
      rw [refMay_eq (hm a ha), Option.bind_some]), any_may]
    cases mo.all mayV with
    | false => rfl
    | true =>
      rw [if_neg (show ¬ (!true) = true by simp), if_pos rfl]
      unfold parrelref19_New_e0
      rw [if_pos (by omega)]
  unfold gather_New gather_may parrelref19_New
  rw [if_pos (by simp), if_pos (by simp only [List.length_singleton]; omega), hn1, hk1, Option.bind_some, Option.bind_some]
  cases mayK k with
  | false => exact .inl ⟨rfl, _, rfl⟩
  | true =>
    rw [if_pos rfl, if_neg (show ¬ (!true) = true by simp), hcf, refMay_eq hc, hl0]
    rcases (by omega : mode = 0 ∨ mode = 1 ∨ mode = 2) with rfl | rfl | rfl
    · left
      exact ⟨rfl, _, rfl⟩
    all_goals
      cases mayV c with
      | false => left; exact ⟨rfl, _, rfl⟩
      | true =>
        cases mo.all mayV with
        | false => left; exact ⟨rfl, _, rfl⟩
        | true =>
          right
          refine ⟨by omega, ?_, rfl⟩
          show (if (0 + mo.length) * 16 ≤ 140737488351232 then _ else none) = _
          rw [if_pos (show (0 + mo.length) * 16 ≤ 140737488351232 by omega)]
          rfl
theorem short_eq (l : List T_parrelref19_Got) : parrellaw19_short l = some (l.take 40) := by
  unfold parrellaw19_short
  by_cases h : 40 < (l.length : Int)
  · rw [if_pos h, if_pos (by omega)]; rfl
  · rw [if_neg h, if_pos (by omega), Int.toNat_natCast, List.take_of_length_le (by omega), List.take_of_length_le (by omega)]
theorem far_some (l : List T_parrelref19_Got) : ∃ b, parrellaw19_far l = some b := by
  unfold parrellaw19_far
  rw [short_eq, Option.bind_some, parrellaw19_far_w0 _ 0 (by rw [List.length_take]; omega)]
  have key : ∀ (m i : Nat) (s : Int), ∃ b, walkN (parrellaw19_far_b0 (l.take 40)) parrellaw19_far_e0 m i s = some b := by
    intro m
    induction m with
    | zero => intro i s; exact ⟨_, rfl⟩
    | succ m ih => intro i s; exact ih _ _
  exact key _ _ _
theorem inner_eq {mode : Int} (ho : mode = 1 ∨ mode = 2) {mo : List T_api_Config} (hm : ∀ x ∈ mo, WfV x) (hl : mo.length ≤ 8) {s : List T_parrelref19_Got} (hs : ∀ x ∈ s, WfG x) (r0 : T_parrelref19_Gather) (k0 : Unit → Option Bool) :
    ∀ (m i : Nat) (conf : T_api_Config) (gr : A8 T_gather_Got) (n : Nat) (L : List T_parrelref19_Got), i + m = s.length → InvP conf gr n L → walkN (parrellaw19_GatherPlays_b1 (r0, 0) s k0) (parrellaw19_GatherPlays_e1 k0) m i (mode, conf, mo, gr, (n : Int), mode, conf, mo, L) = k0 ()
  | 0, i, conf, gr, n, L, _, _ => rfl
  | m + 1, i, conf, gr, n, L, hi, hI => by
    obtain ⟨e, conf', gr', n', L', hI', h1, h2⟩ := grant_both ho mo hI (hs _ (getD_mem (l := s) (i := i) (by omega)))
    have hlen := hI'.len
    have hb8 := lstG_len gr' n'
    obtain ⟨y, hy⟩ := inewest_some (l := (lstG gr' n').map (·.f_Item)) (by rw [List.length_map]; exact hb8)
    rw [walkN]
    unfold parrellaw19_GatherPlays_b1
    rw [if_neg (by simp)]
    show ((gather_Gather_Grant (T_gather_Gather.mk mode conf mo gr (n : Int)) (toG (s.getD i default))).bind _) = _
    rw [h1, Option.bind_some]
    show ((parrelref19_Gather_Grant (T_parrelref19_Gather.mk mode conf mo L) (s.getD i default)).bind _) = _
    rw [h2, Option.bind_some, if_neg (by simp)]
    simp only [gconf_eq ho, genough_eq ho hm hl hI'.c gr' hI'.n8.lt, renough_eq ho hm hl hI', gnodes_eq ho, rnodes_eq mode mo hI', gask_eq ho hl, rask_eq mode hl hI', all_eq ho mo conf' gr' hI'.n8, ours_eq hb8, gnewest_eq ho mo conf' gr' hI'.n8, rnewest_eq mode mo hI', hy, Option.bind_some]
    have hbytes : ∀ a, parrelref19_Bytes a a = some true := fun a => by unfold parrelref19_Bytes; simp
    have hsame : parrellaw19_same ((lstG gr' n').map toR) L' = some true := by rw [← hI'.l]; exact same_eq hlen
    rw [if_neg (by simp), if_neg (by simp), if_neg (by simp), hbytes, Option.bind_some, if_neg (by simp), hsame, Option.bind_some, if_neg (by simp), if_neg (by simp), if_neg (by simp)]
    exact inner_eq ho hm hl hs r0 k0 m (i + 1) conf' gr' n' L' (by omega) hI'
theorem start_inv {c : T_api_Config} (hc : WfV c) : InvP c G0 0 [] := by
  have h0 : ∀ j, (0 : Nat).testBit j = true → False := fun j h => by rw [Nat.zero_testBit] at h; cases h
  refine ⟨hc, fun j h => (h0 j h).elim, fun j h => (h0 j h).elim, ?_⟩
  have : Q8 0 = [] := by unfold Q8; simp
  unfold lstG; rw [this]; rfl
theorem tmod3 (i : Nat) (h : i < 6) : 0 ≤ IntKind.wrap .u8 (Int.tmod (i : Int) 3) ∧ IntKind.wrap .u8 (Int.tmod (i : Int) 3) ≤ 2 := by
  have e : Int.tmod (i : Int) 3 = (i : Int) % 3 := Int.tmod_eq_emod_of_nonneg (by omega)
  rw [e, wu8 (by omega) (by omega)]; omega
theorem plays_eq (k : A8 Int) (hk : wfK k) {c : A2 T_api_Config} (h0 : WfV c.a0) (h1 : WfV c.a1) {l : List T_parrelref19_Got} (hl : ∀ x ∈ l, WfG x) : parrellaw19_GatherPlays k c l = some true := by
  obtain ⟨b, hb⟩ := far_some l
  unfold parrellaw19_GatherPlays
  rw [hb, Option.bind_some]
  cases b with
  | true => exact alive_tail
  | false =>
    rw [if_neg Bool.false_ne_true, parrellaw19_GatherPlays_w0 _ _ _ (by decide)]
    have hs : ∀ x ∈ l.take 40, WfG x := fun x hx => hl x (List.mem_of_mem_take hx)
    have hsl : (l.take 40).length < 9223372036854775807 := by rw [List.length_take]; omega
    have round : ∀ i, i < 6 → ∀ K : Unit → Option Bool, parrellaw19_GatherPlays_b0 k c l i () K = K () := by
      intro i hi K
      have hmd := tmod3 i hi
      unfold parrellaw19_GatherPlays_b0
      generalize IntKind.wrap .u8 (Int.tmod (i : Int) 3) = mode at hmd
      by_cases h2 : 2 < (i : Int)
      · rw [if_pos (by simpa using h2)]
        have hm : ∀ x ∈ [c.a1], WfV x := fun x hx => by rw [List.mem_singleton] at hx; subst hx; exact h1
        rcases new_both k hk h0 hm (by simp) hmd with ⟨e1, r, e2⟩ | ⟨ho, e1, e2⟩
        · rw [e1, Option.bind_some, if_pos rfl, e2, Option.bind_some, if_neg (by simp), if_neg (by simp), short_eq, Option.bind_some]
          by_cases hz : 0 < ((l.take 40).length : Int)
          · rw [if_pos (by simpa using hz), if_pos (by omega), if_pos (by simp)]
          · rw [if_neg (by simpa using hz)]
        · rw [e1, Option.bind_some, if_neg (show ¬ false = true from Bool.false_ne_true), e2, Option.bind_some, if_neg (by simp), if_neg (by simp), short_eq, Option.bind_some]
          rw [parrellaw19_GatherPlays_w1 _ _ _ _ _ _ _ _ _ _ _ _ _ _ _ _ hsl]
          exact inner_eq ho hm (by simp) hs _ (fun _ => K ()) (l.take 40).length 0 c.a0 G0 0 [] (by omega) (start_inv h0)
      · rw [if_neg (by simpa using h2)]
        have hm : ∀ x ∈ ([] : List T_api_Config), WfV x := fun x hx => nomatch hx
        rcases new_both k hk h0 hm (by simp) hmd with ⟨e1, r, e2⟩ | ⟨ho, e1, e2⟩
        · rw [e1, Option.bind_some, if_pos rfl, e2, Option.bind_some, if_neg (by simp), if_neg (by simp), short_eq, Option.bind_some]
          by_cases hz : 0 < ((l.take 40).length : Int)
          · rw [if_pos (by simpa using hz), if_pos (by omega), if_pos (by simp)]
          · rw [if_neg (by simpa using hz)]
        · rw [e1, Option.bind_some, if_neg (show ¬ false = true from Bool.false_ne_true), e2, Option.bind_some, if_neg (by simp), if_neg (by simp), short_eq, Option.bind_some]
          rw [parrellaw19_GatherPlays_w1 _ _ _ _ _ _ _ _ _ _ _ _ _ _ _ _ hsl]
          exact inner_eq ho hm (by simp) hs _ (fun _ => K ()) (l.take 40).length 0 c.a0 G0 0 [] (by omega) (start_inv h0)
    have key : ∀ (m i : Nat), i + m = 6 → walkN (parrellaw19_GatherPlays_b0 k c l) parrellaw19_GatherPlays_e0 m i () = some true := by
      intro m
      induction m with
      | zero => intro i _; exact alive_tail
      | succ m ih => intro i hi; rw [walkN, round i (by omega)]; exact ih (i + 1) (by omega)
    exact key 6 0 (by omega)
theorem plays_law (k : A8 Int) (c : A2 T_api_Config) (l : List T_parrelref19_Got) (hk : wfL (kc k)) (hc : wfL (c_T_api_Config c.a0 ++ c_T_api_Config c.a1)) (hl : (∀ a ∈ l, wfL (c_T_parrelref19_Got a)) ∧ l.length * 56 ≤ 140737488351232) : parrellaw19_GatherPlays k c l = some true :=
  plays_eq k (wfK_of k hk) (wfV_of fun x hx => hc x (List.mem_append_left _ hx)) (wfV_of fun x hx => hc x (List.mem_append_right _ hx)) (fun x hx => by
    have h := hl.1 x hx
    refine ⟨wf_u8 (h _ (by simp [c_T_parrelref19_Got])), wf_u32 (h (.int .u32 x.f_Reg.f_Boot) (by simp [c_T_parrelref19_Got])), wf_u32 (h (.int .u32 x.f_Reg.f_N) (by simp [c_T_parrelref19_Got])), wfV_of fun y hy => h y ?_⟩
    simp only [c_T_api_Config, List.mem_cons, List.not_mem_nil, or_false] at hy
    simp only [c_T_parrelref19_Got, List.mem_cons, List.not_mem_nil, or_false]
    rcases hy with h | h | h | h | h | h | h | h | h | h | h <;> simp [h])
end Go.Proofs.YtffmmflapagkhaaDoor.Wk
