/- Plain facts: GatherEnds. -/
import Derived.Test.YtffmmflapagkhaaDoorGathC
set_option linter.unusedVariables false
set_option linter.unusedSimpArgs false
set_option linter.unusedSectionVars false
namespace Go.Proofs.YtffmmflapagkhaaDoor.Wk
open Go Go.Cn

theorem getD_drop {α : Type} (l : List α) (k : Nat) (d : α) (h : k < l.length) : l.drop k = l.getD k d :: l.drop (k + 1) := by
  rw [List.drop_eq_getElem_cons h, List.getD_eq_getElem?_getD, List.getElem?_eq_getElem h]; rfl
theorem newm_eq {c0 c1 : T_api_Config} (h0 : WfV c0) (h1 : WfV c1) {mode : Int} (ho : mode = 1 ∨ mode = 2) : gather_New key97 mode c0 [c1] = some (if (mayV c0 && mayV c1) = true then (false, default, (mode, c0, [c1], G0)) else (true, (), default)) := by
  obtain ⟨s, hn⟩ := name97
  have hmay : gather_may key97 mode ([c0] ++ [c1]) = some (mayV c0 && mayV c1) := by
    unfold gather_may
    have h2 : slices_ContainsFunc_api_Config_api_Config ([c0] ++ [c1]) = some (!(mayV c0 && mayV c1)) := by
      rw [cont1 (by simp) (fun x hx => by
        rcases List.mem_append.1 hx with hx | hx <;> (rw [List.mem_singleton] at hx; subst hx; assumption))]
      have e : ([c0] ++ [c1]).any (fun c => !mayV c) = (!mayV c0 || !mayV c1) := by simp
      rw [e]
      cases mayV c0 <;> cases mayV c1 <;> rfl
    rw [hn, Option.bind_some, h2]
    rcases ho with rfl | rfl <;> (cases mayV c0 <;> cases mayV c1 <;> rfl)
  unfold gather_New
  rw [if_pos (by simp), if_pos (by simp), hmay, Option.bind_some]
  cases (mayV c0 && mayV c1) with
  | false => rfl
  | true => rw [if_neg (by simp), if_pos (by simp)]; rfl
theorem grant2 {mode : Int} (ho : mode = 1 ∨ mode = 2) (mo : List T_api_Config) {t : T_api_Item} {i : Nat} (hi : i < 8) (h : OkIt t) (conf : T_api_Config) (gr : A8 T_gather_Got) {n : Nat} (hg : n < 18446744073709551616) (hb : n.testBit i = false) :
    gather_Gather_Grant (T_gather_Gather.mk mode conf mo gr (n : Int)) (T_gather_Got.mk (i : Int) (T_api_Reg.mk 1 1) t) = some (0, mode, (if conf.f_Epoch < t.f_Conf.f_Epoch then t.f_Conf else conf), mo, gr.set (T_gather_Got.mk (i : Int) (T_api_Reg.mk 1 1) t) i, ((addN n i : Nat) : Int)) := by
  have hok : gather_Gather_ok (T_gather_Gather.mk mode conf mo gr (n : Int)) = some true := by
    unfold gather_Gather_ok; rcases ho with rfl | rfl <;> rfl
  have e1 : IntKind.wrap .i64 (i : Int) = (i : Int) := w64 (by omega) (by omega)
  unfold gather_Gather_Grant
  rw [hok, Option.bind_some, if_neg (by simp)]
  have f1 : (T_gather_Got.mk (i : Int) (T_api_Reg.mk 1 1) t).f_Node = (i : Int) := rfl
  have f2 : (T_gather_Got.mk (i : Int) (T_api_Reg.mk 1 1) t).f_Reg = T_api_Reg.mk 1 1 := rfl
  have f3 : (T_gather_Got.mk (i : Int) (T_api_Reg.mk 1 1) t).f_Item = t := rfl
  rw [f1, f2, f3]
  rw [if_neg (by simp only [decide_eq_true_eq]; omega), rmay, Option.bind_some, if_neg (by simp), imay h, Option.bind_some, if_neg (by simp), e1, has_eq hg, Option.bind_some, hb, if_neg Bool.false_ne_true, if_pos (by omega), with_eq hg, Option.bind_some]
  rw [Int.toNat_natCast]
  by_cases hE : conf.f_Epoch < t.f_Conf.f_Epoch
  · rw [if_pos (by simpa using hE), if_pos hE]
  · rw [if_neg (by simpa using hE), if_neg hE]
def Q8 (s : Nat) : List Nat := (List.range 8).filter s.testBit
theorem mem_Q8 {s j : Nat} : j ∈ Q8 s ↔ j < 8 ∧ s.testBit j = true := by unfold Q8; rw [List.mem_filter, List.mem_range]
theorem Q8_len (s : Nat) : (Q8 s).length ≤ 8 := Nat.le_trans (List.length_filter_le _ _) (by simp)
theorem Q8_nodup (s : Nat) : (Q8 s).Nodup := (List.nodup_range (n := 8)).filter _
theorem bits_Q8 {n s : Nat} (h : ∀ j, n.testBit j = (decide (j < 8) && s.testBit j)) : bitsL (n : Int) = (Q8 s).map fun (i : Nat) => (i : Int) := by
  unfold bitsL Q8
  rw [Int.toNat_natCast]
  congr 1
  rw [show List.range 64 = List.range 8 ++ List.range' 8 56 from by decide, List.filter_append]
  have h2 : (List.range' 8 56).filter n.testBit = [] := by
    rw [List.filter_eq_nil_iff]
    intro j hj
    rw [List.mem_range'_1] at hj
    rw [h, show decide (j < 8) = false from decide_eq_false (by omega)]; simp
  rw [h2, List.append_nil]
  exact List.filter_congr fun j hj => by
    rw [List.mem_range] at hj
    rw [h, show decide (j < 8) = true from decide_eq_true hj, Bool.true_and]
/-- Who is to be asked. -/
def askS (c c1 : T_api_Config) (n : Nat) : Nat := less (setOf (voterV c) ||| setOf (voterV c1)) n
theorem askS_bit (c c1 : T_api_Config) (n j : Nat) : (askS c c1 n).testBit j = (decide (j < 8) && ((voterV c j || voterV c1 j) && !n.testBit j)) := by
  unfold askS
  rw [less_bit _ _ (or_lt (setOf_lt _) (setOf_lt _)), Nat.testBit_or, setOf_bit, setOf_bit]
  cases decide (j < 8) <;> simp
theorem ask_eq {mode : Int} (ho : mode = 1 ∨ mode = 2) (c c1 : T_api_Config) (gr : A8 T_gather_Got) (n : Nat) : gather_Gather_Ask (T_gather_Gather.mk mode c [c1] gr (n : Int)) = some ((Q8 (askS c c1 n)).map fun (i : Nat) => (i : Int)) := by
  have hl := Q8_len (askS c c1 n)
  have hok : gather_Gather_ok (T_gather_Gather.mk mode c [c1] gr (n : Int)) = some true := by
    unfold gather_Gather_ok; rcases ho with rfl | rfl <;> rfl
  have hlt : askS c c1 n < 18446744073709551616 := less_lt _ _
  have hb := bits_Q8 (n := askS c c1 n) (s := askS c c1 n) (fun j => by rw [askS_bit]; cases decide (j < 8) <;> simp)
  unfold gather_Gather_Ask
  rw [hok, Option.bind_some, if_neg (by simp), voters_eq, Option.bind_some, gather_Gather_Ask_w0 _ _ (by show [c1].length < _; simp)]
  show walkL gather_Gather_Ask_b0 _ [c1] _ = _
  have hb0 : ∀ k, gather_Gather_Ask_b0 c1 ((setOf (voterV c) : Nat) : Int) k = k ((setOf (voterV c) ||| setOf (voterV c1) : Nat) : Int) := by
    intro k; unfold gather_Gather_Ask_b0; rw [voters_eq, Option.bind_some, or_u _ _ (setOf_lt _) (setOf_lt _)]
  rw [walkL, hb0, walkL]
  unfold gather_Gather_Ask_e0
  show (if 0 ≤ (IntKind.wrap .u64 ((BitVec.ofInt (IntKind.bits .u64) ((setOf (voterV c) ||| setOf (voterV c1) : Nat) : Int) &&& ~~~ BitVec.ofInt (IntKind.bits .u64) (n : Int)).toNat : Int)) ∧ _ then gather_Gather_Ask_l1 _ _ big 0 [] else none) = _
  rw [less_u]
  show (if 0 ≤ ((askS c c1 n : Nat) : Int) ∧ ((askS c c1 n : Nat) : Int) < 18446744073709551616 then _ else none) = _
  rw [if_pos (by omega)]
  have hL : bitsL (IntKind.wrap .u64 ((BitVec.ofInt (IntKind.bits .u64) ((setOf (voterV c) ||| setOf (voterV c1) : Nat) : Int) &&& ~~~ BitVec.ofInt (IntKind.bits .u64) (n : Int)).toNat : Int)) = (Q8 (askS c c1 n)).map fun (i : Nat) => (i : Int) := by rw [less_u]; exact hb
  rw [gather_Gather_Ask_w1 _ _ [] (by show (bitsL _).length < _; rw [hL, List.length_map]; omega)]
  show walkN _ _ (bitsL (IntKind.wrap .u64 ((BitVec.ofInt (IntKind.bits .u64) ((setOf (voterV c) ||| setOf (voterV c1) : Nat) : Int) &&& ~~~ BitVec.ofInt (IntKind.bits .u64) (n : Int)).toNat : Int))).length 0 [] = _
  rw [hL, List.length_map]
  have key : ∀ (m i : Nat) (r : List Int), i + m = (Q8 (askS c c1 n)).length → r.length + m ≤ 8 → walkN (gather_Gather_Ask_b1 (T_gather_Gather.mk mode c [c1] gr (n : Int)) ((setOf (voterV c) ||| setOf (voterV c1) : Nat) : Int)) gather_Gather_Ask_e1 m i r = some (r ++ ((Q8 (askS c c1 n)).drop i).map fun (i : Nat) => (i : Int)) := by
    intro m
    induction m with
    | zero => intro i r hi _; rw [List.drop_eq_nil_of_le (by omega)]; simp [walkN, gather_Gather_Ask_e1]
    | succ m ih =>
      intro i r hi hr
      have hlt : i < (Q8 (askS c c1 n)).length := by omega
      have hm : (Q8 (askS c c1 n)).getD i 0 ∈ Q8 (askS c c1 n) := by rw [List.getD_eq_getElem?_getD, List.getElem?_eq_getElem hlt]; exact List.getElem_mem hlt
      have hm8 := (mem_Q8.1 hm).1
      have hb0 : ∀ k, gather_Gather_Ask_b1 (T_gather_Gather.mk mode c [c1] gr (n : Int)) ((setOf (voterV c) ||| setOf (voterV c1) : Nat) : Int) i r k = k (r ++ [(((Q8 (askS c c1 n)).getD i 0 : Nat) : Int)]) := by
        intro k
        unfold gather_Gather_Ask_b1
        show (if (r.length + _) * 1 ≤ 140737488351232 then k (r ++ [IntKind.wrap .u8 ((bitsL (IntKind.wrap .u64 ((BitVec.ofInt (IntKind.bits .u64) ((setOf (voterV c) ||| setOf (voterV c1) : Nat) : Int) &&& ~~~ BitVec.ofInt (IntKind.bits .u64) (n : Int)).toNat : Int))).getD i default)]) else none) = _
        rw [hL]
        have e1 : ((Q8 (askS c c1 n)).map fun (i : Nat) => (i : Int)).getD i default = (((Q8 (askS c c1 n)).getD i 0 : Nat) : Int) := by simp [List.getD_eq_getElem?_getD, List.getElem?_eq_getElem hlt]
        rw [e1, wu8 (by omega) (by omega), if_pos (by simp only [List.length_singleton]; omega)]
      rw [walkN, hb0, ih (i + 1) _ (by omega) (by simp only [List.length_append, List.length_singleton]; omega), getD_drop (Q8 (askS c c1 n)) i 0 hlt]; simp
  have := key (Q8 (askS c c1 n)).length 0 [] (by omega) (by simpa using hl)
  simpa using this
theorem lack1 {c1 : T_api_Config} (h : WfV c1) {mode : Int} (c : T_api_Config) (mo : List T_api_Config) (gr : A8 T_gather_Got) {n : Nat} (hn : n < 18446744073709551616) : slices_ContainsFunc_api_Config_api_Config_2 [c1] (T_gather_Gather.mk mode c mo gr (n : Int)) = some (!canW c1 n) := by
  unfold slices_ContainsFunc_api_Config_api_Config_2 slices_IndexFunc_api_Config_api_Config_2
  rw [slices_IndexFunc_api_Config_api_Config_2_w0 _ _ (by simp)]
  have := walk_find (fun x => !canW x n) (fun x => gather_Gather_Enough_L1 x (T_gather_Gather.mk mode c mo gr (n : Int))) [c1] (fun x hx => by
    rw [List.mem_singleton] at hx; subst hx
    unfold gather_Gather_Enough_L1
    show ((votes_Writes x (n : Int)).bind _) = _
    rw [writes_eq h hn]; rfl)
  rw [show walkN (slices_IndexFunc_api_Config_api_Config_2_b0 [c1] (T_gather_Gather.mk mode c mo gr (n : Int))) slices_IndexFunc_api_Config_api_Config_2_e0 [c1].length 0 () = _ from this, Option.bind_some, find_any]
  simp
theorem sumV_full {c : T_api_Config} (h : WfV c) {n : Nat} (hf : ∀ i, i < 8 → voterV c i = true → n.testBit i = true) : sumV c n = tot c := by
  have one : ∀ i, i < 8 → (if n.testBit i = true then A8.get c.f_Votes i else 0) = A8.get c.f_Votes i := by
    intro i hi
    by_cases hb : n.testBit i = true
    · rw [if_pos hb]
    · rw [if_neg hb]
      have h1 : ¬ voterV c i = true := fun hv => hb (hf i hi hv)
      have h2 : ¬ 0 < A8.get c.f_Votes i := by simpa [voterV] using h1
      have := (h.v i hi).1
      omega
  simp only [sumV, tot, show List.range 8 = [0, 1, 2, 3, 4, 5, 6, 7] from rfl, List.foldl]
  rw [one 0 (by decide), one 1 (by decide), one 2 (by decide), one 3 (by decide), one 4 (by decide), one 5 (by decide), one 6 (by decide), one 7 (by decide)]
theorem may_le {c : T_api_Config} (h : mayV c = true) : c.f_R ≤ tot c ∧ c.f_W ≤ tot c := by
  simp only [mayV, Bool.and_eq_true, decide_eq_true_eq] at h
  exact ⟨h.2.2.1.2, h.2.2.2.1.2⟩
/-- Nobody is to be asked: it is enough. -/
theorem done_eq {mode : Int} (ho : mode = 1 ∨ mode = 2) {c c1 : T_api_Config} (h : WfV c) (h1 : WfV c1) (m : mayV c = true) (m1 : mayV c1 = true) (gr : A8 T_gather_Got) {n : Nat} (hn : n < 18446744073709551616) (hq : Q8 (askS c c1 n) = []) :
    gather_Gather_Enough (T_gather_Gather.mk mode c [c1] gr (n : Int)) = some true := by
  have hok : gather_Gather_ok (T_gather_Gather.mk mode c [c1] gr (n : Int)) = some true := by
    unfold gather_Gather_ok; rcases ho with rfl | rfl <;> rfl
  have hall : ∀ j, j < 8 → (voterV c j = true ∨ voterV c1 j = true) → n.testBit j = true := by
    intro j hj hv
    cases hb : n.testBit j with
    | true => rfl
    | false =>
      have : j ∈ Q8 (askS c c1 n) := mem_Q8.2 ⟨hj, by rw [askS_bit, hb]; rcases hv with hv | hv <;> simp [hj, hv]⟩
      rw [hq] at this; cases this
  have s0 := sumV_full h (n := n) (fun i hi hv => hall i hi (.inl hv))
  have s1 := sumV_full h1 (n := n) (fun i hi hv => hall i hi (.inr hv))
  have l0 := may_le m
  have l1 := may_le m1
  have w0 : canW c n = true := decide_eq_true (by omega)
  have r0 : canR c n = true := decide_eq_true (by omega)
  have w1 : canW c1 n = true := decide_eq_true (by omega)
  unfold gather_Gather_Enough
  rw [hok, Option.bind_some, if_neg (by simp)]
  rcases ho with rfl | rfl
  · rw [if_neg (show ¬ ((1 : Int) == 2) = true by decide)]
    simp only [reads_eq h hn, Option.bind_some, lack1 h1 c [c1] gr hn, r0, w1]; rfl
  · rw [if_pos (show ((2 : Int) == 2) = true by decide)]
    simp only [writes_eq h hn, Option.bind_some, lack1 h1 c [c1] gr hn, w0, w1]; rfl
def b1i (n i : Nat) : Nat := if n.testBit i = true then 0 else 1
def free (n : Nat) : Nat := b1i n 0 + b1i n 1 + b1i n 2 + b1i n 3 + b1i n 4 + b1i n 5 + b1i n 6 + b1i n 7
theorem free_lt {n n' j : Nat} (hm : ∀ i, n.testBit i = true → n'.testBit i = true) (hj : j < 8) (h0 : n.testBit j = false) (h1 : n'.testBit j = true) : free n' < free n := by
  have le : ∀ i, b1i n' i ≤ b1i n i := by
    intro i; unfold b1i
    by_cases h : n.testBit i = true
    · rw [if_pos h, if_pos (hm i h)]; exact Nat.le_refl _
    · rw [if_neg h]; split <;> omega
  have lt : b1i n' j < b1i n j := by unfold b1i; rw [if_pos h1, if_neg (by simp [h0])]; omega
  have a0 := le 0; have a1 := le 1; have a2 := le 2; have a3 := le 3; have a4 := le 4; have a5 := le 5; have a6 := le 6; have a7 := le 7
  unfold free
  rcases lt8 hj with rfl | rfl | rfl | rfl | rfl | rfl | rfl | rfl <;> omega
theorem free_le (n : Nat) : free n ≤ 8 := by
  have le : ∀ i, b1i n i ≤ 1 := by intro i; unfold b1i; split <;> omega
  have a0 := le 0; have a1 := le 1; have a2 := le 2; have a3 := le 3; have a4 := le 4; have a5 := le 5; have a6 := le 6; have a7 := le 7
  unfold free; omega
/-- All that are asked grant. -/
theorem inner_eq {mode : Int} (ho : mode = 1 ∨ mode = 2) {cs : A2 T_api_Config} {told : A8 T_api_Config} (h0 : WfV cs.a0) (m0 : mayV cs.a0 = true) (ht : ∀ i, i < 8 → WfV (told.get i)) {q : List Nat} (hq8 : ∀ j ∈ q, j < 8) (hnd : q.Nodup) (k0 e : GO → Option Bool) {n0 : Nat} (hfree : ∀ j ∈ q, n0.testBit j = false) :
    ∀ (m i : Nat) (conf : T_api_Config) (gr : A8 T_gather_Got) (n : Nat), i + m = q.length → WfV conf → mayV conf = true → n < 18446744073709551616 → (∀ j, n.testBit j = true ↔ n0.testBit j = true ∨ j ∈ q.take i) →
      ∃ (conf' : T_api_Config) (gr' : A8 T_gather_Got) (n' : Nat), WfV conf' ∧ mayV conf' = true ∧ n' < 18446744073709551616 ∧ (∀ j, n'.testBit j = true ↔ n0.testBit j = true ∨ j ∈ q) ∧ walkN (parrellaw19_GatherEnds_b1 cs told (q.map fun (i : Nat) => (i : Int)) k0) e m i (mode, conf, [cs.a1], gr, (n : Int)) = e (mode, conf', [cs.a1], gr', (n' : Int))
  | 0, i, conf, gr, n, hi, hc, mc, hn, hb => ⟨conf, gr, n, hc, mc, hn, fun j => by rw [hb, List.take_of_length_le (by omega)], rfl⟩
  | m + 1, i, conf, gr, n, hi, hc, mc, hn, hb => by
    have hlt : i < q.length := by omega
    have hm : q.getD i 0 ∈ q := by rw [List.getD_eq_getElem?_getD, List.getElem?_eq_getElem hlt]; exact List.getElem_mem hlt
    have hx8 := hq8 _ hm
    have eg : (q.map fun (i : Nat) => (i : Int)).getD i default = ((q.getD i 0 : Nat) : Int) := by simp [List.getD_eq_getElem?_getD, List.getElem?_eq_getElem hlt]
    have et : q.take (i + 1) = q.take i ++ [q.getD i 0] := by rw [List.take_succ_eq_append_getElem hlt, List.getD_eq_getElem?_getD, List.getElem?_eq_getElem hlt]; rfl
    have hnot : q.getD i 0 ∉ q.take i := by
      have h1 : (q.take (i + 1)).Nodup := hnd.sublist (List.take_sublist _ _)
      rw [et, List.nodup_append] at h1
      intro h2
      exact h1.2.2 _ h2 _ (List.mem_singleton.2 rfl) rfl
    have hbit : n.testBit (q.getD i 0) = false := by
      cases hh : n.testBit (q.getD i 0) with
      | false => rfl
      | true =>
        rcases (hb _).1 hh with h1 | h1
        · rw [hfree _ hm] at h1; cases h1
        · exact absurd h1 hnot
    generalize hx : q.getD i 0 = x at hm hx8 eg et hnot hbit
    have step : ∀ (t : T_api_Item), OkIt t → ∃ (conf' : T_api_Config) (gr' : A8 T_gather_Got) (n' : Nat), WfV conf' ∧ mayV conf' = true ∧ n' < 18446744073709551616 ∧ (∀ j, n'.testBit j = true ↔ n0.testBit j = true ∨ j ∈ q) ∧
        ((gather_Gather_Grant (T_gather_Gather.mk mode conf [cs.a1] gr (n : Int)) (T_gather_Got.mk (x : Int) (T_api_Reg.mk 1 1) t)).bind fun y => if ((y.1 != 0) : Bool) then some false else walkN (parrellaw19_GatherEnds_b1 cs told (q.map fun (i : Nat) => (i : Int)) k0) e m (i + 1) (y.2.1, y.2.2.1, y.2.2.2.1, y.2.2.2.2.1, y.2.2.2.2.2)) = e (mode, conf', [cs.a1], gr', (n' : Int)) := by
      intro t hok
      rw [grant2 ho [cs.a1] hx8 hok conf gr hn hbit, Option.bind_some, if_neg (by simp)]
      refine inner_eq ho h0 m0 ht hq8 hnd k0 e hfree m (i + 1) (if conf.f_Epoch < t.f_Conf.f_Epoch then t.f_Conf else conf) (gr.set (T_gather_Got.mk (x : Int) (T_api_Reg.mk 1 1) t) x) (addN n x) (by omega) (by split <;> first | exact hok.c | exact hc) (by split <;> first | exact hok.m | exact mc) (addN_lt hn x) (fun j => ?_)
      rw [addN_bit, Bool.or_eq_true, hb, et, List.mem_append, List.mem_singleton, Bool.and_eq_true, decide_eq_true_eq, decide_eq_true_eq]
      constructor
      · rintro ((h1 | h1) | ⟨h1, _⟩)
        · exact .inl h1
        · exact .inr (.inl h1)
        · exact .inr (.inr h1)
      · rintro (h1 | h1 | h1)
        · exact .inl (.inl h1)
        · exact .inl (.inr h1)
        · exact .inr ⟨h1, by omega⟩
    have htx := ht x hx8
    rw [walkN]
    unfold parrellaw19_GatherEnds_b1
    rw [eg, if_neg (by simp only [decide_eq_true_eq]; omega), if_pos (by omega), Int.toNat_natCast, refMay_eq htx, Option.bind_some]
    cases mt : mayV (told.get x) with
    | false =>
      rw [if_pos (by simp)]
      exact step _ ⟨(show (0 : Int) ≤ 2147483647 by decide), rfl, h0, m0⟩
    | true =>
      rw [if_neg (by simp)]
      exact step _ ⟨(show (0 : Int) ≤ 2147483647 by decide), rfl, htx, mt⟩
theorem ends_eq {mode : Int} (hmo : 0 ≤ mode ∧ mode < 256) {cs : A2 T_api_Config} {told : A8 T_api_Config} (h0 : WfV cs.a0) (h1 : WfV cs.a1) (ht : ∀ i, i < 8 → WfV (told.get i)) : parrellaw19_GatherEnds mode cs told = some true := by
  have em : ∃ m : Int, (m = 1 ∨ m = 2) ∧ IntKind.wrap .u8 (Int.tmod mode 2 + 1) = m := by
    have e2 : Int.tmod mode 2 = mode % 2 := Int.tmod_eq_emod_of_nonneg hmo.1
    rw [e2]
    exact ⟨mode % 2 + 1, by omega, wu8 (by omega) (by omega)⟩
  obtain ⟨m, ho, em1⟩ := em
  unfold parrellaw19_GatherEnds
  rw [em1, show (A8.mk 97 0 0 0 0 0 0 0 : A8 Int) = key97 from rfl, newm_eq h0 h1 ho, Option.bind_some]
  cases hm : (mayV cs.a0 && mayV cs.a1) with
  | false =>
    rw [if_neg Bool.false_ne_true, if_pos rfl, refMay_eq h0, Option.bind_some, refMay_eq h1]
    cases hm0 : mayV cs.a0 with
    | false => exact alive_tail
    | true =>
      rw [hm0, Bool.true_and] at hm
      rw [if_neg (by simp), Option.bind_some, hm]; exact alive_tail
  | true =>
    rw [Bool.and_eq_true] at hm
    obtain ⟨m0, m1⟩ := hm
    rw [if_pos rfl, if_neg (show ¬ false = true from Bool.false_ne_true)]
    show parrellaw19_GatherEnds_l0 cs told big 0 m cs.a0 [cs.a1] G0 ((0 : Nat) : Int) = some true
    rw [parrellaw19_GatherEnds_w0 cs told _ _ _ _ _ (by decide)]
    have key : ∀ (r i : Nat) (conf : T_api_Config) (gr : A8 T_gather_Got) (n : Nat), i + r = 20 → WfV conf → mayV conf = true → n < 18446744073709551616 → free n < r → walkN (parrellaw19_GatherEnds_b0 cs told) (parrellaw19_GatherEnds_e0) r i (m, conf, [cs.a1], gr, (n : Int)) = some true := by
      intro r
      induction r with
      | zero => intro i conf gr n _ _ _ _ hf; omega
      | succ r ih =>
        intro i conf gr n hi hc mc hn hf
        have hql := Q8_len (askS conf cs.a1 n)
        rw [walkN]
        unfold parrellaw19_GatherEnds_b0
        show ((gather_Gather_Ask (T_gather_Gather.mk m conf [cs.a1] gr (n : Int))).bind _) = _
        rw [ask_eq ho, Option.bind_some]
        by_cases hq : Q8 (askS conf cs.a1 n) = []
        · rw [if_pos (by rw [hq]; rfl)]
          show ((gather_Gather_Enough (T_gather_Gather.mk m conf [cs.a1] gr (n : Int))).bind _) = _
          rw [done_eq ho hc h1 mc m1 gr hn hq, Option.bind_some, if_pos rfl, Option.bind_some, if_pos (by rw [hq]; rfl)]
          exact alive_tail
        · have hl0 : ¬ (Q8 (askS conf cs.a1 n)).length = 0 := fun e => hq (List.length_eq_zero_iff.1 e)
          rw [if_neg (by rw [beq_iff_eq, List.length_map]; omega), parrellaw19_GatherEnds_w1 cs told _ _ _ _ _ _ _ _ (by rw [List.length_map]; omega), List.length_map]
          obtain ⟨conf', gr', n', c1', c2', c3', c4', c5'⟩ := inner_eq ho h0 m0 ht (q := Q8 (askS conf cs.a1 n)) (fun j hj => (mem_Q8.1 hj).1) (Q8_nodup _) (fun s_ => walkN (parrellaw19_GatherEnds_b0 cs told) parrellaw19_GatherEnds_e0 r (i + 1) s_) (parrellaw19_GatherEnds_e1 (fun s_ => walkN (parrellaw19_GatherEnds_b0 cs told) parrellaw19_GatherEnds_e0 r (i + 1) s_)) (n0 := n) (fun j hj => by
            have := (mem_Q8.1 hj).2
            rw [askS_bit] at this
            cases hb : n.testBit j with
            | false => rfl
            | true => rw [hb] at this; simp at this) (Q8 (askS conf cs.a1 n)).length 0 conf gr n (by omega) hc mc hn (fun j => by simp)
          refine Eq.trans c5' ?_
          obtain ⟨j, hj⟩ := List.exists_mem_of_ne_nil _ hq
          have hj8 := mem_Q8.1 hj
          have hnj : n.testBit j = false := by
            have := hj8.2
            rw [askS_bit] at this
            cases hb : n.testBit j with
            | false => rfl
            | true => rw [hb] at this; simp at this
          have hfl := free_lt (n := n) (n' := n') (fun i h => (c4' i).2 (.inl h)) hj8.1 hnj ((c4' j).2 (.inr hj))
          exact ih (i + 1) conf' gr' n' (by omega) c1' c2' c3' (by omega)
    exact key 20 0 cs.a0 G0 0 (by omega) h0 m0 (by omega) (by have := free_le 0; omega)
theorem wfA2 {cs : A2 T_api_Config} (h : wfL (c_T_api_Config cs.a0 ++ c_T_api_Config cs.a1)) : WfV cs.a0 ∧ WfV cs.a1 := ⟨wfV_of fun x hx => h x (List.mem_append_left _ hx), wfV_of fun x hx => h x (List.mem_append_right _ hx)⟩
theorem ends_law (mode : Int) (cs : A2 T_api_Config) (told : A8 T_api_Config) (h : (Lit.int .u8 mode).wf = true) (h1 : wfL (c_T_api_Config cs.a0 ++ c_T_api_Config cs.a1))
    (h2 : wfL (c_T_api_Config told.a0 ++ (c_T_api_Config told.a1 ++ (c_T_api_Config told.a2 ++ (c_T_api_Config told.a3 ++ (c_T_api_Config told.a4 ++ (c_T_api_Config told.a5 ++ (c_T_api_Config told.a6 ++ c_T_api_Config told.a7)))))))) : parrellaw19_GatherEnds mode cs told = some true :=
  ends_eq (wf_u8 h) (wfA2 h1).1 (wfA2 h1).2 (fun i hi => by
    refine wfV_of fun x hx => h2 x ?_
    simp only [List.mem_append]
    rcases lt8 hi with rfl | rfl | rfl | rfl | rfl | rfl | rfl | rfl <;> simp only [A8.get] at hx <;> simp only [hx, true_or, or_true])
end Go.Proofs.YtffmmflapagkhaaDoor.Wk
