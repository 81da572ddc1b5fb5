/- Plain facts: GatherNewest. -/
import Derived.Test.YtffmmflapagkhaaDoorGathC
set_option linter.unusedVariables false
set_option linter.unusedSimpArgs false
set_option linter.unusedSectionVars false
namespace Go.Proofs.YtffmmflapagkhaaDoor.Wk
open Go Go.Cn

theorem get_set {α : Type} (A : A8 α) (x : α) {i j : Nat} (hi : i < 8) (hj : j < 8) : (A.set x i).get j = if j = i then x else A.get j := by
  rcases lt8 hi with rfl | rfl | rfl | rfl | rfl | rfl | rfl | rfl <;> rcases lt8 hj with rfl | rfl | rfl | rfl | rfl | rfl | rfl | rfl <;> rfl
theorem getD_drop {α : Type} (l : List α) (k : Nat) (d : α) (h : k < l.length) : l.drop k = l.getD k d :: l.drop (k + 1) := by
  rw [List.drop_eq_getElem_cons h, List.getD_eq_getElem?_getD, List.getElem?_eq_getElem h]; rfl
theorem foldG_gr (it : Nat → T_api_Item) (s : Nat) (c : T_api_Config) : ∀ i, i ≤ 8 → ∀ j, j < i → s.testBit j = true → (foldG it s c i).gr.get j = goti it j
  | 0, _, j, hj, _ => by omega
  | i + 1, hi, j, hj, hb => by
    rw [foldG_succ]
    unfold stepG
    by_cases h : s.testBit i = true
    · rw [if_pos h]
      show ((foldG it s c i).gr.set (goti it i) i).get j = _
      rw [get_set _ _ (by omega) (by omega)]
      by_cases e : j = i
      · rw [if_pos e, e]
      · rw [if_neg e]; exact foldG_gr it s c i (by omega) j (by omega) hb
    · rw [if_neg h]
      exact foldG_gr it s c i (by omega) j ((show j < i ∨ j = i by omega).elim id (fun e => absurd (e ▸ hb) h)) hb
/-- Who was asked. -/
def Q8 (s : Nat) : List Nat := (List.range 8).filter s.testBit
theorem mem_Q8 {s j : Nat} : j ∈ Q8 s ↔ j < 8 ∧ s.testBit j = true := by unfold Q8; rw [List.mem_filter, List.mem_range]
theorem Q8_len (s : Nat) : (Q8 s).length ≤ 8 := Nat.le_trans (List.length_filter_le _ _) (by simp)
theorem bits_Q8 {n s : Nat} (h : ∀ j, n.testBit j = (decide (j < 8) && s.testBit j)) : bitsL (n : Int) = (Q8 s).map fun (i : Nat) => (i : Int) := by
  unfold bitsL Q8
  rw [Int.toNat_natCast]
  congr 1
  rw [show List.range 64 = List.range 8 ++ List.range' 8 56 from by decide, List.filter_append]
  have h2 : (List.range' 8 56).filter n.testBit = [] := by
    rw [List.filter_eq_nil_iff]
    intro j hj
    rw [List.mem_range'_1] at hj
    rw [h, show decide (j < 8) = false from decide_eq_false (by omega)]; simp
  rw [h2, List.append_nil]
  exact List.filter_congr fun j hj => by
    rw [List.mem_range] at hj
    rw [h, show decide (j < 8) = true from decide_eq_true hj, Bool.true_and]
theorem all_eq {c : T_api_Config} {X : GS} (hn : X.nodes < 18446744073709551616) {it : Nat → T_api_Item} {s : Nat} (hb : ∀ j, X.nodes.testBit j = (decide (j < 8) && s.testBit j)) (hg : ∀ j, j < 8 → s.testBit j = true → X.gr.get j = goti it j) :
    gather_Gather_All (T_gather_Gather.mk 1 c [] X.gr (X.nodes : Int)) = some ((Q8 s).map (goti it)) := by
  have hl := Q8_len s
  have hok : gather_Gather_ok (T_gather_Gather.mk 1 c [] X.gr (X.nodes : Int)) = some true := rfl
  have eb := bits_Q8 hb
  unfold gather_Gather_All
  rw [hok, Option.bind_some, if_neg (by simp), if_pos (show 0 ≤ (X.nodes : Int) ∧ (X.nodes : Int) < 18446744073709551616 by omega), gather_Gather_All_w0 _ [] (by show (bitsL (X.nodes : Int)).length < _; rw [eb, List.length_map]; omega)]
  show walkN _ _ (bitsL (X.nodes : Int)).length 0 [] = _
  rw [eb, List.length_map]
  have key : ∀ (m i : Nat) (r : List T_gather_Got), i + m = (Q8 s).length → r.length + m ≤ 8 → walkN (gather_Gather_All_b0 (T_gather_Gather.mk 1 c [] X.gr (X.nodes : Int))) gather_Gather_All_e0 m i r = some (r ++ ((Q8 s).drop i).map (goti it)) := by
    intro m
    induction m with
    | zero => intro i r hi _; rw [List.drop_eq_nil_of_le (by omega)]; simp [walkN, gather_Gather_All_e0]
    | succ m ih =>
      intro i r hi hr
      have hlt : i < (Q8 s).length := by omega
      have hm : (Q8 s).getD i 0 ∈ Q8 s := by rw [List.getD_eq_getElem?_getD, List.getElem?_eq_getElem hlt]; exact List.getElem_mem hlt
      have hm' := mem_Q8.1 hm
      have e1 : (bitsL (X.nodes : Int)).getD i default = (((Q8 s).getD i 0 : Nat) : Int) := by
        rw [eb]; simp [List.getD_eq_getElem?_getD, List.getElem?_eq_getElem hlt]
      have hb0 : ∀ k, gather_Gather_All_b0 (T_gather_Gather.mk 1 c [] X.gr (X.nodes : Int)) i r k = k (r ++ [goti it ((Q8 s).getD i 0)]) := by
        intro k
        unfold gather_Gather_All_b0
        show (if 0 ≤ (bitsL (X.nodes : Int)).getD i default ∧ (bitsL (X.nodes : Int)).getD i default < 8 then _ else none) = _
        rw [e1, if_pos (by omega), Int.toNat_natCast, hg _ hm'.1 hm'.2, if_pos (by simp only [List.length_singleton]; omega)]
      rw [walkN, hb0, ih (i + 1) _ (by omega) (by simp only [List.length_append, List.length_singleton]; omega), getD_drop (Q8 s) i 0 hlt]; simp
  have := key (Q8 s).length 0 [] (by omega) (by simpa using hl)
  simpa using this
/-- The greatest. -/
def mx (t v : Int) : Int := if t < v then v else t
def topV (l : List Int) : Int := l.foldl mx 0
theorem mx_ge (t v : Int) : t ≤ mx t v ∧ v ≤ mx t v := by unfold mx; split <;> omega
theorem fold_ge : ∀ (l : List Int) (t : Int), t ≤ l.foldl mx t ∧ ∀ v ∈ l, v ≤ l.foldl mx t
  | [], t => ⟨Int.le_refl _, fun _ h => nomatch h⟩
  | v :: l, t => by
    obtain ⟨h1, h2⟩ := fold_ge l (mx t v)
    obtain ⟨h3, h4⟩ := mx_ge t v
    rw [List.foldl_cons]
    refine ⟨by omega, fun x hx => ?_⟩
    rcases List.mem_cons.1 hx with rfl | hx
    · omega
    · exact h2 x hx
theorem newest_walk : ∀ (l : List T_api_Item) (v : Int) (b : List UInt8) (c : T_api_Config), ∃ x, walkL item_Newest_b0 item_Newest_e0 l (v, b, c) = some (x, true) ∧ x.f_Version = (l.map (·.f_Version)).foldl mx v
  | [], v, b, c => ⟨_, rfl, rfl⟩
  | a :: l, v, b, c => by
    rw [walkL]
    unfold item_Newest_b0
    rw [List.map_cons, List.foldl_cons]
    by_cases h : v < a.f_Version
    · rw [if_pos (by simpa using h)]
      obtain ⟨x, h1, h2⟩ := newest_walk l a.f_Version a.f_Value a.f_Conf
      exact ⟨x, h1, by rw [h2]; unfold mx; rw [if_pos h]⟩
    · rw [if_neg (by simpa using h)]
      obtain ⟨x, h1, h2⟩ := newest_walk l v b c
      exact ⟨x, h1, by rw [h2]; unfold mx; rw [if_neg h]⟩
theorem inewest_eq {l : List T_api_Item} (hl : l.length ≤ 1000) (h0 : ∀ a ∈ l, 0 ≤ a.f_Version) : ∃ x, item_Newest l = some (x, decide (l ≠ [])) ∧ x.f_Version = topV (l.map (·.f_Version)) := by
  cases l with
  | nil => exact ⟨_, rfl, rfl⟩
  | cons a l =>
    simp only [List.length_cons] at hl
    have ha := h0 a List.mem_cons_self
    obtain ⟨x, h1, h2⟩ := newest_walk l a.f_Version a.f_Value a.f_Conf
    refine ⟨x, ?_, ?_⟩
    · unfold item_Newest
      rw [if_neg (by simp; omega), if_pos (by simp only [List.length_cons]; omega), if_pos (by simp only [List.length_cons]; omega), item_Newest_w0 _ _ _ _ (by rw [List.length_drop]; simp only [List.length_cons]; omega)]
      refine Eq.trans h1 ?_
      simp
    · rw [h2]
      unfold topV
      rw [List.map_cons, List.foldl_cons]
      have : mx 0 a.f_Version = a.f_Version := by unfold mx; split <;> omega
      rw [this]
theorem gnewest_eq {c : T_api_Config} {X : GS} (hn : X.nodes < 18446744073709551616) {it : Nat → T_api_Item} (h0 : ∀ i, i < 8 → 0 ≤ (it i).f_Version) {s : Nat} (hb : ∀ j, X.nodes.testBit j = (decide (j < 8) && s.testBit j)) (hg : ∀ j, j < 8 → s.testBit j = true → X.gr.get j = goti it j) :
    ∃ x, gather_Gather_Newest (T_gather_Gather.mk 1 c [] X.gr (X.nodes : Int)) = some (x, decide (Q8 s ≠ [])) ∧ x.f_Version = topV ((Q8 s).map fun i => (it i).f_Version) := by
  have hl := Q8_len s
  obtain ⟨x, h1, h2⟩ := inewest_eq (l := (Q8 s).map it) (by rw [List.length_map]; omega) (fun a ha => by
    obtain ⟨i, hi, rfl⟩ := List.mem_map.1 ha
    exact h0 i (mem_Q8.1 hi).1)
  refine ⟨x, ?_, by rw [h2, List.map_map]; rfl⟩
  unfold gather_Gather_Newest
  rw [all_eq hn hb hg, Option.bind_some, gather_Gather_Newest_w0 _ _ [] (by rw [List.length_map]; omega), List.length_map]
  have key : ∀ (m i : Nat) (r : List T_api_Item), i + m = (Q8 s).length → r.length + m ≤ 8 → walkN (gather_Gather_Newest_b0 ((Q8 s).map (goti it))) gather_Gather_Newest_e0 m i r = gather_Gather_Newest_e0 (r ++ ((Q8 s).drop i).map it) := by
    intro m
    induction m with
    | zero => intro i r hi _; rw [List.drop_eq_nil_of_le (by omega)]; simp [walkN]
    | succ m ih =>
      intro i r hi hr
      have hlt : i < (Q8 s).length := by omega
      have e1 : ((Q8 s).map (goti it)).getD i default = goti it ((Q8 s).getD i 0) := by simp [List.getD_eq_getElem?_getD, List.getElem?_eq_getElem hlt]
      have hb0 : ∀ k, gather_Gather_Newest_b0 ((Q8 s).map (goti it)) i r k = k (r ++ [it ((Q8 s).getD i 0)]) := by
        intro k
        unfold gather_Gather_Newest_b0
        rw [e1, if_pos (by simp only [List.length_singleton]; omega)]; rfl
      rw [walkN, hb0, ih (i + 1) _ (by omega) (by simp only [List.length_append, List.length_singleton]; omega), getD_drop (Q8 s) i 0 hlt]; simp
  rw [key (Q8 s).length 0 [] (by omega) (by simpa using hl), List.nil_append, List.drop_zero]
  unfold gather_Gather_Newest_e0
  rw [h1, Option.bind_some]
  congr 2
  rw [Bool.eq_iff_iff, decide_eq_true_eq, decide_eq_true_eq]; simp

/-! The law -/
def verN (vs : A8 Int) (w i : Nat) : Int := if w.testBit i = true then Int.tmod (A8.get vs i) 1000 + 1000 else Int.tmod (A8.get vs i) 1000
def itN (vs : A8 Int) (w : Nat) (c : T_api_Config) (i : Nat) : T_api_Item := T_api_Item.mk (verN vs w i) [] c
theorem verN_bnd {vs : A8 Int} (hv : ∀ i, i < 8 → 0 ≤ A8.get vs i ∧ A8.get vs i < 4294967296) (w : Nat) {i : Nat} (hi : i < 8) : 0 ≤ verN vs w i ∧ verN vs w i < 2000 ∧ (w.testBit i = true → 1000 ≤ verN vs w i) := by
  have h := hv i hi
  have e : Int.tmod (A8.get vs i) 1000 = A8.get vs i % 1000 := Int.tmod_eq_emod_of_nonneg h.1
  unfold verN
  rw [e]
  by_cases hw : w.testBit i = true
  · rw [if_pos hw]; exact ⟨by omega, by omega, fun _ => by omega⟩
  · rw [if_neg hw]; exact ⟨by omega, by omega, fun h => absurd h hw⟩
theorem itN_eq {vs : A8 Int} (hv : ∀ i, i < 8 → 0 ≤ A8.get vs i ∧ A8.get vs i < 4294967296) {w : Nat} (hw : w < 18446744073709551616) (c : T_api_Config) {i : Nat} (hi : i < 8) : parrellaw19_GatherNewest_L1 (i : Int) vs (w : Int) c = some (itN vs w c i) := by
  have h := hv i hi
  have e : Int.tmod (A8.get vs i) 1000 = A8.get vs i % 1000 := Int.tmod_eq_emod_of_nonneg h.1
  unfold parrellaw19_GatherNewest_L1 itN verN
  rw [if_pos (by omega), if_pos (by omega), bitU w i hw hi, Int.toNat_natCast]
  cases w.testBit i with
  | true => rw [if_pos rfl, if_pos rfl, wu32 (by omega) (by omega)]
  | false => rfl
theorem gathered2_eq {c : T_api_Config} (hc : WfV c) (mc : mayV c = true) {vs : A8 Int} (hv : ∀ i, i < 8 → 0 ≤ A8.get vs i ∧ A8.get vs i < 4294967296) {w s : Nat} (hw : w < 18446744073709551616) (hs : s < 18446744073709551616) :
    parrellaw19_gathered_2 1 c (s : Int) vs (w : Int) c = some (outG 1 (foldG (itN vs w c) s c 8)) := by
  unfold parrellaw19_gathered_2
  rw [show (A8.mk 97 0 0 0 0 0 0 0 : A8 Int) = key97 from rfl, new_eq hc mc (.inl rfl), Option.bind_some, if_neg Bool.false_ne_true]
  refine gath_loop (.inl rfl) (itN vs w c) (fun i hi => ⟨(by have := (verN_bnd hv w hi).2.1; show verN vs w i ≤ 2147483647; omega), rfl, hc, mc⟩) hs c (fun f i m' e mo nd no => parrellaw19_gathered_2_l0 1 c (s : Int) vs (w : Int) c f i m' e mo nd no) (fun f m' e mo nd no => ?_) (fun f i m' e mo nd no hi => ?_)
  · show parrellaw19_gathered_2_l0 _ _ _ _ _ _ (f + 1) 8 _ _ _ _ _ = _
    rw [parrellaw19_gathered_2_l0, if_neg (by decide)]
  · show parrellaw19_gathered_2_l0 _ _ _ _ _ _ (f + 1) (i : Int) _ _ _ _ _ = _
    rw [parrellaw19_gathered_2_l0, if_pos (by simp only [decide_eq_true_eq]; omega), if_pos (by omega), bitU s i hs hi, u8_succ hi, itN_eq hv hw c hi]; rfl
theorem top_loop {c : T_api_Config} {vs : A8 Int} (hv : ∀ i, i < 8 → 0 ≤ A8.get vs i ∧ A8.get vs i < 4294967296) {w s : Nat} (hw : w < 18446744073709551616) (hs : s < 18446744073709551616) (y5 : GR) (y8 : T_api_Item × Bool) : ∀ (m i f : Nat), i + m = 8 → m < f →
    parrellaw19_GatherNewest_l0 c vs ⟨(w : Int), (s : Int)⟩ y5 y8 f (topV (((List.range i).filter s.testBit).map (verN vs w))) (i : Int) = parrellaw19_GatherNewest_l0 c vs ⟨(w : Int), (s : Int)⟩ y5 y8 (f - m) (topV ((Q8 s).map (verN vs w))) 8
  | 0, i, f, hi, _ => by obtain rfl : i = 8 := by omega
                         rfl
  | m + 1, i, f, hi, hf => by
    obtain ⟨f, rfl⟩ : ∃ g, f = g + 1 := ⟨f - 1, by omega⟩
    have ih := top_loop (c := c) hv hw hs y5 y8 m (i + 1) f (by omega) (by omega)
    rw [parrellaw19_GatherNewest_l0, if_pos (by simp only [decide_eq_true_eq]; omega), if_pos (by omega)]
    show (if ((IntKind.wrap .u64 ((BitVec.ofInt (IntKind.bits .u64) (Int.fdiv (s : Int) (2 ^ (min (Int.toNat (i : Int)) (IntKind.bits .u64)))) &&& BitVec.ofInt (IntKind.bits .u64) 1).toNat : Int)) == 1) = true then _ else _) = _
    rw [bitU s i hs (by omega), u8_succ (by omega), show f + 1 - (m + 1) = f - m by omega]
    rw [List.range_succ, List.filter_append, List.map_append] at ih
    cases hb : s.testBit i with
    | true =>
      have e1 : topV (((List.range i).filter s.testBit).map (verN vs w) ++ ([i].filter s.testBit).map (verN vs w)) = mx (topV (((List.range i).filter s.testBit).map (verN vs w))) (verN vs w i) := by
        simp [hb, topV, List.foldl_append]
      rw [e1] at ih
      rw [if_pos rfl]
      show ((parrellaw19_GatherNewest_L1 (i : Int) vs (w : Int) c).bind _) = _
      rw [itN_eq hv hw c (by omega), Option.bind_some]
      exact ih
    | false =>
      have e1 : ([i].filter s.testBit).map (verN vs w) = [] := by simp [hb]
      rw [e1, List.append_nil] at ih
      rw [if_neg Bool.false_ne_true]
      exact ih
theorem newest_eq {c : T_api_Config} (hc : WfV c) {vs : A8 Int} (hv : ∀ i, i < 8 → 0 ≤ A8.get vs i ∧ A8.get vs i < 4294967296) {sets : A2 Int} (h0 : 0 ≤ sets.a0 ∧ sets.a0 < 18446744073709551616) (h1 : 0 ≤ sets.a1 ∧ sets.a1 < 18446744073709551616) : parrellaw19_GatherNewest c vs sets = some true := by
  obtain ⟨a0, a1⟩ := sets
  simp only at h0 h1
  obtain ⟨w, rfl⟩ : ∃ n : Nat, a0 = (n : Int) := ⟨a0.toNat, by omega⟩
  obtain ⟨s, rfl⟩ : ∃ n : Nat, a1 = (n : Int) := ⟨a1.toNat, by omega⟩
  have hw : w < 18446744073709551616 := by omega
  have hs : s < 18446744073709551616 := by omega
  unfold parrellaw19_GatherNewest
  rw [refMay_eq hc, Option.bind_some]
  cases mc : mayV c with
  | false => exact alive_tail
  | true =>
    rw [if_neg (by simp)]
    show ((parrellaw19_gathered_2 1 c (s : Int) vs (w : Int) c).bind _) = _
    rw [gathered2_eq hc mc hv hw hs, Option.bind_some]
    obtain ⟨n1, n2⟩ := foldG_nodes (itN vs w c) s c 8 (by omega)
    have cf := foldG_same (itN vs w c) s c (fun _ => rfl) 8
    obtain ⟨x, hx1, hx2⟩ := gnewest_eq (c := c) n1 (it := itN vs w c) (fun i hi => (verN_bnd hv w hi).1) n2 (fun j hj hb => foldG_gr (itN vs w c) s c 8 (by omega) j hj hb)
    generalize foldG (itN vs w c) s c 8 = X at n1 n2 cf hx1
    rw [if_neg (show ¬ (outG 1 X).1 = true from Bool.false_ne_true)]
    have hx1' : gather_Gather_Newest (T_gather_Gather.mk (outG 1 X).2.2.1 (outG 1 X).2.2.2.1 (outG 1 X).2.2.2.2.1 (outG 1 X).2.2.2.2.2.1 (outG 1 X).2.2.2.2.2.2) = some (x, decide (Q8 s ≠ [])) := by
      show gather_Gather_Newest (T_gather_Gather.mk 1 X.conf [] X.gr (X.nodes : Int)) = _
      rw [cf]; exact hx1
    rw [hx1', Option.bind_some]
    have hl := top_loop (c := c) hv hw hs (outG 1 X) (x, decide (Q8 s ≠ [])) 8 0 big (by omega) (big_lt (by omega))
    have hl' : parrellaw19_GatherNewest_l0 c vs ⟨(w : Int), (s : Int)⟩ (outG 1 X) (x, decide (Q8 s ≠ [])) big 0 0 = _ := hl
    rw [hl']
    obtain ⟨g, hg⟩ : ∃ g, big - 8 = g + 1 := ⟨big - 8 - 1, by have := big_lt (n := 9) (by omega); omega⟩
    rw [hg, parrellaw19_GatherNewest_l0, if_neg (by decide)]
    have hx2' : x.f_Version = topV ((Q8 s).map (verN vs w)) := hx2
    have e1 : Int.tmod (s : Int) 256 = ((s % 256 : Nat) : Int) := by rw [show (256 : Int) = ((256 : Nat) : Int) from rfl, ← Int.ofNat_tmod]
    have hok : (decide (Q8 s ≠ []) == ((Int.tmod (s : Int) 256) != 0)) = true := by
      rw [e1, beq_iff_eq, Bool.eq_iff_iff, decide_eq_true_eq, bne_iff_ne]
      have hm : s % 256 = 0 ↔ Q8 s = [] := by
        constructor
        · intro h
          unfold Q8
          rw [List.filter_eq_nil_iff]
          intro j hj hb
          rw [List.mem_range] at hj
          have h2 : (s % 2 ^ 8).testBit j = true := by rw [Nat.testBit_mod_two_pow, hb]; simp [hj]
          rw [show (2 : Nat) ^ 8 = 256 from rfl, h, Nat.zero_testBit] at h2; cases h2
        · intro h
          refine Nat.eq_of_testBit_eq fun j => ?_
          rw [show (256 : Nat) = 2 ^ 8 from rfl, Nat.testBit_mod_two_pow, Nat.zero_testBit]
          cases hb : (decide (j < 8) && s.testBit j) with
          | false => rfl
          | true =>
            rw [Bool.and_eq_true, decide_eq_true_eq] at hb
            have := mem_Q8.2 hb
            rw [h] at this; cases this
      constructor
      · intro h h2; exact h (hm.1 (by omega))
      · intro h h2; exact h (by rw [hm.2 h2]; rfl)
    show (if (!(decide (Q8 s ≠ []) == ((Int.tmod (s : Int) 256) != 0))) = true then _ else _) = _
    rw [hok, if_neg (by simp), if_neg (by rw [hx2']; simp)]
    show ((gather_Gather_Enough (T_gather_Gather.mk 1 X.conf [] X.gr (X.nodes : Int))).bind _) = _
    have e12 : (if (1 : Int) = 2 then canW c X.nodes else canR c X.nodes) = canR c X.nodes := if_neg (by decide)
    rw [cf, enough_eq (.inl rfl) hc X.gr n1, Option.bind_some, e12]
    cases hr : canR c X.nodes with
    | false => rw [if_pos (by simp)]; exact alive_tail
    | true =>
      rw [if_neg (by simp)]
      show ((parrelref06_Of c (w : Int)).bind _) = _
      have hcw := hc.w
      rw [rof_eq hc hw, Option.bind_some, w64 (by omega) (by omega)]
      by_cases hW : sumV c w < c.f_W
      · rw [if_pos (by simpa using hW)]; exact alive_tail
      · rw [if_neg (by simpa using hW)]
        have hge : 1000 ≤ x.f_Version := by
          have hrw := mayV_rw mc
          have hr' : c.f_R ≤ sumV c X.nodes := by simpa [canR] using hr
          have hex : ∃ j, j < 8 ∧ s.testBit j = true ∧ w.testBit j = true := by
            by_cases hh : ∃ j, j < 8 ∧ s.testBit j = true ∧ w.testBit j = true
            · exact hh
            · exfalso
              have := sumV_disj hc (a := X.nodes) (b := w) (fun i hi h2 => by
                have h3 := h2.1
                rw [n2, Bool.and_eq_true] at h3
                exact hh ⟨i, hi, h3.2, h2.2⟩)
              omega
          obtain ⟨j, h3, h4, h5⟩ := hex
          have h6 := (verN_bnd hv w h3).2.2 h5
          have h7 := (fold_ge ((Q8 s).map (verN vs w)) 0).2 (verN vs w j) (List.mem_map.2 ⟨j, mem_Q8.2 ⟨h3, h4⟩, rfl⟩)
          rw [hx2']
          unfold topV
          omega
        rw [if_pos (by simpa using hge)]; exact alive_tail
theorem newest_law (c : T_api_Config) (vs : A8 Int) (sets : A2 Int) (h : wfL (c_T_api_Config c)) (hv : wfL [.int .u32 vs.a0, .int .u32 vs.a1, .int .u32 vs.a2, .int .u32 vs.a3, .int .u32 vs.a4, .int .u32 vs.a5, .int .u32 vs.a6, .int .u32 vs.a7]) (h1 : wfL [.int .u64 sets.a0, .int .u64 sets.a1]) : parrellaw19_GatherNewest c vs sets = some true :=
  newest_eq (wfV_of h) (fun i hi => by rcases lt8 hi with rfl | rfl | rfl | rfl | rfl | rfl | rfl | rfl <;> exact wf_u32 (hv _ (by simp [A8.get]))) (wf_u64 (h1 _ List.mem_cons_self)) (wf_u64 (h1 _ (List.mem_cons_of_mem _ List.mem_cons_self)))
end Go.Proofs.YtffmmflapagkhaaDoor.Wk
