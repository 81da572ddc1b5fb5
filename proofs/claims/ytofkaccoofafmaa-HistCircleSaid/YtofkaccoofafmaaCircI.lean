/- HistCircle's law. -/
import Derived.Test.YtofkaccoofafmaaCircH
set_option linter.unusedVariables false
set_option linter.unusedSimpArgs false
set_option linter.unusedSectionVars false
namespace Go.Proofs.Ytofkaccoofafmaa.Wk
open Go Go.Cn

theorem rest_walk (L : List T_hist_Tx) (hL : L.length ≤ 64) (j : Nat) (K : Unit → Option Bool) : ∀ (c i : Nat) (s : List T_hist_Tx), i + c = L.length → s.length ≤ i →
    walkN (parrellaw26_HistCircle_b2 L (j : Int) K) (parrellaw26_HistCircle_e2 K) c i s = parrellaw26_HistCircle_e2 K (s ++ if i ≤ j then (L.drop i).take (j - i) ++ L.drop (j + 1) else L.drop i)
  | 0, i, s, hi, _ => by
    have e1 : L.drop i = [] := List.drop_eq_nil_of_le (by omega)
    rw [walkN, e1]
    by_cases hij : i ≤ j
    · rw [if_pos hij, List.drop_eq_nil_of_le (by omega)]; simp
    · rw [if_neg hij]; simp
  | c + 1, i, s, hi, hs => by
    have hil : i < L.length := by omega
    have eg : L.getD i default = L[i] := by simp [hil]
    rw [walkN, parrellaw26_HistCircle_b2]
    by_cases e : i = j
    · subst e
      rw [if_neg (by simp), rest_walk L hL i K c (i + 1) s (by omega) (by omega), if_neg (by omega), if_pos (Nat.le_refl _), Nat.sub_self, List.take_zero, List.nil_append]
    · rw [if_pos (by rw [bne_iff_ne]; omega), if_pos (by simp only [List.length_cons, List.length_nil]; omega), rest_walk L hL j K c (i + 1) _ (by omega) (by simp only [List.length_append, List.length_cons, List.length_nil]; omega), eg, List.append_assoc]
      congr 2
      by_cases hij : i ≤ j
      · rw [if_pos (by omega), if_pos hij, List.drop_eq_getElem_cons hil, show j - i = (j - (i + 1)) + 1 by omega, List.take_succ_cons]; rfl
      · rw [if_neg (by omega), if_neg hij, List.drop_eq_getElem_cons hil]; rfl
section
variable {l : List RT} {d j : Nat} {cs : List Nat} (W : WayOf l.length (Eg l) j d cs) (hl : cs.length = d) (hj : j < l.length) (h64 : l.length ≤ 64) (hd2 : 2 ≤ d)
  (hmin : ∀ i r, i < l.length → dst l.length (Eg l) i i i = some r → d ≤ r)
include W hl hmin in
theorem two_back {i : Nat} (h0 : 0 < i) (hi : i < d) (he : (l.getD (cs.getD i default) default).f_End ≠ 0) (hb : (l.getD (cs.getD i default) default).f_End < (l.getD (cs.getD (i - 1) default) default).f_Begin) : d ≤ 2 := by
  have e1 : Eg l (cs.getD (i - 1) default) (cs.getD i default) = true := by
    have := W.step (i - 1) (by omega)
    rwa [show i - 1 + 1 = i by omega] at this
  have hne : cs.getD (i - 1) default ≠ cs.getD i default := (Eg_iff.1 e1).1
  have e2 : Eg l (cs.getD i default) (cs.getD (i - 1) default) = true := Eg_iff.2 ⟨fun e => hne e.symm, ahead_time he hb⟩
  have ha := W.lt (i - 1) (by omega)
  have hb' := W.lt i (by omega)
  generalize cs.getD (i - 1) default = a at *
  generalize cs.getD i default = b at *
  rcases Nat.lt_or_ge a b with hlt | hge
  · obtain ⟨q, q1, q2⟩ := dst_le (m := 2) (n := l.length) (E := Eg l) (lo := a) (t := a) (a := a) (by omega) ⟨b, hb', by omega, e1, a, ha, Nat.le_refl _, e2, rfl⟩
    have := hmin a q ha q1
    omega
  · obtain ⟨q, q1, q2⟩ := dst_le (m := 2) (n := l.length) (E := Eg l) (lo := b) (t := b) (a := b) (by omega) ⟨a, ha, by omega, e2, b, hb', Nat.le_refl _, e1, rfl⟩
    have := hmin b q hb' q1
    omega
include W hl h64 hmin in
theorem circ_step {i : Nat} (hi : i < d) (hd64 : d ≤ 64) (m : List (Int × Bool)) (hm : ∀ v : Int, (mget m v).getD default = true → ∃ i', i' < i ∧ v = ((cs.getD i' default : Nat) : Int)) (k : List (Int × Bool) × List T_hist_Tx → Option Bool) :
    parrellaw26_HistCircle_b0 l (l.map tt) (ic cs) i (m, (some_of l (cs.take i)).map tt) k = k (mset m ((cs.getD i default : Nat) : Int) true, (some_of l (cs.take (i + 1))).map tt) := by
  have hic : i < cs.length := by omega
  have hc := W.lt i hic
  have ey : (ic cs).getD i default = ((cs.getD i default : Nat) : Int) := getD_map (fun (k : Nat) => (k : Int)) hic
  have ey0 : (ic cs).getD 0 default = ((j : Nat) : Int) := by
    have : (ic cs).getD 0 default = ((cs.getD 0 default : Nat) : Int) := getD_map (fun (k : Nat) => (k : Int)) W.pos
    rw [this, W.fst]
  have hge : j ≤ cs.getD i default := by
    rcases Nat.eq_zero_or_pos i with e | e
    · subst e; rw [W.fst]; exact Nat.le_refl _
    · exact Nat.le_of_lt (W.gt i e hic)
  have eT : (l.map tt).getD (cs.getD i default) default = tt (l.getD (cs.getD i default) default) := getD_map tt hc
  have elen : ((some_of l (cs.take i)).map tt).length = i := by simp [some_of]; omega
  have eA : (some_of l (cs.take i)).map tt ++ [tt (l.getD (cs.getD i default) default)] = (some_of l (cs.take (i + 1))).map tt := by
    have : cs.take (i + 1) = cs.take i ++ [cs.getD i default] := by
      rw [List.take_add_one, List.getD_eq_getElem?_getD, List.getElem?_eq_getElem hic]; rfl
    rw [this]; simp [some_of]
  have elen2 : ((some_of l (cs.take (i + 1))).map tt).length = i + 1 := by simp [some_of]; omega
  have eI : ∀ q, q ≤ i → ((some_of l (cs.take (i + 1))).map tt).getD q default = tt (l.getD (cs.getD q default) default) := fun q hq => by
    have ct : (cs.take (i + 1)).getD q default = cs.getD q default := by
      rw [List.getD_eq_getElem?_getD, List.getD_eq_getElem?_getD, List.getElem?_take_of_lt (by omega)]
    rw [getD_map tt (by simp [some_of]; omega), some_get (by simp; omega), ct]
  unfold parrellaw26_HistCircle_b0
  dsimp only
  rw [ey, ey0, if_neg (by rw [decide_eq_true_eq]; omega), if_neg (by rw [decide_eq_true_eq]; omega), if_neg (fun h => by
      obtain ⟨i', h1, h2⟩ := hm _ h
      have := W.inj hl hic (by omega) (b := i') (by omega)
      omega), if_pos (by simp only [List.length_map]; omega), if_neg (by rw [decide_eq_true_eq]; omega), if_pos (by rw [List.length_map]; omega), if_pos (by rw [elen]; simp only [List.length_cons, List.length_nil]; omega), Int.toNat_natCast, eT, eA]
  by_cases h0 : 0 < i
  · have e1 : IntKind.wrap .i64 ((i : Int) - 1) = ((i - 1 : Nat) : Int) := by rw [w64 (by omega) (by omega)]; omega
    rw [if_pos (by rw [decide_eq_true_eq]; omega), if_pos (by rw [elen2]; omega), eI i (Nat.le_refl _)]
    by_cases he : (l.getD (cs.getD i default) default).f_End = 0
    · rw [if_neg (by show ¬ ((l.getD (cs.getD i default) default).f_End != 0) = true; rw [he]; simp)]
    · rw [if_pos (by show ((l.getD (cs.getD i default) default).f_End != 0) = true; rw [bne_iff_ne]; exact he), e1, if_pos (by rw [elen2]; omega), Int.toNat_natCast, eI (i - 1) (by omega)]
      by_cases hb : (l.getD (cs.getD i default) default).f_End < (l.getD (cs.getD (i - 1) default) default).f_Begin
      · have := two_back W hl hmin h0 hi he hb
        rw [if_pos (by exact decide_eq_true hb), if_neg (by rw [decide_eq_true_eq, List.length_map]; omega)]
      · rw [if_neg (by rw [decide_eq_true_eq]; exact hb)]
  · rw [if_neg (by rw [decide_eq_true_eq]; omega)]
include W hl hj hd2 in
theorem circ_in (hnd : cs.Nodup) (hc0 : checkB l = 0) : (orderB (some_of l cs)).2 = 11 ∨ (orderB (some_of l cs)).2 = 6 := by
  have hlen : (some_of l cs).length = d := by simp [some_of, hl]
  rcases part_check hc0 hnd (fun c hc => by
    obtain ⟨i, h1, rfl⟩ := List.mem_iff_getElem.1 hc
    have := W.lt i h1
    rw [List.getD_eq_getElem?_getD, List.getElem?_eq_getElem h1] at this
    exact this) with h | h
  · have hk : (orderN (some_of l cs)).length < (some_of l cs).length := all_stuck (by omega) fun p hp => by
      rcases Nat.eq_zero_or_pos p with e | e
      · subst e
        refine ⟨d - 1, by omega, by omega, ?_⟩
        have hL := W.last hl hj
        rw [hl] at hL
        rw [Eg_iff, some_get (by omega), some_get (by omega), W.fst]
        exact ⟨by omega, (Eg_iff.1 hL).2⟩
      · refine ⟨p - 1, by omega, by omega, ?_⟩
        have hS := W.step (p - 1) (by omega)
        rw [show p - 1 + 1 = p by omega] at hS
        rw [Eg_iff, some_get (by omega), some_get (by omega)]
        exact ⟨by omega, (Eg_iff.1 hS).2⟩
    left
    rw [orderB, if_neg (by simpa using h), if_pos hk]
  · right
    rw [orderB, if_pos (by rw [h]; decide)]
    exact h
end
theorem circle_eq (l : List RT) (hs : Sz l) : parrellaw26_HistCircle l = some true := by
  have hl := hs.2
  have hlt : l.length < 9223372036854775807 := by omega
  have hal : (parrellaw26_alive.bind fun y => some y) = some true := by rw [alive_eq]; rfl
  unfold parrellaw26_HistCircle
  rw [far_eq, Option.bind_some]
  cases farB l with
  | true => exact hal
  | false =>
    rw [if_neg Bool.false_ne_true, theirs_eq l hs, Option.bind_some, histCircle_eq l hlt, Option.bind_some, histOrder_eq l hlt, Option.bind_some]
    by_cases hc : (orderB l).2 = 11
    · obtain ⟨h1, h2⟩ := order_11 hc
      obtain ⟨h64, hnd⟩ := check_nd h1
      obtain ⟨d, j, hb⟩ := circ_some hc
      obtain ⟨hj, hd⟩ := bst_some hb
      have hp := dst_pos hd
      have hbd := dst_bound hj hd
      have hmin : ∀ i r, i < l.length → dst l.length (Eg l) i i i = some r → d ≤ r := fun i r hi hr => by
        obtain ⟨d', j', h3, h4⟩ := bst_least hi hr
        rw [hb] at h3
        cases h3
        exact h4
      have hd2 : 2 ≤ d := by
        rcases Nat.lt_or_ge d 2 with h | h
        · exfalso
          have : d = 1 := by omega
          subst this
          have := (dst_one hj (Nat.le_refl _)).1 hd
          rw [Eg_irr] at this; cases this
        · exact h
      have W := way_of hj hd
      have hlen := way_len hd
      have ecs : circN l = pathB l.length (Eg l) j (d - 1) [j] := by rw [circN, if_pos hc, hb]; rfl
      generalize pathB l.length (Eg l) j (d - 1) [j] = cs at W hlen ecs
      have hcn : cs.Nodup := nodup_getD fun a b ha hb e => W.inj hlen ha hb e
      have hclt : ∀ c ∈ cs, c < l.length := fun c hc => by
        obtain ⟨i, h1, rfl⟩ := List.mem_iff_getElem.1 hc
        have := W.lt i h1
        rw [List.getD_eq_getElem?_getD, List.getElem?_eq_getElem h1] at this
        exact this
      have hil : (ic cs).length = d := by simp [hlen]
      rw [ecs, if_neg (by rw [hc, hil, decide_eq_true (by omega)]; simp), if_neg (by rw [hil, beq_iff_eq]; omega), parrellaw26_HistCircle_w0 _ _ _ _ _ (by omega), hil]
      have key : ∀ (c i : Nat) (m : List (Int × Bool)), i + c = d → (∀ v : Int, (mget m v).getD default = true → ∃ i', i' < i ∧ v = ((cs.getD i' default : Nat) : Int)) →
          walkN (parrellaw26_HistCircle_b0 l (l.map tt) (ic cs)) (parrellaw26_HistCircle_e0 (ic cs)) c i (m, (some_of l (cs.take i)).map tt) = parrellaw26_HistCircle_l1 ((some_of l cs).map tt) big 0 := by
        intro c
        induction c with
        | zero =>
          intro i m hi _
          rw [walkN, parrellaw26_HistCircle_e0, if_neg (by rw [hil, decide_eq_true_eq]; omega), List.take_of_length_le (by omega)]
        | succ c ih =>
          intro i m hi hm
          rw [walkN, circ_step W hlen h64 hmin (by omega) (by omega) m hm]
          refine ih (i + 1) _ (by omega) fun v hv => ?_
          rw [mget_mset] at hv
          by_cases e : v = ((cs.getD i default : Nat) : Int)
          · exact ⟨i, by omega, e⟩
          · rw [if_neg e] at hv
            obtain ⟨i', h1, h2⟩ := hm v hv
            exact ⟨i', by omega, h2⟩
      have k0 := key d 0 [] (by omega) (fun v hv => by cases hv)
      rw [List.take_zero, show (some_of l []).map tt = [] from rfl] at k0
      rw [k0]
      have hin : ((some_of l cs).map tt).length = d := by simp [some_of, hlen]
      rw [parrellaw26_HistCircle_w1 _ (by omega), hin]
      have key2 : ∀ (c i : Nat), i + c = d → walkN (parrellaw26_HistCircle_b1 ((some_of l cs).map tt)) (parrellaw26_HistCircle_e1 ((some_of l cs).map tt)) c i () = some true := by
        intro c
        induction c with
        | zero =>
          intro i _
          rw [walkN, parrellaw26_HistCircle_e1, histOrder_eq _ (by simp [some_of]; omega), Option.bind_some]
          rcases circ_in W hlen hj hd2 hcn h1 with h | h
          · rw [if_pos (by rw [h]; rfl)]; exact hal
          · rw [if_neg (by rw [h]; decide), if_pos (by rw [h]; rfl)]; exact hal
        | succ c ih =>
          intro i hi
          rw [walkN, parrellaw26_HistCircle_b1, parrellaw26_HistCircle_w2 _ _ _ _ (by omega), hin, rest_walk _ (by omega) i _ d 0 [] (by omega) (by simp), if_pos (Nat.zero_le _), List.nil_append, List.drop_zero, Nat.sub_zero]
          have er : ((some_of l cs).map tt).take i ++ ((some_of l cs).map tt).drop (i + 1) = (some_of l (cs.eraseIdx i)).map tt := by
            rw [List.eraseIdx_eq_take_drop_succ, some_of, some_of, List.map_append, List.map_append, List.map_take, List.map_take, List.map_drop, List.map_drop]
          have hel : (cs.eraseIdx i).length = d - 1 := by rw [List.length_eraseIdx]; rw [if_pos (by omega)]; omega
          have hsub : (cs.eraseIdx i).Sublist cs := List.eraseIdx_sublist cs i
          have hok := rest_ok hmin (ks := cs.eraseIdx i) (fun k hk => hclt k (hsub.subset hk)) (hcn.sublist hsub) (by omega)
          rw [er, parrellaw26_HistCircle_e2, histOrder_eq _ (by simp [some_of]; omega), Option.bind_some, if_neg (by simpa using hok)]
          exact ih (i + 1) (by omega)
      exact key2 d 0 (by omega)
    · rw [circN, if_neg hc, if_neg (by simpa using hc), if_pos (by rfl)]
      exact hal
theorem circle_law (l : List RT) (h1 : (∀ a ∈ l, wsTx a) ∧ l.length * 64 ≤ 140737488351232) : parrellaw26_HistCircle l = some true := circle_eq l (sz_of h1)
end Go.Proofs.Ytofkaccoofafmaa.Wk
