/- Plain facts: items, registrations, writes that may be. -/
import Derived.Test.YtdjmfgknonkojaaDoorMissWF
import Derived.Test.YtdjmfgknonkojaaDoorMissK
import Derived.Test.YtdjmfgknonkojaaDoorMissV
import Derived.Test.YtdjmfgknonkojaaDoorRiseP
set_option linter.unusedVariables false
set_option linter.unusedSimpArgs false
set_option linter.unusedSectionVars false
namespace Go.Proofs.YtdjmfgknonkojaaDoor.Wk
open Go Go.Cn
open Go.Proofs.YtdjmfgknonkojaaDoor.Ri (Rises pre suf at_ Pair)

structure WfI (i : T_api_Item) : Prop where
  v : 0 ≤ i.f_Version ∧ i.f_Version < 4294967296
  c : WfV i.f_Conf
structure WfW (w : T_api_Write) : Prop where
  k : wfK w.f_Key
  i : WfI w.f_Item
def mayI (i : T_api_Item) : Bool := decide (i.f_Version ≤ 2147483647) && (decide (i.f_Value.length ≤ 64) && mayV i.f_Conf)
theorem itemMay_eq {i : T_api_Item} (h : WfI i) : msg_ItemMay i = some (mayI i) := by
  unfold msg_ItemMay mayI
  rw [votesMay_eq h.c]
  by_cases h1 : i.f_Version ≤ 2147483647 <;> by_cases h2 : i.f_Value.length ≤ 64 <;> simp [h1, h2] <;> omega
theorem refItemMay_eq {i : T_api_Item} (h : WfI i) : parrelref10_ItemMay i = some (mayI i) := by
  unfold parrelref10_ItemMay mayI
  rw [refMay_eq h.c]
  by_cases h1 : i.f_Version ≤ 2147483647 <;> by_cases h2 : i.f_Value.length ≤ 64 <;> simp [h1, h2] <;> omega
theorem keyMay_eq {k : A8 Int} (hk : wfK k) : parrelref10_KeyMay k = some (mayK k) := by
  obtain ⟨s, _, h2⟩ := mayK_eq k hk
  unfold parrelref10_KeyMay
  rw [h2]; rfl

abbrev kW (w : T_api_Write) : A8 Int := w.f_Key
structure WfR (g : T_api_Reg) : Prop where
  b : 0 ≤ g.f_Boot ∧ g.f_Boot < 4294967296
  n : 0 ≤ g.f_N ∧ g.f_N < 4294967296
structure WfWs (l : List T_api_Write) : Prop where
  w : ∀ x ∈ l, WfW x
  len : l.length * 48 ≤ 140737488351232
def cnt (n : Int) : Bool := decide (1 ≤ n ∧ n ≤ 2147483647)
theorem isCount_eq {n : Int} (h : 0 ≤ n ∧ n < 4294967296) : ids_isCount n = some (cnt n) := by
  unfold ids_isCount cnt
  congr 1
  by_cases h0 : n = 0
  · rw [h0]; decide
  · rw [wu32 (by omega) (by omega), Bool.eq_iff_iff, decide_eq_true_eq, decide_eq_true_eq]; omega
theorem rcount_eq (n : Int) : parrelref05_count n = some (cnt n) := by
  unfold parrelref05_count cnt
  by_cases h : 1 ≤ n
  · rw [if_pos (by simpa using h)]; simp [h]
  · rw [if_neg (by simpa using h)]; simp [h]
def mayR (g : T_api_Reg) : Bool := cnt g.f_Boot && cnt g.f_N
theorem regMay_eq {g : T_api_Reg} (h : WfR g) : ids_RegMay g = some (mayR g) ∧ parrelref05_RegMay g = some (mayR g) := by
  unfold ids_RegMay parrelref05_RegMay mayR
  rw [isCount_eq h.b, isCount_eq h.n, rcount_eq, rcount_eq]
  cases cnt g.f_Boot <;> exact ⟨rfl, rfl⟩

/-! Writes that may be -/
noncomputable def wGo : Option (A8 Int) → List T_api_Write → Bool
  | _, [] => true
  | p, w :: r => mayK w.f_Key && (mayI w.f_Item && ((match p with | none => true | some q => decide (cfK q w.f_Key < 0)) && wGo (some w.f_Key) r))
noncomputable def mayW (l : List T_api_Write) : Bool := wGo none l && decide (l.length ≤ 16)
theorem wGo_rises : ∀ (l : List T_api_Write) (p : Option (A8 Int)), wGo p l = true → Rises cfK kW l ∧ ∀ q, p = some q → ∀ w ∈ l, cfK q w.f_Key < 0
  | [], _, _ => ⟨List.Pairwise.nil, fun _ _ _ h => nomatch h⟩
  | w :: r, p, h => by
    simp only [wGo, Bool.and_eq_true] at h
    obtain ⟨h1, h2⟩ := wGo_rises r _ h.2.2.2
    have hw : ∀ x ∈ r, cfK w.f_Key x.f_Key < 0 := fun x hx => h2 _ rfl x hx
    refine ⟨List.pairwise_cons.2 ⟨fun x hx => hw x hx, h1⟩, fun q hq x hx => ?_⟩
    subst hq
    have hqw : cfK q w.f_Key < 0 := by simpa using h.2.2.1
    rcases List.mem_cons.1 hx with rfl | hx
    · exact hqw
    · exact Ri.lt_tr cfK_total hqw (hw x hx)
theorem mayW_rises {l : List T_api_Write} (h : mayW l = true) : Rises cfK kW l ∧ l.length ≤ 16 := by
  simp only [mayW, Bool.and_eq_true, decide_eq_true_eq] at h
  exact ⟨(wGo_rises l none h.1).1, h.2⟩
theorem mayW_walk {l : List T_api_Write} (hl : l.length < 9223372036854775807) (f : Nat → Unit → (Unit → Option Bool) → Option Bool) (e : Unit → Option Bool)
    (hf : ∀ i k, i < l.length → f i () k = if mayK (l.getD i default).f_Key = false then some false else if mayI (l.getD i default).f_Item = false then some false else
      if 0 < i then (if 0 ≤ cfK (l.getD (i - 1) default).f_Key (l.getD i default).f_Key then some false else k ()) else k ())
    (he : e () = some (decide (l.length ≤ 16))) : walkN f e l.length 0 () = some (mayW l) := by
  have key : ∀ (m : List T_api_Write) (i : Nat), l.drop i = m → i + m.length = l.length → walkN f e m.length i () = some (wGo (if i = 0 then none else some (l.getD (i - 1) default).f_Key) m && decide (l.length ≤ 16)) := by
    intro m
    induction m with
    | nil => intro i _ _; show e () = _; rw [he]; simp [wGo]
    | cons w m ih =>
      intro i hd hi
      have hlt : i < l.length := by simp at hi; omega
      have h1 := Ri.getD_drop l i default hlt
      rw [hd] at h1
      have ha := (List.cons.inj h1).1.symm
      have hd2 := (List.cons.inj h1).2.symm
      have ih' := ih (i + 1) hd2 (by simp at hi; omega)
      rw [if_neg (Nat.succ_ne_zero i), Nat.add_sub_cancel, ha] at ih'
      rw [List.length_cons, walkN, hf i _ hlt, ih', ha]
      simp only [wGo]
      cases mayK w.f_Key with
      | false => simp
      | true =>
        cases mayI w.f_Item with
        | false => simp
        | true =>
          by_cases h0 : i = 0
          · subst h0; simp
          · rw [if_neg (by simp), if_neg (by simp), if_pos (by omega), if_neg h0]
            dsimp only
            generalize cfK (l.getD (i - 1) default).f_Key w.f_Key = z
            by_cases hc : 0 ≤ z
            · have hz : decide (z < 0) = false := decide_eq_false (by omega)
              rw [if_pos hc, hz]; simp
            · have hz : decide (z < 0) = true := decide_eq_true (by omega)
              rw [if_neg hc, hz]; simp
  have := key l 0 rfl (by simp)
  exact this
theorem keyMayM_eq {k : A8 Int} (hk : wfK k) : msg_keyMay k = some (mayK k) := by
  obtain ⟨s, h1, _⟩ := mayK_eq k hk
  unfold msg_keyMay
  rw [h1]; rfl
theorem dec1 {i : Nat} {n : Nat} (h0 : 0 < i) (h : i < n) (hn : n < 9223372036854775807) : IntKind.wrap .i64 ((i : Int) - 1) = ((i - 1 : Nat) : Int) := by
  rw [w64 (by omega) (by omega)]; omega
theorem writesMay_eq {l : List T_api_Write} (h : WfWs l) : msg_WritesMay l = some (mayW l) := by
  have hl := h.len
  unfold msg_WritesMay
  rw [msg_WritesMay_w0 l (by omega)]
  refine mayW_walk (by omega) _ _ (fun i k hi => ?_) (by unfold msg_WritesMay_e0; congr 1; rw [Bool.eq_iff_iff, decide_eq_true_eq, decide_eq_true_eq]; omega)
  have hw := h.w _ (getD_mem hi)
  unfold msg_WritesMay_b0
  rw [keyMayM_eq hw.k, itemMay_eq hw.i]
  simp only [Option.bind_some]
  cases mayK (l.getD i default).f_Key with
  | false => rfl
  | true =>
    cases mayI (l.getD i default).f_Item with
    | false => rfl
    | true =>
      by_cases h0 : 0 < i
      · have hw2 := h.w _ (getD_mem (l := l) (i := i - 1) (by omega))
        have h0' : decide (0 < (i : Int)) = true := by simp; omega
        rw [dec1 h0 hi (by omega), Int.toNat_natCast, key_total, h0']
        simp only [Bool.not_true, Bool.false_eq_true, if_false, Bool.true_eq_false, if_true, Option.bind_some, h0, decide_eq_true_eq]
        rw [if_pos (by omega)]
      · have h0' : decide (0 < (i : Int)) = false := by simp; omega
        rw [h0', if_neg h0]; rfl
theorem refWritesMay_eq {l : List T_api_Write} (h : WfWs l) : parrelref10_WritesMay l = some (mayW l) := by
  have hl := h.len
  unfold parrelref10_WritesMay
  rw [parrelref10_WritesMay_w0 l (by omega)]
  refine mayW_walk (by omega) _ _ (fun i k hi => ?_) (by unfold parrelref10_WritesMay_e0; congr 1; rw [Bool.eq_iff_iff, decide_eq_true_eq, decide_eq_true_eq]; omega)
  have hw := h.w _ (getD_mem hi)
  unfold parrelref10_WritesMay_b0
  rw [keyMay_eq hw.k, refItemMay_eq hw.i]
  simp only [Option.bind_some]
  cases mayK (l.getD i default).f_Key with
  | false => rfl
  | true =>
    cases mayI (l.getD i default).f_Item with
    | false => rfl
    | true =>
      by_cases h0 : 0 < i
      · have hw2 := h.w _ (getD_mem (l := l) (i := i - 1) (by omega))
        have h0' : decide (0 < (i : Int)) = true := by simp; omega
        have e : parrelref05_Keys (l.getD (i - 1) default).f_Key (l.getD i default).f_Key = some (cfK (l.getD (i - 1) default).f_Key (l.getD i default).f_Key) := rkeys_eq _ _ (keyB_of hw2.k) (keyB_of hw.k)
        rw [dec1 h0 hi (by omega), Int.toNat_natCast, e, h0']
        simp only [Bool.not_true, Bool.false_eq_true, if_false, Bool.true_eq_false, if_true, Option.bind_some, h0, decide_eq_true_eq]
        rw [if_pos (by omega)]
      · have h0' : decide (0 < (i : Int)) = false := by simp; omega
        rw [h0', if_neg h0]; rfl
theorem sameW_eq {a b : List T_api_Write} (ha : a.length < 9223372036854775807) : parrelref10_SameWrites a b = some (decide (a = b)) := by
  unfold parrelref10_SameWrites
  by_cases hl : a.length = b.length
  · rw [if_neg (by simp [hl]), parrelref10_SameWrites_w0 a b ha]
    refine Ri.eqL_walk hl _ _ (fun i k hi => ?_) rfl
    unfold parrelref10_SameWrites_b0
    rw [if_pos (by omega)]
    by_cases h : a.getD i default = b.getD i default
    · rw [if_pos h, if_neg (by simp only [h, decide_true]; decide)]
    · rw [if_neg h, if_pos (by simp only [h, decide_false]; decide)]
  · rw [if_pos (by simp; omega)]
    congr 1
    symm
    rw [decide_eq_false_iff_not]
    intro h; exact hl (congrArg List.length h)
end Go.Proofs.YtdjmfgknonkojaaDoor.Wk
