/- The laws of a stage. -/
import Derived.Test.YtfjdnnoflmpdeaaDoorStageQ
set_option linter.unusedVariables false
set_option linter.unusedSimpArgs false
set_option linter.unusedSectionVars false
namespace Go.Proofs.YtfjdnnoflmpdeaaDoor.Wk
open Go Go.Cn
open Go.Proofs.YtfjdnnoflmpdeaaDoor.Ri (Rises pre suf at_ Pair)
variable {L : List T_parrelref14_One} {all : List (T_api_Tx × T_stage_prepared)} {own : List (A8 Int × T_api_Tx)}
structure WfA (a : T_parrellaw14_Act) : Prop where
  t : WfT a.f_Tx
  g : WfR a.f_Reg
  w : WfWs a.f_Writes
theorem short_eq (l : List T_parrellaw14_Act) : parrellaw14_short l = some (l.take (min l.length 100)) := by
  have hmin : (if 100 < (l.length : Int) then (100 : Int) else (l.length : Int)) = ((min l.length 100 : Nat) : Int) := by split <;> omega
  unfold parrellaw14_short
  rw [hmin, if_pos (by omega), Int.toNat_natCast]
theorem short_len (l : List T_parrellaw14_Act) : (l.take (min l.length 100)).length ≤ 100 := by rw [List.length_take]; omega
def WfL (l : List T_parrellaw14_Act) : Prop := ∀ a ∈ l, WfA a
theorem WfL.take {l : List T_parrellaw14_Act} (h : WfL l) (n : Nat) : WfL (l.take n) := fun a ha => h a (List.mem_of_mem_take ha)
theorem far_eq (l : List T_parrellaw14_Act) (h : WfL l) : ∃ b, parrellaw14_far l = some b := by
  have hl := short_len l
  have hw := h.take (min l.length 100)
  unfold parrellaw14_far
  rw [short_eq, Option.bind_some]
  generalize l.take (min l.length 100) = y at hl hw
  rw [parrellaw14_far_w0 y 0 (by omega)]
  have inner : ∀ (t : Int) (k : Int → Option Bool) (n i : Nat) (s : Int), ∃ s', walkN (parrellaw14_far_b1 t y k) (parrellaw14_far_e1 k) n i s = k s' := by
    intro t k n
    induction n with
    | zero => intro i s; exact ⟨s, rfl⟩
    | succ n ih => intro i s; rw [walkN]; exact ih _ _
  have outer : ∀ (n i : Nat) (s : Int), i + n = y.length → ∃ b, walkN (parrellaw14_far_b0 y) parrellaw14_far_e0 n i s = some b := by
    intro n
    induction n with
    | zero => intro i s _; exact ⟨_, rfl⟩
    | succ n ih =>
      intro i s hi
      have hlt : i < y.length := by omega
      have hwl := (hw _ (getD_mem hlt)).w.len
      have hb : ∀ k : Int → Option Bool, ∃ s', parrellaw14_far_b0 y i s k = some true ∨ parrellaw14_far_b0 y i s k = k s' := fun k => by
        unfold parrellaw14_far_b0
        split
        · exact ⟨0, .inl rfl⟩
        · rw [parrellaw14_far_w1 (i : Int) y _ s (by rw [Int.toNat_natCast]; omega)]
          obtain ⟨s', e⟩ := inner (i : Int) (fun s_ => k s_) ((y.getD (i : Int).toNat default).f_Writes).length 0 s
          exact ⟨s', .inr e⟩
      rw [walkN]
      obtain ⟨s', e | e⟩ := hb (walkN (parrellaw14_far_b0 y) parrellaw14_far_e0 n (i + 1))
      · exact ⟨true, e⟩
      · rw [e]; exact ih (i + 1) s' (by omega)
  exact outer _ 0 0 (by omega)

def k97 : A8 Int := A8.mk 97 0 0 0 0 0 0 0
def w97 : List T_api_Write := [T_api_Write.mk k97 (T_api_Item.mk 1 [] (T_api_Config.mk 1 1 1 (A8.mk 1 0 0 0 0 0 0 0)))]
def t11 : T_api_Tx := T_api_Tx.mk 0 1 1
theorem alive_eq : parrellaw14_alive = some true := by
  have h0 : stage_New = some ([], []) := rfl
  have hs : parrellaw14_some = some w97 := rfl
  have h1 : stage_Stage_Put [] [] t11 (T_api_Reg.mk 1 1) w97 = some (0, [(t11, ⟨T_api_Reg.mk 1 1, w97⟩)], [(k97, t11)]) := by kernel_rfl
  have h2 : stage_Stage_Owner [(t11, ⟨T_api_Reg.mk 1 1, w97⟩)] [(k97, t11)] k97 = some (t11, true) := by kernel_rfl
  have h3 : stage_Stage_Take [(t11, ⟨T_api_Reg.mk 1 1, w97⟩)] [(k97, t11)] t11 = some (w97, 0, [], []) := by kernel_rfl
  have h4 : stage_Stage_All [] [] = some [] := allT_eq St.nil
  have h5 : parrelref10_SameWrites w97 w97 = some true := by rw [sameW_eq (by decide)]; simp
  unfold parrellaw14_alive
  rw [h0, Option.bind_some, hs, Option.bind_some]
  show (stage_Stage_Put [] [] t11 (T_api_Reg.mk 1 1) w97).bind _ = _
  rw [h1, Option.bind_some, if_neg (by decide)]
  show (stage_Stage_Owner [(t11, ⟨T_api_Reg.mk 1 1, w97⟩)] [(k97, t11)] k97).bind _ = _
  rw [h2, Option.bind_some]
  show (stage_Stage_Take [(t11, ⟨T_api_Reg.mk 1 1, w97⟩)] [(k97, t11)] t11).bind _ = _
  rw [h3, Option.bind_some, if_pos (by decide), if_pos rfl, Option.bind_some]
  show (parrelref10_SameWrites w97 w97).bind _ = _
  rw [h5, Option.bind_some, if_pos rfl, if_pos (by decide)]
  show (stage_Stage_All [] []).bind _ = _
  rw [h4]; rfl
theorem alive_tail : (parrellaw14_alive.bind fun y => some y) = some true := by rw [alive_eq]; rfl

/-! StagePlays -/
theorem owners_loop (h : St L all own) (t : Int) (y : List T_parrellaw14_Act) (hw : (y.getD t.toNat default).f_Writes.length < 9223372036854775807) (k0 : Int → List T_parrelref14_One → List (T_api_Tx × T_stage_prepared) → List (A8 Int × T_api_Tx) → Option Bool) :
    parrellaw14_StagePlays_l1 t y k0 big 0 L all own = k0 (IntKind.wrap .i64 (t + 1)) L all own := by
  rw [parrellaw14_StagePlays_w1 t y k0 L all own hw]
  refine Ri.walkN_inv (fun _ s => s = (L, all, own)) _ (fun i s hi hs => ?_) (fun s hs => ?_) _ rfl
  · subst hs
    refine ⟨_, rfl, fun k => ?_⟩
    unfold parrellaw14_StagePlays_b1
    simp only [owner_eq h, refOwner_eq h, Option.bind_some, decide_true, Bool.not_true, Bool.false_eq_true, if_false, beq_self_eq_true]
  · subst hs; rfl
theorem takeC_len (h : St L all own) (t : T_api_Tx) : (takeC L t).1.length < 9223372036854775807 := by
  unfold takeC
  cases ha : at_ cfT kfO L t with
  | none => show 0 < _; decide
  | some o =>
    have := (h.ok o (Ri.at_mem ha).1).w.len
    show o.f_Writes.length < _; omega
theorem wrC_len (h : St L all own) (t : T_api_Tx) : (wrC L t).1.length < 9223372036854775807 := by
  unfold wrC
  cases ha : at_ cfT kfO L t with
  | none => show 0 < _; decide
  | some o =>
    have := (h.ok o (Ri.at_mem ha).1).w.len
    show o.f_Writes.length < _; omega
theorem plays_round (h : St L all own) (y : List T_parrellaw14_Act) (i : Nat) (ha : WfA (y.getD i default)) :
    ∃ s' : List T_parrelref14_One × List (T_api_Tx × T_stage_prepared) × List (A8 Int × T_api_Tx), St s'.1 s'.2.1 s'.2.2 ∧ ∀ k, parrellaw14_StagePlays_b0 y i (L, all, own) k = k s' := by
  have hwl : (y.getD (i : Int).toNat default).f_Writes.length < 9223372036854775807 := by rw [Int.toNat_natCast]; have := ha.w.len; omega
  cases hT : (y.getD i default).f_Take with
  | true =>
    obtain ⟨all', own', e1, h'⟩ := take_eq h (y.getD i default).f_Tx
    have hml : ((takeC L (y.getD i default).f_Tx).2.2.map kfO).length ≤ 64 := by rw [List.length_map]; exact h'.len
    refine ⟨(_, all', own'), h', fun k => ?_⟩
    unfold parrellaw14_StagePlays_b0
    simp only [hT, if_true, e1, refTake_eq h, Option.bind_some, sameW_eq (takeC_len h _), decide_true, Bool.not_true, Bool.false_eq_true, if_false, bne_self_eq_false, writes_eq h', refWrites_eq h', sameW_eq (wrC_len h' _),
      beq_self_eq_true, allT_eq h', refAll_eq h', sameT_refl hml]
    exact owners_loop h' (i : Int) y hwl (fun _ L_ m_ m2_ => k (L_, m_, m2_))
  | false =>
    obtain ⟨all', own', e1, h'⟩ := put_eq h ha.t ha.g ha.w
    have hml : ((putC L (y.getD i default).f_Tx (y.getD i default).f_Reg (y.getD i default).f_Writes).2.map kfO).length ≤ 64 := by rw [List.length_map]; exact h'.len
    refine ⟨(_, all', own'), h', fun k => ?_⟩
    unfold parrellaw14_StagePlays_b0
    simp only [hT, Bool.false_eq_true, if_false, e1, refPut_eq h ha.t ha.g ha.w, Option.bind_some, decide_true, Bool.not_true, bne_self_eq_false, writes_eq h', refWrites_eq h', sameW_eq (wrC_len h' _),
      beq_self_eq_true, allT_eq h', refAll_eq h', sameT_refl hml]
    exact owners_loop h' (i : Int) y hwl (fun _ L_ m_ m2_ => k (L_, m_, m2_))
theorem plays_eq (l : List T_parrellaw14_Act) (h : WfL l) : parrellaw14_StagePlays l = some true := by
  obtain ⟨b, hb⟩ := far_eq l h
  have h0 : stage_New = some ([], []) := rfl
  unfold parrellaw14_StagePlays
  rw [h0, Option.bind_some, hb, Option.bind_some]
  cases b with
  | true => rw [if_pos rfl]; exact alive_tail
  | false =>
    have hl := short_len l
    rw [if_neg (by simp), short_eq, Option.bind_some, parrellaw14_StagePlays_w0 _ [] [] [] (by omega)]
    refine Ri.walkN_inv (fun _ s => St s.1 s.2.1 s.2.2) _ (fun i s hi hs => ?_) (fun _ _ => alive_tail) ([], [], []) St.nil
    obtain ⟨L, all, own⟩ := s
    exact plays_round hs _ i (h.take _ _ (getD_mem hi))

/-! What the calls keep -/
theorem putC_cases (L : List T_parrelref14_One) (t : T_api_Tx) (g : T_api_Reg) (l : List T_api_Write) : (putC L t g l).2 = L ∨ ((putC L t g l).1 = 0 ∧ at_ cfT kfO L t = none ∧ (putC L t g l).2 = (pre cfT kfO L t ++ [⟨t, g, l⟩]) ++ suf cfT kfO L t) := by
  unfold putC
  split
  · exact .inl rfl
  · split
    · split
      · exact .inl rfl
      · exact .inl rfl
    · rename_i ha
      split
      · exact .inl rfl
      · split
        · exact .inl rfl
        · exact .inr ⟨rfl, ha, rfl⟩
theorem putC_sub (L : List T_parrelref14_One) (t : T_api_Tx) (g : T_api_Reg) (l : List T_api_Write) {o : T_parrelref14_One} (ho : o ∈ L) : o ∈ (putC L t g l).2 := by
  rcases putC_cases L t g l with e | ⟨_, _, e⟩
  · rw [e]; exact ho
  · rw [e]; exact (Ri.ins_perm (cf := cfT) (kf := kfO) L t ⟨t, g, l⟩).mem_iff.2 (List.mem_cons_of_mem _ ho)
theorem takeC_sub {L : List T_parrelref14_One} {t : T_api_Tx} {o : T_parrelref14_One} (ho : o ∈ L) (hn : o.f_Tx ≠ t) : o ∈ (takeC L t).2.2 := by
  unfold takeC
  cases ha : at_ cfT kfO L t with
  | none => exact ho
  | some x =>
    rcases List.mem_cons.1 ((Ri.del_perm ha).mem_iff.1 ho) with rfl | h
    · exact absurd (Ri.at_mem ha).2.1 hn
    · exact h
theorem takeC_ne (h : St L all own) {t : T_api_Tx} : ∀ x ∈ (takeC L t).2.2, x ∈ L ∧ x.f_Tx ≠ t := by
  unfold takeC
  cases ha : at_ cfT kfO L t with
  | none => exact fun x hx => ⟨hx, fun e => (Ri.at_none cfT_total h.al.rises).1 ha x hx e⟩
  | some o =>
    have hp := Ri.del_perm ha
    have hnd : (L.map (fun x => x.f_Tx)).Nodup := by
      rw [List.Nodup, List.pairwise_map]
      refine h.al.rises.imp ?_
      intro x y hxy e
      have hxy' : cfT x.f_Tx y.f_Tx < 0 := hxy
      rw [e] at hxy'
      exact Ri.lt_irr cfT_total _ hxy'
    intro x hx
    refine ⟨hp.mem_iff.2 (List.mem_cons_of_mem _ hx), fun e => ?_⟩
    have h1 := (hp.map (fun x => x.f_Tx)).nodup_iff.1 hnd
    rw [List.map_cons, List.nodup_cons] at h1
    have hkey : o.f_Tx = t := (Ri.at_mem ha).2.1
    exact h1.1 (List.mem_map.2 ⟨x, hx, by rw [hkey, e]⟩)

/-! StageBack -/
theorem back_tail (h : St L all own) {one : T_parrellaw14_Act} (hw : WfA one) (ho : (⟨one.f_Tx, one.f_Reg, one.f_Writes⟩ : T_parrelref14_One) ∈ L) : parrellaw14_StageBack_e0 one (all, own) = some true := by
  obtain ⟨all', own', e1, h'⟩ := take_eq h one.f_Tx
  have ha : at_ cfT kfO L one.f_Tx = some ⟨one.f_Tx, one.f_Reg, one.f_Writes⟩ := Ri.at_some (kf := kfO) cfT_total h.al.rises ho rfl
  have et : takeC L one.f_Tx = (one.f_Writes, 0, (takeC L one.f_Tx).2.2) := by unfold takeC; rw [ha]
  obtain ⟨all2, own2, e2, _⟩ := take_eq h' one.f_Tx
  have hn : at_ cfT kfO (takeC L one.f_Tx).2.2 one.f_Tx = none := (Ri.at_none cfT_total h'.al.rises).2 fun x hx e => (takeC_ne h x hx).2 e
  have e3 : (takeC (takeC L one.f_Tx).2.2 one.f_Tx).2.1 = 6 := by unfold takeC at hn ⊢; rw [hn]
  have hfree : ∀ w ∈ one.f_Writes, ow (takeC L one.f_Tx).2.2 w.f_Key = none := fun w hw => ow_none.2 fun x hx hk => by
    obtain ⟨hx1, hx2⟩ := takeC_ne h x hx
    exact hx2 (h.uniq hx1 ho hk ⟨w, hw, rfl⟩)
  have hl := hw.w.len
  unfold parrellaw14_StageBack_e0
  simp only
  rw [e1, Option.bind_some, et, parrellaw14_StageBack_w1 one _ (by omega)]
  simp only
  refine Ri.walkL_inv (fun _ => True) one.f_Writes (fun w hwm s _ => ⟨(), trivial, fun k => ?_⟩) (fun s _ => ?_) () trivial
  · unfold parrellaw14_StageBack_b1
    simp only
    rw [owner_eq h', hfree w hwm]; rfl
  · unfold parrellaw14_StageBack_e1
    simp only [e2, e3, Option.bind_some, sameW_eq (show one.f_Writes.length < 9223372036854775807 by omega), decide_true, if_true, beq_self_eq_true, alive_eq]
theorem back_eq (one : T_parrellaw14_Act) (l : List T_parrellaw14_Act) (h1 : WfA one) (h : WfL l) : parrellaw14_StageBack one l = some true := by
  obtain ⟨b, hb⟩ := far_eq l h
  obtain ⟨b2, hb2⟩ := far_eq [one] (fun a ha => by rw [List.mem_singleton.1 ha]; exact h1)
  have h0 : stage_New = some ([], []) := rfl
  unfold parrellaw14_StageBack
  rw [h0, Option.bind_some, hb, Option.bind_some]
  cases b with
  | true => rw [if_pos rfl]; exact alive_tail
  | false =>
    rw [if_neg (by simp), hb2, Option.bind_some]
    cases b2 with
    | true => rw [if_pos rfl]; exact alive_tail
    | false =>
      obtain ⟨all, own, e1, hS⟩ := put_eq St.nil h1.t h1.g h1.w
      rw [if_neg (by simp), e1, Option.bind_some]
      have hat : at_ cfT kfO [] one.f_Tx = none := rfl
      by_cases hc : (putC [] one.f_Tx one.f_Reg one.f_Writes).1 = 0
      · have hl := short_len l
        rw [if_neg (by simp [hc]), short_eq, Option.bind_some, parrellaw14_StageBack_w0 one _ all own (by omega)]
        have hin : (⟨one.f_Tx, one.f_Reg, one.f_Writes⟩ : T_parrelref14_One) ∈ (putC [] one.f_Tx one.f_Reg one.f_Writes).2 := by
          rcases putC_cases [] one.f_Tx one.f_Reg one.f_Writes with e | ⟨_, _, e⟩
          · unfold putC at hc e ⊢
            rw [hat] at hc e ⊢
            split at hc
            · cases hc
            · simp only at hc
              split at hc
              · cases hc
              · split at hc
                · cases hc
                · rename_i a1 a2 a3
                  rw [if_neg a1]
                  simp only
                  rw [if_neg a2, if_neg a3]
                  simp
          · rw [e]; simp
        refine Ri.walkN_inv (fun _ s => ∃ L, St L s.1 s.2 ∧ (⟨one.f_Tx, one.f_Reg, one.f_Writes⟩ : T_parrelref14_One) ∈ L) _ (fun i s hi hs => ?_) (fun s hs => ?_) (all, own) ⟨_, hS, hin⟩
        · obtain ⟨all, own⟩ := s
          obtain ⟨L, hL, hm⟩ := hs
          have hwa := h.take _ _ (getD_mem hi)
          by_cases hx : ((l.take (min l.length 100)).getD i default).f_Tx = one.f_Tx
          · refine ⟨(all, own), ⟨L, hL, hm⟩, fun k => ?_⟩
            unfold parrellaw14_StageBack_b0
            exact if_pos (decide_eq_true hx)
          · cases hT : ((l.take (min l.length 100)).getD i default).f_Take with
            | true =>
              obtain ⟨all', own', e2, h'⟩ := take_eq hL ((l.take (min l.length 100)).getD i default).f_Tx
              refine ⟨(all', own'), ⟨_, h', takeC_sub hm (fun e => hx e.symm)⟩, fun k => ?_⟩
              unfold parrellaw14_StageBack_b0
              rw [if_neg (by rw [decide_eq_true_eq]; exact hx), hT, if_pos rfl]
              simp only
              rw [e2, Option.bind_some]
            | false =>
              obtain ⟨all', own', e2, h'⟩ := put_eq hL hwa.t hwa.g hwa.w
              refine ⟨(all', own'), ⟨_, h', putC_sub L _ _ _ hm⟩, fun k => ?_⟩
              unfold parrellaw14_StageBack_b0
              rw [if_neg (by rw [decide_eq_true_eq]; exact hx), hT, if_neg Bool.false_ne_true]
              simp only
              rw [e2, Option.bind_some]
        · obtain ⟨all, own⟩ := s
          obtain ⟨L, hL, hm⟩ := hs
          exact back_tail hL h1 hm
      · have e2 : (putC [] one.f_Tx one.f_Reg one.f_Writes).2 = [] := by
          rcases putC_cases [] one.f_Tx one.f_Reg one.f_Writes with e | ⟨e, _, _⟩
          · exact e
          · exact absurd e hc
        rw [e2] at hS
        rw [if_pos (by simpa using hc), allT_eq hS, Option.bind_some, if_pos (by decide)]
        exact alive_tail
end Go.Proofs.YtfjdnnoflmpdeaaDoor.Wk
