/- The law StageRefused. -/
import Derived.Test.YtfjdnnoflmpdeaaDoorStaR
set_option linter.unusedVariables false
set_option linter.unusedSimpArgs false
set_option linter.unusedSectionVars false
namespace Go.Proofs.YtfjdnnoflmpdeaaDoor.Wk
open Go Go.Cn
open Go.Proofs.YtfjdnnoflmpdeaaDoor.Ri (Rises pre suf at_ Pair)
variable {L : List T_parrelref14_One} {all : List (T_api_Tx × T_stage_prepared)} {own : List (A8 Int × T_api_Tx)}

/-! The calls that lend their argument -/
theorem wm2 (l : List T_api_Write) : msg_WritesMay_2 l = msg_WritesMay l := by
  have key : ∀ fuel i, msg_WritesMay_2_l0 l fuel i = msg_WritesMay_l0 l fuel i := by
    intro fuel
    induction fuel with
    | zero => intro i; rfl
    | succ fuel ih => intro i; simp only [msg_WritesMay_2_l0, msg_WritesMay_l0, ih]
  unfold msg_WritesMay_2 msg_WritesMay
  exact key _ _
theorem may2 (t : T_api_Tx) (g : T_api_Reg) (l : List T_api_Write) : stage_may_2 t g l = stage_may t g l := by
  unfold stage_may_2 stage_may
  rw [wm2]
theorem equal2 (a b : List T_api_Write) : slices_Equal_api_Write_api_Write_2 a b = slices_Equal_api_Write_api_Write a b := by
  have key : ∀ fuel i, slices_Equal_api_Write_api_Write_2_l0 a b fuel i = slices_Equal_api_Write_api_Write_l0 a b fuel i := by
    intro fuel
    induction fuel with
    | zero => intro i; rfl
    | succ fuel ih => intro i; simp only [slices_Equal_api_Write_api_Write_2_l0, slices_Equal_api_Write_api_Write_l0, ih]
  unfold slices_Equal_api_Write_api_Write_2 slices_Equal_api_Write_api_Write
  rw [key]
theorem same2 (a b : List T_api_Write) : parrelref10_SameWrites_2 a b = parrelref10_SameWrites a b := by
  have key : ∀ fuel i, parrelref10_SameWrites_2_l0 a b fuel i = parrelref10_SameWrites_l0 a b fuel i := by
    intro fuel
    induction fuel with
    | zero => intro i; rfl
    | succ fuel ih => intro i; simp only [parrelref10_SameWrites_2_l0, parrelref10_SameWrites_l0, ih]
  unfold parrelref10_SameWrites_2 parrelref10_SameWrites
  rw [key]
theorem clone3 {l : List T_api_Write} (hl : l.length * 48 ≤ 140737488351232) : slices_Clone_api_Write_api_Write_3 l = some l := by
  unfold slices_Clone_api_Write_api_Write_3
  by_cases h : l.length = 0
  · rw [if_pos (by simp [h]), List.length_eq_zero_iff.1 h]
  · rw [if_neg (by rw [beq_iff_eq]; exact h), if_pos (by omega)]
theorem put2 (all : List (T_api_Tx × T_stage_prepared)) (own : List (A8 Int × T_api_Tx)) (t : T_api_Tx) (g : T_api_Reg) {l : List T_api_Write} (hl : l.length * 48 ≤ 140737488351232) : stage_Stage_Put_2 all own t g l = stage_Stage_Put all own t g l := by
  have k1 : ∀ fuel i m, stage_Stage_Put_2_l1 all own t g l l fuel i m = stage_Stage_Put_l1 all own t g l fuel i m := by
    intro fuel
    induction fuel with
    | zero => intro i m; rfl
    | succ fuel ih => intro i m; simp only [stage_Stage_Put_2_l1, stage_Stage_Put_l1, ih]
  have hg : (0 + l.length) * 48 ≤ 140737488351232 := by omega
  have k0 : ∀ fuel i, stage_Stage_Put_2_l0 all own t g l fuel i = stage_Stage_Put_l0 all own t g l fuel i := by
    intro fuel
    induction fuel with
    | zero => intro i; rfl
    | succ fuel ih => intro i; simp only [stage_Stage_Put_2_l0, stage_Stage_Put_l0, ih, clone3 hl, Option.bind_some, k1, hg, if_true]
  unfold stage_Stage_Put_2 stage_Stage_Put
  simp only [may2, equal2, k0]
/-! What is answered -/
abbrev WrO := Bool × (T_api_Reg × Bool) × (T_api_Reg × Bool × List T_api_Write)
theorem clone_o {l : List T_api_Write} (h0 : 0 < l.length) (hl : l.length * 48 ≤ 140737488351232) : slices_Clone_api_Write_api_Write_o l = some l := by
  unfold slices_Clone_api_Write_api_Write_o
  rw [if_pos (by omega), if_pos (by omega)]
theorem writes_any (h : St L all own) (t : T_api_Tx) : ∃ y : WrO, stage_Stage_Writes all own t = some y ∧ y.2.2.2.2.length < 9223372036854775807 := by
  have hok : stage_Stage_ok all own = some () := rfl
  unfold stage_Stage_Writes
  rw [hok, Option.bind_some, h.get t]
  cases ha : at_ cfT kfO L t with
  | none =>
    refine ⟨_, if_pos (by decide), ?_⟩
    exact (show (0 : Nat) < 9223372036854775807 by decide)
  | some o =>
    have how := (h.ok o (Ri.at_mem ha).1).w.len
    simp only [Option.map_some, Option.getD_some, Option.isSome_some]
    by_cases h0 : o.f_Writes.length = 0
    · refine ⟨_, by rw [if_pos (by rw [beq_iff_eq]; exact h0), if_pos (by omega)], ?_⟩
      exact (show (0 : Nat) < 9223372036854775807 by decide)
    · exact ⟨_, by rw [if_neg (by rw [beq_iff_eq]; exact h0), clone_o (by omega) how]; rfl, by show o.f_Writes.length < _; omega⟩
theorem writes_there (h : St L all own) {t : T_api_Tx} {o : T_parrelref14_One} (ha : at_ cfT kfO L t = some o) (h0 : o.f_Writes ≠ []) : stage_Stage_Writes all own t = some (false, default, (o.f_Reg, true, o.f_Writes)) := by
  have hok : stage_Stage_ok all own = some () := rfl
  have how := (h.ok o (Ri.at_mem ha).1).w.len
  have h1 : o.f_Writes.length ≠ 0 := fun e => h0 (List.length_eq_zero_iff.1 e)
  unfold stage_Stage_Writes
  rw [hok, Option.bind_some, h.get t, ha]
  simp only [Option.map_some, Option.getD_some, Option.isSome_some]
  rw [if_neg (by rw [beq_iff_eq]; exact h1), clone_o (by omega) how]; rfl
theorem putC_ok {t : T_api_Tx} {g : T_api_Reg} {l : List T_api_Write} (h' : St (putC L t g l).2 all own) (e : (putC L t g l).1 = 0) : l ≠ [] ∧ ∃ o, at_ cfT kfO (putC L t g l).2 t = some o ∧ o.f_Writes = l := by
  have hne : l ≠ [] := by
    intro h0
    unfold putC at e
    rw [if_pos (by simp [h0])] at e
    exact absurd (show (1 : Int) = 0 from e) (by decide)
  refine ⟨hne, ?_⟩
  have hmem : ∃ o ∈ (putC L t g l).2, o.f_Tx = t ∧ o.f_Writes = l := by
    rcases putC_cases L t g l with h1 | ⟨_, _, h1⟩
    · rw [h1]
      unfold putC at e
      split at e
      · exact absurd (show (1 : Int) = 0 from e) (by decide)
      · rename_i h3
        split at e
        · rename_i o ha
          split at e
          · rename_i hh
            exact ⟨o, (Ri.at_mem ha).1, (Ri.at_mem ha).2.1, hh.2⟩
          · exact absurd (show (7 : Int) = 0 from e) (by decide)
        · rename_i ha
          split at e
          · exact absurd (show (11 : Int) = 0 from e) (by decide)
          · rename_i h4
            split at e
            · exact absurd (show (5 : Int) = 0 from e) (by decide)
            · rename_i h5
              exfalso
              have h2 : (putC L t g l).2 = (pre cfT kfO L t ++ [⟨t, g, l⟩]) ++ suf cfT kfO L t := by
                unfold putC
                rw [if_neg h3, ha]
                simp only [if_neg h4, if_neg h5]
              have h6 := (Ri.ins_perm (cf := cfT) (kf := kfO) L t ⟨t, g, l⟩).length_eq
              rw [← h2, h1, List.length_cons] at h6
              omega
    · rw [h1]
      exact ⟨⟨t, g, l⟩, (Ri.ins_perm (cf := cfT) (kf := kfO) L t ⟨t, g, l⟩).mem_iff.2 List.mem_cons_self, rfl, rfl⟩
  obtain ⟨o, ho, e1, e2⟩ := hmem
  cases ha : at_ cfT kfO (putC L t g l).2 t with
  | none => exact absurd e1 ((Ri.at_none cfT_total h'.al.rises).1 ha o ho)
  | some p =>
    have hp := Ri.at_mem ha
    have : p = o := h'.same hp.1 ho ((hp.2.1 : p.f_Tx = t).trans e1.symm)
    exact ⟨p, rfl, by rw [this]; exact e2⟩
theorem putC_no {t : T_api_Tx} {g : T_api_Reg} {l : List T_api_Write} (e : (putC L t g l).1 ≠ 0) : (putC L t g l).2 = L := by
  rcases putC_cases L t g l with h1 | ⟨h1, _⟩
  · exact h1
  · exact absurd h1 e
/-! Stages that nobody made -/
theorem tk2 (t : T_api_Tx) : stage_Stage_Take_2 t = some () := rfl
theorem wr2 (t : T_api_Tx) : stage_Stage_Writes_2 t = some (T_api_Reg.mk 0 0) := rfl
theorem ow2 (k : A8 Int) : stage_Stage_Owner_2 k = some (T_api_Tx.mk 0 0 0) := rfl
theorem pt3 (t : T_api_Tx) (g : T_api_Reg) (l : List T_api_Write) : stage_Stage_Put_3 t g l = some () := rfl
theorem al2 : stage_Stage_All_2 = some () := rfl
theorem tk3 (t : T_api_Tx) : stage_Stage_Take_3 t = some () := rfl
theorem wr3 (t : T_api_Tx) : stage_Stage_Writes_3 t = some (T_api_Reg.mk 0 0) := rfl
theorem ow3 (k : A8 Int) : stage_Stage_Owner_3 k = some (T_api_Tx.mk 0 0 0) := rfl
theorem pt4 (t : T_api_Tx) (g : T_api_Reg) (l : List T_api_Write) : stage_Stage_Put_4 t g l = some () := rfl
theorem al3 : stage_Stage_All_3 = some () := rfl

def bumpW (w : T_api_Write) : T_api_Write := T_api_Write.mk w.f_Key (T_api_Item.mk (IntKind.wrap .u32 (w.f_Item.f_Version + 1)) w.f_Item.f_Value w.f_Item.f_Conf)
theorem set_walk {e : List T_api_Write → Option Bool} {f : Nat → List T_api_Write → (List T_api_Write → Option Bool) → Option Bool} {r : Option Bool} {n : Nat} {s : List T_api_Write} (hs : s.length = n) (hf : ∀ (i : Nat) (s : List T_api_Write), i < n → s.length = n → ∃ s' : List T_api_Write, s'.length = n ∧ ∀ k : List T_api_Write → Option Bool, f i s k = k s') (he : ∀ s, e s = r) : walkN f e n 0 s = r :=
  Ri.walkN_inv (fun _ s => s.length = n) n (fun i s hi h => hf i s hi h) (fun s _ => he s) s hs
theorem l2_eq {last : T_parrellaw14_Act} {y : WrO} (hy : y.2.2.2.2.length < 9223372036854775807) {p : Int × List (T_api_Tx × T_stage_prepared) × List (A8 Int × T_api_Tx)} :
    parrellaw14_StageRefused_l2 last p y big 0 y.2.2.2.2 = parrellaw14_StageRefused_e2 last p y.2.2.2.2 := by
  rw [parrellaw14_StageRefused_w2 last p y _ hy]
  refine set_walk rfl (fun i s hi hs => ?_) (fun s => rfl)
  refine ⟨s.set i (bumpW (s.getD i default)), by rw [List.length_set]; exact hs, fun k => ?_⟩
  unfold parrellaw14_StageRefused_b2
  rw [if_pos (by omega)]; rfl
theorem l1_eq {last : T_parrellaw14_Act} (hl : last.f_Writes.length < 9223372036854775807) {was : List T_api_Tx} {p : Int × List (T_api_Tx × T_stage_prepared) × List (A8 Int × T_api_Tx)} :
    parrellaw14_StageRefused_l1 last was p big 0 last.f_Writes = parrellaw14_StageRefused_e1 last was p last.f_Writes := by
  rw [parrellaw14_StageRefused_w1 last was p _ hl]
  refine set_walk rfl (fun i s hi hs => ?_) (fun s => rfl)
  refine ⟨s.set i (bumpW (s.getD i default)), by rw [List.length_set]; exact hs, fun k => ?_⟩
  unfold parrellaw14_StageRefused_b1
  rw [if_pos (by omega)]; rfl
theorem e2_no {last : T_parrellaw14_Act} {e : Int} (h : St L all own) (he : e ≠ 0) (s : List T_api_Write) : parrellaw14_StageRefused_e2 last (e, all, own) s = some true := by
  obtain ⟨y, hy, _⟩ := writes_any h last.f_Tx
  have he' : (e == 0) = false := by rw [beq_eq_false_iff_ne]; exact he
  unfold parrellaw14_StageRefused_e2
  simp only [hy, Option.bind_some, he', Bool.false_eq_true, if_false, tk2, wr2, ow2, pt3, al2, tk3, wr3, ow3, pt4, al3, alive_eq, ite_self]
theorem e1_no {last : T_parrellaw14_Act} {e : Int} (h : St L all own) (he : e ≠ 0) (s : List T_api_Write) : parrellaw14_StageRefused_e1 last (L.map kfO) (e, all, own) s = some true := by
  obtain ⟨y, hy, hlen⟩ := writes_any h last.f_Tx
  have he' : (e == 0) = false := by rw [beq_eq_false_iff_ne]; exact he
  have he2 : (e != 0) = true := by rw [bne_iff_ne]; exact he
  have hsame : parrelref05_Same (L.map kfO) (L.map kfO) = some true := sameT_refl (by rw [List.length_map]; exact h.len)
  unfold parrellaw14_StageRefused_e1
  simp only [hy, Option.bind_some, he', he2, Bool.false_eq_true, if_false, if_true, allT_eq h, hsame, Bool.not_true, l2_eq hlen, e2_no h he, tk2, wr2, ow2, pt3, al2, tk3, wr3, ow3, pt4, al3, alive_eq, ite_self]
theorem e1_yes {last : T_parrellaw14_Act} (h : St L all own) {o : T_parrelref14_One} (ha : at_ cfT kfO L last.f_Tx = some o) (hw : o.f_Writes = last.f_Writes) (hne : last.f_Writes ≠ []) (was : List T_api_Tx) (s : List T_api_Write) : parrellaw14_StageRefused_e1 last was (0, all, own) s = some true := by
  have hlen := (h.ok o (Ri.at_mem ha).1).w.len
  have hy := writes_there h ha (by rw [hw]; exact hne)
  rw [hw] at hy hlen
  have hs : parrelref10_SameWrites_2 last.f_Writes last.f_Writes = some true := by rw [same2, sameW_eq (by omega)]; simp
  have hz : ((0 : Int) == 0) = true := rfl
  have hz2 : ((0 : Int) != 0) = false := rfl
  have h2 : parrellaw14_StageRefused_e2 last (0, all, own) last.f_Writes = some true := by
    unfold parrellaw14_StageRefused_e2
    simp only [hy, Option.bind_some, hz, if_true, Bool.false_eq_true, if_false, hs, Bool.not_true, tk2, wr2, ow2, pt3, al2, tk3, wr3, ow3, pt4, al3, alive_eq]
  have hl2 := l2_eq (last := last) (y := (false, default, (o.f_Reg, true, last.f_Writes))) (p := (0, all, own)) (by show last.f_Writes.length < _; omega)
  unfold parrellaw14_StageRefused_e1
  simp only [hy, Option.bind_some, hz, hz2, if_true, Bool.false_eq_true, if_false, hs, Bool.not_true]
  exact hl2.trans h2
theorem e0_eq {last : T_parrellaw14_Act} (hw : WfA last) (h : St L all own) : parrellaw14_StageRefused_e0 last (all, own) = some true := by
  have hl := hw.w.len
  unfold parrellaw14_StageRefused_e0
  obtain ⟨all', own', h1, h2⟩ := put_eq h hw.t hw.g hw.w
  simp only [allT_eq h, Option.bind_some, put2 all own last.f_Tx last.f_Reg hl, h1]
  rw [if_pos (by omega), l1_eq (by omega)]
  by_cases e : (putC L last.f_Tx last.f_Reg last.f_Writes).1 = 0
  · obtain ⟨hne, o, ha, ho⟩ := putC_ok h2 e
    rw [e]
    exact e1_yes h2 ha ho hne _ _
  · have hL := putC_no e
    rw [hL] at h2
    exact e1_no h2 e _
theorem refused_eq {script : List T_parrellaw14_Act} {last : T_parrellaw14_Act} (hs : WfL script) (hw : WfA last) : parrellaw14_StageRefused script last = some true := by
  obtain ⟨b, hb⟩ := far_eq script hs
  obtain ⟨c, hc⟩ := far_eq [last] (fun a ha => by rw [List.mem_singleton] at ha; subst ha; exact hw)
  have hn : stage_New = some ([], []) := rfl
  unfold parrellaw14_StageRefused
  rw [hn, Option.bind_some, hb, Option.bind_some]
  cases b with
  | true => exact alive_tail
  | false =>
    rw [if_neg Bool.false_ne_true, hc, Option.bind_some]
    cases c with
    | true => exact alive_tail
    | false =>
      rw [if_neg Bool.false_ne_true, short_eq, Option.bind_some]
      have hl := short_len script
      have hws := hs.take (min script.length 100)
      generalize script.take (min script.length 100) = y at hl hws
      rw [parrellaw14_StageRefused_w0 last y _ _ (by omega)]
      refine Ri.walkN_inv (fun _ s => ∃ L, St L s.1 s.2) y.length (fun i s hi h => ?_) (fun s h => ?_) ([], []) ⟨[], St.nil⟩
      · obtain ⟨L, h⟩ := h
        have ha := hws _ (getD_mem hi)
        have hal := ha.w.len
        obtain ⟨all', own', h1, h2⟩ := put_eq h ha.t ha.g ha.w
        refine ⟨(all', own'), ⟨_, h2⟩, fun k => ?_⟩
        unfold parrellaw14_StageRefused_b0
        rw [if_pos (by omega), put2 _ _ _ _ hal, h1, Option.bind_some]
      · obtain ⟨L, h⟩ := h
        exact e0_eq hw h
/-! The bounds -/
theorem wfV_of {c : T_api_Config} (h : wfL (c_T_api_Config c)) : WfV c := by
  have m : ∀ {x}, x ∈ c_T_api_Config c → wfC x := fun hx => h _ hx
  refine ⟨wf_u32 (m (x := .int .u32 c.f_Epoch) (by simp [c_T_api_Config])), wf_u8 (m (x := .int .u8 c.f_R) (by simp [c_T_api_Config])), wf_u8 (m (x := .int .u8 c.f_W) (by simp [c_T_api_Config])), fun i hi => wf_u8 (m (x := .int .u8 (A8.get c.f_Votes i)) ?_)⟩
  rcases (by omega : i = 0 ∨ i = 1 ∨ i = 2 ∨ i = 3 ∨ i = 4 ∨ i = 5 ∨ i = 6 ∨ i = 7) with rfl | rfl | rfl | rfl | rfl | rfl | rfl | rfl <;> simp [c_T_api_Config, A8.get]
theorem wfI_of {i : T_api_Item} (h : wfL (c_T_api_Item i)) : WfI i :=
  ⟨wf_u32 (h (.int .u32 i.f_Version) List.mem_cons_self), wfV_of (fun x hx => h x (List.mem_cons_of_mem _ (List.mem_cons_of_mem _ hx)))⟩
theorem wfW_of {w : T_api_Write} (h : wfL (c_T_api_Write w)) : WfW w := by
  have e : c_T_api_Write w = kc w.f_Key ++ c_T_api_Item w.f_Item := rfl
  rw [e] at h
  exact ⟨wfK_of _ fun x hx => h x (List.mem_append_left _ hx), wfI_of fun x hx => h x (List.mem_append_right _ hx)⟩
def wsAct (s : T_parrellaw14_Act) : Prop := (wfL ((fun z_ : Bool => [LV.bool z_]) s.f_Take)) ∧ (wfL (c_T_api_Tx s.f_Tx)) ∧ (wfL (c_T_api_Reg s.f_Reg)) ∧ ((∀ a ∈ s.f_Writes, (wfL (c_T_api_Write a))) ∧ s.f_Writes.length * 48 ≤ 140737488351232) ∧ True
theorem wfA_of {a : T_parrellaw14_Act} (h : wsAct a) : WfA a := by
  obtain ⟨_, h2, h3, h4, _⟩ := h
  refine ⟨⟨wf_u8 (h2 (.int .u8 a.f_Tx.f_Node) (by simp [c_T_api_Tx])), wf_u32 (h2 (.int .u32 a.f_Tx.f_Boot) (by simp [c_T_api_Tx])), wf_u32 (h2 (.int .u32 a.f_Tx.f_Num) (by simp [c_T_api_Tx]))⟩,
    ⟨wf_u32 (h3 (.int .u32 a.f_Reg.f_Boot) (by simp [c_T_api_Reg])), wf_u32 (h3 (.int .u32 a.f_Reg.f_N) (by simp [c_T_api_Reg]))⟩, ⟨fun x hx => wfW_of (h4.1 x hx), h4.2⟩⟩
theorem refused_law (script : List T_parrellaw14_Act) (last : T_parrellaw14_Act) (h : (∀ a ∈ script, wsAct a) ∧ script.length * 48 ≤ 140737488351232) (h1 : wsAct last) : parrellaw14_StageRefused script last = some true := refused_eq (fun a ha => wfA_of (h.1 a ha)) (wfA_of h1)
end Go.Proofs.YtfjdnnoflmpdeaaDoor.Wk
