/- Plain facts: a stage's other calls; the document's stage. -/
import Derived.Test.YtfjdnnoflmpdeaaDoorStageP
set_option linter.unusedVariables false
set_option linter.unusedSimpArgs false
set_option linter.unusedSectionVars false
namespace Go.Proofs.YtfjdnnoflmpdeaaDoor.Wk
open Go Go.Cn
open Go.Proofs.YtfjdnnoflmpdeaaDoor.Ri (Rises pre suf at_ Pair)
variable {L : List T_parrelref14_One} {all : List (T_api_Tx × T_stage_prepared)} {own : List (A8 Int × T_api_Tx)}

/-- Taken. -/
noncomputable def takeC (L : List T_parrelref14_One) (t : T_api_Tx) : List T_api_Write × Int × List T_parrelref14_One :=
  match at_ cfT kfO L t with
  | none => ([], 6, L)
  | some o => (o.f_Writes, 0, pre cfT kfO L t ++ (suf cfT kfO L t).drop 1)
theorem walkN_list {α S R : Type} [Inhabited α] (l : List α) (f : Nat → S → (S → Option R) → Option R) (g : S → α → S) (e : S → Option R) (hf : ∀ i s k, i < l.length → f i s k = k (g s (l.getD i default))) (s : S) : walkN f e l.length 0 s = e (l.foldl g s) := by
  rw [walkN_L l f (fun a s k => k (g s a)) e hf, walkL_fold]
theorem take_eq (h : St L all own) (t : T_api_Tx) :
    ∃ all' own', stage_Stage_Take all own t = some ((takeC L t).1, (takeC L t).2.1, all', own') ∧ St (takeC L t).2.2 all' own' := by
  have hok : stage_Stage_ok all own = some () := rfl
  unfold stage_Stage_Take
  rw [hok, Option.bind_some, h.get t]
  unfold takeC
  cases ha : at_ cfT kfO L t with
  | none => exact ⟨all, own, rfl, h⟩
  | some o =>
    obtain ⟨ho, hkey, _⟩ := Ri.at_mem ha
    have hkey' : o.f_Tx = t := hkey
    have how := (h.ok o ho).w.len
    have hg : mget all t = some ⟨o.f_Reg, o.f_Writes⟩ := by rw [h.get t, ha]; rfl
    simp only [Option.map_some, Option.isSome_some, Bool.not_true, Bool.false_eq_true, if_false]
    rw [stage_Stage_Take_w0 all own t own (by rw [hg]; show o.f_Writes.length < _; omega)]
    have e : ∀ i s k, i < o.f_Writes.length → stage_Stage_Take_b0 all t i s k = k (mdel s (o.f_Writes.getD i default).f_Key) := fun i s k _ => by
      unfold stage_Stage_Take_b0; rw [hg]; rfl
    have e2 : (((mget all t).getD default).f_writes) = o.f_Writes := by rw [hg]; rfl
    rw [e2, walkN_list o.f_Writes (stage_Stage_Take_b0 all t) (fun m w => mdel m w.f_Key) _ e]
    have hp := Ri.del_perm ha
    obtain ⟨d1, d2⟩ := folddel o.f_Writes h.nd
    refine ⟨mdel all t, _, by unfold stage_Stage_Take_e0; rw [hg]; rfl, h.al.del cfT_total ha, fun x hx => h.ok x (hp.mem_iff.2 (List.mem_cons_of_mem _ hx)), ?_, d1, fun k u => ?_⟩
    · have := hp.length_eq; rw [List.length_cons] at this; have := h.len; omega
    · rw [d2]
      have hnd : (L.map (fun x => x.f_Tx)).Nodup := by
        rw [List.Nodup, List.pairwise_map]
        refine h.al.rises.imp ?_
        intro x y hxy e
        have hxy' : cfT x.f_Tx y.f_Tx < 0 := hxy
        rw [e] at hxy'
        exact Ri.lt_irr cfT_total _ hxy'
      have hne : ∀ x ∈ pre cfT kfO L t ++ (suf cfT kfO L t).drop 1, x.f_Tx ≠ t := by
        intro x hx e
        have h1 := (hp.map (fun x => x.f_Tx)).nodup_iff.1 hnd
        rw [List.map_cons, List.nodup_cons] at h1
        exact h1.1 (List.mem_map.2 ⟨x, hx, by rw [hkey', e]⟩)
      by_cases hk : ∃ w ∈ o.f_Writes, w.f_Key = k
      · rw [if_pos hk]
        constructor
        · intro e; cases e
        · rintro ⟨x, hx, _, hxk⟩
          have := h.uniq (hp.mem_iff.2 (List.mem_cons_of_mem _ hx)) ho hxk hk
          exact absurd (this.trans hkey') (hne x hx)
      · rw [if_neg hk, h.own]
        constructor
        · rintro ⟨x, hx, e, hxk⟩
          rcases List.mem_cons.1 (hp.mem_iff.1 hx) with rfl | hx
          · exact absurd hxk hk
          · exact ⟨x, hx, e, hxk⟩
        · rintro ⟨x, hx, e, hxk⟩
          exact ⟨x, hp.mem_iff.2 (List.mem_cons_of_mem _ hx), e, hxk⟩
/-- What is there of a transaction. -/
noncomputable def wrC (L : List T_parrelref14_One) (t : T_api_Tx) : List T_api_Write × T_api_Reg × Bool :=
  match at_ cfT kfO L t with
  | none => ([], default, false)
  | some o => (o.f_Writes, o.f_Reg, true)
theorem writes_eq (h : St L all own) (t : T_api_Tx) : stage_Stage_Writes all own t = some (wrC L t) := by
  have hok : stage_Stage_ok all own = some () := rfl
  unfold stage_Stage_Writes
  rw [hok, Option.bind_some, h.get t]
  unfold wrC
  cases ha : at_ cfT kfO L t with
  | none => exact if_pos (by decide)
  | some o =>
    have how := (h.ok o (Ri.at_mem ha).1).w.len
    exact if_pos (by show (0 + o.f_Writes.length) * 48 ≤ _; omega)
theorem allT_eq (h : St L all own) : stage_Stage_All all own = some (L.map kfO) := by
  have hl := h.len
  have hml : (all.map (·.1)).length = L.length := by rw [List.length_map]; exact h.al.len
  have h1 : stage_Stage_ok all own = some () := rfl
  have h2 : maps_Keys_map_api_Tx_stage_prepared_api_Tx_stage_prepared all = some () := rfl
  unfold stage_Stage_All
  rw [h1, Option.bind_some, h2, Option.bind_some, sortO_eq cfT_total txs_eq (by show _ ≤ maxLen; unfold maxLen; omega) (by omega), Option.bind_some, h.al.sorted cfT_total]
theorem owner_eq (h : St L all own) (k : A8 Int) : stage_Stage_Owner all own k = some ((ow L k).getD default, (ow L k).isSome) := by
  have hok : stage_Stage_ok all own = some () := rfl
  unfold stage_Stage_Owner
  rw [hok, Option.bind_some, h.owner k]

/-! The document's stage -/
theorem find_eq (h : St L all own) (t : T_api_Tx) : parrelref14_Stage_find ⟨L⟩ t = some (if (at_ cfT kfO L t).isSome then ((pre cfT kfO L t).length : Int) else -1) := by
  have hl := h.len
  unfold parrelref14_Stage_find
  rw [parrelref14_Stage_find_w0 ⟨L⟩ t (by show L.length < _; omega)]
  refine Ri.find_walk cfT_total h.al.rises _ _ (fun i kk hi => ?_) rfl
  unfold parrelref14_Stage_find_b0
  show (if decide ((L.getD i default).f_Tx = t) = true then _ else _) = if (L.getD i default).f_Tx = t then _ else _
  by_cases hc : (L.getD i default).f_Tx = t
  · rw [if_pos (by simpa using hc), if_pos hc]
  · rw [if_neg (by simpa using hc), if_neg hc]
theorem refTake_eq (h : St L all own) (t : T_api_Tx) : parrelref14_Stage_Take ⟨L⟩ t = some (takeC L t) := by
  have hl := h.len
  unfold parrelref14_Stage_Take takeC
  rw [find_eq h, Option.bind_some]
  have hple := Ri.pre_le (cf := cfT) (kf := kfO) L t
  have htk := Ri.take_pre (cf := cfT) (kf := kfO) L t
  have hdr : L.drop ((pre cfT kfO L t).length + 1) = (suf cfT kfO L t).drop 1 := Ri.drop_pre (cf := cfT) (kf := kfO) L t 1
  have hsl := congrArg List.length (Ri.pre_suf (cf := cfT) (kf := kfO) L t)
  rw [List.length_append] at hsl
  cases ha : at_ cfT kfO L t with
  | none => rfl
  | some o =>
    obtain ⟨hlt, hget⟩ := Ri.getD_pre ha
    have hw : IntKind.wrap .i64 (((pre cfT kfO L t).length : Int) + 1) = (((pre cfT kfO L t).length + 1 : Nat) : Int) := by rw [w64 (by omega) (by omega)]; rfl
    simp only [Option.isSome_some, if_true]
    rw [if_neg (by simp), if_pos (by omega), hw]
    simp only [Int.toNat_natCast, htk, hdr, hget, List.length_drop]
    rw [if_pos (by omega), if_pos (by omega), if_pos (by omega), if_pos (by omega)]
theorem refWrites_eq (h : St L all own) (t : T_api_Tx) : parrelref14_Stage_Writes ⟨L⟩ t = some (wrC L t) := by
  have hl := h.len
  unfold parrelref14_Stage_Writes wrC
  rw [find_eq h, Option.bind_some]
  cases ha : at_ cfT kfO L t with
  | none => rfl
  | some o =>
    obtain ⟨hlt, hget⟩ := Ri.getD_pre ha
    simp only [Option.isSome_some, if_true]
    rw [if_neg (by simp), if_pos (by omega)]
    simp only [Int.toNat_natCast, hget]
theorem refAll_eq (h : St L all own) : parrelref14_Stage_All ⟨L⟩ = some (L.map kfO) := by
  have hl := h.len
  unfold parrelref14_Stage_All
  rw [parrelref14_Stage_All_w0 ⟨L⟩ [] (by show L.length < _; omega)]
  have : ∀ (l : List T_parrelref14_One) (acc : List T_api_Tx), acc.length + l.length ≤ 64 → walkL parrelref14_Stage_All_b0 parrelref14_Stage_All_e0 l acc = some (acc ++ l.map kfO) := by
    intro l
    induction l with
    | nil => intro acc _; rw [List.map_nil, List.append_nil]; rfl
    | cons o l ih =>
      intro acc hacc
      rw [List.length_cons] at hacc
      have hb : ∀ k, parrelref14_Stage_All_b0 o acc k = k (acc ++ [o.f_Tx]) := fun k => by
        unfold parrelref14_Stage_All_b0
        exact if_pos (by rw [List.length_singleton]; omega)
      rw [walkL, hb, ih _ (by rw [List.length_append, List.length_singleton]; omega), List.append_assoc]; rfl
  have := this L [] (by simpa using hl)
  rwa [List.nil_append] at this
theorem refOwner_eq (h : St L all own) (k : A8 Int) : parrelref14_Stage_Owner ⟨L⟩ k = some ((ow L k).getD default, (ow L k).isSome) := by
  have hl := h.len
  unfold parrelref14_Stage_Owner
  rw [parrelref14_Stage_Owner_w0 ⟨L⟩ k (by show L.length < _; omega)]
  have key : ∀ (m : List T_parrelref14_One) (i : Nat), L.drop i = m → i + m.length = L.length → walkN (parrelref14_Stage_Owner_b0 ⟨L⟩ k) parrelref14_Stage_Owner_e0 m.length i () = some ((ow m k).getD default, (ow m k).isSome) := by
    intro m
    induction m with
    | nil => intro i _ _; rfl
    | cons o m ih =>
      intro i hd hi
      have hlt : i < L.length := by simp at hi; omega
      have h1 := Ri.getD_drop L i default hlt
      rw [hd] at h1
      have ha := (List.cons.inj h1).1.symm
      have hd2 := (List.cons.inj h1).2.symm
      have how := (h.ok o (by rw [← ha]; exact getD_mem hlt)).w.len
      have hgo : (L.getD (i : Int).toNat default) = o := by rw [Int.toNat_natCast]; exact ha
      have hb : ∀ kk : Unit → Option (T_api_Tx × Bool), parrelref14_Stage_Owner_b0 ⟨L⟩ k i () kk = if (o.f_Writes.any fun w => decide (w.f_Key = k)) = true then some (o.f_Tx, true) else kk () := fun kk => by
        unfold parrelref14_Stage_Owner_b0
        rw [parrelref14_Stage_Owner_w1 ⟨L⟩ k (i : Int) _ (by show (L.getD (i : Int).toNat default).f_Writes.length < _; rw [hgo]; omega) (by show 0 ≤ (i : Int) ∧ (i : Int) < ((L.length : Nat) : Int); omega)]
        show walkL _ _ (L.getD (i : Int).toNat default).f_Writes () = _
        rw [hgo, walkL_any (fun w => decide (w.f_Key = k)) (some (o.f_Tx, true)) _ _ o.f_Writes (fun a _ kk => by
          unfold parrelref14_Stage_Owner_b1
          show (if decide (a.f_Key = k) = true then some ((L.getD (i : Int).toNat default).f_Tx, true) else kk ()) = _
          rw [hgo])]
        rfl
      rw [List.length_cons, walkN, hb, ih (i + 1) hd2 (by simp at hi; omega)]
      unfold ow
      rw [List.find?_cons]
      cases hany : (o.f_Writes.any fun w => decide (w.f_Key = k)) with
      | true => rfl
      | false => rfl
  exact key L 0 rfl (by simp)
theorem refPut_eq (h : St L all own) {t : T_api_Tx} {g : T_api_Reg} {l : List T_api_Write} (ht : WfT t) (hg : WfR g) (hl : WfWs l) : parrelref14_Stage_Put ⟨L⟩ t g l = some (putC L t g l) := by
  have hlen := h.len
  have hl1 := hl.len
  unfold parrelref14_Stage_Put
  rw [(txMay_eq ht).2, (regMay_eq hg).2, refWritesMay_eq hl, find_eq h]
  simp only [Option.bind_some]
  unfold putC
  cases hT : mayT t with
  | false => simp
  | true =>
    cases hR : mayR g with
    | false => simp
    | true =>
      by_cases hne : l = []
      · subst hne; simp
      · have hz : ((l.length : Int) == 0) = false := by rw [beq_eq_false_iff_ne]; intro e; exact hne (List.eq_nil_of_length_eq_zero (by omega))
        have hd : decide (l ≠ []) = true := by simpa using hne
        rw [hz, hd]
        cases hW : mayW l with
        | false => simp
        | true =>
          simp only [Bool.not_true, Bool.false_eq_true, if_false, Bool.and_self, Bool.true_eq_false]
          have hple := Ri.pre_le (cf := cfT) (kf := kfO) L t
          cases ha : at_ cfT kfO L t with
          | some o =>
            obtain ⟨hlt, hget⟩ := Ri.getD_pre ha
            have how := (h.ok o (Ri.at_mem ha).1).w.len
            simp only [Option.isSome_some, if_true, Int.toNat_natCast, hget]
            rw [if_pos (by simp), if_pos (by omega), sameW_eq (by omega)]
            by_cases h1 : o.f_Reg = g
            · rw [if_pos (by simpa using h1), Option.bind_some]
              by_cases h2 : o.f_Writes = l
              · rw [if_pos (by simpa using h2), if_pos ⟨h1, h2⟩]
              · rw [if_neg (by simpa using h2), if_neg (fun hh => h2 hh.2)]
            · rw [if_neg (by simpa using h1), if_neg (fun hh => h1 hh.1)]
          | none =>
            simp only [Option.isSome_none, Bool.false_eq_true, if_false]
            rw [if_neg (by decide), parrelref14_Stage_Put_w0 ⟨L⟩ t g l (by omega), walkL_any (fun w => (ow L w.f_Key).isSome) (some (11, L)) _ _ l (fun a _ k => by
              unfold parrelref14_Stage_Put_b0
              rw [refOwner_eq h, Option.bind_some])]
            cases hany : (l.any fun w => (ow L w.f_Key).isSome) with
            | true => rfl
            | false =>
              simp only [Bool.false_eq_true, if_false]
              unfold parrelref14_Stage_Put_e0
              by_cases h64 : 64 ≤ L.length
              · rw [if_pos (by simp; omega), if_pos h64]
              · rw [if_neg (by simp; omega), if_neg h64, parrelref14_Stage_Put_w1 ⟨L⟩ t g l (by show L.length < _; omega)]
                have hsl := congrArg List.length (Ri.pre_suf (cf := cfT) (kf := kfO) L t)
                rw [List.length_append] at hsl
                have key : ∀ (m : List T_parrelref14_One) (i : Nat), L.drop i = m → i + m.length = L.length → walkN (parrelref14_Stage_Put_b1 ⟨L⟩ t g l) (parrelref14_Stage_Put_e1 ⟨L⟩ t g l) m.length i () = some (0, (L.take (i + (pre cfT kfO m t).length) ++ [⟨t, g, l⟩]) ++ L.drop (i + (pre cfT kfO m t).length)) := by
                  intro m
                  induction m with
                  | nil =>
                    intro i _ hi
                    have : i = L.length := by simpa using hi
                    subst this
                    show parrelref14_Stage_Put_e1 ⟨L⟩ t g l () = _
                    unfold parrelref14_Stage_Put_e1
                    simp only [Int.toNat_natCast, List.take_length, List.drop_length, List.length_append, List.length_singleton, List.length_nil]
                    rw [if_pos (by omega), if_pos (by omega), if_pos (by omega), if_pos (by omega), if_pos (by omega), if_pos (by omega)]
                    have e : (pre cfT kfO ([] : List T_parrelref14_One) t).length = 0 := rfl
                    rw [e, Nat.add_zero, List.take_length, List.drop_length]
                  | cons o m ih =>
                    intro i hd hi
                    have hlt : i < L.length := by simp at hi; omega
                    have h1 := Ri.getD_drop L i default hlt
                    rw [hd] at h1
                    have hao := (List.cons.inj h1).1.symm
                    have hd2 := (List.cons.inj h1).2.symm
                    have hoB := (h.ok o (by rw [← hao]; exact getD_mem hlt)).t.n
                    have htl : (L.take i).length = i := by rw [List.length_take]; omega
                    have hdl : (L.drop i).length = L.length - i := List.length_drop
                    have hb : ∀ kk : Unit → Option (Int × List T_parrelref14_One), parrelref14_Stage_Put_b1 ⟨L⟩ t g l i () kk = if cfT o.f_Tx t < 0 then kk () else some (0, (L.take i ++ [⟨t, g, l⟩]) ++ L.drop i) := fun kk => by
                      unfold parrelref14_Stage_Put_b1
                      simp only [hao]
                      rw [rtxs_eq _ _ hoB ht.n, Option.bind_some]
                      by_cases hc : cfT o.f_Tx t < 0
                      · rw [if_pos (by simpa using hc), if_pos hc]
                      · rw [if_neg (by simpa using hc), if_neg hc]
                        simp only [List.length_append, List.length_singleton, htl, hdl]
                        rw [if_pos (by omega), if_pos (by omega), if_pos (by omega), if_pos (by omega), if_pos (by omega), if_pos (by omega)]
                    rw [List.length_cons, walkN, hb]
                    by_cases hc : cfT o.f_Tx t < 0
                    · obtain ⟨e1, _, _⟩ := Ri.at_cons_lt (kf := kfO) (a := o) (m := m) (k := t) cfT_total hc
                      have ih' := ih (i + 1) hd2 (by simp at hi; omega)
                      rw [if_pos hc, e1, List.length_cons]
                      rw [show i + ((pre cfT kfO m t).length + 1) = i + 1 + (pre cfT kfO m t).length by omega]
                      exact ih'
                    · have e1 : pre cfT kfO (o :: m) t = [] := by
                        have hc' : ¬ cfT (kfO o) t < 0 := hc
                        simp [pre, List.takeWhile_cons, hc']
                      rw [if_neg hc, e1]; rfl
                have hk := key L 0 rfl (by simp)
                rw [Nat.zero_add, Ri.take_pre, show L.drop (pre cfT kfO L t).length = suf cfT kfO L t by simpa using Ri.drop_pre (cf := cfT) (kf := kfO) L t 0] at hk
                exact hk
end Go.Proofs.YtfjdnnoflmpdeaaDoor.Wk
