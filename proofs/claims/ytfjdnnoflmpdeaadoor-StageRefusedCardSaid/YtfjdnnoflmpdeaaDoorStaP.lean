/- Plain facts: a stage answers as the list that rises does. -/
import Derived.Test.YtfjdnnoflmpdeaaDoorStaT
set_option linter.unusedVariables false
set_option linter.unusedSimpArgs false
set_option linter.unusedSectionVars false
namespace Go.Proofs.YtfjdnnoflmpdeaaDoor.Wk
open Go Go.Cn
open Go.Proofs.YtfjdnnoflmpdeaaDoor.Ri (Rises pre suf at_ Pair)

/-- What is there of a transaction. -/
structure T_parrelref14_One where
  f_Tx : T_api_Tx
  f_Reg : T_api_Reg
  f_Writes : List T_api_Write
  deriving DecidableEq, Inhabited
def prO (o : T_parrelref14_One) : T_api_Tx × T_stage_prepared := (o.f_Tx, ⟨o.f_Reg, o.f_Writes⟩)
abbrev kfO (o : T_parrelref14_One) : T_api_Tx := (prO o).1
abbrev kW (w : T_api_Write) : A8 Int := w.f_Key
structure WfT (t : T_api_Tx) : Prop where
  n : TxB t
  b : 0 ≤ t.f_Boot ∧ t.f_Boot < 4294967296
  m : 0 ≤ t.f_Num ∧ t.f_Num < 4294967296
structure WfR (g : T_api_Reg) : Prop where
  b : 0 ≤ g.f_Boot ∧ g.f_Boot < 4294967296
  n : 0 ≤ g.f_N ∧ g.f_N < 4294967296
structure WfWs (l : List T_api_Write) : Prop where
  w : ∀ x ∈ l, WfW x
  len : l.length * 48 ≤ 140737488351232
def cnt (n : Int) : Bool := decide (1 ≤ n ∧ n ≤ 2147483647)
theorem isCount_eq {n : Int} (h : 0 ≤ n ∧ n < 4294967296) : ids_isCount n = some (cnt n) := by
  unfold ids_isCount cnt
  congr 1
  by_cases h0 : n = 0
  · rw [h0]; decide
  · rw [wu32 (by omega) (by omega), Bool.eq_iff_iff, decide_eq_true_eq, decide_eq_true_eq]; omega
theorem rcount_eq (n : Int) : parrelref05_count n = some (cnt n) := by
  unfold parrelref05_count cnt
  by_cases h : 1 ≤ n
  · rw [if_pos (by simpa using h)]; simp [h]
  · rw [if_neg (by simpa using h)]; simp [h]
def mayT (t : T_api_Tx) : Bool := decide (t.f_Node < 8) && (cnt t.f_Boot && cnt t.f_Num)
def mayR (g : T_api_Reg) : Bool := cnt g.f_Boot && cnt g.f_N
theorem txMay_eq {t : T_api_Tx} (h : WfT t) : ids_TxMay t = some (mayT t) ∧ parrelref05_TxMay t = some (mayT t) := by
  unfold ids_TxMay parrelref05_TxMay mayT
  rw [isCount_eq h.b, isCount_eq h.m, rcount_eq, rcount_eq]
  cases decide (t.f_Node < 8) <;> cases cnt t.f_Boot <;> exact ⟨rfl, rfl⟩
theorem regMay_eq {g : T_api_Reg} (h : WfR g) : ids_RegMay g = some (mayR g) ∧ parrelref05_RegMay g = some (mayR g) := by
  unfold ids_RegMay parrelref05_RegMay mayR
  rw [isCount_eq h.b, isCount_eq h.n, rcount_eq, rcount_eq]
  cases cnt g.f_Boot <;> exact ⟨rfl, rfl⟩

/-! Writes that may be -/
noncomputable def wGo : Option (A8 Int) → List T_api_Write → Bool
  | _, [] => true
  | p, w :: r => mayK w.f_Key && (mayI w.f_Item && ((match p with | none => true | some q => decide (cfK q w.f_Key < 0)) && wGo (some w.f_Key) r))
noncomputable def mayW (l : List T_api_Write) : Bool := wGo none l && decide (l.length ≤ 16)
theorem wGo_rises : ∀ (l : List T_api_Write) (p : Option (A8 Int)), wGo p l = true → Rises cfK kW l ∧ ∀ q, p = some q → ∀ w ∈ l, cfK q w.f_Key < 0
  | [], _, _ => ⟨List.Pairwise.nil, fun _ _ _ h => nomatch h⟩
  | w :: r, p, h => by
    simp only [wGo, Bool.and_eq_true] at h
    obtain ⟨h1, h2⟩ := wGo_rises r _ h.2.2.2
    have hw : ∀ x ∈ r, cfK w.f_Key x.f_Key < 0 := fun x hx => h2 _ rfl x hx
    refine ⟨List.pairwise_cons.2 ⟨fun x hx => hw x hx, h1⟩, fun q hq x hx => ?_⟩
    subst hq
    have hqw : cfK q w.f_Key < 0 := by simpa using h.2.2.1
    rcases List.mem_cons.1 hx with rfl | hx
    · exact hqw
    · exact Ri.lt_tr cfK_total hqw (hw x hx)
theorem mayW_rises {l : List T_api_Write} (h : mayW l = true) : Rises cfK kW l ∧ l.length ≤ 16 := by
  simp only [mayW, Bool.and_eq_true, decide_eq_true_eq] at h
  exact ⟨(wGo_rises l none h.1).1, h.2⟩
theorem mayW_walk {l : List T_api_Write} (hl : l.length < 9223372036854775807) (f : Nat → Unit → (Unit → Option Bool) → Option Bool) (e : Unit → Option Bool)
    (hf : ∀ i k, i < l.length → f i () k = if mayK (l.getD i default).f_Key = false then some false else if mayI (l.getD i default).f_Item = false then some false else
      if 0 < i then (if 0 ≤ cfK (l.getD (i - 1) default).f_Key (l.getD i default).f_Key then some false else k ()) else k ())
    (he : e () = some (decide (l.length ≤ 16))) : walkN f e l.length 0 () = some (mayW l) := by
  have key : ∀ (m : List T_api_Write) (i : Nat), l.drop i = m → i + m.length = l.length → walkN f e m.length i () = some (wGo (if i = 0 then none else some (l.getD (i - 1) default).f_Key) m && decide (l.length ≤ 16)) := by
    intro m
    induction m with
    | nil => intro i _ _; show e () = _; rw [he]; simp [wGo]
    | cons w m ih =>
      intro i hd hi
      have hlt : i < l.length := by simp at hi; omega
      have h1 := Ri.getD_drop l i default hlt
      rw [hd] at h1
      have ha := (List.cons.inj h1).1.symm
      have hd2 := (List.cons.inj h1).2.symm
      have ih' := ih (i + 1) hd2 (by simp at hi; omega)
      rw [if_neg (Nat.succ_ne_zero i), Nat.add_sub_cancel, ha] at ih'
      rw [List.length_cons, walkN, hf i _ hlt, ih', ha]
      simp only [wGo]
      cases mayK w.f_Key with
      | false => simp
      | true =>
        cases mayI w.f_Item with
        | false => simp
        | true =>
          by_cases h0 : i = 0
          · subst h0; simp
          · rw [if_neg (by simp), if_neg (by simp), if_pos (by omega), if_neg h0]
            dsimp only
            generalize cfK (l.getD (i - 1) default).f_Key w.f_Key = z
            by_cases hc : 0 ≤ z
            · have hz : decide (z < 0) = false := decide_eq_false (by omega)
              rw [if_pos hc, hz]; simp
            · have hz : decide (z < 0) = true := decide_eq_true (by omega)
              rw [if_neg hc, hz]; simp
  have := key l 0 rfl (by simp)
  exact this
theorem keyMayM_eq {k : A8 Int} (hk : wfK k) : msg_keyMay k = some (mayK k) := by
  obtain ⟨s, h1, _⟩ := mayK_eq k hk
  unfold msg_keyMay
  rw [h1]; rfl
theorem dec1 {i : Nat} {n : Nat} (h0 : 0 < i) (h : i < n) (hn : n < 9223372036854775807) : IntKind.wrap .i64 ((i : Int) - 1) = ((i - 1 : Nat) : Int) := by
  rw [w64 (by omega) (by omega)]; omega
theorem writesMay_eq {l : List T_api_Write} (h : WfWs l) : msg_WritesMay l = some (mayW l) := by
  have hl := h.len
  unfold msg_WritesMay
  rw [msg_WritesMay_w0 l (by omega)]
  refine mayW_walk (by omega) _ _ (fun i k hi => ?_) (by unfold msg_WritesMay_e0; congr 1; rw [Bool.eq_iff_iff, decide_eq_true_eq, decide_eq_true_eq]; omega)
  have hw := h.w _ (getD_mem hi)
  unfold msg_WritesMay_b0
  rw [keyMayM_eq hw.k, itemMay_eq hw.i]
  simp only [Option.bind_some]
  cases mayK (l.getD i default).f_Key with
  | false => rfl
  | true =>
    cases mayI (l.getD i default).f_Item with
    | false => rfl
    | true =>
      by_cases h0 : 0 < i
      · have hw2 := h.w _ (getD_mem (l := l) (i := i - 1) (by omega))
        have h0' : decide (0 < (i : Int)) = true := by simp; omega
        rw [dec1 h0 hi (by omega), Int.toNat_natCast, key_total, h0']
        simp only [Bool.not_true, Bool.false_eq_true, if_false, Bool.true_eq_false, if_true, Option.bind_some, h0, decide_eq_true_eq]
        rw [if_pos (by omega)]
      · have h0' : decide (0 < (i : Int)) = false := by simp; omega
        rw [h0', if_neg h0]; rfl
theorem refWritesMay_eq {l : List T_api_Write} (h : WfWs l) : parrelref10_WritesMay l = some (mayW l) := by
  have hl := h.len
  unfold parrelref10_WritesMay
  rw [parrelref10_WritesMay_w0 l (by omega)]
  refine mayW_walk (by omega) _ _ (fun i k hi => ?_) (by unfold parrelref10_WritesMay_e0; congr 1; rw [Bool.eq_iff_iff, decide_eq_true_eq, decide_eq_true_eq]; omega)
  have hw := h.w _ (getD_mem hi)
  unfold parrelref10_WritesMay_b0
  rw [keyMay_eq hw.k, refItemMay_eq hw.i]
  simp only [Option.bind_some]
  cases mayK (l.getD i default).f_Key with
  | false => rfl
  | true =>
    cases mayI (l.getD i default).f_Item with
    | false => rfl
    | true =>
      by_cases h0 : 0 < i
      · have hw2 := h.w _ (getD_mem (l := l) (i := i - 1) (by omega))
        have h0' : decide (0 < (i : Int)) = true := by simp; omega
        have e : parrelref05_Keys (l.getD (i - 1) default).f_Key (l.getD i default).f_Key = some (cfK (l.getD (i - 1) default).f_Key (l.getD i default).f_Key) := rkeys_eq _ _ (keyB_of hw2.k) (keyB_of hw.k)
        rw [dec1 h0 hi (by omega), Int.toNat_natCast, e, h0']
        simp only [Bool.not_true, Bool.false_eq_true, if_false, Bool.true_eq_false, if_true, Option.bind_some, h0, decide_eq_true_eq]
        rw [if_pos (by omega)]
      · have h0' : decide (0 < (i : Int)) = false := by simp; omega
        rw [h0', if_neg h0]; rfl
theorem sameW_eq {a b : List T_api_Write} (ha : a.length < 9223372036854775807) : parrelref10_SameWrites a b = some (decide (a = b)) := by
  unfold parrelref10_SameWrites
  by_cases hl : a.length = b.length
  · rw [if_neg (by simp [hl]), parrelref10_SameWrites_w0 a b ha]
    refine Ri.eqL_walk hl _ _ (fun i k hi => ?_) rfl
    unfold parrelref10_SameWrites_b0
    rw [if_pos (by omega)]
    by_cases h : a.getD i default = b.getD i default
    · rw [if_pos h, if_neg (by simp only [h, decide_true]; decide)]
    · rw [if_neg h, if_pos (by simp only [h, decide_false]; decide)]
  · rw [if_pos (by simp; omega)]
    congr 1
    symm
    rw [decide_eq_false_iff_not]
    intro h; exact hl (congrArg List.length h)
theorem equalW_eq {a b : List T_api_Write} (ha : a.length < 9223372036854775807) : slices_Equal_api_Write_api_Write a b = some (decide (a = b)) := by
  unfold slices_Equal_api_Write_api_Write
  by_cases hl : a.length = b.length
  · rw [if_neg (by simp [hl]), slices_Equal_api_Write_api_Write_w0 a b ha]
    refine Ri.eqL_walk hl _ _ (fun i k hi => ?_) rfl
    unfold slices_Equal_api_Write_api_Write_b0
    rw [if_pos (by omega)]
    by_cases h : a.getD i default = b.getD i default
    · rw [if_pos h, if_neg (by simp only [h, decide_true]; decide)]
    · rw [if_neg h, if_pos (by simp only [h, decide_false]; decide)]
  · rw [if_pos (by simp; omega)]
    congr 1
    symm
    rw [decide_eq_false_iff_not]
    intro h; exact hl (congrArg List.length h)
theorem sameT_refl {L : List T_api_Tx} (hl : L.length ≤ 64) : parrelref05_Same L L = some true := by
  unfold parrelref05_Same
  rw [if_neg (by simp), parrelref05_Same_w0 L L (by omega)]
  refine Ri.walkN_inv (fun _ _ => True) L.length (fun i s hi _ => ⟨(), trivial, fun k => ?_⟩) (fun _ _ => rfl) () trivial
  unfold parrelref05_Same_b0
  rw [if_pos (by omega), if_neg (by simp only [decide_true]; decide)]

/-! The list: who writes a key -/
def keysOf (o : T_parrelref14_One) (k : A8 Int) : Prop := ∃ w ∈ o.f_Writes, w.f_Key = k
def ow (L : List T_parrelref14_One) (k : A8 Int) : Option T_api_Tx := (L.find? fun o => o.f_Writes.any fun w => decide (w.f_Key = k)).map fun o => o.f_Tx
theorem any_keys (o : T_parrelref14_One) (k : A8 Int) : (o.f_Writes.any fun w => decide (w.f_Key = k)) = true ↔ keysOf o k := by
  simp [keysOf]
theorem ow_none {L : List T_parrelref14_One} {k : A8 Int} : ow L k = none ↔ ∀ o ∈ L, ¬ keysOf o k := by
  unfold ow
  rw [Option.map_eq_none_iff, List.find?_eq_none]
  constructor
  · intro h o ho hk; exact h o ho ((any_keys o k).2 hk)
  · intro h o ho hk; exact h o ho ((any_keys o k).1 hk)
theorem ow_some {L : List T_parrelref14_One} {k : A8 Int} {t : T_api_Tx} (h : ow L k = some t) : ∃ o ∈ L, o.f_Tx = t ∧ keysOf o k := by
  unfold ow at h
  rw [Option.map_eq_some_iff] at h
  obtain ⟨o, h1, h2⟩ := h
  have h3 := List.find?_some h1
  exact ⟨o, List.mem_of_find?_eq_some h1, h2, (any_keys o k).1 h3⟩
structure OkO (o : T_parrelref14_One) : Prop where
  t : WfT o.f_Tx
  g : WfR o.f_Reg
  w : WfWs o.f_Writes
  may : mayW o.f_Writes = true
  ne : o.f_Writes ≠ []
structure St (L : List T_parrelref14_One) (all : List (T_api_Tx × T_stage_prepared)) (own : List (A8 Int × T_api_Tx)) : Prop where
  al : Pair cfT prO L all
  ok : ∀ o ∈ L, OkO o
  len : L.length ≤ 64
  nd : (own.map (·.1)).Nodup
  own : ∀ k t, mget own k = some t ↔ ∃ o ∈ L, o.f_Tx = t ∧ keysOf o k
variable {L : List T_parrelref14_One} {all : List (T_api_Tx × T_stage_prepared)} {own : List (A8 Int × T_api_Tx)}
theorem St.nil : St [] [] [] := ⟨Pair.nil, (fun _ h => nomatch h), Nat.zero_le _, List.nodup_nil, fun k t => ⟨(fun h => nomatch h), fun ⟨_, h, _⟩ => nomatch h⟩⟩
theorem St.owner (h : St L all own) (k : A8 Int) : mget own k = ow L k := by
  cases hg : ow L k with
  | none =>
    cases hm : mget own k with
    | none => rfl
    | some t =>
      obtain ⟨o, ho, _, hk⟩ := (h.own k t).1 hm
      exact absurd hk (ow_none.1 hg o ho)
  | some t =>
    obtain ⟨o, ho, ht, hk⟩ := ow_some hg
    exact (h.own k t).2 ⟨o, ho, ht, hk⟩
theorem St.get (h : St L all own) (t : T_api_Tx) : mget all t = (at_ cfT kfO L t).map fun o => ⟨o.f_Reg, o.f_Writes⟩ := h.al.get cfT_total t

/-- Prepared. -/
noncomputable def putC (L : List T_parrelref14_One) (t : T_api_Tx) (g : T_api_Reg) (l : List T_api_Write) : Int × List T_parrelref14_One :=
  if (mayT t && (mayR g && (decide (l ≠ []) && mayW l))) = false then (1, L) else
  match at_ cfT kfO L t with
  | some o => if o.f_Reg = g ∧ o.f_Writes = l then (0, L) else (7, L)
  | none => if (l.any fun w => (ow L w.f_Key).isSome) = true then (11, L) else if 64 ≤ L.length then (5, L) else (0, (pre cfT kfO L t ++ [⟨t, g, l⟩]) ++ suf cfT kfO L t)
theorem mgetset (l : List T_api_Write) (t : T_api_Tx) : ∀ (m : List (A8 Int × T_api_Tx)) (k : A8 Int), mget (l.foldl (fun m w => mset m w.f_Key t) m) k = if (∃ w ∈ l, w.f_Key = k) then some t else mget m k := by
  induction l with
  | nil => intro m k; simp
  | cons w l ih =>
    intro m k
    rw [List.foldl_cons, ih, mget_mset]
    by_cases h1 : ∃ x ∈ l, x.f_Key = k
    · rw [if_pos h1, if_pos (by obtain ⟨x, hx, e⟩ := h1; exact ⟨x, List.mem_cons_of_mem _ hx, e⟩)]
    · rw [if_neg h1]
      by_cases h2 : k = w.f_Key
      · rw [if_pos h2, if_pos ⟨w, List.mem_cons_self, h2.symm⟩]
      · rw [if_neg h2, if_neg ?_]
        rintro ⟨x, hx, e⟩
        rcases List.mem_cons.1 hx with rfl | hx
        · exact h2 e.symm
        · exact h1 ⟨x, hx, e⟩
theorem mset_keys_eq {α β : Type} [DecidableEq α] (m : List (α × β)) (k : α) (v : β) : (mset m k v).map (·.1) = if k ∈ m.map (·.1) then m.map (·.1) else m.map (·.1) ++ [k] := by
  induction m with
  | nil => rfl
  | cons e m ih =>
    simp only [mset]
    by_cases h : k = e.1
    · rw [if_pos h, if_pos (by simp [h])]; simp [h]
    · rw [if_neg h, List.map_cons, ih]
      by_cases h2 : k ∈ m.map (·.1)
      · rw [if_pos h2, if_pos (by rw [List.map_cons]; exact List.mem_cons_of_mem _ h2)]; rfl
      · rw [if_neg h2, if_neg (by rw [List.map_cons, List.mem_cons]; rintro (e | e); exact h e; exact h2 e)]; rfl
theorem mset_nodup {α β : Type} [DecidableEq α] {m : List (α × β)} (h : (m.map (·.1)).Nodup) (k : α) (v : β) : ((mset m k v).map (·.1)).Nodup := by
  rw [mset_keys_eq]
  split
  · exact h
  · rename_i hn
    exact List.nodup_append.2 ⟨h, by simp, fun a ha b hb => by rw [List.mem_singleton.1 hb]; intro e; exact hn (e ▸ ha)⟩
theorem foldset_nodup (l : List T_api_Write) (t : T_api_Tx) : ∀ {m : List (A8 Int × T_api_Tx)}, (m.map (·.1)).Nodup → ((l.foldl (fun m w => mset m w.f_Key t) m).map (·.1)).Nodup := by
  induction l with
  | nil => intro m h; exact h
  | cons w l ih => intro m h; exact ih (mset_nodup h _ _)
theorem mdel_sublist {α β : Type} [DecidableEq α] (m : List (α × β)) (k : α) : (mdel m k).Sublist m := by
  induction m with
  | nil => exact List.Sublist.slnil
  | cons e m ih =>
    simp only [mdel]
    split
    · exact List.sublist_cons_self _ _
    · exact ih.cons_cons _
theorem mdel_nodup {α β : Type} [DecidableEq α] {m : List (α × β)} (h : (m.map (·.1)).Nodup) (k : α) : ((mdel m k).map (·.1)).Nodup := h.sublist ((mdel_sublist m k).map _)
theorem mget_mdel {α β : Type} [DecidableEq α] {m : List (α × β)} (h : (m.map (·.1)).Nodup) (k j : α) : mget (mdel m k) j = if j = k then none else mget m j := by
  induction m with
  | nil => simp [mdel, mget]
  | cons e m ih =>
    rw [List.map_cons, List.nodup_cons] at h
    simp only [mdel]
    by_cases hk : k = e.1
    · rw [if_pos hk]
      by_cases hj : j = k
      · rw [if_pos hj]
        cases hg : mget m j with
        | none => rfl
        | some v =>
          have := (Ri.mget_iff h.2).1 hg
          exact absurd (List.mem_map.2 ⟨_, this, rfl⟩) (by rw [hj, hk]; exact h.1)
      · rw [if_neg hj, mget, if_neg (by rw [← hk]; exact hj)]
    · rw [if_neg hk, mget, mget, ih h.2]
      by_cases hj : j = e.1
      · rw [if_pos hj, if_pos hj, if_neg (by rw [hj]; exact fun e' => hk e'.symm)]
      · rw [if_neg hj, if_neg hj]
theorem folddel (l : List T_api_Write) : ∀ {m : List (A8 Int × T_api_Tx)}, (m.map (·.1)).Nodup → ((l.foldl (fun m w => mdel m w.f_Key) m).map (·.1)).Nodup ∧ ∀ k, mget (l.foldl (fun m w => mdel m w.f_Key) m) k = if (∃ w ∈ l, w.f_Key = k) then none else mget m k := by
  induction l with
  | nil => intro m h; exact ⟨h, fun k => by simp⟩
  | cons w l ih =>
    intro m h
    obtain ⟨h1, h2⟩ := ih (mdel_nodup h w.f_Key)
    refine ⟨h1, fun k => ?_⟩
    rw [List.foldl_cons, h2, mget_mdel h]
    by_cases h3 : ∃ x ∈ l, x.f_Key = k
    · rw [if_pos h3, if_pos (by obtain ⟨x, hx, e⟩ := h3; exact ⟨x, List.mem_cons_of_mem _ hx, e⟩)]
    · rw [if_neg h3]
      by_cases h4 : k = w.f_Key
      · rw [if_pos h4, if_pos ⟨w, List.mem_cons_self, h4.symm⟩]
      · rw [if_neg h4, if_neg ?_]
        rintro ⟨x, hx, e⟩
        rcases List.mem_cons.1 hx with rfl | hx
        · exact h4 e.symm
        · exact h3 ⟨x, hx, e⟩
theorem St.uniq (h : St L all own) {o p : T_parrelref14_One} (ho : o ∈ L) (hp : p ∈ L) {k : A8 Int} (h1 : keysOf o k) (h2 : keysOf p k) : o.f_Tx = p.f_Tx :=
  Option.some.inj (((h.own k _).2 ⟨o, ho, rfl, h1⟩).symm.trans ((h.own k _).2 ⟨p, hp, rfl, h2⟩))
theorem St.same (h : St L all own) {o p : T_parrelref14_One} (ho : o ∈ L) (hp : p ∈ L) (e : o.f_Tx = p.f_Tx) : o = p := by
  have h1 := Ri.at_some (kf := kfO) cfT_total h.al.rises ho e
  have h2 := Ri.at_some (kf := kfO) (k := p.f_Tx) cfT_total h.al.rises hp rfl
  rw [h1] at h2; exact Option.some.inj h2
theorem stageMay_eq {t : T_api_Tx} {g : T_api_Reg} {l : List T_api_Write} (ht : WfT t) (hg : WfR g) (hl : WfWs l) : stage_may t g l = some (mayT t && (mayR g && (decide (l ≠ []) && mayW l))) := by
  unfold stage_may
  rw [(txMay_eq ht).1, (regMay_eq hg).1, writesMay_eq hl]
  have e : decide (0 < (l.length : Int)) = decide (l ≠ []) := by
    rw [Bool.eq_iff_iff, decide_eq_true_eq, decide_eq_true_eq]
    cases l <;> simp
  rw [e]
  cases mayT t <;> cases mayR g <;> cases decide (l ≠ []) <;> rfl
theorem put_eq (h : St L all own) {t : T_api_Tx} {g : T_api_Reg} {l : List T_api_Write} (ht : WfT t) (hg : WfR g) (hl : WfWs l) :
    ∃ all' own', stage_Stage_Put all own t g l = some ((putC L t g l).1, all', own') ∧ St (putC L t g l).2 all' own' := by
  have hok : stage_Stage_ok all own = some () := rfl
  have hlen := h.al.len
  have hl1 := hl.len
  unfold stage_Stage_Put
  rw [hok, Option.bind_some, stageMay_eq ht hg hl, Option.bind_some, h.get t]
  unfold putC
  cases hmay : (mayT t && (mayR g && (decide (l ≠ []) && mayW l))) with
  | false => exact ⟨all, own, rfl, by simpa using h⟩
  | true =>
    simp only [Bool.not_true, Bool.false_eq_true, if_false, Bool.true_eq_false]
    cases ha : at_ cfT kfO L t with
    | some o =>
      obtain ⟨ho, _, _⟩ := Ri.at_mem ha
      have how := (h.ok o ho).w.len
      simp only [Option.map_some, Option.isSome_some, if_true, Option.getD_some]
      rw [equalW_eq (by omega)]
      by_cases h1 : o.f_Reg = g
      · rw [if_pos (by simpa using h1), Option.bind_some]
        by_cases h2 : o.f_Writes = l
        · rw [if_pos (by simpa using h2), if_pos ⟨h1, h2⟩]; exact ⟨all, own, rfl, h⟩
        · rw [if_neg (by simpa using h2), if_neg (fun hh => h2 hh.2)]; exact ⟨all, own, rfl, h⟩
      · rw [if_neg (by simpa using h1), if_neg (fun hh => h1 hh.1)]; exact ⟨all, own, rfl, h⟩
    | none =>
      simp only [Option.map_none, Option.isSome_none, Bool.false_eq_true, if_false]
      rw [stage_Stage_Put_w0 all own t g l (by omega), walkL_any (fun w => (mget own w.f_Key).isSome) (some (11, all, own)) (stage_Stage_Put_e0 all own t g l) _ l (fun a _ k => rfl)]
      have e : (l.any fun w => (mget own w.f_Key).isSome) = l.any fun w => (ow L w.f_Key).isSome := by
        congr 1; funext w; rw [h.owner]
      rw [e]
      cases hany : (l.any fun w => (ow L w.f_Key).isSome) with
      | true => exact ⟨all, own, rfl, h⟩
      | false =>
        simp only [Bool.false_eq_true, if_false]
        unfold stage_Stage_Put_e0
        by_cases h64 : 64 ≤ L.length
        · have h64' : ((all.length : Int) == 64) = true := by rw [beq_iff_eq]; have := h.len; omega
          rw [if_pos h64', if_pos h64]; exact ⟨all, own, rfl, h⟩
        · have h64' : ((all.length : Int) == 64) = false := by rw [beq_eq_false_iff_ne]; omega
          rw [if_neg h64, h64', if_neg Bool.false_ne_true, if_pos (by omega), stage_Stage_Put_w1 all own t g l own (by omega)]
          have e3 : walkL (stage_Stage_Put_b1 t) (stage_Stage_Put_e1 all t g l) l own = stage_Stage_Put_e1 all t g l (l.foldl (fun m w => mset m w.f_Key t) own) := walkL_fold (fun m (w : T_api_Write) => mset m w.f_Key t) _ l own
          rw [e3]
          have hp := Ri.ins_perm (cf := cfT) (kf := kfO) L t ⟨t, g, l⟩
          simp only [Bool.and_eq_true, decide_eq_true_eq] at hmay
          refine ⟨_, _, rfl, h.al.add cfT_total (e := ⟨t, g, l⟩) rfl ha, fun o ho => ?_, by rw [hp.length_eq, List.length_cons]; omega, foldset_nodup l t h.nd, fun k u => ?_⟩
          · rcases List.mem_cons.1 (hp.mem_iff.1 ho) with rfl | ho
            · exact ⟨ht, hg, hl, hmay.2.2.2, hmay.2.2.1⟩
            · exact h.ok o ho
          · rw [mgetset]
            have hfree : ∀ w ∈ l, ∀ o ∈ L, ¬ keysOf o w.f_Key := fun w hw o ho hk => by
              have h1 := List.any_eq_false.1 hany w hw
              have h2 : ow L w.f_Key = none := by simpa using h1
              exact ow_none.1 h2 o ho hk
            by_cases hk : ∃ w ∈ l, w.f_Key = k
            · rw [if_pos hk]
              constructor
              · intro e; cases e
                exact ⟨⟨t, g, l⟩, hp.mem_iff.2 List.mem_cons_self, rfl, hk⟩
              · rintro ⟨o, ho, e, hko⟩
                rcases List.mem_cons.1 (hp.mem_iff.1 ho) with rfl | ho
                · exact congrArg some e
                · obtain ⟨w, hw, ew⟩ := hk
                  exact absurd (ew ▸ hko) (hfree w hw o ho)
            · rw [if_neg hk, h.own]
              constructor
              · rintro ⟨o, ho, e⟩
                exact ⟨o, hp.mem_iff.2 (List.mem_cons_of_mem _ ho), e⟩
              · rintro ⟨o, ho, e, hko⟩
                rcases List.mem_cons.1 (hp.mem_iff.1 ho) with rfl | ho
                · exact absurd hko hk
                · exact ⟨o, ho, e, hko⟩

end Go.Proofs.YtfjdnnoflmpdeaaDoor.Wk
