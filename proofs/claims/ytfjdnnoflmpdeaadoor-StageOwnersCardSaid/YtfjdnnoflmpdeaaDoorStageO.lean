/- No key has two owners; the laws, with the arguments' bounds as the rows have them. -/
import Derived.Test.YtfjdnnoflmpdeaaDoorStageR
set_option linter.unusedVariables false
set_option linter.unusedSimpArgs false
set_option linter.unusedSectionVars false
namespace Go.Proofs.YtfjdnnoflmpdeaaDoor.Wk
open Go Go.Cn
open Go.Proofs.YtfjdnnoflmpdeaaDoor.Ri (Rises pre suf at_ Pair)
variable {L : List T_parrelref14_One} {all : List (T_api_Tx × T_stage_prepared)} {own : List (A8 Int × T_api_Tx)}

theorem take_succ2 {α : Type} [Inhabited α] {l : List α} {i : Nat} (h : i < l.length) : l.take (i + 1) = l.take i ++ [l.getD i default] := by
  rw [List.take_add_one, List.getD_eq_getElem?_getD, List.getElem?_eq_getElem h]; rfl
theorem pairwise_at {α : Type} [Inhabited α] {R : α → α → Prop} {l : List α} (h : l.Pairwise R) {i : Nat} (hi : i < l.length) {x : α} (hx : x ∈ l.take i) : R x (l.getD i default) := by
  have e : l = l.take i ++ l.drop i := (List.take_append_drop i l).symm
  rw [e] at h
  have hd : l.getD i default ∈ l.drop i := by rw [Ri.getD_drop l i default hi]; exact List.mem_cons_self
  exact (List.pairwise_append.1 h).2.2 x hx _ hd
/-- The keys that were met. -/
def Met (m : List (A8 Int × Bool)) (S : A8 Int → Prop) : Prop := ∀ k, (mget m k).getD default = true ↔ S k
theorem met_set {m : List (A8 Int × Bool)} {S : A8 Int → Prop} (h : Met m S) (k : A8 Int) : Met (mset m k true) (fun j => S j ∨ j = k) := fun j => by
  rw [mget_mset]
  by_cases e : j = k
  · rw [if_pos e]; simp [e]
  · rw [if_neg e, h j]; simp [e]
theorem owners_l2 (h : St L all own) {i : Nat} (hi : i < L.length) (script : List T_parrellaw14_Act) (m3 : List (A8 Int × Bool)) (hm : Met m3 (fun k => ∃ o ∈ L.take i, keysOf o k)) (k1 : Int → List (A8 Int × Bool) → Option Bool) (r : Option Bool)
    (hk : ∀ m4, Met m4 (fun k => ∃ o ∈ L.take (i + 1), keysOf o k) → k1 (IntKind.wrap .i64 ((i : Int) + 1)) m4 = r) :
    parrellaw14_StageOwners_l2 script all own (i : Int) (L.map kfO) ((L.getD i default).f_Writes, (L.getD i default).f_Reg, true) k1 big 0 m3 = r := by
  have ho := getD_mem hi
  generalize ho' : L.getD i default = o at ho
  have hok := h.ok o ho
  have hwl := hok.w.len
  have hrise := (mayW_rises hok.may).1
  have htx : (L.map kfO).getD (i : Int).toNat default = o.f_Tx := by
    rw [Int.toNat_natCast, getD_map kfO hi, ho']; rfl
  rw [parrellaw14_StageOwners_w2 script all own (i : Int) (L.map kfO) (o.f_Writes, o.f_Reg, true) k1 m3 (by show o.f_Writes.length < _; omega)]
  refine Ri.walkN_inv (fun j m4 => Met m4 (fun k => (∃ o ∈ L.take i, keysOf o k) ∨ ∃ w ∈ o.f_Writes.take j, w.f_Key = k)) o.f_Writes.length (fun j m4 hj hmet => ?_) (fun m4 hmet => ?_) m3 ?_
  · have hw := getD_mem hj
    have hmem : keysOf o (o.f_Writes.getD j default).f_Key := ⟨_, hw, rfl⟩
    have how : ow L (o.f_Writes.getD j default).f_Key = some o.f_Tx := by rw [← h.owner]; exact (h.own _ _).2 ⟨o, ho, rfl, hmem⟩
    have hnot : (mget m4 (o.f_Writes.getD j default).f_Key).getD default = false := by
      cases hb : (mget m4 (o.f_Writes.getD j default).f_Key).getD default with
      | false => rfl
      | true =>
        rcases (hmet _).1 hb with ⟨x, hx, hxk⟩ | ⟨w, hw2, e⟩
        · have hxL := List.mem_of_mem_take hx
          have h1 := h.uniq hxL ho hxk hmem
          have h2 : cfT x.f_Tx (L.getD i default).f_Tx < 0 := pairwise_at h.al.rises hi hx
          rw [ho', h1] at h2
          exact absurd h2 (Ri.lt_irr cfT_total _)
        · have h2 : cfK w.f_Key (o.f_Writes.getD j default).f_Key < 0 := pairwise_at hrise hj hw2
          rw [e] at h2
          exact absurd h2 (Ri.lt_irr cfK_total _)
    refine ⟨mset m4 (o.f_Writes.getD j default).f_Key true, fun k => ?_, fun k => ?_⟩
    · rw [met_set hmet, take_succ2 hj]
      constructor
      · rintro ((h1 | ⟨w, hw, e⟩) | e)
        · exact .inl h1
        · exact .inr ⟨w, List.mem_append_left _ hw, e⟩
        · exact .inr ⟨_, List.mem_append_right _ List.mem_cons_self, e.symm⟩
      · rintro (h1 | ⟨w, hw, e⟩)
        · exact .inl (.inl h1)
        · rcases List.mem_append.1 hw with hw | hw
          · exact .inl (.inr ⟨w, hw, e⟩)
          · rw [List.mem_singleton.1 hw] at e; exact .inr e.symm
    · unfold parrellaw14_StageOwners_b2
      simp only
      rw [owner_eq h, how, Option.bind_some, hnot, htx]
      simp
  · refine hk m4 fun k => ?_
    rw [hmet k, take_succ2 hi, ho', List.take_length]
    constructor
    · rintro (⟨x, hx, hxk⟩ | hw)
      · exact ⟨x, List.mem_append_left _ hx, hxk⟩
      · exact ⟨o, List.mem_append_right _ List.mem_cons_self, hw⟩
    · rintro ⟨x, hx, hxk⟩
      rcases List.mem_append.1 hx with hx | hx
      · exact .inl ⟨x, hx, hxk⟩
      · rw [List.mem_singleton.1 hx] at hxk; exact .inr hxk
  · intro k
    rw [hm k]
    simp
theorem owners_l3 (h : St L all own) (m3 : List (A8 Int × Bool)) (hm : Met m3 (fun k => ∃ o ∈ L, keysOf o k)) (y : List T_parrellaw14_Act) (hy : y.length ≤ 100) (hw : WfL y) : parrellaw14_StageOwners_l3 all own m3 y big 0 = some true := by
  have hb : ∀ k, (ow L k).isSome = (mget m3 k).getD default := fun k => by
    rw [Bool.eq_iff_iff, hm k]
    cases ho : ow L k with
    | none =>
      constructor
      · intro e; cases e
      · rintro ⟨o, h1, h2⟩; exact absurd h2 (ow_none.1 ho o h1)
    | some t =>
      obtain ⟨o, h1, _, h2⟩ := ow_some ho
      exact ⟨fun _ => ⟨o, h1, h2⟩, fun _ => rfl⟩
  rw [parrellaw14_StageOwners_w3 all own m3 y (by omega)]
  refine Ri.walkN_inv (fun _ _ => True) _ (fun i s hi _ => ⟨(), trivial, fun k => ?_⟩) (fun _ _ => alive_tail) () trivial
  have hwl := (hw _ (getD_mem hi)).w.len
  unfold parrellaw14_StageOwners_b3
  rw [parrellaw14_StageOwners_w4 all own m3 (i : Int) y _ (by rw [Int.toNat_natCast]; omega)]
  refine Ri.walkN_inv (fun _ _ => True) _ (fun j s hj _ => ⟨(), trivial, fun k => ?_⟩) (fun _ _ => rfl) () trivial
  unfold parrellaw14_StageOwners_b4
  rw [owner_eq h, Option.bind_some]
  simp only
  rw [hb]
  simp
theorem owners_tail (h : St L all own) (script : List T_parrellaw14_Act) (hw : WfL script) : parrellaw14_StageOwners_e0 script (all, own) = some true := by
  have hl := h.len
  unfold parrellaw14_StageOwners_e0
  simp only
  rw [allT_eq h, Option.bind_some, parrellaw14_StageOwners_w1 script all own (L.map kfO) [] (by rw [List.length_map]; omega), List.length_map]
  have key : ∀ (n i : Nat) (m3 : List (A8 Int × Bool)), i + n = L.length → Met m3 (fun k => ∃ o ∈ L.take i, keysOf o k) → walkN (parrellaw14_StageOwners_b1 script all own (L.map kfO)) (parrellaw14_StageOwners_e1 script all own) n i m3 = some true := by
    intro n
    induction n with
    | zero =>
      intro i m3 hi hm
      have : i = L.length := by omega
      subst this
      rw [List.take_length] at hm
      show parrellaw14_StageOwners_e1 script all own m3 = _
      unfold parrellaw14_StageOwners_e1
      rw [short_eq, Option.bind_some]
      exact owners_l3 h m3 hm _ (short_len script) (hw.take _)
    | succ n ih =>
      intro i m3 hi hm
      have hlt : i < L.length := by omega
      have ho := getD_mem hlt
      have hat := Ri.at_some (kf := kfO) (k := (L.getD i default).f_Tx) cfT_total h.al.rises ho rfl
      have hwr : wrC L (L.getD i default).f_Tx = ((L.getD i default).f_Writes, (L.getD i default).f_Reg, true) := by unfold wrC; rw [hat]
      have hne : (((L.getD i default).f_Writes.length : Int) == 0) = false := by
        rw [beq_eq_false_iff_ne]; intro e; exact (h.ok _ ho).ne (List.eq_nil_of_length_eq_zero (by omega))
      have htx : (L.map kfO).getD i default = (L.getD i default).f_Tx := getD_map kfO hlt
      have hb : ∀ k : List (A8 Int × Bool) → Option Bool, parrellaw14_StageOwners_b1 script all own (L.map kfO) i m3 k = parrellaw14_StageOwners_l2 script all own (i : Int) (L.map kfO) ((L.getD i default).f_Writes, (L.getD i default).f_Reg, true) (fun _ m3_ => k m3_) big 0 m3 := fun k => by
        unfold parrellaw14_StageOwners_b1
        rw [htx, writes_eq h, hwr, Option.bind_some]
        simp only
        rw [if_neg (by simp), hne, if_neg Bool.false_ne_true]
      rw [walkN, hb]
      exact owners_l2 h hlt script m3 hm _ _ (fun m4 hm4 => ih (i + 1) m4 (by omega) hm4)
  exact key L.length 0 [] (by omega) (fun k => by simp [mget])
theorem owners_eq (l : List T_parrellaw14_Act) (h : WfL l) : parrellaw14_StageOwners l = some true := by
  obtain ⟨b, hb⟩ := far_eq l h
  have h0 : stage_New = some ([], []) := rfl
  unfold parrellaw14_StageOwners
  rw [h0, Option.bind_some, hb, Option.bind_some]
  cases b with
  | true => rw [if_pos rfl]; exact alive_tail
  | false =>
    have hl := short_len l
    rw [if_neg (by simp), short_eq, Option.bind_some, parrellaw14_StageOwners_w0 l _ [] [] (by omega)]
    refine Ri.walkN_inv (fun _ s => ∃ L, St L s.1 s.2) _ (fun i s hi hs => ?_) (fun s hs => ?_) ([], []) ⟨[], St.nil⟩
    · obtain ⟨all, own⟩ := s
      obtain ⟨L, hL⟩ := hs
      have hwa := h.take _ _ (getD_mem hi)
      cases hT : ((l.take (min l.length 100)).getD i default).f_Take with
      | true =>
        obtain ⟨all', own', e2, h'⟩ := take_eq hL ((l.take (min l.length 100)).getD i default).f_Tx
        refine ⟨(all', own'), ⟨_, h'⟩, fun k => ?_⟩
        unfold parrellaw14_StageOwners_b0
        rw [hT, if_pos rfl]
        simp only
        rw [e2, Option.bind_some]
      | false =>
        obtain ⟨all', own', e2, h'⟩ := put_eq hL hwa.t hwa.g hwa.w
        refine ⟨(all', own'), ⟨_, h'⟩, fun k => ?_⟩
        unfold parrellaw14_StageOwners_b0
        rw [hT, if_neg Bool.false_ne_true]
        simp only
        rw [e2, Option.bind_some]
    · obtain ⟨all, own⟩ := s
      obtain ⟨L, hL⟩ := hs
      exact owners_tail hL l h

/-! The bounds -/
theorem wfV_of {c : T_api_Config} (h : wfL (c_T_api_Config c)) : WfV c := by
  have m : ∀ {x}, x ∈ c_T_api_Config c → wfC x := fun hx => h _ hx
  refine ⟨wf_u32 (m (x := .int .u32 c.f_Epoch) (by simp [c_T_api_Config])), wf_u8 (m (x := .int .u8 c.f_R) (by simp [c_T_api_Config])), wf_u8 (m (x := .int .u8 c.f_W) (by simp [c_T_api_Config])), fun i hi => wf_u8 (m (x := .int .u8 (A8.get c.f_Votes i)) ?_)⟩
  rcases (by omega : i = 0 ∨ i = 1 ∨ i = 2 ∨ i = 3 ∨ i = 4 ∨ i = 5 ∨ i = 6 ∨ i = 7) with rfl | rfl | rfl | rfl | rfl | rfl | rfl | rfl <;> simp [c_T_api_Config, A8.get]
theorem wfI_of {i : T_api_Item} (h : wfL (c_T_api_Item i)) : WfI i :=
  ⟨wf_u32 (h (.int .u32 i.f_Version) List.mem_cons_self), wfV_of (fun x hx => h x (List.mem_cons_of_mem _ (List.mem_cons_of_mem _ hx)))⟩
theorem wfW_of {w : T_api_Write} (h : wfL (c_T_api_Write w)) : WfW w := by
  have e : c_T_api_Write w = kc w.f_Key ++ c_T_api_Item w.f_Item := rfl
  rw [e] at h
  exact ⟨wfK_of _ fun x hx => h x (List.mem_append_left _ hx), wfI_of fun x hx => h x (List.mem_append_right _ hx)⟩
def wsAct (s : T_parrellaw14_Act) : Prop := (wfL ((fun z_ : Bool => [LV.bool z_]) s.f_Take)) ∧ (wfL (c_T_api_Tx s.f_Tx)) ∧ (wfL (c_T_api_Reg s.f_Reg)) ∧ ((∀ a ∈ s.f_Writes, (wfL (c_T_api_Write a))) ∧ s.f_Writes.length * 48 ≤ 140737488351232) ∧ True
theorem wfA_of {a : T_parrellaw14_Act} (h : wsAct a) : WfA a := by
  obtain ⟨_, h2, h3, h4, _⟩ := h
  refine ⟨⟨wf_u8 (h2 (.int .u8 a.f_Tx.f_Node) (by simp [c_T_api_Tx])), wf_u32 (h2 (.int .u32 a.f_Tx.f_Boot) (by simp [c_T_api_Tx])), wf_u32 (h2 (.int .u32 a.f_Tx.f_Num) (by simp [c_T_api_Tx]))⟩,
    ⟨wf_u32 (h3 (.int .u32 a.f_Reg.f_Boot) (by simp [c_T_api_Reg])), wf_u32 (h3 (.int .u32 a.f_Reg.f_N) (by simp [c_T_api_Reg]))⟩, ⟨fun x hx => wfW_of (h4.1 x hx), h4.2⟩⟩
theorem plays_law (l : List T_parrellaw14_Act) (h : (∀ a ∈ l, wsAct a) ∧ l.length * 48 ≤ 140737488351232) : parrellaw14_StagePlays l = some true := plays_eq l fun a ha => wfA_of (h.1 a ha)
theorem owners_law (l : List T_parrellaw14_Act) (h : (∀ a ∈ l, wsAct a) ∧ l.length * 48 ≤ 140737488351232) : parrellaw14_StageOwners l = some true := owners_eq l fun a ha => wfA_of (h.1 a ha)
theorem back_law (one : T_parrellaw14_Act) (l : List T_parrellaw14_Act) (h1 : wsAct one) (h : (∀ a ∈ l, wsAct a) ∧ l.length * 48 ≤ 140737488351232) : parrellaw14_StageBack one l = some true := back_eq one l (wfA_of h1) fun a ha => wfA_of (h.1 a ha)
end Go.Proofs.YtfjdnnoflmpdeaaDoor.Wk
