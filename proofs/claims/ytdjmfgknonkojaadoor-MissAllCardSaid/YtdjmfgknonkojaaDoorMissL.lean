/- Plain facts: MissPlans. -/
import Derived.Test.YtdjmfgknonkojaaDoorMissQ
set_option linter.unusedVariables false
set_option linter.unusedSimpArgs false
set_option linter.unusedSectionVars false
namespace Go.Proofs.YtdjmfgknonkojaaDoor.Wk
open Go Go.Cn

def cvG (g : T_parrelref19_Got) : T_gather_Got := T_gather_Got.mk g.f_Node g.f_Reg g.f_Item
def cvL (x : T_parrelref20_Lock) : T_miss_Lock := T_miss_Lock.mk x.f_Key x.f_Mode (x.f_Got.map cvG)
theorem ab_cv (x : T_parrelref20_Lock) : abM (cvL x) = abR x := by
  simp only [abM, abR, cvL, List.map_map]; rfl
theorem ab_map (l : List T_parrelref20_Lock) : (l.map cvL).map abM = l.map abR := by
  rw [List.map_map]; exact List.map_congr_left fun x _ => ab_cv x
theorem WfRL.cv {x : T_parrelref20_Lock} (h : WfRL x) : WfM (cvL x) := ⟨by rw [ab_cv]; exact h.w, by have := h.len; show (x.f_Got.map cvG).length < _; rw [List.length_map]; omega⟩
theorem cv_wf {l : List T_parrelref20_Lock} (h : ∀ x ∈ l, WfRL x) : ∀ x ∈ l.map cvL, WfM x := fun x hx => by
  obtain ⟨y, hy, rfl⟩ := List.mem_map.1 hx
  exact (h y hy).cv
theorem theirs1 (k0 : List T_miss_Lock → Option (List T_miss_Lock)) (e : List T_gather_Got → Option (List T_miss_Lock)) : ∀ (g : List T_parrelref19_Got) (s : List T_gather_Got), (s.length + g.length) * 56 ≤ 140737488351232 →
    walkL (parrellaw20_theirs_b1 k0) e g s = e (s ++ g.map cvG)
  | [], s, _ => by simp [walkL]
  | a :: g, s, h => by
    simp only [List.length_cons] at h
    rw [walkL, parrellaw20_theirs_b1, if_pos (by simp only [List.length_singleton]; omega)]
    have := theirs1 k0 e g (s ++ [cvG a]) (by simp only [List.length_append, List.length_singleton]; omega)
    refine Eq.trans this ?_
    simp
theorem theirs_eq {l : List T_parrelref20_Lock} (hl : l.length ≤ 1000) (h : ∀ x ∈ l, WfRL x) : parrellaw20_theirs l = some (l.map cvL) := by
  unfold parrellaw20_theirs
  rw [parrellaw20_theirs_w0 l [] (by omega)]
  have key : ∀ (m i : Nat) (s : List T_miss_Lock), i + m = l.length → s.length + m ≤ 1000 → walkN (parrellaw20_theirs_b0 l) parrellaw20_theirs_e0 m i s = some (s ++ (l.drop i).map cvL) := by
    intro m
    induction m with
    | zero => intro i s hi _; rw [List.drop_eq_nil_of_le (by omega)]; simp [walkN, parrellaw20_theirs_e0]
    | succ m ih =>
      intro i s hi hs
      have hlt : i < l.length := by omega
      have hx := (h _ (getD_mem hlt)).len
      have hb : ∀ K, parrellaw20_theirs_b0 l i s K = K (s ++ [cvL (l.getD i default)]) := by
        intro K
        unfold parrellaw20_theirs_b0
        rw [parrellaw20_theirs_w1 l _ _ _ _ (by rw [Int.toNat_natCast]; omega), Int.toNat_natCast, theirs1 _ _ _ [] (by simpa using hx)]
        unfold parrellaw20_theirs_e1
        rw [if_pos (by simp only [List.length_singleton]; omega), Int.toNat_natCast]; rfl
      rw [walkN, hb, ih (i + 1) _ (by omega) (by simp only [List.length_append, List.length_singleton]; omega), Ri.getD_drop l i default hlt]; simp
  exact key l.length 0 [] (by omega) (by simpa using hl)
theorem alive_eq : parrellaw20_alive = some true := by kernel_rfl
theorem alive_tail : (parrellaw20_alive.bind fun y => some y) = some true := by rw [alive_eq]; rfl

/-! What is far -/
theorem far1 (e : Int → Option Bool) : ∀ (r : List T_api_Write) (s : Int), 0 ≤ s → s + 10000 * r.length ≤ 4611686018427387904 → ∃ s', walkL parrellaw20_far_b1 e r s = e s' ∧ s ≤ s'
  | [], s, _, _ => ⟨s, rfl, Int.le_refl _⟩
  | x :: r, s, h0, h => by
    simp only [List.length_cons] at h
    rw [walkL]
    unfold parrellaw20_far_b1
    have h1 : (0 : Int) ≤ (if 10000 < ((x.f_Item.f_Value).length : Int) then 10000 else ((x.f_Item.f_Value).length : Int)) ∧ (if 10000 < ((x.f_Item.f_Value).length : Int) then 10000 else ((x.f_Item.f_Value).length : Int)) ≤ 10000 := by split <;> omega
    generalize (if 10000 < ((x.f_Item.f_Value).length : Int) then 10000 else ((x.f_Item.f_Value).length : Int)) = v at h1
    rw [w64 (by omega) (by omega)]
    obtain ⟨s', h2, h3⟩ := far1 e r (s + v) (by omega) (by omega)
    exact ⟨s', h2, by omega⟩
theorem far0 (e : Int → Option Bool) : ∀ (r : List T_parrelref20_Lock) (s : Int), 0 ≤ s → s + 3000000000000 * r.length ≤ 4611686018427387904 → (∀ x ∈ r, x.f_Got.length * 56 ≤ 140737488351232) → ∃ s', walkL parrellaw20_far_b0 e r s = e s' ∧ s ≤ s' ∧ s' ≤ s + 3000000000000 * r.length ∧ ∀ x ∈ r, (x.f_Got.length : Int) ≤ s'
  | [], s, _, _, _ => ⟨s, rfl, Int.le_refl _, by simp, fun _ h => nomatch h⟩
  | x :: r, s, h0, h, hx => by
    simp only [List.length_cons] at h
    have h1 := hx x List.mem_cons_self
    rw [walkL]
    unfold parrellaw20_far_b0
    rw [w64 (by omega) (by omega)]
    obtain ⟨s', h2, h3, h4, h5⟩ := far0 e r (s + (x.f_Got.length : Int)) (by omega) (by omega) (fun a ha => hx a (List.mem_cons_of_mem _ ha))
    refine ⟨s', h2, by omega, by simp only [List.length_cons]; omega, fun a ha => ?_⟩
    rcases List.mem_cons.1 ha with rfl | ha
    · omega
    · exact h5 a ha
theorem far_eq {l : List T_parrelref20_Lock} {w : List T_api_Write} (hl : l.length * 40 ≤ 140737488351232) (hw : w.length * 48 ≤ 140737488351232) (h : ∀ x ∈ l, x.f_Got.length * 56 ≤ 140737488351232) :
    ∃ b, parrellaw20_far l w = some b ∧ (b = false → l.length ≤ 30 ∧ w.length ≤ 30 ∧ ∀ x ∈ l, x.f_Got.length ≤ 10000) := by
  have g1 : (0 : Int) ≤ (0 : Int) ∧ 0 ≤ (if 30 < ((l).length : Int) then 30 else ((l).length : Int)) ∧ (if 30 < ((l).length : Int) then 30 else ((l).length : Int)) ≤ (((l).length : Nat) : Int) := by split <;> omega
  have g2 : (0 : Int) ≤ (0 : Int) ∧ 0 ≤ (if 30 < ((w).length : Int) then 30 else ((w).length : Int)) ∧ (if 30 < ((w).length : Int) then 30 else ((w).length : Int)) ≤ (((w).length : Nat) : Int) := by split <;> omega
  have n1 : ((if 30 < ((l).length : Int) then 30 else ((l).length : Int))).toNat ≤ 30 := by split <;> omega
  have n2 : ((if 30 < ((w).length : Int) then 30 else ((w).length : Int))).toNat ≤ 30 := by split <;> omega
  have t1 : l.length ≤ 30 → l.take ((if 30 < ((l).length : Int) then 30 else ((l).length : Int))).toNat = l := fun h => List.take_of_length_le (by split <;> omega)
  have k1 : (l.take ((if 30 < ((l).length : Int) then 30 else ((l).length : Int))).toNat).length ≤ 30 := by rw [List.length_take]; omega
  have k2 : (w.take ((if 30 < ((w).length : Int) then 30 else ((w).length : Int))).toNat).length ≤ 30 := by rw [List.length_take]; omega
  unfold parrellaw20_far
  rw [if_pos g1, parrellaw20_far_w0 l w 0 (by omega)]
  obtain ⟨s, h2, h3, h4, h5⟩ := far0 (parrellaw20_far_e0 l w) (l.take ((if 30 < ((l).length : Int) then 30 else ((l).length : Int))).toNat) 0 (by omega) (by omega) (fun x hx => h x (List.mem_of_mem_take hx))
  rw [h2]
  unfold parrellaw20_far_e0
  rw [if_pos g2, parrellaw20_far_w1 l w s (by omega)]
  obtain ⟨s', h6, h7⟩ := far1 (parrellaw20_far_e1 l w) (w.take ((if 30 < ((w).length : Int) then 30 else ((w).length : Int))).toNat) s (by omega) (by omega)
  rw [h6]
  unfold parrellaw20_far_e1
  by_cases c1 : 30 < (l.length : Int)
  · exact ⟨true, by rw [if_pos (by simpa using c1)], fun h => by cases h⟩
  · rw [if_neg (by simpa using c1)]
    by_cases c2 : 30 < (w.length : Int)
    · exact ⟨true, by rw [if_pos (by simpa using c2)], fun h => by cases h⟩
    · rw [if_neg (by simpa using c2)]
      refine ⟨_, rfl, fun hb => ⟨by omega, by omega, fun x hx => ?_⟩⟩
      have h8 := of_decide_eq_false hb
      have h9 := h5 x (by rw [t1 (by omega)]; exact hx)
      omega

/-! Of the inputs -/
theorem wfV_of {c : T_api_Config} (h : wfL (c_T_api_Config c)) : WfV c := by
  refine ⟨wf_u32 (h (.int .u32 c.f_Epoch) (by simp [c_T_api_Config])), wf_u8 (h (.int .u8 c.f_R) (by simp [c_T_api_Config])), wf_u8 (h (.int .u8 c.f_W) (by simp [c_T_api_Config])), fun i hi => ?_⟩
  rcases lt8 hi with rfl | rfl | rfl | rfl | rfl | rfl | rfl | rfl <;> exact wf_u8 (h _ (by simp [c_T_api_Config, A8.get]))
theorem wfW_of {w : T_api_Write} (h : wfL (c_T_api_Write w)) : WfW w := by
  have e : c_T_api_Write w = kc w.f_Key ++ ([.int .u32 w.f_Item.f_Version, .str w.f_Item.f_Value] ++ c_T_api_Config w.f_Item.f_Conf) := rfl
  rw [e] at h
  exact ⟨wfK_of _ fun x hx => h x (List.mem_append_left _ hx), ⟨wf_u32 (h (.int .u32 w.f_Item.f_Version) (List.mem_append_right _ (List.mem_append_left _ List.mem_cons_self))), wfV_of fun x hx => h x (List.mem_append_right _ (List.mem_append_right _ hx))⟩⟩
def wfLk (a : T_parrelref20_Lock) : Prop := wfL (kc a.f_Key) ∧ wfL [.int .u8 a.f_Mode] ∧ ((∀ g ∈ a.f_Got, wfL (c_T_parrelref19_Got g)) ∧ a.f_Got.length * 56 ≤ 140737488351232) ∧ True
theorem wfRL_of {a : T_parrelref20_Lock} (h : wfLk a) : WfRL a := by
  refine ⟨⟨wfK_of _ h.1, wf_u8 (h.2.1 _ List.mem_cons_self), fun g hg => ?_⟩, h.2.2.1.2⟩
  obtain ⟨y, hy, rfl⟩ := List.mem_map.1 hg
  have h1 := h.2.2.1.1 y hy
  exact ⟨wf_u8 (h1 (.int .u8 y.f_Node) (by simp [c_T_parrelref19_Got])), ⟨wf_u32 (h1 (.int .u32 y.f_Reg.f_Boot) (by simp [c_T_parrelref19_Got])), wf_u32 (h1 (.int .u32 y.f_Reg.f_N) (by simp [c_T_parrelref19_Got]))⟩⟩

/-! The same members, the same sets -/
abbrev Mm := Nat × T_api_Reg × List T_api_Write
def mM (m : Mm) : T_coord_Member := T_coord_Member.mk (m.1 : Int) m.2.1 m.2.2
def mR (m : Mm) : T_parrelref18_Member := T_parrelref18_Member.mk (m.1 : Int) m.2.1 m.2.2 0
theorem members_eq (q : List Mm) (hq : q.length ≤ 1000) (h : ∀ m ∈ q, m.2.2.length ≤ 1000) : parrellaw20_members (q.map mM) (q.map mR) = some true := by
  unfold parrellaw20_members
  rw [if_neg (by simp), parrellaw20_members_w0 _ _ (by rw [List.length_map]; omega), List.length_map]
  rw [walkN_any (fun _ => false) (some false) parrellaw20_members_e0 _ q.length 0 (fun j _ hj k => by
    have hj : j < q.length := by omega
    have e1 : (q.map mM).getD j default = mM (q.getD j default) := by simp [List.getD_eq_getElem?_getD, List.getElem?_eq_getElem hj]
    have e2 : (q.map mR).getD j default = mR (q.getD j default) := by simp [List.getD_eq_getElem?_getD, List.getElem?_eq_getElem hj]
    have hm : q.getD j default ∈ q := by rw [List.getD_eq_getElem?_getD, List.getElem?_eq_getElem hj]; exact List.getElem_mem hj
    unfold parrellaw20_members_b0
    rw [e1, e2, if_pos (by rw [List.length_map]; omega), if_neg (by simp [mM, mR]), if_neg (by simp [mM, mR])]
    show (parrelref10_SameWrites (q.getD j default).2.2 (q.getD j default).2.2).bind _ = _
    rw [sameW_eq (by have := h _ hm; omega), Option.bind_some]; simp)]
  rw [if_neg (by simp)]; rfl
theorem sets_eq (q : List Int) (hq : q.length ≤ 1000) : parrellaw20_sets q q = some true := by
  unfold parrellaw20_sets
  rw [if_neg (by simp), parrellaw20_sets_w0 _ _ (by omega)]
  rw [walkN_any (fun _ => false) (some false) parrellaw20_sets_e0 _ q.length 0 (fun j _ hj k => by
    unfold parrellaw20_sets_b0
    rw [if_pos (by omega), if_neg (by simp)]; rfl)]
  rw [if_neg (by simp)]; rfl
theorem planA_bnd (A : List AL) (w : List T_api_Write) : (planA A w).1.length ≤ 64 ∧ (∀ m ∈ (planA A w).1, m.2.2.length ≤ w.length) ∧ (planA A w).2.1.length ≤ w.length := by
  have nil : ∀ e : Int, (([], [], e) : Pl).1.length ≤ 64 ∧ (∀ m ∈ (([], [], e) : Pl).1, m.2.2.length ≤ w.length) ∧ (([], [], e) : Pl).2.1.length ≤ w.length := fun e => ⟨Nat.zero_le _, (fun _ h => nomatch h), Nat.zero_le _⟩
  unfold planA
  split
  · exact nil _
  split
  · exact nil _
  split
  · exact nil _
  split
  · exact nil _
  split
  · exact nil _
  · refine ⟨?_, fun m hm => ?_, ?_⟩
    · unfold mems; rw [List.length_map]; exact Nat.le_trans (List.length_filter_le _ _) (by simp)
    · unfold mems at hm
      obtain ⟨n, _, rfl⟩ := List.mem_map.1 hm
      exact List.length_filter_le _ _
    · unfold misses; rw [List.length_map]; exact Nat.le_refl _
theorem plans_eq {l : List T_parrelref20_Lock} {w : List T_api_Write} (hl : l.length * 40 ≤ 140737488351232) (h : ∀ x ∈ l, WfRL x) (hw : WfWs w) : parrellaw20_MissPlans l w = some true := by
  obtain ⟨b, hb, hf⟩ := far_eq hl hw.len (fun x hx => (h x hx).len)
  unfold parrellaw20_MissPlans
  rw [hb, Option.bind_some]
  cases b with
  | true => exact alive_tail
  | false =>
    obtain ⟨h1, h2, _⟩ := hf rfl
    obtain ⟨p1, p2, p3⟩ := planA_bnd (l.map abR) w
    have hcl : (l.map cvL).length < 4611686018427387904 := by rw [List.length_map]; omega
    have em : parrellaw20_members (toM (planA (l.map abR) w)).1 (toR (planA (l.map abR) w)).1 = some true := members_eq (planA (l.map abR) w).1 (by omega) (fun m hm => by have := p2 m hm; omega)
    have es : parrellaw20_sets (toM (planA (l.map abR) w)).2.1 (toR (planA (l.map abR) w)).2.1 = some true := sets_eq _ (by show ((planA (l.map abR) w).2.1.map _).length ≤ 1000; rw [List.length_map]; omega)
    rw [if_neg Bool.false_ne_true, theirs_eq (by omega) h, Option.bind_some, plan_eq hcl (cv_wf h) hw, Option.bind_some, ab_map, rplan_eq (by omega) h hw, Option.bind_some, em, Option.bind_some, if_pos rfl, es, Option.bind_some, if_pos rfl,
      if_pos (by simp [toM, toR]), Option.bind_some, nodes_eq hcl (cv_wf h), ab_map, Option.bind_some, rnodes_eq (by omega) h, Option.bind_some, if_pos (by simp)]
    exact alive_tail
theorem plans_law (l : List T_parrelref20_Lock) (w : List T_api_Write) (h0 : (∀ a ∈ l, wfLk a) ∧ l.length * 40 ≤ 140737488351232) (h1 : (∀ a ∈ w, wfL (c_T_api_Write a)) ∧ w.length * 48 ≤ 140737488351232) : parrellaw20_MissPlans l w = some true :=
  plans_eq h0.2 (fun x hx => wfRL_of (h0.1 x hx)) ⟨fun x hx => wfW_of (h1.1 x hx), h1.2⟩
end Go.Proofs.YtdjmfgknonkojaaDoor.Wk
