/- Plain facts: MissTurned. -/
import Derived.Test.YtdjmfgknonkojaaDoorMissL
set_option linter.unusedVariables false
set_option linter.unusedSimpArgs false
set_option linter.unusedSectionVars false
namespace Go.Proofs.YtdjmfgknonkojaaDoor.Wk
open Go Go.Cn

structure SameA (A B : List AL) : Prop where
  ab : ∀ x ∈ A, ∃ y ∈ B, y.k = x.k ∧ y.m = x.m ∧ ∀ g, g ∈ y.g ↔ g ∈ x.g
  ba : ∀ x ∈ B, ∃ y ∈ A, y.k = x.k ∧ y.m = x.m ∧ ∀ g, g ∈ y.g ↔ g ∈ x.g
theorem SameA.symm {A B : List AL} (h : SameA A B) : SameA B A := ⟨h.ba, h.ab⟩
theorem SameA.ok1 {A B : List AL} (h : SameA A B) (hA : A.all okL = true) : B.all okL = true := by
  rw [List.all_eq_true] at hA ⊢
  intro x hx
  obtain ⟨y, hy, e1, e2, e3⟩ := h.ba x hx
  have h1 := hA y hy
  simp only [okL, Bool.and_eq_true, List.all_eq_true] at h1 ⊢
  rw [← e1, ← e2]
  exact ⟨h1.1, h1.2.1, fun g hg => h1.2.2 g ((e3 g).2 hg)⟩
theorem SameA.ok {A B : List AL} (h : SameA A B) : A.all okL = B.all okL := Bool.eq_iff_iff.2 ⟨h.ok1, h.symm.ok1⟩
theorem SameA.gots1 {A B : List AL} (h : SameA A B) {g : Gr} (hg : g ∈ gots A) : g ∈ gots B := by
  obtain ⟨x, hx, h2⟩ := mem_gots.1 hg
  obtain ⟨y, hy, _, _, e3⟩ := h.ab x hx
  exact mem_gots.2 ⟨y, hy, (e3 g).2 h2⟩
theorem SameA.clash1 {A B : List AL} (h : SameA A B) (hc : clash (gots A) = true) : clash (gots B) = true := by
  obtain ⟨a, ha, b, hb, e⟩ := clash_iff.1 hc
  exact clash_iff.2 ⟨a, h.gots1 ha, b, h.gots1 hb, e⟩
theorem SameA.clash {A B : List AL} (h : SameA A B) : clash (gots A) = clash (gots B) := Bool.eq_iff_iff.2 ⟨h.clash1, h.symm.clash1⟩
theorem SameA.nodes1 {A B : List AL} (h : SameA A B) {i : Nat} (hb : (nodesA A).testBit i = true) : (nodesA B).testBit i = true := by
  obtain ⟨h1, x, hx, g, hg, e⟩ := nodesA_bit.1 hb
  obtain ⟨y, hy, _, _, e3⟩ := h.ab x hx
  exact nodesA_bit.2 ⟨h1, y, hy, g, (e3 g).2 hg, e⟩
theorem SameA.nodes {A B : List AL} (h : SameA A B) : nodesA A = nodesA B := ext_bit fun _ => ⟨h.nodes1, h.symm.nodes1⟩
theorem SameA.of1 {A B : List AL} (h : SameA A B) {k : A8 Int} {i : Nat} (hb : (ofA A k).testBit i = true) : (ofA B k).testBit i = true := by
  obtain ⟨h1, x, hx, h2, h3, g, hg, e⟩ := ofA_bit.1 hb
  obtain ⟨y, hy, e1, e2, e3⟩ := h.ab x hx
  exact ofA_bit.2 ⟨h1, y, hy, e1.trans h2, e2.trans h3, g, (e3 g).2 hg, e⟩
theorem SameA.of {A B : List AL} (h : SameA A B) (k : A8 Int) : ofA A k = ofA B k := ext_bit fun _ => ⟨h.of1, h.symm.of1⟩
theorem regG_some {l : List Gr} {g : Gr} (h8 : In8 l) (hc : clash l = false) (hg : g ∈ l) : regG l g.1.toNat = g.2 := by
  unfold regG
  cases hf : l.find? (fun a => decide (a.1.toNat = g.1.toNat)) with
  | none =>
    rw [List.find?_eq_none] at hf
    exact absurd (decide_eq_true rfl) (hf g hg)
  | some a =>
    have h1 := List.mem_of_find?_eq_some hf
    have h2 := List.find?_some hf
    rw [decide_eq_true_eq] at h2
    show a.2 = g.2
    by_cases e : a.2 = g.2
    · exact e
    · have g1 := (h8 a h1).1
      have g2 := (h8 g hg).1
      have : clash l = true := clash_iff.2 ⟨a, h1, g, hg, by omega, e⟩
      rw [hc] at this; cases this
theorem SameA.mems {A B : List AL} (h : SameA A B) (h8 : In8 (gots A)) (hc : Wk.clash (gots A) = false) (w : List T_api_Write) : mems A w = mems B w := by
  unfold Wk.mems
  rw [h.nodes]
  refine List.map_congr_left fun n hn => ?_
  rw [List.mem_filter] at hn
  have e1 : regA A n = regA B n := by
    have hb := hn.2
    rw [← h.nodes] at hb
    obtain ⟨_, x, hx, g, hg, e⟩ := nodesA_bit.1 hb
    have hgA : g ∈ gots A := mem_gots.2 ⟨x, hx, hg⟩
    have h8B : In8 (gots B) := fun a ha => h8 a (h.symm.gots1 ha)
    have hcB : Wk.clash (gots B) = false := by rw [← h.clash]; exact hc
    rw [← e]
    exact (regG_some h8 hc hgA).trans (regG_some h8B hcB (h.gots1 hgA)).symm
  rw [e1]
  congr 2
  exact List.filter_congr fun x _ => by rw [h.of]
theorem planA_same {A B : List AL} (h : SameA A B) (hw : ∀ x ∈ A, WfAL x) (w : List T_api_Write) : planA A w = planA B w := by
  have e1 : (fun x : T_api_Write => decide (ofA A x.f_Key = 0)) = fun x => decide (ofA B x.f_Key = 0) := funext fun x => by rw [h.of]
  have e2 : (fun x : T_api_Write => !canW x.f_Item.f_Conf (ofA A x.f_Key)) = fun x => !canW x.f_Item.f_Conf (ofA B x.f_Key) := funext fun x => by rw [h.of]
  have e3 : misses A w = misses B w := by
    unfold misses
    exact List.map_congr_left fun x _ => by rw [h.of]
  unfold planA
  rw [← h.ok, ← h.clash, e1, e2, e3]
  cases hok : A.all okL with
  | false => rfl
  | true =>
    cases hc : clash (gots A) with
    | true => rfl
    | false => rw [h.mems (gots_in hw hok) hc]

def dbl (x : T_parrelref20_Lock) : T_parrelref20_Lock := T_parrelref20_Lock.mk x.f_Key x.f_Mode (x.f_Got ++ x.f_Got)
theorem dbl_wf {x : T_parrelref20_Lock} (h : WfRL x) (hl : x.f_Got.length ≤ 10000) : WfRL (dbl x) := by
  refine ⟨⟨h.w.k, h.w.m, fun a ha => h.w.g a ?_⟩, ?_⟩
  · have ha' : a ∈ (x.f_Got ++ x.f_Got).map gR := ha
    rw [List.map_append, List.mem_append] at ha'
    exact ha'.elim id id
  · show (x.f_Got ++ x.f_Got).length * 56 ≤ _
    rw [List.length_append]; omega
theorem turn_same (l : List T_parrelref20_Lock) (k : Nat) : SameA (l.map abR) (((l.drop k ++ l.take k).map dbl).map abR) := by
  have hg : ∀ (x : T_parrelref20_Lock) (g : Gr), g ∈ (abR (dbl x)).g ↔ g ∈ (abR x).g := fun x g => by
    show g ∈ (x.f_Got ++ x.f_Got).map gR ↔ g ∈ x.f_Got.map gR
    rw [List.map_append, List.mem_append, or_self]
  have hm : ∀ x, x ∈ l.drop k ++ l.take k ↔ x ∈ l := fun x => by
    rw [List.mem_append, or_comm, ← List.mem_append, List.take_append_drop]
  refine ⟨fun x hx => ?_, fun x hx => ?_⟩
  · obtain ⟨y, hy, rfl⟩ := List.mem_map.1 hx
    exact ⟨abR (dbl y), List.mem_map.2 ⟨dbl y, List.mem_map.2 ⟨y, (hm y).2 hy, rfl⟩, rfl⟩, rfl, rfl, hg y⟩
  · obtain ⟨z, hz, rfl⟩ := List.mem_map.1 hx
    obtain ⟨y, hy, rfl⟩ := List.mem_map.1 hz
    exact ⟨abR y, List.mem_map.2 ⟨y, (hm y).1 hy, rfl⟩, rfl, rfl, fun g => (hg y g).symm⟩
theorem copy_walk (q : List Mm) (y : List T_coord_Member × List Int × Int) (hy : y.1 = q.map mM) (e : List T_parrelref18_Member → Option Bool) : ∀ (m i : Nat) (s : List T_parrelref18_Member), i + m = q.length → s.length + m ≤ 1000 →
    walkN (parrellaw20_MissTurned_b1 y) e m i s = e (s ++ (q.drop i).map mR)
  | 0, i, s, hi, _ => by rw [List.drop_eq_nil_of_le (by omega)]; simp [walkN]
  | m + 1, i, s, hi, hs => by
    have hlt : i < q.length := by omega
    have e1 : y.1.getD i default = mM (q.getD i default) := by rw [hy]; simp [List.getD_eq_getElem?_getD, List.getElem?_eq_getElem hlt]
    have hb : ∀ K, parrellaw20_MissTurned_b1 y i s K = K (s ++ [mR (q.getD i default)]) := by
      intro K
      unfold parrellaw20_MissTurned_b1
      rw [e1, if_pos (by simp only [List.length_singleton]; omega)]; rfl
    rw [walkN, hb, copy_walk q y hy e m (i + 1) _ (by omega) (by simp only [List.length_append, List.length_singleton]; omega), Ri.getD_drop q i default hlt]; simp
theorem dbl_walk (L : List T_parrelref20_Lock) (h : ∀ x ∈ L, x.f_Got.length ≤ 10000) (e : List T_parrelref20_Lock → Option Bool) : ∀ (m i : Nat), i + m = L.length → walkN parrellaw20_MissTurned_b0 e m i ((L.take i).map dbl ++ L.drop i) = e (L.map dbl)
  | 0, i, hi => by rw [List.drop_eq_nil_of_le (by omega), List.take_of_length_le (by omega), List.append_nil]; rfl
  | m + 1, i, hi => by
    have hlt : i < L.length := by omega
    have hx := h _ (getD_mem hlt)
    have el : ((L.take i).map dbl).length = i := by rw [List.length_map, List.length_take]; omega
    have eg : ((L.take i).map dbl ++ L.drop i).getD i default = L.getD i default := by
      rw [List.getD_eq_getElem?_getD, List.getElem?_append_right (by omega), el, List.getElem?_drop, List.getD_eq_getElem?_getD]; simp
    have es : ∀ x, ((L.take i).map dbl ++ L.drop i).set i x = (L.take i).map dbl ++ x :: L.drop (i + 1) := fun x => by
      rw [List.set_append_right _ _ (by omega), el, Nat.sub_self, Ri.getD_drop L i default hlt]; rfl
    rw [walkN]
    have hb : ∀ K, parrellaw20_MissTurned_b0 i ((L.take i).map dbl ++ L.drop i) K = K ((L.take (i + 1)).map dbl ++ L.drop (i + 1)) := by
      intro K
      unfold parrellaw20_MissTurned_b0
      rw [eg, if_pos (by rw [List.length_append, el, List.length_drop]; omega), if_pos (by omega), if_pos (by omega), es, take_succ' L i default hlt, List.map_append]
      simp [dbl]
    rw [hb]
    exact dbl_walk L h e m (i + 1) (by omega)
theorem turned_eq {l : List T_parrelref20_Lock} {w : List T_api_Write} {b : Int} (hb : 0 ≤ b ∧ b < 256) (hl : l.length * 40 ≤ 140737488351232) (h : ∀ x ∈ l, WfRL x) (hw : WfWs w) : parrellaw20_MissTurned l w b = some true := by
  obtain ⟨f, hf1, hf2⟩ := far_eq hl hw.len (fun x hx => (h x hx).len)
  unfold parrellaw20_MissTurned
  rw [hf1, Option.bind_some]
  cases f with
  | true => exact alive_tail
  | false =>
    obtain ⟨h1, h2, h3⟩ := hf2 rfl
    rw [if_neg Bool.false_ne_true]
    by_cases h0 : l.length = 0
    · rw [if_pos (by simp [h0])]; exact alive_tail
    · rw [if_neg (by rw [beq_iff_eq]; omega), if_pos (by omega)]
      obtain ⟨n, rfl⟩ : ∃ n : Nat, b = (n : Int) := ⟨b.toNat, by omega⟩
      have ek : Int.tmod (IntKind.wrap .i64 (n : Int)) (l.length : Int) = ((n % l.length : Nat) : Int) := by rw [w64 (by omega) (by omega), Int.ofNat_tmod]
      have hk : n % l.length < l.length := Nat.mod_lt _ (by omega)
      have hw0 := parrellaw20_MissTurned_w0 l w (n : Int)
      rw [ek] at hw0 ⊢
      rw [Int.toNat_natCast] at hw0 ⊢
      generalize n % l.length = k at hk hw0 ⊢
      rw [if_pos (by omega), if_pos (by rw [List.length_drop]; omega), if_pos (by omega), if_pos (by rw [List.length_drop, List.length_take]; omega), hw0 _ (by rw [List.length_append, List.length_drop, List.length_take]; omega)]
      have hm : ∀ x ∈ l.drop k ++ l.take k, x ∈ l := fun x hx => by
        rcases List.mem_append.1 hx with hx | hx
        · exact List.mem_of_mem_drop hx
        · exact List.mem_of_mem_take hx
      have hd := dbl_walk (l.drop k ++ l.take k) (fun x hx => h3 x (hm x hx)) (parrellaw20_MissTurned_e0 l w) (l.drop k ++ l.take k).length 0 (by omega)
      rw [List.take_zero, List.map_nil, List.nil_append, List.drop_zero] at hd
      rw [hd]
      have hT : ∀ x ∈ (l.drop k ++ l.take k).map dbl, WfRL x := fun x hx => by
        obtain ⟨y, hy, rfl⟩ := List.mem_map.1 hx
        exact dbl_wf (h y (hm y hy)) (h3 y (hm y hy))
      have lT : ((l.drop k ++ l.take k).map dbl).length ≤ 30 := by rw [List.length_map, List.length_append, List.length_drop, List.length_take]; omega
      have hwA : ∀ x ∈ l.map abR, WfAL x := fun x hx => by
        obtain ⟨y, hy, rfl⟩ := List.mem_map.1 hx
        exact (h y hy).w
      have hsame := planA_same (turn_same l k) hwA w
      generalize (l.drop k ++ l.take k).map dbl = T at hT lT hsame
      obtain ⟨p1, p2, p3⟩ := planA_bnd (l.map abR) w
      unfold parrellaw20_MissTurned_e0
      rw [theirs_eq (by omega) h, Option.bind_some, plan_eq (by rw [List.length_map]; omega) (cv_wf h) hw, Option.bind_some, ab_map, theirs_eq (by omega) hT, Option.bind_some, plan_eq (by rw [List.length_map]; omega) (cv_wf hT) hw, Option.bind_some, ab_map, ← hsame]
      generalize planA (l.map abR) w = p at p1 p2 p3
      have ep : (toM p).1 = p.1.map mM := rfl
      have eL : (toM p).1.length = p.1.length := by rw [ep, List.length_map]
      rw [parrellaw20_MissTurned_w1 _ _ [] (by omega), eL, copy_walk p.1 (toM p) ep _ p.1.length 0 [] (by omega) (by simp; omega), List.nil_append, List.drop_zero]
      unfold parrellaw20_MissTurned_e1
      have em : parrellaw20_members (toM p).1 (p.1.map mR) = some true := members_eq p.1 (by omega) (fun m hm => by have := p2 m hm; omega)
      have es : parrellaw20_sets (toM p).2.1 (toM p).2.1 = some true := sets_eq _ (by show (p.2.1.map _).length ≤ 1000; rw [List.length_map]; omega)
      rw [em, Option.bind_some, if_pos rfl, es, Option.bind_some, if_pos rfl, if_pos (by simp)]
      exact alive_tail
theorem turned_law (l : List T_parrelref20_Lock) (w : List T_api_Write) (b : Int) (h0 : (∀ a ∈ l, wfLk a) ∧ l.length * 40 ≤ 140737488351232) (h1 : (∀ a ∈ w, wfL (c_T_api_Write a)) ∧ w.length * 48 ≤ 140737488351232) (h2 : (Lit.int .u8 b).wf = true) : parrellaw20_MissTurned l w b = some true :=
  turned_eq (wf_u8 h2) h0.2 (fun x hx => wfRL_of (h0.1 x hx)) ⟨fun x hx => wfW_of (h1.1 x hx), h1.2⟩
end Go.Proofs.YtdjmfgknonkojaaDoor.Wk
