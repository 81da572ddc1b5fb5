/- Plain facts: the document's plan. -/
import Derived.Test.YtdjmfgknonkojaaDoorMissP
set_option linter.unusedVariables false
set_option linter.unusedSimpArgs false
set_option linter.unusedSectionVars false
namespace Go.Proofs.YtdjmfgknonkojaaDoor.Wk
open Go Go.Cn

def gR (g : T_parrelref19_Got) : Gr := (g.f_Node, g.f_Reg)
def abR (x : T_parrelref20_Lock) : AL := ⟨x.f_Key, x.f_Mode, x.f_Got.map gR⟩
structure WfRL (x : T_parrelref20_Lock) : Prop where
  w : WfAL (abR x)
  len : x.f_Got.length * 56 ≤ 140737488351232
theorem WfRL.got {x : T_parrelref20_Lock} (h : WfRL x) {g : T_parrelref19_Got} (hg : g ∈ x.f_Got) : (0 ≤ g.f_Node ∧ g.f_Node < 256) ∧ WfR g.f_Reg := h.w.g (gR g) (List.mem_map.2 ⟨g, hg, rfl⟩)

/-- A loop over a list that folds, where the state is of a kind. -/
theorem walkN_fold {α S T R : Type} [Inhabited α] (c : T → S) (g : T → α → T) (Q : T → Prop) (l : List α) (f : Nat → S → (S → Option R) → Option R) (e : S → Option R)
    (hf : ∀ i t k, i < l.length → Q t → f i (c t) k = k (c (g t (l.getD i default)))) (hq : ∀ i t, i < l.length → Q t → Q (g t (l.getD i default))) (t0 : T) (h0 : Q t0) : walkN f e l.length 0 (c t0) = e (c (l.foldl g t0)) := by
  have key : ∀ (m i : Nat) (t : T), i + m = l.length → Q t → walkN f e m i (c t) = e (c ((l.drop i).foldl g t)) := by
    intro m
    induction m with
    | zero => intro i t h _; rw [List.drop_eq_nil_of_le (by omega)]; rfl
    | succ m ih =>
      intro i t h hQ
      rw [walkN, hf i t _ (by omega) hQ, ih (i + 1) _ (by omega) (hq i t (by omega) hQ), Ri.getD_drop l i default (by omega)]; rfl
  exact key l.length 0 t0 (by omega) h0

theorem rmay1_eq {g : T_parrelref19_Got} (h : WfR g.f_Reg) (k0 : Unit → Option Bool) (k : Unit → Option Bool) : parrelref20_may_b1 k0 g () k = if (!gotOK (gR g)) = true then some false else k () := by
  unfold parrelref20_may_b1 gotOK
  rw [(regMay_eq h).2, Option.bind_some]
  show _ = if (!(decide (g.f_Node < 8) && mayR g.f_Reg)) = true then some false else k ()
  by_cases h8 : 8 ≤ g.f_Node
  · rw [if_pos (by simpa using h8), show decide (g.f_Node < 8) = false from decide_eq_false (by omega)]; rfl
  · rw [if_neg (by simpa using h8), show decide (g.f_Node < 8) = true from decide_eq_true (by omega), Bool.true_and]
theorem rmay_b {l : List T_parrelref20_Lock} {i : Nat} (h : WfRL (l.getD i default)) (k : Unit → Option Bool) : parrelref20_may_b0 l i () k = if (!okL (abR (l.getD i default))) = true then some false else k () := by
  have hl := h.len
  unfold parrelref20_may_b0
  rw [parrelref20_may_w1 l (i : Int) _ (by rw [Int.toNat_natCast]; omega), Int.toNat_natCast]
  generalize l.getD i default = x at h hl ⊢
  rw [keyMay_eq (k := x.f_Key) h.w.k, Option.bind_some]
  rw [walkL_any (fun g => !gotOK (gR g)) (some false) _ _ x.f_Got (fun g hg k => rmay1_eq (h.got hg).2 _ k), any_not]
  unfold parrelref20_may_e1 okL
  rw [show (abR x).g = x.f_Got.map gR from rfl, List.all_map, show (abR x).m = x.f_Mode from rfl, show (abR x).k = x.f_Key from rfl]
  show _ = if (!(mayK x.f_Key && ((decide (x.f_Mode = 1) || decide (x.f_Mode = 2)) && x.f_Got.all fun g => gotOK (gR g)))) = true then some false else k ()
  cases mayK x.f_Key with
  | false => rfl
  | true =>
    by_cases m1 : x.f_Mode < 1
    · have e1 : ¬ x.f_Mode = 1 := by omega
      have e2 : ¬ x.f_Mode = 2 := by omega
      simp [m1, e1, e2]
    · by_cases m2 : 2 < x.f_Mode
      · have e1 : ¬ x.f_Mode = 1 := by omega
        have e2 : ¬ x.f_Mode = 2 := by omega
        simp [m1, m2, e1, e2]
      · have e : x.f_Mode = 1 ∨ x.f_Mode = 2 := by omega
        have e' : (decide (x.f_Mode = 1) || decide (x.f_Mode = 2)) = true := by rcases e with e | e <;> simp [e]
        rw [e', Bool.true_and, Bool.true_and, if_neg (by simp), if_neg (by simpa using m1), if_neg (by simpa using m2)]
theorem rmay_eq {l : List T_parrelref20_Lock} (hl : l.length < 4611686018427387904) (h : ∀ x ∈ l, WfRL x) : parrelref20_may l = some ((l.map abR).all okL) := by
  unfold parrelref20_may
  rw [parrelref20_may_w0 l (by omega)]
  have e := walkN_congr (f := parrelref20_may_b0 l) (g := fun i _ k => if (!okL (abR (l.getD i default))) = true then some false else k ()) (e := parrelref20_may_e0) (e' := parrelref20_may_e0) l.length 0 (fun j _ hj s k => rmay_b (h _ (getD_mem (by omega))) k) (fun _ => rfl) ()
  rw [e, walkN_L l _ (fun a _ k => if (!okL (abR a)) = true then some false else k ()) _ (fun _ _ _ _ => rfl) (), walkL_any (fun a => !okL (abR a)) (some false) _ _ l (fun _ _ _ => rfl), any_not, List.all_map]
  show _ = some (l.all fun a => okL (abR a))
  cases l.all fun a => okL (abR a) <;> rfl
theorem orN_app (a b : List Gr) (s : Nat) : orN s (a ++ b) = orN (orN s a) b := List.foldl_append
theorem fold_orN (l : List AL) : ∀ s, l.foldl (fun s x => orN s x.g) s = orN s (gots l) := by
  induction l with
  | nil => intro s; rfl
  | cons x l ih => intro s; rw [List.foldl_cons, ih]; exact (orN_app x.g (gots l) s).symm
theorem rnodes_walk {k0 e : Int → Option Int} : ∀ (l : List T_parrelref19_Got) (s : Nat), s < 18446744073709551616 → (∀ g ∈ l, 0 ≤ g.f_Node ∧ g.f_Node < 256) → walkL (parrelref20_Nodes_b1 k0) e l (s : Int) = e ((orN s (l.map gR) : Nat) : Int)
  | [], s, _, _ => rfl
  | g :: l, s, hs, h => by
    have hb : ∀ k, parrelref20_Nodes_b1 k0 g (s : Int) k = k ((addN s g.f_Node.toNat : Nat) : Int) := by
      intro k; unfold parrelref20_Nodes_b1; rw [ofN (h g List.mem_cons_self), rwith_eq hs, Option.bind_some]
    rw [walkL, hb]
    exact rnodes_walk l _ (addN_lt hs _) (fun a ha => h a (List.mem_cons_of_mem _ ha))
theorem rnodes_eq {l : List T_parrelref20_Lock} (hl : l.length < 4611686018427387904) (h : ∀ x ∈ l, WfRL x) : parrelref20_Nodes l = some ((nodesA (l.map abR) : Nat) : Int) := by
  unfold parrelref20_Nodes
  rw [parrelref20_Nodes_w0 l 0 (by omega)]
  have := walkN_fold (R := Int) (fun s : Nat => (s : Int)) (fun s (x : T_parrelref20_Lock) => orN s (abR x).g) (fun s => s < 18446744073709551616) l (parrelref20_Nodes_b0 l) parrelref20_Nodes_e0
    (fun i t k hi hq => by
      have hx := h _ (getD_mem hi)
      have hlen := hx.len
      unfold parrelref20_Nodes_b0
      rw [parrelref20_Nodes_w1 l (i : Int) _ _ (by rw [Int.toNat_natCast]; omega) (by omega), Int.toNat_natCast, rnodes_walk _ t hq (fun g hg => (hx.got hg).1)]
      rfl) (fun i t hi hq => orN_lt _ hq) 0 (by omega)
  rw [show ((0 : Nat) : Int) = 0 from rfl] at this
  rw [this]
  unfold parrelref20_Nodes_e0 nodesA
  rw [← fold_orN, List.foldl_map]
theorem rof_walk (k : A8 Int) (e : List T_parrelref20_Lock → Option Int) : ∀ (l s : List T_parrelref20_Lock), s.length + l.length ≤ 1000 →
    walkL (parrelref20_of_b0 k) e l s = e (s ++ l.filter fun x => decide (x.f_Key = k) && decide (x.f_Mode = 2))
  | [], s, _ => by simp [walkL]
  | x :: l, s, h => by
    simp only [List.length_cons] at h
    have hb : ∀ K, parrelref20_of_b0 k x s K = if (decide (x.f_Key = k) && decide (x.f_Mode = 2)) = true then K (s ++ [x]) else K s := by
      intro K; unfold parrelref20_of_b0
      by_cases h1 : x.f_Key = k
      · by_cases h2 : x.f_Mode = 2
        · rw [if_pos (by simp [h1]), if_pos (by simp [h2]), if_pos (by simp only [List.length_singleton]; omega), if_pos (by simp [h1, h2])]
        · rw [if_pos (by simp [h1]), if_neg (by simp [h2]), if_neg (by simp [h2])]
      · rw [if_neg (by simp [h1]), if_neg (by simp [h1])]
    rw [walkL, hb, List.filter_cons]
    split
    · rw [rof_walk k e l _ (by simp only [List.length_append, List.length_singleton]; omega)]; simp
    · rw [rof_walk k e l s (by omega)]
theorem rofA_eq {l : List T_parrelref20_Lock} (hl : l.length ≤ 1000) (h : ∀ x ∈ l, WfRL x) (k : A8 Int) : parrelref20_of l k = some ((ofA (l.map abR) k : Nat) : Int) := by
  unfold parrelref20_of
  rw [parrelref20_of_w0 l k [] (by omega), rof_walk k _ l [] (by simpa using hl), List.nil_append]
  unfold parrelref20_of_e0
  have hf : (l.filter fun x => decide (x.f_Key = k) && decide (x.f_Mode = 2)).length ≤ l.length := List.length_filter_le _ _
  rw [rnodes_eq (by omega) (fun x hx => h x (List.mem_filter.1 hx).1), Option.bind_some]
  unfold ofA
  rw [List.filter_map]; rfl

/-! One node's registration -/
structure InvN (n : Nat) (l : List Gr) (r : T_api_Reg) : Prop where
  has : ∀ g ∈ l, g.1.toNat = n → r = g.2
  no : (∀ g ∈ l, g.1.toNat ≠ n) → r = zR
theorem InvN.reg {n : Nat} {l : List Gr} {r : T_api_Reg} (h : InvN n l r) : r = regG l n := by
  unfold regG
  cases hf : l.find? (fun g => decide (g.1.toNat = n)) with
  | none =>
    rw [List.find?_eq_none] at hf
    exact h.no (fun g hg => by simpa using hf g hg)
  | some g =>
    have h1 := List.mem_of_find?_eq_some hf
    have h2 := List.find?_some hf
    rw [decide_eq_true_eq] at h2
    exact h.has g h1 h2
def cR (r : T_api_Reg) : Int × Int := (r.f_Boot, r.f_N)
theorem reg_b {n : Nat} {l : List Gr} {r : T_api_Reg} (h : InvN n l r) (hl : In8 l) {g : T_parrelref19_Got} (hg : 0 ≤ g.f_Node ∧ g.f_Node < 8) (hz : g.f_Reg ≠ zR) (k0 k : Int × Int → Option (T_api_Reg × Bool)) :
    (clash (l ++ [gR g]) = true ∧ parrelref20_reg_b1 (n : Int) k0 g (cR r) k = some (r, false)) ∨ (∃ r', InvN n (l ++ [gR g]) r' ∧ parrelref20_reg_b1 (n : Int) k0 g (cR r) k = k (cR r')) := by
  have er : T_api_Reg.mk (cR r).1 (cR r).2 = r := rfl
  unfold parrelref20_reg_b1
  rw [ofN (by omega), er]
  by_cases hn : g.f_Node.toNat = n
  · rw [if_neg (by simp [hn])]
    by_cases h0 : r = zR
    · refine .inr ⟨g.f_Reg, ⟨fun a ha e => ?_, fun hno => absurd hn (hno (gR g) (by simp))⟩, ?_⟩
      · rcases List.mem_append.1 ha with ha | ha
        · exact absurd ((h.has a ha e).symm.trans h0) (hl a ha).2
        · rw [List.mem_singleton] at ha; subst ha; rfl
      · have h0' : r = T_api_Reg.mk 0 0 := h0
        rw [if_neg (by simp [h0'])]; rfl
    · have h0' : ¬ r = T_api_Reg.mk 0 0 := h0
      rw [if_pos (by simp [h0'])]
      by_cases he : r = g.f_Reg
      · refine .inr ⟨g.f_Reg, ⟨fun a ha e => ?_, fun hno => absurd hn (hno (gR g) (by simp))⟩, ?_⟩
        · rcases List.mem_append.1 ha with ha | ha
          · rw [← he]; exact h.has a ha e
          · rw [List.mem_singleton] at ha; subst ha; rfl
        · rw [if_neg (by simp [he])]; rfl
      · refine .inl ⟨?_, by rw [if_pos (by simp [he])]⟩
        by_cases hex : ∃ a ∈ l, a.1.toNat = n
        · obtain ⟨a, ha, e⟩ := hex
          have h8 := (hl a ha).1
          exact clash_iff.2 ⟨a, List.mem_append_left _ ha, gR g, by simp, by show a.1 = g.f_Node; omega, fun e2 => he ((h.has a ha e).trans e2)⟩
        · exact absurd (h.no (fun a ha e => hex ⟨a, ha, e⟩)) h0
  · rw [if_pos (by simp; omega)]
    refine .inr ⟨r, ⟨fun a ha e => ?_, fun hno => h.no (fun a ha => hno a (List.mem_append_left _ ha))⟩, rfl⟩
    rcases List.mem_append.1 ha with ha | ha
    · exact h.has a ha e
    · rw [List.mem_singleton] at ha; subst ha; exact absurd e hn
theorem reg_walk {n : Nat} {k0 e : Int × Int → Option (T_api_Reg × Bool)} : ∀ (q : List T_parrelref19_Got) (l : List Gr) (r : T_api_Reg), InvN n l r → In8 l → In8 (q.map gR) →
    (clash (l ++ q.map gR) = true ∧ ∃ r', walkL (parrelref20_reg_b1 (n : Int) k0) e q (cR r) = some (r', false)) ∨ (∃ r', InvN n (l ++ q.map gR) r' ∧ walkL (parrelref20_reg_b1 (n : Int) k0) e q (cR r) = e (cR r'))
  | [], l, r, h, _, _ => .inr ⟨r, by simpa using h, rfl⟩
  | g :: q, l, r, h, hl, hr => by
    have hg := hr (gR g) (by simp)
    rw [walkL]
    have e1 : l ++ (g :: q).map gR = (l ++ [gR g]) ++ q.map gR := by simp
    rw [e1]
    rcases reg_b h hl hg.1 hg.2 k0 (walkL (parrelref20_reg_b1 (n : Int) k0) e q) with ⟨h1, h2⟩ | ⟨r', h1, h2⟩
    · exact .inl ⟨clash_app h1, _, h2⟩
    · rw [h2]
      refine reg_walk q (l ++ [gR g]) r' h1 (fun a ha => ?_) (fun a ha => hr a (by rw [List.map_cons]; exact List.mem_cons_of_mem _ ha))
      rcases List.mem_append.1 ha with ha | ha
      · exact hl a ha
      · rw [List.mem_singleton] at ha; subst ha; exact hg
theorem reg_eq {l : List T_parrelref20_Lock} (hl : l.length < 4611686018427387904) (h : ∀ x ∈ l, WfRL x) (h8 : In8 (gots (l.map abR))) (n : Nat) :
    (clash (gots (l.map abR)) = true ∧ ∃ r', parrelref20_reg l (n : Int) = some (r', false)) ∨ (∃ r', InvN n (gots (l.map abR)) r' ∧ parrelref20_reg l (n : Int) = some (r', true)) := by
  unfold parrelref20_reg
  rw [parrelref20_reg_w0 l _ _ _ (by omega)]
  have key : ∀ (m i : Nat) (r : T_api_Reg), i + m = l.length → InvN n (gots ((l.take i).map abR)) r →
      (clash (gots (l.map abR)) = true ∧ ∃ r', walkN (parrelref20_reg_b0 l (n : Int)) parrelref20_reg_e0 m i (cR r) = some (r', false)) ∨ (∃ r', InvN n (gots (l.map abR)) r' ∧ walkN (parrelref20_reg_b0 l (n : Int)) parrelref20_reg_e0 m i (cR r) = some (r', true)) := by
    intro m
    induction m with
    | zero =>
      intro i r hi hr
      rw [List.take_of_length_le (by omega)] at hr
      exact .inr ⟨r, hr, rfl⟩
    | succ m ih =>
      intro i r hi hr
      have hlt : i < l.length := by omega
      have hx := h _ (getD_mem hlt)
      have hlen := hx.len
      have et : l.take (i + 1) = l.take i ++ [l.getD i default] := take_succ' l i default hlt
      have eg : gots ((l.take (i + 1)).map abR) = gots ((l.take i).map abR) ++ (l.getD i default).f_Got.map gR := by
        rw [et, List.map_append, gots_app]; simp [gots, abR]
      have esplit : gots (l.map abR) = gots ((l.take (i + 1)).map abR) ++ gots ((l.drop (i + 1)).map abR) := by
        rw [← gots_app, ← List.map_append, List.take_append_drop]
      have hin : In8 (gots ((l.take (i + 1)).map abR)) := fun g hg => h8 g (by rw [esplit]; exact List.mem_append_left _ hg)
      rw [walkN]
      unfold parrelref20_reg_b0
      rw [parrelref20_reg_w1 l _ _ _ _ _ (by rw [Int.toNat_natCast]; omega) (by omega), Int.toNat_natCast]
      rcases reg_walk (n := n) (k0 := fun s_ => walkN (parrelref20_reg_b0 l (n : Int)) parrelref20_reg_e0 m (i + 1) (s_.1, s_.2)) (e := parrelref20_reg_e1 (fun s_ => walkN (parrelref20_reg_b0 l (n : Int)) parrelref20_reg_e0 m (i + 1) (s_.1, s_.2))) (l.getD i default).f_Got _ r hr (fun g hg => hin g (by rw [eg]; exact List.mem_append_left _ hg)) (fun g hg => hin g (by rw [eg]; exact List.mem_append_right _ hg)) with ⟨h1, r', h2⟩ | ⟨r', h1, h2⟩
      · refine .inl ⟨?_, r', h2⟩
        rw [← eg] at h1
        rw [esplit]; exact clash_app h1
      · rw [← eg] at h1
        have := ih (i + 1) r' (by omega) h1
        rcases this with ⟨g1, r'', g2⟩ | ⟨r'', g1, g2⟩
        · exact .inl ⟨g1, r'', h2.trans g2⟩
        · exact .inr ⟨r'', g1, h2.trans g2⟩
  exact key l.length 0 zR (by omega) ⟨(fun g hg => by cases hg), fun _ => rfl⟩

/-! The plan -/
def toR (p : Pl) : List T_parrelref18_Member × List Int × Int := (p.1.map fun m => T_parrelref18_Member.mk (m.1 : Int) m.2.1 m.2.2 0, p.2.1.map fun n => ((n : Nat) : Int), p.2.2)
abbrev RP := List T_parrelref18_Member × List Int × Int
theorem rmem_walk {l : List T_parrelref20_Lock} (hl : l.length ≤ 1000) (h : ∀ x ∈ l, WfRL x) {y : List Int} {i n : Nat} (hi : i < y.length) (hn : y.getD i default = (n : Int)) (k0 : List T_parrelref18_Member → Option RP) (e : List T_api_Write → Option RP) : ∀ (w s : List T_api_Write), s.length + w.length ≤ 1000 →
    walkL (parrelref20_Plan_b1 l (i : Int) y k0) e w s = e (s ++ w.filter fun x => (ofA (l.map abR) x.f_Key).testBit n)
  | [], s, _ => by simp [walkL]
  | x :: w, s, hs => by
    simp only [List.length_cons] at hs
    have hb : ∀ K, parrelref20_Plan_b1 l (i : Int) y k0 x s K = if (ofA (l.map abR) x.f_Key).testBit n = true then K (s ++ [x]) else K s := by
      intro K; unfold parrelref20_Plan_b1
      rw [rofA_eq hl h, Option.bind_some, if_pos (by omega), Int.toNat_natCast, hn, rhas_eq (ofA_lt _ _), Option.bind_some]
      split
      · rw [if_pos (by simp only [List.length_singleton]; omega)]
      · rfl
    rw [walkL, hb, List.filter_cons]
    split
    · rw [rmem_walk hl h hi hn k0 e w _ (by simp only [List.length_append, List.length_singleton]; omega)]; simp
    · rw [rmem_walk hl h hi hn k0 e w s (by omega)]
theorem rmiss_walk {l : List T_parrelref20_Lock} (hl : l.length ≤ 1000) (h : ∀ x ∈ l, WfRL x) {w : List T_api_Write} (hw : ∀ x ∈ w, WfW x) (ms : List T_parrelref18_Member) : ∀ (m i : Nat) (s : List Int), i + m = w.length → s.length + m ≤ 1000 →
    walkN (parrelref20_Plan_b3 l w ms) (parrelref20_Plan_e3 ms) m i s = if ((w.drop i).any fun x => !canW x.f_Item.f_Conf (ofA (l.map abR) x.f_Key)) = true then some ([], [], 16) else some (ms, s ++ (w.drop i).map (fun x => ((missV x.f_Item.f_Conf (ofA (l.map abR) x.f_Key) : Nat) : Int)), 0)
  | 0, i, s, hi, _ => by rw [List.drop_eq_nil_of_le (by omega)]; simp [walkN, parrelref20_Plan_e3]
  | m + 1, i, s, hi, hs => by
    have hlt : i < w.length := by omega
    have hx := hw _ (getD_mem hlt)
    have hb : ∀ K, parrelref20_Plan_b3 l w ms i s K = if canW (w.getD i default).f_Item.f_Conf (ofA (l.map abR) (w.getD i default).f_Key) = true then K (s ++ [((missV (w.getD i default).f_Item.f_Conf (ofA (l.map abR) (w.getD i default).f_Key) : Nat) : Int)]) else some ([], [], 16) := by
      intro K; unfold parrelref20_Plan_b3
      have hW := hx.i.c.w
      rw [rofA_eq hl h, Option.bind_some, rof_eq hx.i.c (ofA_lt _ _), Option.bind_some, w64 (by omega) (by omega)]
      unfold canW
      by_cases hc : (w.getD i default).f_Item.f_Conf.f_W ≤ sumV (w.getD i default).f_Item.f_Conf (ofA (l.map abR) (w.getD i default).f_Key)
      · rw [if_neg (by simp only [decide_eq_true_eq]; omega), if_pos (by simpa using hc), parrelref20_Plan_w4 _ _ _ _ _ _ _ _ (by decide),
          setOf_walk (fun n => voterV (w.getD i default).f_Item.f_Conf n && !(ofA (l.map abR) (w.getD i default).f_Key).testBit n) _ _ (fun n hn x hx k => by
            unfold parrelref20_Plan_b4 voterV
            rw [Int.toNat_natCast, rhas_eq (ofA_lt _ _), Option.bind_some, rwith_eq hx, Option.bind_some]
            cases decide (0 < A8.get (w.getD i default).f_Item.f_Conf.f_Votes n) <;> cases (ofA (l.map abR) (w.getD i default).f_Key).testBit n <;> rfl)]
        unfold parrelref20_Plan_e4
        rw [if_pos (by simp only [List.length_singleton]; omega)]
        have e : setOf (fun n => voterV (w.getD i default).f_Item.f_Conf n && !(ofA (l.map abR) (w.getD i default).f_Key).testBit n) = missV (w.getD i default).f_Item.f_Conf (ofA (l.map abR) (w.getD i default).f_Key) := by
          refine Nat.eq_of_testBit_eq fun j => ?_
          rw [setOf_bit, missV_bit, Bool.and_assoc]
        rw [e]
      · rw [if_pos (by simp only [decide_eq_true_eq]; omega), if_neg (by simpa using hc)]
    rw [walkN, hb, Ri.getD_drop w i default hlt, List.any_cons]
    cases canW (w.getD i default).f_Item.f_Conf (ofA (l.map abR) (w.getD i default).f_Key) with
    | false => rfl
    | true => rw [if_pos rfl, rmiss_walk hl h hw ms m (i + 1) _ (by omega) (by simp only [List.length_append, List.length_singleton]; omega)]; simp
theorem rplan_tail {l : List T_parrelref20_Lock} (hl : l.length ≤ 1000) (h : ∀ x ∈ l, WfRL x) {w : List T_api_Write} (hw : ∀ x ∈ w, WfW x) (hwl : w.length ≤ 16) (ms : List T_parrelref18_Member) :
    parrelref20_Plan_e0 l w ms = if (w.any fun x => decide (ofA (l.map abR) x.f_Key = 0)) = true then some ([], [], 6) else if (w.any fun x => !canW x.f_Item.f_Conf (ofA (l.map abR) x.f_Key)) = true then some ([], [], 16)
      else some (ms, w.map (fun x => ((missV x.f_Item.f_Conf (ofA (l.map abR) x.f_Key) : Nat) : Int)), 0) := by
  unfold parrelref20_Plan_e0
  rw [parrelref20_Plan_w2 l w ms (by omega), walkL_any (fun x => decide (ofA (l.map abR) x.f_Key = 0)) (some ([], [], 6)) _ _ w (fun x _ k => by
    unfold parrelref20_Plan_b2
    rw [rofA_eq hl h, Option.bind_some]
    by_cases h0 : ofA (l.map abR) x.f_Key = 0
    · rw [if_pos (by simp [h0]), if_pos (by simp [h0])]
    · rw [if_neg (by simp; omega), if_neg (by simp [h0])])]
  unfold parrelref20_Plan_e2
  rw [parrelref20_Plan_w3 l w ms [] (by omega), rmiss_walk hl h hw ms w.length 0 [] (by omega) (by simp; omega), List.drop_zero, List.nil_append]
theorem rplan_eq {l : List T_parrelref20_Lock} {w : List T_api_Write} (hl : l.length ≤ 1000) (h : ∀ x ∈ l, WfRL x) (hw : WfWs w) : parrelref20_Plan l w = some (toR (planA (l.map abR) w)) := by
  unfold parrelref20_Plan planA
  rw [rmay_eq (by omega) h, Option.bind_some]
  cases hok : (l.map abR).all okL with
  | false => rfl
  | true =>
    rw [if_neg (by simp), refWritesMay_eq hw, Option.bind_some]
    cases hmw : mayW w with
    | false => rfl
    | true =>
      have hwl : w.length ≤ 16 := (mayW_rises hmw).2
      have hwA : ∀ x ∈ l.map abR, WfAL x := fun x hx => by
        obtain ⟨y, hy, rfl⟩ := List.mem_map.1 hx
        exact (h y hy).w
      have h8 := gots_in hwA hok
      rw [if_neg (by simp), rnodes_eq (by omega) h, Option.bind_some, rlist_eq (nodesA_lt _), Option.bind_some, if_neg (by simp), if_neg (by simp)]
      have hL : bitsL ((nodesA (l.map abR) : Nat) : Int) = ((List.range 64).filter (nodesA (l.map abR)).testBit).map fun (i : Nat) => (i : Int) := by simp [bitsL]
      have hlen := bitsL_len ((nodesA (l.map abR) : Nat) : Int)
      rw [parrelref20_Plan_w0 l w _ [] (by omega)]
      generalize hy : bitsL ((nodesA (l.map abR) : Nat) : Int) = y at hL hlen ⊢
      generalize hq : (List.range 64).filter (nodesA (l.map abR)).testBit = q at hL
      have hq8 : ∀ n ∈ q, n < 8 := fun n hn => by rw [← hq, List.mem_filter] at hn; exact nodes8 h8 hn.2
      have hyq : y.length = q.length := by rw [hL, List.length_map]
      have key : ∀ (m i : Nat) (s : List T_parrelref18_Member), i + m = q.length → s.length + m ≤ 64 →
          (clash (gots (l.map abR)) = true ∧ walkN (parrelref20_Plan_b0 l w y) (parrelref20_Plan_e0 l w) m i s = some ([], [], 14)) ∨
          ((∀ n ∈ q.drop i, ∃ r, InvN n (gots (l.map abR)) r) ∧ walkN (parrelref20_Plan_b0 l w y) (parrelref20_Plan_e0 l w) m i s = parrelref20_Plan_e0 l w (s ++ (q.drop i).map fun (n : Nat) => T_parrelref18_Member.mk (n : Int) (regA (l.map abR) n) (w.filter fun x => (ofA (l.map abR) x.f_Key).testBit n) 0)) := by
        intro m
        induction m with
        | zero =>
          intro i s hi _
          refine .inr ⟨fun n hn => ?_, ?_⟩
          · rw [List.drop_eq_nil_of_le (by omega)] at hn; cases hn
          · rw [List.drop_eq_nil_of_le (by omega)]; simp [walkN]
        | succ m ih =>
          intro i s hi hs
          have hlt : i < q.length := by omega
          have hqi : q.getD i default < 8 := hq8 _ (getD_mem hlt)
          have hyi : y.getD i default = ((q.getD i default : Nat) : Int) := by rw [hL]; exact getD_map _ hlt
          rw [walkN]
          unfold parrelref20_Plan_b0
          rw [hyi]
          rcases reg_eq (by omega) h h8 (q.getD i default) with ⟨h1, r', h2⟩ | ⟨r', h1, h2⟩
          · exact .inl ⟨h1, by rw [h2]; rfl⟩
          · rw [h2, Option.bind_some, if_neg (by simp), parrelref20_Plan_w1 _ _ _ _ _ _ _ _ (by omega), rmem_walk hl h (by omega) hyi _ _ w [] (by simp; omega), List.nil_append]
            have hmk : ∀ K, parrelref20_Plan_e1 (i : Int) s y (r', true) K (w.filter fun x => (ofA (l.map abR) x.f_Key).testBit (q.getD i default)) = K (s ++ [T_parrelref18_Member.mk ((q.getD i default : Nat) : Int) (regA (l.map abR) (q.getD i default)) (w.filter fun x => (ofA (l.map abR) x.f_Key).testBit (q.getD i default)) 0]) := by
              intro K
              unfold parrelref20_Plan_e1
              rw [if_pos (by simp only [List.length_singleton]; omega), Int.toNat_natCast, hyi, wu8 (by omega) (by omega), h1.reg]; rfl
            rw [hmk]
            rcases ih (i + 1) (s ++ [T_parrelref18_Member.mk ((q.getD i default : Nat) : Int) (regA (l.map abR) (q.getD i default)) (w.filter fun x => (ofA (l.map abR) x.f_Key).testBit (q.getD i default)) 0]) (by omega) (by simp only [List.length_append, List.length_singleton]; omega) with ⟨g1, g2⟩ | ⟨g1, g2⟩
            · exact .inl ⟨g1, g2⟩
            · refine .inr ⟨fun n hn => ?_, ?_⟩
              · rw [Ri.getD_drop q i default hlt] at hn
                rcases List.mem_cons.1 hn with rfl | hn
                · exact ⟨r', h1⟩
                · exact g1 n hn
              · refine g2.trans ?_
                rw [Ri.getD_drop q i default hlt]; simp
      rw [hyq]
      rcases key q.length 0 [] (by omega) (by simp; omega) with ⟨h1, h2⟩ | ⟨h1, h2⟩
      · rw [h2, h1]; rfl
      · have hnc : clash (gots (l.map abR)) = false := by
          cases hc : clash (gots (l.map abR)) with
          | false => rfl
          | true =>
            obtain ⟨a, ha, b, hb, e, ne⟩ := clash_iff.1 hc
            have hbit : (nodesA (l.map abR)).testBit a.1.toNat = true := by
              obtain ⟨x, hx, hax⟩ := mem_gots.1 ha
              have := (h8 a ha).1
              exact nodesA_bit.2 ⟨by omega, x, hx, a, hax, rfl⟩
            have ha8 := (h8 a ha).1
            obtain ⟨r, hr⟩ := h1 a.1.toNat (by rw [List.drop_zero, ← hq, List.mem_filter, List.mem_range]; exact ⟨by omega, hbit⟩)
            exact absurd ((hr.has a ha rfl).symm.trans (hr.has b hb (by rw [e]))) ne
        rw [h2, hnc, if_neg Bool.false_ne_true, rplan_tail hl h hw.w hwl, List.drop_zero, List.nil_append]
        cases (w.any fun x => decide (ofA (l.map abR) x.f_Key = 0)) with
        | true => rfl
        | false =>
          cases (w.any fun x => !canW x.f_Item.f_Conf (ofA (l.map abR) x.f_Key)) with
          | true => rfl
          | false =>
            rw [if_neg Bool.false_ne_true, if_neg Bool.false_ne_true, if_neg Bool.false_ne_true, if_neg Bool.false_ne_true]
            unfold toR mems misses
            rw [hq, List.map_map, List.map_map]; rfl
end Go.Proofs.YtdjmfgknonkojaaDoor.Wk
