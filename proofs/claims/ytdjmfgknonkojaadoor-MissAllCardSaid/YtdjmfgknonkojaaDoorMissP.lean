/- Plain facts: the program's plan. -/
import Derived.Test.YtdjmfgknonkojaaDoorMissD
set_option linter.unusedVariables false
set_option linter.unusedSimpArgs false
set_option linter.unusedSectionVars false
namespace Go.Proofs.YtdjmfgknonkojaaDoor.Wk
open Go Go.Cn

def gM (g : T_gather_Got) : Gr := (g.f_Node, g.f_Reg)
def abM (x : T_miss_Lock) : AL := ⟨x.f_Key, x.f_Mode, x.f_Got.map gM⟩
structure WfM (x : T_miss_Lock) : Prop where
  w : WfAL (abM x)
  len : x.f_Got.length < 4611686018427387904
theorem WfM.got {x : T_miss_Lock} (h : WfM x) {g : T_gather_Got} (hg : g ∈ x.f_Got) : (0 ≤ g.f_Node ∧ g.f_Node < 256) ∧ WfR g.f_Reg := h.w.g (gM g) (List.mem_map.2 ⟨g, hg, rfl⟩)

theorem may1_eq {g : T_gather_Got} (h : WfR g.f_Reg) : miss_Lock_may_L1 g = some (!gotOK (gM g)) := by
  unfold miss_Lock_may_L1 gotOK
  rw [(regMay_eq h).1, Option.bind_some]
  show _ = some (!(decide (g.f_Node < 8) && mayR g.f_Reg))
  by_cases h8 : 8 ≤ g.f_Node
  · rw [if_pos (by simpa using h8), show decide (g.f_Node < 8) = false from decide_eq_false (by omega)]; rfl
  · rw [if_neg (by simpa using h8), show decide (g.f_Node < 8) = true from decide_eq_true (by omega), Bool.true_and]
theorem any_not {α : Type} (p : α → Bool) (l : List α) : (l.any fun a => !p a) = !l.all p := by
  induction l with
  | nil => rfl
  | cons a l ih => simp [ih]
theorem contains1 {s : List T_gather_Got} (hl : s.length < 4611686018427387904) (h : ∀ g ∈ s, WfR g.f_Reg) : slices_ContainsFunc_gather_Got_gather_Got s = some (!(s.map gM).all gotOK) := by
  unfold slices_ContainsFunc_gather_Got_gather_Got slices_IndexFunc_gather_Got_gather_Got
  rw [slices_IndexFunc_gather_Got_gather_Got_w0 s (by omega)]
  have := walk_find (fun g => !gotOK (gM g)) miss_Lock_may_L1 s (fun g hg => may1_eq (h g hg))
  show (walkN _ _ s.length 0 ()).bind _ = _
  rw [show walkN (slices_IndexFunc_gather_Got_gather_Got_b0 s) slices_IndexFunc_gather_Got_gather_Got_e0 s.length 0 () = _ from this, Option.bind_some, find_any, any_not]
  rw [List.all_map]; rfl
theorem may_eq {x : T_miss_Lock} (h : WfM x) : miss_Lock_may x = some (okL (abM x)) := by
  obtain ⟨s, h1, _⟩ := mayK_eq x.f_Key h.w.k
  unfold miss_Lock_may
  rw [h1, Option.bind_some, contains1 h.len (fun g hg => (h.got hg).2)]
  show _ = some (mayK x.f_Key && ((decide (x.f_Mode = 1) || decide (x.f_Mode = 2)) && (x.f_Got.map gM).all gotOK))
  cases mayK x.f_Key with
  | false => rfl
  | true =>
    by_cases m1 : x.f_Mode = 1
    · rw [if_pos rfl, if_pos (by simp [m1])]; simp [m1]
    · by_cases m2 : x.f_Mode = 2
      · rw [if_pos rfl, if_neg (by simp [m1]), if_pos (by simp [m2])]; simp [m2]
      · rw [if_pos rfl, if_neg (by simp [m1]), if_neg (by simp [m2])]; simp [m1, m2]
theorem contains2 {s : List T_miss_Lock} (hl : s.length < 4611686018427387904) (h : ∀ x ∈ s, WfM x) : slices_ContainsFunc_miss_Lock_miss_Lock s = some (!(s.map abM).all okL) := by
  unfold slices_ContainsFunc_miss_Lock_miss_Lock slices_IndexFunc_miss_Lock_miss_Lock
  rw [slices_IndexFunc_miss_Lock_miss_Lock_w0 s (by omega)]
  have := walk_find (fun x => !okL (abM x)) miss_Plan_L1 s (fun x hx => by unfold miss_Plan_L1; rw [may_eq (h x hx)]; rfl)
  rw [show walkN (slices_IndexFunc_miss_Lock_miss_Lock_b0 s) slices_IndexFunc_miss_Lock_miss_Lock_e0 s.length 0 () = _ from this, Option.bind_some, find_any, any_not]
  rw [List.all_map]; rfl

theorem ofN {n : Int} (h : 0 ≤ n ∧ n < 256) : IntKind.wrap .i64 n = ((n.toNat : Nat) : Int) := by rw [w64 (by omega) (by omega)]; omega
theorem lnodes_walk : ∀ (l : List T_gather_Got) (s : Nat), s < 18446744073709551616 → (∀ g ∈ l, 0 ≤ g.f_Node ∧ g.f_Node < 256) → walkL miss_Lock_nodes_b0 miss_Lock_nodes_e0 l (s : Int) = some ((orN s (l.map gM) : Nat) : Int)
  | [], s, _, _ => rfl
  | g :: l, s, hs, h => by
    rw [walkL]
    unfold miss_Lock_nodes_b0
    rw [ofN (h g List.mem_cons_self), with_eq hs, Option.bind_some]
    exact lnodes_walk l _ (addN_lt hs _) (fun a ha => h a (List.mem_cons_of_mem _ ha))
theorem lnodes_eq {x : T_miss_Lock} (h : WfM x) : miss_Lock_nodes x = some ((orN 0 (abM x).g : Nat) : Int) := by
  have := h.len
  unfold miss_Lock_nodes
  rw [miss_Lock_nodes_w0 x 0 (by omega)]
  exact lnodes_walk x.f_Got 0 (by omega) (fun g hg => (h.got hg).1)
theorem nodes_walk : ∀ (l : List T_miss_Lock) (s : Nat), s < 18446744073709551616 → (∀ x ∈ l, WfM x) → walkL miss_Nodes_b0 miss_Nodes_e0 l (s : Int) = some ((orN s (gots (l.map abM)) : Nat) : Int)
  | [], s, _, _ => rfl
  | x :: l, s, hs, h => by
    have hx := orN_lt (abM x).g (s := 0) (by omega)
    rw [walkL]
    unfold miss_Nodes_b0
    rw [lnodes_eq (h x List.mem_cons_self), Option.bind_some, or_u s _ hs hx]
    rw [show walkL (fun a_ s_ k_ => (miss_Lock_nodes a_).bind fun yL0_4 => k_ (IntKind.wrap .u64 ((BitVec.ofInt (IntKind.bits .u64) s_ ||| BitVec.ofInt (IntKind.bits .u64) yL0_4).toNat : Int))) miss_Nodes_e0 l ((s ||| orN 0 (abM x).g : Nat) : Int) = _ from nodes_walk l _ (or_lt hs hx) (fun a ha => h a (List.mem_cons_of_mem _ ha))]
    congr 2
    refine ext_bit fun i => ?_
    rw [orN_bit, orN_bit, Nat.testBit_or, Bool.or_eq_true, orN_bit, Nat.zero_testBit, List.map_cons]
    show _ ↔ _ ∨ (i < 64 ∧ ∃ g ∈ (abM x).g ++ gots (l.map abM), g.1.toNat = i)
    constructor
    · rintro ((h1 | (h1 | ⟨h1, g, hg, e⟩)) | ⟨h1, g, hg, e⟩)
      · exact .inl h1
      · cases h1
      · exact .inr ⟨h1, g, List.mem_append_left _ hg, e⟩
      · exact .inr ⟨h1, g, List.mem_append_right _ hg, e⟩
    · rintro (h1 | ⟨h1, g, hg, e⟩)
      · exact .inl (.inl h1)
      · rcases List.mem_append.1 hg with hg | hg
        · exact .inl (.inr (.inr ⟨h1, g, hg, e⟩))
        · exact .inr ⟨h1, g, hg, e⟩
theorem nodes_eq {l : List T_miss_Lock} (hl : l.length < 4611686018427387904) (h : ∀ x ∈ l, WfM x) : miss_Nodes l = some ((nodesA (l.map abM) : Nat) : Int) := by
  unfold miss_Nodes
  rw [miss_Nodes_w0 l 0 (by omega)]
  exact nodes_walk l 0 (by omega) h

/-! Taking the locks -/
theorem take_b {W : List (A8 Int × Int)} {l : List Gr} {B : A8 T_api_Reg} (h : Inv l B) (hl : In8 l) {g : T_gather_Got} (hg : 0 ≤ g.f_Node ∧ g.f_Node < 8) (hz : g.f_Reg ≠ zR) (k : A8 T_api_Reg → Option (Bool × A8 T_api_Reg × List (A8 Int × Int))) :
    (clash (l ++ [gM g]) = true ∧ miss_plan_take_b0 W g B k = some (false, B, W)) ∨ (∃ B', Inv (l ++ [gM g]) B' ∧ miss_plan_take_b0 W g B k = k B') := by
  unfold miss_plan_take_b0
  rw [if_pos hg]
  rcases h.step hl (gM g) hg hz with ⟨h1, h2, a, ha, e, ne⟩ | ⟨h1, h2⟩
  · refine .inl ⟨clash_iff.2 ⟨a, List.mem_append_left _ ha, gM g, by simp, e, ne⟩, ?_⟩
    have h1' : ¬ A8.get B g.f_Node.toNat = T_api_Reg.mk 0 0 := h1
    have h2' : ¬ A8.get B g.f_Node.toNat = g.f_Reg := h2
    rw [if_pos (by simp [h1']), if_pos (by simp [h2'])]
  · refine .inr ⟨_, h2, ?_⟩
    have h1' : A8.get B g.f_Node.toNat = T_api_Reg.mk 0 0 ∨ A8.get B g.f_Node.toNat = g.f_Reg := h1
    by_cases hh : A8.get B g.f_Node.toNat = T_api_Reg.mk 0 0
    · rw [if_neg (by simp [hh])]; rfl
    · have := h1'.resolve_left hh
      rw [if_pos (by simp [hh]), if_neg (by simp [this])]; rfl
theorem clash_app {l m : List Gr} (h : clash l = true) : clash (l ++ m) = true := by
  obtain ⟨a, ha, b, hb, e⟩ := clash_iff.1 h
  exact clash_iff.2 ⟨a, List.mem_append_left _ ha, b, List.mem_append_left _ hb, e⟩
theorem take_walk {W : List (A8 Int × Int)} {e : A8 T_api_Reg → Option (Bool × A8 T_api_Reg × List (A8 Int × Int))} : ∀ (r : List T_gather_Got) (l : List Gr) (B : A8 T_api_Reg), Inv l B → In8 l → In8 (r.map gM) →
    (clash (l ++ r.map gM) = true ∧ ∃ B', walkL (miss_plan_take_b0 W) e r B = some (false, B', W)) ∨ (∃ B', Inv (l ++ r.map gM) B' ∧ walkL (miss_plan_take_b0 W) e r B = e B')
  | [], l, B, h, _, _ => .inr ⟨B, by simpa using h, rfl⟩
  | g :: r, l, B, h, hl, hr => by
    have hg := hr (gM g) (by simp)
    rw [walkL]
    have e1 : l ++ (g :: r).map gM = (l ++ [gM g]) ++ r.map gM := by simp
    rw [e1]
    rcases take_b (W := W) h hl hg.1 hg.2 (walkL (miss_plan_take_b0 W) e r) with ⟨h1, h2⟩ | ⟨B', h1, h2⟩
    · exact .inl ⟨clash_app h1, B, h2⟩
    · rw [h2]
      refine take_walk r (l ++ [gM g]) B' h1 (fun a ha => ?_) (fun a ha => hr a (by rw [List.map_cons]; exact List.mem_cons_of_mem _ ha))
      rcases List.mem_append.1 ha with ha | ha
      · exact hl a ha
      · rw [List.mem_singleton] at ha; subst ha; exact hg
/-- The map of who writes. -/
def WM (A : List AL) (m : List (A8 Int × Int)) : Prop := ∀ k, (mget m k).getD default = ((ofA A k : Nat) : Int)
theorem take_eq {A : List AL} {m : List (A8 Int × Int)} {B : A8 T_api_Reg} {x : T_miss_Lock} (h : Inv (gots A) B) (hm : WM A m) (hA : In8 (gots A)) (hx : WfM x) (hx8 : In8 (abM x).g) :
    (clash (gots (A ++ [abM x])) = true ∧ ∃ r, miss_plan_take B m x = some (false, r)) ∨ (∃ B' m', Inv (gots (A ++ [abM x])) B' ∧ WM (A ++ [abM x]) m' ∧ miss_plan_take B m x = some (true, B', m')) := by
  have hl := hx.len
  unfold miss_plan_take
  rw [miss_plan_take_w0 B m x B (by omega)]
  have eg : gots (A ++ [abM x]) = gots A ++ x.f_Got.map gM := by rw [gots_app]; simp [gots, abM]
  rw [eg]
  rcases take_walk (W := m) (e := miss_plan_take_e0 m x) x.f_Got (gots A) B h hA hx8 with ⟨h1, B', h2⟩ | ⟨B', h1, h2⟩
  · exact .inl ⟨h1, _, h2⟩
  · refine .inr ?_
    rw [h2]
    unfold miss_plan_take_e0
    by_cases h2m : x.f_Mode = 2
    · rw [if_pos (by simp [h2m]), lnodes_eq hx, Option.bind_some, hm x.f_Key, or_u _ _ (ofA_lt _ _) (orN_lt _ (by omega))]
      refine ⟨B', _, h1, fun k => ?_, rfl⟩
      rw [mget_mset, ofA_snoc]
      by_cases hk : k = x.f_Key
      · subst hk
        rw [if_pos rfl, if_pos ⟨rfl, h2m⟩]; rfl
      · rw [if_neg hk, if_neg (fun e => hk e.1)]; exact hm k
    · rw [if_neg (by simp [h2m])]
      refine ⟨B', m, h1, fun k => ?_, rfl⟩
      rw [ofA_snoc, if_neg (fun e => h2m e.2)]; exact hm k

/-! Who gets, and who misses -/
def toM (p : Pl) : List T_coord_Member × List Int × Int := (p.1.map fun m => T_coord_Member.mk (m.1 : Int) m.2.1 m.2.2, p.2.1.map fun n => ((n : Nat) : Int), p.2.2)
theorem contains3 {A : List AL} {w : List T_api_Write} {m : List (A8 Int × Int)} {B : A8 T_api_Reg} (hw : w.length < 4611686018427387904) (hm : WM A m) : slices_ContainsFunc_api_Write_api_Write w B m = some (w.any fun x => decide (ofA A x.f_Key = 0)) := by
  unfold slices_ContainsFunc_api_Write_api_Write slices_IndexFunc_api_Write_api_Write
  rw [slices_IndexFunc_api_Write_api_Write_w0 w B m (by omega)]
  have := walk_find (fun x => decide (ofA A x.f_Key = 0)) (fun x => miss_Plan_L2 x B m) w (fun x _ => by
    show some _ = some _
    rw [hm x.f_Key]
    congr 1
    rw [Bool.eq_iff_iff, beq_iff_eq, decide_eq_true_eq]; omega)
  rw [show walkN (slices_IndexFunc_api_Write_api_Write_b0 w B m) slices_IndexFunc_api_Write_api_Write_e0 w.length 0 () = _ from this, Option.bind_some, find_any]
theorem member_walk {A : List AL} {m : List (A8 Int × Int)} (hm : WM A m) (n : Nat) (e : List T_api_Write → Option T_coord_Member) : ∀ (w s : List T_api_Write), s.length + w.length ≤ 1000 →
    walkL (miss_plan_member_b0 m (n : Int)) e w s = e (s ++ w.filter fun x => (ofA A x.f_Key).testBit n)
  | [], s, _ => by simp [walkL]
  | x :: w, s, h => by
    simp only [List.length_cons] at h
    have hb : miss_plan_member_b0 m (n : Int) x s (walkL (miss_plan_member_b0 m (n : Int)) e w) = if (ofA A x.f_Key).testBit n = true then walkL (miss_plan_member_b0 m (n : Int)) e w (s ++ [x]) else walkL (miss_plan_member_b0 m (n : Int)) e w s := by
      conv => lhs; unfold miss_plan_member_b0
      rw [hm x.f_Key, has_eq (ofA_lt _ _), Option.bind_some]
      split
      · rw [if_pos (by simp only [List.length_singleton]; omega)]; rfl
      · rfl
    rw [walkL, hb, List.filter_cons]
    cases (ofA A x.f_Key).testBit n with
    | true => rw [if_pos rfl, member_walk hm n e w _ (by simp only [List.length_append, List.length_singleton]; omega), if_pos rfl]; simp
    | false => rw [if_neg Bool.false_ne_true, member_walk hm n e w s (by omega), if_neg Bool.false_ne_true]
theorem member_eq {A : List AL} {w : List T_api_Write} {m : List (A8 Int × Int)} {B : A8 T_api_Reg} (hw : w.length ≤ 1000) (hm : WM A m) (hB : Inv (gots A) B) {n : Nat} (hn : n < 8) :
    miss_plan_member B m (n : Int) w = some (T_coord_Member.mk (n : Int) (regA A n) (w.filter fun x => (ofA A x.f_Key).testBit n)) := by
  unfold miss_plan_member
  rw [if_pos (by omega), miss_plan_member_w0 B m n w [] (by omega), member_walk hm n _ w [] (by simpa using hw)]
  unfold miss_plan_member_e0
  rw [wu8 (by omega) (by omega), Int.toNat_natCast, hB.reg hn]; rfl
theorem plan2 {A : List AL} {w : List T_api_Write} {m : List (A8 Int × Int)} {B : A8 T_api_Reg} (hw : w.length ≤ 1000) (hm : WM A m) (hB : Inv (gots A) B) (h8 : In8 (gots A)) (l : List Int) :
    miss_Plan_l2 w B m l ((nodesA A : Nat) : Int) big 0 [] = some ((mems A w).map (fun m => T_coord_Member.mk (m.1 : Int) m.2.1 m.2.2), l, 0) := by
  have hlen := bitsL_len ((nodesA A : Nat) : Int)
  rw [miss_Plan_w2 w B m l _ [] (by omega)]
  have hL : bitsL ((nodesA A : Nat) : Int) = ((List.range 64).filter (nodesA A).testBit).map fun (i : Nat) => (i : Int) := by simp [bitsL]
  generalize hq : (List.range 64).filter (nodesA A).testBit = q at hL
  have hq8 : ∀ n ∈ q, n < 8 := fun n hn => by rw [← hq, List.mem_filter] at hn; exact nodes8 h8 hn.2
  rw [walkN_L (bitsL ((nodesA A : Nat) : Int)) (miss_Plan_b2 w B m ((nodesA A : Nat) : Int)) (fun a s k => (miss_plan_member B m a w).bind fun y => if (s.length + ([y] : List T_coord_Member).length) * 40 ≤ 140737488351232 then k (s ++ [y]) else none) (miss_Plan_e2 l) (fun i s k hi => rfl) [], hL]
  rw [hL, List.length_map] at hlen
  have key : ∀ (r : List Nat) (s : List T_coord_Member), (∀ n ∈ r, n < 8) → s.length + r.length ≤ 64 →
      walkL (fun a s k => (miss_plan_member B m a w).bind fun y => if (s.length + ([y] : List T_coord_Member).length) * 40 ≤ 140737488351232 then k (s ++ [y]) else none) (miss_Plan_e2 l) (r.map fun (i : Nat) => (i : Int)) s = some (s ++ r.map (fun (n : Nat) => T_coord_Member.mk (n : Int) (regA A n) (w.filter fun x => (ofA A x.f_Key).testBit n)), l, 0) := by
    intro r
    induction r with
    | nil => intro s _ _; simp [walkL, miss_Plan_e2]
    | cons n r ih =>
      intro s hr hs
      simp only [List.length_cons] at hs
      rw [List.map_cons, walkL, member_eq hw hm hB (hr n List.mem_cons_self), Option.bind_some, if_pos (by simp only [List.length_singleton]; omega), ih _ (fun a ha => hr a (List.mem_cons_of_mem _ ha)) (by simp only [List.length_append, List.length_singleton]; omega)]
      simp
  rw [key q [] hq8 (by simpa using hlen), List.nil_append]
  unfold mems
  rw [hq, List.map_map]; rfl
theorem plan1 {A : List AL} {w : List T_api_Write} {m : List (A8 Int × Int)} (hm : WM A m) (e : List Int → Option (List T_coord_Member × List Int × Int)) : ∀ (r : List T_api_Write) (s : List Int), s.length + r.length ≤ 1000 → (∀ x ∈ r, WfW x) →
    walkL (miss_Plan_b1 m) e r s = if (r.any fun x => !canW x.f_Item.f_Conf (ofA A x.f_Key)) = true then some ([], [], 16) else e (s ++ r.map fun x => ((missV x.f_Item.f_Conf (ofA A x.f_Key) : Nat) : Int))
  | [], s, _, _ => by simp [walkL]
  | x :: r, s, h, hx => by
    simp only [List.length_cons] at h
    have hc := (hx x List.mem_cons_self).i.c
    have hb : miss_Plan_b1 m x s (walkL (miss_Plan_b1 m) e r) = if canW x.f_Item.f_Conf (ofA A x.f_Key) = true then walkL (miss_Plan_b1 m) e r (s ++ [((missV x.f_Item.f_Conf (ofA A x.f_Key) : Nat) : Int)]) else some ([], [], 16) := by
      conv => lhs; unfold miss_Plan_b1
      rw [hm x.f_Key, writes_eq hc (ofA_lt _ _), Option.bind_some]
      cases canW x.f_Item.f_Conf (ofA A x.f_Key) with
      | false => rfl
      | true =>
        rw [if_neg (by simp), voters_eq, Option.bind_some, less_u, if_pos (by simp only [List.length_singleton]; omega)]; rfl
    rw [walkL, hb, List.any_cons]
    cases canW x.f_Item.f_Conf (ofA A x.f_Key) with
    | false => rfl
    | true => rw [if_pos rfl, plan1 (w := w) hm e r _ (by simp only [List.length_append, List.length_singleton]; omega) (fun a ha => hx a (List.mem_cons_of_mem _ ha))]; simp
theorem plan_eq {l : List T_miss_Lock} {w : List T_api_Write} (hl : l.length < 4611686018427387904) (h : ∀ x ∈ l, WfM x) (hw : WfWs w) : miss_Plan l w = some (toM (planA (l.map abM) w)) := by
  unfold miss_Plan planA
  rw [contains2 hl h, Option.bind_some]
  cases hok : (l.map abM).all okL with
  | false => rfl
  | true =>
    rw [if_neg (by simp), writesMay_eq hw, Option.bind_some]
    cases hmw : mayW w with
    | false => rfl
    | true =>
      have hwl : w.length ≤ 16 := (mayW_rises hmw).2
      rw [if_neg (by simp), if_neg (by simp), if_neg (by simp), miss_Plan_w0 l w _ _ (by omega)]
      have hwA : ∀ x ∈ l.map abM, WfAL x := fun x hx => by
        obtain ⟨y, hy, rfl⟩ := List.mem_map.1 hx
        exact (h y hy).w
      have key : ∀ (r : List T_miss_Lock) (A : List AL) (B : A8 T_api_Reg) (m : List (A8 Int × Int)), A ++ r.map abM = l.map abM → (∀ x ∈ r, WfM x) → Inv (gots A) B → WM A m →
          walkL miss_Plan_b0 (miss_Plan_e0 l w) r (B, m) = some (toM (if clash (gots (l.map abM)) = true then ([], [], 14)
            else if (w.any fun x => decide (ofA (l.map abM) x.f_Key = 0)) = true then ([], [], 6)
            else if (w.any fun x => !canW x.f_Item.f_Conf (ofA (l.map abM) x.f_Key)) = true then ([], [], 16) else (mems (l.map abM) w, misses (l.map abM) w, 0))) := by
        intro r
        induction r with
        | nil =>
          intro A B m hA _ hB hm
          rw [List.map_nil, List.append_nil] at hA
          subst hA
          have h8 := gots_in hwA hok
          rw [walkL]
          unfold miss_Plan_e0
          rw [hB.noclash, if_neg Bool.false_ne_true, contains3 (by omega) hm, Option.bind_some]
          cases (w.any fun x => decide (ofA (l.map abM) x.f_Key = 0)) with
          | true => rfl
          | false =>
            rw [if_neg Bool.false_ne_true, if_neg Bool.false_ne_true, miss_Plan_w1 l w B m [] (by omega), plan1 (w := w) hm _ w [] (by simp; omega) hw.w]
            cases (w.any fun x => !canW x.f_Item.f_Conf (ofA (l.map abM) x.f_Key)) with
            | true => rfl
            | false =>
              rw [if_neg Bool.false_ne_true, if_neg Bool.false_ne_true]
              unfold miss_Plan_e1
              have hn := nodesA_lt (l.map abM)
              rw [nodes_eq hl h, Option.bind_some, if_pos (by omega), plan2 (by omega) hm hB h8]
              unfold toM misses
              rw [List.nil_append, List.map_map]; rfl
        | cons x r ih =>
          intro A B m hA hr hB hm
          have hx := hr x List.mem_cons_self
          have e1 : (A ++ [abM x]) ++ r.map abM = l.map abM := by rw [← hA]; simp
          have hin : ∀ y ∈ A ++ [abM x], y ∈ l.map abM := fun y hy => by rw [← e1]; exact List.mem_append_left _ hy
          have hok' : ∀ y ∈ A ++ [abM x], okL y = true := fun y hy => List.all_eq_true.1 hok y (hin y hy)
          have hA8 : In8 (gots A) := gots_in (fun y hy => hwA y (hin y (List.mem_append_left _ hy))) (List.all_eq_true.2 fun y hy => hok' y (List.mem_append_left _ hy))
          have hx8 : In8 (abM x).g := okL_in hx.w (hok' _ (by simp))
          rw [walkL]
          unfold miss_Plan_b0
          rcases take_eq hB hm hA8 hx hx8 with ⟨h1, r', h2⟩ | ⟨B', m', h1, h2, h3⟩
          · have hcl : clash (gots (l.map abM)) = true := by rw [← e1, gots_app]; exact clash_app h1
            rw [h2, Option.bind_some, if_pos (by simp), hcl]; rfl
          · rw [h3, Option.bind_some, if_neg (by simp)]
            exact ih (A ++ [abM x]) B' m' e1 (fun a ha => hr a (List.mem_cons_of_mem _ ha)) h1 h2
      exact key l [] _ _ rfl h Inv.nil (fun k => rfl)
end Go.Proofs.YtdjmfgknonkojaaDoor.Wk
