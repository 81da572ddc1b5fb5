/- Plain facts: gatherings that a set of nodes granted. -/
import Derived.Test.YtffmmflapagkhaaDoorGathB
set_option linter.unusedVariables false
set_option linter.unusedSimpArgs false
set_option linter.unusedSectionVars false
namespace Go.Proofs.YtffmmflapagkhaaDoor.Wk
open Go Go.Cn

theorem bitU (s i : Nat) (hs : s < 18446744073709551616) (h : i < 8) : ((IntKind.wrap .u64 ((BitVec.ofInt (IntKind.bits .u64) (Int.fdiv (s : Int) (2 ^ (min (Int.toNat (i : Int)) (IntKind.bits .u64)))) &&& BitVec.ofInt (IntKind.bits .u64) 1).toNat : Int)) == 1) = s.testBit i := by
  have e : min (Int.toNat (i : Int)) (IntKind.bits .u64) = i := by
    show min (Int.toNat (i : Int)) 64 = i
    omega
  have hd : s / 2 ^ i < 18446744073709551616 := Nat.lt_of_le_of_lt (Nat.div_le_self _ _) hs
  have h1 := and_u (s / 2 ^ i) 1 hd (by omega)
  rw [e, fd]
  rw [show ((1 : Nat) : Int) = 1 from rfl] at h1
  rw [h1, Nat.and_one_is_mod, Nat.testBit_eq_decide_div_mod_eq, Bool.eq_iff_iff, beq_iff_eq, decide_eq_true_eq]
  omega
abbrev GO := Int × T_api_Config × List T_api_Config × A8 T_gather_Got × Int
abbrev GR := Bool × Unit × GO
def gz : T_gather_Got := T_gather_Got.mk 0 (T_api_Reg.mk 0 0) (T_api_Item.mk 0 [] (T_api_Config.mk 0 0 0 (A8.mk 0 0 0 0 0 0 0 0)))
def G0 : A8 T_gather_Got := A8.mk gz gz gz gz gz gz gz gz
def key97 : A8 Int := A8.mk 97 0 0 0 0 0 0 0
theorem name97 : ∃ s, ids_Name key97 = some (s, true) := ⟨[97], by kernel_rfl⟩
theorem cont1 {l : List T_api_Config} (hl : l.length < 4611686018427387904) (h : ∀ c ∈ l, WfV c) : slices_ContainsFunc_api_Config_api_Config l = some (l.any fun c => !mayV c) := by
  unfold slices_ContainsFunc_api_Config_api_Config slices_IndexFunc_api_Config_api_Config
  rw [slices_IndexFunc_api_Config_api_Config_w0 _ (by omega)]
  have := walk_find (fun c => !mayV c) gather_may_L1 l (fun x hx => by unfold gather_may_L1; rw [votesMay_eq (h x hx)]; rfl)
  rw [show walkN (slices_IndexFunc_api_Config_api_Config_b0 l) slices_IndexFunc_api_Config_api_Config_e0 l.length 0 () = _ from this, Option.bind_some, find_any]
theorem new_eq {c : T_api_Config} (h : WfV c) (hm : mayV c = true) {mode : Int} (ho : mode = 1 ∨ mode = 2) : gather_New key97 mode c [] = some (false, default, (mode, c, [], G0)) := by
  obtain ⟨s, hn⟩ := name97
  have hmay : gather_may key97 mode ([c] ++ []) = some true := by
    unfold gather_may
    have h1 : slices_ContainsFunc_api_Config_api_Config ([c] ++ []) = some false := by
      rw [cont1 (by simp) (fun x hx => by rw [List.append_nil, List.mem_singleton] at hx; subst hx; exact h)]; simp [hm]
    rw [hn, Option.bind_some, h1]
    rcases ho with rfl | rfl <;> rfl
  unfold gather_New
  rw [if_pos (by simp), if_pos (by simp), hmay, Option.bind_some, if_neg (by simp), if_pos (by simp)]
  rfl
structure GS where
  conf : T_api_Config
  gr : A8 T_gather_Got
  nodes : Nat
def goti (it : Nat → T_api_Item) (i : Nat) : T_gather_Got := T_gather_Got.mk (i : Int) (T_api_Reg.mk 1 1) (it i)
def stepG (it : Nat → T_api_Item) (s : Nat) (g : GS) (i : Nat) : GS :=
  if s.testBit i = true then ⟨if g.conf.f_Epoch < (it i).f_Conf.f_Epoch then (it i).f_Conf else g.conf, g.gr.set (goti it i) i, addN g.nodes i⟩ else g
structure OkIt (i : T_api_Item) : Prop where
  v : i.f_Version ≤ 2147483647
  l : i.f_Value = []
  c : WfV i.f_Conf
  m : mayV i.f_Conf = true
theorem imay {i : T_api_Item} (h : OkIt i) : msg_ItemMay i = some true := by
  have hv := h.v
  unfold msg_ItemMay
  rw [if_pos (by simpa using hv), if_pos (by rw [h.l]; decide), votesMay_eq h.c, h.m]; rfl
theorem rmay : ids_RegMay (T_api_Reg.mk 1 1) = some true := by decide
theorem grant_eq {mode : Int} (ho : mode = 1 ∨ mode = 2) {it : Nat → T_api_Item} {i : Nat} (hi : i < 8) (h : OkIt (it i)) (g : GS) (hg : g.nodes < 18446744073709551616) (hb : g.nodes.testBit i = false) {s : Nat} (hs : s.testBit i = true) :
    gather_Gather_Grant (T_gather_Gather.mk mode g.conf [] g.gr (g.nodes : Int)) (goti it i) = some (0, mode, (stepG it s g i).conf, [], (stepG it s g i).gr, ((stepG it s g i).nodes : Int)) := by
  have hok : gather_Gather_ok (T_gather_Gather.mk mode g.conf [] g.gr (g.nodes : Int)) = some true := by
    unfold gather_Gather_ok; rcases ho with rfl | rfl <;> rfl
  have e1 : IntKind.wrap .i64 (i : Int) = (i : Int) := w64 (by omega) (by omega)
  unfold gather_Gather_Grant
  rw [hok, Option.bind_some, if_neg (by simp)]
  have f1 : (goti it i).f_Node = (i : Int) := rfl
  have f2 : (goti it i).f_Reg = T_api_Reg.mk 1 1 := rfl
  have f3 : (goti it i).f_Item = it i := rfl
  rw [f1, f2, f3]
  rw [if_neg (by simp only [decide_eq_true_eq]; omega), rmay, Option.bind_some, if_neg (by simp), imay h, Option.bind_some, if_neg (by simp), e1, has_eq hg, Option.bind_some, hb, if_neg Bool.false_ne_true, if_pos (by omega), with_eq hg, Option.bind_some]
  have e2 : stepG it s g i = ⟨if g.conf.f_Epoch < (it i).f_Conf.f_Epoch then (it i).f_Conf else g.conf, g.gr.set (goti it i) i, addN g.nodes i⟩ := if_pos hs
  rw [e2, Int.toNat_natCast]
  by_cases hE : g.conf.f_Epoch < (it i).f_Conf.f_Epoch
  · rw [if_pos (by simpa using hE)]; simp only [if_pos hE]
  · rw [if_neg (by simpa using hE)]; simp only [if_neg hE]
/-- What has been granted by the first ones. -/
def foldG (it : Nat → T_api_Item) (s : Nat) (c : T_api_Config) (i : Nat) : GS := (List.range i).foldl (stepG it s) ⟨c, G0, 0⟩
theorem foldG_succ (it : Nat → T_api_Item) (s : Nat) (c : T_api_Config) (i : Nat) : foldG it s c (i + 1) = stepG it s (foldG it s c i) i := by
  unfold foldG; rw [List.range_succ, List.foldl_append]; rfl
theorem foldG_nodes (it : Nat → T_api_Item) (s : Nat) (c : T_api_Config) : ∀ i, i ≤ 64 → (foldG it s c i).nodes < 18446744073709551616 ∧ ∀ j, (foldG it s c i).nodes.testBit j = (decide (j < i) && s.testBit j)
  | 0, _ => ⟨(show (0 : Nat) < 18446744073709551616 by decide), fun j => by simp [foldG]⟩
  | i + 1, h => by
    obtain ⟨h1, h2⟩ := foldG_nodes it s c i (by omega)
    rw [foldG_succ]
    unfold stepG
    by_cases hb : s.testBit i = true
    · rw [if_pos hb]
      refine ⟨addN_lt h1 i, fun j => ?_⟩
      show (addN _ i).testBit j = _
      rw [addN_bit, h2]
      by_cases e : j = i
      · subst e; simp [hb]; omega
      · have : decide (j < i + 1) = decide (j < i) := by rw [Bool.eq_iff_iff, decide_eq_true_eq, decide_eq_true_eq]; omega
        rw [this]; simp [e]
    · rw [if_neg hb]
      refine ⟨h1, fun j => ?_⟩
      rw [h2]
      by_cases e : j = i
      · subst e; simp [hb]
      · have : decide (j < i + 1) = decide (j < i) := by rw [Bool.eq_iff_iff, decide_eq_true_eq, decide_eq_true_eq]; omega
        rw [this]
def outG (mode : Int) (g : GS) : GR := (false, default, (mode, g.conf, [], g.gr, (g.nodes : Int)))
/-- The loop, told by its rounds. -/
theorem gath_loop {mode : Int} (ho : mode = 1 ∨ mode = 2) (it : Nat → T_api_Item) (hit : ∀ i, i < 8 → OkIt (it i)) {s : Nat} (hs : s < 18446744073709551616) (c : T_api_Config) (F : Nat → Int → Int → T_api_Config → List T_api_Config → A8 T_gather_Got → Int → Option GR)
    (h8 : ∀ f m' e mo nd no, F (f + 1) 8 m' e mo nd no = some (false, default, (m', e, mo, nd, no)))
    (hr : ∀ f (i : Nat) m' e mo nd no, i < 8 → F (f + 1) (i : Int) m' e mo nd no = if s.testBit i = true then (gather_Gather_Grant (T_gather_Gather.mk m' e mo nd no) (goti it i)).bind fun y => F f ((i + 1 : Nat) : Int) y.2.1 y.2.2.1 y.2.2.2.1 y.2.2.2.2.1 y.2.2.2.2.2 else F f ((i + 1 : Nat) : Int) m' e mo nd no) :
    F big 0 mode c [] G0 0 = some (outG mode (foldG it s c 8)) := by
  have key : ∀ (m i f : Nat), i + m = 8 → m < f → F f (i : Int) mode (foldG it s c i).conf [] (foldG it s c i).gr ((foldG it s c i).nodes : Int) = some (outG mode (foldG it s c 8)) := by
    intro m
    induction m with
    | zero =>
      intro i f hi hf
      obtain rfl : i = 8 := by omega
      obtain ⟨f, rfl⟩ : ∃ g, f = g + 1 := ⟨f - 1, by omega⟩
      exact h8 _ _ _ _ _ _
    | succ m ih =>
      intro i f hi hf
      obtain ⟨f, rfl⟩ : ∃ g, f = g + 1 := ⟨f - 1, by omega⟩
      obtain ⟨n1, n2⟩ := foldG_nodes it s c i (by omega)
      have hn := ih (i + 1) f (by omega) (by omega)
      rw [hr f i _ _ _ _ _ (by omega)]
      rw [foldG_succ] at hn
      by_cases hb : s.testBit i = true
      · rw [if_pos hb, grant_eq ho (by omega) (hit i (by omega)) _ n1 (by rw [n2]; simp) hb, Option.bind_some]
        exact hn
      · rw [if_neg hb]
        have : stepG it s (foldG it s c i) i = foldG it s c i := if_neg hb
        rw [this] at hn
        exact hn
  exact key 8 0 big (by omega) (big_lt (by omega))
theorem u8_succ {i : Nat} (h : i < 8) : IntKind.wrap .u8 ((i : Int) + 1) = ((i + 1 : Nat) : Int) := by rw [wu8 (by omega) (by omega)]; rfl
theorem foldG_same (it : Nat → T_api_Item) (s : Nat) (c : T_api_Config) (h : ∀ i, (it i).f_Conf = c) : ∀ i, (foldG it s c i).conf = c
  | 0 => rfl
  | i + 1 => by
    rw [foldG_succ]
    unfold stepG
    have ih := foldG_same it s c h i
    split
    · show (if _ then _ else _) = c
      rw [h, ih, if_neg (by omega)]
    · exact ih
theorem lack_nil (g : T_gather_Gather) : slices_ContainsFunc_api_Config_api_Config_2 [] g = some false := by
  unfold slices_ContainsFunc_api_Config_api_Config_2 slices_IndexFunc_api_Config_api_Config_2
  rw [slices_IndexFunc_api_Config_api_Config_2_w0 _ _ (by decide)]; rfl
/-- Enough, to read or to write. -/
def canR (c : T_api_Config) (s : Nat) : Bool := decide (c.f_R ≤ sumV c s)
theorem reads_eq {c : T_api_Config} (h : WfV c) {s : Nat} (hs : s < 18446744073709551616) : votes_Reads c (s : Int) = some (canR c s) := by
  have := h.r
  unfold votes_Reads canR
  rw [of_eq h hs, Option.bind_some, w64 (by omega) (by omega)]
theorem enough_eq {mode : Int} (ho : mode = 1 ∨ mode = 2) {c : T_api_Config} (h : WfV c) (gr : A8 T_gather_Got) {s : Nat} (hs : s < 18446744073709551616) :
    gather_Gather_Enough (T_gather_Gather.mk mode c [] gr (s : Int)) = some (if mode = 2 then canW c s else canR c s) := by
  have hok : gather_Gather_ok (T_gather_Gather.mk mode c [] gr (s : Int)) = some true := by
    unfold gather_Gather_ok; rcases ho with rfl | rfl <;> rfl
  unfold gather_Gather_Enough
  rw [hok, Option.bind_some, if_neg (by simp)]
  rcases ho with rfl | rfl
  · rw [if_neg (show ¬ ((1 : Int) == 2) = true by decide)]
    simp only [reads_eq h hs, Option.bind_some, lack_nil]
    cases canR c s <;> rfl
  · rw [if_pos (show ((2 : Int) == 2) = true by decide)]
    simp only [writes_eq h hs, Option.bind_some, lack_nil]
    cases canW c s <;> rfl
theorem nodes_eq {mode : Int} (ho : mode = 1 ∨ mode = 2) (c : T_api_Config) (gr : A8 T_gather_Got) (n : Int) : gather_Gather_Nodes (T_gather_Gather.mk mode c [] gr n) = some n := by
  have hok : gather_Gather_ok (T_gather_Gather.mk mode c [] gr n) = some true := by
    unfold gather_Gather_ok; rcases ho with rfl | rfl <;> rfl
  unfold gather_Gather_Nodes
  rw [hok]; rfl
theorem sumV_disj {c : T_api_Config} (h : WfV c) {a b : Nat} (hd : ∀ i, i < 8 → ¬ (a.testBit i = true ∧ b.testBit i = true)) : sumV c a + sumV c b ≤ tot c := by
  have g0 := h.v 0 (by decide); have g1 := h.v 1 (by decide); have g2 := h.v 2 (by decide); have g3 := h.v 3 (by decide)
  have g4 := h.v 4 (by decide); have g5 := h.v 5 (by decide); have g6 := h.v 6 (by decide); have g7 := h.v 7 (by decide)
  have one : ∀ i, i < 8 → ∀ v : Int, 0 ≤ v → (if a.testBit i = true then v else 0) + (if b.testBit i = true then v else 0) ≤ v := by
    intro i hi v hv
    have := hd i hi
    cases ha : a.testBit i <;> cases hb : b.testBit i <;> simp_all
  have o0 := one 0 (by decide) _ g0.1; have o1 := one 1 (by decide) _ g1.1; have o2 := one 2 (by decide) _ g2.1; have o3 := one 3 (by decide) _ g3.1
  have o4 := one 4 (by decide) _ g4.1; have o5 := one 5 (by decide) _ g5.1; have o6 := one 6 (by decide) _ g6.1; have o7 := one 7 (by decide) _ g7.1
  simp only [sumV, tot, show List.range 8 = [0, 1, 2, 3, 4, 5, 6, 7] from rfl, List.foldl]
  omega
theorem mayV_rw {c : T_api_Config} (h : mayV c = true) : tot c < c.f_R + c.f_W ∧ tot c < 2 * c.f_W := by
  simp only [mayV, Bool.and_eq_true, decide_eq_true_eq] at h
  exact ⟨h.2.2.2.2.1, h.2.2.2.2.2⟩
theorem alive_eq : parrellaw19_alive = some true := by kernel_rfl
theorem alive_tail : (parrellaw19_alive.bind fun y => some y) = some true := by rw [alive_eq]; rfl
theorem mask8 {s : Nat} (it : Nat → T_api_Item) (c : T_api_Config) : (foldG it s c 8).nodes = s % 256 := by
  refine Nat.eq_of_testBit_eq fun j => ?_
  rw [(foldG_nodes it s c 8 (by omega)).2, show (256 : Nat) = 2 ^ 8 from rfl, Nat.testBit_mod_two_pow]
theorem wfV_of {c : T_api_Config} (h : wfL (c_T_api_Config c)) : WfV c := by
  refine ⟨wf_u32 (h (.int .u32 c.f_Epoch) (by simp [c_T_api_Config])), wf_u8 (h (.int .u8 c.f_R) (by simp [c_T_api_Config])), wf_u8 (h (.int .u8 c.f_W) (by simp [c_T_api_Config])), fun i hi => ?_⟩
  rcases lt8 hi with rfl | rfl | rfl | rfl | rfl | rfl | rfl | rfl <;> exact wf_u8 (h _ (by simp [c_T_api_Config, A8.get]))
end Go.Proofs.YtffmmflapagkhaaDoor.Wk
