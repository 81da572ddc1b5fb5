/- Plain facts: a book of configurations answers as the document's does. -/
import Derived.Test.YtgbhbcigjgcedaaDoorConfP5
set_option linter.unusedVariables false
set_option linter.unusedSimpArgs false
set_option linter.unusedSectionVars false
namespace Go.Proofs.YtgbhbcigjgcedaaDoor.Wk
open Go Go.Cn
open Go.Proofs.YtgbhbcigjgcedaaDoor.Ri (Rises pre suf at_ Pair)
abbrev Kn := T_parrelref21_Known
def prN (e : Kn) : A8 Int × T_api_Config := (e.f_Key, e.f_Conf)
abbrev kfN (e : Kn) : A8 Int := (prN e).1
theorem refItemMay_eq {i : T_api_Item} (h : WfI i) : parrelref10_ItemMay i = some (mayI i) := by
  unfold parrelref10_ItemMay mayI
  rw [refMay_eq h.c]
  by_cases h1 : i.f_Version ≤ 2147483647 <;> by_cases h2 : i.f_Value.length ≤ 64 <;> simp [h1, h2] <;> omega
theorem keyMay_eq {k : A8 Int} (hk : wfK k) : parrelref10_KeyMay k = some (mayK k) := by
  obtain ⟨s, _, h2⟩ := mayK_eq k hk
  unfold parrelref10_KeyMay
  rw [h2]; rfl
structure Inv (L : List Kn) : Prop where
  rises : Rises cfK kfN L
  wf : ∀ w ∈ L, wfK w.f_Key ∧ WfV w.f_Conf ∧ mayV w.f_Conf = true
  len : L.length ≤ 100
structure Both (L : List Kn) (m : Bk) : Prop where
  inv : Inv L
  al : Pair cfK prN L m
theorem both_nil : Both [] [] := ⟨⟨List.Pairwise.nil, (fun _ h => nomatch h), Nat.zero_le _⟩, Pair.nil⟩
theorem rfind_eq {L : List Kn} (h : Inv L) (k : A8 Int) : parrelref21_Book_find ⟨L⟩ k = some (if (at_ cfK kfN L k).isSome then ((pre cfK kfN L k).length : Int) else -1) := by
  have hl := h.len
  unfold parrelref21_Book_find
  rw [parrelref21_Book_find_w0 ⟨L⟩ k (by show L.length < _; omega)]
  refine Ri.find_walk (cf := cfK) (kf := kfN) (L := L) cfK_total h.rises _ _ (fun i kk hi => ?_) rfl
  unfold parrelref21_Book_find_b0
  show (if decide ((L.getD i default).f_Key = k) = true then _ else _) = if (L.getD i default).f_Key = k then _ else _
  by_cases hc : (L.getD i default).f_Key = k
  · rw [if_pos (by simpa using hc), if_pos hc]
  · rw [if_neg (by simpa using hc), if_neg hc]
theorem rof_eq {L : List Kn} (h : Inv L) (k : A8 Int) : parrelref21_Book_Of ⟨L⟩ k = some (match at_ cfK kfN L k with | none => (default, false) | some e => (e.f_Conf, true)) := by
  unfold parrelref21_Book_Of
  rw [rfind_eq h k, Option.bind_some]
  cases ha : at_ cfK kfN L k with
  | none => rfl
  | some e =>
    obtain ⟨h1, h2⟩ := Ri.getD_pre (cf := cfK) (kf := kfN) ha
    rw [if_pos (show (some e).isSome = true from rfl), if_neg (by rw [decide_eq_true_eq]; omega), if_pos (by show _ ∧ _ < ((L.length : Nat) : Int); omega), Int.toNat_natCast]
    show some ((L.getD _ default).f_Conf, true) = _
    rw [h2]
theorem of_both {L : List Kn} {m : Bk} (h : Both L m) (k : A8 Int) : ∃ r, conf_Book_Of m k = some r ∧ parrelref21_Book_Of ⟨L⟩ k = some r := by
  rw [of_eq, rof_eq h.inv]
  have hg := h.al.get cfK_total k
  have hg' : mget m k = (at_ cfK kfN L k).map fun e => (prN e).2 := hg
  rw [hg']
  cases at_ cfK kfN L k with
  | none => exact ⟨_, rfl, rfl⟩
  | some e => exact ⟨_, rfl, rfl⟩
theorem set_both {L : List Kn} {m : Bk} (h : Both L m) {k : A8 Int} {e : Kn} (ha : at_ cfK kfN L k = some e) {c : T_api_Config} (hc : WfV c) (hm : mayV c = true) : Both (L.set (pre cfK kfN L k).length ⟨k, c⟩) (mset m k c) := by
  obtain ⟨h1, h2, _⟩ := Ri.at_mem ha
  refine ⟨⟨Ri.set_rises h.inv.rises ha rfl, fun w hw => ?_, by rw [List.length_set]; exact h.inv.len⟩, h.al.upd cfK_total rfl ha⟩
  rcases List.mem_or_eq_of_mem_set hw with hw | rfl
  · exact h.inv.wf w hw
  · have h2' : e.f_Key = k := h2
    exact ⟨h2' ▸ (h.inv.wf e h1).1, hc, hm⟩
theorem rlearn_eq {L : List Kn} (hi : Inv L) (k : A8 Int) {c : T_api_Config} (hc : WfV c) {e : Kn} (ha : at_ cfK kfN L k = some e) : parrelref21_Book_Learn ⟨L⟩ k c =
    some (if mayV c = false then (16, L) else if c.f_Epoch < e.f_Conf.f_Epoch then (13, L) else if c.f_Epoch = e.f_Conf.f_Epoch ∧ c ≠ e.f_Conf then (7, L) else (0, L.set (pre cfK kfN L k).length ⟨k, c⟩)) := by
  have hl := hi.len
  unfold parrelref21_Book_Learn
  rw [rfind_eq hi k, Option.bind_some, ha]
  obtain ⟨h1, h2⟩ := Ri.getD_pre (cf := cfK) (kf := kfN) ha
  have hk : e.f_Key = k := (Ri.at_mem ha).2.1
  rw [if_pos (show (some e).isSome = true from rfl), if_neg (by rw [decide_eq_true_eq]; omega), refMay_eq hc, Option.bind_some]
  have hb : (0 : Int) ≤ ((pre cfK kfN L k).length : Int) ∧ ((pre cfK kfN L k).length : Int) < (((T_parrelref21_Book.mk L).f_L.length : Nat) : Int) := by show _ ∧ _ < ((L.length : Nat) : Int); omega
  have e2 : (T_parrelref21_Book.mk L).f_L.getD (pre cfK kfN L k).length default = e := h2
  have e3 : (0 + (T_parrelref21_Book.mk L).f_L.length) * 24 ≤ 140737488351232 := by show (0 + L.length) * 24 ≤ _; omega
  rw [if_pos hb, Int.toNat_natCast, e2, hk, if_pos e3]
  cases hv : mayV c with
  | false => rfl
  | true =>
    by_cases c1 : c.f_Epoch < e.f_Conf.f_Epoch
    · simp [c1]
    · by_cases c2 : c.f_Epoch = e.f_Conf.f_Epoch
      · by_cases c3 : c = e.f_Conf
        · simp [c3]
        · simp [c1, c2, c3]
      · simp [c1, c2]
theorem learn_both {L : List Kn} {m : Bk} (h : Both L m) (k : A8 Int) {c : T_api_Config} (hc : WfV c) :
    ∃ n L' m', conf_Book_Learn m k c = some (n, m') ∧ parrelref21_Book_Learn ⟨L⟩ k c = some (n, L') ∧ Both L' m' := by
  have hg : mget m k = (at_ cfK kfN L k).map fun e => (prN e).2 := h.al.get cfK_total k
  rw [learn_eq m k hc]
  cases ha : at_ cfK kfN L k with
  | none =>
    refine ⟨6, L, m, ?_, ?_, h⟩
    · rw [learnC, hg, ha]; rfl
    · unfold parrelref21_Book_Learn
      rw [rfind_eq h.inv k, ha]; rfl
  | some e =>
    rw [rlearn_eq h.inv k hc ha]
    have hp : learnC m k c = if mayV c = false then (16, m) else if c.f_Epoch < e.f_Conf.f_Epoch then (13, m) else if c.f_Epoch = e.f_Conf.f_Epoch ∧ c ≠ e.f_Conf then (7, m) else (0, mset m k c) := by
      rw [learnC, hg, ha]; rfl
    rw [hp]
    cases hv : mayV c with
    | false => exact ⟨_, _, _, rfl, rfl, h⟩
    | true =>
      rw [if_neg (show ¬ (true = false) by simp), if_neg (show ¬ (true = false) by simp)]
      by_cases c1 : c.f_Epoch < e.f_Conf.f_Epoch
      · rw [if_pos c1, if_pos c1]; exact ⟨_, _, _, rfl, rfl, h⟩
      · rw [if_neg c1, if_neg c1]
        by_cases c2 : c.f_Epoch = e.f_Conf.f_Epoch ∧ c ≠ e.f_Conf
        · rw [if_pos c2, if_pos c2]; exact ⟨_, _, _, rfl, rfl, h⟩
        · rw [if_neg c2, if_neg c2]; exact ⟨_, _, _, rfl, rfl, set_both h ha hc hv⟩
end Go.Proofs.YtgbhbcigjgcedaaDoor.Wk
