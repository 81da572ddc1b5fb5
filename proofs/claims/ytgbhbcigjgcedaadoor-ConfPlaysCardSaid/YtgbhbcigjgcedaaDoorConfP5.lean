/- Plain facts: a book of configurations (without the document's book). -/
import Derived.Test.YtgbhbcigjgcedaaDoorConfWF
import Derived.Test.YtgbhbcigjgcedaaDoorConfK5
import Derived.Test.YtgbhbcigjgcedaaDoorConfV
import Derived.Test.YtgbhbcigjgcedaaDoorRiseP
set_option linter.unusedVariables false
set_option linter.unusedSimpArgs false
set_option linter.unusedSectionVars false
namespace Go.Proofs.YtgbhbcigjgcedaaDoor.Wk
open Go Go.Cn
abbrev Bk := List (A8 Int × T_api_Config)
structure WfI (i : T_api_Item) : Prop where
  v : 0 ≤ i.f_Version ∧ i.f_Version < 4294967296
  c : WfV i.f_Conf
structure WfW (w : T_api_Write) : Prop where
  k : wfK w.f_Key
  i : WfI w.f_Item
structure WfC (a : T_parrellaw21_Act) : Prop where
  k : wfK a.f_Key
  c : WfV a.f_Conf
def mayI (i : T_api_Item) : Bool := decide (i.f_Version ≤ 2147483647) && (decide (i.f_Value.length ≤ 64) && mayV i.f_Conf)
theorem itemMay_eq {i : T_api_Item} (h : WfI i) : msg_ItemMay i = some (mayI i) := by
  unfold msg_ItemMay mayI
  rw [votesMay_eq h.c]
  by_cases h1 : i.f_Version ≤ 2147483647 <;> by_cases h2 : i.f_Value.length ≤ 64 <;> simp [h1, h2] <;> omega
theorem name_some (k : A8 Int) (h : wfK k) : ∃ r, ids_Name k = some r := by
  obtain ⟨t, a, he, ht⟩ := split0 8 (kb k) (kb_len k)
  rw [name1 k h t a he ht]
  split <;> exact ⟨_, rfl⟩

theorem find_eq (m : Bk) (k : A8 Int) : conf_Book_find m k = some (match mget m k with | none => (default, 6) | some c => (c, 0)) := by
  unfold conf_Book_find
  cases mget m k <;> rfl
theorem of_eq (m : Bk) (k : A8 Int) : conf_Book_Of m k = some (match mget m k with | none => (default, false) | some c => (c, true)) := by
  unfold conf_Book_Of
  rw [find_eq]
  cases mget m k <;> rfl
/-- A configuration is learned. -/
def learnC (m : Bk) (k : A8 Int) (c : T_api_Config) : Int × Bk :=
  match mget m k with
  | none => (6, m)
  | some x => if mayV c = false then (16, m) else if c.f_Epoch < x.f_Epoch then (13, m) else if c.f_Epoch = x.f_Epoch ∧ c ≠ x then (7, m) else (0, mset m k c)
theorem learn_eq (m : Bk) (k : A8 Int) {c : T_api_Config} (hc : WfV c) : conf_Book_Learn m k c = some (learnC m k c) := by
  unfold conf_Book_Learn learnC
  rw [find_eq, votesMay_eq hc]
  cases mget m k with
  | none => rfl
  | some x =>
    simp only [Option.bind_some]
    cases mayV c with
    | false => rfl
    | true =>
      simp only [bne_self_eq_false, Bool.false_eq_true, if_false, Bool.not_true, Bool.true_eq_false]
      by_cases h1 : c.f_Epoch < x.f_Epoch
      · rw [if_pos (by simpa using h1), if_pos h1]
      · rw [if_neg (by simpa using h1), if_neg h1]
        by_cases h2 : c.f_Epoch = x.f_Epoch
        · rw [if_pos (by simpa using h2)]
          by_cases h3 : c = x
          · have hx : (!decide (c = x)) = false := by simp [h3]
            have hy : ¬ (c.f_Epoch = x.f_Epoch ∧ c ≠ x) := fun hh => hh.2 h3
            rw [hx, if_neg Bool.false_ne_true, if_neg hy]
          · have hx : (!decide (c = x)) = true := by simp [h3]
            rw [hx, if_pos rfl, if_pos ⟨h2, h3⟩]
        · have hy : ¬ (c.f_Epoch = x.f_Epoch ∧ c ≠ x) := fun hh => h2 hh.1
          rw [if_neg (by simpa using h2), if_neg hy]
theorem learn_cases (m : Bk) (k : A8 Int) (c : T_api_Config) : ((learnC m k c).1 ≠ 0 ∧ (learnC m k c).2 = m) ∨ ((learnC m k c).1 = 0 ∧ (learnC m k c).2 = mset m k c ∧ mayV c = true ∧ ∃ x, mget m k = some x ∧ x.f_Epoch ≤ c.f_Epoch) := by
  unfold learnC
  split
  · exact .inl ⟨by simp, rfl⟩
  · rename_i x hx
    split
    · exact .inl ⟨by simp, rfl⟩
    · rename_i hv
      split
      · exact .inl ⟨by simp, rfl⟩
      · split
        · exact .inl ⟨by simp, rfl⟩
        · exact .inr ⟨rfl, rfl, by simpa using hv, x, hx, by omega⟩

/-! Which books may be -/
def Ok (m : Bk) : Prop := ∀ k c, mget m k = some c → WfV c ∧ mayV c = true
theorem Ok.nil : Ok [] := fun k c h => by simp [mget] at h
theorem Ok.set {m : Bk} (h : Ok m) (k : A8 Int) {c : T_api_Config} (hc : WfV c) (hm : mayV c = true) : Ok (mset m k c) := fun j d hd => by
  rw [mget_mset] at hd
  split at hd
  · cases hd; exact ⟨hc, hm⟩
  · exact h j d hd
theorem Ok.learn {m : Bk} (h : Ok m) (k : A8 Int) {c : T_api_Config} (hc : WfV c) : Ok (learnC m k c).2 := by
  rcases learn_cases m k c with ⟨_, e⟩ | ⟨_, e, hm, _⟩
  · rw [e]; exact h
  · rw [e]; exact h.set k hc hm
theorem new_eq (l : List T_api_Write) (hl : l.length < 9223372036854775807) (hw : ∀ w ∈ l, WfW w) : ∃ r, conf_New l = some r ∧ (r.1 = false → Ok r.2.2) := by
  unfold conf_New
  rw [conf_New_w0 l [] hl]
  have : ∀ (l : List T_api_Write) (m : Bk), (∀ w ∈ l, WfW w) → Ok m → ∃ r, walkL conf_New_b0 conf_New_e0 l m = some r ∧ (r.1 = false → Ok r.2.2) := by
    intro l
    induction l with
    | nil => intro m _ hm; exact ⟨_, rfl, fun _ => hm⟩
    | cons w l ih =>
      intro m hw hm
      have h1 := hw w List.mem_cons_self
      obtain ⟨r, hr⟩ := name_some w.f_Key h1.k
      have hb : ∀ k : Bk → Option (Bool × Unit × Bk), conf_New_b0 w m k = if (r.2 && (!(mget m w.f_Key).isSome && mayI w.f_Item)) = true then k (mset m w.f_Key w.f_Item.f_Conf) else some (true, (), default) := fun k => by
        unfold conf_New_b0
        rw [hr, itemMay_eq h1.i]
        simp only [Option.bind_some]
        cases r.2 <;> cases (mget m w.f_Key).isSome <;> cases mayI w.f_Item <;> rfl
      rw [walkL, hb]
      split
      · rename_i hc
        simp only [Bool.and_eq_true] at hc
        have hv : mayV w.f_Item.f_Conf = true := by
          have := hc.2.2; unfold mayI at this; simp only [Bool.and_eq_true] at this; exact this.2.2
        exact ih _ (fun x hx => hw x (List.mem_cons_of_mem _ hx)) (hm.set _ h1.i.c hv)
      · exact ⟨_, rfl, fun e => by cases e⟩
  exact this l [] hw Ok.nil

def k97 : A8 Int := A8.mk 97 0 0 0 0 0 0 0
def one (e : Int) : T_api_Config := T_api_Config.mk e 1 1 (A8.mk 1 0 0 0 0 0 0 0)
theorem wfOne {e : Int} (h : 0 ≤ e ∧ e < 4294967296) : WfV (one e) := by
  refine ⟨h, by simp [one], by simp [one], fun i hi => ?_⟩
  rcases (by omega : i = 0 ∨ i = 1 ∨ i = 2 ∨ i = 3 ∨ i = 4 ∨ i = 5 ∨ i = 6 ∨ i = 7) with rfl | rfl | rfl | rfl | rfl | rfl | rfl | rfl <;> simp [one, A8.get]
theorem mayOne {e : Int} (h : 1 ≤ e ∧ e ≤ 2147483647) : mayV (one e) = true := by
  unfold mayV
  rw [show (one e).f_Epoch = e from rfl, decide_eq_true h]; rfl
theorem keys_one (c : T_api_Config) : conf_Book_Keys [(k97, c)] = some [k97] := by
  have h1 : maps_Keys_map_api_Key_api_Config_api_Key_api_Config [(k97, c)] = some () := rfl
  have hs : sortL cfK [k97] = [k97] := sortL_uniq cfK_total (List.pairwise_singleton _ _) (List.Perm.refl _)
  unfold conf_Book_Keys
  rw [h1, Option.bind_some, sortO_eq cfK_total key_total (by show 1 ≤ maxLen; unfold maxLen; omega) (by show 1 * 8 ≤ 140737488355328; decide)]
  show (some (sortL cfK [k97])).bind _ = _
  rw [hs]; rfl
theorem keys_nil : sortO ids_Keys 8 ([] : List (A8 Int)) = some [] := by
  rw [sortO_eq cfK_total key_total (Nat.zero_le _) (by decide), show sortL cfK ([] : List (A8 Int)) = [] from List.eq_nil_of_length_eq_zero (sortL_len cfK [])]
theorem lfirst_eq (e : Int) : parrellaw21_first e = some [T_api_Write.mk k97 (T_api_Item.mk 0 [] (one e))] := rfl
theorem new1 : conf_New [T_api_Write.mk k97 (T_api_Item.mk 0 [] (one 1))] = some (false, (), [(k97, one 1)]) := by kernel_rfl
theorem alive_eq : parrellaw21_alive = some true := by
  have e1 : ∀ e, parrellaw21_one e = some (one e) := fun _ => rfl
  have h2 : conf_Book_Learn [(k97, one 1)] k97 (one 3) = some (0, [(k97, one 3)]) := by kernel_rfl
  have h3 : conf_Book_Learn [(k97, one 3)] k97 (one 2) = some (13, [(k97, one 3)]) := by kernel_rfl
  have h4 : conf_Book_Of [(k97, one 3)] k97 = some (one 3, true) := by kernel_rfl
  unfold parrellaw21_alive
  rw [lfirst_eq, Option.bind_some, new1, Option.bind_some, if_neg (by decide), e1, Option.bind_some]
  show (conf_Book_Learn [(k97, one 1)] k97 (one 3)).bind _ = _
  rw [h2, Option.bind_some, if_neg (by decide), e1, Option.bind_some]
  show (conf_Book_Learn [(k97, one 3)] k97 (one 2)).bind _ = _
  rw [h3, Option.bind_some, if_neg (by decide)]
  show (conf_Book_Of [(k97, one 3)] k97).bind _ = _
  rw [h4, Option.bind_some, if_pos rfl, Option.bind_some, if_pos (by simp)]
  show (conf_Book_Keys [(k97, one 3)]).bind _ = _
  rw [keys_one]; rfl
theorem alive_tail : (parrellaw21_alive.bind fun y => some y) = some true := by rw [alive_eq]; rfl

/-! ConfRise -/
theorem far_eq (l : List T_api_Write) : ∃ b, parrellaw21_far l = some b := by
  have hmin : (if 100 < (l.length : Int) then (100 : Int) else (l.length : Int)) = ((min l.length 100 : Nat) : Int) := by split <;> omega
  unfold parrellaw21_far
  rw [if_pos (by rw [hmin]; omega), parrellaw21_far_w0 l 0 (by rw [hmin, Int.toNat_natCast, List.length_take]; omega)]
  have : ∀ (y : List T_api_Write) (s : Int), ∃ b, walkL parrellaw21_far_b0 (parrellaw21_far_e0 l) y s = some b := by
    intro y
    induction y with
    | nil =>
      intro s
      show ∃ b, parrellaw21_far_e0 l s = some b
      unfold parrellaw21_far_e0
      split <;> exact ⟨_, rfl⟩
    | cons w y ih => intro s; rw [walkL]; exact ih _
  exact this _ _
theorem short_eq (l : List T_parrellaw21_Act) : parrellaw21_short l = some (l.take (min l.length 60)) := by
  have hmin : (if 60 < (l.length : Int) then (60 : Int) else (l.length : Int)) = ((min l.length 60 : Nat) : Int) := by split <;> omega
  unfold parrellaw21_short
  rw [hmin, if_pos (by omega), Int.toNat_natCast]
/-! The bounds -/
theorem wfV_of {c : T_api_Config} (h : wfL (c_T_api_Config c)) : WfV c := by
  have m : ∀ {x}, x ∈ c_T_api_Config c → wfC x := fun hx => h _ hx
  refine ⟨wf_u32 (m (x := .int .u32 c.f_Epoch) (by simp [c_T_api_Config])), wf_u8 (m (x := .int .u8 c.f_R) (by simp [c_T_api_Config])), wf_u8 (m (x := .int .u8 c.f_W) (by simp [c_T_api_Config])), fun i hi => wf_u8 (m (x := .int .u8 (A8.get c.f_Votes i)) ?_)⟩
  rcases (by omega : i = 0 ∨ i = 1 ∨ i = 2 ∨ i = 3 ∨ i = 4 ∨ i = 5 ∨ i = 6 ∨ i = 7) with rfl | rfl | rfl | rfl | rfl | rfl | rfl | rfl <;> simp [c_T_api_Config, A8.get]
theorem wfI_of {i : T_api_Item} (h : wfL (c_T_api_Item i)) : WfI i :=
  ⟨wf_u32 (h (.int .u32 i.f_Version) List.mem_cons_self), wfV_of (fun x hx => h x (List.mem_cons_of_mem _ (List.mem_cons_of_mem _ hx)))⟩
theorem wfW_of {w : T_api_Write} (h : wfL (c_T_api_Write w)) : WfW w := by
  have e : c_T_api_Write w = kc w.f_Key ++ c_T_api_Item w.f_Item := rfl
  rw [e] at h
  exact ⟨wfK_of _ fun x hx => h x (List.mem_append_left _ hx), wfI_of fun x hx => h x (List.mem_append_right _ hx)⟩
theorem wfAct_of {a : T_parrellaw21_Act} (h : wfL (c_T_parrellaw21_Act a)) : WfC a := by
  have e : c_T_parrellaw21_Act a = kc a.f_Key ++ (c_T_api_Config a.f_Conf ++ [.bool a.f_Next, .int .u8 a.f_Many]) := rfl
  rw [e] at h
  exact ⟨wfK_of _ fun x hx => h x (List.mem_append_left _ hx), wfV_of fun x hx => h x (List.mem_append_right _ (List.mem_append_left _ hx))⟩
end Go.Proofs.YtgbhbcigjgcedaaDoor.Wk
