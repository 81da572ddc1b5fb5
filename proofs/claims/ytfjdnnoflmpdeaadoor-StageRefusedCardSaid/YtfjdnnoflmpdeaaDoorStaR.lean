/- The laws of a stage. -/
import Derived.Test.YtfjdnnoflmpdeaaDoorStaQ
set_option linter.unusedVariables false
set_option linter.unusedSimpArgs false
set_option linter.unusedSectionVars false
namespace Go.Proofs.YtfjdnnoflmpdeaaDoor.Wk
open Go Go.Cn
open Go.Proofs.YtfjdnnoflmpdeaaDoor.Ri (Rises pre suf at_ Pair)
variable {L : List T_parrelref14_One} {all : List (T_api_Tx × T_stage_prepared)} {own : List (A8 Int × T_api_Tx)}
structure WfA (a : T_parrellaw14_Act) : Prop where
  t : WfT a.f_Tx
  g : WfR a.f_Reg
  w : WfWs a.f_Writes
theorem short_eq (l : List T_parrellaw14_Act) : parrellaw14_short l = some (l.take (min l.length 100)) := by
  have hmin : (if 100 < (l.length : Int) then (100 : Int) else (l.length : Int)) = ((min l.length 100 : Nat) : Int) := by split <;> omega
  unfold parrellaw14_short
  rw [hmin, if_pos (by omega), Int.toNat_natCast]
theorem short_len (l : List T_parrellaw14_Act) : (l.take (min l.length 100)).length ≤ 100 := by rw [List.length_take]; omega
def WfL (l : List T_parrellaw14_Act) : Prop := ∀ a ∈ l, WfA a
theorem WfL.take {l : List T_parrellaw14_Act} (h : WfL l) (n : Nat) : WfL (l.take n) := fun a ha => h a (List.mem_of_mem_take ha)
theorem far_eq (l : List T_parrellaw14_Act) (h : WfL l) : ∃ b, parrellaw14_far l = some b := by
  have hl := short_len l
  have hw := h.take (min l.length 100)
  unfold parrellaw14_far
  rw [short_eq, Option.bind_some]
  generalize l.take (min l.length 100) = y at hl hw
  rw [parrellaw14_far_w0 y 0 (by omega)]
  have inner : ∀ (t : Int) (k : Int → Option Bool) (n i : Nat) (s : Int), ∃ s', walkN (parrellaw14_far_b1 t y k) (parrellaw14_far_e1 k) n i s = k s' := by
    intro t k n
    induction n with
    | zero => intro i s; exact ⟨s, rfl⟩
    | succ n ih => intro i s; rw [walkN]; exact ih _ _
  have outer : ∀ (n i : Nat) (s : Int), i + n = y.length → ∃ b, walkN (parrellaw14_far_b0 y) parrellaw14_far_e0 n i s = some b := by
    intro n
    induction n with
    | zero => intro i s _; exact ⟨_, rfl⟩
    | succ n ih =>
      intro i s hi
      have hlt : i < y.length := by omega
      have hwl := (hw _ (getD_mem hlt)).w.len
      have hb : ∀ k : Int → Option Bool, ∃ s', parrellaw14_far_b0 y i s k = some true ∨ parrellaw14_far_b0 y i s k = k s' := fun k => by
        unfold parrellaw14_far_b0
        split
        · exact ⟨0, .inl rfl⟩
        · rw [parrellaw14_far_w1 (i : Int) y _ s (by rw [Int.toNat_natCast]; omega)]
          obtain ⟨s', e⟩ := inner (i : Int) (fun s_ => k s_) ((y.getD (i : Int).toNat default).f_Writes).length 0 s
          exact ⟨s', .inr e⟩
      rw [walkN]
      obtain ⟨s', e | e⟩ := hb (walkN (parrellaw14_far_b0 y) parrellaw14_far_e0 n (i + 1))
      · exact ⟨true, e⟩
      · rw [e]; exact ih (i + 1) s' (by omega)
  exact outer _ 0 0 (by omega)

def k97 : A8 Int := A8.mk 97 0 0 0 0 0 0 0
def w97 : List T_api_Write := [T_api_Write.mk k97 (T_api_Item.mk 1 [] (T_api_Config.mk 1 1 1 (A8.mk 1 0 0 0 0 0 0 0)))]
def t11 : T_api_Tx := T_api_Tx.mk 0 1 1
theorem alive_eq : parrellaw14_alive = some true := by
  have h0 : stage_New = some ([], []) := rfl
  have hs : parrellaw14_some = some w97 := rfl
  have h1 : stage_Stage_Put [] [] t11 (T_api_Reg.mk 1 1) w97 = some (0, [(t11, ⟨T_api_Reg.mk 1 1, w97⟩)], [(k97, t11)]) := by kernel_rfl
  have h2 : stage_Stage_Owner [(t11, ⟨T_api_Reg.mk 1 1, w97⟩)] [(k97, t11)] k97 = some (t11, true) := by kernel_rfl
  have h3 : stage_Stage_Take [(t11, ⟨T_api_Reg.mk 1 1, w97⟩)] [(k97, t11)] t11 = some (w97, 0, [], []) := by kernel_rfl
  have h4 : stage_Stage_All [] [] = some [] := allT_eq St.nil
  have h5 : parrelref10_SameWrites w97 w97 = some true := by rw [sameW_eq (by decide)]; simp
  unfold parrellaw14_alive
  rw [h0, Option.bind_some, hs, Option.bind_some]
  show (stage_Stage_Put [] [] t11 (T_api_Reg.mk 1 1) w97).bind _ = _
  rw [h1, Option.bind_some, if_neg (by decide)]
  show (stage_Stage_Owner [(t11, ⟨T_api_Reg.mk 1 1, w97⟩)] [(k97, t11)] k97).bind _ = _
  rw [h2, Option.bind_some]
  show (stage_Stage_Take [(t11, ⟨T_api_Reg.mk 1 1, w97⟩)] [(k97, t11)] t11).bind _ = _
  rw [h3, Option.bind_some, if_pos (by decide), if_pos rfl, Option.bind_some]
  show (parrelref10_SameWrites w97 w97).bind _ = _
  rw [h5, Option.bind_some, if_pos rfl, if_pos (by decide)]
  show (stage_Stage_All [] []).bind _ = _
  rw [h4]; rfl
theorem alive_tail : (parrellaw14_alive.bind fun y => some y) = some true := by rw [alive_eq]; rfl

/-! What the calls keep -/
theorem putC_cases (L : List T_parrelref14_One) (t : T_api_Tx) (g : T_api_Reg) (l : List T_api_Write) : (putC L t g l).2 = L ∨ ((putC L t g l).1 = 0 ∧ at_ cfT kfO L t = none ∧ (putC L t g l).2 = (pre cfT kfO L t ++ [⟨t, g, l⟩]) ++ suf cfT kfO L t) := by
  unfold putC
  split
  · exact .inl rfl
  · split
    · split
      · exact .inl rfl
      · exact .inl rfl
    · rename_i ha
      split
      · exact .inl rfl
      · split
        · exact .inl rfl
        · exact .inr ⟨rfl, ha, rfl⟩
end Go.Proofs.YtfjdnnoflmpdeaaDoor.Wk
