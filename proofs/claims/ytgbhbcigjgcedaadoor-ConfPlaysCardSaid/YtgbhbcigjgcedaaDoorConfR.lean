/- Plain facts: ConfPlays. -/
import Derived.Test.YtgbhbcigjgcedaaDoorConfS
set_option linter.unusedVariables false
set_option linter.unusedSimpArgs false
set_option linter.unusedSectionVars false
namespace Go.Proofs.YtgbhbcigjgcedaaDoor.Wk
open Go Go.Cn
open Go.Proofs.YtgbhbcigjgcedaaDoor.Ri (Rises pre suf at_ Pair)
theorem add_both {L : List Kn} {m : Bk} (h : Both L m) (hl : L.length < 100) {k : A8 Int} (hk : wfK k) (ha : at_ cfK kfN L k = none) {c : T_api_Config} (hc : WfV c) (hm : mayV c = true) : Both ((pre cfK kfN L k ++ [⟨k, c⟩]) ++ suf cfK kfN L k) (mset m k c) := by
  have hp := Ri.ins_perm (cf := cfK) (kf := kfN) L k (⟨k, c⟩ : Kn)
  refine ⟨⟨Ri.ins_rises cfK_total h.inv.rises (e := (⟨k, c⟩ : Kn)) ha, fun w hw => ?_, ?_⟩, h.al.add cfK_total rfl ha⟩
  · rcases List.mem_cons.1 (hp.mem_iff.1 hw) with rfl | hw
    · exact ⟨hk, hc, hm⟩
    · exact h.inv.wf w hw
  · rw [hp.length_eq, List.length_cons]; omega
theorem new_both (l : List T_api_Write) (hl : l.length ≤ 100) (hw : ∀ w ∈ l, WfW w) :
    (conf_New l = some (true, (), default) ∧ ∃ b, parrelref21_New l = some (b, 1)) ∨ ∃ L m, conf_New l = some (false, default, m) ∧ parrelref21_New l = some (⟨L⟩, 0) ∧ Both L m := by
  unfold conf_New parrelref21_New
  rw [conf_New_w0 l [] (by omega), parrelref21_New_w0 l [] (by omega)]
  have key : ∀ (r : List T_api_Write) (i : Nat) (L : List Kn) (m : Bk), l.drop i = r → i + r.length = l.length → L.length ≤ i → Both L m →
      (walkL conf_New_b0 conf_New_e0 r m = some (true, (), default) ∧ ∃ b, walkN (parrelref21_New_b0 l) parrelref21_New_e0 r.length i L = some (b, 1)) ∨
      ∃ L' m', walkL conf_New_b0 conf_New_e0 r m = some (false, default, m') ∧ walkN (parrelref21_New_b0 l) parrelref21_New_e0 r.length i L = some (⟨L'⟩, 0) ∧ Both L' m' := by
    intro r
    induction r with
    | nil => intro i L m _ _ _ h; exact .inr ⟨L, m, rfl, rfl, h⟩
    | cons w r ih =>
      intro i L m hd hi hL h
      rw [List.length_cons] at hi
      have hlt : i < l.length := by omega
      have h1 := Ri.getD_drop l i default hlt
      rw [hd] at h1
      have ew := (List.cons.inj h1).1.symm
      have hd2 := (List.cons.inj h1).2.symm
      have hww : WfW w := by rw [← ew]; exact hw _ (getD_mem hlt)
      obtain ⟨s, hs, _⟩ := mayK_eq w.f_Key hww.k
      have hg : mget m w.f_Key = (at_ cfK kfN L w.f_Key).map fun e => (prN e).2 := h.al.get cfK_total w.f_Key
      rw [walkL, List.length_cons, walkN, conf_New_b0, parrelref21_New_b0, ew, hs, keyMay_eq hww.k, Option.bind_some, Option.bind_some]
      simp only
      cases hk : mayK w.f_Key with
      | false => exact .inl ⟨rfl, _, rfl⟩
      | true =>
        rw [if_neg (show ¬ (!true) = true by simp), if_neg (show ¬ (!true) = true by simp), itemMay_eq hww.i, refItemMay_eq hww.i, rfind_eq h.inv, hg, Option.bind_some, Option.bind_some]
        cases hm : mayI w.f_Item with
        | false =>
          left
          refine ⟨?_, _, if_pos rfl⟩
          cases at_ cfK kfN L w.f_Key <;> rfl
        | true =>
          rw [if_neg (show ¬ (!true) = true by simp), if_neg (show ¬ (!true) = true by simp), Option.bind_some]
          cases ha : at_ cfK kfN L w.f_Key with
          | some e => exact .inl ⟨rfl, _, if_pos (by simp)⟩
          | none =>
            have hv : mayV w.f_Item.f_Conf = true := by
              have := hm; unfold mayI at this; simp only [Bool.and_eq_true] at this; exact this.2.2
            have e1 := ins_walk l i (by rw [ew]; exact hww) h.inv (fun L_ => walkN (parrelref21_New_b0 l) parrelref21_New_e0 r.length (i + 1) L_)
            rw [ew] at e1
            rw [if_neg (by simp), if_neg (by simp), e1]
            exact ih (i + 1) _ _ hd2 (by omega) (by
              have := (Ri.ins_perm (cf := cfK) (kf := kfN) L w.f_Key (⟨w.f_Key, w.f_Item.f_Conf⟩ : Kn)).length_eq
              rw [this, List.length_cons]; omega) (add_both h (by omega) hww.k ha hww.i.c hv)
  exact key l 0 [] [] rfl (by omega) (by simp) both_nil
end Go.Proofs.YtgbhbcigjgcedaaDoor.Wk
