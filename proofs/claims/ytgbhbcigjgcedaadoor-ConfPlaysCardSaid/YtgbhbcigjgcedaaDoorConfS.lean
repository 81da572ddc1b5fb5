/- Plain facts: a book of configurations, made, told and moved on. -/
import Derived.Test.YtgbhbcigjgcedaaDoorConfT
set_option linter.unusedVariables false
set_option linter.unusedSimpArgs false
set_option linter.unusedSectionVars false
namespace Go.Proofs.YtgbhbcigjgcedaaDoor.Wk
open Go Go.Cn
open Go.Proofs.YtgbhbcigjgcedaaDoor.Ri (Rises pre suf at_ Pair)
theorem place_gen {E K R0 : Type} [Inhabited E] {cf : K → K → Int} {kf : E → K} {L : List E} {k : K} (R : Nat → Option R0) (f : Nat → Unit → (Unit → Option R0) → Option R0) (e : Unit → Option R0)
    (hf : ∀ i kk, i < L.length → f i () kk = if cf (kf (L.getD i default)) k < 0 then kk () else R i) (he : e () = R L.length) : walkN f e L.length 0 () = R (pre cf kf L k).length := by
  have key : ∀ (m : List E) (i : Nat), L.drop i = m → i + m.length = L.length → walkN f e m.length i () = R (i + (pre cf kf m k).length) := by
    intro m
    induction m with
    | nil =>
      intro i _ hi
      have : i = L.length := by simpa using hi
      subst this
      exact he
    | cons a m ih =>
      intro i hd hi
      have hlt : i < L.length := by simp at hi; omega
      have h1 := Ri.getD_drop L i default hlt
      rw [hd] at h1
      have ha := (List.cons.inj h1).1.symm
      have hd2 := (List.cons.inj h1).2.symm
      rw [List.length_cons, walkN, hf i _ hlt, ha]
      by_cases hc : cf (kf a) k < 0
      · rw [if_pos hc, ih (i + 1) hd2 (by simp at hi; omega)]
        have e1 : pre cf kf (a :: m) k = a :: pre cf kf m k := by simp [pre, List.takeWhile_cons, hc]
        rw [e1, List.length_cons]
        congr 1
        omega
      · rw [if_neg hc]
        have e1 : pre cf kf (a :: m) k = [] := by simp [pre, List.takeWhile_cons, hc]
        rw [e1]; rfl
  have := key L 0 rfl (by simp)
  rwa [Nat.zero_add] at this
theorem ins_walk (l : List T_api_Write) (i : Nat) (hw : WfW (l.getD i default)) {L : List Kn} (h : Inv L) (k0 : List Kn → Option (T_parrelref21_Book × Int)) :
    parrelref21_New_l1 l (i : Int) L (fun _ L_ => k0 L_) big 0 = k0 ((pre cfK kfN L (l.getD i default).f_Key ++ [⟨(l.getD i default).f_Key, (l.getD i default).f_Item.f_Conf⟩]) ++ suf cfK kfN L (l.getD i default).f_Key) := by
  have hl := h.len
  have key := place_gen (cf := cfK) (kf := kfN) (L := L) (k := (l.getD i default).f_Key) (fun q => k0 ((L.take q ++ [⟨(l.getD i default).f_Key, (l.getD i default).f_Item.f_Conf⟩]) ++ L.drop q))
    (parrelref21_New_b1 l (i : Int) L (fun s_ => k0 s_)) (parrelref21_New_e1 l (i : Int) L (fun s_ => k0 s_)) (fun q kk hq => by
      have hm := h.wf _ (getD_mem hq)
      have e : parrelref05_Keys (L.getD q default).f_Key (l.getD i default).f_Key = some (cfK (L.getD q default).f_Key (l.getD i default).f_Key) := rkeys_eq _ _ (keyB_of hm.1) (keyB_of hw.k)
      unfold parrelref21_New_b1
      rw [Int.toNat_natCast]
      show (parrelref05_Keys (L.getD q default).f_Key (l.getD i default).f_Key).bind _ = _
      rw [e, Option.bind_some]
      show (if decide (cfK (L.getD q default).f_Key (l.getD i default).f_Key < 0) = true then _ else _) = if cfK (L.getD q default).f_Key (l.getD i default).f_Key < 0 then _ else _
      by_cases hc : cfK (L.getD q default).f_Key (l.getD i default).f_Key < 0
      · rw [if_pos (by simpa using hc), if_pos hc]
      · rw [if_neg (by simpa using hc), if_neg hc]
        dsimp only
        rw [if_pos (by omega), if_pos (by simp only [List.length_take]; omega), if_pos (by simp only [List.length_take, List.length_cons, List.length_nil]; omega), if_pos (by omega), if_pos (by simp only [List.length_append, List.length_take, List.length_drop, List.length_cons, List.length_nil]; omega)]) (by
      unfold parrelref21_New_e1
      rw [Int.toNat_natCast]
      dsimp only
      rw [Int.toNat_natCast, if_pos (by omega), if_pos (by simp only [List.length_take]; omega), if_pos (by simp only [List.length_take, List.length_cons, List.length_nil]; omega), if_pos (by omega), if_pos (by simp only [List.length_append, List.length_take, List.length_drop, List.length_cons, List.length_nil]; omega)])
  rw [parrelref21_New_w1 _ _ _ _ (by show L.length < _; omega)]
  have key' := key
  rw [Ri.take_pre, show (pre cfK kfN L (l.getD i default).f_Key).length = (pre cfK kfN L (l.getD i default).f_Key).length + 0 from rfl, Ri.drop_pre, List.drop_zero] at key'
  exact key'
theorem keys_self (a : List (A8 Int)) (h : a.length < 9223372036854775807) : parrellaw21_keys a a = some true := by
  rw [parrellaw21_keys, if_neg (by simp), parrellaw21_keys_w0 _ _ h]
  have key : ∀ (c i : Nat), i + c = a.length → walkN (parrellaw21_keys_b0 a a) parrellaw21_keys_e0 c i () = some true := by
    intro c
    induction c with
    | zero => intros; rfl
    | succ c ih =>
      intro i hi
      rw [walkN, parrellaw21_keys_b0, if_pos (by omega), if_neg (by simp)]
      exact ih (i + 1) (by omega)
  exact key _ 0 (by omega)
theorem keys_both {L : List Kn} {m : Bk} (h : Both L m) : ∃ r, conf_Book_Keys m = some r ∧ parrelref21_Book_Keys ⟨L⟩ = some r ∧ r.length ≤ 100 := by
  have hl := h.inv.len
  refine ⟨L.map fun e => (prN e).1, ?_, ?_, by rw [List.length_map]; exact hl⟩
  · have h1 : maps_Keys_map_api_Key_api_Config_api_Key_api_Config m = some () := rfl
    have hml := h.al.len
    unfold conf_Book_Keys
    rw [h1, Option.bind_some, sortO_eq cfK_total key_total (by rw [List.length_map]; unfold maxLen; omega) (by rw [List.length_map]; omega), h.al.sorted cfK_total]; rfl
  · unfold parrelref21_Book_Keys
    rw [parrelref21_Book_Keys_w0 _ _ (by show L.length < _; omega)]
    have key : ∀ (l : List Kn) (s : List (A8 Int)), s.length + l.length ≤ 100 → walkL parrelref21_Book_Keys_b0 parrelref21_Book_Keys_e0 l s = some (s ++ l.map fun e => (prN e).1) := by
      intro l
      induction l with
      | nil => intro s _; rw [walkL, List.map_nil, List.append_nil]; rfl
      | cons a l ih =>
        intro s hs
        rw [List.length_cons] at hs
        rw [walkL, parrelref21_Book_Keys_b0, if_pos (by simp only [List.length_cons, List.length_nil]; omega), ih _ (by simp only [List.length_append, List.length_cons, List.length_nil]; omega), List.map_cons, List.append_assoc]; rfl
    exact key L [] (by simpa using hl)
end Go.Proofs.YtgbhbcigjgcedaaDoor.Wk
