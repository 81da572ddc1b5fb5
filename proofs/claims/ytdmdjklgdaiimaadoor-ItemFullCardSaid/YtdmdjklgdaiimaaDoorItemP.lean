/- Plain facts: a table of items answers as the list that rises does. -/
import Derived.Test.YtdmdjklgdaiimaaDoorItemWF
import Derived.Test.YtdmdjklgdaiimaaDoorItemK
import Derived.Test.YtdmdjklgdaiimaaDoorItemV
import Derived.Test.YtdmdjklgdaiimaaDoorRiseP
set_option linter.unusedVariables false
set_option linter.unusedSimpArgs false
set_option linter.unusedSectionVars false
namespace Go.Proofs.YtdmdjklgdaiimaaDoor.Wk
open Go Go.Cn
open Go.Proofs.YtdmdjklgdaiimaaDoor.Ri (Rises pre suf at_ Pair)

def prW (w : T_api_Write) : A8 Int × T_api_Item := (w.f_Key, w.f_Item)
abbrev kfW (w : T_api_Write) : A8 Int := (prW w).1
structure WfI (i : T_api_Item) : Prop where
  v : 0 ≤ i.f_Version ∧ i.f_Version < 4294967296
  c : WfV i.f_Conf
structure WfW (w : T_api_Write) : Prop where
  k : wfK w.f_Key
  i : WfI w.f_Item
def mayI (i : T_api_Item) : Bool := decide (i.f_Version ≤ 2147483647) && (decide (i.f_Value.length ≤ 64) && mayV i.f_Conf)
theorem itemMay_eq {i : T_api_Item} (h : WfI i) : msg_ItemMay i = some (mayI i) := by
  unfold msg_ItemMay mayI
  rw [votesMay_eq h.c]
  by_cases h1 : i.f_Version ≤ 2147483647 <;> by_cases h2 : i.f_Value.length ≤ 64 <;> simp [h1, h2] <;> omega
theorem refItemMay_eq {i : T_api_Item} (h : WfI i) : parrelref10_ItemMay i = some (mayI i) := by
  unfold parrelref10_ItemMay mayI
  rw [refMay_eq h.c]
  by_cases h1 : i.f_Version ≤ 2147483647 <;> by_cases h2 : i.f_Value.length ≤ 64 <;> simp [h1, h2] <;> omega
theorem may_eq {k : A8 Int} {i : T_api_Item} (hk : wfK k) (hi : WfI i) : item_may k i = some (mayK k && mayI i) := by
  obtain ⟨s, h1, _⟩ := mayK_eq k hk
  unfold item_may
  rw [h1, Option.bind_some, itemMay_eq hi]
  cases mayK k <;> rfl
theorem keyMay_eq {k : A8 Int} (hk : wfK k) : parrelref10_KeyMay k = some (mayK k) := by
  obtain ⟨s, _, h2⟩ := mayK_eq k hk
  unfold parrelref10_KeyMay
  rw [h2]; rfl

/-- An item comes. -/
noncomputable def ins (L : List T_api_Write) (w : T_api_Write) : Int × List T_api_Write :=
  if (mayK w.f_Key && mayI w.f_Item) = false then (1, L) else
  match at_ cfK kfW L w.f_Key with
  | none => if 64 ≤ L.length then (5, L) else (0, (pre cfK kfW L w.f_Key ++ [w]) ++ suf cfK kfW L w.f_Key)
  | some e => if w.f_Item.f_Version < e.f_Item.f_Version then (13, L) else if e.f_Item.f_Version = w.f_Item.f_Version ∧ e.f_Item ≠ w.f_Item then (7, L) else (0, L.set (pre cfK kfW L w.f_Key).length w)
structure Inv (L : List T_api_Write) : Prop where
  rises : Rises cfK kfW L
  wf : ∀ w ∈ L, WfW w
  len : L.length ≤ 64
theorem inv_nil : Inv [] := ⟨List.Pairwise.nil, (fun _ h => nomatch h), Nat.zero_le _⟩
/-- What an item does, in cases. -/
theorem ins_cases (L : List T_api_Write) (w : T_api_Write) : ((ins L w).1 ≠ 0 ∧ (ins L w).2 = L) ∨
    ((ins L w).1 = 0 ∧ at_ cfK kfW L w.f_Key = none ∧ L.length < 64 ∧ (ins L w).2 = (pre cfK kfW L w.f_Key ++ [w]) ++ suf cfK kfW L w.f_Key) ∨
    ((ins L w).1 = 0 ∧ ∃ e, at_ cfK kfW L w.f_Key = some e ∧ e.f_Item.f_Version ≤ w.f_Item.f_Version ∧ (ins L w).2 = L.set (pre cfK kfW L w.f_Key).length w) := by
  unfold ins
  split
  · exact .inl ⟨by simp, rfl⟩
  · split
    · rename_i ha
      split
      · exact .inl ⟨by simp, rfl⟩
      · exact .inr (.inl ⟨rfl, ha, by omega, rfl⟩)
    · rename_i e ha
      split
      · exact .inl ⟨by simp, rfl⟩
      · split
        · exact .inl ⟨by simp, rfl⟩
        · exact .inr (.inr ⟨rfl, e, ha, by omega, rfl⟩)
theorem Inv.ins {L : List T_api_Write} (h : Inv L) {w : T_api_Write} (hw : WfW w) : Inv (ins L w).2 := by
  rcases ins_cases L w with ⟨_, e⟩ | ⟨_, ha, hl, e⟩ | ⟨_, x, ha, _, e⟩
  · rw [e]; exact h
  · rw [e]
    have hp := Ri.ins_perm (cf := cfK) (kf := kfW) L w.f_Key w
    refine ⟨Ri.ins_rises (e := w) cfK_total h.rises ha, fun x hx => ?_, by rw [hp.length_eq, List.length_cons]; omega⟩
    rcases List.mem_cons.1 (hp.mem_iff.1 hx) with rfl | hx
    · exact hw
    · exact h.wf x hx
  · rw [e]
    refine ⟨Ri.set_rises h.rises ha rfl, fun y hy => ?_, by rw [List.length_set]; exact h.len⟩
    rcases List.mem_or_eq_of_mem_set hy with hy | rfl
    · exact h.wf y hy
    · exact hw
theorem install_raw {m : List (A8 Int × T_api_Item)} {k : A8 Int} {i : T_api_Item} {b : Bool} (hb : item_may k i = some b) :
    item_Table_Install m k i = if b = false then some ((1 : Int), m) else
      match mget m k with
      | none => if m.length = 64 then some (5, m) else some (0, mset m k i)
      | some x => if i.f_Version < x.f_Version then some (13, m) else if x.f_Version = i.f_Version ∧ x ≠ i then some (7, m) else some (0, mset m k i) := by
  unfold item_Table_Install item_Table_Get item_Table_ok
  rw [hb]
  simp only [Option.bind_some]
  cases b with
  | false => rfl
  | true =>
    cases mget m k with
    | none =>
      have e : ((m.length : Int) == 64) = decide (m.length = 64) := by
        rw [Bool.eq_iff_iff, beq_iff_eq, decide_eq_true_eq]; omega
      simp [e]
    | some x =>
      simp only [Option.getD_some, Option.isSome_some, Bool.not_true, Bool.false_eq_true, if_false, if_true, Bool.true_eq_false, decide_eq_true_eq, beq_iff_eq, Bool.not_eq_true', decide_eq_false_iff_not]
      by_cases h1 : i.f_Version < x.f_Version
      · rw [if_pos h1, if_pos h1]
      · rw [if_neg h1, if_neg h1]
        by_cases h2 : x.f_Version = i.f_Version <;> by_cases h3 : x = i <;> simp [h2, h3]
theorem install_eq {L : List T_api_Write} {m : List (A8 Int × T_api_Item)} (h : Inv L) (a : Pair cfK prW L m) {w : T_api_Write} (hw : WfW w) :
    ∃ m', item_Table_Install m w.f_Key w.f_Item = some ((ins L w).1, m') ∧ Pair cfK prW (ins L w).2 m' := by
  have hlen := a.len
  have hg : mget m w.f_Key = (at_ cfK kfW L w.f_Key).map fun e => e.f_Item := a.get cfK_total w.f_Key
  rw [install_raw (may_eq hw.k hw.i), hg]
  unfold ins
  split
  · exact ⟨m, rfl, a⟩
  · cases ha : at_ cfK kfW L w.f_Key with
    | none =>
      have hadd := a.add cfK_total (e := w) rfl ha
      simp only [Option.map_none]
      by_cases h64 : 64 ≤ L.length
      · have := h.len
        rw [if_pos h64, if_pos (by omega)]
        exact ⟨m, rfl, a⟩
      · rw [if_neg h64, if_neg (by omega)]
        exact ⟨_, rfl, hadd⟩
    | some e =>
      have hu := a.upd cfK_total (e := w) rfl ha
      simp only [Option.map_some]
      split
      · exact ⟨m, rfl, a⟩
      · split
        · exact ⟨m, rfl, a⟩
        · exact ⟨_, rfl, hu⟩
theorem place_eq {L : List T_api_Write} (h : Inv L) {k : A8 Int} (hk : wfK k) : parrelref13_Table_place ⟨L⟩ k = some (((pre cfK kfW L k).length : Int), (at_ cfK kfW L k).isSome) := by
  have hl := h.len
  unfold parrelref13_Table_place
  rw [parrelref13_Table_place_w0 ⟨L⟩ k (by show L.length < _; omega)]
  refine Ri.place_walk (cf := cfK) (kf := kfW) (L := L) _ _ (fun i kk hi => ?_) ?_
  · unfold parrelref13_Table_place_b0
    have hm := h.wf _ (getD_mem hi)
    have e : parrelref05_Keys (L.getD i default).f_Key k = some (cfK (L.getD i default).f_Key k) := rkeys_eq _ _ (keyB_of hm.k) (keyB_of hk)
    show (parrelref05_Keys (L.getD i default).f_Key k).bind _ = _
    rw [e, Option.bind_some]
    show (if decide (cfK (L.getD i default).f_Key k < 0) = true then _ else _) = if cfK (L.getD i default).f_Key k < 0 then _ else _
    by_cases hc : cfK (L.getD i default).f_Key k < 0
    · rw [if_pos (by simpa using hc), if_pos hc]
    · rw [if_neg (by simpa using hc), if_neg hc, if_pos (by simp; omega)]; rfl
  · unfold parrelref13_Table_place_e0
    rw [if_neg (by simp)]
theorem refInstall_eq {L : List T_api_Write} (h : Inv L) {w : T_api_Write} (hw : WfW w) : parrelref13_Table_Install ⟨L⟩ w.f_Key w.f_Item = some (ins L w) := by
  have hl := h.len
  unfold parrelref13_Table_Install
  rw [keyMay_eq hw.k, refItemMay_eq hw.i, place_eq h hw.k]
  simp only [Option.bind_some]
  unfold ins
  cases hk : mayK w.f_Key with
  | false => simp
  | true =>
    cases hi : mayI w.f_Item with
    | false => simp
    | true =>
      simp only [Bool.not_true, Bool.false_eq_true, if_false, Bool.and_self, Bool.true_eq_false]
      have hple := Ri.pre_le (cf := cfK) (kf := kfW) L w.f_Key
      have htk := Ri.take_pre (cf := cfK) (kf := kfW) L w.f_Key
      have hdr : L.drop (pre cfK kfW L w.f_Key).length = suf cfK kfW L w.f_Key := by simpa using Ri.drop_pre (cf := cfK) (kf := kfW) L w.f_Key 0
      have hsl := congrArg List.length (Ri.pre_suf (cf := cfK) (kf := kfW) L w.f_Key)
      rw [List.length_append] at hsl
      cases ha : at_ cfK kfW L w.f_Key with
      | none =>
        simp only [Option.isSome_none, Bool.not_false, if_true, Int.toNat_natCast, htk, hdr, List.length_append, List.length_cons, List.length_nil]
        by_cases h64 : 64 ≤ L.length
        · rw [if_pos (by simp; omega), if_pos h64]
        · rw [if_neg (by simp; omega), if_neg h64, if_pos (by omega), if_pos (by omega), if_pos (by omega), if_pos (by omega), if_pos (by omega)]
      | some e =>
        obtain ⟨hlt, hget⟩ := Ri.getD_pre ha
        have hkey : e.f_Key = w.f_Key := (Ri.at_mem ha).2.1
        simp only [Option.isSome_some, Bool.not_true, Bool.false_eq_true, if_false, Int.toNat_natCast, hget]
        rw [if_pos (by omega)]
        have hmk : T_api_Write.mk e.f_Key w.f_Item = w := by rw [hkey]
        by_cases h1 : w.f_Item.f_Version < e.f_Item.f_Version
        · rw [if_pos (by simpa using h1), if_pos h1]
        · rw [if_neg (by simpa using h1), if_neg h1]
          by_cases h2 : e.f_Item.f_Version = w.f_Item.f_Version
          · rw [if_pos (by simpa using h2)]
            by_cases h3 : e.f_Item = w.f_Item
            · have hx : (!decide (e.f_Item = w.f_Item)) = false := by simp [h3]
              have hy : ¬ (e.f_Item.f_Version = w.f_Item.f_Version ∧ e.f_Item ≠ w.f_Item) := fun hh => hh.2 h3
              rw [hx, if_neg Bool.false_ne_true, if_pos (by omega), hmk, if_neg hy]
            · have hx : (!decide (e.f_Item = w.f_Item)) = true := by simp [h3]
              rw [hx, if_pos rfl, if_pos ⟨h2, h3⟩]
          · have hy : ¬ (e.f_Item.f_Version = w.f_Item.f_Version ∧ e.f_Item ≠ w.f_Item) := fun hh => h2 hh.1
            rw [if_neg (by simpa using h2), if_pos (by omega), hmk, if_neg hy]

theorem all_walk {L : List T_api_Write} {m : List (A8 Int × T_api_Item)} (h : Inv L) (a : Pair cfK prW L m) : ∀ (l acc : List T_api_Write), (∀ w ∈ l, w ∈ L) → acc.length + l.length ≤ 64 → walkL (item_Table_All_b0 m) item_Table_All_e0 (l.map kfW) acc = some (acc ++ l)
  | [], acc, _, _ => by rw [List.append_nil]; rfl
  | w :: l, acc, hm, hl => by
    have hat := Ri.at_some (kf := kfW) cfK_total h.rises (hm w List.mem_cons_self) rfl
    have hg := a.get cfK_total (kfW w)
    have hat' : at_ cfK (fun e => (prW e).1) L (kfW w) = some w := hat
    rw [hat'] at hg
    rw [List.length_cons] at hl
    rw [List.map_cons, walkL]
    unfold item_Table_All_b0
    rw [hg]
    simp only [Option.map_some, Option.getD_some]
    rw [if_pos (by rw [List.length_singleton]; omega)]
    have e : T_api_Write.mk (kfW w) (prW w).2 = w := rfl
    rw [e]
    have := all_walk h a l (acc ++ [w]) (fun x hx => hm x (List.mem_cons_of_mem _ hx)) (by rw [List.length_append, List.length_singleton]; omega)
    rw [List.append_assoc, List.singleton_append] at this
    exact this
theorem all_eq {L : List T_api_Write} {m : List (A8 Int × T_api_Item)} (h : Inv L) (a : Pair cfK prW L m) : item_Table_All m = some L := by
  have hl := h.len
  have hml : (m.map (·.1)).length = L.length := by rw [List.length_map]; exact a.len
  have h1 : item_Table_ok m = some () := rfl
  have h2 : maps_Keys_map_api_Key_api_Item_api_Key_api_Item m = some () := rfl
  unfold item_Table_All
  rw [h1, Option.bind_some, h2, Option.bind_some, sortO_eq cfK_total key_total (by show _ ≤ maxLen; unfold maxLen; omega) (by omega), Option.bind_some, a.sorted cfK_total,
    item_Table_All_w0 m _ [] (by rw [List.length_map]; omega)]
  have := all_walk h a L [] (fun _ hx => hx) (by simpa using hl)
  rwa [List.nil_append] at this
theorem len_eq {L : List T_api_Write} {m : List (A8 Int × T_api_Item)} (h : Inv L) (a : Pair cfK prW L m) : item_Table_Len m = some (L.length : Int) := by
  unfold item_Table_Len; rw [all_eq h a]; rfl
theorem same_b {L : List T_api_Write} {i : Nat} (h : i < L.length) (k : Unit → Option Bool) : parrelref10_SameWrites_b0 L L i () k = k () := by
  unfold parrelref10_SameWrites_b0
  rw [if_pos (by omega), if_neg (by simp)]
theorem same_refl {L : List T_api_Write} (hl : L.length ≤ 64) : parrelref10_SameWrites L L = some true := by
  unfold parrelref10_SameWrites
  rw [if_neg (by simp), parrelref10_SameWrites_w0 L L (by omega)]
  exact Ri.walkN_inv (fun _ _ => True) L.length (fun i s hi _ => ⟨(), trivial, fun k => same_b hi k⟩) (fun _ _ => rfl) () trivial
/-- What is there of a key. -/
noncomputable def getS (L : List T_api_Write) (k : A8 Int) : T_api_Item × Bool :=
  match at_ cfK kfW L k with
  | none => (default, false)
  | some e => (e.f_Item, true)
theorem get_eq {L : List T_api_Write} {m : List (A8 Int × T_api_Item)} (a : Pair cfK prW L m) (k : A8 Int) : item_Table_Get m k = some (getS L k) := by
  have hg := a.get cfK_total k
  unfold item_Table_Get item_Table_ok getS
  rw [hg]
  show some _ = some (match at_ cfK (fun e => (prW e).1) L k with | none => _ | some e => _)
  cases at_ cfK (fun e => (prW e).1) L k <;> rfl
theorem refGet_eq {L : List T_api_Write} (h : Inv L) {k : A8 Int} (hk : wfK k) : parrelref13_Table_Get ⟨L⟩ k = some (getS L k) := by
  unfold parrelref13_Table_Get getS
  rw [place_eq h hk, Option.bind_some]
  cases ha : at_ cfK kfW L k with
  | none => rfl
  | some e =>
    obtain ⟨hlt, hget⟩ := Ri.getD_pre ha
    simp only [Option.isSome_some, Bool.not_true, Bool.false_eq_true, if_false, Int.toNat_natCast, hget]
    rw [if_pos (by omega)]

/-! The pair -/
structure Both (L : List T_api_Write) (m : List (A8 Int × T_api_Item)) : Prop where
  inv : Inv L
  al : Pair cfK prW L m
theorem both_nil : Both [] [] := ⟨inv_nil, Pair.nil⟩
theorem Both.install {L : List T_api_Write} {m : List (A8 Int × T_api_Item)} (h : Both L m) {w : T_api_Write} (hw : WfW w) :
    ∃ m', item_Table_Install m w.f_Key w.f_Item = some ((ins L w).1, m') ∧ Both (ins L w).2 m' := by
  obtain ⟨m', h1, h2⟩ := install_eq h.inv h.al hw
  exact ⟨m', h1, h.inv.ins hw, h2⟩
theorem Both.all {L : List T_api_Write} {m : List (A8 Int × T_api_Item)} (h : Both L m) : item_Table_All m = some L := all_eq h.inv h.al
theorem Both.len {L : List T_api_Write} {m : List (A8 Int × T_api_Item)} (h : Both L m) : item_Table_Len m = some (L.length : Int) := len_eq h.inv h.al

theorem short_eq (l : List T_api_Write) : parrellaw13_short l = some (l.take (min l.length 150)) := by
  have hmin : (if 150 < (l.length : Int) then (150 : Int) else (l.length : Int)) = ((min l.length 150 : Nat) : Int) := by split <;> omega
  unfold parrellaw13_short
  rw [hmin, if_pos (by omega), Int.toNat_natCast]
theorem short_len (l : List T_api_Write) : (l.take (min l.length 150)).length ≤ 150 := by rw [List.length_take]; omega
theorem long_eq (l : List T_api_Write) : ∃ b, parrellaw13_long l = some b := by
  unfold parrellaw13_long
  rw [short_eq, Option.bind_some, parrellaw13_long_w0 _ 0 (by have := short_len l; omega)]
  have : ∀ (y : List T_api_Write) (n i : Nat) (s : Int), ∃ b, walkN (parrellaw13_long_b0 y) parrellaw13_long_e0 n i s = some b := by
    intro y n
    induction n with
    | zero => intro i s; exact ⟨_, rfl⟩
    | succ n ih => intro i s; rw [walkN]; exact ih _ _
  exact this _ _ _ _

def k97 : A8 Int := A8.mk 97 0 0 0 0 0 0 0
def conf1 : T_api_Config := T_api_Config.mk 1 1 1 (A8.mk 1 0 0 0 0 0 0 0)
def it2 : T_api_Item := T_api_Item.mk 2 [120] conf1
theorem wfK97 : wfK k97 := by
  intro x hx; simp only [k97, A8.list, List.mem_cons, List.not_mem_nil, or_false] at hx; omega
theorem wfV1 : WfV conf1 := by
  refine ⟨by decide, by decide, by decide, fun i hi => ?_⟩
  rcases (by omega : i = 0 ∨ i = 1 ∨ i = 2 ∨ i = 3 ∨ i = 4 ∨ i = 5 ∨ i = 6 ∨ i = 7) with rfl | rfl | rfl | rfl | rfl | rfl | rfl | rfl <;> decide
theorem both1 (w : T_api_Write) (hw : WfW w) : Both [w] [(w.f_Key, w.f_Item)] :=
  ⟨⟨List.pairwise_singleton _ _, fun x hx => by rw [List.mem_singleton.1 hx]; exact hw, by simp⟩, ⟨List.pairwise_singleton _ _, List.Perm.refl _⟩⟩
theorem alive_eq : parrellaw13_alive = some true := by
  have h0 : item_New = some [] := rfl
  have h1 : item_Table_Install [] k97 it2 = some (0, [(k97, it2)]) := by kernel_rfl
  have h2 : item_Table_Install [(k97, it2)] k97 (T_api_Item.mk 1 [121] conf1) = some (13, [(k97, it2)]) := by kernel_rfl
  have h3 : item_Table_Get [(k97, it2)] k97 = some (it2, true) := by kernel_rfl
  have h4 := (both1 ⟨k97, it2⟩ ⟨wfK97, ⟨by decide, wfV1⟩⟩).len
  have e1 : parrellaw13_one 2 [120] = some it2 := rfl
  have e2 : parrellaw13_one 1 [121] = some (T_api_Item.mk 1 [121] conf1) := rfl
  unfold parrellaw13_alive
  rw [h0, Option.bind_some, e1, Option.bind_some]
  show (item_Table_Install [] k97 it2).bind _ = _
  rw [h1, Option.bind_some, if_neg (by decide), e2, Option.bind_some]
  show (item_Table_Install [(k97, it2)] k97 _).bind _ = _
  rw [h2, Option.bind_some, if_neg (by decide)]
  show (item_Table_Get [(k97, it2)] k97).bind _ = _
  rw [h3, Option.bind_some, if_pos rfl, Option.bind_some, if_pos (by simp)]
  show (item_Table_Len [(k97, it2)]).bind _ = _
  rw [h4]; rfl
theorem alive_tail : (parrellaw13_alive.bind fun y => some y) = some true := by rw [alive_eq]; rfl

/-! ItemPlays -/
theorem plays_round {L : List T_api_Write} {m : List (A8 Int × T_api_Item)} (h : Both L m) (y : List T_api_Write) (i : Nat) (hw : WfW (y.getD i default)) :
    ∃ s', Both s'.1 s'.2 ∧ ∀ k, parrellaw13_ItemPlays_b0 y i (L, m) k = k s' := by
  obtain ⟨m', h1, h2⟩ := h.install hw
  have hl := h2.inv.len
  refine ⟨((ins L (y.getD i default)).2, m'), h2, fun k => ?_⟩
  unfold parrellaw13_ItemPlays_b0
  simp only [h1, refInstall_eq h.inv hw, h2.all, h2.len, same_refl hl, get_eq h2.al, refGet_eq h2.inv hw.k, Option.bind_some, bne_self_eq_false, Bool.false_eq_true, if_false, Bool.not_true, decide_true, beq_self_eq_true]
def WfL (l : List T_api_Write) : Prop := ∀ w ∈ l, WfW w
theorem WfL.take {l : List T_api_Write} (h : WfL l) (n : Nat) : WfL (l.take n) := fun w hw => h w (List.mem_of_mem_take hw)
theorem plays_eq (l : List T_api_Write) (h : WfL l) : parrellaw13_ItemPlays l = some true := by
  obtain ⟨b, hb⟩ := long_eq l
  have h0 : item_New = some [] := rfl
  unfold parrellaw13_ItemPlays
  rw [h0, Option.bind_some, hb, Option.bind_some]
  cases b with
  | true => rw [if_pos rfl]; exact alive_tail
  | false =>
    have hl := short_len l
    rw [if_neg (by simp), short_eq, Option.bind_some, parrellaw13_ItemPlays_w0 _ [] [] (by omega)]
    exact Ri.walkN_inv (fun _ s => Both s.1 s.2) _ (fun i s hi hs => plays_round hs _ i (h.take _ _ (getD_mem hi))) (fun _ _ => alive_tail) ([], []) both_nil

/-! ItemRise -/
theorem getS_some {L : List T_api_Write} (hr : Rises cfK kfW L) {w : T_api_Write} (hw : w ∈ L) : getS L w.f_Key = (w.f_Item, true) := by
  unfold getS; rw [Ri.at_some (kf := kfW) (k := w.f_Key) cfK_total hr hw rfl]
theorem ins_mem {L : List T_api_Write} {w : T_api_Write} (h0 : (ins L w).1 = 0) : w ∈ (ins L w).2 ∧ ∀ x ∈ L, x.f_Key ≠ w.f_Key → x ∈ (ins L w).2 := by
  rcases ins_cases L w with ⟨h, _⟩ | ⟨_, _, _, e⟩ | ⟨_, x, ha, _, e⟩
  · exact absurd h0 h
  · rw [e]
    have hp := Ri.ins_perm (cf := cfK) (kf := kfW) L w.f_Key w
    exact ⟨hp.mem_iff.2 List.mem_cons_self, fun x hx _ => hp.mem_iff.2 (List.mem_cons_of_mem _ hx)⟩
  · rw [e]
    have hp := Ri.set_perm ha w
    refine ⟨hp.mem_iff.2 List.mem_cons_self, fun y hy hk => hp.mem_iff.2 (List.mem_cons_of_mem _ ?_)⟩
    rcases List.mem_cons.1 ((Ri.del_perm ha).mem_iff.1 hy) with rfl | hy
    · exact absurd (Ri.at_mem ha).2.1 hk
    · exact hy
theorem ins_ver {L : List T_api_Write} (hr : Rises cfK kfW L) {w x : T_api_Write} (h0 : (ins L w).1 = 0) (hx : x ∈ L) (hk : x.f_Key = w.f_Key) : x.f_Item.f_Version ≤ w.f_Item.f_Version := by
  have ha := Ri.at_some (kf := kfW) (k := w.f_Key) cfK_total hr hx hk
  rcases ins_cases L w with ⟨h, _⟩ | ⟨_, hn, _, _⟩ | ⟨_, y, hy, hv, _⟩
  · exact absurd h0 h
  · rw [ha] at hn; cases hn
  · rw [ha] at hy; cases hy; exact hv
theorem rise_inner {L : List T_api_Write} {m m' : List (A8 Int × T_api_Item)} {w : T_api_Write} (h : Both L m) (h0 : (ins L w).1 = 0) (h2 : Both (ins L w).2 m') (t : Int) (y : List T_api_Write) (hy : y.getD t.toNat default = w) (k0 : Int → List (A8 Int × T_api_Item) → Option Bool) :
    parrellaw13_ItemRise_l1 t y L (0, m') k0 big 0 = k0 (IntKind.wrap .i64 (t + 1)) m' := by
  have hl := h.inv.len
  obtain ⟨hw1, hw2⟩ := ins_mem h0
  rw [parrellaw13_ItemRise_w1 t y L (0, m') k0 (by omega)]
  refine Ri.walkN_inv (fun _ _ => True) _ (fun i s hi _ => ⟨(), trivial, fun k => ?_⟩) (fun s _ => ?_) () trivial
  · have hx := getD_mem hi
    unfold parrellaw13_ItemRise_b1
    simp only [hy]
    generalize L.getD i default = x at hx ⊢
    rw [get_eq h2.al, Option.bind_some]
    by_cases hk : x.f_Key = w.f_Key
    · have hv := ins_ver h.inv.rises h0 hx hk
      have hv2 : ¬ w.f_Item.f_Version < x.f_Item.f_Version := by omega
      rw [hk, getS_some h2.inv.rises hw1]
      simp [hv2]
    · rw [getS_some h2.inv.rises (hw2 x hx hk)]
      simp [hk]
  · unfold parrellaw13_ItemRise_e1
    rw [get_eq h2.al, Option.bind_some, hy, getS_some h2.inv.rises hw1]
    simp
theorem rise_round {L : List T_api_Write} {m : List (A8 Int × T_api_Item)} (h : Both L m) (y : List T_api_Write) (i : Nat) (hw : WfW (y.getD i default)) :
    ∃ s', (∃ L', Both L' s') ∧ ∀ k, parrellaw13_ItemRise_b0 y i m k = k s' := by
  obtain ⟨m', h1, h2⟩ := h.install hw
  have hl := h2.inv.len
  refine ⟨m', ⟨_, h2⟩, fun k => ?_⟩
  unfold parrellaw13_ItemRise_b0
  rw [h.all, Option.bind_some, h1, Option.bind_some, h2.all, Option.bind_some]
  by_cases h0 : (ins L (y.getD i default)).1 = 0
  · rw [if_neg (show ¬ (((ins L (y.getD i default)).1 != 0) = true) by rw [h0]; decide), h0]
    exact rise_inner h h0 h2 (i : Int) y (by rw [Int.toNat_natCast]) (fun _ m_ => k m_)
  · rw [if_pos (by simpa using h0)]
    rcases ins_cases L (y.getD i default) with ⟨_, e⟩ | ⟨e, _⟩ | ⟨e, _⟩
    · rw [e, same_refl h.inv.len]; rfl
    · exact absurd e h0
    · exact absurd e h0
theorem rise_eq (l : List T_api_Write) (h : WfL l) : parrellaw13_ItemRise l = some true := by
  obtain ⟨b, hb⟩ := long_eq l
  have h0 : item_New = some [] := rfl
  unfold parrellaw13_ItemRise
  rw [h0, Option.bind_some, hb, Option.bind_some]
  cases b with
  | true => rw [if_pos rfl]; exact alive_tail
  | false =>
    have hl := short_len l
    rw [if_neg (by simp), short_eq, Option.bind_some, parrellaw13_ItemRise_w0 _ [] (by omega)]
    exact Ri.walkN_inv (fun _ s => ∃ L, Both L s) _ (fun i s hi hs => by obtain ⟨L, hs⟩ := hs; exact rise_round hs _ i (h.take _ _ (getD_mem hi))) (fun _ _ => alive_tail) [] ⟨[], both_nil⟩

/-! ItemMerges -/
/-- One table into another. -/
noncomputable def merge : List T_api_Write → List T_api_Write → Int × List T_api_Write
  | [], L => (0, L)
  | w :: r, L => if (ins L w).1 = 0 ∨ (ins L w).1 = 13 then merge r (ins L w).2 else ins L w
theorem merge_round (z : Int) (P Q : Prop) [Decidable P] (x y : Option Bool) : True := trivial
theorem merge3_eq (m0 m2 : List (A8 Int × T_api_Item)) (o : List T_api_Write) (ho : o.length ≤ 64) (hw : WfL o) {L : List T_api_Write} {m : List (A8 Int × T_api_Item)} (h : Both L m) :
    ∃ m', item_Table_Merge_3_l0 m0 m2 o big 0 m = some ((merge o L).1, m') ∧ Both (merge o L).2 m' := by
  have hN : o.length < 9223372036854775807 := by omega
  first
    | rw [item_Table_Merge_3_w0 m0 m2 o m hN]
    | rw [item_Table_Merge_3_w0 o m0 m2 m hN]
  have key : ∀ (r : List T_api_Write) (i : Nat) (L : List T_api_Write) (m : List (A8 Int × T_api_Item)), o.drop i = r → i + r.length = o.length → Both L m → ∃ m', walkN (item_Table_Merge_3_b0 o) item_Table_Merge_3_e0 r.length i m = some ((merge r L).1, m') ∧ Both (merge r L).2 m' := by
    intro r
    induction r with
    | nil => intro i L m _ _ h; exact ⟨m, rfl, h⟩
    | cons w r ih =>
      intro i L m hd hi h
      have hlt : i < o.length := by simp at hi; omega
      have h1 := Ri.getD_drop o i default hlt
      rw [hd] at h1
      have ha := (List.cons.inj h1).1.symm
      have hd2 := (List.cons.inj h1).2.symm
      obtain ⟨m', e1, e2⟩ := h.install (w := w) (by rw [← ha]; exact hw _ (getD_mem hlt))
      rw [List.length_cons, walkN]
      unfold item_Table_Merge_3_b0
      simp only [ha, e1, Option.bind_some]
      unfold merge
      by_cases h0 : (ins L w).1 = 0
      · rw [if_neg (by simp [h0]), if_pos (.inl h0)]
        exact ih (i + 1) _ _ hd2 (by simp at hi; omega) e2
      · rw [if_pos (by simpa using h0)]
        by_cases h13 : (ins L w).1 = 13
        · rw [if_neg (by simp [h13]), if_pos (.inr h13)]
          exact ih (i + 1) _ _ hd2 (by simp at hi; omega) e2
        · rw [if_pos (by simpa using h13), if_neg (by simp [h0, h13])]
          exact ⟨m', rfl, e2⟩
  exact key o 0 L m rfl (by simp) h
theorem refMerge_eq (o : List T_api_Write) (ho : o.length ≤ 64) (hw : WfL o) {L : List T_api_Write} (h : Inv L) : parrelref13_Table_Merge ⟨L⟩ ⟨o⟩ = some (merge o L) := by
  unfold parrelref13_Table_Merge
  rw [parrelref13_Table_Merge_w0 ⟨L⟩ ⟨o⟩ L (by show o.length < _; omega)]
  show walkL _ _ o L = _
  clear ho
  induction o generalizing L with
  | nil => rfl
  | cons w r ih =>
    have hw1 := hw w List.mem_cons_self
    rw [walkL]
    unfold parrelref13_Table_Merge_b0
    rw [refInstall_eq h hw1, Option.bind_some]
    unfold merge
    have ih' := ih (fun x hx => hw x (List.mem_cons_of_mem _ hx)) (h.ins hw1)
    by_cases h0 : (ins L w).1 = 0
    · rw [if_neg (by simp [h0]), if_pos (.inl h0)]; exact ih'
    · rw [if_pos (by simpa using h0)]
      by_cases h13 : (ins L w).1 = 13
      · rw [if_neg (by simp [h13]), if_pos (.inr h13)]; exact ih'
      · rw [if_pos (by simpa using h13), if_neg (by simp [h0, h13])]
theorem merge4_eq (m : List (A8 Int × T_api_Item)) : item_Table_Merge_4 m = some (0, m) := by
  have h1 : item_Table_ok m = some () := rfl
  have h2 : item_Table_All_2 = some [] := rfl
  unfold item_Table_Merge_4
  rw [h1, Option.bind_some, h2, Option.bind_some, item_Table_Merge_4_w0 m [] m (by decide)]
  rfl
/-- The newest of items. -/
def newB (s : Int × List UInt8 × T_api_Config) (a : T_api_Item) : Int × List UInt8 × T_api_Config := if s.1 < a.f_Version then (a.f_Version, a.f_Value, a.f_Conf) else s
theorem newest_walk (f : T_api_Item → Int × List UInt8 × T_api_Config → (Int × List UInt8 × T_api_Config → Option (T_api_Item × Bool)) → Option (T_api_Item × Bool)) (e : Int × List UInt8 × T_api_Config → Option (T_api_Item × Bool))
    (hf : ∀ a s k, f a s k = k (newB s a)) (l : List T_api_Item) (s : Int × List UInt8 × T_api_Config) : walkL f e l s = e (l.foldl newB s) := by
  induction l generalizing s with
  | nil => rfl
  | cons a l ih => rw [walkL, hf, ih]; rfl
theorem newest_b (a : T_api_Item) (s : Int × List UInt8 × T_api_Config) (k : Int × List UInt8 × T_api_Config → Option (T_api_Item × Bool)) : item_Newest_b0 a s k = k (newB s a) := by
  unfold item_Newest_b0 newB
  by_cases h : s.1 < a.f_Version
  · rw [if_pos (by simpa using h), if_pos h]
  · rw [if_neg (by simpa using h), if_neg h]
theorem rnewest_loop (l : List T_api_Item) (hl : l.length ≤ 1000) : ∀ (fuel i : Nat) (s : Int × List UInt8 × T_api_Config), l.length - i < fuel → i ≤ l.length → parrelref13_Newest_l0 l fuel (i : Int) s.1 s.2.1 s.2.2 = (let t := (l.drop i).foldl newB s; some (T_api_Item.mk t.1 t.2.1 t.2.2, true))
  | 0, i, _, h, _ => by omega
  | fuel + 1, i, s, h, hi => by
    rw [parrelref13_Newest_l0]
    by_cases hlt : i < l.length
    · rw [if_pos (by simp only [decide_eq_true_eq]; omega), if_pos (by omega), w64 (by omega) (by omega), Ri.getD_drop l i default hlt, List.foldl_cons, Int.toNat_natCast]
      by_cases hc : s.1 < (l.getD i default).f_Version
      · rw [if_pos (by simpa using hc)]
        have := rnewest_loop l hl fuel (i + 1) ((l.getD i default).f_Version, (l.getD i default).f_Value, (l.getD i default).f_Conf) (by omega) (by omega)
        unfold newB
        rw [if_pos hc]
        exact this
      · rw [if_neg (by simpa using hc)]
        have := rnewest_loop l hl fuel (i + 1) s (by omega) (by omega)
        conv => rhs; unfold newB
        rw [if_neg hc]
        exact this
    · rw [if_neg (by simp only [decide_eq_true_eq]; omega), List.drop_of_length_le (by omega)]; rfl
theorem newest_both (l : List T_api_Item) (hl : l.length ≤ 1000) : ∃ r, item_Newest l = some r ∧ parrelref13_Newest l = some r := by
  unfold item_Newest parrelref13_Newest
  cases l with
  | nil => exact ⟨_, rfl, rfl⟩
  | cons a r =>
    have hne : ¬ ((((a :: r).length : Int) == 0) = true) := by simp; omega
    rw [if_neg hne, if_neg hne, if_pos (by rw [List.length_cons]; omega), if_pos (by rw [List.length_cons]; omega), if_pos (by rw [List.length_cons]; omega)]
    have e : (a :: r).getD 0 default = a := rfl
    rw [e, item_Newest_w0 (a :: r) _ _ _ (by simp at hl ⊢; omega), newest_walk _ _ newest_b]
    have := rnewest_loop (a :: r) hl big 1 (a.f_Version, a.f_Value, a.f_Conf) (by have := big_lt (n := (a :: r).length) (by omega); omega) (by simp)
    exact ⟨_, rfl, this⟩
theorem merges_tail {L L3 : List T_api_Write} {m m2 : List (A8 Int × T_api_Item)} (l : List T_api_Item) (hl : l.length ≤ 1000) (h : Both L m) (h3 : Both L3 m2) : parrellaw13_ItemMerges_e1 L l m (L3, m2) = some true := by
  obtain ⟨r, n1, n2⟩ := newest_both l hl
  obtain ⟨m', e1, e2⟩ := merge3_eq m m2 L3 h3.inv.len h3.inv.wf h
  have e3 : item_Table_Merge_3 m m2 = some ((merge L3 L).1, m') := by
    have h1 : item_Table_ok m = some () := rfl
    unfold item_Table_Merge_3
    rw [h1, Option.bind_some, h3.all, Option.bind_some]; exact e1
  have hl2 := e2.inv.len
  have hl3 := h3.inv.len
  unfold parrellaw13_ItemMerges_e1
  simp only [n1, n2, e3, refMerge_eq L3 hl3 h3.inv.wf h.inv, e2.all, h3.all, same_refl hl2, same_refl hl3, merge4_eq, alive_eq, Option.bind_some, bne_self_eq_false, Bool.false_eq_true, if_false, Bool.not_true, decide_true, beq_self_eq_true, if_true]
theorem merges_eq (a b : List T_api_Write) (ha : WfL a) (hb : WfL b) : parrellaw13_ItemMerges a b = some true := by
  obtain ⟨x, hx⟩ := long_eq a
  obtain ⟨y, hy⟩ := long_eq b
  have h0 : item_New = some [] := rfl
  unfold parrellaw13_ItemMerges
  rw [h0, Option.bind_some, Option.bind_some, hx, Option.bind_some]
  cases x with
  | true => rw [if_pos rfl]; exact alive_tail
  | false =>
    rw [if_neg (by simp), hy, Option.bind_some]
    cases y with
    | true => rw [if_pos rfl]; exact alive_tail
    | false =>
      have hl := short_len a
      have hl2 := short_len b
      rw [if_neg (by simp), short_eq, Option.bind_some, parrellaw13_ItemMerges_w0 b [] _ [] [] [] [] (by omega)]
      refine Ri.walkN_inv (fun i s => Both s.1 s.2.2.2 ∧ s.2.1 = [] ∧ s.2.2.1.length = i) _ (fun i s hi hs => ?_) (fun s hs => ?_) ([], [], [], []) ⟨both_nil, rfl, rfl⟩
      · obtain ⟨L, L2, l, m⟩ := s
        obtain ⟨h1, h2, h3⟩ := hs
        have hw := ha.take _ _ (getD_mem hi)
        obtain ⟨m', e1, e2⟩ := h1.install hw
        have h3' : l.length = i := h3
        refine ⟨((ins L ((a.take (min a.length 150)).getD i default)).2, L2, l ++ [((a.take (min a.length 150)).getD i default).f_Item], m'), ⟨e2, h2, by rw [List.length_append, List.length_singleton, h3']⟩, fun k => ?_⟩
        unfold parrellaw13_ItemMerges_b0
        simp only [e1, refInstall_eq h1.inv hw, Option.bind_some]
        rw [if_pos (by rw [List.length_singleton]; omega)]
      · obtain ⟨L, L2, l, m⟩ := s
        obtain ⟨h1, h2, h3⟩ := hs
        have h2' : L2 = [] := h2
        have h3' : l.length = _ := h3
        subst h2'
        unfold parrellaw13_ItemMerges_e0
        rw [short_eq, Option.bind_some, parrellaw13_ItemMerges_w1 L l m _ [] [] (by omega)]
        refine Ri.walkN_inv (fun _ s => Both s.1 s.2) _ (fun i s hi hs => ?_) (fun s hs => merges_tail l (by omega) h1 hs) ([], []) both_nil
        obtain ⟨L3, m3⟩ := s
        have hw := hb.take _ _ (getD_mem hi)
        obtain ⟨m', e1, e2⟩ := Both.install hs hw
        refine ⟨((ins L3 ((b.take (min b.length 150)).getD i default)).2, m'), e2, fun k => ?_⟩
        unfold parrellaw13_ItemMerges_b1
        simp only [e1, refInstall_eq (Both.inv hs) hw, Option.bind_some]
end Go.Proofs.YtdmdjklgdaiimaaDoor.Wk
