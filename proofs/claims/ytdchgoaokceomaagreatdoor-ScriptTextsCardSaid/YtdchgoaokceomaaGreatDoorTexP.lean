import Derived.Test.YtdchgoaokceomaaGreatDoorTexO
set_option linter.unusedVariables false
set_option linter.unusedSimpArgs false
set_option linter.unusedSectionVars false
namespace Go.Proofs.YtdchgoaokceomaaGreatDoor.Wk
open Go Go.Cn
set_option maxRecDepth 10000
theorem line_both (s : T_r27_Step) (wf : WfS s) (hl : s.f_Call.f_Votes.length ≤ 140737488351232) : ∃ y, script_Line (toP s) = some y ∧ r27_Line s = some y ∧ (y.2 = 0 → y.1.length ≤ 16384) := by
 obtain ⟨m, e1, e2, hm⟩ := may_law s wf.ky wf.vt hl
 cases m
 ·refine ⟨([], 1), ?_, ?_, by simp⟩
  ·unfold script_Line; rw [e1]; rfl
  ·unfold r27_Line; rw [e2]; rfl
 ·have ok := hm rfl
  exact ⟨(J (TW s), 0), line_eq s wf ok e1, docline s wf ok e2, fun _ => J_len s ok⟩
theorem text_both (l : List T_r27_Step) (hl : l.length ≤ 30) (hw : ∀ s ∈ l, WfS s ∧ s.f_Call.f_Votes.length ≤ 140737488351232) : ∀ (fuel i : Nat) (acc : List UInt8), l.length < fuel + i → i ≤ l.length → acc.length ≤ 16385 * i →
  ∃ r, script_Text_l0 (l.map toP) fuel (i : Int) acc = some r ∧ r27_Text_l0 l fuel acc (i : Int) = some r
 | 0, i, _, h, hi, _ => by omega
 | fuel + 1, i, acc, h, hi, ha => by
  rw [script_Text_l0, r27_Text_l0]
  by_cases hlt : i < l.length
  ·rw [if_pos (by simpa using hlt), if_pos (by rw [List.length_map]; omega), if_pos (by simpa using hlt), if_pos (by omega), Int.toNat_natCast]
   have e0 : (l.map toP).getD i default = toP (l.getD i default) := by
    rw [List.getD_eq_getElem?_getD, List.getD_eq_getElem?_getD, List.getElem?_map, List.getElem?_eq_getElem hlt]; rfl
   obtain ⟨w1, w2⟩ := hw (l.getD i default) (by rw [List.getD_eq_getElem?_getD, List.getElem?_eq_getElem hlt]; exact List.getElem_mem _)
   rw [e0]
   generalize l.getD i default = s at *
   obtain ⟨⟨y, e⟩, q1, q2, q3⟩ := line_both s w1 w2
   rw [q1, q2, Option.bind_some, Option.bind_some]
   dsimp only
   by_cases he : e = 0
   ·subst he
    have hy : y.length ≤ 16384 := q3 rfl
    rw [if_neg (by decide), if_pos (by omega), if_pos (by simp only [List.length_append]; omega), if_neg (by decide), if_pos (by simp only [List.length_cons, List.length_nil]; omega), if_pos (by simp only [List.length_append, List.length_cons, List.length_nil]; omega), w64 (by omega) (by omega), List.append_assoc]
    exact text_both l hl hw fuel (i + 1) (acc ++ (y ++ [10])) (by omega) (by omega) (by simp only [List.length_append, List.length_cons, List.length_nil]; omega)
   ·rw [if_pos (by simpa using he), if_pos (by simpa using he)]
    exact ⟨_, rfl, rfl⟩
  ·rw [if_neg (by simpa using hlt), if_neg (by rw [decide_eq_true_eq, List.length_map]; omega), if_neg (by simpa using hlt), if_neg (by rw [decide_eq_true_eq]; omega)]
   exact ⟨_, rfl, rfl⟩
theorem theirs_eq (s : T_r27_Step) : l27_theirs s = some (toP s) := rfl
theorem ours_eq (s : TS) : l27_ours s = some (ofP s) := rfl
theorem l2_loop2 (l : List T_r27_Step) (hl : l.length ≤ 30) (hw : ∀ s ∈ l, WfS s ∧ s.f_Call.f_Votes.length ≤ 140737488351232) : ∀ (fuel i : Nat), l.length < fuel + i → i ≤ l.length →
  l27_ScriptTexts_l2 l fuel (i : Int) ((l.take i).map toP) = some true
 | 0, i, h, hi => by omega
 | fuel + 1, i, h, hi => by
  rw [l27_ScriptTexts_l2]
  by_cases hlt : i < l.length
  ·rw [if_pos (by simpa using hlt), if_pos (by omega), Int.toNat_natCast, theirs_eq, Option.bind_some, if_pos (by simp; omega), w64 (by omega) (by omega)]
   have e : (l.take i).map toP ++ [toP (l.getD i default)] = (l.take (i + 1)).map toP := by
    rw [List.take_add_one, List.map_append, List.getD_eq_getElem?_getD, List.getElem?_eq_getElem hlt]; rfl
   rw [e]
   exact l2_loop2 l hl hw fuel (i + 1) (by omega) (by omega)
  ·rw [if_neg (by simpa using hlt), List.take_of_length_le (by omega)]
   obtain ⟨r, e1, e2⟩ := text_both l hl hw big 0 [] (by have := big_lt (n := 1000000) (by omega); omega) (by omega) (by simp)
   have e1 : script_Text (l.map toP) = some r := e1
   have e2 : r27_Text l = some r := e2
   rw [e1, e2, Option.bind_some, Option.bind_some, if_pos (by simp), if_pos (by simp), alive_eq]; rfl
def Alike (a : List TS) (b : List T_r27_Step) : Prop := a.length = b.length ∧ ∀ i, i < a.length → r27_Same (ofP (a.getD i default)) (b.getD i default) = some true
theorem alike_app {a : List TS} {b : List T_r27_Step} (h : Alike a b) {s : TS} {g : T_r27_Step} (hs : r27_Same (ofP s) g = some true) : Alike (a ++ [s]) (b ++ [g]) := by
 refine ⟨by simp [h.1], fun i hi => ?_⟩
 simp only [List.length_append, List.length_cons, List.length_nil] at hi
 by_cases hl : i < a.length
 ·have := h.2 i hl
  rw [List.getD_eq_getElem?_getD, List.getD_eq_getElem?_getD] at this ⊢
  rw [List.getElem?_append_left hl, List.getElem?_append_left (by rw [← h.1]; exact hl)]
  exact this
 ·have e : i = a.length := by omega
  subst e
  rw [List.getD_eq_getElem?_getD, List.getD_eq_getElem?_getD, List.getElem?_append_right (Nat.le_refl _), List.getElem?_append_right (by rw [← h.1]; exact Nat.le_refl _)]
  rw [h.1]
  simpa using hs
theorem l1_loop2 (l : List T_r27_Step) (a : List TS) (b : List T_r27_Step) (f : TF) (h : Alike a b) (hl : a.length ≤ 5000) (R : l27_ScriptTexts_l2 l big 0 [] = some true) : ∀ (fuel i : Nat), a.length < fuel + i → i ≤ a.length → l27_ScriptTexts_l1 l (a, f) (b, f) fuel (i : Int) = some true
 | 0, i, h1, hi => by omega
 | fuel + 1, i, h1, hi => by
  have hb := h.1
  rw [l27_ScriptTexts_l1]
  dsimp only
  by_cases hlt : i < a.length
  ·rw [if_pos (by simpa using hlt), if_pos (by omega), Int.toNat_natCast, ours_eq, Option.bind_some, if_pos (by omega), h.2 i hlt, Option.bind_some, if_neg (by decide), w64 (by omega) (by omega)]
   exact l1_loop2 l a b f h hl R fuel (i + 1) (by omega) (by omega)
  ·rw [if_neg (by simpa using hlt)]; exact R
theorem ibn (s : List UInt8) (h : (10 : UInt8) ∉ s) : Lib.indexByte s 10 = -1 := by
 have hge := Lib.indexByte_ge s 10
 rcases Int.lt_or_le (Lib.indexByte s 10) 0 with hl | hl
 ·omega
 ·obtain ⟨o, ho⟩ := Int.eq_ofNat_of_zero_le hl
  exact absurd (List.mem_of_getElem? (Lib.indexByte_some ho).1) h
theorem ixn (s : List UInt8) : sl_Index_3 s = some (Lib.indexByte s 10) := by
 unfold sl_Index_3
 by_cases h : s = [10]
 ·subst h; rfl
 ·rw [if_neg (by rw [beq_iff_eq]; exact fun e => h e.symm)]; rfl
theorem cut_no (s : List UInt8) (h : (10 : UInt8) ∉ s) : strings_Cut s = some (s, [], false) := by
 unfold strings_Cut sl_Cut
 rw [ixn, ibn s h]; rfl
theorem drop_at (a r : List UInt8) : ((a ++ 10 :: r).drop ((a.length : Int) + 1).toNat).take ((a ++ 10 :: r).length - ((a.length : Int) + 1).toNat) = r := by
 have : ((a.length : Int) + 1).toNat = (a ++ [10]).length := by simp
 rw [this, show a ++ 10 :: r = (a ++ [10]) ++ r from by simp, List.drop_left, List.take_of_length_le (by simp only [List.length_append, List.length_cons, List.length_nil]; omega)]
theorem cut_at (a r : List UInt8) (e3 : Lib.indexByte (a ++ 10 :: r) 10 = (a.length : Int)) (hl : (a ++ 10 :: r).length < 1000000) : strings_Cut (a ++ 10 :: r) = some (a, r, true) := by
 have hlen : (a ++ 10 :: r).length = a.length + (r.length + 1) := by simp
 unfold strings_Cut sl_Cut
 rw [ixn, e3, Option.bind_some, if_pos (by rw [decide_eq_true_eq]; omega), if_pos (by omega), w64 (by omega) (by omega), if_pos (by omega)]
 have d1 : ((a ++ 10 :: r).drop 0).take ((a.length : Int).toNat - 0) = a := by simp
 rw [d1, drop_at]; rfl
section
variable (t : List UInt8) (l : List T_r27_Step) (k : List UInt8 → List T_r27_Step → Option (List T_r27_Step × TF))
theorem scan_at (a r : List UInt8) (ha : (10 : UInt8) ∉ a) (hl : (a ++ 10 :: r).length < 1000000) (g : T_r27_Step) (e : Int) (hp : r27_Parse a = some (g, e)) (hll : l.length ≤ 5000) : ∀ (fuel i : Nat), a.length < fuel + i → i ≤ a.length →
  r27_All_l1 (a ++ 10 :: r) l k fuel (i : Int) = if e = 0 then k r (l ++ [g]) else some ([], ⟨e, (l.length : Int)⟩)
 | 0, i, h, hi => by omega
 | fuel + 1, i, h, hi => by
  have hlen : (a ++ 10 :: r).length = a.length + (r.length + 1) := by simp
  rw [r27_All_l1, if_pos (by rw [decide_eq_true_eq]; omega), if_pos (by omega), Int.toNat_natCast]
  by_cases hlt : i < a.length
  ·have hne : (((a ++ 10 :: r).getD i 0).toNat : Int) ≠ 10 := by
    intro hc
    rw [List.getD_eq_getElem?_getD, List.getElem?_append_left hlt, List.getElem?_eq_getElem hlt] at hc
    have hc2 : ((a[i].toNat : Nat) : Int) = 10 := hc
    have : a[i] = 10 := UInt8.toNat_inj.1 (by show a[i].toNat = 10; omega)
    exact ha (this ▸ List.getElem_mem hlt)
   rw [if_pos (by simpa using hne), w64 (by omega) (by omega)]
   exact scan_at a r ha hl g e hp hll fuel (i + 1) (by omega) (by omega)
  ·have hia : i = a.length := by omega
   subst hia
   have hc : (((a ++ 10 :: r).getD a.length 0).toNat : Int) = 10 := by rw [List.getD_eq_getElem?_getD, List.getElem?_append_right (Nat.le_refl _)]; simp
   have d1 : ((a ++ 10 :: r).drop 0).take (a.length - 0) = a := by simp
   rw [if_neg (by rw [hc]; decide), if_pos (by omega), d1, hp, Option.bind_some]
   dsimp only
   by_cases he : e = 0
   ·subst he
    rw [if_pos (by rfl), if_neg (by rw [beq_iff_eq]; omega), if_neg (by decide), if_pos (by simp; omega), w64 (by omega) (by omega), if_pos (by omega), drop_at, if_pos rfl]
   ·rw [if_neg (by simpa using he), if_pos (by simpa using he), if_neg he]
theorem scan_no (ha : (10 : UInt8) ∉ t) (hl : t.length < 1000000) (g : T_r27_Step) (e : Int) (hp : r27_Parse t = some (g, e)) : ∀ (fuel i : Nat), t.length < fuel + i → i ≤ t.length →
  r27_All_l1 t l k fuel (i : Int) = some ([], ⟨if e = 0 then 3 else e, (l.length : Int)⟩)
 | 0, i, h, hi => by omega
 | fuel + 1, i, h, hi => by
  rw [r27_All_l1]
  by_cases hlt : i < t.length
  ·rw [if_pos (by rw [decide_eq_true_eq]; omega), if_pos (by omega), Int.toNat_natCast]
   have hne : ((t.getD i 0).toNat : Int) ≠ 10 := by
    intro hc
    rw [List.getD_eq_getElem?_getD, List.getElem?_eq_getElem hlt] at hc
    have hc2 : ((t[i].toNat : Nat) : Int) = 10 := hc
    have : t[i] = 10 := UInt8.toNat_inj.1 (by show t[i].toNat = 10; omega)
    exact ha (this ▸ List.getElem_mem hlt)
   rw [if_pos (by simpa using hne), w64 (by omega) (by omega)]
   exact scan_no ha hl g e hp fuel (i + 1) (by omega) (by omega)
  ·have hia : i = t.length := by omega
   subst hia
   have d1 : (t.drop 0).take (t.length - 0) = t := by simp
   rw [if_neg (by simp), if_pos (by omega), Int.toNat_natCast, d1, hp, Option.bind_some]
   dsimp only
   by_cases he : e = 0
   ·subst he
    rw [if_pos (by rfl), if_pos (by simp), if_pos rfl]
   ·rw [if_neg (by simpa using he), if_pos (by simpa using he), if_neg he]
end
theorem all_both : ∀ (fuel : Nat) (t : List UInt8) (a : List TS) (b : List T_r27_Step), t.length < fuel → t.length ≤ 3000 → a.length ≤ 4096 → Alike a b →
  ∃ l l' f, script_All_l0 fuel t a = some (l, f) ∧ r27_All_l0 fuel t b = some (l', f) ∧ Alike l l' ∧ l.length ≤ 4096
 | 0, t, _, _, h, _, _, _ => by omega
 | fuel + 1, t, a, b, h, hl, ha, hab => by
  have hlb := hab.1
  rw [script_All_l0, r27_All_l0]
  by_cases h0 : t = []
  ·subst h0
   rw [if_neg (by simp), if_neg (by simp)]
   exact ⟨_, _, _, rfl, rfl, hab, ha⟩
  have hp0 : 0 < t.length := List.length_pos_iff.2 h0
  rw [if_pos (by simpa using h0)]
  by_cases h1 : a.length = 4096
  ·rw [if_pos (by rw [beq_iff_eq]; omega), if_pos (by rw [decide_eq_true_eq]; omega), if_pos (by rw [decide_eq_true_eq]; omega), ← hlb]
   exact ⟨_, _, _, rfl, rfl, ⟨rfl, fun i hi => by simp at hi⟩, by simp⟩
  rw [if_neg (by rw [beq_iff_eq]; omega), if_pos (by rw [decide_eq_true_eq]; omega), if_neg (by rw [decide_eq_true_eq]; omega)]
  by_cases hn : (10 : UInt8) ∈ t
  ·obtain ⟨x, r, rfl, e2, e3⟩ := idx_split 10 t hn
   have hlen : (x ++ 10 :: r).length = x.length + (r.length + 1) := by simp
   obtain ⟨s, e, g, p1, p2, p3⟩ := parse_law x (by omega)
   rw [cut_at x r e3 (by omega), Option.bind_some]
   dsimp only
   rw [p1, Option.bind_some]
   dsimp only
   have sc := scan_at b (r27_All_l0 fuel) x r e2 (by omega) g e p2 (by omega) big 0 (by have := big_lt (n := 1000000) (by omega); omega) (by omega)
   have sc : r27_All_l1 (x ++ 10 :: r) b (r27_All_l0 fuel) big 0 = _ := sc
   rw [sc]
   by_cases he : e = 0
   ·subst he
    rw [if_pos (by rfl), if_neg (by decide), if_neg (by decide), if_pos (by simp; omega), if_pos rfl]
    exact all_both fuel r (a ++ [s]) (b ++ [g]) (by omega) (by omega) (by simp; omega) (alike_app hab p3)
   ·rw [if_neg (by simpa using he), if_pos (by simpa using he), if_neg he, ← hlb]
    exact ⟨_, _, _, rfl, rfl, ⟨rfl, fun i hi => by simp at hi⟩, by simp⟩
  ·obtain ⟨s, e, g, p1, p2, p3⟩ := parse_law t (by omega)
   rw [cut_no t hn, Option.bind_some]
   dsimp only
   rw [p1, Option.bind_some]
   dsimp only
   have sc := scan_no t b (r27_All_l0 fuel) hn (by omega) g e p2 big 0 (by have := big_lt (n := 1000000) (by omega); omega) (by omega)
   have sc : r27_All_l1 t b (r27_All_l0 fuel) big 0 = _ := sc
   rw [sc, ← hlb]
   by_cases he : e = 0
   ·subst he
    rw [if_pos (by rfl), if_pos (by decide), if_pos rfl]
    exact ⟨_, _, _, rfl, rfl, ⟨rfl, fun i hi => by simp at hi⟩, by simp⟩
   ·rw [if_neg (by simpa using he), if_pos (by simpa using he), if_neg he]
    exact ⟨_, _, _, rfl, rfl, ⟨rfl, fun i hi => by simp at hi⟩, by simp⟩
theorem l0_loop2 (text : List UInt8) (l : List T_r27_Step) (hw : ∀ s ∈ l, WfS s ∧ s.f_Call.f_Votes.length ≤ 140737488351232) : ∀ (fuel i : Nat) (n : Int), (l.take ((if 30 < ((l).length : Int) then 30 else ((l).length : Int))).toNat).length < fuel + i → i ≤ (l.take ((if 30 < ((l).length : Int) then 30 else ((l).length : Int))).toNat).length →
  l27_ScriptTexts_l0 text l fuel n (i : Int) = some true
 | 0, i, _, h, hi => by omega
 | fuel + 1, i, n, h, hi => by
  rw [l27_ScriptTexts_l0]
  have hcap : (l.take ((if 30 < ((l).length : Int) then 30 else ((l).length : Int))).toNat).length ≤ 30 := by
   rw [List.length_take]
   split <;> omega
  by_cases hlt : i < (l.take ((if 30 < ((l).length : Int) then 30 else ((l).length : Int))).toNat).length
  ·rw [if_pos (by rw [decide_eq_true_eq]; omega), if_pos (by omega), w64 (x := (i : Int) + 1) (by omega) (by omega)]
   exact l0_loop2 text l hw fuel (i + 1) _ (by omega) (by omega)
  ·rw [if_neg (by rw [decide_eq_true_eq]; omega)]
   by_cases h1 : 3000 < text.length
   ·rw [if_pos (by rw [decide_eq_true_eq]; omega), alive_eq]; rfl
   rw [if_neg (by rw [decide_eq_true_eq]; omega)]
   by_cases h2 : 30 < l.length
   ·rw [if_pos (by rw [decide_eq_true_eq]; omega), alive_eq]; rfl
   rw [if_neg (by rw [decide_eq_true_eq]; omega)]
   by_cases h3 : 3000 < n
   ·rw [if_pos (by simpa using h3), alive_eq]; rfl
   rw [if_neg (by simpa using h3)]
   obtain ⟨a, b, f, e1, e2, hab, hla⟩ := all_both big text [] [] (by have := big_lt (n := 1000000) (by omega); omega) (by omega) (by simp) ⟨rfl, fun i hi => by simp at hi⟩
   have e1 : script_All text = some (a, f) := e1
   have e2 : r27_All text = some (b, f) := e2
   rw [e1, e2, Option.bind_some, Option.bind_some]
   unfold l27_ScriptTexts_c11
   dsimp only
   have hlb := hab.1
   rw [if_neg (by rw [hlb]; simp), if_neg (by simp)]
   have R := l2_loop2 l (by omega) hw big 0 (by have := big_lt (n := 1000000) (by omega); omega) (by omega)
   exact l1_loop2 l a b f hab (by omega) R big 0 (by have := big_lt (n := 1000000) (by omega); omega) (by omega)
theorem texts_law0 (text : List UInt8) (l : List T_r27_Step) (hw : ∀ s ∈ l, WfS s ∧ s.f_Call.f_Votes.length ≤ 140737488351232) : l27_ScriptTexts text l = some true := by
 unfold l27_ScriptTexts
 have hcap : (l.take ((if 30 < ((l).length : Int) then 30 else ((l).length : Int))).toNat).length ≤ 30 := by
  rw [List.length_take]
  split <;> omega
 rw [if_pos (by split <;> omega)]
 exact l0_loop2 text l hw big 0 0 (by have := big_lt (n := 1000000) (by omega); omega) (by omega)
def wsC (s : T_r27_Call) : Prop := (wfL ((cInt .u8) s.f_Client)) ∧ (wfL ((cInt .u32) s.f_Seq)) ∧ (wfL ((cInt .u8) s.f_Kind)) ∧ (wfL [.int .u8 s.f_Tx.f_Node, .int .u32 s.f_Tx.f_Boot, .int .u32 s.f_Tx.f_Num]) ∧ (wfL (kc s.f_Key)) ∧ (wfL ((fun z_ : List UInt8 => [LV.str z_]) s.f_Value)) ∧ (wfL ((cInt .u8) s.f_R)) ∧ (wfL ((cInt .u8) s.f_W)) ∧ ((∀ a ∈ s.f_Votes, (wfL ((cInt .u8) a))) ∧ s.f_Votes.length * 1 ≤ 140737488351232) ∧ True
def wsS (s : T_r27_Step) : Prop := (wfL ((cInt .u8) s.f_Kind)) ∧ (wfL ((cInt .i64) s.f_Node)) ∧ (wfL ((cInt .i64) s.f_Wire)) ∧ (wfL ((cInt .i64) s.f_N)) ∧ (wfL ((fun z_ : Bool => [LV.bool z_]) s.f_Cut)) ∧ (wsC s.f_Call) ∧ (wfL ((cInt .i64) s.f_To)) ∧ ((∀ a ∈ s.f_Bytes, (wfL ((cInt .u8) a))) ∧ s.f_Bytes.length * 1 ≤ 140737488351232) ∧ True
theorem one8 {x : Int} (h : wfL ((cInt .u8) x)) : 0 ≤ x ∧ x < 256 := wf_u8 (h _ (List.mem_cons_self ..))
theorem one32 {x : Int} (h : wfL ((cInt .u32) x)) : 0 ≤ x ∧ x < 4294967296 := wf_u32 (h _ (List.mem_cons_self ..))
theorem wfS_of (s : T_r27_Step) (h : wsS s) : WfS s := by
 obtain ⟨_, _, _, _, _, ⟨c1, c2, _, c4, c5, _, c7, c8, ⟨c9, _⟩, _⟩, _, ⟨b, _⟩, _⟩ := h
 exact ⟨one8 c1, one32 c2, wf_u8 (c4 _ (by simp)), wf_u32 (c4 _ (by simp)), wf_u32 (c4 _ (by simp)), one8 c7, one8 c8, wfK_of _ c5, fun x hx => one8 (c9 x hx), fun x hx => one8 (b x hx)⟩
theorem texts_law (text : List UInt8) (l : List T_r27_Step) (_ : text.length ≤ maxLen) (h : (∀ a ∈ l, wsS a) ∧ l.length * 152 ≤ 140737488351232) : l27_ScriptTexts text l = some true :=
 texts_law0 text l fun s hs => ⟨wfS_of s (h.1 s hs), by have := (h.1 s hs).2.2.2.2.2.1.2.2.2.2.2.2.2.2.1.2; omega⟩
end Go.Proofs.YtdchgoaokceomaaGreatDoor.Wk
