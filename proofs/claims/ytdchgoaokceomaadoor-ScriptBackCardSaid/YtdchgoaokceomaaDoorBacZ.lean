/- Plain facts: ScriptBack. -/
import Derived.Test.YtdchgoaokceomaaDoorBacT
set_option linter.unusedVariables false
set_option linter.unusedSimpArgs false
set_option linter.unusedSectionVars false
namespace Go.Proofs.YtdchgoaokceomaaDoor.Wk
open Go Go.Cn
set_option maxRecDepth 10000
theorem alive_eq : parrellaw27_alive = some true := by kernel_rfl
theorem theirs_eq (s : T_parrelref27_Step) : parrellaw27_theirs s = some (toP s) := rfl
theorem long_eq (s : T_parrelref27_Step) : ∃ b, parrellaw27_long s = some b ∧ (b = false → s.f_Call.f_Votes.length ≤ 300) := by
  unfold parrellaw27_long
  split
  · exact ⟨_, rfl, by simp⟩
  split
  · exact ⟨_, rfl, by simp⟩
  · refine ⟨_, rfl, fun h => ?_⟩
    rw [decide_eq_false_iff_not] at h; omega
def wsC (s : T_parrelref27_Call) : Prop := (wfL ((cInt .u8) s.f_Client)) ∧ (wfL ((cInt .u32) s.f_Seq)) ∧ (wfL ((cInt .u8) s.f_Kind)) ∧ (wfL [.int .u8 s.f_Tx.f_Node, .int .u32 s.f_Tx.f_Boot, .int .u32 s.f_Tx.f_Num]) ∧ (wfL (kc s.f_Key)) ∧ (wfL ((fun z_ : List UInt8 => [LV.str z_]) s.f_Value)) ∧ (wfL ((cInt .u8) s.f_R)) ∧ (wfL ((cInt .u8) s.f_W)) ∧ ((∀ a ∈ s.f_Votes, (wfL ((cInt .u8) a))) ∧ s.f_Votes.length * 1 ≤ 140737488351232) ∧ True
def wsS (s : T_parrelref27_Step) : Prop := (wfL ((cInt .u8) s.f_Kind)) ∧ (wfL ((cInt .i64) s.f_Node)) ∧ (wfL ((cInt .i64) s.f_Wire)) ∧ (wfL ((cInt .i64) s.f_N)) ∧ (wfL ((fun z_ : Bool => [LV.bool z_]) s.f_Cut)) ∧ (wsC s.f_Call) ∧ (wfL ((cInt .i64) s.f_To)) ∧ ((∀ a ∈ s.f_Bytes, (wfL ((cInt .u8) a))) ∧ s.f_Bytes.length * 1 ≤ 140737488351232) ∧ True
theorem one8 {x : Int} (h : wfL ((cInt .u8) x)) : 0 ≤ x ∧ x < 256 := wf_u8 (h _ (List.mem_cons_self ..))
theorem one32 {x : Int} (h : wfL ((cInt .u32) x)) : 0 ≤ x ∧ x < 4294967296 := wf_u32 (h _ (List.mem_cons_self ..))
theorem wfS_of (s : T_parrelref27_Step) (h : wsS s) : WfS s := by
  obtain ⟨_, _, _, _, _, ⟨c1, c2, _, c4, c5, _, c7, c8, ⟨c9, _⟩, _⟩, _, ⟨b, _⟩, _⟩ := h
  exact ⟨one8 c1, one32 c2, wf_u8 (c4 _ (by simp)), wf_u32 (c4 _ (by simp)), wf_u32 (c4 _ (by simp)), one8 c7, one8 c8, wfK_of _ c5, fun x hx => one8 (c9 x hx), fun x hx => one8 (b x hx)⟩
theorem wfC_of (g : T_parrelref27_Step) (wf : WfS g) (ok : MayOK g) (hk : kept g = some g) : WfC g.f_Call := by
  by_cases h : g.f_Kind = 1
  · have := ok.top h
    have hv := (ok.call h).2.2.1
    exact ⟨wf.cl, ⟨wf.sq.1, this.1⟩, ⟨wf.tn, ⟨wf.tb.1, this.2.1⟩, ⟨wf.tm.1, this.2.2⟩⟩, wf.ky, wf.r, wf.w, wf.vt, by omega⟩
  · have kk := kinds ok.k1 ok.k2
    have z : WfC (ofC zC) := wfZC
    obtain ⟨k, n, w, m, ct, c, t, bs⟩ := g
    simp only at kk h
    rcases kk with rfl | rfl | rfl | rfl | rfl | rfl | rfl | rfl | rfl | rfl
    · exact absurd rfl h
    · have hk : some (T_parrelref27_Step.mk 2 0 w 0 false (T_parrelref27_Call.mk 0 0 0 ⟨0, 0, 0⟩ (A8.mk 0 0 0 0 0 0 0 0) [] 0 0 []) 0 []) = some (T_parrelref27_Step.mk 2 n w m ct c t bs) := hk
      cases (Option.some.inj hk); exact z
    · have hk : some (T_parrelref27_Step.mk 3 0 w 0 false (T_parrelref27_Call.mk 0 0 0 ⟨0, 0, 0⟩ (A8.mk 0 0 0 0 0 0 0 0) [] 0 0 []) 0 []) = some (T_parrelref27_Step.mk 3 n w m ct c t bs) := hk
      cases (Option.some.inj hk); exact z
    · have hk : some (T_parrelref27_Step.mk 4 0 w 0 false (T_parrelref27_Call.mk 0 0 0 ⟨0, 0, 0⟩ (A8.mk 0 0 0 0 0 0 0 0) [] 0 0 []) 0 []) = some (T_parrelref27_Step.mk 4 n w m ct c t bs) := hk
      cases (Option.some.inj hk); exact z
    · have hk : some (T_parrelref27_Step.mk 5 0 w 0 false (T_parrelref27_Call.mk 0 0 0 ⟨0, 0, 0⟩ (A8.mk 0 0 0 0 0 0 0 0) [] 0 0 []) 0 []) = some (T_parrelref27_Step.mk 5 n w m ct c t bs) := hk
      cases (Option.some.inj hk); exact z
    · have hk : some (T_parrelref27_Step.mk 6 n 0 0 false (T_parrelref27_Call.mk 0 0 0 ⟨0, 0, 0⟩ (A8.mk 0 0 0 0 0 0 0 0) [] 0 0 []) 0 []) = some (T_parrelref27_Step.mk 6 n w m ct c t bs) := hk
      cases (Option.some.inj hk); exact z
    · have hk : some (T_parrelref27_Step.mk 7 n 0 0 false (T_parrelref27_Call.mk 0 0 0 ⟨0, 0, 0⟩ (A8.mk 0 0 0 0 0 0 0 0) [] 0 0 []) 0 []) = some (T_parrelref27_Step.mk 7 n w m ct c t bs) := hk
      cases (Option.some.inj hk); exact z
    · have hk : some (T_parrelref27_Step.mk 8 n 0 m ct (T_parrelref27_Call.mk 0 0 0 ⟨0, 0, 0⟩ (A8.mk 0 0 0 0 0 0 0 0) [] 0 0 []) 0 bs) = some (T_parrelref27_Step.mk 8 n w m ct c t bs) := hk
      cases (Option.some.inj hk); exact z
    · have hk : some (T_parrelref27_Step.mk 9 n 0 m false (T_parrelref27_Call.mk 0 0 0 ⟨0, 0, 0⟩ (A8.mk 0 0 0 0 0 0 0 0) [] 0 0 []) 0 []) = some (T_parrelref27_Step.mk 9 n w m ct c t bs) := hk
      cases (Option.some.inj hk); exact z
    · have hk : some (T_parrelref27_Step.mk 10 n 0 0 false (T_parrelref27_Call.mk 0 0 0 ⟨0, 0, 0⟩ (A8.mk 0 0 0 0 0 0 0 0) [] 0 0 []) t bs) = some (T_parrelref27_Step.mk 10 n w m ct c t bs) := hk
      cases (Option.some.inj hk); exact z
theorem good_of (g : T_parrelref27_Step) (w : WfS g) (hl : g.f_Call.f_Votes.length ≤ 300) (hm : script_May (toP g) = some true) : Good g := by
  obtain ⟨ok, hk⟩ := may_kept g w.ky w.vt hl w.bs hm
  exact ⟨w, wfC_of g w ok hk, ok, hk, hm⟩
theorem tx_app {l : List T_script_Step} {t : List UInt8} (h : Tx l t) (g : T_parrelref27_Step) (hg : Good g) : Tx (l ++ [toP g]) (t ++ (J (TW g) ++ [10])) := by
  induction h with
  | nil => exact .cons g hg .nil
  | cons g' hg' _ ih =>
    have := Tx.cons g' hg' ih
    simpa using this
theorem tx_len {l : List T_script_Step} {t : List UInt8} (h : Tx l t) : t.length ≤ l.length * 16385 := by
  induction h with
  | nil => simp
  | cons g hg _ ih =>
    have := J_len g hg.ok
    simp only [List.length_append, List.length_cons, Nat.add_mul]; omega
theorem tx_mem {l : List T_script_Step} {t : List UInt8} (h : Tx l t) : ∀ x ∈ l, ∃ g, Good g ∧ x = toP g := by
  induction h with
  | nil => intro x hx; cases hx
  | cons g hg _ ih =>
    intro x hx
    rcases List.mem_cons.1 hx with rfl | hx
    · exact ⟨g, hg, rfl⟩
    · exact ih x hx
theorem same_self (g : T_parrelref27_Step) (hg : Good g) : script_Same (toP g) (toP g) = some true := by
  obtain ⟨r, e, q⟩ := same1 (toP g) (toP g) hg.wf.vt hg.wf.vt (by have := hg.wc.vl; show g.f_Call.f_Votes.length ≤ 300; omega)
  rw [e, q.2 ⟨rfl, rfl, rfl, rfl, rfl, rfl, ⟨rfl, rfl, rfl, rfl, rfl, rfl, rfl, rfl⟩, rfl⟩]
theorem same_loop (l2 : List T_script_Step) (f : T_api_Fault) (hl : l2.length ≤ 30) (h : ∀ x ∈ l2, ∃ g, Good g ∧ x = toP g) : ∀ (fuel i : Nat), l2.length < fuel + i → i ≤ l2.length → parrellaw27_ScriptBack_l1 l2 (l2, f) fuel (i : Int) = some true
  | 0, i, h1, hi => by omega
  | fuel + 1, i, h1, hi => by
    rw [parrellaw27_ScriptBack_l1]
    dsimp only
    by_cases hlt : i < l2.length
    · rw [if_pos (by simpa using hlt), if_pos (by omega), if_pos (by omega), Int.toNat_natCast]
      obtain ⟨g, hg, e⟩ := h (l2.getD i default) (by rw [List.getD_eq_getElem?_getD, List.getElem?_eq_getElem hlt]; exact List.getElem_mem _)
      rw [e, same_self g hg]
      simp only [Option.bind_some]
      rw [if_neg (by decide), w64 (by omega) (by omega)]
      exact same_loop l2 f hl h fuel (i + 1) (by omega) (by omega)
    · rw [if_neg (by simpa using hlt), alive_eq]; rfl
theorem back_loop (l : List T_parrelref27_Step) (hl : l.length ≤ 30) (hw : ∀ s ∈ l, WfS s) : ∀ (fuel i : Nat) (l2 : List T_script_Step) (t : List UInt8), l.length < fuel + i → i ≤ l.length → l2.length ≤ i → Tx l2 t →
    parrellaw27_ScriptBack_l0 l fuel (i : Int) l2 = some true
  | 0, i, _, _, h, hi, _, _ => by omega
  | fuel + 1, i, l2, t, h, hi, h2, ht => by
    rw [parrellaw27_ScriptBack_l0]
    by_cases hlt : i < l.length
    · rw [if_pos (by simpa using hlt), if_pos (by omega), Int.toNat_natCast]
      have wf := hw (l.getD i default) (by rw [List.getD_eq_getElem?_getD, List.getElem?_eq_getElem hlt]; exact List.getElem_mem _)
      generalize l.getD i default = s at *
      obtain ⟨b, e1, h1⟩ := long_eq s
      rw [e1, Option.bind_some]
      cases b
      · have hvl := h1 rfl
        obtain ⟨m, m1, _⟩ := may_law s wf.ky wf.vt hvl
        rw [if_neg (by decide), theirs_eq, Option.bind_some]
        cases m
        · have hL : script_Line (toP s) = some ([], 1) := by unfold script_Line; rw [m1]; rfl
          rw [hL, Option.bind_some]
          dsimp only
          rw [if_pos (by decide), if_neg (by decide), if_neg (by decide), m1, Option.bind_some, if_neg (by decide), w64 (by omega) (by omega)]
          exact back_loop l hl hw fuel (i + 1) l2 t (by omega) (by omega) (by omega) ht
        · have hg := good_of s wf hvl m1
          rw [line_good s hg, Option.bind_some]
          dsimp only
          rw [if_neg (by decide), parse_good s hg, Option.bind_some]
          dsimp only
          rw [if_neg (by decide), same_self s hg, Option.bind_some, if_neg (by decide), m1, Option.bind_some, if_neg (by decide), if_pos (by simp; omega), w64 (by omega) (by omega)]
          exact back_loop l hl hw fuel (i + 1) (l2 ++ [toP s]) _ (by omega) (by omega) (by simp; omega) (tx_app ht s hg)
      · rw [if_pos (by rfl), alive_eq]; rfl
    · rw [if_neg (by simpa using hlt)]
      have hlen := tx_len ht
      have hl2 : l2.length ≤ 30 := by omega
      have htl : t.length ≤ 30 * 16385 := Nat.le_trans hlen (Nat.mul_le_mul_right _ hl2)
      have ha : script_All t = some (l2, ⟨0, 0⟩) := by
        have := all_back t l2 ht big [] (by have := big_lt (n := 1000000) (by omega); omega) (by simp; omega) (by omega)
        rw [List.nil_append] at this
        exact this
      rw [text_eq l2 t (by omega) ht (by omega), Option.bind_some]
      dsimp only
      rw [ha, Option.bind_some]
      dsimp only
      rw [if_neg (by decide), if_neg (by simp), if_neg (by simp)]
      exact same_loop l2 _ hl2 (tx_mem ht) big 0 (by have := big_lt (n := 1000000) (by omega); omega) (by omega)
theorem back_law0 (l : List T_parrelref27_Step) (hw : ∀ s ∈ l, WfS s) : parrellaw27_ScriptBack l = some true := by
  unfold parrellaw27_ScriptBack
  by_cases h : 30 < l.length
  · rw [if_pos (by rw [decide_eq_true_eq]; omega), alive_eq]; rfl
  · rw [if_neg (by rw [decide_eq_true_eq]; omega)]
    exact back_loop l (by omega) hw big 0 [] [] (by have := big_lt (n := 1000000) (by omega); omega) (by omega) (by simp) .nil
theorem back_law (l : List T_parrelref27_Step) (h : (∀ a ∈ l, wsS a) ∧ l.length * 152 ≤ 140737488351232) : parrellaw27_ScriptBack l = some true := back_law0 l fun s hs => wfS_of s (h.1 s hs)
end Go.Proofs.YtdchgoaokceomaaDoor.Wk
