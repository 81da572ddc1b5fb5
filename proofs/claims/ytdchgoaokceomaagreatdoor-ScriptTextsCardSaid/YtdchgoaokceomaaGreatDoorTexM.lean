import Derived.Test.YtdchgoaokceomaaGreatDoorTexF
set_option linter.unusedVariables false
set_option linter.unusedSimpArgs false
set_option linter.unusedSectionVars false
namespace Go.Proofs.YtdchgoaokceomaaGreatDoor.Wk
open Go Go.Cn
set_option maxRecDepth 10000
theorem dot_no {v : Int} (h : 0 ≤ v) (h2 : v < 100000000000) : (32 : UInt8) ∉ D v := dg_no 32 (by unfold isDg; decide) h h2
theorem S_no {v : Int} (h : -1 ≤ v) (h2 : v < 100000000000) : (32 : UInt8) ∉ S v := by
 unfold S; split
 ·decide
 ·exact dot_no (by omega) h2
theorem H_no (o : List UInt8) : (32 : UInt8) ∉ H o := by
 unfold H; split
 ·decide
 ·intro h
  have := hx_mem o 32 h
  revert this; decide
theorem N_no (t : TX) (h : WfT t) : (32 : UInt8) ∉ N t := by
 unfold N
 simp only [List.mem_append, not_or]
 exact ⟨⟨⟨⟨dot_no h.a.1 (by have := h.a.2; omega), by decide⟩, dot_no h.b.1 (by have := h.b.2; omega)⟩, by decide⟩, dot_no h.c.1 (by have := h.c.2; omega)⟩
theorem CR_no (c : T_r27_Call) (h : WfC c) : ∀ x ∈ CR c, (32 : UInt8) ∉ x := by
 have n1 := N_no _ h.tx
 have r1 := dot_no h.r.1 (by have := h.r.2; omega)
 have w1 := dot_no h.w.1 (by have := h.w.2; omega)
 unfold CR
 intro x hx
 split at hx
 ·simp only [List.mem_cons, List.not_mem_nil, or_false] at hx; subst hx; decide
 split at hx
 ·simp only [List.mem_cons, List.not_mem_nil, or_false] at hx; rcases hx with rfl | rfl | rfl; decide; exact n1; exact H_no _
 split at hx
 ·simp only [List.mem_cons, List.not_mem_nil, or_false] at hx; rcases hx with rfl | rfl | rfl | rfl; decide; exact n1; exact H_no _; exact H_no _
 split at hx
 ·simp only [List.mem_cons, List.not_mem_nil, or_false] at hx; rcases hx with rfl | rfl; decide; exact n1
 split at hx
 ·simp only [List.mem_cons, List.not_mem_nil, or_false] at hx; rcases hx with rfl | rfl; decide; exact n1
 ·rcases List.mem_append.1 hx with hx | hx
  ·simp only [List.mem_cons, List.not_mem_nil, or_false] at hx; rcases hx with rfl | rfl | rfl | rfl | rfl; decide; exact n1; exact H_no _; exact r1; exact w1
  ·rw [List.mem_map] at hx
   obtain ⟨v, hv, rfl⟩ := hx
   have := h.vt v hv
   exact dot_no this.1 (by omega)
theorem TW_no (g : T_r27_Step) (ok : MayOK g) (wc : WfC g.f_Call) : ∀ x ∈ TW g, (32 : UInt8) ∉ x := by
 have nd := dot_no ok.node.1 (by have := ok.node.2; omega)
 have wr := dot_no ok.wire.1 (by have := ok.wire.2; omega)
 have to := dot_no ok.to.1 (by have := ok.to.2; omega)
 have nn := S_no ok.n.1 (by have := ok.n.2; omega)
 have cl := dot_no wc.cl.1 (by have := wc.cl.2; omega)
 have sq := dot_no wc.sq.1 (by have := wc.sq.2; omega)
 have cr := CR_no _ wc
 unfold TW
 intro x hx
 split at hx
 ·unfold CW at hx
  simp only [List.mem_cons] at hx
  rcases hx with rfl | rfl | rfl | rfl | hx
  ·decide
  ·exact nd
  ·exact cl
  ·exact sq
  ·exact cr x hx
 split at hx
 ·simp only [List.mem_cons, List.not_mem_nil, or_false] at hx; rcases hx with rfl | rfl; decide; exact wr
 split at hx
 ·simp only [List.mem_cons, List.not_mem_nil, or_false] at hx; rcases hx with rfl | rfl; decide; exact wr
 split at hx
 ·simp only [List.mem_cons, List.not_mem_nil, or_false] at hx; rcases hx with rfl | rfl; decide; exact wr
 split at hx
 ·simp only [List.mem_cons, List.not_mem_nil, or_false] at hx; rcases hx with rfl | rfl; decide; exact wr
 split at hx
 ·simp only [List.mem_cons, List.not_mem_nil, or_false] at hx; rcases hx with rfl | rfl; decide; exact nd
 split at hx
 ·simp only [List.mem_cons, List.not_mem_nil, or_false] at hx; rcases hx with rfl | rfl; decide; exact nd
 split at hx
 ·simp only [List.mem_cons, List.not_mem_nil, or_false] at hx
  rcases hx with rfl | rfl | rfl | rfl | rfl
  ·decide
  ·exact nd
  ·exact nn
  ·split <;> decide
  ·exact H_no _
 split at hx
 ·simp only [List.mem_cons, List.not_mem_nil, or_false] at hx; rcases hx with rfl | rfl | rfl; decide; exact nd; exact nn
 ·simp only [List.mem_cons, List.not_mem_nil, or_false] at hx; rcases hx with rfl | rfl | rfl | rfl; decide; exact nd; exact to; exact H_no _
theorem TW_ne (g : T_r27_Step) : ∃ a b, TW g = a :: b := by
 cases h : TW g with
 | nil => exact absurd h (by unfold TW; repeat (first | exact List.cons_ne_nil _ _ | split))
 | cons a b => exact ⟨a, b, rfl⟩
theorem spl_J (g : T_r27_Step) (ok : MayOK g) (wc : WfC g.f_Call) : spl 32 (J (TW g)) = TW g := by
 have hn := TW_no g ok wc
 obtain ⟨a, b, e⟩ := TW_ne g
 rw [e] at hn ⊢
 exact spl_join 32 b a (hn a (List.mem_cons_self ..)) fun x hx => hn x (List.mem_cons_of_mem _ hx)
theorem J_spl (s : List UInt8) : J (spl 32 s) = s := by
 obtain ⟨w, ws, e1, e2⟩ := join_spl 32 s
 rw [e1]; exact e2.symm
theorem kept_wB (s r : T_r27_Step) (h1 : 1 ≤ s.f_Kind) (h2 : s.f_Kind ≤ 10) (hb : wB s.f_Bytes) (hk : r27_kept s = some r) : wB r.f_Bytes := by
 obtain ⟨k, n, w, m, ct, c, t, bs⟩ := s
 rcases kinds h1 h2 with h | h | h | h | h | h | h | h | h | h <;> (simp only at h; subst h)
 ·have hk : (r27_call c).bind (fun y => some (T_r27_Step.mk 1 n 0 0 false y 0 [])) = some r := hk
  cases hc : r27_call c with
  | none => rw [hc] at hk; cases hk
  | some y => rw [hc] at hk; cases (Option.some.inj hk); exact nB
 all_goals (cases (Option.some.inj hk); first | exact nB | exact hb)
theorem may_kept (s : T_r27_Step) (hv : wB s.f_Call.f_Votes) (hl : s.f_Call.f_Votes.length ≤ 140737488351232) (hb : wB s.f_Bytes) (hm : r27_May s = some true) : r27_kept s = some s := by
 unfold r27_May at hm
 by_cases h1 : s.f_Kind < 1
 ·rw [if_pos (by simpa using h1)] at hm; cases hm
 by_cases h2 : 10 < s.f_Kind
 ·rw [if_neg (by simpa using h1), if_pos (by simpa using h2)] at hm; cases hm
 rw [if_neg (by simpa using h1), if_neg (by simpa using h2)] at hm
 obtain ⟨r, e1, _, w1, _⟩ := clean_eq s (by omega) (by omega) hv hl
 have w2 := kept_wB s r (by omega) (by omega) hb e1
 obtain ⟨b, e2, q⟩ := same2 r s
 rw [e1, Option.bind_some, e2, Option.bind_some] at hm
 cases b
 ·rw [if_pos (by decide)] at hm; cases hm
 ·obtain ⟨a1, a2, a3, a4, a5, ⟨b1, b2, b3, b4, b5, b6, b7, b8, b9⟩, a6, a7⟩ := q.1 rfl
  have d9 := (strI_inj _ _ w1 hv).1 b9; clear b9
  have d7 := (strI_inj _ _ w2 hb).1 a7; clear a7
  rw [e1]
  obtain ⟨k, n, w, m, ct, ⟨c1, c2, c3, c4, c5, c6, c7, c8, c9⟩, t, bs⟩ := r
  obtain ⟨k', n', w', m', ct', ⟨c1', c2', c3', c4', c5', c6', c7', c8', c9'⟩, t', bs'⟩ := s
  simp only at a1 a2 a3 a4 a5 a6 d7 b1 b2 b3 b4 b5 b6 b7 b8 d9
  subst a1 a2 a3 a4 a5 a6 d7 b1 b2 b3 b4 b5 b6 b7 b8 d9
  rfl
theorem wfC_of (g : T_r27_Step) (w : WfC2 g.f_Call) (ok : MayOK g) (hk : r27_kept g = some g) : WfC g.f_Call := by
 by_cases h : g.f_Kind = 1
 ·have := ok.top h
  exact ⟨w.cl, ⟨w.sq.1, this.1⟩, ⟨w.tx.a, ⟨w.tx.b.1, this.2.1⟩, ⟨w.tx.c.1, this.2.2⟩⟩, w.ky, w.r, w.w, w.vt, w.vl⟩
 ·have kk := kinds ok.k1 ok.k2
  have z : WfC (ofC zC) := wfZC
  obtain ⟨k, n, w, m, ct, c, t, bs⟩ := g
  simp only at kk h
  rcases kk with rfl | rfl | rfl | rfl | rfl | rfl | rfl | rfl | rfl | rfl
  ·exact absurd rfl h
  all_goals (cases (Option.some.inj hk); exact z)
def zS : T_r27_Step := T_r27_Step.mk 0 0 0 0 false (T_r27_Call.mk 0 0 0 (TX.mk 0 0 0) (A8.mk 0 0 0 0 0 0 0 0) [] 0 0 []) 0 []
theorem same_zz : r27_Same zS zS = some true := by decide
theorem same_self (g : T_r27_Step) : r27_Same g g = some true := by
 obtain ⟨b, e, q⟩ := same2 g g
 rw [e, q.2 ⟨rfl, rfl, rfl, rfl, rfl, ⟨rfl, rfl, rfl, rfl, rfl, rfl, rfl, rfl, rfl⟩, rfl, rfl⟩]
theorem alive_eq : l27_alive = some true := by kernel_rfl
theorem parse_law (line : List UInt8) (hl : line.length ≤ 3000) : ∃ s e g, script_Parse line = some (s, e) ∧ r27_Parse line = some (g, e) ∧ r27_Same (ofP s) g = some true := by
 have hS : Sm (spl 32 line) := fun w hw => by have := spl_len 32 line w hw; omega
 obtain ⟨s, l', b', e1, rd, hB⟩ := rstepB (spl 32 line) false hS
 obtain ⟨g, e2, gw⟩ := guess_tot (spl 32 line) hS
 have wv : (ofP s).f_Call.f_Votes.length ≤ 140737488351232 := by have h := rd.c.vl; have h : (ofP s).f_Call.f_Votes.length ≤ 9 := h; omega
 obtain ⟨m, m1, m2, m3⟩ := may_law (ofP s) rd.c.ky rd.c.vt wv
 obtain ⟨m', n1, n2, n3⟩ := may_law g gw.c.ky gw.c.vt (by have := gw.c.vl; omega)
 have m1 : script_May s = some m := m1
 have sp : strings_Split line = some (spl 32 line) := splA_eq line (by omega)
 have rp : r27_split line 32 = some (spl 32 line) := rspl 32 line (by omega)
 have P : script_Parse line = if b' = true then script_Parse_c6 else if (decide (0 < (l'.length : Int))) = true then script_Parse_c6 else if (!m) = true then script_Parse_c6 else some (s, 0) := by
  unfold script_Parse
  rw [if_neg (by rw [decide_eq_true_eq]; omega), sp, Option.bind_some, e1, Option.bind_some]
  dsimp only
  rw [m1]; rfl
 have R : r27_Parse line = (r27_Line g).bind fun y7 => if ((y7.2 != 0) : Bool) then r27_Parse_c6 else if ((!(y7.1 == line)) : Bool) then r27_Parse_c6 else some (g, 0) := by
  unfold r27_Parse
  rw [if_neg (by rw [decide_eq_true_eq]; omega), rp, Option.bind_some, e2, Option.bind_some]; rfl
 by_cases hok : b' = false ∧ l' = [] ∧ m = true
 ·obtain ⟨h1, h2, h3⟩ := hok
  subst h1; subst h2; subst h3
  have hw : spl 32 line = TW (ofP s) := by have := hB rfl; rwa [List.append_nil] at this
  have ok := m3 rfl
  have hk := may_kept (ofP s) rd.c.vt wv rd.b m2
  have hg := guessA (ofP s) (by rw [← hw]; exact hS) ok hk rd.c rd.b
  rw [← hw, e2] at hg
  have hg := Option.some.inj hg
  subst hg
  have t := rd.c.tx
  have dl := docline (ofP s) ⟨rd.c.cl, ⟨rd.c.sq.1, by have h := rd.c.sq.2; have h : (ofP s).f_Call.f_Seq ≤ 2147483647 := h; omega⟩, t.a, ⟨t.b.1, by have h := t.b.2; have h : (ofP s).f_Call.f_Tx.f_Boot ≤ 2147483647 := h; omega⟩, ⟨t.c.1, by have h := t.c.2; have h : (ofP s).f_Call.f_Tx.f_Num ≤ 2147483647 := h; omega⟩, rd.c.r, rd.c.w, rd.c.ky, rd.c.vt, rd.b⟩ ok m2
  rw [← hw, J_spl] at dl
  refine ⟨s, 0, ofP s, ?_, ?_, same_self _⟩
  ·rw [P]; rfl
  ·rw [R, dl, Option.bind_some, if_neg (by simp), if_neg (by simp)]
 ·have P2 : script_Parse line = some (⟨0, 0, 0, 0, false, zC, 0, []⟩, 3) := by
   rw [P]
   split
   ·rfl
   split
   ·rfl
   split
   ·rfl
   ·rename_i g1 g2 g3
    refine absurd ⟨by simpa using g1, ?_, by simpa using g3⟩ hok
    rw [decide_eq_true_eq] at g2
    exact List.length_eq_zero_iff.1 (by omega)
  have R2 : r27_Parse line = some (zS, 3) := by
   rw [R]
   cases m'
   ·have : r27_Line g = some ([], 1) := by unfold r27_Line; rw [n2]; rfl
    rw [this]; rfl
   ·have ok := n3 rfl
    have hk := may_kept g gw.c.vt (by have := gw.c.vl; omega) gw.b n2
    have wc := wfC_of g gw.c ok hk
    have dl := docline g ⟨gw.c.cl, gw.c.sq, gw.c.tx.a, gw.c.tx.b, gw.c.tx.c, gw.c.r, gw.c.w, gw.c.ky, gw.c.vt, gw.b⟩ ok n2
    rw [dl, Option.bind_some, if_neg (by simp)]
    by_cases hj : J (TW g) = line
    ·exfalso
     have hsp : spl 32 line = TW g := by rw [← hj]; exact spl_J g ok wc
     have st := stepA g ok hk wc gw.b
     rw [← hsp, e1] at st
     simp only [Option.some.injEq, Prod.mk.injEq] at st
     obtain ⟨s1, s2, s3⟩ := st
     refine hok ⟨s3, s2, ?_⟩
     rw [s1, n1] at m1
     exact (Option.some.inj m1).symm
    ·rw [if_pos (by simpa using hj)]; rfl
  exact ⟨_, 3, zS, P2, R2, same_zz⟩
end Go.Proofs.YtdchgoaokceomaaGreatDoor.Wk
