/- Plain facts: ScriptReads. -/
import Derived.Test.YtdchgoaokceomaaDoorBacG
set_option linter.unusedVariables false
set_option linter.unusedSimpArgs false
set_option linter.unusedSectionVars false
namespace Go.Proofs.YtdchgoaokceomaaDoor.Wk
open Go Go.Cn
set_option maxRecDepth 10000
theorem hdr_all : (List.range 16).all (fun n => (decide (48 ≤ (hd n).toNat) && decide ((hd n).toNat ≤ 57)) || (decide (97 ≤ (hd n).toNat) && decide ((hd n).toNat ≤ 102))) = true := by kernel_rfl
theorem hdr_P (n : Nat) (h : n < 16) : (48 ≤ (hd n).toNat ∧ (hd n).toNat ≤ 57) ∨ (97 ≤ (hd n).toNat ∧ (hd n).toNat ≤ 102) := by
  have := List.all_eq_true.1 hdr_all n (List.mem_range.2 h)
  simpa using this
theorem hx_mem : ∀ (o : List UInt8), ∀ x ∈ o.flatMap hx, (48 ≤ x.toNat ∧ x.toNat ≤ 57) ∨ (97 ≤ x.toNat ∧ x.toNat ≤ 102) := by
  intro o x h
  rw [List.mem_flatMap] at h
  obtain ⟨y, _, hy⟩ := h
  have := y.toNat_lt
  simp only [hx, List.mem_cons, List.not_mem_nil, or_false] at hy
  rcases hy with rfl | rfl
  · exact hdr_P _ (by omega)
  · exact hdr_P _ (by omega)
theorem dot_no {v : Int} (h : 0 ≤ v) (h2 : v < 100000000000) : (32 : UInt8) ∉ D v := dg_no 32 (by unfold isDg; decide) h h2
theorem S_no {v : Int} (h : -1 ≤ v) (h2 : v < 100000000000) : (32 : UInt8) ∉ S v := by
  unfold S; split
  · decide
  · exact dot_no (by omega) h2
theorem H_no (o : List UInt8) : (32 : UInt8) ∉ H o := by
  unfold H; split
  · decide
  · intro h
    have := hx_mem o 32 h
    revert this; decide
theorem N_no (t : T_api_Tx) (h : WfT t) : (32 : UInt8) ∉ N t := by
  unfold N
  simp only [List.mem_append, not_or]
  exact ⟨⟨⟨⟨dot_no h.a.1 (by have := h.a.2; omega), by decide⟩, dot_no h.b.1 (by have := h.b.2; omega)⟩, by decide⟩, dot_no h.c.1 (by have := h.c.2; omega)⟩
theorem CR_no (c : T_parrelref27_Call) (h : WfC c) : ∀ x ∈ CR c, (32 : UInt8) ∉ x := by
  have n1 := N_no _ h.tx
  have r1 := dot_no h.r.1 (by have := h.r.2; omega)
  have w1 := dot_no h.w.1 (by have := h.w.2; omega)
  unfold CR
  intro x hx
  split at hx
  · simp only [List.mem_cons, List.not_mem_nil, or_false] at hx; subst hx; decide
  split at hx
  · simp only [List.mem_cons, List.not_mem_nil, or_false] at hx; rcases hx with rfl | rfl | rfl; decide; exact n1; exact H_no _
  split at hx
  · simp only [List.mem_cons, List.not_mem_nil, or_false] at hx; rcases hx with rfl | rfl | rfl | rfl; decide; exact n1; exact H_no _; exact H_no _
  split at hx
  · simp only [List.mem_cons, List.not_mem_nil, or_false] at hx; rcases hx with rfl | rfl; decide; exact n1
  split at hx
  · simp only [List.mem_cons, List.not_mem_nil, or_false] at hx; rcases hx with rfl | rfl; decide; exact n1
  · rcases List.mem_append.1 hx with hx | hx
    · simp only [List.mem_cons, List.not_mem_nil, or_false] at hx; rcases hx with rfl | rfl | rfl | rfl | rfl; decide; exact n1; exact H_no _; exact r1; exact w1
    · rw [List.mem_map] at hx
      obtain ⟨v, hv, rfl⟩ := hx
      have := h.vt v hv
      exact dot_no this.1 (by omega)
theorem TW_no (g : T_parrelref27_Step) (ok : MayOK g) (wc : WfC g.f_Call) : ∀ x ∈ TW g, (32 : UInt8) ∉ x := by
  have nd := dot_no ok.node.1 (by have := ok.node.2; omega)
  have wr := dot_no ok.wire.1 (by have := ok.wire.2; omega)
  have to := dot_no ok.to.1 (by have := ok.to.2; omega)
  have nn := S_no ok.n.1 (by have := ok.n.2; omega)
  have cl := dot_no wc.cl.1 (by have := wc.cl.2; omega)
  have sq := dot_no wc.sq.1 (by have := wc.sq.2; omega)
  have cr := CR_no _ wc
  unfold TW
  intro x hx
  split at hx
  · unfold CW at hx
    simp only [List.mem_cons] at hx
    rcases hx with rfl | rfl | rfl | rfl | hx
    · decide
    · exact nd
    · exact cl
    · exact sq
    · exact cr x hx
  split at hx
  · simp only [List.mem_cons, List.not_mem_nil, or_false] at hx; rcases hx with rfl | rfl; decide; exact wr
  split at hx
  · simp only [List.mem_cons, List.not_mem_nil, or_false] at hx; rcases hx with rfl | rfl; decide; exact wr
  split at hx
  · simp only [List.mem_cons, List.not_mem_nil, or_false] at hx; rcases hx with rfl | rfl; decide; exact wr
  split at hx
  · simp only [List.mem_cons, List.not_mem_nil, or_false] at hx; rcases hx with rfl | rfl; decide; exact wr
  split at hx
  · simp only [List.mem_cons, List.not_mem_nil, or_false] at hx; rcases hx with rfl | rfl; decide; exact nd
  split at hx
  · simp only [List.mem_cons, List.not_mem_nil, or_false] at hx; rcases hx with rfl | rfl; decide; exact nd
  split at hx
  · simp only [List.mem_cons, List.not_mem_nil, or_false] at hx
    rcases hx with rfl | rfl | rfl | rfl | rfl
    · decide
    · exact nd
    · exact nn
    · split <;> decide
    · exact H_no _
  split at hx
  · simp only [List.mem_cons, List.not_mem_nil, or_false] at hx; rcases hx with rfl | rfl | rfl; decide; exact nd; exact nn
  · simp only [List.mem_cons, List.not_mem_nil, or_false] at hx; rcases hx with rfl | rfl | rfl | rfl; decide; exact nd; exact to; exact H_no _
theorem TW_ne (g : T_parrelref27_Step) : ∃ a b, TW g = a :: b := by
  cases h : TW g with
  | nil => exact absurd h (by unfold TW; repeat (first | exact List.cons_ne_nil _ _ | split))
  | cons a b => exact ⟨a, b, rfl⟩
theorem spl_J (g : T_parrelref27_Step) (ok : MayOK g) (wc : WfC g.f_Call) : spl 32 (J (TW g)) = TW g := by
  have hn := TW_no g ok wc
  obtain ⟨a, b, e⟩ := TW_ne g
  rw [e] at hn ⊢
  exact spl_join 32 b a (hn a (List.mem_cons_self ..)) fun x hx => hn x (List.mem_cons_of_mem _ hx)
theorem J_spl (s : List UInt8) : J (spl 32 s) = s := by
  obtain ⟨w, ws, e1, e2⟩ := join_spl 32 s
  rw [e1]; exact e2.symm
end Go.Proofs.YtdchgoaokceomaaDoor.Wk
