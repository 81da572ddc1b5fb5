/- What was done one behind the other has an order. -/
import Derived.Test.YtofkaccoofafmaaHistS
set_option linter.unusedVariables false
set_option linter.unusedSimpArgs false
set_option linter.unusedSectionVars false
namespace Go.Proofs.Ytofkaccoofafmaa.Wk
open Go Go.Cn
abbrev CO := T_parrellaw26_copyOf
def kk (j : Nat) : Ky := A8.mk ((j + 1 : Nat) : Int) 0 0 0 0 0 0 0
theorem kk_inj {i j : Nat} (h : kk i = kk j) : i = j := by
  have := congrArg A8.a0 h
  simp only [kk] at this
  omega
theorem get_set {α : Type} (A : A8 α) (x : α) {i j : Nat} (hi : i < 8) (hj : j < 8) : (A.set x i).get j = if j = i then x else A.get j := by
  rcases (by omega : i = 0 ∨ i = 1 ∨ i = 2 ∨ i = 3 ∨ i = 4 ∨ i = 5 ∨ i = 6 ∨ i = 7) with rfl | rfl | rfl | rfl | rfl | rfl | rfl | rfl <;>
    rcases (by omega : j = 0 ∨ j = 1 ∨ j = 2 ∨ j = 3 ∨ j = 4 ∨ j = 5 ∨ j = 6 ∨ j = 7) with rfl | rfl | rfl | rfl | rfl | rfl | rfl | rfl <;> rfl
def itA (A : A8 CO) (j : Nat) : RI := ⟨kk j, (A.get j).f_version, (A.get j).f_value⟩
structure Mid (A0 A : A8 CO) (i : Nat) (R W : List RI) : Prop where
  rd : ∀ r ∈ R, ∃ j, j < i ∧ r = itA A0 j
  wr : ∀ w ∈ W, ∃ j, j < i ∧ w = itA A j ∧ (A0.get j).f_version < (A.get j).f_version
  un : ∀ j, j < 8 → A.get j = A0.get j ∨ (j < i ∧ itA A j ∈ W)
  mono : ∀ j, j < 8 → (A0.get j).f_version ≤ (A.get j).f_version ∧ (A.get j).f_version ≤ (A0.get j).f_version + 3
  ge : ∀ j, i ≤ j → j < 8 → A.get j = A0.get j
  nr : (R.map (·.f_Key)).Nodup
  nw : (W.map (·.f_Key)).Nodup
  lr : R.length ≤ i
  lw : W.length ≤ i
theorem Mid.nil (A : A8 CO) : Mid A A 0 [] [] := ⟨(fun _ h => by cases h), (fun _ h => by cases h), fun _ _ => .inl rfl, fun _ _ => ⟨by omega, by omega⟩, fun _ _ _ => rfl, List.nodup_nil, List.nodup_nil, Nat.le_refl _, Nat.le_refl _⟩
theorem nodup_snoc {l : List RI} {i : Nat} {x : RI} (h : (l.map (·.f_Key)).Nodup) (hl : ∀ r ∈ l, ∃ j, j < i ∧ r.f_Key = kk j) (hx : x.f_Key = kk i) : ((l ++ [x]).map (·.f_Key)).Nodup := by
  rw [List.map_append, List.nodup_append]
  refine ⟨h, by simp, fun a ha b hb => ?_⟩
  simp only [List.map_cons, List.map_nil, List.mem_singleton] at hb
  obtain ⟨r, hr, rfl⟩ := List.mem_map.1 ha
  obtain ⟨j, hj, e⟩ := hl r hr
  intro e2
  rw [hb, hx, e] at e2
  have := kk_inj e2
  omega
theorem Mid.skipR {A0 A : A8 CO} {i : Nat} {R W : List RI} (h : Mid A0 A i R W) (br : Bool) (hi : i < 8) :
    (∀ r ∈ (if br then R ++ [itA A i] else R), ∃ j, j < i + 1 ∧ r = itA A0 j) ∧ ((if br then R ++ [itA A i] else R).map (·.f_Key)).Nodup ∧ (if br then R ++ [itA A i] else R).length ≤ i + 1 := by
  have e : itA A i = itA A0 i := by unfold itA; rw [h.ge i (Nat.le_refl _) hi]
  cases br with
  | false => exact ⟨fun r hr => by obtain ⟨j, hj, e⟩ := h.rd r hr; exact ⟨j, by omega, e⟩, h.nr, by have := h.lr; simp; omega⟩
  | true =>
    refine ⟨fun r hr => ?_, nodup_snoc h.nr (fun r hr => by obtain ⟨j, hj, e⟩ := h.rd r hr; exact ⟨j, hj, by rw [e]; rfl⟩) rfl, by have := h.lr; simp; omega⟩
    rcases List.mem_append.1 hr with hr | hr
    · obtain ⟨j, hj, e⟩ := h.rd r hr; exact ⟨j, by omega, e⟩
    · rw [List.mem_singleton.1 hr]; exact ⟨i, by omega, e⟩
theorem Mid.step {A0 A : A8 CO} {i : Nat} {R W : List RI} (h : Mid A0 A i R W) (hi : i < 8) (br bw : Bool) (x : CO) (hx : (A.get i).f_version < x.f_version ∧ x.f_version ≤ (A.get i).f_version + 3) :
    Mid A0 (if bw then A.set x i else A) (i + 1) (if br then R ++ [itA A i] else R) (if bw then W ++ [⟨kk i, x.f_version, x.f_value⟩] else W) := by
  obtain ⟨r1, r2, r3⟩ := h.skipR br hi
  have hg := h.ge i (Nat.le_refl _) hi
  cases bw with
  | false =>
    refine ⟨r1, fun w hw => ?_, fun j hj => ?_, h.mono, fun j h1 h2 => h.ge j (by omega) h2, r2, h.nw, r3, by have := h.lw; simp; omega⟩
    · obtain ⟨j, hj, e⟩ := h.wr w hw; exact ⟨j, by omega, e⟩
    · rcases h.un j hj with e | ⟨e1, e2⟩
      · exact .inl e
      · exact .inr ⟨by omega, e2⟩
  | true =>
    have hs : ∀ j, j < 8 → (A.set x i).get j = if j = i then x else A.get j := fun j hj => get_set A x hi hj
    have hit : ∀ j, j < 8 → j ≠ i → itA (A.set x i) j = itA A j := fun j hj hne => by unfold itA; rw [hs j hj, if_neg hne]
    have hii : itA (A.set x i) i = ⟨kk i, x.f_version, x.f_value⟩ := by unfold itA; rw [hs i hi, if_pos rfl]
    have hii2 : (A.set x i).get i = x := by rw [hs i hi, if_pos rfl]
    simp only [if_true]
    refine ⟨r1, fun w hw => ?_, fun j hj => ?_, fun j hj => ?_, fun j h1 h2 => ?_, r2, ?_, r3, by have := h.lw; rw [List.length_append, List.length_singleton]; omega⟩
    · rcases List.mem_append.1 hw with hw | hw
      · obtain ⟨j, hj, e, e2⟩ := h.wr w hw
        refine ⟨j, by omega, by rw [hit j (by omega) (by omega)]; exact e, by rw [hs j (by omega), if_neg (by omega)]; exact e2⟩
      · rw [List.mem_singleton.1 hw]
        exact ⟨i, by omega, hii.symm, by rw [hii2, ← hg]; exact hx.1⟩
    · by_cases hji : j = i
      · subst hji
        exact .inr ⟨by omega, by rw [hii]; exact List.mem_append_right _ List.mem_cons_self⟩
      · rw [hs j hj, if_neg hji, hit j hj hji]
        rcases h.un j hj with e | ⟨e1, e2⟩
        · exact .inl e
        · exact .inr ⟨by omega, List.mem_append_left _ e2⟩
    · rw [hs j hj]
      by_cases hji : j = i
      · rw [if_pos hji, hji, ← hg]; omega
      · rw [if_neg hji]; exact h.mono j hj
    · rw [hs j h2, if_neg (by omega)]; exact h.ge j (by omega) h2
    · exact nodup_snoc h.nw (fun w hw => by obtain ⟨j, hj, e, _⟩ := h.wr w hw; exact ⟨j, hj, by rw [e]; rfl⟩) rfl

/-- A history that was done one behind the other. -/
structure Chain (L : List RT) (A : A8 CO) : Prop where
  fine : ∀ t ∈ L, wrongB t = false
  wpos : ∀ t ∈ L, ∀ w ∈ t.f_Writes, 0 < w.f_Version
  nob : L.Pairwise (fun p t => aheadB t p = false)
  wle : ∀ t ∈ L, ∀ w ∈ t.f_Writes, ∃ a, a < 8 ∧ w.f_Key = kk a ∧ w.f_Version ≤ (A.get a).f_version
  rle : ∀ t ∈ L, ∀ r ∈ t.f_Reads, ∃ a, a < 8 ∧ r.f_Key = kk a ∧ r.f_Version ≤ (A.get a).f_version
  nd : ((allW L).map ver).Nodup
  st : ∀ a, a < 8 → A.get a = ⟨0, []⟩ ∨ itA A a ∈ allW L
  rds : ∀ r ∈ allR L, (r.f_Version = 0 ∧ r.f_Value = []) ∨ ∃ w ∈ allW L, ver w = ver r ∧ w.f_Value = r.f_Value
  tms : ∀ t ∈ L, t.f_Begin ≤ 2 * (L.length : Int)
  vb : ∀ a, a < 8 → 0 ≤ (A.get a).f_version ∧ (A.get a).f_version ≤ 3 * (L.length : Int)
def A00 : A8 CO := A8.mk ⟨0, []⟩ ⟨0, []⟩ ⟨0, []⟩ ⟨0, []⟩ ⟨0, []⟩ ⟨0, []⟩ ⟨0, []⟩ ⟨0, []⟩
theorem A00_get {a : Nat} (h : a < 8) : A00.get a = ⟨0, []⟩ := by
  rcases (by omega : a = 0 ∨ a = 1 ∨ a = 2 ∨ a = 3 ∨ a = 4 ∨ a = 5 ∨ a = 6 ∨ a = 7) with rfl | rfl | rfl | rfl | rfl | rfl | rfl | rfl <;> rfl
theorem Chain.nil : Chain [] A00 := ⟨(fun _ h => by cases h), (fun _ h => by cases h), List.Pairwise.nil, (fun _ h => by cases h), (fun _ h => by cases h), List.nodup_nil, fun a ha => .inl (A00_get ha), (fun _ h => by cases h), (fun _ h => by cases h), fun a ha => by rw [A00_get ha]; simp⟩
theorem allW_snoc (L : List RT) (t : RT) : allW (L ++ [t]) = allW L ++ t.f_Writes := by simp [allW]
theorem allR_snoc (L : List RT) (t : RT) : allR (L ++ [t]) = allR L ++ t.f_Reads := by simp [allR]
theorem aft_false {l m : List RI} {same : Bool} (h : ∀ x ∈ l, ∀ y ∈ m, y.f_Key = x.f_Key → ¬ (x.f_Version < y.f_Version ∨ (same = true ∧ y.f_Version = x.f_Version))) : aftB l m same = false := by
  cases ha : aftB l m same with
  | false => rfl
  | true =>
    obtain ⟨x, hx, y, hy, hk, hv⟩ := aftB_iff.1 ha
    exact absurd hv (h x hx y hy hk)
theorem Chain.step {L : List RT} {A A' : A8 CO} (h : Chain L A) {R W : List RI} (hm : Mid A A' 8 R W) {b e : Int} (he : e = 0 ∨ 2 * (L.length : Int) ≤ e) (hb : b ≤ 2 * ((L.length : Int) + 1)) : Chain (L ++ [⟨R, W, b, e⟩]) A' := by
  have hmem : ∀ t ∈ L ++ [(⟨R, W, b, e⟩ : RT)], t ∈ L ∨ t = ⟨R, W, b, e⟩ := fun t ht => by
    rcases List.mem_append.1 ht with ht | ht
    · exact .inl ht
    · exact .inr (List.mem_singleton.1 ht)
  have hwpos : ∀ w ∈ W, 0 < w.f_Version := fun w hw => by
    obtain ⟨j, hj, e1, e2⟩ := hm.wr w hw
    have := (h.vb j hj).1
    rw [e1]; show 0 < (A'.get j).f_version; omega
  have hlen : (((L ++ [(⟨R, W, b, e⟩ : RT)]).length : Nat) : Int) = (L.length : Int) + 1 := by simp
  refine ⟨fun t ht => ?_, fun t ht => ?_, ?_, fun t ht w hw => ?_, fun t ht r hr => ?_, ?_, fun a ha => ?_, fun r hr => ?_, fun t ht => ?_, fun a ha => ?_⟩
  · rcases hmem t ht with ht | rfl
    · exact h.fine t ht
    · have h1 := hm.lr; have h2 := hm.lw
      simp only [wrongB, Bool.or_eq_false_iff, decide_eq_false_iff_not, dupB, Classical.not_not]
      refine ⟨⟨⟨⟨by omega, by omega⟩, hm.nr⟩, hm.nw⟩, ?_⟩
      rw [List.any_eq_false]
      intro w hw
      have := hwpos w hw
      simp only [beq_iff_eq]; omega
  · rcases hmem t ht with ht | rfl
    · exact h.wpos t ht
    · exact hwpos
  · refine List.pairwise_append.2 ⟨h.nob, List.pairwise_singleton _ _, fun p hp t ht => ?_⟩
    rw [List.mem_singleton.1 ht]
    have e1 : aftB W p.f_Writes false = false := aft_false fun x hx y hy hk hv => by
      obtain ⟨j, hj, ex, ex2⟩ := hm.wr x hx
      obtain ⟨a, ha, ey, ey2⟩ := h.wle p hp y hy
      have : a = j := kk_inj (by rw [← ey, hk, ex]; rfl)
      subst this
      have exv : x.f_Version = (A'.get a).f_version := by rw [ex]; rfl
      rcases hv with hv | ⟨hv, _⟩
      · omega
      · cases hv
    have e2 : aftB W p.f_Reads true = false := aft_false fun x hx y hy hk hv => by
      obtain ⟨j, hj, ex, ex2⟩ := hm.wr x hx
      obtain ⟨a, ha, ey, ey2⟩ := h.rle p hp y hy
      have : a = j := kk_inj (by rw [← ey, hk, ex]; rfl)
      subst this
      have exv : x.f_Version = (A'.get a).f_version := by rw [ex]; rfl
      rcases hv with hv | ⟨_, hv⟩ <;> omega
    have e3 : aftB R p.f_Writes false = false := aft_false fun x hx y hy hk hv => by
      obtain ⟨j, hj, ex⟩ := hm.rd x hx
      obtain ⟨a, ha, ey, ey2⟩ := h.wle p hp y hy
      have : a = j := kk_inj (by rw [← ey, hk, ex]; rfl)
      subst this
      have exv : x.f_Version = (A.get a).f_version := by rw [ex]; rfl
      rcases hv with hv | ⟨hv, _⟩
      · omega
      · cases hv
    have e4 : (e != 0 && decide (e < p.f_Begin)) = false := by
      rcases he with rfl | he
      · rfl
      · have := h.tms p hp
        rw [decide_eq_false (by omega), Bool.and_false]
    unfold aheadB
    simp only [e1, e2, e3, e4, Bool.or_false]
  · rcases hmem t ht with ht | rfl
    · obtain ⟨a, ha, e1, e2⟩ := h.wle t ht w hw
      exact ⟨a, ha, e1, by have := (hm.mono a ha).1; omega⟩
    · obtain ⟨j, hj, e1, _⟩ := hm.wr w hw
      exact ⟨j, hj, by rw [e1]; rfl, by rw [e1]; exact Int.le_refl _⟩
  · rcases hmem t ht with ht | rfl
    · obtain ⟨a, ha, e1, e2⟩ := h.rle t ht r hr
      exact ⟨a, ha, e1, by have := (hm.mono a ha).1; omega⟩
    · obtain ⟨j, hj, e1⟩ := hm.rd r hr
      exact ⟨j, hj, by rw [e1]; rfl, by rw [e1]; exact (hm.mono j hj).1⟩
  · rw [allW_snoc, List.map_append, List.nodup_append]
    refine ⟨h.nd, nodup_ver hm.nw, fun x hx y hy => ?_⟩
    obtain ⟨w, hw, rfl⟩ := List.mem_map.1 hx
    obtain ⟨w2, hw2, rfl⟩ := List.mem_map.1 hy
    intro ev
    obtain ⟨ek, en⟩ := ver_iff.1 ev
    obtain ⟨i, hi, hwi⟩ := allW_mem.1 hw
    obtain ⟨a, ha, e1, e2⟩ := h.wle _ (getD_mem hi) w hwi
    obtain ⟨j, hj, e3, e4⟩ := hm.wr w2 hw2
    have : a = j := kk_inj (by rw [← e1, ek, e3]; rfl)
    subst this
    have : w2.f_Version = (A'.get a).f_version := by rw [e3]; rfl
    omega
  · rw [allW_snoc]
    rcases hm.un a ha with e1 | ⟨_, e1⟩
    · have e2 : itA A' a = itA A a := by unfold itA; rw [e1]
      rw [e1, e2]
      rcases h.st a ha with h1 | h1
      · exact .inl h1
      · exact .inr (List.mem_append_left _ h1)
    · exact .inr (List.mem_append_right _ e1)
  · rw [allR_snoc] at hr
    rw [allW_snoc]
    rcases List.mem_append.1 hr with hr | hr
    · rcases h.rds r hr with h1 | ⟨w, hw, h1⟩
      · exact .inl h1
      · exact .inr ⟨w, List.mem_append_left _ hw, h1⟩
    · obtain ⟨j, hj, e1⟩ := hm.rd r hr
      rcases h.st j hj with h1 | h1
      · refine .inl ?_
        rw [e1]
        unfold itA
        rw [h1]
        exact ⟨rfl, rfl⟩
      · exact .inr ⟨_, List.mem_append_left _ h1, by rw [e1], by rw [e1]⟩
  · rw [hlen]
    rcases hmem t ht with ht | rfl
    · have := h.tms t ht; omega
    · show b ≤ _; omega
  · rw [hlen]
    have h1 := h.vb a ha
    have h2 := hm.mono a ha
    omega

/-! It has an order, in whatever order it is told -/
theorem rdC_of (look : RI → Option (List UInt8)) : ∀ (l : List RI), (∀ r ∈ l, (look r = none → r.f_Version = 0) ∧ (look r).getD [] = r.f_Value) → rdC look l 0 = 0
  | [], _ => rfl
  | r :: l, h => by
    obtain ⟨h1, h2⟩ := h r List.mem_cons_self
    rw [rdC, if_neg ?_, if_pos h2]
    · exact rdC_of look l fun x hx => h x (List.mem_cons_of_mem _ hx)
    · rintro ⟨h3, h4⟩
      have : look r = none := by cases hl : look r with
        | none => rfl
        | some v => rw [hl] at h3; cases h3
      exact h4 (h1 this)
theorem kahn_full {n : Nat} {E : Nat → Nat → Bool} (ρ : Nat → Nat) (h : ∀ p q, p < n → q < n → E p q = true → ρ p < ρ q) : ∀ (f : Nat) (out : List Nat), Inv n E out → n ≤ f + out.length → (kahn n E f out).length = n
  | 0, out, hI, hf => by
    have := hI.len
    show out.length = n; omega
  | f + 1, out, hI, hf => by
    rw [kahn]
    cases hn : nextB n E out with
    | some i => exact kahn_full ρ h f _ (hI.step hn) (by rw [List.length_append, List.length_singleton]; omega)
    | none =>
      have hall : ∀ r p, p < n → ρ p = r → p ∈ out := by
        intro r
        induction r using Nat.strongRecOn with
        | _ r ih =>
          intro p hp hr
          by_cases hpo : p ∈ out
          · exact hpo
          · exfalso
            have hfree : freeB n E out p = true := freeB_iff.2 ⟨hpo, fun k hk he => ih (ρ k) (by rw [← hr]; exact h k p hk hp he) k hk rfl⟩
            unfold nextB at hn
            rw [List.find?_eq_none] at hn
            exact hn p (List.mem_range.2 hp) hfree
      have h1 : (List.range n).length ≤ out.length := List.nodup_range.length_le_of_subset fun p hp => hall _ p (List.mem_range.1 hp) rfl
      rw [List.length_range] at h1
      have := hI.len
      show out.length = n; omega
theorem turned {L : List RT} {A : A8 CO} (h : Chain L A) (hl : L.length ≤ 64) (k : Nat) (hk : k ≤ L.length) : checkB (L.drop k ++ L.take k) = 0 ∧ (orderN (L.drop k ++ L.take k)).length = L.length ∧ ∀ t ∈ L.drop k ++ L.take k, ∀ w ∈ t.f_Writes, 0 ≤ w.f_Version := by
  have hp : (L.drop k ++ L.take k).Perm L := by
    have := List.perm_append_comm (l₁ := L.drop k) (l₂ := L.take k)
    rwa [List.take_append_drop] at this
  have hlen : (L.drop k ++ L.take k).length = L.length := hp.length_eq
  have hW : (allW (L.drop k ++ L.take k)).Perm (allW L) := hp.flatMap_right _
  have hR : (allR (L.drop k ++ L.take k)).Perm (allR L) := hp.flatMap_right _
  have hnd : ((allW (L.drop k ++ L.take k)).map ver).Nodup := (hW.map ver).nodup_iff.2 h.nd
  refine ⟨?_, ?_, fun t ht w hw => by have := h.wpos t (hp.mem_iff.1 ht) w hw; omega⟩
  · have hmay : mayB (L.drop k ++ L.take k) = true := by
      unfold mayB
      rw [decide_eq_true (by omega), Bool.and_true, Bool.not_eq_true', List.any_eq_false]
      intro t ht
      rw [h.fine t (hp.mem_iff.1 ht)]; exact Bool.false_ne_true
    unfold checkB
    rw [if_pos hmay, if_pos hnd]
    refine rdC_of _ _ fun r hr => ?_
    rcases h.rds r (hR.mem_iff.1 hr) with ⟨h1, h2⟩ | ⟨w, hw, h1, h2⟩
    · refine ⟨fun _ => h1, ?_⟩
      cases hf : findV (allW (L.drop k ++ L.take k)) r with
      | none => exact h2.symm
      | some v =>
        obtain ⟨w, hw, e1, _⟩ := find_ver hf
        obtain ⟨i, hi, hwi⟩ := allW_mem.1 (hW.mem_iff.1 hw)
        have := h.wpos _ (getD_mem hi) w hwi
        have := (ver_iff.1 e1).2
        omega
    · cases hf : findV (allW (L.drop k ++ L.take k)) r with
      | none => exact absurd h1 (find_none hf w (hW.mem_iff.2 hw))
      | some v =>
        obtain ⟨w', hw', e1, e2⟩ := find_ver hf
        have := nodup_inj hnd hw' (hW.mem_iff.2 hw) (e1.trans h1.symm)
        refine ⟨(fun e => nomatch e), ?_⟩
        show v = r.f_Value
        rw [← e2, this, h2]
  · have hget : ∀ p, p < L.length → (L.drop k ++ L.take k).getD p default = L.getD (if p < L.length - k then p + k else p - (L.length - k)) default := fun p hpl => by
      have hdl : (L.drop k).length = L.length - k := List.length_drop
      by_cases hlt : p < L.length - k
      · rw [if_pos hlt, List.getD_eq_getElem?_getD, List.getElem?_append_left (by omega), List.getElem?_drop, List.getD_eq_getElem?_getD, Nat.add_comm]
      · rw [if_neg hlt, List.getD_eq_getElem?_getD, List.getElem?_append_right (by omega), hdl, List.getElem?_take_of_lt (by omega), List.getD_eq_getElem?_getD]
    have hrank := kahn_full (n := (L.drop k ++ L.take k).length) (E := Eg (L.drop k ++ L.take k)) (fun p => if p < L.length - k then p + k else p - (L.length - k)) (fun p q hpl hql he => by
      rw [hlen] at hpl hql
      obtain ⟨hne, ha⟩ := Eg_iff.1 he
      rw [hget p hpl, hget q hql] at ha
      generalize hi : (if p < L.length - k then p + k else p - (L.length - k)) = i at ha
      generalize hj : (if q < L.length - k then q + k else q - (L.length - k)) = j at ha
      have hil : i < L.length := by rw [← hi]; split <;> omega
      have hjl : j < L.length := by rw [← hj]; split <;> omega
      have hij : i ≠ j := fun e => by
        rw [← hi, ← hj] at e
        split at e <;> split at e <;> omega
      rcases Nat.lt_or_ge i j with hlt | hge
      · exact hlt
      · have hji : j < i := by omega
        have h3 := List.pairwise_iff_getElem.1 h.nob j i hjl hil hji
        have e1 : L.getD i default = L[i] := by rw [List.getD_eq_getElem?_getD, List.getElem?_eq_getElem hil]; rfl
        have e2 : L.getD j default = L[j] := by rw [List.getD_eq_getElem?_getD, List.getElem?_eq_getElem hjl]; rfl
        rw [e1, e2, h3] at ha
        cases ha) ((L.drop k ++ L.take k).length + 1) [] (Inv.nil _ _) (by simp)
    unfold orderN
    rw [hrank, hlen]
end Go.Proofs.Ytofkaccoofafmaa.Wk
