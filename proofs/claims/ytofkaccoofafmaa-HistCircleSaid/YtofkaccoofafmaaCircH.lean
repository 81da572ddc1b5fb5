/- A circle is one. -/
import Derived.Test.YtofkaccoofafmaaCircG
set_option linter.unusedVariables false
set_option linter.unusedSimpArgs false
set_option linter.unusedSectionVars false
namespace Go.Proofs.Ytofkaccoofafmaa.Wk
open Go Go.Cn

theorem rd_part (look : RI → Option (List UInt8)) : ∀ (l : List RI), (∀ r ∈ l, look r = none → r.f_Version = 0 → r.f_Value = []) → (∀ r ∈ l, ∀ v, look r = some v → v = r.f_Value) → rdC look l 0 = 0 ∨ rdC look l 0 = 6
  | [], _, _ => .inl rfl
  | r :: l, h1, h2 => by
    rw [rdC]
    split
    · exact .inr rfl
    · rename_i hc
      have : (look r).getD [] = r.f_Value := by
        cases hl : look r with
        | none =>
          rw [hl] at hc
          have hv : r.f_Version = 0 := by
            by_cases e : r.f_Version = 0
            · exact e
            · exact absurd ⟨rfl, e⟩ hc
          exact (h1 r List.mem_cons_self hl hv).symm
        | some v => exact h2 r List.mem_cons_self v hl
      rw [if_pos this]
      exact rd_part look l (fun x hx => h1 x (List.mem_cons_of_mem _ hx)) (fun x hx => h2 x (List.mem_cons_of_mem _ hx))
def some_of (l : List RT) (cs : List Nat) : List RT := cs.map fun c => l.getD c default
theorem some_get {l : List RT} {cs : List Nat} {i : Nat} (hi : i < cs.length) : (some_of l cs).getD i default = l.getD (cs.getD i default) default := getD_map (fun c => l.getD c default) hi
theorem nodup_get {o : List Nat} (h : o.Nodup) {a b : Nat} (ha : a < o.length) (hb : b < o.length) (e : o.getD a default = o.getD b default) : a = b := by
  rw [List.getD_eq_getElem?_getD, List.getD_eq_getElem?_getD, List.getElem?_eq_getElem ha, List.getElem?_eq_getElem hb] at e
  have e' : o[a] = o[b] := by simpa using e
  rcases Nat.lt_trichotomy a b with hl | hl | hl
  · exact absurd e' (List.pairwise_iff_getElem.1 h a b ha hb hl)
  · exact hl
  · exact absurd e'.symm (List.pairwise_iff_getElem.1 h b a hb ha hl)
theorem part_check {l : List RT} (hc : checkB l = 0) {cs : List Nat} (hnd : cs.Nodup) (hlt : ∀ c ∈ cs, c < l.length) : checkB (some_of l cs) = 0 ∨ checkB (some_of l cs) = 6 := by
  have hmay := check_zero hc
  obtain ⟨h64, hwr⟩ := may_all hmay
  have hlen : (some_of l cs).length = cs.length := by simp [some_of]
  have hcl := nd_len hnd hlt
  have hmem : ∀ t ∈ some_of l cs, t ∈ l := fun t ht => by
    obtain ⟨c, h1, rfl⟩ := List.mem_map.1 ht
    exact getD_mem (hlt c h1)
  have hmay' : mayB (some_of l cs) = true := by
    rw [mayB, Bool.and_eq_true, decide_eq_true_eq, Bool.not_eq_true', List.any_eq_false]
    exact ⟨fun t ht => by rw [hwr t (hmem t ht)]; simp, by omega⟩
  have hc2 := hc
  rw [checkB, if_pos hmay] at hc2
  split at hc2
  · rename_i hn
    obtain ⟨_, hrd⟩ := rdC_zero _ _ _ hc2
    have hW : ∀ w ∈ allW (some_of l cs), w ∈ allW l := fun w hw => by
      obtain ⟨i, h1, h2⟩ := allW_mem.1 hw
      rw [some_get (by omega)] at h2
      exact allW_mem.2 ⟨_, hlt _ (getD_mem (by omega)), h2⟩
    have hR : ∀ r ∈ allR (some_of l cs), r ∈ allR l := fun r hr => by
      obtain ⟨t, h1, h2⟩ := List.mem_flatMap.1 hr
      exact List.mem_flatMap.2 ⟨t, hmem t h1, h2⟩
    have hn' : ((allW (some_of l cs)).map ver).Nodup := by
      rw [allW_nodup _ fun t ht => nodup_ver (ndT_of (hwr t (hmem t ht))).2.1]
      rintro j hj w hw ⟨j', hj', w', hw', e⟩
      rw [some_get (by omega)] at hw hw'
      have := one_writer hn (hlt _ (getD_mem (by omega))) (hlt _ (getD_mem (by omega))) hw' hw e
      have := nodup_get hnd (by omega) (by omega) this
      omega
    rw [checkB, if_pos hmay', if_pos hn']
    refine rd_part _ _ (fun r hr hl hv => ?_) (fun r hr v hl => ?_)
    · obtain ⟨_, h2⟩ := hrd r (hR r hr)
      cases hf : findV (allW l) r with
      | none => rw [hf] at h2; exact h2.symm
      | some v' =>
        exfalso
        obtain ⟨w, w1, w2, w3⟩ := find_ver hf
        obtain ⟨i, i1, i2⟩ := allW_mem.1 w1
        have hwf := hwr _ (getD_mem i1)
        have h0 : w.f_Version = 0 := by rw [(ver_iff.1 w2).2, hv]
        unfold wrongB at hwf
        rw [Bool.or_eq_false_iff] at hwf
        have := List.any_eq_false.1 hwf.2 w i2
        rw [h0] at this
        exact this rfl
    · obtain ⟨_, h2⟩ := hrd r (hR r hr)
      obtain ⟨w, w1, w2, w3⟩ := find_ver hl
      cases hf : findV (allW l) r with
      | none => exact absurd w2 (find_none hf w (hW w w1))
      | some v' =>
        obtain ⟨w', w1', w2', w3'⟩ := find_ver hf
        have : w = w' := nodup_inj hn (hW w w1) w1' (w2.trans w2'.symm)
        rw [hf] at h2
        rw [← w3, this, w3']
        exact h2
  · cases hc2
/-- What is left of a least circle has none. -/
theorem rest_ok {l : List RT} {d : Nat} (hmin : ∀ i r, i < l.length → dst l.length (Eg l) i i i = some r → d ≤ r) {ks : List Nat} (hks : ∀ k ∈ ks, k < l.length) (hnd : ks.Nodup) (hlen : ks.length < d) : (orderB (some_of l ks)).2 ≠ 11 := by
  intro h
  obtain ⟨_, h2⟩ := order_11 h
  have hl : (some_of l ks).length = ks.length := by simp [some_of]
  obtain ⟨P, ⟨p0, hp0⟩, hP⟩ := stuck_set h2
  obtain ⟨i, q, h3, h4, h5⟩ := part_circle (n := l.length) (E := Eg l) ks (fun a => ∃ p, P p ∧ a = ks.getD p default) (fun a ha => by
    obtain ⟨p, p1, rfl⟩ := ha
    have := getD_mem (l := ks) (i := p) (by have := (hP p p1).1; omega)
    exact ⟨hks _ this, this⟩) ⟨_, p0, hp0, rfl⟩ (fun a ha => by
    obtain ⟨p, p1, rfl⟩ := ha
    obtain ⟨p2, q, q1, q2⟩ := hP p p1
    have hq := (hP q q1).1
    refine ⟨_, ⟨q, q1, rfl⟩, ?_⟩
    obtain ⟨e1, e2⟩ := Eg_iff.1 q2
    rw [some_get (by omega), some_get (by omega)] at e2
    exact Eg_iff.2 ⟨fun e => e1 (nodup_get hnd (by omega) (by omega) e), e2⟩)
  have := hmin i q h3 h4
  omega
end Go.Proofs.Ytofkaccoofafmaa.Wk
