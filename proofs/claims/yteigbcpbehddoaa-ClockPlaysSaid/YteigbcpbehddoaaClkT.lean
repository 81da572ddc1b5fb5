/- Plain facts of the clock: Tick. -/
import Derived.Test.YteigbcpbehddoaaClkC
set_option linter.unusedVariables false
set_option linter.unusedSimpArgs false
set_option linter.unusedSectionVars false
namespace Go.Proofs.Yteigbcpbehddoaa.Wk
open Go Go.Cn

theorem sub_len {α : Type} [DecidableEq α] : ∀ {l m : List α}, l.Nodup → (∀ x ∈ l, x ∈ m) → l.length ≤ m.length
  | [], m, _, _ => Nat.zero_le _
  | a :: l, m, hn, h => by
    rw [List.nodup_cons] at hn
    have ha := h a List.mem_cons_self
    have := sub_len (l := l) (m := m.erase a) hn.2 (fun x hx => (List.mem_erase_of_ne (by rintro rfl; exact hn.1 hx)).2 (h x (List.mem_cons_of_mem _ hx)))
    rw [List.length_erase_of_mem ha] at this
    have hp : 0 < m.length := List.length_pos_of_mem ha
    simp only [List.length_cons]; omega

theorem fold_get {at_ : Mp} : ∀ (y : List Nm) {m : Mp}, Uk m → ∀ n, mget (y.foldl mdel m) n = if n ∈ y then none else mget m n
  | [], m, _, n => by simp
  | a :: y, m, hu, n => by
    rw [List.foldl_cons, fold_get (at_ := at_) y (mdel_uk hu a), mdel_get hu]
    by_cases h1 : n ∈ y
    · simp [h1]
    · by_cases h2 : n = a <;> simp [h1, h2]

theorem l1_congr (now : Int) (x : Mp) (wh : Wh) (y l l' : List Nm) (h : l.length = l'.length) : ∀ (fuel : Nat) (t nw : Int) (w : Wh) (m : Mp), clock_Clock_Tick_l1 now x wh l y fuel t nw w m = clock_Clock_Tick_l1 now x wh l' y fuel t nw w m
  | 0, _, _, _, _ => rfl
  | fuel + 1, t, nw, w, m => by
    rw [clock_Clock_Tick_l1, clock_Clock_Tick_l1, h]
    simp only [l1_congr now x wh y l l' h fuel]

theorem l1_eq (now : Int) (x : Mp) (wh : Wh) (y : List Nm) (hy : y.length < 4611686018427387904) (nw : Int) : ∀ (fuel k : Nat) (w : Wh) (m : Mp), y.length - k < fuel → k ≤ y.length → Cor m w →
    ∃ w', clock_Clock_Tick_l1 now x wh y y fuel (k : Int) nw w m = some (y, 0, nw, w', (y.drop k).foldl mdel m) ∧ Cor ((y.drop k).foldl mdel m) w'
  | 0, k, w, m, h, _, _ => by omega
  | fuel + 1, k, w, m, h, hk, hc => by
    rw [clock_Clock_Tick_l1]
    by_cases hlt : k < y.length
    · rw [if_pos (by simp only [decide_eq_true_eq]; omega), if_pos (by omega)]
      rw [getD_drop y k default hlt]
      obtain ⟨w1, g1, g2⟩ := stop_eq (now := nw) hc (y.getD k default)
      rw [Int.toNat_natCast, g1]
      simp only [Option.bind_some, List.foldl_cons]
      rw [w64 (by omega) (by omega)]
      exact l1_eq now x wh y hy nw fuel (k + 1) w1 _ (by omega) (by omega) g2
    · rw [if_neg (by simp only [decide_eq_true_eq]; omega)]
      have : k = y.length := by omega
      subst this
      rw [List.drop_length]
      exact ⟨w, rfl, hc⟩

/-- What rings at a time. -/
def ringL (t : Int) (es : Mp) : List Nm := (es.filter fun e => e.2 == t).map (·.1)

theorem l0_eq (now : Int) (x : Mp) (wh : Wh) (y4 : Int × Int) (y7 : Mp) {L0 : List Nm} {R : List Nm × Int × Int × Wh × Mp} (hb : L0.length ≤ 8796093021952) (ht : 0 ≤ Int.tmod y4.1 64 ∧ Int.tmod y4.1 64 < 64)
    (hR : clock_Clock_Tick_l1 now x wh L0 (sortL cfN L0) big 0 y4.1 (fun q_ => if q_ = (Int.tmod y4.1 64).toNat then some y7 else wh q_) x = some R) :
    ∀ (fuel : Nat) (l : List Nm) (rest : Mp), rest.length < fuel → (l ++ ringL y4.1 rest).Perm L0 → clock_Clock_Tick_l0 now x wh y4 y7 fuel l rest = some R
  | 0, l, rest, h, _ => by omega
  | fuel + 1, l, rest, h, hp => by
    rw [clock_Clock_Tick_l0]
    by_cases hr : rest = []
    · subst hr
      have hp' : l.Perm L0 := by simpa [ringL] using hp
      have hl := hp'.length_eq
      rw [if_pos (show ([] : Mp).isEmpty = true from rfl), if_pos ht, sortN (by omega)]
      simp only [Option.bind_some]
      rw [if_pos (by rw [sortL_len]), sortL_of_perm cfN_total hp', l1_congr now x wh _ l L0 hl]
      exact hR
    · rw [if_neg (by cases rest <;> simp at hr ⊢)]
      refine agree_eq hr fun i a hi => ?_
      have hpr := erase_perm hi
      have hlen : (rest.eraseIdx i).length < fuel := by
        have := hpr.length_eq
        simp only [List.length_cons] at this; omega
      have hring : (ringL y4.1 rest).Perm (ringL y4.1 (a :: rest.eraseIdx i)) := (hpr.filter _).map _
      by_cases ha : (a.2 == y4.1) = true
      · rw [if_pos ha]
        have e : ringL y4.1 (a :: rest.eraseIdx i) = a.1 :: ringL y4.1 (rest.eraseIdx i) := by simp [ringL, List.filter_cons, ha]
        rw [e] at hring
        have hp2 : ((l ++ [a.1]) ++ ringL y4.1 (rest.eraseIdx i)).Perm L0 := by
          rw [List.append_assoc]
          exact (List.Perm.append_left l hring.symm).trans hp
        rw [if_pos (by have := hp2.length_eq; simp only [List.length_append, List.length_cons, List.length_nil] at this ⊢; omega)]
        exact l0_eq now x wh y4 y7 hb ht hR fuel _ _ hlen hp2
      · rw [if_neg ha]
        have e : ringL y4.1 (a :: rest.eraseIdx i) = ringL y4.1 (rest.eraseIdx i) := by simp [ringL, List.filter_cons, ha]
        rw [e] at hring
        exact l0_eq now x wh y4 y7 hb ht hR fuel _ _ hlen ((List.Perm.append_left l hring.symm).trans hp)

/-- Time goes on by one: what is of that time rings, in order, and is gone. -/
theorem tick_eq {now : Int} {at_ : Mp} {wheel : Wh} (hc : Cor at_ wheel) (h0 : 0 ≤ now ∧ now < 2147483647) (hl : at_.length ≤ 8796093021952) :
    ∃ L w' at', clock_Clock_Tick now at_ wheel = some (L, 0, now + 1, w', at') ∧ Cor at' w' ∧ (∀ n, n ∈ L ↔ mget at_ n = some (now + 1)) ∧ L.Nodup ∧ L.Pairwise (fun a b => cfN a b ≤ 0) ∧ at' = L.foldl mdel at_ ∧ ∀ n, mget at' n = if mget at_ n = some (now + 1) then none else mget at_ n := by
  have e2 : IntKind.wrap .u32 (now + 1) = now + 1 := wu32' (by omega) (by omega)
  have ht : 0 ≤ now + 1 := by omega
  obtain ⟨es, h1, h2, h3⟩ := hc.wh (Int.tmod (now + 1) 64).toNat (by have := tm64 ht; omega)
  have hsub : es.length ≤ at_.length := by
    have : ∀ k ∈ es.map (·.1), k ∈ at_.map (·.1) := by
      intro k hk
      obtain ⟨e, he, rfl⟩ := List.mem_map.1 hk
      have hg := (h3 e.1 e.2).1 (mem_mget h2 he)
      exact List.mem_map.2 ⟨_, mget_mem hg.1, rfl⟩
    have := sub_len h2 this
    simpa using this
  have hmem : ∀ n, n ∈ ringL (now + 1) es ↔ mget at_ n = some (now + 1) := by
    intro n
    simp only [ringL, List.mem_map, List.mem_filter, beq_iff_eq]
    constructor
    · rintro ⟨e, ⟨he, hv⟩, rfl⟩
      have := (h3 e.1 e.2).1 (mem_mget h2 he)
      rw [← hv]; exact this.1
    · intro h
      exact ⟨(n, now + 1), ⟨mget_mem ((h3 n (now + 1)).2 ⟨h, rfl⟩), rfl⟩, rfl⟩
  have hnd : (ringL (now + 1) es).Nodup := (List.Sublist.map _ List.filter_sublist).nodup h2
  have hlen : (ringL (now + 1) es).length ≤ es.length := by
    simp only [ringL, List.length_map]; exact List.length_filter_le _ _
  have hL := sortL_perm cfN (ringL (now + 1) es)
  have hLl := sortL_len cfN (ringL (now + 1) es)
  have hwe : (fun q_ => if q_ = (Int.tmod (now + 1) 64).toNat then some es else wheel q_) = wheel := by
    funext q
    split
    · rename_i e; rw [e, h1]
    · rfl
  obtain ⟨w', g1, g2⟩ := l1_eq now at_ wheel (sortL cfN (ringL (now + 1) es)) (by omega) (now + 1) big 0 wheel at_ (big_lt (by omega)) (by omega) hc
  rw [List.drop_zero] at g1 g2
  refine ⟨sortL cfN (ringL (now + 1) es), w', (sortL cfN (ringL (now + 1) es)).foldl mdel at_, ?_, g2, fun n => (hL.mem_iff).trans (hmem n), hL.nodup_iff.2 hnd, ?_, rfl, fun n => ?_⟩
  · unfold clock_Clock_Tick
    simp only [clock_Clock_ok, Option.bind_some, bits_Next]
    rw [if_neg (by simp; omega)]
    simp only [Option.bind_some, e2]
    rw [if_neg (by simp), if_pos (tm64 ht), h1]
    simp only [Option.bind_some, slot_eq es ht]
    refine l0_eq now at_ wheel (now + 1, 0) es (L0 := ringL (now + 1) es) (by omega) (tm64 ht) ?_ big [] es (big_lt (by omega)) (List.Perm.refl _)
    rw [hwe, l1_congr now at_ wheel _ (ringL (now + 1) es) (sortL cfN (ringL (now + 1) es)) hLl.symm]
    exact g1
  · refine (sortL_sorted cfN_total _).imp fun {a b} h => ?_
    simp only [Go.Proofs.ltOf, Bool.not_eq_true', decide_eq_false_iff_not] at h
    have an : cfN a b = - cfN b a := lex_anti _ _
    omega
  · rw [fold_get (at_ := at_) _ hc.uk]
    by_cases h : mget at_ n = some (now + 1)
    · rw [if_pos h, if_pos (hL.mem_iff.2 ((hmem n).2 h))]
    · rw [if_neg h, if_neg (fun hm => h ((hmem n).1 (hL.mem_iff.1 hm)))]
theorem tick_no {now : Int} {at_ : Mp} {wheel : Wh} (h : 2147483647 ≤ now) : clock_Clock_Tick now at_ wheel = some ([], 17, now, wheel, at_) := by
  unfold clock_Clock_Tick
  simp only [clock_Clock_ok, Option.bind_some, bits_Next]
  rw [if_pos (by simpa using h)]
  simp
end Go.Proofs.Yteigbcpbehddoaa.Wk
