/- The law of the clock: ClockRings. -/
import Derived.Test.YteigbcpbehddoaaClkA
import Derived.Test.YteigbcpbehddoaaCnY
set_option linter.unusedVariables false
set_option linter.unusedSimpArgs false
set_option linter.unusedSectionVars false
namespace Go.Proofs.Yteigbcpbehddoaa.Wk
open Go Go.Cn

theorem mset_len (m : Mp) (k : Nm) (v : Int) : (mset m k v).length ≤ m.length + 1 := by
  induction m with
  | nil => simp [mset]
  | cons e r ih =>
    simp only [mset]
    split
    · simp
    · simp only [List.length_cons]; omega
theorem mdel_len (m : Mp) (k : Nm) : (mdel m k).length ≤ m.length := (mdel_sub m k).length_le
theorem fold_len : ∀ (y : List Nm) (m : Mp), (y.foldl mdel m).length ≤ m.length
  | [], m => Nat.le_refl _
  | a :: y, m => Nat.le_trans (fold_len y (mdel m a)) (mdel_len m a)

/-- A set, whatever comes of it. -/
theorem set_any {now : Int} {at_ : Mp} {wheel : Wh} (hc : Cor at_ wheel) (n : Nm) {after : Int} (h0 : 0 ≤ now ∧ now ≤ 2147483647) (ha : 0 ≤ after) :
    ∃ e w' m', clock_Clock_Set now at_ wheel n after = some (e, now, w', m') ∧ Cor m' w' ∧ m'.length ≤ at_.length + 1 := by
  by_cases hno : after = 0 ∨ 2147483647 - now < after ∨ ((mget at_ n) = none ∧ at_.length = 1024)
  · obtain ⟨e, _, k⟩ := set_no (now := now) (wheel := wheel) h0 ha hno
    exact ⟨e, _, _, k, hc, by omega⟩
  · obtain ⟨w2, k, c2⟩ := set_ok (now := now) (n := n) (after := after) hc h0 (by omega) (by omega) (by
      by_cases h : mget at_ n = none
      · right; intro hl; exact hno (.inr (.inr ⟨h, hl⟩))
      · left; cases hg : mget at_ n with
        | none => exact absurd hg h
        | some v => rfl)
    refine ⟨0, w2, _, k, c2, ?_⟩
    have := mset_len (mdel at_ n) n (now + after)
    have := mdel_len at_ n
    omega

def fin2 (after t : Int) (k : Option Bool) (rang : Int) : Option Bool :=
  if rang = 0 then (if t = after then some false else k) else if t = after then (if rang = 1 then k else some false) else some false
theorem l2_eq (x : T_parrelref09_Name) {after t : Int} (hA : IntKind.wrap .i64 after = after) (L : List Nm) (nw : Int) (w : Wh) (m : Mp) (k1 : Int → Int → Wh → Mp → Option Bool) (hL : L.length < 4611686018427387904) :
    ∀ (fuel k c : Nat), L.length - k < fuel → k ≤ L.length → c ≤ k → parrellaw09_ClockRings_l2 x after t (L, 0, nw, w, m) k1 fuel (c : Int) (k : Int) = fin2 after t (k1 (IntKind.wrap .i64 (t + 1)) nw w m) ((c + (L.drop k).count (T_clock_Name.mk x.f_Kind x.f_Tx) : Nat) : Int)
  | 0, k, c, h, _, _ => by omega
  | fuel + 1, k, c, h, hk, hc => by
    rw [parrellaw09_ClockRings_l2]
    by_cases hlt : k < L.length
    · rw [if_pos (by simp only [decide_eq_true_eq]; omega), if_pos (by simp only; omega)]
      simp only [parrellaw09_theirs, Option.bind_some, Int.toNat_natCast]
      rw [getD_drop L k default hlt]
      by_cases he : L.getD k default = T_clock_Name.mk x.f_Kind x.f_Tx
      · rw [List.count_cons, if_pos (beq_iff_eq.2 he), if_pos (by simpa using he), w64 (by omega) (by omega), w64 (by omega) (by omega)]
        have := l2_eq x hA L nw w m k1 hL (t := t) fuel (k + 1) (c + 1) (by omega) (by omega) (by omega)
        rw [show ((k : Int) + 1) = ((k + 1 : Nat) : Int) by omega, show ((c : Int) + 1) = ((c + 1 : Nat) : Int) by omega, this]
        congr 2
        omega
      · rw [if_neg (by simpa using he), w64 (by omega) (by omega)]
        have := l2_eq x hA L nw w m k1 hL (t := t) fuel (k + 1) c (by omega) (by omega) (by omega)
        rw [show ((k : Int) + 1) = ((k + 1 : Nat) : Int) by omega, this, List.count_cons, if_neg (fun hb => he (beq_iff_eq.1 hb))]
        simp only [Nat.add_zero]
    · rw [if_neg (by simp only [decide_eq_true_eq]; omega)]
      have : k = L.length := by omega
      subst this
      rw [List.drop_length]
      simp only [List.count_nil, Nat.add_zero, hA, fin2]
      by_cases h1 : (c : Int) = 0 <;> by_cases h2 : t = after <;> by_cases h3 : (c : Int) = 1 <;> simp_all

theorem l1r_eq (x : T_parrelref09_Name) {after : Int} (hA : 0 ≤ after ∧ after < 256) {now0 : Int} (h0 : 0 ≤ now0 ∧ now0 ≤ 200) : ∀ (fuel i : Nat) (w : Wh) (m : Mp), (after + 5).toNat - i < fuel → (i : Int) ≤ after + 5 → Cor m w → m.length ≤ 200 →
    (mget m (T_clock_Name.mk x.f_Kind x.f_Tx) = if (i : Int) ≤ after then some (now0 + after + 1) else none) → parrellaw09_ClockRings_l1 x after fuel (i : Int) (now0 + i) w m = some true
  | 0, i, w, m, h, _, _, _, _ => by omega
  | fuel + 1, i, w, m, h, hi, hc, hl, hg => by
    have e1 : IntKind.wrap .i64 after = after := w64 (by omega) (by omega)
    rw [parrellaw09_ClockRings_l1, e1, w64 (by omega) (by omega)]
    by_cases hlt : (i : Int) < after + 5
    · rw [if_pos (by simpa using hlt)]
      obtain ⟨L, w', m', k1, k2, k3, k4, k5, k6, k7⟩ := tick_eq (now := now0 + i) hc (by omega) (by omega)
      have hLs : L.length ≤ m.length := by
        have hs : ∀ z ∈ L, z ∈ m.map (·.1) := fun z hz => List.mem_map.2 ⟨_, mget_mem ((k3 z).1 hz), rfl⟩
        have := sub_len k4 hs
        simpa using this
      rw [k1]
      simp only [Option.bind_some]
      have := l2_eq x e1 L (now0 + i + 1) w' m' (parrellaw09_ClockRings_l1 x after fuel) (by omega) (t := (i : Int)) big 0 0 (big_lt (by omega)) (by omega) (by omega)
      simp only [Int.natCast_zero] at this
      rw [this, List.drop_zero, w64 (by omega) (by omega)]
      have hrec : parrellaw09_ClockRings_l1 x after fuel ((i : Int) + 1) (now0 + i + 1) w' m' = some true := by
        have := l1r_eq x hA h0 fuel (i + 1) w' m' (by omega) (by omega) k2 (by rw [k6]; exact Nat.le_trans (fold_len L m) hl) (by
          rw [k7, hg]
          by_cases h1 : (i : Int) ≤ after
          · rw [if_pos h1]
            by_cases h2 : (i : Int) = after
            · rw [if_pos (by rw [h2]), if_neg (by omega)]
            · rw [if_neg (by simp only [Option.some.injEq]; omega), if_pos (by omega)]
          · rw [if_neg h1, if_neg (by simp), if_neg (by omega)])
        rw [show now0 + ((i + 1 : Nat) : Int) = now0 + i + 1 by omega, show ((i + 1 : Nat) : Int) = (i : Int) + 1 by omega] at this
        exact this
      rw [hrec]
      have hcnt : L.count (T_clock_Name.mk x.f_Kind x.f_Tx) = if (i : Int) = after then 1 else 0 := by
        by_cases h2 : (i : Int) = after
        · rw [if_pos h2]
          have hm : T_clock_Name.mk x.f_Kind x.f_Tx ∈ L := (k3 _).2 (by rw [hg, if_pos (by omega), ← h2])
          have h3 := List.nodup_iff_count.1 k4 (T_clock_Name.mk x.f_Kind x.f_Tx)
          have h4 := List.count_pos_iff.2 hm
          omega
        · rw [if_neg h2]
          refine List.count_eq_zero.2 fun hm => ?_
          have := (k3 _).1 hm
          rw [hg] at this
          split at this
          · simp only [Option.some.injEq] at this; omega
          · cases this
      rw [hcnt]
      by_cases h2 : (i : Int) = after
      · simp [fin2, h2]
      · simp [fin2, h2]
    · rw [if_neg (by simpa using hlt)]
      have hg' : mget m (T_clock_Name.mk x.f_Kind x.f_Tx) = none := by rw [hg, if_neg (by omega)]
      simp only [parrellaw09_theirs, Option.bind_some, until_eq, alive_eq, hg']
      rfl

theorem l0r_eq (x : T_parrelref09_Name) {after : Int} (hA : 0 ≤ after ∧ after < 256) {y : List T_parrellaw09_Act} (hy : y.length ≤ 150) (hw : ∀ a ∈ y, 0 ≤ a.f_After) : ∀ (fuel k : Nat) (now : Int) (w : Wh) (m : Mp), y.length - k < fuel → k ≤ y.length → (0 ≤ now ∧ now ≤ k) → Cor m w → m.length ≤ k →
    parrellaw09_ClockRings_l0 x after y fuel (k : Int) now w m = some true
  | 0, k, now, w, m, h, _, _, _, _ => by omega
  | fuel + 1, k, now, w, m, h, hk, hn, hc, hl => by
    rw [parrellaw09_ClockRings_l0]
    by_cases hlt : k < y.length
    · rw [if_pos (by simp only [decide_eq_true_eq]; omega), if_pos (by omega)]
      rw [Int.toNat_natCast, w64 (by omega) (by omega)]
      rw [show ((k : Int) + 1) = ((k + 1 : Nat) : Int) by omega]
      split
      · obtain ⟨L, w', m', k1, k2, k3, k4, k5, k6, k7⟩ := tick_eq (now := now) hc (by omega) (by omega)
        rw [k1]
        exact l0r_eq x hA hy hw fuel (k + 1) (now + 1) w' m' (by omega) (by omega) (by omega) k2 (by have := fold_len L m; rw [k6]; omega)
      · simp only [parrellaw09_theirs, Option.bind_some]
        have hin : y.getD k default ∈ y := by rw [List.getD_eq_getElem?_getD, List.getElem?_eq_getElem hlt]; exact List.getElem_mem hlt
        obtain ⟨e, w', m', k1, k2, k3⟩ := set_any (now := now) hc (T_clock_Name.mk (y.getD k default).f_Name.f_Kind (y.getD k default).f_Name.f_Tx) (by omega) (hw _ hin)
        rw [k1]
        exact l0r_eq x hA hy hw fuel (k + 1) now w' m' (by omega) (by omega) (by omega) k2 (by omega)
    · rw [if_neg (by simp only [decide_eq_true_eq]; omega)]
      have e1 : IntKind.wrap .u32 after = after := wu32' (by omega) (by omega)
      have e2 : IntKind.wrap .u32 (after + 1) = after + 1 := wu32' (by omega) (by omega)
      have e3 : IntKind.wrap .u32 (now + after) = now + after := wu32' (by omega) (by omega)
      have e4 : IntKind.wrap .u32 (now + after + 1) = now + after + 1 := wu32' (by omega) (by omega)
      simp only [len_eq, Option.bind_some, parrellaw09_theirs, e1, e2]
      rw [if_neg (by simp only [decide_eq_true_eq]; omega)]
      obtain ⟨w', k1, k2⟩ := set_ok (now := now) (n := T_clock_Name.mk x.f_Kind x.f_Tx) (after := after + 1) hc (by omega) (by omega) (by omega) (.inr (by omega))
      have hg : mget (mset (mdel m (T_clock_Name.mk x.f_Kind x.f_Tx)) (T_clock_Name.mk x.f_Kind x.f_Tx) (now + (after + 1))) (T_clock_Name.mk x.f_Kind x.f_Tx) = some (now + after + 1) := by rw [mset_get, if_pos rfl]; congr 1; omega
      rw [k1]
      simp only [Option.bind_some, until_eq, now_eq, hg, e3, e4]
      rw [if_neg (by simp), if_neg (by simp), if_neg (by simp)]
      have := l1r_eq x hA (now0 := now) (by omega) big 0 w' _ (big_lt (by omega)) (by omega) k2 (by
        have h1 := mset_len (mdel m (T_clock_Name.mk x.f_Kind x.f_Tx)) (T_clock_Name.mk x.f_Kind x.f_Tx) (now + (after + 1))
        have h2 := mdel_len m (T_clock_Name.mk x.f_Kind x.f_Tx)
        omega) (by rw [hg, if_pos (by omega)])
      simp only [Int.natCast_zero, Int.add_zero] at this
      exact this

theorem l0r_start (x : T_parrelref09_Name) {after : Int} (hA : 0 ≤ after ∧ after < 256) {y : List T_parrellaw09_Act} (hy : y.length ≤ 150) (hw : ∀ a ∈ y, 0 ≤ a.f_After) {w : Wh} (hc : Cor [] w) (fuel : Nat) (hf : y.length < fuel) : parrellaw09_ClockRings_l0 x after y fuel 0 0 w [] = some true := by
  have := l0r_eq x hA hy hw fuel 0 0 w [] (by omega) (by omega) (by omega) hc (by simp)
  simpa only [Int.natCast_zero] using this
theorem rings_law (l : List T_parrellaw09_Act) (n : T_parrelref09_Name) (after : Int) (h1 : (∀ a ∈ l, wfL (c_T_parrellaw09_Act a)) ∧ l.length * 24 ≤ 140737488351232) (_ : wfL (c_T_parrelref09_Name n)) (h3 : (Lit.int .u8 after).wf = true) : parrellaw09_ClockRings l n after = some true := by
  have hA : 0 ≤ after ∧ after < 256 := wf_u8 h3
  obtain ⟨w0, g0, c0⟩ := new_eq
  unfold parrellaw09_ClockRings parrellaw09_short
  rw [g0]
  simp only [Option.bind_some]
  rw [if_pos (by split <;> omega)]
  simp only [Option.bind_some]
  generalize hy : l.take _ = y
  have hy1 : y.length ≤ 150 := by rw [← hy, List.length_take]; split <;> omega
  have hy2 : ∀ a ∈ y, 0 ≤ a.f_After := fun a ha => (wf_u32 (h1.1 a (by rw [← hy] at ha; exact List.mem_of_mem_take ha) (.int .u32 a.f_After) (by simp [c_T_parrellaw09_Act]))).1
  exact l0r_start n hA hy1 hy2 c0 big (big_lt (by omega))
end Go.Proofs.Yteigbcpbehddoaa.Wk
