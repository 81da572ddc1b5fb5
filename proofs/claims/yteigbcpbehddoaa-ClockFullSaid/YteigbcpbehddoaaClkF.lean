/- The law of the clock: ClockFull. -/
import Derived.Test.YteigbcpbehddoaaClkA
import Derived.Test.YteigbcpbehddoaaCnY
set_option linter.unusedVariables false
set_option linter.unusedSimpArgs false
set_option linter.unusedSectionVars false
namespace Go.Proofs.Yteigbcpbehddoaa.Wk
open Go Go.Cn

theorem wf_u16 {n : Int} (h : (Lit.int .u16 n).wf = true) : 0 ≤ n ∧ n < 65536 := by
  simp [Lit.wf, IntKind.min, IntKind.max, IntKind.signed, IntKind.bits] at h
  omega
theorem mset_len_new : ∀ {m : Mp} {k : Nm} {v : Int}, mget m k = none → (mset m k v).length = m.length + 1
  | [], _, _, _ => rfl
  | (a, b) :: r, k, v, h => by
    simp only [mget] at h
    split at h
    · cases h
    · rename_i hne
      simp only [mset, if_neg hne, List.length_cons, mset_len_new h]
theorem mdel_len_of : ∀ {m : Mp} {k : Nm} {v : Int}, mget m k = some v → (mdel m k).length + 1 = m.length
  | [], _, _, h => by simp [mget] at h
  | (a, b) :: r, k, v, h => by
    simp only [mget] at h
    split at h
    · rename_i he; simp only [mdel, if_pos he, List.length_cons]
    · rename_i hne
      simp only [mdel, if_neg hne, List.length_cons]
      rw [mdel_len_of h]
theorem set_many {now : Int} {at_ : Mp} {wheel : Wh} {n : Nm} {after : Int} (h0 : 0 ≤ now ∧ now ≤ 2147483647) (ha : 0 < after) (hb : after ≤ 2147483647 - now) (h3 : mget at_ n = none) (h4 : at_.length = 1024) :
    clock_Clock_Set now at_ wheel n after = some (5, now, wheel, at_) := by
  have e1 : IntKind.wrap .u32 (2147483647 - now) = 2147483647 - now := wu32' (by omega) (by omega)
  unfold clock_Clock_Set
  rw [until_eq]
  simp only [Option.bind_some, clock_Clock_ok, e1]
  rw [if_neg (by simp; omega), if_neg (by simp; omega), h3]
  simp [h4]

def nmj (j : Nat) : Nm := T_clock_Name.mk 0 (T_api_Tx.mk 0 0 (j : Int))
theorem nmj_inj {i j : Nat} (h : nmj i = nmj j) : i = j := by
  simp only [nmj, T_clock_Name.mk.injEq, T_api_Tx.mk.injEq, true_and] at h
  omega

theorem tail_eq (n : T_parrelref09_Name) : ((clock_Clock_Tick_2).bind fun a =>
    (clock_Clock_Next).bind fun _ => (parrellaw09_theirs n).bind fun b => (clock_Clock_Until_2 b).bind fun _ => (parrellaw09_theirs n).bind fun c => (clock_Clock_Set_2 c 1).bind fun _ => (parrellaw09_theirs n).bind fun d => (clock_Clock_Stop_2 d).bind fun _ =>
    if ((((a).length : Int) != 0) : Bool) then some false else
    (clock_Clock_Now_2).bind fun _ => (clock_Clock_Len_2).bind fun _ =>
    (clock_Clock_Tick_3 0 (fun _ => none)).bind fun e => (clock_Clock_Next_2 0 (fun _ => none)).bind fun _ => (parrellaw09_theirs n).bind fun f => (clock_Clock_Until_3 0 (fun _ => none) f).bind fun _ =>
    (parrellaw09_theirs n).bind fun g => (clock_Clock_Set_3 0 (fun _ => none) g 1).bind fun _ => (parrellaw09_theirs n).bind fun h => (clock_Clock_Stop_3 0 (fun _ => none) h).bind fun _ =>
    if ((((e).length : Int) != 0) : Bool) then some false else
    (clock_Clock_Now_3 0 (fun _ => none)).bind fun _ => (clock_Clock_Len_3 0 (fun _ => none)).bind fun _ => (parrellaw09_alive).bind fun x => some x) = some true := by
  rw [alive_eq]
  rfl

theorem full_loop (n : T_parrelref09_Name) {many : Int} {k : Nat} (hk : Int.tmod (IntKind.wrap .i64 many) 1100 = (k : Int)) (hkb : k < 1100) : ∀ (fuel i : Nat) (w : Wh) (m : Mp), k - i < fuel → i ≤ k → Cor m w → m.length = min i 1024 →
    (∀ x, (mget m x).isSome = true ↔ ∃ j, 1 ≤ j ∧ j ≤ min i 1024 ∧ x = nmj j) → parrellaw09_ClockFull_l0 many n fuel (i : Int) 0 w m = some true
  | 0, i, w, m, h, _, _, _, _ => by omega
  | fuel + 1, i, w, m, h, hi, hc, hl, hm => by
    rw [parrellaw09_ClockFull_l0, hk]
    by_cases hlt : i < k
    · rw [if_pos (by simp only [decide_eq_true_eq]; omega)]
      have e1 : IntKind.wrap .u32 (IntKind.wrap .u32 (i : Int) + 1) = ((i + 1 : Nat) : Int) := by
        rw [wu32' (by omega) (by omega : (i : Int) < 4294967296), wu32' (by omega) (by omega)]; omega
      have e2 : IntKind.wrap .i64 ((i : Int) + 1) = ((i + 1 : Nat) : Int) := by rw [w64 (by omega) (by omega)]; omega
      rw [e1, e2]
      have hnone : mget m (nmj (i + 1)) = none := by
        cases hg : mget m (nmj (i + 1)) with
        | none => rfl
        | some v =>
          obtain ⟨j, h1, h2, h3⟩ := (hm (nmj (i + 1))).1 (by rw [hg]; rfl)
          have := nmj_inj h3
          omega
      change (clock_Clock_Set 0 m w (nmj (i + 1)) 5).bind _ = some true
      by_cases hb : i < 1024
      · obtain ⟨w', g1, g2⟩ := set_ok (now := 0) (n := nmj (i + 1)) (after := 5) hc (by omega) (by omega) (by omega) (.inr (by omega))
        rw [g1]
        rw [mdel_none hnone] at g2 ⊢
        simp only [Option.bind_some]
        rw [if_neg (by simp; omega), if_neg (by simp)]
        refine full_loop n hk hkb fuel (i + 1) w' _ (by omega) (by omega) g2 (by rw [mset_len_new hnone]; omega) fun x => ?_
        rw [mset_get]
        by_cases hx : x = nmj (i + 1)
        · subst hx
          simp only [if_true, Option.isSome_some, true_iff]
          exact ⟨i + 1, by omega, by omega, rfl⟩
        · rw [if_neg hx, hm]
          constructor
          · rintro ⟨j, h1, h2, h3⟩; exact ⟨j, h1, by omega, h3⟩
          · rintro ⟨j, h1, h2, h3⟩
            refine ⟨j, h1, ?_, h3⟩
            rcases Nat.lt_or_ge j (i + 1) with h | h
            · omega
            · have : j = i + 1 := by omega
              subst this; exact absurd h3 hx
      · rw [set_many (now := 0) (by omega) (by omega) (by omega) hnone (by omega)]
        simp only [Option.bind_some]
        rw [if_neg (by simp; omega), if_pos (by simp), if_neg (by simp)]
        refine full_loop n hk hkb fuel (i + 1) w m (by omega) (by omega) hc (by omega) fun x => ?_
        rw [hm, show min (i + 1) 1024 = min i 1024 by omega]
    · rw [if_neg (by simp only [decide_eq_true_eq]; omega)]
      have hik : i = k := by omega
      subst hik
      have hmin : (if 1024 < (i : Int) then (1024 : Int) else (i : Int)) = (m.length : Int) := by split <;> omega
      rw [hmin]
      by_cases h0 : 0 < i
      · rw [if_pos (by simp only [decide_eq_true_eq]; omega)]
        change (clock_Clock_Set 0 m w (nmj 1) 9).bind _ = some true
        have h1 := (hm (nmj 1)).2 ⟨1, by omega, by omega, rfl⟩
        obtain ⟨w', g1, g2⟩ := set_ok (now := 0) (n := nmj 1) (after := 9) hc (by omega) (by omega) (by omega) (.inl h1)
        rw [g1]
        simp only [Option.bind_some, len_eq]
        have hlen : (mset (mdel m (nmj 1)) (nmj 1) (0 + 9)).length = m.length := by
          cases hg : mget m (nmj 1) with
          | none => rw [hg] at h1; cases h1
          | some v =>
            rw [mset_len_new (by rw [mdel_get hc.uk, if_pos rfl])]
            exact mdel_len_of hg
        rw [if_neg (by simp), hlen, if_neg (by simp)]
        exact tail_eq n
      · rw [if_neg (by simp only [decide_eq_true_eq]; omega)]
        simp only [Option.bind_some, len_eq]
        rw [if_neg (by simp)]
        exact tail_eq n

theorem full_start (n : T_parrelref09_Name) {many : Int} {k : Nat} (hk : Int.tmod (IntKind.wrap .i64 many) 1100 = (k : Int)) (hkb : k < 1100) {w : Wh} (hc : Cor [] w) (fuel : Nat) (hf : k < fuel) : parrellaw09_ClockFull_l0 many n fuel 0 0 w [] = some true := by
  have := full_loop n hk hkb fuel 0 w [] (by omega) (by omega) hc (by simp) (fun x => by
    simp only [mget, Option.isSome_none, Bool.false_eq_true, false_iff]
    rintro ⟨j, h1, h2, _⟩
    omega)
  simpa only [Int.natCast_zero] using this
theorem full_law (many : Int) (n : T_parrelref09_Name) (h1 : (Lit.int .u16 many).wf = true) (_ : wfL (c_T_parrelref09_Name n)) : parrellaw09_ClockFull many n = some true := by
  have hA : 0 ≤ many ∧ many < 65536 := wf_u16 h1
  obtain ⟨w0, g0, c0⟩ := new_eq
  unfold parrellaw09_ClockFull
  rw [g0]
  simp only [Option.bind_some]
  have e1 : IntKind.wrap .i64 many = many := w64 (by omega) (by omega)
  have h3 : 0 ≤ Int.tmod many 1100 := Int.tmod_nonneg _ hA.1
  have h4 : Int.tmod many 1100 < 1100 := Int.tmod_lt_of_pos _ (by decide)
  exact full_start n (k := (Int.tmod many 1100).toNat) (by rw [e1]; omega) (by omega) c0 big (big_lt (by omega))
end Go.Proofs.Yteigbcpbehddoaa.Wk
