/- Plain facts: ScriptMany. -/
import Derived.Test.YtdchgoaokceomaaDoorManW
import Derived.Test.YtdchgoaokceomaaDoorCnX
set_option linter.unusedVariables false
set_option linter.unusedSimpArgs false
set_option linter.unusedSectionVars false
namespace Go.Proofs.YtdchgoaokceomaaDoor.Wk
open Go Go.Cn
set_option maxRecDepth 10000
def TL : List UInt8 := [116, 105, 99, 107, 32, 48, 10]
/-- The line, some times. -/
def rp : Nat → List UInt8
  | 0 => []
  | n + 1 => TL ++ rp n
theorem rp_len : ∀ n, (rp n).length = 7 * n
  | 0 => rfl
  | n + 1 => by rw [rp, List.length_append, rp_len n]; show 7 + _ = _; omega
theorem rp_app : ∀ n, rp n ++ TL = rp (n + 1)
  | 0 => rfl
  | n + 1 => by
    show (TL ++ rp n) ++ TL = TL ++ rp (n + 1)
    rw [List.append_assoc, rp_app n]
def zC : T_node_Call := T_node_Call.mk (T_sess_Call.mk 0 0) 0 (T_api_Tx.mk 0 0 0) (A8.mk 0 0 0 0 0 0 0 0) [] 0 0 []
def S0 : T_script_Step := ⟨6, 0, 0, 0, false, zC, 0, []⟩
theorem p0 : script_Parse [116, 105, 99, 107, 32, 48] = some (S0, 0) := by kernel_rfl
theorem alive_eq : parrellaw27_alive = some true := by kernel_rfl
theorem cut_eq (r : List UInt8) (h : r.length < 1000000) : strings_Cut (TL ++ r) = some ([116, 105, 99, 107, 32, 48], r, true) := by
  have e : internal_stringslite_Index (TL ++ r) = some 6 := by
    unfold internal_stringslite_Index
    rw [if_neg (by simp [TL])]
    unfold internal_stringslite_IndexByte
    have : Lib.indexByte (TL ++ r) ((10 : Int)).toNat.toUInt8 = 6 := rfl
    rw [this]; rfl
  have hl : (TL ++ r).length = r.length + 7 := by simp [TL]
  unfold strings_Cut internal_stringslite_Cut
  rw [e, Option.bind_some, if_pos (by decide), if_pos (by omega), w64 (by omega) (by omega), if_pos (by omega)]
  have d : ((TL ++ r).drop ((6 : Int) + 1).toNat).take ((TL ++ r).length - ((6 : Int) + 1).toNat) = r := by
    have : (TL ++ r).drop ((6 : Int) + 1).toNat = r := rfl
    rw [this, List.take_of_length_le (by rw [hl]; show r.length ≤ r.length + 7 - 7; omega)]
  rw [d]; rfl
theorem all_loop : ∀ (k fuel m : Nat), k < fuel → m ≤ 4096 → k < 100000 →
    script_All_l0 fuel (rp k) (List.replicate m S0) = if m + k ≤ 4096 then some (List.replicate (m + k) S0, ⟨0, 0⟩) else some ([], ⟨5, 4096⟩)
  | _, 0, _, h, _, _ => by omega
  | 0, fuel + 1, m, h, hm, _ => by
    rw [script_All_l0, if_neg (by simp [rp]), if_pos (by omega)]; rfl
  | k + 1, fuel + 1, m, h, hm, hk => by
    rw [script_All_l0, if_pos (by simp [rp, TL])]
    by_cases h4 : m = 4096
    · rw [if_pos (by rw [beq_iff_eq, List.length_replicate, h4]; rfl), if_neg (by omega), List.length_replicate, h4]; rfl
    · rw [if_neg (by rw [beq_iff_eq, List.length_replicate]; omega)]
      have hl := rp_len k
      rw [rp, cut_eq (rp k) (by omega), Option.bind_some]
      dsimp only
      rw [p0, Option.bind_some]
      dsimp only
      rw [if_pos (by decide), if_neg (by decide), if_neg (by decide), if_pos (by simp; omega)]
      have : List.replicate m S0 ++ [S0] = List.replicate (m + 1) S0 := by rw [List.replicate_succ']
      rw [this, all_loop k fuel (m + 1) (by omega) (by omega) (by omega)]
      rw [show m + 1 + k = m + (k + 1) from by omega]
theorem all_eq (n : Nat) (h : n < 100000) : script_All (rp n) = if n ≤ 4096 then some (List.replicate n S0, ⟨0, 0⟩) else some ([], ⟨5, 4096⟩) := by
  have := all_loop n big 0 (by have := big_lt (n := 1000000) (by omega); omega) (by omega) h
  rw [Nat.zero_add] at this
  exact this
/-! A line of zeros -/
theorem ix_loop (L : List (List UInt8)) (w : List UInt8) (hL : L.length < 1000) : ∀ (fuel i : Nat), L.length < fuel + i → i ≤ L.length →
    ∃ k : Int, slices_Index_string_string_l0 L w fuel (i : Int) = some k ∧ (k = -1 ∨ (0 ≤ k ∧ k < L.length ∧ L.getD k.toNat default = w))
  | 0, i, h, hi => by omega
  | fuel + 1, i, h, hi => by
    rw [slices_Index_string_string_l0]
    by_cases hlt : i < L.length
    · rw [if_pos (by rw [decide_eq_true_eq]; omega), if_pos (by omega), Int.toNat_natCast]
      by_cases hw : w = L.getD i default
      · exact ⟨i, by rw [if_pos (by rw [beq_iff_eq]; exact hw)], .inr ⟨by omega, by omega, by rw [Int.toNat_natCast, ← hw]⟩⟩
      · rw [if_neg (by rw [beq_iff_eq]; exact hw), w64 (by omega) (by omega)]
        exact ix_loop L w hL fuel (i + 1) (by omega) (by omega)
    · exact ⟨-1, by rw [if_neg (by rw [decide_eq_true_eq]; omega)], .inl rfl⟩
def VL : List (List UInt8) := [[], [100, 111], [100, 101, 108, 105, 118, 101, 114], [100, 114, 111, 112], [116, 119, 105, 99, 101], [108, 97, 116, 101], [116, 105, 99, 107], [99, 114, 97, 115, 104], [115, 116, 97, 114, 116], [97, 114, 109], [105, 110, 106, 101, 99, 116]]
theorem word_cons (w : List UInt8) (l : List (List UInt8)) (b : Bool) : script_reader_word ⟨w :: l, b⟩ = some (w, l, b) := by
  unfold script_reader_word
  rw [if_neg (by rw [beq_iff_eq, List.length_cons]; omega), if_pos (by simp only [List.length_cons]; omega), if_pos (by simp only [List.length_cons]; omega)]; simp
theorem of_zero (n : Nat) : script_reader_of ⟨[List.replicate n 0], false⟩ VL = some (0, [], true) := by
  obtain ⟨k, e2, h4⟩ := ix_loop VL (List.replicate n 0) (by decide) big 0 (by have := big_lt (n := 100000) (by omega); show 11 < _; omega) (by omega)
  have e2 : slices_Index_string_string VL (List.replicate n 0) = some k := e2
  have hk : k < 1 := by
    rcases h4 with h | ⟨h1, h2, h3⟩
    · omega
    · rcases Int.lt_or_le k 1 with h | h
      · exact h
      · exfalso
        have hn : ∀ j : Nat, 1 ≤ j → j < 11 → ∃ a r, VL.getD j default = a :: r ∧ a ≠ 0 := by
          intro j a b
          have : j = 1 ∨ j = 2 ∨ j = 3 ∨ j = 4 ∨ j = 5 ∨ j = 6 ∨ j = 7 ∨ j = 8 ∨ j = 9 ∨ j = 10 := by omega
          rcases this with rfl | rfl | rfl | rfl | rfl | rfl | rfl | rfl | rfl | rfl <;> exact ⟨_, _, rfl, by decide⟩
        have h2 : k < 11 := h2
        obtain ⟨a, r, e, hz⟩ := hn k.toNat (by omega) (by omega)
        rw [e] at h3
        have : a ∈ List.replicate n (0 : UInt8) := by rw [← h3]; exact List.mem_cons_self ..
        exact hz (List.mem_replicate.1 this).2
  unfold script_reader_of; rw [word_cons, Option.bind_some, e2, Option.bind_some, if_pos (by simpa using hk)]
theorem num_nil : script_reader_num ⟨[], true⟩ = some (0, [], true) := by kernel_rfl
theorem step_zero (n : Nat) : ∃ s, script_reader_step ⟨[List.replicate n 0], false⟩ = some (s, [], true) := by
  have e : script_reader_step ⟨[List.replicate n 0], false⟩ = (script_reader_of ⟨[List.replicate n 0], false⟩ VL).bind fun y4 =>
      if (((IntKind.wrap .u8 y4.1) == 2) : Bool) then
        (script_reader_num (T_script_reader.mk y4.2.1 y4.2.2)).bind fun y7 =>
        some ((T_script_Step.mk (IntKind.wrap .u8 y4.1) 0 y7.1 0 false (T_node_Call.mk (T_sess_Call.mk 0 0) 0 (T_api_Tx.mk 0 0 0) (A8.mk 0 0 0 0 0 0 0 0) [] 0 0 ([] : List (Int))) 0 ([] : List (Int))), y7.2.1, y7.2.2)
      else
        if (((IntKind.wrap .u8 y4.1) == 3) : Bool) then
          script_reader_step_c7 ⟨[List.replicate n 0], false⟩ y4
        else
          script_reader_step_c5 ⟨[List.replicate n 0], false⟩ y4 := rfl
  rw [e, of_zero, Option.bind_some]
  have e2 : (script_reader_num ⟨[], true⟩).bind (fun m => some ((⟨0, m.1, 0, 0, false, zC, 0, []⟩ : T_script_Step), m.2.1, m.2.2)) = some (⟨0, 0, 0, 0, false, zC, 0, []⟩, [], true) := by rw [num_nil]; rfl
  exact ⟨_, e2⟩
theorem split_zero (s : List UInt8) (h : s.length < 1000000) (hc : s.count 32 = 0) : strings_Split s = some [s] := by
  unfold strings_Split strings_genSplit strings_Count
  have hcb : ((Lib.countByte s ((32 : Int)).toNat.toUInt8 : Nat) : Int) = 0 := by
    show ((s.count 32 : Nat) : Int) = 0
    rw [hc]; rfl
  simp only [Option.bind_some, hcb]
  have hm : (if (IntKind.wrap .i64 (((s).length : Int) + 1)) < (IntKind.wrap .i64 ((0 : Int) + 1)) then (IntKind.wrap .i64 (((s).length : Int) + 1)) else (IntKind.wrap .i64 ((0 : Int) + 1))) = 1 := by
    rw [w64 (x := (0 : Int) + 1) (by omega) (by omega), w64 (by omega) (by omega), if_neg (by omega)]; rfl
  rw [hm, if_pos (by omega)]
  have : strings_genSplit_l0 s 0 big s 0 (List.replicate (1 : Int).toNat []) = some [s] := by
    rw [show big = (big - 1) + 1 from by have := big_lt (n := 1) (by omega); omega, strings_genSplit_l0, hm]
    rw [if_neg (by decide), if_pos (by decide), if_pos (by decide), if_pos (by rfl), if_pos (by refine ⟨by decide, by decide, ?_⟩; rw [List.length_set]; decide)]; rfl
  rw [this]; rfl
theorem parse_zero (n : Nat) (h : n < 20000) : ∃ s, script_Parse (List.replicate n 0) = some (s, if 16384 < n then 5 else 3) := by
  unfold script_Parse
  by_cases h1 : 16384 < n
  · rw [if_pos (by rw [decide_eq_true_eq, List.length_replicate]; omega), if_pos h1]; exact ⟨_, rfl⟩
  · rw [if_neg (by rw [decide_eq_true_eq, List.length_replicate]; omega), if_neg h1]
    obtain ⟨s, e⟩ := step_zero n
    rw [split_zero _ (by rw [List.length_replicate]; omega) (List.count_eq_zero_of_not_mem (fun hh => by have := (List.mem_replicate.1 hh).2; exact absurd this (by decide))), Option.bind_some, e, Option.bind_some]
    exact ⟨_, rfl⟩
theorem strI_rep (n : Nat) : strI (List.replicate n 0) = List.replicate n 0 := by
  unfold strI; rw [List.map_replicate]; rfl
theorem strI_bytesI (b : List UInt8) : strI (bytesI b) = b := by
  induction b with
  | nil => rfl
  | cons x r ih =>
    show UInt8.ofNat _ :: strI (bytesI r) = _
    rw [ih, Int.toNat_natCast, UInt8.ofNat_toNat]
theorem bytesI_app (a b : List UInt8) : bytesI (a ++ b) = bytesI a ++ bytesI b := by simp [bytesI]
theorem c10_eq (size : Int) (h : 0 ≤ size ∧ size < 65536) : parrellaw27_ScriptMany_c10 size = some true := by
  obtain ⟨z, rfl⟩ := Int.eq_ofNat_of_zero_le h.1
  have e : Int.tmod (IntKind.wrap .i64 (z : Int)) 20000 = ((z % 20000 : Nat) : Int) := by rw [w64 (by omega) (by omega)]; rfl
  unfold parrellaw27_ScriptMany_c10
  rw [e, if_pos (by omega), if_pos (by simp), Int.toNat_natCast, strI_rep]
  obtain ⟨s, p⟩ := parse_zero (z % 20000) (by omega)
  rw [p, Option.bind_some, alive_eq]
  dsimp only
  by_cases h1 : 16384 < z % 20000
  · rw [if_pos h1, if_pos (by rw [List.length_replicate, beq_iff_eq]; rw [decide_eq_true (show (16384 : Int) < ((z % 20000 : Nat) : Int) by omega)]; rfl), if_pos (by decide)]; rfl
  · rw [if_neg h1, if_pos (by rw [List.length_replicate, beq_iff_eq]; rw [decide_eq_false (show ¬ (16384 : Int) < ((z % 20000 : Nat) : Int) by omega)]; rfl), if_pos (by decide)]; rfl
theorem end_eq (n : Nat) (hn : n < 5000) (many size : Int) (h : 0 ≤ size ∧ size < 65536) (e : Int.tmod (IntKind.wrap .i64 many) 5000 = (n : Int)) (fuel : Nat) :
    parrellaw27_ScriptMany_l0 many size (fuel + 1) (n : Int) (bytesI (rp n)) = some true := by
  rw [parrellaw27_ScriptMany_l0, e, if_neg (by simp), strI_bytesI, all_eq n (by omega)]
  by_cases h4 : n ≤ 4096
  · rw [if_pos h4, Option.bind_some]
    dsimp only
    rw [if_pos (by rw [decide_eq_true_eq]; omega), if_neg (by simp), if_neg (by simp), if_neg (by rw [decide_eq_true_eq]; omega), c10_eq size h]
  · rw [if_neg h4, Option.bind_some]
    dsimp only
    rw [if_neg (by rw [decide_eq_true_eq]; omega), if_pos (by rw [decide_eq_true_eq]; omega), if_neg (by simp), if_neg (by simp), c10_eq size h]
theorem many_loop (n : Nat) (hn : n < 5000) (many size : Int) (h : 0 ≤ size ∧ size < 65536) (e : Int.tmod (IntKind.wrap .i64 many) 5000 = (n : Int)) : ∀ (fuel i : Nat), n < fuel + i → i ≤ n →
    parrellaw27_ScriptMany_l0 many size fuel (i : Int) (bytesI (rp i)) = some true
  | 0, i, h1, h2 => by omega
  | fuel + 1, i, h1, h2 => by
    by_cases hi : i = n
    · subst hi; exact end_eq i hn many size h e fuel
    · have hl := rp_len i
      rw [parrellaw27_ScriptMany_l0, e, if_pos (by rw [decide_eq_true_eq]; omega), if_pos (by rw [show (bytesI (rp i)).length = (rp i).length from by simp [bytesI]]; show (_ + 7) * 1 ≤ _; omega), w64 (by omega) (by omega)]
      have := many_loop n hn many size h e fuel (i + 1) (by omega) (by omega)
      rw [← rp_app, bytesI_app] at this
      exact this
theorem many_law0 (many size : Int) (h1 : 0 ≤ many ∧ many < 65536) (h2 : 0 ≤ size ∧ size < 65536) : parrellaw27_ScriptMany many size = some true := by
  obtain ⟨z, rfl⟩ := Int.eq_ofNat_of_zero_le h1.1
  have e : Int.tmod (IntKind.wrap .i64 (z : Int)) 5000 = ((z % 5000 : Nat) : Int) := by rw [w64 (by omega) (by omega)]; rfl
  have hn : z % 5000 < 5000 := by omega
  unfold parrellaw27_ScriptMany
  rw [e]
  generalize hz : z % 5000 = n at *
  rw [if_pos (by rw [w64 (by omega) (by omega)]; omega)]
  by_cases h0 : 0 < n
  · rw [if_pos (by rw [decide_eq_true_eq]; omega), if_pos (by decide)]
    have := many_loop n hn (z : Int) size h2 (by rw [← hz]; exact (by rw [w64 (by omega) (by omega)]; rfl)) big 1 (by have := big_lt (n := 100000) (by omega); omega) (by omega)
    exact this
  · have : n = 0 := by omega
    subst this
    rw [if_neg (by decide), if_pos (by rfl)]
    have := all_eq 0 (by omega)
    rw [if_pos (by omega)] at this
    have : script_All (strI (List.replicate 0 0)) = some ([], ⟨0, 0⟩) := this
    rw [this, Option.bind_some]
    dsimp only
    rw [if_pos (by decide), if_neg (by decide), if_neg (by simp), if_neg (by decide), c10_eq size h2]
theorem wf_u16 {n : Int} (h : wfC (.int .u16 n)) : 0 ≤ n ∧ n < 65536 := by
  simp [wfC, Lit.wf, IntKind.min, IntKind.max, IntKind.signed, IntKind.bits] at h
  omega
theorem many_law (many size : Int) (h1 : wfC (.int .u16 many)) (h2 : wfC (.int .u16 size)) : parrellaw27_ScriptMany many size = some true := many_law0 many size (wf_u16 h1) (wf_u16 h2)
end Go.Proofs.YtdchgoaokceomaaDoor.Wk
