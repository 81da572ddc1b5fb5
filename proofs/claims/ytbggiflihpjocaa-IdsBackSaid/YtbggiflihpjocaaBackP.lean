/- Plain facts: what is put is got. -/
import Derived.Test.YtbggiflihpjocaaBackW
import Derived.Test.YtbggiflihpjocaaCnX
namespace Go.Proofs.Ytbggiflihpjocaa.Wk
open Go Go.Cn

/-- A number in sevens. -/
def enc7 (n : Nat) : List Int := if h : n < 128 then [(n : Int)] else ((n % 128 + 128 : Nat) : Int) :: enc7 (n / 128)
termination_by n
decreasing_by omega

theorem enc7_lt {n : Nat} (h : n < 128) : enc7 n = [(n : Int)] := by rw [enc7, dif_pos h]
theorem enc7_ge {n : Nat} (h : ¬ n < 128) : enc7 n = ((n % 128 + 128 : Nat) : Int) :: enc7 (n / 128) := by rw [enc7, dif_neg h]

theorem or128 : ∀ v : BitVec 8, (v ||| 128#8).toNat = v.toNat % 128 + 128 := by decide +kernel
theorem andn128 : ∀ v : BitVec 8, (v &&& ~~~ 128#8).toNat = v.toNat % 128 := by decide +kernel

theorem byte_or (n : Nat) : IntKind.wrap .u8 ((BitVec.ofInt (IntKind.bits .u8) (IntKind.wrap .u8 (n : Int)) ||| BitVec.ofInt (IntKind.bits .u8) 128).toNat : Int) = ((n % 128 + 128 : Nat) : Int) := by
  have e1 : IntKind.wrap .u8 (n : Int) = ((n % 256 : Nat) : Int) := by
    simp only [IntKind.wrap, IntKind.bits, IntKind.signed, Bool.false_and, Bool.false_eq_true, if_false]
    omega
  rw [e1, show IntKind.bits .u8 = 8 from rfl, BitVec.ofInt_natCast, show BitVec.ofInt 8 128 = 128#8 from rfl, or128]
  simp only [BitVec.toNat_ofNat]
  rw [wu8 (by omega) (by omega)]
  omega

/-- A byte's seven bits, put behind the others. -/
theorem acc_eq (a n t : Nat) (ha : a < 2 ^ (7 * t)) (ht : t ≤ 4) (hn : n < 256) :
    IntKind.wrap .u64 ((BitVec.ofInt (IntKind.bits .u64) (a : Int) ||| BitVec.ofInt (IntKind.bits .u64) (IntKind.wrap .u64 ((IntKind.wrap .u64 (IntKind.wrap .u8 ((BitVec.ofInt (IntKind.bits .u8) (n : Int) &&& ~~~ BitVec.ofInt (IntKind.bits .u8) 128).toNat : Int))) * 2 ^ (min (Int.toNat (IntKind.wrap .i64 (7 * (t : Int)))) (IntKind.bits .u64))))).toNat : Int) = ((a + n % 128 * 2 ^ (7 * t) : Nat) : Int) := by
  have hp : 2 ^ (7 * t) ≤ 268435456 := by
    calc 2 ^ (7 * t) ≤ 2 ^ 28 := Nat.pow_le_pow_right (by omega) (by omega)
      _ = 268435456 := by decide
  have hd : n % 128 * 2 ^ (7 * t) ≤ 127 * 268435456 := Nat.mul_le_mul (by omega) hp
  have e1 : IntKind.wrap .u8 ((BitVec.ofInt (IntKind.bits .u8) (n : Int) &&& ~~~ BitVec.ofInt (IntKind.bits .u8) 128).toNat : Int) = ((n % 128 : Nat) : Int) := by
    rw [show IntKind.bits .u8 = 8 from rfl, BitVec.ofInt_natCast, show BitVec.ofInt 8 128 = 128#8 from rfl, andn128, wu8 (by omega) (by simp only [BitVec.toNat_ofNat]; omega)]
    simp only [BitVec.toNat_ofNat]
    omega
  have e2 : (min (Int.toNat (IntKind.wrap .i64 (7 * (t : Int)))) (IntKind.bits .u64)) = 7 * t := by
    rw [w64 (by omega) (by omega), show IntKind.bits .u64 = 64 from rfl]
    omega
  have e3 : ((n % 128 : Nat) : Int) * 2 ^ (7 * t) = ((n % 128 * 2 ^ (7 * t) : Nat) : Int) := by
    rw [Int.natCast_mul, Int.natCast_pow]; rfl
  rw [e1, e2, wu64 (x := ((n % 128 : Nat) : Int)) (by omega) (by omega), e3, wu64 (x := ((n % 128 * 2 ^ (7 * t) : Nat) : Int)) (by omega) (by omega), show IntKind.bits .u64 = 64 from rfl, BitVec.ofInt_natCast, BitVec.ofInt_natCast, BitVec.toNat_or,
    BitVec.toNat_ofNat, BitVec.toNat_ofNat, Nat.mod_eq_of_lt (by omega), Nat.mod_eq_of_lt (by omega)]
  have e4 : a ||| n % 128 * 2 ^ (7 * t) = a + n % 128 * 2 ^ (7 * t) := by
    have := Nat.shiftLeft_add_eq_or_of_lt ha (n % 128)
    rw [Nat.shiftLeft_eq] at this
    rw [Nat.or_comm, ← this, Nat.add_comm]
  rw [e4, wu64 (by omega) (by omega)]

theorem short_loop : ∀ (fuel n : Nat) (l : List Int), n < fuel → n < 4294967296 → l.length ≤ 1000 + (4294967296 - n) → l.length < 100000000000 → bits_Short_l0 fuel (n : Int) l = some (l ++ enc7 n)
  | 0, n, l, h, _, _, _ => by omega
  | fuel + 1, n, l, h, hn, hl, hl2 => by
    rw [bits_Short_l0]
    by_cases hlt : n < 128
    · rw [if_neg (by simp only [decide_eq_true_eq]; omega), if_pos (by simp only [List.length_singleton]; omega), wu8 (by omega) (by omega), enc7_lt hlt]
    · rw [if_pos (by simp only [decide_eq_true_eq]; omega), if_pos (by simp only [List.length_singleton]; omega), byte_or]
      have e : Int.fdiv (n : Int) (2 ^ (min (Int.toNat 7) (IntKind.bits .u64))) = ((n / 128 : Nat) : Int) := by
        rw [show (min (Int.toNat 7) (IntKind.bits .u64)) = 7 from by decide, show (2 : Int) ^ 7 = 128 from by decide, Int.fdiv_eq_ediv_of_nonneg _ (by omega)]
        omega
      rw [e, short_loop fuel (n / 128) _ (by omega) (by omega) (by simp only [List.length_append, List.length_singleton]; omega) (by simp only [List.length_append, List.length_singleton]; omega), enc7_ge hlt, List.append_assoc]
      rfl
theorem short_eq (n : Nat) (hn : n < 4294967296) : bits_Short (n : Int) = some (enc7 n) := by
  have := short_loop big n [] (big_lt (by omega)) hn (by simp) (by simp)
  simpa [bits_Short] using this

theorem enc7_len : ∀ (k n : Nat), n < 128 ^ (k + 1) → (enc7 n).length ≤ k + 1 ∧ 1 ≤ (enc7 n).length
  | 0, n, h => by rw [enc7_lt (by simpa using h)]; simp
  | k + 1, n, h => by
    by_cases hlt : n < 128
    · rw [enc7_lt hlt]; simp
    · have := enc7_len k (n / 128) (by rw [Nat.div_lt_iff_lt_mul (by omega)]; rw [Nat.pow_succ] at h; exact h)
      rw [enc7_ge hlt]
      simp only [List.length_cons]
      omega
theorem enc7_len5 {n : Nat} (h : n < 4294967296) : (enc7 n).length ≤ 5 ∧ 1 ≤ (enc7 n).length := enc7_len 4 n (by omega)

theorem getD_drop {α : Type} (l : List α) (k : Nat) (d : α) (h : k < l.length) : l.drop k = l.getD k d :: l.drop (k + 1) := by
  rw [List.drop_eq_getElem_cons h, List.getD_eq_getElem?_getD, List.getElem?_eq_getElem h]; rfl

theorem long_loop (b rest : List Int) (N : Nat) (hN : N < 4294967296) : ∀ (fuel n t a : Nat), n < fuel → b.drop t = enc7 n ++ rest → t < b.length → N = a + n * 2 ^ (7 * t) → a < 2 ^ (7 * t) → (0 < n ∨ t = 0) →
    bits_Long_l0 b fuel (a : Int) (t : Int) = some ((N : Int), ((t + (enc7 n).length : Nat) : Int), 0)
  | 0, _, _, _, h, _, _, _, _, _ => by omega
  | fuel + 1, n, t, a, h, hb, ht, hNa, ha, h0 => by
    have ht4 : t ≤ 4 := by
      rcases h0 with h0 | h0
      · rcases Nat.lt_or_ge 4 t with h4 | h4
        · exfalso
          have h1 : 2 ^ 35 ≤ 2 ^ (7 * t) := Nat.pow_le_pow_right (by omega) (by omega)
          have h2 : 1 * 2 ^ (7 * t) ≤ n * 2 ^ (7 * t) := Nat.mul_le_mul_right _ h0
          omega
        · exact h4
      · omega
    rw [bits_Long_l0, if_pos (by simp only [decide_eq_true_eq]; omega), if_pos (by omega), if_neg (by rw [w64 (by omega) (by omega)]; simp only [decide_eq_true_eq]; omega), if_pos (by rw [w64 (by omega) (by omega)]; omega)]
    rw [getD_drop b t default ht] at hb
    have hi : ((t : Nat) : Int).toNat = t := Int.toNat_natCast t
    by_cases hlt : n < 128
    · rw [enc7_lt hlt] at hb ⊢
      simp only [List.cons_append, List.nil_append, List.cons.injEq] at hb
      rw [hi, hb.1]
      rw [if_neg (by simp only [decide_eq_true_eq]; omega), acc_eq a n t ha ht4 (by omega), w64 (x := (t : Int) + 1) (by omega) (by omega), Nat.mod_eq_of_lt hlt, ← hNa]
      simp only [beq_iff_eq, decide_eq_true_eq, List.length_singleton]
      by_cases hz : (n : Int) = 0
      · rw [if_pos hz, if_neg (by omega)]; rfl
      · rw [if_neg hz]; rfl
    · rw [enc7_ge hlt] at hb ⊢
      simp only [List.cons_append, List.cons.injEq] at hb
      rw [hi, hb.1]
      rw [if_pos (by simp only [decide_eq_true_eq]; omega), acc_eq a (n % 128 + 128) t ha ht4 (by omega), w64 (x := (t : Int) + 1) (by omega) (by omega)]
      have e1 : (n % 128 + 128) % 128 = n % 128 := by omega
      have hp : 2 ^ (7 * (t + 1)) = 128 * 2 ^ (7 * t) := by rw [show 7 * (t + 1) = 7 * t + 7 from by omega, Nat.pow_add]; omega
      have e2 : n * 2 ^ (7 * t) = n % 128 * 2 ^ (7 * t) + n / 128 * (128 * 2 ^ (7 * t)) := by
        conv => lhs; rw [← Nat.mod_add_div n 128]
        rw [Nat.add_mul, Nat.mul_comm 128 (n / 128), Nat.mul_assoc]
      have ht1 : t + 1 < b.length := by
        have h1 : (b.drop (t + 1)).length = (enc7 (n / 128) ++ rest).length := by rw [hb.2]
        have h2 := (enc7_len5 (n := n / 128) (by
          have : n * 1 ≤ n * 2 ^ (7 * t) := Nat.mul_le_mul_left _ (Nat.one_le_two_pow)
          omega)).2
        simp only [List.length_drop, List.length_append] at h1
        omega
      have := long_loop b rest N hN fuel (n / 128) (t + 1) (a + n % 128 * 2 ^ (7 * t)) (by omega) hb.2 ht1 (by rw [hp]; omega) (by
        rw [hp]
        have : n % 128 * 2 ^ (7 * t) ≤ 127 * 2 ^ (7 * t) := Nat.mul_le_mul_right _ (by omega)
        omega) (.inl (by omega))
      rw [e1, show (t : Int) + 1 = ((t + 1 : Nat) : Int) from rfl, this]
      simp only [List.length_cons, Option.some.injEq, Prod.mk.injEq, true_and, and_true]
      omega
theorem long_eq (b rest : List Int) (n : Nat) (hn : n < 4294967296) (hb : b = enc7 n ++ rest) : bits_Long b = some ((n : Int), (((enc7 n).length : Nat) : Int), 0) := by
  have h1 := (enc7_len5 hn).2
  have := long_loop b rest n hn big n 0 0 (big_lt (by omega)) (by simpa using hb) (by rw [hb]; simp only [List.length_append]; omega) (by simp) (by simp) (.inr rfl)
  simpa [bits_Long] using this
/-- A reader without a fault, with these bytes left. -/
def Good (x : T_code_Reader) (rest : List Int) : Prop := x.f_fault = T_api_Fault.mk 0 0 ∧ x.f_b.length ≤ 1000 ∧ ∃ k : Nat, x.f_at = (k : Int) ∧ k ≤ x.f_b.length ∧ x.f_b.drop k = rest
/-- A fault, or these bytes left. -/
def Sta (x : T_code_Reader) (rest : List Int) : Prop := x.f_fault ≠ T_api_Fault.mk 0 0 ∨ Good x rest

theorem count_ok (x : T_code_Reader) (n : Nat) (hn : n < 4294967296) (rest : List Int) (h : Sta x (enc7 n ++ rest)) :
    ∃ r, ids_count x = some r ∧ Sta (T_code_Reader.mk r.2.1 r.2.2.1 r.2.2.2) rest ∧ (n ≤ 2147483647 → Good x (enc7 n ++ rest) → r.1 = (n : Int) ∧ Good (T_code_Reader.mk r.2.1 r.2.2.1 r.2.2.2) rest) := by
  by_cases hf : x.f_fault = T_api_Fault.mk 0 0
  · rcases h with h | h
    · exact absurd hf h
    obtain ⟨_, hl, k, hk, hkl, hd⟩ := h
    have e1 : x.f_b.drop (x.f_at).toNat = enc7 n ++ rest := by rw [hk, Int.toNat_natCast, hd]
    have h5 := enc7_len5 hn
    have hlen : k + ((enc7 n).length + rest.length) = x.f_b.length := by
      have := congrArg List.length hd
      simp only [List.length_drop, List.length_append] at this
      omega
    have e2 : ids_count x = if n ≤ 2147483647 then some ((n : Int), x.f_b, ((k + (enc7 n).length : Nat) : Int), x.f_fault) else some (0, x.f_b, x.f_at, T_api_Fault.mk 5 x.f_at) := by
      rw [ids_count, code_Reader_Num, code_field_uint64, if_neg (by simp [hf]), if_pos (by rw [hk]; omega), e1, code_limit_read, long_eq _ rest n hn rfl]
      by_cases hle : n ≤ 2147483647
      · rw [if_pos hle]
        simp only [Option.bind_some, beq_self_eq_true, if_true, decide_eq_true_eq]
        rw [if_neg (by omega)]
        simp only [Option.bind_some, bne_self_eq_false, Bool.false_eq_true, if_false]
        rw [hk, w64 (by omega) (by omega), wu32 (by omega) (by omega)]
        rfl
      · rw [if_neg hle]
        simp only [Option.bind_some, beq_self_eq_true, if_true, decide_eq_true_eq]
        rw [if_pos (by omega)]
        rfl
    have g0 : n ≤ 2147483647 → Good (T_code_Reader.mk x.f_b ((k + (enc7 n).length : Nat) : Int) x.f_fault) rest := by
      intro _
      refine ⟨hf, hl, _, rfl, by show k + (enc7 n).length ≤ x.f_b.length; omega, ?_⟩
      show x.f_b.drop (k + (enc7 n).length) = rest
      rw [← List.drop_drop, hd, List.drop_left]
    by_cases hle : n ≤ 2147483647
    · rw [if_pos hle] at e2
      exact ⟨_, e2, .inr (g0 hle), fun _ _ => ⟨rfl, g0 hle⟩⟩
    · rw [if_neg hle] at e2
      exact ⟨_, e2, .inl (by simp), fun h => absurd h hle⟩
  · refine ⟨(0, x.f_b, x.f_at, x.f_fault), ?_, .inl hf, fun _ h => absurd h.1 hf⟩
    rw [ids_count, code_Reader_Num, code_field_uint64, if_pos (by simp [hf])]
    rfl

theorem byte_ok (x : T_code_Reader) (c : Int) (rest : List Int) (h : Sta x (c :: rest)) :
    ∃ r, code_Reader_Byte x = some r ∧ Sta (T_code_Reader.mk r.2.1 r.2.2.1 r.2.2.2) rest ∧ (Good x (c :: rest) → r.1 = c ∧ Good (T_code_Reader.mk r.2.1 r.2.2.1 r.2.2.2) rest) := by
  by_cases hf : x.f_fault = T_api_Fault.mk 0 0
  · rcases h with h | h
    · exact absurd hf h
    obtain ⟨_, hl, k, hk, hkl, hd⟩ := h
    have e1 : x.f_b.drop (x.f_at).toNat = c :: rest := by rw [hk, Int.toNat_natCast, hd]
    have hlen : k + (rest.length + 1) = x.f_b.length := by
      have := congrArg List.length hd
      simp only [List.length_drop, List.length_cons] at this
      omega
    have e2 : code_Reader_Byte x = some (c, x.f_b, ((k + 1 : Nat) : Int), x.f_fault) := by
      rw [code_Reader_Byte, code_field_byte, if_neg (by simp [hf]), if_pos (by rw [hk]; omega), e1, code_one, if_neg (by simp only [List.length_cons, beq_iff_eq]; omega), if_pos (by simp only [List.length_cons]; omega)]
      simp only [Option.bind_some, bne_self_eq_false, Bool.false_eq_true, if_false]
      rw [hk, w64 (by omega) (by omega)]
      rfl
    have g0 : Good (T_code_Reader.mk x.f_b ((k + 1 : Nat) : Int) x.f_fault) rest := by
      refine ⟨hf, hl, _, rfl, by show k + 1 ≤ x.f_b.length; omega, ?_⟩
      show x.f_b.drop (k + 1) = rest
      rw [← List.drop_drop, hd]; rfl
    exact ⟨_, e2, .inr g0, fun _ => ⟨rfl, g0⟩⟩
  · refine ⟨(0, x.f_b, x.f_at, x.f_fault), ?_, .inl hf, fun h => absurd h.1 hf⟩
    rw [code_Reader_Byte, code_field_byte, if_pos (by simp [hf])]
    rfl

/-- A stamp's bytes. -/
def encT (b u n : Nat) (c : Int) (rest : List Int) : List Int := c :: (enc7 u ++ (enc7 n ++ rest))
theorem getTx_ok (x : T_code_Reader) (c : Int) (u n : Nat) (hu : u < 4294967296) (hn : n < 4294967296) (rest : List Int) (h : Sta x (c :: (enc7 u ++ (enc7 n ++ rest)))) :
    ∃ r, ids_GetTx x = some r ∧ Sta (T_code_Reader.mk r.2.1 r.2.2.1 r.2.2.2) rest ∧
      (u ≤ 2147483647 → n ≤ 2147483647 → Good x (c :: (enc7 u ++ (enc7 n ++ rest))) → r.1 = T_api_Tx.mk c u n ∧ Good (T_code_Reader.mk r.2.1 r.2.2.1 r.2.2.2) rest) := by
  obtain ⟨r1, q1, s1, g1⟩ := byte_ok x c _ h
  obtain ⟨r2, q2, s2, g2⟩ := count_ok _ u hu _ s1
  obtain ⟨r3, q3, s3, g3⟩ := count_ok _ n hn _ s2
  rw [ids_GetTx, q1, Option.bind_some, q2, Option.bind_some, q3, Option.bind_some]
  simp only [ids_read_api_Tx, code_Reader_Fault, Option.bind_some, Bool.not_eq_true', decide_eq_false_iff_not, ite_not]
  split
  · refine ⟨_, rfl, s3, fun h1 h2 h3 => ?_⟩
    obtain ⟨a1, b1⟩ := g1 h3
    obtain ⟨a2, b2⟩ := g2 h1 b1
    obtain ⟨a3, b3⟩ := g3 h2 b2
    exact ⟨by rw [a1, a2, a3], b3⟩
  · rename_i hf
    refine ⟨_, rfl, s3, fun h1 h2 h3 => ?_⟩
    exact absurd (g3 h2 (g2 h1 (g1 h3).2).2).2.1 hf

theorem getStamp_ok (x : T_code_Reader) (c : Int) (t u n : Nat) (ht : t < 4294967296) (hu : u < 4294967296) (hn : n < 4294967296) (rest : List Int) (h : Sta x (enc7 t ++ (c :: (enc7 u ++ (enc7 n ++ rest))))) :
    ∃ r, ids_GetStamp x = some r ∧ Sta (T_code_Reader.mk r.2.1 r.2.2.1 r.2.2.2) rest ∧
      (t ≤ 2147483647 → u ≤ 2147483647 → n ≤ 2147483647 → Good x (enc7 t ++ (c :: (enc7 u ++ (enc7 n ++ rest)))) → r.1 = T_api_Stamp.mk t (T_api_Tx.mk c u n) ∧ Good (T_code_Reader.mk r.2.1 r.2.2.1 r.2.2.2) rest) := by
  obtain ⟨r1, q1, s1, g1⟩ := count_ok x t ht _ h
  obtain ⟨r2, q2, s2, g2⟩ := getTx_ok _ c u n hu hn _ s1
  rw [ids_GetStamp, q1, Option.bind_some, q2, Option.bind_some]
  simp only [ids_read_api_Stamp, code_Reader_Fault, Option.bind_some, Bool.not_eq_true', decide_eq_false_iff_not, ite_not]
  split
  · refine ⟨_, rfl, s2, fun h0 h1 h2 h3 => ?_⟩
    obtain ⟨a1, b1⟩ := g1 h0 h3
    obtain ⟨a2, b2⟩ := g2 h1 h2 b1
    exact ⟨by rw [a1, a2], b2⟩
  · rename_i hf
    refine ⟨_, rfl, s2, fun h0 h1 h2 h3 => ?_⟩
    exact absurd (g2 h1 h2 (g1 h0 h3).2).2.1 hf

theorem getReg_ok (x : T_code_Reader) (u n : Nat) (hu : u < 4294967296) (hn : n < 4294967296) (rest : List Int) (h : Sta x (enc7 u ++ (enc7 n ++ rest))) :
    ∃ r, ids_GetReg x = some r ∧ Sta (T_code_Reader.mk r.2.1 r.2.2.1 r.2.2.2) rest ∧
      (u ≤ 2147483647 → n ≤ 2147483647 → Good x (enc7 u ++ (enc7 n ++ rest)) → r.1 = T_api_Reg.mk u n ∧ Good (T_code_Reader.mk r.2.1 r.2.2.1 r.2.2.2) rest) := by
  obtain ⟨r1, q1, s1, g1⟩ := count_ok x u hu _ h
  obtain ⟨r2, q2, s2, g2⟩ := count_ok _ n hn _ s1
  rw [ids_GetReg, q1, Option.bind_some, q2, Option.bind_some]
  simp only [ids_read_api_Reg, code_Reader_Fault, Option.bind_some, Bool.not_eq_true', decide_eq_false_iff_not, ite_not]
  split
  · refine ⟨_, rfl, s2, fun h1 h2 h3 => ?_⟩
    obtain ⟨a1, b1⟩ := g1 h1 h3
    obtain ⟨a2, b2⟩ := g2 h2 b1
    exact ⟨by rw [a1, a2], b2⟩
  · rename_i hf
    refine ⟨_, rfl, s2, fun h1 h2 h3 => ?_⟩
    exact absurd (g2 h2 (g1 h1 h3).2).2.1 hf

theorem num_eq (b : List Int) (n : Nat) (hb : b.length ≤ 900) (hn : n < 4294967296) : code_Writer_Num b (IntKind.wrap .u64 (n : Int)) = some (b ++ enc7 n) := by
  have := enc7_len5 hn
  rw [wu64 (by omega) (by omega), code_Writer_Num, short_eq n hn]
  simp only [Option.bind_some, code_Writer_put]
  rw [if_pos (by omega)]
  rfl
theorem putb_eq (b : List Int) (c : Int) (hb : b.length ≤ 900) : code_Writer_Byte b c = some (b ++ [c]) := by
  simp only [code_Writer_Byte, code_Writer_put, List.length_singleton]
  rw [if_pos (by omega)]
  rfl
theorem alive_eq : parrellaw05_alive = some true := by kernel_rfl

theorem puts_eq (t u n p q : Nat) (c : Int) (ht : t < 4294967296) (hu : u < 4294967296) (hn : n < 4294967296) (hp : p < 4294967296) (hq : q < 4294967296) :
    ((ids_PutStamp [] (T_api_Stamp.mk t (T_api_Tx.mk c u n))).bind fun y => ids_PutReg y (T_api_Reg.mk p q)) = some (enc7 t ++ (c :: (enc7 u ++ (enc7 n ++ (enc7 p ++ (enc7 q ++ [])))))) := by
  have l1 := enc7_len5 ht
  have l2 := enc7_len5 hu
  have l3 := enc7_len5 hn
  have l4 := enc7_len5 hp
  simp only [ids_PutStamp, ids_PutTx, ids_PutReg]
  rw [num_eq [] t (by simp) ht, Option.bind_some, putb_eq _ _ (by simp only [List.length_append, List.length_nil]; omega), Option.bind_some,
    num_eq _ u (by simp only [List.length_append, List.length_nil, List.length_singleton]; omega) hu, Option.bind_some,
    num_eq _ n (by simp only [List.length_append, List.length_nil, List.length_singleton]; omega) hn, Option.bind_some, Option.bind_some, Option.bind_some,
    num_eq _ p (by simp only [List.length_append, List.length_nil, List.length_singleton]; omega) hp, Option.bind_some,
    num_eq _ q (by simp only [List.length_append, List.length_nil, List.length_singleton]; omega) hq, Option.bind_some]
  simp only [List.append_assoc, List.nil_append, List.append_nil, List.singleton_append, List.cons_append]

theorem isC (n : Nat) (hn : n < 4294967296) (h : IntKind.wrap .u32 ((n : Int) - 1) < 2147483647) : n ≤ 2147483647 := by
  rcases Nat.eq_zero_or_pos n with h0 | h0
  · omega
  · rw [wu32 (by omega) (by omega)] at h
    omega

theorem back_nat (t u n p q : Nat) (c : Int) (ht : t < 4294967296) (hu : u < 4294967296) (hn : n < 4294967296) (hp : p < 4294967296) (hq : q < 4294967296) :
    parrellaw05_IdsBack (T_api_Stamp.mk t (T_api_Tx.mk c u n)) (T_api_Reg.mk p q) = some true := by
  have hput := puts_eq t u n p q c ht hu hn hp hq
  have l1 := enc7_len5 ht
  have l2 := enc7_len5 hu
  have l3 := enc7_len5 hn
  have l4 := enc7_len5 hp
  have l5 := enc7_len5 hq
  generalize hB : (enc7 t ++ (c :: (enc7 u ++ (enc7 n ++ (enc7 p ++ (enc7 q ++ [])))))) = B at hput
  have hlen : B.length ≤ 30 ∧ B.length ≠ 0 := by
    rw [← hB]
    simp only [List.length_append, List.length_cons, List.length_nil]
    omega
  have g0 : Good (T_code_Reader.mk B 0 (T_api_Fault.mk 0 0)) (enc7 t ++ (c :: (enc7 u ++ (enc7 n ++ (enc7 p ++ (enc7 q ++ [])))))) :=
    ⟨rfl, by show B.length ≤ 1000; omega, 0, rfl, Nat.zero_le _, hB.symm⟩
  obtain ⟨r1, q1, s1, g1⟩ := getStamp_ok _ c t u n ht hu hn _ (.inr g0)
  obtain ⟨r2, q2, s2, g2⟩ := getReg_ok _ p q hp hq [] s1
  have e0 : ∀ {α : Type} (k : List Int → Option α), ((ids_PutStamp [] (T_api_Stamp.mk t (T_api_Tx.mk c u n))).bind fun y => (ids_PutReg y (T_api_Reg.mk p q)).bind k) = k B := by
    intro α k
    have := congrArg (fun o => Option.bind o k) hput
    simpa only [Option.bind_assoc, Option.bind_some] using this
  rw [parrellaw05_IdsBack, e0]
  have e1 : code_Writer_Bytes B = some B := by
    rw [code_Writer_Bytes, slices_Clone_byte_byte_3, if_neg (by simp only [beq_iff_eq]; omega), if_pos (by omega)]
    rfl
  have e2 : code_New B = some (B, T_api_Fault.mk 0 0) := by rw [code_New, if_pos (by omega)]
  rw [e1, Option.bind_some, e2, Option.bind_some, q1, Option.bind_some, q2, Option.bind_some]
  simp only [ids_StampMay, ids_RegMay, ids_TxMay, ids_isCount, Option.bind_some, alive_eq]
  by_cases m1 : ((t : Nat) : Int) ≤ 2147483647
  · rw [if_pos (by simpa using m1)]
    by_cases m2 : c < 8
    · rw [if_pos (by simpa using m2)]
      by_cases m3 : IntKind.wrap .u32 ((u : Int) - 1) < 2147483647
      · rw [if_pos (by simpa using m3)]
        by_cases m4 : IntKind.wrap .u32 ((n : Int) - 1) < 2147483647
        · simp only [Option.bind_some, m4, decide_true, Bool.not_true, Bool.false_eq_true, if_false]
          by_cases m5 : IntKind.wrap .u32 ((p : Int) - 1) < 2147483647
          · rw [if_pos (by simpa using m5)]
            by_cases m6 : IntKind.wrap .u32 ((q : Int) - 1) < 2147483647
            · simp only [Option.bind_some, m6, decide_true, Bool.not_true, Bool.false_eq_true, if_false]
              obtain ⟨a1, b1⟩ := g1 (by omega) (isC u hu m3) (isC n hn m4) g0
              obtain ⟨a2, b2⟩ := g2 (isC p hp m5) (isC q hq m6) b1
              rw [if_pos (by simpa using a1), if_pos (by simpa using a2)]
              obtain ⟨f1, f2, k, f3, f4, f5⟩ := b2
              simp only at f1 f2 f3 f4 f5
              have f6 : r2.2.1.length ≤ k := List.drop_eq_nil_iff.mp f5
              simp only [code_Reader_End, code_Reader_Left, code_Reader_Fault, f1, decide_true, Bool.not_true, Bool.false_eq_true, if_false, Option.bind_some]
              rw [w64 (by omega) (by omega), if_neg (by simp only [decide_eq_true_eq]; omega)]
              rfl
            · simp only [Option.bind_some, m6, decide_false, Bool.not_false, if_true]
          · rw [if_neg (by simpa using m5)]
            rfl
        · simp only [Option.bind_some, m4, decide_false, Bool.not_false, if_true]
      · rw [if_neg (by simpa using m3)]
        rfl
    · rw [if_neg (by simpa using m2)]
      rfl
  · rw [if_neg (by simpa using m1)]
    rfl

theorem back_law (s : T_api_Stamp) (g : T_api_Reg) (hs : wfL (c_T_api_Stamp s)) (hg : wfL (c_T_api_Reg g)) : parrellaw05_IdsBack s g = some true := by
  obtain ⟨t, c, u, n⟩ := s
  obtain ⟨p, q⟩ := g
  have w1 := wf_u32 (hs (.int .u32 t) (by simp [c_T_api_Stamp]))
  have w2 := wf_u32 (hs (.int .u32 u) (by simp [c_T_api_Stamp]))
  have w3 := wf_u32 (hs (.int .u32 n) (by simp [c_T_api_Stamp]))
  have w4 := wf_u32 (hg (.int .u32 p) (by simp [c_T_api_Reg]))
  have w5 := wf_u32 (hg (.int .u32 q) (by simp [c_T_api_Reg]))
  obtain ⟨t', rfl⟩ := Int.eq_ofNat_of_zero_le w1.1
  obtain ⟨u', rfl⟩ := Int.eq_ofNat_of_zero_le w2.1
  obtain ⟨n', rfl⟩ := Int.eq_ofNat_of_zero_le w3.1
  obtain ⟨p', rfl⟩ := Int.eq_ofNat_of_zero_le w4.1
  obtain ⟨q', rfl⟩ := Int.eq_ofNat_of_zero_le w5.1
  exact back_nat t' u' n' p' q' c (by omega) (by omega) (by omega) (by omega) (by omega)
end Go.Proofs.Ytbggiflihpjocaa.Wk
