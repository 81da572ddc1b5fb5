import Derived.Test.YtljjdeanilgloaaGreatDoorTxO
set_option linter.unusedVariables false
set_option linter.unusedSimpArgs false
set_option linter.unusedSectionVars false
namespace Go.Proofs.YtljjdeanilgloaaGreatDoor.Wk
open Go Go.Cn
theorem bigN (k : Nat) (h : k < 1180591620717411303424) : ∃ n, big = n + k := ⟨1180591620717411303424 - k, by rw [big_eq]; omega⟩
theorem step64 {i : Nat} (h : i < 4611686018427387904) : IntKind.wrap .i64 ((i : Int) + 1) = ((i + 1 : Nat) : Int) := by
 rw [w64 (by omega) (by omega)]; rfl
theorem mget_mset {α β : Type} [DecidableEq α] (m : List (α × β)) (k k' : α) (v : β) : mget (mset m k v) k' = if k' = k then some v else mget m k' := by
 induction m with
 | nil => simp only [mset, mget]
 | cons e r ih =>
  simp only [mset]
  by_cases h : k = e.1
  ·subst h
   simp only [if_true, mget]
   split
   ·rfl
   ·rfl
  ·simp only [h, if_false, mget, ih]
   by_cases h1 : k' = e.1
   ·subst h1
    simp only [if_true]
    rw [if_neg (fun e => h e.symm)]
   ·simp only [h1, if_false]
theorem mset_len {α β : Type} [DecidableEq α] (m : List (α × β)) (k : α) (v : β) : (mset m k v).length ≤ m.length + 1 := by
 induction m with
 | nil => simp [mset]
 | cons e r ih => simp only [mset]; split <;> simp <;> omega
theorem mset_mem {α β : Type} [DecidableEq α] (m : List (α × β)) (k x : α) (v : β) : x ∈ (mset m k v).map (·.1) ↔ x = k ∨ x ∈ m.map (·.1) := by
 induction m with
 | nil => simp [mset]
 | cons e r ih =>
  simp only [mset]
  by_cases h : k = e.1
  ·subst h; simp
  ·simp only [h, if_false, List.map_cons, List.mem_cons, ih]
   constructor
   ·rintro (a | a | a)
    ·exact .inr (.inl a)
    ·exact .inl a
    ·exact .inr (.inr a)
   ·rintro (a | a | a)
    ·exact .inr (.inl a)
    ·exact .inl a
    ·exact .inr (.inr a)
theorem mset_nd {α β : Type} [DecidableEq α] (m : List (α × β)) (k : α) (v : β) (h : (m.map (·.1)).Nodup) : ((mset m k v).map (·.1)).Nodup := by
 induction m with
 | nil => simp [mset]
 | cons e r ih =>
  simp only [mset]
  by_cases hk : k = e.1
  ·subst hk; simpa using h
  ·simp only [hk, if_false, List.map_cons, List.nodup_cons] at h ⊢
   refine ⟨fun hm => ?_, ih h.2⟩
   rcases (mset_mem r k e.1 v).1 hm with a | a
   ·exact hk a.symm
   ·exact h.1 a
def In8 (n : Nat) : Prop := ∀ j, n.testBit j = true → j < 8
theorem In8.lt {n : Nat} (h : In8 n) : n < 18446744073709551616 := by
 have : n < 2 ^ 8 := Nat.lt_pow_two_of_testBit n (fun i hi => by
  cases hb : n.testBit i with
  | false => rfl
  | true => have := h i hb; omega)
 omega
theorem In8.mem {n : Nat} (h : In8 n) {x : Int} (hx : x ∈ bitsL (n : Int)) : 0 ≤ x ∧ x < 8 := by
 unfold bitsL at hx
 obtain ⟨i, hi, rfl⟩ := List.mem_map.1 hx
 have := h i (by simpa using (List.mem_filter.1 hi).2)
 omega
theorem u64n (a : Nat) (h : a < 18446744073709551616) : IntKind.wrap .u64 (a : Int) = (a : Int) := wu64 (by omega) (by omega)
theorem bvn (a : Nat) : BitVec.ofInt (IntKind.bits .u64) (a : Int) = BitVec.ofNat 64 a := BitVec.ofInt_natCast ..
theorem or_lt {a b : Nat} (ha : a < 18446744073709551616) (hb : b < 18446744073709551616) : a ||| b < 18446744073709551616 := Nat.or_lt_two_pow (n := 64) ha hb
theorem or_u (a b : Nat) (ha : a < 18446744073709551616) (hb : b < 18446744073709551616) :
  IntKind.wrap .u64 ((BitVec.ofInt (IntKind.bits .u64) (a : Int) ||| BitVec.ofInt (IntKind.bits .u64) (b : Int)).toNat : Int) = ((a ||| b : Nat) : Int) := by
 rw [bvn, bvn]
 have : (BitVec.ofNat 64 a ||| BitVec.ofNat 64 b).toNat = a ||| b := by
  rw [BitVec.toNat_or, BitVec.toNat_ofNat, BitVec.toNat_ofNat, Nat.mod_eq_of_lt ha, Nat.mod_eq_of_lt hb]
 show IntKind.wrap .u64 (((BitVec.ofNat 64 a ||| BitVec.ofNat 64 b).toNat : Nat) : Int) = _
 rw [this]
 exact u64n _ (or_lt ha hb)
theorem bit8 : ∀ n : Nat, n < 8 → Ba (IntKind.wrap .i64 (n : Int)) = some ((2 ^ n : Nat) : Int) := by decide +kernel
theorem with_eq {s n : Nat} (hs : In8 s) (hn : n < 8) : ∃ r : Nat, BX (s : Int) (IntKind.wrap .i64 (n : Int)) = some (r : Int) ∧ In8 r := by
 refine ⟨s ||| 2 ^ n, ?_, fun j hj => ?_⟩
 ·unfold BX
  rw [bit8 n hn]
  simp only [Option.bind_some]
  rw [or_u s (2 ^ n) hs.lt (Nat.pow_lt_pow_right (a := 2) (by omega) (by omega : n < 64))]
 ·rw [Nat.testBit_or, Nat.testBit_two_pow] at hj
  rcases Bool.or_eq_true _ _ ▸ hj with h | h
  ·exact hs j h
  ·have : n = j := by simpa using h
   omega
theorem has_some (s n : Int) (h : 0 ≤ n ∧ n < 8) : ∃ b, BW s (IntKind.wrap .i64 n) = some b := by
 obtain ⟨k, rfl⟩ : ∃ k : Nat, n = (k : Int) := ⟨n.toNat, by omega⟩
 unfold BW
 rw [bit8 k (by omega)]
 exact ⟨_, rfl⟩
theorem lt8 {i : Nat} (h : i < 8) : i = 0 ∨ i = 1 ∨ i = 2 ∨ i = 3 ∨ i = 4 ∨ i = 5 ∨ i = 6 ∨ i = 7 := by omega
theorem get_set {α : Type} (A : A8 α) (x : α) {i j : Nat} (hi : i < 8) (hj : j < 8) : (A.set x i).get j = if j = i then x else A.get j := by
 rcases lt8 hi with rfl | rfl | rfl | rfl | rfl | rfl | rfl | rfl <;> rcases lt8 hj with rfl | rfl | rfl | rfl | rfl | rfl | rfl | rfl <;> rfl
theorem of_loop (c : Bg) (set : Int) : ∀ (d fuel i : Nat) (x : Int), i + d = 8 → d < fuel → ∃ y, BH_l0 c set fuel x (i : Int) = some y
 | 0, fuel + 1, i, x, h, _ => by
  have : i = 8 := by omega
  subst this
  exact ⟨x, by simp [BH_l0]⟩
 | d + 1, fuel + 1, i, x, h, hf => by
  rw [BH_l0, if_pos (by simp; omega), if_pos (by omega), if_pos (by omega), step64 (by omega)]
  exact of_loop c set d fuel (i + 1) _ (by omega) (by omega)
theorem of_some (c : Bg) (set : Int) : ∃ y, BH c set = some y := of_loop c set 8 big 0 0 rfl (big_lt (by omega))
theorem max_loop (c : Bg) : ∀ (d fuel i : Nat) (x : Int), i + d = 8 → d < fuel → ∃ y, AJ_l0 c fuel x (i : Int) = some y
 | 0, fuel + 1, i, x, h, _ => by
  have : i = 8 := by omega
  subst this
  exact ⟨x, by simp [AJ_l0]⟩
 | d + 1, fuel + 1, i, x, h, hf => by
  rw [AJ_l0, if_pos (by simp; omega), if_pos (by omega), step64 (by omega)]
  exact max_loop c d fuel (i + 1) _ (by omega) (by omega)
theorem mayL_some (n x : Int) : ∃ b, Ac n x = some b := by
 unfold Ac; split <;> exact ⟨_, rfl⟩
theorem may_some (c : Bg) : ∃ b, BP c = some b := by
 unfold BP BI
 obtain ⟨y, hy⟩ := of_some c 255
 obtain ⟨m, hm⟩ := max_loop c 7 big 1 c.f_Votes.a0 rfl (big_lt (by omega))
 have hm : AJ c = some m := hm
 obtain ⟨p, hp⟩ := mayL_some c.f_R y
 obtain ⟨q, hq⟩ := mayL_some c.f_W y
 simp only [hy, hm, hp, hq, Option.bind_some]
 repeat' split
 all_goals exact ⟨_, rfl⟩
theorem writes_some (c : Bg) (s : Int) : ∃ b, BA c s = some b := by
 unfold BA
 obtain ⟨y, hy⟩ := of_some c s
 rw [hy]; exact ⟨_, rfl⟩
theorem reads_some (c : Bg) (s : Int) : ∃ b, BS c s = some b := by
 unfold BS
 obtain ⟨y, hy⟩ := of_some c s
 rw [hy]; exact ⟨_, rfl⟩
theorem itemMay_some (i : Bn) : ∃ b, BR i = some b := by
 unfold BR
 obtain ⟨b, hb⟩ := may_some i.f_Conf
 rw [hb]
 repeat' split
 all_goals exact ⟨_, rfl⟩
theorem count_some (x : Int) : ∃ b, BB x = some b := ⟨_, rfl⟩
theorem regMay_some (g : Bj) : ∃ b, BF g = some b := by
 unfold BF
 obtain ⟨b, hb⟩ := count_some g.f_Boot
 obtain ⟨c, hc⟩ := count_some g.f_N
 rw [hb, hc]
 simp only [Option.bind_some]
 split <;> exact ⟨_, rfl⟩
theorem ci_loop (s : List Bg) (hs : s.length < 1000) : ∀ (d fuel i : Nat), i + d = s.length → d < fuel → ∃ y, AG_l0 s fuel (i : Int) = some y
 | 0, fuel + 1, i, h, _ => ⟨-1, by rw [AG_l0, if_neg (by simp; omega)]⟩
 | d + 1, fuel + 1, i, h, hf => by
  rw [AG_l0, if_pos (by simp; omega), if_pos (by omega)]
  obtain ⟨b, hb⟩ := may_some (s.getD ((i : Int)).toNat default)
  unfold BO
  rw [hb]
  simp only [Option.bind_some]
  split
  ·exact ⟨_, rfl⟩
  ·rw [step64 (by omega)]
   exact ci_loop s hs d fuel (i + 1) (by omega) (by omega)
theorem cont_some (s : List Bg) (hs : s.length < 1000) : ∃ b, AS s = some b := by
 unfold AS AG
 obtain ⟨y, hy⟩ := ci_loop s hs s.length big 0 (by omega) (big_lt (by omega))
 have hy : AG_l0 s big 0 = some y := hy
 rw [hy]; exact ⟨_, rfl⟩
theorem ci2_loop (s : List Bg) (g : Bf) (hs : s.length < 1000) : ∀ (d fuel i : Nat), i + d = s.length → d < fuel → ∃ y, AD_l0 s g fuel (i : Int) = some y
 | 0, fuel + 1, i, h, _ => ⟨-1, by rw [AD_l0, if_neg (by simp; omega)]⟩
 | d + 1, fuel + 1, i, h, hf => by
  rw [AD_l0, if_pos (by simp; omega), if_pos (by omega)]
  obtain ⟨b, hb⟩ := writes_some (s.getD ((i : Int)).toNat default) g.f_nodes
  unfold Af
  rw [hb]
  simp only [Option.bind_some]
  split
  ·exact ⟨_, rfl⟩
  ·rw [step64 (by omega)]
   exact ci2_loop s g hs d fuel (i + 1) (by omega) (by omega)
theorem cont2_some (s : List Bg) (g : Bf) (hs : s.length < 1000) : ∃ b, AL s g = some b := by
 unfold AL AD
 obtain ⟨y, hy⟩ := ci2_loop s g hs s.length big 0 (by omega) (big_lt (by omega))
 have hy : AD_l0 s g big 0 = some y := hy
 rw [hy]; exact ⟨_, rfl⟩
end Go.Proofs.YtljjdeanilgloaaGreatDoor.Wk
