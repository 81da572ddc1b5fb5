/- Plain facts: MissAll. -/
import Derived.Test.YtdjmfgknonkojaaDoorMissL
set_option linter.unusedVariables false
set_option linter.unusedSimpArgs false
set_option linter.unusedSectionVars false
namespace Go.Proofs.YtdjmfgknonkojaaDoor.Wk
open Go Go.Cn
open Go.Proofs.YtdjmfgknonkojaaDoor.Ri (Rises)

theorem key_uniq {w : List T_api_Write} (h : mayW w = true) {x y : T_api_Write} (hx : x ∈ w) (hy : y ∈ w) (e : y.f_Key = x.f_Key) : y = x := by
  have hp := (mayW_rises h).1
  have h0 : ∀ k : A8 Int, ¬ cfK k k < 0 := fun k => by have := lex_anti k.list k.list; show ¬ lexI _ _ < 0; omega
  obtain ⟨i, hi, rfl⟩ := List.getElem_of_mem hx
  obtain ⟨j, hj, rfl⟩ := List.getElem_of_mem hy
  have hp' := List.pairwise_iff_getElem.1 hp
  rcases Nat.lt_trichotomy i j with h1 | h1 | h1
  · have h2 : cfK w[i].f_Key w[j].f_Key < 0 := hp' i j hi hj h1
    rw [e] at h2; exact absurd h2 (h0 _)
  · subst h1; rfl
  · have h2 : cfK w[j].f_Key w[i].f_Key < 0 := hp' j i hj hi h1
    rw [e] at h2; exact absurd h2 (h0 _)

/-! Who has a write -/
def innF (x : T_api_Write) (n : Nat) (s : Nat) (ws : List T_api_Write) : Nat := ws.foldl (fun s y => if y.f_Key = x.f_Key then addN s n else s) s
theorem innF_lt (x : T_api_Write) (n : Nat) : ∀ (ws : List T_api_Write) {s : Nat}, s < 18446744073709551616 → innF x n s ws < 18446744073709551616
  | [], _, h => h
  | y :: ws, s, h => by
    show innF x n (if y.f_Key = x.f_Key then addN s n else s) ws < _
    exact innF_lt x n ws (by split <;> first | exact addN_lt h n | exact h)
theorem innF_bit (x : T_api_Write) (n : Nat) : ∀ (ws : List T_api_Write) (s i : Nat), (innF x n s ws).testBit i = true ↔ s.testBit i = true ∨ (i = n ∧ n < 64 ∧ ∃ y ∈ ws, y.f_Key = x.f_Key)
  | [], s, i => by simp [innF]
  | y :: ws, s, i => by
    show (innF x n (if y.f_Key = x.f_Key then addN s n else s) ws).testBit i = true ↔ _
    rw [innF_bit x n ws]
    by_cases e : y.f_Key = x.f_Key
    · rw [if_pos e, addN_bit, Bool.or_eq_true, Bool.and_eq_true, decide_eq_true_eq, decide_eq_true_eq]
      constructor
      · rintro ((h | ⟨h1, h2⟩) | ⟨h1, h2, z, hz, h3⟩)
        · exact .inl h
        · exact .inr ⟨h1, h2, y, List.mem_cons_self, e⟩
        · exact .inr ⟨h1, h2, z, List.mem_cons_of_mem _ hz, h3⟩
      · rintro (h | ⟨h1, h2, _⟩)
        · exact .inl (.inl h)
        · exact .inl (.inr ⟨h1, h2⟩)
    · rw [if_neg e]
      constructor
      · rintro (h | ⟨h1, h2, z, hz, h3⟩)
        · exact .inl h
        · exact .inr ⟨h1, h2, z, List.mem_cons_of_mem _ hz, h3⟩
      · rintro (h | ⟨h1, h2, z, hz, h3⟩)
        · exact .inl h
        · rcases List.mem_cons.1 hz with rfl | hz
          · exact absurd h3 e
          · exact .inr ⟨h1, h2, z, hz, h3⟩
def outF (x : T_api_Write) (s : Nat) (q : List Mm) : Nat := q.foldl (fun s m => innF x m.1 s m.2.2) s
theorem outF_bit (x : T_api_Write) : ∀ (q : List Mm) (s i : Nat), (outF x s q).testBit i = true ↔ s.testBit i = true ∨ ∃ m ∈ q, i = m.1 ∧ m.1 < 64 ∧ ∃ y ∈ m.2.2, y.f_Key = x.f_Key
  | [], s, i => by simp [outF]
  | m :: q, s, i => by
    show (outF x (innF x m.1 s m.2.2) q).testBit i = true ↔ _
    rw [outF_bit x q, innF_bit]
    constructor
    · rintro ((h | h) | ⟨z, hz, h⟩)
      · exact .inl h
      · exact .inr ⟨m, List.mem_cons_self, h⟩
      · exact .inr ⟨z, List.mem_cons_of_mem _ hz, h⟩
    · rintro (h | ⟨z, hz, h⟩)
      · exact .inl (.inl h)
      · rcases List.mem_cons.1 hz with rfl | hz
        · exact .inl (.inr h)
        · exact .inr ⟨z, hz, h⟩
theorem mem_mems {A : List AL} {w : List T_api_Write} {m : Mm} : m ∈ mems A w ↔ ∃ n, n < 64 ∧ (nodesA A).testBit n = true ∧ m = (n, regA A n, w.filter fun x => (ofA A x.f_Key).testBit n) := by
  unfold mems
  rw [List.mem_map]
  constructor
  · rintro ⟨n, hn, rfl⟩
    rw [List.mem_filter, List.mem_range] at hn
    exact ⟨n, hn.1, hn.2, rfl⟩
  · rintro ⟨n, h1, h2, rfl⟩
    exact ⟨n, List.mem_filter.2 ⟨List.mem_range.2 h1, h2⟩, rfl⟩
theorem of_nodes {A : List AL} {k : A8 Int} {i : Nat} (h : (ofA A k).testBit i = true) : (nodesA A).testBit i = true := by
  obtain ⟨h1, x, hx, _, _, g, hg, e⟩ := ofA_bit.1 h
  exact nodesA_bit.2 ⟨h1, x, hx, g, hg, e⟩
theorem outF_eq {A : List AL} {w : List T_api_Write} {x : T_api_Write} (hx : x ∈ w) : outF x 0 (mems A w) = ofA A x.f_Key := by
  refine ext_bit fun i => ?_
  rw [outF_bit, Nat.zero_testBit]
  constructor
  · rintro (h | ⟨m, hm, rfl, _, y, hy, e⟩)
    · cases h
    · obtain ⟨n, _, _, rfl⟩ := mem_mems.1 hm
      have := (List.mem_filter.1 hy).2
      rw [e] at this; exact this
  · intro h
    have h1 := (ofA_bit.1 h).1
    exact .inr ⟨_, mem_mems.2 ⟨i, h1, of_nodes h, rfl⟩, rfl, h1, x, List.mem_filter.2 ⟨hx, h⟩, rfl⟩
def nodF (s : Nat) (q : List Mm) : Nat := q.foldl (fun s m => addN s m.1) s
theorem nodF_bit : ∀ (q : List Mm) (s i : Nat), (nodF s q).testBit i = true ↔ s.testBit i = true ∨ ∃ m ∈ q, i = m.1 ∧ m.1 < 64
  | [], s, i => by simp [nodF]
  | m :: q, s, i => by
    show (nodF (addN s m.1) q).testBit i = true ↔ _
    rw [nodF_bit q, addN_bit, Bool.or_eq_true, Bool.and_eq_true, decide_eq_true_eq, decide_eq_true_eq]
    constructor
    · rintro ((h | h) | ⟨z, hz, h⟩)
      · exact .inl h
      · exact .inr ⟨m, List.mem_cons_self, h⟩
      · exact .inr ⟨z, List.mem_cons_of_mem _ hz, h⟩
    · rintro (h | ⟨z, hz, h⟩)
      · exact .inl (.inl h)
      · rcases List.mem_cons.1 hz with rfl | hz
        · exact .inl (.inr h)
        · exact .inr ⟨z, hz, h⟩
theorem nodF_eq (A : List AL) (w : List T_api_Write) : nodF 0 (mems A w) = nodesA A := by
  refine ext_bit fun i => ?_
  rw [nodF_bit, Nat.zero_testBit]
  constructor
  · rintro (h | ⟨m, hm, rfl, _⟩)
    · cases h
    · obtain ⟨n, _, h2, rfl⟩ := mem_mems.1 hm
      exact h2
  · intro h
    have h1 := (nodesA_bit.1 h).1
    exact .inr ⟨_, mem_mems.2 ⟨i, h1, h, rfl⟩, rfl, h1⟩
theorem mod64 {n : Nat} (h : n < 64) : Int.tmod (n : Int) 64 = (n : Int) := by
  rw [show (64 : Int) = ((64 : Nat) : Int) from rfl, ← Int.ofNat_tmod, Nat.mod_eq_of_lt h]
theorem addN_u {s n : Nat} (hs : s < 18446744073709551616) (h : n < 64) : IntKind.wrap .u64 ((BitVec.ofInt (IntKind.bits .u64) (s : Int) ||| BitVec.ofInt (IntKind.bits .u64) (IntKind.wrap .u64 (1 * 2 ^ (min (Int.toNat (n : Int)) (IntKind.bits .u64))))).toNat : Int) = ((addN s n : Nat) : Int) := by
  rw [shl n h, or_u s _ hs (pow_lt h)]
  unfold addN; rw [if_pos h]

abbrev Y7 := List T_coord_Member × List Int × Int
theorem getM {q : List Mm} {y : Y7} (hy : y.1 = q.map mM) {j : Nat} (hj : j < q.length) : y.1.getD j default = mM (q.getD j default) := by
  rw [hy]; simp [List.getD_eq_getElem?_getD, List.getElem?_eq_getElem hj]
theorem getM_mem {q : List Mm} {j : Nat} (hj : j < q.length) : q.getD j default ∈ q := by
  rw [List.getD_eq_getElem?_getD, List.getElem?_eq_getElem hj]; exact List.getElem_mem hj
theorem all2 {l : List T_parrelref20_Lock} {w : List T_api_Write} {y : Y7} {q : List Mm} (hy : y.1 = q.map mM) {i j : Nat} (hj : j < q.length) (h64 : (q.getD j default).1 < 64) (hlen : (q.getD j default).2.2.length ≤ 1000)
    (hu : ∀ z ∈ (q.getD j default).2.2, z.f_Key = (w.getD i default).f_Key → z = w.getD i default) (k1 : Int → Int → Option Bool) (s : Nat) (hs : s < 18446744073709551616) :
    parrellaw20_MissAll_l2 l w (i : Int) (j : Int) y k1 big (s : Int) 0 = k1 ((innF (w.getD i default) (q.getD j default).1 s (q.getD j default).2.2 : Nat) : Int) (IntKind.wrap .i64 ((j : Int) + 1)) := by
  have ey := getM hy hj
  have hw := parrellaw20_MissAll_w2 l w (i : Int) (j : Int) y k1 (s : Int)
  rw [Int.toNat_natCast, ey] at hw
  rw [hw (by show (q.getD j default).2.2.length < _; omega)]
  have := walkN_fold (R := Bool) (fun s : Nat => (s : Int)) (fun s (z : T_api_Write) => if z.f_Key = (w.getD i default).f_Key then addN s (q.getD j default).1 else s) (fun s => s < 18446744073709551616) (q.getD j default).2.2
    (parrellaw20_MissAll_b2 w (i : Int) (j : Int) y (fun s_ => k1 s_ (IntKind.wrap .i64 ((j : Int) + 1)))) (parrellaw20_MissAll_e2 (fun s_ => k1 s_ (IntKind.wrap .i64 ((j : Int) + 1))))
    (fun t s k ht hs => by
      unfold parrellaw20_MissAll_b2
      rw [Int.toNat_natCast, Int.toNat_natCast, ey]
      show (if (decide (((q.getD j default).2.2.getD t default).f_Key = (w.getD i default).f_Key)) = true then _ else _) = _
      by_cases e : ((q.getD j default).2.2.getD t default).f_Key = (w.getD i default).f_Key
      · have e2 := hu _ (getD_mem ht) e
        have em : (mM (q.getD j default)).f_Node = ((q.getD j default).1 : Int) := rfl
        have ew : (mM (q.getD j default)).f_Writes = (q.getD j default).2.2 := rfl
        rw [if_pos (decide_eq_true e), if_pos e, ew, if_neg (by rw [e2]; simp), em, mod64 h64, if_pos (by omega), addN_u hs h64]
      · rw [if_neg (by simpa using e), if_neg e])
    (fun t s ht hs => by split <;> first | exact addN_lt hs _ | exact hs) s hs
  exact this
theorem all1 {l : List T_parrelref20_Lock} {w : List T_api_Write} {y : Y7} {q : List Mm} (hy : y.1 = q.map mM) {i : Nat} (hq : q.length ≤ 1000) (h64 : ∀ m ∈ q, m.1 < 64) (hlen : ∀ m ∈ q, m.2.2.length ≤ 1000)
    (hu : ∀ m ∈ q, ∀ z ∈ m.2.2, z.f_Key = (w.getD i default).f_Key → z = w.getD i default) (k0 : Int → Option Bool) :
    parrellaw20_MissAll_l1 l w (i : Int) y k0 big 0 0 = parrellaw20_MissAll_e1 w (i : Int) y (fun _ => k0 (IntKind.wrap .i64 ((i : Int) + 1))) ((outF (w.getD i default) 0 q : Nat) : Int) := by
  have hlq : y.1.length = q.length := by rw [hy, List.length_map]
  rw [parrellaw20_MissAll_w1 l w (i : Int) y k0 0 (by omega), hlq]
  exact walkN_fold (R := Bool) (fun s : Nat => (s : Int)) (fun s (m : Mm) => innF (w.getD i default) m.1 s m.2.2) (fun s => s < 18446744073709551616) q _ _
    (fun j s k hj hs => by
      have hm := getM_mem hj
      unfold parrellaw20_MissAll_b1
      rw [all2 hy hj (h64 _ hm) (hlen _ hm) (hu _ hm) _ s hs])
    (fun j s hj hs => innF_lt _ _ _ hs) 0 (by omega)
theorem less_self {a b : Nat} (ha : a < 18446744073709551616) (h : ∀ i, a.testBit i = true → b.testBit i = true) : less a b = 0 := by
  refine ext_bit fun i => ?_
  rw [less_bit _ _ ha, Nat.zero_testBit, Bool.and_eq_true, Bool.not_eq_true']
  constructor
  · rintro ⟨h1, h2⟩; rw [h i h1] at h2; cases h2
  · intro h; cases h
theorem all_e1 {w : List T_api_Write} {y : Y7} {i N : Nat} (hw : WfV (w.getD i default).f_Item.f_Conf) (hN : N < 18446744073709551616) (hc : canW (w.getD i default).f_Item.f_Conf N = true) (hi : i < y.2.1.length) (hy : y.2.1.getD i default = ((missV (w.getD i default).f_Item.f_Conf N : Nat) : Int)) (k0 : Unit → Option Bool) :
    parrellaw20_MissAll_e1 w (i : Int) y k0 (N : Int) = k0 () := by
  have hV := setOf_lt (voterV (w.getD i default).f_Item.f_Conf)
  have hM : missV (w.getD i default).f_Item.f_Conf N < 18446744073709551616 := less_lt _ _
  unfold parrellaw20_MissAll_e1
  rw [Int.toNat_natCast, voters_eq, Option.bind_some, writes_eq hw hN, Option.bind_some, hc, if_neg (by simp), if_pos (by omega), hy, and_u _ _ hM hN, or_u _ _ hM hN, and_u _ _ (or_lt hM hN) hV, less_u]
  have a1 : missV (w.getD i default).f_Item.f_Conf N &&& N = 0 := by
    refine Nat.eq_of_testBit_eq fun j => ?_
    rw [Nat.testBit_and, missV_bit, Nat.zero_testBit]
    cases N.testBit j <;> simp
  have a2 : (missV (w.getD i default).f_Item.f_Conf N ||| N) &&& setOf (voterV (w.getD i default).f_Item.f_Conf) = setOf (voterV (w.getD i default).f_Item.f_Conf) := by
    refine Nat.eq_of_testBit_eq fun j => ?_
    rw [Nat.testBit_and, Nat.testBit_or, missV_bit, setOf_bit]
    cases N.testBit j <;> simp
  have a3 : less (missV (w.getD i default).f_Item.f_Conf N) (setOf (voterV (w.getD i default).f_Item.f_Conf)) = 0 := less_self hM fun j hj => by
    rw [missV_bit, Bool.and_eq_true] at hj
    rw [setOf_bit]; exact hj.1
  rw [a1, a2, a3, if_neg (by simp), if_neg (by simp), if_neg (by simp)]
theorem all3 {l : List T_parrelref20_Lock} {w : List T_api_Write} {y : Y7} {q : List Mm} (hy : y.1 = q.map mM) (hq : q.length ≤ 1000) (h64 : ∀ m ∈ q, m.1 < 64) (hlen : ∀ m ∈ q, m.2.2.length ≤ w.length) (hw : w.length ≤ 1000) (hr : q.Pairwise fun a b => a.1 < b.1) :
    parrellaw20_MissAll_l3 l w y big 0 0 = parrellaw20_MissAll_e3 l ((nodF 0 q : Nat) : Int) := by
  have hlq : y.1.length = q.length := by rw [hy, List.length_map]
  rw [parrellaw20_MissAll_w3 l w y 0 (by omega), hlq]
  exact walkN_fold (R := Bool) (fun s : Nat => (s : Int)) (fun s (m : Mm) => addN s m.1) (fun s => s < 18446744073709551616) q _ _
    (fun j s k hj hs => by
      have hm := getM_mem hj
      have h1 := h64 _ hm
      have h2 := hlen _ hm
      have em : (mM (q.getD j default)).f_Node = ((q.getD j default).1 : Int) := rfl
      have ew : (mM (q.getD j default)).f_Writes = (q.getD j default).2.2 := rfl
      unfold parrellaw20_MissAll_b3
      rw [getM hy hj, em, ew, mod64 h1, if_pos (by omega), addN_u hs h1]
      have hle : ¬ decide ((w.length : Int) < ((q.getD j default).2.2.length : Int)) = true := by rw [decide_eq_true_eq]; omega
      by_cases h0 : 0 < j
      · have hp : (q.getD (j - 1) default).1 < (q.getD j default).1 := by
          have := List.pairwise_iff_getElem.1 hr (j - 1) j (by omega) hj (by omega)
          simpa [List.getD_eq_getElem?_getD, List.getElem?_eq_getElem hj, List.getElem?_eq_getElem (show j - 1 < q.length by omega)] using this
        have e1 : IntKind.wrap .i64 ((j : Int) - 1) = ((j - 1 : Nat) : Int) := dec1 h0 hj (by omega)
        have em1 : (mM (q.getD (j - 1) default)).f_Node = ((q.getD (j - 1) default).1 : Int) := rfl
        rw [if_pos (by rw [decide_eq_true_eq]; omega), e1, Int.toNat_natCast, getM hy (show j - 1 < q.length by omega), em1, if_pos (by omega), if_neg (by rw [decide_eq_true_eq]; omega), if_neg hle]
      · rw [if_neg (by rw [decide_eq_true_eq]; omega), if_neg hle])
    (fun j s hj hs => addN_lt hs _) 0 (by omega)
theorem mems_rise (A : List AL) (w : List T_api_Write) : (mems A w).Pairwise fun a b => a.1 < b.1 := by
  unfold mems
  rw [List.pairwise_map]
  exact (List.pairwise_lt_range (n := 64)).filter _
theorem planA_cases (A : List AL) (w : List T_api_Write) : (∃ e : Int, e ≠ 0 ∧ planA A w = ([], [], e)) ∨ (mayW w = true ∧ (∀ x ∈ w, canW x.f_Item.f_Conf (ofA A x.f_Key) = true) ∧ planA A w = (mems A w, misses A w, 0)) := by
  unfold planA
  split
  · exact .inl ⟨1, by decide, rfl⟩
  split
  · exact .inl ⟨1, by decide, rfl⟩
  split
  · exact .inl ⟨14, by decide, rfl⟩
  split
  · exact .inl ⟨6, by decide, rfl⟩
  split
  · exact .inl ⟨16, by decide, rfl⟩
  · rename_i h1 _ _ h2
    refine .inr ⟨by simpa using h1, fun x hx => ?_, rfl⟩
    cases hc : canW x.f_Item.f_Conf (ofA A x.f_Key) with
    | true => rfl
    | false => exact absurd (List.any_eq_true.2 ⟨x, hx, by rw [hc]; rfl⟩) h2
theorem all_eq {l : List T_parrelref20_Lock} {w : List T_api_Write} (hl : l.length * 40 ≤ 140737488351232) (h : ∀ x ∈ l, WfRL x) (hw : WfWs w) : parrellaw20_MissAll l w = some true := by
  obtain ⟨f, hf1, hf2⟩ := far_eq hl hw.len (fun x hx => (h x hx).len)
  unfold parrellaw20_MissAll
  rw [hf1, Option.bind_some]
  cases f with
  | true => exact alive_tail
  | false =>
    obtain ⟨h1, h2, _⟩ := hf2 rfl
    have hcl : (l.map cvL).length < 4611686018427387904 := by rw [List.length_map]; omega
    rw [if_neg Bool.false_ne_true, theirs_eq (by omega) h, Option.bind_some, plan_eq hcl (cv_wf h) hw, Option.bind_some, ab_map]
    rcases planA_cases (l.map abR) w with ⟨e, he, hp⟩ | ⟨hmw, hcan, hp⟩
    · rw [hp, if_pos (by show (e != 0) = true; simpa using he), if_pos (by rfl)]
      exact alive_tail
    · obtain ⟨b1, b2, b3⟩ := planA_bnd (l.map abR) w
      rw [hp] at b1 b2 b3 ⊢
      generalize hA : l.map abR = A at b1 b2 b3 hcan ⊢
      have e1 : (toM (mems A w, misses A w, 0)).1 = (mems A w).map mM := rfl
      have e2 : (toM (mems A w, misses A w, 0)).2.1 = (misses A w).map fun n => ((n : Nat) : Int) := rfl
      have e3 : (toM (mems A w, misses A w, 0)).2.2 = 0 := rfl
      have elen : (toM (mems A w, misses A w, 0)).2.1.length = w.length := by rw [e2, List.length_map]; unfold misses; rw [List.length_map]
      generalize toM (mems A w, misses A w, 0) = y at e1 e2 e3 elen ⊢
      have q64 : ∀ m ∈ mems A w, m.1 < 64 := fun m hm => by obtain ⟨n, hn, _, rfl⟩ := mem_mems.1 hm; exact hn
      have qlen : ∀ m ∈ mems A w, m.2.2.length ≤ 1000 := fun m hm => by have := b2 m hm; omega
      rw [if_neg (by rw [e3]; simp), if_neg (by rw [elen]; simp), parrellaw20_MissAll_w0 l w y (by omega)]
      have hr : ∀ i, i < w.length → ∀ k, parrellaw20_MissAll_b0 l w y i () k = k () := fun i hi k => by
        have hx : w.getD i default ∈ w := getD_mem hi
        unfold parrellaw20_MissAll_b0
        rw [all1 e1 (by have := b1; show (mems A w).length ≤ 1000; exact Nat.le_trans b1 (by omega)) q64 qlen (fun m hm z hz e => by
          obtain ⟨n, _, _, rfl⟩ := mem_mems.1 hm
          exact key_uniq hmw hx (List.mem_filter.1 hz).1 e), outF_eq hx]
        refine all_e1 (hw.w _ hx).i.c (ofA_lt _ _) (hcan _ hx) (by omega) ?_ _
        rw [e2]
        unfold misses
        rw [List.map_map]
        simp [List.getD_eq_getElem?_getD, List.getElem?_eq_getElem hi]
      rw [walkN_any (fun _ => false) (some false) _ _ w.length 0 (fun j _ hj k => by rw [hr j (by omega) k]; rfl), if_neg (by simp)]
      unfold parrellaw20_MissAll_e0
      rw [all3 e1 (Nat.le_trans b1 (by omega)) q64 b2 (by omega) (mems_rise A w), nodF_eq]
      unfold parrellaw20_MissAll_e3
      rw [theirs_eq (by omega) h, Option.bind_some, nodes_eq hcl (cv_wf h), ab_map, hA, Option.bind_some, if_pos (by simp)]
      exact alive_tail
theorem all_law (l : List T_parrelref20_Lock) (w : List T_api_Write) (h0 : (∀ a ∈ l, wfLk a) ∧ l.length * 40 ≤ 140737488351232) (h1 : (∀ a ∈ w, wfL (c_T_api_Write a)) ∧ w.length * 48 ≤ 140737488351232) : parrellaw20_MissAll l w = some true :=
  all_eq h0.2 (fun x hx => wfRL_of (h0.1 x hx)) ⟨fun x hx => wfW_of (h1.1 x hx), h1.2⟩
end Go.Proofs.YtdjmfgknonkojaaDoor.Wk
