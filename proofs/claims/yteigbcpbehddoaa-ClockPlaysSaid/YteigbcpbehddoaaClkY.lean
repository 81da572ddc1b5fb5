/- The law of the clock: ClockPlays. -/
import Derived.Test.YteigbcpbehddoaaClkN
import Derived.Test.YteigbcpbehddoaaCnY
set_option linter.unusedVariables false
set_option linter.unusedSimpArgs false
set_option linter.unusedSectionVars false
namespace Go.Proofs.Yteigbcpbehddoaa.Wk
open Go Go.Cn

abbrev RN := T_parrelref09_Name
abbrev RT := T_parrelref09_Timer
def th (n : RN) : Nm := T_clock_Name.mk n.f_Kind n.f_Tx
def thB (n : Nm) : RN := T_parrelref09_Name.mk n.f_Kind n.f_Tx
theorem thB_th (n : RN) : thB (th n) = n := rfl
theorem th_inj {a b : RN} (h : th a = th b) : a = b := by
  have := congrArg thB h; exact this
theorem theirs_eq (n : RN) : parrellaw09_theirs n = some (th n) := rfl
def tmk (t : RT) : Nm × Int := (th t.f_Name, t.f_At)
/-- A timer's place in the document's order. -/
def tL (t : RT) : List Int := t.f_At :: nmL (th t.f_Name)
def ah (a b : RT) : Prop := lexI (tL a) (tL b) < 0
instance (a b : RT) : Decidable (ah a b) := inferInstanceAs (Decidable (_ < _))
theorem first_eq (a b c a' b' c' : Int) : parrelref05_first [a, b, c] [a', b', c'] = some (lexI [a, b, c] [a', b', c']) := by
  unfold parrelref05_first
  rw [show big = (big - 4) + 1 + 1 + 1 + 1 from by rw [big_eq]]
  generalize big - 4 = f
  rw [parrelref05_first_l0]
  simp only [List.length_cons, List.length_nil, lexI]
  simp [parrelref05_first_l0, IntKind.wrap, IntKind.bits, IntKind.signed]
  repeat' split
  all_goals first | rfl | omega | simp_all
theorem rtxs_eq (a b : T_api_Tx) (ha : 0 ≤ a.f_Node ∧ a.f_Node < 256) (hb : 0 ≤ b.f_Node ∧ b.f_Node < 256) : parrelref05_Txs a b = some (lexI (txL a) (txL b)) := by
  simp only [parrelref05_Txs, parrelref05_numbers, Option.bind_some]
  rw [first_eq, wu32' (by omega) (by omega : a.f_Node < 4294967296), wu32' (by omega) (by omega : b.f_Node < 4294967296)]
  rfl
/-- A name that may come in. -/
def nOk (n : RN) : Prop := 0 ≤ n.f_Tx.f_Node ∧ n.f_Tx.f_Node < 256
theorem ahead_eq {a b : RT} (ha : nOk a.f_Name) (hb : nOk b.f_Name) : parrelref09_ahead a b = some (decide (ah a b)) := by
  unfold parrelref09_ahead
  rw [rtxs_eq _ _ ha hb]
  change _ = some (decide (lexI (tL a) (tL b) < 0))
  have key : lexI (tL a) (tL b) = if a.f_At < b.f_At then -1 else if b.f_At < a.f_At then 1 else if a.f_Name.f_Kind < b.f_Name.f_Kind then -1 else if b.f_Name.f_Kind < a.f_Name.f_Kind then 1 else lexI (txL a.f_Name.f_Tx) (txL b.f_Name.f_Tx) := rfl
  rw [key]
  simp only [Option.bind_some]
  by_cases h1 : a.f_At = b.f_At
  · by_cases h2 : a.f_Name.f_Kind = b.f_Name.f_Kind
    · simp [h1, h2]
    · rw [if_neg (by simpa using h1), if_pos (by simpa using h2)]
      congr 1
      rw [decide_eq_decide]
      rw [if_neg (by omega), if_neg (by omega)]
      split
      · constructor <;> intro <;> omega
      · rw [if_pos (by omega)]; constructor <;> intro <;> omega
  · rw [if_pos (by simpa using h1)]
    congr 1
    rw [decide_eq_decide]
    split
    · constructor <;> intro <;> omega
    · rw [if_pos (by omega)]; constructor <;> intro <;> omega
theorem ah_trans {a b c : RT} (h1 : ah a b) (h2 : ah b c) : ah a c := by
  unfold ah at *
  have h3 := lex_trans (tL a) (tL b) (tL c) rfl rfl (by omega) (by omega)
  have h4 : lexI (tL a) (tL c) ≠ 0 := fun h => by
    have e := (lex_zero (tL a) (tL c) rfl).1 h
    rw [e] at h1
    have := lex_anti (tL c) (tL b); omega
  omega
/-- What the document's list tells. -/
structure Tells (now : Int) (at_ : Mp) (L : List RT) : Prop where
  perm : (L.map tmk).Perm at_
  ok : ∀ t ∈ L, nOk t.f_Name ∧ now < t.f_At
  sorted : L.Pairwise ah

section
variable {now : Int} {at_ : Mp} {L : List RT}
theorem Tells.get (h : Tells now at_ L) (hu : Uk at_) (n : RN) (v : Int) : mget at_ (th n) = some v ↔ ∃ t ∈ L, t.f_Name = n ∧ t.f_At = v := by
  constructor
  · intro hg
    have := h.perm.mem_iff.2 (mget_mem hg)
    obtain ⟨t, ht, e⟩ := List.mem_map.1 this
    simp only [tmk, Prod.mk.injEq] at e
    exact ⟨t, ht, th_inj e.1, e.2⟩
  · rintro ⟨t, ht, rfl, rfl⟩
    exact mem_mget hu (h.perm.mem_iff.1 (List.mem_map.2 ⟨t, ht, rfl⟩))
theorem Tells.len (h : Tells now at_ L) : L.length = at_.length := by have := h.perm.length_eq; simpa using this
theorem Tells.uniq (h : Tells now at_ L) (hu : Uk at_) {s t : RT} (hs : s ∈ L) (ht : t ∈ L) (e : s.f_Name = t.f_Name) : s = t := by
  have h1 := (h.get hu s.f_Name s.f_At).2 ⟨s, hs, rfl, rfl⟩
  have h2 := (h.get hu s.f_Name t.f_At).2 ⟨t, ht, e.symm, rfl⟩
  rw [h1] at h2
  have e2 := Option.some.inj h2
  cases s; cases t; simp_all

theorem place_loop (c : T_parrelref09_Clock) (n : RN) (hb : c.f_L.length < 4611686018427387904) : ∀ (fuel k : Nat), c.f_L.length - k < fuel → k ≤ c.f_L.length → (∀ j, j < k → (c.f_L.getD j default).f_Name ≠ n) →
    (parrelref09_Clock_place_l0 c n fuel (k : Int) = some (-1) ∧ ∀ j, j < c.f_L.length → (c.f_L.getD j default).f_Name ≠ n) ∨ ∃ i : Nat, i < c.f_L.length ∧ parrelref09_Clock_place_l0 c n fuel (k : Int) = some (i : Int) ∧ (c.f_L.getD i default).f_Name = n
  | 0, k, h, _, _ => by omega
  | fuel + 1, k, h, hk, hn => by
    rw [parrelref09_Clock_place_l0]
    by_cases hlt : k < c.f_L.length
    · rw [if_pos (by simp only [decide_eq_true_eq]; omega), if_pos (by omega), Int.toNat_natCast]
      by_cases he : (c.f_L.getD k default).f_Name = n
      · rw [if_pos (by simpa using he)]
        exact .inr ⟨k, hlt, rfl, he⟩
      · rw [if_neg (by simpa using he), w64 (by omega) (by omega), show ((k : Int) + 1) = ((k + 1 : Nat) : Int) by omega]
        refine place_loop c n hb fuel (k + 1) (by omega) (by omega) fun j hj => ?_
        rcases Nat.lt_or_ge j k with h | h
        · exact hn j h
        · rw [show j = k by omega]; exact he
    · rw [if_neg (by simp only [decide_eq_true_eq]; omega)]
      exact .inl ⟨rfl, fun j hj => hn j (by omega)⟩
theorem getD_mem {α : Type} {l : List α} {i : Nat} {d : α} (h : i < l.length) : l.getD i d ∈ l := by
  rw [List.getD_eq_getElem?_getD, List.getElem?_eq_getElem h]; exact List.getElem_mem h
/-- Where a timer stands. -/
theorem place_eq (now : Int) (L : List RT) (n : RN) (hb : L.length < 4611686018427387904) : (parrelref09_Clock_place (T_parrelref09_Clock.mk now L) n = some (-1) ∧ ∀ t ∈ L, t.f_Name ≠ n) ∨
    ∃ i : Nat, i < L.length ∧ parrelref09_Clock_place (T_parrelref09_Clock.mk now L) n = some (i : Int) ∧ (L.getD i default).f_Name = n := by
  rcases place_loop (T_parrelref09_Clock.mk now L) n hb big 0 (big_lt (show L.length - 0 < _ by omega)) (by omega) (fun j h => by omega) with ⟨h1, h2⟩ | h
  · refine .inl ⟨h1, fun t ht => ?_⟩
    obtain ⟨j, hj, rfl⟩ := List.getElem_of_mem ht
    have := h2 j hj
    rw [List.getD_eq_getElem?_getD, List.getElem?_eq_getElem hj] at this
    exact this
  · exact .inr h
theorem place_none (h : Tells now at_ L) (hu : Uk at_) {n : RN} (hb : L.length < 4611686018427387904) (hg : mget at_ (th n) = none) : parrelref09_Clock_place (T_parrelref09_Clock.mk now L) n = some (-1) := by
  rcases place_eq now L n hb with ⟨h1, _⟩ | ⟨i, h1, _, h3⟩
  · exact h1
  · have := (h.get hu n _).2 ⟨_, getD_mem h1, h3, rfl⟩
    rw [hg] at this; cases this
theorem place_some (h : Tells now at_ L) (hu : Uk at_) {n : RN} {v : Int} (hb : L.length < 4611686018427387904) (hg : mget at_ (th n) = some v) : ∃ i : Nat, i < L.length ∧ parrelref09_Clock_place (T_parrelref09_Clock.mk now L) n = some (i : Int) ∧ (L.getD i default).f_Name = n ∧ (L.getD i default).f_At = v := by
  rcases place_eq now L n hb with ⟨_, h2⟩ | ⟨i, h1, h2, h3⟩
  · obtain ⟨t, ht, e, _⟩ := (h.get hu n v).1 hg
    exact absurd e (h2 t ht)
  · refine ⟨i, h1, h2, h3, ?_⟩
    have := (h.get hu n _).2 ⟨_, getD_mem h1, h3, rfl⟩
    rw [hg] at this; exact (Option.some.inj this).symm
theorem runtil_eq (h : Tells now at_ L) (hu : Uk at_) (n : RN) (hb : L.length < 4611686018427387904) : parrelref09_Clock_Until (T_parrelref09_Clock.mk now L) n = some ((mget at_ (th n)).getD default, (mget at_ (th n)).isSome) := by
  unfold parrelref09_Clock_Until
  cases hg : mget at_ (th n) with
  | none => rw [place_none h hu hb hg]; rfl
  | some v =>
    obtain ⟨i, h1, h2, h3, h4⟩ := place_some h hu hb hg
    rw [h2]
    simp only [Option.bind_some]
    rw [if_neg (by simp only [decide_eq_true_eq]; omega), if_pos (by omega), Int.toNat_natCast, h4]
    rfl
theorem mdel_perm {m : Mp} {k : Nm} {v : Int} (h : mget m k = some v) : m.Perm ((k, v) :: mdel m k) := by
  induction m with
  | nil => simp [mget] at h
  | cons e r ih =>
    obtain ⟨a, b⟩ := e
    simp only [mget] at h
    split at h
    · rename_i e; subst e; cases h; simp [mdel]
    · rename_i hne
      simp only [mdel, if_neg hne]
      exact ((ih h).cons (a, b)).trans (List.Perm.swap _ _ _)
theorem mset_perm {m : Mp} {k : Nm} {v : Int} (h : mget m k = none) : (mset m k v).Perm ((k, v) :: m) := by
  induction m with
  | nil => exact List.Perm.refl _
  | cons e r ih =>
    obtain ⟨a, b⟩ := e
    simp only [mget] at h
    split at h
    · cases h
    · rename_i hne
      simp only [mset, if_neg hne]
      exact ((ih h).cons (a, b)).trans (List.Perm.swap _ _ _)
/-- A timer stopped. -/
theorem rstop_eq (h : Tells now at_ L) (hu : Uk at_) (n : RN) (hb : L.length ≤ 2000) : ∃ L', parrelref09_Clock_Stop (T_parrelref09_Clock.mk now L) n = some ((mget at_ (th n)).isSome, now, L') ∧ Tells now (mdel at_ (th n)) L' := by
  unfold parrelref09_Clock_Stop
  cases hg : mget at_ (th n) with
  | none =>
    rw [place_none h hu (by omega) hg]
    refine ⟨L, rfl, ?_⟩
    rw [mdel_none hg]; exact h
  | some v =>
    obtain ⟨i, h1, h2, h3, h4⟩ := place_some h hu (by omega) hg
    rw [h2]
    simp only [Option.bind_some]
    have e1 : IntKind.wrap .i64 ((i : Int) + 1) = ((i + 1 : Nat) : Int) := by rw [w64 (by omega) (by omega)]; omega
    rw [if_neg (by simp only [decide_eq_true_eq]; omega), if_pos (by omega), e1, Int.toNat_natCast, Int.toNat_natCast, if_pos (by simp only [List.length_take]; omega), if_pos (by omega), if_pos (by simp only [List.length_take, List.length_drop]; omega)]
    refine ⟨_, rfl, ?_⟩
    have hsplit : L = L.take i ++ L.getD i default :: L.drop (i + 1) := by rw [← getD_drop L i default h1, List.take_append_drop]
    have hsub : (L.take i ++ L.drop (i + 1)).Sublist L := by
      conv => rhs; rw [hsplit]
      exact (List.Sublist.refl _).append (List.sublist_cons_self _ _)
    refine ⟨?_, fun t ht => h.ok t (hsub.subset ht), h.sorted.sublist hsub⟩
    have p1 : L.Perm (L.getD i default :: (L.take i ++ L.drop (i + 1))) := by
      conv => lhs; rw [hsplit]
      exact List.perm_middle
    have p2 := ((p1.map tmk).symm.trans h.perm).trans (mdel_perm hg)
    have e : tmk (L.getD i default) = (th n, v) := by simp only [tmk, h3, h4]
    rw [List.map_cons, e] at p2
    exact List.Perm.cons_inv p2

theorem setL_loop (c : T_parrelref09_Clock) (n : RN) (after now : Int) (L : List RT) (A : Int) (hn : nOk n) (hok : ∀ t ∈ L, nOk t.f_Name) (hs : L.Pairwise ah) (hb : L.length ≤ 2000) (hne : ∀ t ∈ L, t.f_Name ≠ n) : ∀ (fuel k : Nat), L.length - k < fuel → k ≤ L.length → (∀ t ∈ L.take k, ah t (T_parrelref09_Timer.mk n A)) →
    ∃ L', parrelref09_Clock_Set_l0 c n after fuel (k : Int) now L A = some (0, now, L') ∧ L'.Perm (T_parrelref09_Timer.mk n A :: L) ∧ L'.Pairwise ah
  | 0, k, h, _, _ => by omega
  | fuel + 1, k, h, hk, ht => by
    rw [parrelref09_Clock_Set_l0]
    have e1 : IntKind.wrap .i64 ((k : Int) + 1) = ((k + 1 : Nat) : Int) := by rw [w64 (by omega) (by omega)]; omega
    have fin : (∀ t ∈ L.drop k, ah (T_parrelref09_Timer.mk n A) t) → (L.take k ++ [T_parrelref09_Timer.mk n A] ++ L.drop k).Perm (T_parrelref09_Timer.mk n A :: L) ∧ (L.take k ++ [T_parrelref09_Timer.mk n A] ++ L.drop k).Pairwise ah := by
      intro hd
      constructor
      · rw [List.append_assoc, List.singleton_append]
        refine List.perm_middle.trans ?_
        rw [List.take_append_drop]
      · rw [List.append_assoc, List.singleton_append, List.pairwise_append]
        rw [← List.take_append_drop k L, List.pairwise_append] at hs
        refine ⟨hs.1, List.pairwise_cons.2 ⟨hd, hs.2.1⟩, fun a ha b hb' => ?_⟩
        rcases List.mem_cons.1 hb' with rfl | hb'
        · exact ht a ha
        · exact hs.2.2 a ha b hb'
    by_cases hlt : k < L.length
    · rw [if_pos (by simp only [decide_eq_true_eq]; omega), if_pos (by omega), Int.toNat_natCast, ahead_eq (hok _ (getD_mem hlt)) hn]
      simp only [Option.bind_some]
      by_cases ha : ah (L.getD k default) (T_parrelref09_Timer.mk n A)
      · rw [if_pos (by simpa using ha), e1]
        refine setL_loop c n after now L A hn hok hs hb hne fuel (k + 1) (by omega) (by omega) fun t htt => ?_
        rw [List.take_succ_eq_append_getElem hlt, List.mem_append] at htt
        rcases htt with htt | htt
        · exact ht t htt
        · have : t = L.getD k default := by rw [List.getD_eq_getElem?_getD, List.getElem?_eq_getElem hlt]; simpa using htt
          rw [this]; exact ha
      · rw [if_neg (by simpa using ha), if_pos (by omega), if_pos (by simp only [List.length_take]; omega), if_pos (by simp only [List.length_take, List.length_cons, List.length_nil]; omega), if_pos (by omega),
          if_pos (by simp only [List.length_append, List.length_take, List.length_drop, List.length_cons, List.length_nil]; omega)]
        obtain ⟨f1, f2⟩ := fin (fun t htt => by
          rw [getD_drop L k default hlt] at htt
          have h0 : ah (T_parrelref09_Timer.mk n A) (L.getD k default) := by
            unfold ah at ha ⊢
            have h5 := lex_anti (tL (L.getD k default)) (tL (T_parrelref09_Timer.mk n A))
            have h6 : lexI (tL (L.getD k default)) (tL (T_parrelref09_Timer.mk n A)) ≠ 0 := fun h => by
              have e := (lex_zero (tL (L.getD k default)) (tL (T_parrelref09_Timer.mk n A)) rfl).1 h
              simp only [tL, List.cons.injEq] at e
              have := (cfN_zero _ _).1 ((lex_zero (nmL (th (L.getD k default).f_Name)) (nmL (th n)) rfl).2 e.2)
              exact hne _ (getD_mem hlt) (th_inj this)
            omega
          rcases List.mem_cons.1 htt with rfl | htt
          · exact h0
          · have h7 : (L.getD k default :: L.drop (k + 1)).Pairwise ah := by
              rw [← getD_drop L k default hlt]; exact hs.sublist (List.drop_sublist k L)
            exact ah_trans h0 ((List.pairwise_cons.1 h7).1 t htt))
        exact ⟨_, rfl, f1, f2⟩
    · rw [if_neg (by simp only [decide_eq_true_eq]; omega), Int.toNat_natCast, if_pos (by omega), if_pos (by simp only [List.length_take]; omega), if_pos (by simp only [List.length_take, List.length_cons, List.length_nil]; omega), if_pos (by omega),
          if_pos (by simp only [List.length_append, List.length_take, List.length_drop, List.length_cons, List.length_nil]; omega)]
      obtain ⟨f1, f2⟩ := fin (fun t htt => by rw [List.drop_eq_nil_of_le (by omega)] at htt; cases htt)
      exact ⟨_, rfl, f1, f2⟩

theorem setL_start (c : T_parrelref09_Clock) (n : RN) (after now : Int) (L : List RT) (A : Int) (hn : nOk n) (hok : ∀ t ∈ L, nOk t.f_Name) (hs : L.Pairwise ah) (hb : L.length ≤ 2000) (hne : ∀ t ∈ L, t.f_Name ≠ n) (fuel : Nat) (hf : L.length < fuel) :
    ∃ L', parrelref09_Clock_Set_l0 c n after fuel 0 now L A = some (0, now, L') ∧ L'.Perm (T_parrelref09_Timer.mk n A :: L) ∧ L'.Pairwise ah := by
  have := setL_loop c n after now L A hn hok hs hb hne fuel 0 (by omega) (by omega) (fun t ht => by simp at ht)
  simpa only [Int.natCast_zero] using this
theorem mget_mdel_self {m : Mp} (hu : Uk m) (k : Nm) : mget (mdel m k) k = none := by rw [mdel_get hu]; simp
theorem set_on (c : T_parrelref09_Clock) (n : RN) (after now : Int) (B : Nat) (L1 : List RT) (b : Bool) : (some (b, now, L1)).bind (fun y8 : Bool × Int × List RT => parrelref09_Clock_Set_l0 c n after B 0 y8.2.1 y8.2.2 (IntKind.wrap .u32 (y8.2.1 + after))) = parrelref09_Clock_Set_l0 c n after B 0 now L1 (IntKind.wrap .u32 (now + after)) := by simp only [Option.bind_some]
/-- A set, by both. -/
theorem both_set {wheel : Wh} (h : Tells now at_ L) (hc : Cor at_ wheel) (n : RN) {after : Int} (hn : nOk n) (h0 : 0 ≤ now ∧ now ≤ 2147483647) (ha : 0 ≤ after) (hb : L.length ≤ 1000) :
    ∃ e w' m' L', clock_Clock_Set now at_ wheel (th n) after = some (e, now, w', m') ∧ parrelref09_Clock_Set (T_parrelref09_Clock.mk now L) n after = some (e, now, L') ∧ Cor m' w' ∧ Tells now m' L' ∧ m'.length ≤ at_.length + 1 := by
  have e1 : IntKind.wrap .u32 (2147483647 - now) = 2147483647 - now := wu32' (by omega) (by omega)
  have hlen := h.len
  unfold parrelref09_Clock_Set
  have hbig : 2000 < big := big_lt (by omega)
  generalize big = B at hbig ⊢
  rw [e1]
  by_cases h1 : after = 0
  · refine ⟨1, wheel, at_, L, ?_, by rw [if_pos (by simpa using h1)], hc, h, by omega⟩
    unfold clock_Clock_Set
    rw [until_eq]; simp only [Option.bind_some, clock_Clock_ok]
    rw [if_pos (by simpa using h1)]
  rw [if_neg (by simpa using h1)]
  by_cases h2 : 2147483647 - now < after
  · refine ⟨17, wheel, at_, L, ?_, by rw [if_pos (by simpa using h2)], hc, h, by omega⟩
    unfold clock_Clock_Set
    rw [until_eq]; simp only [Option.bind_some, clock_Clock_ok, e1]
    rw [if_neg (by simpa using h1), if_pos (by simpa using h2)]
  rw [if_neg (by simpa using h2)]
  obtain ⟨L1, s1, s2⟩ := rstop_eq h hc.uk n (by omega)
  have hlen1 : L1.length ≤ L.length := by
    have := s2.len; have := (mdel_sub at_ (th n)).length_le; omega
  have go : (∃ L', parrelref09_Clock_Set_l0 (T_parrelref09_Clock.mk now L) n after B 0 now L1 (IntKind.wrap .u32 (now + after)) = some (0, now, L') ∧ Tells now (mset (mdel at_ (th n)) (th n) (now + after)) L' ∧ L'.length ≤ L.length + 1) := by
    rw [wu32' (by omega) (by omega : now + after < 4294967296)]
    obtain ⟨L', k1, k2, k3⟩ := setL_start (T_parrelref09_Clock.mk now L) n after now L1 (now + after) hn (fun t ht => (s2.ok t ht).1) s2.sorted (by omega) (fun t ht e => by
      have := (s2.get (mdel_uk hc.uk (th n)) n _).2 ⟨t, ht, e, rfl⟩
      rw [mget_mdel_self hc.uk] at this; cases this) B (by omega)
    refine ⟨L', k1, ⟨?_, fun t ht => ?_, k3⟩, by have := k2.length_eq; simp only [List.length_cons] at this; omega⟩
    · refine (k2.map tmk).trans ?_
      rw [List.map_cons]
      exact (s2.perm.cons _).trans (mset_perm (mget_mdel_self hc.uk (th n))).symm
    · rcases List.mem_cons.1 (k2.mem_iff.1 ht) with rfl | ht
      · exact ⟨hn, by show now < now + after; omega⟩
      · exact s2.ok t ht
  obtain ⟨L', g1, g2, g3⟩ := go
  have hml := g2.len
  cases hg : mget at_ (th n) with
  | none =>
    rw [place_none h hc.uk (by omega) hg]
    simp only [Option.bind_some]
    rw [if_pos (by decide)]
    rw [if_neg (by simp only [decide_eq_true_eq]; omega)]
    obtain ⟨w', k1, k2⟩ := set_ok (now := now) (n := th n) (after := after) hc h0 (by omega) (by omega) (.inr (by omega))
    refine ⟨0, w', _, L', k1, ?_, k2, g2, by omega⟩
    rw [s1]
    exact (set_on _ n after now B L1 _).trans g1
  | some v =>
    obtain ⟨i, p1, p2, _⟩ := place_some h hc.uk (by omega) hg
    rw [p2]
    simp only [Option.bind_some]
    rw [if_neg (by simp only [decide_eq_true_eq]; omega)]
    obtain ⟨w', k1, k2⟩ := set_ok (now := now) (n := th n) (after := after) hc h0 (by omega) (by omega) (.inl (by rw [hg]; rfl))
    refine ⟨0, w', _, L', k1, ?_, k2, g2, by omega⟩
    rw [s1]
    exact (set_on _ n after now B L1 _).trans g1

theorem tick_loop (c : T_parrelref09_Clock) (t : Int) (hT : IntKind.wrap .u32 (c.f_Now + 1) = t) : ∀ (fuel : Nat) (L : List RT) (l : List RN), L.length < fuel → l.length + L.length ≤ 2000 →
    parrelref09_Clock_Tick_l0 c fuel L l = some (l ++ (L.takeWhile (fun x => x.f_At == t)).map (·.f_Name), 0, t, L.dropWhile (fun x => x.f_At == t))
  | 0, L, l, h, _ => by omega
  | fuel + 1, [], l, h, hb => by
    rw [parrelref09_Clock_Tick_l0, if_neg (by simp), hT]; simp
  | fuel + 1, a :: L, l, h, hb => by
    simp only [List.length_cons] at h hb
    rw [parrelref09_Clock_Tick_l0, if_pos (by simp only [decide_eq_true_eq, List.length_cons]; omega), if_pos (by simp only [List.length_cons]; omega), hT]
    show (if ((a.f_At == t) : Bool) then _ else _) = _
    by_cases ha : (a.f_At == t) = true
    · rw [if_pos ha, if_pos (by simp only [List.length_cons, List.length_nil]; omega), if_pos (by simp only [List.length_cons]; omega)]
      show parrelref09_Clock_Tick_l0 c fuel L (l ++ [a.f_Name]) = _
      rw [tick_loop c t hT fuel L _ (by omega) (by simp only [List.length_append, List.length_cons, List.length_nil]; omega), List.takeWhile_cons, List.dropWhile_cons, if_pos ha, if_pos ha]
      simp
    · rw [if_neg ha, List.takeWhile_cons, List.dropWhile_cons, if_neg ha, if_neg ha]
      simp
theorem uk_nodup {m : Mp} (h : Uk m) : m.Nodup := by
  induction m with
  | nil => exact List.nodup_nil
  | cons e r ih =>
    simp only [Uk, List.map_cons, List.nodup_cons] at h
    exact List.nodup_cons.2 ⟨fun hm => h.1 (List.mem_map.2 ⟨e, hm, rfl⟩), ih h.2⟩
theorem uk_sub {l m : Mp} (h : l.Sublist m) (hu : Uk m) : Uk l := (h.map (fun e : Nm × Int => e.1)).nodup hu
theorem uk_perm {l m : Mp} (h : l.Perm m) (hu : Uk m) : Uk l := ((h.map (fun e : Nm × Int => e.1)).nodup_iff).2 hu
theorem perm_of_mget {a b : Mp} (ha : Uk a) (hb : Uk b) (h : ∀ n, mget a n = mget b n) : a.Perm b := by
  refine (List.perm_ext_iff_of_nodup (uk_nodup ha) (uk_nodup hb)).2 fun ⟨n, v⟩ => ?_
  constructor
  · intro hm; exact mget_mem (by rw [← h]; exact mem_mget ha hm)
  · intro hm; exact mget_mem (by rw [h]; exact mem_mget hb hm)
theorem tw_filter {t : Int} : ∀ {L : List RT}, L.Pairwise ah → (∀ x ∈ L, t ≤ x.f_At) → L.takeWhile (fun x => x.f_At == t) = L.filter (fun x => x.f_At == t) ∧ L.dropWhile (fun x => x.f_At == t) = L.filter (fun x => !(x.f_At == t))
  | [], _, _ => ⟨rfl, rfl⟩
  | a :: L, hs, hm => by
    rw [List.pairwise_cons] at hs
    have ih := tw_filter hs.2 (fun x hx => hm x (List.mem_cons_of_mem _ hx))
    by_cases ha : (a.f_At == t) = true
    · rw [List.takeWhile_cons, List.dropWhile_cons, List.filter_cons, List.filter_cons, if_pos ha, if_pos ha, if_pos ha, if_neg (by simp [ha]), ih.1, ih.2]
      exact ⟨rfl, rfl⟩
    · have hat : t < a.f_At := by
        have := hm a List.mem_cons_self
        have : a.f_At ≠ t := fun e => ha (beq_iff_eq.2 e)
        omega
      have hgt : ∀ x ∈ L, ¬ (x.f_At == t) = true := fun x hx => by
        have := hs.1 x hx
        unfold ah tL at this
        simp only [lexI] at this
        split at this
        · simp; omega
        · split at this
          · omega
          · simp; omega
      rw [List.takeWhile_cons, List.dropWhile_cons, List.filter_cons, List.filter_cons, if_neg ha, if_neg ha, if_neg ha, if_pos (by simpa using ha), List.filter_eq_nil_iff.2 hgt, List.filter_eq_self.2 (fun x hx => by simpa using hgt x hx)]
      exact ⟨rfl, rfl⟩
theorem ours_loop (l : List Nm) (hb : l.length ≤ 2000) : ∀ (fuel k : Nat) (o : List RN), l.length - k < fuel → k ≤ l.length → o.length ≤ k → parrellaw09_ours_l0 l fuel (k : Int) o = some (o ++ (l.drop k).map thB)
  | 0, k, o, h, _, _ => by omega
  | fuel + 1, k, o, h, hk, ho => by
    rw [parrellaw09_ours_l0]
    by_cases hlt : k < l.length
    · rw [if_pos (by simp only [decide_eq_true_eq]; omega), if_pos (by omega), if_pos (by simp only [List.length_cons, List.length_nil]; omega), Int.toNat_natCast, w64 (by omega) (by omega), show ((k : Int) + 1) = ((k + 1 : Nat) : Int) by omega,
        ours_loop l hb fuel (k + 1) _ (by omega) (by omega) (by simp only [List.length_append, List.length_cons, List.length_nil]; omega), getD_drop l k default hlt]
      simp [thB]
    · rw [if_neg (by simp only [decide_eq_true_eq]; omega), List.drop_eq_nil_of_le (by omega)]; simp
theorem ours_eq (l : List Nm) (hb : l.length ≤ 2000) : parrellaw09_ours l = some (l.map thB) := by
  have := ours_loop l hb big 0 [] (big_lt (by omega)) (by omega) (by simp)
  simpa [parrellaw09_ours] using this
theorem same_loop (a : List RN) (hb : a.length ≤ 2000) : ∀ (fuel k : Nat), a.length - k < fuel → k ≤ a.length → parrelref09_Same_l0 a a fuel (k : Int) = some true
  | 0, k, h, _ => by omega
  | fuel + 1, k, h, hk => by
    rw [parrelref09_Same_l0]
    by_cases hlt : k < a.length
    · rw [if_pos (by simp only [decide_eq_true_eq]; omega), if_pos (by omega), if_pos (by omega), if_neg (by simp), w64 (by omega) (by omega), show ((k : Int) + 1) = ((k + 1 : Nat) : Int) by omega]
      exact same_loop a hb fuel (k + 1) (by omega) (by omega)
    · rw [if_neg (by simp only [decide_eq_true_eq]; omega)]
theorem same_eq (a : List RN) (hb : a.length ≤ 2000) : parrelref09_Same a a = some true := by
  have := same_loop a hb big 0 (big_lt (by omega)) (by omega)
  simpa [parrelref09_Same] using this
/-- A tick, by both. -/
theorem both_tick {wheel : Wh} (h : Tells now at_ L) (hc : Cor at_ wheel) (h0 : 0 ≤ now ∧ now < 2147483647) (hb : L.length ≤ 1000) :
    ∃ l w' m' K L', clock_Clock_Tick now at_ wheel = some (l, 0, now + 1, w', m') ∧ parrelref09_Clock_Tick (T_parrelref09_Clock.mk now L) = some (K, 0, now + 1, L') ∧ l.map thB = K ∧ l.length ≤ 2000 ∧ Cor m' w' ∧ Tells (now + 1) m' L' ∧ m'.length ≤ at_.length := by
  have hlen := h.len
  obtain ⟨l, w', m', t1, t2, t3, t4, t5, t6, t7⟩ := tick_eq (now := now) hc (by omega) (by omega)
  have e2 : IntKind.wrap .u32 (now + 1) = now + 1 := wu32' (by omega) (by omega)
  have k1 := tick_loop (T_parrelref09_Clock.mk now L) (now + 1) e2 big L [] (big_lt (by omega)) (by simp; omega)
  obtain ⟨f1, f2⟩ := tw_filter (t := now + 1) h.sorted (fun x hx => by have := (h.ok x hx).2; omega)
  rw [f1, f2, List.nil_append] at k1
  have hrt : parrelref09_Clock_Tick (T_parrelref09_Clock.mk now L) = some ((L.filter (fun x => x.f_At == now + 1)).map (·.f_Name), 0, now + 1, L.filter (fun x => !(x.f_At == now + 1))) := by
    unfold parrelref09_Clock_Tick
    rw [if_neg (by simp only [decide_eq_true_eq]; omega)]
    exact k1
  have hUL : Uk (L.map tmk) := uk_perm h.perm hc.uk
  -- the names that ring
  have hl : l = ((L.filter (fun x => x.f_At == now + 1)).map (·.f_Name)).map th := by
    have hmem : ∀ x, x ∈ l ↔ x ∈ ((L.filter (fun x => x.f_At == now + 1)).map (·.f_Name)).map th := by
      intro x
      rw [t3]
      have hx : x = th (thB x) := rfl
      rw [hx, h.get hc.uk]
      simp only [List.mem_map, List.mem_filter, beq_iff_eq]
      constructor
      · rintro ⟨t, ht, e1, e2⟩; exact ⟨t.f_Name, ⟨t, ⟨ht, e2⟩, rfl⟩, by rw [e1]⟩
      · rintro ⟨n, ⟨t, ⟨ht, e2⟩, rfl⟩, e⟩; exact ⟨t, ht, th_inj e, e2⟩
    have hnd : (((L.filter (fun x => x.f_At == now + 1)).map (·.f_Name)).map th).Nodup := by
      have hs : (((L.filter (fun x => x.f_At == now + 1)).map (·.f_Name)).map th) = ((L.filter (fun x => x.f_At == now + 1)).map tmk).map (·.1) := by simp [tmk]
      rw [hs]
      exact uk_sub (List.filter_sublist.map tmk) hUL
    have hp : (((L.filter (fun x => x.f_At == now + 1)).map (·.f_Name)).map th).Perm l := (List.perm_ext_iff_of_nodup hnd t4).2 fun x => (hmem x).symm
    have s1 := sortL_uniq cfN_total (l := l) (m := l) (t5.imp fun {a b} h => by
      have an : cfN a b = - cfN b a := lex_anti _ _
      simp only [Go.Proofs.ltOf, Bool.not_eq_true', decide_eq_false_iff_not]; omega) (List.Perm.refl _)
    have s2 := sortL_uniq cfN_total (l := l) (m := ((L.filter (fun x => x.f_At == now + 1)).map (·.f_Name)).map th) (by
      rw [List.map_map, List.pairwise_map]
      refine (h.sorted.sublist List.filter_sublist).imp_of_mem fun {a b} ha hb h => ?_
      have ha' := (List.mem_filter.1 ha).2; have hb' := (List.mem_filter.1 hb).2
      simp only [beq_iff_eq] at ha' hb'
      unfold ah tL at h
      simp only [lexI] at h
      rw [ha', hb', if_neg (by omega), if_neg (by omega)] at h
      have an : cfN (th a.f_Name) (th b.f_Name) = - cfN (th b.f_Name) (th a.f_Name) := lex_anti _ _
      have h' : cfN (th a.f_Name) (th b.f_Name) < 0 := h
      simp only [Go.Proofs.ltOf, Bool.not_eq_true', decide_eq_false_iff_not, Function.comp]; omega) hp
    rw [← s1, s2]
  refine ⟨l, w', m', _, _, t1, hrt, ?_, ?_, t2, ⟨?_, fun t ht => ?_, h.sorted.sublist List.filter_sublist⟩, ?_⟩
  · rw [hl, List.map_map, show thB ∘ th = id from rfl, List.map_id]
  · rw [hl]; simp only [List.length_map]; have := List.length_filter_le (fun x : RT => x.f_At == now + 1) L; omega
  · refine perm_of_mget ?_ t2.uk fun n => ?_
    · exact uk_sub (List.filter_sublist.map tmk) hUL
    · have hUF : Uk ((L.filter (fun x => !(x.f_At == now + 1))).map tmk) := uk_sub (List.filter_sublist.map tmk) hUL
      rw [t7]
      cases hg : mget at_ n with
      | none =>
        rw [if_neg (by simp)]
        cases hq : mget ((L.filter (fun x => !(x.f_At == now + 1))).map tmk) n with
        | none => rfl
        | some v =>
          obtain ⟨t, ht, e⟩ := List.mem_map.1 (mget_mem hq)
          simp only [tmk, Prod.mk.injEq] at e
          have := (h.get hc.uk t.f_Name t.f_At).2 ⟨t, (List.mem_filter.1 ht).1, rfl, rfl⟩
          rw [e.1, hg] at this; cases this
      | some v =>
        obtain ⟨t, ht, e1, e2⟩ := (h.get hc.uk (thB n) v).1 hg
        by_cases hv : v = now + 1
        · rw [if_pos (by rw [hv])]
          cases hq : mget ((L.filter (fun x => !(x.f_At == now + 1))).map tmk) n with
          | none => rfl
          | some u =>
            obtain ⟨s, hs, e⟩ := List.mem_map.1 (mget_mem hq)
            simp only [tmk, Prod.mk.injEq] at e
            have h5 := (h.get hc.uk s.f_Name s.f_At).2 ⟨s, (List.mem_filter.1 hs).1, rfl, rfl⟩
            rw [e.1, hg] at h5
            have h6 := (List.mem_filter.1 hs).2
            simp only [Bool.not_eq_true', beq_eq_false_iff_ne] at h6
            exact absurd ((Option.some.inj h5).symm.trans hv) h6
        · rw [if_neg (by simpa using hv)]
          exact mem_mget hUF (List.mem_map.2 ⟨t, List.mem_filter.2 ⟨ht, by simp; omega⟩, by simp only [tmk, e1, e2]; rfl⟩)
  · obtain ⟨h1, h2⟩ := List.mem_filter.1 ht
    simp only [Bool.not_eq_true', beq_eq_false_iff_ne] at h2
    obtain ⟨h3, h4⟩ := h.ok t h1
    exact ⟨h3, by omega⟩
  · have fold_len : ∀ (y : List Nm) (m : Mp), (y.foldl mdel m).length ≤ m.length := by
      intro y
      induction y with
      | nil => intro m; exact Nat.le_refl _
      | cons a y ih => intro m; exact Nat.le_trans (ih _) (mdel_sub m a).length_le
    rw [t6]; exact fold_len _ _
/-- What rings next, by both. -/
theorem both_next {wheel : Wh} (h : Tells now at_ L) (hc : Cor at_ wheel) (hb : L.length ≤ 1000) : ∃ n v o, clock_Clock_Next now at_ wheel = some (th n, v, o) ∧ parrelref09_Clock_Next (T_parrelref09_Clock.mk now L) = some (n, v, o) := by
  have hlen := h.len
  unfold parrelref09_Clock_Next
  cases L with
  | nil =>
    have : at_ = [] := List.eq_nil_of_length_eq_zero (by simpa using hlen.symm)
    subst this
    exact ⟨T_parrelref09_Name.mk 0 (T_api_Tx.mk 0 0 0), 0, false, next_nil now wheel, by rw [if_pos (by simp)]⟩
  | cons a L =>
    simp only [List.length_cons] at hlen hb
    have hne : at_ ≠ [] := fun e => by subst e; simp at hlen
    obtain ⟨x, v, n1, n2, n3⟩ := next_some (now := now) hc hne (by omega)
    refine ⟨a.f_Name, a.f_At, true, ?_, ?_⟩
    · rw [n1]
      have ha := (h.get hc.uk a.f_Name a.f_At).2 ⟨a, List.mem_cons_self, rfl, rfl⟩
      have h1 := n3 _ _ ha
      have hx : x = th (thB x) := rfl
      obtain ⟨t, ht, e1, e2⟩ := (h.get hc.uk (thB x) v).1 n2
      have h2 : cfT at_ (th a.f_Name) x ≤ 0 := by
        unfold cfT tmL
        rw [ha, n2]
        rcases List.mem_cons.1 ht with rfl | ht
        · rw [hx, ← e1, ← e2]
          have := (lex_zero (t.f_At :: nmL (th t.f_Name)) (t.f_At :: nmL (th t.f_Name)) rfl).2 rfl
          simp only [Option.getD_some]; omega
        · have := (List.pairwise_cons.1 h.sorted).1 t ht
          unfold ah tL at this
          rw [e2, e1] at this
          have h9 : lexI (a.f_At :: nmL (th a.f_Name)) (v :: nmL x) < 0 := this
          simp only [Option.getD_some]; omega
      have h3 := cfT_anti at_ x (th a.f_Name)
      have h4 := (cfT_zero at_ x (th a.f_Name)).1 (by omega)
      subst h4
      rw [ha] at n2
      rw [Option.some.inj n2]
    · rw [if_neg (by simp; omega), if_pos (by simp)]
      rfl
end
set_option maxHeartbeats 4000000 in
/-- What stands behind each call is the same. -/
theorem plays_loop {y : List T_parrellaw09_Act} (hy : y.length ≤ 150) (hw : ∀ a ∈ y, 0 ≤ a.f_After ∧ nOk a.f_Name) : ∀ (fuel k : Nat) (now : Int) (w : Wh) (m : Mp) (L : List RT), y.length - k < fuel → k ≤ y.length → (0 ≤ now ∧ now ≤ k) → Cor m w → m.length ≤ k → Tells now m L →
    parrellaw09_ClockPlays_l0 y fuel (k : Int) now w now L m = some true
  | 0, k, now, w, m, L, h, _, _, _, _, _ => by omega
  | fuel + 1, k, now, w, m, L, h, hk, hn, hc, hl, ht => by
    rw [parrellaw09_ClockPlays_l0]
    by_cases hlt : k < y.length
    · rw [if_pos (by simp only [decide_eq_true_eq]; omega), if_pos (by omega)]
      rw [Int.toNat_natCast, w64 (by omega) (by omega), show ((k : Int) + 1) = ((k + 1 : Nat) : Int) by omega]
      have hin : y.getD k default ∈ y := by rw [List.getD_eq_getElem?_getD, List.getElem?_eq_getElem hlt]; exact List.getElem_mem hlt
      obtain ⟨ha, hno⟩ := hw _ hin
      have hlen := ht.len
      have and0 : ∀ (now' : Int) (m' : Mp) (w' : Wh) (L' : List RT), Tells now' m' L' → Cor m' w' → m'.length ≤ k + 1 →
          (∃ n v o, clock_Clock_Next now' m' w' = some (th n, v, o) ∧ parrelref09_Clock_Next (T_parrelref09_Clock.mk now' L') = some (n, v, o)) ∧
          parrelref09_Clock_Until (T_parrelref09_Clock.mk now' L') (y.getD k default).f_Name = some ((mget m' (th (y.getD k default).f_Name)).getD default, (mget m' (th (y.getD k default).f_Name)).isSome) ∧ m'.length = L'.length := by
        intro now' m' w' L' h1 h2 h3
        have := h1.len
        exact ⟨both_next h1 h2 (by omega), runtil_eq h1 h2.uk _ (by omega), by omega⟩
      by_cases hk1 : (Int.tmod (y.getD k default).f_Kind 4 == 1) = true
      · rw [if_pos hk1]
        obtain ⟨l, w', m', K, L', b1, b2, b3, b4, b5, b6, b7⟩ := both_tick ht hc (by omega) (by omega)
        obtain ⟨⟨n, v, o, c1, c2⟩, c3, c4⟩ := and0 _ _ _ _ b6 b5 (by omega)
        rw [b1, b2]
        simp (maxSteps := 100000000) only [Option.bind_some]
        rw [ours_eq l b4, b3]
        simp (maxSteps := 100000000) only [Option.bind_some]
        rw [same_eq K (by rw [← b3, List.length_map]; exact b4)]
        simp (maxSteps := 100000000) only [Option.bind_some, if_true, theirs_eq, until_eq, c3, c1, c2, now_eq, len_eq, c4]
        simp (maxSteps := 100000000) only [bne_self_eq_false, beq_self_eq_true, Bool.not_true, Bool.false_eq_true, if_false, decide_true]
        exact plays_loop hy hw fuel (k + 1) (now + 1) w' m' L' (by omega) (by omega) (by omega) b5 (by omega) b6
      · rw [if_neg hk1]
        by_cases hk2 : (Int.tmod (y.getD k default).f_Kind 4 == 2) = true
        · rw [if_pos hk2]
          obtain ⟨L', b1, b2⟩ := rstop_eq ht hc.uk (y.getD k default).f_Name (by omega)
          obtain ⟨w', d1, d2⟩ := stop_eq (now := now) hc (th (y.getD k default).f_Name)
          have hl' := (mdel_sub m (th (y.getD k default).f_Name)).length_le
          obtain ⟨⟨n, v, o, c1, c2⟩, c3, c4⟩ := and0 _ _ _ _ b2 d2 (by omega)
          simp (maxSteps := 100000000) only [theirs_eq, Option.bind_some]
          rw [d1, b1]
          simp (maxSteps := 100000000) only [Option.bind_some, if_true, theirs_eq, until_eq, c3, c1, c2, now_eq, len_eq, c4]
          simp (maxSteps := 100000000) only [bne_self_eq_false, beq_self_eq_true, Bool.not_true, Bool.false_eq_true, if_false, decide_true]
          exact plays_loop hy hw fuel (k + 1) now w' _ L' (by omega) (by omega) (by omega) d2 (by omega) b2
        · rw [if_neg hk2]
          obtain ⟨e, w', m', L', b1, b2, b3, b4, b5⟩ := both_set ht hc (y.getD k default).f_Name hno (by omega) ha (by omega)
          obtain ⟨⟨n, v, o, c1, c2⟩, c3, c4⟩ := and0 _ _ _ _ b4 b3 (by omega)
          simp (maxSteps := 100000000) only [theirs_eq, Option.bind_some]
          rw [b1, b2]
          simp (maxSteps := 100000000) only [Option.bind_some, if_true, theirs_eq, until_eq, c3, c1, c2, now_eq, len_eq, c4]
          simp (maxSteps := 100000000) only [bne_self_eq_false, beq_self_eq_true, Bool.not_true, Bool.false_eq_true, if_false, decide_true]
          exact plays_loop hy hw fuel (k + 1) now w' m' L' (by omega) (by omega) (by omega) b3 (by omega) b4
    · rw [if_neg (by simp only [decide_eq_true_eq]; omega)]
theorem plays_start {y : List T_parrellaw09_Act} (hy : y.length ≤ 150) (hw : ∀ a ∈ y, 0 ≤ a.f_After ∧ nOk a.f_Name) {w : Wh} (hc : Cor [] w) (fuel : Nat) (hf : y.length < fuel) : parrellaw09_ClockPlays_l0 y fuel 0 0 w 0 [] [] = some true := by
  have := plays_loop hy hw fuel 0 0 w [] [] (by omega) (by omega) (by omega) hc (by simp) ⟨by simp, (fun t ht => by cases ht), List.Pairwise.nil⟩
  simpa only [Int.natCast_zero] using this
theorem plays_law (l : List T_parrellaw09_Act) (h1 : (∀ a ∈ l, wfL (c_T_parrellaw09_Act a)) ∧ l.length * 24 ≤ 140737488351232) : parrellaw09_ClockPlays l = some true := by
  obtain ⟨w0, g0, c0⟩ := new_eq
  unfold parrellaw09_ClockPlays parrellaw09_short
  rw [g0, alive_eq]
  simp (maxSteps := 100000000) only [Option.bind_some]
  rw [if_neg (by simp), if_pos (by split <;> omega)]
  simp (maxSteps := 100000000) only [Option.bind_some]
  generalize hy : l.take _ = y
  have hy1 : y.length ≤ 150 := by rw [← hy, List.length_take]; split <;> omega
  have hy2 : ∀ a ∈ y, 0 ≤ a.f_After ∧ nOk a.f_Name := fun a ha => by
    have hw := h1.1 a (by rw [← hy] at ha; exact List.mem_of_mem_take ha)
    exact ⟨(wf_u32 (hw (.int .u32 a.f_After) (by simp [c_T_parrellaw09_Act]))).1, wf_u8 (hw (.int .u8 a.f_Name.f_Tx.f_Node) (by simp [c_T_parrellaw09_Act]))⟩
  exact plays_start hy1 hy2 c0 big (big_lt (by omega))
end Go.Proofs.Yteigbcpbehddoaa.Wk
