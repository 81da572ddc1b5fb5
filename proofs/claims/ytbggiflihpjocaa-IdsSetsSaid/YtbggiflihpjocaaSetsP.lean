/- Plain facts: a set answers every call as the list that rises does. -/
import Derived.Test.YtbggiflihpjocaaSetsWF
import Derived.Test.YtbggiflihpjocaaCnX
import Derived.Test.YtbggiflihpjocaaCnY
import Derived.Test.YtbggiflihpjocaaCnZ
set_option linter.unusedVariables false
set_option linter.unusedSimpArgs false
namespace Go.Proofs.Ytbggiflihpjocaa.Wk
open Go Go.Cn

/-! The order of names -/
theorem cmp8_eq (x y : Int) : cmp_Compare_uint8 x y = some (cmp3 x y) := by
  simp only [cmp_Compare_uint8, cmp_isNaN_uint8, Option.bind_some, bne_self_eq_false, Bool.false_eq_true, if_false, decide_eq_true_eq, cmp3]
  split <;> (try split) <;> rfl
theorem cmp32_eq (x y : Int) : cmp_Compare_uint32 x y = some (cmp3 x y) := by
  simp only [cmp_Compare_uint32, cmp_isNaN_uint32, Option.bind_some, bne_self_eq_false, Bool.false_eq_true, if_false, decide_eq_true_eq, cmp3]
  split <;> (try split) <;> rfl
theorem getD_drop {α : Type} (l : List α) (k : Nat) (d : α) (h : k < l.length) : l.drop k = l.getD k d :: l.drop (k + 1) := by
  rw [List.drop_eq_getElem_cons h, List.getD_eq_getElem?_getD, List.getElem?_eq_getElem h]; rfl
theorem first_loop (a b : List Int) (hl : a.length = b.length) (hb : a.length < 4611686018427387904) : ∀ (fuel k : Nat), a.length - k < fuel → k ≤ a.length → parrelref05_first_l0 a b fuel (k : Int) = some (lexI (a.drop k) (b.drop k))
  | 0, k, h, _ => by omega
  | fuel + 1, k, h, hk => by
    rw [parrelref05_first_l0]
    by_cases hlt : k < a.length
    · rw [if_pos (by simp only [decide_eq_true_eq]; omega), if_pos (by omega), if_pos (by omega)]
      have h2 : k < b.length := by omega
      rw [getD_drop a k default hlt, getD_drop b k default h2]
      simp only [Int.toNat_natCast, lexI, decide_eq_true_eq]
      split
      · rfl
      · split
        · rfl
        · rw [w64 (by omega) (by omega)]
          exact first_loop a b hl hb fuel (k + 1) (by omega) (by omega)
    · rw [if_neg (by simp only [decide_eq_true_eq]; omega)]
      have : k = a.length := by omega
      subst this
      rw [List.drop_length]
      rfl
theorem first_eq (a b : List Int) (hl : a.length = b.length) (hb : a.length < 4611686018427387904) : parrelref05_first a b = some (lexI a b) := by
  have := first_loop a b hl hb big 0 (big_lt (by omega)) (by omega)
  simpa [parrelref05_first] using this
def firstNZ : List Int → Int
  | [] => 0
  | x :: r => if x = 0 then firstNZ r else x
theorem or_loop (a : List Int) (hb : a.length < 4611686018427387904) : ∀ (fuel k : Nat), a.length - k < fuel → k ≤ a.length → cmp_Or_int_l0 a fuel (k : Int) = some (firstNZ (a.drop k))
  | 0, k, h, _ => by omega
  | fuel + 1, k, h, hk => by
    rw [cmp_Or_int_l0]
    by_cases hlt : k < a.length
    · rw [if_pos (by simp only [decide_eq_true_eq]; omega), if_pos (by omega)]
      rw [getD_drop a k default hlt]
      simp only [Int.toNat_natCast, firstNZ, bne_iff_ne, ne_eq, ite_not]
      split
      · rw [w64 (by omega) (by omega)]
        exact or_loop a hb fuel (k + 1) (by omega) (by omega)
      · rfl
    · rw [if_neg (by simp only [decide_eq_true_eq]; omega)]
      have : k = a.length := by omega
      subst this
      rw [List.drop_length]
      rfl
theorem or_eq (a : List Int) (hb : a.length < 4611686018427387904) : cmp_Or_int a = some (firstNZ a) := by
  have := or_loop a hb big 0 (big_lt (by omega)) (by omega)
  simpa [cmp_Or_int] using this
def TxB (t : T_api_Tx) : Prop := 0 ≤ t.f_Node ∧ t.f_Node < 256
def txL (t : T_api_Tx) : List Int := [t.f_Node, t.f_Boot, t.f_Num]
theorem nz3 (a b a' b' a'' b'' : Int) : firstNZ [cmp3 a b, cmp3 a' b', cmp3 a'' b''] = lexI [a, a', a''] [b, b', b''] := by
  simp only [firstNZ, lexI, cmp3]
  repeat' split
  all_goals first | rfl | omega
/-- Which comes first. -/
def cfT (a b : T_api_Tx) : Int := lexI (txL a) (txL b)
theorem txs_eq (a b : T_api_Tx) : ids_Txs a b = some (cfT a b) := by
  simp only [ids_Txs, cmp8_eq, cmp32_eq, Option.bind_some, txL, cfT]
  rw [or_eq _ (by simp), nz3]; rfl
theorem rtxs_eq (a b : T_api_Tx) (ha : TxB a) (hb : TxB b) : parrelref05_Txs a b = some (cfT a b) := by
  obtain ⟨a1, a2⟩ := ha; obtain ⟨b1, b2⟩ := hb
  simp only [parrelref05_Txs, parrelref05_numbers, Option.bind_some]
  rw [wu32 a1 (by omega), wu32 b1 (by omega), first_eq [a.f_Node, a.f_Boot, a.f_Num] [b.f_Node, b.f_Boot, b.f_Num] rfl (by simp)]; rfl

theorem lex_anti : ∀ (l m : List Int), lexI l m = - lexI m l
  | [], [] => rfl
  | [], _ :: _ => rfl
  | _ :: _, [] => rfl
  | a :: l, b :: m => by
    have ih := lex_anti l m
    simp only [lexI]
    split <;> split <;> first | omega | (try split) <;> first | omega | exact ih
theorem lex_zero : ∀ (l m : List Int), l.length = m.length → (lexI l m = 0 ↔ l = m)
  | [], [], _ => by simp [lexI]
  | [], _ :: _, h => by simp at h
  | _ :: _, [], h => by simp at h
  | a :: l, b :: m, h => by
    have ih := lex_zero l m (by simpa using h)
    simp only [lexI, List.cons.injEq]
    split
    · constructor <;> intro h <;> omega
    · split
      · constructor <;> intro h <;> omega
      · rw [ih]
        constructor
        · intro h; exact ⟨by omega, h⟩
        · intro h; exact h.2
theorem lex_trans : ∀ (l m p : List Int), l.length = m.length → m.length = p.length → lexI l m ≤ 0 → lexI m p ≤ 0 → lexI l p ≤ 0
  | [], _, _, _, _, _, _ => by simp [lexI]
  | _ :: _, [], _, h, _, _, _ => by simp at h
  | _ :: _, _ :: _, [], _, h, _, _ => by simp at h
  | a :: l, b :: m, c :: p, h1, h2, h3, h4 => by
    have ih := lex_trans l m p (by simpa using h1) (by simpa using h2)
    simp only [lexI] at h3 h4 ⊢
    split at h3
    · split at h4
      · rw [if_pos (by omega)]; decide
      · split at h4
        · omega
        · rw [if_pos (by omega)]; decide
    · split at h3
      · omega
      · split at h4
        · rw [if_pos (by omega)]; decide
        · split at h4
          · omega
          · rw [if_neg (by omega), if_neg (by omega)]
            exact ih h3 h4
theorem cfT_anti (a b : T_api_Tx) : cfT a b = - cfT b a := lex_anti _ _
theorem cfT_zero (a b : T_api_Tx) : cfT a b = 0 ↔ a = b := by
  unfold cfT; rw [lex_zero (txL a) (txL b) rfl]; cases a; cases b; simp [txL]
theorem cfT_trans (a b c : T_api_Tx) : cfT a b ≤ 0 → cfT b c ≤ 0 → cfT a c ≤ 0 := lex_trans _ _ _ rfl rfl
theorem cfT_lt_trans {a b c : T_api_Tx} (h1 : cfT a b < 0) (h2 : cfT b c < 0) : cfT a c < 0 := by
  have h3 := cfT_trans a b c (by omega) (by omega)
  have : cfT a c ≠ 0 := fun h => by
    have e := (cfT_zero a c).1 h; subst e
    have := cfT_anti a b; omega
  omega
theorem cfT_total : TotCmp cfT := by
  refine ⟨⟨fun x => ?_, fun x y z h1 h2 => ?_, fun x y z h1 h2 => ?_⟩, fun x y h1 h2 => ?_⟩
  · have := (cfT_zero x x).2 rfl
    simp [Go.Proofs.ltOf, this]
  · simp only [Go.Proofs.ltOf, decide_eq_true_eq] at h1 h2 ⊢
    exact cfT_lt_trans h1 h2
  · simp only [Go.Proofs.ltOf, decide_eq_false_iff_not] at h1 h2 ⊢
    have a1 := cfT_anti x y; have a2 := cfT_anti y z; have a3 := cfT_anti x z
    have := cfT_trans z y x (by omega) (by omega)
    omega
  · simp only [Go.Proofs.ltOf, decide_eq_false_iff_not] at h1 h2
    have a1 := cfT_anti x y
    exact (cfT_zero x y).1 (by omega)

/-! The list that rises -/
def Rises (L : List T_api_Tx) : Prop := L.Pairwise (fun x y => cfT x y < 0)
def bef (t x : T_api_Tx) : Bool := decide (cfT x t < 0)
def pre (L : List T_api_Tx) (t : T_api_Tx) : List T_api_Tx := L.takeWhile (bef t)
def suf (L : List T_api_Tx) (t : T_api_Tx) : List T_api_Tx := L.dropWhile (bef t)
theorem pre_suf (L : List T_api_Tx) (t : T_api_Tx) : pre L t ++ suf L t = L := List.takeWhile_append_dropWhile
theorem pre_lt {L : List T_api_Tx} {t x : T_api_Tx} (h : x ∈ pre L t) : cfT x t < 0 := by
  have : ∀ (L : List T_api_Tx), x ∈ L.takeWhile (bef t) → cfT x t < 0 := by
    intro L
    induction L with
    | nil => intro h; cases h
    | cons a L ih =>
      intro h
      rw [List.takeWhile_cons] at h
      split at h
      · rename_i hb
        rcases List.mem_cons.1 h with rfl | h
        · simpa [bef] using hb
        · exact ih h
      · cases h
  exact this L h
theorem suf_head {L : List T_api_Tx} {t x : T_api_Tx} {r : List T_api_Tx} (h : suf L t = x :: r) : ¬ cfT x t < 0 := by
  have : ∀ (L : List T_api_Tx), L.dropWhile (bef t) = x :: r → ¬ cfT x t < 0 := by
    intro L
    induction L with
    | nil => intro h; cases h
    | cons a L ih =>
      intro h
      rw [List.dropWhile_cons] at h
      split at h
      · exact ih h
      · rename_i hb
        cases h
        simpa [bef] using hb
  exact this L h
/-- Is it the next one? -/
def isHead (t : T_api_Tx) : List T_api_Tx → Bool
  | [] => false
  | x :: _ => decide (x = t)
theorem suf_rises {L : List T_api_Tx} (h : Rises L) (t : T_api_Tx) : Rises (suf L t) := by
  have h2 := h; rw [← pre_suf L t] at h2
  exact (List.pairwise_append.1 h2).2.1
theorem isHead_mem {L : List T_api_Tx} (h : Rises L) (t : T_api_Tx) : isHead t (suf L t) = decide (t ∈ L) := by
  rw [Bool.eq_iff_iff, decide_eq_true_eq]
  have hs := suf_rises h t
  have hm : t ∈ L ↔ t ∈ pre L t ∨ t ∈ suf L t := by rw [← List.mem_append, pre_suf]
  have hn : t ∉ pre L t := fun hp => by
    have := pre_lt hp; have := (cfT_zero t t).2 rfl; omega
  cases hd : suf L t with
  | nil => rw [hm, hd]; simp [isHead, hn]
  | cons x r =>
    rw [hm, hd]
    simp only [isHead, decide_eq_true_eq, List.mem_cons]
    constructor
    · rintro rfl; exact .inr (.inl rfl)
    · rintro (hp | rfl | hr)
      · exact absurd hp hn
      · rfl
      · rw [hd] at hs
        exact absurd ((List.pairwise_cons.1 hs).1 t hr) (suf_head hd)
theorem suf_gt {L : List T_api_Tx} (h : Rises L) {t x : T_api_Tx} (hx : x ∈ suf L t) (hn : t ∉ L) : cfT t x < 0 := by
  have hs := suf_rises h t
  cases hd : suf L t with
  | nil => rw [hd] at hx; cases hx
  | cons y r =>
    have hy : cfT t y < 0 := by
      have h1 := suf_head hd
      have h2 : y ≠ t := fun e => hn (by rw [← pre_suf L t, hd, e]; simp)
      have h3 := cfT_anti t y
      have h4 : cfT y t ≠ 0 := fun e => h2 ((cfT_zero y t).1 e)
      omega
    rw [hd] at hx hs
    rcases List.mem_cons.1 hx with rfl | hr
    · exact hy
    · exact cfT_lt_trans hy ((List.pairwise_cons.1 hs).1 x hr)
theorem ins_rises {L : List T_api_Tx} (h : Rises L) {t : T_api_Tx} (hn : t ∉ L) : Rises ((pre L t ++ [t]) ++ suf L t) := by
  have h2 := h; rw [← pre_suf L t] at h2
  obtain ⟨p1, p2, p3⟩ := List.pairwise_append.1 h2
  refine List.pairwise_append.2 ⟨List.pairwise_append.2 ⟨p1, List.pairwise_singleton _ _, fun a ha b hb => ?_⟩, p2, fun a ha b hb => ?_⟩
  · rw [List.mem_singleton.1 hb]; exact pre_lt ha
  · rcases List.mem_append.1 ha with ha | ha
    · exact p3 a ha b hb
    · rw [List.mem_singleton.1 ha]; exact suf_gt h hb hn
theorem del_rises {L : List T_api_Tx} (h : Rises L) (t : T_api_Tx) : Rises (pre L t ++ (suf L t).drop 1) := by
  have h2 := h; rw [← pre_suf L t] at h2
  refine h2.sublist ?_
  exact List.Sublist.append (List.Sublist.refl _) (List.drop_sublist _ _)
theorem del_perm {L : List T_api_Tx} (h : Rises L) {t : T_api_Tx} (hm : t ∈ L) : L.Perm (t :: (pre L t ++ (suf L t).drop 1)) := by
  have hd := isHead_mem h t
  rw [decide_eq_true hm] at hd
  cases hs : suf L t with
  | nil => rw [hs] at hd; cases hd
  | cons x r =>
    rw [hs] at hd
    simp only [isHead, decide_eq_true_eq] at hd
    subst hd
    have e := pre_suf L x
    rw [hs] at e
    rw [← e]
    simp only [List.drop_one, List.tail_cons]
    rw [e]
    conv => lhs; rw [← e]
    exact List.perm_middle
theorem ins_perm (L : List T_api_Tx) (t : T_api_Tx) : ((pre L t ++ [t]) ++ suf L t).Perm (t :: L) := by
  conv => rhs; rw [← pre_suf L t]
  rw [List.append_assoc]
  exact List.perm_middle
theorem take_pre (L : List T_api_Tx) (t : T_api_Tx) : L.take (pre L t).length = pre L t := by
  have : (pre L t ++ suf L t).take (pre L t).length = pre L t := List.take_left
  rwa [pre_suf] at this
theorem drop_pre (L : List T_api_Tx) (t : T_api_Tx) (k : Nat) : L.drop ((pre L t).length + k) = (suf L t).drop k := by
  have : (pre L t ++ suf L t).drop (pre L t).length = suf L t := List.drop_left
  rw [pre_suf] at this
  rw [← List.drop_drop, this]
theorem place_b {L : List T_api_Tx} {t a : T_api_Tx} {i : Nat} (hlt : i < L.length) (ha : L.getD i default = a) (hb : TxB a) (ht : TxB t) (k : Unit → Option (Int × Bool)) :
    parrelref05_Set_place_b0 ⟨L⟩ t i () k = if cfT a t < 0 then k () else some ((i : Int), decide (a = t)) := by
  unfold parrelref05_Set_place_b0
  simp only [ha]
  rw [rtxs_eq a t hb ht, Option.bind_some]
  by_cases hc : cfT a t < 0
  · rw [if_pos (by simpa using hc), if_pos hc]
  · rw [if_neg (by simpa using hc), if_neg hc, if_pos (by simp; omega)]
theorem place_eq {L : List T_api_Tx} (hr : Rises L) {t : T_api_Tx} (hb : ∀ x ∈ L, TxB x) (ht : TxB t) (hl : L.length < 1000) : parrelref05_Set_place ⟨L⟩ t = some (((pre L t).length : Int), decide (t ∈ L)) := by
  have key : ∀ (m : List T_api_Tx) (i : Nat), L.drop i = m → i + m.length = L.length → walkN (parrelref05_Set_place_b0 ⟨L⟩ t) (parrelref05_Set_place_e0 ⟨L⟩ t) m.length i () = some (((i + (pre m t).length : Nat) : Int), isHead t (suf m t)) := by
    intro m
    induction m with
    | nil =>
      intro i _ hi
      have : i = L.length := by simpa using hi
      subst this
      show parrelref05_Set_place_e0 ⟨L⟩ t () = _
      unfold parrelref05_Set_place_e0
      rw [if_neg (by simp)]
      rfl
    | cons a m ih =>
      intro i hd hi
      have hlt : i < L.length := by simp at hi; omega
      have ha : L.getD i default = a := by
        have := getD_drop L i default hlt
        rw [hd] at this
        exact (List.cons.inj this).1.symm
      have hd2 : L.drop (i + 1) = m := by
        have := getD_drop L i default hlt
        rw [hd] at this
        exact (List.cons.inj this).2.symm
      have hm : a ∈ L := by rw [← ha]; exact getD_mem hlt
      rw [List.length_cons, walkN]
      rw [place_b hlt ha (hb a hm) ht]
      by_cases hc : cfT a t < 0
      · rw [if_pos hc, ih (i + 1) hd2 (by simp at hi; omega)]
        simp only [pre, suf, List.takeWhile_cons, List.dropWhile_cons, bef, hc, decide_true, if_true, List.length_cons]
        congr 3
        omega
      · rw [if_neg hc]
        simp only [pre, suf, List.takeWhile_cons, List.dropWhile_cons, bef, hc, decide_false, Bool.false_eq_true, if_false, List.length_nil, isHead, Nat.add_zero]
  unfold parrelref05_Set_place
  rw [parrelref05_Set_place_w0 ⟨L⟩ t (by show L.length < _; omega), ← isHead_mem hr t]
  have := key L 0 rfl (by simp)
  rw [Nat.zero_add] at this
  exact this

theorem same_b {L : List T_api_Tx} {i : Nat} (h : i < L.length) (k : Unit → Option Bool) : parrelref05_Same_b0 L L i () k = k () := by
  unfold parrelref05_Same_b0
  rw [if_pos (by omega), if_neg (by simp)]
theorem same_refl (L : List T_api_Tx) (hl : L.length < 1000) : parrelref05_Same L L = some true := by
  unfold parrelref05_Same
  rw [if_neg (by simp), parrelref05_Same_w0 L L (by omega)]
  have : ∀ (n i : Nat), walkN (parrelref05_Same_b0 L L) parrelref05_Same_e0 n i () = (if i + n ≤ L.length then some true else walkN (parrelref05_Same_b0 L L) parrelref05_Same_e0 n i ()) := by
    intro n
    induction n with
    | zero => intro i; split <;> rfl
    | succ n ih =>
      intro i
      split
      · rename_i h
        rw [walkN, same_b (by omega), ih, if_pos (by omega)]
      · rfl
  rw [this, if_pos (by omega)]

/-! The map -/
theorem mget_keys (m : List (T_api_Tx × Bool)) (hv : ∀ e ∈ m, e.2 = true) (t : T_api_Tx) : (mget m t).getD default = decide (t ∈ m.map (·.1)) := by
  induction m with
  | nil => rfl
  | cons e m ih =>
    have h1 := hv e List.mem_cons_self
    have ih := ih (fun x hx => hv x (List.mem_cons_of_mem _ hx))
    simp only [mget, List.map_cons, List.mem_cons]
    by_cases h : t = e.1
    · rw [if_pos h]; simp [h1, h]
    · rw [if_neg h, ih]; simp [h]
theorem mset_keys (m : List (T_api_Tx × Bool)) (t : T_api_Tx) (hn : t ∉ m.map (·.1)) : mset m t true = m ++ [(t, true)] := by
  induction m with
  | nil => rfl
  | cons e m ih =>
    simp only [List.map_cons, List.mem_cons, not_or] at hn
    simp only [mset]
    rw [if_neg hn.1, ih hn.2]; rfl
theorem mdel_keys (m : List (T_api_Tx × Bool)) (t : T_api_Tx) (hm : t ∈ m.map (·.1)) : (m.map (·.1)).Perm (t :: (mdel m t).map (·.1)) := by
  induction m with
  | nil => cases hm
  | cons e m ih =>
    simp only [mdel]
    by_cases h : t = e.1
    · rw [if_pos h, h]; exact List.Perm.refl _
    · rw [if_neg h]
      simp only [List.map_cons, List.mem_cons] at hm ⊢
      have := ih (hm.resolve_left h)
      exact (this.cons e.1).trans (List.Perm.swap _ _ _)
theorem mdel_sub (m : List (T_api_Tx × Bool)) (t : T_api_Tx) : ∀ e ∈ mdel m t, e ∈ m := by
  induction m with
  | nil => intro e h; cases h
  | cons a m ih =>
    intro e h
    simp only [mdel] at h
    split at h
    · exact List.mem_cons_of_mem _ h
    · rcases List.mem_cons.1 h with rfl | h
      · exact List.mem_cons_self
      · exact List.mem_cons_of_mem _ (ih e h)

structure Alike (n : Nat) (L : List T_api_Tx) (m : List (T_api_Tx × Bool)) : Prop where
  rises : Rises L
  perm : L.Perm (m.map (·.1))
  val : ∀ e ∈ m, e.2 = true
  bnd : ∀ x ∈ L, TxB x
  len : L.length ≤ n
theorem Alike.has {n : Nat} {L : List T_api_Tx} {m : List (T_api_Tx × Bool)} (h : Alike n L m) (t : T_api_Tx) : (mget m t).getD default = decide (t ∈ L) := by
  rw [mget_keys m h.val t, Bool.eq_iff_iff, decide_eq_true_eq, decide_eq_true_eq, h.perm.mem_iff]
theorem Alike.list {n : Nat} {L : List T_api_Tx} {m : List (T_api_Tx × Bool)} (h : Alike n L m) (hn : n ≤ 200) : ids_Set_List m = some L := by
  have hl := h.perm.length_eq
  have hlen := h.len
  have hs : sortL cfT (m.map (·.1)) = L := sortL_uniq cfT_total (h.rises.imp (fun {x y} hxy => by
    have := cfT_anti x y
    simp only [Go.Proofs.ltOf, Bool.not_eq_true', decide_eq_false_iff_not]; omega)) h.perm
  have hm : maps_Keys_map_api_Tx_bool_api_Tx_bool m = some () := rfl
  unfold ids_Set_List
  rw [hm, Option.bind_some, sortO_eq cfT_total txs_eq (by show _ ≤ maxLen; unfold maxLen; omega) (by omega), hs]
  rfl
theorem Alike.mono {n k : Nat} {L : List T_api_Tx} {m : List (T_api_Tx × Bool)} (h : Alike n L m) (hk : n ≤ k) : Alike k L m := ⟨h.rises, h.perm, h.val, h.bnd, Nat.le_trans h.len hk⟩
theorem Alike.add {n : Nat} {L : List T_api_Tx} {m : List (T_api_Tx × Bool)} (h : Alike n L m) (hn : n < 200) (t : T_api_Tx) (ht : TxB t) :
    ∃ L' m', Alike (n + 1) L' m' ∧ ids_Set_Add m t = some (!decide (t ∈ L), m') ∧ parrelref05_Set_Add ⟨L⟩ t = some (!decide (t ∈ L), L') := by
  have hlen := h.len
  unfold ids_Set_Add parrelref05_Set_Add
  rw [h.has t, place_eq h.rises h.bnd ht (by omega), Option.bind_some]
  by_cases hm : t ∈ L
  · refine ⟨L, m, h.mono (by omega), ?_, ?_⟩
    · rw [if_pos (by simpa using hm)]; simp [hm]
    · simp [hm]
  · have hm2 : t ∉ m.map (·.1) := fun hx => hm (h.perm.mem_iff.2 hx)
    have hp := ins_perm L t
    have hle : (pre L t).length ≤ L.length := by
      have := congrArg List.length (pre_suf L t); simp at this; omega
    refine ⟨(pre L t ++ [t]) ++ suf L t, mset m t true, ⟨ins_rises h.rises hm, ?_, ?_, ?_, ?_⟩, ?_, ?_⟩
    · rw [mset_keys m t hm2, List.map_append]
      exact hp.trans ((h.perm.cons t).trans (List.perm_append_comm (l₁ := [t])))
    · rw [mset_keys m t hm2]
      intro e he
      rcases List.mem_append.1 he with he | he
      · exact h.val e he
      · rw [List.mem_singleton.1 he]
    · intro x hx
      rcases List.mem_cons.1 (hp.mem_iff.1 hx) with rfl | hx
      · exact ht
      · exact h.bnd x hx
    · rw [hp.length_eq, List.length_cons]; omega
    · rw [if_neg (by simpa using hm)]; simp [hm]
    · have h2 : (suf L t).length ≤ L.length := by
        have := congrArg List.length (pre_suf L t); simp at this; omega
      have hd : L.drop (pre L t).length = suf L t := by simpa using drop_pre L t 0
      simp only [hm, decide_false, Bool.false_eq_true, if_false, Int.toNat_natCast, take_pre, hd, List.length_append, List.length_singleton]
      rw [if_pos (by omega), if_pos (by omega), if_pos (by omega), if_pos (by omega), if_pos (by omega)]
      rfl
theorem Alike.drop {n : Nat} {L : List T_api_Tx} {m : List (T_api_Tx × Bool)} (h : Alike n L m) (hn : n < 200) (t : T_api_Tx) (ht : TxB t) :
    ∃ L' m', Alike (n + 1) L' m' ∧ ids_Set_Drop m t = some (decide (t ∈ L), m') ∧ parrelref05_Set_Drop ⟨L⟩ t = some (decide (t ∈ L), L') := by
  have hlen := h.len
  unfold ids_Set_Drop parrelref05_Set_Drop ids_Set_Has
  rw [h.has t, place_eq h.rises h.bnd ht (by omega), Option.bind_some, Option.bind_some]
  by_cases hm : t ∈ L
  · have hm2 : t ∈ m.map (·.1) := h.perm.mem_iff.1 hm
    have hp := del_perm h.rises hm
    have hl2 := hp.length_eq
    have hle := congrArg List.length (pre_suf L t)
    refine ⟨pre L t ++ (suf L t).drop 1, mdel m t, ⟨del_rises h.rises t, ?_, ?_, ?_, ?_⟩, ?_, ?_⟩
    · exact (List.perm_cons t).1 (hp.symm.trans (h.perm.trans (mdel_keys m t hm2)))
    · exact fun e he => h.val e (mdel_sub m t e he)
    · exact fun x hx => h.bnd x (hp.mem_iff.2 (List.mem_cons_of_mem _ hx))
    · rw [List.length_cons] at hl2; omega
    · simp [hm]
    · simp only [List.length_append, List.length_cons, List.length_drop] at hl2 hle
      have hw : IntKind.wrap .i64 (((pre L t).length : Int) + 1) = (((pre L t).length + 1 : Nat) : Int) := by rw [w64 (by omega) (by omega)]; rfl
      simp only [hm, decide_true, if_true, hw, Int.toNat_natCast, take_pre, drop_pre, List.length_drop]
      rw [if_pos (by omega), if_pos (by omega), if_pos (by omega), if_pos (by omega)]
  · exact ⟨L, m, h.mono (by omega), by simp [hm], by simp [hm]⟩

theorem round_eq {n : Nat} {L : List T_api_Tx} {m : List (T_api_Tx × Bool)} (h : Alike n L m) (hn : n < 200) (a : T_parrellaw05_Act) (ht : TxB a.f_Tx) (k : List T_api_Tx × List (T_api_Tx × Bool) → Option Bool) :
    ∃ L' m', Alike (n + 1) L' m' ∧ parrellaw05_IdsSets_b0 a (L, m) k = k (L', m') := by
  unfold parrellaw05_IdsSets_b0
  have fin : ∀ {L' m'}, Alike (n + 1) L' m' → ids_Set_List m' = some L' ∧ parrelref05_Same L' L' = some true := fun hx => ⟨hx.list (by omega), same_refl _ (by have := hx.len; omega)⟩
  split
  · obtain ⟨L', m', h', e1, e2⟩ := h.add hn a.f_Tx ht
    refine ⟨L', m', h', ?_⟩
    simp [e1, e2, (fin h').1, (fin h').2]
  · split
    · obtain ⟨L', m', h', e1, e2⟩ := h.drop hn a.f_Tx ht
      refine ⟨L', m', h', ?_⟩
      simp [e1, e2, (fin h').1, (fin h').2]
    · have hlen := h.len
      have h' := h.mono (Nat.le_succ n)
      refine ⟨L, m, h', ?_⟩
      unfold ids_Set_Has parrelref05_Set_Has
      rw [h.has, place_eq h.rises h.bnd ht (by omega)]
      simp [(fin h').1, (fin h').2]
theorem alike_nil : Alike 0 [] [] := ⟨List.Pairwise.nil, List.Perm.refl _, (fun _ h => nomatch h), (fun _ h => nomatch h), Nat.le_refl _⟩
theorem e0_eq (s : List T_api_Tx × List (T_api_Tx × Bool)) : parrellaw05_IdsSets_e0 s = some true := by
  have hs : sortO ids_Txs 12 ([] : List T_api_Tx) = some [] := by
    rw [sortO_eq cfT_total txs_eq (Nat.zero_le _) (by decide)]
    rw [show sortL cfT ([] : List T_api_Tx) = [] from List.eq_nil_of_length_eq_zero (sortL_len cfT [])]
  have h3 : maps_Keys_map_api_Tx_bool_api_Tx_bool_2 = some () := rfl
  simp [parrellaw05_IdsSets_e0, ids_Set_Add_2, ids_Set_Has_2, ids_Set_Drop_2, ids_Set_List_2, ids_Set_Add_3, ids_Set_Has_3, ids_Set_Drop_3, ids_Set_List_3, hs, h3]
theorem walk_eq : ∀ (l : List T_parrellaw05_Act) (n : Nat) (L : List T_api_Tx) (m : List (T_api_Tx × Bool)), Alike n L m → n + l.length ≤ 200 → (∀ a ∈ l, TxB a.f_Tx) → walkL parrellaw05_IdsSets_b0 parrellaw05_IdsSets_e0 l (L, m) = some true
  | [], _, _, _, _, _, _ => e0_eq _
  | a :: l, n, L, m, h, hn, hb => by
    rw [List.length_cons] at hn
    obtain ⟨L', m', h', e⟩ := round_eq h (by omega) a (hb a List.mem_cons_self) (walkL parrellaw05_IdsSets_b0 parrellaw05_IdsSets_e0 l)
    rw [walkL, e]
    exact walk_eq l (n + 1) L' m' h' (by omega) (fun x hx => hb x (List.mem_cons_of_mem _ hx))
theorem alive_eq : parrellaw05_alive = some true := by kernel_rfl
theorem sets_eq (script : List T_parrellaw05_Act) (hb : ∀ a ∈ script, TxB a.f_Tx) : parrellaw05_IdsSets script = some true := by
  have hmin : (if 200 < (script.length : Int) then (200 : Int) else (script.length : Int)) = ((min script.length 200 : Nat) : Int) := by split <;> omega
  have hnew : ids_New = some [] := rfl
  unfold parrellaw05_IdsSets
  rw [hnew, Option.bind_some, alive_eq, Option.bind_some, if_neg (by decide)]
  have hlen : (script.take (min script.length 200)).length = min script.length 200 := by rw [List.length_take]; omega
  rw [if_pos (by rw [hmin]; omega), parrellaw05_IdsSets_w0 script [] [] (by rw [hmin, Int.toNat_natCast, hlen]; omega)]
  rw [hmin, Int.toNat_natCast]
  exact walk_eq _ 0 [] [] alike_nil (by rw [hlen]; omega) (fun a ha => hb a (List.mem_of_mem_take ha))
theorem sets_law (script : List T_parrellaw05_Act) (h : (∀ a ∈ script, wfL (c_T_parrellaw05_Act a)) ∧ script.length * 16 ≤ 140737488351232) : parrellaw05_IdsSets script = some true :=
  sets_eq script fun a ha => wf_u8 (h.1 a ha (.int .u8 a.f_Tx.f_Node) (List.mem_cons_of_mem _ List.mem_cons_self))
end Go.Proofs.Ytbggiflihpjocaa.Wk
