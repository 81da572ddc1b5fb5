import Derived.Test.YtddgjfclpknkcaaGreatDoorSrtE
import Derived.Test.YtddgjfclpknkcaaGreatDoorCnZ
import Derived.Test.YtddgjfclpknkcaaGreatDoorCnXb
set_option linter.unusedVariables false
set_option linter.unusedSimpArgs false
set_option linter.unusedSectionVars false
namespace Go.Proofs.YtddgjfclpknkcaaGreatDoor.Wk
open Go Go.Cn
theorem lex_anti : ∀ (l m : List Int), lexI l m = - lexI m l
  | [], [] => rfl
  | [], _ :: _ => rfl
  | _ :: _, [] => rfl
  | a :: l, b :: m => by
    have ih := lex_anti l m
    simp only [lexI]
    split <;> split <;> first | omega | (try split) <;> first | omega | exact ih
theorem lex_zero : ∀ (l m : List Int), l.length = m.length → (lexI l m = 0 ↔ l = m)
  | [], [], _ => by simp [lexI]
  | [], _ :: _, h => by simp at h
  | _ :: _, [], h => by simp at h
  | a :: l, b :: m, h => by
    have ih := lex_zero l m (by simpa using h)
    simp only [lexI, List.cons.injEq]
    split
    · constructor <;> intro h <;> omega
    · split
      · constructor <;> intro h <;> omega
      · rw [ih]
        constructor
        · intro h; exact ⟨by omega, h⟩
        · intro h; exact h.2
theorem lex_trans : ∀ (l m p : List Int), l.length = m.length → m.length = p.length → lexI l m ≤ 0 → lexI m p ≤ 0 → lexI l p ≤ 0
  | [], _, _, _, _, _, _ => by simp [lexI]
  | _ :: _, [], _, h, _, _, _ => by simp at h
  | _ :: _, _ :: _, [], _, h, _, _ => by simp at h
  | a :: l, b :: m, c :: p, h1, h2, h3, h4 => by
    have ih := lex_trans l m p (by simpa using h1) (by simpa using h2)
    simp only [lexI] at h3 h4 ⊢
    split at h3
    · split at h4
      · rw [if_pos (by omega)]; decide
      · split at h4
        · omega
        · rw [if_pos (by omega)]; decide
    · split at h3
      · omega
      · split at h4
        · rw [if_pos (by omega)]; decide
        · split at h4
          · omega
          · rw [if_neg (by omega), if_neg (by omega)]
            exact ih h3 h4
theorem getD_drop {α : Type} (l : List α) (k : Nat) (d : α) (h : k < l.length) : l.drop k = l.getD k d :: l.drop (k + 1) := by
  rw [List.drop_eq_getElem_cons h, List.getD_eq_getElem?_getD, List.getElem?_eq_getElem h]; rfl
theorem cmp8_eq (x y : Int) : cmp_Compare_uint8 x y = some (cmp3 x y) := by
  simp only [cmp_Compare_uint8, cmp_isNaN_uint8, Option.bind_some, bne_self_eq_false, Bool.false_eq_true, if_false, decide_eq_true_eq, cmp3]
  split <;> (try split) <;> rfl
theorem cmp32_eq (x y : Int) : cmp_Compare_uint32 x y = some (cmp3 x y) := by
  simp only [cmp_Compare_uint32, cmp_isNaN_uint32, Option.bind_some, bne_self_eq_false, Bool.false_eq_true, if_false, decide_eq_true_eq, cmp3]
  split <;> (try split) <;> rfl
def firstNZ : List Int → Int
  | [] => 0
  | x :: r => if x = 0 then firstNZ r else x
theorem or_loop (a : List Int) (hb : a.length < 4611686018427387904) : ∀ (fuel k : Nat), a.length - k < fuel → k ≤ a.length → cmp_Or_int_l0 a fuel (k : Int) = some (firstNZ (a.drop k))
  | 0, k, h, _ => by omega
  | fuel + 1, k, h, hk => by
    rw [cmp_Or_int_l0]
    by_cases hlt : k < a.length
    · rw [if_pos (dT (by omega)), if_pos (by omega)]
      rw [getD_drop a k default hlt]
      simp only [Int.toNat_natCast, firstNZ, bne_iff_ne, ne_eq, ite_not]
      split
      · rw [w64 (by omega) (by omega)]
        exact or_loop a hb fuel (k + 1) (by omega) (by omega)
      · rfl
    · rw [if_neg (dF (by omega))]
      have : k = a.length := by omega
      subst this
      rw [List.drop_length]
      rfl
theorem or_eq (a : List Int) (hb : a.length < 4611686018427387904) : cmp_Or_int a = some (firstNZ a) := by
  have := or_loop a hb big 0 (big_lt (by omega)) (by omega)
  simpa [cmp_Or_int] using this
def txL (t : TX) : List Int := [t.f_Node, t.f_Boot, t.f_Num]
theorem nz3 (a b a' b' a'' b'' : Int) : firstNZ [cmp3 a b, cmp3 a' b', cmp3 a'' b''] = lexI [a, a', a''] [b, b', b''] := by
  simp only [firstNZ, lexI, cmp3]
  repeat' split
  all_goals first | rfl | omega
theorem txs_eq (a b : TX) : ids_Txs a b = some (lexI (txL a) (txL b)) := by
  simp only [ids_Txs, cmp8_eq, cmp32_eq, Option.bind_some, txL]
  rw [or_eq _ (by simp), nz3]; rfl
section
variable {α β : Type} [DecidableEq α]
def Uk (m : List (α × β)) : Prop := (m.map (·.1)).Nodup
theorem mget_mem {m : List (α × β)} {k : α} {v : β} (h : mget m k = some v) : (k, v) ∈ m := by
  induction m with
  | nil => simp [mget] at h
  | cons e r ih =>
    obtain ⟨a, b⟩ := e
    simp only [mget] at h
    split at h
    · rename_i e; subst e; cases h; exact List.mem_cons_self
    · exact List.mem_cons_of_mem _ (ih h)
theorem mem_mget {m : List (α × β)} (hu : Uk m) {k : α} {v : β} (h : (k, v) ∈ m) : mget m k = some v := by
  induction m with
  | nil => cases h
  | cons e r ih =>
    obtain ⟨a, b⟩ := e
    simp only [Uk, List.map_cons, List.nodup_cons] at hu
    simp only [mget]
    rcases List.mem_cons.1 h with e | h
    · cases e; simp
    · rw [if_neg]
      · exact ih hu.2 h
      · intro e; exact hu.1 (List.mem_map.2 ⟨(k, v), h, e⟩)
theorem mset_get (m : List (α × β)) (k : α) (v : β) (j : α) : mget (mset m k v) j = if j = k then some v else mget m j := by
  induction m with
  | nil => simp [mset, mget]
  | cons e r ih =>
    obtain ⟨a, b⟩ := e
    simp only [mset]
    by_cases h : k = a
    · subst h
      simp only [if_true, mget]
      by_cases h2 : j = k <;> simp [h2]
    · simp only [if_neg h, mget, ih]
      by_cases h2 : j = a
      · subst h2; simp [Ne.symm h]
      · simp [h2]
theorem mdel_get {m : List (α × β)} (hu : Uk m) (k j : α) : mget (mdel m k) j = if j = k then none else mget m j := by
  induction m with
  | nil => simp [mdel, mget]
  | cons e r ih =>
    obtain ⟨a, b⟩ := e
    simp only [Uk, List.map_cons, List.nodup_cons] at hu
    simp only [mdel]
    by_cases h : k = a
    · subst h
      simp only [if_true, mget]
      by_cases h2 : j = k
      · subst h2
        simp only [if_true]
        cases hg : mget r j with
        | none => rfl
        | some v => exact absurd (List.mem_map.2 ⟨(j, v), mget_mem hg, rfl⟩) hu.1
      · simp [h2]
    · simp only [if_neg h, mget, ih hu.2]
      by_cases h2 : j = a
      · subst h2; simp [Ne.symm h]
      · simp [h2]
theorem mset_keys (m : List (α × β)) (k : α) (v : β) : ∀ x, x ∈ (mset m k v).map (·.1) ↔ x = k ∨ x ∈ m.map (·.1) := by
  induction m with
  | nil => simp [mset]
  | cons e r ih =>
    obtain ⟨a, b⟩ := e
    intro x
    simp only [mset]
    by_cases h : k = a
    · subst h; simp
    · simp only [if_neg h, List.map_cons, List.mem_cons, ih]
      constructor
      · rintro (h | h | h)
        · exact .inr (.inl h)
        · exact .inl h
        · exact .inr (.inr h)
      · rintro (h | h | h)
        · exact .inr (.inl h)
        · exact .inl h
        · exact .inr (.inr h)
theorem mset_uk {m : List (α × β)} (hu : Uk m) (k : α) (v : β) : Uk (mset m k v) := by
  induction m with
  | nil => simp [mset, Uk]
  | cons e r ih =>
    obtain ⟨a, b⟩ := e
    simp only [Uk, List.map_cons, List.nodup_cons] at hu
    simp only [mset]
    by_cases h : k = a
    · subst h; simpa [Uk] using hu
    · simp only [if_neg h, Uk, List.map_cons, List.nodup_cons]
      refine ⟨fun hm => ?_, ih hu.2⟩
      rcases (mset_keys r k v a).1 hm with e | h'
      · exact h e.symm
      · exact hu.1 h'
theorem mdel_sub (m : List (α × β)) (k : α) : (mdel m k).Sublist m := by
  induction m with
  | nil => simp [mdel]
  | cons e r ih =>
    simp only [mdel]
    split
    · exact List.sublist_cons_self _ _
    · exact ih.cons_cons _
theorem mdel_uk {m : List (α × β)} (hu : Uk m) (k : α) : Uk (mdel m k) := ((mdel_sub m k).map _).nodup hu
end
def kS (s : TS) : List Int := s.f_Time :: txL s.f_Tx
def k8 (k : A8 Int) : List Int := [k.a0, k.a1, k.a2, k.a3, k.a4, k.a5, k.a6, k.a7]
theorem or2 (x y : Int) : cmp_Or_int [x, y] = some (if x = 0 then y else x) := by
  rw [or_eq _ (by simp)]
  simp only [firstNZ]
  split
  · split <;> simp_all
  · rfl
theorem lex_app : ∀ (l m l' m' : List Int), l.length = m.length → lexI (l ++ l') (m ++ m') = if lexI l m = 0 then lexI l' m' else lexI l m
  | [], [], _, _, _ => by simp [lexI]
  | [], _ :: _, _, _, h => by simp at h
  | _ :: _, [], _, _, h => by simp at h
  | a :: l, b :: m, l', m', h => by
    have ih := lex_app l m l' m' (by simpa using h)
    simp only [List.cons_append, lexI]
    split
    · simp
    · split
      · simp
      · exact ih
theorem stamps_eq (a b : TS) : ids_Stamps a b = some (lexI (kS a) (kS b)) := by
  simp only [ids_Stamps, cmp32_eq, txs_eq, Option.bind_some, or2, kS]
  have h := lex_app [a.f_Time] [b.f_Time] (txL a.f_Tx) (txL b.f_Tx) rfl
  simp only [List.cons_append, List.nil_append] at h
  rw [h]
  have : lexI [a.f_Time] [b.f_Time] = cmp3 a.f_Time b.f_Time := by simp only [lexI, cmp3]; repeat' split
                                                                   all_goals first | rfl | omega
  rw [this]
theorem k8_drop (a : A8 Int) {k : Nat} (h : k < 8) : (k8 a).drop k = a.get k :: (k8 a).drop (k + 1) := by
  rcases lt8 h with h | h | h | h | h | h | h | h <;> subst h <;> rfl
theorem lex_cons (a b : Int) (l m : List Int) : lexI (a :: l) (b :: m) = if cmp3 a b = 0 then lexI l m else cmp3 a b := by
  simp only [lexI, cmp3]
  repeat' split
  all_goals first | rfl | omega
theorem bytes0 (a b : A8 Int) : ∀ (fuel k : Nat), 8 - k < fuel → k ≤ 8 → sCB_l0 a b fuel k = some (lexI ((k8 a).drop k) ((k8 b).drop k))
  | 0, k, h, _ => by omega
  | fuel + 1, k, hf, hk => by
    rw [sCB_l0]
    by_cases h : k < 8
    · rw [if_pos (dT (by omega)), if_pos (by omega), if_neg (dF (by omega)), Int.toNat_natCast, cmp8_eq, Option.bind_some, k8_drop a h, k8_drop b h, lex_cons]
      by_cases h0 : cmp3 (a.get k) (b.get k) = 0
      · rw [if_neg (by simp [h0]), if_pos h0, w64 (by omega) (by omega)]
        exact bytes0 a b fuel (k + 1) (by omega) (by omega)
      · rw [if_pos (by simp [h0]), if_neg h0]
    · have : k = 8 := by omega
      subst this
      rw [if_neg (by simp)]
      rfl
theorem keys_eq (a b : A8 Int) : ids_Keys a b = some (lexI (k8 a) (k8 b)) := by
  have := bytes0 a b big 0 (big_lt (by omega)) (by omega)
  simp only [ids_Keys, sCB]
  rw [show ((0 : Int)) = ((0 : Nat) : Int) from rfl, this]
  rfl
abbrev Us := UT
abbrev Ps := PT
def so (us : Us) (x : TX) : TS := ((mget us x).getD default).f_stamp
def ka (us : Us) (x : TX) : List Int := kS (so us x)
def ko (us : Us) (s : TL) : List Int := k8 s.f_key ++ ka us s.f_tx
def cfA (us : Us) (x y : TX) : Int := lexI (ka us x) (ka us y)
def cfO (us : Us) (s t : TL) : Int := lexI (ko us s) (ko us t)
theorem age_eq {us : Us} {a b : TX} (ha : (mget us a).isSome = true) (hb : (mget us b).isSome = true) (hd wt : Ps) : lT_age_2 us hd wt a b = some (cfA us a b) := by
  obtain ⟨u, hu⟩ := Option.isSome_iff_exists.1 ha
  obtain ⟨v, hv⟩ := Option.isSome_iff_exists.1 hb
  rw [lT_age_2, if_pos ha, hu, Option.bind_some]
  by_cases h : b = a
  · subst h
    rw [hu] at hv; cases hv
    rw [if_pos (by simp), stamps_eq, Option.bind_some]
    simp [cfA, ka, so, hu]
  · rw [if_neg (by simpa using h), if_pos hb, hv, Option.bind_some, stamps_eq, Option.bind_some]
    simp [cfA, ka, so, hu, hv]
theorem order_eq {us : Us} {s t : TL} (ha : (mget us s.f_tx).isSome = true) (hb : (mget us t.f_tx).isSome = true) (hd wt : Ps) : lT_order us hd wt s t = some (cfO us s t) := by
  rw [lT_order, keys_eq, Option.bind_some, age_eq ha hb, Option.bind_some, or2, Option.bind_some, cfO, ko, ko, lex_app (k8 s.f_key) (k8 t.f_key) (ka us s.f_tx) (ka us t.f_tx) rfl]
  rfl
theorem swo_lex {α : Type} (κ : α → List Int) (hl : ∀ x y, (κ x).length = (κ y).length) : Go.Sort.SWO (fun x y => decide (lexI (κ x) (κ y) < 0)) where
  irrefl x := by have := (lex_zero (κ x) (κ x) rfl).2 rfl; simp [this]
  trans x y z h1 h2 := by
    simp only [decide_eq_true_eq] at h1 h2 ⊢
    have h3 := lex_trans (κ x) (κ y) (κ z) (hl _ _) (hl _ _) (by omega) (by omega)
    have : lexI (κ x) (κ z) ≠ 0 := fun h => by
      have e := (lex_zero _ _ (hl x z)).1 h
      have := lex_anti (κ x) (κ y)
      rw [e] at h1 this
      omega
    omega
  ntrans x y z h1 h2 := by
    simp only [decide_eq_false_iff_not] at h1 h2 ⊢
    have a1 := lex_anti (κ x) (κ y); have a2 := lex_anti (κ y) (κ z); have a3 := lex_anti (κ x) (κ z)
    have := lex_trans (κ z) (κ y) (κ x) (hl _ _) (hl _ _) (by omega) (by omega)
    omega
theorem uniq {α : Type} (κ : α → List Int) (hl : ∀ x y, (κ x).length = (κ y).length) {r r' : List α} (hp : r.Perm r') (hi : ∀ x ∈ r, ∀ y ∈ r, κ x = κ y → x = y) (h : r.Pairwise (fun x y => ¬ lexI (κ y) (κ x) < 0)) (h' : r'.Pairwise (fun x y => ¬ lexI (κ y) (κ x) < 0)) : r = r' := by
  refine List.Perm.eq_of_pairwise (le := fun x y => ¬ lexI (κ y) (κ x) < 0) ?_ h h' hp
  intro a b ha hb h1 h2
  have := lex_anti (κ a) (κ b)
  exact hi a ha b (hp.mem_iff.2 hb) ((lex_zero _ _ (hl a b)).1 (by omega))
def put {α : Type} (κ : α → List Int) (x : α) : List α → List α
  | [] => [x]
  | y :: r => if lexI (κ y) (κ x) < 0 then y :: put κ x r else x :: y :: r
def srt {α : Type} (κ : α → List Int) : List α → List α
  | [] => []
  | x :: r => put κ x (srt κ r)
theorem put_perm {α : Type} (κ : α → List Int) (x : α) : ∀ l : List α, (put κ x l).Perm (x :: l)
  | [] => List.Perm.refl _
  | y :: r => by
    rw [put]
    split
    · exact ((put_perm κ x r).cons y).trans (List.Perm.swap x y r)
    · exact List.Perm.refl _
theorem srt_perm {α : Type} (κ : α → List Int) : ∀ l : List α, (srt κ l).Perm l
  | [] => List.Perm.refl _
  | x :: r => (put_perm κ x _).trans ((srt_perm κ r).cons x)
theorem put_sorted {α : Type} (κ : α → List Int) (hl : ∀ x y, (κ x).length = (κ y).length) (x : α) : ∀ l : List α, l.Pairwise (fun x y => ¬ lexI (κ y) (κ x) < 0) → (put κ x l).Pairwise (fun x y => ¬ lexI (κ y) (κ x) < 0)
  | [], _ => List.pairwise_singleton _ _
  | y :: r, h => by
    rw [put]
    obtain ⟨h1, h2⟩ := List.pairwise_cons.1 h
    split
    · rename_i hlt
      refine List.pairwise_cons.2 ⟨fun z hz => ?_, put_sorted κ hl x r h2⟩
      rcases List.mem_cons.1 ((put_perm κ x r).mem_iff.1 hz) with e | e
      · subst e
        have := lex_anti (κ y) (κ z)
        omega
      · exact h1 z e
    · rename_i hlt
      refine List.pairwise_cons.2 ⟨fun z hz => ?_, h⟩
      rcases List.mem_cons.1 hz with e | e
      · subst e; exact hlt
      · have g := h1 z e
        have := (swo_lex κ hl).ntrans z y x (by simpa using g) (by simpa using hlt)
        simpa using this
theorem srt_sorted {α : Type} (κ : α → List Int) (hl : ∀ x y, (κ x).length = (κ y).length) : ∀ l : List α, (srt κ l).Pairwise (fun x y => ¬ lexI (κ y) (κ x) < 0)
  | [] => List.Pairwise.nil
  | x :: r => put_sorted κ hl x _ (srt_sorted κ hl r)
theorem len_all : (List.range 256).all (fun n => match mb_Len (IntKind.wrap .u64 (n : Int)) with | some m => decide (0 ≤ m ∧ m < 1000) | none => false) = true := by kernel_rfl
theorem blen {n : Nat} (h : n < 256) : ∃ m : Nat, mb_Len (IntKind.wrap .u64 (n : Int)) = some (m : Int) ∧ m < 1000 := by
  have h1 := List.all_eq_true.1 len_all n (List.mem_range.2 h)
  split at h1
  · rename_i m hm
    have h2 := of_decide_eq_true h1
    exact ⟨m.toNat, by rw [hm]; congr 1; omega, by omega⟩
  · cases h1
theorem sortA {us : Us} {l : List TX} (hz : l.length < 256) (hu : ∀ x ∈ l, (mget us x).isSome = true) (hi : ∀ x ∈ l, ∀ y ∈ l, ka us x = ka us y → x = y) (hd wt : Ps) : sFA l us hd wt = some (srt (ka us) l) := by
  obtain ⟨m, hm, hm2⟩ := blen hz
  have hc : CmpOn false us hd wt (fun x : TX => (mget us x).isSome = true) (cfA us) := fun x y hx hy => age_eq hx hy hd wt
  have hl : ∀ x y, (ka us x).length = (ka us y).length := fun _ _ => rfl
  obtain ⟨r, h1, h2, h3⟩ := pdq_eq hc (swo_lex (ka us) hl) l hz hu m hm2
  have h2' : List.Perm (α := TX) r l := h2
  have h1' : sPD false l 0 (l.length : Int) m us hd wt = some r := h1
  rw [sFA, hm, Option.bind_some, h1', Option.bind_some]
  congr 1
  exact uniq (ka us) hl (h2'.trans (srt_perm _ l).symm) (fun x hx y hy => hi x (h2'.mem_iff.1 hx) y (h2'.mem_iff.1 hy)) h3 (srt_sorted (ka us) hl l)
theorem sortS {us : Us} {l : List TL} (hz : l.length < 256) (hu : ∀ x ∈ l, (mget us x.f_tx).isSome = true) (hi : ∀ x ∈ l, ∀ y ∈ l, ko us x = ko us y → x = y) (hd wt : Ps) : sFS l us hd wt = some (srt (ko us) l) := by
  obtain ⟨m, hm, hm2⟩ := blen hz
  have hc : CmpOn true us hd wt (fun x : TL => (mget us x.f_tx).isSome = true) (cfO us) := fun x y hx hy => order_eq hx hy hd wt
  have hl : ∀ x y, (ko us x).length = (ko us y).length := fun _ _ => rfl
  obtain ⟨r, h1, h2, h3⟩ := pdq_eq hc (swo_lex (ko us) hl) l hz hu m hm2
  have h2' : List.Perm (α := TL) r l := h2
  have h1' : sPD true l 0 (l.length : Int) m us hd wt = some r := h1
  rw [sFS, hm, Option.bind_some, h1', Option.bind_some]
  congr 1
  exact uniq (ko us) hl (h2'.trans (srt_perm _ l).symm) (fun x hx y hy => hi x (h2'.mem_iff.1 hx) y (h2'.mem_iff.1 hy)) h3 (srt_sorted (ko us) hl l)
end Go.Proofs.YtddgjfclpknkcaaGreatDoor.Wk
