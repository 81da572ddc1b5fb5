import Derived.Test.YtddgjfclpknkcaaGreatDoorLkL
set_option linter.unusedVariables false
set_option linter.unusedSimpArgs false
namespace Go.Proofs.YtddgjfclpknkcaaGreatDoor.Wk
open Go Go.Cn
theorem keys1 (t13 : Int) (y2 : List TA) (k0 : Int → List (Ky × Bool) → List Ky → Option (List Ky)) (hK : (y2.getD t13.toNat default).f_Keys.length ≤ 30) : ∀ (fuel k : Nat) (m : List (Ky × Bool)) (l : List Ky), 31 - k < fuel → k ≤ (([(y2.getD t13.toNat default).f_Key] : List Ky) ++ (y2.getD t13.toNat default).f_Keys).length → l.length ≤ 100000 + k →
  ∃ m' l', pl_keys_l1 t13 y2 ((((([(y2.getD t13.toNat default).f_Key] : List Ky) ++ (y2.getD t13.toNat default).f_Keys)).length : Nat) : Int) k0 fuel k m l = k0 (IntKind.wrap .i64 (t13 + 1)) m' l' ∧ l'.length ≤ l.length + ((([(y2.getD t13.toNat default).f_Key] : List Ky) ++ (y2.getD t13.toNat default).f_Keys).length - k)
 | 0, k, _, _, h, hk, _ => by simp only [List.length_append, List.length_cons, List.length_nil] at hk; omega
 | fuel + 1, k, m, l, h, hk, hl => by
  have hlen : (([(y2.getD t13.toNat default).f_Key] : List Ky) ++ (y2.getD t13.toNat default).f_Keys).length ≤ 31 := by simp only [List.length_append, List.length_cons, List.length_nil]; omega
  rw [pl_keys_l1]
  have ih := fun m l a b c => keys1 t13 y2 k0 hK fuel (k + 1) m l a b c
  generalize ([(y2.getD t13.toNat default).f_Key] : List Ky) ++ (y2.getD t13.toNat default).f_Keys = K at hk hlen ih ⊢
  by_cases hlt : k < K.length
  ·rw [if_pos (dT (by omega)), if_pos (by omega), Option.bind_some, w64 (by omega) (by omega), show (((k : Nat) : Int) + 1) = ((k + 1 : Nat) : Int) by omega]
   split
   ·rw [if_pos (by simp only [List.length_cons, List.length_nil]; omega)]
    obtain ⟨m', l', e, hl'⟩ := ih (mset m (K.getD ((k : Nat) : Int).toNat default) true) (l ++ [K.getD ((k : Nat) : Int).toNat default]) (by omega) (by omega) (by simp; omega)
    exact ⟨m', l', e, by simp only [List.length_append, List.length_cons, List.length_nil] at hl'; omega⟩
   ·obtain ⟨m', l', e, hl'⟩ := ih m l (by omega) (by omega) (by omega)
    exact ⟨m', l', e, by omega⟩
  ·rw [if_neg (dF (by omega))]
   exact ⟨m, l, rfl, by omega⟩
theorem keys0 (y2 : List TA) (hl : y2.length ≤ 60) (hK : ∀ a ∈ y2, a.f_Keys.length ≤ 30) : ∀ (fuel t : Nat) (m : List (Ky × Bool)) (l : List Ky), y2.length - t < fuel → t ≤ y2.length → l.length ≤ 31 * t → ∃ r, pl_keys_l0 y2 fuel t m l = some r ∧ r.length ≤ 2000
 | 0, t, _, _, h, _, _ => by omega
 | fuel + 1, t, m, l, h, ht, hll => by
  rw [pl_keys_l0]
  by_cases hlt : t < y2.length
  ·have hmem : y2.getD t default ∈ y2 := by rw [List.getD_eq_getElem?_getD, List.getElem?_eq_getElem hlt]; exact List.getElem_mem hlt
   have hk := hK _ hmem
   have hk' : (y2.getD ((t : Nat) : Int).toNat default).f_Keys.length ≤ 30 := hk
   rw [if_pos (dT (by omega)), if_pos (by omega), if_pos (by simp only [List.length_cons, List.length_nil]; omega), Option.bind_some]
   obtain ⟨m', l', e, hl'⟩ := keys1 (t : Int) y2 (pl_keys_l0 y2 fuel) hk' big 0 m l (big_lt (by omega)) (by omega) (by omega)
   have hlen : (([(y2.getD ((t : Nat) : Int).toNat default).f_Key] : List Ky) ++ (y2.getD ((t : Nat) : Int).toNat default).f_Keys).length ≤ 31 := by simp only [List.length_append, List.length_cons, List.length_nil]; omega
   have e' := e
   rw [w64 (by omega) (by omega)] at e'
   obtain ⟨r, hr, hr2⟩ := keys0 y2 hl hK fuel (t + 1) m' l' (by omega) (by omega) (by omega)
   exact ⟨r, Eq.trans e' hr, hr2⟩
  ·rw [if_neg (dF (by omega))]
   exact ⟨l, rfl, by omega⟩
theorem keys_eq2 (s : List TA) (hf : farB s = false) : ∃ r, pl_keys s = some r ∧ r.length ≤ 2000 := by
 rw [pl_keys, short_eq, Option.bind_some]
 have hlen := List.length_take_le 60 s
 exact keys0 (s.take 60) hlen (far_keys hf) big 0 [] [] (big_lt (by omega)) (by omega) (by simp)
theorem pre4 {us : Us} {hd wt : Ps} {n : Nat} (ho : Ok us hd wt n) (hb : Bt us hd wt) (x : Tx) (l : List Ky) (hk : Kp x l us hd) (hz : l.length ≤ 10000) : ∀ (fuel k : Nat), l.length - k < fuel → k ≤ l.length → pl_LockPrepared_l4 x l us hd wt fuel k = some true
 | 0, k, h, _ => by omega
 | fuel + 1, k, h, hkl => by
  have zh := ho.nh; have zn := ho.nn
  rw [pl_LockPrepared_l4]
  by_cases hlt : k < l.length
  ·have hmem : l.getD k default ∈ l := by rw [List.getD_eq_getElem?_getD, List.getElem?_eq_getElem hlt]; exact List.getElem_mem hlt
   rw [if_pos (dT (by omega)), if_pos (by omega), Int.toNat_natCast, mode_eq, Option.bind_some, hk.k _ hmem, if_neg (by simp), w64 (by omega) (by omega)]
   exact pre4 ho hb x l hk hz fuel (k + 1) (by omega) (by omega)
  ·have hw : waits wt x = false := by
    rw [Bool.eq_false_iff]
    intro hw
    obtain ⟨e, he, hx⟩ := List.any_eq_true.1 hw
    have := hb.w.p e he
    have hx' : e.1.f_tx = x := by simpa using hx
    rw [hx', hk.p] at this; cases this
   rw [if_neg (dF (by omega)), prepared_eq, Option.bind_some, hk.p, if_pos rfl, waits_eq _ _ _ _ (by omega), Option.bind_some, hw, if_pos (by simp), alive_eq]; rfl
theorem pre3 (x : Tx) (l : List Ky) (t87 : Int) (y : List TA) (k2 : Int → Us → Ps → Ps → Option Bool) (us : Us) (hd wt : Ps) (w : List Tx) (hx : x ∉ w) (hz : w.length ≤ 10000) : ∀ (fuel k : Nat), w.length - k < fuel → k ≤ w.length → pl_LockPrepared_l3 x l t87 y k2 fuel w ((w.length : Nat) : Int) k us hd wt = k2 (IntKind.wrap .i64 (t87 + 1)) us hd wt
 | 0, k, h, _ => by omega
 | fuel + 1, k, h, hk => by
  rw [pl_LockPrepared_l3]
  by_cases hlt : k < w.length
  ·have hmem : w.getD k default ∈ w := by rw [List.getD_eq_getElem?_getD, List.getElem?_eq_getElem hlt]; exact List.getElem_mem hlt
   have hne : w.getD k default ≠ x := fun e => hx (e ▸ hmem)
   rw [if_pos (dT (by omega)), if_pos (by omega), Int.toNat_natCast, if_neg (by simpa using hne), w64 (by omega) (by omega)]
   exact pre3 x l t87 y k2 us hd wt w hx hz fuel (k + 1) (by omega) (by omega)
  ·rw [if_neg (dF (by omega))]
theorem pre2 (x : Tx) (l : List Ky) (hz : l.length ≤ 10000) (y : List TA) (hl : y.length ≤ 60) (hK : ∀ a ∈ y, a.f_Keys.length ≤ 30) : ∀ (fuel t : Nat) (us : Us) (hd wt : Ps), y.length - t < fuel → t ≤ y.length → Ok us hd wt (t + 61) → Bt us hd wt → Kp x l us hd → pl_LockPrepared_l2 x l y fuel t us hd wt = some true
 | 0, t, _, _, _, h, _, _, _, _ => by omega
 | fuel + 1, t, us, hd, wt, h, ht, ho, hb, hk => by
  rw [pl_LockPrepared_l2]
  by_cases hlt : t < y.length
  ·have hmem : y.getD t default ∈ y := by rw [List.getD_eq_getElem?_getD, List.getElem?_eq_getElem hlt]; exact List.getElem_mem hlt
   have main : ¬ (Int.tmod (y.getD t default).f_Kind 5 = 3 ∧ (y.getD t default).f_Stamp.f_Tx = x) → ((pl_does us hd wt (y.getD t default)).bind fun y8 => pl_LockPrepared_c28 x l t y (pl_LockPrepared_l2 x l y fuel) y8.1.f_Wounded y8.1.f_Granted y8.2.2.1 y8.2.2.2.1 y8.2.2.2.2) = some true := fun hne => by
    obtain ⟨e, o⟩ := does_eq ho (by omega) (y.getD t default) (hK _ hmem)
    have g := Bt.does ho (by omega) hb (y.getD t default) (hK _ hmem)
    obtain ⟨k1, hw⟩ := Kp.does ho (by omega) hb hk (y.getD t default) hne
    have hwl := wound_len ho (by omega) (y.getD t default)
    rw [e, Option.bind_some, pl_LockPrepared_c28]
    generalize doesR us hd wt (y.getD t default) = R at o g k1 hw hwl
    obtain ⟨Ro, Re, Ru, Rh, Rw⟩ := R
    dsimp only at o g k1 hw hwl ⊢
    refine agreeB_eq fun l1 h1 => agreeB_eq fun l2 h2 => ?_
    have p1 := Bag.exact h1
    have p2 := Bag.exact h2
    rw [show (0 : Int) = ((0 : Nat) : Int) from rfl, pre3 x l t y (pl_LockPrepared_l2 x l y fuel) Ru l1 l2 Ro.f_Wounded hw (by omega) big 0 (big_lt (by omega)) (by omega), w64 (by omega) (by omega)]
    refine pre2 x l hz y hl hK fuel (t + 1) Ru l1 l2 (by omega) (by omega) ?_ (g.perm o p1.symm p2.symm) ⟨k1.p, fun k hkm => by rw [md_perm o.uh p1.symm]; exact k1.k k hkm⟩
    have := o.perm p1.symm p2.symm
    rw [show t + 1 + 61 = t + 61 + 1 by omega]; exact this
   rw [if_pos (dT (by omega)), if_pos (by omega), Int.toNat_natCast, Option.bind_some]
   by_cases h3 : Int.tmod (y.getD t default).f_Kind 5 = 3
   ·have d3 : ((Int.tmod (y.getD t default).f_Kind 5 == 3) : Bool) = true := by rw [h3]; rfl
    rw [if_pos d3]
    by_cases hx : (y.getD t default).f_Stamp.f_Tx = x
    ·rw [if_pos (decide_eq_true hx), w64 (by omega) (by omega)]
     refine pre2 x l hz y hl hK fuel (t + 1) us hd wt (by omega) (by omega) ?_ hb hk
     rw [show t + 1 + 61 = t + 61 + 1 by omega]; exact ho.up (Nat.le_succ _) (by omega)
    ·rw [if_neg (by rw [decide_eq_true_eq]; exact hx)]
     exact main (fun hh => hx hh.2)
   ·rw [if_neg (by rw [beq_iff_eq]; exact h3)]
    exact main (fun hh => h3 hh.1)
  ·rw [if_neg (dF (by omega))]
   exact pre4 ho hb x l hk hz big 0 (big_lt (by omega)) (by omega)
theorem prep_res {us : Us} {hd wt : Ps} {n : Nat} (ho : Ok us hd wt n) (hb : Bt us hd wt) {x : Tx} (h0 : (prepR us hd wt x).2.1 = 0) : prep (prepR us hd wt x).2.2.1 x = true ∧ ∀ k, md (prepR us hd wt x).2.2.2.1 ⟨x, k⟩ = 0 ∨ md (prepR us hd wt x).2.2.2.1 ⟨x, k⟩ = 2 := by
 unfold prepR at h0 ⊢
 split at h0
 ·cases h0
 ·rename_i u hu
  split at h0
  ·cases h0
  ·rename_i hnw
   simp only [hu, hnw, Bool.false_eq_true, if_false]
   refine ⟨by rw [prep, mset_get, if_pos rfl]; rfl, fun k => ?_⟩
   have hno : (⟨x, k⟩ : Sl) ∉ wt.map (·.1) := fun hm => by
    obtain ⟨e, he, hes⟩ := List.mem_map.1 hm
    exact hnw (List.any_eq_true.2 ⟨e, he, by rw [hes]; simp⟩)
   rw [onR_keep hno]
   rcases md_cases (dropR hd x) ⟨x, k⟩ with h1 | h1
   ·exact Or.inl h1
   ·right
    obtain ⟨h2, h3⟩ := List.mem_filter.1 h1
    have h4 := hb.w.n _ h2
    dsimp only at h4
    simp only [decide_true, Bool.true_and, Bool.not_eq_true', beq_eq_false_iff_ne, ne_eq] at h3
    omega
theorem pre1 (more : List TA) (hf : farB more = false) (x : Tx) (y3 : Rs) (hp : prep y3.2.2.1 x = true) (hm : ∀ k, md y3.2.2.2.1 ⟨x, k⟩ = 0 ∨ md y3.2.2.2.1 ⟨x, k⟩ = 2) (ho : Ok y3.2.2.1 y3.2.2.2.1 y3.2.2.2.2 61) (hb : Bt y3.2.2.1 y3.2.2.2.1 y3.2.2.2.2) (A B : List Ky) (hA : A.length ≤ 2000) (hB : B.length ≤ 2000) : ∀ (fuel t : Nat) (l : List Ky), (A ++ B).length - t < fuel → t ≤ (A ++ B).length → l.length ≤ t → (∀ k ∈ l, md y3.2.2.2.1 ⟨x, k⟩ = 2) → pl_LockPrepared_l1 more x y3 A B fuel t l = some true
 | 0, t, _, h, _, _, _ => by omega
 | fuel + 1, t, l, h, ht, hl, hk => by
  have hab : (A ++ B).length ≤ 4000 := by simp only [List.length_append]; omega
  rw [pl_LockPrepared_l1]
  have ih := pre1 more hf x y3 hp hm ho hb A B hA hB fuel (t + 1)
  generalize A ++ B = K at h ht hab ih ⊢
  by_cases hlt : t < K.length
  ·rw [if_pos (dT (by omega)), if_pos (by omega), Int.toNat_natCast, mode_eq, Option.bind_some, w64 (by omega) (by omega), show (((t : Nat) : Int) + 1) = ((t + 1 : Nat) : Int) by omega]
   generalize K.getD t default = k
   rcases hm k with h1 | h1
   ·rw [if_neg (by rw [h1]; simp), if_neg (by rw [h1]; simp)]
    exact ih l (by omega) (by omega) (by omega) hk
   ·rw [if_neg (by rw [h1]; simp), if_pos (by rw [h1]; simp), if_pos (by simp only [List.length_cons, List.length_nil]; omega)]
    refine ih (l ++ [k]) (by omega) (by omega) (by simp; omega) (fun z hz => ?_)
    rcases List.mem_append.1 hz with h2 | h2
    ·exact hk z h2
    ·rw [List.mem_singleton.1 h2]; exact h1
  ·have hlen := List.length_take_le 60 more
   rw [if_neg (dF (by omega)), short_eq, Option.bind_some]
   exact pre2 x l (by omega) (more.take 60) hlen (far_keys hf) big 0 _ _ _ (big_lt (by omega)) (by omega) ho hb ⟨hp, hk⟩
theorem pre0 (script more : List TA) (hs : farB script = false) (hf : farB more = false) (x : Tx) (y : List TA) (hl : y.length ≤ 60) (hK : ∀ a ∈ y, a.f_Keys.length ≤ 30) : ∀ (fuel t : Nat) (us : Us) (hd wt : Ps), y.length - t < fuel → t ≤ y.length → Ok us hd wt t → Bt us hd wt → pl_LockPrepared_l0 script more x y fuel t us hd wt = some true
 | 0, t, _, _, _, h, _, _, _ => by omega
 | fuel + 1, t, us, hd, wt, h, ht, ho, hb => by
  rw [pl_LockPrepared_l0]
  by_cases hlt : t < y.length
  ·have hmem : y.getD t default ∈ y := by rw [List.getD_eq_getElem?_getD, List.getElem?_eq_getElem hlt]; exact List.getElem_mem hlt
   obtain ⟨e, o⟩ := does_eq ho (by omega) (y.getD t default) (hK _ hmem)
   have g := Bt.does ho (by omega) hb (y.getD t default) (hK _ hmem)
   rw [if_pos (dT (by omega)), if_pos (by omega), Int.toNat_natCast, e, Option.bind_some, pl_LockPrepared_c8]
   generalize doesR us hd wt (y.getD t default) = R at o g
   obtain ⟨Ro, Re, Ru, Rh, Rw⟩ := R
   dsimp only at o g ⊢
   refine agreeB_eq fun l1 h1 => agreeB_eq fun l2 h2 => ?_
   have p1 := Bag.exact h1
   have p2 := Bag.exact h2
   rw [w64 (by omega) (by omega)]
   exact pre0 script more hs hf x y hl hK fuel (t + 1) Ru l1 l2 (by omega) (by omega) (o.perm p1.symm p2.symm) (g.perm o p1.symm p2.symm)
  ·obtain ⟨e, o⟩ := prep_eq ho x
   have g := hb.prep ho x
   rw [if_neg (dF (by omega)), e, Option.bind_some]
   by_cases h0 : (prepR us hd wt x).2.1 = 0
   ·obtain ⟨hp, hm⟩ := prep_res ho hb h0
    obtain ⟨A, hA, hA2⟩ := keys_eq2 script hs
    obtain ⟨B, hB, hB2⟩ := keys_eq2 more hf
    rw [if_neg (by rw [h0]; simp), pl_LockPrepared_c12, hA, Option.bind_some, hB, Option.bind_some, if_pos (by omega)]
    exact pre1 more hf x _ hp hm (o.up (by omega) (by omega)) g A B hA2 hB2 big 0 [] (big_lt (by simp only [List.length_append]; omega)) (by omega) (by simp) (by simp)
   ·rw [if_pos (by simpa using h0), pl_LockPrepared_c11, alive_eq]; rfl
theorem prepared_law (script more : List TA) (x : Tx) {p q r : Prop} (_ : p) (_ : q) (_ : r) : pl_LockPrepared script more x = some true := by
 rw [pl_LockPrepared, lock_New, Option.bind_some, far_eq, Option.bind_some]
 cases hs : farB script with
 | true => rw [if_pos rfl, alive_eq]; rfl
 | false =>
  rw [if_neg (by simp), far_eq, Option.bind_some]
  cases hf : farB more with
  | true => rw [if_pos rfl, alive_eq]; rfl
  | false =>
   rw [if_neg (by simp), short_eq, Option.bind_some]
   have hlen := List.length_take_le 60 script
   exact pre0 script more hs hf x (script.take 60) hlen (far_keys hs) big 0 [] [] [] (big_lt (by omega)) (by omega) ok_new bt_new
end Go.Proofs.YtddgjfclpknkcaaGreatDoor.Wk
