import Derived.Test.YtddgjfclpknkcaaGreatDoorLkG
import Derived.Test.YtddgjfclpknkcaaGreatDoorLkU
set_option linter.unusedVariables false
set_option linter.unusedSimpArgs false
namespace Go.Proofs.YtddgjfclpknkcaaGreatDoor.Wk
open Go Go.Cn
theorem first0 (a b : List Int) (hab : a.length = b.length) (hz : a.length ≤ 1000) : ∀ (fuel i : Nat), a.length - i < fuel → i ≤ a.length → parrelref05_first_l0 a b fuel i = some (lexI (a.drop i) (b.drop i))
 | 0, i, h, _ => by omega
 | fuel + 1, i, h, hi => by
  rw [parrelref05_first_l0]
  by_cases hlt : i < a.length
  ·rw [if_pos (dT (by omega)), if_pos (by omega), if_pos (by omega), Int.toNat_natCast, getD_drop a i default hlt, getD_drop b i default (by omega), w64 (by omega) (by omega), show (((i : Nat) : Int) + 1) = ((i + 1 : Nat) : Int) by omega, first0 a b hab hz fuel (i + 1) (by omega) (by omega)]
   simp only [lexI, decide_eq_true_eq]
   split
   ·rfl
   ·split <;> rfl
  ·rw [if_neg (dF (by omega))]
   rw [List.drop_eq_nil_of_le (by omega : a.length ≤ i)]
   simp [lexI]
def Nd (x : Tx) : Prop := 0 ≤ x.f_Node ∧ x.f_Node < 4294967296
theorem dstamps {a b : TS} (ha : Nd a.f_Tx) (hb : Nd b.f_Tx) : parrelref05_Stamps a b = some (lexI (kS a) (kS b)) := by
 simp only [parrelref05_Stamps, parrelref05_numbers, Option.bind_some, wu32 ha.1 ha.2, wu32 hb.1 hb.2]
 rw [if_pos (by simp), if_pos (by simp), parrelref05_first]
 have := first0 (kS a) (kS b) rfl (by simp [kS, txL]) big 0 (big_lt (by simp [kS, txL])) (by omega)
 rw [List.drop_zero, List.drop_zero] at this
 exact congrArg (fun z => Option.bind z fun y => some y) this
def Ag (m : List (Tx × TS)) (us : Us) : Prop := ∀ x, mget m x = (mget us x).map (·.f_stamp)
def valS (was : List (Tx × TS)) (a : TA) (x : Tx) : TS := if (mget was x).isSome = true then (mget was x).getD default else if Int.tmod a.f_Kind 5 = 4 then ⟨0, x⟩ else a.f_Stamp
theorem stamps0 (us : Us) (hd wt : Ps) (was : List (Tx × TS)) (a : TA) (y : List Tx) (hy : y.length ≤ 1000) : ∀ (fuel k : Nat) (m : List (Tx × TS)), y.length - k < fuel → k ≤ y.length →
  pl_stamps_l0 us hd wt was a y fuel k m = some ((y.drop k).foldl (fun m x => mset m x (valS was a x)) m)
 | 0, k, _, h, _ => by omega
 | fuel + 1, k, m, h, hk => by
  rw [pl_stamps_l0]
  by_cases hlt : k < y.length
  ·have ih := fun m => stamps0 us hd wt was a y hy fuel (k + 1) m (by omega) (by omega)
   rw [if_pos (dT (by omega)), if_pos (by omega), Int.toNat_natCast, Option.bind_some, w64 (by omega) (by omega), show (((k : Nat) : Int) + 1) = ((k + 1 : Nat) : Int) by omega, getD_drop y k default hlt, List.foldl_cons]
   generalize y.getD k default = x
   by_cases h1 : (mget was x).isSome = true
   ·rw [if_pos h1, ih, valS, if_pos h1]
   ·rw [if_neg h1, valS, if_neg h1]
    by_cases h2 : Int.tmod a.f_Kind 5 = 4
    ·rw [if_pos (by simp [h2]), Option.bind_some, ih, if_pos h2]
    ·rw [if_neg (by simpa using h2), ih, if_neg h2]
  ·rw [if_neg (dF (by omega))]
   rw [List.drop_eq_nil_of_le (by omega : y.length ≤ k)]; rfl
theorem fold_mset (f : Tx → TS) : ∀ (y : List Tx) (m : List (Tx × TS)) (x : Tx), mget (y.foldl (fun m x => mset m x (f x)) m) x = if x ∈ y then some (f x) else mget m x
 | [], m, x => by simp
 | a :: y, m, x => by
  rw [List.foldl_cons, fold_mset f y, mset_get]
  by_cases h1 : x ∈ y
  ·simp [h1]
  ·by_cases h2 : x = a
   ·subst h2; simp
   ·simp [h1, h2]
theorem stamps_law {us0 us : Us} (hd wt : Ps) {m : List (Tx × TS)} (hm : Ag m us0) (a : TA) (hu : Uk us) (hl : us.length ≤ 64)
  (hst : ∀ x u', mget us x = some u' → (∃ u, mget us0 x = some u ∧ u.f_stamp = u'.f_stamp) ∨ (mget us0 x = none ∧ x = a.f_Stamp.f_Tx ∧ u'.f_stamp = if Int.tmod a.f_Kind 5 = 4 then ⟨0, x⟩ else a.f_Stamp)) :
  ∃ m', pl_stamps us hd wt m a = some m' ∧ Ag m' us := by
 refine ⟨(sortL (fun a b => lexI (txL a) (txL b)) (us.map (·.1))).foldl (fun m' x => mset m' x (valS m a x)) [], ?_, ?_⟩
 ·rw [pl_stamps, users_eq us hd wt (by omega), Option.bind_some]
  have := stamps0 us hd wt m a (sortL (fun a b => lexI (txL a) (txL b)) (us.map (·.1))) (by rw [sortL_len, List.length_map]; omega) big 0 [] (big_lt (by rw [sortL_len, List.length_map]; omega)) (by omega)
  rw [List.drop_zero] at this
  exact this
 ·intro x
  rw [fold_mset]
  cases hg : mget us x with
  | none =>
   rw [if_neg (fun hx => ?_)]
   ·rfl
   ·have := keys_mget hu ((sortL_perm _ _).mem_iff.1 hx)
    rw [hg] at this; cases this
  | some u' =>
   have hx : x ∈ us.map (·.1) := mget_keys (by rw [hg]; rfl)
   rw [if_pos ((sortL_perm _ _).mem_iff.2 hx), valS]
   rcases hst x u' hg with ⟨u, h1, h2⟩ | ⟨h1, _, h2⟩
   ·have hmx := hm x
    rw [h1] at hmx
    rw [hmx]; simp [h2]
   ·have hmx := hm x
    rw [h1] at hmx
    rw [hmx, if_neg (by simp)]
    exact congrArg some h2.symm
theorem user_step {us : Us} {hd wt : Ps} {n : Nat} (ho : Ok us hd wt n) (a : TA) : ∀ x u', mget (doesR us hd wt a).2.2.1 x = some u' → (∃ u, mget us x = some u ∧ u.f_stamp = u'.f_stamp) ∨ (mget us x = none ∧ x = a.f_Stamp.f_Tx ∧ u'.f_stamp = if Int.tmod a.f_Kind 5 = 4 then ⟨0, x⟩ else a.f_Stamp) := by
 intro x u' h
 have go : ∀ {us1 : Us} {s : Sl} {mode : Int}, Uk us1 → mget (askGo us1 hd wt s mode).2.2.1 x = some u' → mget us1 x = some u' := fun {us1 s mode} hu h => by
  have hf := fold_us (us := us1) (hd := hd) (wt := wt) hu (woundL us1 hd (mset wt s (mx mode (md wt s))) s) (st := (us1, hd, mset wt s (mx mode (md wt s)))) hu x
  have h' : mget ((woundL us1 hd (mset wt s (mx mode (md wt s))) s).foldl goneF (us1, hd, mset wt s (mx mode (md wt s)))).1 x = some u' := h
  rw [hf] at h'
  split at h'
  ·cases h'
  ·exact h'
 unfold doesR at h
 split at h
 ·unfold prepR at h
  split at h
  ·exact Or.inl ⟨u', h, rfl⟩
  ·rename_i u hu
   split at h
   ·exact Or.inl ⟨u', h, rfl⟩
   ·have h' : mget (mset us a.f_Stamp.f_Tx ⟨u.f_stamp, true⟩) x = some u' := h
    rw [mset_get] at h'
    split at h'
    ·rename_i he
     cases h'
     exact Or.inl ⟨u, by rw [he]; exact hu, rfl⟩
    ·exact Or.inl ⟨u', h', rfl⟩
 ·split at h
  ·unfold relR at h
   split at h
   ·exact Or.inl ⟨u', h, rfl⟩
   ·have h' : mget (mdel us a.f_Stamp.f_Tx) x = some u' := h
    rw [mdel_get ho.uu] at h'
    split at h'
    ·cases h'
    ·exact Or.inl ⟨u', h', rfl⟩
  ·split at h
   ·rename_i h4
    dsimp only at h
    unfold restR at h
    split at h
    ·exact Or.inl ⟨u', h, rfl⟩
    ·split at h
     ·exact Or.inl ⟨u', h, rfl⟩
     ·split at h
      ·exact Or.inl ⟨u', h, rfl⟩
      ·rename_i hnone
       split at h
       ·exact Or.inl ⟨u', h, rfl⟩
       ·split at h
        ·exact Or.inl ⟨u', h, rfl⟩
        ·have h' : mget (mset us a.f_Stamp.f_Tx ⟨⟨0, a.f_Stamp.f_Tx⟩, true⟩) x = some u' := h
         rw [mset_get] at h'
         split at h'
         ·rename_i he
          cases h'
          refine Or.inr ⟨by rw [he]; simpa using hnone, he, ?_⟩
          rw [if_pos h4, he]
         ·exact Or.inl ⟨u', h', rfl⟩
   ·rename_i h4
    unfold askR at h
    split at h
    ·exact Or.inl ⟨u', h, rfl⟩
    ·split at h
     ·split at h
      ·exact Or.inl ⟨u', h, rfl⟩
      ·split at h
       ·exact Or.inl ⟨u', h, rfl⟩
       ·exact Or.inl ⟨u', go ho.uu h, rfl⟩
     ·rename_i hnone
      split at h
      ·exact Or.inl ⟨u', h, rfl⟩
      ·split at h
       ·exact Or.inl ⟨u', h, rfl⟩
       ·have h' := go (mset_uk ho.uu _ _) h
        rw [mset_get] at h'
        split at h'
        ·rename_i he
         cases h'
         refine Or.inr ⟨by rw [he]; exact hnone, he, ?_⟩
         rw [if_neg h4]
        ·exact Or.inl ⟨u', h', rfl⟩
theorem md_perm {p p' : Ps} (hu : Uk p) (hp : p.Perm p') (s : Sl) : md p' s = md p s :=
 md_sub hu (uk_perm hp hu) (fun e he => hp.mem_iff.2 he) (fun e he _ => hp.mem_iff.1 he)
theorem atL_perm {p p' : Ps} (hp : p.Perm p') (k : Ky) : (atL p k).Perm (atL p' k) := (hp.filter _).map _
theorem isFree_perm {us : Us} {hd wt hd' wt' : Ps} (hu : Uk hd) (hw : Uk wt) (h1 : hd.Perm hd') (h2 : wt.Perm wt') (s : Sl) : isFree us hd' wt' s = isFree us hd wt s := by
 have e1 : freeH hd' wt' s = freeH hd wt s := by funext x; rw [freeH, freeH, md_perm hu h1, md_perm hw h2]
 have e2 : freeW us wt' s = freeW us wt s := by funext x; rw [freeW, freeW, md_perm hw h2, md_perm hw h2]
 rw [isFree, isFree, e1, e2, any_perm (atL_perm h1 _), any_perm (atL_perm h2 _)]
theorem Bt.perm {us : Us} {hd wt hd' wt' : Ps} {n : Nat} (ho : Ok us hd wt n) (h : Bt us hd wt) (h1 : hd.Perm hd') (h2 : wt.Perm wt') : Bt us hd' wt' :=
 ⟨⟨fun e he k hk => h.w.w e (h2.mem_iff.2 he) k (h1.mem_iff.2 hk), fun e he => by rw [md_perm ho.uh h1]; exact h.w.g e (h2.mem_iff.2 he), fun e he => h.w.p e (h2.mem_iff.2 he), fun e he => h.w.m e (h2.mem_iff.2 he), fun e he => h.w.n e (h1.mem_iff.2 he)⟩,
  fun e he => by rw [isFree_perm ho.uh ho.uw h1 h2]; exact h.f e (h2.mem_iff.2 he)⟩
theorem prepared_eq (us : Us) (hd wt : Ps) (x : Tx) : lT_Prepared us hd wt x = some (prep us x) := by
 rw [lT_Prepared, lT_ok, Option.bind_some, prep]
 cases hg : mget us x with
 | none => rw [if_neg (by simp)]; rfl
 | some u => rw [if_pos (show (some u).isSome = true from rfl)]; rfl
def AgW (m : List (Tx × TS)) (us : Us) : Prop := ∀ x, (mget us x).isSome = true → (mget m x).getD default = so us x
theorem Ag.w {m : List (Tx × TS)} {us : Us} (hm : Ag m us) : AgW m us := fun x hx => by
 obtain ⟨u, hu⟩ := Option.isSome_iff_exists.1 hx
 rw [hm x, hu, so, hu]; rfl
def NdU (us : Us) : Prop := ∀ e ∈ us, Nd e.1
theorem so_nd {us : Us} {hd wt : Ps} {n : Nat} (ho : Ok us hd wt n) (hn : NdU us) {x : Tx} (hx : (mget us x).isSome = true) : Nd (so us x).f_Tx := by
 obtain ⟨u, hu⟩ := Option.isSome_iff_exists.1 hx
 have h1 := ho.su _ (mget_mem hu)
 have h2 := hn _ (mget_mem hu)
 rw [so, hu]
 show Nd u.f_stamp.f_Tx
 dsimp only at h1 h2
 rw [h1]; exact h2
theorem dage {us : Us} {hd wt : Ps} {n : Nat} (ho : Ok us hd wt n) (hn : NdU us) {m : List (Tx × TS)} (hm : AgW m us) {x y : Tx} (hx : (mget us x).isSome = true) (hy : (mget us y).isSome = true) :
  parrelref05_Stamps ((mget m x).getD default) ((mget m y).getD default) = some (cfA us x y) := by
 rw [hm x hx, hm y hy, dstamps (so_nd ho hn hx) (so_nd ho hn hy)]; rfl
theorem NdU.does {us : Us} {hd wt : Ps} {n : Nat} (ho : Ok us hd wt n) (hn : NdU us) (a : TA) (ha : Nd a.f_Stamp.f_Tx) (o : Uk (doesR us hd wt a).2.2.1) : NdU (doesR us hd wt a).2.2.1 := fun e he => by
 have hg := mem_mget o (k := e.1) (v := e.2) he
 rcases user_step ho a e.1 e.2 hg with ⟨u, h3, h4⟩ | ⟨h3, h4, _⟩
 ·exact hn (e.1, u) (mget_mem h3)
 ·rw [h4]; exact ha
end Go.Proofs.YtddgjfclpknkcaaGreatDoor.Wk
