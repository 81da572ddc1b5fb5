import Derived.Test.YtddgjfclpknkcaaGreatDoorLkS
set_option linter.unusedVariables false
set_option linter.unusedSimpArgs false
set_option linter.unusedSectionVars false
namespace Go.Proofs.YtddgjfclpknkcaaGreatDoor.Wk
open Go Go.Cn
structure Tog (hd wt : Ps) : Prop where
 h : ∀ e ∈ hd, e.2 = 1 ∨ e.2 = 2
 w : ∀ e ∈ wt, e.2 = 1 ∨ e.2 = 2
 t : ∀ e ∈ hd, ∀ e' ∈ hd, e.1.f_key = e'.1.f_key → e.1.f_tx ≠ e'.1.f_tx → e.2 = 1
theorem Tog.sub {hd wt hd' wt' : Ps} (h : Tog hd wt) (h1 : ∀ e ∈ hd', e ∈ hd) (h2 : ∀ e ∈ wt', e ∈ wt) : Tog hd' wt' :=
 ⟨fun e he => h.h e (h1 e he), fun e he => h.w e (h2 e he), fun e he e' he' => h.t e (h1 e he) e' (h1 e' he')⟩
theorem md_mem {p : Ps} (hu : Uk p) {e : Sl × Int} (he : e ∈ p) : md p e.1 = e.2 := by rw [md, mem_mget hu (k := e.1) (v := e.2) he]; rfl
theorem md_cases (p : Ps) (s : Sl) : md p s = 0 ∨ (s, md p s) ∈ p := by
 rw [md]
 cases h : mget p s with
 | none => exact Or.inl rfl
 | some v => exact Or.inr (mget_mem h)
theorem Tog.grant {us : Us} {hd wt : Ps} {n : Nat} (hok : Ok us hd wt n) (h : Tog hd wt) {s : Sl} (hs : s ∈ wt.map (·.1)) (hf : isFree us hd wt s = true) : Tog (mset hd s (mx (md hd s) (md wt s))) (mdel wt s) := by
 obtain ⟨e0, he0, hes⟩ := List.mem_map.1 hs
 have hw : md wt s = 1 ∨ md wt s = 2 := by rw [← hes, md_mem hok.uw he0]; exact h.w e0 he0
 have hh : md hd s = 0 ∨ md hd s = 1 ∨ md hd s = 2 := by
  rcases md_cases hd s with h1 | h1
  ·exact Or.inl h1
  ·exact Or.inr (h.h _ h1)
 have hv : mx (md hd s) (md wt s) = 1 ∨ mx (md hd s) (md wt s) = 2 := by
  rw [mx]; split
  ·rcases hh with h1 | h1
   ·omega
   ·exact h1
  ·exact hw
 simp only [isFree, Bool.and_eq_true, Bool.not_eq_true'] at hf
 have key : ∀ e ∈ hd, e.1.f_key = s.f_key → e.1.f_tx ≠ s.f_tx → e.2 = 1 ∧ mx (md hd s) (md wt s) = 1 := by
  intro e he hk ht
  have h1 : freeH hd wt s e.1.f_tx = false := by
   have := hf.1
   rw [Bool.eq_false_iff] at this ⊢
   intro hc
   exact this (List.any_eq_true.2 ⟨_, atL_mem.2 ⟨e.2, by rw [← hk]; exact he⟩, hc⟩)
  have h2 : md hd ⟨e.1.f_tx, s.f_key⟩ = e.2 := by rw [← hk]; exact md_mem hok.uh he
  simp only [freeH, h2, clash, Bool.and_eq_false_iff, Bool.not_eq_false', decide_eq_true_eq, ht, false_or, Bool.or_eq_false_iff, beq_eq_false_iff_ne, ne_eq] at h1
  have h3 : md hd s = 0 ∨ md hd s = 1 := by
   rcases md_cases hd s with h4 | h4
   ·exact Or.inl h4
   ·exact Or.inr (h.t _ h4 e he hk.symm (fun e2 => ht e2.symm))
  refine ⟨by rcases h.h e he with h4 | h4 <;> omega, ?_⟩
  rw [mx]; split <;> omega
 refine ⟨fun e he => ?_, fun e he => h.w e ((mdel_sub wt s).subset he), fun e he e' he' hk ht => ?_⟩
 ·rcases mset_mem he with h1 | h1
  ·rw [h1]; exact hv
  ·exact h.h e h1
 ·rcases mset_mem he with h1 | h1
  ·rcases mset_mem he' with h2 | h2
   ·rw [h1, h2] at ht; exact absurd rfl ht
   ·rw [h1] at hk ht ⊢
    exact (key e' h2 hk.symm (fun e2 => ht e2.symm)).2
  ·rcases mset_mem he' with h2 | h2
   ·rw [h2] at hk ht
    exact (key e h1 hk ht).1
   ·exact h.t e h1 e' h2 hk ht
theorem Tog.onFold {us : Us} {n : Nat} : ∀ (y : List Sl) (st : List TG × Ps × Ps), y.Nodup → (∀ s ∈ y, s ∈ st.2.2.map (·.1)) → Ok us st.2.1 st.2.2 n → Tog st.2.1 st.2.2 → Tog (y.foldl (onStep us) st).2.1 (y.foldl (onStep us) st).2.2
 | [], _, _, _, _, h => h
 | s :: y, st, hn, hy, ho, h => by
  rw [List.foldl_cons]
  obtain ⟨hn1, hn2⟩ := List.nodup_cons.1 hn
  have hs := hy s List.mem_cons_self
  unfold onStep
  split
  ·rename_i hf
   exact Tog.onFold y _ hn2 (fun t ht => mdel_keys ho.uw (fun e => hn1 (e ▸ ht)) (hy t (List.mem_cons_of_mem _ ht))) (ho.grant hs _) (Tog.grant ho h hs hf)
  ·exact Tog.onFold y _ hn2 (fun t ht => hy t (List.mem_cons_of_mem _ ht)) ho h
theorem Tog.on {us : Us} {hd wt : Ps} {n : Nat} (ho : Ok us hd wt n) (h : Tog hd wt) : Tog (onR us hd wt).2.1 (onR us hd wt).2.2 := by
 obtain ⟨k1, k2⟩ := on_keys us ho.uw
 exact Tog.onFold _ ([], hd, wt) k1 k2 ho h
theorem Tog.fold : ∀ (l : List Tx) {st : Us × Ps × Ps}, Tog st.2.1 st.2.2 → Tog (l.foldl goneF st).2.1 (l.foldl goneF st).2.2
 | [], _, h => h
 | x :: l, st, h => Tog.fold l (st := goneF st x) (h.sub (fun e he => (drop_mem.1 he).1) (fun e he => (drop_mem.1 he).1))
theorem Tog.go {us : Us} {hd wt : Ps} {n : Nat} (ho : Ok us hd wt n) (hn : n < 250) (h : Tog hd wt) {s : Sl} (hs : (mget us s.f_tx).isSome = true) {mode : Int} (hm : mode = 1 ∨ mode = 2) : Tog (askGo us hd wt s mode).2.2.2.1 (askGo us hd wt s mode).2.2.2.2 := by
 have h1 := ho.wait hs (mx mode (md wt s)) hn
 have h2 : Tog hd (mset wt s (mx mode (md wt s))) := by
  refine ⟨h.h, fun e he => ?_, h.t⟩
  rcases mset_mem he with h3 | h3
  ·rw [h3]
   dsimp only
   rw [mx]; split
   ·exact hm
   ·rcases md_cases wt s with h4 | h4
    ·omega
    ·exact h.w _ h4
  ·exact h.w e h3
 have h3 := Ok.fold (woundL us hd (mset wt s (mx mode (md wt s))) s) (st := (us, hd, mset wt s (mx mode (md wt s)))) h1
 exact Tog.on h3 (Tog.fold _ (st := (us, hd, mset wt s (mx mode (md wt s)))) h2)
theorem Tog.ask {us : Us} {hd wt : Ps} {n : Nat} (ho : Ok us hd wt n) (hn : n < 250) (h : Tog hd wt) (s : TS) (k : Ky) (mode : Int) : Tog (askR us hd wt s k mode).2.2.2.1 (askR us hd wt s k mode).2.2.2.2 := by
 unfold askR
 split
 ·exact h
 ·rename_i h1
  have hm : mode = 1 ∨ mode = 2 := by
   by_cases hc : mode = 1 ∨ mode = 2
   ·exact hc
   ·exact absurd (Or.inr (Or.inr ⟨fun e => hc (Or.inl e), fun e => hc (Or.inr e)⟩)) h1
  split
  ·rename_i u hu
   split
   ·exact h
   ·split
    ·exact h
    ·exact Tog.go ho hn h (s := ⟨s.f_Tx, k⟩) (by simp [hu]) hm
  ·rename_i hu
   split
   ·exact h
   ·rename_i hl
    split
    ·exact h
    ·have hlen := mset_len us s.f_Tx ⟨s, false⟩
     have hnu := ho.nu
     exact Tog.go (ho.user (x := s.f_Tx) (u := ⟨s, false⟩) rfl (by omega)) hn h (s := ⟨s.f_Tx, k⟩) (by simp [mset_get]) hm
theorem Tog.does {us : Us} {hd wt : Ps} {n : Nat} (ho : Ok us hd wt n) (hn : n < 250) (h : Tog hd wt) (a : TA) : Tog (doesR us hd wt a).2.2.2.1 (doesR us hd wt a).2.2.2.2 := by
 unfold doesR
 split
 ·unfold prepR
  split
  ·exact h
  ·rename_i u hu
   split
   ·exact h
   ·have hs : (mget us a.f_Stamp.f_Tx).isSome = true := by simp [hu]
    exact Tog.on ((ho.user (x := a.f_Stamp.f_Tx) (u := ⟨u.f_stamp, true⟩) (ho.su _ (mget_mem hu)) (by rw [mset_len_same _ hs]; exact ho.nu)).filt _) (h.sub (fun e he => (List.mem_filter.1 he).1) (fun e he => he))
 ·split
  ·unfold relR
   split
   ·exact h
   ·exact Tog.on (ho.gone _) (h.sub (fun e he => (drop_mem.1 he).1) (fun e he => (drop_mem.1 he).1))
  ·split
   ·dsimp only
    unfold restR
    split
    ·exact h
    ·split
     ·exact h
     ·split
      ·exact h
      ·split
       ·exact h
       ·rename_i h4
        split
        ·exact h
        ·have new : ∀ e ∈ hd, ∀ k ∈ a.f_Keys, e.1.f_key ≠ k := fun e he k hk hek => by
          refine h4 (List.any_eq_true.2 ⟨k, hk, ?_⟩)
          have : e.1.f_tx ∈ atL hd k := atL_mem.2 ⟨e.2, by rw [← hek]; exact he⟩
          rw [occ]
          cases hat : atL hd k with
          | nil => rw [hat] at this; cases this
          | cons x l => rfl
         refine ⟨fun e he => ?_, h.w, fun e he e' he' hk ht => ?_⟩
         ·rcases List.mem_append.1 he with he | he
          ·exact h.h e he
          ·obtain ⟨k, _, rfl⟩ := List.mem_map.1 he
           exact Or.inr rfl
         ·rcases List.mem_append.1 he with he | he
          ·rcases List.mem_append.1 he' with he' | he'
           ·exact h.t e he e' he' hk ht
           ·obtain ⟨k, hkm, rfl⟩ := List.mem_map.1 he'
            exact absurd hk (new e he k hkm)
          ·obtain ⟨k, hkm, rfl⟩ := List.mem_map.1 he
           rcases List.mem_append.1 he' with he' | he'
           ·exact absurd hk.symm (new e' he' k hkm)
           ·obtain ⟨k', _, rfl⟩ := List.mem_map.1 he'
            exact absurd rfl ht
   ·exact Tog.ask ho hn h _ _ _
theorem two_one {α : Type} {y : List α} (hn : y.Nodup) (f : α → Int) (h : ∀ a ∈ y, ∀ b ∈ y, a ≠ b → f a = 2 → ¬ 0 < f b) : (y.filter fun x => f x == 2).length ≤ 1 ∧ ((y.filter fun x => f x == 2).length = 1 → (y.filter fun x => decide (0 < f x)).length ≤ 1) := by
 by_cases he : ∃ a ∈ y, f a = 2
 ·obtain ⟨a, ha, h2⟩ := he
  have hall : ∀ b ∈ y.filter fun x => decide (0 < f x), b = a := fun b hb => by
   obtain ⟨h3, h4⟩ := List.mem_filter.1 hb
   by_cases hc : b = a
   ·exact hc
   ·exact absurd (by simpa using h4) (h a ha b h3 (fun e => hc e.symm) h2)
  have hle : (y.filter fun x => decide (0 < f x)).length ≤ 1 := by
   have hnd : (y.filter fun x => decide (0 < f x)).Nodup := List.filter_sublist.nodup hn
   match hx : (y.filter fun x => decide (0 < f x)) with
   | [] => simp
   | [_] => simp
   | u :: v :: r =>
    rw [hx] at hall hnd
    have e1 := hall u List.mem_cons_self
    have e2 := hall v (List.mem_cons_of_mem _ List.mem_cons_self)
    rw [e1, e2] at hnd
    simp at hnd
  have hsub : (y.filter fun x => f x == 2).length ≤ (y.filter fun x => decide (0 < f x)).length := by
   have : (y.filter fun x => f x == 2) = (y.filter fun x => decide (0 < f x)).filter fun x => f x == 2 := by
    rw [List.filter_filter]
    refine List.filter_congr fun x _ => ?_
    by_cases hx : f x = 2
    ·simp [hx]
    ·simp [hx]
   rw [this]; exact List.length_filter_le _ _
  exact ⟨by omega, fun _ => hle⟩
 ·have : (y.filter fun x => f x == 2) = [] := by
   rw [List.filter_eq_nil_iff]
   intro x hx
   simp only [beq_iff_eq]
   exact fun h2 => he ⟨x, hx, h2⟩
  rw [this]; simp
theorem filter_drop {α : Type} (y : List α) (p : α → Bool) (k : Nat) (d : α) (h : k < y.length) : ((y.drop k).filter p).length = (if p (y.getD k d) then 1 else 0) + ((y.drop (k + 1)).filter p).length := by
 rw [getD_drop y k d h, List.filter_cons]
 split <;> simp_all
 omega
theorem cnt (t26 : Int) (y8 : List TA) (y4 : Ot × Int × Us × Bag (Sl × Int) × Bag (Sl × Int)) (hd wt : Ps) (y : List Tx) (hy : y.length ≤ 1000) (k0 : Int → Us → Ps → Ps → Option Bool) (f : Tx → Int) (hf : ∀ x, md hd ⟨x, (y8.getD t26.toNat default).f_Key⟩ = f x) : ∀ (fuel k m w : Nat), y.length - k < fuel → k ≤ y.length → m ≤ k → w ≤ k →
  pl_LockTogether_l1 t26 y8 y4 hd wt y k0 fuel m w k = (if 1 < w + ((y.drop k).filter fun x => f x == 2).length then some false else if w + ((y.drop k).filter fun x => f x == 2).length = 1 ∧ 1 < m + ((y.drop k).filter fun x => decide (0 < f x)).length then some false else k0 (IntKind.wrap .i64 (t26 + 1)) y4.2.2.1 hd wt)
 | 0, k, _, _, h, _, _, _ => by omega
 | fuel + 1, k, m, w, h, hk, hm, hw => by
  rw [pl_LockTogether_l1]
  by_cases hlt : k < y.length
  ·rw [if_pos (by simp only [decide_eq_true_eq]; omega), if_pos (by omega), Int.toNat_natCast, mode_eq, Option.bind_some, hf, w64 (x := (k : Int) + 1) (by omega) (by omega), w64 (x := (m : Int) + 1) (by omega) (by omega), w64 (x := (w : Int) + 1) (by omega) (by omega)]
   rw [filter_drop y _ k default hlt, filter_drop y _ k default hlt]
   have ih := fun m w a b => cnt t26 y8 y4 hd wt y hy k0 f hf fuel (k + 1) m w (by omega) (by omega) a b
   rw [show (((k : Nat) : Int) + 1) = ((k + 1 : Nat) : Int) by omega, show (((m : Nat) : Int) + 1) = ((m + 1 : Nat) : Int) by omega, show (((w : Nat) : Int) + 1) = ((w + 1 : Nat) : Int) by omega]
   generalize y.getD k default = x
   by_cases h1 : 0 < f x
   ·have d1 : decide (0 < f x) = true := by simpa using h1
    rw [if_pos d1, if_pos d1]
    by_cases h2 : f x = 2
    ·have d2 : (f x == 2) = true := by simpa using h2
     rw [if_pos d2, if_pos d2, ih (m + 1) (w + 1) (by omega) (by omega)]
     simp only [Nat.add_assoc]
    ·have d2 : ¬ (f x == 2) = true := by simpa using h2
     rw [if_neg d2, if_neg d2, ih (m + 1) w (by omega) (by omega)]
     simp only [Nat.add_assoc, Nat.zero_add]
   ·have d1 : ¬ decide (0 < f x) = true := by simpa using h1
    have d2 : ¬ (f x == 2) = true := by simp only [beq_iff_eq]; omega
    rw [if_neg d1, if_neg d1, if_neg d2, if_neg d2, ih m w (by omega) (by omega)]
    simp only [Nat.zero_add]
  ·have : k = y.length := by omega
   subst this
   rw [if_neg (by simp only [decide_eq_true_eq]; omega), List.drop_length, List.filter_nil, List.filter_nil]
   simp only [List.length_nil, Nat.add_zero]
   by_cases h1 : 1 < w
   ·rw [if_pos (by simp only [decide_eq_true_eq]; omega), if_pos h1]
   ·rw [if_neg (by simp only [decide_eq_true_eq]; omega), if_neg h1]
    by_cases h2 : w = 1
    ·subst h2
     rw [if_pos (by simp)]
     by_cases h3 : 1 < m
     ·rw [if_pos (by simp only [decide_eq_true_eq]; omega), if_pos ⟨rfl, h3⟩]
     ·rw [if_neg (by simp only [decide_eq_true_eq]; omega), if_neg (fun h => h3 h.2)]
    ·rw [if_neg (by simp; omega), if_neg (fun h => h2 h.1)]
theorem tog0 (y8 : List TA) (hl : y8.length ≤ 60) (hk : ∀ a ∈ y8, a.f_Keys.length ≤ 30) : ∀ (fuel t : Nat) (us : Us) (hd wt : Ps), y8.length - t < fuel → t ≤ y8.length → Ok us hd wt t → Tog hd wt → pl_LockTogether_l0 y8 fuel t us hd wt = some true
 | 0, t, _, _, _, h, _, _, _ => by omega
 | fuel + 1, t, us, hd, wt, h, ht, ho, hg => by
  rw [pl_LockTogether_l0]
  by_cases hlt : t < y8.length
  ·have hm : y8.getD t default ∈ y8 := by rw [List.getD_eq_getElem?_getD, List.getElem?_eq_getElem hlt]; exact List.getElem_mem hlt
   obtain ⟨e, o⟩ := does_eq ho (by omega) (y8.getD t default) (hk _ hm)
   have g := Tog.does ho (by omega) hg (y8.getD t default)
   rw [if_pos (by simp only [decide_eq_true_eq]; omega), if_pos (by omega), Int.toNat_natCast, e, Option.bind_some, pl_LockTogether_c8]
   generalize doesR us hd wt (y8.getD t default) = R at o g
   obtain ⟨Ro, Re, Ru, Rh, Rw⟩ := R
   dsimp only at o g ⊢
   refine agreeB_eq fun l1 h1 => agreeB_eq fun l2 h2 => ?_
   have p1 := Bag.exact h1
   have p2 := Bag.exact h2
   have o2 := o.perm p1.symm p2.symm
   have g2 : Tog l1 l2 := g.sub (fun e he => p1.mem_iff.1 he) (fun e he => p2.mem_iff.1 he)
   have hnu := o2.nu
   rw [users_eq Ru l1 l2 (by omega), Option.bind_some]
   have hyl : (sortL (fun a b => lexI (txL a) (txL b)) (Ru.map (·.1))).length ≤ 1000 := by rw [sortL_len, List.length_map]; omega
   have hyn : (sortL (fun a b => lexI (txL a) (txL b)) (Ru.map (·.1))).Nodup := (sortL_perm _ _).nodup_iff.2 o2.uu
   generalize sortL (fun a b => lexI (txL a) (txL b)) (Ru.map (·.1)) = y at hyl hyn
   have hc := cnt (t : Int) y8 (Ro, Re, Ru, Bag.of Rh, Bag.of Rw) l1 l2 y hyl (pl_LockTogether_l0 y8 fuel) (fun x => md l1 ⟨x, (y8.getD (t : Int).toNat default).f_Key⟩) (fun _ => rfl) big 0 0 0 (big_lt (by omega)) (by omega) (by omega) (by omega)
   refine hc.trans ?_
   rw [List.drop_zero, Nat.zero_add, Nat.zero_add]
   have h21 := two_one hyn (fun x => md l1 ⟨x, (y8.getD (t : Int).toNat default).f_Key⟩) (fun a _ b _ hab ha hb => by
    rcases md_cases l1 ⟨a, (y8.getD (t : Int).toNat default).f_Key⟩ with h3 | h3
    ·omega
    ·rcases md_cases l1 ⟨b, (y8.getD (t : Int).toNat default).f_Key⟩ with h4 | h4
     ·omega
     ·have := g2.t _ h3 _ h4 rfl hab
      dsimp only at this
      omega)
   rw [if_neg (Nat.not_lt.2 h21.1), if_neg (fun hh => Nat.not_lt.2 (h21.2 hh.1) hh.2), w64 (by omega) (by omega)]
   exact tog0 y8 hl hk fuel (t + 1) Ru l1 l2 (by omega) (by omega) o2 g2
  ·rw [if_neg (by simp only [decide_eq_true_eq]; omega), alive_eq]; rfl
theorem short_eq (l : List TA) : pl_short l = some (l.take 60) := by
 rw [pl_short, Option.bind_some]
 by_cases h : (60 : Int) < (l.length : Int)
 ·rw [if_pos h, if_pos (by omega)]; rfl
 ·rw [if_neg h, if_pos (by omega), Int.toNat_natCast, List.take_length, List.take_of_length_le (by omega)]
def farB (l : List TA) : Bool := (l.take 60).any fun a => decide (30 < a.f_Keys.length)
theorem far0 (y : List TA) (hy : y.length ≤ 1000) : ∀ (fuel k : Nat), y.length - k < fuel → k ≤ y.length → pl_far_l0 y fuel k = some ((y.drop k).any fun a => decide (30 < a.f_Keys.length))
 | 0, k, h, _ => by omega
 | fuel + 1, k, h, hk => by
  rw [pl_far_l0]
  by_cases hlt : k < y.length
  ·rw [if_pos (by simp only [decide_eq_true_eq]; omega), if_pos (by omega), Int.toNat_natCast, Option.bind_some, drop_any y _ k default hlt, w64 (by omega) (by omega), show (((k : Nat) : Int) + 1) = ((k + 1 : Nat) : Int) by omega, far0 y hy fuel (k + 1) (by omega) (by omega)]
   by_cases h1 : 30 < (y.getD k default).f_Keys.length
   ·rw [if_pos (by simp only [decide_eq_true_eq]; omega)]; simp only [h1, decide_true, Bool.true_or]
   ·rw [if_neg (by simp only [decide_eq_true_eq]; omega)]; simp only [h1, decide_false, Bool.false_or]
  ·rw [if_neg (by simp only [decide_eq_true_eq]; omega)]
   have : k = y.length := by omega
   subst this
   rw [List.drop_length]; rfl
theorem far_eq (l : List TA) : pl_far l = some (farB l) := by
 have hlen := List.length_take_le 60 l
 rw [pl_far, short_eq, Option.bind_some]
 have := far0 (l.take 60) (by omega) big 0 (big_lt (by omega)) (by omega)
 rw [List.drop_zero] at this
 exact this
theorem far_keys {l : List TA} (h : farB l = false) : ∀ a ∈ l.take 60, a.f_Keys.length ≤ 30 := fun a ha => by
 rw [farB, Bool.eq_false_iff] at h
 by_cases hc : a.f_Keys.length ≤ 30
 ·exact hc
 ·exact absurd (List.any_eq_true.2 ⟨a, ha, by simp only [decide_eq_true_eq]; omega⟩) h
theorem together_law (script : List TA) {p : Prop} (_ : p) : pl_LockTogether script = some true := by
 rw [pl_LockTogether, lock_New, Option.bind_some, far_eq, Option.bind_some]
 cases hf : farB script with
 | true => rw [if_pos rfl, alive_eq]; rfl
 | false =>
  rw [if_neg (by simp), short_eq, Option.bind_some]
  have hlen := List.length_take_le 60 script
  exact tog0 (script.take 60) hlen (far_keys hf) big 0 [] [] [] (big_lt (by omega)) (by omega) ok_new ⟨by simp, by simp, by simp⟩
end Go.Proofs.YtddgjfclpknkcaaGreatDoor.Wk
