import Derived.Test.YtddgjfclpknkcaaGreatDoorLkA
import Derived.Test.YtddgjfclpknkcaaGreatDoorLkRr
import Derived.Test.YtddgjfclpknkcaaGreatDoorLkRp
set_option linter.unusedVariables false
set_option linter.unusedSimpArgs false
namespace Go.Proofs.YtddgjfclpknkcaaGreatDoor.Wk
open Go Go.Cn
def occ (hd : Ps) (k : Ky) : Bool := !(atL hd k).isEmpty
def plc (x : Tx) (k : Ky) : Sl × Int := (⟨x, k⟩, 2)
def restR (us : Us) (hd : Ps) (x : Tx) (keys : List Ky) : Int × Us × Ps :=
 if keys.all kmay = false ∨ ¬ keys.Nodup then (1, us, hd) else
 if tmay x = false ∨ keys = [] then (1, us, hd) else
 if (mget us x).isSome = true then (7, us, hd) else
 if keys.any (occ hd) = true then (11, us, hd) else
 if us.length = 64 then (5, us, hd) else
 (0, mset us x ⟨⟨0, x⟩, true⟩, hd ++ keys.map (plc x))
theorem rest1 (us : Us) (hd wt : Ps) (x : Tx) (ks : List Ky) (m : List (Ky × Bool)) (us2 : Us) : ∀ (fuel : Nat) (m2 : Ps) (rest : List (Ky × Bool)), rest.length < fuel → (rest.map (·.1)).Nodup → (∀ e ∈ rest, mget m2 ⟨x, e.1⟩ = none) →
  lT_Restore_l1 us hd wt x ks m us2 fuel m2 rest = some (0, us2, Bag.of (m2 ++ rest.map fun e => plc x e.1), Bag.of wt)
 | 0, _, _, h, _, _ => by omega
 | fuel + 1, m2, rest, h, hn, hg => by
  rw [lT_Restore_l1]
  by_cases hr : rest = []
  ·subst hr; rw [if_pos (show ([] : List (Ky × Bool)).isEmpty = true from rfl)]; simp
  ·rw [if_neg (by cases rest <;> simp at hr ⊢)]
   refine agree_eq hr fun i a hi => ?_
   have hpr := erase_perm hi
   have hlen := hpr.length_eq
   simp only [List.length_cons] at hlen
   have hn2 : ((a :: rest.eraseIdx i).map (·.1)).Nodup := (hpr.map _).nodup_iff.1 hn
   obtain ⟨hn3, hn4⟩ := List.nodup_cons.1 hn2
   have ha : mget m2 ⟨x, a.1⟩ = none := hg a (hpr.mem_iff.2 List.mem_cons_self)
   rw [rest1 us hd wt x ks m us2 fuel _ _ (by omega) hn4 (fun e he => ?_)]
   ·congr 1; congr 1; congr 1
    congr 1
    refine Bag.sound ?_
    rw [mset_new _ ha, List.append_assoc]
    refine List.Perm.append_left m2 ?_
    have : ((a :: rest.eraseIdx i).map fun e => plc x e.1) = [(⟨x, a.1⟩, 2)] ++ (rest.eraseIdx i).map fun e => plc x e.1 := rfl
    rw [← this]
    exact (hpr.map _).symm
   ·rw [mset_get, if_neg (fun h2 => ?_)]
    ·exact hg e (hpr.mem_iff.2 (List.mem_cons_of_mem _ he))
    ·have h3 : e.1 = a.1 := congrArg TL.f_key h2
     exact hn3 (List.mem_map.2 ⟨e, he, h3⟩)
theorem mget_map (d : List Ky) (k : Ky) : mget (d.map fun k => (k, true)) k = if k ∈ d then some true else none := by
 induction d with
 | nil => rfl
 | cons a d ih =>
  simp only [List.map_cons, mget, List.mem_cons]
  by_cases h : k = a
  ·simp [h]
  ·simp only [h, if_false, ih, false_or]
theorem take_snoc {α : Type} (l : List α) (t : Nat) (d : α) (h : t < l.length) : l.take (t + 1) = l.take t ++ [l.getD t d] := by
 rw [List.take_add_one, List.getElem?_eq_getElem h, List.getD_eq_getElem?_getD, List.getElem?_eq_getElem h]; rfl
theorem rest0 {us : Us} {hd wt : Ps} {n : Nat} (h : Ok us hd wt n) (x : Tx) (ks : List Ky) (hz : ks.length ≤ 1000) : ∀ (fuel t : Nat), ks.length - t < fuel → t ≤ ks.length → (ks.take t).Nodup → (ks.take t).all kmay = true →
  lT_Restore_l0 us hd wt x ks fuel ((ks.take t).any (occ hd)) t ((ks.take t).map fun k => (k, true)) = some ((restR us hd x ks).1, (restR us hd x ks).2.1, Bag.of (restR us hd x ks).2.2, Bag.of wt)
 | 0, t, hf, _, _, _ => by omega
 | fuel + 1, t, hf, ht, hn, hall => by
  have zh := h.nh; have zn := h.nn
  rw [lT_Restore_l0]
  by_cases hlt : t < ks.length
  ·have hm : ks.getD t default ∈ ks := by rw [List.getD_eq_getElem?_getD, List.getElem?_eq_getElem hlt]; exact List.getElem_mem hlt
   have hts := take_snoc ks t default hlt
   rw [if_pos (dT (by omega)), if_pos (by omega), Int.toNat_natCast, keyMay_eq, Option.bind_some, w64 (by omega) (by omega)]
   have ih := rest0 h x ks hz fuel (t + 1) (by omega) (by omega)
   rw [show (((t : Nat) : Int) + 1) = ((t + 1 : Nat) : Int) by omega]
   rw [hts] at ih
   have hnd : ks.Nodup → ks.getD t default ∉ ks.take t := fun hnk hmem => by
    have := List.take_sublist (t + 1) ks
    rw [hts] at this
    have := this.nodup hnk
    rw [List.nodup_append] at this
    exact this.2.2 _ hmem _ List.mem_cons_self rfl
   generalize ks.getD t default = k at hm ih hnd ⊢
   cases hk : kmay k with
   | false =>
    rw [if_pos (by simp)]
    have : ks.all kmay = false := by
     rw [Bool.eq_false_iff]; intro ha
     rw [List.all_eq_true] at ha
     rw [ha k hm] at hk; cases hk
    rw [restR, if_pos (Or.inl this)]
   | true =>
    rw [if_neg (by simp), mget_map]
    by_cases hd0 : k ∈ ks.take t
    ·rw [if_pos hd0, if_pos (by simp)]
     rw [restR, if_pos (Or.inr fun hnk => hnd hnk hd0)]
    ·rw [if_neg hd0]
     have hg : mget ((ks.take t).map fun k => (k, true)) k = none := by rw [mget_map, if_neg hd0]
     have e1 : mset ((ks.take t).map fun k => (k, true)) k true = (ks.take t ++ [k]).map fun k => (k, true) := by rw [mset_new _ hg, List.map_append]; rfl
     have hn' : (ks.take t ++ [k]).Nodup := by
      rw [List.nodup_append]
      exact ⟨hn, List.nodup_cons.2 ⟨by simp, List.nodup_nil⟩, fun a ha b hb => by rw [List.mem_singleton.1 hb]; exact fun e => hd0 (e ▸ ha)⟩
     have ih2 := ih hn' (by rw [List.all_append, hall]; simp [hk])
     rw [List.any_append] at ih2
     rw [e1, if_neg (by simp [show (default : Bool) = false from rfl])]
     cases ho : (ks.take t).any (occ hd) with
     | true =>
      rw [if_pos rfl]
      rw [ho] at ih2
      exact ih2
     | false =>
      rw [if_neg (by simp), at_eq hd k (by omega), Option.bind_some]
      rw [ho] at ih2
      have e2 : decide (0 < (((Bag.of (atL hd k)).length : Nat) : Int)) = (false || [k].any (occ hd)) := by
       show decide (0 < (((atL hd k).length : Nat) : Int)) = _
       simp only [List.any_cons, List.any_nil, Bool.or_false, Bool.false_or, occ]
       cases atL hd k with
       | nil => rfl
       | cons a l => simp only [List.length_cons, List.isEmpty_cons, Bool.not_false, decide_eq_true_eq]; omega
      rw [e2]
      exact ih2
  ·rw [if_neg (dF (by omega))]
   have htl : ks.take t = ks := List.take_of_length_le (by omega)
   rw [htl] at hn hall ⊢
   have hx1 : ¬ (ks.all kmay = false ∨ ¬ ks.Nodup) := by simp only [hall, hn]; simp
   rw [txMay_eq, Option.bind_some, restR, if_neg hx1]
   cases htm : tmay x with
   | false =>
    rw [if_pos (show (false = false ∨ ks = []) from Or.inl rfl)]; rfl
   | true =>
    by_cases hke : ks = []
    ·rw [if_pos (show (true = false ∨ ks = []) from Or.inr hke), if_neg (by simp), if_pos (by simp [hke])]
    ·have hx2 : ¬ (true = false ∨ ks = []) := by simp [hke]
     rw [if_neg hx2, if_neg (by simp), if_neg (by simpa using hke)]
     cases hu : mget us x with
     | some u =>
      rw [if_pos (show (some u).isSome = true from rfl), if_pos (show (some u).isSome = true from rfl)]; rfl
     | none =>
      rw [if_neg (show ¬ (none : Option TU).isSome = true by simp), if_neg (show ¬ (none : Option TU).isSome = true by simp)]
      cases ho : ks.any (occ hd) with
      | true => rw [if_pos (show true = true from rfl), if_pos (show true = true from rfl)]
      | false =>
       rw [if_neg (show ¬ false = true by simp), if_neg (show ¬ false = true by simp)]
       by_cases hl : us.length = 64
       ·rw [if_pos hl, if_pos (by simp [hl])]; rfl
       ·rw [if_neg hl, if_neg (by simp; omega), lT_Restore_c21, Option.bind_some]
        rw [rest1 us hd wt x ks _ _ big hd _ (big_lt (by simp; omega)) (by rw [List.map_map]; simpa [Function.comp_def] using hn) (fun e he => ?_)]
        ·rw [List.map_map]; rfl
        ·cases hg : mget hd ⟨x, e.1⟩ with
         | none => rfl
         | some v =>
          have := h.hu _ (mget_mem hg)
          rw [hu] at this; cases this
theorem rest_eq {us : Us} {hd wt : Ps} {n : Nat} (h : Ok us hd wt n) (hn : n < 250) (x : Tx) (ks : List Ky) (hz : ks.length ≤ 30) :
  lT_Restore us hd wt x ks = some ((restR us hd x ks).1, (restR us hd x ks).2.1, Bag.of (restR us hd x ks).2.2, Bag.of wt) ∧ Ok (restR us hd x ks).2.1 (restR us hd x ks).2.2 wt (n + 1) := by
 have hup := h.up (Nat.le_succ n) hn
 constructor
 ·rw [lT_Restore, lT_ok, Option.bind_some]
  exact rest0 h x ks (by omega) big 0 (big_lt (by omega)) (by omega) (by simp) (by simp)
 ·unfold restR
  split
  ·exact hup
  ·rename_i h1
   split
   ·exact hup
   ·split
    ·exact hup
    ·rename_i h3
     split
     ·exact hup
     ·split
      ·exact hup
      ·rename_i h5
       have hnone : mget us x = none := by simpa using h3
       have hlen := mset_len us x ⟨⟨0, x⟩, true⟩
       have hnu := h.nu
       have hus := h.user (x := x) (u := ⟨⟨0, x⟩, true⟩) rfl (by omega)
       have hkn : ks.Nodup := by
        by_cases hc : ks.Nodup
        ·exact hc
        ·exact absurd (Or.inr hc) h1
       refine ⟨hus.uu, ?_, hus.uw, fun e he => ?_, hus.wu, hus.su, hus.nu, by have := h.nw; omega, by have := h.nh; simp only [List.length_append, List.length_map]; omega, by omega⟩
       ·show ((hd ++ ks.map (plc x)).map (·.1)).Nodup
        rw [List.map_append, List.map_map, List.nodup_append]
        refine ⟨h.uh, ?_, fun a ha b hb => ?_⟩
        ·exact List.Pairwise.map (fun k => (⟨x, k⟩ : Sl)) (fun a b hab e => hab (congrArg TL.f_key e)) hkn
        ·obtain ⟨e, he, rfl⟩ := List.mem_map.1 ha
         obtain ⟨k, _, rfl⟩ := List.mem_map.1 hb
         intro hab
         have := h.hu e he
         rw [hab] at this
         have h2 : mget us x = none := hnone
         simp [plc, h2] at this
       ·rcases List.mem_append.1 he with he | he
        ·exact hus.hu e he
        ·obtain ⟨k, _, rfl⟩ := List.mem_map.1 he
         show (mget (mset us x _) x).isSome = true
         rw [mset_get, if_pos rfl]; rfl
def doesR (us : Us) (hd wt : Ps) (a : TA) : Rs :=
 if Int.tmod a.f_Kind 5 = 2 then prepR us hd wt a.f_Stamp.f_Tx else
 if Int.tmod a.f_Kind 5 = 3 then relR us hd wt a.f_Stamp.f_Tx else
 if Int.tmod a.f_Kind 5 = 4 then (oE, (restR us hd a.f_Stamp.f_Tx a.f_Keys).1, (restR us hd a.f_Stamp.f_Tx a.f_Keys).2.1, (restR us hd a.f_Stamp.f_Tx a.f_Keys).2.2, wt) else
 askR us hd wt a.f_Stamp a.f_Key a.f_Mode
theorem does_eq {us : Us} {hd wt : Ps} {n : Nat} (h : Ok us hd wt n) (hn : n < 250) (a : TA) (hz : a.f_Keys.length ≤ 30) :
  pl_does us hd wt a = some ((doesR us hd wt a).1, (doesR us hd wt a).2.1, (doesR us hd wt a).2.2.1, Bag.of (doesR us hd wt a).2.2.2.1, Bag.of (doesR us hd wt a).2.2.2.2) ∧ Ok (doesR us hd wt a).2.2.1 (doesR us hd wt a).2.2.2.1 (doesR us hd wt a).2.2.2.2 (n + 1) := by
 rw [pl_does, doesR]
 by_cases h2 : Int.tmod a.f_Kind 5 = 2
 ·obtain ⟨e, o⟩ := prep_eq h a.f_Stamp.f_Tx
  rw [if_pos (by simp [h2]), if_pos h2, e]
  exact ⟨rfl, o.up (Nat.le_succ n) hn⟩
 ·rw [if_neg (by simpa using h2), if_neg h2]
  by_cases h3 : Int.tmod a.f_Kind 5 = 3
  ·obtain ⟨e, o⟩ := rel_eq h a.f_Stamp.f_Tx
   rw [if_pos (by simp [h3]), if_pos h3, e]
   exact ⟨rfl, o.up (Nat.le_succ n) hn⟩
  ·rw [if_neg (by simpa using h3), if_neg h3]
   by_cases h4 : Int.tmod a.f_Kind 5 = 4
   ·obtain ⟨e, o⟩ := rest_eq h hn a.f_Stamp.f_Tx a.f_Keys hz
    rw [if_pos (by simp [h4]), if_pos h4, e]
    exact ⟨rfl, o⟩
   ·rw [if_neg (by simpa using h4), if_neg h4]
    obtain ⟨e, o⟩ := ask_eq h hn a.f_Stamp a.f_Key a.f_Mode
    rw [e]
    exact ⟨rfl, o⟩
end Go.Proofs.YtddgjfclpknkcaaGreatDoor.Wk
