import Derived.Test.YtddgjfclpknkcaaGreatDoorLkK
import Derived.Test.YtddgjfclpknkcaaGreatDoorCnXa
set_option linter.unusedVariables false
set_option linter.unusedSimpArgs false
namespace Go.Proofs.YtddgjfclpknkcaaGreatDoor.Wk
open Go Go.Cn
abbrev Tx := TX
abbrev Sl := TL
abbrev Ky := A8 Int
def atL (p : Ps) (k : Ky) : List Tx := (p.filter fun e => decide (e.1.f_key = k)).map (·.1.f_tx)
def drop (p : Ps) (x : Tx) : Ps := p.filter fun e => !decide (e.1.f_tx = x)
def dropR (p : Ps) (x : Tx) : Ps := p.filter fun e => !(decide (e.1.f_tx = x) && e.2 == 1)
def md (p : Ps) (s : Sl) : Int := (mget p s).getD 0
theorem at0 (p : Ps) (k : Ky) : ∀ (fuel : Nat) (l : List Tx) (rest : Ps), rest.length < fuel → l.length + rest.length ≤ 1000000 → lP_at_l0 p k fuel l rest = some (Bag.of (l ++ atL rest k))
 | 0, l, rest, h, _ => by omega
 | fuel + 1, l, rest, h, hz => by
  rw [lP_at_l0]
  by_cases hr : rest = []
  ·subst hr; rw [if_pos (show ([] : Ps).isEmpty = true from rfl)]; simp [atL]
  ·rw [if_neg (by cases rest <;> simp at hr ⊢)]
   refine agree_eq hr fun i a hi => ?_
   have hpr := erase_perm hi
   have hlen := hpr.length_eq
   simp only [List.length_cons] at hlen
   have hat : (atL rest k).Perm (atL (a :: rest.eraseIdx i) k) := (hpr.filter _).map _
   by_cases ha : a.1.f_key = k
   ·rw [if_pos (by simpa using ha), if_pos (by simp only [List.length_cons, List.length_nil]; omega), at0 p k fuel _ _ (by omega) (by simp only [List.length_append, List.length_cons, List.length_nil]; omega)]
    congr 1
    refine Bag.sound ?_
    have e : atL (a :: rest.eraseIdx i) k = a.1.f_tx :: atL (rest.eraseIdx i) k := by simp [atL, List.filter_cons, ha]
    rw [e] at hat
    rw [List.append_assoc]
    exact List.Perm.append_left l hat.symm
   ·rw [if_neg (by simpa using ha), at0 p k fuel _ _ (by omega) (by omega)]
    congr 1
    refine Bag.sound ?_
    have e : atL (a :: rest.eraseIdx i) k = atL (rest.eraseIdx i) k := by simp [atL, List.filter_cons, ha]
    rw [e] at hat
    exact List.Perm.append_left l hat.symm
theorem at_eq (p : Ps) (k : Ky) (hz : p.length ≤ 1000000) : lP_at p k = some (Bag.of (atL p k)) := by
 have := at0 p k big [] p (big_lt (by omega)) (by simpa using hz)
 simpa [lP_at] using this
theorem mdel_filter {m : Ps} (hu : Uk m) (k : Sl) : mdel m k = m.filter fun e => !decide (e.1 = k) := by
 induction m with
 | nil => rfl
 | cons e r ih =>
  have hu' : Uk r := (List.nodup_cons.1 hu).2
  have hn : e.1 ∉ r.map (·.1) := (List.nodup_cons.1 hu).1
  rw [mdel]
  by_cases h : k = e.1
  ·rw [if_pos h, List.filter_cons, if_neg (by simp [h])]
   rw [List.filter_eq_self.2]
   intro x hx
   have : x.1 ≠ k := fun h2 => hn (List.mem_map.2 ⟨x, hx, by rw [h2, h]⟩)
   simp [this]
  ·rw [if_neg h, List.filter_cons, if_pos (by simp only [Bool.not_eq_true', decide_eq_false_iff_not]; exact fun h2 => h h2.symm), ih hu']
theorem uk_perm {m m' : Ps} (h : m.Perm m') (hu : Uk m) : Uk m' := (h.map _).nodup_iff.1 hu
theorem uk_filter {m : Ps} (hu : Uk m) (f : Sl × Int → Bool) : Uk (m.filter f) := ((List.filter_sublist.map _).nodup hu)
theorem uk_get {m : Ps} (hu : Uk m) {a b : Sl × Int} (ha : a ∈ m) (hb : b ∈ m) (h : a.1 = b.1) : a = b := by
 have h1 := mem_mget hu (k := a.1) (v := a.2) ha
 have h2 := mem_mget hu (k := b.1) (v := b.2) hb
 rw [h] at h1
 rw [h1] at h2
 exact Prod.ext h (Option.some.inj h2)
theorem del0 (P : Sl × Int → Bool) (f : Nat → Ps → Ps → Option Ps) (hs : ∀ fuel m2 rest, f (fuel + 1) m2 rest = if List.isEmpty rest then some m2 else agree rest fun a rs => if P a then if mget rs a.1 = none then f fuel (mdel m2 a.1) rs else none else f fuel m2 rs) :
  ∀ (fuel : Nat) (m2 rest : Ps), rest.length < fuel → Uk m2 → Uk rest → f fuel m2 rest = some (m2.filter fun e => !(rest.any fun a => decide (a.1 = e.1) && P a))
 | 0, m2, rest, h, _, _ => by omega
 | fuel + 1, m2, rest, h, hm, hu => by
  rw [hs]
  by_cases hr : rest = []
  ·subst hr; rw [if_pos (show ([] : Ps).isEmpty = true from rfl)]; simp only [List.any_nil, Bool.not_false]; rw [List.filter_eq_self.2 (fun _ _ => rfl)]
  ·rw [if_neg (by cases rest <;> simp at hr ⊢)]
   refine agree_eq hr fun i a hi => ?_
   have hpr := erase_perm hi
   have hlen := hpr.length_eq
   simp only [List.length_cons] at hlen
   have hu2 : Uk (a :: rest.eraseIdx i) := uk_perm hpr hu
   have hn : a.1 ∉ (rest.eraseIdx i).map (·.1) := (List.nodup_cons.1 hu2).1
   have he : ∀ e : Sl × Int, (rest.any fun b => decide (b.1 = e.1) && P b) = ((a :: rest.eraseIdx i).any fun b => decide (b.1 = e.1) && P b) := fun e => by
    rw [Bool.eq_iff_iff, List.any_eq_true, List.any_eq_true]
    constructor
    ·rintro ⟨e, h1, h2⟩; exact ⟨e, hpr.mem_iff.1 h1, h2⟩
    ·rintro ⟨e, h1, h2⟩; exact ⟨e, hpr.mem_iff.2 h1, h2⟩
   simp only [he, List.any_cons]
   by_cases ha : P a = true
   ·have hg : mget (rest.eraseIdx i) a.1 = none := by
     cases hg : mget (rest.eraseIdx i) a.1 with
     | none => rfl
     | some v => exact absurd (List.mem_map.2 ⟨_, mget_mem hg, rfl⟩) hn
    rw [if_pos ha, if_pos hg, del0 P f hs fuel _ _ (by omega) (mdel_uk hm _) (List.nodup_cons.1 hu2).2, mdel_filter hm, List.filter_filter]
    congr 1
    refine List.filter_congr fun e _ => ?_
    by_cases h2 : a.1 = e.1
    ·simp [ha, h2]
    ·have h3 : ¬ e.1 = a.1 := fun h3 => h2 h3.symm
     simp only [h2, h3, decide_false, Bool.false_and, Bool.false_or, Bool.not_false, Bool.and_true]
   ·rw [if_neg ha, del0 P f hs fuel _ _ (by omega) hm (List.nodup_cons.1 hu2).2]
    congr 1
    refine List.filter_congr fun e _ => ?_
    simp only [Bool.not_eq_true] at ha
    simp [ha]
theorem del_eq {P : Sl × Int → Bool} {p : Ps} (hu : Uk p) : (p.filter fun e => !(p.any fun a => decide (a.1 = e.1) && P a)) = p.filter fun e => !P e := by
 refine List.filter_congr fun e he => ?_
 congr 1
 rw [Bool.eq_iff_iff, List.any_eq_true]
 constructor
 ·rintro ⟨a, h1, h2⟩
  simp only [Bool.and_eq_true, decide_eq_true_eq] at h2
  rw [← uk_get hu h1 he h2.1]; exact h2.2
 ·intro h; exact ⟨e, he, by simp [h]⟩
theorem drop_eq (p : Ps) (x : Tx) (hu : Uk p) (hz : p.length ≤ 1000000) : lP_drop p x = some (drop p x) := by
 have h := del0 (fun e => decide (e.1.f_tx = x)) (mDF_l0 p x) (fun fuel m2 rest => by
  rw [mDF_l0]
  congr 1; congr 1; funext a rs
  simp only [lP_drop_L1, lock_every, Option.bind_some]
  by_cases h : a.1.f_tx = x <;> simp [h]) big p p (big_lt (by omega)) hu hu
 rw [lP_drop, mDF, h, Option.bind_some, del_eq hu, drop]
theorem gone_eq (us : Us) (hd wt : Ps) (x : Tx) (hh : Uk hd) (hw : Uk wt) (zh : hd.length ≤ 1000000) (zw : wt.length ≤ 1000000) : lT_gone us hd wt x = some (mdel us x, drop hd x, drop wt x) := by
 rw [lT_gone, drop_eq hd x hh zh, Option.bind_some, drop_eq wt x hw zw, Option.bind_some]
def clash (a b : Int) : Bool := a == 2 || b == 2
theorem clash_eq (a b : Int) : lock_clash a b = some (clash a b) := by
 rw [lock_clash, clash]
 by_cases h : a = 2 <;> simp [h]
def freeH (hd wt : Ps) (s : Sl) (x : Tx) : Bool := !decide (x = s.f_tx) && clash (md wt s) (md hd ⟨x, s.f_key⟩)
def freeW (us : Us) (wt : Ps) (s : Sl) (x : Tx) : Bool := !decide (x = s.f_tx) && decide (cfA us x s.f_tx < 0) && clash (md wt s) (md wt ⟨x, s.f_key⟩)
def isFree (us : Us) (hd wt : Ps) (s : Sl) : Bool := !(atL hd s.f_key).any (freeH hd wt s) && !(atL wt s.f_key).any (freeW us wt s)
theorem drop_any {α : Type} (l : List α) (P : α → Bool) (k : Nat) (d : α) (h : k < l.length) : (l.drop k).any P = (P (l.getD k d) || (l.drop (k + 1)).any P) := by rw [getD_drop l k d h, List.any_cons]
theorem free1 {us : Us} {hd wt : Ps} {s : Sl} (hs : (mget us s.f_tx).isSome = true) (l : List Tx) (hl : ∀ x ∈ l, (mget us x).isSome = true) (hz : l.length ≤ 1000000) (q : Bag Tx) (hq : Bag.of l = q) : ∀ (fuel k : Nat), l.length - k < fuel → k ≤ l.length →
  lT_isFree_l1 us hd wt s q l fuel k = some (!(l.drop k).any (freeW us wt s))
 | 0, k, h, _ => by omega
 | fuel + 1, k, h, hk => by
  have hql : q.length = l.length := by rw [← hq]; rfl
  rw [lT_isFree_l1, hql]
  by_cases hlt : k < l.length
  ·have hm : l.getD k default ∈ l := by rw [List.getD_eq_getElem?_getD, List.getElem?_eq_getElem hlt]; exact List.getElem_mem hlt
   rw [if_pos (dT (by omega)), if_pos (by omega), Int.toNat_natCast, w64 (by omega) (by omega), drop_any l _ k default hlt]
   have ih := free1 (hd := hd) (wt := wt) hs l hl hz q hq fuel (k + 1) (by omega) (by omega)
   rw [show (((k : Nat) : Int) + 1) = ((k + 1 : Nat) : Int) by omega, ih]
   generalize l.getD k default = x at hm ⊢
   simp only [age_eq (hl x hm) hs, clash_eq, Option.bind_some, freeW, md]
   by_cases h1 : x = s.f_tx
   ·simp [h1]
   ·by_cases h2 : cfA us x s.f_tx < 0
    ·by_cases h3 : clash ((mget wt s).getD 0) ((mget wt ⟨x, s.f_key⟩).getD 0) = true
     ·simp [h1, h2, h3]
     ·simp [h1, h2, h3]
    ·simp [h1, h2]
  ·rw [if_neg (dF (by omega))]
   have : k = l.length := by omega
   subst this
   simp
theorem any_perm {α : Type} {l m : List α} (h : l.Perm m) (P : α → Bool) : l.any P = m.any P := by
 rw [Bool.eq_iff_iff, List.any_eq_true, List.any_eq_true]
 constructor
 ·rintro ⟨e, h1, h2⟩; exact ⟨e, h.mem_iff.1 h1, h2⟩
 ·rintro ⟨e, h1, h2⟩; exact ⟨e, h.mem_iff.2 h1, h2⟩
theorem atL_len (p : Ps) (k : Ky) : (atL p k).length ≤ p.length := by
 rw [atL, List.length_map]; exact List.length_filter_le _ _
theorem atL_mem {p : Ps} {k : Ky} {x : Tx} : x ∈ atL p k ↔ ∃ m, (⟨⟨x, k⟩, m⟩ : Sl × Int) ∈ p := by
 simp only [atL, List.mem_map, List.mem_filter, decide_eq_true_eq]
 constructor
 ·rintro ⟨⟨⟨t, k'⟩, m⟩, ⟨h1, h2⟩, h3⟩
  simp only at h2 h3
  subst h2 h3
  exact ⟨m, h1⟩
 ·rintro ⟨m, h⟩
  exact ⟨_, ⟨h, rfl⟩, rfl⟩
theorem free0 {us : Us} {hd wt : Ps} {s : Sl} (hs : (mget us s.f_tx).isSome = true) (hw : ∀ e ∈ wt, (mget us e.1.f_tx).isSome = true) (zw : wt.length ≤ 1000000) (l : List Tx) (hz : l.length ≤ 1000000) (q : Bag Tx) (hq : Bag.of l = q) : ∀ (fuel k : Nat), l.length - k < fuel → k ≤ l.length →
  lT_isFree_l0 us hd wt s q l fuel k = some (!(l.drop k).any (freeH hd wt s) && !(atL wt s.f_key).any (freeW us wt s))
 | 0, k, h, _ => by omega
 | fuel + 1, k, h, hk => by
  have hql : q.length = l.length := by rw [← hq]; rfl
  rw [lT_isFree_l0, hql]
  by_cases hlt : k < l.length
  ·rw [if_pos (dT (by omega)), if_pos (by omega), Int.toNat_natCast, w64 (by omega) (by omega), drop_any l _ k default hlt]
   have ih := free0 (hd := hd) (wt := wt) hs hw zw l hz q hq fuel (k + 1) (by omega) (by omega)
   rw [show (((k : Nat) : Int) + 1) = ((k + 1 : Nat) : Int) by omega, ih]
   generalize l.getD k default = x
   simp only [clash_eq, Option.bind_some, freeH, md]
   by_cases h1 : x = s.f_tx
   ·simp [h1]
   ·by_cases h3 : clash ((mget wt s).getD 0) ((mget hd ⟨x, s.f_key⟩).getD 0) = true
    ·simp [h1, h3]
    ·simp [h1, h3]
  ·rw [if_neg (dF (by omega))]
   have : k = l.length := by omega
   subst this
   rw [at_eq wt s.f_key zw, Option.bind_some, lT_isFree_c2000001]
   rw [agreeB_eq (r := !(atL wt s.f_key).any (freeW us wt s)) (fun l' hl' => ?_)]
   ·simp
   ·have hp := Bag.exact hl'
    rw [show (0 : Int) = ((0 : Nat) : Int) from rfl, free1 hs l' (fun x hx => by
     obtain ⟨m, hm⟩ := atL_mem.1 (hp.mem_iff.1 hx)
     exact hw _ hm) (by rw [hp.length_eq]; exact Nat.le_trans (atL_len _ _) zw) _ hl' big 0 (big_lt (by have := hp.length_eq; have := atL_len wt s.f_key; omega)) (by omega)]
    rw [List.drop_zero, any_perm hp]
theorem isFree_eq {us : Us} {hd wt : Ps} {s : Sl} (hs : (mget us s.f_tx).isSome = true) (hw : ∀ e ∈ wt, (mget us e.1.f_tx).isSome = true) (zh : hd.length ≤ 1000000) (zw : wt.length ≤ 1000000) : lT_isFree us hd wt s = some (isFree us hd wt s) := by
 rw [lT_isFree, at_eq hd s.f_key zh, Option.bind_some, lT_isFree_c2000000]
 refine agreeB_eq fun l hl => ?_
 have hp := Bag.exact hl
 have hlen := hp.length_eq
 have := atL_len hd s.f_key
 rw [show (0 : Int) = ((0 : Nat) : Int) from rfl, free0 hs hw zw l (by omega) _ hl big 0 (big_lt (by omega)) (by omega), List.drop_zero, any_perm hp]
 rfl
end Go.Proofs.YtddgjfclpknkcaaGreatDoor.Wk
