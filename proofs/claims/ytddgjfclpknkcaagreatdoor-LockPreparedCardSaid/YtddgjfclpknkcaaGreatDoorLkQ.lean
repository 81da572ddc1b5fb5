import Derived.Test.YtddgjfclpknkcaaGreatDoorLkP
set_option linter.unusedVariables false
set_option linter.unusedSimpArgs false
set_option linter.unusedSectionVars false
namespace Go.Proofs.YtddgjfclpknkcaaGreatDoor.Wk
open Go Go.Cn
theorem age_open {us : Us} {xk a b : Tx} {u : TU} (hk : mget us xk = some u) (ha : (mget us a).isSome = true) (hb : (mget us b).isSome = true) (hd wt : Ps) : lT_age us xk u hd wt a b = some (cfA us a b) := by
 obtain ⟨v, hv⟩ := Option.isSome_iff_exists.1 ha
 obtain ⟨w, hw⟩ := Option.isSome_iff_exists.1 hb
 rw [lT_age]
 by_cases h : a = xk
 ·subst h
  rw [hk] at hv; cases hv
  rw [if_pos (by simp), if_pos (by simp [hk])]
  by_cases h2 : b = a
  ·subst h2
   rw [if_pos (by simp), stamps_eq]
   simp [cfA, ka, so, hk]
  ·rw [if_neg (by simpa using h2), if_pos (by simp [hw]), hw, Option.bind_some, stamps_eq]
   simp [cfA, ka, so, hk, hw]
 ·rw [if_neg (by simpa using h), if_pos (by simp [hv]), hv, Option.bind_some]
  by_cases h2 : b = a
  ·subst h2
   rw [if_pos (by simp), stamps_eq]
   simp [cfA, ka, so, hv]
  ·rw [if_neg (by simpa using h2)]
   by_cases h3 : b = xk
   ·subst h3
    rw [if_pos (by simp), if_pos (by simp [hk]), stamps_eq]
    simp [cfA, ka, so, hk, hv]
   ·rw [if_neg (by simpa using h3), if_pos (by simp [hw]), hw, Option.bind_some, stamps_eq]
    simp [cfA, ka, so, hw, hv]
structure Ok (us : Us) (hd wt : Ps) (n : Nat) : Prop where
 uu : Uk us
 uh : Uk hd
 uw : Uk wt
 hu : ∀ e ∈ hd, (mget us e.1.f_tx).isSome = true
 wu : ∀ e ∈ wt, (mget us e.1.f_tx).isSome = true
 su : ∀ e ∈ us, e.2.f_stamp.f_Tx = e.1
 nu : us.length ≤ 64
 nw : wt.length ≤ n
 nh : hd.length + wt.length ≤ 40 * n
 nn : n ≤ 250
theorem Ok.inj {us : Us} {hd wt : Ps} {n : Nat} (h : Ok us hd wt n) {x y : Tx} (hx : (mget us x).isSome = true) (hy : (mget us y).isSome = true) (e : ka us x = ka us y) : x = y := by
 obtain ⟨u, hu⟩ := Option.isSome_iff_exists.1 hx
 obtain ⟨v, hv⟩ := Option.isSome_iff_exists.1 hy
 have h1 := h.su _ (mget_mem hu)
 have h2 := h.su _ (mget_mem hv)
 simp only [ka, so, hu, hv, Option.getD_some, kS, List.cons.injEq] at e
 dsimp only at h1 h2
 rw [h1, h2] at e
 obtain ⟨a, b, c⟩ := x
 obtain ⟨a', b', c'⟩ := y
 simp only [txL, List.cons.injEq, and_true] at e
 obtain ⟨_, e1, e2, e3⟩ := e
 subst e1 e2 e3; rfl
theorem k8_inj {a b : Ky} (h : k8 a = k8 b) : a = b := by
 cases a; cases b
 simp only [k8, List.cons.injEq, and_true] at h
 obtain ⟨h0, h1, h2, h3, h4, h5, h6, h7⟩ := h
 subst h0 h1 h2 h3 h4 h5 h6 h7; rfl
theorem Ok.inj2 {us : Us} {hd wt : Ps} {n : Nat} (h : Ok us hd wt n) {s t : Sl} (hx : (mget us s.f_tx).isSome = true) (hy : (mget us t.f_tx).isSome = true) (e : ko us s = ko us t) : s = t := by
 obtain ⟨e1, e2⟩ := List.append_inj e rfl
 have h1 := k8_inj e1
 have h2 := h.inj hx hy e2
 cases s; cases t
 simp only at h1 h2
 subst h1 h2; rfl
theorem drop_mem {p : Ps} {x : Tx} {e : Sl × Int} : e ∈ drop p x ↔ e ∈ p ∧ e.1.f_tx ≠ x := by simp [drop, List.mem_filter]
theorem drop_len (p : Ps) (x : Tx) : (drop p x).length ≤ p.length := List.length_filter_le _ _
def goneF (st : Us × Ps × Ps) (x : Tx) : Us × Ps × Ps := (mdel st.1 x, drop st.2.1 x, drop st.2.2 x)
theorem Ok.gone {us : Us} {hd wt : Ps} {n : Nat} (h : Ok us hd wt n) (x : Tx) : Ok (mdel us x) (drop hd x) (drop wt x) n := by
 have hm : ∀ y, y ≠ x → mget (mdel us x) y = mget us y := fun y hy => by rw [mdel_get h.uu, if_neg hy]
 refine ⟨mdel_uk h.uu x, uk_filter h.uh _, uk_filter h.uw _, fun e he => ?_, fun e he => ?_, fun e he => h.su e ((mdel_sub us x).subset he), Nat.le_trans (mdel_sub us x).length_le h.nu, Nat.le_trans (drop_len _ _) h.nw, ?_, h.nn⟩
 ·obtain ⟨h1, h2⟩ := drop_mem.1 he
  rw [hm _ h2]; exact h.hu e h1
 ·obtain ⟨h1, h2⟩ := drop_mem.1 he
  rw [hm _ h2]; exact h.wu e h1
 ·have := drop_len hd x; have := drop_len wt x; have := h.nh; omega
theorem Ok.fold {n : Nat} : ∀ (l : List Tx) {st : Us × Ps × Ps}, Ok st.1 st.2.1 st.2.2 n → Ok (l.foldl goneF st).1 (l.foldl goneF st).2.1 (l.foldl goneF st).2.2 n
 | [], _, h => h
 | x :: l, _, h => Ok.fold l (h.gone x)
def prep (us : Us) (x : Tx) : Bool := ((mget us x).getD default).f_prepared
def hit (us : Us) (hd wt : Ps) (s : Sl) (x : Tx) : Bool := !decide (x = s.f_tx) && (!prep us x && (decide (cfA us s.f_tx x < 0) && clash (md wt s) (md hd ⟨x, s.f_key⟩)))
def woundL (us : Us) (hd wt : Ps) (s : Sl) : List Tx := srt (ka us) ((atL hd s.f_key).filter (hit us hd wt s))
theorem wound1 (us0 : Us) (hd0 wt0 : Ps) (s : Sl) (l y : List Tx) (hl : l.length = y.length) (hy : y.length ≤ 1000000) {n : Nat} : ∀ (fuel k : Nat) (st : Us × Ps × Ps), y.length - k < fuel → k ≤ y.length → Ok st.1 st.2.1 st.2.2 n →
  lT_wound_l1 us0 hd0 wt0 s l y fuel k st.1 st.2.1 st.2.2 = some (y, (y.drop k).foldl goneF st)
 | 0, k, _, h, _, _ => by omega
 | fuel + 1, k, st, h, hk, hok => by
  rw [lT_wound_l1, hl]
  by_cases hlt : k < y.length
  ·have zh := hok.nh; have zn := hok.nn
   rw [if_pos (dT (by omega)), if_pos (by omega), Int.toNat_natCast, gone_eq _ _ _ _ hok.uh hok.uw (by omega) (by omega), Option.bind_some, w64 (by omega) (by omega), getD_drop y k default hlt, List.foldl_cons]
   exact wound1 us0 hd0 wt0 s l y hl hy fuel (k + 1) (goneF st (y.getD k default)) (by omega) (by omega) (hok.gone _)
  ·rw [if_neg (dF (by omega))]
   have : k = y.length := by omega
   subst this
   rw [List.drop_length]; rfl
theorem srt_eq {us : Us} {hd wt : Ps} {n : Nat} (hok : Ok us hd wt n) {l m : List Tx} (hp : l.Perm m) (hu : ∀ x ∈ l, (mget us x).isSome = true) : srt (ka us) l = srt (ka us) m :=
 uniq (ka us) (fun _ _ => rfl) ((srt_perm _ l).trans (hp.trans (srt_perm _ m).symm)) (fun x hx y hy e => hok.inj (hu x ((srt_perm _ l).mem_iff.1 hx)) (hu y ((srt_perm _ l).mem_iff.1 hy)) e) (srt_sorted _ (fun _ _ => rfl) l) (srt_sorted _ (fun _ _ => rfl) m)
theorem srt_len {α : Type} (κ : α → List Int) (l : List α) : (srt κ l).length = l.length := (srt_perm κ l).length_eq
theorem wound0 {us : Us} {hd wt : Ps} {s : Sl} {n : Nat} (hok : Ok us hd wt n) (hs : (mget us s.f_tx).isSome = true) (q : Bag Tx) (lC : List Tx) (hq : Bag.of lC = q) (hz : lC.length < 256) (hl : ∀ x ∈ lC, (mget us x).isSome = true) (L0 : List Tx) (hL0 : ∀ x ∈ L0, (mget us x).isSome = true) : ∀ (fuel k : Nat) (l : List Tx), lC.length - k < fuel → k ≤ lC.length → l.length ≤ k → (l ++ (lC.drop k).filter (hit us hd wt s)).Perm L0 →
  lT_wound_l0 us hd wt s q lC fuel k l = some (srt (ka us) L0, (srt (ka us) L0).foldl goneF (us, hd, wt))
 | 0, k, _, h, _, _, _ => by omega
 | fuel + 1, k, l, h, hk, hlk, hp => by
  have hql : q.length = lC.length := by rw [← hq]; rfl
  rw [lT_wound_l0, hql]
  by_cases hlt : k < lC.length
  ·have hm : lC.getD k default ∈ lC := by rw [List.getD_eq_getElem?_getD, List.getElem?_eq_getElem hlt]; exact List.getElem_mem hlt
   rw [if_pos (dT (by omega)), if_pos (by omega), Int.toNat_natCast, w64 (by omega) (by omega)]
   rw [getD_drop lC k default hlt] at hp
   have no := fun hp' => wound0 hok hs q lC hq hz hl L0 hL0 fuel (k + 1) l (by omega) (by omega) (by omega) hp'
   have yes := fun x hp' => wound0 hok hs q lC hq hz hl L0 hL0 fuel (k + 1) (l ++ [x]) (by omega) (by omega) (by simp; omega) hp'
   rw [show (((k : Nat) : Int) + 1) = ((k + 1 : Nat) : Int) by omega]
   generalize lC.getD k default = x at hm hp ⊢
   have hx := hl x hm
   obtain ⟨u, hu⟩ := Option.isSome_iff_exists.1 hx
   have e11 : ([x] : List TX).length = 1 := rfl
   have dz : (default : Int) = 0 := rfl
   simp only [dz, hu, Option.isSome_some, if_true, Option.bind_some, age_open hu hs hx, clash_eq]
   by_cases h1 : x = s.f_tx
   ·rw [if_neg (by simp [h1])]
    rw [List.filter_cons, if_neg (by simp [hit, h1])] at hp
    exact no hp
   ·rw [if_pos (by simp [h1])]
    cases h2 : u.f_prepared with
    | true =>
     rw [if_neg (by simp)]
     rw [List.filter_cons, if_neg (by simp [hit, prep, hu, h2])] at hp
     exact no hp
    | false =>
     rw [if_pos (by simp)]
     by_cases h3 : cfA us s.f_tx x < 0
     ·rw [if_pos (by simpa using h3)]
      by_cases h4 : clash ((mget wt s).getD 0) ((mget hd ⟨x, s.f_key⟩).getD 0) = true
      ·rw [List.filter_cons, if_pos (by simp only [hit, prep, hu, h1, h2, h3, md, h4, Option.getD_some]; rfl)] at hp
       have hc := yes x (by rw [List.append_assoc]; exact hp)
       simp only [e11]
       rw [if_pos h4, if_pos (by omega)]
       exact hc
      ·rw [List.filter_cons, if_neg (by simp only [hit, md, h4]; simp)] at hp
       rw [if_neg h4]
       exact no hp
     ·rw [if_neg (by simpa using h3)]
      rw [List.filter_cons, if_neg (by simp [hit, h3])] at hp
      exact no hp
  ·rw [if_neg (dF (by omega))]
   have : k = lC.length := by omega
   subst this
   rw [List.drop_length, List.filter_nil, List.append_nil] at hp
   have hu : ∀ x ∈ l, (mget us x).isSome = true := fun x hx => hL0 x (hp.mem_iff.1 hx)
   rw [sortA (by omega) hu (fun x hx y hy e => hok.inj (hu x hx) (hu y hy) e), Option.bind_some, if_pos (srt_len _ _).symm, srt_eq hok hp hu]
   have hll := hp.length_eq
   have := wound1 us hd wt s l (srt (ka us) L0) (by rw [srt_len]; exact hll) (by rw [srt_len]; omega) big 0 (us, hd, wt) (big_lt (by rw [srt_len]; omega)) (by omega) hok
   rw [List.drop_zero] at this
   exact this
theorem wound_eq {us : Us} {hd wt : Ps} {s : Sl} {n : Nat} (hok : Ok us hd wt n) (hs : (mget us s.f_tx).isSome = true) (h256 : (atL hd s.f_key).length < 256) :
  lT_wound us hd wt s = some (woundL us hd wt s, (woundL us hd wt s).foldl goneF (us, hd, wt)) := by
 have zh := hok.nh; have zn := hok.nn
 have hmem : ∀ x ∈ atL hd s.f_key, (mget us x).isSome = true := fun x hx => by
  obtain ⟨m, hm⟩ := atL_mem.1 hx
  exact hok.hu _ hm
 rw [lT_wound, at_eq hd s.f_key (by omega), Option.bind_some, lT_wound_c2000000]
 refine agreeB_eq fun l hl => ?_
 have hp := Bag.exact hl
 have hlen := hp.length_eq
 exact wound0 hok hs _ l hl (by omega) (fun x hx => hmem x (hp.mem_iff.1 hx)) ((atL hd s.f_key).filter (hit us hd wt s)) (fun x hx => hmem x ((List.mem_filter.1 hx).1)) big 0 [] (big_lt (by omega)) (by omega) (by simp) (by simpa using hp.filter _)
def mx (a b : Int) : Int := if a > b then a else b
def onStep (us : Us) (st : List TG × Ps × Ps) (s : Sl) : List TG × Ps × Ps :=
 if isFree us st.2.1 st.2.2 s then (st.1 ++ [TG.mk s.f_tx s.f_key (mx (md st.2.1 s) (md st.2.2 s))], mset st.2.1 s (mx (md st.2.1 s) (md st.2.2 s)), mdel st.2.2 s) else st
def onR (us : Us) (hd wt : Ps) : List TG × Ps × Ps := (srt (ko us) (wt.map (·.1))).foldl (onStep us) ([], hd, wt)
section
variable {α β : Type} [DecidableEq α]
theorem mset_len (m : List (α × β)) (k : α) (v : β) : (mset m k v).length ≤ m.length + 1 := by
 induction m with
 | nil => simp [mset]
 | cons e r ih => rw [mset]; split <;> simp only [List.length_cons] <;> omega
theorem mset_len_same {m : List (α × β)} {k : α} (v : β) (h : (mget m k).isSome = true) : (mset m k v).length = m.length := by
 induction m with
 | nil => simp [mget] at h
 | cons e r ih =>
  rw [mset]
  split
  ·rfl
  ·rename_i hne
   rw [mget, if_neg hne] at h
   simp only [List.length_cons, ih h]
theorem mset_new {m : List (α × β)} {k : α} (v : β) (h : mget m k = none) : mset m k v = m ++ [(k, v)] := by
 induction m with
 | nil => rfl
 | cons e r ih =>
  rw [mget] at h
  split at h
  ·cases h
  ·rename_i hne
   rw [mset, if_neg hne, ih h]; rfl
theorem mset_mem {m : List (α × β)} {k : α} {v : β} {e : α × β} (h : e ∈ mset m k v) : e = (k, v) ∨ e ∈ m := by
 induction m with
 | nil => simp [mset] at h; exact Or.inl h
 | cons a r ih =>
  rw [mset] at h
  split at h
  ·rcases List.mem_cons.1 h with h | h
   ·exact Or.inl h
   ·exact Or.inr (List.mem_cons_of_mem _ h)
  ·rcases List.mem_cons.1 h with h | h
   ·exact Or.inr (by rw [h]; exact List.mem_cons_self)
   ·rcases ih h with h | h
    ·exact Or.inl h
    ·exact Or.inr (List.mem_cons_of_mem _ h)
theorem mdel_len {m : List (α × β)} {k : α} (h : k ∈ m.map (·.1)) : (mdel m k).length + 1 = m.length := by
 induction m with
 | nil => simp at h
 | cons e r ih =>
  rw [mdel]
  split
  ·rfl
  ·rename_i hne
   have : k ∈ r.map (·.1) := by
    rcases List.mem_cons.1 h with h | h
    ·exact absurd h hne
    ·exact h
   simp only [List.length_cons, ih this]
theorem mget_keys {m : List (α × β)} {k : α} (h : (mget m k).isSome = true) : k ∈ m.map (·.1) := by
 obtain ⟨v, hv⟩ := Option.isSome_iff_exists.1 h
 exact List.mem_map.2 ⟨_, mget_mem hv, rfl⟩
end
theorem sub_len {α : Type} [DecidableEq α] : ∀ {l m : List α}, l.Nodup → (∀ x ∈ l, x ∈ m) → l.length ≤ m.length
 | [], m, _, _ => Nat.zero_le _
 | a :: l, m, hn, h => by
  rw [List.nodup_cons] at hn
  have ha := h a List.mem_cons_self
  have := sub_len (l := l) (m := m.erase a) hn.2 (fun x hx => (List.mem_erase_of_ne (by rintro rfl; exact hn.1 hx)).2 (h x (List.mem_cons_of_mem _ hx)))
  rw [List.length_erase_of_mem ha] at this
  have hp : 0 < m.length := List.length_pos_of_mem ha
  simp only [List.length_cons]; omega
theorem atL_nodup {p : Ps} (hu : Uk p) (k : Ky) : (atL p k).Nodup := by
 induction p with
 | nil => exact List.nodup_nil
 | cons e r ih =>
  obtain ⟨h1, h2⟩ := List.nodup_cons.1 hu
  rw [atL, List.filter_cons]
  split
  ·rename_i hk
   rw [List.map_cons]
   refine List.nodup_cons.2 ⟨fun hm => h1 ?_, ih h2⟩
   obtain ⟨m, hm⟩ := atL_mem.1 hm
   refine List.mem_map.2 ⟨_, hm, ?_⟩
   simp only [decide_eq_true_eq] at hk
   rw [← hk]
  ·exact ih h2
theorem Ok.at64 {us : Us} {hd wt : Ps} {n : Nat} (h : Ok us hd wt n) (k : Ky) : (atL hd k).length ≤ 64 := by
 have := sub_len (m := us.map (·.1)) (atL_nodup h.uh k) (fun x hx => by
  obtain ⟨m, hm⟩ := atL_mem.1 hx
  exact mget_keys (h.hu _ hm))
 rw [List.length_map] at this
 have := h.nu
 omega
theorem Ok.grant {us : Us} {hd wt : Ps} {n : Nat} (h : Ok us hd wt n) {s : Sl} (hs : s ∈ wt.map (·.1)) (v : Int) : Ok us (mset hd s v) (mdel wt s) n := by
 obtain ⟨e, he, hes⟩ := List.mem_map.1 hs
 have hsu : (mget us s.f_tx).isSome = true := by rw [← hes]; exact h.wu e he
 refine ⟨h.uu, mset_uk h.uh s v, mdel_uk h.uw s, fun e he => ?_, fun e he => h.wu e ((mdel_sub wt s).subset he), h.su, h.nu, Nat.le_trans (mdel_sub wt s).length_le h.nw, ?_, h.nn⟩
 ·rcases mset_mem he with h1 | h1
  ·rw [h1]; exact hsu
  ·exact h.hu e h1
 ·have := mset_len hd s v; have := mdel_len hs; have := h.nh; omega
theorem mdel_keys {m : Ps} (hu : Uk m) {k t : Sl} (hne : t ≠ k) (h : t ∈ m.map (·.1)) : t ∈ (mdel m k).map (·.1) := by
 rw [mdel_filter hu]
 obtain ⟨e, he, hes⟩ := List.mem_map.1 h
 exact List.mem_map.2 ⟨e, List.mem_filter.2 ⟨he, by simp [hes, hne]⟩, hes⟩
theorem Ok.onFold {us : Us} {n : Nat} : ∀ (y : List Sl) (st : List TG × Ps × Ps), y.Nodup → (∀ s ∈ y, s ∈ st.2.2.map (·.1)) → Ok us st.2.1 st.2.2 n → Ok us (y.foldl (onStep us) st).2.1 (y.foldl (onStep us) st).2.2 n
 | [], _, _, _, h => h
 | s :: y, st, hn, hy, h => by
  rw [List.foldl_cons]
  obtain ⟨hn1, hn2⟩ := List.nodup_cons.1 hn
  have hs := hy s List.mem_cons_self
  unfold onStep
  split
  ·exact Ok.onFold y _ hn2 (fun t ht => mdel_keys h.uw (fun e => hn1 (e ▸ ht)) (hy t (List.mem_cons_of_mem _ ht))) (h.grant hs _)
  ·exact Ok.onFold y _ hn2 (fun t ht => hy t (List.mem_cons_of_mem _ ht)) h
theorem on0 {us : Us} (hd0 wt0 : Ps) (y : List Sl) (hyz : y.length ≤ 1000) {n : Nat} : ∀ (fuel k : Nat) (st : List TG × Ps × Ps), y.length - k < fuel → k ≤ y.length → st.1.length ≤ k → (y.drop k).Nodup → (∀ s ∈ y.drop k, s ∈ st.2.2.map (·.1)) → Ok us st.2.1 st.2.2 n →
  lT_on_l0 us hd0 wt0 y fuel k st.2.1 st.2.2 st.1 = some ((y.drop k).foldl (onStep us) st)
 | 0, k, _, h, _, _, _, _, _ => by omega
 | fuel + 1, k, st, h, hk, hlk, hn, hy, hok => by
  rw [lT_on_l0]
  have zh := hok.nh; have zn := hok.nn
  by_cases hlt : k < y.length
  ·rw [if_pos (dT (by omega)), if_pos (by omega), Int.toNat_natCast, w64 (by omega) (by omega)]
   rw [getD_drop y k default hlt] at hn hy ⊢
   have ih := fun st' a b c d e f => on0 (us := us) (n := n) hd0 wt0 y hyz fuel (k + 1) st' a b c d e f
   rw [show (((k : Nat) : Int) + 1) = ((k + 1 : Nat) : Int) by omega, List.foldl_cons]
   generalize y.getD k default = s at hn hy ⊢
   obtain ⟨hn1, hn2⟩ := List.nodup_cons.1 hn
   have hs := hy s List.mem_cons_self
   obtain ⟨e, he, hes⟩ := List.mem_map.1 hs
   have hsu : (mget us s.f_tx).isSome = true := by rw [← hes]; exact hok.wu e he
   rw [isFree_eq hsu hok.wu (by omega) (by omega), Option.bind_some]
   by_cases hf : isFree us st.2.1 st.2.2 s = true
   ·rw [if_neg (by simp [hf])]
    have e1 : onStep us st s = (st.1 ++ [TG.mk s.f_tx s.f_key (mx (md st.2.1 s) (md st.2.2 s))], mset st.2.1 s (mx (md st.2.1 s) (md st.2.2 s)), mdel st.2.2 s) := by rw [onStep, if_pos hf]
    rw [e1]
    have := ih (st.1 ++ [TG.mk s.f_tx s.f_key (mx (md st.2.1 s) (md st.2.2 s))], mset st.2.1 s (mx (md st.2.1 s) (md st.2.2 s)), mdel st.2.2 s) (by omega) (by omega) (by simp; omega) hn2 (fun t ht => mdel_keys hok.uw (fun e => hn1 (e ▸ ht)) (hy t (List.mem_cons_of_mem _ ht))) (hok.grant hs _)
    simp only [Option.bind_some, List.length_cons, List.length_nil]
    rw [if_pos (by omega)]
    exact this
   ·rw [if_pos (by simpa using hf)]
    have e1 : onStep us st s = st := by rw [onStep, if_neg hf]
    rw [e1]
    exact ih st (by omega) (by omega) (by omega) hn2 (fun t ht => hy t (List.mem_cons_of_mem _ ht)) hok
  ·rw [if_neg (dF (by omega))]
   have : k = y.length := by omega
   subst this
   rw [List.drop_length]; rfl
theorem srtS_eq {us : Us} {hd wt : Ps} {n : Nat} (hok : Ok us hd wt n) {l m : List Sl} (hp : l.Perm m) (hu : ∀ x ∈ l, (mget us x.f_tx).isSome = true) : srt (ko us) l = srt (ko us) m :=
 uniq (ko us) (fun _ _ => rfl) ((srt_perm _ l).trans (hp.trans (srt_perm _ m).symm)) (fun x hx y hy e => hok.inj2 (hu x ((srt_perm _ l).mem_iff.1 hx)) (hu y ((srt_perm _ l).mem_iff.1 hy)) e) (srt_sorted _ (fun _ _ => rfl) l) (srt_sorted _ (fun _ _ => rfl) m)
theorem on_keys (us : Us) {wt : Ps} (hu : Uk wt) : (srt (ko us) (wt.map (·.1))).Nodup ∧ ∀ s ∈ srt (ko us) (wt.map (·.1)), s ∈ wt.map (·.1) :=
 ⟨(srt_perm _ _).nodup_iff.2 hu, fun s hs => (srt_perm _ _).mem_iff.1 hs⟩
theorem on_eq {us : Us} {hd wt : Ps} {n : Nat} (hok : Ok us hd wt n) : lT_on us hd wt = some (onR us hd wt) := by
 have zh := hok.nh; have zn := hok.nn; have zw := hok.nw
 have hu : ∀ x ∈ wt.map (·.1), (mget us x.f_tx).isSome = true := fun x hx => by
  obtain ⟨e, he, hes⟩ := List.mem_map.1 hx
  rw [← hes]; exact hok.wu e he
 have h1 : sFO wt us hd = some (srt (ko us) (wt.map (·.1))) := by
  rw [sFO, if_pos (by unfold maxLen; omega), if_pos (by omega), sFO_c2]
  refine agreeB_eq fun l hl => ?_
  have hp := Bag.exact hl
  have hlen := hp.length_eq
  rw [List.length_map] at hlen
  have hul : ∀ x ∈ l, (mget us x.f_tx).isSome = true := fun x hx => hu x (hp.mem_iff.1 hx)
  rw [sortS (by omega) hul (fun x hx y hy e => hok.inj2 (hul x hx) (hul y hy) e), Option.bind_some, if_pos (srt_len _ _).symm, srtS_eq hok hp hul]
 rw [lT_on, mKP, Option.bind_some, h1, Option.bind_some]
 obtain ⟨k1, k2⟩ := on_keys us hok.uw
 have := on0 hd wt (srt (ko us) (wt.map (·.1))) (by rw [srt_len, List.length_map]; omega) big 0 ([], hd, wt) (big_lt (by rw [srt_len, List.length_map]; omega)) (by omega) (by simp) (by rw [List.drop_zero]; exact k1) (by rw [List.drop_zero]; exact k2) hok
 rw [List.drop_zero] at this
 exact this
theorem Ok.on {us : Us} {hd wt : Ps} {n : Nat} (hok : Ok us hd wt n) : Ok us (onR us hd wt).2.1 (onR us hd wt).2.2 n := by
 obtain ⟨k1, k2⟩ := on_keys us hok.uw
 exact Ok.onFold _ ([], hd, wt) k1 k2 hok
theorem md_mem {p : Ps} (hu : Uk p) {e : Sl × Int} (he : e ∈ p) : md p e.1 = e.2 := by rw [md, mem_mget hu (k := e.1) (v := e.2) he]; rfl
theorem md_cases (p : Ps) (s : Sl) : md p s = 0 ∨ (s, md p s) ∈ p := by
 rw [md]
 cases h : mget p s with
 | none => exact Or.inl rfl
 | some v => exact Or.inr (mget_mem h)
end Go.Proofs.YtddgjfclpknkcaaGreatDoor.Wk
