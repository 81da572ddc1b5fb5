import Derived.Test.YtddgjfclpknkcaaGreatDoorLkA
set_option linter.unusedVariables false
set_option linter.unusedSimpArgs false
namespace Go.Proofs.YtddgjfclpknkcaaGreatDoor.Wk
open Go Go.Cn
def elder (us : Us) (x y : Tx) : Prop := cfA us x y < 0
structure Wt (us : Us) (hd wt : Ps) : Prop where
 w : ∀ e ∈ wt, ∀ h ∈ hd, h.1.f_key = e.1.f_key → h.1.f_tx ≠ e.1.f_tx → clash e.2 h.2 = true → prep us h.1.f_tx = true ∨ elder us h.1.f_tx e.1.f_tx
 g : ∀ e ∈ wt, md hd e.1 < e.2
 p : ∀ e ∈ wt, prep us e.1.f_tx = false
 m : ∀ e ∈ wt, e.2 = 1 ∨ e.2 = 2
 n : ∀ e ∈ hd, e.2 = 1 ∨ e.2 = 2
def NoFree (us : Us) (hd wt : Ps) : Prop := ∀ e ∈ wt, isFree us hd wt e.1 = false
theorem clash_comm (a b : Int) : clash a b = clash b a := by rw [clash, clash, Bool.or_comm]
theorem mget_drop {p : Ps} (hu : Uk p) {x : Tx} {s : Sl} (h : s.f_tx ≠ x) : mget (drop p x) s = mget p s := by
 cases hg : mget p s with
 | none =>
  cases hd : mget (drop p x) s with
  | none => rfl
  | some v =>
   have := mem_mget hu (drop_mem.1 (mget_mem hd)).1
   rw [hg] at this; cases this
 | some v => exact mem_mget (uk_filter hu _) (drop_mem.2 ⟨mget_mem hg, h⟩)
theorem md_drop {p : Ps} (hu : Uk p) {x : Tx} {s : Sl} (h : s.f_tx ≠ x) : md (drop p x) s = md p s := by rw [md, md, mget_drop hu h]
theorem md_mset (p : Ps) (s t : Sl) (v : Int) : md (mset p s v) t = if t = s then v else md p t := by
 rw [md, mset_get]
 split
 ·rfl
 ·rfl
theorem md_mdel {p : Ps} (hu : Uk p) (s t : Sl) : md (mdel p s) t = if t = s then 0 else md p t := by
 rw [md, mdel_get hu]
 split
 ·rfl
 ·rfl
theorem user_del {us : Us} (hu : Uk us) {x y : Tx} (h : y ≠ x) : mget (mdel us x) y = mget us y := by rw [mdel_get hu, if_neg h]
theorem cfA_congr {us us' : Us} {x y : Tx} (hx : mget us' x = mget us x) (hy : mget us' y = mget us y) : cfA us' x y = cfA us x y := by
 simp only [cfA, ka, so, hx, hy]
theorem prep_congr {us us' : Us} {x : Tx} (hx : mget us' x = mget us x) : prep us' x = prep us x := by simp only [prep, hx]
theorem atL_has {p : Ps} (hu : Uk p) {e : Sl × Int} (h : e ∈ p) : e.1.f_tx ∈ atL p e.1.f_key := atL_mem.2 ⟨e.2, h⟩
theorem Wt.gone {us : Us} {hd wt : Ps} {n : Nat} (ho : Ok us hd wt n) (h : Wt us hd wt) (x : Tx) : Wt (mdel us x) (drop hd x) (drop wt x) := by
 refine ⟨fun e he k hk h1 h2 h3 => ?_, fun e he => ?_, fun e he => ?_, fun e he => h.m e (drop_mem.1 he).1, fun e he => h.n e (drop_mem.1 he).1⟩
 ·obtain ⟨e1, e2⟩ := drop_mem.1 he
  obtain ⟨k1, k2⟩ := drop_mem.1 hk
  have a := user_del ho.uu k2
  have b := user_del ho.uu e2
  rcases h.w e e1 k k1 h1 h2 h3 with h4 | h4
  ·exact Or.inl (by rw [prep_congr a]; exact h4)
  ·exact Or.inr (by rw [elder, cfA_congr a b]; exact h4)
 ·obtain ⟨e1, e2⟩ := drop_mem.1 he
  rw [md_drop ho.uh e2]; exact h.g e e1
 ·obtain ⟨e1, e2⟩ := drop_mem.1 he
  rw [prep_congr (user_del ho.uu e2)]; exact h.p e e1
theorem Wt.filt {us : Us} {hd wt : Ps} {n : Nat} (ho : Ok us hd wt n) (h : Wt us hd wt) (f : Sl × Int → Bool) : Wt us (hd.filter f) wt := by
 refine ⟨fun e he k hk => h.w e he k (List.mem_filter.1 hk).1, fun e he => ?_, h.p, h.m, fun e he => h.n e (List.mem_filter.1 he).1⟩
 have := h.g e he
 rcases md_cases (hd.filter f) e.1 with h1 | h1
 ·have hm := h.m e he; omega
 ·have := md_mem ho.uh (List.mem_filter.1 h1).1
  dsimp only at this
  omega
theorem cfA_anti (us : Us) (x y : Tx) : cfA us x y = - cfA us y x := lex_anti _ _
theorem Ok.elder {us : Us} {hd wt : Ps} {n : Nat} (ho : Ok us hd wt n) {x y : Tx} (hx : (mget us x).isSome = true) (hy : (mget us y).isSome = true) (hne : x ≠ y) (h : ¬ cfA us y x < 0) : elder us x y := by
 have h0 : cfA us x y ≠ 0 := fun e => hne (ho.inj hx hy ((lex_zero (ka us x) (ka us y) rfl).1 e))
 have := cfA_anti us x y
 rw [_root_.Go.Proofs.YtddgjfclpknkcaaGreatDoor.Wk.elder]; omega
theorem freeW_of {us : Us} {hd wt : Ps} {s : Sl} (hf : isFree us hd wt s = true) {x : Tx} (hx : x ∈ atL wt s.f_key) : freeW us wt s x = false := by
 simp only [isFree, Bool.and_eq_true, Bool.not_eq_true'] at hf
 have := hf.2
 rw [Bool.eq_false_iff] at this ⊢
 exact fun hc => this (List.any_eq_true.2 ⟨x, hx, hc⟩)
theorem mode_wt {us : Us} {hd wt : Ps} {n : Nat} (ho : Ok us hd wt n) (h : Wt us hd wt) {s : Sl} (hs : s ∈ wt.map (·.1)) : mx (md hd s) (md wt s) = md wt s ∧ (s, md wt s) ∈ wt := by
 obtain ⟨e0, he0, hes⟩ := List.mem_map.1 hs
 subst hes
 have h1 := md_mem ho.uw he0
 have h2 := h.g e0 he0
 rw [h1]
 refine ⟨?_, he0⟩
 rw [mx, if_neg (by omega)]
theorem Wt.grant {us : Us} {hd wt : Ps} {n : Nat} (ho : Ok us hd wt n) (h : Wt us hd wt) {s : Sl} (hs : s ∈ wt.map (·.1)) (hf : isFree us hd wt s = true) : Wt us (mset hd s (mx (md hd s) (md wt s))) (mdel wt s) := by
 obtain ⟨hv, hsw⟩ := mode_wt ho h hs
 rw [hv]
 have hw : ∀ e ∈ mdel wt s, e ∈ wt ∧ e.1 ≠ s := fun e he => by
  rw [mdel_filter ho.uw] at he
  obtain ⟨h1, h2⟩ := List.mem_filter.1 he
  exact ⟨h1, by simpa using h2⟩
 refine ⟨fun e he k hk h1 h2 h3 => ?_, fun e he => ?_, fun e he => h.p e (hw e he).1, fun e he => h.m e (hw e he).1, fun e he => ?_⟩
 ·obtain ⟨e1, e2⟩ := hw e he
  rcases mset_mem hk with h4 | h4
  ·rw [h4] at h1 h2 h3 ⊢
   dsimp only at h1 h2 h3 ⊢
   have hx : e.1.f_tx ∈ atL wt s.f_key := by rw [h1]; exact atL_has ho.uw e1
   have hfw := freeW_of hf hx
   have hme : md wt ⟨e.1.f_tx, s.f_key⟩ = e.2 := by rw [h1]; exact md_mem ho.uw e1
   simp only [freeW, hme, Bool.and_eq_false_iff, Bool.not_eq_false', decide_eq_true_eq, decide_eq_false_iff_not] at hfw
   rcases hfw with h5 | h5
   ·rcases h5 with h5 | h5
    ·exact absurd h5.symm h2
    ·exact Or.inr (ho.elder (ho.wu _ hsw) (ho.wu e e1) h2 h5)
   ·rw [clash_comm] at h3; rw [h3] at h5; cases h5
  ·exact h.w e e1 k h4 h1 h2 h3
 ·obtain ⟨e1, e2⟩ := hw e he
  rw [md_mset, if_neg e2]; exact h.g e e1
 ·rcases mset_mem he with h4 | h4
  ·rw [h4]; exact h.m _ hsw
  ·exact h.n e h4
theorem stuck {us : Us} {hd wt : Ps} {n : Nat} (ho : Ok us hd wt n) (h : Wt us hd wt) {s t : Sl} (hs : s ∈ wt.map (·.1)) (hne : t ≠ s) (hf : isFree us hd wt t = false) : isFree us (mset hd s (mx (md hd s) (md wt s))) (mdel wt s) t = false := by
 obtain ⟨hv, hsw⟩ := mode_wt ho h hs
 rw [hv]
 obtain ⟨e0, he0, hes⟩ := List.mem_map.1 hs
 have hg := h.g e0 he0
 have hm0 := md_mem ho.uw he0
 rw [hes] at hg hm0
 have hgs : md hd s < md wt s := by omega
 have hms := h.m _ hsw
 have mt : md (mdel wt s) t = md wt t := by rw [md_mdel ho.uw, if_neg hne]
 have keep : ∀ x, x ∈ atL hd t.f_key → x ∈ atL (mset hd s (md wt s)) t.f_key := fun x hx => by
  obtain ⟨v, hv⟩ := atL_mem.1 hx
  have := mem_mget ho.uh hv
  have h2 : (mget (mset hd s (md wt s)) ⟨x, t.f_key⟩).isSome = true := by rw [mset_get]; split; rfl; rw [this]; rfl
  obtain ⟨v2, hv2⟩ := Option.isSome_iff_exists.1 h2
  exact atL_mem.2 ⟨v2, mget_mem hv2⟩
 have new : s.f_key = t.f_key → s.f_tx ∈ atL (mset hd s (md wt s)) t.f_key := fun hk => by
  rw [← hk]
  have h2 : mget (mset hd s (md wt s)) s = some (md wt s) := by rw [mset_get, if_pos rfl]
  exact atL_mem.2 ⟨_, mget_mem h2⟩
 have shut : ∀ x, x ∈ atL (mset hd s (md wt s)) t.f_key → freeH (mset hd s (md wt s)) (mdel wt s) t x = true → isFree us (mset hd s (md wt s)) (mdel wt s) t = false := fun x hx hc => by
  have : (atL (mset hd s (md wt s)) t.f_key).any (freeH (mset hd s (md wt s)) (mdel wt s) t) = true := List.any_eq_true.2 ⟨x, hx, hc⟩
  rw [isFree, this]; rfl
 simp only [isFree, Bool.and_eq_false_iff, Bool.not_eq_false'] at hf
 rcases hf with hf | hf
 ·obtain ⟨x, hx, hc⟩ := List.any_eq_true.1 hf
  refine shut x (keep x hx) ?_
  simp only [freeH, Bool.and_eq_true, Bool.not_eq_true', decide_eq_false_iff_not, mt] at hc ⊢
  refine ⟨hc.1, ?_⟩
  rw [md_mset]
  split
  ·rename_i he
   have : md hd ⟨x, t.f_key⟩ < md wt s := by rw [he]; exact hgs
   have hc2 := hc.2
   simp only [clash, Bool.or_eq_true, beq_iff_eq] at hc2 ⊢
   omega
  ·exact hc.2
 ·obtain ⟨x, hx, hc⟩ := List.any_eq_true.1 hf
  simp only [freeW, Bool.and_eq_true, Bool.not_eq_true', decide_eq_false_iff_not, decide_eq_true_eq] at hc
  by_cases he : (⟨x, t.f_key⟩ : Sl) = s
  ·have hk : s.f_key = t.f_key := by rw [← he]
   have hxs : s.f_tx = x := by rw [← he]
   refine shut x (hxs ▸ new hk) ?_
   simp only [freeH, Bool.and_eq_true, Bool.not_eq_true', decide_eq_false_iff_not, mt]
   refine ⟨hc.1.1, ?_⟩
   rw [md_mset, if_pos he]
   have := hc.2
   rw [he] at this
   exact this
  ·have hx2 : x ∈ atL (mdel wt s) t.f_key := by
    obtain ⟨v, hv⟩ := atL_mem.1 hx
    refine atL_mem.2 ⟨v, ?_⟩
    rw [mdel_filter ho.uw]
    exact List.mem_filter.2 ⟨hv, by simpa using he⟩
   have hW : freeW us (mdel wt s) t x = true := by
    simp only [freeW, Bool.and_eq_true, Bool.not_eq_true', decide_eq_false_iff_not, decide_eq_true_eq, mt]
    refine ⟨hc.1, ?_⟩
    rw [md_mdel ho.uw, if_neg he]; exact hc.2
   have : (atL (mdel wt s) t.f_key).any (freeW us (mdel wt s) t) = true := List.any_eq_true.2 ⟨x, hx2, hW⟩
   rw [isFree, this]; simp
theorem Wt.onFold {us : Us} {n : Nat} : ∀ (y : List Sl) (st : List TG × Ps × Ps), y.Nodup → (∀ s ∈ y, s ∈ st.2.2.map (·.1)) → Ok us st.2.1 st.2.2 n → Wt us st.2.1 st.2.2 → (∀ e ∈ st.2.2, e.1 ∉ y → isFree us st.2.1 st.2.2 e.1 = false) →
  Wt us (y.foldl (onStep us) st).2.1 (y.foldl (onStep us) st).2.2 ∧ NoFree us (y.foldl (onStep us) st).2.1 (y.foldl (onStep us) st).2.2
 | [], st, _, _, _, h, hn => ⟨h, fun e he => hn e he (by simp)⟩
 | s :: y, st, hn, hy, ho, h, hst => by
  rw [List.foldl_cons]
  obtain ⟨hn1, hn2⟩ := List.nodup_cons.1 hn
  have hs := hy s List.mem_cons_self
  unfold onStep
  split
  ·rename_i hf
   refine Wt.onFold y _ hn2 (fun t ht => mdel_keys ho.uw (fun e => hn1 (e ▸ ht)) (hy t (List.mem_cons_of_mem _ ht))) (ho.grant hs _) (Wt.grant ho h hs hf) (fun e he hey => ?_)
   dsimp only at he ⊢
   have he2 := he
   rw [mdel_filter ho.uw] at he2
   obtain ⟨e1, e2⟩ := List.mem_filter.1 he2
   have e3 : e.1 ≠ s := by simpa using e2
   exact stuck ho h hs e3 (hst e e1 (by simp only [List.mem_cons, not_or]; exact ⟨e3, hey⟩))
  ·rename_i hf
   refine Wt.onFold y _ hn2 (fun t ht => hy t (List.mem_cons_of_mem _ ht)) ho h (fun e he hey => ?_)
   by_cases h1 : e.1 = s
   ·rw [h1]; simpa using hf
   ·exact hst e he (by simp only [List.mem_cons, not_or]; exact ⟨h1, hey⟩)
theorem Wt.on {us : Us} {hd wt : Ps} {n : Nat} (ho : Ok us hd wt n) (h : Wt us hd wt) : Wt us (onR us hd wt).2.1 (onR us hd wt).2.2 ∧ NoFree us (onR us hd wt).2.1 (onR us hd wt).2.2 := by
 obtain ⟨k1, k2⟩ := on_keys us ho.uw
 refine Wt.onFold _ ([], hd, wt) k1 k2 ho h (fun e he hey => absurd ((srt_perm _ _).mem_iff.2 (List.mem_map.2 ⟨e, he, rfl⟩)) hey)
end Go.Proofs.YtddgjfclpknkcaaGreatDoor.Wk
