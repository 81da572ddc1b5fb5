import Derived.Test.YtddgjfclpknkcaaGreatDoorLkG
set_option linter.unusedVariables false
set_option linter.unusedSimpArgs false
namespace Go.Proofs.YtddgjfclpknkcaaGreatDoor.Wk
open Go Go.Cn
theorem prepared_eq (us : Us) (hd wt : Ps) (x : Tx) : lT_Prepared us hd wt x = some (prep us x) := by
 rw [lT_Prepared, lT_ok, Option.bind_some, prep]
 cases hg : mget us x with
 | none => rw [if_neg (by simp)]; rfl
 | some u => rw [if_pos (show (some u).isSome = true from rfl)]; rfl
theorem md_perm {p p' : Ps} (hu : Uk p) (hp : p.Perm p') (s : Sl) : md p' s = md p s :=
 md_sub hu (uk_perm hp hu) (fun e he => hp.mem_iff.2 he) (fun e he _ => hp.mem_iff.1 he)
theorem atL_perm {p p' : Ps} (hp : p.Perm p') (k : Ky) : (atL p k).Perm (atL p' k) := (hp.filter _).map _
theorem isFree_perm {us : Us} {hd wt hd' wt' : Ps} (hu : Uk hd) (hw : Uk wt) (h1 : hd.Perm hd') (h2 : wt.Perm wt') (s : Sl) : isFree us hd' wt' s = isFree us hd wt s := by
 have e1 : freeH hd' wt' s = freeH hd wt s := by funext x; rw [freeH, freeH, md_perm hu h1, md_perm hw h2]
 have e2 : freeW us wt' s = freeW us wt s := by funext x; rw [freeW, freeW, md_perm hw h2, md_perm hw h2]
 rw [isFree, isFree, e1, e2, any_perm (atL_perm h1 _), any_perm (atL_perm h2 _)]
theorem Bt.perm {us : Us} {hd wt hd' wt' : Ps} {n : Nat} (ho : Ok us hd wt n) (h : Bt us hd wt) (h1 : hd.Perm hd') (h2 : wt.Perm wt') : Bt us hd' wt' :=
 ⟨⟨fun e he k hk => h.w.w e (h2.mem_iff.2 he) k (h1.mem_iff.2 hk), fun e he => by rw [md_perm ho.uh h1]; exact h.w.g e (h2.mem_iff.2 he), fun e he => h.w.p e (h2.mem_iff.2 he), fun e he => h.w.m e (h2.mem_iff.2 he), fun e he => h.w.n e (h1.mem_iff.2 he)⟩,
  fun e he => by rw [isFree_perm ho.uh ho.uw h1 h2]; exact h.f e (h2.mem_iff.2 he)⟩
theorem on_keep {us : Us} {t : Sl} : ∀ (y : List Sl) (st : List TG × Ps × Ps), t ∉ y → md (y.foldl (onStep us) st).2.1 t = md st.2.1 t
 | [], _, _ => rfl
 | s :: y, st, h => by
  simp only [List.mem_cons, not_or] at h
  rw [List.foldl_cons, on_keep y _ h.2, onStep]
  split
  ·show md (mset st.2.1 s _) t = _
   rw [md_mset, if_neg h.1]
  ·rfl
theorem onR_keep {us : Us} {hd wt : Ps} {t : Sl} (h : t ∉ wt.map (·.1)) : md (onR us hd wt).2.1 t = md hd t :=
 on_keep _ ([], hd, wt) (fun hm => h ((srt_perm _ _).mem_iff.1 hm))
structure Kp (x : Tx) (l : List Ky) (us : Us) (hd : Ps) : Prop where
 p : prep us x = true
 k : ∀ k ∈ l, md hd ⟨x, k⟩ = 2
theorem no_wait {us : Us} {hd wt : Ps} (h : Wt us hd wt) {x : Tx} (hp : prep us x = true) (k : Ky) : (⟨x, k⟩ : Sl) ∉ wt.map (·.1) := fun hm => by
 obtain ⟨e, he, hes⟩ := List.mem_map.1 hm
 have := h.p e he
 have hx : e.1.f_tx = x := by rw [hes]
 rw [hx, hp] at this; cases this
theorem Kp.does {us : Us} {hd wt : Ps} {n : Nat} (ho : Ok us hd wt n) (hn : n < 250) (hb : Bt us hd wt) {x : Tx} {l : List Ky} (h : Kp x l us hd) (a : TA) (ha : ¬ (Int.tmod a.f_Kind 5 = 3 ∧ a.f_Stamp.f_Tx = x)) :
  Kp x l (doesR us hd wt a).2.2.1 (doesR us hd wt a).2.2.2.1 ∧ x ∉ (doesR us hd wt a).1.f_Wounded := by
 have hxu : (mget us x).isSome = true := by
  cases hg : mget us x with
  | some u => rfl
  | none => have := h.p; rw [prep, hg] at this; cases this
 have go : ∀ {us1 : Us} {s : Sl} {mode : Int}, Ok us1 hd wt n → Wt us1 hd wt → mget us1 x = mget us x → s.f_tx ≠ x → Kp x l (askGo us1 hd wt s mode).2.2.1 (askGo us1 hd wt s mode).2.2.2.1 ∧ x ∉ (askGo us1 hd wt s mode).1.f_Wounded := fun {us1 s mode} ho1 hw1 hgx hsx => by
  have hp1 : prep us1 x = true := by rw [prep_congr hgx]; exact h.p
  have hL : x ∉ woundL us1 hd (mset wt s (mx mode (md wt s))) s := fun hm => by
   have hc := (List.mem_filter.1 ((srt_perm _ _).mem_iff.1 hm)).2
   simp [hit, hp1] at hc
  refine ⟨⟨?_, fun k hk => ?_⟩, hL⟩
  ·have hf := fold_us (us := us1) (hd := hd) (wt := wt) ho1.uu (woundL us1 hd (mset wt s (mx mode (md wt s))) s) (st := (us1, hd, mset wt s (mx mode (md wt s)))) ho1.uu x
   rw [if_neg hL] at hf
   exact (prep_congr hf).trans hp1
  ·have hnw : (⟨x, k⟩ : Sl) ∉ (((woundL us1 hd (mset wt s (mx mode (md wt s))) s).foldl goneF (us1, hd, mset wt s (mx mode (md wt s)))).2.2).map (·.1) := fun hm => by
    obtain ⟨e, he, hes⟩ := List.mem_map.1 hm
    have h1 := ((fold_wt _).1 he).1
    rcases mset_mem h1 with h2 | h2
    ·have : e.1 = s := by rw [h2]
     rw [hes] at this
     exact hsx (by rw [← this])
    ·exact no_wait hw1 hp1 k (List.mem_map.2 ⟨e, h2, hes⟩)
   have e1 := onR_keep (us := ((woundL us1 hd (mset wt s (mx mode (md wt s))) s).foldl goneF (us1, hd, mset wt s (mx mode (md wt s)))).1) (hd := ((woundL us1 hd (mset wt s (mx mode (md wt s))) s).foldl goneF (us1, hd, mset wt s (mx mode (md wt s)))).2.1) hnw
   refine Eq.trans e1 ?_
   have hkeep : ∀ (L : List Tx) (st : Us × Ps × Ps), Uk st.2.1 → x ∉ L → md (L.foldl goneF st).2.1 ⟨x, k⟩ = md st.2.1 ⟨x, k⟩ := fun L => by
    induction L with
    | nil => intro st _ _; rfl
    | cons b L ih =>
     intro st hu hm
     simp only [List.mem_cons, not_or] at hm
     rw [List.foldl_cons, ih (goneF st b) (uk_filter hu _) hm.2]
     show md (drop st.2.1 b) ⟨x, k⟩ = _
     exact md_drop hu hm.1
   rw [hkeep _ (us1, hd, mset wt s (mx mode (md wt s))) ho.uh hL]
   exact h.k k hk
 have same : Kp x l us hd ∧ x ∉ oE.f_Wounded := ⟨h, by simp [oE]⟩
 unfold doesR
 split
 ·unfold prepR
  split
  ·exact same
  ·rename_i u hu
   split
   ·exact same
   ·rename_i hnw
    refine ⟨⟨?_, fun k hk => ?_⟩, by simp⟩
    ·show prep (mset us a.f_Stamp.f_Tx ⟨u.f_stamp, true⟩) x = true
     rw [prep, mset_get]
     split
     ·rfl
     ·exact h.p
    ·refine Eq.trans (onR_keep (no_wait hb.w h.p k)) ?_
     have h2 := h.k k hk
     rcases md_cases hd ⟨x, k⟩ with h3 | h3
     ·omega
     ·rw [h2] at h3
      have : (⟨⟨x, k⟩, 2⟩ : Sl × Int) ∈ dropR hd a.f_Stamp.f_Tx := List.mem_filter.2 ⟨h3, by simp⟩
      exact md_mem (uk_filter ho.uh _) this
 ·split
  ·rename_i h3
   unfold relR
   split
   ·exact same
   ·have hne : x ≠ a.f_Stamp.f_Tx := fun e => ha ⟨h3, e.symm⟩
    refine ⟨⟨?_, fun k hk => ?_⟩, by simp⟩
    ·show prep (mdel us a.f_Stamp.f_Tx) x = true
     rw [prep_congr (user_del ho.uu hne)]; exact h.p
    ·refine Eq.trans (onR_keep (fun hm => ?_)) ?_
     ·obtain ⟨e, he, hes⟩ := List.mem_map.1 hm
      exact no_wait hb.w h.p k (List.mem_map.2 ⟨e, (drop_mem.1 he).1, hes⟩)
     ·exact (md_drop ho.uh hne).trans (h.k k hk)
  ·split
   ·dsimp only
    refine ⟨?_, by simp [oE]⟩
    unfold restR
    split
    ·exact h
    ·split
     ·exact h
     ·split
      ·exact h
      ·rename_i hnone
       split
       ·exact h
       ·split
        ·exact h
        ·have hne : x ≠ a.f_Stamp.f_Tx := fun e => hnone (by rw [← e]; exact hxu)
         refine ⟨?_, fun k hk => ?_⟩
         ·show prep (mset us a.f_Stamp.f_Tx ⟨⟨0, a.f_Stamp.f_Tx⟩, true⟩) x = true
          rw [prep, mset_get, if_neg hne]; exact h.p
         ·refine (md_app (fun e he hes => ?_)).trans (h.k k hk)
          obtain ⟨k', _, rfl⟩ := List.mem_map.1 he
          exact hne (congrArg TL.f_tx hes).symm
   ·unfold askR
    split
    ·exact same
    ·split
     ·rename_i u hu
      split
      ·exact same
      ·rename_i hp
       split
       ·exact same
       ·refine go ho hb.w rfl (fun e => hp ?_)
        have := h.p
        have e' : a.f_Stamp.f_Tx = x := e
        rw [e'] at hu
        rw [prep, hu] at this
        exact this
     ·rename_i hu
      split
      ·exact same
      ·rename_i hl
       split
       ·exact same
       ·have hne : x ≠ a.f_Stamp.f_Tx := fun e => by rw [← e] at hu; rw [hu] at hxu; cases hxu
        have hlen := mset_len us a.f_Stamp.f_Tx ⟨a.f_Stamp, false⟩
        have hnu := ho.nu
        refine go (ho.user (x := a.f_Stamp.f_Tx) (u := ⟨a.f_Stamp, false⟩) rfl (by omega)) (hb.w.users ho (fun y hy => ?_)) ?_ (fun e => hne e.symm)
        ·rw [mset_get, if_neg (fun e => by rw [e, hu] at hy; cases hy)]
        ·rw [mset_get, if_neg hne]
theorem wound_len {us : Us} {hd wt : Ps} {n : Nat} (ho : Ok us hd wt n) (hn : n < 250) (a : TA) : (doesR us hd wt a).1.f_Wounded.length ≤ 64 := by
 have go : ∀ (us1 : Us) (s : Sl) (mode : Int), (askGo us1 hd wt s mode).1.f_Wounded.length ≤ 64 := fun us1 s mode => by
  show (srt (ka us1) ((atL hd s.f_key).filter _)).length ≤ 64
  rw [srt_len]
  exact Nat.le_trans (List.length_filter_le _ _) (ho.at64 s.f_key)
 have e0 : oE.f_Wounded.length ≤ 64 := by simp [oE]
 unfold doesR
 split
 ·unfold prepR
  split
  ·exact e0
  ·split
   ·exact e0
   ·simp
 ·split
  ·unfold relR
   split
   ·exact e0
   ·simp
  ·split
   ·exact e0
   ·unfold askR
    split
    ·exact e0
    ·split
     ·split
      ·exact e0
      ·split
       ·exact e0
       ·exact go _ _ _
     ·split
      ·exact e0
      ·split
       ·exact e0
       ·exact go _ _ _
end Go.Proofs.YtddgjfclpknkcaaGreatDoor.Wk
