import Derived.Test.YtddgjfclpknkcaaGreatDoorLkF
import Derived.Test.YtddgjfclpknkcaaGreatDoorLkS
set_option linter.unusedVariables false
set_option linter.unusedSimpArgs false
namespace Go.Proofs.YtddgjfclpknkcaaGreatDoor.Wk
open Go Go.Cn
theorem fold_us {us : Us} {hd wt : Ps} (hu : Uk us) : ∀ (l : List Tx) {st : Us × Ps × Ps}, Uk st.1 → ∀ y, mget (l.foldl goneF st).1 y = if y ∈ l then none else mget st.1 y
 | [], st, _, y => by simp
 | a :: l, st, h, y => by
  rw [List.foldl_cons, fold_us (us := us) (hd := hd) (wt := wt) hu l (st := goneF st a) (mdel_uk h a)]
  show (if y ∈ l then none else mget (mdel st.1 a) y) = _
  rw [mdel_get h]
  by_cases h1 : y ∈ l
  ·simp [h1]
  ·by_cases h2 : y = a <;> simp [h1, h2]
theorem fold_hd : ∀ (l : List Tx) {st : Us × Ps × Ps} {e : Sl × Int}, e ∈ (l.foldl goneF st).2.1 ↔ e ∈ st.2.1 ∧ e.1.f_tx ∉ l
 | [], st, e => by simp
 | a :: l, st, e => by
  rw [List.foldl_cons, fold_hd l (st := goneF st a)]
  show e ∈ drop st.2.1 a ∧ _ ↔ _
  rw [drop_mem]
  simp only [List.mem_cons, not_or]
  constructor
  ·rintro ⟨⟨h1, h2⟩, h3⟩; exact ⟨h1, h2, h3⟩
  ·rintro ⟨h1, h2, h3⟩; exact ⟨⟨h1, h2⟩, h3⟩
theorem fold_wt : ∀ (l : List Tx) {st : Us × Ps × Ps} {e : Sl × Int}, e ∈ (l.foldl goneF st).2.2 ↔ e ∈ st.2.2 ∧ e.1.f_tx ∉ l
 | [], st, e => by simp
 | a :: l, st, e => by
  rw [List.foldl_cons, fold_wt l (st := goneF st a)]
  show e ∈ drop st.2.2 a ∧ _ ↔ _
  rw [drop_mem]
  simp only [List.mem_cons, not_or]
  constructor
  ·rintro ⟨⟨h1, h2⟩, h3⟩; exact ⟨h1, h2, h3⟩
  ·rintro ⟨h1, h2, h3⟩; exact ⟨⟨h1, h2⟩, h3⟩
theorem md_sub {p p' : Ps} (hu : Uk p) (hu' : Uk p') (h : ∀ e, e ∈ p' → e ∈ p) {s : Sl} (hk : ∀ e ∈ p, e.1 = s → e ∈ p') : md p' s = md p s := by
 cases hg : mget p s with
 | some v =>
  have h1 := hk (s, v) (mget_mem hg) rfl
  rw [md, md, hg, mem_mget hu' h1]
 | none =>
  cases hg' : mget p' s with
  | none => rw [md, md, hg, hg']
  | some v =>
   have := mem_mget hu (h _ (mget_mem hg'))
   rw [hg] at this; cases this
theorem Wt.wound {us : Us} {hd wt : Ps} {n : Nat} (ho : Ok us hd wt n) (hn : n < 250) (h : Wt us hd wt) {s : Sl} (hs : (mget us s.f_tx).isSome = true) (hp : prep us s.f_tx = false) {v : Int} (hv : v = 1 ∨ v = 2) (hg : md hd s < v) :
  let st := (woundL us hd (mset wt s v) s).foldl goneF (us, hd, mset wt s v)
  Ok st.1 st.2.1 st.2.2 (n + 1) ∧ Wt st.1 st.2.1 st.2.2 := by
 have ho1 := ho.wait hs v hn
 have ho2 := Ok.fold (woundL us hd (mset wt s v) s) (st := (us, hd, mset wt s v)) ho1
 intro st
 refine ⟨ho2, ?_⟩
 have hus : ∀ y, y ∉ woundL us hd (mset wt s v) s → mget st.1 y = mget us y := fun y hy => by
  have := fold_us (us := us) (hd := hd) (wt := wt) ho.uu (woundL us hd (mset wt s v) s) (st := (us, hd, mset wt s v)) ho.uu y
  rw [if_neg hy] at this; exact this
 have hh : ∀ e, e ∈ st.2.1 ↔ e ∈ hd ∧ e.1.f_tx ∉ woundL us hd (mset wt s v) s := fun e => fold_hd _
 have hw : ∀ e, e ∈ st.2.2 ↔ e ∈ mset wt s v ∧ e.1.f_tx ∉ woundL us hd (mset wt s v) s := fun e => fold_wt _
 have hsv : (s, v) ∈ mset wt s v := mget_mem (by rw [mset_get, if_pos rfl])
 have hwt1 : ∀ e ∈ mset wt s v, (e.1 = s ∧ e.2 = v) ∨ (e.1 ≠ s ∧ e ∈ wt) := fun e he => by
  by_cases h1 : e.1 = s
  ·have := uk_get ho1.uw he hsv h1
   exact Or.inl ⟨h1, by rw [this]⟩
  ·rcases mset_mem he with h2 | h2
   ·rw [h2] at h1; exact absurd rfl h1
   ·exact Or.inr ⟨h1, h2⟩
 have mdk : ∀ e : Sl × Int, e.1.f_tx ∉ woundL us hd (mset wt s v) s → ∀ {x : Int}, md hd e.1 < x → md st.2.1 e.1 < x := fun e he x hx => by
  rw [md_sub (p := hd) (p' := st.2.1) ho.uh ho2.uh (fun e he => ((hh e).1 he).1) (fun k hk hke => (hh k).2 ⟨hk, by rw [hke]; exact he⟩)]
  exact hx
 refine ⟨fun e he k hk h1 h2 h3 => ?_, fun e he => ?_, fun e he => ?_, fun e he => ?_, fun e he => h.n e ((hh e).1 he).1⟩
 ·obtain ⟨e1, e2⟩ := (hw e).1 he
  obtain ⟨k1, k2⟩ := (hh k).1 hk
  have a := hus _ k2
  have b := hus _ e2
  rcases hwt1 e e1 with ⟨h4, h5⟩ | ⟨h4, h5⟩
  ·rw [h4] at h1 h2 b ⊢
   rw [h5] at h3
   have hkx : k.1.f_tx ∈ atL hd s.f_key := by rw [← h1]; exact atL_has ho.uh k1
   have hnot : hit us hd (mset wt s v) s k.1.f_tx = false := by
    rw [Bool.eq_false_iff]
    intro hc
    refine k2 ((srt_perm _ _).mem_iff.2 (List.mem_filter.2 ⟨hkx, hc⟩))
   have hm1 : md (mset wt s v) s = v := by rw [md_mset, if_pos rfl]
   have hm2 : md hd ⟨k.1.f_tx, s.f_key⟩ = k.2 := by rw [← h1]; exact md_mem ho.uh k1
   simp only [hit, hm1, hm2, h3, Bool.and_true, Bool.and_eq_false_iff, Bool.not_eq_false', decide_eq_true_eq, decide_eq_false_iff_not] at hnot
   rcases hnot with h6 | h6 | h6
   ·exact absurd h6 h2
   ·exact Or.inl (by rw [prep_congr a]; exact h6)
   ·have := ho.elder (ho.hu k k1) hs h2 h6
    exact Or.inr (by rw [elder, cfA_congr a b]; exact this)
  ·rcases h.w e h5 k k1 h1 h2 h3 with h6 | h6
   ·exact Or.inl (by rw [prep_congr a]; exact h6)
   ·exact Or.inr (by rw [elder, cfA_congr a b]; exact h6)
 ·obtain ⟨e1, e2⟩ := (hw e).1 he
  rcases hwt1 e e1 with ⟨h4, h5⟩ | ⟨h4, h5⟩
  ·exact mdk e e2 (by rw [h4, h5]; exact hg)
  ·exact mdk e e2 (h.g e h5)
 ·obtain ⟨e1, e2⟩ := (hw e).1 he
  rw [prep_congr (hus _ e2)]
  rcases hwt1 e e1 with ⟨h4, h5⟩ | ⟨h4, h5⟩
  ·rw [h4]; exact hp
  ·exact h.p e h5
 ·obtain ⟨e1, e2⟩ := (hw e).1 he
  rcases hwt1 e e1 with ⟨h4, h5⟩ | ⟨h4, h5⟩
  ·rw [h5]; exact hv
  ·exact h.m e h5
structure Bt (us : Us) (hd wt : Ps) : Prop where
 w : Wt us hd wt
 f : NoFree us hd wt
theorem Wt.users {us us' : Us} {hd wt : Ps} {n : Nat} (ho : Ok us hd wt n) (h : Wt us hd wt) (hc : ∀ y, (mget us y).isSome = true → mget us' y = mget us y) : Wt us' hd wt :=
 ⟨fun e he k hk h1 h2 h3 => by
  have a := hc _ (ho.hu k hk)
  have b := hc _ (ho.wu e he)
  rcases h.w e he k hk h1 h2 h3 with h4 | h4
  ·exact Or.inl (by rw [prep_congr a]; exact h4)
  ·exact Or.inr (by rw [elder, cfA_congr a b]; exact h4), h.g, fun e he => by rw [prep_congr (hc _ (ho.wu e he))]; exact h.p e he, h.m, h.n⟩
theorem Bt.go {us : Us} {hd wt : Ps} {n : Nat} (ho : Ok us hd wt n) (hn : n < 250) (h : Wt us hd wt) {s : Sl} (hs : (mget us s.f_tx).isSome = true) (hp : prep us s.f_tx = false) {mode : Int} (hm : mode = 1 ∨ mode = 2) (hg : ¬ mode ≤ md hd s) :
  Bt (askGo us hd wt s mode).2.2.1 (askGo us hd wt s mode).2.2.2.1 (askGo us hd wt s mode).2.2.2.2 := by
 have hmw : md wt s = 0 ∨ md wt s = 1 ∨ md wt s = 2 := by
  rcases md_cases wt s with h1 | h1
  ·exact Or.inl h1
  ·exact Or.inr (h.m _ h1)
 have hv : mx mode (md wt s) = 1 ∨ mx mode (md wt s) = 2 := by rw [mx]; split <;> omega
 have hv2 : md hd s < mx mode (md wt s) := by rw [mx]; split <;> omega
 obtain ⟨o2, w2⟩ := Wt.wound ho hn h hs hp hv hv2
 obtain ⟨w3, f3⟩ := Wt.on o2 w2
 exact ⟨w3, f3⟩
theorem Bt.ask {us : Us} {hd wt : Ps} {n : Nat} (ho : Ok us hd wt n) (hn : n < 250) (h : Bt us hd wt) (s : TS) (k : Ky) (mode : Int) : Bt (askR us hd wt s k mode).2.2.1 (askR us hd wt s k mode).2.2.2.1 (askR us hd wt s k mode).2.2.2.2 := by
 unfold askR
 split
 ·exact h
 ·rename_i h1
  have hm : mode = 1 ∨ mode = 2 := by
   by_cases hc : mode = 1 ∨ mode = 2
   ·exact hc
   ·exact absurd (Or.inr (Or.inr ⟨fun e => hc (Or.inl e), fun e => hc (Or.inr e)⟩)) h1
  split
  ·rename_i u hu
   split
   ·exact h
   ·rename_i hp
    split
    ·exact h
    ·rename_i hg
     exact Bt.go ho hn h.w (s := ⟨s.f_Tx, k⟩) (by simp [hu]) (by simpa [prep, hu] using hp) hm hg
  ·rename_i hu
   split
   ·exact h
   ·rename_i hl
    split
    ·exact h
    ·rename_i hg
     have hlen := mset_len us s.f_Tx ⟨s, false⟩
     have hnu := ho.nu
     have hw : Wt (mset us s.f_Tx ⟨s, false⟩) hd wt := h.w.users ho (fun y hy => by
      rw [mset_get, if_neg (fun e => by rw [e, hu] at hy; cases hy)])
     exact Bt.go (ho.user (x := s.f_Tx) (u := ⟨s, false⟩) rfl (by omega)) hn hw (s := ⟨s.f_Tx, k⟩) (by simp [mset_get]) (by simp [prep, mset_get]) hm hg
theorem Bt.prep {us : Us} {hd wt : Ps} {n : Nat} (ho : Ok us hd wt n) (h : Bt us hd wt) (x : Tx) : Bt (prepR us hd wt x).2.2.1 (prepR us hd wt x).2.2.2.1 (prepR us hd wt x).2.2.2.2 := by
 unfold prepR
 split
 ·exact h
 ·rename_i u hu
  split
  ·exact h
  ·rename_i hnw
   have hs : (mget us x).isSome = true := by simp [hu]
   have ho1 := (ho.user (x := x) (u := ⟨u.f_stamp, true⟩) (ho.su _ (mget_mem hu)) (by rw [mset_len_same _ hs]; exact ho.nu)).filt (fun e => !(decide (e.1.f_tx = x) && e.2 == 1))
   have hnx : ∀ e ∈ wt, e.1.f_tx ≠ x := fun e he hx => hnw (List.any_eq_true.2 ⟨e, he, by simpa using hx⟩)
   have hso : ∀ y, ka (mset us x ⟨u.f_stamp, true⟩) y = ka us y := fun y => by
    rw [ka, ka, so, so, mset_get]
    split
    ·rename_i e; rw [e, hu]; rfl
    ·rfl
   have hcf : ∀ y z, cfA (mset us x ⟨u.f_stamp, true⟩) y z = cfA us y z := fun y z => by rw [cfA, cfA, hso, hso]
   have hpr : ∀ y, Wk.prep (mset us x ⟨u.f_stamp, true⟩) y = if y = x then true else Wk.prep us y := fun y => by
    rw [Wk.prep, mset_get]
    split
    ·rfl
    ·rfl
   have hw0 : Wt us (dropR hd x) wt := h.w.filt ho _
   have hw : Wt (mset us x ⟨u.f_stamp, true⟩) (dropR hd x) wt := by
    refine ⟨fun e he k hk h1 h2 h3 => ?_, hw0.g, fun e he => ?_, hw0.m, hw0.n⟩
    ·rcases hw0.w e he k hk h1 h2 h3 with h4 | h4
     ·left; rw [hpr]; split
      ·rfl
      ·exact h4
     ·right; rw [elder, hcf]; exact h4
    ·rw [hpr, if_neg (hnx e he)]; exact hw0.p e he
   obtain ⟨w3, f3⟩ := Wt.on ho1 hw
   exact ⟨w3, f3⟩
theorem Bt.rel {us : Us} {hd wt : Ps} {n : Nat} (ho : Ok us hd wt n) (h : Bt us hd wt) (x : Tx) : Bt (relR us hd wt x).2.2.1 (relR us hd wt x).2.2.2.1 (relR us hd wt x).2.2.2.2 := by
 unfold relR
 split
 ·exact h
 ·obtain ⟨w3, f3⟩ := Wt.on (ho.gone x) (h.w.gone ho x)
  exact ⟨w3, f3⟩
theorem md_app {p q : Ps} {s : Sl} (h : ∀ e ∈ q, e.1 ≠ s) : md (p ++ q) s = md p s := by
 have : ∀ p : Ps, mget (p ++ q) s = mget p s := fun p => by
  induction p with
  | nil =>
   cases hg : mget q s with
   | none => rw [List.nil_append, hg]; rfl
   | some v => exact absurd rfl (h _ (mget_mem hg))
  | cons a p ih => simp only [List.cons_append, mget, ih]
 rw [md, md, this]
theorem Bt.rest {us : Us} {hd wt : Ps} {n : Nat} (ho : Ok us hd wt n) (hn : n < 250) (h : Bt us hd wt) (x : Tx) (ks : List Ky) (hz : ks.length ≤ 30) : Bt (restR us hd x ks).2.1 (restR us hd x ks).2.2 wt := by
 obtain ⟨_, ho2⟩ := rest_eq ho hn x ks hz
 unfold restR at ho2 ⊢
 split
 ·exact h
 ·split
  ·exact h
  ·split
   ·exact h
   ·rename_i h3
    split
    ·exact h
    ·split
     ·exact h
     ·rename_i c1 c2 c4 c5
      rw [if_neg c1, if_neg c2, if_neg h3, if_neg c4, if_neg c5] at ho2
      dsimp only at ho2 ⊢
      have hnone : mget us x = none := by simpa using h3
      have hc : ∀ y, (mget us y).isSome = true → mget (mset us x ⟨⟨0, x⟩, true⟩) y = mget us y := fun y hy => by
       rw [mset_get, if_neg (fun e => by rw [e, hnone] at hy; cases hy)]
      have hw := h.w.users ho hc
      have hnx : ∀ e ∈ wt, e.1.f_tx ≠ x := fun e he hx => by
       have := ho.wu e he
       rw [hx, hnone] at this; cases this
      have hmd : ∀ s : Sl, s.f_tx ≠ x → md (hd ++ ks.map (plc x)) s = md hd s := fun s hs => md_app (fun e he hes => by
       obtain ⟨k, _, rfl⟩ := List.mem_map.1 he
       exact hs (by rw [← hes]; rfl))
      refine ⟨⟨fun e he k hk h1 h2 h3 => ?_, fun e he => ?_, hw.p, hw.m, fun e he => ?_⟩, fun e he => ?_⟩
      ·rcases List.mem_append.1 hk with hk | hk
       ·exact hw.w e he k hk h1 h2 h3
       ·obtain ⟨k', _, rfl⟩ := List.mem_map.1 hk
        left
        show Wk.prep (mset us x _) x = true
        rw [Wk.prep, mset_get, if_pos rfl]; rfl
      ·rw [hmd _ (hnx e he)]; exact hw.g e he
      ·rcases List.mem_append.1 he with he | he
       ·exact hw.n e he
       ·obtain ⟨k', _, rfl⟩ := List.mem_map.1 he
        exact Or.inr rfl
      ·have hf := h.f e he
       simp only [isFree, Bool.and_eq_false_iff, Bool.not_eq_false'] at hf ⊢
       rcases hf with hf | hf
       ·left
        obtain ⟨y, hy, hcl⟩ := List.any_eq_true.1 hf
        obtain ⟨v, hyv⟩ := atL_mem.1 hy
        have hyx : y ≠ x := fun e2 => by
         have := ho.hu _ hyv
         rw [e2] at this
         have h9 : mget us x = none := hnone
         rw [h9] at this; cases this
        refine List.any_eq_true.2 ⟨y, atL_mem.2 ⟨v, List.mem_append_left _ hyv⟩, ?_⟩
        rw [freeH] at hcl ⊢
        rw [hmd ⟨y, e.1.f_key⟩ hyx]; exact hcl
       ·right
        obtain ⟨y, hy, hcl⟩ := List.any_eq_true.1 hf
        obtain ⟨v, hyv⟩ := atL_mem.1 hy
        refine List.any_eq_true.2 ⟨y, hy, ?_⟩
        rw [freeW] at hcl ⊢
        rw [cfA_congr (hc _ (ho.wu _ hyv)) (hc _ (ho.wu e he))]; exact hcl
theorem Bt.does {us : Us} {hd wt : Ps} {n : Nat} (ho : Ok us hd wt n) (hn : n < 250) (h : Bt us hd wt) (a : TA) (hz : a.f_Keys.length ≤ 30) : Bt (doesR us hd wt a).2.2.1 (doesR us hd wt a).2.2.2.1 (doesR us hd wt a).2.2.2.2 := by
 unfold doesR
 split
 ·exact h.prep ho _
 ·split
  ·exact h.rel ho _
  ·split
   ·exact h.rest ho hn _ _ hz
   ·exact h.ask ho hn _ _ _
theorem bt_new : Bt [] [] [] := ⟨⟨by simp, by simp, by simp, by simp, by simp⟩, fun e he => by cases he⟩
end Go.Proofs.YtddgjfclpknkcaaGreatDoor.Wk
