import Derived.Test.YtljjdeanilgloaaGreatDoorTpD
set_option linter.unusedVariables false
set_option linter.unusedSimpArgs false
set_option linter.unusedSectionVars false
namespace Go.Proofs.YtljjdeanilgloaaGreatDoor.Wk
open Go Go.Cn
theorem gdL {α : Type} (l r : List α) (d : α) {j : Nat} (h : j < l.length) : (l ++ r).getD j d = l.getD j d := by
 rw [List.getD_eq_getElem?_getD, List.getElem?_append_left h, ← List.getD_eq_getElem?_getD]
theorem gdR {α : Type} (l : List α) (a d : α) : (l ++ [a]).getD l.length d = a := by
 rw [List.getD_eq_getElem?_getD, List.getElem?_append_right (Nat.le_refl _), Nat.sub_self]; rfl
abbrev Acts := List Bl
def kA (l : Acts) (j : Nat) : A8 Int := (l.getD j default).f_Key
def tA (l : Acts) (j : Nat) : List UInt8 := (l.getD j default).f_Text
theorem kA_l (l : Acts) (a : Bl) {j : Nat} (h : j < l.length) : kA (l ++ [a]) j = kA l j := by unfold kA; rw [gdL l [a] default h]
theorem kA_r (l : Acts) (a : Bl) : kA (l ++ [a]) l.length = a.f_Key := by unfold kA; rw [gdR]
theorem tA_l (l : Acts) (a : Bl) {j : Nat} (h : j < l.length) : tA (l ++ [a]) j = tA l j := by unfold tA; rw [gdL l [a] default h]
theorem tA_r (l : Acts) (a : Bl) : tA (l ++ [a]) l.length = a.f_Text := by unfold tA; rw [gdR]
structure Inv (i : Nat) (l : Acts) (us : Sl) (g : Option Bf) (m : Pu) : Prop where
 s : OkS us
 o : OkO g
 n : us.length ≤ i
 ln : l.length ≤ i
 h : ∀ j, j < l.length → (mget us (Bh.mk (kA l j) 2)).isSome = true
 pm : ∀ j, j < l.length → (mget m (kA l j)).isSome = true
 t : ∀ j, j < l.length → (∀ k, j < k → k < l.length → kA l k ≠ kA l j) → mget m (kA l j) = some (tA l j)
theorem inv_put {i : Nat} {l : Acts} {us us' : Sl} {g g' : Option Bf} {m : Pu} (a : Bl) (h : Inv i l us g m) (hg : Good us us' g') (hh : (mget us' (Bh.mk a.f_Key 2)).isSome = true) :
  Inv (i + 1) (l ++ [a]) us' g' (mset m a.f_Key a.f_Text) := by
 have hl := hg.l
 have h1 := h.n
 have h2 := h.ln
 refine ⟨hg.s, hg.o, by omega, by simp; omega, fun j hj => ?_, fun j hj => ?_, fun j hj hk => ?_⟩
 ·rcases Nat.lt_or_ge j l.length with hlt | hge
  ·rw [kA_l l a hlt]; exact hg.k _ (h.h j hlt)
  ·have : j = l.length := by simp at hj; omega
   subst this; rw [kA_r]; exact hh
 ·rw [mget_mset]
  split
  ·rfl
  ·rename_i hne
   rcases Nat.lt_or_ge j l.length with hlt | hge
   ·rw [kA_l l a hlt]; exact h.pm j hlt
   ·have : j = l.length := by simp at hj; omega
    subst this; exact absurd (kA_r l a) hne
 ·rcases Nat.lt_or_ge j l.length with hlt | hge
  ·have hne : kA (l ++ [a]) j ≠ a.f_Key := fun e => hk l.length hlt (by simp) (by rw [kA_r, e])
   rw [mget_mset, if_neg hne, kA_l l a hlt, tA_l l a hlt]
   refine h.t j hlt fun k hjk hkl e => ?_
   refine hk k hjk (by simp; omega) ?_
   rw [kA_l l a hkl, kA_l l a hlt, e]
  ·have : j = l.length := by simp at hj; omega
   subst this
   rw [mget_mset, if_pos (kA_r l a), tA_r]
theorem inv_keep {i : Nat} {l : Acts} {us us' : Sl} {g g' : Option Bf} {m : Pu} (h : Inv i l us g m) (hg : Good us us' g') : Inv (i + 1) l us' g' m := by
 have hl := hg.l
 have h1 := h.n
 have h2 := h.ln
 exact ⟨hg.s, hg.o, by omega, by omega, fun j hj => hg.k _ (h.h j hj), h.pm, h.t⟩
theorem value_eq (Time : Bi) (slots : Sl) (key : Bh) (Boot : A8 Bj) (puts : Pu) (confs : Co) {k : A8 Int} (h : (mget puts k).isSome = true) : AY Time slots key Boot puts confs k = some ((mget puts k).getD default, true) := by
 unfold AY AT
 simp only [Option.bind_some]
 rw [if_pos h]
section
variable (S l : Acts) (y : (Bool) × (Int) × (Bi) × (Bh) × (A8 (Bj)) × Sl × Pu × Co × (Option (Bf))) (i : Nat)
theorem l2_loop (hI : Inv i l y.2.2.2.2.2.1 y.2.2.2.2.2.2.2.2 y.2.2.2.2.2.2.1) (hl : l.length ≤ 1000) (t41 t64 : Int) (j : Nat) (hj : j < l.length) (k1 : Int → Int → Acts → Option Bool) : ∀ (d fuel t : Nat) (last : Bool), t + d = l.length - (j + 1) → d < fuel → (last = true → ∀ k, k < t → kA l (j + 1 + k) ≠ kA l j) →
  AB_l2 t41 t64 (j : Int) l S y k1 fuel last (t : Int) = k1 t64 ((j + 1 : Nat) : Int) l := by
 intro d
 induction d with
 | zero =>
  intro fuel t last h hf hc
  obtain ⟨f, rfl⟩ : ∃ f, fuel = f + 1 := ⟨fuel - 1, by omega⟩
  rw [AB_l2]
  simp only [step64 (show j < 4611686018427387904 by omega), Int.toNat_natCast]
  rw [if_neg (by rw [decide_eq_true_eq]; omega)]
  have hv := value_eq y.2.2.1 y.2.2.2.2.2.1 y.2.2.2.1 y.2.2.2.2.1 y.2.2.2.2.2.2.1 y.2.2.2.2.2.2.2.1 (hI.pm j hj)
  have hv : AY y.2.2.1 y.2.2.2.2.2.1 y.2.2.2.1 y.2.2.2.2.1 y.2.2.2.2.2.2.1 y.2.2.2.2.2.2.2.1 (l.getD j default).f_Key = _ := hv
  rw [hv]
  simp only [Option.bind_some]
  cases last with
  | false => rfl
  | true =>
   have ht := hI.t j hj fun k hjk hkl => by
    have := hc rfl (k - (j + 1)) (by omega)
    rwa [show j + 1 + (k - (j + 1)) = k by omega] at this
   have hh : AM y.2.2.1 y.2.2.2.2.2.1 y.2.2.2.1 y.2.2.2.2.1 y.2.2.2.2.2.2.1 y.2.2.2.2.2.2.2.1 (l.getD j default).f_Key = some 2 := by
    have h0 := holds_eq y.2.2.1 y.2.2.2.2.2.1 y.2.2.2.1 y.2.2.2.2.1 y.2.2.2.2.2.2.1 y.2.2.2.2.2.2.2.1 (kA l j)
    rw [hol_of (hI.h j hj)] at h0
    exact h0
   rw [hh, ht]
   have e1 : (!((some (tA l j)).getD default == (l.getD j default).f_Text)) = false := by
    show (!(tA l j == tA l j)) = false
    simp
   rw [e1]
   rfl
 | succ d ih =>
  intro fuel t last h hf hc
  obtain ⟨f, rfl⟩ : ∃ f, fuel = f + 1 := ⟨fuel - 1, by omega⟩
  rw [AB_l2]
  simp only [step64 (show j < 4611686018427387904 by omega), step64 (show t < 4611686018427387904 by omega), Int.toNat_natCast]
  rw [if_pos (decide_eq_true (by omega)), if_pos (by omega)]
  cases last with
  | false =>
   rw [if_neg (by decide)]
   exact ih f (t + 1) false (by omega) (by omega) (fun h => by cases h)
  | true =>
   rw [if_pos rfl]
   refine ih f (t + 1) _ (by omega) (by omega) fun hl k hk => ?_
   rcases Nat.lt_or_ge k t with hlt | hge
   ·exact hc rfl k hlt
   ·have : k = t := by omega
    subst this
    have hl : (!decide ((l.getD (j + 1 + k) default).f_Key = (l.getD j default).f_Key)) = true := hl
    intro e
    have e : (l.getD (j + 1 + k) default).f_Key = (l.getD j default).f_Key := e
    rw [decide_eq_true e] at hl
    cases hl
theorem l2_0 (hI : Inv i l y.2.2.2.2.2.1 y.2.2.2.2.2.2.2.2 y.2.2.2.2.2.2.1) (hl : l.length ≤ 1000) (t41 t64 : Int) (j : Nat) (hj : j < l.length) (k1 : Int → Int → Acts → Option Bool) (fuel : Nat) (hf : 1000 < fuel) :
  AB_l2 t41 t64 (j : Int) l S y k1 fuel true 0 = k1 t64 ((j + 1 : Nat) : Int) l :=
 l2_loop S l y i hI hl t41 t64 j hj k1 (l.length - (j + 1)) fuel 0 true (by omega) (by omega) (fun _ k hk => by omega)
theorem l1_loop (hI : Inv i l y.2.2.2.2.2.1 y.2.2.2.2.2.2.2.2 y.2.2.2.2.2.2.1) (hl : l.length ≤ 1000) (n : Nat) (hn : n < 1000) (k0 : (Int) → (Bi) → (Bh) → (A8 (Bj)) → Acts → Sl → (Option (Bf)) → Pu → Co → Option Bool) : ∀ (d fuel j : Nat), j + d = l.length → d < fuel →
  AB_l1 (n : Int) S y k0 fuel ((l.length : Nat) : Int) (j : Int) l = k0 ((n + 1 : Nat) : Int) y.2.2.1 y.2.2.2.1 y.2.2.2.2.1 l y.2.2.2.2.2.1 y.2.2.2.2.2.2.2.2 y.2.2.2.2.2.2.1 y.2.2.2.2.2.2.2.1 := by
 intro d
 induction d with
 | zero =>
  intro fuel j h hf
  obtain ⟨f, rfl⟩ : ∃ f, fuel = f + 1 := ⟨fuel - 1, by omega⟩
  rw [AB_l1, if_neg (by rw [decide_eq_true_eq]; omega), step64 (by omega)]
 | succ d ih =>
  intro fuel j h hf
  obtain ⟨f, rfl⟩ : ∃ f, fuel = f + 1 := ⟨fuel - 1, by omega⟩
  rw [AB_l1, if_pos (decide_eq_true (by omega)), if_pos (by omega)]
  rw [step64 (show j < 4611686018427387904 by omega), if_pos (by omega)]
  rw [l2_0 S l y i hI hl (n : Int) ((l.length : Nat) : Int) j (by omega) _ big (big_lt (by omega))]
  exact ih f (j + 1) (by omega) (by omega)
theorem l1_0 (hI : Inv i l y.2.2.2.2.2.1 y.2.2.2.2.2.2.2.2 y.2.2.2.2.2.2.1) (hl : l.length ≤ 1000) (n : Nat) (hn : n < 1000) (k0 : (Int) → (Bi) → (Bh) → (A8 (Bj)) → Acts → Sl → (Option (Bf)) → Pu → Co → Option Bool) (fuel : Nat) (hf : 1000 < fuel) :
  AB_l1 (n : Int) S y k0 fuel ((l.length : Nat) : Int) 0 l = k0 ((n + 1 : Nat) : Int) y.2.2.1 y.2.2.2.1 y.2.2.2.2.1 l y.2.2.2.2.2.1 y.2.2.2.2.2.2.2.2 y.2.2.2.2.2.2.1 y.2.2.2.2.2.2.2.1 :=
 l1_loop S l y i hI hl n hn k0 l.length fuel 0 (by omega) (by omega)
end
theorem l0_loop (S : Acts) (hS : S.length ≤ 60) (hw : ∀ a ∈ S, WfA a) : ∀ (d fuel i : Nat) (Time : Bi) (key : Bh) (Boot : A8 Bj) (l : Acts) (us : Sl) (g : Option Bf) (m : Pu) (m2 : Co), i + d = S.length → d < fuel → Inv i l us g m →
  AB_l0 S fuel (i : Int) Time key Boot l us g m m2 = some true := by
 intro d
 induction d with
 | zero =>
  intro fuel i Time key Boot l us g m m2 h hf hI
  obtain ⟨f, rfl⟩ : ∃ f, fuel = f + 1 := ⟨fuel - 1, by omega⟩
  rw [AB_l0, if_neg (by rw [decide_eq_true_eq]; omega), alive_eq]
  rfl
 | succ d ih =>
  intro fuel i Time key Boot l us g m m2 h hf hI
  obtain ⟨f, rfl⟩ : ∃ f, fuel = f + 1 := ⟨fuel - 1, by omega⟩
  have h1 := hI.n
  have h2 := hI.ln
  rw [AB_l0, if_pos (decide_eq_true (by omega)), if_pos (by omega)]
  have ha : WfA (S.getD ((i : Int)).toNat default) := by
   refine hw _ ?_
   rw [Int.toNat_natCast, List.getD_eq_getElem?_getD, List.getElem?_eq_getElem (by omega)]
   exact List.getElem_mem _
  generalize S.getD ((i : Int)).toNat default = a at ha ⊢
  obtain ⟨y, hy, hA⟩ := does_some Time us key g Boot m m2 hI.s hI.o (by omega) ha
  rw [hy]
  simp only [Option.bind_some]
  have keep : y.2.2.2.2.2.2.1 = m → AB_l1 (i : Int) S y (AB_l0 S f) big ((l.length : Nat) : Int) 0 l = some true := by
   intro e
   have hJ : Inv (i + 1) l y.2.2.2.2.2.1 y.2.2.2.2.2.2.2.2 y.2.2.2.2.2.2.1 := by rw [e]; exact inv_keep hI hA.g
   rw [l1_0 S l y (i + 1) hJ (by omega) i (by omega) _ big (big_lt (by omega))]
   exact ih f (i + 1) _ _ _ _ _ _ _ _ (by omega) (by omega) hJ
  rcases hA.p with ⟨hk, h0, hp, hh⟩ | ⟨hn, hp⟩
  ·rw [if_pos (by simpa using hk), if_pos (by simpa using h0), if_pos (by simp; omega)]
   have hJ : Inv (i + 1) (l ++ [a]) y.2.2.2.2.2.1 y.2.2.2.2.2.2.2.2 y.2.2.2.2.2.2.1 := by rw [hp]; exact inv_put a hI hA.g hh
   rw [l1_0 S (l ++ [a]) y (i + 1) hJ (by simp; omega) i (by omega) _ big (big_lt (by omega))]
   exact ih f (i + 1) _ _ _ _ _ _ _ _ (by omega) (by omega) hJ
  ·by_cases hk : Int.tmod a.f_Kind 6 = 3
   ·rw [if_pos (by simpa using hk), if_neg (by simpa using fun h0 => hn ⟨hk, h0⟩)]
    exact keep hp
   ·rw [if_neg (by simpa using hk)]
    exact keep hp
theorem l0_0 (S : Acts) (hS : S.length ≤ 60) (hw : ∀ a ∈ S, WfA a) (Time : Bi) (key : Bh) (Boot : A8 Bj) (m2 : Co) (fuel : Nat) (hf : 60 < fuel) :
  AB_l0 S fuel 0 Time key Boot [] [] none [] m2 = some true :=
 l0_loop S hS hw S.length fuel 0 Time key Boot [] [] none [] m2 (by omega) (by omega)
  ⟨(fun s g h => by cases h), okO_none, (by simp), (by simp), (fun j hj => by simp at hj), (fun j hj => by simp at hj), (fun j hj => by simp at hj)⟩
theorem far_loop (S : Acts) (hS : S.length ≤ 60) : ∀ (d fuel i : Nat) (x : Int), i + d = S.length → d < fuel → ∃ b, Ae_l0 S fuel x (i : Int) = some b := by
 intro d
 induction d with
 | zero =>
  intro fuel i x h hf
  obtain ⟨f, rfl⟩ : ∃ f, fuel = f + 1 := ⟨fuel - 1, by omega⟩
  rw [Ae_l0, if_neg (by rw [decide_eq_true_eq]; omega)]
  exact ⟨_, rfl⟩
 | succ d ih =>
  intro fuel i x h hf
  obtain ⟨f, rfl⟩ : ∃ f, fuel = f + 1 := ⟨fuel - 1, by omega⟩
  rw [Ae_l0, if_pos (decide_eq_true (by omega)), if_pos (by omega), step64 (by omega)]
  exact ih f (i + 1) _ (by omega) (by omega)
theorem far0 (S : Acts) (hS : S.length ≤ 60) (fuel : Nat) (hf : 60 < fuel) : ∃ b, Ae_l0 S fuel 0 0 = some b :=
 far_loop S hS S.length fuel 0 0 (by omega) (by omega)
theorem short_eq (l : Acts) : ∃ S, Az l = some S ∧ S.length ≤ 60 ∧ ∀ a ∈ S, a ∈ l := by
 unfold Az
 by_cases h : (60 : Int) < ((l).length : Int)
 ·simp only [h, if_true]
  rw [if_pos (by omega)]
  exact ⟨_, rfl, by rw [List.length_take]; exact Nat.min_le_left _ _, fun a ha => List.mem_of_mem_take ha⟩
 ·simp only [h, if_false]
  rw [if_pos (by omega)]
  exact ⟨_, rfl, by rw [List.length_take]; omega, fun a ha => List.mem_of_mem_take ha⟩
noncomputable def zN := (BL (Bi.mk 0 (Br.mk 0 1 1))).getD default
theorem zN_eq : BL (Bi.mk 0 (Br.mk 0 1 1)) = some zN := by kernel_rfl
theorem zN_f : zN.1 = false := by kernel_rfl
theorem zN_s : zN.2.2.2.2.2.1 = [] := by kernel_rfl
theorem zN_g : zN.2.2.2.2.2.2.1 = none := by kernel_rfl
theorem zN_p : zN.2.2.2.2.2.2.2.1 = [] := by kernel_rfl
theorem wfA {a : Bl} (h : wfL (c_Bl a)) : WfA a := by
 refine ⟨wfK_of _ fun x hx => h x ?_, (wf_u8 (h (.int .u8 a.f_Got.f_Node) ?_)).1⟩
 ·simp only [kc, List.mem_cons, List.not_mem_nil, or_false] at hx
  unfold c_Bl
  simp only [List.mem_cons]
  exact .inr (by rcases hx with h | h | h | h | h | h | h | h <;> simp only [h, true_or, or_true])
 ·unfold c_Bl
  simp only [List.mem_cons, true_or, or_true]
theorem puts_law (script : List Bl) (h : (∀ a ∈ script, wfL (c_Bl a)) ∧ script.length * 120 ≤ 140737488351232) : AB script = some true := by
 obtain ⟨S, hs, h60, hm⟩ := short_eq script
 have hw : ∀ a ∈ S, WfA a := fun a ha => wfA (h.1 a (hm a ha))
 unfold AB
 rw [zN_eq]
 simp only [Option.bind_some]
 rw [zN_f, if_neg (by decide)]
 have hf : ∃ b, Ae script = some b := by
  unfold Ae
  rw [hs]
  exact far0 S h60 big (big_lt (by omega))
 obtain ⟨b, hb⟩ := hf
 rw [hb]
 simp only [Option.bind_some]
 split
 ·unfold AB_c3
  rw [alive_eq]; rfl
 ·unfold AB_c4
  rw [hs, zN_s, zN_g, zN_p]
  exact l0_0 S h60 hw _ _ _ _ big (big_lt (by omega))
end Go.Proofs.YtljjdeanilgloaaGreatDoor.Wk
