import Derived.Test.YtljjdeanilgloaaGreatDoorTpG
set_option linter.unusedVariables false
set_option linter.unusedSimpArgs false
set_option linter.unusedSectionVars false
namespace Go.Proofs.YtljjdeanilgloaaGreatDoor.Wk
open Go Go.Cn
abbrev Sl := List (Bh × Bf)
abbrev Pu := List (A8 (Int) × List UInt8)
abbrev Co := List (A8 (Int) × Bg)
def OkS (sl : Sl) : Prop := ∀ s g, mget sl s = some g → OkG g
def OkO (g : Option Bf) : Prop := ∀ x, g = some x → OkG x
theorem OkS.set {sl : Sl} (h : OkS sl) (s : Bh) {g : Bf} (hg : OkG g) : OkS (mset sl s g) := by
 intro t x hx
 rw [mget_mset] at hx
 split at hx
 ·cases hx; exact hg
 ·exact h t x hx
def Keeps (a b : Sl) : Prop := ∀ s, (mget a s).isSome = true → (mget b s).isSome = true
theorem Keeps.refl (a : Sl) : Keeps a a := fun _ h => h
theorem Keeps.set (a : Sl) (s : Bh) (g : Bf) : Keeps a (mset a s g) := by
 intro t h
 rw [mget_mset]
 split
 ·rfl
 ·exact h
section
variable (Time : Bi) (slots : Sl) (key : Bh) (gather : Option Bf) (Boot : A8 (Bj)) (puts : Pu) (confs : Co)
def hol (sl : Sl) (k : A8 Int) : Int := if (mget sl (Bh.mk k 2)).isSome = true then 2 else if (mget sl (Bh.mk k 1)).isSome = true then 1 else 0
theorem holds_eq (k : A8 Int) : AM Time slots key Boot puts confs k = some (hol slots k) := by
 unfold AM AT hol
 simp only [Option.bind_some]
 obtain ⟨n, hn⟩ := bigN 3 (by omega)
 rw [hn]
 have e1 : IntKind.wrap .u8 (2 - 1) = 1 := rfl
 have e2 : IntKind.wrap .u8 (1 - 1) = 0 := rfl
 rw [AM_l0, if_pos (by decide)]
 split
 ·rfl
 ·rw [e1, AM_l0, if_pos (by decide)]
  split
  ·rfl
  ·rw [e2, AM_l0, if_neg (by decide)]
theorem writes_eq (k : A8 Int) : Ai Time slots key Boot puts confs k = some (if hol slots k != 2 then 11 else 0) := by
 unfold Ai
 rw [holds_eq]
 unfold AT
 simp only [Option.bind_some]
 split <;> rfl
theorem hol2 {sl : Sl} {k : A8 Int} (h : hol sl k = 2) : (mget sl (Bh.mk k 2)).isSome = true := by
 unfold hol at h
 by_cases h1 : (mget sl (Bh.mk k 2)).isSome = true
 ·exact h1
 ·rw [if_neg h1] at h
  split at h <;> cases h
theorem hol_of {sl : Sl} {k : A8 Int} (h : (mget sl (Bh.mk k 2)).isSome = true) : hol sl k = 2 := by unfold hol; rw [if_pos h]
theorem held_eq {k : A8 Int} (h : hol slots k = 2) : ∃ g, mget slots (Bh.mk k 2) = some g ∧ Ad Time slots key Boot puts confs k = some (true, (Bh.mk k 2, g.f_mode, g.f_conf, g.f_more, g.f_grants, g.f_nodes), default) := by
 have h1 := hol2 h
 obtain ⟨g, hg⟩ := Option.isSome_iff_exists.1 h1
 refine ⟨g, hg, ?_⟩
 unfold Ad
 rw [holds_eq, h]
 unfold AT
 simp only [Option.bind_some]
 rw [hg]
 rfl
theorem item_some (hS : OkS slots) {k : A8 Int} (h : hol slots k = 2) : ∃ y, BQ Time slots key Boot puts confs k = some y := by
 obtain ⟨g, hg, he⟩ := held_eq Time slots key Boot puts confs h
 obtain ⟨y, hy⟩ := gnew_some (hS _ g hg)
 unfold BQ
 rw [he]
 simp only [Option.bind_some, if_true]
 rw [if_pos hg]
 have hy : AE (Bf.mk g.f_mode g.f_conf g.f_more g.f_grants g.f_nodes) = some y := hy
 rw [hy]
 exact ⟨_, rfl⟩
theorem next_some (n : Int) : ∃ y, BM n = some y := by
 unfold BM; split <;> exact ⟨_, rfl⟩
theorem last_some (hS : OkS slots) {k : A8 Int} (h : hol slots k = 2) : ∃ b, As Time slots key Boot puts confs k = some b := by
 obtain ⟨y, hy⟩ := item_some Time slots key Boot puts confs hS h
 unfold As
 obtain ⟨z, hz⟩ := next_some y.1.f_Version
 rw [hy, Option.bind_some, hz]
 exact ⟨_, rfl⟩
theorem put_some (hS : OkS slots) (k : A8 Int) (s : List UInt8) : ∃ e p, Al Time slots key Boot puts confs k s = some (e, p) ∧ ((e = 0 ∧ p = mset puts k s ∧ hol slots k = 2) ∨ (e ≠ 0 ∧ p = puts)) := by
 unfold Al
 rw [writes_eq]
 simp only [Option.bind_some]
 by_cases h : hol slots k = 2
 ·rw [if_neg (show ¬ ((hol slots k != 2) = true) by simp [h]), if_neg (by simp)]
  split
  ·exact ⟨5, puts, rfl, .inr ⟨by decide, rfl⟩⟩
  ·unfold Al_c6
   obtain ⟨b, hb⟩ := last_some Time slots key Boot puts confs hS h
   rw [hb]
   simp only [Option.bind_some]
   split
   ·exact ⟨17, puts, rfl, .inr ⟨by decide, rfl⟩⟩
   ·exact ⟨0, _, rfl, .inl ⟨rfl, rfl, h⟩⟩
 ·rw [if_pos (show ((hol slots k != 2) = true) by simp [h]), if_pos (by decide)]
  exact ⟨11, puts, rfl, .inr ⟨by decide, rfl⟩⟩
theorem after_some (a b : Bg) : ∃ y, BN a b = some y := by
 unfold BN
 obtain ⟨y, hy⟩ := next_some a.f_Epoch
 obtain ⟨m, hm⟩ := may_some b
 rw [hy, hm]
 simp only [Option.bind_some]
 repeat' split
 all_goals exact ⟨_, rfl⟩
theorem change_some (hS : OkS slots) (k : A8 Int) (c : Bg) : ∃ y, AR Time slots key Boot puts confs k c = some y := by
 unfold AR
 rw [writes_eq]
 simp only [Option.bind_some]
 by_cases h : hol slots k = 2
 ·rw [if_neg (show ¬ ((hol slots k != 2) = true) by simp [h]), if_neg (by simp)]
  obtain ⟨b, hb⟩ := last_some Time slots key Boot puts confs hS h
  rw [hb]
  simp only [Option.bind_some]
  split
  ·exact ⟨_, rfl⟩
  ·unfold AR_c6
   obtain ⟨g, hg, he⟩ := held_eq Time slots key Boot puts confs h
   rw [he]
   simp only [Option.bind_some, if_true]
   rw [if_pos hg]
   have hc : ∃ y, AP (Bf.mk g.f_mode g.f_conf g.f_more g.f_grants g.f_nodes) = some y := by
    unfold AP AC
    simp only [Option.bind_some]
    split <;> exact ⟨_, rfl⟩
   have hn : ∃ y, Aj (Bf.mk g.f_mode g.f_conf g.f_more g.f_grants g.f_nodes) = some y := by
    unfold Aj AC
    simp only [Option.bind_some]
    split <;> exact ⟨_, rfl⟩
   obtain ⟨cc, hc⟩ := hc
   obtain ⟨nn, hn⟩ := hn
   obtain ⟨e, he⟩ := after_some cc c
   obtain ⟨w, hw⟩ := writes_some c nn
   rw [hc, hn]
   simp only [Option.bind_some]
   rw [he, hw]
   simp only [Option.bind_some]
   repeat' split
   all_goals exact ⟨_, rfl⟩
 ·rw [if_pos (show ((hol slots k != 2) = true) by simp [h]), if_pos (by decide)]
  exact ⟨_, rfl⟩
def addK (m : List (A8 Int × Bool)) (a : Bh × Bf) : List (A8 Int × Bool) := mset m a.1.f_key true
theorem addK_nd : ∀ (l : Sl) (m : List (A8 Int × Bool)), (m.map (·.1)).Nodup → ((l.foldl addK m).map (·.1)).Nodup
 | [], _, h => h
 | a :: l, m, h => addK_nd l _ (mset_nd m _ _ h)
theorem addK_mem (x : A8 Int) : ∀ (l : Sl) (m : List (A8 Int × Bool)), x ∈ (l.foldl addK m).map (·.1) ↔ x ∈ m.map (·.1) ∨ ∃ a ∈ l, x = a.1.f_key
 | [], m => by simp
 | a :: l, m => by
  rw [List.foldl_cons, addK_mem x l]
  unfold addK
  rw [mset_mem]
  constructor
  ·rintro ((h | h) | ⟨b, hb, h⟩)
   ·exact .inr ⟨a, List.mem_cons_self, h⟩
   ·exact .inl h
   ·exact .inr ⟨b, List.mem_cons_of_mem _ hb, h⟩
  ·rintro (h | ⟨b, hb, h⟩)
   ·exact .inl (.inr h)
   ·rcases List.mem_cons.1 hb with rfl | hb
    ·exact .inl (.inl h)
    ·exact .inr ⟨b, hb, h⟩
theorem addK_len {l r : Sl} (h : l.Perm r) (m : List (A8 Int × Bool)) (hm : (m.map (·.1)).Nodup) : (l.foldl addK m).length = (r.foldl addK m).length := by
 have hp : ((l.foldl addK m).map (·.1)).Perm ((r.foldl addK m).map (·.1)) := by
  rw [List.perm_ext_iff_of_nodup (addK_nd l m hm) (addK_nd r m hm)]
  intro x
  rw [addK_mem, addK_mem]
  constructor <;> rintro (a | ⟨b, hb, e⟩)
  ·exact .inl a
  ·exact .inr ⟨b, h.mem_iff.1 hb, e⟩
  ·exact .inl a
  ·exact .inr ⟨b, h.mem_iff.2 hb, e⟩
 simpa using hp.length_eq
theorem nkeys_loop : ∀ (n fuel : Nat) (m : List (A8 Int × Bool)) (rest : Sl), rest.length = n → n < fuel → (m.map (·.1)).Nodup →
  At_l0 Time slots key Boot puts confs fuel m rest = some (((rest.foldl addK m).length : Nat) : Int) := by
 intro n
 induction n with
 | zero =>
  intro fuel m rest h hf hm
  obtain ⟨f, rfl⟩ : ∃ f, fuel = f + 1 := ⟨fuel - 1, by omega⟩
  have : rest = [] := List.length_eq_zero_iff.1 h
  subst this
  rw [At_l0, if_pos (show (List.isEmpty ([] : Sl)) = true from rfl)]
  rfl
 | succ n ih =>
  intro fuel m rest h hf hm
  obtain ⟨f, rfl⟩ : ∃ f, fuel = f + 1 := ⟨fuel - 1, by omega⟩
  have hne : rest ≠ [] := fun e => by rw [e] at h; simp at h
  rw [At_l0, if_neg (by simpa using hne)]
  refine agree_eq hne fun i x hx => ?_
  have hil := (List.getElem?_eq_some_iff.1 hx).1
  rw [ih f (mset m x.1.f_key true) (rest.eraseIdx i) (by rw [List.length_eraseIdx_of_lt hil]; omega) (by omega) (mset_nd m _ _ hm)]
  have hp : rest.Perm (x :: rest.eraseIdx i) := erase_perm hx
  rw [addK_len hp m hm]
  rfl
theorem keys_some (hl : slots.length ≤ 1000) : ∃ n, At Time slots key Boot puts confs = some n := by
 unfold At
 exact ⟨_, nkeys_loop Time slots key Boot puts confs slots.length big [] slots rfl (big_lt (by omega)) (by simp)⟩
end
end Go.Proofs.YtljjdeanilgloaaGreatDoor.Wk
