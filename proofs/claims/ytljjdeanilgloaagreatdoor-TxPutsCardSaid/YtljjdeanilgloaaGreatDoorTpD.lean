import Derived.Test.YtljjdeanilgloaaGreatDoorTpT
set_option linter.unusedVariables false
set_option linter.unusedSimpArgs false
set_option linter.unusedSectionVars false
namespace Go.Proofs.YtljjdeanilgloaaGreatDoor.Wk
open Go Go.Cn
structure Good (a b : Sl) (g : Option Bf) : Prop where
 s : OkS b
 o : OkO g
 k : Keeps a b
 l : b.length ≤ a.length + 1
theorem okO_none : OkO none := fun x h => by cases h
theorem okO_some {g : Bf} (h : OkG g) : OkO (some g) := fun x hx => by cases hx; exact h
theorem Good.same {a : Sl} {g : Option Bf} (h : OkS a) (ho : OkO g) : Good a a g := ⟨h, ho, Keeps.refl a, by omega⟩
theorem Good.set {a : Sl} {g : Option Bf} (h : OkS a) (ho : OkO g) (s : Bh) {x : Bf} (hx : OkG x) : Good a (mset a s x) g := ⟨h.set s hx, ho, Keeps.set a s x, mset_len a s x⟩
section
variable (Time : Bi) (slots : Sl) (key : Bh) (gather : Option Bf) (Boot : A8 Bj) (puts : Pu) (confs : Co)
theorem settle_some (hS : OkS slots) {g : Bf} (hg : OkG g) : ∃ y, BJ Time slots key g Boot puts confs = some y ∧ Good slots y.2.2.2.2.1 y.2.2.2.2.2 := by
 unfold BJ
 obtain ⟨b, hb⟩ := enough_some hg
 rw [hb]
 simp only [Option.bind_some]
 split
 ·exact ⟨_, rfl, Good.same hS (okO_some hg)⟩
 ·exact ⟨_, rfl, Good.set hS okO_none key hg⟩
theorem begin_loop (hS : OkS slots) (k : A8 Int) (mode : Int) (c : Bg) (more : List Bg) (L : List Bk) (hL : L.length ≤ 100) (hx : ∀ x ∈ L, 0 ≤ x.f_Node) : ∀ (d fuel i : Nat) (m : Int) (cf : Bg) (mo : List Bg) (gr : A8 Bk) (nd : Int), i + d = L.length → d < fuel → OkG (Bf.mk m cf mo gr nd) →
  ∃ y, AF_l0 Time slots key gather Boot puts confs k mode c more fuel L ((L.length : Nat) : Int) (i : Int) m cf mo gr nd = some y ∧ Good slots y.2.2.2.2.1 y.2.2.2.2.2 := by
 intro d
 induction d with
 | zero =>
  intro fuel i m cf mo gr nd h hf hg
  obtain ⟨f, rfl⟩ : ∃ f, fuel = f + 1 := ⟨fuel - 1, by omega⟩
  rw [AF_l0, if_neg (by rw [decide_eq_true_eq]; omega)]
  obtain ⟨y, hy, hG⟩ := settle_some Time slots (Bh.mk k mode) Boot puts confs hS hg
  rw [hy]
  exact ⟨_, rfl, hG⟩
 | succ d ih =>
  intro fuel i m cf mo gr nd h hf hg
  obtain ⟨f, rfl⟩ : ∃ f, fuel = f + 1 := ⟨fuel - 1, by omega⟩
  rw [AF_l0, if_pos (decide_eq_true (by omega)), if_pos (by omega)]
  have hi : i < L.length := by omega
  have hm : L.getD ((i : Int)).toNat default ∈ L := by
   rw [Int.toNat_natCast, List.getD_eq_getElem?_getD, List.getElem?_eq_getElem hi]
   exact List.getElem_mem hi
  obtain ⟨y, hy, hg'⟩ := grant_some hg (hx _ hm)
  rw [hy]
  simp only [Option.bind_some]
  rw [step64 (by omega)]
  exact ih f (i + 1) _ _ _ _ _ (by omega) (by omega) hg'
theorem begin0 (hS : OkS slots) (k : A8 Int) (mode : Int) (c : Bg) (more : List Bg) {L : List Bk} (hL : L.length ≤ 100) (hx : ∀ x ∈ L, 0 ≤ x.f_Node) (fuel : Nat) (hf : 100 < fuel) {m : Int} {cf : Bg} {mo : List Bg} {gr : A8 Bk} (hg : OkG (Bf.mk m cf mo gr 0)) :
  ∃ y, AF_l0 Time slots key gather Boot puts confs k mode c more fuel L ((L.length : Nat) : Int) 0 m cf mo gr 0 = some y ∧ Good slots y.2.2.2.2.1 y.2.2.2.2.2 :=
 begin_loop Time slots key gather Boot puts confs hS k mode c more L hL hx L.length fuel 0 m cf mo gr 0 (by omega) (by omega) hg
theorem begin_some (hS : OkS slots) (hO : OkO gather) (hl : slots.length ≤ 1000) {k : A8 Int} (hk : wfK k) (mode : Int) (c : Bg) {more : List Bg} (hm : more.length ≤ 1) :
  ∃ y, AF Time slots key gather Boot puts confs k mode c more = some y ∧ Good slots y.2.2.2.2.1 y.2.2.2.2.2 := by
 have err : ∀ e : Int, ∃ y : (Int) × (Bi) × (Bh) × (A8 (Bj)) × Sl × (Option (Bf)), some (e, Time, key, Boot, slots, (none : Option Bf)) = some y ∧ Good slots y.2.2.2.2.1 y.2.2.2.2.2 := fun e => ⟨_, rfl, Good.same hS okO_none⟩
 unfold AF BE AT
 simp only [Option.bind_some]
 split
 ·rename_i hs
  obtain ⟨g, rfl⟩ := Option.isSome_iff_exists.1 hs
  exact ⟨_, rfl, Good.same hS hO⟩
 ·have h5 : ∃ y, AF_c5 Time slots key gather Boot puts confs k mode c more = some y ∧ Good slots y.2.2.2.2.1 y.2.2.2.2.2 := by
   unfold AF_c5
   obtain ⟨g, hg, hok⟩ := new_some hk mode c hm
   rw [hg, holds_eq]
   simp only [Option.bind_some]
   split
   ·exact err 1
   ·rename_i h1
    have hok := hok (by simpa using h1)
    have lp : ∀ L : List Bk, L.length ≤ 100 → (∀ x ∈ L, 0 ≤ x.f_Node) → ∃ y, AF_l0 Time slots key gather Boot puts confs k mode c more big L ((L.length : Nat) : Int) 0 g.2.2.1 g.2.2.2.1 g.2.2.2.2.1 g.2.2.2.2.2 0 = some y ∧ Good slots y.2.2.2.2.1 y.2.2.2.2.2 :=
     fun L h1 h2 => begin0 Time slots key gather Boot puts confs hS k mode c more h1 h2 big (big_lt (by omega)) hok
    have tail : ∃ y, (if (((mget slots (Bh.mk k mode)).isSome) : Bool) then
      (mget slots (Bh.mk k mode)).bind fun z => (AK z).bind fun w => AF_l0 Time slots key gather Boot puts confs k mode c more big w ((w).length : Int) 0 g.2.2.1 g.2.2.2.1 g.2.2.2.2.1 g.2.2.2.2.2 0
     else (Av).bind fun w => AF_l0 Time slots key gather Boot puts confs k mode c more big w ((w).length : Int) 0 g.2.2.1 g.2.2.2.1 g.2.2.2.2.1 g.2.2.2.2.2 0) = some y ∧ Good slots y.2.2.2.2.1 y.2.2.2.2.2 := by
     split
     ·rename_i hs
      obtain ⟨z, hz⟩ := Option.isSome_iff_exists.1 hs
      obtain ⟨L, hL, h1, h2⟩ := all_some (hS _ z hz)
      rw [hz]
      simp only [Option.bind_some]
      rw [hL]
      exact lp L h1 h2
     ·exact lp [] (by simp) (fun x hx => by cases hx)
    have h11 : ∀ e, ∃ y, AF_c11 Time slots key gather Boot puts confs k mode c more g e = some y ∧ Good slots y.2.2.2.2.1 y.2.2.2.2.2 := by
     intro e
     unfold AF_c11 AF_c13 AF_c12
     obtain ⟨n, hn⟩ := keys_some Time slots key Boot puts confs hl
     rw [hn]
     simp only [Option.bind_some]
     split
     ·split
      ·exact err 5
      ·exact tail
     ·exact tail
    split
    ·split
     ·exact err 7
     ·exact h11 _
    ·exact h11 _
  by_cases hp : (mget puts k).isSome = true
  ·simp only [hp, if_true, Option.bind_some]
   exact err 11
  ·simp only [hp, if_false, Option.bind_some, Bool.false_eq_true]
   split
   ·exact err 11
   ·exact h5
theorem know_some {x : Bk} (hx : 0 ≤ x.f_Node) : ∃ e B, Ag Time slots key gather Boot puts confs x = some (e, Time, key, B) := by
 unfold Ag
 split
 ·exact ⟨1, _, rfl⟩
 ·rename_i h8
  have h8 : x.f_Node < 8 := by simpa using h8
  obtain ⟨b, hb⟩ := regMay_some x.f_Reg
  rw [hb]
  simp only [Option.bind_some]
  split
  ·exact ⟨1, _, rfl⟩
  ·rw [if_pos ⟨hx, h8⟩]
   split
   ·split
    ·exact ⟨14, _, rfl⟩
    ·exact ⟨0, _, rfl⟩
   ·exact ⟨0, _, rfl⟩
theorem grantT_some (hS : OkS slots) (hO : OkO gather) (k : A8 Int) (mode : Int) {x : Bk} (hx : 0 ≤ x.f_Node) :
  ∃ y, AH Time slots key gather Boot puts confs k mode x = some y ∧ Good slots y.2.2.2.2.2.1 y.2.2.2.2.2.2 := by
 unfold AH AT
 obtain ⟨e, B, hk⟩ := know_some Time slots key gather Boot puts confs hx
 rw [hk]
 simp only [Option.bind_some]
 split
 ·exact ⟨_, rfl, Good.same hS hO⟩
 ·by_cases hg : gather.isSome = true
  ·rw [if_pos hg]
   obtain ⟨g, rfl⟩ := Option.isSome_iff_exists.1 hg
   have hgo := hO g rfl
   simp only [Option.bind_some]
   split
   ·unfold AH_c8
    split
    ·rename_i hs
     obtain ⟨z, hz⟩ := Option.isSome_iff_exists.1 hs
     obtain ⟨y, hy, hy'⟩ := late_some (hS _ z hz) hx
     rw [hz]
     simp only [Option.bind_some]
     rw [hy]
     exact ⟨_, rfl, Good.set hS hO _ hy'⟩
    ·exact ⟨_, rfl, Good.same hS hO⟩
   ·unfold AH_c9
    obtain ⟨y, hy, hy'⟩ := grant_some hgo hx
    rw [hy]
    simp only [Option.bind_some]
    split
    ·exact ⟨_, rfl, Good.same hS (okO_some hy')⟩
    ·obtain ⟨z, hz, hz'⟩ := settle_some Time slots key B puts confs hS hy'
     have hz : BJ Time slots key (Bf.mk y.2.1 y.2.2.1 y.2.2.2.1 y.2.2.2.2.1 y.2.2.2.2.2) B puts confs = some z := hz
     rw [hz]
     exact ⟨_, rfl, hz'⟩
  ·rw [if_neg hg]
   unfold AH_c1008
   split
   ·rename_i hs
    obtain ⟨z, hz⟩ := Option.isSome_iff_exists.1 hs
    obtain ⟨y, hy, hy'⟩ := late_some (hS _ z hz) hx
    rw [hz]
    simp only [Option.bind_some]
    rw [hy]
    exact ⟨_, rfl, Good.set hS okO_none _ hy'⟩
   ·exact ⟨_, rfl, Good.same hS okO_none⟩
theorem ask_some (hO : OkO gather) : ∃ y, Bb Time slots key gather Boot puts confs = some y ∧ ∀ x ∈ y, 0 ≤ x := by
 unfold Bb AT
 simp only [Option.bind_some]
 split
 ·rename_i hs
  obtain ⟨g, rfl⟩ := Option.isSome_iff_exists.1 hs
  obtain ⟨y, hy, h⟩ := gask_some (hO g rfl)
  simp only [Option.bind_some]
  rw [hy]
  exact ⟨_, rfl, h⟩
 ·exact ⟨[], rfl, fun x hx => by cases hx⟩
theorem open_some : ∃ y, BY Time slots key gather Boot puts confs = some y := by
 unfold BY AT
 simp only [Option.bind_some]
 split
 ·rename_i hs
  obtain ⟨g, rfl⟩ := Option.isSome_iff_exists.1 hs
  exact ⟨_, rfl⟩
 ·exact ⟨_, rfl⟩
structure WfA (a : Bl) : Prop where
 k : wfK a.f_Key
 n : 0 ≤ a.f_Got.f_Node
theorem got_some {a : Bl} (ha : WfA a) {l : List Int} (hl : ∀ x ∈ l, 0 ≤ x) (k : A8 Int) (m : Int) : ∃ y, Ao a l k m = some y ∧ 0 ≤ y.2.2.f_Node := by
 unfold Ao
 split
 ·exact ⟨_, rfl, ha.n⟩
 ·split
  ·exact ⟨_, rfl, ha.n⟩
  ·rename_i h0
   have h0 : l.length ≠ 0 := by simpa using h0
   rw [if_pos (by omega)]
   refine ⟨_, rfl, hl _ ?_⟩
   rw [List.getD_eq_getElem?_getD, List.getElem?_eq_getElem (by omega)]
   exact List.getElem_mem _
structure After (a : Bl) (y : (Bool) × (Int) × (Bi) × (Bh) × (A8 (Bj)) × Sl × Pu × Co × (Option (Bf))) : Prop where
 g : Good slots y.2.2.2.2.2.1 y.2.2.2.2.2.2.2.2
 p : (Int.tmod a.f_Kind 6 = 3 ∧ y.2.1 = 0 ∧ y.2.2.2.2.2.2.1 = mset puts a.f_Key a.f_Text ∧ (mget y.2.2.2.2.2.1 (Bh.mk a.f_Key 2)).isSome = true) ∨ (¬ (Int.tmod a.f_Kind 6 = 3 ∧ y.2.1 = 0) ∧ y.2.2.2.2.2.2.1 = puts)
theorem does_some (hS : OkS slots) (hO : OkO gather) (hl : slots.length ≤ 1000) {a : Bl} (ha : WfA a) :
  ∃ y, AZ Time slots key gather Boot puts confs a = some y ∧ After slots puts a y := by
 unfold AZ
 by_cases h0 : Int.tmod a.f_Kind 6 = 0
 ·rw [if_pos (by simpa using h0)]
  obtain ⟨y, hy, hg⟩ := begin_some Time slots key gather Boot puts confs hS hO hl ha.k a.f_Mode a.f_Conf (more := []) (by simp)
  rw [hy]
  exact ⟨_, rfl, hg, .inr ⟨fun h => by omega, rfl⟩⟩
 ·rw [if_neg (by simpa using h0)]
  by_cases h1 : Int.tmod a.f_Kind 6 = 1
  ·rw [if_pos (by simpa using h1)]
   obtain ⟨y, hy, hg⟩ := begin_some Time slots key gather Boot puts confs hS hO hl ha.k a.f_Mode a.f_Conf (more := [a.f_More]) (by simp)
   rw [hy]
   exact ⟨_, rfl, hg, .inr ⟨fun h => by omega, rfl⟩⟩
  ·rw [if_neg (by simpa using h1)]
   by_cases h3 : Int.tmod a.f_Kind 6 = 3
   ·rw [if_pos (by simpa using h3)]
    obtain ⟨e, p, he, hp⟩ := put_some Time slots key Boot puts confs hS a.f_Key a.f_Text
    rw [he]
    refine ⟨_, rfl, Good.same hS hO, ?_⟩
    rcases hp with ⟨rfl, rfl, h⟩ | ⟨h, rfl⟩
    ·exact .inl ⟨h3, rfl, rfl, hol2 h⟩
    ·exact .inr ⟨fun h' => h h'.2, rfl⟩
   ·rw [if_neg (by simpa using h3)]
    by_cases h4 : Int.tmod a.f_Kind 6 = 4
    ·rw [if_pos (by simpa using h4)]
     obtain ⟨y, hy⟩ := change_some Time slots key Boot puts confs hS a.f_Key a.f_Conf
     rw [hy]
     exact ⟨_, rfl, Good.same hS hO, .inr ⟨fun h => by omega, rfl⟩⟩
    ·rw [if_neg (by simpa using h4)]
     obtain ⟨o, ho⟩ := open_some Time slots key gather Boot puts confs
     obtain ⟨l, hl', hl0⟩ := ask_some Time slots key gather Boot puts confs hO
     obtain ⟨w, hw, hw0⟩ := got_some ha hl0 o.1 o.2.1
     rw [ho]
     simp only [Option.bind_some]
     unfold AZ_c11
     rw [hl']
     simp only [Option.bind_some]
     rw [hw]
     simp only [Option.bind_some]
     obtain ⟨y, hy, hg⟩ := grantT_some Time slots key gather Boot puts confs hS hO w.1 w.2.1 (x := Bk.mk w.2.2.f_Node w.2.2.f_Reg w.2.2.f_Item) hw0
     rw [hy]
     exact ⟨_, rfl, hg, .inr ⟨fun h => h3 h.1, rfl⟩⟩
end
end Go.Proofs.YtljjdeanilgloaaGreatDoor.Wk
