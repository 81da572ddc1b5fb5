/- Plain facts: locks as data, and the plan that they ask for. -/
import Derived.Test.YtdjmfgknonkojaaDoorMissB
import Derived.Test.YtdjmfgknonkojaaDoorMissT
set_option linter.unusedVariables false
set_option linter.unusedSimpArgs false
set_option linter.unusedSectionVars false
namespace Go.Proofs.YtdjmfgknonkojaaDoor.Wk
open Go Go.Cn

abbrev Gr := Int × T_api_Reg
structure AL where
  k : A8 Int
  m : Int
  g : List Gr
structure WfAL (x : AL) : Prop where
  k : wfK x.k
  m : 0 ≤ x.m ∧ x.m < 256
  g : ∀ a ∈ x.g, (0 ≤ a.1 ∧ a.1 < 256) ∧ WfR a.2
def gotOK (a : Gr) : Bool := decide (a.1 < 8) && mayR a.2
noncomputable def okL (x : AL) : Bool := mayK x.k && ((decide (x.m = 1) || decide (x.m = 2)) && x.g.all gotOK)
def gots (A : List AL) : List Gr := A.flatMap (·.g)
theorem mem_gots {A : List AL} {g : Gr} : g ∈ gots A ↔ ∃ x ∈ A, g ∈ x.g := List.mem_flatMap
def orN (s : Nat) (l : List Gr) : Nat := l.foldl (fun s g => addN s g.1.toNat) s
theorem orN_lt : ∀ (l : List Gr) {s : Nat}, s < 18446744073709551616 → orN s l < 18446744073709551616
  | [], _, h => h
  | g :: l, _, h => orN_lt l (addN_lt h _)
theorem orN_bit : ∀ (l : List Gr) (s i : Nat), (orN s l).testBit i = true ↔ s.testBit i = true ∨ (i < 64 ∧ ∃ g ∈ l, g.1.toNat = i)
  | [], s, i => by simp [orN]
  | g :: l, s, i => by
    show (orN (addN s g.1.toNat) l).testBit i = true ↔ _
    rw [orN_bit l, addN_bit, Bool.or_eq_true, Bool.and_eq_true, decide_eq_true_eq, decide_eq_true_eq]
    constructor
    · rintro ((h | ⟨h1, h2⟩) | ⟨h, x, hx, he⟩)
      · exact .inl h
      · exact .inr ⟨by omega, g, List.mem_cons_self, h1.symm⟩
      · exact .inr ⟨h, x, List.mem_cons_of_mem _ hx, he⟩
    · rintro (h | ⟨h, x, hx, he⟩)
      · exact .inl (.inl h)
      · rcases List.mem_cons.1 hx with rfl | hx
        · exact .inl (.inr ⟨he.symm, by omega⟩)
        · exact .inr ⟨h, x, hx, he⟩
def nodesA (A : List AL) : Nat := orN 0 (gots A)
theorem nodesA_lt (A : List AL) : nodesA A < 18446744073709551616 := orN_lt _ (by omega)
theorem nodesA_bit {A : List AL} {i : Nat} : (nodesA A).testBit i = true ↔ i < 64 ∧ ∃ x ∈ A, ∃ g ∈ x.g, g.1.toNat = i := by
  unfold nodesA
  rw [orN_bit, Nat.zero_testBit]
  constructor
  · rintro (h | ⟨h, g, hg, e⟩)
    · cases h
    · obtain ⟨x, hx, h2⟩ := mem_gots.1 hg
      exact ⟨h, x, hx, g, h2, e⟩
  · rintro ⟨h, x, hx, g, hg, e⟩
    exact .inr ⟨h, g, mem_gots.2 ⟨x, hx, hg⟩, e⟩
def ofA (A : List AL) (k : A8 Int) : Nat := nodesA (A.filter fun x => decide (x.k = k) && decide (x.m = 2))
theorem ofA_lt (A : List AL) (k : A8 Int) : ofA A k < 18446744073709551616 := nodesA_lt _
theorem ofA_bit {A : List AL} {k : A8 Int} {i : Nat} : (ofA A k).testBit i = true ↔ i < 64 ∧ ∃ x ∈ A, x.k = k ∧ x.m = 2 ∧ ∃ g ∈ x.g, g.1.toNat = i := by
  unfold ofA
  rw [nodesA_bit]
  constructor
  · rintro ⟨h, x, hx, g, hg, e⟩
    rw [List.mem_filter, Bool.and_eq_true, decide_eq_true_eq, decide_eq_true_eq] at hx
    exact ⟨h, x, hx.1, hx.2.1, hx.2.2, g, hg, e⟩
  · rintro ⟨h, x, hx, h1, h2, g, hg, e⟩
    exact ⟨h, x, List.mem_filter.2 ⟨hx, by simp [h1, h2]⟩, g, hg, e⟩
theorem ext_bit {a b : Nat} (h : ∀ i, a.testBit i = true ↔ b.testBit i = true) : a = b := Nat.eq_of_testBit_eq fun i => Bool.eq_iff_iff.2 (h i)
def clash (l : List Gr) : Bool := l.any fun a => l.any fun b => decide (a.1 = b.1) && !decide (a.2 = b.2)
theorem clash_iff {l : List Gr} : clash l = true ↔ ∃ a ∈ l, ∃ b ∈ l, a.1 = b.1 ∧ a.2 ≠ b.2 := by
  unfold clash
  simp only [List.any_eq_true, Bool.and_eq_true, decide_eq_true_eq, Bool.not_eq_true', decide_eq_false_iff_not]
def zR : T_api_Reg := T_api_Reg.mk 0 0
def regG (l : List Gr) (n : Nat) : T_api_Reg := ((l.find? fun g => decide (g.1.toNat = n)).map (·.2)).getD zR
def regA (A : List AL) (n : Nat) : T_api_Reg := regG (gots A) n
abbrev Pl := List (Nat × T_api_Reg × List T_api_Write) × List Nat × Int
noncomputable def mems (A : List AL) (w : List T_api_Write) : List (Nat × T_api_Reg × List T_api_Write) :=
  ((List.range 64).filter (nodesA A).testBit).map fun n => (n, regA A n, w.filter fun x => (ofA A x.f_Key).testBit n)
noncomputable def misses (A : List AL) (w : List T_api_Write) : List Nat := w.map fun x => missV x.f_Item.f_Conf (ofA A x.f_Key)
noncomputable def planA (A : List AL) (w : List T_api_Write) : Pl :=
  if A.all okL = false then ([], [], 1) else if mayW w = false then ([], [], 1) else if clash (gots A) = true then ([], [], 14)
  else if (w.any fun x => decide (ofA A x.f_Key = 0)) = true then ([], [], 6)
  else if (w.any fun x => !canW x.f_Item.f_Conf (ofA A x.f_Key)) = true then ([], [], 16) else (mems A w, misses A w, 0)

theorem get_set {α : Type} (A : A8 α) (x : α) {i j : Nat} (hi : i < 8) (hj : j < 8) : (A.set x i).get j = if j = i then x else A.get j := by
  rcases lt8 hi with rfl | rfl | rfl | rfl | rfl | rfl | rfl | rfl <;> rcases lt8 hj with rfl | rfl | rfl | rfl | rfl | rfl | rfl | rfl <;> rfl

/-! What is known of the nodes' registrations -/
structure Inv (l : List Gr) (B : A8 T_api_Reg) : Prop where
  has : ∀ g ∈ l, B.get g.1.toNat = g.2
  no : ∀ n, n < 8 → (∀ g ∈ l, g.1.toNat ≠ n) → B.get n = zR
theorem Inv.nil : Inv [] (A8.mk zR zR zR zR zR zR zR zR) := ⟨fun _ h => (nomatch h), fun n hn _ => by
  rcases lt8 hn with rfl | rfl | rfl | rfl | rfl | rfl | rfl | rfl <;> rfl⟩
def In8 (l : List Gr) : Prop := ∀ g ∈ l, (0 ≤ g.1 ∧ g.1 < 8) ∧ g.2 ≠ zR
theorem Inv.noclash {l : List Gr} {B : A8 T_api_Reg} (h : Inv l B) : clash l = false := by
  cases hc : clash l with
  | false => rfl
  | true =>
    obtain ⟨a, ha, b, hb, e, ne⟩ := clash_iff.1 hc
    exact absurd (by rw [← h.has a ha, ← h.has b hb, e]) ne
theorem Inv.reg {l : List Gr} {B : A8 T_api_Reg} (h : Inv l B) {n : Nat} (hn : n < 8) : B.get n = regG l n := by
  unfold regG
  cases hf : l.find? (fun g => decide (g.1.toNat = n)) with
  | none =>
    rw [List.find?_eq_none] at hf
    exact h.no n hn (fun g hg => by simpa using hf g hg)
  | some g =>
    have h1 := List.mem_of_find?_eq_some hf
    have h2 := List.find?_some hf
    rw [decide_eq_true_eq] at h2
    rw [← h2]
    exact h.has g h1
theorem Inv.step {l : List Gr} {B : A8 T_api_Reg} (h : Inv l B) (hl : In8 l) (g : Gr) (hg : 0 ≤ g.1 ∧ g.1 < 8) (hz : g.2 ≠ zR) :
    (B.get g.1.toNat ≠ zR ∧ B.get g.1.toNat ≠ g.2 ∧ ∃ a ∈ l, a.1 = g.1 ∧ a.2 ≠ g.2) ∨ ((B.get g.1.toNat = zR ∨ B.get g.1.toNat = g.2) ∧ Inv (l ++ [g]) (B.set g.2 g.1.toNat)) := by
  by_cases h1 : B.get g.1.toNat = zR ∨ B.get g.1.toNat = g.2
  · refine .inr ⟨h1, fun a ha => ?_, fun n hn hno => ?_⟩
    · rcases List.mem_append.1 ha with ha | ha
      · have h8 := (hl a ha).1
        rw [get_set _ _ (by omega) (by omega)]
        by_cases e : a.1.toNat = g.1.toNat
        · rw [if_pos e]
          have h2 := h.has a ha
          rw [e] at h2
          rcases h1 with h1 | h1
          · exact absurd (h2.symm.trans h1) (hl a ha).2
          · exact h1.symm.trans h2
        · rw [if_neg e]; exact h.has a ha
      · rw [List.mem_singleton] at ha; subst ha
        rw [get_set _ _ (by omega) (by omega), if_pos rfl]
    · rw [get_set _ _ (by omega) hn, if_neg (fun e => hno g (by simp) e.symm)]
      exact h.no n hn (fun a ha => hno a (List.mem_append_left _ ha))
  · have h1' := not_or.1 h1
    refine .inl ⟨h1'.1, h1'.2, ?_⟩
    by_cases he : ∃ a ∈ l, a.1.toNat = g.1.toNat
    · obtain ⟨a, ha, e⟩ := he
      have h8 := (hl a ha).1
      have h2 := h.has a ha
      rw [e] at h2
      exact ⟨a, ha, by omega, fun e2 => h1'.2 (h2.trans e2)⟩
    · exact absurd (h.no _ (by omega) (fun a ha e => he ⟨a, ha, e⟩)) h1'.1
theorem okL_in {x : AL} (hw : WfAL x) (h : okL x = true) : In8 x.g := by
  simp only [okL, Bool.and_eq_true, List.all_eq_true] at h
  intro g hg
  have h1 := h.2.2 g hg
  simp only [gotOK, Bool.and_eq_true, decide_eq_true_eq] at h1
  refine ⟨⟨(hw.g g hg).1.1, h1.1⟩, fun e => ?_⟩
  rw [e] at h1
  exact absurd h1.2 (by decide)
theorem gots_in {A : List AL} (hw : ∀ x ∈ A, WfAL x) (h : A.all okL = true) : In8 (gots A) := by
  intro g hg
  obtain ⟨x, hx, h2⟩ := mem_gots.1 hg
  exact okL_in (hw x hx) (List.all_eq_true.1 h x hx) g h2
theorem gots_app (A B : List AL) : gots (A ++ B) = gots A ++ gots B := List.flatMap_append
theorem nodes8 {A : List AL} (h : In8 (gots A)) {i : Nat} (hb : (nodesA A).testBit i = true) : i < 8 := by
  obtain ⟨_, x, hx, g, hg, e⟩ := nodesA_bit.1 hb
  have := (h g (mem_gots.2 ⟨x, hx, hg⟩)).1
  omega
theorem ofA_snoc (A : List AL) (x : AL) (k : A8 Int) : ofA (A ++ [x]) k = if k = x.k ∧ x.m = 2 then ofA A k ||| orN 0 x.g else ofA A k := by
  by_cases h : k = x.k ∧ x.m = 2
  · rw [if_pos h]
    refine ext_bit fun i => ?_
    rw [Nat.testBit_or, Bool.or_eq_true, ofA_bit, ofA_bit, orN_bit, Nat.zero_testBit]
    constructor
    · rintro ⟨h1, y, hy, h2, h3, g, hg, e⟩
      rcases List.mem_append.1 hy with hy | hy
      · exact .inl ⟨h1, y, hy, h2, h3, g, hg, e⟩
      · rw [List.mem_singleton] at hy; subst hy
        exact .inr (.inr ⟨h1, g, hg, e⟩)
    · rintro (⟨h1, y, hy, h2, h3, g, hg, e⟩ | (h1 | ⟨h1, g, hg, e⟩))
      · exact ⟨h1, y, List.mem_append_left _ hy, h2, h3, g, hg, e⟩
      · cases h1
      · exact ⟨h1, x, by simp, h.1.symm, h.2, g, hg, e⟩
  · rw [if_neg h]
    unfold ofA
    rw [List.filter_append]
    have : ([x].filter fun x => decide (x.k = k) && decide (x.m = 2)) = [] := by
      rw [List.filter_eq_nil_iff]
      intro y hy
      rw [List.mem_singleton] at hy; subst hy
      intro hh
      rw [Bool.and_eq_true, decide_eq_true_eq, decide_eq_true_eq] at hh
      exact h ⟨hh.1.symm, hh.2⟩
    rw [this, List.append_nil]
end Go.Proofs.YtdjmfgknonkojaaDoor.Wk
