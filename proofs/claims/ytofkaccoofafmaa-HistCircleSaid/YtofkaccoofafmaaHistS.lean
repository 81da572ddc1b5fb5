/- What has an order is played by it. -/
import Derived.Test.YtofkaccoofafmaaHistR
set_option linter.unusedVariables false
set_option linter.unusedSimpArgs false
set_option linter.unusedSectionVars false
namespace Go.Proofs.Ytofkaccoofafmaa.Wk
open Go Go.Cn

/-! Every beginning of an order is closed -/
def InvA (n : Nat) (E : Nat → Nat → Bool) (out : List Nat) : Prop := ∀ j, Inv n E (out.take j)
theorem InvA.nil (n : Nat) (E : Nat → Nat → Bool) : InvA n E [] := fun j => by rw [List.take_nil]; exact Inv.nil n E
theorem InvA.step {n : Nat} {E : Nat → Nat → Bool} {out : List Nat} {i : Nat} (h : InvA n E out) (hn : nextB n E out = some i) : InvA n E (out ++ [i]) := fun j => by
  by_cases hj : j ≤ out.length
  · rw [List.take_append_of_le_length hj]; exact h j
  · rw [List.take_of_length_le (by rw [List.length_append, List.length_singleton]; omega)]
    have := h out.length
    rw [List.take_length] at this
    exact this.step hn
theorem kahn_invA {n : Nat} {E : Nat → Nat → Bool} : ∀ (f : Nat) (out : List Nat), InvA n E out → InvA n E (kahn n E f out)
  | 0, _, h => h
  | f + 1, out, h => by
    rw [kahn]
    cases hn : nextB n E out with
    | none => exact h
    | some i => exact kahn_invA f _ (h.step hn)
/-- An order: where one stands, none that it must come ahead of stands behind. -/
structure Topo (n : Nat) (E : Nat → Nat → Bool) (o : List Nat) : Prop where
  nd : o.Nodup
  lt : ∀ i ∈ o, i < n
  all : ∀ i, i < n → i ∈ o
  cl : ∀ pre a suf, o = pre ++ a :: suf → ∀ k, k < n → E k a = true → k ≠ a → k ∈ pre
theorem topo_of {n : Nat} {E : Nat → Nat → Bool} {o : List Nat} (h : InvA n E o) (hl : o.length = n) : Topo n E o := by
  have h0 := h o.length
  rw [List.take_length] at h0
  refine ⟨h0.nd, h0.lt, fun i hi => ?_, fun pre a suf e k hk he hne => ?_⟩
  · by_cases hio : i ∈ o
    · exact hio
    · have hnd : (i :: o).Nodup := List.nodup_cons.2 ⟨hio, h0.nd⟩
      have := hnd.length_le_of_subset (l₂ := List.range n) (fun k hk => by
        rcases List.mem_cons.1 hk with rfl | hk
        · exact List.mem_range.2 hi
        · exact List.mem_range.2 (h0.lt k hk))
      rw [List.length_cons, List.length_range] at this
      omega
  · have h1 := h (pre.length + 1)
    have e1 : o.take (pre.length + 1) = pre ++ [a] := by
      rw [e, List.take_append, List.take_of_length_le (by omega)]
      simp
    rw [e1] at h1
    have := h1.cl a (List.mem_append_right _ List.mem_cons_self) k hk he
    rcases List.mem_append.1 this with h2 | h2
    · exact h2
    · exact absurd (List.mem_singleton.1 h2) hne
theorem Topo.back {n : Nat} {E : Nat → Nat → Bool} {o : List Nat} (h : Topo n E o) (hE : ∀ i, E i i = false) {pre suf : List Nat} {a b : Nat} (e : o = pre ++ a :: suf) (hb : b ∈ pre) : E a b = false := by
  cases hab : E a b with
  | false => rfl
  | true =>
    obtain ⟨p, q, rfl⟩ := List.append_of_mem hb
    have hne : a ≠ b := fun e2 => by rw [e2, hE] at hab; cases hab
    have ha : a < n := h.lt a (by rw [e]; simp)
    have h1 := h.cl p b (q ++ a :: suf) (by rw [e]; simp) a ha hab hne
    have hnd := h.nd
    rw [e] at hnd
    have := (List.nodup_append.1 hnd).2.2 a (List.mem_append_left _ h1) a List.mem_cons_self
    exact absurd rfl this

/-! What a key has behind some -/
def stP (l : List RT) : List Nat → (Ky → List UInt8) → Ky → List UInt8
  | [], st => st
  | i :: r, st => stP l r (upd (l.getD i default) st)
theorem stP_append (l : List RT) : ∀ (a b : List Nat) (st : Ky → List UInt8), stP l (a ++ b) st = stP l b (stP l a st)
  | [], _, _ => rfl
  | i :: a, b, st => stP_append l a b _
theorem stP_none (l : List RT) (k : Ky) : ∀ (a : List Nat) (st : Ky → List UInt8), (∀ i ∈ a, ∀ w ∈ (l.getD i default).f_Writes, w.f_Key ≠ k) → stP l a st k = st k
  | [], _, _ => rfl
  | i :: a, st, h => by
    rw [stP, stP_none l k a _ (fun j hj => h j (List.mem_cons_of_mem _ hj))]
    exact valB_none _ k _ (h i List.mem_cons_self)
theorem valB_mem : ∀ (l : List RI) (w : RI) (s : List UInt8), (l.map (·.f_Key)).Nodup → w ∈ l → valB l w.f_Key s = w.f_Value
  | [], _, _, _, h => by cases h
  | a :: l, w, s, hn, h => by
    rw [List.map_cons, List.nodup_cons] at hn
    show valB l w.f_Key (if a.f_Key = w.f_Key then a.f_Value else s) = _
    rcases List.mem_cons.1 h with rfl | h
    · rw [if_pos rfl]
      exact valB_none l _ _ fun x hx e => hn.1 (List.mem_map.2 ⟨x, hx, e⟩)
    · exact valB_mem l w _ hn.2 h
theorem rdC_zero (look : RI → Option (List UInt8)) : ∀ (l : List RI) (bad : Int), rdC look l bad = 0 → bad = 0 ∧ ∀ r ∈ l, (look r = none → r.f_Version = 0) ∧ (look r).getD [] = r.f_Value
  | [], bad, h => ⟨h, fun _ h => by cases h⟩
  | r :: l, bad, h => by
    rw [rdC] at h
    split at h
    · cases h
    · rename_i hc
      obtain ⟨h1, h2⟩ := rdC_zero look l _ h
      split at h1
      · rename_i hv
        refine ⟨h1, fun x hx => ?_⟩
        rcases List.mem_cons.1 hx with rfl | hx
        · refine ⟨fun e => ?_, hv⟩
          rw [e] at hc
          simpa using hc
        · exact h2 x hx
      · cases h1
theorem aftB_iff {l m : List RI} {same : Bool} : aftB l m same = true ↔ ∃ x ∈ l, ∃ y ∈ m, y.f_Key = x.f_Key ∧ (x.f_Version < y.f_Version ∨ (same = true ∧ y.f_Version = x.f_Version)) := by
  simp [aftB]
theorem Eg_iff {l : List RT} {i k : Nat} : Eg l i k = true ↔ i ≠ k ∧ aheadB (l.getD i default) (l.getD k default) = true := by
  simp [Eg]
theorem ahead_time {a b : RT} (h1 : a.f_End ≠ 0) (h2 : a.f_End < b.f_Begin) : aheadB a b = true := by
  simp [aheadB, h1, h2]
theorem ahead_ww {a b : RT} {x y : RI} (hx : x ∈ a.f_Writes) (hy : y ∈ b.f_Writes) (hk : y.f_Key = x.f_Key) (hv : x.f_Version < y.f_Version) : aheadB a b = true := by
  have : aftB a.f_Writes b.f_Writes false = true := aftB_iff.2 ⟨x, hx, y, hy, hk, .inl hv⟩
  simp [aheadB, this]
theorem ahead_wr {a b : RT} {x y : RI} (hx : x ∈ a.f_Writes) (hy : y ∈ b.f_Reads) (hk : y.f_Key = x.f_Key) (hv : y.f_Version = x.f_Version) : aheadB a b = true := by
  have : aftB a.f_Writes b.f_Reads true = true := aftB_iff.2 ⟨x, hx, y, hy, hk, .inr ⟨rfl, hv⟩⟩
  simp [aheadB, this]
theorem ahead_rw {a b : RT} {x y : RI} (hx : x ∈ a.f_Reads) (hy : y ∈ b.f_Writes) (hk : y.f_Key = x.f_Key) (hv : x.f_Version < y.f_Version) : aheadB a b = true := by
  have : aftB a.f_Reads b.f_Writes false = true := aftB_iff.2 ⟨x, hx, y, hy, hk, .inl hv⟩
  simp [aheadB, this]

/-- What is known of a history that has an order. -/
structure Fine (l : List RT) : Prop where
  nd : ∀ t ∈ l, ndT t
  pos : ∀ t ∈ l, ∀ w ∈ t.f_Writes, 0 < w.f_Version
  ver : ((allW l).map ver).Nodup
  rd : ∀ r ∈ allR l, (findV (allW l) r = none → r.f_Version = 0) ∧ (findV (allW l) r).getD [] = r.f_Value
theorem allW_mem {l : List RT} {w : RI} : w ∈ allW l ↔ ∃ i, i < l.length ∧ w ∈ (l.getD i default).f_Writes := by
  unfold allW
  rw [List.mem_flatMap]
  constructor
  · rintro ⟨t, ht, hw⟩
    obtain ⟨i, hi, rfl⟩ := List.getElem_of_mem ht
    exact ⟨i, hi, by rw [List.getD_eq_getElem?_getD, List.getElem?_eq_getElem hi]; exact hw⟩
  · rintro ⟨i, hi, hw⟩
    exact ⟨_, getD_mem hi, hw⟩
/-- One version, one writer. -/
theorem one_writer {l : List RT} (hn : ((allW l).map ver).Nodup) {i j : Nat} (hi : i < l.length) (hj : j < l.length) {x y : RI} (hx : x ∈ (l.getD i default).f_Writes) (hy : y ∈ (l.getD j default).f_Writes) (e : ver x = ver y) : i = j := by
  have key : ∀ (l : List RT) (i j : Nat), ((allW l).map ver).Nodup → i < j → j < l.length → ∀ x ∈ (l.getD i default).f_Writes, ∀ y ∈ (l.getD j default).f_Writes, ver x ≠ ver y := by
    intro l
    induction l with
    | nil => intro i j _ _ hj; simp at hj
    | cons t l ih =>
      intro i j hn hij hj x hx y hy
      have e : allW (t :: l) = t.f_Writes ++ allW l := rfl
      rw [e, List.map_append, List.nodup_append] at hn
      obtain ⟨j, rfl⟩ : ∃ j', j = j' + 1 := ⟨j - 1, by omega⟩
      rw [List.length_cons] at hj
      have hy' : y ∈ (l.getD j default).f_Writes := by simpa using hy
      cases i with
      | zero =>
        have hx' : x ∈ t.f_Writes := by simpa using hx
        exact hn.2.2 _ (List.mem_map.2 ⟨x, hx', rfl⟩) _ (List.mem_map.2 ⟨y, allW_mem.2 ⟨j, by omega, hy'⟩, rfl⟩)
      | succ i =>
        have hx' : x ∈ (l.getD i default).f_Writes := by simpa using hx
        exact ih i j hn.2.1 (by omega) (by omega) x hx' y hy'
  rcases Nat.lt_trichotomy i j with h | h | h
  · exact absurd e (key l i j hn h hj x hx y hy)
  · exact h
  · exact absurd e.symm (key l j i hn h hi y hy x hx)
theorem find_ver {L : List RI} {r : RI} {v : List UInt8} (h : findV L r = some v) : ∃ w ∈ L, ver w = ver r ∧ w.f_Value = v := by
  unfold findV at h
  rw [Option.map_eq_some_iff] at h
  obtain ⟨w, h1, h2⟩ := h
  have h3 := List.find?_some h1
  exact ⟨w, List.mem_of_find?_eq_some h1, by simpa using h3, h2⟩
theorem find_none {L : List RI} {r : RI} (h : findV L r = none) : ∀ w ∈ L, ver w ≠ ver r := by
  unfold findV at h
  rw [Option.map_eq_none_iff, List.find?_eq_none] at h
  exact fun w hw e => h w hw (by simpa using e)
theorem ver_iff {a b : RI} : ver a = ver b ↔ a.f_Key = b.f_Key ∧ a.f_Version = b.f_Version := by
  unfold ver
  rw [T_hist_version.mk.injEq]
theorem nodup_inj {l : List RI} (h : (l.map ver).Nodup) {a b : RI} (ha : a ∈ l) (hb : b ∈ l) (e : ver a = ver b) : a = b := by
  induction l with
  | nil => cases ha
  | cons x l ih =>
    rw [List.map_cons, List.nodup_cons] at h
    rcases List.mem_cons.1 ha with ea | ha' <;> rcases List.mem_cons.1 hb with eb | hb'
    · rw [ea, eb]
    · exact absurd (List.mem_map.2 ⟨b, hb', by rw [← ea]; exact e.symm⟩) h.1
    · exact absurd (List.mem_map.2 ⟨a, ha', by rw [← eb]; exact e⟩) h.1
    · exact ih h.2 ha' hb'
/-- One's reads, where it stands. -/
theorem ok_at {l : List RT} (hF : Fine l) {o : List Nat} (hT : Topo l.length (Eg l) o) {pr suf : List Nat} {a : Nat} (e : o = pr ++ a :: suf) : okB (l.getD a default) (stP l pr fun _ => []) = true := by
  have hE := Eg_irr l
  have ha : a < l.length := hT.lt a (by rw [e]; simp)
  have hta := getD_mem ha
  have hlt : ∀ b ∈ pr, b < l.length := fun b hb => hT.lt b (by rw [e]; exact List.mem_append_left _ hb)
  have hnp : a ∉ pr := fun h => by
    have hnd := hT.nd
    rw [e] at hnd
    exact (List.nodup_append.1 hnd).2.2 a h a List.mem_cons_self rfl
  unfold okB
  rw [List.all_eq_true]
  intro r hr
  have hrA : r ∈ allR l := by unfold allR; rw [List.mem_flatMap]; exact ⟨_, hta, hr⟩
  obtain ⟨r1, r2⟩ := hF.rd r hrA
  rw [beq_iff_eq]
  cases hown : ownB (l.getD a default) r with
  | true =>
    rw [if_pos rfl]
    unfold ownB at hown
    rw [List.any_eq_true] at hown
    obtain ⟨w, hw, hw2⟩ := hown
    simp only [Bool.and_eq_true, decide_eq_true_eq, beq_iff_eq] at hw2
    have hv : ver w = ver r := ver_iff.2 hw2
    have hwA : w ∈ allW l := allW_mem.2 ⟨a, ha, hw⟩
    rw [← hw2.1, valB_mem _ w [] (hF.nd _ hta).2.1 hw]
    cases hf : findV (allW l) r with
    | none => exact absurd hv (find_none hf w hwA)
    | some v =>
      obtain ⟨w', hw', e1, e2⟩ := find_ver hf
      have := nodup_inj hF.ver hw' hwA (e1.trans hv.symm)
      rw [hf] at r2
      rw [← r2, ← this]; exact e2.symm
  | false =>
    rw [if_neg Bool.false_ne_true]
    have hnown : ∀ w ∈ (l.getD a default).f_Writes, ver w ≠ ver r := fun w hw e => by
      unfold ownB at hown
      rw [List.any_eq_false] at hown
      exact hown w hw (by simp [(ver_iff.1 e).1, (ver_iff.1 e).2])
    cases hf : findV (allW l) r with
    | none =>
      have hz := r1 hf
      rw [hf] at r2
      rw [stP_none l r.f_Key pr _ fun b hb w hw hk => ?_]
      · exact r2.symm
      · have hba := hT.back hE e hb
        have : Eg l a b = true := Eg_iff.2 ⟨fun h => hnp (h ▸ hb), ahead_rw hr hw hk (by rw [hz]; exact hF.pos _ (getD_mem (hlt b hb)) w hw)⟩
        rw [this] at hba; cases hba
    | some v =>
      obtain ⟨w, hwA, e1, e2⟩ := find_ver hf
      obtain ⟨b, hb, hwb⟩ := allW_mem.1 hwA
      obtain ⟨ek, ev⟩ := ver_iff.1 e1
      have hne : b ≠ a := fun h => hnown w (h ▸ hwb) e1
      have hbp : b ∈ pr := hT.cl pr a suf e b hb (Eg_iff.2 ⟨hne, ahead_wr hwb hr ek.symm ev.symm⟩) hne
      obtain ⟨p, q, rfl⟩ := List.append_of_mem hbp
      rw [hf] at r2
      have hval : v = r.f_Value := r2
      rw [stP_append, stP, stP_none l r.f_Key q _ fun c hc w' hw' hk => ?_]
      · show r.f_Value = valB (l.getD b default).f_Writes r.f_Key _
        rw [← ek, valB_mem _ w _ (hF.nd _ (getD_mem hb)).2.1 hwb, e2, hval]
      · have hcp : c ∈ p ++ b :: q := List.mem_append_right _ (List.mem_cons_of_mem _ hc)
        have hcl := hlt c hcp
        have hca := hT.back hE e hcp
        have hac : a ≠ c := fun h => hnp (h ▸ hcp)
        obtain ⟨q1, q2, rfl⟩ := List.append_of_mem hc
        have hcb : Eg l c b = false := hT.back (pre := p ++ b :: q1) (a := c) (suf := q2 ++ a :: suf) hE (by rw [e]; simp) (by simp)
        have hcne : c ≠ b := fun h => by
          have hnd := hT.nd
          rw [e, h] at hnd
          have h3 := (List.nodup_append.1 (List.nodup_append.1 hnd).1).2.1
          rw [List.nodup_cons] at h3
          exact h3.1 (by simp)
        rcases Int.lt_trichotomy w'.f_Version w.f_Version with h | h | h
        · have : Eg l c b = true := Eg_iff.2 ⟨hcne, ahead_ww hw' hwb (ek.trans hk.symm) h⟩
          rw [this] at hcb; cases hcb
        · exact hcne (one_writer hF.ver hcl hb hw' hwb (ver_iff.2 ⟨hk.trans ek.symm, h⟩))
        · have : Eg l a c = true := Eg_iff.2 ⟨hac, ahead_rw hr hw' hk (by rw [← ev]; exact h)⟩
          rw [this] at hca; cases hca
theorem play_all {l : List RT} (hF : Fine l) {o : List Nat} (hT : Topo l.length (Eg l) o) : ∀ (suf pr : List Nat), o = pr ++ suf → playG l (suf.map fun (k : Nat) => (k : Int)) (pr.map fun (k : Nat) => (k : Int)) (stP l pr fun _ => []) = true
  | [], _, _ => rfl
  | a :: suf, pr, e => by
    have ha : a < l.length := hT.lt a (by rw [e]; simp)
    have hnp : a ∉ pr := fun h => by
      have hnd := hT.nd
      rw [e] at hnd
      exact (List.nodup_append.1 hnd).2.2 a h a List.mem_cons_self rfl
    rw [List.map_cons, playG]
    have h1 : decide (0 ≤ (a : Int) ∧ (a : Int) < l.length) = true := decide_eq_true (by omega)
    have h2 : (pr.map fun (k : Nat) => (k : Int)).contains (a : Int) = false := by
      rw [cont_cast]
      cases hc : pr.contains a with
      | false => rfl
      | true => exact absurd (List.contains_iff_mem.1 hc) hnp
    have h4 := play_all hF hT suf (pr ++ [a]) (by rw [e]; simp)
    rw [List.map_append, stP_append] at h4
    rw [h1, h2, Int.toNat_natCast, ok_at hF hT e]
    exact h4
theorem fine_of {l : List RT} (hc : checkB l = 0) (hv : ∀ t ∈ l, ∀ w ∈ t.f_Writes, 0 ≤ w.f_Version) : Fine l := by
  obtain ⟨h1, h2⟩ := may_all (check_zero hc)
  have h3 := (check_nd hc).2
  unfold checkB at hc
  rw [if_pos (check_zero (by unfold checkB; exact hc))] at hc
  split at hc
  · rename_i hn
    refine ⟨h3, fun t ht w hw => ?_, hn, (rdC_zero _ _ _ hc).2⟩
    have h5 := h2 t ht
    simp only [wrongB, Bool.or_eq_false_iff] at h5
    have h6 := List.any_eq_false.1 h5.2 w hw
    have := hv t ht w hw
    simp only [beq_iff_eq] at h6
    omega
  · cases hc
theorem play_order {l : List RT} (hc : checkB l = 0) (hv : ∀ t ∈ l, ∀ w ∈ t.f_Writes, 0 ≤ w.f_Version) (hl : (orderN l).length = l.length) : Topo l.length (Eg l) (orderN l) ∧ playB l ((orderN l).map fun (k : Nat) => (k : Int)) = true := by
  have hT : Topo l.length (Eg l) (orderN l) := topo_of (kahn_invA _ _ (InvA.nil _ _)) hl
  refine ⟨hT, ?_⟩
  unfold playB
  rw [check_zero hc, decide_eq_true (by rw [List.length_map]; exact hl)]
  exact play_all (fine_of hc hv) hT (orderN l) [] rfl

/-! The law -/
theorem histCircle_nil {l : List RT} (hl : l.length < 9223372036854775807) (h : (orderB l).2 ≠ 11) : hist_Circle (l.map tt) = some [] := by
  unfold hist_Circle
  rw [histOrder_eq l hl, Option.bind_some, if_pos (by simpa using h)]
theorem sound_inner {l : List RT} {o : List Nat} (hT : Topo l.length (Eg l) o) (ho : o.length ≤ 64) (y : List T_hist_Tx) (c : Int) (i : Nat) (hi : i < o.length) (k0 : Int → Option Bool) :
    parrellaw26_HistSound_l1 l (i : Int) y (o.map fun (k : Nat) => (k : Int), c) k0 big 0 = k0 (IntKind.wrap .i64 ((i : Int) + 1)) := by
  have e : (o.map fun (k : Nat) => (k : Int)).take i = (o.take i).map fun (k : Nat) => (k : Int) := by rw [List.map_take]
  have hlen : (o.take i).length = i := by rw [List.length_take]; omega
  rw [parrellaw26_HistSound_w1 l (i : Int) y _ k0 (by simp only [Int.toNat_natCast]; rw [e, List.length_map]; omega)]
  simp only [Int.toNat_natCast]
  rw [e, List.length_map, hlen]
  have ha : (o.map fun (k : Nat) => (k : Int)).getD i default = ((o.getD i default : Nat) : Int) := getD_map (fun (k : Nat) => (k : Int)) hi
  have hsplit : o = o.take i ++ o.getD i default :: o.drop (i + 1) := by
    conv => lhs; rw [← List.take_append_drop i o]
    rw [List.drop_eq_getElem_cons hi, List.getD_eq_getElem?_getD, List.getElem?_eq_getElem hi]; rfl
  have halt : o.getD i default < l.length := hT.lt _ (getD_mem hi)
  have key : ∀ (n q : Nat), q + n = i → walkN (parrellaw26_HistSound_b1 l (i : Int) (o.map fun (k : Nat) => (k : Int), c) (fun s_ => k0 (IntKind.wrap .i64 ((i : Int) + 1)))) (parrellaw26_HistSound_e1 (fun s_ => k0 (IntKind.wrap .i64 ((i : Int) + 1)))) n q () = k0 (IntKind.wrap .i64 ((i : Int) + 1)) := by
    intro n
    induction n with
    | zero => intro q _; rfl
    | succ n ih =>
      intro q hq
      have hqt : q < (o.take i).length := by omega
      have hb : ((o.map fun (k : Nat) => (k : Int)).take i).getD q default = (((o.take i).getD q default : Nat) : Int) := by rw [e]; exact getD_map (fun (k : Nat) => (k : Int)) hqt
      have hbm := getD_mem hqt
      have hblt : (o.take i).getD q default < l.length := hT.lt _ (List.mem_of_mem_take hbm)
      have hback := hT.back (Eg_irr l) hsplit hbm
      have hr : ∀ k : Unit → Option Bool, parrellaw26_HistSound_b1 l (i : Int) (o.map fun (k : Nat) => (k : Int), c) (fun s_ => k0 (IntKind.wrap .i64 ((i : Int) + 1))) q () k = k () := fun k => by
        unfold parrellaw26_HistSound_b1
        simp only [Int.toNat_natCast, ha, hb]
        rw [if_pos (by omega)]
        split
        · rename_i hend
          rw [if_pos (by omega), if_neg]
          intro hd
          rw [decide_eq_true_eq] at hd
          have hne : o.getD i default ≠ (o.take i).getD q default := fun h => by
            have hnd := hT.nd
            rw [hsplit] at hnd
            exact (List.nodup_append.1 hnd).2.2 _ hbm _ List.mem_cons_self h.symm
          have : Eg l (o.getD i default) ((o.take i).getD q default) = true := Eg_iff.2 ⟨hne, ahead_time (by simpa using hend) hd⟩
          rw [this] at hback; cases hback
        · rfl
      rw [walkN, hr]
      exact ih (q + 1) (by omega)
  exact key i 0 (by omega)
theorem sound_eq (l : List RT) (hs : Sz l) (hv : ∀ t ∈ l, ∀ w ∈ t.f_Writes, 0 ≤ w.f_Version) : parrellaw26_HistSound l = some true := by
  have hl := hs.2
  have hlt : l.length < 9223372036854775807 := by omega
  have hal : (parrellaw26_alive.bind fun y => some y) = some true := by rw [alive_eq]; rfl
  unfold parrellaw26_HistSound
  rw [far_eq, Option.bind_some]
  cases farB l with
  | true => exact hal
  | false =>
    rw [if_neg Bool.false_ne_true, theirs_eq l hs, Option.bind_some, histOrder_eq l hlt, Option.bind_some]
    by_cases hc : checkB l = 0
    · by_cases hn : (orderN l).length < l.length
      · have e : orderB l = ([], 11) := by unfold orderB; rw [if_neg (by simpa using hc), if_pos hn]
        rw [e, if_pos (by decide), if_pos (by decide)]; exact hal
      · have e : orderB l = ((orderN l).map fun (k : Nat) => (k : Int), 0) := by unfold orderB; rw [if_neg (by simpa using hc), if_neg hn]
        obtain ⟨h64, hnd⟩ := check_nd hc
        have hInv := kahn_inv (n := l.length) (E := Eg l) (l.length + 1) [] (Inv.nil _ _)
        have hle : (orderN l).length ≤ l.length := hInv.len
        have hlen : (orderN l).length = l.length := by omega
        obtain ⟨hT, hplay⟩ := play_order hc hv hlen
        rw [e, if_neg (by simp), parrellaw26_HistSound_w0 l _ _ (by rw [List.length_map]; omega)]
        show walkN _ _ ((orderN l).map fun (k : Nat) => (k : Int)).length 0 () = _
        rw [List.length_map]
        have key : ∀ (n i : Nat), i + n = (orderN l).length → walkN (parrellaw26_HistSound_b0 l (l.map tt) ((orderN l).map fun (k : Nat) => (k : Int), 0)) (parrellaw26_HistSound_e0 l (l.map tt) ((orderN l).map fun (k : Nat) => (k : Int), 0)) n i () = some true := by
          intro n
          induction n with
          | zero =>
            intro i _
            show parrellaw26_HistSound_e0 l (l.map tt) ((orderN l).map fun (k : Nat) => (k : Int), 0) () = _
            unfold parrellaw26_HistSound_e0
            simp only
            rw [if_pos (by rw [List.length_map, hlen]; simp), histPlay_eq l _ hlt (by rw [List.length_map]; omega), hplay, Option.bind_some, if_pos rfl, histCircle_nil hlt (by rw [e]; simp), Option.bind_some, if_pos (by decide)]
            exact hal
          | succ n ih =>
            intro i hi
            have hi2 : i < (orderN l).length := by omega
            have ha : ((orderN l).map fun (k : Nat) => (k : Int)).getD i default = (((orderN l).getD i default : Nat) : Int) := getD_map (fun (k : Nat) => (k : Int)) hi2
            have halt : (orderN l).getD i default < l.length := hT.lt _ (getD_mem hi2)
            have hr : ∀ k : Unit → Option Bool, parrellaw26_HistSound_b0 l (l.map tt) ((orderN l).map fun (k : Nat) => (k : Int), 0) i () k = k () := fun k => by
              unfold parrellaw26_HistSound_b0
              simp only [ha, List.length_map]
              rw [if_neg (by rw [decide_eq_true_eq]; omega), if_neg (by rw [decide_eq_true_eq]; omega), if_pos (by omega)]
              exact sound_inner hT (by omega) (l.map tt) 0 i hi2 (fun _ => k ())
            rw [walkN, hr]
            exact ih (i + 1) (by omega)
        exact key _ 0 (by omega)
    · have e : orderB l = ([], checkB l) := by unfold orderB; rw [if_pos hc]
      rw [e, if_pos (by simpa using hc), if_pos (by simp)]; exact hal
theorem sound_law (l : List RT) (h1 : (∀ a ∈ l, wsTx a) ∧ l.length * 64 ≤ 140737488351232) : parrellaw26_HistSound l = some true :=
  sound_eq l (sz_of h1) fun t ht w hw => (wf_u32 ((h1.1 t ht).2.1.1 w hw (.int .u32 w.f_Version) (by simp [c_T_parrelref26_Item]))).1
end Go.Proofs.Ytofkaccoofafmaa.Wk
