/- The law HistSerial: the walk's loops. -/
import Derived.Test.YtofkaccoofafmaaHistT
set_option linter.unusedVariables false
set_option linter.unusedSimpArgs false
set_option linter.unusedSectionVars false
namespace Go.Proofs.Ytofkaccoofafmaa.Wk
open Go Go.Cn
def stS (A : A8 CO) (l : List T_hist_Tx) : CO × CO × CO × CO × CO × CO × CO × CO × List T_hist_Tx := (A.a0, A.a1, A.a2, A.a3, A.a4, A.a5, A.a6, A.a7, l)
def stI (A : A8 CO) (v : List UInt8) (b e : Int) (R W : List RI) : CO × CO × CO × CO × CO × CO × CO × CO × List UInt8 × Int × Int × List T_hist_Item × List T_hist_Item := (A.a0, A.a1, A.a2, A.a3, A.a4, A.a5, A.a6, A.a7, v, b, e, R.map ti, W.map ti)
theorem map_ite {br : Bool} {R : List RI} {x : RI} : (if br then R ++ [x] else R).map ti = if br then R.map ti ++ [ti x] else R.map ti := by cases br <;> simp
theorem ser_b {script : List T_parrellaw26_Do} {t : Nat} (ht : t < 40) (k0 : CO × CO × CO × CO × CO × CO × CO × CO × List T_hist_Tx → Option Bool) {A0 A : A8 CO} {i : Nat} {R W : List RI} (h : Mid A0 A i R W) (hi : i < 8) (hb : ∀ j, j < 8 → 0 ≤ (A0.get j).f_version ∧ (A0.get j).f_version ≤ 120) (v : List UInt8) (b e : Int) :
    ∃ A' R' W', Mid A0 A' (i + 1) R' W' ∧ ∀ k, parrellaw26_HistSerial_b1 script (t : Int) k0 i (stI A v b e R W) k = k (stI A' v b e R' W') := by
  have hg := h.ge i (Nat.le_refl _) hi
  have hbi := hb i hi
  have hm0 : 0 ≤ Int.tmod (t : Int) 3 := Int.tmod_nonneg _ (by omega)
  have hm1 : Int.tmod (t : Int) 3 < 3 := Int.tmod_lt_of_pos _ (by decide)
  have ekey : IntKind.wrap .u8 (IntKind.wrap .i64 ((i : Int) + 1)) = ((i + 1 : Nat) : Int) := by
    rw [w64 (by omega) (by omega), wu8 (by omega) (by omega)]; rfl
  have ever : IntKind.wrap .u32 (IntKind.wrap .u32 ((A.get i).f_version + 1) + Int.tmod (IntKind.wrap .u32 (t : Int)) 3) = (A.get i).f_version + 1 + Int.tmod (t : Int) 3 := by
    rw [hg, wu32 (x := (t : Int)) (by omega) (by omega), wu32 (x := (A0.get i).f_version + 1) (by omega) (by omega), wu32 (by omega) (by omega)]
  have hlr := h.lr
  have hlw := h.lw
  unfold parrellaw26_HistSerial_b1
  simp only [stI]
  generalize ((IntKind.wrap .u8 ((BitVec.ofInt (IntKind.bits .u8) (Int.fdiv ((script.take ((if 40 < ((script).length : Int) then 40 else ((script).length : Int))).toNat).getD ((t : Nat) : Int).toNat default).f_Reads (2 ^ (min (Int.toNat (i : Int)) (IntKind.bits .u8)))) &&& BitVec.ofInt (IntKind.bits .u8) 1).toNat : Int)) == 1) = br
  generalize ((IntKind.wrap .u8 ((BitVec.ofInt (IntKind.bits .u8) (Int.fdiv ((script.take ((if 40 < ((script).length : Int) then 40 else ((script).length : Int))).toNat).getD ((t : Nat) : Int).toNat default).f_Writes (2 ^ (min (Int.toNat (i : Int)) (IntKind.bits .u8)))) &&& BitVec.ofInt (IntKind.bits .u8) 1).toNat : Int)) == 1) = bw
  have eA : A8.mk A.a0 A.a1 A.a2 A.a3 A.a4 A.a5 A.a6 A.a7 = A := rfl
  simp only [eA, ekey, ever]
  have hx := h.step hi br bw ⟨(A.get i).f_version + 1 + Int.tmod (t : Int) 3, v⟩ (by constructor <;> (show _ ; simp only; omega))
  have egs : (A.set (⟨(A.get i).f_version + 1 + Int.tmod (t : Int) 3, v⟩ : CO) i).get i = ⟨(A.get i).f_version + 1 + Int.tmod (t : Int) 3, v⟩ := by rw [get_set A _ hi hi, if_pos rfl]
  refine ⟨_, _, _, hx, fun k => ?_⟩
  have c1 : (R.map ti).length + 1 ≤ 10 := by rw [List.length_map]; omega
  have c2 : (W.map ti).length + 1 ≤ 10 := by rw [List.length_map]; omega
  simp only [List.length_singleton, map_ite]
  rw [if_pos (by omega)]
  cases br with
  | true =>
    rw [if_pos rfl, if_pos (by omega)]
    cases bw with
    | true => rw [if_pos rfl, if_pos (by omega), egs]; rfl
    | false => rw [if_neg Bool.false_ne_true]; rfl
  | false =>
    rw [if_neg Bool.false_ne_true]
    cases bw with
    | true => rw [if_pos rfl, if_pos (by omega), egs]; rfl
    | false => rw [if_neg Bool.false_ne_true]; rfl
theorem ser_loop {script : List T_parrellaw26_Do} {t : Nat} (ht : t < 40) (k0 : CO × CO × CO × CO × CO × CO × CO × CO × List T_hist_Tx → Option Bool) {A0 : A8 CO} (hb : ∀ j, j < 8 → 0 ≤ (A0.get j).f_version ∧ (A0.get j).f_version ≤ 120) (v : List UInt8) (b e : Int) (L : List RT) (hL : L.length ≤ 40) :
    ∃ A' R W, Mid A0 A' 8 R W ∧ walkN (parrellaw26_HistSerial_b1 script (t : Int) k0) (parrellaw26_HistSerial_e1 (L.map tt) k0) 8 0 (stI A0 v b e [] []) = k0 (stS A' ((L ++ [(⟨R, W, b, e⟩ : RT)]).map tt)) := by
  have key : ∀ (n i : Nat) (A : A8 CO) (R W : List RI), i + n = 8 → Mid A0 A i R W → ∃ A' R' W', Mid A0 A' 8 R' W' ∧ walkN (parrellaw26_HistSerial_b1 script (t : Int) k0) (parrellaw26_HistSerial_e1 (L.map tt) k0) n i (stI A v b e R W) = k0 (stS A' ((L ++ [(⟨R', W', b, e⟩ : RT)]).map tt)) := by
    intro n
    induction n with
    | zero =>
      intro i A R W hi h
      have : i = 8 := by omega
      subst this
      refine ⟨A, R, W, h, ?_⟩
      show parrellaw26_HistSerial_e1 (L.map tt) k0 (stI A v b e R W) = _
      unfold parrellaw26_HistSerial_e1
      rw [if_pos (by rw [List.length_map, List.length_singleton]; omega), List.map_append]
      rfl
    | succ n ih =>
      intro i A R W hi h
      obtain ⟨A', R', W', h', e'⟩ := ser_b (script := script) ht k0 h (by omega) hb v b e
      rw [walkN, e']
      exact ih (i + 1) A' R' W' (by omega) h'
  exact key 8 0 A0 [] [] rfl (Mid.nil A0)
theorem ser_round {script : List T_parrellaw26_Do} (turn : Int) (times : Bool) {t : Nat} (ht : t < 40) {L : List RT} {A : A8 CO} (h : Chain L A) (hL : L.length = t) (k : CO × CO × CO × CO × CO × CO × CO × CO × List T_hist_Tx → Option Bool) :
    parrellaw26_HistSerial_b0 script turn times t (stS A (L.map tt)) k = some true ∨ ∃ L' A', Chain L' A' ∧ L'.length = t + 1 ∧ parrellaw26_HistSerial_b0 script turn times t (stS A (L.map tt)) k = k (stS A' (L'.map tt)) := by
  have hal : (parrellaw26_alive.bind fun y => some y) = some true := by rw [alive_eq]; rfl
  have hb : ∀ j, j < 8 → 0 ≤ (A.get j).f_version ∧ (A.get j).f_version ≤ 120 := fun j hj => by have := h.vb j hj; omega
  unfold parrellaw26_HistSerial_b0
  generalize ((script.take ((if 40 < ((script).length : Int) then 40 else ((script).length : Int))).toNat).getD t default) = d
  split
  · exact .inl hal
  · refine .inr ?_
    cases times with
    | true =>
      have e1 : IntKind.wrap .i64 (IntKind.wrap .i64 (2 * (t : Int)) + 1) = 2 * (t : Int) + 1 := by rw [w64 (x := 2 * (t : Int)) (by omega) (by omega), w64 (by omega) (by omega)]
      have e2 : IntKind.wrap .i64 (IntKind.wrap .i64 (2 * (t : Int)) + 2) = 2 * (t : Int) + 2 := by rw [w64 (x := 2 * (t : Int)) (by omega) (by omega), w64 (by omega) (by omega)]
      rw [if_pos rfl, e1, e2]
      obtain ⟨A', R, W, hm, e3⟩ := ser_loop (script := script) ht (fun s => k s) hb d.f_Value (2 * (t : Int) + 1) (2 * (t : Int) + 2) L (by omega)
      refine ⟨L ++ [(⟨R, W, 2 * (t : Int) + 1, 2 * (t : Int) + 2⟩ : RT)], A', h.step hm (.inr (by omega)) (by omega), by rw [List.length_append, List.length_singleton, hL], ?_⟩
      rw [parrellaw26_HistSerial_w1 script turn true (t : Int) _ _ _ _ _ _ _ _ _ _ _ _ _ _ _ (by decide)]
      exact e3
    | false =>
      rw [if_neg Bool.false_ne_true]
      obtain ⟨A', R, W, hm, e3⟩ := ser_loop (script := script) ht (fun s => k s) hb d.f_Value 0 0 L (by omega)
      refine ⟨L ++ [(⟨R, W, 0, 0⟩ : RT)], A', h.step hm (.inl rfl) (by omega), by rw [List.length_append, List.length_singleton, hL], ?_⟩
      rw [parrellaw26_HistSerial_w1 script turn false (t : Int) _ _ _ _ _ _ _ _ _ _ _ _ _ _ _ (by decide)]
      exact e3
theorem ser_tail (turn : Int) (h0 : 0 ≤ turn) (h1 : turn < 256) {L : List RT} {A : A8 CO} (h : Chain L A) (hl : L.length ≤ 40) : parrellaw26_HistSerial_e0 turn (stS A (L.map tt)) = some true := by
  have hal : (parrellaw26_alive.bind fun y => some y) = some true := by rw [alive_eq]; rfl
  unfold parrellaw26_HistSerial_e0
  simp only [stS, List.length_map]
  by_cases hz : L.length = 0
  · rw [if_pos (by rw [hz]; rfl)]; exact hal
  · rw [if_neg (by rw [beq_iff_eq]; omega), if_pos (by omega), w64 (x := turn) (by omega) (by omega)]
    obtain ⟨k, hk⟩ : ∃ k : Nat, (k : Int) = Int.tmod turn (L.length : Int) := ⟨(Int.tmod turn (L.length : Int)).toNat, Int.toNat_of_nonneg (Int.tmod_nonneg _ h0)⟩
    have hkl : k < L.length := by
      have := Int.tmod_lt_of_pos turn (b := (L.length : Int)) (by omega)
      omega
    rw [← hk, Int.toNat_natCast]
    have hdl : ((L.map tt).drop k).length = L.length - k := by rw [List.length_drop, List.length_map]
    have htl : ((L.map tt).take k).length = k := by rw [List.length_take, List.length_map]; omega
    rw [if_pos (by omega), if_pos (by omega), if_pos (by omega), if_pos (by omega)]
    have eL : (L.map tt).drop k ++ (L.map tt).take k = (L.drop k ++ L.take k).map tt := by rw [List.map_append, List.map_drop, List.map_take]
    obtain ⟨hc, ho, hv⟩ := turned h (by omega) k (by omega)
    have hlen : (L.drop k ++ L.take k).length = L.length := by rw [List.length_append, List.length_drop, List.length_take]; omega
    have eo : orderB (L.drop k ++ L.take k) = ((orderN (L.drop k ++ L.take k)).map fun (k : Nat) => (k : Int), 0) := by
      unfold orderB
      rw [if_neg (by simpa using hc), if_neg (by omega)]
    obtain ⟨_, hplay⟩ := play_order hc hv (by omega)
    rw [eL, histOrder_eq _ (by omega), Option.bind_some, eo, if_pos (by simp), if_pos (by rw [List.length_map, ho]; simp), histPlay_eq _ _ (by omega) (by rw [List.length_map]; omega), hplay, Option.bind_some, if_pos rfl]
    exact hal
theorem serial_eq (script : List T_parrellaw26_Do) (turn : Int) (times : Bool) (h0 : 0 ≤ turn) (h1 : turn < 256) : parrellaw26_HistSerial script turn times = some true := by
  have hmin : (if 40 < (script.length : Int) then (40 : Int) else (script.length : Int)) = ((min script.length 40 : Nat) : Int) := by split <;> omega
  have hlen : (script.take ((if 40 < (script.length : Int) then (40 : Int) else (script.length : Int))).toNat).length ≤ 40 := by rw [hmin, Int.toNat_natCast, List.length_take]; omega
  unfold parrellaw26_HistSerial
  rw [if_pos (by rw [hmin]; omega), parrellaw26_HistSerial_w0 script turn times _ _ _ _ _ _ _ _ _ (by omega)]
  have key : ∀ (n i : Nat) (L : List RT) (A : A8 CO), i + n ≤ 40 → L.length = i → Chain L A → walkN (parrellaw26_HistSerial_b0 script turn times) (parrellaw26_HistSerial_e0 turn) n i (stS A (L.map tt)) = some true := by
    intro n
    induction n with
    | zero => intro i L A hi hL h; exact ser_tail turn h0 h1 h (by omega)
    | succ n ih =>
      intro i L A hi hL h
      rw [walkN]
      rcases ser_round (script := script) turn times (t := i) (by omega) h hL (walkN (parrellaw26_HistSerial_b0 script turn times) (parrellaw26_HistSerial_e0 turn) n (i + 1)) with e | ⟨L', A', h', hL', e⟩
      · exact e
      · rw [e]; exact ih (i + 1) L' A' (by omega) hL' h'
  exact key _ 0 [] A00 (by omega) rfl Chain.nil
theorem serial_law (script : List T_parrellaw26_Do) (turn : Int) (times : Bool) (_ : (∀ a ∈ script, wfL (c_T_parrellaw26_Do a)) ∧ script.length * 24 ≤ 140737488351232) (h : (Lit.int .u8 turn).wf = true) (_ : True) : parrellaw26_HistSerial script turn times = some true := by
  have := wf_u8 (n := turn) h
  exact serial_eq script turn times this.1 this.2
end Go.Proofs.Ytofkaccoofafmaa.Wk
