/- Plain facts: no more than 64 keys; the newest is there at last. -/
import Derived.Test.YtdmdjklgdaiimaaDoorItemL
set_option linter.unusedVariables false
set_option linter.unusedSimpArgs false
set_option linter.unusedSectionVars false
namespace Go.Proofs.YtdmdjklgdaiimaaDoor.Wk
open Go Go.Cn
open Go.Proofs.YtdmdjklgdaiimaaDoor.Ri (Rises pre suf at_ Pair)

def itm (v : Int) (s : List UInt8) : T_api_Item := T_api_Item.mk v s conf1
theorem mayConf1 : mayV conf1 = true := by decide
theorem mayItm {v : Int} {s : List UInt8} (hv : v ≤ 255) (hs : s.length ≤ 64) : mayI (itm v s) = true := by
  unfold mayI
  have h1 : decide ((itm v s).f_Version ≤ 2147483647) = true := decide_eq_true (show v ≤ 2147483647 by omega)
  have h2 : decide ((itm v s).f_Value.length ≤ 64) = true := decide_eq_true hs
  rw [h1, h2, show (itm v s).f_Conf = conf1 from rfl, mayConf1]; rfl
theorem wfItm {v : Int} (s : List UInt8) (h0 : 0 ≤ v) (hv : v ≤ 255) : WfI (itm v s) := ⟨by simp only [itm]; omega, wfV1⟩
theorem one_eq (v : Int) (s : List UInt8) : parrellaw13_one v s = some (itm v s) := rfl

/-! ItemFull -/
def keyN (i : Nat) : A8 Int := A8.mk 107 ((i + 1 : Nat) : Int) 0 0 0 0 0 0
theorem keyN_wf {i : Nat} (h : i < 80) : wfK (keyN i) := by
  intro x hx; simp only [keyN, A8.list, List.mem_cons, List.not_mem_nil, or_false] at hx; omega
theorem keyN_name : ∀ i : Nat, i < 80 → (ids_Name (keyN i)).map (·.2) = some true := by decide +kernel
theorem keyN_may {i : Nat} (h : i < 80) : mayK (keyN i) = true := by
  obtain ⟨s, h1, _⟩ := mayK_eq (keyN i) (keyN_wf h)
  have := keyN_name i h
  rw [h1] at this
  exact Option.some.inj this
theorem keyN_inj {i j : Nat} (h : keyN i = keyN j) : i = j := by
  have := congrArg A8.a1 h
  simp only [keyN] at this
  omega
def wN (i : Nat) : T_api_Write := ⟨keyN i, itm 1 []⟩
theorem wN_wf {i : Nat} (h : i < 80) : WfW (wN i) := ⟨keyN_wf h, wfItm _ (by decide) (by decide)⟩
structure FullI (i : Nat) (m : List (A8 Int × T_api_Item)) (L : List T_api_Write) : Prop where
  both : Both L m
  len : L.length = min i 64
  keys : ∀ w ∈ L, ∃ j, j < i ∧ w.f_Key = keyN j
  one : 0 < i → wN 0 ∈ L
theorem full_step {i : Nat} {m : List (A8 Int × T_api_Item)} {L : List T_api_Write} (h : FullI i m L) (hi : i < 80) :
    ∃ m' L', FullI (i + 1) m' L' ∧ item_Table_Install m (keyN i) (itm 1 []) = some (if i < 64 then 0 else 5, m') := by
  obtain ⟨m', h1, h2⟩ := h.both.install (wN_wf hi)
  have hm : (mayK (wN i).f_Key && mayI (wN i).f_Item) = true := by
    show (mayK (keyN i) && mayI (itm 1 [])) = true
    rw [keyN_may hi, mayItm (by decide) (by decide)]; rfl
  have hn : at_ cfK kfW L (wN i).f_Key = none := (Ri.at_none cfK_total h.both.inv.rises).2 fun x hx e => by
    obtain ⟨j, hj, e2⟩ := h.keys x hx
    have e1 : x.f_Key = keyN i := e
    have := keyN_inj (e2.symm.trans e1)
    omega
  have hlen := h.len
  have hins : ins L (wN i) = if 64 ≤ L.length then (5, L) else (0, (pre cfK kfW L (wN i).f_Key ++ [wN i]) ++ suf cfK kfW L (wN i).f_Key) := by
    unfold ins; rw [hm, hn]; simp
  by_cases h64 : i < 64
  · rw [if_neg (by omega)] at hins
    rw [hins] at h1 h2
    have hp := Ri.ins_perm (cf := cfK) (kf := kfW) L (wN i).f_Key (wN i)
    refine ⟨m', _, ⟨h2, ?_, fun w hw => ?_, fun _ => ?_⟩, by rw [if_pos h64]; exact h1⟩
    · show ((pre cfK kfW L (wN i).f_Key ++ [wN i]) ++ suf cfK kfW L (wN i).f_Key).length = _
      rw [hp.length_eq, List.length_cons]; omega
    · rcases List.mem_cons.1 (hp.mem_iff.1 hw) with rfl | hw
      · exact ⟨i, by omega, rfl⟩
      · obtain ⟨j, hj, e⟩ := h.keys w hw
        exact ⟨j, by omega, e⟩
    · refine hp.mem_iff.2 ?_
      by_cases h0 : i = 0
      · subst h0; exact List.mem_cons_self
      · exact List.mem_cons_of_mem _ (h.one (by omega))
  · rw [if_pos (by omega)] at hins
    rw [hins] at h1 h2
    refine ⟨m', L, ⟨h2, by omega, fun w hw => ?_, fun _ => h.one (by omega)⟩, by rw [if_neg h64]; exact h1⟩
    obtain ⟨j, hj, e⟩ := h.keys w hw
    exact ⟨j, by omega, e⟩
theorem full_b {i : Nat} {m m' : List (A8 Int × T_api_Item)} (hi : i < 80) (h : item_Table_Install m (keyN i) (itm 1 []) = some (if i < 64 then 0 else 5, m')) (k : List (A8 Int × T_api_Item) → Option Bool) :
    parrellaw13_ItemFull_b0 i m k = k m' := by
  have e : IntKind.wrap .u8 (IntKind.wrap .i64 ((i : Int) + 1)) = ((i + 1 : Nat) : Int) := by
    rw [w64 (by omega) (by omega), wu8 (by omega) (by omega)]; rfl
  unfold parrellaw13_ItemFull_b0
  rw [one_eq, Option.bind_some, e]
  show (item_Table_Install m (keyN i) (itm 1 [])).bind _ = _
  rw [h, Option.bind_some]
  by_cases h64 : i < 64
  · have h65 : decide ((i : Int) < 64) = true := by simp; omega
    rw [if_pos h64, h65]; rfl
  · have h65 : decide ((i : Int) < 64) = false := by simp; omega
    rw [if_neg h64, h65]; rfl
theorem full_eq (many : Int) (x : T_api_Write) (h0 : 0 ≤ many) (h1 : many < 256) : parrellaw13_ItemFull many x = some true := by
  have hnew : item_New = some [] := rfl
  unfold parrellaw13_ItemFull
  rw [hnew, Option.bind_some]
  by_cases hv : 1000 < (x.f_Item.f_Value.length : Int)
  · rw [if_pos (by simpa using hv)]; exact alive_tail
  · rw [if_neg (by simpa using hv)]
    obtain ⟨n, hn⟩ : ∃ n : Nat, (n : Int) = Int.tmod (IntKind.wrap .i64 many) 80 := by
      rw [w64 (by omega) (by omega)]
      exact ⟨(Int.tmod many 80).toNat, by rw [Int.toNat_of_nonneg (Int.tmod_nonneg _ h0)]⟩
    have hn80 : n < 80 := by
      have := Int.tmod_lt_of_pos (IntKind.wrap .i64 many) (b := 80) (by decide)
      omega
    have hnat : (Int.tmod (IntKind.wrap .i64 many) 80).toNat = n := by rw [← hn, Int.toNat_natCast]
    rw [parrellaw13_ItemFull_w0 many x [] (by rw [hnat]; omega), hnat]
    refine Ri.walkN_inv (fun i m => ∃ L, FullI i m L) n (fun i m hi hm => ?_) (fun m hm => ?_) [] ⟨[], ⟨both_nil, rfl, (fun _ h => nomatch h), fun h => absurd h (by decide)⟩⟩
    · obtain ⟨L, hL⟩ := hm
      obtain ⟨m', L', h2, h3⟩ := full_step hL (by omega)
      exact ⟨m', ⟨L', h2⟩, fun k => full_b (by omega) h3 k⟩
    · obtain ⟨L, hL⟩ := hm
      have hmin : (if 64 < (n : Int) then (64 : Int) else (n : Int)) = ((min n 64 : Nat) : Int) := by split <;> omega
      have g1 : ∀ k, item_Table_Get_2 k = some (T_api_Item.mk 0 [] (T_api_Config.mk 0 0 0 (A8.mk 0 0 0 0 0 0 0 0))) := fun _ => rfl
      have g2 : ∀ k, item_Table_Get_3 k = some (T_api_Item.mk 0 [] (T_api_Config.mk 0 0 0 (A8.mk 0 0 0 0 0 0 0 0))) := fun _ => rfl
      have g3 : ∀ k i, item_Table_Install_2 k i = some () := fun _ _ => rfl
      have g4 : ∀ k i, item_Table_Install_3 k i = some () := fun _ _ => rfl
      have g5 : item_Table_All_2 = some [] := rfl
      have g6 : item_Table_All_3 = some [] := rfl
      have g7 : item_Table_Len_2 = some 0 := rfl
      have g8 : item_Table_Len_3 = some 0 := rfl
      have g9 : ∀ m, item_Table_Merge m = some () := fun _ => rfl
      have g10 : ∀ m, item_Table_Merge_2 m = some () := fun _ => rfl
      unfold parrellaw13_ItemFull_e0
      rw [← hn]
      by_cases hz : n = 0
      · rw [if_neg (by simp; omega), hmin, hL.both.len, hL.len]
        simp only [g1, g2, g3, g4, g5, g6, g7, g8, g9, g10, alive_eq, Option.bind_some, List.length_nil, Int.natCast_zero, bne_self_eq_false, Bool.false_eq_true, if_false, decide_true, Bool.not_true]
      · have hmem := hL.one (by omega)
        have hat : at_ cfK kfW L (keyN 0) = some (wN 0) := Ri.at_some (kf := kfW) cfK_total hL.both.inv.rises hmem rfl
        have hwf : WfW ⟨keyN 0, itm 2 []⟩ := ⟨keyN_wf (by decide), wfItm _ (by decide) (by decide)⟩
        have hm : (mayK (keyN 0) && mayI (itm 2 [])) = true := by rw [keyN_may (by decide), mayItm (by decide) (by decide)]; rfl
        obtain ⟨m', e1, e2⟩ := hL.both.install hwf
        have hins : ins L ⟨keyN 0, itm 2 []⟩ = (0, L.set (pre cfK kfW L (keyN 0)).length ⟨keyN 0, itm 2 []⟩) := by
          unfold ins
          simp only [hm, hat, Bool.true_eq_false, if_false]
          rw [if_neg (by simp [itm, wN]), if_neg (by simp [itm, wN])]
        rw [hins] at e1 e2
        have hlen : (L.set (pre cfK kfW L (keyN 0)).length (⟨keyN 0, itm 2 []⟩ : T_api_Write)).length = min n 64 := by rw [List.length_set]; exact hL.len
        have e3 := e2.len
        rw [hlen] at e3
        have e1' : item_Table_Install m (A8.mk 107 1 0 0 0 0 0 0) (itm 2 []) = some (0, m') := e1
        rw [if_pos (by simp; omega), hmin, one_eq, Option.bind_some, e1', Option.bind_some]
        simp only [e3, g1, g2, g3, g4, g5, g6, g7, g8, g9, g10, alive_eq, Option.bind_some, List.length_nil, Int.natCast_zero, bne_self_eq_false, Bool.false_eq_true, if_false, decide_true, Bool.not_true]

/-! ItemLast -/
def mx : List Int → Int
  | [] => 0
  | x :: l => max x (mx l)
theorem mx_snoc (l : List Int) (x : Int) (hx : 0 ≤ x) : mx (l ++ [x]) = max (mx l) x := by
  induction l with
  | nil => simp only [List.nil_append, mx]; omega
  | cons a l ih => simp only [List.cons_append, mx, ih]; omega
theorem mx_bound (l : List Int) (h : ∀ x ∈ l, 0 ≤ x ∧ x < 256) : 0 ≤ mx l ∧ mx l < 256 := by
  induction l with
  | nil => simp [mx]
  | cons a l ih =>
    have h1 := h a List.mem_cons_self
    have h2 := ih fun x hx => h x (List.mem_cons_of_mem _ hx)
    simp only [mx]; omega
def iaOf (top : Int) : T_api_Item := if top = 0 then itm 0 [] else itm top (strI [top])
def bOf (k : A8 Int) (j : Nat) (tb : Int) : List (A8 Int × T_api_Item) := if j = 0 then [] else [(k, itm tb (strI [tb]))]
theorem mayItm1 {v : Int} (s : Int) (h : v < 256) : mayI (itm v (strI [s])) = true := mayItm (by omega) (by simp [strI])
theorem inst1 {k : A8 Int} (hk : wfK k) (hm : mayK k = true) {v s : Int} (h0 : 0 ≤ v) (h : v < 256) (m : List (A8 Int × T_api_Item)) :
    item_Table_Install m k (itm v (strI [s])) = match mget m k with
      | none => if m.length = 64 then some ((5 : Int), m) else some (0, mset m k (itm v (strI [s])))
      | some x => if v < x.f_Version then some (13, m) else if x.f_Version = v ∧ x ≠ itm v (strI [s]) then some (7, m) else some (0, mset m k (itm v (strI [s]))) := by
  rw [install_raw (may_eq hk (wfItm _ h0 (by omega))), hm, mayItm1 s h]
  rfl
theorem mget1 (k : A8 Int) (x : T_api_Item) : mget [(k, x)] k = some x := by simp [mget]
theorem mset1 (k : A8 Int) (x y : T_api_Item) : mset [(k, x)] k y = [(k, y)] := by simp [mset]
theorem strI_inj0 : itm 0 [] ≠ itm 0 (strI [0]) := by decide
theorem stepA {k : A8 Int} (hk : wfK k) (hm : mayK k = true) {top x : Int} (ht : 0 ≤ top) (hx : 0 ≤ x ∧ x < 256) :
    ∃ c, item_Table_Install [(k, iaOf top)] k (itm x (strI [x])) = some (c, [(k, iaOf (max top x))]) := by
  rw [inst1 hk hm hx.1 hx.2, mget1]
  have hv : (iaOf top).f_Version = top := by unfold iaOf; split <;> simp [itm, *]
  simp only [hv, mset1]
  by_cases h1 : x < top
  · rw [if_pos h1, Int.max_eq_left (by omega)]; exact ⟨_, rfl⟩
  · rw [if_neg h1]
    by_cases h2 : top = x
    · subst h2
      rw [Int.max_self]
      by_cases h3 : top = 0
      · subst h3
        rw [if_pos ⟨rfl, strI_inj0⟩]; exact ⟨_, rfl⟩
      · have e : iaOf top = itm top (strI [top]) := by unfold iaOf; rw [if_neg h3]
        rw [e, if_neg (fun hh => hh.2 rfl)]; exact ⟨_, rfl⟩
    · rw [if_neg (fun hh => h2 hh.1), Int.max_eq_right (by omega)]
      have e : iaOf x = itm x (strI [x]) := by unfold iaOf; rw [if_neg (by omega)]
      rw [e]; exact ⟨_, rfl⟩
theorem stepB {k : A8 Int} (hk : wfK k) (hm : mayK k = true) {j : Nat} {tb y : Int} (h0 : j = 0 → tb = 0) (hy : 0 ≤ y ∧ y < 256) :
    ∃ c, item_Table_Install (bOf k j tb) k (itm y (strI [y])) = some (c, bOf k (j + 1) (max y tb)) := by
  rw [inst1 hk hm hy.1 hy.2]
  unfold bOf
  by_cases hj : j = 0
  · have := h0 hj
    subst this
    have e : ∀ x, (if j + 1 = 0 then [] else [(k, x)] : List (A8 Int × T_api_Item)) = [(k, x)] := fun x => if_neg (by omega)
    rw [if_pos hj, e, Int.max_eq_left (by omega)]
    exact ⟨0, rfl⟩
  · have e : ∀ x, (if j + 1 = 0 then [] else [(k, x)] : List (A8 Int × T_api_Item)) = [(k, x)] := fun x => if_neg (by omega)
    rw [if_neg hj, e, mget1]
    simp only [mset1, show ∀ s, (itm tb s).f_Version = tb from fun _ => rfl]
    by_cases h1 : y < tb
    · rw [if_pos h1, Int.max_eq_right (by omega)]; exact ⟨_, rfl⟩
    · rw [if_neg h1]
      by_cases h2 : tb = y
      · subst h2
        rw [if_neg (fun hh => hh.2 rfl), Int.max_self]; exact ⟨_, rfl⟩
      · rw [if_neg (fun hh => h2 hh.1), Int.max_eq_left (by omega)]; exact ⟨_, rfl⟩
theorem last_b {v : List Int} {k : A8 Int} (hk : wfK k) (hm : mayK k = true) (hv : ∀ x ∈ v, 0 ≤ x ∧ x < 256) (hl : v.length ≤ 50) {t : Nat} (ht : t < v.length) (kk : Int × List (A8 Int × T_api_Item) × List (A8 Int × T_api_Item) → Option Bool) :
    parrellaw13_ItemLast_b0 v k t (mx (v.take t), [(k, iaOf (mx (v.take t)))], bOf k t (mx (v.drop (v.length - t)))) kk =
      kk (mx (v.take (t + 1)), [(k, iaOf (mx (v.take (t + 1))))], bOf k (t + 1) (mx (v.drop (v.length - (t + 1))))) := by
  have hw : IntKind.wrap .i64 ((IntKind.wrap .i64 ((v.length : Int) - 1)) - (t : Int)) = ((v.length - (t + 1) : Nat) : Int) := by
    rw [w64 (x := (v.length : Int) - 1) (by omega) (by omega), w64 (by omega) (by omega)]; omega
  have hlt2 : v.length - (t + 1) < v.length := by omega
  have hx := hv _ (getD_mem ht)
  have hy := hv _ (getD_mem hlt2)
  have htk : v.take (t + 1) = v.take t ++ [v.getD t default] := take_succ' v t default ht
  have hdr : v.drop (v.length - (t + 1)) = v.getD (v.length - (t + 1)) default :: v.drop (v.length - t) := by
    rw [getD_drop v _ default hlt2]
    congr 2
    omega
  have hb := mx_bound (v.take t) fun x hx => hv x (List.mem_of_mem_take hx)
  obtain ⟨c1, a1⟩ := stepA hk hm hb.1 hx
  obtain ⟨c2, a2⟩ := stepB (j := t) (tb := mx (v.drop (v.length - t))) hk hm (fun h => by subst h; rw [Nat.sub_zero, List.drop_length]; rfl) hy
  unfold parrellaw13_ItemLast_b0
  rw [hw, if_pos (by omega), Int.toNat_natCast]
  simp only [one_eq, Option.bind_some]
  rw [wu32 hx.1 (by omega), wu32 hy.1 (by omega), wu8 hy.1 hy.2, a1, Option.bind_some, a2, Option.bind_some, htk, mx_snoc _ _ hx.1, hdr]
  have e : (if v.getD t default > mx (v.take t) then v.getD t default else mx (v.take t)) = max (mx (v.take t)) (v.getD t default) := by split <;> omega
  rw [e]; rfl
theorem last_eq (v : List Int) (k : A8 Int) (hk : wfK k) (hv : ∀ x ∈ v, 0 ≤ x ∧ x < 256) : parrellaw13_ItemLast v k = some true := by
  have hnew : item_New = some [] := rfl
  have hwf : WfI (itm 0 []) := wfItm _ (by decide) (by decide)
  have hmay : mayI (itm 0 []) = true := mayItm (by decide) (by decide)
  unfold parrellaw13_ItemLast
  by_cases hl : 50 < (v.length : Int)
  · rw [if_pos (by simpa using hl)]; exact alive_tail
  · rw [if_neg (by simpa using hl), hnew]
    simp only [Option.bind_some, one_eq]
    have hi := install_raw (m := []) (may_eq hk hwf)
    rw [hmay, Bool.and_true] at hi
    cases hm : mayK k with
    | false =>
      rw [hm, if_pos rfl] at hi
      rw [hi, Option.bind_some, if_pos (by decide), Option.bind_some, if_pos (by decide), both_nil.len, Option.bind_some, if_pos (by decide)]
      exact alive_tail
    | true =>
      rw [hm, if_neg (by simp)] at hi
      have hi2 : item_Table_Install [] k (itm 0 []) = some (0, [(k, itm 0 [])]) := hi
      rw [hi2, Option.bind_some, if_neg (by simp), parrellaw13_ItemLast_w0 v k 0 _ _ (by omega)]
      refine Ri.walkN_inv (fun t s => s = (mx (v.take t), [(k, iaOf (mx (v.take t)))], bOf k t (mx (v.drop (v.length - t))))) v.length (fun t s ht hs => ?_) (fun s hs => ?_) _ ?_
      · subst hs
        exact ⟨_, rfl, fun kk => last_b hk hm hv (by omega) ht kk⟩
      · subst hs
        rw [List.take_length, Nat.sub_self, List.drop_zero]
        have hb := mx_bound v hv
        have e1 : item_Table_Get [(k, iaOf (mx v))] k = some (iaOf (mx v), true) := by
          unfold item_Table_Get item_Table_ok; rw [mget1]; rfl
        have hver : (iaOf (mx v)).f_Version = mx v := by unfold iaOf; split <;> simp [itm, *]
        unfold parrellaw13_ItemLast_e0
        simp only
        rw [e1, Option.bind_some]
        by_cases hz : v.length = 0
        · have e2 : item_Table_Get (bOf k v.length (mx v)) k = some (default, false) := by
            unfold item_Table_Get item_Table_ok bOf; rw [if_pos hz]; rfl
          rw [e2, Option.bind_some]
          simp [hz, hver, alive_eq]
        · have e2 : item_Table_Get (bOf k v.length (mx v)) k = some (itm (mx v) (strI [mx v]), true) := by
            unfold item_Table_Get item_Table_ok bOf; rw [if_neg hz, mget1]; rfl
          have hpos : decide (0 < (v.length : Int)) = true := by simp; omega
          rw [e2, Option.bind_some, hpos]
          by_cases ht : mx v = 0
          · have h4 : (iaOf 0).f_Version = 0 := rfl
            simp [h4, alive_eq, ht, itm]
          · have e3 : iaOf (mx v) = itm (mx v) (strI [mx v]) := by unfold iaOf; rw [if_neg ht]
            rw [e3]
            simp [alive_eq, itm]
      · rw [List.take_zero, Nat.sub_zero, List.drop_length]; rfl

theorem full_law (many : Int) (x : T_api_Write) (h1 : (Lit.int .u8 many).wf = true) (h2 : wfL (c_T_api_Write x)) : parrellaw13_ItemFull many x = some true := by
  have := wf_u8 (n := many) h1
  exact full_eq many x this.1 this.2
theorem last_law (v : List Int) (k : A8 Int) (h1 : (∀ a ∈ v, wfL (cInt .u8 a)) ∧ v.length * 1 ≤ 140737488351232) (h2 : wfL (kc k)) : parrellaw13_ItemLast v k = some true :=
  last_eq v k (wfK_of k h2) fun x hx => wf_u8 (h1.1 x hx (.int .u8 x) List.mem_cons_self)
end Go.Proofs.YtdmdjklgdaiimaaDoor.Wk
