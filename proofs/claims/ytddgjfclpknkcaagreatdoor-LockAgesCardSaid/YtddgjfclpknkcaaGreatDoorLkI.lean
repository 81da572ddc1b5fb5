import Derived.Test.YtddgjfclpknkcaaGreatDoorLkH
set_option linter.unusedVariables false
set_option linter.unusedSimpArgs false
set_option linter.unusedSectionVars false
namespace Go.Proofs.YtddgjfclpknkcaaGreatDoor.Wk
open Go Go.Cn
def queue (us : Us) (wt : Ps) (k : Ky) : List Tx := srt (ka us) (atL wt k)
theorem queue_eq {us : Us} {hd wt : Ps} {n : Nat} (ho : Ok us hd wt n) (k : Ky) : lT_Queue us hd wt k = some (queue us wt k) := by
 have zh := ho.nh; have zn := ho.nn; have z64 := ho.wt64 k
 rw [lT_Queue, lT_ok, Option.bind_some, at_eq wt k (by omega), Option.bind_some, lT_Queue_c4]
 refine agreeB_eq fun l hl => ?_
 have hp := Bag.exact hl
 have hlen := hp.length_eq
 have hu : ∀ x ∈ l, (mget us x).isSome = true := fun x hx => wt_user ho (hp.mem_iff.1 hx)
 rw [sortA (by omega) hu (fun x hx y hy e => ho.inj (hu x hx) (hu y hy) e), Option.bind_some, if_pos (srt_len _ _).symm, srt_eq ho hp hu]; rfl
theorem queue_mem {us : Us} {wt : Ps} {k : Ky} {x : Tx} : x ∈ queue us wt k ↔ x ∈ atL wt k := (srt_perm _ _).mem_iff
theorem queue_len {us : Us} {hd wt : Ps} {n : Nat} (ho : Ok us hd wt n) (k : Ky) : (queue us wt k).length ≤ 64 := by
 rw [queue, srt_len]; exact ho.wt64 k
theorem queue_lt {us : Us} {hd wt : Ps} {n : Nat} (ho : Ok us hd wt n) (k : Ky) {i j : Nat} (hij : i < j) (hj : j < (queue us wt k).length) : cfA us ((queue us wt k).getD i default) ((queue us wt k).getD j default) < 0 := by
 have hs := srt_sorted (ka us) (fun _ _ => rfl) (atL wt k)
 have hn : (queue us wt k).Nodup := (srt_perm _ _).nodup_iff.2 (atL_nodup ho.uw k)
 have h1 := (List.pairwise_iff_getElem.1 hs) i j (by have := hj; rw [queue] at this; omega) (by rw [queue] at hj; exact hj) hij
 rw [List.getD_eq_getElem?_getD, List.getElem?_eq_getElem (by omega), List.getD_eq_getElem?_getD, List.getElem?_eq_getElem hj]
 have hne : (queue us wt k)[i] ≠ (queue us wt k)[j] := (List.pairwise_iff_getElem.1 hn) i j (by omega) hj hij
 have a1 := wt_user ho (queue_mem.1 (List.getElem_mem (by omega : i < (queue us wt k).length)))
 have a2 := wt_user ho (queue_mem.1 (List.getElem_mem hj))
 exact ho.elder a1 a2 hne h1
section
variable {us : Us} {hd wt : Ps} {n : Nat} {m : List (Tx × TS)}
theorem ages2 (ho : Ok us hd wt n) (hb : Bt us hd wt) (hn : NdU us) (hm : Ag m us) (t30 : Int) (y8 : List TA) (y4 : Ot × Int × Us × Bag (Sl × Int) × Bag (Sl × Int)) (h4 : y4.2.2.1 = us) (q0 : Tx) (q : List Tx) (hq : (q0 :: q) = queue us wt (y8.getD t30.toNat default).f_Key) (y : List Tx) (hy : ∀ x ∈ y, (mget us x).isSome = true) (hyl : y.length ≤ 1000) (k0 : Int → List (Tx × TS) → Us → Ps → Ps → Option Bool) : ∀ (fuel k : Nat) (b : Bool), y.length - k < fuel → k ≤ y.length →
  pl_LockAges_l2 t30 y8 y4 hd wt m (q0 :: q) y k0 fuel b k = if (b || (y.drop k).any fun x => !decide (x = q0) && !(md hd ⟨x, (y8.getD t30.toNat default).f_Key⟩ == 0)) = true then k0 (IntKind.wrap .i64 (t30 + 1)) m us hd wt else some false
 | 0, k, _, h, _ => by omega
 | fuel + 1, k, b, h, hk => by
  rw [pl_LockAges_l2, h4]
  by_cases hlt : k < y.length
  ·have hmem : y.getD k default ∈ y := by rw [List.getD_eq_getElem?_getD, List.getElem?_eq_getElem hlt]; exact List.getElem_mem hlt
   have ih := fun b => ages2 ho hb hn hm t30 y8 y4 h4 q0 q hq y hy hyl k0 fuel (k + 1) b (by omega) (by omega)
   rw [if_pos (dT (by omega)), if_pos (by omega), Int.toNat_natCast, mode_eq, Option.bind_some, w64 (by omega) (by omega), show (((k : Nat) : Int) + 1) = ((k + 1 : Nat) : Int) by omega, drop_any y _ k default hlt]
   generalize y.getD k default = x at hmem ⊢
   generalize (y8.getD t30.toNat default).f_Key = K at hq ih ⊢
   have hx := hy x hmem
   have hq0 : q0 ∈ atL wt K := queue_mem.1 (hq ▸ List.mem_cons_self)
   have hq0u := wt_user ho hq0
   by_cases h1 : md hd ⟨x, K⟩ = 0
   ·have h0 : (!decide (x = q0) && !(md hd ⟨x, K⟩ == 0)) = false := by rw [h1]; simp
    rw [if_pos (by simpa using h1), ih b, h0, Bool.false_or]
   ·have hl0 : 0 ≤ (0 : Int) ∧ (0 : Int) < ((((q0 :: q)).length : Nat) : Int) := ⟨by omega, by simp only [List.length_cons]; omega⟩
    have hg0 : (q0 :: q).getD 0 default = q0 := rfl
    rw [if_neg (by simpa using h1), if_pos hl0, hg0]
    by_cases h2 : x = q0
    ·have h0 : (!decide (x = q0) && !(md hd ⟨x, K⟩ == 0)) = false := by simp [h2]
     rw [if_pos (by simpa using h2), ih b, h0, Bool.false_or]
    ·have hany : (!decide (x = q0) && !(md hd ⟨x, K⟩ == 0)) = true := by simp [h1, h2]
     rw [if_neg (by simpa using h2), hany, Bool.true_or, Bool.or_true, if_pos rfl]
     have iht := ih true
     rw [Bool.true_or, if_pos rfl] at iht
     by_cases h3 : md hd ⟨x, K⟩ = 2
     ·rw [if_pos (by simpa using h3), prepared_eq, Option.bind_some]
      cases hp : prep us x with
      | true => rw [if_neg (by simp)]; exact iht
      | false =>
       have hle : cfA us x q0 < 0 := by
        obtain ⟨v, hv⟩ := atL_mem.1 hq0
        rcases md_cases hd ⟨x, K⟩ with h5 | h5
        ·exact absurd h5 h1
        ·have := hb.w.w _ hv _ h5 rfl h2 (by rw [h3]; simp [clash])
         rcases this with h6 | h6
         ·rw [hp] at h6; cases h6
         ·exact h6
       rw [if_pos (by simp), Option.bind_some, Option.bind_some, dage ho hn hm.w hx hq0u, Option.bind_some, if_neg (dF (by omega))]
       exact iht
     ·rw [if_neg (by simpa using h3)]; exact iht
  ·rw [if_neg (dF (by omega))]
   rw [List.drop_eq_nil_of_le (by omega : y.length ≤ k)]
   cases b <;> simp
theorem ages1 (ho : Ok us hd wt n) (hb : Bt us hd wt) (hn : NdU us) (hm : Ag m us) (t30 : Int) (y8 : List TA) (y4 : Ot × Int × Us × Bag (Sl × Int) × Bag (Sl × Int)) (h4 : y4.2.2.1 = us) (k0 : Int → List (Tx × TS) → Us → Ps → Ps → Option Bool) : ∀ (fuel k : Nat), (queue us wt (y8.getD t30.toNat default).f_Key).length - k < fuel → k ≤ (queue us wt (y8.getD t30.toNat default).f_Key).length →
  pl_LockAges_l1 t30 y8 y4 hd wt m (queue us wt (y8.getD t30.toNat default).f_Key) k0 fuel k = k0 (IntKind.wrap .i64 (t30 + 1)) m us hd wt
 | 0, k, h, _ => by omega
 | fuel + 1, k, h, hk => by
  have zh := ho.nh; have zn := ho.nn
  have hql := queue_len ho (y8.getD t30.toNat default).f_Key
  have ih := ages1 ho hb hn hm t30 y8 y4 h4 k0 fuel (k + 1)
  have h2 := fun q0 q hq y hy hyl => ages2 ho hb hn hm t30 y8 y4 h4 q0 q hq y hy hyl k0 big 0 false
  rw [pl_LockAges_l1, h4]
  generalize (y8.getD t30.toNat default).f_Key = K at h hk hql ih h2 ⊢
  by_cases hlt : k < (queue us wt K).length
  ·have hmem : (queue us wt K).getD k default ∈ queue us wt K := by rw [List.getD_eq_getElem?_getD, List.getElem?_eq_getElem hlt]; exact List.getElem_mem hlt
   have hat := queue_mem.1 hmem
   have hwx : waits wt ((queue us wt K).getD k default) = true := by
    obtain ⟨v, hv⟩ := atL_mem.1 hat
    exact List.any_eq_true.2 ⟨_, hv, by simp⟩
   replace ih := ih (by omega) (by omega)
   rw [if_pos (dT (by omega)), if_pos (by omega), Int.toNat_natCast, waits_eq _ _ _ _ (by omega), Option.bind_some, hwx, if_neg (by simp), w64 (x := (k : Int) + 1) (by omega) (by omega), show (((k : Nat) : Int) + 1) = ((k + 1 : Nat) : Int) by omega]
   by_cases h0 : 0 < k
   ·have e1 : (k : Int) - 1 = ((k - 1 : Nat) : Int) := by omega
    have hlt1 : k - 1 < (queue us wt K).length := by omega
    have hmem1 : (queue us wt K).getD (k - 1) default ∈ queue us wt K := by rw [List.getD_eq_getElem?_getD, List.getElem?_eq_getElem hlt1]; exact List.getElem_mem hlt1
    rw [if_pos (dT (by omega)), w64 (x := (k : Int) - 1) (by omega) (by omega), e1, if_pos (by omega), Option.bind_some, Option.bind_some, Int.toNat_natCast, dage ho hn hm.w (wt_user ho (queue_mem.1 hmem1)) (wt_user ho hat), Option.bind_some]
    have hc := queue_lt ho K (i := k - 1) (j := k) (by omega) hlt
    rw [if_neg (dF (by omega))]
    exact ih
   ·rw [if_neg (dF (by omega))]; exact ih
  ·rw [if_neg (dF (by omega))]
   cases hq : queue us wt K with
   | nil => rw [if_pos (by rfl)]
   | cons q0 q =>
    have hnu := ho.nu
    rw [if_neg (by simp only [List.length_cons, beq_iff_eq]; omega), users_eq us hd wt (by omega), Option.bind_some]
    have hyu : ∀ x ∈ sortL (fun a b => lexI (txL a) (txL b)) (us.map (·.1)), (mget us x).isSome = true := fun x hx => keys_mget ho.uu ((sortL_perm _ _).mem_iff.1 hx)
    replace h2 := h2 q0 q hq.symm (sortL (fun a b => lexI (txL a) (txL b)) (us.map (·.1))) hyu (by rw [sortL_len, List.length_map]; omega) (big_lt (by rw [sortL_len, List.length_map]; omega)) (by omega)
    refine h2.trans ?_
    rw [if_pos ?_]
    rw [List.drop_zero, Bool.false_or, List.any_eq_true]
    have hq0 : q0 ∈ atL wt K := queue_mem.1 (by rw [hq]; exact List.mem_cons_self)
    obtain ⟨v, hv⟩ := atL_mem.1 hq0
    have hf := hb.f _ hv
    simp only [isFree, Bool.and_eq_false_iff, Bool.not_eq_false'] at hf
    rcases hf with hf | hf
    ·obtain ⟨x, hx, hc⟩ := List.any_eq_true.1 hf
     simp only [freeH, Bool.and_eq_true, Bool.not_eq_true', decide_eq_false_iff_not] at hc
     obtain ⟨vx, hvx⟩ := atL_mem.1 hx
     refine ⟨x, (sortL_perm _ _).mem_iff.2 (mget_keys (ho.hu _ hvx)), ?_⟩
     have hmd : md hd ⟨x, K⟩ = vx := md_mem ho.uh hvx
     have := hb.w.n _ hvx
     dsimp only at this
     simp only [hmd, hc.1, decide_false, Bool.not_false, Bool.true_and, Bool.not_eq_true', beq_eq_false_iff_ne, ne_eq]
     omega
    ·obtain ⟨x, hx, hc⟩ := List.any_eq_true.1 hf
     simp only [freeW, Bool.and_eq_true, Bool.not_eq_true', decide_eq_false_iff_not, decide_eq_true_eq] at hc
     have hxq : x ∈ queue us wt K := queue_mem.2 hx
     have hs := srt_sorted (ka us) (fun _ _ => rfl) (atL wt K)
     have hq' : srt (ka us) (atL wt K) = q0 :: q := hq
     rw [hq] at hxq
     rw [hq'] at hs
     rcases List.mem_cons.1 hxq with h5 | h5
     ·exact absurd h5 hc.1.1
     ·exact absurd hc.1.2 ((List.pairwise_cons.1 hs).1 x h5)
end
theorem ages0 (y8 : List TA) (hl : y8.length ≤ 60) (hk : ∀ a ∈ y8, a.f_Keys.length ≤ 30) (hnd : ∀ a ∈ y8, Nd a.f_Stamp.f_Tx) : ∀ (fuel t : Nat) (m : List (Tx × TS)) (us : Us) (hd wt : Ps), y8.length - t < fuel → t ≤ y8.length → Ok us hd wt t → Bt us hd wt → NdU us → Ag m us → pl_LockAges_l0 y8 fuel t m us hd wt = some true
 | 0, t, _, _, _, _, h, _, _, _, _, _ => by omega
 | fuel + 1, t, m, us, hd, wt, h, ht, ho, hb, hn, hm => by
  rw [pl_LockAges_l0]
  by_cases hlt : t < y8.length
  ·have hmem : y8.getD t default ∈ y8 := by rw [List.getD_eq_getElem?_getD, List.getElem?_eq_getElem hlt]; exact List.getElem_mem hlt
   obtain ⟨e, o⟩ := does_eq ho (by omega) (y8.getD t default) (hk _ hmem)
   have g := Bt.does ho (by omega) hb (y8.getD t default) (hk _ hmem)
   have us' := user_step ho (y8.getD t default)
   have hn2 := hn.does ho (y8.getD t default) (hnd _ hmem) o.uu
   rw [if_pos (dT (by omega)), if_pos (by omega), Int.toNat_natCast, e, Option.bind_some, pl_LockAges_c9]
   generalize doesR us hd wt (y8.getD t default) = R at o g us' hn2
   obtain ⟨Ro, Re, Ru, Rh, Rw⟩ := R
   dsimp only at o g us' hn2 ⊢
   refine agreeB_eq fun l1 h1 => agreeB_eq fun l2 h2 => ?_
   have p1 := Bag.exact h1
   have p2 := Bag.exact h2
   have o2 := o.perm p1.symm p2.symm
   have g2 := g.perm o p1.symm p2.symm
   obtain ⟨m2, e2, hm2⟩ := stamps_law l1 l2 hm (y8.getD t default) o2.uu o2.nu us'
   rw [Int.toNat_natCast, e2, Option.bind_some, queue_eq o2, Option.bind_some]
   have h3 := ages1 o2 g2 hn2 hm2 (t : Int) y8 (Ro, Re, Ru, Bag.of Rh, Bag.of Rw) rfl (pl_LockAges_l0 y8 fuel) big 0 (big_lt (by have := queue_len o2 (y8.getD (t : Int).toNat default).f_Key; omega)) (by omega)
   refine Eq.trans h3 ?_
   rw [w64 (by omega) (by omega)]
   exact ages0 y8 hl hk hnd fuel (t + 1) m2 Ru l1 l2 (by omega) (by omega) o2 g2 hn2 hm2
  ·rw [if_neg (dF (by omega)), alive_eq]; rfl
theorem ages_law (script : List TA) {Q : TA → Prop} (h : (∀ a ∈ script, wfL [.int .u8 a.f_Kind] ∧ wfL [.int .u32 a.f_Stamp.f_Time, .int .u8 a.f_Stamp.f_Tx.f_Node, .int .u32 a.f_Stamp.f_Tx.f_Boot, .int .u32 a.f_Stamp.f_Tx.f_Num] ∧ Q a) ∧ script.length * 56 ≤ 140737488351232) : pl_LockAges script = some true := by
 rw [pl_LockAges, lock_New, Option.bind_some, far_eq, Option.bind_some]
 cases hf : farB script with
 | true => rw [if_pos rfl, alive_eq]; rfl
 | false =>
  rw [if_neg (by simp), short_eq, Option.bind_some]
  have hlen := List.length_take_le 60 script
  exact ages0 (script.take 60) hlen (far_keys hf) (fun a ha => by
   have := wf_u8 ((h.1 a (List.mem_of_mem_take ha)).2.1 (.int .u8 a.f_Stamp.f_Tx.f_Node) (by simp))
   exact ⟨by omega, by omega⟩) big 0 [] [] [] [] (big_lt (by omega)) (by omega) ok_new bt_new (fun e he => by cases he) (fun x => rfl)
end Go.Proofs.YtddgjfclpknkcaaGreatDoor.Wk
