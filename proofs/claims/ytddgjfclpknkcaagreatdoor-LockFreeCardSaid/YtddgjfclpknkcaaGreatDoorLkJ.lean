import Derived.Test.YtddgjfclpknkcaaGreatDoorLkH
set_option linter.unusedVariables false
set_option linter.unusedSimpArgs false
set_option linter.unusedSectionVars false
namespace Go.Proofs.YtddgjfclpknkcaaGreatDoor.Wk
open Go Go.Cn
theorem AgW.mono {m : List (Tx × TS)} {us us' : Us} (h : AgW m us) (hs : ∀ x u, mget us' x = some u → mget us x = some u) : AgW m us' := fun x hx => by
 obtain ⟨u, hu⟩ := Option.isSome_iff_exists.1 hx
 have h2 := hs x u hu
 rw [h x (by rw [h2]; rfl), so, so, hu, h2]
theorem rel_sub {us : Us} {hd wt : Ps} (hu : Uk us) {x : Tx} (hx : (mget us x).isSome = true) : (relR us hd wt x).2.1 = 0 ∧ (relR us hd wt x).2.2.1 = mdel us x := by
 obtain ⟨u, hg⟩ := Option.isSome_iff_exists.1 hx
 rw [relR, hg]; exact ⟨rfl, rfl⟩
theorem del_sub {us : Us} (hu : Uk us) (x : Tx) : ∀ y u, mget (mdel us x) y = some u → mget us y = some u := fun y u h => by
 rw [mdel_get hu] at h
 split at h
 ·cases h
 ·exact h
theorem NdU.del {us : Us} (h : NdU us) (x : Tx) : NdU (mdel us x) := fun e he => h e ((mdel_sub us x).subset he)
section
variable {m : List (Tx × TS)} {us : Us} {hd wt : Ps} {n : Nat}
theorem oldest_free (ho : Ok us hd wt n) (hb : Bt us hd wt) (hp : ∀ x, prep us x = false) {b : Tx} (hold : ∀ x, (mget us x).isSome = true → ¬ cfA us x b < 0) : waits wt b = false := by
 rw [Bool.eq_false_iff]
 intro hw
 obtain ⟨e, he, hx⟩ := List.any_eq_true.1 hw
 have hx' : e.1.f_tx = b := by simpa using hx
 have hf := hb.f e he
 simp only [isFree, Bool.and_eq_false_iff, Bool.not_eq_false'] at hf
 rcases hf with hf | hf
 ·obtain ⟨x, hxa, hc⟩ := List.any_eq_true.1 hf
  simp only [freeH, Bool.and_eq_true, Bool.not_eq_true', decide_eq_false_iff_not] at hc
  obtain ⟨v, hv⟩ := atL_mem.1 hxa
  have h1 : md hd ⟨x, e.1.f_key⟩ = v := md_mem ho.uh hv
  have h2 : md wt e.1 = e.2 := md_mem ho.uw he
  rw [h1, h2] at hc
  rcases hb.w.w e he _ hv rfl hc.1 hc.2 with h3 | h3
  ·rw [hp] at h3; cases h3
  ·rw [hx'] at h3; exact hold x (ho.hu _ hv) h3
 ·obtain ⟨x, hxa, hc⟩ := List.any_eq_true.1 hf
  simp only [freeW, Bool.and_eq_true, Bool.not_eq_true', decide_eq_false_iff_not, decide_eq_true_eq] at hc
  obtain ⟨v, hv⟩ := atL_mem.1 hxa
  have h3 := hc.1.2
  rw [hx'] at h3
  exact hold x (ho.wu _ hv) h3
theorem fr3 (ho : Ok us hd wt n) (hn : NdU us) (hm : AgW m us) (t62 : Int) (y : List Tx) (hy : ∀ x ∈ y, (mget us x).isSome = true) (hyl : y.length ≤ 1000) (k2 : Int → Us → Ps → Ps → Option Bool) : ∀ (fuel k : Nat) (b : Tx), y.length - k < fuel → k ≤ y.length → (mget us b).isSome = true → (∀ x ∈ y.take k, ¬ cfA us x b < 0) →
  ∃ b', (mget us b').isSome = true ∧ (∀ x ∈ y, ¬ cfA us x b' < 0) ∧ pl_LockFree_l3 m t62 us hd wt y k2 fuel k b.f_Node b.f_Boot b.f_Num = ((lT_Waits us hd wt b').bind fun y4 => if (y4 : Bool) then some false else (lT_Release us hd wt b').bind fun y7 => k2 (IntKind.wrap .i64 (t62 + 1)) y7.2.2.1 y7.2.2.2.1 y7.2.2.2.2)
 | 0, k, b, h, _, _, _ => by omega
 | fuel + 1, k, b, h, hk, hbu, hold => by
  rw [pl_LockFree_l3]
  by_cases hlt : k < y.length
  ·have hmem : y.getD k default ∈ y := by rw [List.getD_eq_getElem?_getD, List.getElem?_eq_getElem hlt]; exact List.getElem_mem hlt
   have hts := take_snoc y k default hlt
   have ih := fun b => fr3 ho hn hm t62 y hy hyl k2 fuel (k + 1) b (by omega) (by omega)
   rw [hts] at ih
   rw [if_pos (dT (by omega)), if_pos (by omega), Int.toNat_natCast, Option.bind_some, Option.bind_some, w64 (by omega) (by omega), show (((k : Nat) : Int) + 1) = ((k + 1 : Nat) : Int) by omega]
   generalize y.getD k default = x at hmem ih ⊢
   have hx := hy x hmem
   have hd' : parrelref05_Stamps ((mget m x).getD default) ((mget m (TX.mk b.f_Node b.f_Boot b.f_Num)).getD default) = some (cfA us x b) := dage ho hn hm hx hbu
   rw [hd', Option.bind_some]
   by_cases hc : cfA us x b < 0
   ·rw [if_pos (by simpa using hc)]
    refine ih x hx (fun z hz => ?_)
    rcases List.mem_append.1 hz with h1 | h1
    ·intro h2
     refine hold z h1 ?_
     exact of_decide_eq_true ((swo_lex (ka us) (fun _ _ => rfl)).trans z x b (decide_eq_true h2) (decide_eq_true hc))
    ·rw [List.mem_singleton.1 h1]
     exact of_decide_eq_false ((swo_lex (ka us) (fun _ _ => rfl)).irrefl x)
   ·rw [if_neg (by simpa using hc)]
    refine ih b hbu (fun z hz => ?_)
    rcases List.mem_append.1 hz with h1 | h1
    ·exact hold z h1
    ·rw [List.mem_singleton.1 h1]; exact hc
  ·rw [if_neg (dF (by omega))]
   have htl : y.take k = y := List.take_of_length_le (by omega)
   rw [htl] at hold
   exact ⟨b, hbu, hold, rfl⟩
end
theorem fr2 (m : List (Tx × TS)) {n : Nat} : ∀ (fuel t : Nat) (us : Us) (hd wt : Ps), 65 - t < fuel → us.length + t ≤ 64 → Ok us hd wt n → Bt us hd wt → (∀ x, prep us x = false) → NdU us → AgW m us → pl_LockFree_l2 m fuel t us hd wt = some true
 | 0, t, _, _, _, h, _, _, _, _, _, _ => by omega
 | fuel + 1, t, us, hd, wt, h, ht, ho, hb, hp, hn, hm => by
  have hnu := ho.nu; have zh := ho.nh; have zn := ho.nn
  rw [pl_LockFree_l2, if_pos (dT (by omega)), users_eq us hd wt (by omega), Option.bind_some]
  have hyu : ∀ x, x ∈ sortL (fun a b => lexI (txL a) (txL b)) (us.map (·.1)) ↔ x ∈ us.map (·.1) := fun x => (sortL_perm _ _).mem_iff
  have hyl : (sortL (fun a b => lexI (txL a) (txL b)) (us.map (·.1))).length = us.length := by rw [sortL_len, List.length_map]
  generalize sortL (fun a b => lexI (txL a) (txL b)) (us.map (·.1)) = y at hyu hyl ⊢
  by_cases h0 : y.length = 0
  ·rw [if_pos (by simp [h0]), alive_eq]; rfl
  ·have hy : ∀ x ∈ y, (mget us x).isSome = true := fun x hx => keys_mget ho.uu ((hyu x).1 hx)
   have h00 : y.getD 0 default ∈ y := by rw [List.getD_eq_getElem?_getD, List.getElem?_eq_getElem (by omega)]; exact List.getElem_mem _
   obtain ⟨b, hbu, hold, e⟩ := fr3 ho hn hm (t : Int) y hy (by omega) (pl_LockFree_l2 m fuel) big 0 (y.getD 0 default) (big_lt (by omega)) (by omega) (hy _ h00) (by simp)
   have hlen := mdel_len (mget_keys hbu)
   have hwf := oldest_free ho hb hp (b := b) (fun x hx => hold x ((hyu x).2 (mget_keys hx)))
   obtain ⟨er, o2⟩ := rel_eq ho b
   have b2 := hb.rel ho b
   have hs := (rel_sub (hd := hd) (wt := wt) ho.uu hbu).2
   rw [if_neg (by simp only [beq_iff_eq]; omega), if_pos ⟨by omega, by omega⟩]
   refine Eq.trans e ?_
   rw [waits_eq _ _ _ _ (by omega), Option.bind_some, hwf, if_neg (by simp), er, Option.bind_some, w64 (by omega) (by omega)]
   refine fr2 m fuel (t + 1) _ _ _ (by omega) (by rw [hs]; omega) o2 b2 (fun x => ?_) (by rw [hs]; exact hn.del b) (by rw [hs]; exact hm.mono (del_sub ho.uu b))
   rw [hs, prep, mdel_get ho.uu]
   split
   ·rfl
   ·exact hp x
theorem fr1 (m : List (Tx × TS)) {n : Nat} (y : List Tx) (hyl : y.length ≤ 1000) : ∀ (fuel k : Nat) (us : Us) (hd wt : Ps), y.length - k < fuel → k ≤ y.length → Ok us hd wt n → Bt us hd wt → (∀ x ∈ y.take k, prep us x = false) → (∀ x, (mget us x).isSome = true → x ∈ y) → NdU us → AgW m us → pl_LockFree_l1 m y fuel k us hd wt = some true
 | 0, k, _, _, _, h, _, _, _, _, _, _, _ => by omega
 | fuel + 1, k, us, hd, wt, h, hk, ho, hb, hp, hy, hn, hm => by
  rw [pl_LockFree_l1]
  by_cases hlt : k < y.length
  ·have hts := take_snoc y k default hlt
   have ih := fr1 m (n := n) y hyl fuel (k + 1)
   rw [hts] at ih
   rw [if_pos (dT (by omega)), if_pos (by omega), Int.toNat_natCast, prepared_eq, Option.bind_some, w64 (by omega) (by omega), show (((k : Nat) : Int) + 1) = ((k + 1 : Nat) : Int) by omega]
   generalize y.getD k default = x at ih ⊢
   cases hpx : prep us x with
   | false =>
    rw [if_neg (by simp)]
    refine ih us hd wt (by omega) (by omega) ho hb (fun z hz => ?_) hy hn hm
    rcases List.mem_append.1 hz with h1 | h1
    ·exact hp z h1
    ·rw [List.mem_singleton.1 h1]; exact hpx
   | true =>
    have hx : (mget us x).isSome = true := by
     cases hg : mget us x with
     | some u => rfl
     | none => rw [prep, hg] at hpx; cases hpx
    obtain ⟨er, o2⟩ := rel_eq ho x
    have b2 := hb.rel ho x
    obtain ⟨h0, hs⟩ := rel_sub (hd := hd) (wt := wt) ho.uu hx
    rw [if_pos rfl, er, Option.bind_some, if_neg (by rw [h0]; simp)]
    have hpd : ∀ z, prep us z = false ∨ z = x → prep (mdel us x) z = false := fun z hz => by
     rw [prep, mdel_get ho.uu]
     split
     ·rfl
     ·rename_i hne
      rcases hz with hz | hz
      ·exact hz
      ·exact absurd hz hne
    refine ih _ _ _ (by omega) (by omega) o2 b2 (fun z hz => ?_) (fun z hz => ?_) (by rw [hs]; exact hn.del x) (by rw [hs]; exact hm.mono (del_sub ho.uu x))
    ·rw [hs]
     rcases List.mem_append.1 hz with h1 | h1
     ·exact hpd z (Or.inl (hp z h1))
     ·exact hpd z (Or.inr (List.mem_singleton.1 h1))
    ·rw [hs] at hz
     obtain ⟨u, hu⟩ := Option.isSome_iff_exists.1 hz
     exact hy z (by rw [del_sub ho.uu x z u hu]; rfl)
  ·rw [if_neg (dF (by omega))]
   have htl : y.take k = y := List.take_of_length_le (by omega)
   rw [htl] at hp
   refine fr2 m big 0 us hd wt (big_lt (by omega)) (by have := ho.nu; omega) ho hb (fun x => ?_) hn hm
   cases hg : mget us x with
   | none => rw [prep, hg]; rfl
   | some u => exact hp x (hy x (by rw [hg]; rfl))
theorem fr0 (y8 : List TA) (hl : y8.length ≤ 60) (hk : ∀ a ∈ y8, a.f_Keys.length ≤ 30) (hnd : ∀ a ∈ y8, Nd a.f_Stamp.f_Tx) : ∀ (fuel t : Nat) (m : List (Tx × TS)) (us : Us) (hd wt : Ps), y8.length - t < fuel → t ≤ y8.length → Ok us hd wt t → Bt us hd wt → NdU us → Ag m us → pl_LockFree_l0 y8 fuel t m us hd wt = some true
 | 0, t, _, _, _, _, h, _, _, _, _, _ => by omega
 | fuel + 1, t, m, us, hd, wt, h, ht, ho, hb, hn, hm => by
  rw [pl_LockFree_l0]
  by_cases hlt : t < y8.length
  ·have hmem : y8.getD t default ∈ y8 := by rw [List.getD_eq_getElem?_getD, List.getElem?_eq_getElem hlt]; exact List.getElem_mem hlt
   obtain ⟨e, o⟩ := does_eq ho (by omega) (y8.getD t default) (hk _ hmem)
   have g := Bt.does ho (by omega) hb (y8.getD t default) (hk _ hmem)
   have us' := user_step ho (y8.getD t default)
   have hn2 := hn.does ho (y8.getD t default) (hnd _ hmem) o.uu
   rw [if_pos (dT (by omega)), if_pos (by omega), Int.toNat_natCast, e, Option.bind_some, pl_LockFree_c9]
   generalize doesR us hd wt (y8.getD t default) = R at o g us' hn2
   obtain ⟨Ro, Re, Ru, Rh, Rw⟩ := R
   dsimp only at o g us' hn2 ⊢
   refine agreeB_eq fun l1 h1 => agreeB_eq fun l2 h2 => ?_
   have p1 := Bag.exact h1
   have p2 := Bag.exact h2
   have o2 := o.perm p1.symm p2.symm
   have g2 := g.perm o p1.symm p2.symm
   obtain ⟨m2, e2, hm2⟩ := stamps_law l1 l2 hm (y8.getD t default) o2.uu o2.nu us'
   rw [Int.toNat_natCast, e2, Option.bind_some, w64 (by omega) (by omega)]
   exact fr0 y8 hl hk hnd fuel (t + 1) m2 Ru l1 l2 (by omega) (by omega) o2 g2 hn2 hm2
  ·have hnu := ho.nu
   rw [if_neg (dF (by omega)), users_eq us hd wt (by omega), Option.bind_some]
   exact fr1 m (n := t) _ (by rw [sortL_len, List.length_map]; omega) big 0 us hd wt (big_lt (by rw [sortL_len, List.length_map]; omega)) (by omega) ho hb (by simp) (fun x hx => (sortL_perm _ _).mem_iff.2 (mget_keys hx)) hn hm.w
theorem free_law (script : List TA) {Q : TA → Prop} (h : (∀ a ∈ script, wfL [.int .u8 a.f_Kind] ∧ wfL [.int .u32 a.f_Stamp.f_Time, .int .u8 a.f_Stamp.f_Tx.f_Node, .int .u32 a.f_Stamp.f_Tx.f_Boot, .int .u32 a.f_Stamp.f_Tx.f_Num] ∧ Q a) ∧ script.length * 56 ≤ 140737488351232) : pl_LockFree script = some true := by
 rw [pl_LockFree, lock_New, Option.bind_some, far_eq, Option.bind_some]
 cases hf : farB script with
 | true => rw [if_pos rfl, alive_eq]; rfl
 | false =>
  rw [if_neg (by simp), short_eq, Option.bind_some]
  have hlen := List.length_take_le 60 script
  exact fr0 (script.take 60) hlen (far_keys hf) (fun a ha => by
   have := wf_u8 ((h.1 a (List.mem_of_mem_take ha)).2.1 (.int .u8 a.f_Stamp.f_Tx.f_Node) (by simp))
   exact ⟨by omega, by omega⟩) big 0 [] [] [] [] (big_lt (by omega)) (by omega) ok_new bt_new (fun e he => by cases he) (fun x => rfl)
end Go.Proofs.YtddgjfclpknkcaaGreatDoor.Wk
