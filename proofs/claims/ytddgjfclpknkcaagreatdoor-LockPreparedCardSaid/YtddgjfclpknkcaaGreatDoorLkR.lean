import Derived.Test.YtddgjfclpknkcaaGreatDoorLkQ
set_option linter.unusedVariables false
set_option linter.unusedSimpArgs false
namespace Go.Proofs.YtddgjfclpknkcaaGreatDoor.Wk
open Go Go.Cn
theorem trim_some : ∀ (fuel : Nat) (s : List UInt8), s.length < fuel → s.length ≤ 1000 → ∃ t, strings_trimRightByte_l0 0 fuel s = some t
 | 0, _, h, _ => by omega
 | fuel + 1, s, h, hl => by
  rw [strings_trimRightByte_l0]
  by_cases hp : 0 < s.length
  ·rw [if_pos (dT (by omega)), w64 (by omega) (by omega), if_pos (by omega), Option.bind_some]
   split
   ·rw [if_pos (by omega)]
    exact trim_some fuel _ (by simp only [List.length_take, List.length_drop]; omega) (by simp only [List.length_take, List.length_drop]; omega)
   ·exact ⟨_, rfl⟩
  ·rw [if_neg (dF (by omega))]; exact ⟨_, rfl⟩
def kmay (k : Ky) : Bool := (lock_keyMay k).getD false
theorem keyMay_eq (k : Ky) : lock_keyMay k = some (kmay k) := by
 have h : ∃ b, lock_keyMay k = some b := by
  rw [lock_keyMay, ids_Name]
  obtain ⟨t, ht⟩ : ∃ t, strings_TrimRight (strI (([k.a0, k.a1, k.a2, k.a3, k.a4, k.a5, k.a6, k.a7] : List Int).take 8)) = some t := by
   rw [strings_TrimRight]
   split
   ·exact ⟨_, rfl⟩
   ·obtain ⟨t, ht⟩ := trim_some big (strI (([k.a0, k.a1, k.a2, k.a3, k.a4, k.a5, k.a6, k.a7] : List Int).take 8)) (big_lt (by simp [strI])) (by simp [strI])
    rw [strings_trimRightByte, ht]; exact ⟨_, rfl⟩
  rw [ht, Option.bind_some]
  obtain ⟨r, hr⟩ : ∃ r, ids_KeyOf t = some r := by
   rw [ids_KeyOf]
   split
   ·exact ⟨_, rfl⟩
   ·split
    ·exact ⟨_, rfl⟩
    ·rw [strings_IndexByte, is_IndexByte, Option.bind_some, Option.bind_some]
     split <;> exact ⟨_, rfl⟩
  rw [hr, Option.bind_some]
  split
  ·exact ⟨_, rfl⟩
  ·split
   ·exact ⟨_, rfl⟩
   ·exact ⟨_, rfl⟩
 obtain ⟨b, hb⟩ := h
 rw [kmay, hb]; rfl
def tmay (t : Tx) : Bool := decide (t.f_Node < 8) && (decide (IntKind.wrap .u32 (t.f_Boot - 1) < 2147483647) && decide (IntKind.wrap .u32 (t.f_Num - 1) < 2147483647))
theorem txMay_eq (t : Tx) : ids_TxMay t = some (tmay t) := by
 simp only [ids_TxMay, ids_isCount, Option.bind_some, tmay]
 by_cases h1 : t.f_Node < 8 <;> by_cases h2 : IntKind.wrap .u32 (t.f_Boot - 1) < 2147483647 <;> simp [h1, h2]
def smay (s : TS) : Bool := decide (s.f_Time ≤ 2147483647) && tmay s.f_Tx
theorem stampMay_eq (s : TS) : ids_StampMay s = some (smay s) := by
 simp only [ids_StampMay, txMay_eq, Option.bind_some, smay]
 by_cases h : s.f_Time ≤ 2147483647 <;> simp [h]
abbrev Ot := TO
def oE : Ot := TO.mk [] []
abbrev Rs := Ot × Int × Us × Ps × Ps
def askGo (us : Us) (hd wt : Ps) (s : Sl) (mode : Int) : Rs :=
 let wt1 := mset wt s (mx mode (md wt s))
 let st := (woundL us hd wt1 s).foldl goneF (us, hd, wt1)
 let r := onR st.1 st.2.1 st.2.2
 (TO.mk (woundL us hd wt1 s) r.1, 0, st.1, r.2.1, r.2.2)
def askR (us : Us) (hd wt : Ps) (s : TS) (k : Ky) (mode : Int) : Rs :=
 if smay s = false ∨ kmay k = false ∨ (mode ≠ 1 ∧ mode ≠ 2) then (oE, 1, us, hd, wt) else
 match mget us s.f_Tx with
 | some u => if u.f_prepared then (oE, 11, us, hd, wt) else if mode ≤ md hd ⟨s.f_Tx, k⟩ then (oE, 0, us, hd, wt) else askGo us hd wt ⟨s.f_Tx, k⟩ mode
 | none => if us.length = 64 then (oE, 5, us, hd, wt) else if mode ≤ md hd ⟨s.f_Tx, k⟩ then (oE, 0, us, hd, wt) else askGo (mset us s.f_Tx ⟨s, false⟩) hd wt ⟨s.f_Tx, k⟩ mode
theorem Ok.wait {us : Us} {hd wt : Ps} {n : Nat} (h : Ok us hd wt n) {s : Sl} (hs : (mget us s.f_tx).isSome = true) (v : Int) (hn : n < 250) : Ok us hd (mset wt s v) (n + 1) := by
 have := mset_len wt s v
 have := h.nw; have := h.nh
 refine ⟨h.uu, h.uh, mset_uk h.uw s v, h.hu, fun e he => ?_, h.su, h.nu, by omega, by omega, by omega⟩
 rcases mset_mem he with h1 | h1
 ·rw [h1]; exact hs
 ·exact h.wu e h1
theorem Ok.up {us : Us} {hd wt : Ps} {n m : Nat} (h : Ok us hd wt n) (hm : n ≤ m) (h2 : m ≤ 250) : Ok us hd wt m :=
 ⟨h.uu, h.uh, h.uw, h.hu, h.wu, h.su, h.nu, Nat.le_trans h.nw hm, by have := h.nh; omega, h2⟩
theorem Ok.user {us : Us} {hd wt : Ps} {n : Nat} (h : Ok us hd wt n) {x : Tx} {u : TU} (hu : u.f_stamp.f_Tx = x) (hl : (mset us x u).length ≤ 64) : Ok (mset us x u) hd wt n := by
 have hm : ∀ y, (mget us y).isSome = true → (mget (mset us x u) y).isSome = true := fun y hy => by
  rw [mset_get]; split
  ·rfl
  ·exact hy
 refine ⟨mset_uk h.uu x u, h.uh, h.uw, fun e he => hm _ (h.hu e he), fun e he => hm _ (h.wu e he), fun e he => ?_, hl, h.nw, h.nh, h.nn⟩
 rcases mset_mem he with h1 | h1
 ·rw [h1]; exact hu
 ·exact h.su e h1
theorem go_ok {us : Us} {hd wt : Ps} {n : Nat} (h : Ok us hd wt n) (hn : n < 250) {s : Sl} (hs : (mget us s.f_tx).isSome = true) (mode : Int) :
  Ok (askGo us hd wt s mode).2.2.1 (askGo us hd wt s mode).2.2.2.1 (askGo us hd wt s mode).2.2.2.2 (n + 1) ∧
  (lT_wound us hd (mset wt s (mx mode (md wt s))) s).bind (fun y => (lT_on y.2.1 y.2.2.1 y.2.2.2).bind fun z => some (TO.mk y.1 z.1, (0 : Int), y.2.1, z.2.1, z.2.2)) = some (askGo us hd wt s mode) := by
 have h1 := h.wait hs (mx mode (md wt s)) hn
 have h2 := Ok.fold (woundL us hd (mset wt s (mx mode (md wt s))) s) (st := (us, hd, mset wt s (mx mode (md wt s)))) h1
 refine ⟨h2.on, ?_⟩
 rw [wound_eq h1 hs (by have := h1.at64 s.f_key; omega), Option.bind_some, on_eq h2, Option.bind_some]
 rfl
theorem ask_eq {us : Us} {hd wt : Ps} {n : Nat} (h : Ok us hd wt n) (hn : n < 250) (s : TS) (k : Ky) (mode : Int) :
  lT_Ask us hd wt s k mode = some (askR us hd wt s k mode) ∧ Ok (askR us hd wt s k mode).2.2.1 (askR us hd wt s k mode).2.2.2.1 (askR us hd wt s k mode).2.2.2.2 (n + 1) := by
 have hup := h.up (Nat.le_succ n) hn
 have e5 : lT_Ask_c5 us hd wt s k mode = some (match mget us s.f_Tx with
 | some u => if u.f_prepared then (oE, 11, us, hd, wt) else if mode ≤ md hd ⟨s.f_Tx, k⟩ then (oE, 0, us, hd, wt) else askGo us hd wt ⟨s.f_Tx, k⟩ mode
 | none => if us.length = 64 then (oE, 5, us, hd, wt) else if mode ≤ md hd ⟨s.f_Tx, k⟩ then (oE, 0, us, hd, wt) else askGo (mset us s.f_Tx ⟨s, false⟩) hd wt ⟨s.f_Tx, k⟩ mode) := by
  rw [lT_Ask_c5]
  cases hu : mget us s.f_Tx with
  | some u =>
   rw [if_pos (by simp), Option.bind_some]
   dsimp only
   cases hp : u.f_prepared with
   | true => rfl
   | false =>
    rw [if_neg (by simp), if_neg (by simp), Option.bind_some]
    by_cases hm : mode ≤ md hd ⟨s.f_Tx, k⟩
    ·rw [if_pos (by simpa [md] using hm), if_pos hm]; rfl
    ·rw [if_neg (by simpa [md] using hm), if_neg hm, lT_Ask_c15, Option.bind_some, Option.bind_some]
     exact (go_ok h hn (s := ⟨s.f_Tx, k⟩) (by simp [hu]) mode).2
  | none =>
   rw [if_neg (by simp)]
   dsimp only
   by_cases hl : us.length = 64
   ·rw [if_pos (by simp [hl]), if_pos hl]; rfl
   ·have hlen := mset_len us s.f_Tx ⟨s, false⟩
    have hnu := h.nu
    have hus := h.user (x := s.f_Tx) (u := ⟨s, false⟩) rfl (by omega)
    rw [if_neg (by simp; omega), if_neg hl, lT_Ask_c11, Option.bind_some]
    by_cases hm : mode ≤ md hd ⟨s.f_Tx, k⟩
    ·rw [if_pos (by simpa [md] using hm), if_pos hm]; rfl
    ·rw [if_neg (by simpa [md] using hm), if_neg hm, Option.bind_some, Option.bind_some]
     exact (go_ok hus hn (s := ⟨s.f_Tx, k⟩) (by simp [mset_get]) mode).2
 constructor
 ·simp only [lT_Ask, lT_ok, stampMay_eq, keyMay_eq, Option.bind_some, e5, askR]
  cases h1 : smay s with
  | false => simp [oE]
  | true =>
   cases h2 : kmay k with
   | false => simp [lT_Ask_c4, oE]
   | true =>
    by_cases h3 : mode = 1
    ·simp [h3]
    ·by_cases h4 : mode = 2
     ·simp [h4]
     ·simp [h3, h4, lT_Ask_c4, oE]
 ·unfold askR
  split
  ·exact hup
  ·split
   ·rename_i u hu
    split
    ·exact hup
    ·split
     ·exact hup
     ·exact (go_ok h hn (s := ⟨s.f_Tx, k⟩) (by simp [hu]) mode).1
   ·rename_i hu
    split
    ·exact hup
    ·rename_i hl
     split
     ·exact hup
     ·have hlen := mset_len us s.f_Tx ⟨s, false⟩
      have hnu := h.nu
      exact (go_ok (h.user (x := s.f_Tx) (u := ⟨s, false⟩) rfl (by omega)) hn (s := ⟨s.f_Tx, k⟩) (by simp [mset_get]) mode).1
theorem mode_eq (us : Us) (hd wt : Ps) (x : Tx) (k : Ky) : lT_Mode us hd wt x k = some (md hd ⟨x, k⟩) := rfl
end Go.Proofs.YtddgjfclpknkcaaGreatDoor.Wk
