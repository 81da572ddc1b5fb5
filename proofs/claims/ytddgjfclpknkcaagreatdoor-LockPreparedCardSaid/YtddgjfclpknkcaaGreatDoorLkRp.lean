import Derived.Test.YtddgjfclpknkcaaGreatDoorLkR
set_option linter.unusedVariables false
set_option linter.unusedSimpArgs false
namespace Go.Proofs.YtddgjfclpknkcaaGreatDoor.Wk
open Go Go.Cn
theorem of0 (p : Ps) (x : Tx) : ∀ (fuel : Nat) (rest : Ps), rest.length < fuel → lP_of_l0 p x fuel rest = some (rest.any fun e => decide (e.1.f_tx = x))
 | 0, rest, h => by omega
 | fuel + 1, rest, h => by
  rw [lP_of_l0]
  by_cases hr : rest = []
  ·subst hr; rw [if_pos (show ([] : Ps).isEmpty = true from rfl)]; rfl
  ·rw [if_neg (by cases rest <;> simp at hr ⊢)]
   refine agree_eq hr fun i a hi => ?_
   have hpr := erase_perm hi
   have hlen := hpr.length_eq
   simp only [List.length_cons] at hlen
   have he : (rest.any fun e => decide (e.1.f_tx = x)) = ((a :: rest.eraseIdx i).any fun e => decide (e.1.f_tx = x)) := by
    rw [Bool.eq_iff_iff, List.any_eq_true, List.any_eq_true]
    constructor
    ·rintro ⟨e, h1, h2⟩; exact ⟨e, hpr.mem_iff.1 h1, h2⟩
    ·rintro ⟨e, h1, h2⟩; exact ⟨e, hpr.mem_iff.2 h1, h2⟩
   rw [he]
   by_cases ha : a.1.f_tx = x
   ·rw [if_pos (by simpa using ha)]; simp [ha]
   ·rw [if_neg (by simpa using ha), of0 p x fuel _ (by omega)]; simp [ha]
theorem of_eq (p : Ps) (x : Tx) (hz : p.length ≤ 1000000) : lP_of p x = some (p.any fun e => decide (e.1.f_tx = x)) := of0 p x big p (big_lt (by omega))
theorem dropR_eq (p : Ps) (x : Tx) (hu : Uk p) (hz : p.length ≤ 1000000) : lP_drop_2 p x = some (dropR p x) := by
 have h := del0 (fun e => decide (e.1.f_tx = x) && e.2 == 1) (mDF_2_l0 p x) (fun fuel m2 rest => by
  rw [mDF_2_l0]
  congr 1; congr 1; funext a rs
  simp only [lP_drop_L1_2, lock_reads, Option.bind_some]
  by_cases h : a.1.f_tx = x <;> simp [h]) big p p (big_lt (by omega)) hu hu
 rw [lP_drop_2, mDF_2, h, Option.bind_some, del_eq hu, dropR]
def waits (wt : Ps) (x : Tx) : Bool := wt.any fun e => decide (e.1.f_tx = x)
theorem waits_eq (us : Us) (hd wt : Ps) (x : Tx) (hz : wt.length ≤ 1000000) : lT_Waits us hd wt x = some (waits wt x) := by
 rw [lT_Waits, lT_ok, Option.bind_some, of_eq wt x hz]; rfl
def prepR (us : Us) (hd wt : Ps) (x : Tx) : Rs :=
 match mget us x with
 | none => (oE, 6, us, hd, wt)
 | some u => if waits wt x then (oE, 11, us, hd, wt) else
  let us' := mset us x ⟨u.f_stamp, true⟩
  let r := onR us' (dropR hd x) wt
  (TO.mk [] r.1, 0, us', r.2.1, r.2.2)
theorem Ok.filt {us : Us} {hd wt : Ps} {n : Nat} (h : Ok us hd wt n) (f : Sl × Int → Bool) : Ok us (hd.filter f) wt n :=
 ⟨h.uu, uk_filter h.uh f, h.uw, fun e he => h.hu e (List.mem_filter.1 he).1, h.wu, h.su, h.nu, h.nw, by have := List.length_filter_le f hd; have := h.nh; omega, h.nn⟩
theorem prep_eq {us : Us} {hd wt : Ps} {n : Nat} (h : Ok us hd wt n) (x : Tx) :
  lT_Prepare us hd wt x = some (prepR us hd wt x) ∧ Ok (prepR us hd wt x).2.2.1 (prepR us hd wt x).2.2.2.1 (prepR us hd wt x).2.2.2.2 n := by
 have zh := h.nh; have zn := h.nn
 cases hu : mget us x with
 | none =>
  have e : prepR us hd wt x = (oE, 6, us, hd, wt) := by rw [prepR, hu]
  rw [e]
  refine ⟨?_, h⟩
  rw [lT_Prepare, lT_ok, Option.bind_some, hu, if_neg (by simp)]; rfl
 | some u =>
  have hs : (mget us x).isSome = true := by simp [hu]
  have hus : Ok (mset us x ⟨u.f_stamp, true⟩) (dropR hd x) wt n := (h.user (x := x) (u := ⟨u.f_stamp, true⟩) (h.su _ (mget_mem hu)) (by rw [mset_len_same _ hs]; exact h.nu)).filt _
  rw [lT_Prepare, lT_ok, Option.bind_some, hu, if_pos (show (some u).isSome = true from rfl), Option.bind_some, waits_eq _ _ _ _ (by omega), Option.bind_some, prepR, hu]
  dsimp only
  cases hw : waits wt x with
  | true => rw [if_pos rfl, if_pos rfl]; exact ⟨rfl, h⟩
  | false =>
   rw [if_neg (by simp), if_neg (by simp), lT_Prepare_c7, hu, if_pos (show (some u).isSome = true from rfl), Option.bind_some, dropR_eq hd x h.uh (by omega), Option.bind_some, on_eq hus, Option.bind_some]
   exact ⟨rfl, hus.on⟩
end Go.Proofs.YtddgjfclpknkcaaGreatDoor.Wk
