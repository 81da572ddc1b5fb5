import Derived.Test.YtddgjfclpknkcaaGreatDoorLkR
set_option linter.unusedVariables false
set_option linter.unusedSimpArgs false
namespace Go.Proofs.YtddgjfclpknkcaaGreatDoor.Wk
open Go Go.Cn
def relR (us : Us) (hd wt : Ps) (x : Tx) : Rs :=
 match mget us x with
 | none => (oE, 6, us, hd, wt)
 | some _ =>
  let r := onR (mdel us x) (drop hd x) (drop wt x)
  (TO.mk [] r.1, 0, mdel us x, r.2.1, r.2.2)
theorem rel_eq {us : Us} {hd wt : Ps} {n : Nat} (h : Ok us hd wt n) (x : Tx) :
  lT_Release us hd wt x = some (relR us hd wt x) ∧ Ok (relR us hd wt x).2.2.1 (relR us hd wt x).2.2.2.1 (relR us hd wt x).2.2.2.2 n := by
 have zh := h.nh; have zn := h.nn
 cases hu : mget us x with
 | none =>
  have e : relR us hd wt x = (oE, 6, us, hd, wt) := by rw [relR, hu]
  rw [e]
  refine ⟨?_, h⟩
  rw [lT_Release, lT_ok, Option.bind_some, hu, if_neg (by simp)]; rfl
 | some u =>
  rw [lT_Release, lT_ok, Option.bind_some, hu, if_pos (show (some u).isSome = true from rfl), Option.bind_some, gone_eq us hd wt x h.uh h.uw (by omega) (by omega), Option.bind_some, on_eq (h.gone x), Option.bind_some, relR, hu]
  exact ⟨rfl, (h.gone x).on⟩
end Go.Proofs.YtddgjfclpknkcaaGreatDoor.Wk
