/- Plain facts: a step's words are read as the step; the document's line. -/
import Derived.Test.YtdchgoaokceomaaDoorBacR
set_option linter.unusedVariables false
set_option linter.unusedSimpArgs false
set_option linter.unusedSectionVars false
namespace Go.Proofs.YtdchgoaokceomaaDoor.Wk
open Go Go.Cn
set_option maxRecDepth 10000
set_option maxHeartbeats 2000000
theorem stepE (m : Nat) (hm : 1 ≤ m ∧ m < 11) (rest : List (List UInt8)) : script_reader_step ⟨VL.getD m default :: rest, false⟩ = stepBody ⟨VL.getD m default :: rest, false⟩ ((m : Int), rest, false) := by
  rw [step_def, ofA VL m (by decide) hm.1 hm.2 (by
    have : m = 1 ∨ m = 2 ∨ m = 3 ∨ m = 4 ∨ m = 5 ∨ m = 6 ∨ m = 7 ∨ m = 8 ∨ m = 9 ∨ m = 10 := by omega
    rcases this with rfl | rfl | rfl | rfl | rfl | rfl | rfl | rfl | rfl | rfl <;> decide) rest false, Option.bind_some]
theorem strI_id (bs : List Int) (h : wB bs) : bytesI (strI bs) = bs := by
  induction bs with
  | nil => rfl
  | cons x r ih =>
    have hx := h x (List.mem_cons_self ..)
    show ((UInt8.ofNat x.toNat).toNat : Int) :: bytesI (strI r) = _
    rw [ih (fun y hy => h y (List.mem_cons_of_mem _ hy)), UInt8.toNat_ofNat']
    congr 1; omega
theorem stepA (g : T_parrelref27_Step) (ok : MayOK g) (hk : kept g = some g) (wc : WfC g.f_Call) (wb : wB g.f_Bytes) : script_reader_step ⟨TW g, false⟩ = some (toP g, [], false) := by
  have kk := kinds ok.k1 ok.k2
  have nd := ok.node; have wr := ok.wire; have to := ok.to; have nn := ok.n; have by_ := ok.bytes
  have cc := ok.call; have ck := ok.key
  obtain ⟨k, n, w, m, ct, c, t, bs⟩ := g
  simp only at kk nd wr to nn by_ cc ck wc wb
  have hs : bytesI (strI bs) = bs := strI_id bs wb
  have hsl : (strI bs).length = bs.length := by simp [strI]
  rcases kk with rfl | rfl | rfl | rfl | rfl | rfl | rfl | rfl | rfl | rfl
  · obtain ⟨r, e1, _⟩ := pure_eq c wc.vt (by have := wc.vl; omega)
    obtain ⟨r', e2, e3, _⟩ := pure_eq c wc.vt (by have := wc.vl; omega)
    obtain rfl := Option.some.inj (e1.symm.trans e2)
    have hk2 : some (T_parrelref27_Step.mk 1 n 0 0 false r 0 []) = some ⟨1, n, w, m, ct, c, t, bs⟩ := by
      rw [← hk]; unfold kept
      show _ = ((script_pure (toC c)).bind _).bind _
      rw [e3]; rfl
    cases (Option.some.inj hk2)
    obtain ⟨c1, c2, c3, c4⟩ := cc rfl
    refine (stepE 1 (by omega) (D n :: CW c)).trans ?_
    show stepBody _ (1, D n :: CW c, false) = _
    rw [sb1, rnumA _ false n nd.1 nd.2, Option.bind_some]
    show (script_reader_call ⟨CW c, false⟩).bind _ = _
    rw [callA c wc c1 c2 e1 (fun h => KN_of _ wc.ky (ck rfl h)) c3 c4]; rfl
  · have hk : some (T_parrelref27_Step.mk 2 0 w 0 false (T_parrelref27_Call.mk 0 0 0 ⟨0, 0, 0⟩ (A8.mk 0 0 0 0 0 0 0 0) [] 0 0 []) 0 []) = some (T_parrelref27_Step.mk 2 n w m ct c t bs) := hk
    cases (Option.some.inj hk)
    refine (stepE 2 (by omega) [D w]).trans ?_
    show stepBody _ (2, [D w], false) = _
    rw [sb2, rnumA _ false w wr.1 wr.2]; rfl
  · have hk : some (T_parrelref27_Step.mk 3 0 w 0 false (T_parrelref27_Call.mk 0 0 0 ⟨0, 0, 0⟩ (A8.mk 0 0 0 0 0 0 0 0) [] 0 0 []) 0 []) = some (T_parrelref27_Step.mk 3 n w m ct c t bs) := hk
    cases (Option.some.inj hk)
    refine (stepE 3 (by omega) [D w]).trans ?_
    show stepBody _ (3, [D w], false) = _
    rw [sb3, rnumA _ false w wr.1 wr.2]; rfl
  · have hk : some (T_parrelref27_Step.mk 4 0 w 0 false (T_parrelref27_Call.mk 0 0 0 ⟨0, 0, 0⟩ (A8.mk 0 0 0 0 0 0 0 0) [] 0 0 []) 0 []) = some (T_parrelref27_Step.mk 4 n w m ct c t bs) := hk
    cases (Option.some.inj hk)
    refine (stepE 4 (by omega) [D w]).trans ?_
    show stepBody _ (4, [D w], false) = _
    rw [sb4, rnumA _ false w wr.1 wr.2]; rfl
  · have hk : some (T_parrelref27_Step.mk 5 0 w 0 false (T_parrelref27_Call.mk 0 0 0 ⟨0, 0, 0⟩ (A8.mk 0 0 0 0 0 0 0 0) [] 0 0 []) 0 []) = some (T_parrelref27_Step.mk 5 n w m ct c t bs) := hk
    cases (Option.some.inj hk)
    refine (stepE 5 (by omega) [D w]).trans ?_
    show stepBody _ (5, [D w], false) = _
    rw [sb5, rnumA _ false w wr.1 wr.2]; rfl
  · have hk : some (T_parrelref27_Step.mk 6 n 0 0 false (T_parrelref27_Call.mk 0 0 0 ⟨0, 0, 0⟩ (A8.mk 0 0 0 0 0 0 0 0) [] 0 0 []) 0 []) = some (T_parrelref27_Step.mk 6 n w m ct c t bs) := hk
    cases (Option.some.inj hk)
    refine (stepE 6 (by omega) [D n]).trans ?_
    show stepBody _ (6, [D n], false) = _
    rw [sb6, rnumA _ false n nd.1 nd.2]; rfl
  · have hk : some (T_parrelref27_Step.mk 7 n 0 0 false (T_parrelref27_Call.mk 0 0 0 ⟨0, 0, 0⟩ (A8.mk 0 0 0 0 0 0 0 0) [] 0 0 []) 0 []) = some (T_parrelref27_Step.mk 7 n w m ct c t bs) := hk
    cases (Option.some.inj hk)
    refine (stepE 7 (by omega) [D n]).trans ?_
    show stepBody _ (7, [D n], false) = _
    rw [sb7, rnumA _ false n nd.1 nd.2]; rfl
  · have hk : some (T_parrelref27_Step.mk 8 n 0 m ct (T_parrelref27_Call.mk 0 0 0 ⟨0, 0, 0⟩ (A8.mk 0 0 0 0 0 0 0 0) [] 0 0 []) 0 bs) = some (T_parrelref27_Step.mk 8 n w m ct c t bs) := hk
    cases (Option.some.inj hk)
    have fin : ∀ (j : Nat), (1 ≤ j ∧ j < 3) → stepBody ⟨VL.getD 8 default :: [D n, S m, HL.getD j default, H (strI bs)], false⟩ (8, [D n, S m, HL.getD j default, H (strI bs)], false) = some (⟨8, n, 0, m, ((j : Int) == 2), zC, 0, bs⟩, [], false) := by
      intro j hj
      rw [sb8, rnumA _ false n nd.1 nd.2, Option.bind_some]
      show (script_reader_keep ⟨[S m, HL.getD j default, H (strI bs)], false⟩).bind _ = _
      rw [rkeepA _ false m nn.1 nn.2, Option.bind_some]
      show (script_reader_of ⟨[HL.getD j default, H (strI bs)], false⟩ HL).bind _ = _
      rw [ofA HL j (by decide) hj.1 hj.2 (by
        have : j = 1 ∨ j = 2 := by omega
        rcases this with rfl | rfl <;> decide) _ false, Option.bind_some]
      show (script_reader_bytes ⟨[H (strI bs)], false⟩).bind _ = _
      rw [rbytesA [] (strI bs) (by omega), hs]; rfl
    cases ct
    · exact (stepE 8 (by omega) [D n, S m, [119, 104, 111, 108, 101], H (strI bs)]).trans (fin 1 (by omega))
    · exact (stepE 8 (by omega) [D n, S m, [99, 117, 116], H (strI bs)]).trans (fin 2 (by omega))
  · have hk : some (T_parrelref27_Step.mk 9 n 0 m false (T_parrelref27_Call.mk 0 0 0 ⟨0, 0, 0⟩ (A8.mk 0 0 0 0 0 0 0 0) [] 0 0 []) 0 []) = some (T_parrelref27_Step.mk 9 n w m ct c t bs) := hk
    cases (Option.some.inj hk)
    refine (stepE 9 (by omega) [D n, S m]).trans ?_
    show stepBody _ (9, [D n, S m], false) = _
    rw [sb9, rnumA _ false n nd.1 nd.2, Option.bind_some]
    show (script_reader_keep ⟨[S m], false⟩).bind _ = _
    rw [rkeepA _ false m nn.1 nn.2]; rfl
  · have hk : some (T_parrelref27_Step.mk 10 n 0 0 false (T_parrelref27_Call.mk 0 0 0 ⟨0, 0, 0⟩ (A8.mk 0 0 0 0 0 0 0 0) [] 0 0 []) t bs) = some (T_parrelref27_Step.mk 10 n w m ct c t bs) := hk
    cases (Option.some.inj hk)
    refine (stepE 10 (by omega) [D n, D t, H (strI bs)]).trans ?_
    show stepBody _ (10, [D n, D t, H (strI bs)], false) = _
    rw [sb10, rnumA _ false n nd.1 nd.2, Option.bind_some]
    show (script_reader_num ⟨[D t, H (strI bs)], false⟩).bind _ = _
    rw [rnumA _ false t to.1 to.2, Option.bind_some]
    show (script_reader_bytes ⟨[H (strI bs)], false⟩).bind _ = _
    rw [rbytesA [] (strI bs) (by omega), hs]; rfl
/-- Words with blanks between. -/
def J : List (List UInt8) → List UInt8
  | [] => []
  | w :: ws => w ++ ws.flatMap (([32] : List UInt8) ++ ·)
end Go.Proofs.YtdchgoaokceomaaDoor.Wk
