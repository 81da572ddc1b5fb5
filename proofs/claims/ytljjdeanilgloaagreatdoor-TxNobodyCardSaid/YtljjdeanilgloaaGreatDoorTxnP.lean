import Derived.Test.YtljjdeanilgloaaGreatDoorTxO
set_option linter.unusedVariables false
set_option linter.unusedSimpArgs false
set_option linter.unusedSectionVars false
namespace Go.Proofs.YtljjdeanilgloaaGreatDoor.Wk
open Go Go.Cn
theorem far1 (a : Ci) : ∃ b, Ar [a] = some b := by
 unfold Ar
 have hs : Bh [a] = some [a] := rfl
 obtain ⟨n, hn⟩ : ∃ n, big = n + 2 := ⟨1180591620717411303422, by rw [big_eq]⟩
 rw [hs, hn]
 have e1 : IntKind.wrap .i64 1 = 1 := rfl
 simp [Ar_l0, e1]
theorem got0 (a : Ci) (k : A8 Int) (m : Int) : As a [] k m = some (a.f_Key, a.f_Mode, a.f_Got) := by
 unfold As
 split <;> rfl
theorem does1 (a : Ci) : Al a = some () := by
 unfold Al
 split
 ·rfl
 ·split
  ·rfl
  ·split
   ·rfl
   ·split
    ·rfl
    ·show (As a [] (A8.mk 0 0 0 0 0 0 0 0) 0).bind _ = _
     rw [got0]; rfl
theorem does2 (s : Cd) (o : Cb) (r : A8 Cc) (a : Ci) : AS s o r a = some () := by
 unfold AS
 split
 ·rfl
 ·split
  ·rfl
  ·split
   ·rfl
   ·split
    ·rfl
    ·show (As a [] (A8.mk 0 0 0 0 0 0 0 0) 0).bind _ = _
     rw [got0]; rfl
theorem plan0 : AB [] [] = some ([], [], 0) := by kernel_rfl
theorem l3_eq (a : Ci) : AH_l3000 a big = some true := by
 obtain ⟨n, hn⟩ : ∃ n, big = n + 1 := ⟨1180591620717411303423, by rw [big_eq]⟩
 rw [hn, AH_l3000, plan0, alive_eq]
 rfl
theorem l2_eq (a : Ci) : AH_l2000 a big = some true := by
 have h3 := l3_eq a
 obtain ⟨n, hn⟩ : ∃ n, big = n + 1 := ⟨1180591620717411303423, by rw [big_eq]⟩
 rw [hn, AH_l2000, does2, h3]
 change _ = some true
 kernel_rfl
theorem l1_eq (a : Ci) : AH_l1000 a big = some true := by
 have h2 := l2_eq a
 obtain ⟨n, hn⟩ : ∃ n, big = n + 1 := ⟨1180591620717411303423, by rw [big_eq]⟩
 rw [hn, AH_l1000, does1, h2]
 change _ = some true
 kernel_rfl
theorem nobody_law (a : Ci) (_ : wfL (c_Ci a)) : AH a = some true := by
 unfold AH
 obtain ⟨b, hb⟩ := far1 a
 rw [hb, alive_eq, l1_eq]
 cases b <;> rfl
end Go.Proofs.YtljjdeanilgloaaGreatDoor.Wk
