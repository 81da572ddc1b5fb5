import Derived.Test.YtddgjfclpknkcaaGreatDoorCnR
namespace Go.Cn
open Go
def tau (m : Nat) (L : List Nat) (c : Nat) : Nat := if c < m then c else (L[c - m]?).getD 0
def nodupB : List Nat → Bool
 | [] => true
 | x :: r => !(r.any (· == x)) && nodupB r
def tauOk (m : Nat) (L : List Nat) : Bool := L.all (fun x => decide (m ≤ x)) && nodupB L
theorem nodupB_get : ∀ {L : List Nat} {i j : Nat} {x : Nat}, nodupB L = true → L[i]? = some x → L[j]? = some x → i = j
 | [], _, _, _, _, h, _ => by simp at h
 | y :: r, 0, 0, _, _, _, _ => rfl
 | y :: r, 0, j + 1, x, h, h1, h2 => by
  simp only [List.getElem?_cons_zero, Option.some.injEq] at h1
  subst h1
  simp only [nodupB, Bool.and_eq_true, Bool.not_eq_true', List.any_eq_false, beq_iff_eq] at h
  exact absurd rfl (h.1 y (List.mem_of_getElem? (by simpa using h2)))
 | y :: r, i + 1, 0, x, h, h1, h2 => by
  simp only [List.getElem?_cons_zero, Option.some.injEq] at h2
  subst h2
  simp only [nodupB, Bool.and_eq_true, Bool.not_eq_true', List.any_eq_false, beq_iff_eq] at h
  exact absurd rfl (h.1 y (List.mem_of_getElem? (by simpa using h1)))
 | y :: r, i + 1, j + 1, x, h, h1, h2 => by
  simp only [nodupB, Bool.and_eq_true] at h
  have := nodupB_get (L := r) (i := i) (j := j) (x := x) h.2 (by simpa using h1) (by simpa using h2)
  omega
theorem tau_lt {m : Nat} {L : List Nat} (c : Nat) (h : c < m) : tau m L c = c := by simp [tau, h]
theorem tau_inj {m : Nat} {L : List Nat} (h : tauOk m L = true) : ∀ c d, c < m + L.length → d < m + L.length → tau m L c = tau m L d → c = d := by
 intro c d hc hd he
 simp only [tauOk, Bool.and_eq_true, List.all_eq_true, decide_eq_true_eq] at h
 have get : ∀ c, ¬ c < m → c < m + L.length → ∃ x, L[c - m]? = some x ∧ tau m L c = x ∧ m ≤ x := by
  intro c h1 h2
  have hl : c - m < L.length := by omega
  refine ⟨L[c - m], List.getElem?_eq_getElem hl, by simp [tau, h1, List.getElem?_eq_getElem hl], h.1 _ (List.getElem_mem _)⟩
 by_cases h1 : c < m <;> by_cases h2 : d < m
 ·rw [tau_lt c h1, tau_lt d h2] at he; exact he
 ·obtain ⟨x, _, k2, k3⟩ := get d h2 hd
  rw [tau_lt c h1, k2] at he; omega
 ·obtain ⟨x, _, k2, k3⟩ := get c h1 hc
  rw [tau_lt d h2, k2] at he; omega
 ·obtain ⟨x, k1, k2, _⟩ := get c h1 hc
  obtain ⟨y, g1, g2, _⟩ := get d h2 hd
  rw [k2, g2] at he
  subst he
  have := nodupB_get h.2 k1 g1
  omega
def selUp (H : Heap) (τ : Nat → Nat) : Upd → List (Option LO)
 | [] => []
 | (_, none) :: r => none :: selUp H τ r
 | (c, some _) :: r => H.at (τ c) :: selUp H τ r
def renUp (τ : Nat → Nat) : Upd → List (Option LO)
 | [] => []
 | (_, none) :: r => none :: renUp τ r
 | (_, some o) :: r => some (o.ren τ) :: renUp τ r
def wrUp : Upd → Bool
 | [] => true
 | (_, none) :: r => wrUp r
 | (_, some o) :: r => o.wr && wrUp r
theorem upAt_of {H : Heap} {τ : Nat → Nat} : ∀ {up : Upd}, selUp H τ up = renUp τ up → wrUp up = true → UpAt H τ up
 | [], _, _ => trivial
 | (_, none) :: r, h, hw => by
  simp only [selUp, renUp, List.cons.injEq, true_and] at h
  exact upAt_of (up := r) h hw
 | (c, some o) :: r, h, hw => by
  simp only [selUp, renUp, List.cons.injEq] at h
  simp only [wrUp, Bool.and_eq_true] at hw
  refine ⟨?_, upAt_of (up := r) h.2 hw.2⟩
  rw [h.1]
  exact ⟨by rw [LO.ren_wr]; exact hw.1, LeP.refl _⟩
def runRet (P : Program) (fn : Func) (m : Nat) (L : List Nat) (up : Upd) (n : Nat) (s : List Tok) (k : List It) (T : List LV) (H : Heap) : Option (Prop × LV × List (Option LO)) :=
 match run P n s k T H with
 | some (q, .ret T' H') =>
  match resE P H' T' fn.results.toList with
  | some (q', vs) => if tauOk m L && wrUp up then some (q ∧ q', resV vs, selUp H' (tau m L) up) else none
  | none => none
 | _ => none
section
variable {P : Program} {w0 : World} {W : Nat → Prop} {μ0 : Emb} {Post : List LV → Heap → Prop}
theorem run_ret (hm : P.follows .mixedOrders = true) {fn : Func} {m : Nat} {L : List Nat} {v : LV} {up : Upd} {n : Nat} {s : List Tok} {k : List It} {T : List LV} {H : Heap} {q : Prop} {nn : Nat} (hq : q)
  (h : runRet P fn m L up n s k T H = some (q, v.ren (tau m L), renUp (tau m L) up)) (hn : nn = m + L.length) :
  kont P w0 W μ0 (FnPost P fn m nn v up) k none T H := by
 unfold runRet at h
 split at h <;> try cases h
 rename_i q1 T' H' hr
 split at h <;> try cases h
 rename_i q2 vs he
 split at h <;> try cases h
 rename_i ht
 simp only [Option.some.injEq, Prod.mk.injEq] at h
 obtain ⟨rfl, hv, hu⟩ := h
 simp only [Bool.and_eq_true] at ht
 refine run_ok hm n s k T H _ _ hr hq.1 ⟨tau m L, q2, vs, he, hq.2, LV.Le.of_eq hv, fun c hc => tau_lt c hc, ?_, upAt_of hu ht.2⟩
 subst hn
 exact tau_inj ht.1
def selT : List LV → List LV → List LV
 | [], _ => []
 | _ :: _, [] => []
 | .any :: r, _ :: l => .any :: selT r l
 | _ :: r, x :: l => x :: selT r l
def selH (H : Heap) (τ : Nat → Nat) : Nat → Heap → Heap
 | _, [] => []
 | i, none :: r => none :: selH H τ (i + 1) r
 | i, some _ :: r => H.at (τ i) :: selH H τ (i + 1) r
def renH (τ : Nat → Nat) : Heap → Heap
 | [] => []
 | none :: r => none :: renH τ r
 | some o :: r => some (o.ren τ) :: renH τ r
def underH (n : Nat) : Heap → Prop
 | [] => True
 | none :: r => underH n r
 | some o :: r => o.under n ∧ underH n r
theorem selT_get : ∀ {T' T : List LV} {τ : Nat → Nat}, selT T' T = renL τ T' → T.length = T'.length → ∀ (t : Nat) (l : LV), T'[t]? = some l → l = .any ∨ ∃ x, T[t]? = some x ∧ x = l.ren τ
 | [], _, _, _, _, t, l, h => by simp at h
 | y :: r, [], _, _, hl, t, l, h => by simp at hl
 | y :: r, x :: l', τ, he, hl, 0, l, h => by
  simp only [List.getElem?_cons_zero, Option.some.injEq] at h
  subst h
  by_cases hy : y = .any
  ·exact .inl hy
  ·right
   have : selT (y :: r) (x :: l') = x :: selT r l' := by cases y <;> first | rfl | exact absurd rfl hy
   rw [this] at he
   simp only [renL, List.cons.injEq] at he
   exact ⟨x, rfl, he.1⟩
 | y :: r, x :: l', τ, he, hl, t + 1, l, h => by
  have : (selT (y :: r) (x :: l')).tail = selT r l' := by cases y <;> rfl
  have he' : selT r l' = renL τ r := by rw [← this, he]; rfl
  exact selT_get he' (by simpa using hl) t l (by simpa using h)
theorem selH_get {H : Heap} {τ : Nat → Nat} : ∀ {H' : Heap} {i : Nat}, selH H τ i H' = renH τ H' → ∀ (c : Nat) (o' : LO), H'.at c = some o' → H.at (τ (i + c)) = some (o'.ren τ)
 | [], _, _, c, o', h => by simp [Heap.at] at h
 | none :: r, i, he, 0, o', h => by simp [Heap.at] at h
 | none :: r, i, he, c + 1, o', h => by
  simp only [selH, renH, List.cons.injEq, true_and] at he
  have := selH_get he c o' (by simpa [Heap.at] using h)
  rwa [show i + 1 + c = i + (c + 1) from by omega] at this
 | some o :: r, i, he, 0, o', h => by
  simp only [selH, renH, List.cons.injEq] at he
  simp only [Heap.at, List.getElem?_cons_zero, Option.getD_some, Option.some.injEq] at h
  subst h
  exact he.1
 | some o :: r, i, he, c + 1, o', h => by
  simp only [selH, renH, List.cons.injEq] at he
  have := selH_get he.2 c o' (by simpa [Heap.at] using h)
  rwa [show i + 1 + c = i + (c + 1) from by omega] at this
theorem underH_get {n : Nat} : ∀ {H : Heap} {c : Nat} {o : LO}, underH n H → H.at c = some o → o.under n
 | [], c, o, _, h => by simp [Heap.at] at h
 | none :: r, 0, o, _, h => by simp [Heap.at] at h
 | none :: r, c + 1, o, hu, h => underH_get (H := r) hu (by simpa [Heap.at] using h)
 | some x :: r, 0, o, hu, h => by
  simp only [Heap.at, List.getElem?_cons_zero, Option.getD_some, Option.some.injEq] at h
  subst h; exact hu.1
 | some x :: r, c + 1, o, hu, h => underH_get (H := r) hu.2 (by simpa [Heap.at] using h)
theorem St.ren {μ : Emb} {T T' : List LV} {H H' : Heap} {a : Act} {w : World} {m : Nat} {L : List Nat} (s : St w0 W μ0 μ T H a w) (hμ0 : ∀ c p, μ0 c = some p → c < m) (ht : tauOk m L = true) (hl : H'.length = m + L.length)
  (hlen : T.length = T'.length) (hT : selT T' T = renL (tau m L) T') (hTu : underL H'.length T' = true) (hH : selH H (tau m L) 0 H' = renH (tau m L) H') (hHu : underH H'.length H') : ∃ μ', St w0 W μ0 μ' T' H' a w := by
 let μ' : Emb := ⟨fun c => if c < H'.length then μ (tau m L c) else none, μ.fro⟩
 have h1 : ∀ c p, c < H'.length → μ (tau m L c) = some p → μ' c = some p := fun c p hc hp => by simp only [μ', if_pos hc]; exact hp
 have h2 : ∀ c p, μ' c = some p → c < H'.length ∧ μ (tau m L c) = some p := by
  intro c p hp
  simp only [μ'] at hp
  split at hp
  ·rename_i hc; exact ⟨hc, hp⟩
  ·cases hp
 have hlt : ∀ c o, H'.at c = some o → c < H'.length := by
  intro c o h
  simp only [Heap.at] at h
  cases hc : H'[c]? with
  | none => simp [hc] at h
  | some x => exact (List.getElem?_eq_some_iff.1 hc).1
 have get : ∀ c o', H'.at c = some o' → H.at (tau m L c) = some (o'.ren (tau m L)) ∧ o'.under H'.length := fun c o' h => by
  have := selH_get hH c o' h
  exact ⟨by simpa using this, underH_get hHu h⟩
 have xv : ∀ c o' p, H'.at c = some o' → μ' c = some p → XOK (μ.via (tau m L)) w p o' := fun c o' p h hp => XOK.of_ren.1 (s.sim.xok _ _ p (get c o' h).1 (h2 c p hp).2)
 have xt : ∀ c o' p b, H'.at c = some o' → μ' c = some p → Xtra μ' w p o' b → Xtra μ w p (o'.ren (tau m L)) b := fun c o' p b h hp hx =>
  Xtra.of_ren.2 (Xtra.on (n := H'.length) (μ := μ.via (tau m L)) (μ' := μ') h1 (get c o' h).2 (xv c o' p h hp) hx)
 refine ⟨μ', ⟨fun c o' h => ?_, fun c o c' o' p p' h h' hne hw hp hp' => ?_, s.sim.os, s.sim.tape, s.sim.output, s.sim.draws, s.sim.grow, s.sim.keep, fun c o' p h hw hp => ?_, s.sim.fro, fun c o' p h hw hp => ?_, s.sim.tab, fun c o' p h hp => ?_, fun c o' p b d x p' h hp hx h' hp' => ?_, fun c o' p b h hp hx => ?_, fun c o' p b h hp hx => ?_⟩, ⟨?_, fun t l htl => ?_⟩, fun c p hp => (h2 c p hp).1, s.defs, ⟨⟨fun c p hp => ?_, s.ext.ext.fro⟩, s.ext.new⟩⟩
 ·obtain ⟨g1, g3⟩ := get c o' h
  rcases s.sim.obj' _ _ g1 with ⟨k1, k2⟩ | ⟨p, k1, k2⟩
  ·refine .inl ⟨?_, LO.ren_void.1 k2⟩
   cases hm : μ' c with
   | none => rfl
   | some p => rw [(h2 c p hm).2] at k1; cases k1
  ·exact .inr ⟨p, h1 c p (hlt c o' h) k1, ObjOK.on (n := H'.length) (μ := μ.via (tau m L)) (μ' := μ') h1 (fun _ _ h => h) g3 (ObjOK.of_ren.1 k2)⟩
 ·obtain ⟨g1, _⟩ := get c o h
  obtain ⟨g1', _⟩ := get c' o' h'
  exact s.sim.sep _ _ _ _ p p' g1 g1' (fun e => hne (tau_inj ht c c' (hl ▸ hlt c o h) (hl ▸ hlt c' o' h') e)) (by simpa only [LO.ren_wr] using hw) (h2 c p hp).2 (h2 c' p' hp').2
 ·exact s.sim.own _ _ p (get c o' h).1 (by rw [LO.ren_wr]; exact hw) (h2 c p hp).2
 ·exact s.sim.frs _ _ p (get c o' h).1 (by rw [LO.ren_wr]; exact hw) (h2 c p hp).2
 ·exact XOK.on (n := H'.length) (μ := μ.via (tau m L)) (μ' := μ') h1 (fun _ _ h => h) (get c o' h).2 (xv c o' p h hp)
 ·have := s.sim.xsep _ _ p b _ _ p' (get c o' h).1 (h2 c p hp).2 (xt c o' p b h hp hx) (get d x h').1 (h2 d p' hp').2
  exact ⟨this.1, fun hne hx' => this.2 (fun e => hne (tau_inj ht c d (hl ▸ hlt c o' h) (hl ▸ hlt d x h') e)) (xt d x p' b h' hp' hx')⟩
 ·exact s.sim.xown _ _ p b (get c o' h).1 (h2 c p hp).2 (xt c o' p b h hp hx)
 ·exact s.sim.xfrs _ _ p b (get c o' h).1 (h2 c p hp).2 (xt c o' p b h hp hx)
 ·rw [← hlen]; exact s.fr.size
 ·rcases selT_get hT hlen t l htl with rfl | ⟨x, k1, rfl⟩
  ·trivial
  ·have hu : ∀ {l : List LV} {t : Nat} {x : LV}, underL H'.length l = true → l[t]? = some x → x.under H'.length = true := by
    intro l
    induction l with
    | nil => intro t x _ h; simp at h
    | cons y l ih =>
     intro t x hq h
     simp only [underL, Bool.and_eq_true] at hq
     cases t with
     | zero => simp at h; subst h; exact hq.1
     | succ t => exact ih hq.2 (by simpa using h)
   exact Rel.on (n := H'.length) (μ := μ.via (tau m L)) (μ' := μ') h1 (fun _ _ h => h) (hu hTu htl) (Rel.of_ren.1 (s.fr.get t _ k1))
 ·have hc := hμ0 c p hp
  exact h1 c p (by omega) (by rw [tau_lt c hc]; exact s.ext.ext.loc c p hp)
def runTo (P : Program) (m : Nat) (L : List Nat) (T' : List LV) (H' : Heap) (n : Nat) (s : List Tok) (k : List It) (T : List LV) (H : Heap) : Option (Prop × List It × List LV × Heap) :=
 match run P n s k T H with
 | some (q, .stop k' T1 H1) =>
  if tauOk m L && (H'.length == m + L.length) && headOk k' && underL H'.length T' && (T1.length == T'.length) then some (q, k', selT T' T1, selH H1 (tau m L) 0 H') else none
 | _ => none
theorem run_to (hm : P.follows .mixedOrders = true) {m : Nat} {L : List Nat} {T' : List LV} {H' : Heap} {n : Nat} {s : List Tok} {k k' : List It} {T : List LV} {H : Heap} {q : Prop} (hμ0 : ∀ c p, μ0 c = some p → c < m) (hq : q)
  (hk : kont P w0 W μ0 Post k' none T' H') (h : runTo P m L T' H' n s k T H = some (q, k', renL (tau m L) T', renH (tau m L) H')) (hu : underH H'.length H') : kont P w0 W μ0 Post k none T H := by
 unfold runTo at h
 split at h <;> try cases h
 rename_i q1 k1 T1 H1 hr
 split at h <;> try cases h
 rename_i hc
 simp only [Option.some.injEq, Prod.mk.injEq] at h
 obtain ⟨rfl, rfl, hT, hH⟩ := h
 simp only [Bool.and_eq_true, beq_iff_eq] at hc
 obtain ⟨⟨⟨⟨c1, c2⟩, c3⟩, c4⟩, c5⟩ := hc
 refine run_ok hm n s k T H q1 _ hr hq ?_
 show kont P w0 W μ0 Post k1 none T1 H1
 cases k1 with
 | nil => cases c3
 | cons it k1 =>
  cases it with
  | code cd =>
   intro μ a w s
   obtain ⟨μ', s'⟩ := s.ren hμ0 c1 c2 c5 hT c4 hH hu
   exact hk μ' a w s'
  | loop cd =>
   intro μ a w s
   obtain ⟨μ', s'⟩ := s.ren hμ0 c1 c2 c5 hT c4 hH hu
   exact hk μ' a w s'
  | blk i => cases c3
end
end Go.Cn
