import Derived.Test.YtddgjfclpknkcaaGreatDoorCnX
namespace Go.Cn
open Go
section
variable {P : Program} {w0 : World} {W : Nat → Prop} {μ0 : Emb} {Post Post' : List LV → Heap → Prop}
def nextSh : Code → Option (Nat × Nat × Nat × Code)
 | .seq (.region _ ops false) c2 =>
  match ops.toList with
  | [o1, o2] =>
   match o1.op, o1.dst, o1.guard, o2.op, o2.dst, o2.guard with
   | .next (.tmp it) false, some t1, none, .extract (.tmp t1') 0, some t2, none => if t1' = t1 then some (it, t1, t2, c2) else none
   | _, _, _, _, _, _ => none
  | _ => none
 | _ => none
theorem k_nextL {c c2 : Code} {it t1 t2 d m : Nat} {ag : Bool} {ks : List CK} {es rest : List (LV × LV)} {cur : Option (LV × LV)} {k : List It} {T : List LV} {H : Heap}
  (hs : nextSh c = some (it, t1, t2, c2)) (hit : T[it]? = some (.ptr d 0 0)) (hd : H.at d = some (.mit m ag ks es cur rest)) (hT : t1 < T.length)
  (h0 : rest = [] → kont P w0 W μ0 Post (.code c2 :: .loop c :: k) none ((T.set t1 (.tup [.bool false])).set t2 (.bool false)) H)
  (h1 : ∀ i kk vv, rest[i]? = some (kk, vv) → kont P w0 W μ0 Post (.code c2 :: .loop c :: k) none ((T.set t1 (.tup [.bool true, kk, vv])).set t2 (.bool true)) (H.upd [(d, some (.mit m ag ks es (some (kk, vv)) (rest.eraseIdx i)))])) :
  kont P w0 W μ0 Post (.loop c :: k) none T H := by
 have hs' := hs
 unfold nextSh at hs
 split at hs <;> try cases hs
 rename_i id ops c2'
 split at hs <;> try cases hs
 rename_i o1 o2 hops
 split at hs <;> try cases hs
 rename_i it' t1' t1'' t2' ho1 hd1 hg1 ho2 hd2 hg2
 split at hs <;> cases hs
 rename_i e
 subst e
 refine k_round (k_seq ?_)
 intro μ a w s
 refine wp_region ?_
 have hsz : ops.size = 2 := by rw [← Array.length_toList, hops]; rfl
 have hi0 : ops[0]? = some o1 := by rw [← Array.getElem?_toList, hops]; rfl
 have hi1 : ops[1]? = some o2 := by rw [← Array.getElem?_toList, hops]; rfl
 rw [hsz, show List.range 2 = [0, 1] from rfl, wpOps_cons]
 have second : ∀ (v : List LV) (b : LV) (H1 : Heap) (μ1 : Emb) (a1 : Act) (w1 : World), v[0]? = some b → St w0 W μ0 μ1 (T.set t1'' (.tup v)) H1 a1 w1 →
   kont P w0 W μ0 Post (.code c2 :: .loop (.seq (.region id ops false) c2) :: k) none ((T.set t1'' (.tup v)).set t2 b) H1 →
   wpOps P ops (fun e a' w' => ∃ μ' T' H', St w0 W μ0 μ' T' H' a' w' ∧ onEnd Post (kont P w0 W μ0 Post (.code c2 :: .loop (.seq (.region id ops false) c2) :: k)) e T' H') [1] a1 w1 := by
  intro v b H1 μ1 a1 w1 hb s1 hk
  have hr : regE P ops [(o2, ({} : Hint))] (T.set t1'' (.tup v)) H1 = some ((((True ∧ True)) ∧ True), [⟨some t2, slotsOf o2.op.operands.toList, b, [], []⟩], (T.set t1'' (.tup v)).set t2 b, H1) := by
   simp only [regE, stepOp, hg2, runOp, eOp, ho2, eOp1, opnd, List.getElem?_set_self hT, Option.getD_some, eExtract, hb, Eff.val, Upd.plain, List.all_nil, Bool.true_or, if_true, fzTo, Bool.false_eq_true, if_false, told, ovUp, hd2, List.nil_append, Ent.putT, Heap.upd]
  exact regE_seq [(o2, {})] 1 _ _ _ _ _ _ μ1 a1 w1 hr ⟨⟨trivial, trivial⟩, trivial⟩ (fun j o h hj => by
   cases j with
   | zero => simp at hj; obtain ⟨rfl, rfl⟩ := hj; exact hi1
   | succ j => simp at hj) s1 (fun μ' a' w' s' => ⟨μ', _, _, s', hk⟩)
 have hrel : Rel μ (.ptr d 0 0) (a.eval (.tmp it)) := s.fr.get it _ hit
 have hmem : (d, LO.mit m ag ks es cur rest) ∈ H.pre [d] := Heap.mem_pre.2 ⟨by simp, hd⟩
 have hpre := s.sim.pre (pre := H.pre [d]) (fun c o h => (Heap.mem_pre.1 h).2)
 have step : ∀ (v : LV) (up : Upd), OpRuns P o1 a w μ (H.pre [d]) up v → (∀ x w' μ', Rel μ' v x → Delta μ w (H.pre [d]) up μ' w' → wpOps P ops (fun e a' w' => ∃ μ' T' H', St w0 W μ0 μ' T' H' a' w' ∧ onEnd Post (kont P w0 W μ0 Post (.code c2 :: .loop (.seq (.region id ops false) c2) :: k)) e T' H') [1] (a.put (some t1'') x) w') →
   wpOp P ops (fun e a' w' => ∃ μ' T' H', St w0 W μ0 μ' T' H' a' w' ∧ onEnd Post (kont P w0 W μ0 Post (.code c2 :: .loop (.seq (.region id ops false) c2) :: k)) e T' H') 0 (fun a w => wpOps P ops (fun e a' w' => ∃ μ' T' H', St w0 W μ0 μ' T' H' a' w' ∧ onEnd Post (kont P w0 W μ0 Post (.code c2 :: .loop (.seq (.region id ops false) c2) :: k)) e T' H') [1] a w) a w := by
  intro v up hr hK
  have := runs_wp (P := P) (Q := fun e a' w' => ∃ μ' T' H', St w0 W μ0 μ' T' H' a' w' ∧ onEnd Post (kont P w0 W μ0 Post (.code c2 :: .loop (.seq (.region id ops false) c2) :: k)) e T' H') (K := fun a w => wpOps P ops (fun e a' w' => ∃ μ' T' H', St w0 W μ0 μ' T' H' a' w' ∧ onEnd Post (kont P w0 W μ0 Post (.code c2 :: .loop (.seq (.region id ops false) c2) :: k)) e T' H') [1] a w) hr (by rw [hd1]; exact hK)
  unfold wpOp
  simp only [hi0, Region.wanted, hg1, if_true]
  exact .inl this
 rcases next_mit (P := P) (ty := o1.type) hpre hmem hrel with ⟨hr, hrun⟩ | ⟨i, kk, vv, x, w', hr, hrun, hx, hdl⟩
 ·refine step (.tup [.bool false]) [] (.inl ⟨_, w, μ, .inl ?_, ⟨_, rfl, .bool false, _, rfl, rfl, rfl⟩, Delta.refl μ w _⟩) (fun x w' μ' hx hdl => ?_)
  ·simp [execOp, ho1, hrun]
  ·have s1 := s.step (e := ⟨some t1'', [], .tup [.bool false], [d], []⟩) rfl hx hdl
   exact second [.bool false] (.bool false) H μ' _ w' rfl s1 (h0 hr)
 ·refine step (.tup [.bool true, kk, vv]) _ (.inl ⟨x, w', μ, .inl ?_, hx, hdl⟩) (fun x w' μ' hx hdl => ?_)
  ·simp [execOp, ho1, hrun]
  ·have s1 := s.step (e := ⟨some t1'', [], .tup [.bool true, kk, vv], [d], _⟩) rfl hx hdl
   exact second [.bool true, kk, vv] (.bool true) _ μ' _ w' rfl s1 (h1 i kk vv hr)
end
noncomputable def agree {α R : Type} (rest : List α) (f : α → List α → Option R) : Option R :=
 open Classical in
 match rest with
 | [] => none
 | a :: l => if ∀ i x, (a :: l)[i]? = some x → f x ((a :: l).eraseIdx i) = f a l then f a l else none
theorem agree_some {α R : Type} {rest : List α} {f : α → List α → Option R} {r : R} (h : agree rest f = some r) {i : Nat} {x : α} (hi : rest[i]? = some x) : f x (rest.eraseIdx i) = some r := by
 cases rest with
 | nil => simp at hi
 | cons a l =>
  unfold agree at h
  simp only at h
  split at h
  ·rename_i hall; rw [hall i x hi]; exact h
  ·cases h
theorem agree_eq {α R : Type} {rest : List α} {f : α → List α → Option R} {r : Option R} (hne : rest ≠ []) (h : ∀ i x, rest[i]? = some x → f x (rest.eraseIdx i) = r) : agree rest f = r := by
 cases rest with
 | nil => exact absurd rfl hne
 | cons a l =>
  have h0 := h 0 a rfl
  simp only [List.eraseIdx_zero, List.tail_cons] at h0
  unfold agree
  simp only
  rw [if_pos (fun i x hi => (h i x hi).trans h0.symm)]
  exact h0
section
variable {P : Program} {w0 : World} {W : Nat → Prop} {μ0 : Emb} {Post : List LV → Heap → Prop}
theorem enc_get {α β : Type} {ek : α → LV} {ev : β → LV} {rest : List (α × β)} {i : Nat} {kk vv : LV} (h : (encM ek ev rest)[i]? = some (kk, vv)) : ∃ a, rest[i]? = some a ∧ kk = ek a.1 ∧ vv = ev a.2 := by
 unfold encM at h
 rw [List.getElem?_map] at h
 cases hr : rest[i]? with
 | none => rw [hr] at h; simp at h
 | some a => rw [hr] at h; simp at h; exact ⟨a, rfl, h.1.symm, h.2.symm⟩
theorem enc_erase {α β : Type} {ek : α → LV} {ev : β → LV} : ∀ {rest : List (α × β)} {i : Nat}, (encM ek ev rest).eraseIdx i = encM ek ev (rest.eraseIdx i)
 | [], i => rfl
 | a :: l, 0 => rfl
 | a :: l, i + 1 => by
  have := enc_erase (ek := ek) (ev := ev) (rest := l) (i := i)
  simp only [encM, List.map_cons, List.eraseIdx_cons_succ] at this ⊢
  rw [this]
theorem enc_nil {α β : Type} {ek : α → LV} {ev : β → LV} {rest : List (α × β)} (h : encM ek ev rest = []) : rest = [] := by cases rest <;> simp [encM] at h ⊢
def nextTl (K : List It) : List It := match K with
 | .loop c :: k => (match nextSh c with | some (_, _, _, c2) => .code c2 :: .loop c :: k | none => [])
 | _ => []
def nextK (K : List It) : Option (Nat × Nat × Nat) := match K with
 | .loop c :: _ => (match nextSh c with | some (it, t1, t2, _) => some (it, t1, t2) | none => none)
 | _ => none
theorem k_nextT {α β : Type} {K : List It} {it t1 t2 d m : Nat} {ag : Bool} {ks : List CK} {es : List (LV × LV)} {T : List LV} {H : Heap} (ek : α → LV) (ev : β → LV) (rest : List (α × β))
  (hs : nextK K = some (it, t1, t2)) (hit : T[it]? = some (.ptr d 0 0)) (hd : H.at d = some (.mit m ag ks es none (encM ek ev rest))) (hT : Nat.blt t1 T.length = true)
  (h0 : rest = [] → kont P w0 W μ0 Post (nextTl K) none ((T.set t1 (.tup [.bool false])).set t2 (.bool false)) H)
  (h1 : ∀ i a, rest[i]? = some a → kont P w0 W μ0 Post (nextTl K) none ((T.set t1 (.tup [.bool true, ek a.1, ev a.2])).set t2 (.bool true)) (H.upd [(d, some (.mit m ag ks es (some (ek a.1, ev a.2)) (encM ek ev (rest.eraseIdx i))))])) :
  kont P w0 W μ0 Post K none T H := by
 unfold nextK at hs
 split at hs <;> try cases hs
 rename_i c k
 split at hs <;> cases hs
 rename_i c2 hn
 have e : nextTl (.loop c :: k) = .code c2 :: .loop c :: k := by unfold nextTl; simp only [hn]
 rw [e] at h0 h1
 refine k_nextL hn hit hd (by simpa using hT) (fun h => h0 (enc_nil h)) (fun i kk vv hi => ?_)
 obtain ⟨a, ha, rfl, rfl⟩ := enc_get hi
 rw [enc_erase]
 exact h1 i a ha
end
theorem under_opn {n s : Nat} {α : Type} {a : α} (h : s < n) : ∀ x ∈ [(a, s)], x.2 < n := fun x hx => by simp at hx; rw [hx]; exact h
theorem le_mapR {ag : Bool} {ks : List CK} {es : List (LV × LV)} : LO.Le (.map ag ks es) (.mapR ag ks es) := ⟨fun h => (by cases h), fun h => h.elim, fun _ _ _ r => r⟩
theorem rest_none {α : Type} {rest : List α} (h : rest = []) : rest.isEmpty = true := by rw [h]; rfl
theorem rest_some {α : Type} {rest : List α} {i : Nat} {a : α} (h : rest[i]? = some a) : ¬ rest.isEmpty = true := by cases rest <;> simp at h ⊢
end Go.Cn
