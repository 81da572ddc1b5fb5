import Derived.Test.YtddgjfclpknkcaaGreatDoorCnW
import Derived.RangeFuncFrom
import Derived.OwnWalkIn
import Derived.Maps.RangeRun
import Derived.Sort.MapsRangeIn
import Derived.RangeFuncBox
import Derived.Shelf.SlSortCmp.NoneTotal
namespace Go.Cn
open Go Go.RowKit
theorem ask_draws {α : Type} : ∀ (q : Ask α) (w : World), w.drawn ≤ (w.ask q).2.drawn
  | .done _, _ => Nat.le_refl _
  | .ask what range k, w => by
    unfold World.ask
    show w.drawn ≤ (if (Question.extern what range).forced = true then w.ask (k 0) else _).2.drawn
    split
    · exact ask_draws (k 0) w
    · exact Nat.le_trans (Nat.le_succ _) (ask_draws _ { w with drawn := w.drawn + 1 })
theorem sys_draws (w : World) (c : Sys) : w.drawn ≤ (w.sys c).2.drawn := by
  have h := ask_draws (Kernel.perform c w.os) w
  unfold World.sys
  split
  · exact Nat.le_refl _
  · rename_i r os w' e
    rw [e] at h
    exact h
theorem view_draws {p : Program} {w w' : World} {a : Addr} {u : TypeId} {k : Addr} {v : Value} {b : Bool} {l : List Addr} (h : w.viewStore p a u k v b = .ok (w', l)) : w.drawn = w'.drawn := by
  unfold World.viewStore at h
  simp only [bind, Except.bind, pure, Except.pure, throw, throwThe, MonadExceptOf.throw] at h
  repeat' (split at h <;> try (cases h; done))
  all_goals first | (cases h; rfl) | cases h
theorem far_draws {p : Program} {w w' : World} {a : Addr} {v : Value} {b : Bool} {l : List Addr} (h : w.farStore p a v b = .ok (w', l)) : w.drawn = w'.drawn := by
  unfold World.farStore at h
  split at h
  · split at h
    · rename_i r e
      cases h
      exact view_draws e
    · cases h
  · cases h
theorem sem_draws {P : Program} {α : Type} : ∀ (s : Sem α) (w w' : World) (x : α), s.run P w = .ok x w' → w.drawn ≤ w'.drawn := by
  intro s
  induction s with
  | pure a => intro w w' x h; cases h; exact Nat.le_refl _
  | load m a k ih =>
    intro w w' x h
    unfold Sem.run at h
    split at h
    · exact ih _ _ _ _ h
    · split at h
      · exact ih _ _ _ _ h
      · cases h
  | store m a v k ih =>
    intro w w' x h
    have key : (match w.cell? a with
      | some _ => if w.frozen? a then .halt (.unsupported (.unsafePointer "a write to bytes that a string shares")) w else k.run P (w.setCell a v)
      | none => match w.farStore P a v (m == .atomic) with
        | .ok (w, _) => k.run P w
        | .error h => .halt h w) = Result.ok x w' → w.drawn ≤ w'.drawn := by
      intro h
      split at h
      · split at h
        · cases h
        · exact ih (w.setCell a v) w' x h
      · split at h
        · rename_i w2 l e
          have := ih w2 w' x h
          rw [far_draws e]; exact this
        · cases h
    cases v
    case agg => cases h
    case tuple => cases h
    all_goals exact key h
  | new o k ih => intro w w' x h; exact ih w.heap.size { w with heap := w.heap.push o } w' x h
  | shape r k ih => intro w w' x h; exact ih _ _ _ _ h
  | freeze a n k ih =>
    intro w w' x h
    have := ih (w.freeze a n) w' x h
    have e : (w.freeze a n).drawn = w.drawn := by unfold World.freeze; split <;> rfl
    omega
  | frozen a k ih => intro w w' x h; exact ih _ _ _ _ h
  | getObj r k ih =>
    intro w w' x h
    unfold Sem.run at h
    split at h
    · cases h
    · exact ih _ _ _ _ h
    · cases h
  | setObj r o k ih =>
    intro w w' x h
    unfold Sem.run at h
    split at h
    · cases h
    · exact ih { w with heap := w.heap.setIfInBounds r o } w' x h
    · cases h
  | choose q k ih =>
    intro w w' x h
    unfold Sem.run at h
    split at h
    · exact ih _ _ _ _ h
    · exact Nat.le_trans (Nat.le_succ _) (ih _ _ _ _ h)
  | sys c k ih => intro w w' x h; exact Nat.le_trans (sys_draws w c) (ih _ _ _ _ h)
  | program k ih => intro w w' x h; exact ih _ _ _ _ h
  | mark m k ih => intro w w' x h; exact ih _ _ _ h
  | halt h => intro w w' x h; cases h
section
variable {F : Fence} {n : Nat} {P : Program} (w : World) {ops : Array Oper} {rest : List Oper} {o : Oper} {a : Act} {Q : Exit → Act → World → Prop}
theorem wpListIn_range_raw (hg : o.guard = none) (m : Operand) (t : TypeId) (hop : o.op = Op.range t m) (k e : TypeId) (ht : P.underlying t = some (.map k e)) (b : Nat) (es : Array MapEntry) (clock : Nat)
    (hm : a.eval m = .map (some b)) (hb : w.heap[b]? = some (.map es clock))
    (hK : wpListIn F n P ops Q rest (a.put o.dst (.pointer (some ⟨w.heap.size, 0, none⟩))) (w.alloc (.mapIter (some b) clock #[] clock))) : wpListIn F n P ops Q (o :: rest) a w := by
  refine wpListIn_plain hg fun K' hK' => ?_
  have hrun : (Instr.range t (.map (some b))).run P w = .ok (.pointer (some ⟨w.heap.size, 0, none⟩)) (w.alloc (.mapIter (some b) clock #[] clock)) := by
    simp [Instr.range, Sem.run_bind, run_underlying ht, getObj, Sem.run, hb, Result.andThen, newObj]
  unfold Oper.wpIn
  refine ⟨by simp [Oper.about, hop], ?_⟩
  rw [Oper.semAt_plain F _ _ (by rw [hop]; intro c hc'; cases hc')]
  simp [execOp, hop, hm, hrun, Result.andThen]
  exact hK' _ _ hK
structure Rg (w : World) (b r : Nat) (es : Array MapEntry) (clock : Nat) (ds : List MapEntry) : Prop where
  map : w.heap[b]? = some (.map es clock)
  it : w.heap[r]? = some (.mapIter (some b) clock (ds.map (·.born)).toArray clock)
  sub : ∀ d ∈ ds, d ∈ es.toList
  nd : (ds.map (·.born)).Nodup
theorem wpListIn_next_raw (hg : o.guard = none) (it : Operand) (hop : o.op = Op.next it false) (b r : Nat) (es : Array MapEntry) (clock : Nat) (ds : List MapEntry)
    (hit : a.eval it = .pointer (some ⟨r, 0, none⟩)) (h : Rg w b r es clock ds) (hold : ∀ x ∈ es.toList, x.born < clock) (hnd : (es.toList.map (·.born)).Nodup)
    (hDone : (∀ x ∈ es.toList, x ∈ ds) → wpListIn F n P ops Q rest (a.put o.dst (.tuple #[.bool false])) w)
    (hMore : ∀ (x : MapEntry) (w' : World), x ∈ es.toList → Rg w' b r es clock (ds ++ [x]) → w.grownBy w' (some r) → w.drawn ≤ w'.drawn → w'.heap.size = w.heap.size →
      (Instr.entry (.pointer (some ⟨r, 0, none⟩))).run P w' = .ok (.tuple #[x.key, x.val]) w' → wpListIn F n P ops Q rest (a.put o.dst (.tuple #[.bool true, x.key, x.val])) w') :
    wpListIn F n P ops Q (o :: rest) a w := by
  refine wpListIn_plain hg fun K' hK' => ?_
  unfold Oper.wpIn
  refine ⟨by simp [Oper.about, hop], ?_⟩
  rw [Oper.semAt_plain F _ _ (by rw [hop]; intro c hc'; cases hc')]
  have inj : ∀ x ∈ es.toList, ∀ y ∈ es.toList, x.born = y.born → x = y := by
    have : ∀ (l : List MapEntry), (l.map (·.born)).Nodup → ∀ x ∈ l, ∀ y ∈ l, x.born = y.born → x = y := by
      intro l
      induction l with
      | nil => intro _ x hx; cases hx
      | cons z l ih =>
        intro hn x hx y hy e
        rw [List.map_cons, List.nodup_cons] at hn
        by_cases hxz : x = z
        · by_cases hyz : y = z
          · rw [hxz, hyz]
          · have hy' := (List.mem_cons.1 hy).resolve_left hyz
            exact absurd (List.mem_map.2 ⟨y, hy', by rw [← e, hxz]⟩) hn.1
        · have hx' := (List.mem_cons.1 hx).resolve_left hxz
          by_cases hyz : y = z
          · exact absurd (List.mem_map.2 ⟨x, hx', by rw [e, hyz]⟩) hn.1
          · exact ih hn.2 x hx' y ((List.mem_cons.1 hy).resolve_left hyz) e
    exact this _ hnd
  rcases run_next_at (P := P) w o.type r b clock clock (ds.map (·.born)).toArray es clock h.it h.map hold (Nat.le_refl _) with ⟨h0, hrun⟩ | ⟨e, he, w1, hw1, hrun⟩
  · simp [execOp, hop, hit, hrun, Result.andThen]
    refine hK' _ _ (hDone fun x hx => ?_)
    have hl : leftOf es (ds.map (·.born)).toArray = #[] := Array.eq_empty_of_size_eq_zero h0
    unfold leftOf at hl
    rw [Array.filter_eq_empty_iff] at hl
    have := hl x (by simpa using hx)
    simp only [Bool.not_eq_true', Bool.not_eq_false, Array.contains_eq_mem, List.mem_toArray, decide_eq_true_eq, List.mem_map] at this
    obtain ⟨d, hd, e⟩ := this
    rw [← inj d (h.sub d hd) x hx e]; exact hd
  · obtain ⟨W', hW'⟩ : ∃ W', W' = ChangeMaps.setBlock w1 r (.mapIter (some b) clock ((ds.map (·.born)).toArray.push e.born) clock) := ⟨_, rfl⟩
    rw [← hW'] at hrun
    simp [execOp, hop, hit, hrun, Result.andThen]
    unfold leftOf at he
    have he1 : e ∈ es.toList := by simp at he ⊢; exact he.1
    have he2 : e.born ∉ ds.map (·.born) := by
      have : ¬ ((ds.map (·.born)).toArray.contains e.born = true) := by simp at he; simpa using he.2
      simpa using this
    have hr1 : w1.heap[r]? = some (.mapIter (some b) clock (ds.map (·.born)).toArray clock) := by rcases hw1 with rfl | rfl <;> exact h.it
    have hb1 : w1.heap[b]? = some (.map es clock) := by rcases hw1 with rfl | rfl <;> exact h.map
    have hne : b ≠ r := fun e => by
      have h1 := h.it
      rw [← e, h.map] at h1
      cases h1
    obtain ⟨hlt, _⟩ := Array.getElem?_eq_some_iff.1 hr1
    have hs : W'.heap[r]? = some (.mapIter (some b) clock ((ds.map (·.born)).toArray.push e.born) clock) := by
      rw [hW']
      show (w1.heap.setIfInBounds r _)[r]? = _
      rw [Array.getElem?_setIfInBounds_self_of_lt hlt]
    have ho : ∀ k, k ≠ r → W'.heap[k]? = w1.heap[k]? := fun k hk => by
      rw [hW']
      show (w1.heap.setIfInBounds r _)[k]? = _
      rw [Array.getElem?_setIfInBounds_ne (Ne.symm hk)]
    have hw : w1.heap = w.heap := by rcases hw1 with rfl | rfl <;> rfl
    have hdr : w.drawn ≤ W'.drawn := by
      rw [hW']
      rcases hw1 with rfl | rfl
      · exact Nat.le_refl _
      · exact Nat.le_succ _
    have hsz : W'.heap.size = w.heap.size := by
      rw [hW']
      show (w1.heap.setIfInBounds r _).size = _
      rw [Array.size_setIfInBounds, hw]
    refine hK' _ _ (hMore e _ he1 ⟨by rw [ho b hne]; exact hb1, by rw [hs]; simp, fun d hd => ?_, ?_⟩ ⟨?_, ?_, ?_, by rw [hsz]; exact Nat.le_refl _, fun k hk hkr => by rw [ho k (fun e => hkr (by rw [e])), hw]⟩ hdr hsz
      (run_entry_at _ r b clock (ds.map (·.born)).toArray es clock e hs (by rw [ho b hne]; exact hb1) he1 hnd))
    · rcases List.mem_append.1 hd with hd | hd
      · exact h.sub d hd
      · simp only [List.mem_singleton] at hd; subst hd; exact he1
    · rw [List.map_append, List.nodup_append]
      refine ⟨h.nd, by simp, fun x hx y hy e' => ?_⟩
      simp only [List.map_cons, List.map_nil, List.mem_singleton] at hy
      subst hy; subst e'; exact he2 hx
    all_goals (rw [hW']; rcases hw1 with rfl | rfl <;> rfl)
end
def AbidesD {β : Type} (B : Nat) (J : β → World → Prop) : Prop :=
  ∀ s W W' row, J s W → W.grownBy W' row → W.drawn ≤ W'.drawn → (∀ r, row = some r → B ≤ r ∧ ∃ o : Obj, W.heap[r]? = some o ∧ o.isWalk = true) → J s W'
def SeqD {α : Type} (F : Fence) (n : Nat) (P : Program) (g : Nat) (lb : Array Value) (enc : α → Value) (S : List α → Prop) (N : Nat) (w : World) : Prop :=
  ∀ (l : Nat) (J : List α → World → Prop) (W : World), Below w.heap.size w W → AbidesD W.heap.size J →
    (∀ pre x W1, J pre W1 → pre.length < N → YieldAt F (n - 1) P l #[enc x] W1 fun e W' => e = .returned (.bool true) ∧ J (pre ++ [x]) W' ∧ KeepsWalks W1 W') →
    J [] W →
    CallsIn F n P g (#[.func (.yield l) #[] #[]] ++ lb) W fun e W' => (∃ v, e = .returned v) ∧ ∃ xs, S xs ∧ J xs W'
def OwnD {β : Type} (B : Nat) (I : β → World → Prop) : Prop :=
  ∀ s W W' row, I s W → W.grownBy W' row → W.drawn ≤ W'.drawn → (∀ r, row = some r → B ≤ r ∧ ∃ o : Obj, W.heap[r]? = some o ∧ o.isCells = false) → I s W'
theorem OwnD.putObj {β : Type} {B : Nat} {I : β → World → Prop} (h : OwnD B I) {s : β} {W : World} {l : Nat} {o : Obj} (o' : Obj) (hs : I s W) (hB : B ≤ l) (hl : W.heap[l]? = some o) (ho : o.isCells = false) : I s (W.putObj l o') :=
  h s W _ (some l) hs (grownBy_putObj' W l o') (Nat.le_refl _) (fun r e => by cases e; exact ⟨hB, o, hl, ho⟩)
theorem OwnD.alloc {β : Type} {B : Nat} {I : β → World → Prop} (h : OwnD B I) {s : β} {W : World} (o : Obj) (hs : I s W) : I s (W.alloc o) :=
  h s W _ none hs (World.grownBy_alloc W o none) (Nat.le_refl _) (fun r e => by cases e)
theorem OwnD.and {β : Type} {B : Nat} {I I' : β → World → Prop} (h : OwnD B I) (h' : OwnD B I') : OwnD B (fun s W => I s W ∧ I' s W) := fun s W W' row hs hg hd hr => ⟨h s W W' row hs.1 hg hd hr, h' s W W' row hs.2 hg hd hr⟩
theorem OwnFrom.d {β : Type} {B : Nat} {I : β → World → Prop} (h : OwnFrom B I) : OwnD B I := fun s W W' row hs hg _ hr => h s W W' row hs hg hr
theorem ownD_drawn {β : Type} (B n : Nat) : OwnD B (fun (_ : β) W => n ≤ W.drawn) := fun _ _ _ _ hs _ hd _ => Nat.le_trans hs hd
section
variable {F : Fence} {n : Nat} {P : Program}
theorem rangeFunc_box {α : Type} {g : Operand} {ps : Array Tmp} {assign body : Code} {Q : Exit → Act → World → Prop} {a : Act} {w : World}
    (hro : F.round = none) (h1 : 1 ≤ n) {gf : Nat} {lb : Array Value} (hg : a.eval g = .func (.func gf) #[] lb) (hFg : F.fn gf) (eg : ∀ args w, (callFunc gf args).run P w = .ok (.enter gf args) w)
    {enc : α → Value} {S : List α → Prop} {N : Nat} {w0 : World} (hseq : SeqD F (n - 1) P gf lb enc S N w0) (hb0 : Below w0.heap.size w0 w) (hps : ps.size = 1)
    (I : List α → World → Prop) (hI : OwnD w.heap.size I) (h0 : I [] w) (I1 : List α → α → Act → World → Prop) (hI1 : ∀ x a1, OwnD w.heap.size (fun pre => I1 pre x a1))
    (hassign : ∀ (l : Nat) (pre : List α) (x : α) (W : World), I pre W → pre.length < N →
      assign.wpIn (F.inRound l) (n - 1 - 1) P (Exit.then (fun a1 W1 => I1 pre x a1 W1 ∧ KeepsOthers W W1) (fun _ _ _ => False)) { tmps := (ps.zip #[enc x]).foldl (fun t (p, v) => t.setIfInBounds p v) a.tmps, defers := [] } W)
    (hbody : ∀ (l : Nat) (pre : List α) (x : α) (a1 : Act) (W : World), I1 pre x a1 W → pre.length < N →
      body.wpIn (F.inRound l) (n - 1 - 1) P (fun e _ W2 => e = .normal ∧ KeepsOthers W W2 ∧ I (pre ++ [x]) W2) a1 W)
    (hdone : ∀ (D : Nat) (xs : List α) (W : World), w.heap.size ≤ D → S xs → I xs W → W.heap[D]? = some (.deferred (some [])) → Q .normal { a with defers := { target := .collected D, args := #[] } :: a.defers } W) :
    (Code.rangeFunc g ps assign body).wpIn F n P Q a w := by
  refine wpIn_rangeFunc ?_
  intro fn hfn
  rw [hro]
  obtain ⟨rec, hrec⟩ : ∃ rec : LoopState → Option Code → Loop, rec = fun st pe => { state := st, pending := pe, fn, tmps := a.tmps, params := ps, assign, body, defers := w.heap.size } := ⟨_, rfl⟩
  obtain ⟨W1, hW1⟩ : ∃ W1, (w.alloc (.deferred (some []))).alloc (.loop (rec .ready none)) = W1 := ⟨_, rfl⟩
  have hL1 : W1.heap[w.heap.size + 1]? = some (.loop (rec .ready none)) := by
    rw [← hW1]; have := World.alloc_heap_new (w.alloc (.deferred (some []))) (.loop (rec .ready none)); rwa [World.size_alloc] at this
  have hK1 : W1.heap[w.heap.size]? = some (.deferred (some [])) := by
    rw [← hW1]; exact (Below.heap_alloc _ _ _ (by simp)).trans (World.alloc_heap_new w _)
  have hI1' : I [] W1 := by rw [← hW1]; exact hI.alloc _ (hI.alloc _ h0)
  have hb1 : Below w0.heap.size w0 W1 := by
    rw [← hW1]; exact hb0.trans ((((Below.refl _ w).alloc (Nat.le_refl _) _).alloc (by simp) _).mono hb0.size)
  refine ⟨w.heap.size + 1, [{ target := .collected w.heap.size, args := #[] }], W1, { target := .fn (.func gf) lb, args := #[.func (.yield (w.heap.size + 1)) #[] #[]] }, W1, gf,
    #[.func (.yield (w.heap.size + 1)) #[] #[]] ++ lb, W1, ?_, ?_, ?_, ?_, fun _ => h1, ?_⟩
  · rw [← hW1, hrec]; exact run_enterLoop_outer _ _ _ _ _
  · simp only [resolve, hg]
    simp [go_sem]
  · intro f' hf'; simp [Target.leads] at hf'; subst hf'; exact hFg
  · simp [invoke, go_sem, eg]
  · have hnw : ∀ {A B : World} {row : Option Nat}, (∀ r, row = some r → W1.heap.size ≤ r ∧ ∃ o : Obj, A.heap[r]? = some o ∧ o.isWalk = true) → (∀ r, row = some r → w.heap.size ≤ r ∧ ∃ o : Obj, A.heap[r]? = some o ∧ o.isCells = false) :=
      fun hr r e => by obtain ⟨hB, o, ho, hw⟩ := hr r e; exact ⟨by rw [← hW1] at hB; simp at hB; omega, o, ho, Obj.not_cells_of_walk hw⟩
    refine (hseq (w.heap.size + 1)
      (fun pre W => I pre W ∧ W.heap[w.heap.size + 1]? = some (.loop (rec .ready none)) ∧ W.heap[w.heap.size]? = some (.deferred (some [])))
      W1 hb1
      (fun s A B row hs hg' hd' hr => ⟨hI s A B row hs.1 hg' hd' (hnw (B := B) hr), (grownBy_keeps hg' (fun r e => (hr r e).2) hs.2.1 rfl).trans hs.2.1, (grownBy_keeps hg' (fun r e => (hr r e).2) hs.2.2 rfl).trans hs.2.2⟩)
      ?_ ⟨hI1', hL1, hK1⟩).mono ?_
    · rintro pre x W ⟨hi, hl, hk⟩ hlen
      have hy := run_yield (P := P) (args := #[enc x]) hl (by rw [hrec]; simp [hps])
      rw [hrec] at hy
      refine ⟨fn, _, assign, body, hy, roundIn_of_wpIn hfn (wpIn_mono (hassign _ pre x W hi hlen) ?_)⟩
      rintro e a1 W2 he
      cases e with
      | normal =>
        obtain ⟨hi1, hk2⟩ := he
        have hl2 : W2.heap[w.heap.size + 1]? = some (.loop (rec .ready none)) := hk2.same _ _ hl rfl
        have hd2 : W2.heap[w.heap.size]? = some (.deferred (some [])) := hk2.same _ _ hk rfl
        have hlt : w.heap.size + 1 < W2.heap.size := (Array.getElem?_eq_some_iff.1 hl2).1
        refine ⟨_, run_beginRound hl2 (by rw [hrec]), ?_⟩
        have hl3 : (W2.putObj (w.heap.size + 1) (.loop { rec .ready none with state := .busy })).heap[w.heap.size + 1]? = some (.loop { rec .ready none with state := .busy }) := World.putObj_heap_same hlt
        have hk3 : (W2.putObj (w.heap.size + 1) (.loop { rec .ready none with state := .busy })).heap[w.heap.size]? = some (.deferred (some [])) := (World.putObj_heap_other (by omega)).trans hd2
        have hi2 : I1 pre x a1 (W2.putObj (w.heap.size + 1) (.loop { rec .ready none with state := .busy })) := (hI1 x a1).putObj _ hi1 (by omega) hl2 rfl
        refine wpIn_mono (hbody _ pre x a1 _ hi2 hlen) ?_
        rintro e a3 W3 ⟨rfl, hk4, hi4⟩
        have hl4 := hk4.same _ _ hl3 rfl
        have hend := run_endRound (P := P) none hl4
        refine ⟨_, _, hend, rfl, ⟨hI.putObj _ hi4 (by omega) hl4 rfl, ?_, (World.putObj_heap_other (by omega)).trans (hk4.same _ _ hk3 rfl)⟩, ?_⟩
        · rw [World.putObj_heap_same (Array.getElem?_eq_some_iff.1 hl4).1, hrec]; rfl
        · exact ((hk2.walks.trans (KeepsWalks.putObj _ hl2 rfl)).trans hk4.walks).trans (KeepsWalks.putObj _ hl4 rfl)
      | exit id => exact he.elim
      | goto t => exact he.elim
      | ret => exact he.elim
      | panic chain => exact he.elim
      | outgrown => exact he.elim
    · rintro e W2 ⟨⟨v, rfl⟩, xs, hS, hi, hl, hk⟩
      exact ⟨none, _, by have := run_endLoop (P := P) hl (by rw [hrec]; simp); rw [hrec] at this; exact this, hdone _ xs _ (Nat.le_refl _) hS (hI.putObj _ hi (by omega) hl rfl) ((World.putObj_heap_other (by omega)).trans hk)⟩
def OwnX {β : Type} (B bx : Nat) (I : β → World → Prop) : Prop :=
  ∀ s W W' row, I s W → W.grownBy W' row → W.drawn ≤ W'.drawn → (∀ r, row = some r → (B ≤ r ∧ ∃ o : Obj, W.heap[r]? = some o ∧ o.isCells = false) ∨ r = bx) → I s W'
theorem OwnX.putObj {β : Type} {B bx : Nat} {I : β → World → Prop} (h : OwnX B bx I) {s : β} {W : World} {l : Nat} {o : Obj} (o' : Obj) (hs : I s W) (hB : B ≤ l) (hl : W.heap[l]? = some o) (ho : o.isCells = false) : I s (W.putObj l o') :=
  h s W _ (some l) hs (grownBy_putObj' W l o') (Nat.le_refl _) (fun r e => by cases e; exact .inl ⟨hB, o, hl, ho⟩)
theorem OwnX.alloc {β : Type} {B bx : Nat} {I : β → World → Prop} (h : OwnX B bx I) {s : β} {W : World} (o : Obj) (hs : I s W) : I s (W.alloc o) :=
  h s W _ none hs (World.grownBy_alloc W o none) (Nat.le_refl _) (fun r e => by cases e)
theorem OwnX.and {β : Type} {B bx : Nat} {I I' : β → World → Prop} (h : OwnX B bx I) (h' : OwnX B bx I') : OwnX B bx (fun s W => I s W ∧ I' s W) := fun s W W' row hs hg hd hr => ⟨h s W W' row hs.1 hg hd hr, h' s W W' row hs.2 hg hd hr⟩
end
def itLeft (b r : Nat) (w : World) : Nat :=
  match w.heap[b]?, w.heap[r]? with
  | some (.map es _), some (.mapIter _ _ seen _) => es.size - seen.size
  | _, _ => 0
theorem Rg.left {w : World} {b r : Nat} {es : Array MapEntry} {clock : Nat} {ds : List MapEntry} (h : Rg w b r es clock ds) : itLeft b r w = es.size - ds.length := by
  simp [itLeft, h.map, h.it]
theorem nodup_of_map {α β : Type} (f : α → β) : ∀ (l : List α), (l.map f).Nodup → l.Nodup
  | [], _ => List.nodup_nil
  | a :: l, h => by
    rw [List.map_cons, List.nodup_cons] at h
    exact List.nodup_cons.2 ⟨fun hm => h.1 (List.mem_map.2 ⟨a, hm, rfl⟩), nodup_of_map f l h.2⟩
theorem length_le_of_born (l : List MapEntry) (h : (l.map (·.born)).Nodup) : ∀ (ds : List MapEntry), (ds.map (·.born)).Nodup → (∀ d ∈ ds, d ∈ l) → ds.length ≤ l.length := by
  intro ds hd hs
  have h1 : (ds.map (·.born)).length ≤ (l.map (·.born)).length := hd.length_le_of_subset (fun x hx => by
    obtain ⟨d, hd', rfl⟩ := List.mem_map.1 hx
    exact List.mem_map.2 ⟨d, hs d hd', rfl⟩)
  simpa using h1
theorem Rg.len {w : World} {b r : Nat} {es : Array MapEntry} {clock : Nat} {ds : List MapEntry} (h : Rg w b r es clock ds) (hnd : (es.toList.map (·.born)).Nodup) : ds.length ≤ es.size := by
  have := length_le_of_born es.toList hnd ds h.nd h.sub
  simpa using this
theorem Rg.perm {w : World} {b r : Nat} {es : Array MapEntry} {clock : Nat} {ds : List MapEntry} (h : Rg w b r es clock ds) (hnd : (es.toList.map (·.born)).Nodup) (hall : ∀ x ∈ es.toList, x ∈ ds) : ds.Perm es.toList := by
  rw [List.perm_ext_iff_of_nodup (nodup_of_map _ _ h.nd) (nodup_of_map _ _ hnd)]
  exact fun a => ⟨h.sub a, hall a⟩
theorem perm_of_map {α β : Type} (f : α → β) (g : β → α) (h : ∀ a, g (f a) = a) {l m : List α} (p : (l.map f).Perm (m.map f)) : l.Perm m := by
  have := p.map g
  rw [List.map_map, List.map_map, show (g ∘ f) = id from funext h, List.map_id, List.map_id] at this
  exact this
theorem Rg.walks {w w' : World} {b r : Nat} {es : Array MapEntry} {clock : Nat} {ds : List MapEntry} (h : Rg w b r es clock ds) (hk : KeepsWalks w w') : Rg w' b r es clock ds :=
  ⟨hk.same b _ h.map rfl, hk.same r _ h.it rfl, h.sub, h.nd⟩
theorem cell_new (W : World) (cs : List Value) (T : TypeId) (j : Nat) (u : Value) (h : cs[j]? = some u) : (W.alloc (.cells cs.toArray T)).cell? ((⟨W.heap.size, 0, none⟩ : Addr).add j) = some u := by
  have hnew := World.alloc_heap_new W (.cells cs.toArray T)
  have e : ((⟨W.heap.size, 0, none⟩ : Addr).add j) = ⟨W.heap.size, j, none⟩ := by rw [add_off rfl, Nat.zero_add]
  rw [e]
  unfold World.cell?
  simp only [hnew]
  simpa using h
theorem wpListIn_append_d {F : Fence} {n : Nat} {P : Program} (w : World) {ops : Array Oper} {rest : List Oper} {o : Oper} {a : Act} {Q : Exit → Act → World → Prop}
    (hg : o.guard = none) (s x : Operand) (t : TypeId) (hop : o.op = Op.call { callee := Callee.builtin Builtin.append, args := #[s, x], argTypes := #[t, t] })
    (base : Nat) (e : TypeId) (i : TypeInfo) (z : Value) (size bytes : Nat) (h1 : P.underlying t = some (.slice e)) (h2 : P.info? e = some i) (h3 : i.zero = some z) (h4 : i.size = size) (h5 : i.bytes = bytes) (h6 : z.cells.size = size) (h7 : 0 < size)
    (v : Value) (k : Nat) (xs : List Value) (hs : a.eval s = v) (hown : w.ownsRow base e size v k xs) (ad : Addr) (m c : Nat) (news : List Value) (hx : a.eval x = .slice (some ad) m c) (hn : news.length = m * size)
    (hc : ∀ j u, news[j]? = some u → w.cell? (ad.add j) = some u) (h1c : ∀ u ∈ news, u.oneCell' = true) (b1 : k + m ≤ maxLen) (b2 : (k + m) * bytes ≤ 140737488355328) (b3 : base ≤ w.heap.size)
    (hK : ∀ v' w', w'.ownsRow base e size v' (k + m) (xs ++ news) → w.grownBy w' v.ownBlock → w.drawn ≤ w'.drawn → (v' = .slice none 0 0 ↔ v = .slice none 0 0 ∧ m = 0) → wpListIn F n P ops Q rest (a.put o.dst v') w') :
    wpListIn F n P ops Q (o :: rest) a w := by
  refine wpListIn_plain hg fun K hK' => ?_
  obtain ⟨v', w', hrun, r1, r2, r3⟩ := run_append_own (P := P) w base t o.type e i z size bytes h1 h2 h3 h4 h5 h6 h7 v k xs hown ad m c news hn hc h1c b1 b2 b3
  have hd := sem_draws _ _ _ _ hrun
  unfold Oper.wpIn
  refine ⟨?_, ?_⟩
  · simp [Oper.about, hop, resolve, Target.leads, Sem.run_pure]
  · rw [Oper.semAt_plain F _ _ (by rw [hop]; intro c hc'; cases hc')]
    simp [execOp, hop, resolve, invoke, builtin, hs, hx, hrun, Result.andThen]
    exact hK' _ _ (hK v' w' r1 r2 hd r3)
section
open Go.Sort Go.Proofs
end
structure TotCmp {α : Type} (cf : α → α → Int) : Prop where
  swo : Go.Sort.SWO (Go.Proofs.ltOf cf)
  tot : ∀ x y, Go.Proofs.ltOf cf x y = false → Go.Proofs.ltOf cf y x = false → x = y
theorem det_int {φ : Fro} {k : IntKind} {a : Int} {cs : List LV} {vs : List Value} (h : RelFL φ (.int k a :: cs) vs) : ∃ r, vs = .int k a :: r ∧ RelFL φ cs r := by
  obtain ⟨v, r, rfl, h1, h2⟩ := h
  simp only [RelF] at h1
  subst h1
  exact ⟨r, rfl, h2⟩
theorem ents_keys {α β : Type} {μ : Emb} {ek : α → LV} {ev : β → LV} {kv : α → Value} (hkv : ∀ φ x v, RelF φ (ek x) v → v = kv x) : ∀ (m : List (α × β)) (es : List MapEntry), F2 (EntRel μ) (encM ek ev m) es → es.map (·.key) = (m.map (·.1)).map kv
  | [], _, h => by cases h; rfl
  | a :: m, _, h => by
    cases h with
    | cons h1 h2 => rw [List.map_cons, List.map_cons, List.map_cons, ents_keys hkv m _ h2, hkv _ _ _ h1.1]
theorem ents_len {α β : Type} {μ : Emb} {ek : α → LV} {ev : β → LV} : ∀ (m : List (α × β)) (es : List MapEntry), F2 (EntRel μ) (encM ek ev m) es → es.length = m.length
  | [], _, h => by cases h; rfl
  | a :: m, _, h => by
    cases h with
    | cons h1 h2 => rw [List.length_cons, List.length_cons, ents_len m _ h2]
theorem flat_at {α : Type} [Inhabited α] (enc : α → List Value) (k : Nat) (hk : ∀ x, (enc x).length = k) : ∀ (l : List α) (i j : Nat), i < l.length → j < k → (l.flatMap enc)[i * k + j]? = (enc (l.getD i default))[j]?
  | [], i, j, hi, _ => by simp at hi
  | a :: l, 0, j, _, hj => by
    rw [List.flatMap_cons, Nat.zero_mul, Nat.zero_add, List.getElem?_append_left (by rw [hk]; exact hj)]; rfl
  | a :: l, i + 1, j, hi, hj => by
    rw [List.flatMap_cons, List.getElem?_append_right (by rw [hk, Nat.add_mul]; omega), hk, show (i + 1) * k + j - k = i * k + j by rw [Nat.add_mul]; omega, flat_at enc k hk l i j (by simpa using hi) hj]
    rfl
open Classical in
theorem toArray_of {vs : Array Value} {l : List Value} (h : vs.toList = l) : vs = l.toArray := by rw [← h]
theorem rel_cap {μ : Emb} {b : Nat} {vs : Array Value} (h : RelL μ [.ptr b 0 0] vs.toList) : ∃ p, μ b = some p ∧ vs = #[.pointer (some (p.addr 0 0))] := by
  obtain ⟨v, r, e, ⟨p, hp, rfl⟩, hr⟩ := h
  cases hr
  exact ⟨p, hp, toArray_of e⟩
theorem rel_nocap {μ : Emb} {vs : Array Value} (h : RelL μ [] vs.toList) : vs = #[] := toArray_of h
theorem var_cell {μ : Emb} {p : Pl} {w : World} {x : LV} (h : ObjOK μ p w.heap[p.rb]? (.var [x])) : ∃ v, Rel μ x v ∧ w.cell? (p.addr 0 0) = some v ∧ p.rb < w.heap.size := by
  have hlt := h.lt
  obtain ⟨_, _, cells, E, fr, hc, _, _, vs, ⟨v, r, rfl, hv, hr⟩, hl, _⟩ := h
  refine ⟨v, hv, ?_, hlt⟩
  have := hl 0 v (by simp)
  show World.cell? w ⟨p.rb, p.off + 0 * p.sz + 0, none⟩ = _
  simp only [World.cell?, hc, Nat.zero_mul, Nat.add_zero, Option.isSome_none, Bool.false_eq_true, if_false]
  simpa using this
end Go.Cn
