/- Canon, part T: what a walk must show at its end, and at a loop's head. -/
import Derived.Test.YtbggiflihpjocaaCnR
namespace Go.Cn
open Go

mutual
/-- The first may stand for the second, cell by cell. -/
def LV.eqs : LV → LV → Prop
  | .int k n, .int k' m => k = k' ∧ n = m
  | .bool a, .bool b => a = b
  | .str a, .str b => a = b
  | .ptr c i j, .ptr c' i' j' => c = c' ∧ i = i' ∧ j = j'
  | .sl c i j inn len cap, .sl c' i' j' inn' len' cap' => c = c' ∧ i = i' ∧ j = j' ∧ (inn' || !inn) = true ∧ len = len' ∧ (match cap' with | none => True | some _ => cap = cap')
  | .map c, .map c' => c = c'
  | .nilptr, .nilptr => True
  | .nilsl, .nilsl => True
  | .nilmap, .nilmap => True
  | .nilfn, .nilfn => True
  | .fn f a b, .fn f' a' b' => f = f' ∧ eqsL a a' ∧ eqsL b b'
  | .agg a, .agg b => eqsL a b
  | .tup a, .tup b => eqsL a b
  | _, .any => True
  | _, _ => False
def eqsL : List LV → List LV → Prop
  | [], [] => True
  | a :: l, b :: m => a.eqs b ∧ eqsL l m
  | _, _ => False
end

mutual
theorem Rel.eqs {μ : Emb} {a b : LV} {x : Value} (h : a.eqs b) (r : Rel μ a x) : Rel μ b x := by
  cases a <;> cases b <;> simp only [LV.eqs] at h <;> try trivial
  case int.int => obtain ⟨rfl, rfl⟩ := h; exact r
  case bool.bool => subst h; exact r
  case str.str => subst h; exact r
  case ptr.ptr => obtain ⟨rfl, rfl, rfl⟩ := h; exact r
  case sl.sl =>
    obtain ⟨rfl, rfl, rfl, h1, rfl, h2⟩ := h
    obtain ⟨p, ad, rc, g1, g2, g3, g4, g5, g6, g7, g8⟩ := r
    refine ⟨p, ad, rc, g1, g2, g3, fun k hk => ?_, g5, g6, g7, fun hi => g8 ?_⟩
    · subst hk; exact g4 k h2
    · simpa [hi] using h1
  case map.map => subst h; exact r
  case fn.fn =>
    obtain ⟨rfl, h1, h2⟩ := h
    obtain ⟨a', b', e, r1, r2⟩ := r
    exact ⟨a', b', e, RelL.eqs h1 r1, RelL.eqs h2 r2⟩
  case agg.agg => obtain ⟨vs, e, r⟩ := r; exact ⟨vs, e, RelL.eqs h r⟩
  case tup.tup => obtain ⟨vs, e, r⟩ := r; exact ⟨vs, e, RelL.eqs h r⟩
  all_goals exact r
termination_by SizeOf.sizeOf a
theorem RelL.eqs {μ : Emb} {a b : List LV} {x : List Value} (h : eqsL a b) (r : RelL μ a x) : RelL μ b x := by
  match a, b, h, r with
  | [], [], _, r => exact r
  | [], _ :: _, h, _ => simp [eqsL] at h
  | _ :: _, [], h, _ => simp [eqsL] at h
  | a :: l, b :: m, h, ⟨v, r, e, h1, h2⟩ =>
    simp only [eqsL] at h
    exact ⟨v, r, e, Rel.eqs h.1 h1, RelL.eqs h.2 h2⟩
termination_by SizeOf.sizeOf a
end

theorem eqsL_length : ∀ {a b : List LV}, eqsL a b → b.length = a.length
  | [], [], _ => rfl
  | [], _ :: _, h => by simp [eqsL] at h
  | _ :: _, [], h => by simp [eqsL] at h
  | a :: l, b :: m, h => by
    simp only [eqsL] at h
    simp [eqsL_length h.2]

theorem eqsL_get : ∀ {a b : List LV} {t : Nat} {y : LV}, eqsL a b → b[t]? = some y → ∃ x, a[t]? = some x ∧ x.eqs y
  | [], [], _, _, _, h => by simp at h
  | [], _ :: _, _, _, h, _ => by simp [eqsL] at h
  | _ :: _, [], _, _, h, _ => by simp [eqsL] at h
  | a :: l, b :: m, 0, y, h, g => by
    simp only [eqsL] at h
    simp at g; subst g
    exact ⟨a, by simp, h.1⟩
  | a :: l, b :: m, t + 1, y, h, g => by
    simp only [eqsL] at h
    simpa using eqsL_get h.2 (by simpa using g)

def eqsE : List (LV × LV) → List (LV × LV) → Prop
  | [], [] => True
  | a :: l, b :: m => a.1 = b.1 ∧ a.2.eqs b.2 ∧ eqsE l m
  | _, _ => False

theorem eqsE_rel {μ : Emb} : ∀ {a b : List (LV × LV)} {m : List MapEntry}, eqsE a b → F2 (EntRel μ) a m → F2 (EntRel μ) b m
  | [], [], _, _, r => r
  | [], _ :: _, _, h, _ => by simp [eqsE] at h
  | _ :: _, [], _, h, _ => by simp [eqsE] at h
  | a :: l, b :: m, _, h, r => by
    simp only [eqsE] at h
    cases r with
    | cons x y => exact .cons ⟨by rw [← h.1]; exact x.1, Rel.eqs h.2.1 x.2⟩ (eqsE_rel h.2.2 y)

theorem eqsE_keys {ag : Bool} {ks : List CK} : ∀ {a b : List (LV × LV)}, eqsE a b → (∀ e ∈ a, keyOK ag ks e.1 = true) → ∀ e ∈ b, keyOK ag ks e.1 = true
  | [], [], _, r => r
  | [], _ :: _, h, _ => by simp [eqsE] at h
  | _ :: _, [], h, _ => by simp [eqsE] at h
  | a :: l, b :: m, h, r => by
    simp only [eqsE] at h
    intro e he
    rcases List.mem_cons.1 he with rfl | he
    · rw [← h.1]; exact r a List.mem_cons_self
    · exact eqsE_keys h.2.2 (fun x hx => r x (List.mem_cons_of_mem _ hx)) e he

/-- The first object may stand for the second. -/
def LO.leq : LO → LO → Prop
  | .var a, .var b => eqsL a b
  | .var a, .row sz n f false => sz = a.length ∧ n ≤ 1 ∧ eqsL a (f 0)
  | .row sz n f wr, .row sz' n' f' wr' => sz = sz' ∧ n' ≤ n ∧ (wr || !wr') = true ∧ ∀ i, i < n' → eqsL (f i) (f' i)
  | .map ag ks es, .map ag' ks' es' => ag = ag' ∧ ks = ks' ∧ eqsE es es'
  | _, _ => False

theorem LO.leq.le {a b : LO} (h : a.leq b) : a.Le b := by
  cases a with
  | var cs =>
    cases b with
    | var cs' =>
      simp only [LO.leq] at h
      refine ⟨id, ?_⟩
      rintro μ p ob ⟨h1, h2, cells, E, fr, h3, h4, h5, vs, h6, h7⟩
      exact ⟨h1, by rw [eqsL_length h]; exact h2, cells, E, fr, h3, h4, h5, vs, RelL.eqs h h6, h7⟩
    | row sz n f wr =>
      cases wr with
      | true => simp [LO.leq] at h
      | false =>
        simp only [LO.leq] at h
        refine (LO.Le.ofVar cs).trans ⟨id, ?_⟩
        rintro μ p ob ⟨h1, h2, cells, E, fr, h3, h4, h5, h6⟩
        obtain ⟨e1, e2, e3⟩ := h
        refine ⟨by rw [h1, e1], by omega, cells, E, fr, h3, by rw [e1]; exact h4, h5, fun i hi => ?_⟩
        have e : i = 0 := by omega
        subst e
        obtain ⟨vs, a1, a2, a3, a4⟩ := h6 0 (by omega)
        exact ⟨vs, RelL.eqs e3 a1, by rw [a2, e1], by simpa using a3, a4⟩
    | map ag ks es => simp [LO.leq] at h
  | row sz n f wr =>
    cases b with
    | var cs' => simp [LO.leq] at h
    | row sz' n' f' wr' =>
      simp only [LO.leq] at h
      obtain ⟨rfl, e2, e3, e4⟩ := h
      refine ⟨fun hw => ?_, ?_⟩
      · simp only [LO.wr] at hw ⊢; simpa [hw] using e3
      · rintro μ p ob ⟨h1, h2, cells, E, fr, h3, h4, h5, h6⟩
        refine ⟨h1, by omega, cells, E, fr, h3, h4, fun hw => h5 ?_, fun i hi => ?_⟩
        · simpa [hw] using e3
        · obtain ⟨vs, a1, a2, a3, a4⟩ := h6 i (by omega)
          exact ⟨vs, RelL.eqs (e4 i hi) a1, a2, a3, a4⟩
    | map ag ks es => simp [LO.leq] at h
  | map ag ks es =>
    cases b with
    | var cs' => simp [LO.leq] at h
    | row sz' n' f' wr' => simp [LO.leq] at h
    | map ag' ks' es' =>
      simp only [LO.leq] at h
      obtain ⟨rfl, rfl, e⟩ := h
      refine ⟨id, ?_⟩
      rintro μ p ob ⟨⟨en, cl, h1, h2, h3, h4⟩, h5⟩
      exact ⟨⟨en, cl, h1, eqsE_rel e h2, h3, h4⟩, eqsE_keys e h5⟩

/-! Names: those below m stay, the others go to a list's -/
def tau (m : Nat) (L : List Nat) (c : Nat) : Nat := if c < m then c else (L[c - m]?).getD 0

def nodupB : List Nat → Bool
  | [] => true
  | x :: r => !(r.any (· == x)) && nodupB r

def tauOk (m : Nat) (L : List Nat) : Bool := L.all (fun x => decide (m ≤ x)) && nodupB L

theorem nodupB_get : ∀ {L : List Nat} {i j : Nat} {x : Nat}, nodupB L = true → L[i]? = some x → L[j]? = some x → i = j
  | [], i, j, x, _, h, _ => by simp at h
  | y :: r, 0, 0, x, _, _, _ => rfl
  | y :: r, 0, j + 1, x, h, h1, h2 => by
    simp at h1 h2; subst h1
    simp only [nodupB, Bool.and_eq_true, Bool.not_eq_true', List.any_eq_false, beq_iff_eq] at h
    exact (h.1 _ (List.mem_of_getElem? h2) rfl).elim
  | y :: r, i + 1, 0, x, h, h1, h2 => by
    simp at h1 h2; subst h2
    simp only [nodupB, Bool.and_eq_true, Bool.not_eq_true', List.any_eq_false, beq_iff_eq] at h
    exact (h.1 _ (List.mem_of_getElem? h1) rfl).elim
  | y :: r, i + 1, j + 1, x, h, h1, h2 => by
    simp only [nodupB, Bool.and_eq_true] at h
    exact congrArg (· + 1) (nodupB_get h.2 (by simpa using h1) (by simpa using h2))

theorem tau_lt {m : Nat} {L : List Nat} (c : Nat) (h : c < m) : tau m L c = c := by simp [tau, h]

theorem tau_inj {m : Nat} {L : List Nat} (h : tauOk m L = true) : ∀ c d, c < m + L.length → d < m + L.length → tau m L c = tau m L d → c = d := by
  simp only [tauOk, Bool.and_eq_true, List.all_eq_true, decide_eq_true_eq] at h
  have big : ∀ c, m ≤ c → c < m + L.length → ∃ x, L[c - m]? = some x ∧ tau m L c = x ∧ m ≤ x := by
    intro c h1 h2
    have : L[c - m]? = some L[c - m] := List.getElem?_eq_getElem (by omega)
    exact ⟨_, this, by simp [tau, show ¬ c < m by omega, this], h.1 _ (List.mem_of_getElem? this)⟩
  intro c d hc hd e
  by_cases h1 : c < m <;> by_cases h2 : d < m
  · rw [tau_lt c h1, tau_lt d h2] at e; exact e
  · obtain ⟨x, _, g2, g3⟩ := big d (by omega) hd
    rw [tau_lt c h1, g2] at e; omega
  · obtain ⟨x, _, g2, g3⟩ := big c (by omega) hc
    rw [tau_lt d h2, g2] at e; omega
  · obtain ⟨x, g1, g2, g3⟩ := big c (by omega) hc
    obtain ⟨y, k1, k2, k3⟩ := big d (by omega) hd
    rw [g2, k2] at e
    subst e
    have := nodupB_get h.2 g1 k1
    omega

/-! At the end -/
def upE (H : Heap) (τ : Nat → Nat) : Upd → Prop
  | [] => True
  | (_, none) :: r => upE H τ r
  | (c, some o) :: r => (match H.at (τ c) with | some o' => o'.wr = true ∧ o'.leq (o.ren τ) | none => False) ∧ upE H τ r

theorem upE.at {H : Heap} {τ : Nat → Nat} : ∀ {up : Upd}, upE H τ up → UpAt H τ up
  | [], _ => trivial
  | (_, none) :: r, h => upE.at (up := r) h
  | (c, some o) :: r, ⟨h1, h2⟩ => by
    refine ⟨?_, upE.at h2⟩
    cases hc : H.at (τ c) with
    | none => simp [hc] at h1
    | some o' => simp only [hc] at h1; exact ⟨h1.1, h1.2.le⟩

def runRet (P : Program) (fn : Func) (m : Nat) (L : List Nat) (v : LV) (up : Upd) (n : Nat) (s : List Tok) (k : List It) (T : List LV) (H : Heap) : Option Prop :=
  match run P n s k T H with
  | some (q, .ret T' H') =>
    match resE P H' T' fn.results.toList with
    | some (q', vs) => if tauOk m L then some (q ∧ q' ∧ (resV vs).eqs (v.ren (tau m L)) ∧ upE H' (tau m L) up) else none
    | none => none
  | _ => none

section
variable {P : Program} {w0 : World} {W : Nat → Prop} {μ0 : Emb} {Post : List LV → Heap → Prop}

theorem run_ret (hm : P.follows .mixedOrders = true) {fn : Func} {m : Nat} {L : List Nat} {v : LV} {up : Upd} {n : Nat} {s : List Tok} {k : List It} {T : List LV} {H : Heap} {q : Prop} (h : runRet P fn m L v up n s k T H = some q) (hq : q) {nn : Nat} (hn : nn = m + L.length) :
    kont P w0 W μ0 (FnPost P fn m nn v up) k none T H := by
  subst hn
  unfold runRet at h
  split at h <;> try cases h
  rename_i q1 T' H' hr
  split at h <;> try cases h
  rename_i q2 vs hres
  split at h <;> cases h
  rename_i ht
  obtain ⟨h1, h2, h3, h4⟩ := hq
  exact run_ok hm n s k T H q1 _ hr h1 ⟨tau m L, q2, vs, hres, h2, fun μ x r => Rel.eqs h3 r, fun c hc => tau_lt c hc, tau_inj ht, h4.at⟩

/-! At a loop's head -/
def heapE (H : Heap) (τ : Nat → Nat) (n : Nat) : Nat → Heap → Prop
  | _, [] => True
  | i, none :: r => heapE H τ n (i + 1) r
  | i, some o' :: r => (match H.at (τ i) with | some o => o.leq (o'.ren τ) | none => False) ∧ o'.under n ∧ heapE H τ n (i + 1) r

theorem heapE_get {H : Heap} {τ : Nat → Nat} {n : Nat} : ∀ {H' : Heap} {i : Nat}, heapE H τ n i H' → ∀ (c : Nat) (o' : LO), H'.at c = some o' → ∃ o, H.at (τ (i + c)) = some o ∧ o.Le (o'.ren τ) ∧ o'.under n
  | [], i, _, c, o', h => by simp [Heap.at_nil] at h
  | none :: r, i, hh, 0, o', h => by simp [Heap.at] at h
  | none :: r, i, hh, c + 1, o', h => by
    have := heapE_get (H' := r) (i := i + 1) hh c o' (by simpa [Heap.at] using h)
    rwa [show i + 1 + c = i + (c + 1) from by omega] at this
  | some o :: r, i, ⟨h1, h2, h3⟩, 0, o', h => by
    simp only [Heap.at, List.getElem?_cons_zero, Option.getD_some, Option.some.injEq] at h
    subst h
    cases hc : H.at (τ i) with
    | none => simp [hc] at h1
    | some x => simp only [hc] at h1; exact ⟨x, by simp [hc], h1.le, h2⟩
  | some o :: r, i, ⟨h1, h2, h3⟩, c + 1, o', h => by
    have := heapE_get (H' := r) (i := i + 1) h3 c o' (by simpa [Heap.at] using h)
    rwa [show i + 1 + c = i + (c + 1) from by omega] at this

/-- A state under other names. -/
theorem St.ren {μ : Emb} {T T' : List LV} {H H' : Heap} {a : Act} {w : World} {m : Nat} {L : List Nat} (s : St w0 W μ0 μ T H a w) (hμ0 : ∀ c p, μ0 c = some p → c < m) (ht : tauOk m L = true) (hl : H'.length = m + L.length)
    (hT : eqsL T (renL (tau m L) T')) (hTu : underL H'.length T' = true) (hH : heapE H (tau m L) H'.length 0 H') : ∃ μ', St w0 W μ0 μ' T' H' a w := by
  let μ' : Emb := fun c => if c < H'.length then μ (tau m L c) else none
  have h1 : ∀ c p, c < H'.length → μ (tau m L c) = some p → μ' c = some p := fun c p hc hp => by simp only [μ', if_pos hc]; exact hp
  have h2 : ∀ c p, μ' c = some p → c < H'.length ∧ μ (tau m L c) = some p := by
    intro c p hp
    simp only [μ'] at hp
    split at hp
    · rename_i hc; exact ⟨hc, hp⟩
    · cases hp
  have hlt : ∀ c o, H'.at c = some o → c < H'.length := by
    intro c o h
    simp only [Heap.at] at h
    cases hc : H'[c]? with
    | none => simp [hc] at h
    | some x => exact (List.getElem?_eq_some_iff.1 hc).1
  have get : ∀ c o', H'.at c = some o' → ∃ o, H.at (tau m L c) = some o ∧ o.Le (o'.ren (tau m L)) ∧ o'.under H'.length := fun c o' h => by
    have := heapE_get hH c o' h
    simpa using this
  refine ⟨μ', ⟨fun c o' h => ?_, fun c o c' o' p p' h h' hne hw hp hp' => ?_, s.sim.os, s.sim.tape, s.sim.output, s.sim.grow, s.sim.keep, fun c o' p h hw hp => ?_⟩, ⟨?_, fun t l htl => ?_⟩, fun c p hp => (h2 c p hp).1, s.defs, fun c p hp => ?_⟩
  · obtain ⟨o, g1, g2, g3⟩ := get c o' h
    obtain ⟨p, k1, k2⟩ := s.sim.obj _ o g1
    exact ⟨p, h1 c p (hlt c o' h) k1, (ObjOK.of_ren.1 (g2.2 _ _ _ k2)).on (n := H'.length) h1 g3⟩
  · obtain ⟨o1, g1, g2, g3⟩ := get c o h
    obtain ⟨o1', g1', g2', g3'⟩ := get c' o' h'
    refine s.sim.sep _ o1 _ o1' p p' g1 g1' (fun e => hne (tau_inj ht c c' (hl ▸ hlt c o h) (hl ▸ hlt c' o' h') e)) ?_ (h2 c p hp).2 (h2 c' p' hp').2
    exact hw.imp (fun x => g2.1 (by rw [LO.ren_wr]; exact x)) (fun x => g2'.1 (by rw [LO.ren_wr]; exact x))
  · obtain ⟨o, g1, g2, g3⟩ := get c o' h
    exact s.sim.own _ o p g1 (g2.1 (by rw [LO.ren_wr]; exact hw)) (h2 c p hp).2
  · have := eqsL_length hT
    rw [renL_length] at this
    rw [this]; exact s.fr.size
  · have hg : ∀ {l : List LV} {t : Nat} {x : LV}, l[t]? = some x → (renL (tau m L) l)[t]? = some (x.ren (tau m L)) := by
      intro l
      induction l with
      | nil => intro t x h; simp at h
      | cons y l ih =>
        intro t x h
        cases t with
        | zero => simp at h; subst h; simp [renL]
        | succ t => simpa [renL] using ih (by simpa using h)
    obtain ⟨x, k1, k2⟩ := eqsL_get hT (hg htl)
    have hu : ∀ {l : List LV} {t : Nat} {x : LV}, underL H'.length l = true → l[t]? = some x → x.under H'.length = true := by
      intro l
      induction l with
      | nil => intro t x _ h; simp at h
      | cons y l ih =>
        intro t x hq h
        simp only [underL, Bool.and_eq_true] at hq
        cases t with
        | zero => simp at h; subst h; exact hq.1
        | succ t => exact ih hq.2 (by simpa using h)
    exact (Rel.of_ren.1 (Rel.eqs k2 (s.fr.get t x k1))).on (n := H'.length) h1 (hu hTu htl)
  · have hc := hμ0 c p hp
    exact h1 c p (by omega) (by rw [tau_lt c hc]; exact s.ext c p hp)

def headOk : List It → Bool
  | .code _ :: _ => true
  | .loop _ :: _ => true
  | _ => false

def runTo (P : Program) (m : Nat) (L : List Nat) (T' : List LV) (H' : Heap) (n : Nat) (s : List Tok) (k : List It) (T : List LV) (H : Heap) : Option (Prop × List It) :=
  match run P n s k T H with
  | some (q, .stop k' T1 H1) =>
    if tauOk m L && (H'.length == m + L.length) && headOk k' && underL H'.length T' then some (q ∧ eqsL T1 (renL (tau m L) T') ∧ heapE H1 (tau m L) H'.length 0 H', k') else none
  | _ => none

theorem run_to (hm : P.follows .mixedOrders = true) {m : Nat} {L : List Nat} {T' : List LV} {H' : Heap} {n : Nat} {s : List Tok} {k k' : List It} {T : List LV} {H : Heap} {q : Prop} (hμ0 : ∀ c p, μ0 c = some p → c < m) (h : runTo P m L T' H' n s k T H = some (q, k')) (hq : q)
    (hk : kont P w0 W μ0 Post k' none T' H') : kont P w0 W μ0 Post k none T H := by
  unfold runTo at h
  split at h <;> try cases h
  rename_i q1 k1 T1 H1 hr
  split at h <;> cases h
  rename_i hc
  simp only [Bool.and_eq_true, beq_iff_eq] at hc
  obtain ⟨⟨⟨c1, c2⟩, c3⟩, c4⟩ := hc
  obtain ⟨h1, h2, h3⟩ := hq
  refine run_ok hm n s k T H q1 _ hr h1 ?_
  show kont P w0 W μ0 Post k' none T1 H1
  match k', c3, hk with
  | .code c :: kk, _, hk =>
    intro μ a w st
    obtain ⟨μ', st'⟩ := St.ren st hμ0 c1 c2 h2 c4 h3
    exact hk μ' a w st'
  | .loop c :: kk, _, hk =>
    intro μ a w st
    obtain ⟨μ', st'⟩ := St.ren st hμ0 c1 c2 h2 c4 h3
    exact hk μ' a w st'
end
end Go.Cn
