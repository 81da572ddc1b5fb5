import Derived.Test.YtddgjfclpknkcaaGreatDoorCnM
namespace Go.Cn
open Go
def Emb.fz (μ : Emb) (b : Nat) (cs : Array Value) : Emb := ⟨μ.loc, fun d => if d = b then some cs else μ.fro d⟩
theorem Emb.fz_ext {μ : Emb} {b : Nat} {cs : Array Value} (h : μ.fro b = none) : Ext μ (μ.fz b cs) := by
 refine ⟨fun _ _ h => h, fun d x hx => ?_⟩
 show (if d = b then some cs else μ.fro d) = some x
 split
 ·rename_i e; subst e; rw [h] at hx; cases hx
 ·exact hx
def upAt : Upd → Nat → Option LO
 | [], _ => none
 | (d, some o) :: r, c => if d = c then some o else upAt r c
 | (_, none) :: r, c => upAt r c
theorem upAt_mem : ∀ {up : Upd} {c : Nat} {o : LO}, upAt up c = some o → (c, some o) ∈ up
 | (d, some o') :: r, c, o, h => by
  simp only [upAt] at h
  split at h
  ·rename_i e; cases h; subst e; exact List.mem_cons_self
  ·exact List.mem_cons_of_mem _ (upAt_mem h)
 | (_, none) :: r, c, o, h => List.mem_cons_of_mem _ (upAt_mem (up := r) h)
def upDrop (c : Nat) : Upd → Upd
 | [] => []
 | (d, o) :: r => (d, if d = c then none else o) :: upDrop c r
theorem upDrop_has (c d : Nat) : ∀ (up : Upd), (upDrop c up).has d = up.has d
 | [] => rfl
 | (x, o) :: r => by simp only [upDrop, Upd.has, List.any_cons]; rw [show ((upDrop c r).any fun x => x.1 == d) = r.any fun x => x.1 == d from upDrop_has c d r]
theorem upDrop_mem {c d : Nat} {o : LO} : ∀ {up : Upd}, (d, some o) ∈ upDrop c up → (d, some o) ∈ up ∧ d ≠ c
 | (x, o') :: r, h => by
  simp only [upDrop, List.mem_cons, Prod.mk.injEq] at h
  rcases h with ⟨rfl, h⟩ | h
  ·split at h
   ·cases h
   ·rename_i hne; exact ⟨by rw [h]; exact List.mem_cons_self, hne⟩
  ·obtain ⟨h1, h2⟩ := upDrop_mem h
   exact ⟨List.mem_cons_of_mem _ h1, h2⟩
def rowOf : LO → Option (Nat × Nat × (Nat → List LV))
 | .row sz n f true => some (sz, n, f)
 | .gr sz n f => some (sz, n, f)
 | _ => none
theorem rowOf_ok {μ : Emb} {p : Pl} {h : Option Obj} {o : LO} {sz n : Nat} {f : Nat → List LV} (hr : rowOf o = some (sz, n, f)) (ho : ObjOK μ p h o) : o.wr = true ∧ ObjOK μ p h (.gr sz n f) := by
 unfold rowOf at hr
 split at hr <;> cases hr
 ·exact ⟨rfl, ObjOK.row_gr.1 ho⟩
 ·exact ⟨rfl, ho⟩
theorem row_frozen {μ μ' : Emb} {p : Pl} {sz n : Nat} {f : Nat → List LV} {cells : Array Value} {a : Addr} {i m rc : Nat} (hsz : p.sz = sz) (ha : a = p.addr i 0)
  (hel : ∀ i, i < n → ∃ vs, RelL μ (f i) vs ∧ vs.length = sz ∧ LiesAt cells (p.off + i * sz) vs ∧ ∀ v ∈ vs, v.oneCell' = true) (hz : ∀ i, i < n → fzbL (f i) = true)
  (hb : μ'.fro p.rb = some cells) (he : Ext μ μ') (hm : i + m ≤ n) (hrc : m ≤ rc) : Rel μ' (.ds sz m (fun q => f (i + q))) (.slice (some a) m rc) := by
 simp only [Rel, RelF]
 refine ⟨_, _, rfl, hrc, (fun h => by cases h), fun x hx _ => by cases hx; rw [ha]; rfl, fun q hq => ?_⟩
 obtain ⟨vs, h1, h2, h3, h4⟩ := hel (i + q) (by omega)
 refine ⟨a, cells, vs, rfl, by rw [ha]; exact hb, (h1.mono he).frz (hz (i + q) (by omega)), h2, ?_, h4⟩
 subst ha
 subst hsz
 show LiesAt cells (p.off + i * p.sz + 0 + q * p.sz) vs
 rw [Nat.add_mul] at h3
 rw [show p.off + i * p.sz + 0 + q * p.sz = p.off + (i * p.sz + q * p.sz) from by omega]
 exact h3
theorem ds_nil {μ : Emb} {sz : Nat} {f : Nat → List LV} : Rel μ (.ds sz 0 f) (.slice none 0 0) := by
 simp only [Rel, RelF]
 exact ⟨_, _, rfl, Nat.le_refl _, (fun _ => rfl), (fun _ h => by cases h), fun i hi => by omega⟩
theorem ds_zero {μ : Emb} {sz : Nat} {f : Nat → List LV} {a : Addr} {rc : Nat} (h : a.spot = none) : Rel μ (.ds sz 0 f) (.slice (some a) 0 rc) := by
 simp only [Rel, RelF]
 exact ⟨_, _, rfl, Nat.zero_le _, (fun h => by cases h), (fun _ h' _ => by cases h'; exact h), fun i hi => by omega⟩
def fzRes (up : Upd) : LV → Option (Prop × LV × Nat)
 | .gs c n => match upAt up c with
  | some o => match rowOf o with
   | some (sz, m, f) => some (n ≤ m ∧ ∀ i, i < m → fzbL (f i) = true, .ds sz n f, c)
   | none => none
  | none => none
 | .sl c 0 0 false n _ => match upAt up c with
  | some o => match rowOf o with
   | some (sz, m, f) => some (n ≤ m ∧ ∀ i, i < m → fzbL (f i) = true, .ds sz n f, c)
   | none => none
  | none => none
 | _ => none
theorem Delta0.freeze {μ μ' : Emb} {w w' : World} {pre : Pre} {up : Upd} {c : Nat} {o : LO} {p : Pl} {cells : Array Value} {E : TypeId} {fr : Nat × Nat} (d : Delta0 μ w pre up μ' w') (hf : FroOK0 μ pre w) (hc : (c, some o) ∈ up) (hw : o.wr = true) (hp : μ' c = some p)
  (hb : w'.heap[p.rb]? = some (.cells cells E fr)) : Delta0 μ w pre (upDrop c up) (μ'.fz p.rb cells) w' where
 ext := d.ext.trans (Emb.fz_ext (d.frs hf c o p hc hw hp))
 dom := fun e q h => (d.dom e q h).imp id (fun ⟨h1, h2⟩ => ⟨by rw [upDrop_has]; exact h1, h2⟩)
 os := d.os
 tape := d.tape
 output := d.output
 draws := d.draws
 grow := d.grow
 keep := fun b hb hk => d.keep b hb (fun c0 o0 p0 h1 h2 h3 => hk c0 o0 p0 h1 h2 (by rw [upDrop_has]; exact h3))
 obj := fun e q h => by
  obtain ⟨h1, h2⟩ := upDrop_mem h
  exact (d.obj e q h1).imp id (fun ⟨r, x, y⟩ => ⟨r, x, y.mono (Emb.fz_ext (d.frs hf c o p hc hw hp))⟩)
 place := fun e q r h hr => (d.place e q r (upDrop_mem h).1 hr).imp id (fun ⟨c0, o0, p0, g1, g2, g3, g4⟩ => ⟨c0, o0, p0, g1, g2, by rw [upDrop_has]; exact g3, g4⟩)
 sep := fun e q e' q' r r' h h' => d.sep e q e' q' r r' (upDrop_mem h).1 (upDrop_mem h').1
 frn := fun b cs h => by
  have h : (if b = p.rb then some cells else μ'.fro b) = some cs := h
  split at h
  ·rename_i e
   cases h
   subst e
   refine .inr ⟨⟨E, fr, hb⟩, (d.place c o p hc hp).imp id (fun ⟨c0, o0, p0, g1, g2, g3, g4⟩ => ⟨c0, o0, p0, g1, g2, by rw [upDrop_has]; exact g3, g4⟩)⟩
  ·exact (d.frn b cs h).imp id (fun ⟨h1, h2⟩ => ⟨h1, h2.imp id (fun ⟨c0, o0, p0, g1, g2, g3, g4⟩ => ⟨c0, o0, p0, g1, g2, by rw [upDrop_has]; exact g3, g4⟩)⟩)
 frs := fun hf' e q r h hwq hr => by
  obtain ⟨h1, h2⟩ := upDrop_mem h
  show (if r.rb = p.rb then some cells else μ'.fro r.rb) = none
  rw [if_neg (d.sep e q c o r p h1 hc h2 (.inl hwq) hr hp)]
  exact d.frs hf' e q r h1 hwq hr
theorem Delta0.voidDrop {μ μ' : Emb} {w w' : World} {pre : Pre} {up : Upd} (c : Nat) (d : Delta0 μ w pre up μ' w') : Delta0 μ w pre (upDrop c up) μ' w' :=
 d.swap (fun _ o h hw => ⟨o, h, hw⟩) (fun _ o h => ⟨o, (upDrop_mem h).1, id, id, fun _ _ => id⟩) (fun e h => by rw [upDrop_has]; exact h)
theorem tch_drop {μ : Emb} {w : World} {pre : Pre} {up : Upd} {c b : Nat} : Tch μ w pre (upDrop c up) b ↔ Tch μ w pre up b := by
 constructor <;> rintro ⟨e, o, p, h1, h2, h3, h4⟩
 ·exact ⟨e, o, p, h1, h2, by rw [upDrop_has] at h3; exact h3, h4⟩
 ·exact ⟨e, o, p, h1, h2, by rw [upDrop_has]; exact h3, h4⟩
theorem Delta.freeze {μ μ' : Emb} {w w' : World} {pre : Pre} {up : Upd} {c : Nat} {o : LO} {p : Pl} {cells : Array Value} {E : TypeId} {fr : Nat × Nat} (d : Delta μ w pre up μ' w') (hf : FroOK μ pre w) (hc : (c, some o) ∈ up) (hw : o.wr = true) (hp : μ' c = some p)
  (hb : w'.heap[p.rb]? = some (.cells cells E fr)) : Delta μ w pre (upDrop c up) (μ'.fz p.rb cells) w' :=
 have he := Emb.fz_ext (cs := cells) (d.frs hf c o p hc hw hp)
 have hxb : ∀ e q r b, (e, some q) ∈ up → μ' e = some r → Xtra (μ'.fz p.rb cells) w' r q b → Xtra μ' w' r q b := fun e q r b h1 h2 hx => Xtra.back (d.xok e q r h1 h2) he rfl hx
 {ext := d.ext.trans he
  dom := fun e q h => (d.dom e q h).imp id (fun ⟨h1, h2⟩ => ⟨by rw [upDrop_has]; exact h1, h2⟩)
  os := d.os
  tape := d.tape
  output := d.output
  draws := d.draws
  grow := d.grow
  keep := fun b hb hk => d.keep b hb (fun t => hk (tch_drop.2 t))
  obj := fun e q h => by
   obtain ⟨h1, h2⟩ := upDrop_mem h
   exact (d.obj e q h1).imp id (fun ⟨r, x, y⟩ => ⟨r, x, y.mono he⟩)
  place := fun e q r h hr => (d.place e q r (upDrop_mem h).1 hr).imp id tch_drop.2
  sep := fun e q e' q' r r' h h' => d.sep e q e' q' r r' (upDrop_mem h).1 (upDrop_mem h').1
  frn := fun b cs h => by
   have h : (if b = p.rb then some cells else μ'.fro b) = some cs := h
   split at h
   ·rename_i e
    cases h
    subst e
    exact .inr ⟨⟨E, fr, hb⟩, (d.place c o p hc hp).imp id tch_drop.2⟩
   ·exact (d.frn b cs h).imp id (fun ⟨h1, h2⟩ => ⟨h1, h2.imp id tch_drop.2⟩)
  frs := fun hf' e q r h hwq hr => by
   obtain ⟨h1, h2⟩ := upDrop_mem h
   show (if r.rb = p.rb then some cells else μ'.fro r.rb) = none
   rw [if_neg (d.sep e q c o r p h1 hc h2 (.inl hwq) hr hp)]
   exact d.frs hf' e q r h1 hwq hr
  xok := fun e q r h hr => (d.xok e q r (upDrop_mem h).1 hr).keep he rfl (fun _ _ => rfl)
  xplace := fun e q r b h hr hx => (d.xplace e q r b (upDrop_mem h).1 hr (hxb e q r b (upDrop_mem h).1 hr hx)).imp id tch_drop.2
  xsep := fun e q r b e' q' r' h hr hx h' hr' => by
   have := d.xsep e q r b e' q' r' (upDrop_mem h).1 hr (hxb e q r b (upDrop_mem h).1 hr hx) (upDrop_mem h').1 hr'
   exact ⟨this.1, fun hne hx' => this.2 hne (hxb e' q' r' b (upDrop_mem h').1 hr' hx')⟩
  xfrs := fun hf' e q r b h hr hx => by
   have hx0 := hxb e q r b (upDrop_mem h).1 hr hx
   show (if b = p.rb then some cells else μ'.fro b) = none
   rw [if_neg (fun e1 => (d.xsep e q r b c o p (upDrop_mem h).1 hr hx0 hc hp).1 e1.symm)]
   exact d.xfrs hf' e q r b (upDrop_mem h).1 hr hx0 }
theorem Delta.voidDrop {μ μ' : Emb} {w w' : World} {pre : Pre} {up : Upd} (c : Nat) (d : Delta μ w pre up μ' w') : Delta μ w pre (upDrop c up) μ' w' :=
 {d with
  dom := fun e q h => (d.dom e q h).imp id (fun ⟨h1, h2⟩ => ⟨by rw [upDrop_has]; exact h1, h2⟩)
  keep := fun b hb hk => d.keep b hb (fun t => hk (tch_drop.2 t))
  obj := fun e q h => d.obj e q (upDrop_mem h).1
  place := fun e q r h hr => (d.place e q r (upDrop_mem h).1 hr).imp id tch_drop.2
  sep := fun e q e' q' r r' h h' => d.sep e q e' q' r r' (upDrop_mem h).1 (upDrop_mem h').1
  frn := fun b cs h => (d.frn b cs h).imp id (fun ⟨h1, h2⟩ => ⟨h1, h2.imp id tch_drop.2⟩)
  frs := fun hf e q r h => d.frs hf e q r (upDrop_mem h).1
  xok := fun e q r h => d.xok e q r (upDrop_mem h).1
  xplace := fun e q r b h hr hx => (d.xplace e q r b (upDrop_mem h).1 hr hx).imp id tch_drop.2
  xsep := fun e q r b e' q' r' h hr hx h' => d.xsep e q r b e' q' r' (upDrop_mem h).1 hr hx (upDrop_mem h').1
  xfrs := fun hf e q r b h => d.xfrs hf e q r b (upDrop_mem h).1 }
theorem fzRes_ok {μ μ' : Emb} {w w' : World} {pre : Pre} {up : Upd} {v u : LV} {c : Nat} {q : Prop} {x : Value} (h : fzRes up v = some (q, u, c)) (hq : q) (d : Delta μ w pre up μ' w') (hf : FroOK μ pre w) (hx : Rel μ' v x) :
  ∃ μ'', Delta μ w pre (upDrop c up) μ'' w' ∧ Rel μ'' u x := by
 have key : ∀ (c m n : Nat) (sz : Nat) (f : Nat → List LV) (o : LO), (c, some o) ∈ up → rowOf o = some (sz, m, f) → n ≤ m → (∀ i, i < m → fzbL (f i) = true) →
   (n = 0 ∧ (x = .slice none 0 0 ∨ ∃ a rc, a.spot = none ∧ x = .slice (some a) 0 rc) ∨ ∃ p rc, μ' c = some p ∧ x = .slice (some (p.addr 0 0)) n rc ∧ n ≤ rc) → ∃ μ'', Delta μ w pre (upDrop c up) μ'' w' ∧ Rel μ'' (.ds sz n f) x := by
  intro c m n sz f o hm hr hn hz hv
  rcases hv with ⟨rfl, rfl | ⟨a, rc, hsp, rfl⟩⟩ | ⟨p, rc, hpc, rfl, hrc⟩
  ·exact ⟨μ', d.voidDrop c, ds_nil⟩
  ·exact ⟨μ', d.voidDrop c, ds_zero hsp⟩
  ·rcases d.obj c o hm with ⟨h1, _⟩ | ⟨p', hp', hok⟩
   ·rw [h1] at hpc; cases hpc
   obtain rfl := Option.some.inj (hp'.symm.trans hpc)
   obtain ⟨hw, k1, k2, cells, E, fr, k3, k4, k5, k6⟩ := rowOf_ok hr hok
   refine ⟨_, d.freeze hf hm hw hpc k3, ?_⟩
   have := row_frozen (μ := μ') (μ' := μ'.fz p'.rb cells) (p := p') (i := 0) (m := n) (rc := rc) k1 rfl k6 hz (by simp [Emb.fz]) (Emb.fz_ext (d.frs hf c o p' hm hw hpc)) (by omega) hrc
   have e : (fun q => f (0 + q)) = f := by funext q; rw [Nat.zero_add]
   rwa [e] at this
 unfold fzRes at h
 split at h <;> try cases h
 ·rename_i c' n
  split at h <;> try cases h
  rename_i o ho
  split at h <;> cases h
  rename_i sz m f hr
  refine key _ m n sz f o (upAt_mem ho) hr hq.1 hq.2 ?_
  rcases hx with ⟨h0, rfl⟩ | ⟨_, p, rc, hpc, rfl, h1, _⟩
  ·exact .inl ⟨h0, .inl rfl⟩
  ·exact .inr ⟨p, rc, hpc, rfl, h1⟩
 ·rename_i c' n cap
  split at h <;> try cases h
  rename_i o ho
  split at h <;> cases h
  rename_i sz m f hr
  refine key _ m n sz f o (upAt_mem ho) hr hq.1 hq.2 ?_
  obtain ⟨p, a, rc, hpc, rfl, hlen, _, hsp, _, haddr, _⟩ := hx
  by_cases h0 : n = 0
  ·subst h0; exact .inl ⟨rfl, .inr ⟨a, rc, hsp, rfl⟩⟩
  ·have := haddr (by omega)
   subst this
   exact .inr ⟨p, rc, hpc, rfl, hlen⟩
def AllP : List Prop → Prop
 | [] => True
 | p :: r => p ∧ AllP r
theorem AllP_append : ∀ {a b : List Prop}, AllP (a ++ b) → AllP a ∧ AllP b
 | [], _, h => ⟨trivial, h⟩
 | _ :: _, _, h => by
  have := AllP_append h.2
  exact ⟨⟨h.1, this.1⟩, this.2⟩
mutual
def fzV (c sz m : Nat) (f : Nat → List LV) : LV → List Prop × LV
 | .gs d n => if d = c then ([n ≤ m], .ds sz n f) else ([], .gs d n)
 | .sl d i 0 false n cap => if d = c then ([i + n ≤ m], .ds sz n (fun q => f (i + q))) else ([], .sl d i 0 false n cap)
 | .agg cs => ((fzL c sz m f cs).1, .agg (fzL c sz m f cs).2)
 | .tup cs => ((fzL c sz m f cs).1, .tup (fzL c sz m f cs).2)
 | .int k n => ([], .int k n)
 | .bool b => ([], .bool b)
 | .str l => ([], .str l)
 | .nilptr => ([], .nilptr)
 | .ptr c i j => ([], .ptr c i j)
 | .nilsl => ([], .nilsl)
 | .sl d i j inn n cap => ([], .sl d i j inn n cap)
 | .nilmap => ([], .nilmap)
 | .map c => ([], .map c)
 | .fn g a b => ([], .fn g a b)
 | .nilfn => ([], .nilfn)
 | .ds a b g => ([], .ds a b g)
 | .dp cs => ([], .dp cs)
 | .dn a b g => ([], .dn a b g)
 | .any => ([], .any)
 | .stamp d => ([], .stamp d)
def fzL (c sz m : Nat) (f : Nat → List LV) : List LV → List Prop × List LV
 | [] => ([], [])
 | x :: r => ((fzV c sz m f x).1 ++ (fzL c sz m f r).1, (fzV c sz m f x).2 :: (fzL c sz m f r).2)
end
theorem fzL_length {c sz m : Nat} {f : Nat → List LV} : ∀ (l : List LV), (fzL c sz m f l).2.length = l.length
 | [] => by simp [fzL]
 | x :: r => by simp [fzL, fzL_length r]
def FzAt (μ μ' : Emb) (c sz m : Nat) (f : Nat → List LV) : Prop :=
 Ext μ μ' ∧ ∀ p, μ c = some p → p.sz = sz ∧ ∃ cells, μ'.fro p.rb = some cells ∧ (∀ i, i < m → fzbL (f i) = true) ∧
  ∀ i, i < m → ∃ vs, RelL μ (f i) vs ∧ vs.length = sz ∧ LiesAt cells (p.off + i * sz) vs ∧ ∀ v ∈ vs, v.oneCell' = true
mutual
theorem fzV_ok {μ μ' : Emb} {c sz m : Nat} {f : Nat → List LV} (h : FzAt μ μ' c sz m f) : ∀ (v : LV) (x : Value), AllP (fzV c sz m f v).1 → Rel μ v x → Rel μ' (fzV c sz m f v).2 x
 | .gs d n, x, hq, hr => by
  simp only [fzV] at hq ⊢
  split
  ·rename_i e
   subst e
   rw [if_pos rfl] at hq
   have hq := hq.1
   rcases hr with ⟨rfl, rfl⟩ | ⟨_, p, rc, hpc, rfl, h1, h2⟩
   ·exact ds_nil
   ·obtain ⟨k1, cells, k2, k3, k4⟩ := h.2 p hpc
    have := row_frozen (i := 0) (m := n) (rc := rc) k1 rfl k4 k3 k2 h.1 (by omega) h1
    have e : (fun q => f (0 + q)) = f := by funext q; rw [Nat.zero_add]
    rwa [e] at this
  ·exact Rel.mono h.1 hr
 | .sl d i 0 false n cap, x, hq, hr => by
  simp only [fzV] at hq ⊢
  split
  ·rename_i e
   subst e
   rw [if_pos rfl] at hq
   have hq := hq.1
   obtain ⟨p, a, rc, hpc, rfl, hlen, _, hsp, _, haddr, _⟩ := hr
   by_cases h0 : n = 0
   ·subst h0; exact ds_zero hsp
   ·have := haddr (by omega)
    obtain ⟨k1, cells, k2, k3, k4⟩ := h.2 p hpc
    exact row_frozen k1 this k4 k3 k2 h.1 hq hlen
  ·exact Rel.mono h.1 hr
 | .sl d i (j + 1) inn n cap, x, hq, hr => by
  simp only [fzV]
  exact Rel.mono h.1 hr
 | .sl d i 0 true n cap, x, hq, hr => by
  simp only [fzV]
  exact Rel.mono h.1 hr
 | .agg cs, x, hq, ⟨vs, e, r⟩ => by
  simp only [fzV] at hq ⊢
  exact ⟨vs, e, fzL_ok h cs vs.toList hq r⟩
 | .tup cs, x, hq, ⟨vs, e, r⟩ => by
  simp only [fzV] at hq ⊢
  exact ⟨vs, e, fzL_ok h cs vs.toList hq r⟩
 | .int .., x, _, hr => by simp only [fzV]; exact hr
 | .bool .., x, _, hr => by simp only [fzV]; exact hr
 | .str .., x, _, hr => by simp only [fzV]; exact hr
 | .nilptr, x, _, hr => by simp only [fzV]; exact hr
 | .ptr .., x, _, hr => by simp only [fzV]; exact Rel.mono h.1 hr
 | .nilsl, x, _, hr => by simp only [fzV]; exact hr
 | .nilmap, x, _, hr => by simp only [fzV]; exact hr
 | .map _, x, _, hr => by simp only [fzV]; exact Rel.mono h.1 hr
 | .fn .., x, _, hr => by simp only [fzV]; exact Rel.mono h.1 hr
 | .nilfn, x, _, hr => by simp only [fzV]; exact hr
 | .ds .., x, _, hr => by simp only [fzV]; exact Rel.mono h.1 hr
 | .dp .., x, _, hr => by simp only [fzV]; exact Rel.mono h.1 hr
 | .dn .., x, _, hr => by simp only [fzV]; exact Rel.mono h.1 hr
 | .any, x, _, hr => by simp only [fzV, Rel]
 | .stamp _, x, _, hr => by simp only [fzV]; exact Rel.mono h.1 hr
theorem fzL_ok {μ μ' : Emb} {c sz m : Nat} {f : Nat → List LV} (h : FzAt μ μ' c sz m f) : ∀ (v : List LV) (x : List Value), AllP (fzL c sz m f v).1 → RelL μ v x → RelL μ' (fzL c sz m f v).2 x
 | [], _, _, r => by simp only [fzL]; exact r
 | y :: l, _, hq, ⟨v, r, e, a, b⟩ => by
  simp only [fzL] at hq ⊢
  have hq := AllP_append hq
  exact ⟨v, r, e, fzV_ok h y v hq.1 a, fzL_ok h l r hq.2 b⟩
end
def fzO (c sz m : Nat) (f : Nat → List LV) : Option LO → List Prop × Option LO
 | some (.var cs) => ((fzL c sz m f cs).1, some (.var (fzL c sz m f cs).2))
 | some (.row s n g wr) => ([∀ q, q < n → AllP (fzL c sz m f (g q)).1], some (.row s n (fun q => (fzL c sz m f (g q)).2) wr))
 | o => ([], o)
def fzH (c sz m : Nat) (f : Nat → List LV) : Heap → List Prop × Heap
 | [] => ([], [])
 | o :: r => ((fzO c sz m f o).1 ++ (fzH c sz m f r).1, (fzO c sz m f o).2 :: (fzH c sz m f r).2)
theorem fzH_length {c sz m : Nat} {f : Nat → List LV} : ∀ (H : Heap), (fzH c sz m f H).2.length = H.length
 | [] => rfl
 | o :: r => by simp [fzH, fzH_length r]
theorem fzH_at {c sz m : Nat} {f : Nat → List LV} : ∀ (H : Heap) (d : Nat), (fzH c sz m f H).2.at d = (fzO c sz m f (H.at d)).2 ∧ (AllP (fzH c sz m f H).1 → AllP (fzO c sz m f (H.at d)).1)
 | [], d => by simp [fzH, Heap.at, fzO]
 | o :: r, 0 => ⟨rfl, fun h => (AllP_append h).1⟩
 | o :: r, d + 1 => by
  have := fzH_at (c := c) (sz := sz) (m := m) (f := f) r d
  have e1 : (fzH c sz m f (o :: r)).2.at (d + 1) = (fzH c sz m f r).2.at d := rfl
  have e2 : Heap.at (o :: r) (d + 1) = Heap.at r d := rfl
  rw [e1, e2]
  exact ⟨this.1, fun h => this.2 (AllP_append h).2⟩
def frzSt (c : Nat) (T : List LV) (H : Heap) : Option (Prop × List LV × Heap) :=
 match H.at c with
 | some o => match rowOf o with
  | some (sz, m, f) => some ((∀ i, i < m → fzbL (f i) = true) ∧ AllP ((fzL c sz m f T).1 ++ (fzH c sz m f H).1), (fzL c sz m f T).2, (fzH c sz m f H).2.put c none)
  | none => none
 | none => none
theorem Sim.freeze {w0 : World} {W : Nat → Prop} {μ : Emb} {H : Heap} {w : World} {c sz m : Nat} {f : Nat → List LV} {o : LO} (s : Sim w0 W μ H w) (hc : H.at c = some o) (hr : rowOf o = some (sz, m, f)) (hz : ∀ i, i < m → fzbL (f i) = true)
  (hH : AllP (fzH c sz m f H).1) : ∃ μ', FzAt μ μ' c sz m f ∧ μ'.loc = μ.loc ∧ (∀ b cs, μ'.fro b = some cs → μ.fro b = some cs ∨ W b ∨ w0.heap.size ≤ b) ∧ Sim w0 W μ' ((fzH c sz m f H).2.put c none) w := by
 have objs : ∀ {μ' : Emb} (hF : FzAt μ μ' c sz m f) (hl : μ'.loc = μ.loc) (hfr : ∀ b cs, μ'.fro b = some cs → ∃ E fr, w.heap[b]? = some (.cells cs E fr))
   (hfs : ∀ e x q, e ≠ c → H.at e = some x → x.wr = true → μ e = some q → μ'.fro q.rb = none) (hxf : ∀ e x q b, e ≠ c → H.at e = some x → μ e = some q → Xtra μ w q x b → μ'.fro b = none) (htb : TabOK μ'.fro), Sim w0 W μ' ((fzH c sz m f H).2.put c none) w := by
  intro μ' hF hl hfr hfs hxf htb
  have hloc : ∀ d, μ' d = μ d := fun d => congrFun hl d
  have at' : ∀ d x, ((fzH c sz m f H).2.put c none).at d = some x → d ≠ c ∧ ∃ y, H.at d = some y ∧ x.wr = y.wr ∧ (y.void → x.void) ∧ (∀ p h, ObjOK μ p h y → ObjOK μ' p h x) ∧ (x = y ∨ x.plain = true ∧ y.plain = true) := by
   intro d x hx
   rw [Heap.at_put] at hx
   split at hx
   ·cases hx
   rename_i hne
   refine ⟨hne, ?_⟩
   obtain ⟨h1, h2⟩ := fzH_at (c := c) (sz := sz) (m := m) (f := f) H d
   rw [h1] at hx
   have h3 := h2 hH
   cases hy : H.at d with
   | none => rw [hy] at hx; simp [fzO] at hx
   | some y =>
    rw [hy] at hx h3
    refine ⟨y, rfl, ?_⟩
    cases y with
    | var cs =>
     simp only [fzO, Option.some.injEq] at hx h3
     subst hx
     exact ⟨rfl, id, fun p h ⟨k1, k2, cells, E, fr, k3, k4, k5, vs, k6, k7⟩ => ⟨k1, by rw [fzL_length]; exact k2, cells, E, fr, k3, k4, k5, vs, fzL_ok hF cs vs h3 k6, k7⟩, .inr ⟨rfl, rfl⟩⟩
    | row _ _ g _ =>
     simp only [fzO, Option.some.injEq] at hx h3
     subst hx
     refine ⟨rfl, id, fun p h ⟨k1, k2, cells, E, fr, k3, k4, k5, k6⟩ => ⟨k1, k2, cells, E, fr, k3, k4, k5, fun i hi => ?_⟩, .inr ⟨rfl, rfl⟩⟩
     obtain ⟨vs, j1, j2⟩ := k6 i hi
     exact ⟨vs, fzL_ok hF _ _ (h3.1 i hi) j1, j2⟩
    | map _ _ _ => simp only [fzO, Option.some.injEq] at hx; subst hx; exact ⟨rfl, id, fun p h k => k.mono hF.1, .inl rfl⟩
    | gr _ _ _ => simp only [fzO, Option.some.injEq] at hx; subst hx; exact ⟨rfl, id, fun p h k => k.mono hF.1, .inl rfl⟩
    | mapP _ _ _ _ _ => simp only [fzO, Option.some.injEq] at hx; subst hx; exact ⟨rfl, id, fun p h k => k.mono hF.1, .inl rfl⟩
    | sit _ _ => simp only [fzO, Option.some.injEq] at hx; subst hx; exact ⟨rfl, id, fun p h k => k, .inl rfl⟩
    | bld E d n => simp only [fzO, Option.some.injEq] at hx; subst hx; exact ⟨rfl, id, fun p h k => k.mono hF.1, .inl rfl⟩
    | tg _ _ => simp only [fzO, Option.some.injEq] at hx; subst hx; exact ⟨rfl, id, fun p h k => k, .inl rfl⟩
    | pm _ _ _ _ => simp only [fzO, Option.some.injEq] at hx; subst hx; exact ⟨rfl, id, fun p h k => k.mono hF.1, .inl rfl⟩
    | vw _ _ _ _ _ _ => simp only [fzO, Option.some.injEq] at hx; subst hx; exact ⟨rfl, id, fun p h k => k.mono hF.1, .inl rfl⟩
    | mit _ _ _ _ _ _ => simp only [fzO, Option.some.injEq] at hx; subst hx; exact ⟨rfl, id, fun p h k => k.mono hF.1, .inl rfl⟩
    | mapR _ _ _ => simp only [fzO, Option.some.injEq] at hx; subst hx; exact ⟨rfl, id, fun p h k => k.mono hF.1, .inl rfl⟩
    | bag _ _ => simp only [fzO, Option.some.injEq] at hx; subst hx; exact ⟨rfl, id, fun p h k => k.mono hF.1, .inl rfl⟩
    | mapq _ _ _ => simp only [fzO, Option.some.injEq] at hx; subst hx; exact ⟨rfl, id, fun p h k => k.mono hF.1, .inl rfl⟩
    | vwr _ _ _ => simp only [fzO, Option.some.injEq] at hx; subst hx; exact ⟨rfl, id, fun p h k => k.mono hF.1, .inl rfl⟩
    | mapO _ _ _ _ _ _ => simp only [fzO, Option.some.injEq] at hx; subst hx; exact ⟨rfl, id, fun p h k => k.mono hF.1, .inl rfl⟩
  refine ⟨?_, ?_, s.os, s.tape, s.output, s.draws, s.grow, s.keep, ?_, hfr, ?_, htb, ?_, ?_, ?_, ?_⟩
  ·intro d x hx
   obtain ⟨_, y, h1, h2, h3, h4, _⟩ := at' d x hx
   rw [hloc d]
   exact (s.obj' d y h1).imp (fun ⟨a, b⟩ => ⟨a, h3 b⟩) (fun ⟨p, a, b⟩ => ⟨p, a, h4 _ _ b⟩)
  ·intro d x d' x' p p' hx hx' hne hw hp hp'
   obtain ⟨_, y, h1, h2, _⟩ := at' d x hx
   obtain ⟨_, y', h1', h2', _⟩ := at' d' x' hx'
   rw [hloc] at hp hp'
   exact s.sep d y d' y' p p' h1 h1' hne (by rw [← h2, ← h2']; exact hw) hp hp'
  ·intro d x p hx hw hp
   obtain ⟨_, y, h1, h2, _⟩ := at' d x hx
   rw [hloc] at hp
   exact s.own d y p h1 (by rw [← h2]; exact hw) hp
  ·intro d x p hx hw hp
   obtain ⟨hne, y, h1, h2, _⟩ := at' d x hx
   rw [hloc] at hp
   exact hfs d y p hne h1 (by rw [← h2]; exact hw) hp
  ·intro d x p hx hp
   obtain ⟨_, y, h1, h2, _, _, h5⟩ := at' d x hx
   rw [hloc] at hp
   rcases h5 with rfl | ⟨h5, _⟩
   ·exact (s.xok d x p h1 hp).keep hF.1 rfl (fun _ _ => rfl)
   ·exact XOK.plain h5
  ·intro d x p b d' x' p' hx hp hxt hx' hp'
   obtain ⟨_, y, h1, h2, _, _, h5⟩ := at' d x hx
   obtain ⟨_, y', h1', h2', _, _, h5'⟩ := at' d' x' hx'
   rw [hloc] at hp hp'
   rcases h5 with rfl | ⟨h5, _⟩
   ·have h0 := Xtra.back (s.xok d x p h1 hp) hF.1 rfl hxt
    have := s.xsep d x p b d' y' p' h1 hp h0 h1' hp'
    refine ⟨this.1, fun hne hxt' => ?_⟩
    rcases h5' with rfl | ⟨h5', _⟩
    ·exact this.2 hne (Xtra.back (s.xok d' x' p' h1' hp') hF.1 rfl hxt')
    ·exact Xtra.plain h5' hxt'
   ·exact absurd hxt (Xtra.plain h5)
  ·intro d x p b hx hp hxt
   obtain ⟨_, y, h1, h2, _, _, h5⟩ := at' d x hx
   rw [hloc] at hp
   rcases h5 with rfl | ⟨h5, _⟩
   ·exact s.xown d x p b h1 hp (Xtra.back (s.xok d x p h1 hp) hF.1 rfl hxt)
   ·exact absurd hxt (Xtra.plain h5)
  ·intro d x p b hx hp hxt
   obtain ⟨hne, y, h1, h2, _, _, h5⟩ := at' d x hx
   rw [hloc] at hp
   rcases h5 with rfl | ⟨h5, _⟩
   ·exact hxf d x p b hne h1 hp (Xtra.back (s.xok d x p h1 hp) hF.1 rfl hxt)
   ·exact absurd hxt (Xtra.plain h5)
 cases hpc : μ c with
 | none =>
  have hF : FzAt μ μ c sz m f := ⟨Ext.refl μ, fun p hp => by rw [hpc] at hp; cases hp⟩
  exact ⟨μ, hF, rfl, fun _ _ h => .inl h, objs hF rfl s.fro (fun e x q _ h1 h2 h3 => s.frs e x q h1 h2 h3) (fun e x q b _ h1 h2 h3 => s.xfrs e x q b h1 h2 h3) s.tab⟩
 | some p =>
  have hok := s.placed hc hpc
  obtain ⟨hw, k1, k2, cells, E, fr, k3, k4, k5, k6⟩ := rowOf_ok hr hok
  have hfn := s.frs c o p hc hw hpc
  have hF : FzAt μ (μ.fz p.rb cells) c sz m f := by
   refine ⟨Emb.fz_ext hfn, fun p' hp' => ?_⟩
   rw [hpc] at hp'
   cases hp'
   exact ⟨k1, cells, by simp [Emb.fz], hz, k6⟩
  refine ⟨_, hF, rfl, ?_, objs hF rfl ?_ ?_ ?_ (s.tab.mono hF.1.fro)⟩
  ·intro b cs hb
   have hb : (if b = p.rb then some cells else μ.fro b) = some cs := hb
   split at hb
   ·rename_i e; subst e; exact .inr (s.own c o p hc hw hpc)
   ·exact .inl hb
  ·intro b cs hb
   have hb : (if b = p.rb then some cells else μ.fro b) = some cs := hb
   split at hb
   ·rename_i e; cases hb; subst e; exact ⟨E, fr, k3⟩
   ·exact s.fro b cs hb
  ·intro e x q hne h1 h2 h3
   show (if q.rb = p.rb then some cells else μ.fro q.rb) = none
   rw [if_neg (s.sep e x c o q p h1 hc hne (.inl h2) h3 hpc)]
   exact s.frs e x q h1 h2 h3
  ·intro e x q b hne h1 h2 h3
   show (if b = p.rb then some cells else μ.fro b) = none
   rw [if_neg (fun e1 => (s.xsep e x q b c o p h1 h2 h3 hc hpc).1 e1.symm)]
   exact s.xfrs e x q b h1 h2 h3
end Go.Cn
