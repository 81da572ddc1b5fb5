import Derived.Calls
import Derived.Orders
import Derived.KernelRfl
import Derived.WalkKit
import Derived.Lib.TrailingZeros
namespace Go.Cn
inductive LV where
 | int (k : IntKind) (n : Int)
 | bool (b : Bool)
 | str (l : List UInt8)
 | nilptr
 | ptr (c i j : Nat)
 | nilsl
 | sl (c i j : Nat) (inn : Bool) (len : Nat) (cap : Option Nat)
 | nilmap
 | map (c : Nat)
 | fn (f : FuncId) (first cap : List LV)
 | nilfn
 | agg (cs : List LV)
 | tup (vs : List LV)
 | gs (c n : Nat)
 | ds (sz n : Nat) (f : Nat → List LV)
 | dp (cs : List LV)
 | dn (sz n : Nat) (f : Nat → List LV)
 | any
 | stamp (d : Nat)
 deriving Inhabited
structure Pl where
 rb : Nat
 off : Nat
 sz : Nat
 ext : Nat
abbrev Fro := Nat → Option (Array Value)
def tabBlk : Option Nat := none
def drawsOn : Bool := true
def TabOK (φ : Fro) : Prop := ∀ g, tabBlk = some g → ∃ cs, φ g = some cs ∧ ∀ j, j < 64 → cs[j]? = some (.int .u8 ((Lib.deBruijn64tab.getD j 0 : Nat) : Int))
structure Emb where
 loc : Nat → Option Pl
 fro : Fro
instance : CoeFun Emb (fun _ => Nat → Option Pl) := ⟨Emb.loc⟩
structure Ext (μ μ' : Emb) : Prop where
 loc : ∀ c p, μ c = some p → μ' c = some p
 fro : ∀ b cs, μ.fro b = some cs → μ'.fro b = some cs
theorem Ext.refl (μ : Emb) : Ext μ μ := ⟨fun _ _ h => h, fun _ _ h => h⟩
theorem Ext.trans {a b c : Emb} (h : Ext a b) (k : Ext b c) : Ext a c := ⟨fun x p hx => k.loc x p (h.loc x p hx), fun x p hx => k.fro x p (h.fro x p hx)⟩
def Pl.addr (p : Pl) (i j : Nat) : Addr := ⟨p.rb, p.off + i * p.sz + j, none⟩
theorem TabOK.mono {φ φ' : Fro} (h : ∀ b cs, φ b = some cs → φ' b = some cs) (t : TabOK φ) : TabOK φ' := fun g hg => by
 obtain ⟨cs, h1, h2⟩ := t g hg
 exact ⟨cs, h _ _ h1, h2⟩
theorem TabOK.no {φ : Fro} (h : tabBlk = none) : TabOK φ := fun g hg => by rw [h] at hg; cases hg
def LiesAt (cs : Array Value) (o : Nat) (vs : List Value) : Prop := ∀ (j : Nat) (v : Value), vs[j]? = some v → cs[o + j]? = some v
mutual
def RelF (φ : Fro) : LV → Value → Prop
 | .int k n, v => v = .int k n
 | .bool b, v => v = .bool b
 | .str l, v => v = .string ⟨l.toArray⟩
 | .nilptr, v => v = .pointer none
 | .nilsl, v => v = .slice none 0 0
 | .nilmap, v => v = .map none
 | .nilfn, v => v = .nilFunc
 | .agg cs, v => ∃ vs, v = .agg vs ∧ RelFL φ cs vs.toList
 | .tup cs, v => ∃ vs, v = .tuple vs ∧ RelFL φ cs vs.toList
 | .ds sz n f, v => ∃ base rc, v = .slice base n rc ∧ n ≤ rc ∧ (base = none → rc = 0) ∧ (∀ a, base = some a → n ≠ 0 → a.spot = none) ∧
   ∀ i, i < n → ∃ a cells vs, base = some a ∧ φ a.block = some cells ∧ RelFL φ (f i) vs ∧ vs.length = sz ∧ LiesAt cells (a.off + i * sz) vs ∧ ∀ v ∈ vs, v.oneCell' = true
 | .dp cs, v => ∃ a cells vs, v = .pointer (some a) ∧ a.spot = none ∧ φ a.block = some cells ∧ RelFL φ cs vs ∧ LiesAt cells a.off vs ∧ ∀ v ∈ vs, v.oneCell' = true
 | .any, _ => True
 | .ptr _ _ _, _ => False
 | .sl _ _ _ _ _ _, _ => False
 | .map _, _ => False
 | .fn _ _ _, _ => False
 | .gs _ _, _ => False
 | .dn _ _ _, _ => False
 | .stamp _, _ => False
def RelFL (φ : Fro) : List LV → List Value → Prop
 | [], vs => vs = []
 | c :: cs, vs => ∃ v r, vs = v :: r ∧ RelF φ c v ∧ RelFL φ cs r
end
def Fro.le (φ φ' : Fro) : Prop := ∀ b cs, φ b = some cs → φ' b = some cs
mutual
theorem RelF.mono {φ φ' : Fro} (h : φ.le φ') : ∀ {l : LV} {v : Value}, RelF φ l v → RelF φ' l v
 | .int .., _, r => r
 | .bool .., _, r => r
 | .str .., _, r => r
 | .nilptr, _, r => r
 | .nilsl, _, r => r
 | .nilmap, _, r => r
 | .nilfn, _, r => r
 | .agg _, _, ⟨vs, e, r⟩ => ⟨vs, e, RelFL.mono h r⟩
 | .tup _, _, ⟨vs, e, r⟩ => ⟨vs, e, RelFL.mono h r⟩
 | .ds _ _ f, _, ⟨base, rc, e, h1, h2, h3, h4⟩ => ⟨base, rc, e, h1, h2, h3, fun i hi => by
   obtain ⟨a, cells, vs, k1, k2, k3, k4⟩ := h4 i hi
   exact ⟨a, cells, vs, k1, h _ _ k2, RelFL.mono h k3, k4⟩⟩
 | .dp _, _, ⟨a, cells, vs, k1, k2, k3, k4, k5⟩ => ⟨a, cells, vs, k1, k2, h _ _ k3, RelFL.mono h k4, k5⟩
 | .any, _, _ => trivial
 | .ptr .., _, r => r
 | .sl .., _, r => r
 | .map _, _, r => r
 | .fn .., _, r => r
 | .gs .., _, r => r
 | .dn .., _, r => r
 | .stamp _, _, r => r
theorem RelFL.mono {φ φ' : Fro} (h : φ.le φ') : ∀ {l : List LV} {v : List Value}, RelFL φ l v → RelFL φ' l v
 | [], _, r => r
 | _ :: _, _, ⟨v, r, e, a, b⟩ => ⟨v, r, e, RelF.mono h a, RelFL.mono h b⟩
end
mutual
def Rel (μ : Emb) : LV → Value → Prop
 | .int k n, v => v = .int k n
 | .bool b, v => v = .bool b
 | .str l, v => v = .string ⟨l.toArray⟩
 | .nilptr, v => v = .pointer none
 | .ptr c i j, v => ∃ p, μ c = some p ∧ v = .pointer (some (p.addr i j))
 | .nilsl, v => v = .slice none 0 0
 | .sl c i j inn len cap, v => ∃ p a rc, μ c = some p ∧ v = .slice (some a) len rc ∧ len ≤ rc ∧ (∀ k, cap = some k → rc = k) ∧ a.spot = none ∧ a.block = p.rb ∧
   (rc ≠ 0 → a = p.addr i j) ∧ (inn = false → j = 0 ∧ (rc ≠ 0 → i + rc ≤ p.ext))
 | .nilmap, v => v = .map none
 | .map c, v => ∃ p, μ c = some p ∧ v = .map (some p.rb)
 | .fn f fi ca, v => ∃ a b, v = .func (.func f) a b ∧ RelL μ fi a.toList ∧ RelL μ ca b.toList
 | .nilfn, v => v = .nilFunc
 | .agg cs, v => ∃ vs, v = .agg vs ∧ RelL μ cs vs.toList
 | .tup cs, v => ∃ vs, v = .tuple vs ∧ RelL μ cs vs.toList
 | .gs c n, v => (n = 0 ∧ v = .slice none 0 0) ∨ (n ≠ 0 ∧ ∃ p rc, μ c = some p ∧ v = .slice (some (p.addr 0 0)) n rc ∧ n ≤ rc ∧ rc ≤ p.ext)
 | .ds sz n f, v => RelF μ.fro (.ds sz n f) v
 | .dp cs, v => RelF μ.fro (.dp cs) v
 | .dn sz n f, v => RelF μ.fro (.ds sz n f) v ∧ ∃ a rc, v = .slice (some a) n rc
 | .any, _ => True
 | .stamp d, v => ∃ p, μ d = some p ∧ v = .int .i64 (p.off : Int)
def RelL (μ : Emb) : List LV → List Value → Prop
 | [], vs => vs = []
 | c :: cs, vs => ∃ v r, vs = v :: r ∧ Rel μ c v ∧ RelL μ cs r
end
mutual
theorem Rel.mono {μ μ' : Emb} (h : Ext μ μ') : ∀ {l : LV} {v : Value}, Rel μ l v → Rel μ' l v
 | .int .., _, r => r
 | .bool .., _, r => r
 | .str .., _, r => r
 | .nilptr, _, r => r
 | .ptr .., _, ⟨p, hp, r⟩ => ⟨p, h.loc _ _ hp, r⟩
 | .nilsl, _, r => r
 | .sl .., _, ⟨p, a, rc, hp, r⟩ => ⟨p, a, rc, h.loc _ _ hp, r⟩
 | .nilmap, _, r => r
 | .map _, _, ⟨p, hp, r⟩ => ⟨p, h.loc _ _ hp, r⟩
 | .fn .., _, ⟨a, b, e, r, s⟩ => ⟨a, b, e, RelL.mono h r, RelL.mono h s⟩
 | .nilfn, _, r => r
 | .agg _, _, ⟨vs, e, r⟩ => ⟨vs, e, RelL.mono h r⟩
 | .tup _, _, ⟨vs, e, r⟩ => ⟨vs, e, RelL.mono h r⟩
 | .gs .., _, .inl r => .inl r
 | .gs .., _, .inr ⟨n, p, rc, hp, r⟩ => .inr ⟨n, p, rc, h.loc _ _ hp, r⟩
 | .ds .., _, r => RelF.mono h.fro r
 | .dp .., _, r => RelF.mono h.fro r
 | .dn .., _, ⟨r, e⟩ => ⟨RelF.mono h.fro r, e⟩
 | .any, _, _ => trivial
 | .stamp _, _, ⟨p, hp, r⟩ => ⟨p, h.loc _ _ hp, r⟩
theorem RelL.mono {μ μ' : Emb} (h : Ext μ μ') : ∀ {l : List LV} {v : List Value}, RelL μ l v → RelL μ' l v
 | [], _, r => r
 | _ :: _, _, ⟨v, r, e, a, b⟩ => ⟨v, r, e, Rel.mono h a, RelL.mono h b⟩
end
mutual
theorem RelF.rel {μ : Emb} : ∀ {l : LV} {v : Value}, RelF μ.fro l v → Rel μ l v
 | .int .., _, r => r
 | .bool .., _, r => r
 | .str .., _, r => r
 | .nilptr, _, r => r
 | .nilsl, _, r => r
 | .nilmap, _, r => r
 | .nilfn, _, r => r
 | .agg _, _, ⟨vs, e, r⟩ => ⟨vs, e, RelFL.rel r⟩
 | .tup _, _, ⟨vs, e, r⟩ => ⟨vs, e, RelFL.rel r⟩
 | .ds .., _, r => r
 | .dp .., _, r => r
 | .any, _, _ => trivial
 | .ptr .., _, r => r.elim
 | .sl .., _, r => r.elim
 | .map _, _, r => r.elim
 | .fn .., _, r => r.elim
 | .gs .., _, r => r.elim
 | .dn .., _, r => r.elim
 | .stamp _, _, r => r.elim
theorem RelFL.rel {μ : Emb} : ∀ {l : List LV} {v : List Value}, RelFL μ.fro l v → RelL μ l v
 | [], _, r => r
 | _ :: _, _, ⟨v, r, e, a, b⟩ => ⟨v, r, e, RelF.rel a, RelFL.rel b⟩
end
mutual
def LV.fzb : LV → Bool
 | .ptr _ _ _ | .sl _ _ _ _ _ _ | .map _ | .fn _ _ _ | .gs _ _ | .dn _ _ _ | .stamp _ => false
 | .agg cs => fzbL cs
 | .tup cs => fzbL cs
 | _ => true
def fzbL : List LV → Bool
 | [] => true
 | c :: cs => c.fzb && fzbL cs
end
mutual
theorem Rel.frz {μ : Emb} : ∀ {l : LV} {v : Value}, l.fzb = true → Rel μ l v → RelF μ.fro l v
 | .int .., _, _, r => r
 | .bool .., _, _, r => r
 | .str .., _, _, r => r
 | .nilptr, _, _, r => r
 | .nilsl, _, _, r => r
 | .nilmap, _, _, r => r
 | .nilfn, _, _, r => r
 | .agg _, _, h, ⟨vs, e, r⟩ => ⟨vs, e, RelL.frz (by simpa [LV.fzb] using h) r⟩
 | .tup _, _, h, ⟨vs, e, r⟩ => ⟨vs, e, RelL.frz (by simpa [LV.fzb] using h) r⟩
 | .ds .., _, _, r => r
 | .dp .., _, _, r => r
 | .any, _, _, _ => trivial
 | .ptr .., _, h, _ => by simp [LV.fzb] at h
 | .sl .., _, h, _ => by simp [LV.fzb] at h
 | .map _, _, h, _ => by simp [LV.fzb] at h
 | .fn .., _, h, _ => by simp [LV.fzb] at h
 | .gs .., _, h, _ => by simp [LV.fzb] at h
 | .dn .., _, h, _ => by simp [LV.fzb] at h
 | .stamp _, _, h, _ => by simp [LV.fzb] at h
theorem RelL.frz {μ : Emb} : ∀ {l : List LV} {v : List Value}, fzbL l = true → RelL μ l v → RelFL μ.fro l v
 | [], _, _, r => r
 | _ :: _, _, h, ⟨v, r, e, a, b⟩ => by
  simp only [fzbL, Bool.and_eq_true] at h
  exact ⟨v, r, e, Rel.frz h.1 a, RelL.frz h.2 b⟩
end
theorem RelFL.length {φ : Fro} : ∀ {l : List LV} {v : List Value}, RelFL φ l v → v.length = l.length
 | [], _, r => by cases r; rfl
 | _ :: _, _, ⟨_, _, e, _, b⟩ => by subst e; simp [RelFL.length b]
theorem RelFL.drop {φ : Fro} : ∀ {l : List LV} {vs : List Value} (n : Nat), RelFL φ l vs → RelFL φ (l.drop n) (vs.drop n)
 | _, _, 0, r => by simpa using r
 | [], _, n + 1, r => by cases r; simp [RelFL]
 | _ :: _, _, n + 1, ⟨v, r, e, a, b⟩ => by subst e; simpa using RelFL.drop n b
theorem RelL.length {μ : Emb} : ∀ {l : List LV} {v : List Value}, RelL μ l v → v.length = l.length
 | [], _, r => by cases r; rfl
 | _ :: _, _, ⟨_, _, e, _, b⟩ => by subst e; simp [RelL.length b]
theorem RelL.get {μ : Emb} : ∀ {l : List LV} {vs : List Value} {i : Nat} {x : LV}, RelL μ l vs → l[i]? = some x → ∃ v, vs[i]? = some v ∧ Rel μ x v
 | [], _, _, _, _, h => by simp at h
 | _ :: _, _, 0, _, ⟨v, r, e, a, b⟩, h => by subst e; simp at h; subst h; exact ⟨v, by simp, a⟩
 | _ :: _, _, i + 1, _, ⟨v, r, e, a, b⟩, h => by subst e; simp at h; simpa using RelL.get b h
theorem RelL.get' {μ : Emb} : ∀ {l : List LV} {vs : List Value} {i : Nat} {v : Value}, RelL μ l vs → vs[i]? = some v → ∃ x, l[i]? = some x ∧ Rel μ x v
 | [], _, _, _, r, h => by cases r; simp at h
 | x :: _, _, 0, _, ⟨v, r, e, a, b⟩, h => by subst e; simp at h; subst h; exact ⟨x, by simp, a⟩
 | _ :: _, _, i + 1, _, ⟨v, r, e, a, b⟩, h => by subst e; simp at h; simpa using RelL.get' b h
theorem RelL.nil {μ : Emb} : RelL μ [] [] := rfl
theorem RelL.cons {μ : Emb} {x : LV} {v : Value} {l : List LV} {r : List Value} (a : Rel μ x v) (b : RelL μ l r) : RelL μ (x :: l) (v :: r) := ⟨v, r, rfl, a, b⟩
theorem RelL.append {μ : Emb} : ∀ {l : List LV} {vs : List Value} {l' : List LV} {vs' : List Value}, RelL μ l vs → RelL μ l' vs' → RelL μ (l ++ l') (vs ++ vs')
 | [], _, _, _, r, s => by cases r; exact s
 | _ :: _, _, _, _, ⟨v, r, e, a, b⟩, s => by subst e; exact ⟨v, _, rfl, a, RelL.append b s⟩
theorem RelL.drop {μ : Emb} : ∀ {l : List LV} {vs : List Value} (n : Nat), RelL μ l vs → RelL μ (l.drop n) (vs.drop n)
 | _, _, 0, r => by simpa using r
 | [], _, n + 1, r => by cases r; simp [RelL]
 | _ :: _, _, n + 1, ⟨v, r, e, a, b⟩ => by subst e; simpa using RelL.drop n b
theorem RelL.take {μ : Emb} : ∀ {l : List LV} {vs : List Value} (n : Nat), RelL μ l vs → RelL μ (l.take n) (vs.take n)
 | _, _, 0, r => by simp [RelL]
 | [], _, n + 1, r => by cases r; simp [RelL]
 | _ :: _, _, n + 1, ⟨v, r, e, a, b⟩ => by subst e; exact ⟨v, _, rfl, a, RelL.take n b⟩
theorem RelL.of_get {μ : Emb} : ∀ {l : List LV} {vs : List Value}, l.length = vs.length → (∀ (i : Nat) (x : LV) (v : Value), l[i]? = some x → vs[i]? = some v → Rel μ x v) → RelL μ l vs
 | [], [], _, _ => rfl
 | [], _ :: _, h, _ => by simp at h
 | _ :: _, [], h, _ => by simp at h
 | x :: l, v :: vs, h, g => ⟨v, vs, rfl, g 0 x v (by simp) (by simp), RelL.of_get (by simpa using h) (fun i a b ha hb => g (i + 1) a b (by simpa using ha) (by simpa using hb))⟩
theorem RelL.set {μ : Emb} : ∀ {l : List LV} {vs : List Value} (n : Nat) {x : LV} {v : Value}, RelL μ l vs → Rel μ x v → RelL μ (l.set n x) (vs.set n v)
 | [], _, _, _, _, r, _ => by cases r; simp [RelL]
 | _ :: _, _, 0, x, v, ⟨w, r, e, a, b⟩, h => by subst e; exact ⟨v, r, rfl, h, b⟩
 | _ :: _, _, n + 1, _, _, ⟨w, r, e, a, b⟩, h => by subst e; exact ⟨w, _, rfl, a, RelL.set n b h⟩
def LV.cells : LV → List LV
 | .agg cs => cs
 | v => [v]
def LV.isCell : LV → Bool
 | .agg _ | .tup _ | .any | .stamp _ => false
 | _ => true
theorem Rel.oneCell {μ : Emb} {l : LV} {v : Value} (h : l.isCell = true) (r : Rel μ l v) : v.oneCell' = true := by
 cases l <;> simp [LV.isCell] at h <;> simp only [Rel] at r
 case ptr => obtain ⟨p, _, rfl⟩ := r; rfl
 case sl => obtain ⟨p, a, rc, _, rfl, _⟩ := r; rfl
 case map => obtain ⟨p, _, rfl⟩ := r; rfl
 case fn => obtain ⟨a, b, rfl, _⟩ := r; rfl
 case gs => rcases r with ⟨_, rfl⟩ | ⟨_, p, rc, _, rfl, _⟩ <;> rfl
 case ds => simp only [RelF] at r; obtain ⟨b, rc, rfl, _⟩ := r; rfl
 case dp => simp only [RelF] at r; obtain ⟨a, cs, vs, rfl, _⟩ := r; rfl
 case dn => obtain ⟨_, a, rc, rfl⟩ := r; rfl
 all_goals subst r; rfl
theorem Rel.cells {μ : Emb} {l : LV} {v : Value} (h : l.isCell = true ∨ ∃ cs, l = .agg cs) (r : Rel μ l v) : RelL μ l.cells v.cells.toList := by
 rcases h with h | ⟨cs, rfl⟩
 ·have ho := Rel.oneCell h r
  have e1 : l.cells = [l] := by cases l <;> simp [LV.isCell] at h <;> rfl
  have e2 : v.cells = #[v] := by cases v <;> simp [Value.oneCell'] at ho <;> rfl
  rw [e1, e2]
  exact ⟨v, [], rfl, r, rfl⟩
 ·obtain ⟨vs, rfl, hr⟩ := r
  exact hr
inductive CK where
 | int (k : IntKind)
 | bool
 | str
 deriving DecidableEq
def fitsC : CK → LV → Bool
 | .int k, .int k' _ => decide (k = k')
 | .bool, .bool _ => true
 | .str, .str _ => true
 | _, _ => false
def fitsL : List CK → List LV → Bool
 | [], [] => true
 | k :: ks, c :: cs => fitsC k c && fitsL ks cs
 | _, _ => false
def eqC : LV → LV → Bool
 | .int _ a, .int _ b => a == b
 | .bool a, .bool b => a == b
 | .str a, .str b => a == b
 | _, _ => false
def eqCs : List LV → List LV → Bool
 | [], [] => true
 | a :: l, b :: m => eqC a b && eqCs l m
 | _, _ => false
def repC : Nat → List CK → List CK
 | 0, _ => []
 | n + 1, z => z ++ repC n z
theorem repC_length (n : Nat) (z : List CK) : (repC n z).length = n * z.length := by
 induction n with
 | zero => simp [repC]
 | succ n ih => simp [repC, ih, Nat.add_mul]; omega
def keyOK (ag : Bool) (ks : List CK) : LV → Bool
 | .agg cs => ag && fitsL ks cs
 | v => !ag && fitsL ks [v]
def eqK : LV → LV → Bool
 | .agg a, .agg b => eqCs a b
 | a, b => eqC a b
end Go.Cn
