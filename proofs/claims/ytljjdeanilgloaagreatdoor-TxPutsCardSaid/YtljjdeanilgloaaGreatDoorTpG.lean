import Derived.Test.YtljjdeanilgloaaGreatDoorTpB
set_option linter.unusedVariables false
set_option linter.unusedSimpArgs false
set_option linter.unusedSectionVars false
namespace Go.Proofs.YtljjdeanilgloaaGreatDoor.Wk
open Go Go.Cn
structure OkG (g : Bf) : Prop where
 more : g.f_more.length ≤ 1
 nodes : ∃ n : Nat, g.f_nodes = (n : Int) ∧ In8 n
 gr : ∀ i, i < 8 → 0 ≤ (A8.get g.f_grants i).f_Node
theorem all_loop (g : Bf) (hg : OkG g) : ∀ (d fuel i : Nat) (l : List Bk), i + d = (bitsL g.f_nodes).length → d < fuel → l.length + d ≤ 100 → (∀ x ∈ l, 0 ≤ x.f_Node) → ∃ y, AK_l0 g fuel (i : Int) l = some y ∧ y.length ≤ 100 ∧ ∀ x ∈ y, 0 ≤ x.f_Node
 | 0, fuel + 1, i, l, h, _, hl, hx => ⟨l, by rw [AK_l0, if_neg (by simp; omega)], hl, hx⟩
 | d + 1, fuel + 1, i, l, h, hf, hl, hx => by
  obtain ⟨n, hn, h8⟩ := hg.nodes
  have hi : i < (bitsL g.f_nodes).length := by omega
  have hm : (bitsL g.f_nodes).getD ((i : Int)).toNat default ∈ bitsL g.f_nodes := by
   rw [Int.toNat_natCast, List.getD_eq_getElem?_getD, List.getElem?_eq_getElem hi]
   exact List.getElem_mem hi
  have hb : 0 ≤ (bitsL g.f_nodes).getD ((i : Int)).toNat default ∧ (bitsL g.f_nodes).getD ((i : Int)).toNat default < 8 := by
   have := hm; rw [hn] at this
   have := h8.mem this
   rw [hn]; exact this
  rw [AK_l0, if_pos (by simp; omega), if_pos (by omega), if_pos hb, if_pos (by simp; omega), step64 (by have := bitsL_len g.f_nodes; omega)]
  refine all_loop g hg d fuel (i + 1) _ (by omega) (by omega) (by simp; omega) fun x hx' => ?_
  rcases List.mem_append.1 hx' with h | h
  ·exact hx x h
  ·rw [List.mem_singleton.1 h]
   exact hg.gr _ (by omega)
theorem all_some {g : Bf} (hg : OkG g) : ∃ y, AK g = some y ∧ y.length ≤ 100 ∧ ∀ x ∈ y, 0 ≤ x.f_Node := by
 unfold AK AC
 simp only [Option.bind_some]
 split
 ·exact ⟨[], rfl, by simp, fun x hx => by cases hx⟩
 ·obtain ⟨n, hn, h8⟩ := hg.nodes
  have := h8.lt
  rw [if_pos (by omega)]
  exact all_loop g hg (bitsL g.f_nodes).length big 0 [] (by omega) (big_lt (by have := bitsL_len g.f_nodes; omega)) (by have := bitsL_len g.f_nodes; simp; omega) (fun x hx => by cases hx)
def gOf (y : (Int) × (Int) × (Bg) × (List (Bg)) × (A8 (Bk)) × (Int)) : Bf := Bf.mk y.2.1 y.2.2.1 y.2.2.2.1 y.2.2.2.2.1 y.2.2.2.2.2
theorem grant_some {g : Bf} (hg : OkG g) {x : Bk} (hx : 0 ≤ x.f_Node) : ∃ y, AA g x = some y ∧ OkG (gOf y) := by
 have same : ∀ e : Int, ∃ y, some (e, g.f_mode, g.f_conf, g.f_more, g.f_grants, g.f_nodes) = some y ∧ OkG (gOf y) := fun e => ⟨_, rfl, hg⟩
 unfold AA AC
 simp only [Option.bind_some]
 split
 ·exact same 2
 ·split
  ·exact same 1
  ·rename_i h8
   have h8 : x.f_Node < 8 := by simpa using h8
   obtain ⟨b, hb⟩ := regMay_some x.f_Reg
   obtain ⟨c, hc⟩ := itemMay_some x.f_Item
   rw [hb, hc]
   simp only [Option.bind_some]
   split
   ·exact same 1
   ·split
    ·exact same 1
    ·unfold AA_c5
     obtain ⟨n, hn, hi8⟩ := hg.nodes
     obtain ⟨k, hk⟩ : ∃ k : Nat, x.f_Node = (k : Int) := ⟨x.f_Node.toNat, by omega⟩
     obtain ⟨p, hp⟩ := has_some g.f_nodes x.f_Node ⟨hx, h8⟩
     obtain ⟨r, hr, hr8⟩ := with_eq (n := k) hi8 (by omega)
     rw [← hn, ← hk] at hr
     rw [hp, hr]
     simp only [Option.bind_some]
     have fin : ∀ c, OkG (Bf.mk g.f_mode c g.f_more (A8.set g.f_grants x (x.f_Node).toNat) (r : Int)) := fun c =>
      ⟨hg.more, ⟨r, rfl, hr8⟩, fun i hi => by
       show 0 ≤ (A8.get (A8.set g.f_grants x (x.f_Node).toNat) i).f_Node
       rw [get_set _ _ (by omega) hi]
       split
       ·exact hx
       ·exact hg.gr i hi⟩
     split
     ·rw [if_pos ⟨hx, h8⟩]
      split
      ·exact same 7
      ·exact same 14
     ·rw [if_pos ⟨hx, h8⟩]
      split
      ·exact ⟨_, rfl, fin _⟩
      ·exact ⟨_, rfl, fin _⟩
theorem enough_some {g : Bf} (hg : OkG g) : ∃ b, AN g = some b := by
 unfold AN AC AN_c5 AN_c6
 obtain ⟨a, ha⟩ := writes_some g.f_conf g.f_nodes
 obtain ⟨b, hb⟩ := reads_some g.f_conf g.f_nodes
 obtain ⟨c, hc⟩ := cont2_some g.f_more g (by have := hg.more; omega)
 rw [ha, hb, hc]
 simp only [Option.bind_some]
 repeat' split
 all_goals exact ⟨_, rfl⟩
theorem inew_loop (l : List Bn) (hl : l.length ≤ 1000) (n : Nat) (hn : (l.drop 1).length = n) : ∀ (d fuel i : Nat) (v : Int) (s : List UInt8) (c : Bg), i + d = n → d < fuel → ∃ y, Aq_l0 l fuel (i : Int) v s c = some y := by
 have hd : (l.drop 1).length ≤ 1000 := by simp; omega
 intro d
 induction d with
 | zero =>
  intro fuel i v s c h hf
  obtain ⟨f, rfl⟩ : ∃ f, fuel = f + 1 := ⟨fuel - 1, by omega⟩
  refine ⟨(Bn.mk v s c, true), ?_⟩
  rw [Aq_l0, hn, if_neg (by rw [decide_eq_true_eq]; omega)]
 | succ d ih =>
  intro fuel i v s c h hf
  obtain ⟨f, rfl⟩ : ∃ f, fuel = f + 1 := ⟨fuel - 1, by omega⟩
  rw [Aq_l0, hn, if_pos (decide_eq_true (by omega)), if_pos (by omega), step64 (by omega)]
  split
  ·exact ih f (i + 1) _ _ _ (by omega) (by omega)
  ·exact ih f (i + 1) _ _ _ (by omega) (by omega)
theorem inew0 (l : List Bn) (hl : l.length ≤ 1000) (fuel : Nat) (hf : 1000 < fuel) (v : Int) (s : List UInt8) (c : Bg) : ∃ y, Aq_l0 l fuel 0 v s c = some y := by
 have hd : (l.drop 1).length ≤ 1000 := by simp; omega
 exact inew_loop l hl _ rfl (l.drop 1).length fuel 0 v s c (by omega) (by omega)
theorem inew_some (l : List Bn) (hl : l.length ≤ 1000) : ∃ y, Aq l = some y := by
 unfold Aq
 by_cases h0 : l.length = 0
 ·rw [if_pos (by simpa using h0)]; exact ⟨_, rfl⟩
 ·rw [if_neg (by simpa using h0), if_pos (by omega), if_pos (by omega)]
  exact inew0 l hl big (big_lt (by omega)) _ _ _
theorem gnew_loop (g : Bf) (l : List Bk) (hl : l.length ≤ 100) : ∀ (d fuel i : Nat) (m : List Bn), i + d = l.length → d < fuel → m.length + d ≤ 1000 → ∃ y, AE_l0 g l fuel (i : Int) m = some y
 | 0, fuel + 1, i, m, h, _, hm => by
  rw [AE_l0, if_neg (by simp; omega)]
  obtain ⟨y, hy⟩ := inew_some m hm
  rw [hy]; exact ⟨_, rfl⟩
 | d + 1, fuel + 1, i, m, h, hf, hm => by
  rw [AE_l0, if_pos (decide_eq_true (by omega)), if_pos (by omega), if_pos (by simp; omega), step64 (by omega)]
  exact gnew_loop g l hl d fuel (i + 1) _ (by omega) (by omega) (by simp; omega)
theorem gnew0 (g : Bf) (l : List Bk) (hl : l.length ≤ 100) (fuel : Nat) (hf : l.length < fuel) : ∃ y, AE_l0 g l fuel 0 [] = some y :=
 gnew_loop g l hl l.length fuel 0 [] (by omega) hf (by simp; omega)
theorem gnew_some {g : Bf} (hg : OkG g) : ∃ y, AE g = some y := by
 unfold AE
 obtain ⟨l, hl, h1, _⟩ := all_some hg
 rw [hl]
 exact gnew0 g l h1 big (big_lt (by omega))
theorem voters_loop (c : Bg) : ∀ (d fuel i : Nat) (s : Int), i + d = 8 → d < fuel → ∃ y, Am_l0 c fuel s (i : Int) = some y
 | 0, fuel + 1, i, s, h, _ => by
  have : i = 8 := by omega
  subst this
  exact ⟨s, by simp [Am_l0]⟩
 | d + 1, fuel + 1, i, s, h, hf => by
  rw [Am_l0, if_pos (decide_eq_true (by omega)), if_pos (by omega), step64 (by omega)]
  split
  ·rw [if_pos (by omega)]; exact voters_loop c d fuel (i + 1) _ (by omega) (by omega)
  ·exact voters_loop c d fuel (i + 1) _ (by omega) (by omega)
theorem voters_some (c : Bg) : ∃ y, Am c = some y := voters_loop c 8 big 0 0 rfl (big_lt (by omega))
theorem wu8_bnd (x : Int) : 0 ≤ IntKind.wrap .u8 x := by
 unfold IntKind.wrap
 simp [IntKind.bits, IntKind.signed]
 omega
theorem wu64_bnd (x : Int) : 0 ≤ IntKind.wrap .u64 x ∧ IntKind.wrap .u64 x < 18446744073709551616 := by
 unfold IntKind.wrap
 simp [IntKind.bits, IntKind.signed]
 omega
theorem ask1_loop (g : Bf) (s : Int) (L : List Int) (hL : L.length ≤ 64) (he : bitsL (IntKind.wrap .u64 ((BitVec.ofInt (IntKind.bits .u64) s &&& ~~~ BitVec.ofInt (IntKind.bits .u64) g.f_nodes).toNat : Int)) = L) : ∀ (d fuel i : Nat) (l : List Int), i + d = L.length → d < fuel → l.length + d ≤ 1000 → (∀ x ∈ l, 0 ≤ x) → ∃ y, AQ_l1 g s fuel (i : Int) l = some y ∧ ∀ x ∈ y, 0 ≤ x
 | 0, fuel + 1, i, l, h, _, _, hx => ⟨l, by rw [AQ_l1, he, if_neg (by simp; omega)], hx⟩
 | d + 1, fuel + 1, i, l, h, hf, hl, hx => by
  rw [AQ_l1, he, if_pos (decide_eq_true (by omega)), if_pos (by omega), if_pos (by simp; omega), step64 (by omega)]
  refine ask1_loop g s L hL he d fuel (i + 1) _ (by omega) (by omega) (by simp; omega) fun x h' => ?_
  rcases List.mem_append.1 h' with h | h
  ·exact hx x h
  ·rw [List.mem_singleton.1 h]; exact wu8_bnd _
theorem ask1_0 (g : Bf) (s : Int) (fuel : Nat) (hf : 64 < fuel) : ∃ y, AQ_l1 g s fuel 0 [] = some y ∧ ∀ x ∈ y, 0 ≤ x := by
 generalize hB : bitsL (IntKind.wrap .u64 ((BitVec.ofInt (IntKind.bits .u64) s &&& ~~~ BitVec.ofInt (IntKind.bits .u64) g.f_nodes).toNat : Int)) = L
 have hL : L.length ≤ 64 := by rw [← hB]; exact bitsL_len _
 exact ask1_loop g s L hL hB L.length fuel 0 [] (by omega) (by omega) (by simp; omega) (fun x hx => by cases hx)
theorem ask0_loop (g : Bf) (hg : OkG g) : ∀ (d fuel i : Nat) (s : Int), i + d = g.f_more.length → d < fuel → ∃ y, AQ_l0 g fuel s (i : Int) = some y ∧ ∀ x ∈ y, 0 ≤ x
 | 0, fuel + 1, i, s, h, _ => by
  rw [AQ_l0, if_neg (by simp; omega), if_pos (wu64_bnd _)]
  exact ask1_0 g s big (big_lt (by omega))
 | d + 1, fuel + 1, i, s, h, hf => by
  have := hg.more
  rw [AQ_l0, if_pos (decide_eq_true (by omega)), if_pos (by omega)]
  obtain ⟨v, hv⟩ := voters_some (g.f_more.getD ((i : Int)).toNat default)
  rw [hv, Option.bind_some, step64 (by omega)]
  exact ask0_loop g hg d fuel (i + 1) _ (by omega) (by omega)
theorem gask_some {g : Bf} (hg : OkG g) : ∃ y, AQ g = some y ∧ ∀ x ∈ y, 0 ≤ x := by
 unfold AQ AC
 simp only [Option.bind_some]
 split
 ·exact ⟨[], rfl, fun x hx => by cases hx⟩
 ·obtain ⟨v, hv⟩ := voters_some g.f_conf
  rw [hv, Option.bind_some]
  have := hg.more
  exact ask0_loop g hg g.f_more.length big 0 v (by omega) (big_lt (by omega))
theorem z4_ok : ∀ i, i < 8 → 0 ≤ (A8.get z4_ i).f_Node := by
 intro i hi
 rcases lt8 hi with rfl | rfl | rfl | rfl | rfl | rfl | rfl | rfl <;> decide
theorem new_some {k : A8 Int} (hk : wfK k) (mode : Int) (c : Bg) {more : List Bg} (hm : more.length ≤ 1) :
  ∃ y, Ay k mode c more = some y ∧ (y.1 = false → OkG (Bf.mk y.2.2.1 y.2.2.2.1 y.2.2.2.2.1 y.2.2.2.2.2 0)) := by
 unfold Ay
 rw [if_pos (by simp), if_pos (by simp; omega)]
 have hmay : ∃ b, BV k mode ([c] ++ more) = some b := by
  unfold BV
  obtain ⟨t, a, he, ht⟩ := split0 8 (kb k) (kb_len k)
  rw [name1 k hk t a he ht]
  obtain ⟨b, hb⟩ := cont_some ([c] ++ more) (by simp; omega)
  rw [hb]
  repeat' split
  all_goals first | exact ⟨_, rfl⟩ | (simp only [Option.bind_some]; repeat' split) <;> exact ⟨_, rfl⟩
 obtain ⟨b, hb⟩ := hmay
 rw [hb]
 simp only [Option.bind_some]
 split
 ·exact ⟨_, rfl, fun h => by cases h⟩
 ·rw [if_pos (by simp; omega)]
  exact ⟨_, rfl, fun _ => ⟨hm, ⟨0, rfl, fun j hj => by simp at hj⟩, z4_ok⟩⟩
theorem late_some {g : Bf} (hg : OkG g) {x : Bk} (hx : 0 ≤ x.f_Node) : ∃ y, Aw g x = some y ∧ OkG (gOf y) := by
 obtain ⟨i, hi⟩ := gnew_some hg
 obtain ⟨y, hy, hy'⟩ := grant_some hg hx
 have hc : ∃ c, AP g = some c := by
  unfold AP AC
  simp only [Option.bind_some]
  split <;> exact ⟨_, rfl⟩
 obtain ⟨c, hc⟩ := hc
 have h5 : ∃ y, Aw_c5 g x = some y ∧ OkG (gOf y) := ⟨_, rfl, hg⟩
 have h6 : ∃ y, Aw_c6 g x = some y ∧ OkG (gOf y) := by
  unfold Aw_c6
  rw [hy]
  exact ⟨_, rfl, hy'⟩
 unfold Aw
 simp only [hi, hc, Option.bind_some]
 repeat' split
 all_goals first | exact h5 | exact h6
end Go.Proofs.YtljjdeanilgloaaGreatDoor.Wk
