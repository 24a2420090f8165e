/-
  The forest: raze. What a forest stands for.
-/
import Derived.Test.Qxb6500564aGreatBtO
import Derived.Test.Qxb6500564aGreatS8
namespace Go.Proofs.Qxb6500564aGreat
open Go.Den Go.Zip
set_option linter.unusedVariables false
set_option linter.unusedSimpArgs false
variable {dq : Nat}
variable {w w' : World} {f p i j n : Nat} {d : Nd} {D : List Bk} {R : List Wr} {cur cur' : Nat → Bk} {O : Nat → Prop}

def RazeP (dq : Nat) (f p : Nat) (D : List Bk) (R : List Wr) (O : Nat → Prop) : Nat → Nat → Int → Int → World → (Int → Int → World → Prop) → Prop := fun n f' pg' fuel' w K =>
  ∃ (cur : Nat → Bk) (h lo : Nat) (a b : Bo) (pg : Nat) (es : Es) (ps rest : List Nat) (fl : Nat), n = h ∧ f' = f ∧ pg' = (pg : Int) ∧ fuel' = (fl : Int) ∧ h < fl ∧ fl ≤ 8 ∧ FW dq w f p D R cur true O ∧ Sub cur h lo a b pg es ps ∧ Own cur (ps ++ rest) ∧ es.length ≤ 1000 ∧
    ∀ cur' w', FW dq w' f p D R cur' true O → FrP O w w' → Own cur' rest → (∀ q ∈ rest, cur' q = cur q) → K (es.length : Int) 0 w'
/-- The end of raze: the page itself goes back. -/
theorem razeEnd {pg m : Nat} {rest : List Nat} {K : Int → Int → World → Prop} (s : FW dq w f p D R cur true O) (o : Own cur (pg :: rest)) (hK : ∀ cur' w', FW dq w' f p D R cur' true O → FrP O w w' → Own cur' rest → (∀ q ∈ rest, cur' q = cur q) → K (m : Int) 0 w') :
    LdP w ⟨f, 0, none⟩ fun p_20 => S.pager_Pager_Free p_20 (pg : Int) w (fun r21 w => if (r21 != 0) = true then K 0 23 w else K (m : Int) 0 w) := by
  refine s.pt (bfree_spec s o fun x y w1 o1 s1 F1 => ?_)
  rw [if_neg (by simp)]
  have nd := List.nodup_cons.1 o.1
  refine hK _ w1 s1 F1 o1 fun q hq => ?_
  have := pgs o (q := q) (by simp [hq])
  rw [fset_ne (fun e => nd.1 (by rw [← e]; exact hq)), fset_ne (by omega)]
set_option maxHeartbeats 4000000 in
theorem raze_G : T.G252 (RazeP dq f p D R O) := by
  rintro n f' pg' fuel' w K ⟨cur, h, lo, a, b, pg, es, ps, rest, fl, rfl, rfl, rfl, rfl, hfl, hf8, s, t, o, hes, hK⟩
  unfold B.btree_Forest_raze
  obtain ⟨d, qs, t1, rfl, t3, t4, t5⟩ := t.node
  have hpg := pgs o (q := pg) (by simp)
  refine load_spec s hpg.2.2 t1 fun e w1 he s1 F1 => ?_
  refine lay_spec (e := e) s1 fun w2 c2 s2 F2 l2 => ?_
  obtain ⟨nd, en⟩ := t5 e he
  rw [if_neg (by simp; omega), if_neg (by simp)]
  refine c2.kd ?_
  have nq : ¬ O w1.heap.size := fun h => by have := s1.2.1.lt h; omega
  refine join_P (fun x u => ∃ cur', x = (es.length : Int) ∧ FW dq u f' p D R cur' true O ∧ FrP O w u ∧ Own cur' (pg :: rest) ∧ ∀ q ∈ rest, cur' q = cur q) ?_ ?_
  · rintro _ u ⟨cur', rfl, su, Fu, ou, ku⟩
    exact razeEnd su ou fun cur2 w' s' F' o' k' => hK cur2 w' s' (Fu.trans F') o' fun q hq => (k' q hq).trans (ku q hq)
  · intro J hJ
    cases n with
    | zero =>
      obtain ⟨h1, h2, h3, h4, h5, rfl⟩ := nd
      rw [if_pos (by rw [h1]; simp)]
      refine c2.cn (hJ _ _ ⟨cur, ?_, s2, F1.trans F2, o, fun q hq => rfl⟩)
      rw [← h2, es_len]
    | succ h =>
      obtain ⟨h1, h2, h3, h4, h5⟩ := nd
      rw [if_neg (by omega)] at t4
      rw [if_neg (by rw [h1]; simp)]
      refine loopN (fun m st u => ∃ (i : Nat) (e1 e2 : Es) (cur' : Nat → Bk) (p2 : List Nat), st = ((e1.length : Int), (i : Int), ()) ∧ i + m = e.n ∧ NB u w1.heap.size e ∧ FW dq u f' p D R cur' true O ∧ FrP O w u ∧ es = e1 ++ e2 ∧ Own cur' (p2 ++ (pg :: rest)) ∧ (∀ q ∈ rest, cur' q = cur q) ∧
          ((i = e.n ∧ e2 = [] ∧ p2 = []) ∨ (i < e.n ∧ ∃ a', Kds (fun a b k es ps => Sub cur' h 2 a b k es ps) a' b (tab (e.n - i) fun t => e.kid (i + t)) (tab (e.n - 1 - i) fun t => e.ky (i + t)) e2 p2))) e.n ?_ ?_
      · refine ⟨0, [], es, cur, qs, rfl, by omega, c2, s2, F1.trans F2, rfl, o.perm (List.perm_iff_count.2 fun z => by simp only [List.count_append, List.count_cons]; omega), fun q hq => rfl, .inr ⟨by omega, a, ?_⟩⟩
        have v1 : (fun t => e.kid (0 + t)) = e.kid := funext fun t => by rw [Nat.zero_add]
        have v2 : (fun t => e.ky (0 + t)) = e.ky := funext fun t => by rw [Nat.zero_add]
        rw [v1, v2, Nat.sub_zero, Nat.sub_zero]
        exact h3
      · rintro m _ u ⟨i, e1, e2, cur', p2, rfl, hm, cu, su, Fu, hes', ou, ku, hrest⟩ Q hQ
        dsimp only
        have hl : e1.length + e2.length ≤ 1000 := by rw [hes', List.length_append] at hes; exact hes
        refine cu.cn (ifd (fun h6 => ?_) fun h6 => ?_)
        · rcases hrest with ⟨h7, _⟩ | ⟨h7, a', g2⟩
          · omega
          refine ⟨by omega, by omega, cu.gc (by omega) ?_⟩
          rw [show e.n - i = (e.n - i - 1) + 1 by omega, tab_cons] at g2
          obtain ⟨b', x, y, px, py, k1, k2, rfl, rfl⟩ := g2.head
          rw [List.length_append] at hl
          refine ⟨h, by omega, cur', h, 2, a', b', e.kid i, x, px, py ++ (pg :: rest), fl - 1, rfl, rfl, rfl, by rw [W_id (by omega) (by omega)]; omega, by omega, by omega, su, k1, by rw [List.append_assoc] at ou; exact ou, by omega, fun cur2 w5 s5 F5 o5 k5 => ?_⟩
          dsimp only
          rw [if_neg (by simp)]
          refine let_ (let_ ?_)
          rw [W_add (by omega), W_succ (by omega)]
          refine hQ (m - 1) _ _ (by omega) ⟨i + 1, e1 ++ x, y, cur2, py, by rw [List.length_append], by omega, cu.frp F5 nq, s5, Fu.trans F5, by rw [hes', List.append_assoc], o5, fun q hq => (k5 q (by simp [hq])).trans (ku q hq), ?_⟩
          rcases k2 with ⟨z1, _, _, z4, z5⟩ | ⟨s', sr, z1, rfl, z3⟩
          · exact .inl ⟨by have := tab_nil z1; omega, z4, z5⟩
          · have hpos : 0 < e.n - 1 - i := by
              rcases Nat.eq_zero_or_pos (e.n - 1 - i) with h0 | h0
              · rw [h0] at z1; cases z1
              · exact h0
            obtain ⟨m', hm'⟩ : ∃ m', e.n - 1 - i = m' + 1 := ⟨e.n - 1 - i - 1, by omega⟩
            rw [hm', tab_cons] at z1
            cases z1
            refine .inr ⟨by omega, some (e.ky (i + 0)), ?_⟩
            rw [show e.n - (i + 1) = e.n - i - 1 by omega, show e.n - 1 - (i + 1) = m' by omega]
            have v1 : (fun t => e.kid (i + (t + 1))) = fun t => e.kid (i + 1 + t) := funext fun t => by congr 1; omega
            have v2 : (fun t => e.ky (i + (t + 1))) = fun t => e.ky (i + 1 + t) := funext fun t => by congr 1; omega
            rw [v1, v2] at z3
            exact z3.mono (p3 := py) (fun a b k es ps hp s => Sub.keep s fun q hq => k5 q (by simp [hp q hq])) fun q hq => hq
        · rcases hrest with ⟨h7, rfl, rfl⟩ | ⟨h7, _⟩
          · exact hJ _ _ ⟨cur', by rw [hes', List.append_nil], su, Fu, ou, ku⟩
          · omega
theorem braze_spec {h lo pg fl : Nat} {a b : Bo} {es : Es} {ps rest : List Nat} {K : Int → Int → World → Prop} (s : FW dq w f p D R cur true O) (t : Sub cur h lo a b pg es ps) (o : Own cur (ps ++ rest)) (hes : es.length ≤ 1000) (hfl : h < fl) (hf8 : fl ≤ 8)
    (hK : ∀ cur' w', FW dq w' f p D R cur' true O → FrP O w w' → Own cur' rest → (∀ q ∈ rest, cur' q = cur q) → K (es.length : Int) 0 w') : S.btree_Forest_raze f (pg : Int) (fl : Int) w K :=
  ⟨RazeP dq f p D R O, raze_G, h, cur, h, lo, a, b, pg, es, ps, rest, fl, rfl, rfl, rfl, rfl, hfl, hf8, s, t, o, hes, hK⟩
/-- The pages of n trees. -/
def allP (pg : Nat → List Nat) : Nat → List Nat
  | 0 => []
  | n + 1 => allP pg n ++ pg n
theorem allP_count (pg : Nat → List Nat) (z : Nat) : ∀ n, (allP pg n).count z = sumTo n fun i => (pg i).count z
  | 0 => rfl
  | n + 1 => by
    show (allP pg n ++ pg n).count z = sumTo n _ + _
    rw [List.count_append, allP_count pg z n]
theorem allP_len (pg : Nat → List Nat) : ∀ n, (allP pg n).length = sumTo n fun i => (pg i).length
  | 0 => rfl
  | n + 1 => by
    show (allP pg n ++ pg n).length = sumTo n _ + _
    rw [List.length_append, allP_len pg n]
theorem allP_mem {pg : Nat → List Nat} {z : Nat} (hi : i < n) (h : z ∈ pg i) : z ∈ allP pg n := by
  induction n with
  | zero => omega
  | succ n ih =>
    show z ∈ allP pg n ++ pg n
    rcases (by omega : i < n ∨ i = n) with h' | rfl
    · exact List.mem_append_left _ (ih h')
    · exact List.mem_append_right _ h
theorem fset_map {α β : Type} (g : α → β) (k : Nat → α) (i : Nat) (x : α) : (fun t => g (fset k i x t)) = fset (fun t => g (k t)) i (g x) := by
  funext t
  unfold fset
  split <;> rfl
/-- The pages of tree i, then the others'. -/
theorem allP_perm (pg : Nat → List Nat) {ps : List Nat} (hi : i < n) : (allP (fset pg i ps) n).Perm (ps ++ allP (fset pg i []) n) := by
  refine List.perm_iff_count.2 fun z => ?_
  have m1 : ∀ x : List Nat, (fun t => (fset pg i x t).count z) = fset (fun t => (pg t).count z) i (x.count z) := fun x => fset_map (fun l : List Nat => l.count z) pg i x
  rw [List.count_append, allP_count, allP_count, m1, m1]
  have h1 := sumTo_set (fun t => (pg t).count z) i (ps.count z) hi
  have h2 := sumTo_set (fun t => (pg t).count z) i (([] : List Nat).count z) hi
  simp only [List.count_nil] at h2 ⊢
  omega
/-- The number of entries of a tree. -/
def eLen (t : Option Es) : Nat := match t with | some es => es.length | none => 0
/-- What the pages cur stand for: the trees T; tree i lies in the pages pg i. -/
structure FCp (cur : Nat → Bk) (T : Nat → Option Es) (pg : Nat → List Nat) : Prop where
  own : Own cur (1 :: allP pg 8)
  non : ∀ i, i < 8 → T i = none → byteAt (cur 1) i = 0 ∧ pg i = []
  som : ∀ i es, i < 8 → T i = some es → byteAt (cur 1) i ≠ 0 ∧ ∃ h, Sub cur h (if h = 0 then 0 else 2) none none (byteAt (cur 1) i) es (pg i)
  cnt : byteAt (cur 1) 8 = sumTo 8 fun i => eLen (T i)
  max : (sumTo 8 fun i => eLen (T i)) ≤ 64
theorem root_fact {h pg : Nat} {es : Es} {ps : List Nat} (s : Sub cur h (if h = 0 then 0 else 2) none none pg es ps) (hl : es.length ≤ 64) : h < 8 ∧ ps.length ≤ 1 + es.length ∧ (1 ≤ h → 2 ≤ (if h = 0 then 0 else 2)) := by
  cases h with
  | zero =>
    obtain ⟨d, h1, h2, h3, h4, h5, h6, rfl⟩ := s
    exact ⟨by omega, by simp, fun h => by omega⟩
  | succ h =>
    rw [if_neg (by omega)] at s
    have l := (s.law (.inl (by omega))).2 (by omega)
    refine ⟨?_, by omega, fun _ => by simp⟩
    have hh : 2 ^ (h + 1 + 1) ≤ 64 := by omega
    have : h + 1 + 1 < 7 := (Nat.pow_lt_pow_iff_right (a := 2) (by omega)).1 (by omega)
    omega
theorem bnd0 (k : ByteArray) : Bnd none none k := ⟨fun x h => (by cases h), fun x h => (by cases h)⟩
theorem allP_sub {pg : Nat → List Nat} {j z : Nat} (hj : j < 8) (hne : j ≠ i) (h : z ∈ pg j) : z ∈ allP (fset pg i []) 8 := allP_mem hj (by rw [fset_ne hne]; exact h)
theorem fset_same {α : Type} (g : Nat → α) (i : Nat) : fset g i (g i) = g := by
  funext t
  unfold fset
  split
  · rename_i h; rw [h]
  · rfl
/-- Tree i and the rest. -/
theorem FCp.tree {T : Nat → Option Es} {pg : Nat → List Nat} (c : FCp cur T pg) (hi : i < 8) : Own cur (pg i ++ (1 :: allP (fset pg i []) 8)) := by
  have p := allP_perm (i := i) (n := 8) pg (ps := pg i) hi
  rw [fset_same] at p
  refine c.own.perm ((List.Perm.cons 1 p).trans ?_)
  exact List.perm_iff_count.2 fun z => by simp only [List.count_append, List.count_cons]; omega
theorem FCp.one {T : Nat → Option Es} {pg : Nat → List Nat} (c : FCp cur T pg) : us cur 1 = true := (c.own.2 1).2 (by simp)
/-- Tree i has turned, and the directory after it. -/
theorem FCp.upd {T : Nat → Option Es} {pg : Nat → List Nat} {t' : Option Es} {ps' : List Nat} {dir : Bk} (c : FCp cur T pg) (hi : i < 8) (o : Own cur' (ps' ++ (1 :: allP (fset pg i []) 8))) (kp : ∀ q ∈ 1 :: allP (fset pg i []) 8, cur' q = cur q)
    (hd : ∀ j, j < 8 → j ≠ i → byteAt dir j = byteAt (cur 1) j) (h8 : byteAt dir 8 = sumTo 8 fun j => eLen (fset T i t' j)) (hm : (sumTo 8 fun j => eLen (fset T i t' j)) ≤ 64)
    (hn : t' = none → byteAt dir i = 0 ∧ ps' = []) (hs : ∀ es', t' = some es' → byteAt dir i ≠ 0 ∧ ∃ h, Sub cur' h (if h = 0 then 0 else 2) none none (byteAt dir i) es' ps') :
    FCp (fset cur' 1 dir) (fset T i t') (fset pg i ps') := by
  have hnd := o.1
  have n1 : 1 ∉ ps' := fun h => by
    have := List.nodup_append.1 hnd
    exact this.2.2 1 h 1 (by simp) rfl
  have n2 : 1 ∉ allP (fset pg i []) 8 := fun h => by
    have := (List.nodup_append.1 hnd).2.1
    exact (List.nodup_cons.1 this).1 h
  refine ⟨?_, fun j hj hT => ?_, fun j es hj hT => ?_, by rw [fset_eq]; exact h8, hm⟩
  · refine (o.set (by omega)).perm (List.Perm.trans ?_ (List.Perm.cons 1 (allP_perm (i := i) (n := 8) pg (ps := ps') hi).symm))
    exact List.perm_iff_count.2 fun z => by simp only [List.count_append, List.count_cons]; omega
  · rw [fset_eq]
    by_cases e : j = i
    · subst e
      rw [fset_eq] at hT ⊢
      exact hn hT
    · rw [fset_ne e] at hT ⊢
      rw [hd j hj e]
      exact c.non j hj hT
  · rw [fset_eq]
    by_cases e : j = i
    · subst e
      rw [fset_eq] at hT ⊢
      obtain ⟨h1, h, h2⟩ := hs es hT
      exact ⟨h1, h, h2.keep fun q hq => fset_ne fun e => n1 (by rw [← e]; exact hq)⟩
    · rw [fset_ne e] at hT ⊢
      rw [hd j hj e]
      obtain ⟨h1, h, h2⟩ := c.som j es hj hT
      refine ⟨h1, h, h2.keep fun q hq => ?_⟩
      have hq' := allP_sub (i := i) hj e hq
      rw [fset_ne fun e => n2 (by rw [← e]; exact hq')]
      exact kp q (by simp [hq'])
theorem rootP_nat (hi : i < 8) : rootP cur (i : Int) = byteAt (cur 1) i := by
  unfold rootP
  rw [if_pos (by omega), Int.toNat_natCast]
theorem sumT (T : Nat → Option Es) (t' : Option Es) (hi : i < 8) : (sumTo 8 fun j => eLen (fset T i t' j)) + eLen (T i) = (sumTo 8 fun j => eLen (T j)) + eLen t' := by
  have : (fun j => eLen (fset T i t' j)) = fset (fun j => eLen (T j)) i (eLen t') := fset_map eLen T i t'
  rw [this]
  exact sumTo_set (fun j => eLen (T j)) i (eLen t') hi
end Go.Proofs.Qxb6500564aGreat
