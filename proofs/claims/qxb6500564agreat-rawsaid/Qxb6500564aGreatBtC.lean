/-
  The pure functions on nodes: leafCut, innerPut, innerCut, split.
-/
import Derived.Test.Qxb6500564aGreatBtB
namespace Go.Proofs.Qxb6500564aGreat
open Go.Den Go.Zip
set_option linter.unusedVariables false
set_option linter.unusedSimpArgs false
variable {w w' : World} {p p' i j : Nat} {d : Nd}

set_option maxHeartbeats 1000000 in
theorem leafCut_spec {K : Int → Int → ByteArray → ByteArray → ByteArray → ByteArray → ByteArray → ByteArray → ByteArray → ByteArray → Int → Int → Int → Int → Int → World → Prop} (hn : d.n ≤ 4) (hi : i < d.n) (hK : ∀ (e : Nd) w', e.kd = d.kd → e.n + 1 = d.n → e.ky = shl d.ky i (d.n - 1) → e.vl = shl d.vl i (d.n - 1) → Fr 0 0 w w' → K (e.kd : Int) (e.n : Int) (e.ky 0) (e.ky 1) (e.ky 2) (e.ky 3) (e.vl 0) (e.vl 1) (e.vl 2) (e.vl 3) (e.kid 0 : Int) (e.kid 1 : Int) (e.kid 2 : Int) (e.kid 3 : Int) (e.kid 4 : Int) w') : S.btree_leafCut (d.kd : Int) (d.n : Int) (d.ky 0) (d.ky 1) (d.ky 2) (d.ky 3) (d.vl 0) (d.vl 1) (d.vl 2) (d.vl 3) (d.kid 0 : Int) (d.kid 1 : Int) (d.kid 2 : Int) (d.kid 3 : Int) (d.kid 4 : Int) (i : Int) w K := by
  unfold S.btree_leafCut
  refine newN fun w1 c1 f1 s1 => newZ fun w2 z2 f2 s2 => ?_
  have c2 : NB w2 w.heap.size d := c1.fr f2 (by omega)
  refine join_W (fun u => NB u w.heap.size { d with ky := shl d.ky i (d.n - 1), vl := shl d.vl i (d.n - 1) } ∧ NB u w1.heap.size nd0 ∧ Fr 0 0 w u) ?_ ?_
  · rintro u ⟨cu, zu, fu⟩
    refine cu.cn ?_
    refine cu.sn (m := d.n - 1) (by show W ((d.n : Int) - 1) = _; rw [W_id (by omega) (by omega)]; omega) fun u3 cu3 g3 => ?_
    exact out15 cu3 (zu.fr g3 (by omega)) fun u4 g4 => hK _ u4 rfl (by show d.n - 1 + 1 = _; omega) rfl rfl ((fu.thenNew g3 (Nat.le_refl _)).thenNew g4 (by omega))
  · intro J hJ
    refine loopN (fun m st u => ∃ j : Nat, st = ((j : Int), ()) ∧ i ≤ j ∧ j + m = d.n - 1 ∧ NB u w.heap.size { d with ky := shl d.ky i j, vl := shl d.vl i j } ∧ NB u w1.heap.size nd0 ∧ Fr 0 0 w u) (d.n - 1 - i)
      ⟨i, rfl, by omega, by omega, by rw [shl_top, shl_top]; exact c2, z2, f1.then0 f2⟩ ?_
    rintro m _ u ⟨j, rfl, hj, hjn, cu, zu, fu⟩ Q hQ
    dsimp only
    refine cu.cn ?_
    dsimp only
    rw [W_succ (by omega)]
    refine ifd (fun h => ?_) fun h => hJ _ ⟨by rw [show d.n - 1 = j by omega]; exact cu, zu, fu⟩
    refine ⟨by omega, by omega, cu.gk (by omega) ⟨by omega, by omega, cu.sk (by omega) fun u1 cu1 g1 => ⟨by omega, by omega, cu1.gv (by omega) ⟨by omega, by omega, cu1.sv (by omega) fun u2 cu2 g2 => let_ ?_⟩⟩⟩⟩
    have G := g1.trans g2
    refine hQ (m - 1) _ _ (by omega) ⟨j + 1, rfl, by omega, by omega, ?_, zu.fr G (by omega), fu.thenNew G (Nat.le_refl _)⟩
    have e1 := shl_step (f := d.ky) hj
    have e2 := shl_step (f := d.vl) hj
    rw [← e1, ← e2]
    exact cu2
set_option maxHeartbeats 1000000 in
theorem innerPut_spec {c right : Nat} {sep : ByteArray} {K : Int → Int → ByteArray → ByteArray → ByteArray → ByteArray → ByteArray → ByteArray → ByteArray → ByteArray → Int → Int → Int → Int → Int → World → Prop} (hn : d.n ≤ 4) (hc : c < d.n) (hK : ∀ (e : Nd) w', e.kd = d.kd → e.n = d.n + 1 → e.kid = fset (shf d.kid (c + 1) d.n) (c + 1) right → e.ky = fset (shf d.ky c (d.n - 1)) c sep → Fr 0 0 w w' → K (e.kd : Int) (e.n : Int) (e.ky 0) (e.ky 1) (e.ky 2) (e.ky 3) (e.vl 0) (e.vl 1) (e.vl 2) (e.vl 3) (e.kid 0 : Int) (e.kid 1 : Int) (e.kid 2 : Int) (e.kid 3 : Int) (e.kid 4 : Int) w') : S.btree_innerPut (d.kd : Int) (d.n : Int) (d.ky 0) (d.ky 1) (d.ky 2) (d.ky 3) (d.vl 0) (d.vl 1) (d.vl 2) (d.vl 3) (d.kid 0 : Int) (d.kid 1 : Int) (d.kid 2 : Int) (d.kid 3 : Int) (d.kid 4 : Int) (c : Int) sep (right : Int) w K := by
  unfold S.btree_innerPut
  refine newN fun w1 c1 f1 s1 => newZ fun w2 z2 f2 s2 => ?_
  have c2 : NB w2 w.heap.size d := c1.fr f2 (by omega)
  refine c2.cn ?_
  rw [W_succ (by omega)]
  refine join_W (fun u => NB u w.heap.size { d with kid := shf d.kid (c + 1) d.n, ky := shf d.ky c (d.n - 1) } ∧ NB u w1.heap.size nd0 ∧ Fr 0 0 w u) ?_ ?_
  · rintro u ⟨cu, zu, fu⟩
    refine ⟨by omega, by omega, cu.sc (i := c + 1) (by omega) rfl fun u1 cu1 g1 => ⟨by omega, by omega, cu1.sk (by omega) fun u2 cu2 g2 => cu2.cn ?_⟩⟩
    refine cu2.sn (m := d.n + 1) (W_succ (by show d.n < _; omega)) fun u3 cu3 g3 => ?_
    have G := (g1.trans g2).trans g3
    exact out15 cu3 (zu.fr G (by omega)) fun u4 g4 => hK _ u4 rfl rfl rfl rfl ((fu.thenNew G (Nat.le_refl _)).thenNew g4 (by omega))
  · intro J hJ
    refine loopN (fun m st u => ∃ j : Nat, st = ((j : Int), ()) ∧ j = c + 1 + m ∧ j ≤ d.n ∧ NB u w.heap.size { d with kid := shf d.kid j d.n, ky := shf d.ky (j - 1) (d.n - 1) } ∧ NB u w1.heap.size nd0 ∧ Fr 0 0 w u) (d.n - (c + 1))
      ⟨d.n, rfl, by omega, by omega, by rw [shf_top, shf_top]; exact c2, z2, f1.then0 f2⟩ ?_
    rintro m _ u ⟨j, rfl, hj, hjn, cu, zu, fu⟩ Q hQ
    dsimp only
    refine ifd (fun h => ?_) fun h => hJ _ ⟨by rw [show c + 1 = j by omega, show c = j - 1 by omega]; exact cu, zu, fu⟩
    rw [show W ((j : Int) - 1) = ((j - 1 : Nat) : Int) by rw [W_id (by omega) (by omega)]; omega, show W ((j : Int) - 2) = ((j - 2 : Nat) : Int) by rw [W_id (by omega) (by omega)]; omega]
    refine ⟨by omega, by omega, cu.gc (by omega) ⟨by omega, by omega, cu.sc (by omega) rfl fun u1 cu1 g1 => ⟨by omega, by omega, cu1.gk (by omega) ⟨by omega, by omega, cu1.sk (by omega) fun u2 cu2 g2 => let_ ?_⟩⟩⟩⟩
    have G := g1.trans g2
    refine hQ (m - 1) _ _ (by omega) ⟨j - 1, rfl, by omega, by omega, ?_, zu.fr G (by omega), fu.thenNew G (Nat.le_refl _)⟩
    have e1 := shf_step (f := d.kid) (j := j) (by omega) hjn
    have e2 := shf_step (f := d.ky) (j := j - 1) (n := d.n - 1) (by omega) (by omega)
    rw [← e1, ← e2]
    exact cu2
set_option maxHeartbeats 1000000 in
theorem innerCut_spec {K : Int → Int → ByteArray → ByteArray → ByteArray → ByteArray → ByteArray → ByteArray → ByteArray → ByteArray → Int → Int → Int → Int → Int → World → Prop} (hn : d.n ≤ 5) (hi : i + 1 < d.n) (hK : ∀ (e : Nd) w', e.kd = d.kd → e.n + 1 = d.n → e.kid = shl d.kid (i + 1) (d.n - 1) → e.ky = shl d.ky i (d.n - 2) → Fr 0 0 w w' → K (e.kd : Int) (e.n : Int) (e.ky 0) (e.ky 1) (e.ky 2) (e.ky 3) (e.vl 0) (e.vl 1) (e.vl 2) (e.vl 3) (e.kid 0 : Int) (e.kid 1 : Int) (e.kid 2 : Int) (e.kid 3 : Int) (e.kid 4 : Int) w') : S.btree_innerCut (d.kd : Int) (d.n : Int) (d.ky 0) (d.ky 1) (d.ky 2) (d.ky 3) (d.vl 0) (d.vl 1) (d.vl 2) (d.vl 3) (d.kid 0 : Int) (d.kid 1 : Int) (d.kid 2 : Int) (d.kid 3 : Int) (d.kid 4 : Int) (i : Int) w K := by
  unfold S.btree_innerCut
  refine newN fun w1 c1 f1 s1 => newZ fun w2 z2 f2 s2 => ?_
  have c2 : NB w2 w.heap.size d := c1.fr f2 (by omega)
  refine join_W (fun u => NB u w.heap.size { d with kid := shl d.kid (i + 1) (d.n - 1), ky := shl d.ky i (d.n - 2) } ∧ NB u w1.heap.size nd0 ∧ Fr 0 0 w u) ?_ ?_
  · rintro u ⟨cu, zu, fu⟩
    refine cu.cn ?_
    refine cu.sn (m := d.n - 1) (by show W ((d.n : Int) - 1) = _; rw [W_id (by omega) (by omega)]; omega) fun u3 cu3 g3 => ?_
    exact out15 cu3 (zu.fr g3 (by omega)) fun u4 g4 => hK _ u4 rfl (by show d.n - 1 + 1 = _; omega) rfl rfl ((fu.thenNew g3 (Nat.le_refl _)).thenNew g4 (by omega))
  · intro J hJ
    refine loopN (fun m st u => ∃ j : Nat, st = ((j : Int), ()) ∧ i ≤ j ∧ j + m = d.n - 2 ∧ NB u w.heap.size { d with kid := shl d.kid (i + 1) (j + 1), ky := shl d.ky i j } ∧ NB u w1.heap.size nd0 ∧ Fr 0 0 w u) (d.n - 2 - i)
      ⟨i, rfl, by omega, by omega, by rw [shl_top, shl_top]; exact c2, z2, f1.then0 f2⟩ ?_
    rintro m _ u ⟨j, rfl, hj, hjn, cu, zu, fu⟩ Q hQ
    dsimp only
    refine cu.cn ?_
    dsimp only
    rw [W_succ (by omega), show W ((j : Int) + 2) = ((j + 2 : Nat) : Int) by rw [W_id (by omega) (by omega)]; omega]
    refine ifd (fun h => ?_) fun h => hJ _ ⟨by rw [show d.n - 1 = j + 1 by omega, show d.n - 2 = j by omega]; exact cu, zu, fu⟩
    refine ⟨by omega, by omega, cu.gk (by omega) ⟨by omega, by omega, cu.sk (by omega) fun u1 cu1 g1 => ⟨by omega, by omega, cu1.gc (by omega) ⟨by omega, by omega, cu1.sc (by omega) rfl fun u2 cu2 g2 => let_ ?_⟩⟩⟩⟩
    have G := g1.trans g2
    refine hQ (m - 1) _ _ (by omega) ⟨j + 1, rfl, by omega, by omega, ?_, zu.fr G (by omega), fu.thenNew G (Nat.le_refl _)⟩
    have e1 := shl_step (f := d.ky) hj
    have e2 := shl_step (f := d.kid) (i := i + 1) (j := j + 1) (by omega)
    rw [← e1, ← e2]
    exact cu2
/-- Two nodes are copied out of p and q into x and y, and read there; s is read on the way (out of the block z). -/
theorem holdN {q o n : Nat} (h1 : NB w q d) (h2 : NB w' q d) : ∀ i, i < n → w'.cell? ((⟨q, o, none⟩ : Addr).add i) = w.cell? ((⟨q, o, none⟩ : Addr).add i) := holdS h1 h2
theorem hold_ {ad : Addr} {n : Nat} {K : (World → Prop) → Prop} (h : K fun w' => ∀ i, i < n → w'.cell? (ad.add i) = w.cell? (ad.add i)) : Hold w ad n K := h
theorem c2z : (2 : Nat) + Int.toNat 0 * 1 = 2 := rfl
theorem fset2 {α : Type} {f g : Nat → α} {m : Nat} (h : ∀ t, t < m → g t = f t) : ∀ t, t < m + 1 → fset g m (f m) t = f t := fun t ht => by
  by_cases e : t = m
  · rw [e, fset_eq]
  · rw [fset_ne e]; exact h t (by omega)
set_option maxHeartbeats 2000000 in
theorem split_spec {K : Int → Int → ByteArray → ByteArray → ByteArray → ByteArray → ByteArray → ByteArray → ByteArray → ByteArray → Int → Int → Int → Int → Int → Int → Int → ByteArray → ByteArray → ByteArray → ByteArray → ByteArray → ByteArray → ByteArray → ByteArray → Int → Int → Int → Int → Int → ByteArray → World → Prop} (hd : 2 ≤ d.n) (hn : d.n ≤ 5) (hK : ∀ (l r : Nd) w', l.kd = d.kd → l.n = 2 → (∀ t, t < 2 → l.ky t = d.ky t) → (∀ t, t < 2 → l.vl t = d.vl t) → (∀ t, t < 2 → l.kid t = d.kid t) →
      r.kd = d.kd → r.n + 2 = d.n → (∀ t, t < 2 → r.ky t = d.ky (t + 2)) → (∀ t, t < 2 → r.vl t = d.vl (t + 2)) → (∀ t, t + 2 < d.n → r.kid t = d.kid (t + 2)) → Fr 0 0 w w' → K (l.kd : Int) (l.n : Int) (l.ky 0) (l.ky 1) (l.ky 2) (l.ky 3) (l.vl 0) (l.vl 1) (l.vl 2) (l.vl 3) (l.kid 0 : Int) (l.kid 1 : Int) (l.kid 2 : Int) (l.kid 3 : Int) (l.kid 4 : Int) (r.kd : Int) (r.n : Int) (r.ky 0) (r.ky 1) (r.ky 2) (r.ky 3) (r.vl 0) (r.vl 1) (r.vl 2) (r.vl 3) (r.kid 0 : Int) (r.kid 1 : Int) (r.kid 2 : Int) (r.kid 3 : Int) (r.kid 4 : Int) (if d.kd = 1 then d.ky 2 else d.ky 1) w') : S.btree_split (d.kd : Int) (d.n : Int) (d.ky 0) (d.ky 1) (d.ky 2) (d.ky 3) (d.vl 0) (d.vl 1) (d.vl 2) (d.vl 3) (d.kid 0 : Int) (d.kid 1 : Int) (d.kid 2 : Int) (d.kid 3 : Int) (d.kid 4 : Int) w K := by
  unfold S.btree_split
  refine newN fun w1 c1 f1 s1 => newZ fun w2 z2 f2 s2 => newZ fun w3 z3 f3 s3 => ?_
  have c3 : NB w3 w.heap.size d := (c1.fr f2 (by omega)).fr f3 (by omega)
  refine c3.kd (newZ fun w4 z4 f4 s4 => ?_)
  have c4 := c3.fr f4 (by omega)
  refine st15 z4 rfl fun w5 z5 f5 => ?_
  have z5 : NB w5 w3.heap.size { nd0 with kd := d.kd, n := 2 } := z5
  have c5 := c4.fr f5 (by omega)
  have s5 := f5.1.1
  refine c5.kd (c5.cn (newZ fun w6 z6 f6 s6 => ?_))
  rw [show W ((d.n : Int) - 2) = ((d.n - 2 : Nat) : Int) by rw [W_id (by omega) (by omega)]; omega]
  refine st15 z6 rfl fun w7 z7 f7 => ?_
  have z7 : NB w7 w5.heap.size { nd0 with kd := d.kd, n := d.n - 2 } := z7
  have c7 := (c5.fr f6 (by omega)).fr f7 (by omega)
  have l7 := (z5.fr f6 (by omega)).fr f7 (by omega)
  have a7 := ((((z2.fr f3 (by omega)).fr f4 (by omega)).fr f5 (by omega)).fr f6 (by omega)).fr f7 (by omega)
  have b7 := (((z3.fr f4 (by omega)).fr f5 (by omega)).fr f6 (by omega)).fr f7 (by omega)
  have F7 : Fr 0 0 w w7 := (((((f1.then0 f2).then0 f3).then0 f4).thenNew f5 (by omega)).then0 f6).thenNew f7 (by omega)
  let LN (m : Nat) (e : Nd) : Prop := e.kd = d.kd ∧ e.n = 2 ∧ (∀ t, t < m → e.ky t = d.ky t) ∧ (∀ t, t < m → e.vl t = d.vl t) ∧ (∀ t, t < m → e.kid t = d.kid t)
  refine join_W (fun u => ∃ e : Nd, LN 2 e ∧ NB u w3.heap.size e ∧ NB u w5.heap.size { nd0 with kd := d.kd, n := d.n - 2 } ∧ NB u w.heap.size d ∧ NB u w1.heap.size nd0 ∧ NB u w2.heap.size nd0 ∧ Fr 0 0 w u) ?_ ?_
  · rintro u ⟨e, he, le, re, ce, ae, be, fe⟩
    refine join_W (fun u => ∃ r : Nd, (r.kd = d.kd ∧ r.n = d.n - 2 ∧ ∀ t, t + 2 < d.n → r.kid t = d.kid (t + 2)) ∧ NB u w3.heap.size e ∧ NB u w5.heap.size r ∧ NB u w.heap.size d ∧ NB u w1.heap.size nd0 ∧ NB u w2.heap.size nd0 ∧ Fr 0 0 w u) ?_ ?_
    · rintro u ⟨r, hr, le, re, ce, ae, be, fe⟩
      refine join_W (fun u => ∃ r : Nd, (r.kd = d.kd ∧ r.n = d.n - 2 ∧ (∀ t, t + 2 < d.n → r.kid t = d.kid (t + 2)) ∧ (∀ t, t < 2 → r.ky t = d.ky (t + 2)) ∧ ∀ t, t < 2 → r.vl t = d.vl (t + 2)) ∧ NB u w3.heap.size e ∧ NB u w5.heap.size r ∧ NB u w.heap.size d ∧ NB u w1.heap.size nd0 ∧ NB u w2.heap.size nd0 ∧ Fr 0 0 w u) ?_ ?_
      · rintro u ⟨r, hr, le, re, ce, ae, be, fe⟩
        refine ce.kd ?_
        refine ifk (fun hk => ?_) fun hk => ?_
        · refine drew_ (rd15 le.drew ?_)
          refine hold_ (rd15 re.drew ⟨by omega, by omega, hold_ (re.drew.gk (i := 0) (by omega) ?_)⟩)
          refine st15 ae.drew rfl fun u1 a1 g1 => ⟨holdN re.drew (re.drew.fr g1 (by omega)), holdN re.drew (re.drew.fr g1 (by omega)), ?_⟩
          have re1 := re.drew.fr g1 (by omega)
          refine st15 (be.drew.fr g1 (by omega)) rfl fun u2 b2 g2 => ⟨holdN re.drew (re1.fr g2 (by omega)), ?_⟩
          have a2 : NB u2 w1.heap.size e := Blk.fr a1 g2 (by omega)
          refine rd15 a2 (rd15 (d := r) b2 ?_)
          have := hK e r u2 he.1 he.2.1 he.2.2.1 he.2.2.2.1 he.2.2.2.2 hr.1 (by rw [hr.2.1]; omega) hr.2.2.2.1 hr.2.2.2.2 hr.2.2.1 ((fe.drew.thenNew g1 (by omega)).thenNew g2 (by omega))
          rw [if_pos (by omega), ← hr.2.2.2.1 0 (by omega)] at this
          exact this
        · refine drew_ (rd15 le.drew ?_)
          refine hold_ (rd15 re.drew ⟨by omega, by omega, hold_ (ce.drew.gk (i := 1) (by omega) ?_)⟩)
          refine st15 ae.drew rfl fun u1 a1 g1 => ⟨holdN ce.drew (ce.drew.fr g1 (by omega)), holdN re.drew (re.drew.fr g1 (by omega)), ?_⟩
          have ce1 := ce.drew.fr g1 (by omega)
          refine st15 (be.drew.fr g1 (by omega)) rfl fun u2 b2 g2 => ⟨holdN ce.drew (ce1.fr g2 (by omega)), ?_⟩
          have a2 : NB u2 w1.heap.size e := Blk.fr a1 g2 (by omega)
          refine rd15 a2 (rd15 (d := r) b2 ?_)
          have := hK e r u2 he.1 he.2.1 he.2.2.1 he.2.2.2.1 he.2.2.2.2 hr.1 (by rw [hr.2.1]; omega) hr.2.2.2.1 hr.2.2.2.2 hr.2.2.1 ((fe.drew.thenNew g1 (by omega)).thenNew g2 (by omega))
          rw [if_neg (by omega)] at this
          exact this
      · intro J hJ
        refine loopN (fun m st u => ∃ i : Nat, ∃ r : Nd, st = (((i + 2 : Nat) : Int), ()) ∧ i + m = 2 ∧ (r.kd = d.kd ∧ r.n = d.n - 2 ∧ (∀ t, t + 2 < d.n → r.kid t = d.kid (t + 2)) ∧ (∀ t, t < i → r.ky t = d.ky (t + 2)) ∧ ∀ t, t < i → r.vl t = d.vl (t + 2)) ∧ NB u w3.heap.size e ∧ NB u w5.heap.size r ∧ NB u w.heap.size d ∧ NB u w1.heap.size nd0 ∧ NB u w2.heap.size nd0 ∧ Fr 0 0 w u) 2
          ⟨0, r, rfl, by omega, ⟨hr.1, hr.2.1, hr.2.2, fun t ht => by omega, fun t ht => by omega⟩, le, re, ce, ae, be, fe⟩ ?_
        rintro m _ u ⟨i, r, rfl, hm, hr, le, re, ce, ae, be, fe⟩ Q hQ
        dsimp only
        refine ifd (fun h => ?_) fun h => hJ _ ⟨r, by rw [show i = 2 by omega] at hr; exact hr, le, re, ce, ae, be, fe⟩
        rw [show W (((i + 2 : Nat) : Int) - 2) = ((i : Nat) : Int) by rw [W_id (by omega) (by omega)]; omega, W_succ (by omega)]
        refine ⟨by omega, by omega, ce.gk (by omega) ⟨by omega, by omega, re.sk (by omega) fun u1 r1 g1 => ?_⟩⟩
        have ce1 := ce.fr g1 (by omega)
        refine ⟨by omega, by omega, ce1.gv (by omega) ⟨by omega, by omega, r1.sv (by omega) fun u2 r2 g2 => let_ ?_⟩⟩
        have G := g1.trans g2
        refine hQ (m - 1) _ _ (by omega) ⟨i + 1, _, rfl, by omega, ?_, le.fr G (by omega), r2, ce.fr G (by omega), ae.fr G (by omega), be.fr G (by omega), fe.thenNew G (by omega)⟩
        exact ⟨hr.1, hr.2.1, hr.2.2.1, fset2 (f := fun t => d.ky (t + 2)) hr.2.2.2.1, fset2 (f := fun t => d.vl (t + 2)) hr.2.2.2.2⟩
    · intro J hJ
      refine loopN (fun m st u => ∃ i : Nat, ∃ r : Nd, st = (((i + 2 : Nat) : Int), ()) ∧ i + m = d.n - 2 ∧ (r.kd = d.kd ∧ r.n = d.n - 2 ∧ ∀ t, t < i → r.kid t = d.kid (t + 2)) ∧ NB u w3.heap.size e ∧ NB u w5.heap.size r ∧ NB u w.heap.size d ∧ NB u w1.heap.size nd0 ∧ NB u w2.heap.size nd0 ∧ Fr 0 0 w u) (d.n - 2)
        ⟨0, { nd0 with kd := d.kd, n := d.n - 2 }, rfl, by omega, ⟨rfl, rfl, fun t ht => by omega⟩, le, re, ce, ae, be, fe⟩ ?_
      rintro m _ u ⟨i, r, rfl, hm, hr, le, re, ce, ae, be, fe⟩ Q hQ
      dsimp only
      refine ce.cn (ifd (fun h => ?_) fun h => hJ _ ⟨r, ⟨hr.1, hr.2.1, fun t ht => hr.2.2 t (by omega)⟩, le, re, ce, ae, be, fe⟩)
      rw [show W (((i + 2 : Nat) : Int) - 2) = ((i : Nat) : Int) by rw [W_id (by omega) (by omega)]; omega, W_succ (by omega)]
      refine ⟨by omega, by omega, ce.gc (by omega) ⟨by omega, by omega, re.sc (by omega) rfl fun u1 r1 g1 => let_ ?_⟩⟩
      refine hQ (m - 1) _ _ (by omega) ⟨i + 1, _, rfl, by omega, ?_, le.fr g1 (by omega), r1, ce.fr g1 (by omega), ae.fr g1 (by omega), be.fr g1 (by omega), fe.thenNew g1 (by omega)⟩
      exact ⟨hr.1, hr.2.1, fset2 (f := fun t => d.kid (t + 2)) hr.2.2⟩
  · intro J hJ
    refine loopN (fun m st u => ∃ i : Nat, ∃ e : Nd, st = ((i : Int), ()) ∧ i + m = 2 ∧ LN i e ∧ NB u w3.heap.size e ∧ NB u w5.heap.size { nd0 with kd := d.kd, n := d.n - 2 } ∧ NB u w.heap.size d ∧ NB u w1.heap.size nd0 ∧ NB u w2.heap.size nd0 ∧ Fr 0 0 w u) 2
      ⟨0, { nd0 with kd := d.kd, n := 2 }, rfl, by omega, ⟨rfl, rfl, fun t ht => by omega, fun t ht => by omega, fun t ht => by omega⟩, l7, z7, c7, a7, b7, F7⟩ ?_
    rintro m _ u ⟨i, e, rfl, hm, he, le, re, ce, ae, be, fe⟩ Q hQ
    dsimp only
    refine ifd (fun h => ?_) fun h => hJ _ ⟨e, by rw [show i = 2 by omega] at he; exact he, le, re, ce, ae, be, fe⟩
    rw [W_succ (by omega)]
    refine ⟨by omega, by omega, ce.gk (by omega) ⟨by omega, by omega, le.sk (by omega) fun u1 l1 g1 => ?_⟩⟩
    have ce1 := ce.fr g1 (by omega)
    refine ⟨by omega, by omega, ce1.gv (by omega) ⟨by omega, by omega, l1.sv (by omega) fun u2 l2 g2 => ?_⟩⟩
    have ce2 := ce1.fr g2 (by omega)
    refine ⟨by omega, by omega, ce2.gc (by omega) ⟨by omega, by omega, l2.sc (by omega) rfl fun u3 l3 g3 => let_ ?_⟩⟩
    have G := (g1.trans g2).trans g3
    refine hQ (m - 1) _ _ (by omega) ⟨i + 1, _, rfl, by omega, ?_, l3, re.fr G (by omega), ce.fr G (by omega), ae.fr G (by omega), be.fr G (by omega), fe.thenNew G (by omega)⟩
    exact ⟨he.1, he.2.1, fset2 he.2.2.1, fset2 he.2.2.2.1, fset2 he.2.2.2.2⟩
end Go.Proofs.Qxb6500564aGreat
