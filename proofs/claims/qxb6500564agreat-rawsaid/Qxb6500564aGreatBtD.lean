/-
  The pure functions on nodes: fromLeft, fromRight, join.
-/
import Derived.Test.Qxb6500564aGreatBtC
namespace Go.Proofs.Qxb6500564aGreat
open Go.Den Go.Zip
set_option linter.unusedVariables false
set_option linter.unusedSimpArgs false
variable {w w' : World} {p p' i j : Nat} {d l r : Nd} {sep : ByteArray}

theorem W_pred {j : Nat} (h : 1 ≤ j) (h' : j < 1000) : W ((j : Int) - 1) = ((j - 1 : Nat) : Int) := by rw [W_id (by omega) (by omega)]; omega
set_option maxHeartbeats 2000000 in
theorem fromLeft_spec {K : Int → Int → ByteArray → ByteArray → ByteArray → ByteArray → ByteArray → ByteArray → ByteArray → ByteArray → Int → Int → Int → Int → Int → Int → Int → ByteArray → ByteArray → ByteArray → ByteArray → ByteArray → ByteArray → ByteArray → ByteArray → Int → Int → Int → Int → Int → ByteArray → World → Prop} (h2 : 2 ≤ l.n) (hl : l.n ≤ 4) (hr : r.n ≤ 3)
    (h1 : l.kd = 1 → Srt r.es ∧ ∀ (r' : Nd) w', r'.kd = r.kd → r'.es = ins (l.ky (l.n - 1)) (l.vl (l.n - 1)) r.es → r'.n ≤ r.n + 1 → Fr 0 0 w w' → K (({ l with n := l.n - 1 } : Nd).kd : Int) (({ l with n := l.n - 1 } : Nd).n : Int) (({ l with n := l.n - 1 } : Nd).ky 0) (({ l with n := l.n - 1 } : Nd).ky 1) (({ l with n := l.n - 1 } : Nd).ky 2) (({ l with n := l.n - 1 } : Nd).ky 3) (({ l with n := l.n - 1 } : Nd).vl 0) (({ l with n := l.n - 1 } : Nd).vl 1) (({ l with n := l.n - 1 } : Nd).vl 2) (({ l with n := l.n - 1 } : Nd).vl 3) (({ l with n := l.n - 1 } : Nd).kid 0 : Int) (({ l with n := l.n - 1 } : Nd).kid 1 : Int) (({ l with n := l.n - 1 } : Nd).kid 2 : Int) (({ l with n := l.n - 1 } : Nd).kid 3 : Int) (({ l with n := l.n - 1 } : Nd).kid 4 : Int) (r'.kd : Int) (r'.n : Int) (r'.ky 0) (r'.ky 1) (r'.ky 2) (r'.ky 3) (r'.vl 0) (r'.vl 1) (r'.vl 2) (r'.vl 3) (r'.kid 0 : Int) (r'.kid 1 : Int) (r'.kid 2 : Int) (r'.kid 3 : Int) (r'.kid 4 : Int) (r'.ky 0) w')
    (h0 : l.kd ≠ 1 → ∀ w', Fr 0 0 w w' → K (({ l with n := l.n - 1 } : Nd).kd : Int) (({ l with n := l.n - 1 } : Nd).n : Int) (({ l with n := l.n - 1 } : Nd).ky 0) (({ l with n := l.n - 1 } : Nd).ky 1) (({ l with n := l.n - 1 } : Nd).ky 2) (({ l with n := l.n - 1 } : Nd).ky 3) (({ l with n := l.n - 1 } : Nd).vl 0) (({ l with n := l.n - 1 } : Nd).vl 1) (({ l with n := l.n - 1 } : Nd).vl 2) (({ l with n := l.n - 1 } : Nd).vl 3) (({ l with n := l.n - 1 } : Nd).kid 0 : Int) (({ l with n := l.n - 1 } : Nd).kid 1 : Int) (({ l with n := l.n - 1 } : Nd).kid 2 : Int) (({ l with n := l.n - 1 } : Nd).kid 3 : Int) (({ l with n := l.n - 1 } : Nd).kid 4 : Int) (({ r with kid := fset (fset r.kid 1 (r.kid 0)) 0 (l.kid (l.n - 1)), ky := fset r.ky 0 sep, n := 2 } : Nd).kd : Int) (({ r with kid := fset (fset r.kid 1 (r.kid 0)) 0 (l.kid (l.n - 1)), ky := fset r.ky 0 sep, n := 2 } : Nd).n : Int) (({ r with kid := fset (fset r.kid 1 (r.kid 0)) 0 (l.kid (l.n - 1)), ky := fset r.ky 0 sep, n := 2 } : Nd).ky 0) (({ r with kid := fset (fset r.kid 1 (r.kid 0)) 0 (l.kid (l.n - 1)), ky := fset r.ky 0 sep, n := 2 } : Nd).ky 1) (({ r with kid := fset (fset r.kid 1 (r.kid 0)) 0 (l.kid (l.n - 1)), ky := fset r.ky 0 sep, n := 2 } : Nd).ky 2) (({ r with kid := fset (fset r.kid 1 (r.kid 0)) 0 (l.kid (l.n - 1)), ky := fset r.ky 0 sep, n := 2 } : Nd).ky 3) (({ r with kid := fset (fset r.kid 1 (r.kid 0)) 0 (l.kid (l.n - 1)), ky := fset r.ky 0 sep, n := 2 } : Nd).vl 0) (({ r with kid := fset (fset r.kid 1 (r.kid 0)) 0 (l.kid (l.n - 1)), ky := fset r.ky 0 sep, n := 2 } : Nd).vl 1) (({ r with kid := fset (fset r.kid 1 (r.kid 0)) 0 (l.kid (l.n - 1)), ky := fset r.ky 0 sep, n := 2 } : Nd).vl 2) (({ r with kid := fset (fset r.kid 1 (r.kid 0)) 0 (l.kid (l.n - 1)), ky := fset r.ky 0 sep, n := 2 } : Nd).vl 3) (({ r with kid := fset (fset r.kid 1 (r.kid 0)) 0 (l.kid (l.n - 1)), ky := fset r.ky 0 sep, n := 2 } : Nd).kid 0 : Int) (({ r with kid := fset (fset r.kid 1 (r.kid 0)) 0 (l.kid (l.n - 1)), ky := fset r.ky 0 sep, n := 2 } : Nd).kid 1 : Int) (({ r with kid := fset (fset r.kid 1 (r.kid 0)) 0 (l.kid (l.n - 1)), ky := fset r.ky 0 sep, n := 2 } : Nd).kid 2 : Int) (({ r with kid := fset (fset r.kid 1 (r.kid 0)) 0 (l.kid (l.n - 1)), ky := fset r.ky 0 sep, n := 2 } : Nd).kid 3 : Int) (({ r with kid := fset (fset r.kid 1 (r.kid 0)) 0 (l.kid (l.n - 1)), ky := fset r.ky 0 sep, n := 2 } : Nd).kid 4 : Int) (l.ky (l.n - 2)) w') : S.btree_fromLeft (l.kd : Int) (l.n : Int) (l.ky 0) (l.ky 1) (l.ky 2) (l.ky 3) (l.vl 0) (l.vl 1) (l.vl 2) (l.vl 3) (l.kid 0 : Int) (l.kid 1 : Int) (l.kid 2 : Int) (l.kid 3 : Int) (l.kid 4 : Int) (r.kd : Int) (r.n : Int) (r.ky 0) (r.ky 1) (r.ky 2) (r.ky 3) (r.vl 0) (r.vl 1) (r.vl 2) (r.vl 3) (r.kid 0 : Int) (r.kid 1 : Int) (r.kid 2 : Int) (r.kid 3 : Int) (r.kid 4 : Int) sep w K := by
  unfold S.btree_fromLeft
  refine newN fun w1 l1 f1 s1 => newN fun w2 r2 f2 s2 => newZ fun w3 a3 f3 s3 => newZ fun w4 b4 f4 s4 => ?_
  have l4 := ((l1.fr f2 (by omega)).fr f3 (by omega)).fr f4 (by omega)
  have r4 := (r2.fr f3 (by omega)).fr f4 (by omega)
  have a4 := a3.fr f4 (by omega)
  have F4 : Fr 0 0 w w4 := ((f1.then0 f2).then0 f3).then0 f4
  refine l4.kd (ifk (fun hk => ?_) fun hk => ?_)
  · obtain ⟨hs, h1⟩ := h1 (by omega)
    refine drew_ (rd15 r4.drew (l4.drew.cn ?_))
    rw [W_pred (by omega) (by omega)]
    refine ⟨by omega, by omega, l4.drew.gk (by omega) (l4.drew.cn ?_)⟩
    rw [W_pred (by omega) (by omega)]
    refine ⟨by omega, by omega, l4.drew.gv (by omega) ?_⟩
    refine leafPut_spec hr hs fun e w5 he1 he2 he3 f5 => ?_
    have l5 := l4.drew.fr f5 (by omega)
    have r5 := r4.drew.fr f5 (by omega)
    have a5 := a4.drew.fr f5 (by omega)
    have b5 := b4.drew.fr f5 (by omega)
    have F5 := F4.drew.then0 f5
    refine st15 r5 rfl fun w6 r6 f6 => ?_
    have r6 : NB w6 w1.heap.size e := r6
    have l6 := l5.fr f6 (by omega)
    refine l6.cn (l6.sn (m := l.n - 1) (W_pred (by omega) (by omega)) fun w7 l7 f7 => ?_)
    have r7 := r6.fr f7 (by omega)
    have a7 := (a5.fr f6 (by omega)).fr f7 (by omega)
    have b7 := (b5.fr f6 (by omega)).fr f7 (by omega)
    refine drew_ (rd15 l7.drew (hold_ (rd15 r7.drew ⟨by omega, by omega, hold_ (r7.drew.gk (i := 0) (by omega) ?_)⟩)))
    refine st15 a7.drew rfl fun w8 a8 f8 => ⟨holdN r7.drew (r7.drew.fr f8 (by omega)), holdN r7.drew (r7.drew.fr f8 (by omega)), ?_⟩
    have r8 := r7.drew.fr f8 (by omega)
    refine st15 (b7.drew.fr f8 (by omega)) rfl fun w9 b9 f9 => ⟨holdN r7.drew (r8.fr f9 (by omega)), ?_⟩
    have a9 : NB w9 w2.heap.size { l with n := l.n - 1 } := Blk.fr a8 f9 (by omega)
    refine rd15 a9 (rd15 (d := e) b9 ?_)
    exact h1 e w9 he1 he2 he3 ((((F5.thenNew f6 (by omega)).thenNew f7 (by omega)).drew.thenNew f8 (by omega)).thenNew f9 (by omega))
  · have h0 := h0 (by omega)
    refine ⟨by omega, by omega, r4.gc (i := 0) (by omega) ⟨by omega, by omega, r4.sc (i := 1) (by omega) rfl fun w5 r5 f5 => ?_⟩⟩
    have l5 := l4.fr f5 (by omega)
    refine l5.cn ?_
    rw [W_pred (by omega) (by omega)]
    refine ⟨by omega, by omega, l5.gc (by omega) ⟨by omega, by omega, r5.sc (i := 0) (by omega) rfl fun w6 r6 f6 => ⟨by omega, by omega, r6.sk (i := 0) (by omega) fun w7 r7 f7 => r7.sn (m := 2) rfl fun w8 r8 f8 => ?_⟩⟩⟩
    have G := (f6.trans f7).trans f8
    have l8 := l5.fr G (by omega)
    refine l8.cn (l8.sn (m := l.n - 1) (W_pred (by omega) (by omega)) fun w9 l9 f9 => ?_)
    have r9 := r8.fr f9 (by omega)
    have a9 := ((a4.fr f5 (by omega)).fr G (by omega)).fr f9 (by omega)
    have b9 := ((b4.fr f5 (by omega)).fr G (by omega)).fr f9 (by omega)
    refine drew_ (rd15 l9.drew (hold_ (rd15 r9.drew (hold_ (l9.drew.cn ?_)))))
    dsimp only
    rw [W_pred (by omega) (by omega)]
    refine ⟨by omega, by omega, hold_ (l9.drew.gk (i := l.n - 1 - 1) (by omega) ?_)⟩
    refine st15 a9.drew rfl fun u1 a1 g1 => ?_
    have ll1 := l9.drew.fr g1 (by omega)
    have rr1 := r9.drew.fr g1 (by omega)
    refine ⟨holdN l9.drew ll1, holdN l9.drew ll1, holdN r9.drew rr1, ?_⟩
    refine st15 (b9.drew.fr g1 (by omega)) rfl fun u2 b2 g2 => ?_
    have ll2 := ll1.fr g2 (by omega)
    refine ⟨holdN l9.drew ll2, holdN l9.drew ll2, ?_⟩
    have a2 : NB u2 w2.heap.size { l with n := l.n - 1 } := Blk.fr a1 g2 (by omega)
    refine rd15 a2 (rd15 (d := { r with kid := fset (fset r.kid 1 (r.kid 0)) 0 (l.kid (l.n - 1)), ky := fset r.ky 0 sep, n := 2 }) b2 ?_)
    exact h0 u2 (((((F4.thenNew f5 (by omega)).thenNew G (by omega)).thenNew f9 (by omega)).drew.thenNew g1 (by omega)).thenNew g2 (by omega))
set_option maxHeartbeats 2000000 in
theorem fromRight_spec {K : Int → Int → ByteArray → ByteArray → ByteArray → ByteArray → ByteArray → ByteArray → ByteArray → ByteArray → Int → Int → Int → Int → Int → Int → Int → ByteArray → ByteArray → ByteArray → ByteArray → ByteArray → ByteArray → ByteArray → ByteArray → Int → Int → Int → Int → Int → ByteArray → World → Prop} (h2 : 2 ≤ r.n) (hr : r.n ≤ 4) (hl : l.n ≤ 3) (hl1 : l.kd ≠ 1 → 1 ≤ l.n)
    (h1 : l.kd = 1 → ∀ (r' : Nd) w', r'.kd = r.kd → r'.n + 1 = r.n → r'.ky = shl r.ky 0 (r.n - 1) → r'.vl = shl r.vl 0 (r.n - 1) → Fr 0 0 w w' → K (({ l with ky := fset l.ky l.n (r.ky 0), vl := fset l.vl l.n (r.vl 0), n := l.n + 1 } : Nd).kd : Int) (({ l with ky := fset l.ky l.n (r.ky 0), vl := fset l.vl l.n (r.vl 0), n := l.n + 1 } : Nd).n : Int) (({ l with ky := fset l.ky l.n (r.ky 0), vl := fset l.vl l.n (r.vl 0), n := l.n + 1 } : Nd).ky 0) (({ l with ky := fset l.ky l.n (r.ky 0), vl := fset l.vl l.n (r.vl 0), n := l.n + 1 } : Nd).ky 1) (({ l with ky := fset l.ky l.n (r.ky 0), vl := fset l.vl l.n (r.vl 0), n := l.n + 1 } : Nd).ky 2) (({ l with ky := fset l.ky l.n (r.ky 0), vl := fset l.vl l.n (r.vl 0), n := l.n + 1 } : Nd).ky 3) (({ l with ky := fset l.ky l.n (r.ky 0), vl := fset l.vl l.n (r.vl 0), n := l.n + 1 } : Nd).vl 0) (({ l with ky := fset l.ky l.n (r.ky 0), vl := fset l.vl l.n (r.vl 0), n := l.n + 1 } : Nd).vl 1) (({ l with ky := fset l.ky l.n (r.ky 0), vl := fset l.vl l.n (r.vl 0), n := l.n + 1 } : Nd).vl 2) (({ l with ky := fset l.ky l.n (r.ky 0), vl := fset l.vl l.n (r.vl 0), n := l.n + 1 } : Nd).vl 3) (({ l with ky := fset l.ky l.n (r.ky 0), vl := fset l.vl l.n (r.vl 0), n := l.n + 1 } : Nd).kid 0 : Int) (({ l with ky := fset l.ky l.n (r.ky 0), vl := fset l.vl l.n (r.vl 0), n := l.n + 1 } : Nd).kid 1 : Int) (({ l with ky := fset l.ky l.n (r.ky 0), vl := fset l.vl l.n (r.vl 0), n := l.n + 1 } : Nd).kid 2 : Int) (({ l with ky := fset l.ky l.n (r.ky 0), vl := fset l.vl l.n (r.vl 0), n := l.n + 1 } : Nd).kid 3 : Int) (({ l with ky := fset l.ky l.n (r.ky 0), vl := fset l.vl l.n (r.vl 0), n := l.n + 1 } : Nd).kid 4 : Int) (r'.kd : Int) (r'.n : Int) (r'.ky 0) (r'.ky 1) (r'.ky 2) (r'.ky 3) (r'.vl 0) (r'.vl 1) (r'.vl 2) (r'.vl 3) (r'.kid 0 : Int) (r'.kid 1 : Int) (r'.kid 2 : Int) (r'.kid 3 : Int) (r'.kid 4 : Int) (r'.ky 0) w')
    (h0 : l.kd ≠ 1 → ∀ (r' : Nd) w', r'.kd = r.kd → r'.n + 1 = r.n → r'.kid = shl (fset r.kid 0 (r.kid 1)) 1 (r.n - 1) → r'.ky = shl r.ky 0 (r.n - 2) → Fr 0 0 w w' → K (({ l with kid := fset l.kid l.n (r.kid 0), ky := fset l.ky (l.n - 1) sep, n := l.n + 1 } : Nd).kd : Int) (({ l with kid := fset l.kid l.n (r.kid 0), ky := fset l.ky (l.n - 1) sep, n := l.n + 1 } : Nd).n : Int) (({ l with kid := fset l.kid l.n (r.kid 0), ky := fset l.ky (l.n - 1) sep, n := l.n + 1 } : Nd).ky 0) (({ l with kid := fset l.kid l.n (r.kid 0), ky := fset l.ky (l.n - 1) sep, n := l.n + 1 } : Nd).ky 1) (({ l with kid := fset l.kid l.n (r.kid 0), ky := fset l.ky (l.n - 1) sep, n := l.n + 1 } : Nd).ky 2) (({ l with kid := fset l.kid l.n (r.kid 0), ky := fset l.ky (l.n - 1) sep, n := l.n + 1 } : Nd).ky 3) (({ l with kid := fset l.kid l.n (r.kid 0), ky := fset l.ky (l.n - 1) sep, n := l.n + 1 } : Nd).vl 0) (({ l with kid := fset l.kid l.n (r.kid 0), ky := fset l.ky (l.n - 1) sep, n := l.n + 1 } : Nd).vl 1) (({ l with kid := fset l.kid l.n (r.kid 0), ky := fset l.ky (l.n - 1) sep, n := l.n + 1 } : Nd).vl 2) (({ l with kid := fset l.kid l.n (r.kid 0), ky := fset l.ky (l.n - 1) sep, n := l.n + 1 } : Nd).vl 3) (({ l with kid := fset l.kid l.n (r.kid 0), ky := fset l.ky (l.n - 1) sep, n := l.n + 1 } : Nd).kid 0 : Int) (({ l with kid := fset l.kid l.n (r.kid 0), ky := fset l.ky (l.n - 1) sep, n := l.n + 1 } : Nd).kid 1 : Int) (({ l with kid := fset l.kid l.n (r.kid 0), ky := fset l.ky (l.n - 1) sep, n := l.n + 1 } : Nd).kid 2 : Int) (({ l with kid := fset l.kid l.n (r.kid 0), ky := fset l.ky (l.n - 1) sep, n := l.n + 1 } : Nd).kid 3 : Int) (({ l with kid := fset l.kid l.n (r.kid 0), ky := fset l.ky (l.n - 1) sep, n := l.n + 1 } : Nd).kid 4 : Int) (r'.kd : Int) (r'.n : Int) (r'.ky 0) (r'.ky 1) (r'.ky 2) (r'.ky 3) (r'.vl 0) (r'.vl 1) (r'.vl 2) (r'.vl 3) (r'.kid 0 : Int) (r'.kid 1 : Int) (r'.kid 2 : Int) (r'.kid 3 : Int) (r'.kid 4 : Int) (r.ky 0) w') : S.btree_fromRight (l.kd : Int) (l.n : Int) (l.ky 0) (l.ky 1) (l.ky 2) (l.ky 3) (l.vl 0) (l.vl 1) (l.vl 2) (l.vl 3) (l.kid 0 : Int) (l.kid 1 : Int) (l.kid 2 : Int) (l.kid 3 : Int) (l.kid 4 : Int) (r.kd : Int) (r.n : Int) (r.ky 0) (r.ky 1) (r.ky 2) (r.ky 3) (r.vl 0) (r.vl 1) (r.vl 2) (r.vl 3) (r.kid 0 : Int) (r.kid 1 : Int) (r.kid 2 : Int) (r.kid 3 : Int) (r.kid 4 : Int) sep w K := by
  unfold S.btree_fromRight
  refine newN fun w1 l1 f1 s1 => newN fun w2 r2 f2 s2 => newZ fun w3 a3 f3 s3 => newZ fun w4 b4 f4 s4 => ?_
  have l4 := ((l1.fr f2 (by omega)).fr f3 (by omega)).fr f4 (by omega)
  have r4 := (r2.fr f3 (by omega)).fr f4 (by omega)
  have a4 := a3.fr f4 (by omega)
  have F4 : Fr 0 0 w w4 := ((f1.then0 f2).then0 f3).then0 f4
  refine l4.kd (ifk (fun hk => ?_) fun hk => ?_)
  · have h1 := h1 (by omega)
    refine l4.cn ⟨by omega, by omega, r4.gk (i := 0) (by omega) ⟨by omega, by omega, l4.sk (by omega) fun w5 l5 f5 => l5.cn ?_⟩⟩
    have r5 := r4.fr f5 (by omega)
    dsimp only
    refine ⟨by omega, by omega, r5.gv (i := 0) (by omega) ⟨by omega, by omega, l5.sv (by omega) fun w6 l6 f6 => l6.cn (l6.sn (m := l.n + 1) (W_succ (by show l.n < _; omega)) fun w7 l7 f7 => ?_)⟩⟩
    have G := (f5.trans f6).trans f7
    have r7 := r4.fr G (by omega)
    refine rd15 r7 (leafCut_spec (i := 0) hr (by omega) fun e w8 he1 he2 he3 he4 f8 => ?_)
    have l8 := l7.fr f8 (by omega)
    have r8 := r7.fr f8 (by omega)
    have a8 := (a4.fr G (by omega)).fr f8 (by omega)
    have b8 := (b4.fr G (by omega)).fr f8 (by omega)
    have F8 := (F4.thenNew G (by omega)).then0 f8
    refine st15 r8 rfl fun w9 r9 f9 => ?_
    have r9 : NB w9 w1.heap.size e := r9
    have l9 := l8.fr f9 (by omega)
    have a9 := a8.fr f9 (by omega)
    have b9 := b8.fr f9 (by omega)
    refine drew_ (rd15 l9.drew (hold_ (rd15 r9.drew ⟨by omega, by omega, hold_ (r9.drew.gk (i := 0) (by omega) ?_)⟩)))
    refine st15 a9.drew rfl fun u1 a1 g1 => ?_
    have rr1 := r9.drew.fr g1 (by omega)
    refine ⟨holdN r9.drew rr1, holdN r9.drew rr1, ?_⟩
    refine st15 (b9.drew.fr g1 (by omega)) rfl fun u2 b2 g2 => ⟨holdN r9.drew (rr1.fr g2 (by omega)), ?_⟩
    have a2 : NB u2 w2.heap.size { l with ky := fset l.ky l.n (r.ky 0), vl := fset l.vl l.n (r.vl 0), n := l.n + 1 } := Blk.fr a1 g2 (by omega)
    refine rd15 a2 (rd15 (d := e) b2 ?_)
    exact h1 e u2 he1 he2 he3 he4 (((F8.thenNew f9 (by omega)).drew.thenNew g1 (by omega)).thenNew g2 (by omega))
  · have h0 := h0 (by omega)
    have hl1 := hl1 (by omega)
    refine ⟨by omega, by omega, r4.gk (i := 0) (by omega) (l4.cn ⟨by omega, by omega, r4.gc (i := 0) (by omega) ⟨by omega, by omega, l4.sc (by omega) rfl fun w5 l5 f5 => l5.cn ?_⟩⟩)⟩
    dsimp only
    rw [W_pred (by omega) (by omega)]
    refine ⟨by omega, by omega, l5.sk (by omega) fun w6 l6 f6 => l6.cn (l6.sn (m := l.n + 1) (W_succ (by show l.n < _; omega)) fun w7 l7 f7 => ?_)⟩
    have G := (f5.trans f6).trans f7
    have r7 := r4.fr G (by omega)
    refine ⟨by omega, by omega, r7.gc (i := 1) (by omega) ⟨by omega, by omega, r7.sc (i := 0) (by omega) rfl fun w8 r8 f8 => ?_⟩⟩
    refine rd15 r8 (innerCut_spec (d := { r with kid := fset r.kid 0 (r.kid 1) }) (i := 0) (by show r.n ≤ 5; omega) (by show _ < r.n; omega) fun e w9 he1 he2 he3 he4 f9 => ?_)
    have l9 := (l7.fr f8 (by omega)).fr f9 (by omega)
    have r9 := r8.fr f9 (by omega)
    have a9 := ((a4.fr G (by omega)).fr f8 (by omega)).fr f9 (by omega)
    have b9 := ((b4.fr G (by omega)).fr f8 (by omega)).fr f9 (by omega)
    have F9 := ((F4.thenNew G (by omega)).thenNew f8 (by omega)).then0 f9
    refine st15 r9 rfl fun v1 rv gv => ?_
    have rv : NB v1 w1.heap.size e := rv
    have lv := l9.fr gv (by omega)
    have av := a9.fr gv (by omega)
    have bv := b9.fr gv (by omega)
    refine drew_ (rd15 lv.drew (hold_ (rd15 rv.drew ?_)))
    refine st15 av.drew rfl fun u1 a1 g1 => ⟨holdN rv.drew (rv.drew.fr g1 (by omega)), ?_⟩
    refine st15 (bv.drew.fr g1 (by omega)) rfl fun u2 b2 g2 => ?_
    have a2 : NB u2 w2.heap.size { l with kid := fset l.kid l.n (r.kid 0), ky := fset l.ky (l.n - 1) sep, n := l.n + 1 } := Blk.fr a1 g2 (by omega)
    refine rd15 a2 (rd15 (d := e) b2 ?_)
    exact h0 e u2 he1 he2 he3 he4 (((F9.thenNew gv (by omega)).drew.thenNew g1 (by omega)).thenNew g2 (by omega))
/-- f with g laid behind its first n, m of them. -/
def beh {α : Type} (f : Nat → α) (n : Nat) (g : Nat → α) (m t : Nat) : α := if n ≤ t ∧ t < n + m then g (t - n) else f t
theorem beh_0 {α : Type} (f g : Nat → α) (n : Nat) : beh f n g 0 = f := by
  funext t
  unfold beh
  rw [if_neg (by omega)]
theorem beh_step {α : Type} {f g : Nat → α} {n m : Nat} : fset (beh f n g m) (n + m) (g m) = beh f n g (m + 1) := by
  funext t
  unfold fset beh
  by_cases e : t = n + m
  · subst e
    rw [if_pos rfl, if_pos (by omega)]
    congr 1; omega
  · rw [if_neg e]
    by_cases h : n ≤ t ∧ t < n + m
    · rw [if_pos h, if_pos (by omega)]
    · rw [if_neg h, if_neg (by omega)]
set_option maxHeartbeats 2000000 in
theorem join_spec {K : Int → Int → ByteArray → ByteArray → ByteArray → ByteArray → ByteArray → ByteArray → ByteArray → ByteArray → Int → Int → Int → Int → Int → World → Prop} (h1 : l.kd = 1 → l.n + r.n ≤ 3 ∧ ∀ (e : Nd) w', e.kd = 1 → e.n = l.n + r.n → e.ky = beh l.ky l.n r.ky r.n → e.vl = beh l.vl l.n r.vl r.n → Fr 0 0 w w' → K (e.kd : Int) (e.n : Int) (e.ky 0) (e.ky 1) (e.ky 2) (e.ky 3) (e.vl 0) (e.vl 1) (e.vl 2) (e.vl 3) (e.kid 0 : Int) (e.kid 1 : Int) (e.kid 2 : Int) (e.kid 3 : Int) (e.kid 4 : Int) w')
    (h0 : l.kd ≠ 1 → 1 ≤ l.n ∧ 1 ≤ r.n ∧ l.n + r.n ≤ 4 ∧ ∀ (e : Nd) w', e.kd = l.kd → e.n = l.n + r.n → e.kid = beh l.kid l.n r.kid r.n → e.ky = beh (fset l.ky (l.n - 1) sep) l.n r.ky (r.n - 1) → Fr 0 0 w w' → K (e.kd : Int) (e.n : Int) (e.ky 0) (e.ky 1) (e.ky 2) (e.ky 3) (e.vl 0) (e.vl 1) (e.vl 2) (e.vl 3) (e.kid 0 : Int) (e.kid 1 : Int) (e.kid 2 : Int) (e.kid 3 : Int) (e.kid 4 : Int) w') : S.btree_join (l.kd : Int) (l.n : Int) (l.ky 0) (l.ky 1) (l.ky 2) (l.ky 3) (l.vl 0) (l.vl 1) (l.vl 2) (l.vl 3) (l.kid 0 : Int) (l.kid 1 : Int) (l.kid 2 : Int) (l.kid 3 : Int) (l.kid 4 : Int) (r.kd : Int) (r.n : Int) (r.ky 0) (r.ky 1) (r.ky 2) (r.ky 3) (r.vl 0) (r.vl 1) (r.vl 2) (r.vl 3) (r.kid 0 : Int) (r.kid 1 : Int) (r.kid 2 : Int) (r.kid 3 : Int) (r.kid 4 : Int) sep w K := by
  unfold S.btree_join
  refine newN fun w1 l1 f1 s1 => newN fun w2 r2 f2 s2 => newZ fun w3 a3 f3 s3 => ?_
  have l3 := (l1.fr f2 (by omega)).fr f3 (by omega)
  have r3 := r2.fr f3 (by omega)
  have F3 : Fr 0 0 w w3 := (f1.then0 f2).then0 f3
  refine l3.kd (ifk (fun hk => ?_) fun hk => ?_)
  · obtain ⟨hn, h1⟩ := h1 (by omega)
    refine join_W (fun u => NB u w.heap.size { l with ky := beh l.ky l.n r.ky r.n, vl := beh l.vl l.n r.vl r.n } ∧ NB u w1.heap.size r ∧ NB u w2.heap.size nd0 ∧ Fr 0 0 w u) ?_ ?_
    · rintro u ⟨lu, ru, au, fu⟩
      refine lu.cn (ru.cn (lu.sn (m := l.n + r.n) (W_add (by show l.n + r.n < _; omega)) fun u1 l1 g1 => ?_))
      exact out15 l1 (au.fr g1 (by omega)) fun u2 g2 => h1 _ u2 (by show l.kd = 1; omega) rfl rfl rfl ((fu.thenNew g1 (by omega)).thenNew g2 (by omega))
    · intro J hJ
      refine loopN (fun m st u => ∃ j : Nat, st = ((j : Int), ()) ∧ j + m = r.n ∧ NB u w.heap.size { l with ky := beh l.ky l.n r.ky j, vl := beh l.vl l.n r.vl j } ∧ NB u w1.heap.size r ∧ NB u w2.heap.size nd0 ∧ Fr 0 0 w u) r.n
        ⟨0, rfl, by omega, by rw [beh_0, beh_0]; exact l3, r3, a3, F3⟩ ?_
      rintro m _ u ⟨j, rfl, hm, lu, ru, au, fu⟩ Q hQ
      dsimp only
      refine ru.cn (ifd (fun h => ?_) fun h => hJ _ ⟨by rw [show r.n = j by omega]; exact lu, ru, au, fu⟩)
      refine drew_ (lu.drew.cn ?_)
      dsimp only
      rw [W_add (by omega)]
      refine ⟨by omega, by omega, ru.drew.gk (by omega) ⟨by omega, by omega, lu.drew.sk (by omega) fun u1 lu1 g1 => ?_⟩⟩
      have ru1 := ru.drew.fr g1 (by omega)
      refine drew_ (lu1.drew.cn ?_)
      dsimp only
      rw [W_add (by omega)]
      refine ⟨by omega, by omega, ru1.drew.gv (by omega) ⟨by omega, by omega, lu1.drew.sv (by omega) fun u2 lu2 g2 => let_ ?_⟩⟩
      rw [W_succ (by omega)]
      have G : Fr w.heap.size 1 u.drew u2 := g1.drew.trans g2
      refine hQ (m - 1) _ _ (by omega) ⟨j + 1, rfl, by omega, ?_, ru.drew.fr G (by omega), au.drew.fr G (by omega), fu.drew.thenNew G (by omega)⟩
      have e1 := beh_step (f := l.ky) (g := r.ky) (n := l.n) (m := j)
      have e2 := beh_step (f := l.vl) (g := r.vl) (n := l.n) (m := j)
      rw [← e1, ← e2]
      exact lu2
  · obtain ⟨hl, hr, hn, h0⟩ := h0 (by omega)
    refine l3.cn ?_
    rw [W_pred (by omega) (by omega)]
    refine ⟨by omega, by omega, l3.sk (by omega) fun w4 l4 f4 => ?_⟩
    have r4 := r3.fr f4 (by omega)
    have a4 := a3.fr f4 (by omega)
    have F4 := F3.thenNew f4 (by omega)
    refine join_W (fun u => NB u w.heap.size { l with ky := fset l.ky (l.n - 1) sep, kid := beh l.kid l.n r.kid r.n } ∧ NB u w1.heap.size r ∧ NB u w2.heap.size nd0 ∧ Fr 0 0 w u) ?_ ?_
    · rintro u ⟨lu, ru, au, fu⟩
      refine join_W (fun u => NB u w.heap.size { l with ky := beh (fset l.ky (l.n - 1) sep) l.n r.ky (r.n - 1), kid := beh l.kid l.n r.kid r.n } ∧ NB u w1.heap.size r ∧ NB u w2.heap.size nd0 ∧ Fr 0 0 w u) ?_ ?_
      · rintro u ⟨lu, ru, au, fu⟩
        refine lu.cn (ru.cn (lu.sn (m := l.n + r.n) (W_add (by show l.n + r.n < _; omega)) fun u1 l1 g1 => ?_))
        exact out15 l1 (au.fr g1 (by omega)) fun u2 g2 => h0 _ u2 rfl rfl rfl rfl ((fu.thenNew g1 (by omega)).thenNew g2 (by omega))
      · intro J hJ
        refine loopN (fun m st u => ∃ j : Nat, st = ((j : Int), ()) ∧ j + m = r.n - 1 ∧ NB u w.heap.size { l with ky := beh (fset l.ky (l.n - 1) sep) l.n r.ky j, kid := beh l.kid l.n r.kid r.n } ∧ NB u w1.heap.size r ∧ NB u w2.heap.size nd0 ∧ Fr 0 0 w u) (r.n - 1)
          ⟨0, rfl, by omega, by rw [beh_0]; exact lu, ru, au, fu⟩ ?_
        rintro m _ u ⟨j, rfl, hm, lu, ru, au, fu⟩ Q hQ
        dsimp only
        rw [W_succ (by omega)]
        refine ru.cn (ifd (fun h => ?_) fun h => hJ _ ⟨by rw [show r.n - 1 = j by omega]; exact lu, ru, au, fu⟩)
        refine drew_ (lu.drew.cn ?_)
        dsimp only
        rw [W_add (by omega)]
        refine ⟨by omega, by omega, ru.drew.gk (by omega) ⟨by omega, by omega, lu.drew.sk (by omega) fun u1 lu1 g1 => let_ ?_⟩⟩
        refine hQ (m - 1) _ _ (by omega) ⟨j + 1, rfl, by omega, ?_, ru.drew.fr g1 (by omega), au.drew.fr g1 (by omega), fu.drew.thenNew g1 (by omega)⟩
        have e1 := beh_step (f := fset l.ky (l.n - 1) sep) (g := r.ky) (n := l.n) (m := j)
        rw [← e1]
        exact lu1
    · intro J hJ
      refine loopN (fun m st u => ∃ j : Nat, st = ((j : Int), ()) ∧ j + m = r.n ∧ NB u w.heap.size { l with ky := fset l.ky (l.n - 1) sep, kid := beh l.kid l.n r.kid j } ∧ NB u w1.heap.size r ∧ NB u w2.heap.size nd0 ∧ Fr 0 0 w u) r.n
        ⟨0, rfl, by omega, by rw [beh_0]; exact l4, r4, a4, F4⟩ ?_
      rintro m _ u ⟨j, rfl, hm, lu, ru, au, fu⟩ Q hQ
      dsimp only
      refine ru.cn (ifd (fun h => ?_) fun h => hJ _ ⟨by rw [show r.n = j by omega]; exact lu, ru, au, fu⟩)
      refine drew_ (lu.drew.cn ?_)
      dsimp only
      rw [W_add (by omega)]
      refine ⟨by omega, by omega, ru.drew.gc (by omega) ⟨by omega, by omega, lu.drew.sc (by omega) rfl fun u1 lu1 g1 => let_ ?_⟩⟩
      rw [W_succ (by omega)]
      refine hQ (m - 1) _ _ (by omega) ⟨j + 1, rfl, by omega, ?_, ru.drew.fr g1 (by omega), au.drew.fr g1 (by omega), fu.drew.thenNew g1 (by omega)⟩
      have e1 := beh_step (f := l.kid) (g := r.kid) (n := l.n) (m := j)
      rw [← e1]
      exact lu1
end Go.Proofs.Qxb6500564aGreat
