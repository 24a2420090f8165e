/-
  The real coder: Build.
-/
import Derived.Test.Qxb6500563aGreatCodS
namespace Go.Proofs.Qxb6500563aGreat
open Go.Den Go.Zip
set_option linter.unusedVariables false
set_option linter.unusedSimpArgs false
variable {w w' : World} {C : Nat} {s : CS}

theorem huff_lay_spec {n : Nat} {l : Nat → Nat} {w0 : World} {K : World → Prop} (h : PW w C s) (c : LC s n l) (L : Lens n l) (hn : n ≤ 265) (hf : Fr C 11 w0 w)
    (hK : ∀ w' t, PW w' C t → HoldsC t n l → t.heap = s.heap → Fr C 11 w0 w' → K w') : S.huff_Coder_lay C w K := by
  unfold S.huff_Coder_lay
  refine join_ ?_
  refine loopN (fun m st v => ∃ (j : Nat) (root : Nat → Int), st = ((j : Int), ()) ∧ m + j = 64 ∧ PW v C { s with root := root } ∧ (∀ p, p < j → root p = 0) ∧ Fr C 11 w0 v) 64 ⟨0, s.root, rfl, rfl, h, fun p hp => by omega, hf⟩ ?_
  rintro m _ v ⟨j, root, rfl, hm, hv, hz, fv⟩ Q hQ
  dsimp only
  by_cases hj : j < 64
  · rw [if_pos (by simp only [decide_eq_true_eq]; omega)]
    refine ldS hv.rc rfl (wrZ hv.root hj fun v1 d1 g1 _ => ?_)
    rw [W_succ (by omega)]
    refine let_ (hQ (m - 1) _ _ (by omega) ⟨j + 1, _, rfl, by omega, hv.setRoot d1 g1, fun p hp => ?_, fv.trans (g1.mono (by omega) (by omega))⟩)
    unfold fset; split
    · rfl
    · exact hz p (by omega)
  · rw [if_neg (by simp only [decide_eq_true_eq]; omega)]
    have hj64 : j = 64 := by omega
    subst hj64
    have hv0 : PW v C { s with root := fun _ => 0 } := ⟨hv.rc, hv.lens, hv.code, by
      have := hv.root
      rw [show tab 64 ({ s with root := root } : CS).root = tab 64 (fun _ => (0 : Int)) from tab_congr fun p hp => hz p hp] at this
      exact this, hv.sub, hv.wt, hv.ht, hv.num, hv.par, hv.dep, hv.heap⟩
    refine join_ ?_
    refine lay_sweep1 (s := { s with root := fun _ => 0 }) hv0 rfl ⟨c.sz, c.lens, c.code⟩ L hn fv fun v1 root0 h1 t1 f1 => ?_
    refine st1 h1.rc (by simp [rcd]) fun v2 d2 g2 _ => ?_
    have h2 := h1.setTop (v := 0) d2 g2
    refine join_ ?_
    refine lay_sweep2 (root0 := root0) h2 rfl rfl L t1 (f1.trans (g2.mono (by omega) (by omega))) fun v3 root st top sub h3 t2 hz3 f3 => ?_
    refine lay_sweep3 h3 rfl ⟨c.sz, c.lens, c.code⟩ L hn t1 t2 hz3 f3 fun v4 sub4 h4 T f4 => ?_
    exact hK v4 _ h4 ⟨c.sz, c.lens, c.code, T⟩ rfl f4
end Go.Proofs.Qxb6500563aGreat
