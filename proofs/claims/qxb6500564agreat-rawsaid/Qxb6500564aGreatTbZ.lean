/-
  GoodCols.
-/
import Derived.Test.Qxb6500564aGreatTbY
namespace Go.Proofs.Qxb6500564aGreat
open Go.Den Go.Zip
set_option linter.unusedVariables false
set_option linter.unusedSimpArgs false
variable {w w' u v : World} {i j n : Nat} {s : Sl} {cs : List Cl}

def colN (cs : List Cl) (i : Nat) : ByteArray := (cs.getD i c0).name
/-- GoodCols, plain. -/
def gdCols (cs : List Cl) (pk : Int) : Bool := decide ((1 ≤ cs.length ∧ cs.length ≤ 3 ∧ 0 ≤ pk ∧ pk < cs.length) ∧ (∀ i, i < cs.length → (1 ≤ (colN cs i).size ∧ (colN cs i).size ≤ 6) ∧ ∀ j, j < i → colN cs j ≠ colN cs i))
theorem colNm {K : ByteArray → Prop} (o : OS w s (colC cs) 2) (hi : i < cs.length) (hk : K (colN cs i)) : Ix s.a s.l (i : Int) fun b o => LdStr w ⟨b, o + Int.toNat (i : Int) * 2, none⟩ K := by
  refine OS.get o (by rw [col_l o]; exact hi) fun g us b hu _ => ?_
  exact ldStr b (cell2 (g := g) (k := 0) hu (getC_some hi) (by omega)) hk
set_option maxHeartbeats 2000000 in
theorem goodCols_spec {pk : Int} {K : Bool → World → Prop} (o : OS w s (colC cs) 2) (hK : ∀ w', Fr 0 0 w w' → K (gdCols cs pk) w') : S.api_GoodCols s pk w K := by
  unfold S.api_GoodCols
  have hl := col_l o
  have no : ¬ (1 ≤ cs.length ∧ cs.length ≤ 3 ∧ 0 ≤ pk ∧ pk < cs.length) → K false w := fun h => by
    have := hK w (Fr.refl _ _ _)
    unfold gdCols at this
    rw [decide_eq_false fun h' => h h'.1] at this
    exact this
  refine ifd (fun h => no (by omega)) fun a1 => ifd (fun h => no (by omega)) fun a2 => ifd (fun h => no (by omega)) fun a3 => ifd (fun h => no (by omega)) fun a4 => ?_
  have keep : ∀ u, Fr 0 0 w u → OS u s (colC cs) 2 := fun u fu => o.frp (FrP.of0 (P := fun _ => False) fu) fun _ _ h => h
  have bad : ∀ u, Fr 0 0 w u → ¬ (∀ i, i < cs.length → (1 ≤ (colN cs i).size ∧ (colN cs i).size ≤ 6) ∧ ∀ j, j < i → colN cs j ≠ colN cs i) → K false u := fun u fu h => by
    have := hK u fu
    unfold gdCols at this
    rw [decide_eq_false fun h' => h h'.2] at this
    exact this
  refine loopN (fun m st u => ∃ k : Nat, st = ((k : Int), ()) ∧ k + m = cs.length ∧ Fr 0 0 w u ∧ ∀ i, i < k → (1 ≤ (colN cs i).size ∧ (colN cs i).size ≤ 6) ∧ ∀ j, j < i → colN cs j ≠ colN cs i) cs.length ⟨0, rfl, by omega, Fr.refl _ _ _, fun i hi => by omega⟩ ?_
  rintro m _ u ⟨k, rfl, hm, fu, hall⟩ Q hQ
  dsimp only
  refine ifd (fun h1 => ?_) fun h1 => ?_
  · have hk : k < cs.length := by omega
    refine colNm (keep u fu) hk (goodName_spec ?_)
    by_cases hg : 1 ≤ (colN cs k).size ∧ (colN cs k).size ≤ 6
    · rw [decide_eq_true hg, if_neg (by simp)]
      refine join_W (fun u' => Fr 0 0 w u' ∧ ∀ j, j < k → colN cs j ≠ colN cs k) ?_ ?_
      · rintro u' ⟨fu', hne⟩
        refine let_ ?_
        rw [W_succ (by omega)]
        refine hQ (m - 1) _ _ (by omega) ⟨k + 1, rfl, by omega, fu', fun i hi => ?_⟩
        rcases (by omega : i < k ∨ i = k) with h' | rfl
        · exact hall i h'
        · exact ⟨hg, hne⟩
      · intro J hJ
        refine loopN (fun m st u' => ∃ j : Nat, st = ((j : Int), ()) ∧ j + m = k ∧ Fr 0 0 w u' ∧ ∀ i, i < j → colN cs i ≠ colN cs k) k ⟨0, rfl, by omega, fu, fun i hi => by omega⟩ ?_
        rintro m2 _ u' ⟨j, rfl, hm2, fu', hne⟩ Q2 hQ2
        dsimp only
        refine ifd (fun h2 => ?_) fun h2 => hJ _ ⟨fu', fun i hi => hne i (by omega)⟩
        have o' := keep u'.drew fu'.drew
        refine drew_ (colNm o' (by omega) (colNm o' hk ?_))
        rw [strEq]
        refine ifd (fun h3 => bad _ fu'.drew fun h => (h k hk).2 j (by omega) (bt_inj h3)) fun h3 => let_ ?_
        rw [W_succ (by omega)]
        refine hQ2 (m2 - 1) _ _ (by omega) ⟨j + 1, rfl, by omega, fu'.drew, fun i hi => ?_⟩
        rcases (by omega : i < j ∨ i = j) with h' | rfl
        · exact hne i h'
        · exact fun e => h3 (by rw [e])
    · rw [decide_eq_false hg, if_pos (by simp)]
      exact bad u fu fun h => hg (h k hk).1
  · have := hK u fu
    unfold gdCols at this
    rw [decide_eq_true ⟨by omega, fun i hi => hall i (by omega)⟩] at this
    exact this
end Go.Proofs.Qxb6500564aGreat
