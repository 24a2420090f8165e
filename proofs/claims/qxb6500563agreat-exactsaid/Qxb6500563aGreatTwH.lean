/-
  towerexact.Exact.
-/
import Derived.Test.Qxb6500563aGreatTwG
namespace Go.Proofs.Qxb6500563aGreat
open Go.Den Go.Zip
set_option linter.unusedVariables false
set_option linter.unusedSimpArgs false
variable {w w' : World}
/-- A step of the script. -/
def OpAt (w : World) (b o : Nat) : Prop := ∃ (k x y z : Int) (S_ T_ : ByteArray), w.cell? ⟨b, o, none⟩ = some (.int .i64 k) ∧ w.cell? ⟨b, o + 1, none⟩ = some (.int .i64 x) ∧ w.cell? ⟨b, o + 2, none⟩ = some (.int .i64 y) ∧ w.cell? ⟨b, o + 3, none⟩ = some (.int .i64 z) ∧
  w.cell? ⟨b, o + 4, none⟩ = some (.string S_) ∧ w.cell? ⟨b, o + 5, none⟩ = some (.string T_) ∧ rng x ∧ rng y ∧ rng z
structure ScS (w : World) (s : Sl) : Prop where
  ex : s.l = 0 ∨ ∃ b o, s.a = some ⟨b, o, none⟩ ∧ b < w.heap.size ∧ ∀ i, i < s.l → OpAt w b (o + i * 6)
theorem ScS.fr {s : Sl} (h : ScS w s) (f : Fr 0 0 w w') : ScS w' s := by
  refine ⟨?_⟩
  rcases h.ex with e | ⟨b, o, h1, h2, h3⟩
  · exact .inl e
  · refine .inr ⟨b, o, h1, Nat.lt_of_lt_of_le h2 f.1, fun i hi => ?_⟩
    obtain ⟨k, x, y, z, S_, T_, c0, c1, c2, c3, c4, c5, r⟩ := h3 i hi
    exact ⟨k, x, y, z, S_, T_, by rw [cell_fr f h2]; exact c0, by rw [cell_fr f h2]; exact c1, by rw [cell_fr f h2]; exact c2, by rw [cell_fr f h2]; exact c3, by rw [cell_fr f h2]; exact c4, by rw [cell_fr f h2]; exact c5, r⟩
theorem small_spec {s : Sl} {K : Bool → World → Prop} (h : ScS w s) (hK : ∀ r w', w'.heap = w.heap → (r = true → s.l ≤ 1073741824) → K r w') : S.towerexact_small s w K := by
  unfold S.towerexact_small
  by_cases hb : 1073741824 < s.l
  · rw [if_pos (by simp only [decide_eq_true_eq]; omega)]
    exact hK false w rfl (fun h => by cases h)
  rw [if_neg (by simp only [decide_eq_true_eq]; omega)]
  refine let_ ?_
  refine loopN (fun m st v => ∃ (n : Int) (i : Nat), st = (n, (i : Int), ()) ∧ m + i = s.l ∧ v.heap = w.heap) s.l ⟨_, 0, rfl, rfl, rfl⟩ ?_
  rintro m _ v ⟨n, i, rfl, hm, hv⟩ Q hQ
  dsimp only
  by_cases hi : i < s.l
  · rw [if_pos (by simp only [decide_eq_true_eq]; omega)]
    refine drew_ ?_
    have h2 : ScS v.drew s := h.fr (Fr.heq (Fr.refl 0 0 w) hv)
    rcases h2.ex with e | ⟨b, o, h1, _, h3⟩
    · omega
    obtain ⟨k, x, y, z, S_, T_, c0, c1, c2, c3, c4, c5, r⟩ := h3 i hi
    refine ix h1 (by omega) (by omega) ⟨S_, by rw [Int.toNat_natCast]; exact c4, ix h1 (by omega) (by omega) ⟨T_, by rw [Int.toNat_natCast]; exact c5, ?_⟩⟩
    refine let_ ?_
    split
    · exact hK false _ hv (fun h => by cases h)
    · rw [W_succ (by omega)]
      exact let_ (hQ (m - 1) _ _ (by omega) ⟨_, i + 1, rfl, by omega, hv⟩)
  · rw [if_neg (by simp only [decide_eq_true_eq]; omega)]
    exact hK true v hv fun _ => by omega
def gh0 : Gh := ⟨⟨none, 0, 0⟩, ⟨none, 0, 0⟩, ⟨none, 0, 0⟩, ⟨none, 0, 0⟩, ⟨none, 0, 0⟩, ⟨none, 0, 0⟩, ⟨none, 0, 0⟩, 0, 0, 0, 0, 0, [], [], [], [], [], [], [], [], [], [], []⟩
theorem inv0 (f : Fr 0 0 w w') (hb : Blk w' w.heap.size (recW gh0)) : Inv w w' w.heap.size (tagN (fun _ => (0, 0)) w (1, 0)) gh0 0 := by
  have hr : rng 0 := ⟨by omega, by omega⟩
  refine ⟨⟨f, fun b hb => tagN_old (fun _ => (0, 0)) w (1, 0) b hb, tagN_new _ _ _ (Nat.le_refl _), fun k h2 h8 => ?_, fun B hB => by simp [gh0] at hB, fun B hB => by simp [gh0] at hB⟩, ⟨?_, ?_, ?_, ?_⟩, ?_, hb⟩
  · rcases kc h2 h8 with rfl | rfl | rfl | rfl | rfl | rfl | rfl <;> exact ⟨OS.nil _ _, fun b hb => by simp [outer, gh0, owns] at hb⟩
  · intro i s hs; simp [gh0] at hs
  · intro i s hs; simp [gh0] at hs
  · intro i s hs; simp [gh0] at hs
  · intro i s hs; simp [gh0] at hs
  · exact ⟨by omega, by simp [gh0], by simp [gh0], by simp [gh0], by simp [gh0], by simp [gh0], by simp [gh0], by simp [gh0], by simp [gh0], by simp [gh0], fun e he => by simp [gh0] at he, fun e he => by simp [gh0] at he, hr, hr, hr, fun e he => by simp [gh0] at he, fun e he => by simp [gh0] at he⟩
theorem upTo_spec {s : Sl} {K : Int → World → Prop} (h : ScS w s) (hl : s.l ≤ 1073741824) (hK : ∀ w', Fr 0 0 w w' → K (-1) w') : S.towerexact_ExactUpTo s w K := by
  unfold S.towerexact_ExactUpTo
  refine newB fun w1 b1 f1 s1 => ?_
  have h1 := inv0 f1 b1
  generalize tagN (fun _ => (0, 0)) w (1, 0) = T1 at *
  generalize hp : w.heap.size = p at *
  refine loopN (fun m st v => ∃ (i : Nat) (T : Nat → Tag) (d : Gh), st = ((i : Int), ()) ∧ m + i = s.l ∧ Inv w v p T d i ∧ Full d) s.l ⟨0, T1, gh0, rfl, rfl, h1, ⟨rfl, rfl, rfl, rfl⟩⟩ ?_
  rintro m _ v ⟨i, T, d, rfl, hm, hv, hF⟩ Q hQ
  dsimp only
  by_cases hi : i < s.l
  · rw [if_pos (by simp only [decide_eq_true_eq]; omega)]
    have h2 : ScS v s := h.fr hv.core.old
    rcases h2.ex with e | ⟨b, o, g1, _, h3⟩
    · omega
    obtain ⟨k, x, y, z, S_, T_, c0, c1, c2, c3, c4, c5, rx, ry, rz⟩ := h3 i hi
    refine ix g1 (by omega) (by omega) ?_
    rw [Int.toNat_natCast]
    refine ⟨k, c0, x, c1, y, c2, z, c3, S_, c4, T_, c5, ?_⟩
    refine step_spec hv hF (by omega) rx ry rz fun v1 T1 d1 h4 hF1 => ?_
    rw [if_neg (by simp)]
    refine looks_spec h4 hF1 fun v2 hv2 => ?_
    rw [if_neg (by simp), W_succ (by omega)]
    exact let_ (hQ (m - 1) _ _ (by omega) ⟨i + 1, T1, d1, rfl, by omega, h4.heq hv2, hF1⟩)
  · rw [if_neg (by simp only [decide_eq_true_eq]; omega)]
    exact hK v hv.core.old
theorem Exact_spec {s : Sl} {K : Bool → World → Prop} (h : ScS w s) (hK : ∀ w', Fr 0 0 w w' → K true w') : S.towerexact_Exact s w K := by
  unfold S.towerexact_Exact
  refine small_spec h fun r v hv hl => ?_
  have fv : Fr 0 0 w v := Fr.heq (Fr.refl 0 0 w) hv
  cases r
  · rw [if_pos (by simp)]
    exact hK v fv
  rw [if_neg (by simp)]
  refine upTo_spec (h.fr fv) (hl rfl) fun w' f => ?_
  exact hK w' (fv.trans f)
end Go.Proofs.Qxb6500563aGreat
