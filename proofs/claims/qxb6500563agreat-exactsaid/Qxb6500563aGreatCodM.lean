/-
  The model's coder: Build, Code: their contracts.
-/
import Derived.Test.Qxb6500563aGreatHufN
import Derived.Test.Qxb6500563aGreatCodP
namespace Go.Proofs.Qxb6500563aGreat
open Go.Den Go.Zip
set_option linter.unusedVariables false
set_option linter.unusedSimpArgs false
variable {w w' : World} {sl : Sl} {cb n : Nat} {l : Nat → Nat}

/-- Build's answer. -/
def checkE (n : Nat) (l : Nat → Nat) : Nat := if 1024 < kr n l then 6 else if kr n l < 1024 ∧ 0 < usedN n l ∧ (1 < usedN n l ∨ kr n l ≠ 512) then 7 else 0

theorem huffm_Kraft_spec {K : Int → World → Prop} (h : IS w sl cb n l) (hn : n ≤ 265) (hl : ∀ i, i < n → l i ≤ 10) (hK : K (kr n l : Int) w) : S.huffm_Kraft sl w K := by
  unfold S.huffm_Kraft
  have hlen := h.len
  refine loopN (fun m st v => ∃ i : Nat, st = ((kr i l : Int), (i : Int), ()) ∧ m + i = n ∧ v = w) n ⟨0, rfl, rfl, rfl⟩ ?_
  rintro m _ v ⟨i, rfl, hm, rfl⟩ Q hQ
  dsimp only
  have hkl := kr_le i l
  by_cases hlt : i < n
  · rw [if_pos (by simp only [decide_eq_true_eq]; omega)]
    have e : kr (i + 1) l = kr i l + unit (l i) := rfl
    have hul := unit_le (l i)
    have h10 := hl i hlt
    refine join_ (rdS h hlt ?_)
    dsimp only
    by_cases hp : 0 < l i
    · rw [if_pos (by simp only [decide_eq_true_eq]; omega)]
      refine rdS h hlt ?_
      obtain ⟨u1, u2⟩ := unit_shl (x := l i) hp h10
      refine ⟨u2, ?_⟩
      rw [u1, W_add (by omega), W_succ (by omega), ← e]
      exact let_ (let_ (hQ (m - 1) _ _ (by omega) ⟨i + 1, rfl, by omega, rfl⟩))
    · rw [if_neg (by simp only [decide_eq_true_eq]; omega), W_succ (by omega)]
      have : unit (l i) = 0 := by unfold unit; rw [if_neg hp]
      exact let_ (hQ (m - 1) _ _ (by omega) ⟨i + 1, by rw [e, this]; rfl, by omega, rfl⟩)
  · rw [if_neg (by simp only [decide_eq_true_eq]; omega)]
    have : i = n := by omega
    subst this
    exact hK

set_option maxRecDepth 10000 in
theorem huffm_CheckLens_spec {K : Int → World → Prop} (h : IS w sl cb n l) (hn : n ≤ 265) (hl : ∀ i, i < n → l i ≤ 10) (hK : K (checkE n l : Int) w) : S.huffm_CheckLens sl w K := by
  unfold S.huffm_CheckLens
  have hlen := h.len
  rw [if_neg (by simp only [decide_eq_true_eq]; omega)]
  refine join_ ?_
  refine loopN (fun m st v => ∃ i : Nat, st = ((i : Int), ()) ∧ m + i = n ∧ v = w) n ⟨0, rfl, rfl, rfl⟩ ?_
  rintro m _ v ⟨i, rfl, hm, rfl⟩ Q hQ
  dsimp only
  by_cases hlt : i < n
  · rw [if_pos (by simp only [decide_eq_true_eq]; omega)]
    have h10 := hl i hlt
    refine rdS h hlt ?_
    rw [if_neg (by simp only [decide_eq_true_eq]; omega)]
    refine rdS h hlt ?_
    rw [if_neg (by simp only [decide_eq_true_eq]; omega), W_succ (by omega)]
    exact let_ (hQ (m - 1) _ _ (by omega) ⟨i + 1, rfl, by omega, rfl⟩)
  · rw [if_neg (by simp only [decide_eq_true_eq]; omega)]
    refine huffm_Kraft_spec h hn hl ?_
    unfold checkE at hK
    by_cases h1 : 1024 < kr n l
    · rw [if_pos h1] at hK
      rw [if_pos (by simp only [decide_eq_true_eq]; omega)]
      exact hK
    · rw [if_neg h1] at hK
      rw [if_neg (by simp only [decide_eq_true_eq]; omega)]
      refine huffm_Used_spec h (by omega) ?_
      by_cases h2 : kr n l < 1024
      · rw [if_pos (by simp only [decide_eq_true_eq]; omega)]
        by_cases h3 : 0 < usedN n l
        · rw [if_pos (by simp only [decide_eq_true_eq]; omega)]
          by_cases h4 : 1 < usedN n l
          · rw [if_pos (by simp only [decide_eq_true_eq]; omega)]
            rw [if_pos ⟨h2, h3, .inl h4⟩] at hK
            exact hK
          · rw [if_neg (by simp only [decide_eq_true_eq]; omega)]
            by_cases h5 : kr n l = 512
            · rw [if_neg (by simp only [bne_iff_ne, ne_eq]; omega)]
              rw [if_neg (by omega)] at hK
              exact hK
            · rw [if_pos (by simp only [bne_iff_ne, ne_eq]; omega)]
              rw [if_pos ⟨h2, h3, .inr h5⟩] at hK
              exact hK
        · rw [if_neg (by simp only [decide_eq_true_eq]; omega)]
          rw [if_neg (by omega)] at hK
          exact hK
      · rw [if_neg (by simp only [decide_eq_true_eq]; omega)]
        rw [if_neg (by omega)] at hK
        exact hK

theorem bit_step {v r k : Nat} (hv : v < 65536) (hr : r < 2 ^ k) (hk : k ≤ 15) : Or .i64 (Shl .i64 (r : Int) 1) (And .i64 (Shr .i64 (v : Int) (k : Int)) 1) = ((2 * r + v / 2 ^ k % 2 : Nat) : Int) := by
  have hp : 2 ^ k ≤ 2 ^ 15 := Nat.pow_le_pow_right (by omega) hk
  have hd : v / 2 ^ k < 65536 := Nat.lt_of_le_of_lt (Nat.div_le_self _ _) hv
  rw [show Shl .i64 (r : Int) 1 = ((r * 2 ^ 1 : Nat) : Int) from Shl_nat r 1 (by omega) (by omega), Shr_nat _ _ (by omega)]
  rw [show And .i64 ((v / 2 ^ k : Nat) : Int) 1 = ((v / 2 ^ k % 2 : Nat) : Int) from by
    rw [show v / 2 ^ k % 2 = v / 2 ^ k &&& (2 ^ 1 - 1) from by rw [and_mask]]; exact_mod_cast And_nat (b := 1) (by omega) (by omega)]
  rw [Or_nat (by omega) (by omega)]
  congr 1
  have hb := Nat.mod_two_eq_zero_or_one (v / 2 ^ k)
  rw [Nat.mul_comm r, show 2 ^ 1 * r = 2 ^ 1 * r from rfl, ← Nat.two_pow_add_eq_or_of_lt (by omega : v / 2 ^ k % 2 < 2 ^ 1)]

theorem huffm_turn_spec {v k : Nat} {K : Int → World → Prop} (hv : v < 65536) (hk : k ≤ 15) (hK : K (rev v k : Int) w) : S.huffm_turn (v : Int) (k : Int) w K := by
  unfold S.huffm_turn
  refine loopN (fun m st u => ∃ j : Nat, st = ((rev v j : Int), (j : Int), ()) ∧ m + j = k ∧ u = w) k ⟨0, rfl, rfl, rfl⟩ ?_
  rintro m _ u ⟨j, rfl, hm, rfl⟩ Q hQ
  dsimp only
  by_cases hlt : j < k
  · rw [if_pos (by simp only [decide_eq_true_eq]; omega), U64_id (by omega) (by omega), bit_step hv (rev_lt v j) (by omega), W_succ (by omega)]
    exact ⟨by omega, let_ (let_ (hQ (m - 1) _ _ (by omega) ⟨j + 1, rfl, by omega, rfl⟩))⟩
  · rw [if_neg (by simp only [decide_eq_true_eq]; omega)]
    have : j = k := by omega
    subst this
    exact hK

/-- The model's coder with the code of the lengths l. -/
structure MCod (w : World) (p x y n : Nat) (l : Nat → Nat) : Prop where
  rc : Blk w p [.slice (some ⟨x, 0, none⟩) n n, .slice (some ⟨y, 0, none⟩) n n]
  lens : Blk w x (nats n l)
  code : Blk w y (nats n (codeOf n l))
theorem MCod.heq {p x y : Nat} (h : MCod w p x y n l) (e : w'.heap = w.heap) : MCod w' p x y n l := ⟨h.rc.heq e, h.lens.heq e, h.code.heq e⟩
theorem MCod.fr {p x y q m : Nat} (h : MCod w p x y n l) (f : Fr q m w w') (h1 : p < q ∨ q + m ≤ p) (h2 : x < q ∨ q + m ≤ x) (h3 : y < q ∨ q + m ≤ y) : MCod w' p x y n l := ⟨h.rc.fr f h1, h.lens.fr f h2, h.code.fr f h3⟩
/-- The lengths are lawful just where Build answers OK. -/
theorem lens_ok (h : checkE n l = 0) (hl : ∀ i, i < n → l i ≤ 10) : Lens n l := ⟨hl, by unfold checkE at h; split at h <;> omega⟩
theorem first_bound (L : Lens n l) (k : Nat) (hk : k + 1 ≤ 10) : first n l (k + 1) + cntL n l (k + 1) ≤ 1024 := by
  have e := first_kr n l k hk
  have s := krTo_succ n l k
  rw [← e, ← Nat.add_mul] at s
  have m := krTo_mono n l hk
  rw [krTo_ten L.le] at m
  have kk := L.kr
  have hp := Nat.two_pow_pos (10 - (k + 1))
  have := Nat.le_mul_of_pos_right (first n l (k + 1) + cntL n l (k + 1)) hp
  omega

/-- What the code list holds while the lengths up to k, and of length k+1 the symbols below j, are done. -/
def part (n : Nat) (l : Nat → Nat) (k j : Nat) : Nat → Nat := fun s => if l s ≤ k ∨ (l s = k + 1 ∧ s < j) then codeOf n l s else 0
theorem part_zero (n : Nat) (l : Nat → Nat) : ∀ s, s < n → (fun _ => 0) s = part n l 0 0 s := fun s _ => by
  unfold part
  by_cases h : l s = 0
  · rw [if_pos (by omega)]; simp [codeOf, h, rev]
  · rw [if_neg (by omega)]
theorem part_next (n : Nat) (l : Nat → Nat) (k : Nat) : ∀ s, s < n → part n l k n s = part n l (k + 1) 0 s := fun s hs => by
  unfold part
  by_cases h : l s ≤ k + 1
  · rw [if_pos (by omega), if_pos (by omega)]
  · rw [if_neg (by omega), if_neg (by omega)]
theorem part_hit {n : Nat} {l : Nat → Nat} {k j : Nat} (h : l j = k + 1) : fset (part n l k j) j (codeOf n l j) = part n l k (j + 1) := by
  funext s
  unfold fset part
  by_cases hs : s = j
  · subst hs; rw [if_pos rfl, if_pos (by omega)]
  · rw [if_neg hs]
    by_cases hp : l s ≤ k ∨ (l s = k + 1 ∧ s < j)
    · rw [if_pos hp, if_pos (by omega)]
    · rw [if_neg hp, if_neg (by omega)]
theorem part_miss {n : Nat} {l : Nat → Nat} {k j : Nat} (h : l j ≠ k + 1) : part n l k j = part n l k (j + 1) := by
  funext s
  unfold part
  by_cases hp : l s ≤ k ∨ (l s = k + 1 ∧ s < j)
  · rw [if_pos hp, if_pos (by omega)]
  · rw [if_neg hp, if_neg]
    intro hq
    refine hp (hq.onto id fun hh => ⟨hh.1, ?_⟩)
    rcases Nat.lt_or_ge s j with h3 | h3
    · exact h3
    · exact absurd (by rw [← show s = j from by omega]; exact hh.1) h
def nxt (n : Nat) (l : Nat → Nat) (k : Nat) : Nat := first n l k + if k = 0 then 0 else cntL n l k

theorem huffm_Build_spec {p : Nat} {u1 u2 : Value} {K : Int → World → Prop} (hp : Blk w p [u1, u2]) (h : IS w sl cb n l) (hcp : cb ≠ p) (hn : n ≤ 265) (hl : ∀ i, i < n → l i ≤ 10)
    (hbad : checkE n l ≠ 0 → K (checkE n l : Int) w)
    (hK : checkE n l = 0 → ∀ w' x y, MCod w' p x y n l → w.heap.size ≤ x → w.heap.size ≤ y → Fr p 1 w w' → K 0 w') : S.huffm_Coder_Build p sl w K := by
  unfold S.huffm_Coder_Build
  refine huffm_CheckLens_spec h hn hl ?_
  by_cases hz : checkE n l = 0
  · rw [hz, if_neg (by simp)]
    have L := lens_ok hz hl
    have hpl := hp.lt
    have hcl := h.lt
    refine api_CopyInts_spec h (by omega) fun w1 b1 f1 s1 => ?_
    refine st1 (hp.fr f1 (by omega)) (by simp) fun w2 r2 f2 s2 => ?_
    rw [h.len]
    refine mkN (by omega) fun w3 b3 f3 s3 => ?_
    refine st1 (r2.fr f3 (by omega)) (by simp) fun w4 r4 f4 s4 => ?_
    have hx4 := ((b1.fr f2 (by omega)).fr f3 (by omega)).fr f4 (by omega)
    have hy4 := b3.fr f4 (by omega)
    rw [show w2.heap.size = w.heap.size + 1 from by omega] at *
    have f04 : Fr p 1 w w4 := (((f1.any p 1).trans f2).then0 f3).trans f4
    have h4 := ((((h.fr f1 (by omega)).fr f2 (by omega)).fr f3 (by omega)).fr f4 (by omega))
    rw [nats_congr (part_zero n l)] at hy4
    generalize hX : w.heap.size = X at *
    refine loopN (fun m st v => ∃ k : Nat, st = ((nxt n l k : Int), ((k + 1 : Nat) : Int), ()) ∧ m + k = 10 ∧ Blk v p [.slice (some ⟨X, 0, none⟩) n n, .slice (some ⟨X + 1, 0, none⟩) n n] ∧ Blk v X (nats n l) ∧ Blk v (X + 1) (nats n (part n l k 0)) ∧ IS v sl cb n l ∧ Fr p 1 w v) 10
      ⟨0, rfl, rfl, r4, hx4, hy4, h4, f04⟩ ?_
    rintro m _ v ⟨k, rfl, hm, rv, xv, yv, hv, fv⟩ Q hQ
    dsimp only
    by_cases hk : k + 1 ≤ 10
    · rw [if_pos (by simp only [decide_eq_true_eq]; omega)]
      have hb := first_bound L k hk
      have hfe : first n l (k + 1) = 2 * nxt n l k := rfl
      rw [show Shl .i64 (nxt n l k : Int) 1 = ((first n l (k + 1) : Nat) : Int) from by
        rw [hfe, Nat.mul_comm]; exact Shl_nat (nxt n l k) 1 (by omega) (by omega)]
      refine let_ (join_ ?_)
      refine loopN (fun m' st v' => ∃ j : Nat, st = (((first n l (k + 1) + cntTo j fun t => l t == k + 1 : Nat) : Int), (j : Int), ()) ∧ m' + j = n ∧ Blk v' p [.slice (some ⟨X, 0, none⟩) n n, .slice (some ⟨X + 1, 0, none⟩) n n] ∧ Blk v' X (nats n l) ∧ Blk v' (X + 1) (nats n (part n l k j)) ∧ IS v' sl cb n l ∧ Fr p 1 w v') n
        ⟨0, rfl, rfl, rv, xv, yv, hv, fv⟩ ?_
      rintro m' _ v' ⟨j, rfl, hm', rv', xv', yv', hv', fv'⟩ Q' hQ'
      dsimp only
      have hcle : (cntTo j fun t => l t == k + 1) ≤ j := cntTo_le j _
      by_cases hj : j < n
      · rw [if_pos (by simp only [decide_eq_true_eq]; omega)]
        refine join_ (rdS' hv' hj ?_)
        dsimp only
        by_cases hlj : l j = k + 1
        · rw [if_pos (by simp only [beq_iff_eq]; omega)]
          have hr := rank_lt (l := l) hj
          have hrk : (cntTo j fun t => l t == k + 1) = rank l j := by unfold rank; rw [hlj]
          have hnum : first n l (k + 1) + (cntTo j fun t => l t == k + 1) = numOf n l j := by unfold numOf; rw [hlj, hrk]
          rw [hlj] at hr
          refine drew_ ?_
          show Hold _ _ _ _
          unfold Hold
          refine ldS rv'.drew rfl ?_
          refine huffm_turn_spec (by omega) (by omega) ?_
          refine ⟨fun i hi => rfl, ?_⟩
          refine wrN (v := codeOf n l j) yv'.drew hj (by unfold codeOf; rw [hnum, hlj]) fun v2 d2 g2 _ => ?_
          rw [part_hit hlj] at d2
          rw [W_succ (by omega), W_succ (by omega)]
          have g2' : Fr (X + 1) 1 v' v2 := g2
          refine let_ (let_ (hQ' (m' - 1) _ _ (by omega) ⟨j + 1, ?_, by omega, rv'.fr g2' (by omega), xv'.fr g2' (by omega), d2, hv'.fr g2' (by omega), fv'.thenNew g2' (by omega)⟩))
          rw [cntTo_succ]
          simp [hlj]
          omega
        · rw [if_neg (by simp only [beq_iff_eq]; omega), W_succ (by omega)]
          rw [part_miss hlj] at yv'
          refine let_ (hQ' (m' - 1) _ _ (by omega) ⟨j + 1, ?_, by omega, rv', xv', yv', hv', fv'⟩)
          rw [cntTo_succ]
          simp [hlj]
      · rw [if_neg (by simp only [decide_eq_true_eq]; omega)]
        have : j = n := by omega
        subst this
        rw [nats_congr (part_next j l k)] at yv'
        rw [W_succ (by omega)]
        refine let_ (hQ (m - 1) _ _ (by omega) ⟨k + 1, ?_, by omega, rv', xv', yv', hv', fv'⟩)
        unfold nxt
        rw [if_neg (by omega)]
        rfl
    · rw [if_neg (by simp only [decide_eq_true_eq]; omega)]
      have : k = 10 := by omega
      subst this
      refine hK hz v X (X + 1) ⟨rv, xv, ?_⟩ (by omega) (by omega) fv
      rw [nats_congr (g := part n l 10 0) fun s hs => by unfold part; rw [if_pos (.inl (hl s hs))]]
      exact yv
  · rw [if_pos (by simp only [bne_iff_ne, ne_eq]; omega)]
    exact hbad hz
end Go.Proofs.Qxb6500563aGreat
