/-
  The code, plain: how long it is; its calls.
-/
import Derived.Test.Qxb6500562aGreatGnG
import Derived.Test.Qxb6500562aGreatTyS
namespace Go.Proofs.Qxb6500562aGreat
open Go.Den Go.Zip
set_option linter.unusedVariables false
set_option linter.unusedSimpArgs false
variable {ns : List Nd} {x lo hi t : Int} {n p : Nat} {T R : List Int} {fs : List Fn} {li lr ret : Int}

theorem row_len {f : Int → Nat → List Sym} {hi : Int} (hf : ∀ y lo p, 0 ≤ lo → lo ≤ y → y ≤ hi → GI ns lo y → ((f y p).length : Int) ≤ 15 * (y + 1 - lo)) : ∀ (l : List Int) (lo : Int) (p : Nat), 0 ≤ lo → (∀ y ∈ l, lo ≤ y ∧ y ≤ hi) → (∀ y, l.head? = some y → GI ns lo y) → Segs ns l → lo ≤ hi + 1 → ((rowS f l p).length : Int) ≤ 15 * (hi + 1 - lo)
  | [], lo, p, h0, hm, hg, hs, hl => by simp only [rowS, List.length_nil]; omega
  | y :: l, lo, p, h0, hm, hg, hs, hl => by
    have hy := hm y (.head _)
    have a := hf y lo p h0 hy.1 hy.2 (hg y rfl)
    have hp := List.pairwise_cons.1 hs.inc
    have b := row_len hf l (y + 1) (p + (f y p).length) (by omega) (fun z hz => ⟨by have := hp.1 z hz; omega, (hm z (.tail _ hz)).2⟩) (fun z hz => by
      cases l with
      | nil => cases hz
      | cons q l => cases hz; exact hs.1.2) hs.2 (by omega)
    simp only [rowS, List.length_append]
    omega
set_option maxHeartbeats 1000000 in
theorem sE_len (good : Good 0 ns) : ∀ (n : Nat) (x lo : Int) (p : Nat), 0 ≤ lo → lo ≤ x → x < ns.length → GI ns lo x → ((sE ns T R n x p).length : Int) ≤ 15 * (x + 1 - lo)
  | 0, x, lo, p, h0, h1, h2, hg => by simp only [sE, List.length_nil]; omega
  | n + 1, x, lo, p, h0, h1, h2, hg => by
    have ih := sE_len good n
    have ho := hg x h1 (Int.le_refl _)
    obtain ⟨_, hs⟩ := good x (by omega) h2
    by_cases k1 : (ndAt ns x).kind = 10 ∨ (ndAt ns x).kind = 11
    · rw [sE_num k1, numS_len]; omega
    by_cases k2 : (ndAt ns x).kind = 12
    · rw [sE_12 k2, byS_len]; simp only [List.length_cons, List.length_nil]; omega
    by_cases k3 : (ndAt ns x).kind = 17
    · rw [sE_17 k3, byS_len]; simp only [List.length_cons, List.length_nil]; omega
    by_cases k4 : (ndAt ns x).kind = 19
    · obtain ⟨i1, _⟩ := ho.f19 k4
      have l1 := i1.1; have l2 := i1.2.1
      have a := ih (ndAt ns x).a lo p h0 i1.1 (by omega) (hg.sub (by omega))
      rw [sE_19 k4, List.length_append, byS_len]; simp only [List.length_cons, List.length_nil]; omega
    by_cases k5 : (ndAt ns x).kind = 18
    · obtain ⟨i1, i2, _⟩ := ho.f18 k5
      obtain ⟨g1, g2⟩ := hs.s2 (.inr (.inl k5))
      have l1 := i1.1; have l2 := i1.2.1; have l3 := i2.2.1
      have a := ih (ndAt ns x).a lo p h0 i1.1 (by omega) (hg.sub (by omega))
      have b := fun q => ih (ndAt ns x).b ((ndAt ns x).a + 1) q (by omega) (by omega) (by omega) g2
      by_cases v1 : (ndAt ns x).val = 37
      · rw [sE_37 k5 v1, List.length_append, shortS_len]
        have := b (p + (sE ns T R n (ndAt ns x).a p).length + 3)
        omega
      · by_cases v2 : (ndAt ns x).val = 38
        · rw [sE_38 k5 v2, List.length_append, shortS_len]
          have := b (p + (sE ns T R n (ndAt ns x).a p).length + 3)
          omega
        · rw [sE_18 k5 v1 v2, List.length_append, List.length_append, byS_len]
          have := b (p + (sE ns T R n (ndAt ns x).a p).length)
          simp only [List.length_cons, List.length_nil]
          omega
    by_cases k6 : (ndAt ns x).kind = 14
    · obtain ⟨i1, i2⟩ := ho.f14 k6
      obtain ⟨g1, g2⟩ := hs.s2 (.inl k6)
      have l1 := i1.1; have l2 := i1.2.1; have l3 := i2.2.1
      have a := ih (ndAt ns x).a lo p h0 i1.1 (by omega) (hg.sub (by omega))
      have b := ih (ndAt ns x).b ((ndAt ns x).a + 1) (p + (sE ns T R n (ndAt ns x).a p).length) (by omega) (by omega) (by omega) g2
      rw [sE_14 k6, List.length_append, List.length_append, byS_len]; simp only [List.length_cons, List.length_nil]; omega
    by_cases k7 : (ndAt ns x).kind = 15
    · obtain ⟨i1, _⟩ := ho.f15 k7
      have l1 := i1.1; have l2 := i1.2.1
      have a := ih (ndAt ns x).a lo p h0 i1.1 (by omega) (hg.sub (by omega))
      rw [sE_15 k7, List.length_append, byS_len]; simp only [List.length_cons, List.length_nil]; omega
    by_cases k8 : (ndAt ns x).kind = 16
    · have i1 := ho.f16 k8
      have l1 := i1.1; have l2 := i1.2.1
      have a := ih (ndAt ns x).a lo p h0 i1.1 (by omega) (hg.sub (by omega))
      rw [sE_16 k8, List.length_append, byS_len]; simp only [List.length_cons, List.length_nil]; omega
    by_cases k9 : (ndAt ns x).kind = 13
    · have hr := rowE_of good h0 h1 h2 hg k9
      have a := row_len (f := sE ns T R n) (hi := x - 1) (ns := ns) (fun y lo p q0 q1 q2 q3 => ih y lo p q0 q1 (by omega) q3) (kids ns (ndAt ns x).a) lo p h0 (fun y hy => ⟨(hr.1 y hy).1, (hr.1 y hy).2.1⟩) hr.2.1 hr.2.2 (by omega)
      rw [sE_13 k9, List.length_append]; simp only [List.length_cons, List.length_nil]; omega
    · have : sE ns T R (n + 1) x p = [] := by
        conv => lhs; unfold sE
        rw [if_neg k1, if_neg k2, if_neg k3, if_neg k4, if_neg k5, if_neg k6, if_neg k7, if_neg k8, if_neg k9]
      rw [this]; simp only [List.length_nil]; omega
theorem blk_len {f : Int → Nat → List Sym} {b : Int} (good : Good 0 ns) (h0 : 0 ≤ lo) (h1 : lo ≤ b) (h2 : b < ns.length) (hg : GI ns lo b) (hk : (ndAt ns b).kind = 2) (hf : ∀ y lo p, 0 ≤ lo → lo ≤ y → y ≤ b - 1 → GI ns lo y → ((f y p).length : Int) ≤ 15 * (y + 1 - lo)) : ((blkS ns f b p).length : Int) ≤ 15 * (b - lo) := by
  have hr := rowT_of good h0 h1 h2 hg hk
  have a := row_len (f := f) (hi := b - 1) (ns := ns) hf (kids ns (ndAt ns b).a) lo p h0 (fun y hy => ⟨(hr.1 y hy).1, (hr.1 y hy).2.1⟩) hr.2.1 hr.2.2 (by omega)
  unfold blkS; omega
set_option maxHeartbeats 1000000 in
theorem sS_len (good : Good 0 ns) : ∀ (n : Nat) (x lo : Int) (p : Nat), 0 ≤ lo → lo ≤ x → x < ns.length → GI ns lo x → ((sS ns T R n x p).length : Int) ≤ 15 * (x + 1 - lo)
  | 0, x, lo, p, h0, h1, h2, hg => by simp only [sS, List.length_nil]; omega
  | n + 1, x, lo, p, h0, h1, h2, hg => by
    have ih := sS_len good n
    have ie := sE_len (T := T) (R := R) good ns.length
    have ho := hg x h1 (Int.le_refl _)
    obtain ⟨_, hs⟩ := good x (by omega) h2
    by_cases k3 : (ndAt ns x).kind = 3
    · have i1 := (ho.f3 k3).1
      have l1 := i1.1; have l2 := i1.2.1
      have a := ie (ndAt ns x).a lo p h0 i1.1 (by omega) (hg.sub (by omega))
      rw [sS_3 k3, List.length_append, byS_len]; unfold sX; simp only [List.length_cons, List.length_nil]; omega
    by_cases k4 : (ndAt ns x).kind = 4
    · obtain ⟨i1, i2, i3⟩ := ho.f4 k4
      obtain ⟨g1, g2⟩ := hs.s2 (.inr (.inr (.inl k4)))
      have l1 := i1.1; have l2 := i1.2.1; have l3 := i3.2.1
      have b := fun q => ie (ndAt ns x).b ((ndAt ns x).a + 1) q (by omega) (by omega) (by omega) g2
      by_cases kl : (ndAt ns (ndAt ns x).a).kind = 12
      · rw [sS_4a k4 kl, List.length_append, byS_len]; unfold sX
        have := b p
        simp only [List.length_cons, List.length_nil]; omega
      · have kl4 := i2.resolve_left kl
        obtain ⟨j1, j2⟩ := (hg _ i1.1 (by omega)).f14 kl4
        obtain ⟨_, hsl⟩ := good (ndAt ns x).a (by omega) (by omega)
        obtain ⟨gl1, gl2⟩ := hsl.s2 (.inl kl4)
        have m1 := j1.1; have m2 := j1.2.1; have m3 := j2.2.1
        have a1 := ie (ndAt ns (ndAt ns x).a).a lo p h0 j1.1 (by omega) (hg.sub (by omega))
        have a2 := fun q => ie (ndAt ns (ndAt ns x).a).b ((ndAt ns (ndAt ns x).a).a + 1) q (by omega) (by omega) (by omega) gl2
        rw [sS_4b k4 kl, List.length_append, byS_len]
        unfold thenS sX
        simp only [List.length_append, List.length_cons, List.length_nil]
        generalize hA : sE ns T R ns.length (ndAt ns (ndAt ns x).a).a p = A at *
        have c2 := a2 (p + A.length)
        have c3 := b (p + (A.length + (sE ns T R ns.length (ndAt ns (ndAt ns x).a).b (p + A.length)).length))
        omega
    by_cases k5 : (ndAt ns x).kind = 5
    · obtain ⟨i1, i2, i3⟩ := ho.f5 k5
      obtain ⟨g1, g2⟩ := hs.s2 (.inr (.inr (.inr (.inl k5))))
      have l1 := i1.1; have l2 := i1.2.1; have l3 := i2.2.1
      have a := ie (ndAt ns x).a lo p h0 i1.1 (by omega) (hg.sub (by omega))
      have b := fun q => blk_len (p := q) (f := sS ns T R n) good (lo := (ndAt ns x).a + 1) (by omega) (by omega) (by omega) g2 i2.2.2 (fun y lo p q0 q1 q2 q3 => ih y lo p q0 q1 (by omega) q3)
      by_cases hc : (ndAt ns x).c < 0
      · rw [sS_5a k5 hc]
        simp only [List.length_append, jmpS_len]
        unfold sX
        have := b (p + (sE ns T R ns.length (ndAt ns x).a p).length + 3)
        omega
      · have i3 := i3.resolve_left (by omega)
        obtain ⟨g3, g4⟩ := hs.s5 k5 (by omega)
        have l4 := i3.2.1
        have cc := fun q => blk_len (p := q) (f := sS ns T R n) good (lo := (ndAt ns x).b + 1) (by omega) (by omega) (by omega) g4 i3.2.2 (fun y lo p q0 q1 q2 q3 => ih y lo p q0 q1 (by omega) q3)
        rw [sS_5b k5 hc]
        simp only [List.length_append, jmpS_len]
        unfold sX
        have c1 := b (p + (sE ns T R ns.length (ndAt ns x).a p).length + 3)
        have c2 := cc (p + (sE ns T R ns.length (ndAt ns x).a p).length + 3 + (blkS ns (sS ns T R n) (ndAt ns x).b (p + (sE ns T R ns.length (ndAt ns x).a p).length + 3)).length + 3)
        omega
    by_cases k6 : (ndAt ns x).kind = 6
    · obtain ⟨i1, i2⟩ := ho.f6 k6
      obtain ⟨g1, g2⟩ := hs.s2 (.inr (.inr (.inr (.inr k6))))
      have l1 := i1.1; have l2 := i1.2.1; have l3 := i2.2.1
      have a := ie (ndAt ns x).a lo p h0 i1.1 (by omega) (hg.sub (by omega))
      have b := blk_len (p := p + (sE ns T R ns.length (ndAt ns x).a p).length + 3) (f := sS ns T R n) good (lo := (ndAt ns x).a + 1) (by omega) (by omega) (by omega) g2 i2.2.2 (fun y lo p q0 q1 q2 q3 => ih y lo p q0 q1 (by omega) q3)
      rw [sS_6 k6]
      simp only [List.length_append, jmpS_len]
      unfold sX
      omega
    by_cases k7 : (ndAt ns x).kind = 7
    · have i1 := ho.f7 (.inl k7)
      have l1 := i1.1; have l2 := i1.2.1
      have a := ie (ndAt ns x).a lo p h0 i1.1 (by omega) (hg.sub (by omega))
      rw [sS_7 k7, List.length_append, byS_len]; unfold sX; simp only [List.length_cons, List.length_nil]; omega
    by_cases k8 : (ndAt ns x).kind = 8
    · have i1 := ho.f7 (.inr (.inl k8))
      have l1 := i1.1; have l2 := i1.2.1
      have a := ie (ndAt ns x).a lo p h0 i1.1 (by omega) (hg.sub (by omega))
      rw [sS_8 k8, List.length_append, byS_len]; unfold sX; simp only [List.length_cons, List.length_nil]; omega
    by_cases k9 : (ndAt ns x).kind = 9
    · have i1 := ho.f7 (.inr (.inr k9))
      have l1 := i1.1; have l2 := i1.2.1
      have a := ie (ndAt ns x).a lo p h0 i1.1 (by omega) (hg.sub (by omega))
      rw [sS_9 k9, List.length_append, byS_len]; unfold sX; simp only [List.length_cons, List.length_nil]; omega
    · have : sS ns T R (n + 1) x p = [] := by
        conv => lhs; unfold sS
        rw [if_neg k3, if_neg k4, if_neg k5, if_neg k6, if_neg k7, if_neg k8, if_neg k9]
      rw [this]; simp only [List.length_nil]; omega
theorem tailS_len (ret : Int) : (tailS ret).length ≤ 10 := by
  unfold tailS
  rw [List.length_append, byS_len]
  split
  · simp [byS_len]
  · rw [numS_len]; simp
/-- The block of a function's node. -/
theorem fn_blk (good : Good 0 ns) (h1 : lo ≤ x) (h2 : x < ns.length) (h0 : 0 ≤ lo) (hg : GI ns lo x) (hk : (ndAt ns x).kind = 0) : lo ≤ (ndAt ns x).b ∧ (ndAt ns x).b < x ∧ (ndAt ns (ndAt ns x).b).kind = 2 := by
  obtain ⟨_, hb, _⟩ := (hg x h1 (Int.le_refl _)).f0 hk
  exact ⟨hb.1, hb.2.1, hb.2.2⟩
theorem sF_len {f : Fn} (good : Good 0 ns) (h0 : 0 ≤ lo) (h1 : lo ≤ f.node) (h2 : f.node < ns.length) (hg : GI ns lo f.node) (hk : (ndAt ns f.node).kind = 0) : ((sF ns T R f p).length : Int) ≤ 15 * (f.node + 1 - lo) := by
  obtain ⟨b1, b2, b3⟩ := fn_blk good h1 h2 h0 hg hk
  have b := blk_len (p := p + 5) (f := sS ns T R ns.length) good (lo := lo) h0 b1 (by omega) (hg.sub (by omega)) b3 (fun y lo p q0 q1 q2 q3 => sS_len good _ y lo p q0 q1 (by omega) q3)
  have := tailS_len f.ret
  unfold sF headS
  simp only [List.length_append, byS_len, List.length_cons, List.length_nil]
  omega
end Go.Proofs.Qxb6500562aGreat
