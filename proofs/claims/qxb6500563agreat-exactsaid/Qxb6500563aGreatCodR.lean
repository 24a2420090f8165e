/-
  The real coder: the tables' walk, Find, Code.
-/
import Derived.Test.Qxb6500563aGreatHufW
import Derived.Test.Qxb6500563aGreatCodU
namespace Go.Proofs.Qxb6500563aGreat
open Go.Den Go.Zip
set_option linter.unusedVariables false
set_option linter.unusedSimpArgs false
variable {w w' : World} {C : Nat} {s : CS}

theorem huff_flip_spec {v k : Nat} {K : Int → World → Prop} (hv : v < 65536) (hk : k ≤ 15) (hK : K (rev v k : Int) w) : S.huff_flip (v : Int) (k : Int) w K := by
  unfold S.huff_flip
  refine loopN (fun m st u => ∃ j : Nat, st = (((v / 2 ^ j : Nat) : Int), ((k - j : Nat) : Int), (rev v j : Int), ()) ∧ m + j = k ∧ u = w) k ⟨0, by simp [rev], rfl, rfl⟩ ?_
  rintro m _ u ⟨j, rfl, hm, rfl⟩ Q hQ
  dsimp only
  by_cases hlt : j < k
  · rw [if_pos (by simp only [decide_eq_true_eq]; omega)]
    have hd : v / 2 ^ j < 65536 := Nat.lt_of_le_of_lt (Nat.div_le_self _ _) hv
    have hb := bit_step (v := v / 2 ^ j) (r := rev v j) (k := 0) hd
    have hr := rev_lt v j
    have hp : 2 ^ j ≤ 2 ^ 15 := Nat.pow_le_pow_right (by omega) (by omega)
    have e1 : Or .i64 (Shl .i64 (rev v j : Int) 1) (And .i64 ((v / 2 ^ j : Nat) : Int) 1) = ((rev v (j + 1) : Nat) : Int) := by
      rw [show Shl .i64 (rev v j : Int) 1 = ((rev v j * 2 ^ 1 : Nat) : Int) from Shl_nat (rev v j) 1 (by omega) (by omega)]
      rw [show And .i64 ((v / 2 ^ j : Nat) : Int) 1 = ((v / 2 ^ j % 2 : Nat) : Int) from by
        rw [show v / 2 ^ j % 2 = v / 2 ^ j &&& (2 ^ 1 - 1) from by rw [and_mask]]; exact_mod_cast And_nat (b := 1) (by omega) (by omega)]
      rw [Or_nat (by omega) (by omega)]
      congr 1
      rw [Nat.mul_comm (rev v j), ← Nat.two_pow_add_eq_or_of_lt (by omega : v / 2 ^ j % 2 < 2 ^ 1)]
      rfl
    have e2 : Shr .i64 ((v / 2 ^ j : Nat) : Int) 1 = ((v / 2 ^ (j + 1) : Nat) : Int) := by
      rw [show Shr .i64 ((v / 2 ^ j : Nat) : Int) 1 = ((v / 2 ^ j / 2 ^ 1 : Nat) : Int) from Shr_nat _ 1 (by omega), Nat.div_div_eq_div_mul, ← Nat.pow_add]
    rw [e1, e2, show W (((k - j : Nat) : Int) - 1) = ((k - (j + 1) : Nat) : Int) from by rw [W_id (by omega) (by omega)]; omega]
    exact let_ (let_ (let_ (hQ (m - 1) _ _ (by omega) ⟨j + 1, rfl, by omega, rfl⟩)))
  · rw [if_neg (by simp only [decide_eq_true_eq]; omega)]
    have : j = k := by omega
    subst this
    exact hK

theorem PW.setRoot (h : PW w C s) {v : Nat → Int} (hb : Blk w' (C + 3) (ints (tab 64 v))) (f : Fr (C + 3) 1 w w') : PW w' C { s with root := v } :=
  ⟨h.rc.fr f (by omega), h.lens.fr f (by omega), h.code.fr f (by omega), hb, h.sub.fr f (by omega), h.wt.fr f (by omega), h.ht.fr f (by omega), h.num.fr f (by omega), h.par.fr f (by omega), h.dep.fr f (by omega), h.heap.fr f (by omega)⟩
theorem PW.setSub (h : PW w C s) {v : Nat → Nat} (hb : Blk w' (C + 4) (nats 1024 v)) (f : Fr (C + 4) 1 w w') : PW w' C { s with sub := v } :=
  ⟨h.rc.fr f (by omega), h.lens.fr f (by omega), h.code.fr f (by omega), h.root.fr f (by omega), hb, h.wt.fr f (by omega), h.ht.fr f (by omega), h.num.fr f (by omega), h.par.fr f (by omega), h.dep.fr f (by omega), h.heap.fr f (by omega)⟩
theorem PW.setLens (h : PW w C s) {v : Nat → Nat} (hb : Blk w' (C + 1) (nats 265 v)) (f : Fr (C + 1) 1 w w') : PW w' C { s with lens := v } :=
  ⟨h.rc.fr f (by omega), hb, h.code.fr f (by omega), h.root.fr f (by omega), h.sub.fr f (by omega), h.wt.fr f (by omega), h.ht.fr f (by omega), h.num.fr f (by omega), h.par.fr f (by omega), h.dep.fr f (by omega), h.heap.fr f (by omega)⟩
theorem PW.setCode (h : PW w C s) {v : Nat → Nat} (hb : Blk w' (C + 2) (nats 265 v)) (f : Fr (C + 2) 1 w w') : PW w' C { s with code := v } :=
  ⟨h.rc.fr f (by omega), h.lens.fr f (by omega), hb, h.root.fr f (by omega), h.sub.fr f (by omega), h.wt.fr f (by omega), h.ht.fr f (by omega), h.num.fr f (by omega), h.par.fr f (by omega), h.dep.fr f (by omega), h.heap.fr f (by omega)⟩
theorem PW.setN (h : PW w C s) {v : Nat} (hb : Blk w' C ((rcd C s).set 0 (.int .i64 (v : Int)))) (f : Fr C 1 w w') : PW w' C { s with n := v } :=
  ⟨hb, h.lens.fr f (by omega), h.code.fr f (by omega), h.root.fr f (by omega), h.sub.fr f (by omega), h.wt.fr f (by omega), h.ht.fr f (by omega), h.num.fr f (by omega), h.par.fr f (by omega), h.dep.fr f (by omega), h.heap.fr f (by omega)⟩
theorem PW.setTop (h : PW w C s) {v : Nat} (hb : Blk w' C ((rcd C s).set 5 (.int .i64 (v : Int)))) (f : Fr C 1 w w') : PW w' C { s with top := v } :=
  ⟨hb, h.lens.fr f (by omega), h.code.fr f (by omega), h.root.fr f (by omega), h.sub.fr f (by omega), h.wt.fr f (by omega), h.ht.fr f (by omega), h.num.fr f (by omega), h.par.fr f (by omega), h.dep.fr f (by omega), h.heap.fr f (by omega)⟩

/-- The coder holds the code of the lengths l: what Code and Find lean on. -/
structure HoldsC (s : CS) (n : Nat) (l : Nat → Nat) : Prop where
  sz : s.n = n
  lens : ∀ i, i < n → s.lens i = l i
  code : ∀ i, i < n → s.code i = codeOf n l i
  tabs : Tabs n l s.root s.sub

theorem huff_Code_spec {n i : Nat} {l : Nat → Nat} {K : Int → Int → Int → World → Prop} (h : PW w C s) (H : HoldsC s n l) (hn : n ≤ 265) (hi : i < n) (hl : 0 < l i) (hK : ∀ w', w'.heap = w.heap → K (codeOf n l i : Int) (l i : Int) 0 w') : S.huff_Coder_Code C (i : Int) w K := by
  unfold S.huff_Coder_Code
  have h1 := H.sz
  have h2 := H.lens i hi
  have h3 := H.code i hi
  refine join_ ?_
  rw [if_neg (by simp only [decide_eq_true_eq]; omega)]
  refine ldI h.rc rfl ?_
  rw [if_neg (by simp only [decide_eq_true_eq]; omega)]
  refine ldS h.rc rfl (rdN h.lens (by omega) ?_)
  rw [if_neg (by simp only [beq_iff_eq]; omega)]
  refine drew_ (ldS h.rc.drew rfl (rdN h.code.drew (by omega) (ldS h.rc.drew rfl (rdN h.lens.drew (by omega) ?_))))
  rw [h2, h3]
  exact hK _ rfl

theorem and_15' {a : Nat} (h : a < 9223372036854775808) : And .i64 (a : Int) 15 = ((a % 16 : Nat) : Int) := by
  rw [show a % 16 = a &&& (2 ^ 4 - 1) from by rw [and_mask]]
  exact_mod_cast And_nat (b := 15) h (by omega)
theorem and_63 {a : Nat} (h : a < 9223372036854775808) : And .i64 (a : Int) 63 = ((a % 64 : Nat) : Int) := by
  rw [show a % 64 = a &&& (2 ^ 6 - 1) from by rw [and_mask]]
  exact_mod_cast And_nat (b := 63) h (by omega)

theorem huff_Find_spec {n a hv : Nat} {l : Nat → Nat} {K : Int → Int → Int → World → Prop} (h : PW w C s) (H : HoldsC s n l) (L : Lens n l) (hc : checkE n l = 0) (hn : n ≤ 265) (hh : hv ≤ 16) (ha : a < 2 ^ hv)
    (hK : K ((findR n l a hv).1 : Int) ((findR n l a hv).2.1 : Int) ((findR n l a hv).2.2 : Int) w) : S.huff_Coder_Find C (a : Int) (hv : Int) w K := by
  have hp : 2 ^ hv ≤ 65536 := show 2 ^ hv ≤ 2 ^ 16 from Nat.pow_le_pow_right (by omega) hh
  unfold S.huff_Coder_Find
  refine join_ ?_
  rw [if_neg (by simp only [decide_eq_true_eq]; omega), if_neg (by simp only [decide_eq_true_eq]; omega), if_neg (by simp only [decide_eq_true_eq]; omega)]
  have hu : U64 (hv : Int) = (hv : Int) := U64_id (by omega) (by omega)
  refine ⟨by omega, ?_⟩
  rw [hu, Shr_nat _ _ (by omega), if_neg (by simp [Nat.div_eq_of_lt ha])]
  rw [and_63 (by omega)]
  refine ldS h.rc rfl ?_
  refine ix rfl (by omega) (by show ((a % 64 : Nat) : Int) < 64; omega) ?_
  refine ldZ h.root (by omega) ?_
  refine join_ ?_
  have hfind := find_tabs L hc H.tabs ha
  -- the cell's answer
  have cellK : ∀ c : Nat, c = cellAt s.root s.sub a → c < 65536 → (if ((c : Int) == 0) = true then
              K 0 0 8 w
            else
              Let (And .i64 (c : Int) 15) fun n_7 =>
              if (decide (n_7 > (hv : Int))) = true then
                K 0 0 4 w
              else
                K (Shr .i64 (c : Int) 4) n_7 0 w) := by
    intro c hce hcl
    rw [← hce] at hfind
    by_cases hz : c = 0
    · rw [if_pos (by simp [hz])]
      rw [hfind, if_pos hz] at hK
      exact hK
    · rw [if_neg (by simp [hz]), and_15' (by omega)]
      rw [hfind, if_neg hz] at hK
      refine let_ ?_
      by_cases hg : hv < c % 16
      · rw [if_pos (by simp only [decide_eq_true_eq]; omega)]
        rw [if_pos hg] at hK
        exact hK
      · rw [if_neg (by simp only [decide_eq_true_eq]; omega)]
        rw [if_neg hg] at hK
        rw [show Shr .i64 (c : Int) 4 = ((c / 16 : Nat) : Int) from by exact_mod_cast Shr_nat c 4 (by omega)]
        exact hK
  have csmall : cellAt s.root s.sub a < 65536 := by
    rcases Nat.eq_zero_or_pos (cellAt s.root s.sub a) with hz | hz
    · omega
    · obtain ⟨t, ht, hh⟩ := H.tabs.pos a hz
      have := H.tabs.hit a t ht hh
      have := L.le t ht
      omega
  by_cases hneg : s.root (a % 64) < 0
  · rw [if_pos (by simp only [decide_eq_true_eq]; omega)]
    obtain ⟨w1, w2⟩ := H.tabs.wid (a % 64) (by omega) hneg
    have hp1 := Nat.two_pow_pos ((-s.root (a % 64)).toNat % 16)
    have hcell : cellAt s.root s.sub a = s.sub ((-s.root (a % 64)).toNat / 16 + a / 64 % 2 ^ ((-s.root (a % 64)).toNat % 16)) := by unfold cellAt; rw [if_pos hneg]
    have hlk : W (0 - s.root (a % 64)) = (((-s.root (a % 64)).toNat : Nat) : Int) := by rw [W_id (by omega) (by omega)]; omega
    rw [hlk]
    generalize (-s.root (a % 64)).toNat = lk at *
    have hm := Nat.mod_lt (a / 64) hp1
    refine let_ ?_
    rw [and_15' (a := lk) (by omega)]
    refine ⟨(mask_and (a := 0) (k := lk % 16) (by omega) (by omega)).2, ?_⟩
    rw [show Shr .i64 (a : Int) 6 = ((a / 64 : Nat) : Int) from by exact_mod_cast Shr_nat a 6 (by omega)]
    rw [(mask_and (a := a / 64) (k := lk % 16) (by omega) (by omega)).1]
    refine let_ (ldS h.rc rfl ?_)
    rw [show Shr .i64 (lk : Int) 4 = ((lk / 16 : Nat) : Int) from by exact_mod_cast Shr_nat lk 4 (by omega), W_add (by omega)]
    refine rdN h.sub (by omega) ?_
    exact cellK _ hcell.symm (by rw [← hcell]; exact csmall)
  · rw [if_neg (by simp only [decide_eq_true_eq]; omega)]
    have hcell : cellAt s.root s.sub a = (s.root (a % 64)).toNat := by unfold cellAt; rw [if_neg hneg]
    rw [show s.root (a % 64) = (((s.root (a % 64)).toNat : Nat) : Int) from by omega]
    exact cellK _ hcell.symm (by rw [← hcell]; exact csmall)
end Go.Proofs.Qxb6500563aGreat
