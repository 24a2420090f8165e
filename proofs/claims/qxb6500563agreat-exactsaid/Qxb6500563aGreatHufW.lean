/-
  The real repair and Plan: their contracts.
-/
import Derived.Test.Qxb6500563aGreatHufV
namespace Go.Proofs.Qxb6500563aGreat
open Go.Den Go.Zip
set_option linter.unusedVariables false
set_option linter.unusedSimpArgs false
variable {w w' : World} {sl : Sl} {cb n : Nat} {c : Nat → Nat}

theorem huff_seek_spec {lb : Nat} {l : Nat → Nat} {lo hi : Nat} {rare : Bool} {sg : Int} {K : Int → World → Prop} (hcs : IS w sl cb n c) (hl : Blk w lb (nats n l)) (hn : n ≤ 265) (hsg : (rare = true ∧ sg = -1) ∨ (rare = false ∧ sg = 1)) (hcm : ∀ i, i < n → c i ≤ 1048576)
    (hK : ∀ w', w'.heap = w.heap → K (optI (pickTo c l lo hi rare n)) w') : S.huff_seek sl ⟨some ⟨lb, 0, none⟩, n, n⟩ (lo : Int) (hi : Int) sg w K := by
  unfold S.huff_seek
  refine loopN (fun m st w1 => ∃ i : Nat, st = (optI (pickTo c l lo hi rare i), (i : Int), ()) ∧ m = n - i ∧ i ≤ n ∧ w1.heap = w.heap) n ⟨0, rfl, rfl, by omega, rfl⟩ ?_
  rintro m _ w1 ⟨i, rfl, hm, hi', e1⟩ Q hQ
  dsimp only
  by_cases hlt : i < n
  · rw [if_pos (by simp only [decide_eq_true_eq]; omega)]
    have hl1 := hl.heq e1
    have hc1 := hcs.heq e1
    have next : ∀ (r : Int) (w2 : World), r = optI (pickTo c l lo hi rare (i + 1)) → w2.heap = w.heap → (Let (W ((i : Int) + 1)) fun i_4 => Q (r, i_4, ()) w2) := by
      intro r w2 hr e2
      rw [W_succ (by omega), hr]
      exact let_ (hQ (n - (i + 1)) _ _ (by omega) ⟨i + 1, rfl, rfl, by omega, e2⟩)
    refine join_ (rdN hl1 hlt ?_)
    rcases Nat.lt_or_ge (l i) lo with h1 | h1
    · rw [if_pos (by simp only [decide_eq_true_eq]; omega)]
      exact next _ _ (by rw [pickTo_pass (by omega)]) e1
    · rw [if_neg (by simp only [decide_eq_true_eq]; omega)]
      refine rdN hl1 hlt ?_
      by_cases h2 : l i ≤ hi
      · rw [if_neg (by simp only [decide_eq_true_eq]; omega)]
        have hsucc := pickTo_succ (c := c) (l := l) (rare := rare) (i := i) ⟨h1, h2⟩
        refine drew_ ?_
        rcases pickTo_spec c l lo hi rare i with ⟨e, _⟩ | ⟨b, e, b1, _⟩
        · rw [e] at hsucc ⊢
          rw [show optI none = -1 from rfl, if_pos (by simp)]
          exact next _ _ (by rw [hsucc]; rfl) e1
        · rw [e] at hsucc ⊢
          rw [show optI (some b) = (b : Int) from rfl, if_neg (by simp only [decide_eq_true_eq]; omega)]
          refine rdN hl1.drew hlt (rdN hl1.drew (by omega) ?_)
          have yes : ∀ w2 : World, beats c l rare i b = true → w2.heap = w.heap → (Let (W ((i : Int) + 1)) fun i_4 => Q ((i : Int), i_4, ()) w2) := fun w2 hb e2 => next _ _ (by rw [hsucc]; simp [hb, optI]) e2
          have nay : ∀ w2 : World, beats c l rare i b = false → w2.heap = w.heap → (Let (W ((i : Int) + 1)) fun i_4 => Q ((b : Int), i_4, ()) w2) := fun w2 hb e2 => next _ _ (by rw [hsucc]; simp [hb, optI]) e2
          by_cases h3 : l b < l i
          · rw [if_pos (by simp only [decide_eq_true_eq]; omega)]
            exact yes _ (by simp [beats, h3]) e1
          · rw [if_neg (by simp only [decide_eq_true_eq]; omega)]
            refine drew_ (rdN hl1.drew.drew hlt (rdN hl1.drew.drew (by omega) ?_))
            by_cases h4 : l i = l b
            · rw [if_pos (by simp only [beq_iff_eq]; omega)]
              have hc3 : IS w1.drew.drew sl cb n c := hc1.heq rfl
              refine rdS hc3 hlt (rdS hc3 (by omega) ?_)
              have m1 := hcm i hlt
              have m2 := hcm b (by omega)
              rcases hsg with ⟨rfl, rfl⟩ | ⟨rfl, rfl⟩
              · rw [W_id (by omega) (by omega), W_id (by omega) (by omega)]
                by_cases h5 : c i < c b
                · rw [if_pos (by simp only [decide_eq_true_eq]; omega)]
                  exact yes _ (by simp [beats, h4, h5]) e1
                · rw [if_neg (by simp only [decide_eq_true_eq]; omega)]
                  exact nay _ (by simp [beats, h4, h5]) e1
              · rw [W_id (by omega) (by omega), W_id (by omega) (by omega)]
                by_cases h5 : c b < c i
                · rw [if_pos (by simp only [decide_eq_true_eq]; omega)]
                  exact yes _ (by simp [beats, h4, h5]) e1
                · rw [if_neg (by simp only [decide_eq_true_eq]; omega)]
                  exact nay _ (by simp [beats, h4, h5]) e1
            · rw [if_neg (by simp only [beq_iff_eq]; omega)]
              exact nay _ (by simp [beats, h3, h4]) e1
      · rw [if_pos (by simp only [decide_eq_true_eq]; omega)]
        exact next _ _ (by rw [pickTo_pass (fun x => h2 x.2)]) e1
  · rw [if_neg (by simp only [decide_eq_true_eq]; omega)]
    have : i = n := by omega
    subst this
    exact hK w1 e1

/-- The second phase: while the sum is below one. -/
theorem huff_up {w0 : World} {lb : Nat} {l1 : Nat → Nat} {K : World → Prop} (hcs : IS w0 sl cb n c) (hne : cb ≠ lb) (hn : n ≤ 265) (hcm : ∀ i, i < n → c i ≤ 1048576) (h2 : 2 ≤ usedN n c) (hg : GoodL n c l1) (hk : kr n l1 ≤ 1024) (hb : Blk w lb (nats n l1)) (hf : Fr lb 1 w0 w)
    (hK : ∀ k w', Blk w' lb (nats n (iter (upS n c) k l1)) → 1024 ≤ kr n (iter (upS n c) k l1) → Fr lb 1 w0 w' → K w') :
      LoopP (σ := Int × Unit) (fun st4 w next5 =>
        if (decide (st4.1 < 1024)) = true then
          S.huff_seek sl ⟨some ⟨lb, 0, none⟩, n, n⟩ 2 10 1 w (fun r6 w =>
          Ix (some ⟨lb, 0, none⟩) n r6 fun b7 o8 =>
          LdI .i64 w ⟨b7, o8 + Int.toNat r6 * 1, none⟩ fun x_9 =>
          Pos (U64 (W (10 - x_9))) <|
          Let (W (st4.1 + (Shl .i64 1 (U64 (W (10 - x_9)))))) fun k_10 =>
          Ix (some ⟨lb, 0, none⟩) n r6 fun b11 o12 =>
          LdI .i64 w ⟨b11, o12 + Int.toNat r6 * 1, none⟩ fun x_13 =>
          Ix (some ⟨lb, 0, none⟩) n r6 fun b14 o15 =>
          St1 w ⟨b14, o15 + Int.toNat r6 * 1, none⟩ (.int .i64 (W (x_13 - 1))) fun w =>
          next5 (k_10, ()) w)
        else
          K w) ((kr n l1 : Int), ()) w := by
  refine loopN (fun m st w2 => ∃ (k : Nat) (l2 : Nat → Nat), l2 = iter (upS n c) k l1 ∧ st = ((kr n l2 : Int), ()) ∧ m + kr n l2 = 1024 ∧ Blk w2 lb (nats n l2) ∧ Fr lb 1 w0 w2) (1024 - kr n l1) ⟨0, l1, rfl, rfl, by omega, hb, hf⟩ ?_
  rintro m' _ w3 ⟨k', l2, hl2, rfl, hm', b3, f3⟩ Q' hQ'
  dsimp only
  have hg' := up_iter hg h2 hk k'
  rw [← hl2] at hg'
  have hh : kr n l2 < 1024 ∨ 1024 ≤ kr n l2 := Nat.lt_or_ge _ _
  cases hh with
  | inl hk' =>
    rw [if_pos (by simp only [decide_eq_true_eq]; omega), show (2 : Int) = ((2 : Nat) : Int) from rfl]
    obtain ⟨j, ej, j1, j2, j3, j4, j5, j6, j7⟩ := up_step hg'.1 h2 hk'
    have hcs3 := hcs.fr f3 (by omega)
    refine huff_seek_spec (hi := 10) (rare := false) hcs3 b3 hn (.inr ⟨rfl, rfl⟩) hcm fun w4 e4 => ?_
    rw [ej, show optI (some j) = (j : Int) from rfl]
    have b4 := b3.heq e4
    have hu1 := unit_pos (x := l2 j) (by omega)
    refine rdN b4 j1 ?_
    obtain ⟨u1, u2⟩ := unit_shl (x := l2 j) (by omega) (by omega)
    refine ⟨u2, ?_⟩
    rw [u1, W_add (by omega)]
    refine let_ (rdN b4 j1 (wrN (v := l2 j - 1) b4 j1 (by rw [W_id (by omega) (by omega)]; omega) fun w5 b5 f5 _ => ?_))
    rw [← j6]
    refine hQ' (1024 - kr n (fset l2 j (l2 j - 1))) _ _ (by omega) ⟨k' + 1, fset l2 j (l2 j - 1), ?_, rfl, by omega, b5, (Fr.heq f3 e4).trans f5⟩
    rw [← j4, hl2]; rfl
  | inr hk' =>
    rw [if_neg (by simp only [decide_eq_true_eq]; omega)]
    rw [hl2] at b3 hk'
    exact hK k' w3 b3 hk' f3

theorem huff_mend_spec {lb : Nat} {l : Nat → Nat} {K : World → Prop} (hcs : IS w sl cb n c) (hl : Blk w lb (nats n l)) (hne : cb ≠ lb) (hn : n ≤ 265) (hcm : ∀ i, i < n → c i ≤ 1048576) (hpos : ∀ i, i < n → (0 < l i ↔ 0 < c i)) (h2 : 2 ≤ usedN n c)
    (hK : ∀ w', Blk w' lb (nats n (repairL n c l)) → Fr lb 1 w w' → K w') : S.huff_mend sl ⟨some ⟨lb, 0, none⟩, n, n⟩ 10 w K := by
  have hu : usedN n c ≤ 1024 := by have : usedN n c ≤ n := cntTo_le n fun i => decide (0 < c i); omega
  unfold S.huff_mend
  rw [U64_id (by omega) (by omega), show Shl .i64 1 10 = 1024 from rfl]
  refine ⟨by omega, let_ (join_ ?_)⟩
  dsimp only
  refine loopN (fun m st w1 => ∃ i : Nat, st = ((kr i (cut l) : Int), (i : Int), ()) ∧ m = n - i ∧ i ≤ n ∧ Blk w1 lb (nats n (mix i (cut l) l)) ∧ Fr lb 1 w w1) n ⟨0, rfl, rfl, by omega, by rw [mix_zero]; exact hl, Fr.refl _ _ _⟩ ?_
  rintro m _ w1 ⟨i, rfl, hm, hi', b1, f1⟩ Q hQ
  dsimp only
  have hkl := kr_le i (cut l)
  by_cases hlt : i < n
  · rw [if_pos (by simp only [decide_eq_true_eq]; omega)]
    have hstep : kr (i + 1) (cut l) = kr i (cut l) + unit (cut l i) := rfl
    have hul := unit_le (cut l i)
    have next : ∀ (w2 : World), Blk w2 lb (nats n (mix (i + 1) (cut l) l)) → Fr lb 1 w w2 → (Let (W ((i : Int) + 1)) fun i_33 => Q (((kr (i + 1) (cut l) : Nat) : Int), i_33, ()) w2) := by
      intro w2 b2 f2
      rw [W_succ (by omega)]
      exact let_ (hQ (n - (i + 1)) _ _ (by omega) ⟨i + 1, rfl, rfl, by omega, b2, f2⟩)
    refine join_ (rdN b1 hlt (join_ ?_))
    dsimp only
    rw [mix_get]
    have tail : ∀ (w2 : World), Blk w2 lb (nats n (mix (i + 1) (cut l) l)) → Fr lb 1 w w2 → (Ix (some ⟨lb, 0, none⟩) n (i : Int) fun b38 o39 =>
        LdI .i64 w2 ⟨b38, o39 + Int.toNat (i : Int) * 1, none⟩ fun x_40 =>
        if (decide (x_40 > 0)) = true then
          Ix (some ⟨lb, 0, none⟩) n (i : Int) fun b41 o42 =>
          LdI .i64 w2 ⟨b41, o42 + Int.toNat (i : Int) * 1, none⟩ fun x_43 =>
          Pos (U64 (W (10 - x_43))) <|
          Let (W ((kr i (cut l) : Int) + (Shl .i64 1 (U64 (W (10 - x_43)))))) fun k_44 =>
          Let (W ((i : Int) + 1)) fun i_33 => Q (k_44, i_33, ()) w2
        else
          Let (W ((i : Int) + 1)) fun i_33 => Q ((kr i (cut l) : Int), i_33, ()) w2) := by
      intro w2 b2 f2
      have hmix : mix (i + 1) (cut l) l i = cut l i := by simp [mix]
      have hc10 : cut l i ≤ 10 := by unfold cut; omega
      refine rdN b2 hlt ?_
      rw [hmix]
      by_cases hz : 0 < cut l i
      · rw [if_pos (by simp only [decide_eq_true_eq]; omega)]
        refine rdN b2 hlt ?_
        rw [hmix]
        obtain ⟨u1, u2⟩ := unit_shl (x := cut l i) hz hc10
        refine ⟨u2, ?_⟩
        rw [u1, W_add (by omega), ← hstep]
        exact let_ (next w2 b2 f2)
      · rw [if_neg (by simp only [decide_eq_true_eq]; omega)]
        have : unit (cut l i) = 0 := by unfold unit; rw [if_neg hz]
        have := next w2 b2 f2
        rw [hstep, ‹unit (cut l i) = 0›] at this
        exact this
    by_cases hgt : l i > 10
    · rw [if_pos (by simp only [decide_eq_true_eq]; omega)]
      refine wrN (v := cut l i) b1 hlt (by unfold cut; omega) fun w2 b2 f2 _ => ?_
      rw [mix_set] at b2
      exact tail w2 b2 (f1.trans f2)
    · rw [if_neg (by simp only [decide_eq_true_eq]; omega)]
      rw [mix_skip (by unfold cut; omega)] at b1
      exact tail w1 b1 f1
  · rw [if_neg (by simp only [decide_eq_true_eq]; omega)]
    have : i = n := by omega
    subst this
    rw [nats_congr (mix_all (cut l) l)] at b1
    refine join_ ?_
    refine loopN (fun m st w2 => ∃ k : Nat, st = ((kr i (iter (dnS i c) k (cut l)) : Int), ()) ∧ m = kr i (iter (dnS i c) k (cut l)) ∧ Blk w2 lb (nats i (iter (dnS i c) k (cut l))) ∧ Fr lb 1 w w2) _ ⟨0, rfl, rfl, b1, f1⟩ ?_
    rintro m _ w2 ⟨k, rfl, hm, b2, f2⟩ Q hQ
    dsimp only
    have hg := (dn_iter (good_cut hpos) hu k).1
    have hkl := kr_le i (iter (dnS i c) k (cut l))
    have hnx : iter (dnS i c) (k + 1) (cut l) = dnS i c (iter (dnS i c) k (cut l)) := rfl
    have hend := dnL_eq hpos hu (k := k)
    generalize iter (dnS i c) k (cut l) = l1 at *
    by_cases hk : 1024 < kr i l1
    · rw [if_pos (by simp only [decide_eq_true_eq]; omega), show W (10 - 1) = ((9 : Nat) : Int) from rfl, show (1 : Int) = ((1 : Nat) : Int) from rfl]
      obtain ⟨j, ej, j1, j2, j3, j4, j5, j6⟩ := dn_step hg hu hk
      have hcs2 := hcs.fr f2 (by omega)
      refine huff_seek_spec (rare := true) hcs2 b2 hn (.inl ⟨rfl, rfl⟩) hcm fun w3 e3 => ?_
      rw [ej, show optI (some j) = (j : Int) from rfl]
      have b3 := b2.heq e3
      have hu1 := unit_pos (x := l1 j + 1) (by omega)
      refine rdN b3 j1 (wrN (v := l1 j + 1) b3 j1 (by rw [show ((1 : Nat) : Int) = 1 from rfl, W_succ (by omega)]) fun w4 b4 f4 _ => ?_)
      refine rdN b4 j1 ?_
      rw [fset_eq]
      obtain ⟨u1, u2⟩ := unit_shl (x := l1 j + 1) (by omega) (by omega)
      refine ⟨u2, ?_⟩
      rw [show Shl .i64 ((1 : Nat) : Int) (U64 (W (10 - ((l1 j + 1 : Nat) : Int)))) = (unit (l1 j + 1) : Int) from u1]
      rw [show W ((kr i l1 : Int) - (unit (l1 j + 1) : Int)) = ((kr i (fset l1 j (l1 j + 1)) : Nat) : Int) from by rw [W_id (by omega) (by omega)]; omega]
      refine let_ (hQ (kr i (fset l1 j (l1 j + 1))) _ _ (by omega) ⟨k + 1, ?_, ?_, ?_, ?_⟩)
      · rw [hnx, j4]
      · rw [hnx, j4]
      · rw [hnx, j4]; exact b4
      · exact (Fr.heq f2 e3).trans f4
    · rw [if_neg (by simp only [decide_eq_true_eq]; omega)]
      have e := hend (by omega)
      subst e
      have hdn := dnL_good hpos hu (n := i) (c := c) (l := l)
      refine huff_up hcs hne hn hcm h2 hdn.1 hdn.2 b2 f2 fun k w3 b3 hk3 f3 => ?_
      rw [repairL_eq hpos hu h2 hk3] at b3
      exact hK w3 b3 f3


variable {C : Nat}
/-- The coder between calls: the code that it holds; its scratch is anything. -/
structure RC (w : World) (C : Nat) (s : CS) : Prop where
  ex : ∃ t, PW w C t ∧ Ext s t ∧ ∀ x, x < 265 → t.heap x < 529
variable {s : CS}
theorem RC.fr {p m : Nat} (h : RC w C s) (f : Fr p m w w') (hb : C + 11 ≤ p ∨ p + m ≤ C) : RC w' C s := by
  obtain ⟨t, h1, h2, h3⟩ := h.ex
  exact ⟨t, h1.fr f hb, h2, h3⟩
theorem RC.lt (h : RC w C s) : C + 10 < w.heap.size := by
  obtain ⟨t, h1, h2, h3⟩ := h.ex
  exact h1.heap.lt
theorem Ext.trans {s t u : CS} (h : Ext s t) (h' : Ext t u) : Ext s u := by
  obtain ⟨x1, x2, x3, x4, x5, x6⟩ := h
  obtain ⟨y1, y2, y3, y4, y5, y6⟩ := h'
  exact ⟨y1.trans x1, y2.trans x2, y3.trans x3, y4.trans x4, y5.trans x5, y6.trans x6⟩

theorem huff_Plan_spec {K : Sl → Int → World → Prop} (hr : RC w C s) (h : IS w sl cb n c) (hcC : cb < C ∨ C + 11 ≤ cb) (hn : n ≤ 265) (hc : ∀ i, i < n → c i ≤ 1048576)
    (hK : ∀ sl' w', NatsOut w w' sl' n (planL n c) → RC w' C s → Fr C 11 w w' → K sl' 0 w') : S.huff_Coder_Plan C sl 10 w K := by
  unfold S.huff_Coder_Plan
  have hlen := h.len
  have hcb := h.lt
  have hCl := hr.lt
  rw [hlen, if_neg (by simp only [decide_eq_true_eq]; omega), if_neg (by simp), if_neg (by simp)]
  refine join_ ?_
  refine loopN (fun m st v => ∃ i : Nat, st = ((usedN i c : Int), (i : Int), ()) ∧ m + i = n ∧ v = w) n ⟨0, rfl, rfl, rfl⟩ ?_
  rintro m _ v ⟨i, rfl, hm, rfl⟩ Q hQ
  dsimp only
  have hle : usedN i c ≤ i := cntTo_le i fun i => decide (0 < c i)
  by_cases hlt : i < n
  · rw [if_pos (by simp only [decide_eq_true_eq]; omega)]
    have hci := hc i hlt
    have e : usedN (i + 1) c = usedN i c + if decide (0 < c i) = true then 1 else 0 := rfl
    refine join_ (rdS' h hlt ?_)
    rw [if_neg (by simp only [decide_eq_true_eq]; omega)]
    refine rdS' h hlt ?_
    rw [if_neg (by simp only [decide_eq_true_eq]; omega)]
    refine rdS' h hlt ?_
    by_cases hcp : 0 < c i
    · rw [if_pos (by simp only [decide_eq_true_eq]; omega)]
      simp only [hcp, decide_true, if_true] at e
      rw [W_succ (by omega), W_succ (by omega)]
      exact let_ (let_ (hQ (m - 1) _ _ (by omega) ⟨i + 1, by rw [e], by omega, rfl⟩))
    · rw [if_neg (by simp only [decide_eq_true_eq]; omega)]
      simp only [hcp, decide_false, Bool.false_eq_true, if_false] at e
      rw [W_succ (by omega)]
      exact let_ (hQ (m - 1) _ _ (by omega) ⟨i + 1, by rw [e]; rfl, by omega, rfl⟩)
  · rw [if_neg (by simp only [decide_eq_true_eq]; omega)]
    have : i = n := by omega
    subst this
    rw [U64_id (by omega) (by omega)]
    refine ⟨by omega, ?_⟩
    rw [show Shl .i64 1 10 = 1024 from rfl, if_neg (by simp only [decide_eq_true_eq]; omega)]
    refine mkN (by omega) fun w1 b1 f1 s1 => ?_
    by_cases hu : usedN i c < 2
    · rw [if_pos (by simp only [decide_eq_true_eq]; omega)]
      refine join_ ?_
      refine loopN (fun m st w2 => ∃ j : Nat, st = ((j : Int), ()) ∧ m = i - j ∧ j ≤ i ∧ Blk w2 v.heap.size (nats i (mix j (planL i c) fun _ => 0)) ∧ Fr 0 0 v w2 ∧ IS w2 sl cb i c ∧ Fr v.heap.size 1 w1 w2) i ⟨0, rfl, rfl, by omega, by rw [mix_zero]; exact b1, f1, h.fr f1 (by omega), Fr.refl _ _ _⟩ ?_
      rintro m _ w2 ⟨j, rfl, hm, hi', b2, f2, h2, f12⟩ Q hQ
      dsimp only
      have hpl : planL i c = fun i => if 0 < c i then 1 else 0 := by unfold planL; rw [if_pos hu]
      by_cases hlt : j < i
      · rw [if_pos (by simp only [decide_eq_true_eq]; omega)]
        refine join_ (rdS' h2 hlt ?_)
        dsimp only
        rw [W_succ (by omega)]
        by_cases hci : 0 < c j
        · rw [if_pos (by simp only [decide_eq_true_eq]; omega)]
          refine wrN (v := planL i c j) b2 hlt (by rw [hpl]; simp [hci]) fun w3 b3 f3 _ => ?_
          rw [mix_set] at b3
          exact let_ (hQ (i - (j + 1)) _ _ (by omega) ⟨j + 1, rfl, rfl, by omega, b3, f2.thenNew f3 (by omega), h2.fr f3 (by omega), f12.trans f3⟩)
        · rw [if_neg (by simp only [decide_eq_true_eq]; omega)]
          rw [mix_skip (by rw [hpl]; simp [hci])] at b2
          exact let_ (hQ (i - (j + 1)) _ _ (by omega) ⟨j + 1, rfl, rfl, by omega, b2, f2, h2, f12⟩)
      · rw [if_neg (by simp only [decide_eq_true_eq]; omega)]
        have : j = i := by omega
        subst this
        rw [nats_congr (mix_all _ _)] at b2
        exact hK _ w2 ⟨_, b2, rfl, Nat.le_refl _⟩ ((hr.fr f1 (by omega)).fr f12 (by omega)) (f2.any _ _)
    · rw [if_neg (by simp only [decide_eq_true_eq]; omega)]
      obtain ⟨t, ht, et, hh⟩ := hr.ex
      refine huff_tree_spec (w0 := v) (ht.fr f1 (by omega)) (h.fr f1 (by omega)) hcC (by omega) hn hc (by omega) b1 (by omega) (Nat.le_refl _) (f1.any _ _) hh fun w2 t2 deep h2 hh2 e2 b2 hd f2 hc2 => ?_
      refine join_ ?_
      by_cases hdeep : deep > 10
      · rw [if_pos (by simp only [decide_eq_true_eq]; omega)]
        refine huff_mend_spec hc2 b2 (by omega) hn hc (plain_iff (by omega)) (by omega) fun w3 b3 f3 => ?_
        refine hK _ w3 ⟨_, ?_, rfl, Nat.le_refl _⟩ ⟨t2, h2.fr f3 (by omega), et.trans e2, hh2⟩ (f2.thenNew f3 (Nat.le_refl _))
        unfold planL
        rw [if_neg hu]
        exact b3
      · rw [if_neg (by simp only [decide_eq_true_eq]; omega)]
        refine hK _ w2 ⟨_, ?_, rfl, Nat.le_refl _⟩ ⟨t2, h2, et.trans e2, hh2⟩ f2
        rw [nats_congr (plan_fit (n := i) (c := c) (by omega) fun k hk => by have := hd k hk; omega)]
        exact b2
end Go.Proofs.Qxb6500563aGreat
