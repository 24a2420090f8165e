/-
  The model's repair and Plan: their contracts.
-/
import Derived.Test.Qxb6500563aGreatHufM
namespace Go.Proofs.Qxb6500563aGreat
open Go.Den Go.Zip
set_option linter.unusedVariables false
set_option linter.unusedSimpArgs false
variable {w w' : World} {sl : Sl} {cb n : Nat} {c : Nat → Nat}

theorem pickTo_succ {c l : Nat → Nat} {lo hi : Nat} {rare : Bool} {i : Nat} (h : lo ≤ l i ∧ l i ≤ hi) :
    pickTo c l lo hi rare (i + 1) = match pickTo c l lo hi rare i with | none => some i | some b => if beats c l rare i b then some i else some b := by
  simp only [pickTo]
  rw [if_pos (by simp [h])]
  cases pickTo c l lo hi rare i <;> rfl
theorem pickTo_pass {c l : Nat → Nat} {lo hi : Nat} {rare : Bool} {i : Nat} (h : ¬ (lo ≤ l i ∧ l i ≤ hi)) : pickTo c l lo hi rare (i + 1) = pickTo c l lo hi rare i := by
  simp only [pickTo]
  rw [if_neg (by simpa using h)]

theorem huffm_pick_spec {lb : Nat} {l : Nat → Nat} {lo hi : Nat} {rare : Bool} {K : Int → World → Prop} (hcs : IS w sl cb n c) (hl : Blk w lb (nats n l)) (hn : n ≤ 265)
    (hK : ∀ w', w'.heap = w.heap → K (optI (pickTo c l lo hi rare n)) w') : S.huffm_pick sl ⟨some ⟨lb, 0, none⟩, n, n⟩ (lo : Int) (hi : Int) rare w K := by
  unfold S.huffm_pick
  refine loopN (fun m st w1 => ∃ i : Nat, st = (optI (pickTo c l lo hi rare i), (i : Int), ()) ∧ m = n - i ∧ i ≤ n ∧ w1.heap = w.heap) n ⟨0, rfl, rfl, by omega, rfl⟩ ?_
  rintro m _ w1 ⟨i, rfl, hm, hi', e1⟩ Q hQ
  dsimp only
  by_cases hlt : i < n
  · rw [if_pos (by simp only [decide_eq_true_eq]; omega)]
    have hl1 := hl.heq e1
    have hc1 := hcs.heq e1
    have next : ∀ (r : Int) (w2 : World), r = optI (pickTo c l lo hi rare (i + 1)) → w2.heap = w.heap → (Let (W ((i : Int) + 1)) fun i_4 => Q (r, i_4, ()) w2) := by
      intro r w2 hr e2
      rw [W_succ (by omega), hr]
      exact let_ (hQ (n - (i + 1)) _ _ (by omega) ⟨i + 1, rfl, rfl, by omega, e2⟩)
    refine join_ (rdN hl1 hlt ?_)
    rcases Nat.lt_or_ge (l i) lo with h1 | h1
    · rw [if_neg (by simp only [decide_eq_true_eq]; omega)]
      exact next _ _ (by rw [pickTo_pass (by omega)]) e1
    · rw [if_pos (by simp only [decide_eq_true_eq]; omega)]
      refine rdN hl1 hlt ?_
      by_cases h2 : l i ≤ hi
      · rw [if_pos (by simp only [decide_eq_true_eq]; omega)]
        have hsucc := pickTo_succ (c := c) (l := l) (rare := rare) (i := i) ⟨h1, h2⟩
        refine join_ (drew_ ?_)
        dsimp only
        rcases pickTo_spec c l lo hi rare i with ⟨e, _⟩ | ⟨b, e, b1, _⟩
        · rw [e] at hsucc ⊢
          rw [show optI none = -1 from rfl, if_pos (by simp)]
          refine join_ (drew_ ?_)
          rw [if_neg (by simp), if_pos rfl]
          exact next _ _ (by rw [hsucc]; rfl) e1
        · rw [e] at hsucc ⊢
          rw [show optI (some b) = (b : Int) from rfl, if_neg (by simp only [decide_eq_true_eq]; omega)]
          refine rdN hl1.drew hlt (rdN hl1.drew (by omega) (let_ (join_ (drew_ ?_))))
          rw [if_pos (by simp only [decide_eq_true_eq]; omega)]
          refine rdN hl1.drew.drew hlt (rdN hl1.drew.drew (by omega) ?_)
          have fin : ∀ (bv : Bool) (w2 : World), bv = beats c l rare i b → w2.heap = w.heap → (if bv = true then (Let (W ((i : Int) + 1)) fun i_4 => Q ((i : Int), i_4, ()) w2) else (Let (W ((i : Int) + 1)) fun i_4 => Q ((b : Int), i_4, ()) w2)) := by
            intro bv w2 hb e2
            cases bv with
            | true => rw [if_pos rfl]; exact next _ _ (by rw [hsucc]; simp [← hb, optI]) e2
            | false => rw [if_neg (by simp)]; exact next _ _ (by rw [hsucc]; simp [← hb, optI]) e2
          by_cases h3 : l i = l b
          · rw [if_pos (by simp only [beq_iff_eq]; omega)]
            refine drew_ ?_
            have hc3 : IS w1.drew.drew.drew sl cb n c := hc1.heq rfl
            cases rare with
            | true =>
              rw [if_pos rfl]
              refine rdS hc3 hlt (rdS hc3 (by omega) ?_)
              by_cases h4 : c i < c b
              · rw [if_pos (by simp only [decide_eq_true_eq]; omega)]
                exact fin true _ (by simp [beats, h3, h4]) e1
              · rw [if_neg (by simp only [decide_eq_true_eq]; omega), if_neg (by simp)]
                exact fin false _ (by simp [beats, h3, h4]) e1
            | false =>
              rw [if_neg (by simp), if_pos (by simp)]
              refine rdS hc3 hlt (rdS hc3 (by omega) (let_ ?_))
              exact fin _ _ (by simp only [beats, h3, Nat.lt_irrefl, decide_false, beq_self_eq_true, Bool.false_or, Bool.true_and, Bool.false_eq_true, if_false]; rw [decide_eq_decide]; omega) e1
          · rw [if_neg (by simp only [beq_iff_eq]; omega)]
            exact fin _ _ (by simp only [beats, beq_eq_false_iff_ne.2 h3, Bool.false_and, Bool.or_false]; rw [decide_eq_decide]; omega) e1
      · rw [if_neg (by simp only [decide_eq_true_eq]; omega)]
        exact next _ _ (by rw [pickTo_pass (fun x => h2 x.2)]) e1
  · rw [if_neg (by simp only [decide_eq_true_eq]; omega)]
    have : i = n := by omega
    subst this
    exact hK w1 e1

theorem unit_shl {x : Nat} (h1 : 1 ≤ x) (h2 : x ≤ 10) : Shl .i64 1 (U64 (W (10 - (x : Int)))) = (unit x : Int) ∧ 0 ≤ U64 (W (10 - (x : Int))) := by
  rw [W_id (by omega) (by omega), U64_id (by omega) (by omega), show (10 : Int) - (x : Int) = ((10 - x : Nat) : Int) from by omega]
  have hp : 2 ^ (10 - x) ≤ 1024 := show 2 ^ (10 - x) ≤ 2 ^ 10 from Nat.pow_le_pow_right (by omega) (by omega)
  have := Shl_nat 1 (10 - x) (by omega) (by omega)
  rw [Nat.one_mul] at this
  refine ⟨?_, by omega⟩
  unfold unit
  rw [if_pos (by omega)]
  exact_mod_cast this
theorem unit_le (x : Nat) : unit x ≤ 512 := by
  unfold unit
  split
  · exact show 2 ^ (10 - x) ≤ 2 ^ 9 from Nat.pow_le_pow_right (by omega) (by omega)
  · omega
theorem kr_le (n : Nat) (l : Nat → Nat) : kr n l ≤ n * 512 := by
  have := sumTo_le (n := n) (f := fun i => unit (l i)) (g := fun _ => 512) fun i _ => unit_le (l i)
  rw [sumTo_const] at this
  exact this

/-- The second phase: while the sum is below one. -/
theorem huffm_up {w0 : World} {lb : Nat} {l1 : Nat → Nat} {K : World → Prop} (hcs : IS w0 sl cb n c) (hne : cb ≠ lb) (hn : n ≤ 265) (h2 : 2 ≤ usedN n c) (hg : GoodL n c l1) (hk : kr n l1 ≤ 1024) (hb : Blk w lb (nats n l1)) (hf : Fr lb 1 w0 w)
    (hK : ∀ k w', Blk w' lb (nats n (iter (upS n c) k l1)) → 1024 ≤ kr n (iter (upS n c) k l1) → Fr lb 1 w0 w' → K w') :
      LoopP (σ := Int × Unit) (fun st4 w next5 =>
        if (decide (st4.1 < 1024)) = true then
          S.huffm_pick sl ⟨some ⟨lb, 0, none⟩, n, n⟩ 2 10 false w (fun r6 w =>
          Ix (some ⟨lb, 0, none⟩) n r6 fun b7 o8 =>
          LdI .i64 w ⟨b7, o8 + Int.toNat r6 * 1, none⟩ fun x_9 =>
          Pos (U64 (W (10 - x_9))) <|
          Let (W (st4.1 + (Shl .i64 1 (U64 (W (10 - x_9)))))) fun k_10 =>
          Ix (some ⟨lb, 0, none⟩) n r6 fun b11 o12 =>
          LdI .i64 w ⟨b11, o12 + Int.toNat r6 * 1, none⟩ fun x_13 =>
          Ix (some ⟨lb, 0, none⟩) n r6 fun b14 o15 =>
          St1 w ⟨b14, o15 + Int.toNat r6 * 1, none⟩ (.int .i64 (W (x_13 - 1))) fun w =>
          next5 (k_10, ()) w)
        else
          K w) ((kr n l1 : Int), ()) w := by
  refine loopN (fun m st w2 => ∃ (k : Nat) (l2 : Nat → Nat), l2 = iter (upS n c) k l1 ∧ st = ((kr n l2 : Int), ()) ∧ m + kr n l2 = 1024 ∧ Blk w2 lb (nats n l2) ∧ Fr lb 1 w0 w2) (1024 - kr n l1) ⟨0, l1, rfl, rfl, by omega, hb, hf⟩ ?_
  rintro m' _ w3 ⟨k', l2, hl2, rfl, hm', b3, f3⟩ Q' hQ'
  dsimp only
  have hg' := up_iter hg h2 hk k'
  rw [← hl2] at hg'
  have hh : kr n l2 < 1024 ∨ 1024 ≤ kr n l2 := Nat.lt_or_ge _ _
  cases hh with
  | inl hk' =>
    rw [if_pos (by simp only [decide_eq_true_eq]; omega), show (2 : Int) = ((2 : Nat) : Int) from rfl]
    obtain ⟨j, ej, j1, j2, j3, j4, j5, j6, j7⟩ := up_step hg'.1 h2 hk'
    have hcs3 := hcs.fr f3 (by omega)
    refine huffm_pick_spec (hi := 10) hcs3 b3 hn fun w4 e4 => ?_
    rw [ej, show optI (some j) = (j : Int) from rfl]
    have b4 := b3.heq e4
    have hu1 := unit_pos (x := l2 j) (by omega)
    refine rdN b4 j1 ?_
    obtain ⟨u1, u2⟩ := unit_shl (x := l2 j) (by omega) (by omega)
    refine ⟨u2, ?_⟩
    rw [u1, W_add (by omega)]
    refine let_ (rdN b4 j1 (wrN (v := l2 j - 1) b4 j1 (by rw [W_id (by omega) (by omega)]; omega) fun w5 b5 f5 _ => ?_))
    rw [← j6]
    refine hQ' (1024 - kr n (fset l2 j (l2 j - 1))) _ _ (by omega) ⟨k' + 1, fset l2 j (l2 j - 1), ?_, rfl, by omega, b5, (Fr.heq f3 e4).trans f5⟩
    rw [← j4, hl2]; rfl
  | inr hk' =>
    rw [if_neg (by simp only [decide_eq_true_eq]; omega)]
    rw [hl2] at b3 hk'
    exact hK k' w3 b3 hk' f3

theorem huffm_repair_spec {lb : Nat} {l : Nat → Nat} {K : World → Prop} (hcs : IS w sl cb n c) (hl : Blk w lb (nats n l)) (hne : cb ≠ lb) (hn : n ≤ 265) (hpos : ∀ i, i < n → (0 < l i ↔ 0 < c i)) (h2 : 2 ≤ usedN n c)
    (hK : ∀ w', Blk w' lb (nats n (repairL n c l)) → Fr lb 1 w w' → K w') : S.huffm_repair sl ⟨some ⟨lb, 0, none⟩, n, n⟩ 10 w K := by
  have hu : usedN n c ≤ 1024 := by have : usedN n c ≤ n := cntTo_le n fun i => decide (0 < c i); omega
  unfold S.huffm_repair
  rw [U64_id (by omega) (by omega), show Shl .i64 1 10 = 1024 from rfl]
  refine ⟨by omega, let_ (join_ ?_)⟩
  dsimp only
  refine loopN (fun m st w1 => ∃ i : Nat, st = ((kr i (cut l) : Int), (i : Int), ()) ∧ m = n - i ∧ i ≤ n ∧ Blk w1 lb (nats n (mix i (cut l) l)) ∧ Fr lb 1 w w1) n ⟨0, rfl, rfl, by omega, by rw [mix_zero]; exact hl, Fr.refl _ _ _⟩ ?_
  rintro m _ w1 ⟨i, rfl, hm, hi', b1, f1⟩ Q hQ
  dsimp only
  have hkl := kr_le i (cut l)
  by_cases hlt : i < n
  · rw [if_pos (by simp only [decide_eq_true_eq]; omega)]
    have hstep : kr (i + 1) (cut l) = kr i (cut l) + unit (cut l i) := rfl
    have hul := unit_le (cut l i)
    have next : ∀ (w2 : World), Blk w2 lb (nats n (mix (i + 1) (cut l) l)) → Fr lb 1 w w2 → (Let (W ((i : Int) + 1)) fun i_33 => Q (((kr (i + 1) (cut l) : Nat) : Int), i_33, ()) w2) := by
      intro w2 b2 f2
      rw [W_succ (by omega)]
      exact let_ (hQ (n - (i + 1)) _ _ (by omega) ⟨i + 1, rfl, rfl, by omega, b2, f2⟩)
    refine join_ (rdN b1 hlt (join_ ?_))
    dsimp only
    rw [mix_get]
    have tail : ∀ (w2 : World), Blk w2 lb (nats n (mix (i + 1) (cut l) l)) → Fr lb 1 w w2 → (Ix (some ⟨lb, 0, none⟩) n (i : Int) fun b38 o39 =>
        LdI .i64 w2 ⟨b38, o39 + Int.toNat (i : Int) * 1, none⟩ fun x_40 =>
        if (decide (x_40 > 0)) = true then
          Ix (some ⟨lb, 0, none⟩) n (i : Int) fun b41 o42 =>
          LdI .i64 w2 ⟨b41, o42 + Int.toNat (i : Int) * 1, none⟩ fun x_43 =>
          Pos (U64 (W (10 - x_43))) <|
          Let (W ((kr i (cut l) : Int) + (Shl .i64 1 (U64 (W (10 - x_43)))))) fun k_44 =>
          Let (W ((i : Int) + 1)) fun i_33 => Q (k_44, i_33, ()) w2
        else
          Let (W ((i : Int) + 1)) fun i_33 => Q ((kr i (cut l) : Int), i_33, ()) w2) := by
      intro w2 b2 f2
      have hmix : mix (i + 1) (cut l) l i = cut l i := by simp [mix]
      have hc10 : cut l i ≤ 10 := by unfold cut; omega
      refine rdN b2 hlt ?_
      rw [hmix]
      by_cases hz : 0 < cut l i
      · rw [if_pos (by simp only [decide_eq_true_eq]; omega)]
        refine rdN b2 hlt ?_
        rw [hmix]
        obtain ⟨u1, u2⟩ := unit_shl (x := cut l i) hz hc10
        refine ⟨u2, ?_⟩
        rw [u1, W_add (by omega), ← hstep]
        exact let_ (next w2 b2 f2)
      · rw [if_neg (by simp only [decide_eq_true_eq]; omega)]
        have : unit (cut l i) = 0 := by unfold unit; rw [if_neg hz]
        have := next w2 b2 f2
        rw [hstep, ‹unit (cut l i) = 0›] at this
        exact this
    by_cases hgt : l i > 10
    · rw [if_pos (by simp only [decide_eq_true_eq]; omega)]
      refine wrN (v := cut l i) b1 hlt (by unfold cut; omega) fun w2 b2 f2 _ => ?_
      rw [mix_set] at b2
      exact tail w2 b2 (f1.trans f2)
    · rw [if_neg (by simp only [decide_eq_true_eq]; omega)]
      rw [mix_skip (by unfold cut; omega)] at b1
      exact tail w1 b1 f1
  · rw [if_neg (by simp only [decide_eq_true_eq]; omega)]
    have : i = n := by omega
    subst this
    rw [nats_congr (mix_all (cut l) l)] at b1
    refine join_ ?_
    refine loopN (fun m st w2 => ∃ k : Nat, st = ((kr i (iter (dnS i c) k (cut l)) : Int), ()) ∧ m = kr i (iter (dnS i c) k (cut l)) ∧ Blk w2 lb (nats i (iter (dnS i c) k (cut l))) ∧ Fr lb 1 w w2) _ ⟨0, rfl, rfl, b1, f1⟩ ?_
    rintro m _ w2 ⟨k, rfl, hm, b2, f2⟩ Q hQ
    dsimp only
    have hg := (dn_iter (good_cut hpos) hu k).1
    have hkl := kr_le i (iter (dnS i c) k (cut l))
    have hnx : iter (dnS i c) (k + 1) (cut l) = dnS i c (iter (dnS i c) k (cut l)) := rfl
    have hend := dnL_eq hpos hu (k := k)
    generalize iter (dnS i c) k (cut l) = l1 at *
    by_cases hk : 1024 < kr i l1
    · rw [if_pos (by simp only [decide_eq_true_eq]; omega), show W (10 - 1) = ((9 : Nat) : Int) from rfl, show (1 : Int) = ((1 : Nat) : Int) from rfl]
      obtain ⟨j, ej, j1, j2, j3, j4, j5, j6⟩ := dn_step hg hu hk
      have hcs2 := hcs.fr f2 (by omega)
      refine huffm_pick_spec hcs2 b2 hn fun w3 e3 => ?_
      rw [ej, show optI (some j) = (j : Int) from rfl]
      have b3 := b2.heq e3
      have hu1 := unit_pos (x := l1 j + 1) (by omega)
      refine rdN b3 j1 (wrN (v := l1 j + 1) b3 j1 (by rw [show ((1 : Nat) : Int) = 1 from rfl, W_succ (by omega)]) fun w4 b4 f4 _ => ?_)
      refine rdN b4 j1 ?_
      rw [fset_eq]
      obtain ⟨u1, u2⟩ := unit_shl (x := l1 j + 1) (by omega) (by omega)
      refine ⟨u2, ?_⟩
      rw [show Shl .i64 ((1 : Nat) : Int) (U64 (W (10 - ((l1 j + 1 : Nat) : Int)))) = (unit (l1 j + 1) : Int) from u1]
      rw [show W ((kr i l1 : Int) - (unit (l1 j + 1) : Int)) = ((kr i (fset l1 j (l1 j + 1)) : Nat) : Int) from by rw [W_id (by omega) (by omega)]; omega]
      refine let_ (hQ (kr i (fset l1 j (l1 j + 1))) _ _ (by omega) ⟨k + 1, ?_, ?_, ?_, ?_⟩)
      · rw [hnx, j4]
      · rw [hnx, j4]
      · rw [hnx, j4]; exact b4
      · exact (Fr.heq f2 e3).trans f4
    · rw [if_neg (by simp only [decide_eq_true_eq]; omega)]
      have e := hend (by omega)
      subst e
      have hdn := dnL_good hpos hu (n := i) (c := c) (l := l)
      refine huffm_up hcs hne hn h2 hdn.1 hdn.2 b2 f2 fun k w3 b3 hk3 f3 => ?_
      rw [repairL_eq hpos hu h2 hk3] at b3
      exact hK w3 b3 f3

/-- The list of numbers that is handed out. -/
structure NatsOut (w0 w : World) (sl : Sl) (n : Nat) (f : Nat → Nat) : Prop where
  ex : ∃ b, Blk w b (nats n f) ∧ sl = ⟨some ⟨b, 0, none⟩, n, n⟩ ∧ w0.heap.size ≤ b

theorem huffm_Plan_spec {p : Nat} {K : Sl → Int → World → Prop} (h : IS w sl cb n c) (hn : n ≤ 265) (hc : ∀ i, i < n → c i ≤ 1048576)
    (hK : ∀ s w', NatsOut w w' s n (planL n c) → Fr 0 0 w w' → K s 0 w') : S.huffm_Coder_Plan p sl 10 w K := by
  unfold S.huffm_Coder_Plan
  refine huffm_CheckPlan_spec h hn hc ?_
  rw [if_neg (by simp)]
  refine huffm_Used_spec h (by omega) ?_
  have hlen := h.len
  by_cases hu : usedN n c < 2
  · rw [if_pos (by simp only [decide_eq_true_eq]; omega)]
    rw [hlen]
    refine mkN (by omega) fun w1 b1 f1 s1 => join_ ?_
    have hcb := h.lt
    refine loopN (fun m st w2 => ∃ i : Nat, st = ((i : Int), ()) ∧ m = n - i ∧ i ≤ n ∧ Blk w2 w.heap.size (nats n (mix i (planL n c) fun _ => 0)) ∧ Fr 0 0 w w2 ∧ IS w2 sl cb n c) n ⟨0, rfl, rfl, by omega, by rw [mix_zero]; exact b1, f1, h.fr f1 (by omega)⟩ ?_
    rintro m _ w2 ⟨i, rfl, hm, hi', b2, f2, h2⟩ Q hQ
    dsimp only
    have hpl : planL n c = fun i => if 0 < c i then 1 else 0 := by unfold planL; rw [if_pos hu]
    by_cases hlt : i < n
    · rw [if_pos (by simp only [decide_eq_true_eq]; omega)]
      refine join_ (rdS' h2 hlt ?_)
      dsimp only
      rw [W_succ (by omega)]
      by_cases hci : 0 < c i
      · rw [if_pos (by simp only [decide_eq_true_eq]; omega)]
        refine wrN (v := planL n c i) b2 hlt (by rw [hpl]; simp [hci]) fun w3 b3 f3 _ => ?_
        rw [mix_set] at b3
        exact let_ (hQ (n - (i + 1)) _ _ (by omega) ⟨i + 1, rfl, rfl, by omega, b3, f2.thenNew f3 (by omega), h2.fr f3 (by omega)⟩)
      · rw [if_neg (by simp only [decide_eq_true_eq]; omega)]
        rw [mix_skip (by rw [hpl]; simp [hci])] at b2
        exact let_ (hQ (n - (i + 1)) _ _ (by omega) ⟨i + 1, rfl, rfl, by omega, b2, f2, h2⟩)
    · rw [if_neg (by simp only [decide_eq_true_eq]; omega)]
      have : i = n := by omega
      subst this
      rw [nats_congr (mix_all _ _)] at b2
      exact hK _ w2 ⟨_, b2, rfl, Nat.le_refl _⟩ f2
  · rw [if_neg (by simp only [decide_eq_true_eq]; omega)]
    have hcb := h.lt
    refine huffm_plain_spec h hn hc (by omega) fun w1 x b1 hx f1 => ?_
    refine huffm_repair_spec (h.fr f1 (by omega)) b1 (by omega) hn (plain_iff (by omega)) (by omega) fun w2 b2 f2 => ?_
    refine hK _ w2 ⟨x, ?_, rfl, hx⟩ (f1.thenNew f2 hx)
    unfold planL
    rw [if_neg hu]
    exact b2
end Go.Proofs.Qxb6500563aGreat
