/-
  The real coder: Build, New.
-/
import Derived.Test.Qxb6500563aGreatCodW
namespace Go.Zip
set_option linter.unusedVariables false
set_option linter.unusedSimpArgs false
theorem unit_low {x : Nat} (h : 2 ≤ x) : unit x ≤ 256 := by
  unfold unit
  rw [if_pos (by omega)]
  exact show 2 ^ (10 - x) ≤ 2 ^ 8 from Nat.pow_le_pow_right (by omega) (by omega)
/-- How the counts and Kraft's sum hang together. -/
theorem cnt_facts (l : Nat → Nat) : ∀ n, 512 * cntL n l 1 ≤ kr n l ∧ kr n l + 256 * cntL n l 1 ≤ 512 * cntL n l 1 + 256 * usedN n l ∧ cntL n l 1 ≤ usedN n l ∧ usedN n l + cntL n l 0 = n
  | 0 => by simp [cntL, kr, usedN, cntTo, sumTo]
  | n + 1 => by
    obtain ⟨a, b, c, d⟩ := cnt_facts l n
    have e1 : cntL (n + 1) l 1 = cntL n l 1 + if (l n == 1) = true then 1 else 0 := rfl
    have e0 : cntL (n + 1) l 0 = cntL n l 0 + if (l n == 0) = true then 1 else 0 := rfl
    have ek : kr (n + 1) l = kr n l + unit (l n) := rfl
    have eu : usedN (n + 1) l = usedN n l + if decide (0 < l n) = true then 1 else 0 := rfl
    rcases Nat.lt_trichotomy (l n) 1 with h | h | h
    · have hz : l n = 0 := by omega
      rw [hz] at e1 e0 ek eu
      have : unit 0 = 0 := rfl
      simp at e1 e0 eu
      omega
    · rw [h] at e1 e0 ek eu
      have : unit 1 = 512 := rfl
      simp at e1 e0 eu
      omega
    · have := unit_low h
      rw [if_neg (by simp; omega)] at e1 e0
      rw [if_pos (by simp; omega)] at eu
      omega
theorem fset_fset {α : Type} (f : Nat → α) (i : Nat) (a b : α) : fset (fset f i a) i b = fset f i b := by
  funext t
  unfold fset
  split <;> rfl
end Go.Zip
namespace Go.Proofs.Qxb6500563aGreat
open Go.Den Go.Zip
set_option linter.unusedVariables false
set_option linter.unusedSimpArgs false
variable {w w' : World} {C : Nat} {s : CS} {sl : Sl} {cb n : Nat} {l : Nat → Nat}

/-- The array of the next codes. -/
def nxF (n : Nat) (l : Nat → Nat) (j k : Nat) : Nat := if k = 0 then 0 else first n l k + cntTo j fun i => l i == k
theorem nxF_hit {j : Nat} (hj : 0 < l j) : fset (nxF n l j) (l j) (nxF n l j (l j) + 1) = nxF n l (j + 1) := by
  funext k
  unfold fset nxF
  by_cases e : k = l j
  · subst e
    rw [if_pos rfl, if_neg (by omega), if_neg (by omega), cntTo_succ]
    simp
    omega
  · rw [if_neg e]
    by_cases hz : k = 0
    · rw [if_pos hz, if_pos hz]
    · rw [if_neg hz, if_neg hz, cntTo_succ]
      have : (l j == k) = false := by simp; omega
      simp [this]
theorem nxF_miss {j : Nat} (hj : l j = 0) : nxF n l j = nxF n l (j + 1) := by
  funext k
  unfold nxF
  by_cases hz : k = 0
  · rw [if_pos hz, if_pos hz]
  · rw [if_neg hz, if_neg hz, cntTo_succ]
    have : (l j == k) = false := by simp; omega
    simp [this]
theorem cntF_step (j : Nat) : fset (fun k => cntTo j fun i => l i == k) (l j) ((cntTo j fun i => l i == l j) + 1) = fun k => cntTo (j + 1) fun i => l i == k := by
  funext k
  unfold fset
  dsimp only
  rw [cntTo_succ]
  by_cases e : k = l j
  · subst e; simp
  · have : (l j == k) = false := by simp; omega
    simp [this, e]
/-- The array of the first codes, while it is being made. -/
def fsF (n : Nat) (l : Nat → Nat) (m k : Nat) : Nat := if k ≤ m then first n l k else 0
theorem fsF_step {m : Nat} : fset (fsF n l m) (m + 1) (first n l (m + 1)) = fsF n l (m + 1) := by
  funext k
  unfold fset fsF
  by_cases e : k = m + 1
  · subst e; rw [if_pos rfl, if_pos (by omega)]
  · rw [if_neg e]
    by_cases h : k ≤ m
    · rw [if_pos h, if_pos (by omega)]
    · rw [if_neg h, if_neg (by omega)]

set_option maxRecDepth 10000 in
theorem huff_Build_spec {K : Int → World → Prop} (hr : RC w C s) (h : IS w sl cb n l) (hcC : cb < C ∨ C + 11 ≤ cb) (hn : n ≤ 265) (hl : ∀ i, i < n → l i ≤ 10)
    (hbad : checkE n l ≠ 0 → ∀ w', Fr 0 0 w w' → K (checkE n l : Int) w')
    (hK : checkE n l = 0 → ∀ w' t, RC w' C t → HoldsC t n l → Fr C 11 w w' → K 0 w') : S.huff_Coder_Build C sl w K := by
  unfold S.huff_Coder_Build
  have hlen := h.len
  have hcb := h.lt
  have hCl := hr.lt
  obtain ⟨fa, fb, fc, fd⟩ := cnt_facts l n
  have hkl := kr_le n l
  rw [hlen, if_neg (by simp only [decide_eq_true_eq]; omega)]
  refine newB fun w1 b1 f1 s1 => ?_
  have b1 : Blk w1 w.heap.size (nats 11 fun k => cntTo 0 fun i => l i == k) := b1
  generalize hP : w.heap.size = P at *
  refine join_ ?_
  refine loopN (fun m st v => ∃ i : Nat, st = ((i : Int), ()) ∧ m + i = n ∧ Blk v P (nats 11 fun k => cntTo i fun i => l i == k) ∧ Fr P 1 w1 v) n ⟨0, rfl, rfl, b1, Fr.refl _ _ _⟩ ?_
  rintro m _ v ⟨i, rfl, hm, bv, gv⟩ Q hQ
  dsimp only
  have fv : Fr 0 0 w v := f1.thenNew gv (by omega)
  have hv := h.fr fv (by omega)
  by_cases hlt : i < n
  · rw [if_pos (by simp only [decide_eq_true_eq]; omega)]
    have h10 := hl i hlt
    refine rdS' hv hlt ?_
    rw [if_neg (by simp only [decide_eq_true_eq]; omega)]
    refine rdS' hv hlt ?_
    rw [if_neg (by simp only [decide_eq_true_eq]; omega)]
    refine rdS' hv hlt ?_
    refine ⟨by omega, by omega, ?_⟩
    refine ldN bv (by omega) ⟨by omega, by omega, ?_⟩
    have hcl := cntTo_le i fun t => l t == l i
    rw [W_succ (by omega)]
    refine stN bv (by omega) rfl fun v2 d2 g2 _ => ?_
    rw [cntF_step] at d2
    rw [W_succ (by omega)]
    exact let_ (hQ (m - 1) _ _ (by omega) ⟨i + 1, rfl, by omega, d2, gv.trans g2⟩)
  rw [if_neg (by simp only [decide_eq_true_eq]; omega)]
  have hin : i = n := by omega
  subst hin
  have bv : Blk v P (nats 11 (cntL i l)) := bv
  refine join_ ?_
  refine loopN (fun m st v' => ∃ k : Nat, st = ((krTo i l k : Int), ((k + 1 : Nat) : Int), ()) ∧ m + k = 10 ∧ v' = v) 10 ⟨0, by rw [krTo_zero]; rfl, rfl, rfl⟩ ?_
  rintro m _ v' ⟨k, rfl, hm, rfl⟩ Q' hQ'
  dsimp only
  by_cases hk : k + 1 ≤ 10
  · rw [if_pos (by simp only [decide_eq_true_eq]; omega)]
    refine ⟨by omega, by omega, ldN bv (by omega) ?_⟩
    have hks := krTo_succ i l k
    have hkm := krTo_mono i l hk
    rw [krTo_ten hl] at hkm
    have hsh : U64 (W (10 - ((k + 1 : Nat) : Int))) = ((10 - (k + 1) : Nat) : Int) := by rw [W_id (by omega) (by omega), U64_id (by omega) (by omega)]; omega
    rw [hsh]
    refine ⟨by omega, ?_⟩
    generalize hy : cntL i l (k + 1) * 2 ^ (10 - (k + 1)) = y at hks
    rw [show Shl .i64 (cntL i l (k + 1) : Int) ((10 - (k + 1) : Nat) : Int) = (y : Int) from by rw [← hy]; exact Shl_nat _ _ (by omega) (by rw [hy]; omega)]
    rw [W_add (by omega), W_succ (by omega), ← hks]
    exact let_ (let_ (hQ' (m - 1) _ _ (by omega) ⟨k + 1, rfl, by omega, rfl⟩))
  rw [if_neg (by simp only [decide_eq_true_eq]; omega)]
  have hk10 : k = 10 := by omega
  subst hk10
  rw [krTo_ten hl]
  by_cases hov : 1024 < kr i l
  · rw [if_pos (by simp only [decide_eq_true_eq]; omega)]
    have he : checkE i l = 6 := by unfold checkE; rw [if_pos hov]
    rw [he] at hbad
    exact hbad (by omega) _ fv
  rw [if_neg (by simp only [decide_eq_true_eq]; omega)]
  refine join_ ?_
  -- what follows a lawful set
  have good : checkE i l = 0 → (New v' (.cells #[.int .i64 0, .int .i64 0, .int .i64 0, .int .i64 0, .int .i64 0, .int .i64 0, .int .i64 0, .int .i64 0, .int .i64 0, .int .i64 0, .int .i64 0] 198) fun p3 w =>
            Join (fun (w : World) =>
              St1 w ⟨C, 0, none⟩ (.int .i64 (i : Int)) fun w =>
              LoopP (σ := Int × Unit) (fun st4 w next5 =>
                if (decide (st4.1 < (i : Int))) = true then
                  Join (fun (w : World) =>
                    Let (W (st4.1 + 1)) fun s_6 =>
                    next5 (s_6, ()) w) fun J7 =>
                  Ix sl.a i st4.1 fun b8 o9 =>
                  LdI .i64 w ⟨b8, o9 + Int.toNat st4.1 * 1, none⟩ fun n_10 =>
                  LdS w ⟨C, 1, none⟩ fun lens_11 =>
                  Ix lens_11.a lens_11.l st4.1 fun b12 o13 =>
                  St1 w ⟨b12, o13 + Int.toNat st4.1 * 1, none⟩ (.int .i64 n_10) fun w =>
                  LdS w ⟨C, 2, none⟩ fun code_14 =>
                  Ix code_14.a code_14.l st4.1 fun b15 o16 =>
                  St1 w ⟨b15, o16 + Int.toNat st4.1 * 1, none⟩ (.int .i64 0) fun w =>
                  if (decide (n_10 > 0)) = true then
                    Drew w fun w =>
                    Hold w ⟨C, 2, none⟩ 1 fun R17 =>
                    LdS w ⟨C, 2, none⟩ fun code_18 =>
                    IxA 11 n_10 <|
                    LdI .i64 w ⟨p3, 0 + Int.toNat n_10 * 1, none⟩ fun x_19 =>
                    S.huff_flip x_19 n_10 w (fun r20 w =>
                    After R17 w <|
                    Ix code_18.a code_18.l st4.1 fun b21 o22 =>
                    St1 w ⟨b21, o22 + Int.toNat st4.1 * 1, none⟩ (.int .i64 r20) fun w =>
                    IxA 11 n_10 <|
                    LdI .i64 w ⟨p3, 0 + Int.toNat n_10 * 1, none⟩ fun x_23 =>
                    IxA 11 n_10 <|
                    St1 w ⟨p3, 0 + Int.toNat n_10 * 1, none⟩ (.int .i64 (W (x_23 + 1))) fun w =>
                    J7 w)
                  else
                    J7 w
                else
                  S.huff_Coder_lay C w (fun w =>
                  K 0 w)) (0, ()) w) fun J24 =>
            LoopP (σ := Int × Unit) (fun st25 w next26 =>
              if (decide (st25.1 ≤ 10)) = true then
                Drew w fun w =>
                IxA 11 (W (st25.1 - 1)) <|
                LdI .i64 w ⟨p3, 0 + Int.toNat (W (st25.1 - 1)) * 1, none⟩ fun x_27 =>
                IxA 11 (W (st25.1 - 1)) <|
                LdI .i64 w ⟨P, 0 + Int.toNat (W (st25.1 - 1)) * 1, none⟩ fun x_28 =>
                IxA 11 st25.1 <|
                St1 w ⟨p3, 0 + Int.toNat st25.1 * 1, none⟩ (.int .i64 (Shl .i64 (W (x_27 + x_28)) 1)) fun w =>
                Let (W (st25.1 + 1)) fun n_29 =>
                next26 (n_29, ()) w
              else
                J24 w) (2, ()) w) := by
    intro hz
    have L := lens_ok hz hl
    refine newB fun w3 b3 f3 s3 => ?_
    have b3 : Blk w3 v'.heap.size (nats 11 fun _ => 0) := b3
    have hvP := bv.lt
    have hPv : P ≤ v'.heap.size := by omega
    have f03 : Fr 0 0 w w3 := fv.trans f3
    generalize hX : v'.heap.size = X at *
    have p3 := bv.fr f3 (by omega)
    refine join_ ?_
    refine loopN (fun m st v => ∃ k : Nat, st = (((k + 2 : Nat) : Int), ()) ∧ m + k = 9 ∧ Blk v X (nats 11 (fsF i l (k + 1))) ∧ Blk v P (nats 11 (cntL i l)) ∧ Fr X 1 w3 v) 9 ⟨0, rfl, rfl, ?_, p3, Fr.refl _ _ _⟩ ?_
    · rw [nats_congr (g := fun _ => 0) fun k hk => ?_]
      · exact b3
      · unfold fsF
        split
        · have : k = 0 ∨ k = 1 := by omega
          rcases this with e | e <;> subst e <;> rfl
        · rfl
    rintro m _ v ⟨k, rfl, hm, bx, bp, gx⟩ Q2 hQ2
    dsimp only
    by_cases hk : k + 2 ≤ 10
    · rw [if_pos (by simp only [decide_eq_true_eq]; omega)]
      refine drew_ ?_
      have e1 : W (((k + 2 : Nat) : Int) - 1) = ((k + 1 : Nat) : Int) := by rw [W_id (by omega) (by omega)]; omega
      rw [e1]
      refine ⟨by omega, by omega, ldN bx.drew (by omega) ⟨by omega, by omega, ldN bp.drew (by omega) ⟨by omega, by omega, ?_⟩⟩⟩
      have hfb := first_bound L k (by omega)
      rw [show fsF i l (k + 1) (k + 1) = first i l (k + 1) from by unfold fsF; rw [if_pos (Nat.le_refl _)]]
      rw [W_add (by omega)]
      have hfe : first i l (k + 2) = 2 * (first i l (k + 1) + cntL i l (k + 1)) := rfl
      rw [show Shl .i64 ((first i l (k + 1) + cntL i l (k + 1) : Nat) : Int) 1 = ((first i l (k + 2) : Nat) : Int) from by
        rw [hfe, Nat.mul_comm]; exact Shl_nat _ 1 (by omega) (by omega)]
      refine stN bx.drew (by omega) rfl fun v2 d2 g2 _ => ?_
      rw [fsF_step] at d2
      have g2' : Fr X 1 v v2 := g2
      rw [W_succ (by omega)]
      exact let_ (hQ2 (m - 1) _ _ (by omega) ⟨k + 1, rfl, by omega, d2, bp.fr g2' (by omega), gx.trans g2'⟩)
    rw [if_neg (by simp only [decide_eq_true_eq]; omega)]
    have hk9 : k = 9 := by omega
    subst hk9
    have f04 : Fr 0 0 w v := f03.thenNew gx (by omega)
    obtain ⟨t, ht, et, hh⟩ := hr.ex
    have ht := ht.fr f04 (by omega)
    have bx0 : Blk v X (nats 11 (nxF i l 0)) := by
      rw [nats_congr (g := fsF i l 10) fun k hk => ?_]
      · exact bx
      · unfold nxF fsF
        by_cases e : k = 0
        · subst e; rfl
        · rw [if_neg e, if_pos (by omega)]; rfl
    refine st1 ht.rc (by simp [rcd]) fun v1 r1 g1 _ => ?_
    have ht1 := ht.setN r1 g1
    refine loopN (fun m st u => ∃ j : Nat, st = ((j : Int), ()) ∧ m + j = i ∧ PW u C { t with n := i, lens := mix j l t.lens, code := mix j (codeOf i l) t.code } ∧ Blk u X (nats 11 (nxF i l j)) ∧ IS u sl cb i l ∧ Fr C 11 w u) i
      ⟨0, rfl, rfl, by rw [mix_zero, mix_zero]; exact ht1, bx0.fr g1 (by omega), (h.fr f04 (by omega)).fr g1 (by omega), (f04.any C 11).trans (g1.mono (by omega) (by omega))⟩ ?_
    rintro m _ u ⟨j, rfl, hm, hu, bu, iu, fu⟩ Q3 hQ3
    dsimp only
    by_cases hj : j < i
    · rw [if_pos (by simp only [decide_eq_true_eq]; omega)]
      have h10 := hl j hj
      refine join_ (rdS' iu hj ?_)
      refine ldS hu.rc rfl (wrN (v := l j) hu.lens (by omega) rfl fun u1 d1 k1 _ => ?_)
      rw [show fset ({ t with n := i, lens := mix j l t.lens, code := mix j (codeOf i l) t.code } : CS).lens j (l j) = mix (j + 1) l t.lens from mix_set j l t.lens] at d1
      have hu1 := hu.setLens d1 k1
      refine ldS hu1.rc rfl (wrN (v := 0) hu1.code (by omega) rfl fun u2 d2 k2 _ => ?_)
      have hu2 := hu1.setCode d2 k2
      have bu2 := (bu.fr k1 (by omega)).fr k2 (by omega)
      have iu2 := (iu.fr k1 (by omega)).fr k2 (by omega)
      have fu2 := (fu.trans (k1.mono (by omega) (by omega))).trans (k2.mono (q := C) (m := 11) (by omega) (by omega))
      by_cases hp : 0 < l j
      · rw [if_pos (by simp only [decide_eq_true_eq]; omega)]
        refine drew_ ?_
        show Hold _ _ _ _
        unfold Hold
        refine ldS hu2.rc.drew rfl ?_
        refine ⟨by omega, by omega, ldN bu2.drew (by omega) ?_⟩
        have hnum : nxF i l j (l j) = numOf i l j := by unfold nxF numOf rank; rw [if_neg (by omega)]
        have hnl := num_lt L hj hp
        have hpw : 2 ^ l j ≤ 1024 := show 2 ^ l j ≤ 2 ^ 10 from Nat.pow_le_pow_right (by omega) h10
        rw [hnum]
        refine huff_flip_spec (by omega) (by omega) ?_
        refine ⟨fun i hi => rfl, ?_⟩
        refine wrN (v := codeOf i l j) hu2.drew.code (by omega) rfl fun u3 d3 k3 _ => ?_
        rw [show fset ({ t with n := i, lens := mix (j + 1) l t.lens, code := fset (mix j (codeOf i l) t.code) j 0 } : CS).code j (codeOf i l j) = mix (j + 1) (codeOf i l) t.code from by
          show fset (fset (mix j (codeOf i l) t.code) j 0) j (codeOf i l j) = _; rw [fset_fset, mix_set]] at d3
        have k3' : Fr (C + 2) 1 u2 u3 := k3
        have hu3 := hu2.setCode d3 k3'
        have bu3 := bu2.fr k3' (by omega)
        refine ⟨by omega, by omega, ldN bu3 (by omega) ⟨by omega, by omega, ?_⟩⟩
        rw [hnum, W_succ (by omega)]
        refine stN (v := nxF i l j (l j) + 1) bu3 (by omega) (by rw [hnum]) fun u4 d4 k4 _ => ?_
        rw [nxF_hit hp] at d4
        rw [W_succ (by omega)]
        exact let_ (hQ3 (m - 1) _ _ (by omega) ⟨j + 1, rfl, by omega, hu3.fr k4 (by omega), d4, (iu2.fr k3' (by omega)).fr k4 (by omega), (fu2.trans (k3'.mono (by omega) (by omega))).thenNew k4 (by omega)⟩)
      · rw [if_neg (by simp only [decide_eq_true_eq]; omega)]
        have hz0 : l j = 0 := by omega
        have hc0 : codeOf i l j = 0 := by unfold codeOf; rw [hz0]; rfl
        rw [nxF_miss hz0] at bu2
        rw [W_succ (by omega)]
        refine let_ (hQ3 (m - 1) _ _ (by omega) ⟨j + 1, rfl, by omega, ?_, bu2, iu2, fu2⟩)
        have e : fset (mix j (codeOf i l) t.code) j 0 = mix (j + 1) (codeOf i l) t.code := by rw [← mix_set, hc0]
        rw [← e]
        exact hu2
    · rw [if_neg (by simp only [decide_eq_true_eq]; omega)]
      have hji : j = i := by omega
      subst hji
      refine huff_lay_spec hu ⟨rfl, fun k hk => mix_all l t.lens k hk, fun k hk => mix_all (codeOf j l) t.code k hk⟩ L hn fu fun u5 t5 h5 H5 e5 f5 => ?_
      refine hK hz u5 t5 ⟨t5, h5, ⟨rfl, rfl, rfl, rfl, rfl, rfl⟩, fun x hx => ?_⟩ H5 f5
      rw [e5]
      exact hh x hx
  by_cases hun : kr i l < 1024
  · rw [if_pos (by simp only [decide_eq_true_eq]; omega)]
    refine ⟨by omega, by omega, ?_⟩
    refine ldN (i := 0) bv (by omega) ?_
    rw [show W ((i : Int) - (cntL i l 0 : Int)) = ((usedN i l : Nat) : Int) from by rw [W_id (by omega) (by omega)]; omega]
    refine let_ ?_
    by_cases hu1 : 1 < usedN i l
    · rw [if_pos (by simp only [decide_eq_true_eq]; omega)]
      have he : checkE i l = 7 := by unfold checkE; rw [if_neg hov, if_pos ⟨hun, by omega, .inl hu1⟩]
      rw [he] at hbad
      exact hbad (by omega) _ fv
    · rw [if_neg (by simp only [decide_eq_true_eq]; omega)]
      refine ⟨by omega, by omega, ?_⟩
      refine ldN (i := 1) bv (by omega) ?_
      by_cases hc1 : usedN i l = cntL i l 1
      · rw [if_neg (by simp only [bne_iff_ne, ne_eq]; omega)]
        exact good (by unfold checkE; rw [if_neg hov, if_neg (by omega)])
      · rw [if_pos (by simp only [bne_iff_ne, ne_eq]; omega)]
        have he : checkE i l = 7 := by unfold checkE; rw [if_neg hov, if_pos ⟨hun, by omega, .inr (by omega)⟩]
        rw [he] at hbad
        exact hbad (by omega) _ fv
  · rw [if_neg (by simp only [decide_eq_true_eq]; omega)]
    exact good (by unfold checkE; rw [if_neg hov, if_neg (by omega)])

theorem huff_New_spec {K : Nat → World → Prop} (hK : ∀ w' s, RC w' w.heap.size s → Fr 0 0 w w' → w'.heap.size = w.heap.size + 11 → K w.heap.size w') : S.huff_New w K := by
  unfold S.huff_New
  refine newB fun w1 r1 f1 s1 => ?_
  generalize hC : w.heap.size = C at *
  refine mkN (n := 265) (by omega) fun w2 b2 f2 s2 => ?_
  rw [s1] at b2 ⊢
  refine st1 (r1.fr f2 (by omega)) (by simp) fun w3 r3 f3 s3 => ?_
  have c2 := b2.fr f3 (by omega)
  refine mkN (n := 265) (by omega) fun w4 b4 f4 s4 => ?_
  rw [show w3.heap.size = C + 2 from by omega] at b4 ⊢
  refine st1 (r3.fr f4 (by omega)) (by simp) fun w5 r5 f5 s5 => ?_
  have c2 := (c2.fr f4 (by omega)).fr f5 (by omega)
  have c4 := b4.fr f5 (by omega)
  refine mkN (n := 64) (by omega) fun w6 b6 f6 s6 => ?_
  rw [show w5.heap.size = C + 3 from by omega] at b6 ⊢
  refine st1 (r5.fr f6 (by omega)) (by simp) fun w7 r7 f7 s7 => ?_
  have c2 := (c2.fr f6 (by omega)).fr f7 (by omega)
  have c4 := (c4.fr f6 (by omega)).fr f7 (by omega)
  have c6 := b6.fr f7 (by omega)
  refine mkN (n := 1024) (by omega) fun w8 b8 f8 s8 => ?_
  rw [show w7.heap.size = C + 4 from by omega] at b8 ⊢
  refine st1 (r7.fr f8 (by omega)) (by simp) fun w9 r9 f9 s9 => ?_
  have c2 := (c2.fr f8 (by omega)).fr f9 (by omega)
  have c4 := (c4.fr f8 (by omega)).fr f9 (by omega)
  have c6 := (c6.fr f8 (by omega)).fr f9 (by omega)
  have c8 := b8.fr f9 (by omega)
  have f09 : Fr C 1 w w9 := (((((((f1.any C 1).then0 f2).trans f3).then0 f4).trans f5).then0 f6).trans f7).then0 f8 |>.trans f9
  have r9 : Blk w9 C [.int .i64 0, .slice (some ⟨C + 1, 0, none⟩) 265 265, .slice (some ⟨C + 2, 0, none⟩) 265 265, .slice (some ⟨C + 3, 0, none⟩) 64 64, .slice (some ⟨C + 4, 0, none⟩) 1024 1024, .int .i64 0, .slice none 0 0, .slice none 0 0, .slice none 0 0, .slice none 0 0, .slice none 0 0, .slice none 0 0, .int .i64 0] := r9
  have z9 : w9.heap.size = C + 5 := by omega
  clear r7 r5 r3 r1 b2 b4 b6 b8 f1 f2 f3 f4 f5 f6 f7 f8 f9 s1 s2 s3 s4 s5 s6 s7 s8 s9
  refine mkN (n := 529) (by omega) fun w10 b10 f10 s10 => ?_
  rw [z9] at b10 s10 ⊢
  refine st1 (r9.fr f10 (by omega)) (by simp) fun w11 r11 f11 s11 => ?_
  have c10 := b10.fr f11 (by omega)
  refine mkN (n := 529) (by omega) fun w12 b12 f12 s12 => ?_
  rw [show w11.heap.size = C + 6 from by omega] at b12 s12 ⊢
  refine st1 (r11.fr f12 (by omega)) (by simp) fun w13 r13 f13 s13 => ?_
  have c10 := (c10.fr f12 (by omega)).fr f13 (by omega)
  have c12 := b12.fr f13 (by omega)
  refine mkN (n := 529) (by omega) fun w14 b14 f14 s14 => ?_
  rw [show w13.heap.size = C + 7 from by omega] at b14 s14 ⊢
  refine st1 (r13.fr f14 (by omega)) (by simp) fun w15 r15 f15 s15 => ?_
  have c10 := (c10.fr f14 (by omega)).fr f15 (by omega)
  have c12 := (c12.fr f14 (by omega)).fr f15 (by omega)
  have c14 := b14.fr f15 (by omega)
  have g1 : Fr C 1 w9 w15 := (((((f10.any C 1).trans f11).then0 f12).trans f13).then0 f14).trans f15
  have r15 : Blk w15 C [.int .i64 0, .slice (some ⟨C + 1, 0, none⟩) 265 265, .slice (some ⟨C + 2, 0, none⟩) 265 265, .slice (some ⟨C + 3, 0, none⟩) 64 64, .slice (some ⟨C + 4, 0, none⟩) 1024 1024, .int .i64 0, .slice (some ⟨C + 5, 0, none⟩) 529 529, .slice (some ⟨C + 6, 0, none⟩) 529 529, .slice (some ⟨C + 7, 0, none⟩) 529 529, .slice none 0 0, .slice none 0 0, .slice none 0 0, .int .i64 0] := r15
  have z15 : w15.heap.size = C + 8 := by omega
  clear r9 r11 r13 b10 b12 b14 f10 f11 f12 f13 f14 f15 s10 s11 s12 s13 s14 s15
  refine mkN (n := 529) (by omega) fun w16 b16 f16 s16 => ?_
  rw [z15] at b16 s16 ⊢
  refine st1 (r15.fr f16 (by omega)) (by simp) fun w17 r17 f17 s17 => ?_
  have c16 := b16.fr f17 (by omega)
  refine mkN (n := 529) (by omega) fun w18 b18 f18 s18 => ?_
  rw [show w17.heap.size = C + 9 from by omega] at b18 s18 ⊢
  refine st1 (r17.fr f18 (by omega)) (by simp) fun w19 r19 f19 s19 => ?_
  have c16 := (c16.fr f18 (by omega)).fr f19 (by omega)
  have c18 := b18.fr f19 (by omega)
  refine mkN (n := 265) (by omega) fun w20 b20 f20 s20 => ?_
  rw [show w19.heap.size = C + 10 from by omega] at b20 s20 ⊢
  refine st1 (r19.fr f20 (by omega)) (by simp) fun w21 r21 f21 s21 => ?_
  have c16 := (c16.fr f20 (by omega)).fr f21 (by omega)
  have c18 := (c18.fr f20 (by omega)).fr f21 (by omega)
  have c20 := b20.fr f21 (by omega)
  have g2 : Fr C 1 w15 w21 := (((((f16.any C 1).trans f17).then0 f18).trans f19).then0 f20).trans f21
  have g12 := g1.trans g2
  let z : Nat → Nat := fun _ => 0
  refine hK w21 ⟨0, 0, 0, z, z, z, fun _ => 0, z, z, z, z, z, z⟩ ⟨⟨0, 0, 0, z, z, z, fun _ => 0, z, z, z, z, z, z⟩, ⟨r21, c2.fr g12 (by omega), c4.fr g12 (by omega), c6.fr g12 (by omega), c8.fr g12 (by omega), c10.fr g2 (by omega), c12.fr g2 (by omega), c14.fr g2 (by omega), c16, c18, c20⟩, ⟨rfl, rfl, rfl, rfl, rfl, rfl⟩, fun x hx => by show 0 < 529; omega⟩ ?_ (by omega)
  have := f09.trans g12
  exact ⟨this.1, fun b hb _ => this.2 b hb (by omega)⟩
end Go.Proofs.Qxb6500563aGreat
