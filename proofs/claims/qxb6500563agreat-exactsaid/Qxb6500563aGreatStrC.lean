/-
  The real decoder: the list of lengths, the copies; the dispatch.
-/
import Derived.Test.Qxb6500563aGreatStrB
namespace Go.Proofs.Qxb6500563aGreat
open Go.Den Go.Zip
set_option linter.unusedVariables false
set_option linter.unusedSimpArgs false
variable {w w' : World} {B : Nat} {r : RS} {s : DS} {m0 : Nat} {K : Int → World → Prop}

theorem dist_le {c x : Nat} (hc : c < 8) (hx : x < 2 ^ dMore c) : 1 ≤ dBase c ∧ dBase c + x ≤ 16 := by
  have : c = 0 ∨ c = 1 ∨ c = 2 ∨ c = 3 ∨ c = 4 ∨ c = 5 ∨ c = 6 ∨ c = 7 := by omega
  rcases this with e | e | e | e | e | e | e | e <;> subst e <;> simp [dBase, dMore] at * <;> omega
theorem dMore_le (c : Nat) : dMore c ≤ 2 := by unfold dMore; split <;> (try split) <;> omega
theorem num_low (bits : List Bool) (a : Nat) {j k : Nat} (h : j ≤ k) : num bits a k % 2 ^ j = num bits a j := by
  unfold num
  apply Nat.eq_of_testBit_eq
  intro t
  rw [Nat.testBit_mod_two_pow, ofBits_testBit, ofBits_testBit, List.getElem?_take, List.getElem?_take]
  by_cases h1 : t < j
  · rw [if_pos (by omega), if_pos h1]; simp [h1]
  · rw [if_neg h1]; simp [h1]
theorem num_high (bits : List Bool) (a j k : Nat) : num bits a (j + k) / 2 ^ j = num bits (a + j) k := by
  unfold num
  apply Nat.eq_of_testBit_eq
  intro t
  rw [Nat.testBit_div_two_pow, ofBits_testBit, ofBits_testBit, List.getElem?_take, List.getElem?_take]
  by_cases h1 : t < k
  · rw [if_pos (by omega), if_pos h1, List.getElem?_drop, List.getElem?_drop]
    congr 2; omega
  · rw [if_neg (by omega), if_neg h1]

theorem stream_turnMore_spec (h : RW w B r) (q : Rel r s m0) (gd : GD r.bits s) (hp : s.ph = 7) (hE : TurnE w B r s m0 K) (hK : TurnK w B r s m0 K) : S.stream_Decoder_turnMore (B + 24) w K := by
  unfold S.stream_Decoder_turnMore
  have hst := step7 (bits := r.bits) hp
  unfold stMore at hst
  have q0 := q
  obtain ⟨q1, q2, q3, q4, q5, q6, q7, ⟨a1, a2, a3, a4⟩, q9, q10, q11, q12⟩ := q
  obtain ⟨b1, b2⟩ := q7 hp
  have hrun := q6 (by omega) (by omega)
  obtain ⟨u1, u2⟩ := gd.run (by omega) (by omega)
  have hdc := gd.dc hp
  have hml := dMore_le s.dc
  have hol := gd.olen
  refine drew_ (ldP h.drew.rc rfl (ldI h.drew.rc rfl ?_))
  rw [b2]
  refine take_spec (k := dMore s.dc) h.drew.tape (by omega) (fun hl w2 t2 f2 => ?_) fun hl w2 t2 f2 => ?_
  · rw [if_pos (by simp)]
    rw [if_pos (by rw [← q2]; exact hl)] at hst
    have f2 : Fr B 2 w w2 := f2
    exact hE 4 w2 _ (by omega) (by rw [hst]) (h.setCur t2 f2) q12 (fun _ => q0) ⟨rfl, rfl, rfl, rfl⟩ (f2.mono (by omega) (by omega))
  rw [if_neg (by simp)]
  rw [if_neg (by omega), ← q2] at hst
  have f2 : Fr B 2 w w2 := f2
  have h2 := h.setCur t2 f2
  have F2 := f2.mono (q := B) (m := 28) (by omega) (by omega)
  rw [show ofBits ((r.bits.drop r.cur).take (dMore s.dc)) = num r.bits r.cur (dMore s.dc) from rfl]
  have hx : num r.bits r.cur (dMore s.dc) < 2 ^ dMore s.dc := num_lt' _ _ _
  generalize num r.bits r.cur (dMore s.dc) = x at *
  obtain ⟨e1, e2⟩ := dist_le hdc hx
  refine ldI h2.rc rfl ?_
  rw [show W ((({ r with cur := r.cur + dMore s.dc } : RS).base : Int) + (x : Int)) = ((dBase s.dc + x : Nat) : Int) from by
    show W ((r.base : Int) + (x : Int)) = _
    rw [b1, W_add (by omega)]]
  generalize hbk : dBase s.dc + x = back at *
  refine let_ (ldI h2.rc rfl ?_)
  by_cases hd : s.out.length < back
  · rw [if_pos (by simp only [decide_eq_true_eq]; show (back : Int) > (r.fill : Int); omega)]
    rw [if_pos hd] at hst
    exact hE 9 w2 _ (by omega) (by rw [hst]) h2 q12 (fun h => by omega) ⟨rfl, rfl, rfl, rfl⟩ F2
  rw [if_neg (by simp only [decide_eq_true_eq]; show ¬ (back : Int) > (r.fill : Int); omega)]
  rw [if_neg hd] at hst
  refine drew_ (ldI h2.drew.rc rfl (ldI h2.drew.rc rfl ?_))
  rw [show W (256 - (({ r with cur := r.cur + dMore s.dc } : RS).total : Int)) = ((256 - s.out.length : Nat) : Int) from by
    show W (256 - (r.total : Int)) = _
    rw [a3, W_id (by omega) (by omega)]; omega]
  by_cases ho : 256 < s.out.length + s.run
  · rw [if_pos (by simp only [decide_eq_true_eq]; show (r.run : Int) > _; omega)]
    rw [if_pos ho] at hst
    exact hE 10 w2.drew _ (by omega) (by rw [hst]) h2.drew q12 (fun h => by omega) ⟨rfl, rfl, rfl, rfl⟩ F2
  rw [if_neg (by simp only [decide_eq_true_eq]; show ¬ (r.run : Int) > _; omega)]
  rw [if_neg ho] at hst
  refine ldI h2.drew.rc rfl ?_
  rw [show W ((({ r with cur := r.cur + dMore s.dc } : RS).wi : Int) - (back : Int)) = (r.wi : Int) - (back : Int) from by
    show W ((r.wi : Int) - (back : Int)) = _
    rw [W_id (by omega) (by omega)]]
  refine let_ (join_ ?_)
  have cont : ∀ (fi : Int), fi = (((s.out.length - back) % 16 : Nat) : Int) → (Join (fun (w : World) =>
            St1 w ⟨B + 24, 4, none⟩ (.int .i64 5) fun w =>
            K 0 w) fun J13 =>
          LoopP (σ := Int × Int × Unit) (fun st14 w next15 =>
            LdI .i64 w ⟨B + 24, 11, none⟩ fun run_16 =>
            if (decide (st14.2.1 < run_16)) = true then
              Join (fun (from_17 : Int) (w : World) =>
                Let (W (st14.2.1 + 1)) fun k_18 =>
                next15 (from_17, k_18, ()) w) fun J19 =>
              LdS w ⟨B + 24, 14, none⟩ fun ring_20 =>
              Ix ring_20.a ring_20.l st14.1 fun b21 o22 =>
              LdI .u8 w ⟨b21, o22 + Int.toNat st14.1 * 1, none⟩ fun x_23 =>
              S.stream_Decoder_give (B + 24) x_23 w (fun w =>
              Let (W (st14.1 + 1)) fun from_24 =>
              if (from_24 == 16) = true then
                J19 0 w
              else
                J19 from_24 w)
            else
              J13 w) (fi, 0, ()) w2.drew) := by
    intro fi hfi
    refine join_ ?_
    refine loopN (fun m st v => ∃ (k : Nat) (rk : RS), st = ((((s.out.length + k - back) % 16 : Nat) : Int), (k : Int), ()) ∧ m + k = s.run ∧ RW v B rk ∧ Rel rk { s with cur := r.cur + dMore s.dc, out := copyOut s.out back k } m0 ∧ SameR r rk ∧ Fr B 28 w v) s.run
      ⟨0, _, by rw [hfi]; rfl, by omega, h2.drew, ⟨q1, rfl, q3, q4, q5, q6, q7, ⟨a1, a2, a3, a4⟩, q9, q10, q11, q12⟩, ⟨rfl, rfl⟩, F2⟩ ?_
    rintro m _ v ⟨k, rk, rfl, hm, hv, R, S', fv⟩ Q hQ
    have hlenk := copyOut_len s.out back k
    have R' := R
    obtain ⟨p1, p2, p3, p4, p5, p6, p7, ⟨z1, z2, z3, z4⟩, p9, p10, p11, p12⟩ := R
    have hrk : rk.run = s.run := p6 (by show 6 ≤ s.ph; omega) (by show s.ph ≤ 7; omega)
    dsimp only at z1 z2 z3 z4 p10
    rw [hlenk] at z1 z2 z3 z4 p10
    refine ldI hv.rc rfl ?_
    dsimp only
    rw [hrk]
    by_cases hk : k < s.run
    · rw [if_pos (by simp only [decide_eq_true_eq]; omega)]
      refine join_ (ldS hv.rc rfl (rdT hv.ring (by omega) ?_))
      rw [p10 (s.out.length + k - back) (by omega) (by omega)]
      refine stream_give_spec hv (by omega) (by omega) (by omega) (by omega) fun v2 hv2 f2 => ?_
      have hnx : copyOut s.out back (k + 1) = copyOut s.out back k ++ [(copyOut s.out back k).getD (s.out.length + k - back) 0] := by rw [← hlenk]; rfl
      have R2 := give_rel (c := (copyOut s.out back k).getD (s.out.length + k - back) 0) R'
      dsimp only at R2
      rw [← hnx] at R2
      rw [W_succ (by omega)]
      refine let_ ?_
      dsimp only
      rw [W_succ (by omega)]
      by_cases hw : (s.out.length + k - back) % 16 + 1 = 16
      · rw [if_pos (by simp only [beq_iff_eq]; omega)]
        refine let_ (hQ (m - 1) _ _ (by omega) ⟨k + 1, _, ?_, by omega, hv2, R2, S', fv.trans f2⟩)
        congr 1
        rw [show (s.out.length + (k + 1) - back) % 16 = 0 from by omega]; rfl
      · rw [if_neg (by simp only [beq_iff_eq]; omega)]
        refine let_ (hQ (m - 1) _ _ (by omega) ⟨k + 1, _, ?_, by omega, hv2, R2, S', fv.trans f2⟩)
        congr 1
        rw [show (s.out.length + (k + 1) - back) % 16 = (s.out.length + k - back) % 16 + 1 from by omega]
    · rw [if_neg (by simp only [decide_eq_true_eq]; omega)]
      have hke : k = s.run := by omega
      subst hke
      refine st1 hv.rc (by simp [recD]) fun v2 d2 f2 _ => ?_
      have hv2 := hv.reg (r' := { rk with ph := 5 }) d2 f2
      refine hK _ v2 _ hst hv2 ⟨rfl, p2, p3, fun h => by simp at h, fun h => by simp at h, fun h => by simp at h, fun h => by simp at h, ?_, p9, ?_, fun _ _ => p11 (by show 5 ≤ s.ph; omega) (by show s.ph ≤ 7; omega), p12⟩ S' (fv.trans (f2.mono (by omega) (by omega)))
      · show rk.wi = (copyOut s.out back s.run).length % 16 ∧ rk.fill = min (copyOut s.out back s.run).length 16 ∧ rk.total = (copyOut s.out back s.run).length ∧ rk.n + m0 = (copyOut s.out back s.run).length
        rw [hlenk]
        exact ⟨z1, z2, z3, z4⟩
      · show ∀ j, j < (copyOut s.out back s.run).length → (copyOut s.out back s.run).length ≤ j + 16 → _
        rw [hlenk]
        exact p10
  by_cases hneg : r.wi < back
  · rw [if_pos (by simp only [decide_eq_true_eq]; omega)]
    refine let_ (cont _ ?_)
    rw [W_id (by omega) (by omega)]
    omega
  · rw [if_neg (by simp only [decide_eq_true_eq]; omega)]
    refine cont _ ?_
    omega

theorem check_vals (n : Nat) (l : Nat → Nat) : checkE n l = 0 ∨ checkE n l = 6 ∨ checkE n l = 7 := by
  unfold checkE
  split
  · omega
  · split <;> omega
set_option maxRecDepth 10000 in
theorem stream_listEnd_spec {s' : DS} (h : RW w B r) (hsp : step r.bits s = listEnd s') (q : Rel r s' m0) (hp : s'.ph = 4) (hi : s'.idx ≤ 273) (hl : ∀ i, i < s'.idx → s'.ln i ≤ 10) {w0 : World} {r0 : RS} (S0 : SameR r0 r) (S1 : r.n = r0.n ∧ r.bf = r0.bf) (hF : Fr B 28 w0 w)
    (hE : TurnE w0 B r0 s m0 K) (hK : TurnK w0 B r0 s m0 K) : S.stream_Decoder_listEnd (B + 24) w K := by
  unfold S.stream_Decoder_listEnd
  obtain ⟨q1, q2, q3, q4, q5, q6, q7, q8, q9, q10, q11, q12⟩ := q
  have hsp0 : step r0.bits s = listEnd s' := by rw [← S0.1]; exact hsp
  obtain ⟨i1, i2⟩ := q5 hp
  refine drew_ (ldI h.drew.rc rfl (ldS h.drew.rc rfl ?_))
  dsimp only
  unfold listEnd at hsp0
  by_cases hd : s'.idx < 273
  · rw [if_pos (by simp only [decide_eq_true_eq]; omega)]
    rw [if_pos hd] at hsp0
    exact hK _ w.drew r hsp0 h.drew ⟨q1, q2, q3, q4, q5, q6, q7, q8, q9, q10, q11, q12⟩ S0 hF
  · rw [if_neg (by simp only [decide_eq_true_eq]; omega)]
    rw [if_neg hd] at hsp0
    have he : s'.idx = 273 := by omega
    rw [he] at i2 hl
    have h' : RW w.drew B { r with ln := s'.ln } := ⟨h.drew.tape, h.drew.ca, h.drew.cb, h.drew.rc, by have := h.drew.lens; rw [nats_congr i2] at this; exact this, h.drew.ring, h.drew.buf⟩
    refine stream_sets_spec h' hl (fun hne w2 r2 h2 ho2 S2 f2 => ?_) fun hz w2 sa sb h2 H1 H2 f2 => ?_
    · rw [if_pos hne] at hsp0
      have hne4 : setsE s'.ln ≠ 4 := by
        have c1 := check_vals 265 s'.ln
        have c2 := check_vals 8 (hiL s'.ln)
        unfold setsE
        generalize checkE 265 s'.ln = x1 at *
        generalize checkE 8 (hiL s'.ln) = x2 at *
        split
        · omega
        · split
          · omega
          · split <;> omega
      exact hE _ w2 r2 hne (by rw [hsp0]) h2 ho2 (fun h4 => absurd h4 hne4) ⟨S2.1.trans S0.1, S2.2.1.trans S0.2, S2.2.2.1.trans S1.1, S2.2.2.2.trans S1.2⟩ (hF.trans f2)
    · rw [if_neg (by simpa using hz)] at hsp0
      exact hK _ w2 _ hsp0 h2 ⟨rfl, q2, q3, fun h => by simp at h, fun h => by simp at h, fun h => by simp at h, fun h => by simp at h, q8, q9, q10, fun _ _ => ⟨H1, H2⟩, fun hh => by cases hh⟩ S0 (hF.trans f2)

set_option maxRecDepth 10000 in
theorem stream_turnList_spec (h : RW w B r) (q : Rel r s m0) (gd : GD r.bits s) (hp : s.ph = 4) (hE : TurnE w B r s m0 K) (hK : TurnK w B r s m0 K) : S.stream_Decoder_turnList (B + 24) w K := by
  unfold S.stream_Decoder_turnList
  have hst := step4 (bits := r.bits) hp
  unfold stList at hst
  have q0 := q
  obtain ⟨q1, q2, q3, q4, q5, q6, q7, q8, q9, q10, q11, q12⟩ := q
  obtain ⟨i1, i2⟩ := q5 hp
  obtain ⟨g1, g2⟩ := gd.idx hp
  have hcur := gd.cur
  refine ldP h.rc rfl (pos_spec h.tape (st1 h.rc (by simp [recD]) fun w1 d1 f1 _ => ?_))
  have h1 := h.reg (r' := { r with spot := r.cur }) d1 f1
  refine ldP h1.rc rfl ?_
  have F1 : Fr B 28 w w1 := f1.mono (by omega) (by omega)
  refine peek_spec (k := 11) h1.tape (by omega) fun g w2 hg t2 f2 => ?_
  have hg : g = min 11 (r.bits.length - r.cur) := hg
  have h2 := h1.setCur t2 f2
  have F2 := F1.trans (f2.mono (q := B) (m := 28) (by omega) (by omega))
  rw [← q2] at hst
  by_cases hend : r.bits.length < r.cur + 4
  · rw [if_pos (by simp only [decide_eq_true_eq]; omega)]
    rw [if_pos hend] at hst
    exact hE 4 w2 _ (by omega) (by rw [hst]) h2 q12 (fun _ => q0) ⟨rfl, rfl, rfl, rfl⟩ F2
  rw [if_neg (by simp only [decide_eq_true_eq]; omega)]
  rw [if_neg hend] at hst
  have hv : num r.bits r.cur 11 < 2048 := num_lt' r.bits r.cur 11
  rw [show (ofBits (({ r with spot := r.cur } : RS).bits.drop ({ r with spot := r.cur } : RS).cur |>.take 11) : Int) = (num r.bits r.cur 11 : Int) from rfl]
  rw [and_15' (by omega), show num r.bits r.cur 11 % 16 = num r.bits r.cur 4 from num_low r.bits r.cur (j := 4) (by omega)]
  refine let_ ?_
  by_cases hit : num r.bits r.cur 4 ≤ 10
  · rw [if_pos (by simp only [decide_eq_true_eq]; omega)]
    rw [if_pos hit] at hst
    refine ldP h2.rc rfl (skip_spec (k := 4) h2.tape (by omega) (by show r.cur + 4 ≤ r.bits.length; omega) fun w3 t3 f3 => ?_)
    have h3 := h2.setCur t3 f3
    have F3 := F2.trans (f3.mono (q := B) (m := 28) (by omega) (by omega))
    refine drew_ (ldS h3.drew.rc rfl (ldI h3.drew.rc rfl ?_))
    refine wrN (v := num r.bits r.cur 4) h3.drew.lens (by show r.idx < 273; omega) rfl fun w4 d4 f4 _ => ?_
    have f4 : Fr (B + 25) 1 w3 w4 := f4
    have h4 := h3.setLn d4 f4
    refine ldI h4.rc rfl (st1 h4.rc (by simp [recD]) fun w5 d5 f5 _ => ?_)
    rw [W_succ (by show r.idx < _; omega)] at d5
    have h5 := h4.reg (r' := { r with spot := r.cur, cur := r.cur + 4, ln := fset r.ln r.idx (num r.bits r.cur 4), idx := r.idx + 1 }) d5 f5
    have F5 := (F3.trans (f4.mono (q := B) (m := 28) (by omega) (by omega))).trans (f5.mono (q := B) (m := 28) (by omega) (by omega))
    refine stream_listEnd_spec (m0 := m0) h5 hst ⟨q1, rfl, q3, q4, fun _ => ⟨by show r.idx + 1 = s.idx + 1; omega, fun i hi => ?_⟩, q6, q7, q8, q9, q10, q11, q12⟩ hp (by show s.idx + 1 ≤ 273; omega) (fun i hi => ?_) (w0 := w) (r0 := r) ⟨rfl, rfl⟩ ⟨rfl, rfl⟩ F5 hE hK
    · show fset r.ln r.idx _ i = fset s.ln s.idx _ i
      rw [i1]
      have hi : i < s.idx + 1 := hi
      unfold fset
      split
      · rfl
      · exact i2 i (by omega)
    · show fset s.ln s.idx _ i ≤ 10
      have hi : i < s.idx + 1 := hi
      unfold fset
      split
      · exact hit
      · exact g2 i (by omega)
  rw [if_neg (by simp only [decide_eq_true_eq]; omega)]
  rw [if_neg hit] at hst
  by_cases hbig : 12 < num r.bits r.cur 4
  · rw [if_pos (by simp only [decide_eq_true_eq]; omega)]
    rw [if_pos hbig] at hst
    exact hE 8 w2 _ (by omega) (by rw [hst]) h2 q12 (fun h => by omega) ⟨rfl, rfl, rfl, rfl⟩ F2
  rw [if_neg (by simp only [decide_eq_true_eq]; omega)]
  rw [if_neg hbig] at hst
  have hi16 : num r.bits r.cur 4 < 16 := num_lt' r.bits r.cur 4
  -- the run itself
  have rn : ∀ (wide vv : Nat) (v3 : World), wide ≤ 7 → vv ≤ 10 → r.cur + 4 + wide ≤ r.bits.length → step r.bits s = stRun r.bits { s with cur := r.cur } wide vv → RW v3 B { r with spot := r.cur } → Fr B 28 w v3 →
      (Drew v3 fun w =>
              LdS w ⟨B + 24, 9, none⟩ fun lens_18 =>
              LdI .i64 w ⟨B + 24, 10, none⟩ fun idx_19 =>
              if (decide (((3 + num r.bits (r.cur + 4) wide : Nat) : Int) > (W ((lens_18.l : Int) - idx_19)))) = true then
                K 8 w
              else
                LdP w ⟨B + 24, 0, none⟩ fun t_20 =>
                S.bits_Tape_Skip t_20 (W (4 + (wide : Int))) w (fun r21 w =>
                Join (fun (w : World) =>
                  S.stream_Decoder_listEnd (B + 24) w (fun r22 w =>
                  K r22 w)) fun J23 =>
                LoopP (σ := Int × Unit) (fun st24 w next25 =>
                  if (decide (st24.1 < ((3 + num r.bits (r.cur + 4) wide : Nat) : Int))) = true then
                    Drew w fun w =>
                    LdS w ⟨B + 24, 9, none⟩ fun lens_26 =>
                    LdI .i64 w ⟨B + 24, 10, none⟩ fun idx_27 =>
                    Ix lens_26.a lens_26.l idx_27 fun b28 o29 =>
                    St1 w ⟨b28, o29 + Int.toNat idx_27 * 1, none⟩ (.int .i64 (vv : Int)) fun w =>
                    LdI .i64 w ⟨B + 24, 10, none⟩ fun idx_30 =>
                    St1 w ⟨B + 24, 10, none⟩ (.int .i64 (W (idx_30 + 1))) fun w =>
                    Let (W (st24.1 + 1)) fun k_31 =>
                    next25 (k_31, ()) w
                  else
                    J23 w) (0, ()) w)) := by
    intro wide vv v3 hwide hvv hav hst h3 F3
    unfold stRun at hst
    dsimp only at hst
    generalize hxe : num r.bits (r.cur + 4) wide = x at *
    refine drew_ (ldS h3.drew.rc rfl (ldI h3.drew.rc rfl ?_))
    dsimp only
    rw [show W (((273 : Nat) : Int) - (r.idx : Int)) = ((273 - r.idx : Nat) : Int) from by rw [W_id (by omega) (by omega)]; omega]
    by_cases hbeyond : 273 < s.idx + (3 + x)
    · rw [if_pos (by simp only [decide_eq_true_eq]; omega)]
      rw [if_pos hbeyond] at hst
      exact hE 8 v3.drew _ (by omega) (by rw [hst]) h3.drew q12 (fun h => by omega) ⟨rfl, rfl, rfl, rfl⟩ F3
    rw [if_neg (by simp only [decide_eq_true_eq]; omega)]
    rw [if_neg hbeyond] at hst
    rw [show W (4 + (wide : Int)) = ((4 + wide : Nat) : Int) from by rw [W_id (by omega) (by omega)]; omega]
    refine ldP h3.drew.rc rfl (skip_spec h3.drew.tape (by omega) (by show r.cur + (4 + wide) ≤ r.bits.length; omega) fun v4 t4 f4 => ?_)
    have f4 : Fr B 2 v3 v4 := f4
    have h4 := h3.setCur t4 f4
    have F4 := F3.trans (f4.mono (q := B) (m := 28) (by omega) (by omega))
    refine join_ ?_
    refine loopN (fun m st u => ∃ k : Nat, st = ((k : Int), ()) ∧ m + k = 3 + x ∧ RW u B { r with spot := r.cur, cur := r.cur + (4 + wide), ln := fillL r.ln r.idx k vv, idx := r.idx + k } ∧ Fr B 28 w u) (3 + x)
      ⟨0, rfl, rfl, ⟨h4.tape, h4.ca, h4.cb, h4.rc, by
        have := h4.lens
        rw [nats_congr (g := fillL r.ln r.idx 0 vv) fun j hj => by unfold fillL; rw [if_neg (by omega)]] at this
        exact this, h4.ring, h4.buf⟩, F4⟩ ?_
    rintro m' _ u ⟨k, rfl, hm', hu, fu⟩ Q' hQ'
    dsimp only
    by_cases hk : k < 3 + x
    · rw [if_pos (by simp only [decide_eq_true_eq]; omega)]
      refine drew_ (ldS hu.drew.rc rfl (ldI hu.drew.rc rfl ?_))
      refine wrN (v := vv) hu.drew.lens (by show r.idx + k < 273; omega) rfl fun u2 d2 f2 _ => ?_
      have f2 : Fr (B + 25) 1 u u2 := f2
      have d2 : Blk u2 (B + 25) (nats 273 (fset (fillL r.ln r.idx k vv) (r.idx + k) vv)) := d2
      rw [nats_congr (g := fillL r.ln r.idx (k + 1) vv) fun j hj => by
        unfold fset fillL
        by_cases e : j = r.idx + k
        · rw [if_pos e, if_pos (by omega)]
        · rw [if_neg e]
          by_cases g2 : r.idx ≤ j ∧ j < r.idx + k
          · rw [if_pos g2, if_pos (by omega)]
          · rw [if_neg g2, if_neg (by omega)]] at d2
      have hu2 := hu.setLn d2 f2
      refine ldI hu2.rc rfl (st1 hu2.rc (by simp [recD]) fun u3 d3 f3 _ => ?_)
      rw [W_succ (by show r.idx + k < _; omega)] at d3
      have hu3 := hu2.reg (r' := { r with spot := r.cur, cur := r.cur + (4 + wide), ln := fillL r.ln r.idx (k + 1) vv, idx := r.idx + k + 1 }) d3 f3
      rw [W_succ (by omega)]
      exact let_ (hQ' (m' - 1) _ _ (by omega) ⟨k + 1, rfl, by omega, hu3, (fu.trans (f2.mono (by omega) (by omega))).trans (f3.mono (by omega) (by omega))⟩)
    · rw [if_neg (by simp only [decide_eq_true_eq]; omega)]
      have hke : k = 3 + x := by omega
      subst hke
      refine stream_listEnd_spec (m0 := m0) hu hst ⟨q1, by show r.cur + (4 + wide) = r.cur + 4 + wide; omega, q3, q4, fun _ => ⟨by show r.idx + (3 + x) = s.idx + (3 + x); omega, fun i hi => ?_⟩, q6, q7, q8, q9, q10, q11, q12⟩ hp (by show s.idx + (3 + x) ≤ 273; omega) (fun i hi => ?_) (w0 := w) (r0 := r) ⟨rfl, rfl⟩ ⟨rfl, rfl⟩ fu hE hK
      · show fillL r.ln r.idx (3 + x) vv i = fillL s.ln s.idx (3 + x) vv i
        have hi : i < s.idx + (3 + x) := hi
        rw [i1]
        unfold fillL
        by_cases g3 : s.idx ≤ i ∧ i < s.idx + (3 + x)
        · rw [if_pos g3, if_pos g3]
        · rw [if_neg g3, if_neg g3]; exact i2 i (by omega)
      · show fillL s.ln s.idx (3 + x) vv i ≤ 10
        have hi : i < s.idx + (3 + x) := hi
        unfold fillL
        by_cases g3 : s.idx ≤ i ∧ i < s.idx + (3 + x)
        · rw [if_pos g3]; exact hvv
        · rw [if_neg g3]; exact g2 i (by omega)
  have times : ∀ wide : Nat, wide ≤ 7 → Pos (U64 (wide : Int)) (W (3 + (And .i64 (Shr .i64 (num r.bits r.cur 11 : Int) 4) (W ((Shl .i64 1 (U64 (wide : Int))) - 1)))) = ((3 + num r.bits (r.cur + 4) wide : Nat) : Int)) := by
    intro wide hwd
    have hq : num r.bits r.cur 11 / 16 < 65536 := by omega
    obtain ⟨m1, m2⟩ := mask_and (a := num r.bits r.cur 11 / 16) (k := wide) hq (by omega)
    refine ⟨m2, ?_⟩
    rw [show Shr .i64 (num r.bits r.cur 11 : Int) 4 = ((num r.bits r.cur 11 / 16 : Nat) : Int) from by exact_mod_cast Shr_nat (num r.bits r.cur 11) 4 (by omega), m1]
    rw [show num r.bits r.cur 11 / 16 = num r.bits (r.cur + 4) 7 from num_high r.bits r.cur 4 7, num_low r.bits (r.cur + 4) hwd]
    have hx := num_lt' r.bits (r.cur + 4) wide
    have hp7 : 2 ^ wide ≤ 2 ^ 7 := Nat.pow_le_pow_right (by omega) hwd
    rw [W_id (by omega) (by omega)]
    omega
  refine join_ ?_
  have h2' : RW w2 B { r with spot := r.cur } := h2
  by_cases h12 : num r.bits r.cur 4 = 12
  · rw [if_pos (by simp only [beq_iff_eq]; omega)]
    rw [if_pos h12] at hst
    by_cases hl : r.bits.length < r.cur + 4 + 2
    · rw [if_pos (by simp only [decide_eq_true_eq]; show (g : Int) < 6; omega)]
      rw [if_pos hl] at hst
      exact hE 4 w2 _ (by omega) (by rw [hst]) h2 q12 (fun _ => q0) ⟨rfl, rfl, rfl, rfl⟩ F2
    rw [if_neg (by simp only [decide_eq_true_eq]; show ¬ (g : Int) < 6; omega)]
    rw [if_neg hl] at hst
    obtain ⟨t1, t2⟩ := times 2 (by omega)
    refine ⟨t1, ?_⟩
    rw [show W (3 + (And .i64 (Shr .i64 (num r.bits r.cur 11 : Int) 4) (W ((Shl .i64 1 (U64 2)) - 1)))) = ((3 + num r.bits (r.cur + 4) 2 : Nat) : Int) from t2]
    refine let_ (join_ ?_)
    rw [if_pos (by simp only [beq_iff_eq]; omega)]
    refine ldI h2.rc rfl ?_
    by_cases hz : s.idx = 0
    · rw [if_pos (by simp only [beq_iff_eq]; show (r.idx : Int) = 0; omega)]
      rw [if_pos hz] at hst
      exact hE 8 w2 _ (by omega) (by rw [hst]) h2 q12 (fun h => by omega) ⟨rfl, rfl, rfl, rfl⟩ F2
    · rw [if_neg (by simp only [beq_iff_eq]; show ¬ (r.idx : Int) = 0; omega)]
      rw [if_neg hz] at hst
      refine drew_ (ldS h2.drew.rc rfl (ldI h2.drew.rc rfl ?_))
      rw [show W ((({ r with spot := r.cur } : RS).idx : Int) - 1) = ((r.idx - 1 : Nat) : Int) from by show W ((r.idx : Int) - 1) = _; rw [W_id (by omega) (by omega)]; omega]
      refine rdN h2.drew.lens (by omega) ?_
      rw [show ({ r with spot := r.cur } : RS).ln (r.idx - 1) = s.ln (s.idx - 1) from by show r.ln (r.idx - 1) = _; rw [i2 _ (by omega), i1]]
      refine rn 2 _ w2.drew (by omega) (g2 _ (by omega)) (by omega) ?_ h2'.drew F2
      rw [hst]
      unfold stRun
      rw [q2]
  · rw [if_neg (by simp only [beq_iff_eq]; omega)]
    rw [if_neg h12] at hst
    by_cases hl : r.bits.length < r.cur + 4 + 7
    · rw [if_pos (by simp only [decide_eq_true_eq]; show (g : Int) < 11; omega)]
      rw [if_pos hl] at hst
      exact hE 4 w2 _ (by omega) (by rw [hst]) h2 q12 (fun _ => q0) ⟨rfl, rfl, rfl, rfl⟩ F2
    rw [if_neg (by simp only [decide_eq_true_eq]; show ¬ (g : Int) < 11; omega)]
    rw [if_neg hl] at hst
    obtain ⟨t1, t2⟩ := times 7 (by omega)
    refine ⟨t1, ?_⟩
    rw [show W (3 + (And .i64 (Shr .i64 (num r.bits r.cur 11 : Int) 4) (W ((Shl .i64 1 (U64 7)) - 1)))) = ((3 + num r.bits (r.cur + 4) 7 : Nat) : Int) from t2]
    refine let_ (join_ ?_)
    rw [if_neg (by simp only [beq_iff_eq]; omega)]
    refine rn 7 0 w2 (by omega) (by omega) (by omega) ?_ h2' F2
    rw [hst]
    unfold stRun
    rw [q2]

theorem stream_turn_spec (h : RW w B r) (q : Rel r s m0) (gd : GD r.bits s) (hp : s.ph ≠ 8) (hE : TurnE w B r s m0 K) (hK : TurnK w B r s m0 K) : S.stream_Decoder_turn (B + 24) w K := by
  unfold S.stream_Decoder_turn
  have hph := q.1
  have hle := gd.ph
  refine ldI h.rc rfl ?_
  rw [hph]
  by_cases p0 : s.ph = 0
  · rw [if_pos (by simp only [beq_iff_eq]; omega)]
    exact stream_turnFinal_spec h q p0 hE hK
  rw [if_neg (by simp only [beq_iff_eq]; omega)]
  by_cases p1 : s.ph = 1
  · rw [if_pos (by simp only [beq_iff_eq]; omega)]
    exact stream_turnKind_spec h q p1 hE hK
  rw [if_neg (by simp only [beq_iff_eq]; omega)]
  by_cases p2 : s.ph = 2
  · rw [if_pos (by simp only [beq_iff_eq]; omega)]
    exact stream_turnSize_spec h q p2 gd.fin hE hK
  rw [if_neg (by simp only [beq_iff_eq]; omega)]
  by_cases p3 : s.ph = 3
  · rw [if_pos (by simp only [beq_iff_eq]; omega)]
    exact stream_turnByte_spec h q gd p3 hE hK
  rw [if_neg (by simp only [beq_iff_eq]; omega)]
  by_cases p4 : s.ph = 4
  · rw [if_pos (by simp only [beq_iff_eq]; omega)]
    exact stream_turnList_spec h q gd p4 hE hK
  rw [if_neg (by simp only [beq_iff_eq]; omega)]
  by_cases p5 : s.ph = 5
  · rw [if_pos (by simp only [beq_iff_eq]; omega)]
    exact stream_turnSym_spec h q gd p5 hE hK
  rw [if_neg (by simp only [beq_iff_eq]; omega)]
  by_cases p6 : s.ph = 6
  · rw [if_pos (by simp only [beq_iff_eq]; omega)]
    exact stream_turnDist_spec h q gd p6 hE hK
  rw [if_neg (by simp only [beq_iff_eq]; omega)]
  exact stream_turnMore_spec h q gd (by omega) hE hK
end Go.Proofs.Qxb6500563aGreat
