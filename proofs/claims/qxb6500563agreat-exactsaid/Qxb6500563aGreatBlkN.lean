/-
  The model's decoder: the kinds of block; Run.
-/
import Derived.Test.Qxb6500563aGreatBlkM
namespace Go.Proofs.Qxb6500563aGreat
open Go.Den Go.Zip
set_option linter.unusedVariables false
set_option linter.unusedSimpArgs false
variable {w w' w0 : World} {t g : Nat} {bits : List Bool} {o : Sl} {cur : Nat} {out : List Nat}

set_option maxRecDepth 10000 in
theorem blockm_coded_spec {N : Nat} {s : DS} {head : Int} {K : Sl → Int → Int → World → Prop} (h : MD w0 w t g bits o s.cur s.out) (hl : Blk w N (nats 273 s.set)) (hN : ¬ mine t o N) (hle : ∀ i, i < 273 → s.set i ≤ 10)
    (hbad : setsE s.set ≠ 0 → ∀ w' at_, MD w0 w' t g bits o s.cur s.out → K o (setsE s.set : Int) at_ w')
    (hK : setsE s.set = 0 → s.ph = 5 ∧ GD bits s ∧ ∀ o' (e : Nat) at_ w', BEnd w0 w' t g bits o' s e → K o' (e : Int) at_ w') : S.blockm_coded t ⟨some ⟨N, 0, none⟩, 273, 273⟩ head o w K := by
  unfold S.blockm_coded
  have htl := h.tape.lt
  have hgl := h.gl
  have hNl := hl.lt
  have hNt : N ≠ t := fun e => hN (.inl e)
  refine huffm_New_spec fun w1 b1 f1 s1 => ?_
  refine huffm_New_spec fun w2 b2 f2 s2 => ?_
  rw [s1] at b2 s2 ⊢
  have f02 := f1.trans f2
  have m2 := h.ext (h.tape.ext f02) f02
  have b1 := b1.fr f2 (by omega)
  have hl2 := hl.fr f02 (by omega)
  generalize hA : w.heap.size = A at *
  refine cutS (lo := 0) (hi := 265) (mx := 273) (bb := N) rfl (by omega) (by omega) (by show 273 ≤ 273; omega) (by omega) ?_
  have i1 : IS w2 ⟨some ⟨N, 0 * 1, none⟩, 265 - 0, 273 - 0⟩ N 265 s.set := by
    have := IS.win (c := 273) (o := 0) (n := 265) hl2 (by omega)
    simpa using this
  -- the loop that is over at once
  have stop : ∀ (e : Nat) v, e ≠ 0 → setsE s.set = e → MD w0 v t g bits o s.cur s.out → (Let ((e : Int) != 0) fun done_7 =>
      Join (fun (out_8 : Sl) (e_9 : Int) (at_10 : Int) (w : World) =>
        K out_8 e_9 at_10 w) fun J11 =>
      LoopP (σ := Sl × Int × Int × Bool × Unit) (fun st12 w next13 =>
        if (!st12.2.2.2.1) = true then
          S.bitsm_Tape_Pos t w (fun r14 w =>
          S.blockm_token t A (A + 1) st12.1 w (fun r15 r16 r17 w =>
          next13 (r15, r17, r14, r16, ()) w))
        else
          J11 st12.1 st12.2.1 st12.2.2.1 w) (o, (e : Int), head, done_7, ()) v) := by
    intro e v he hse mv
    rw [show ((e : Int) != 0) = true from by simp only [bne_iff_ne, ne_eq]; omega]
    refine let_ (join_ ?_)
    refine loopN (fun m st u => st = (o, (e : Int), head, true, ()) ∧ u = v) 0 ⟨rfl, rfl⟩ ?_
    rintro m _ u ⟨rfl, rfl⟩ Q hQ
    dsimp only
    rw [if_neg (by simp), ← hse]
    exact hbad (by omega) u head mv
  refine huffm_Build_spec (l := s.set) (n := 265) b1 i1 (by omega) (by omega) (fun i hi => hle i (by omega)) (fun hz => ?_) (fun hz w3 x y c3 hx hy f3 => ?_)
  · refine join_ ?_
    rw [if_neg (by simp only [beq_iff_eq]; omega)]
    refine join_ ?_
    rw [if_neg (by simp only [beq_iff_eq]; omega)]
    exact stop _ _ hz (by unfold setsE; rw [if_pos hz]) m2
  refine join_ ?_
  rw [if_pos (by simp)]
  refine cutS (lo := 265) (hi := 273) (mx := 273) (bb := N) rfl (by omega) (by omega) (by show 273 ≤ 273; omega) (by omega) ?_
  have hl3 := hl2.fr f3 (by omega)
  have m3 : MD w0 w3 t g bits o s.cur s.out := m2.new (p := A) (by omega) h f3
  have i2 : IS w3 ⟨some ⟨N, 265 * 1, none⟩, 273 - 265, 273 - 265⟩ N 8 (hiL s.set) := IS.win (c := 8) (o := 265) (n := 8) hl3 (by omega)
  have b3 := b2.fr f3 (by omega)
  refine huffm_Build_spec (l := hiL s.set) (n := 8) b3 i2 (by omega) (by omega) (fun i hi => hle (265 + i) (by omega)) (fun hz2 => ?_) (fun hz2 w4 x2 y2 c4 hx2 hy2 f4 => ?_)
  · refine join_ ?_
    rw [if_neg (by simp only [beq_iff_eq]; omega)]
    exact stop _ _ hz2 (by unfold setsE; rw [if_neg (by simpa using hz), if_pos hz2]) m3
  have s3 := f3.1
  refine join_ ?_
  rw [if_pos (by simp)]
  have hl4 := hl3.fr f4 (by omega)
  have m4 : MD w0 w4 t g bits o s.cur s.out := m3.new (p := A + 1) (by omega) h f4
  refine rdN (i := 256) hl4 (by omega) ?_
  by_cases h256 : s.set 256 = 0
  · rw [if_pos (by simp only [beq_iff_eq]; omega)]
    exact stop 8 w4 (by omega) (by unfold setsE; rw [if_neg (by simpa using hz), if_neg (by simpa using hz2), if_pos h256]) m4
  rw [if_neg (by simp only [beq_iff_eq]; omega)]
  have hse : setsE s.set = 0 := by unfold setsE; rw [if_neg (by simpa using hz), if_neg (by simpa using hz2), if_neg h256]
  obtain ⟨hp, gd, hK⟩ := hK hse
  have c3' := c3.fr f4 (by omega) (by omega) (by omega)
  have s4 := f4.1
  dsimp only
  rw [show ((0 : Int) != 0) = false from rfl]
  refine let_ (join_ ?_)
  have c3l := c3.code.lt
  have c3l2 := c3.lens.lt
  have c4l := c4.code.lt
  have c4l2 := c4.lens.lt
  have nm : ∀ z, A ≤ z → ¬ mine t o z := fun z hz hm => hm.elim (by omega) fun hm => by have := h.out.lt hm; omega
  refine loopN (fun m st v => ∃ (o' : Sl) (e : Nat) (at_ : Int) (d : Bool), st = (o', (e : Int), at_, d, ()) ∧
      ((d = true ∧ BEnd w0 v t g bits o' s e) ∨ (d = false ∧ ∃ s', D bits s = D bits s' ∧ s'.ph = 5 ∧ GD bits s' ∧ s'.set = s.set ∧ s'.fin = s.fin ∧ s.cur ≤ s'.cur ∧ m = bits.length - s'.cur + 1 ∧ MD w0 v t g bits o' s'.cur s'.out ∧ MCod v A x y 265 s.set ∧ MCod v (A + 1) x2 y2 8 (hiL s.set) ∧ w4.heap.size ≤ v.heap.size ∧ ∀ z, A ≤ z → z < w4.heap.size → ¬ mine t o' z))) (bits.length - s.cur + 1)
    ⟨o, 0, head, false, rfl, .inr ⟨rfl, s, rfl, hp, gd, rfl, rfl, Nat.le_refl _, rfl, m4, c3', c4, Nat.le_refl _, fun z hz _ => nm z hz⟩⟩ ?_
  rintro m _ v ⟨o', e, at_, d, rfl, hI⟩ Q hQ
  dsimp only
  rcases hI with ⟨rfl, hb⟩ | ⟨rfl, s', hD, hp', gd', hset, hfin, hcu, hm, mv, ca, cb, hvz, hnm⟩
  · rw [if_neg (by simp)]
    exact hK o' e at_ v hb
  rw [if_pos (by simp)]
  refine bitsm_Pos_spec mv.tape ?_
  have hcur' := gd'.cur
  refine blockm_token_spec (a := A) (xa := x) (ya := y) (b := A + 1) (xb := x2) (yb := y2) hp' gd' mv (by rw [hset]; exact ca) (by rw [hset]; exact cb) (hnm _ (by omega) (by omega)) (hnm _ (by omega) (by omega)) (hnm _ (by omega) (by omega)) (hnm _ (by omega) (by omega)) (hnm _ (by omega) (by omega)) (hnm _ (by omega) (by omega))
    (fun e v2 c he hDe m2 => ?_) (fun v2 c hDs hcle m2 => ?_) (fun o2 v2 s2 hD2 hp2 gd2 hset2 hfin2 hlt2 m2 gr2 f2 => ?_)
  · exact hQ 0 _ _ (by omega) ⟨o', e, _, true, rfl, .inl ⟨rfl, .inl ⟨he, by rw [hD]; exact hDe, _, _, m2⟩⟩⟩
  · exact hQ 0 _ _ (by omega) ⟨o', 0, _, true, rfl, .inl ⟨rfl, .inr ⟨rfl, _, hD.trans hDs, hfin, by show s.cur ≤ c; omega, m2⟩⟩⟩
  · have := gd2.cur
    refine hQ (bits.length - s2.cur + 1) _ _ (by omega) ⟨o2, 0, _, false, rfl, .inr ⟨rfl, s2, hD.trans hD2, hp2, gd2, hset2.trans hset, hfin2.trans hfin, by omega, rfl, m2, ?_, ?_, Nat.le_trans hvz f2.1, fun z h1 h2 hz => ?_⟩⟩
    · exact ca.frp f2 (hnm _ (by omega) (by omega)) (hnm _ (by omega) (by omega)) (hnm _ (by omega) (by omega))
    · exact cb.frp f2 (hnm _ (by omega) (by omega)) (hnm _ (by omega) (by omega)) (hnm _ (by omega) (by omega))
    · rcases hz with hz | hz
      · omega
      · rcases gr2.owns hz with h3 | h3
        · exact hnm z h1 h2 (.inr h3)
        · omega

set_option maxRecDepth 10000 in
theorem blockm_stored_spec {s : DS} {K : Sl → Int → Int → World → Prop} (hp : s.ph = 1) (gd : GD bits s) (hl : s.cur + 2 ≤ bits.length) (hk : num bits s.cur 2 = 0) (h : MD w0 w t g bits o (s.cur + 2) s.out)
    (hK : ∀ o' (e : Nat) at_ w', BEnd w0 w' t g bits o' s e → K o' (e : Int) at_ w') : S.blockm_stored t o w K := by
  unfold S.blockm_stored
  have hst : step bits s = (0, { s with ph := 2, cur := min (syncN (s.cur + 2)) bits.length }) := by rw [step1 hp]; unfold stKind; rw [if_neg (by omega), if_pos hk]
  have gd1 := (step_good gd (by omega) hst).1
  have hD1 := D_step gd (by omega) hst
  refine bitsm_Sync_spec h.tape fun w1 t1 f1 => ?_
  have m1 := h.move t1 f1
  have hsy : s.cur + 2 ≤ min (syncN (s.cur + 2)) bits.length := by unfold syncN; omega
  change MD w0 w1 t g bits o (min (syncN (s.cur + 2)) bits.length) s.out at m1
  generalize min (syncN (s.cur + 2)) bits.length = c1 at *
  refine bitsm_Pos_spec m1.tape ?_
  have hs2 := step2 (bits := bits) (s := { s with ph := 2, cur := c1 }) rfl
  unfold stSize at hs2
  dsimp only at hs2
  refine bitsm_Take_spec (k := 16) m1.tape (by omega) (fun hl w2 t2 f2 => ?_) fun hl w2 t2 f2 => ?_
  · refine join_ ?_
    rw [if_pos hl] at hs2
    refine loopN (fun m st u => st = (o, (c1 : Int), 4, 0, ()) ∧ u = w2) 0 ⟨rfl, rfl⟩ ?_
    rintro m _ u ⟨rfl, rfl⟩ Q hQ
    dsimp only
    rw [if_neg (by simp)]
    refine hK o 4 _ u (.inl ⟨by omega, ?_, _, _, m1.ext t2 f2⟩)
    rw [hD1, D_err (by simp) (by rw [hs2]; simp), hs2]
  rw [if_neg (by omega)] at hs2
  have hv : num bits c1 16 < 65536 := num_lt' bits c1 16
  rw [show ofBits ((bits.drop c1).take 16) = num bits c1 16 from rfl]
  generalize num bits c1 16 = n at *
  have m2 := m1.move t2 f2
  refine join_ ?_
  refine loopN (fun m st v => ∃ (o' : Sl) (e : Nat) (at_ : Int) (k : Nat), st = (o', at_, (e : Int), (k : Int), ()) ∧ ((m = 0 ∧ (e ≠ 0 ∨ k = n) ∧ BEnd w0 v t g bits o' s e) ∨
      (m + k = n ∧ 0 < m ∧ e = 0 ∧ ∃ s', D bits s = D bits s' ∧ s'.ph = 3 ∧ s'.due = n - k ∧ GD bits s' ∧ s'.fin = s.fin ∧ s.cur ≤ s'.cur ∧ MD w0 v t g bits o' s'.cur s'.out))) n
    ⟨o, 0, c1, 0, rfl, ?_⟩ ?_
  · by_cases hn : n = 0
    · rw [if_pos hn] at hs2
      exact .inl ⟨hn, .inr hn.symm, .inr ⟨rfl, _, hD1.trans (D_step gd1 (by simp) hs2), rfl, by show s.cur ≤ c1 + 16; omega, m2⟩⟩
    · rw [if_neg hn] at hs2
      exact .inr ⟨rfl, by omega, rfl, _, hD1.trans (D_step gd1 (by simp) hs2), rfl, rfl, (step_good gd1 (by simp) hs2).1, rfl, by show s.cur ≤ c1 + 16; omega, m2⟩
  rintro m _ v ⟨o', e, at_, k, rfl, hI⟩ Q hQ
  dsimp only
  rcases hI with ⟨hm, hor, hb⟩ | ⟨hm, hm0, rfl, s', hD, hp', hdue, gd', hfin, hcu, mv⟩
  · by_cases hlt : k < n
    · rw [if_pos (by simp only [decide_eq_true_eq]; omega), if_neg (by simp only [beq_iff_eq]; omega)]
      exact hK o' e at_ v hb
    · rw [if_neg (by simp only [decide_eq_true_eq]; omega)]
      exact hK o' e at_ v hb
  rw [if_pos (by simp only [decide_eq_true_eq]; omega), if_pos (by simp)]
  refine join_ ?_
  refine bitsm_Pos_spec mv.tape ?_
  have hs3 := step3 (bits := bits) hp'
  unfold stByte at hs3
  have hlen := mv.len
  refine bitsm_Take_spec (k := 8) mv.tape (by omega) (fun hl v2 t2 f2 => ?_) fun hl v2 t2 f2 => ?_
  · refine join_ ?_
    rw [if_neg (by simp)]
    dsimp only
    rw [if_neg (by simp)]
    rw [if_pos hl] at hs3
    rw [W_succ (by omega)]
    refine let_ (hQ 0 _ _ (by omega) ⟨o', 4, _, k + 1, rfl, .inl ⟨rfl, .inl (by omega), .inl ⟨by omega, ?_, _, _, mv.ext t2 f2⟩⟩⟩)
    rw [hD, D_err (by omega) (by rw [hs3]; simp), hs3]
  rw [if_neg (by omega)] at hs3
  have mv2 := mv.move t2 f2
  refine join_ ?_
  rw [if_pos (by simp)]
  by_cases hfull : 256 ≤ s'.out.length
  · rw [if_pos (by simp only [decide_eq_true_eq]; omega)]
    rw [if_pos hfull] at hs3
    dsimp only
    rw [if_neg (by simp)]
    rw [W_succ (by omega)]
    refine let_ (hQ 0 _ _ (by omega) ⟨o', 10, _, k + 1, rfl, .inl ⟨rfl, .inl (by omega), .inl ⟨by omega, ?_, _, _, mv2⟩⟩⟩)
    rw [hD, D_err (by omega) (by rw [hs3]; simp), hs3]
  rw [if_neg (by simp only [decide_eq_true_eq]; omega)]
  dsimp only
  rw [if_pos (by simp)]
  rw [if_neg hfull] at hs3
  have hx : num bits s'.cur 8 < 256 := num_lt' bits s'.cur 8
  rw [show ofBits ((bits.drop s'.cur).take 8) = num bits s'.cur 8 from rfl]
  refine mv2.push (x := num bits s'.cur 8) hx (by omega) (by rw [U8_nat, Nat.mod_eq_of_lt hx]) fun o2 v3 mv3 gr f3 => ?_
  rw [W_succ (by omega)]
  rw [hdue] at hs3
  by_cases hlast : n - k - 1 = 0
  · rw [if_pos hlast] at hs3
    exact let_ (hQ 0 _ _ (by omega) ⟨o2, 0, _, k + 1, rfl, .inl ⟨rfl, .inr (by omega), .inr ⟨rfl, _, hD.trans (D_step gd' (by omega) hs3), hfin, by show s.cur ≤ s'.cur + 8; omega, mv3⟩⟩⟩)
  · rw [if_neg hlast] at hs3
    exact let_ (hQ (m - 1) _ _ (by omega) ⟨o2, 0, _, k + 1, rfl, .inr ⟨by omega, by omega, rfl, _, hD.trans (D_step gd' (by omega) hs3), hp', by show n - k - 1 = n - (k + 1); omega, (step_good gd' (by omega) hs3).1, hfin, by show s.cur ≤ s'.cur + 8; omega, mv3⟩⟩)

/-- How the list of lengths ends: an error, or it is whole (and the sets are still to be built). -/
def LEnd (w0 w : World) (t g : Nat) (bits : List Bool) (o : Sl) (s : DS) (N : Nat) (s' : DS) : Prop :=
  (setsE s'.ln ≠ 0 → (D bits s).1 = setsE s'.ln) ∧ (setsE s'.ln = 0 → D bits s = D bits { s' with ph := 5, set := s'.ln } ∧ GD bits { s' with ph := 5, set := s'.ln }) ∧
  s'.fin = s.fin ∧ s.cur ≤ s'.cur ∧ s'.out = s.out ∧ (∀ i, i < 273 → s'.ln i ≤ 10) ∧ Blk w N (nats 273 s'.ln) ∧ ¬ mine t o N ∧ MD w0 w t g bits o s'.cur s.out

set_option maxRecDepth 10000 in
theorem blockm_lengths_spec {s : DS} {K : Sl → Int → Int → World → Prop} (hp : s.ph = 4) (hi0 : s.idx = 0) (gd : GD bits s) (h : MD w0 w t g bits o s.cur s.out)
    (hbad : ∀ (e : Nat) at_ w', e ≠ 0 → (D bits s).1 = e → (∃ c out, MD w0 w' t g bits o c out) → K ⟨none, 0, 0⟩ (e : Int) at_ w')
    (hK : ∀ s' N w', LEnd w0 w' t g bits o s N s' → K ⟨some ⟨N, 0, none⟩, 273, 273⟩ 0 0 w') : S.blockm_lengths t w K := by
  unfold S.blockm_lengths
  refine mkN (n := 273) (by omega) fun w1 b1 f1 s1 => ?_
  have htl := h.tape.lt
  have hgl := h.gl
  generalize hN : w.heap.size = N at *
  have hNo : ¬ mine t o N := fun hm => hm.elim (by omega) fun hm => by have := h.out.lt hm; omega
  have hwN := h.fr.1
  have m1 := h.ext (h.tape.ext f1) f1
  refine join_ ?_
  refine loopN (fun m st v => ∃ i : Nat, st = ((i : Int), ()) ∧ m + i = 273 ∧ ((i = 273 ∧ ∃ s', LEnd w0 v t g bits o s N s') ∨
      (i < 273 ∧ ∃ (s' : DS) (f : Nat → Nat), D bits s = D bits s' ∧ s'.ph = 4 ∧ s'.idx = i ∧ GD bits s' ∧ s'.fin = s.fin ∧ s.cur ≤ s'.cur ∧ s'.out = s.out ∧ (∀ j, j < i → f j = s'.ln j) ∧ Blk v N (nats 273 f) ∧ MD w0 v t g bits o s'.cur s.out))) 273
    ⟨0, rfl, rfl, .inr ⟨by omega, s, _, rfl, hp, hi0, gd, rfl, Nat.le_refl _, rfl, fun j hj => by omega, b1, m1⟩⟩ ?_
  rintro m _ v ⟨i, rfl, hm, hI⟩ Q hQ
  dsimp only
  rcases hI with ⟨rfl, s', hL⟩ | ⟨hi, s', f, hD, hp', hidx, gd', hfin, hcu, hout, hf, bv, mv⟩
  · rw [if_neg (by simp)]
    exact hK s' N v hL
  rw [if_pos (by simp only [decide_eq_true_eq]; omega)]
  obtain ⟨_, hle⟩ := gd'.idx hp'
  rw [hidx] at hle
  have hst := step4 (bits := bits) hp'
  unfold stList at hst
  -- after an item
  have nxt : ∀ (v2 : World) (k : Nat) (f2 : Nat → Nat) (s2 : DS), 0 < k → i + k ≤ 273 → step bits s' = listEnd s2 → s2.idx = i + k → s2.ph = 4 → s2.fin = s.fin → s.cur ≤ s2.cur → s2.out = s.out → (∀ j, j < i + k → f2 j = s2.ln j) → (∀ j, j < i + k → s2.ln j ≤ 10) →
      Blk v2 N (nats 273 f2) → MD w0 v2 t g bits o s2.cur s.out → Q (((i + k : Nat) : Int), ()) v2 := by
    intro v2 k f2 s2 hk hik hstep h1 h2 h3 h4 h5 h6 h7 h8 h9
    refine hQ (m - k) _ _ (by omega) ⟨i + k, rfl, by omega, ?_⟩
    unfold listEnd at hstep
    by_cases hfull : i + k < 273
    · rw [if_pos (by omega)] at hstep
      exact .inr ⟨hfull, s2, f2, hD.trans (D_step gd' (by omega) hstep), h2, h1, (step_good gd' (by omega) hstep).1, h3, h4, h5, h6, h8, h9⟩
    · rw [if_neg (by omega)] at hstep
      have he : i + k = 273 := by omega
      rw [he] at h6 h7
      refine .inl ⟨he, s2, fun hne => ?_, fun hz => ?_, h3, h4, h5, h7, ?_, hNo, h9⟩
      · rw [if_pos hne] at hstep
        rw [hD, D_err (by omega) (by rw [hstep]; exact hne), hstep]
      · rw [if_neg (by simpa using hz)] at hstep
        exact ⟨hD.trans (D_step gd' (by omega) hstep), (step_good gd' (by omega) hstep).1⟩
      · rw [nats_congr h6] at h8; exact h8
  refine bitsm_Pos_spec mv.tape ?_
  refine bitsm_Take_spec (k := 4) mv.tape (by omega) (fun hl v2 t2 f2 => ?_) fun hl v2 t2 f2 => ?_
  · rw [if_pos (by simp)]
    rw [if_pos hl] at hst
    refine hbad 4 _ v2 (by omega) ?_ ⟨_, _, mv.ext t2 f2⟩
    rw [hD, D_err (by omega) (by rw [hst]; simp), hst]
  rw [if_neg (by simp)]
  rw [if_neg (by omega)] at hst
  have mv2 := mv.move t2 f2
  have bv2 := bv.fr f2 (by omega)
  have hx16 : num bits s'.cur 4 < 16 := num_lt' bits s'.cur 4
  rw [show ofBits ((bits.drop s'.cur).take 4) = num bits s'.cur 4 from rfl]
  by_cases hit : num bits s'.cur 4 ≤ 10
  · rw [if_pos (by simp only [decide_eq_true_eq]; omega)]
    rw [if_pos hit] at hst
    refine wrN bv2 (by omega) rfl fun v3 b3 f3 s3 => ?_
    rw [W_succ (by omega)]
    refine let_ (nxt v3 1 _ _ (by omega) (by omega) hst (by show s'.idx + 1 = i + 1; omega) hp' hfin (by show s.cur ≤ s'.cur + 4; omega) hout (fun j hj => ?_) (fun j hj => ?_) b3 ?_)
    · show fset f i _ j = fset s'.ln s'.idx _ j
      rw [hidx]
      unfold fset
      split
      · rfl
      · exact hf j (by omega)
    · show fset s'.ln s'.idx _ j ≤ 10
      unfold fset
      split
      · exact hit
      · exact hle j (by omega)
    · exact mv2.new (w := w) (p := N) (by omega) h f3
  rw [if_neg (by simp only [decide_eq_true_eq]; omega)]
  rw [if_neg hit] at hst
  by_cases hbig : 12 < num bits s'.cur 4
  · rw [if_pos (by simp only [decide_eq_true_eq]; omega)]
    rw [if_pos hbig] at hst
    refine hbad 8 _ v2 (by omega) ?_ ⟨_, _, mv2⟩
    rw [hD, D_err (by omega) (by rw [hst]; simp), hst]
  rw [if_neg (by simp only [decide_eq_true_eq]; omega)]
  rw [if_neg hbig] at hst
  have rn : ∀ (wide vv : Nat) (v3 : World), vv ≤ 10 → num bits (s'.cur + 4) wide ≤ 127 → step bits s' = stRun bits s' wide vv → MD w0 v3 t g bits o (s'.cur + 4 + wide) s.out → Blk v3 N (nats 273 f) →
      (if (decide ((W ((W ((i : Int) + 3)) + (num bits (s'.cur + 4) wide : Int))) > ((273 : Nat) : Int))) = true then
                    K ⟨none, 0, 0⟩ 8 (s'.cur : Int) v3
                  else
                    LoopP (σ := Int × Int × Unit) (fun st15 w next16 =>
                      if (decide (st15.2.1 < (W (3 + (num bits (s'.cur + 4) wide : Int))))) = true then
                        Ix (some ⟨N, 0, none⟩) 273 st15.1 fun b17 o18 =>
                        St1 w ⟨b17, o18 + Int.toNat st15.1 * 1, none⟩ (.int .i64 (vv : Int)) fun w =>
                        Let (W (st15.1 + 1)) fun i_19 =>
                        Let (W (st15.2.1 + 1)) fun k_20 =>
                        next16 (i_19, k_20, ()) w
                      else
                        Q (st15.1, ()) w) ((i : Int), 0, ()) v3) := by
    intro wide vv v3 hvv hx hst mv3 bv3
    unfold stRun at hst
    rw [hidx] at hst
    generalize hxe : num bits (s'.cur + 4) wide = x at *
    rw [W_id (x := (i : Int) + 3) (by omega) (by omega), W_id (x := (i : Int) + 3 + (x : Int)) (by omega) (by omega), W_id (x := 3 + (x : Int)) (by omega) (by omega)]
    by_cases hbeyond : 273 < i + (3 + x)
    · rw [if_pos (by simp only [decide_eq_true_eq]; omega)]
      rw [if_pos hbeyond] at hst
      refine hbad 8 _ v3 (by omega) ?_ ⟨_, _, mv3⟩
      rw [hD, D_err (by omega) (by rw [hst]; simp), hst]
    rw [if_neg (by simp only [decide_eq_true_eq]; omega)]
    rw [if_neg hbeyond] at hst
    refine loopN (fun m st u => ∃ k : Nat, st = (((i + k : Nat) : Int), (k : Int), ()) ∧ m + k = 3 + x ∧ Blk u N (nats 273 (fillL f i k vv)) ∧ MD w0 u t g bits o (s'.cur + 4 + wide) s.out) (3 + x)
      ⟨0, rfl, rfl, by rw [nats_congr (g := f) fun j hj => by unfold fillL; rw [if_neg (by omega)]]; exact bv3, mv3⟩ ?_
    rintro m' _ u ⟨k, rfl, hm', bu, mu'⟩ Q' hQ'
    dsimp only
    by_cases hk : k < 3 + x
    · rw [if_pos (by simp only [decide_eq_true_eq]; omega)]
      refine wrN (v := vv) bu (by omega) rfl fun u2 d2 f2 s2 => ?_
      rw [W_succ (by omega), W_succ (by omega)]
      refine let_ (let_ (hQ' (m' - 1) _ _ (by omega) ⟨k + 1, rfl, by omega, ?_, mu'.new (w := w) (p := N) (by omega) h f2⟩))
      rw [nats_congr (g := fset (fillL f i k vv) (i + k) vv) fun j hj => ?_]
      · exact d2
      · unfold fset fillL
        by_cases e : j = i + k
        · rw [if_pos e, if_pos (by omega)]
        · rw [if_neg e]
          by_cases g2 : i ≤ j ∧ j < i + k
          · rw [if_pos g2, if_pos (by omega)]
          · rw [if_neg g2, if_neg (by omega)]
    · rw [if_neg (by simp only [decide_eq_true_eq]; omega)]
      have hke : k = 3 + x := by omega
      subst hke
      refine nxt u (3 + x) _ _ (by omega) (by omega) hst (by show i + (3 + x) = _; rfl) hp' hfin (by show s.cur ≤ s'.cur + 4 + wide; omega) hout (fun j hj => ?_) (fun j hj => ?_) bu mu'
      · show fillL f i (3 + x) vv j = fillL s'.ln i (3 + x) vv j
        unfold fillL
        by_cases g2 : i ≤ j ∧ j < i + (3 + x)
        · rw [if_pos g2, if_pos g2]
        · rw [if_neg g2, if_neg g2]; exact hf j (by omega)
      · show fillL s'.ln i (3 + x) vv j ≤ 10
        unfold fillL
        by_cases g2 : i ≤ j ∧ j < i + (3 + x)
        · rw [if_pos g2]; exact hvv
        · rw [if_neg g2]; exact hle j (by omega)
  refine join_ ?_
  by_cases h12 : num bits s'.cur 4 = 12
  · rw [if_pos (by simp only [beq_iff_eq]; omega)]
    rw [if_pos h12] at hst
    refine bitsm_Take_spec (k := 2) mv2.tape (by omega) (fun hl v3 t3 f3 => ?_) fun hl v3 t3 f3 => ?_
    · rw [if_pos (by simp)]
      rw [if_pos hl] at hst
      refine hbad 4 _ v3 (by omega) ?_ ⟨_, _, mv2.ext t3 f3⟩
      rw [hD, D_err (by omega) (by rw [hst]; simp), hst]
    rw [if_neg (by simp)]
    rw [if_neg (by omega)] at hst
    have mv3 := mv2.move t3 f3
    have bv3 := bv2.fr f3 (by omega)
    refine join_ ?_
    rw [if_pos (by simp only [beq_iff_eq]; omega)]
    rw [hidx] at hst
    have hx : num bits (s'.cur + 4) 2 < 4 := num_lt' bits (s'.cur + 4) 2
    by_cases hz : i = 0
    · rw [if_pos (by simp only [beq_iff_eq]; omega)]
      rw [if_pos hz] at hst
      refine hbad 8 _ v3 (by omega) ?_ ⟨_, _, mv3⟩
      rw [hD, D_err (by omega) (by rw [hst]; simp), hst]
    · rw [if_neg (by simp only [beq_iff_eq]; omega)]
      rw [if_neg hz] at hst
      rw [show W ((i : Int) - 1) = ((i - 1 : Nat) : Int) from by rw [W_id (by omega) (by omega)]; omega]
      refine rdN bv3 (by omega) ?_
      rw [hf (i - 1) (by omega)]
      exact rn 2 _ v3 (hle _ (by omega)) (by omega) hst mv3 bv3
  · rw [if_neg (by simp only [beq_iff_eq]; omega)]
    rw [if_neg h12] at hst
    refine bitsm_Take_spec (k := 7) mv2.tape (by omega) (fun hl v3 t3 f3 => ?_) fun hl v3 t3 f3 => ?_
    · rw [if_pos (by simp)]
      rw [if_pos hl] at hst
      refine hbad 4 _ v3 (by omega) ?_ ⟨_, _, mv2.ext t3 f3⟩
      rw [hD, D_err (by omega) (by rw [hst]; simp), hst]
    rw [if_neg (by simp)]
    rw [if_neg (by omega)] at hst
    have mv3 := mv2.move t3 f3
    have bv3 := bv2.fr f3 (by omega)
    refine join_ ?_
    rw [if_neg (by simp only [beq_iff_eq]; omega)]
    have hx : num bits (s'.cur + 4) 7 < 128 := num_lt' bits (s'.cur + 4) 7
    exact rn 7 0 v3 (by omega) (by omega) hst mv3 bv3

set_option maxRecDepth 10000 in
theorem blockm_Run_spec {raw : ByteArray} {K : ByteArray → Int → Int → World → Prop} (hs : raw.size ≤ 512)
    (hK : ∀ r pos w', ((decode (sbits (bt raw))).1 = 0 → r = strOf (decode (sbits (bt raw))).2) → Fr 0 0 w w' → K r ((decode (sbits (bt raw))).1 : Int) pos w') : S.blockm_Run raw w K := by
  unfold S.blockm_Run
  rw [if_neg (by simp only [decide_eq_true_eq]; omega)]
  refine bitsm_New_spec fun w1 t1 f1 s1 => ?_
  refine bitsm_Load_spec t1 hs fun w2 g t2 hg f2 => ?_
  have f02 : Fr 0 0 w w2 := ⟨by have := f1.1; have := f2.1; omega, fun b hb _ => by rw [f2.2 b (by omega) (by omega) (by omega), f1.2 b hb (by omega)]⟩
  have hlen : (sbits (bt raw)).length = raw.size * 8 := by rw [sbits_length, bt_length]
  have fin : ∀ (e : Nat) pos v o c out, e ≠ 0 → (D (sbits (bt raw)) initD).1 = e → MD w v w.heap.size g (sbits (bt raw)) o c out → (BtS v o fun s => K s (e : Int) pos v) := by
    intro e pos v o c out he hDe md
    refine md.out.btS md.lt ?_
    have hde : (decode (sbits (bt raw))).1 = e := by unfold decode; rw [if_pos (by omega)]; exact hDe
    rw [← hde]
    exact hK _ pos v (fun hz => by omega) md.fr
  generalize hbits : sbits (bt raw) = bits at *
  refine join_ ?_
  by_cases hemp : bits.length = 0
  · refine loopN (fun m st v => st = (⟨none, 0, 0⟩, 0, ()) ∧ v = w2) 0 ⟨rfl, rfl⟩ ?_
    rintro m _ v ⟨rfl, rfl⟩ Q hQ
    dsimp only
    rw [if_pos (by simp)]
    refine bitsm_Pos_spec t2 ?_
    refine bitsm_Take_spec (k := 1) t2 (by omega) (fun hl v3 t3 f3 => ?_) fun hl v3 t3 f3 => by omega
    rw [if_pos (by simp)]
    refine OS.btS (zs := []) (OS.nil _ 1) (fun x hx => by simp at hx) ?_
    have hst := step0 (bits := bits) (s := initD) rfl
    unfold stFinal at hst
    rw [if_pos (by show bits.length < 0 + 1; omega)] at hst
    have hde : (decode bits).1 = 4 := by
      have : (D bits initD).1 = 4 := by rw [D_err (by simp [initD]) (by rw [hst]; simp), hst]
      unfold decode; rw [if_pos (by omega)]; exact this
    have := hK (strOf []) 0 v3 (fun hz => by omega) (f02.trans f3)
    rw [hde] at this
    exact this
  have hgl : g < w2.heap.size := by
    obtain ⟨⟨sl, hb, hgs⟩, _⟩ := t2
    obtain ⟨_, junk, hblk⟩ := hgs.blk (by intro e; simp at e; simp [e] at hemp)
    exact hblk.lt
  have htw := t2.lt
  have m2 : MD w w2 w.heap.size g bits ⟨none, 0, 0⟩ 0 [] := ⟨t2, OS.nil _ _, fun x hx => by simp at hx, by simp, fun h => by simp [owns] at h, fun h => by simp [owns] at h, f02, Nat.le_refl _, fun b h => by simp [owns] at h, hgl⟩
  refine loopN (fun m st v => ∃ (o : Sl) (s : DS), st = (o, (s.fin : Int), ()) ∧ D bits initD = D bits (shutD bits s) ∧ s.fin ≤ 1 ∧ MD w v w.heap.size g bits o s.cur s.out ∧ m = bits.length - s.cur) bits.length
    ⟨⟨none, 0, 0⟩, initD, rfl, rfl, by simp [initD], m2, rfl⟩ ?_
  rintro m _ v ⟨o, s, rfl, hD, hfin, mv, hm⟩ Q hQ
  dsimp only
  by_cases hf : s.fin = 0
  · rw [if_pos (by simp only [beq_iff_eq]; omega)]
    have hsh : shutD bits s = { s with ph := 0 } := by unfold shutD; rw [if_pos hf]
    rw [hsh] at hD
    have gd0 : GD bits { s with ph := 0 } := ⟨mv.tape.cur, by simp, hfin, mv.lt, mv.olen, fun h => by simp at h, fun h => by simp at h, fun h => by simp at h, fun h => by simp at h, fun h => by simp at h⟩
    have hst0 := step0 (bits := bits) (s := { s with ph := 0 }) rfl
    unfold stFinal at hst0
    dsimp only at hst0
    refine bitsm_Pos_spec mv.tape ?_
    refine bitsm_Take_spec (k := 1) mv.tape (by omega) (fun hl v3 t3 f3 => ?_) fun hl v3 t3 f3 => ?_
    · rw [if_pos (by simp)]
      rw [if_pos hl] at hst0
      refine fin 4 _ v3 o _ _ (by omega) ?_ (mv.ext t3 f3)
      rw [hD, D_err (by simp) (by rw [hst0]; simp), hst0]
    rw [if_neg (by simp)]
    rw [if_neg (by omega)] at hst0
    have mv3 := mv.move t3 f3
    have gd1 := (step_good gd0 (by simp) hst0).1
    have hD1 := hD.trans (D_step gd0 (by simp) hst0)
    have hb1 : num bits s.cur 1 < 2 := num_lt' bits s.cur 1
    rw [show ofBits ((bits.drop s.cur).take 1) = num bits s.cur 1 from rfl]
    generalize num bits s.cur 1 = fb at *
    have hst1 := step1 (bits := bits) (s := { s with ph := 1, fin := fb, cur := s.cur + 1 }) rfl
    have hst1' := hst1
    unfold stKind at hst1
    dsimp only at hst1
    refine bitsm_Pos_spec mv3.tape ?_
    refine bitsm_Take_spec (k := 2) mv3.tape (by omega) (fun hl v4 t4 f4 => ?_) fun hl v4 t4 f4 => ?_
    · rw [if_pos (by simp)]
      rw [if_pos hl] at hst1
      refine fin 4 _ v4 o _ _ (by omega) ?_ (mv3.ext t4 f4)
      rw [hD1, D_err (by simp) (by rw [hst1]; simp), hst1]
    rw [if_neg (by simp)]
    rw [if_neg (by omega)] at hst1
    have mv4 := mv3.move t4 f4
    refine bitsm_Pos_spec mv4.tape ?_
    have hb2 : num bits (s.cur + 1) 2 < 4 := num_lt' bits (s.cur + 1) 2
    rw [show ofBits ((bits.drop (s.cur + 1)).take 2) = num bits (s.cur + 1) 2 from rfl]
    refine join_ ?_
    -- behind a block
    have after : ∀ (o' : Sl) (e : Nat) at_ v' s5, D bits initD = D bits s5 → s5.fin = fb → s.cur < s5.cur → BEnd w v' w.heap.size g bits o' s5 e → (if ((e : Int) != 0) = true then
                BtS v' o' fun s23 =>
                K s23 (e : Int) at_ v'
              else
                Q (o', (fb : Int), ()) v') := by
      intro o' e at_ v' s5 hD5 hf5 hc5 hB
      rcases hB with ⟨he, hDe, c, out, md⟩ | ⟨rfl, s6, hD6, hf6, hc6, md⟩
      · rw [if_pos (by simp only [bne_iff_ne, ne_eq]; omega)]
        exact fin e at_ v' o' c out he (by rw [hD5]; exact hDe) md
      · rw [if_neg (by simp)]
        refine hQ (bits.length - s6.cur) _ _ ?_ ⟨o', s6, by rw [hf6, hf5], hD5.trans hD6, by omega, md, rfl⟩
        have := md.tape.cur
        omega
    by_cases k0 : num bits (s.cur + 1) 2 = 0
    · rw [if_pos (by simp only [beq_iff_eq]; omega)]
      refine blockm_stored_spec (s := { s with ph := 1, fin := fb, cur := s.cur + 1 }) rfl gd1 hl k0 mv4 fun o' e at_ v' hB => ?_
      exact after o' e at_ v' _ hD1 rfl (by show s.cur < s.cur + 1; omega) hB
    rw [if_neg (by simp only [beq_iff_eq]; omega)]
    rw [if_neg k0] at hst1
    by_cases k1 : num bits (s.cur + 1) 2 = 1
    · rw [if_pos (by simp only [beq_iff_eq]; omega)]
      rw [if_pos k1] at hst1
      have gd2 := (step_good gd1 (by simp) hst1).1
      have hD2 := hD1.trans (D_step gd1 (by simp) hst1)
      refine blockm_FixedLens_spec fun v5 b5 f5 s5 => ?_
      have mv5 := mv4.ext (mv4.tape.ext f5) f5
      have ht4 := mv4.tape.lt
      refine blockm_coded_spec (s := { s with ph := 5, fin := fb, set := fixL, cur := s.cur + 1 + 2 }) mv5 b5 (fun hm => hm.elim (by omega) fun hm => by have := mv4.out.lt hm; omega) (fun i hi => fix_le i) (fun hne => absurd fix_sets hne) fun _ => ⟨rfl, gd2, fun o' e at_ v' hB => ?_⟩
      exact after o' e at_ v' _ hD2 rfl (by show s.cur < s.cur + 1 + 2; omega) hB
    rw [if_neg (by simp only [beq_iff_eq]; omega)]
    rw [if_neg k1] at hst1
    by_cases k2 : num bits (s.cur + 1) 2 = 2
    · rw [if_pos (by simp only [beq_iff_eq]; omega)]
      rw [if_pos k2] at hst1
      have gd2 := (step_good gd1 (by simp) hst1).1
      have hD2 := hD1.trans (D_step gd1 (by simp) hst1)
      refine blockm_lengths_spec (s := { s with ph := 4, fin := fb, idx := 0, cur := s.cur + 1 + 2 }) rfl rfl gd2 mv4 (fun e at_ v5 he hDe hex => ?_) fun s5 N v5 hL => ?_
      · rw [if_neg (by simp only [beq_iff_eq]; omega)]
        obtain ⟨c, out, md⟩ := hex
        exact after o e at_ v5 _ hD2 rfl (by show s.cur < s.cur + 1 + 2; omega) (.inl ⟨he, hDe, c, out, md⟩)
      · obtain ⟨l1, l2, l3, l4, l5, l6, l7, l8, l9⟩ := hL
        have l4 : s.cur + 1 + 2 ≤ s5.cur := l4
        have l5 : s5.out = s.out := l5
        have l9 : MD w v5 w.heap.size g bits o s5.cur s.out := l9
        rw [if_pos (by simp)]
        refine blockm_coded_spec (s := { s5 with ph := 5, set := s5.ln }) (by show MD w v5 w.heap.size g bits o s5.cur s5.out; rw [l5]; exact l9) l7 l8 l6 (fun hne v6 at_ md => ?_) fun hz => ⟨rfl, (l2 hz).2, fun o' e at_ v' hB => ?_⟩
        · have hDe := l1 hne
          exact after o (setsE s5.ln) at_ v6 _ hD2 rfl (by show s.cur < s.cur + 1 + 2; omega) (.inl ⟨hne, hDe, _, _, md⟩)
        · exact after o' e at_ v' _ (hD2.trans (l2 hz).1) l3 (by show s.cur < s5.cur; omega) hB
    · rw [if_neg (by simp only [beq_iff_eq]; omega)]
      rw [if_neg k2] at hst1
      refine after o 5 _ v4 _ hD1 rfl (by show s.cur < s.cur + 1; omega) (.inl ⟨by omega, ?_, _, _, mv4⟩)
      rw [D_err (by simp) (by rw [hst1]; simp), hst1]
  · rw [if_neg (by simp only [beq_iff_eq]; omega)]
    have hsh : shutD bits s = { s with ph := 8, cur := min (syncN s.cur) bits.length } := by unfold shutD; rw [if_neg hf]
    rw [hsh, D_stop (s := { s with ph := 8, cur := min (syncN s.cur) bits.length }) rfl] at hD
    refine bitsm_Sync_spec mv.tape fun v2 t2 f2 => ?_
    have mv2 := mv.move t2 f2
    refine bitsm_Pos_spec mv2.tape ?_
    refine bitsm_Len_spec mv2.tape ?_
    have hdec : decode bits = if min (syncN s.cur) bits.length < bits.length then (11, []) else (0, s.out) := by
      unfold decode
      rw [hD]
      rw [if_neg (by simp)]
    have hse : (s.cur + 7) / 8 * 8 = syncN s.cur := rfl
    rw [hse]
    by_cases htr : min (syncN s.cur) bits.length < bits.length
    · rw [if_pos (by simp only [decide_eq_true_eq]; omega)]
      rw [if_pos htr] at hdec
      refine mv2.out.btS mv2.lt ?_
      have := hK (strOf s.out) ((min (syncN s.cur) bits.length : Nat) : Int) v2 (fun hz => by rw [hdec] at hz; simp at hz) mv2.fr
      rw [hdec] at this
      exact this
    · rw [if_neg (by simp only [decide_eq_true_eq]; omega)]
      rw [if_neg htr] at hdec
      refine mv2.out.btS mv2.lt ?_
      have := hK (strOf s.out) 0 v2 (fun _ => by rw [hdec]) mv2.fr
      rw [hdec] at this
      exact this
end Go.Proofs.Qxb6500563aGreat
