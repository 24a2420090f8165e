/-
  The real decoder: Feed, Reset, New.
-/
import Derived.Test.Qxb6500563aGreatStrC
namespace Go.Proofs.Qxb6500563aGreat
open Go.Den Go.Zip
set_option linter.unusedVariables false
set_option linter.unusedSimpArgs false
variable {w w' : World} {B : Nat} {r : RS} {s : DS} {m0 : Nat}

theorem GD.more {P Q : List Bool} (g : GD P s) : GD (P ++ Q) s :=
  ⟨by have := g.cur; simp; omega, g.ph, g.fin, g.lt, g.olen, g.due, g.idx, g.set, g.run, g.dc⟩
theorem shut_out (bits : List Bool) (s : DS) : (shutD bits s).out = s.out := by unfold shutD; split <;> rfl
theorem listEnd_out (s : DS) : (listEnd s).2.out = s.out := by unfold listEnd; split <;> (try split) <;> rfl
theorem copy_pre (out : List Nat) (back : Nat) : ∀ k, ∃ x, copyOut out back k = out ++ x
  | 0 => ⟨[], by simp [copyOut]⟩
  | k + 1 => by
    obtain ⟨x, hx⟩ := copy_pre out back k
    exact ⟨x ++ [(copyOut out back k).getD ((copyOut out back k).length - back) 0], by simp only [copyOut]; rw [← List.append_assoc, ← hx]⟩
/-- The output only grows. -/
theorem step_out (bits : List Bool) (s : DS) : ∃ x, (step bits s).2.out = s.out ++ x := by
  have nil : ∃ x, s.out = s.out ++ x := ⟨[], by simp⟩
  unfold step
  split
  · unfold stFinal; split <;> exact nil
  split
  · unfold stKind; split
    · exact nil
    split
    · exact nil
    split
    · exact nil
    split <;> exact nil
  split
  · unfold stSize; split
    · exact nil
    split
    · rw [shut_out]; exact nil
    · exact nil
  split
  · unfold stByte; split
    · exact nil
    split
    · exact nil
    split
    · rw [shut_out]; exact ⟨_, rfl⟩
    · exact ⟨_, rfl⟩
  split
  · unfold stList; split
    · exact nil
    split
    · rw [listEnd_out]; exact nil
    split
    · exact nil
    split
    · split
      · exact nil
      split
      · exact nil
      · unfold stRun; split
        · exact nil
        · rw [listEnd_out]; exact nil
    · split
      · exact nil
      · unfold stRun; split
        · exact nil
        · rw [listEnd_out]; exact nil
  split
  · unfold stSym; split
    · exact nil
    split
    · rw [shut_out]; exact nil
    split
    · split
      · exact nil
      · exact ⟨_, rfl⟩
    · exact nil
  split
  · unfold stDist; split <;> exact nil
  · unfold stMore; split
    · exact nil
    split
    · exact nil
    split
    · exact nil
    · exact copy_pre _ _ _

/-- The answer from a state on. -/
def decodeS (bits : List Bool) (s : DS) : Nat × List Nat :=
  if (D bits s).1 ≠ 0 then ((D bits s).1, []) else if (D bits s).2.cur < bits.length then (11, []) else (0, (D bits s).2.out)
theorem decode_init (bits : List Bool) : decode bits = decodeS bits initD := rfl
theorem decodeS_congr {bits : List Bool} {s t : DS} (h : D bits s = D bits t) : decodeS bits s = decodeS bits t := by unfold decodeS; rw [h]

theorem stream_tail_spec {K : Int → World → Prop} (h : RW w B r) (hK : ∀ w', RW w' B { r with spot := r.cur } → Fr B 28 w w' → K (if r.cur < r.bits.length then 11 else 0) w') : S.stream_Decoder_tail (B + 24) w K := by
  unfold S.stream_Decoder_tail
  refine ldP h.rc rfl (pos_spec h.tape (st1 h.rc (by simp [recD]) fun w1 d1 f1 _ => ?_))
  have h1 := h.reg (r' := { r with spot := r.cur }) d1 f1
  refine ldP h1.rc rfl (len_spec h1.tape (ldI h1.rc rfl ?_))
  have := hK w1 h1 (f1.mono (by omega) (by omega))
  by_cases hl : r.cur < r.bits.length
  · rw [if_pos (by simp only [decide_eq_true_eq]; show (r.cur : Int) < (r.bits.length : Int); omega)]
    rw [if_pos hl] at this
    exact this
  · rw [if_neg (by simp only [decide_eq_true_eq]; show ¬ (r.cur : Int) < (r.bits.length : Int); omega)]
    rw [if_neg hl] at this
    exact this

theorem stream_Reset_spec {K : World → Prop} (h : RW w B r) (ho : heldOK r) (hK : ∀ w' r', RW w' B r' → Rel r' initD 0 → r'.bits = [] → r'.fed = 0 → Fr B 28 w w' → K w') : S.stream_Decoder_Reset (B + 24) w K := by
  unfold S.stream_Decoder_Reset
  refine ldP h.rc rfl (reset_spec h.tape fun w1 t1 f1 => ?_)
  have h1 := h.setTape t1 f1
  refine st1 h1.rc (by simp [recD]) fun w2 d2 f2 _ => ?_
  have h2 := h1.reg (r' := { r with bits := [], cur := 0, ph := 0 }) d2 f2
  refine st1 h2.rc (by simp [recD]) fun w3 d3 f3 _ => ?_
  have h3 := h2.reg (r' := { r with bits := [], cur := 0, ph := 0, fin := 0 }) d3 f3
  refine st1 h3.rc (by simp [recD]) fun w4 d4 f4 _ => ?_
  have h4 := h3.reg (r' := { r with bits := [], cur := 0, ph := 0, fin := 0, spot := 0 }) d4 f4
  refine st1 h4.rc (by simp [recD]) fun w5 d5 f5 _ => ?_
  have h5 := h4.reg (r' := { r with bits := [], cur := 0, ph := 0, fin := 0, spot := 0, head := 0 }) d5 f5
  refine st1 h5.rc (by simp [recD]) fun w6 d6 f6 _ => ?_
  have h6 := h5.reg (r' := { r with bits := [], cur := 0, ph := 0, fin := 0, spot := 0, head := 0, wi := 0 }) d6 f6
  refine st1 h6.rc (by simp [recD]) fun w7 d7 f7 _ => ?_
  have h7 := h6.reg (r' := { r with bits := [], cur := 0, ph := 0, fin := 0, spot := 0, head := 0, wi := 0, fill := 0 }) d7 f7
  refine st1 h7.rc (by simp [recD]) fun w8 d8 f8 _ => ?_
  have h8 := h7.reg (r' := { r with bits := [], cur := 0, ph := 0, fin := 0, spot := 0, head := 0, wi := 0, fill := 0, n := 0 }) d8 f8
  refine st1 h8.rc (by simp [recD]) fun w9 d9 f9 _ => ?_
  have h9 := h8.reg (r' := { r with bits := [], cur := 0, ph := 0, fin := 0, spot := 0, head := 0, wi := 0, fill := 0, n := 0, total := 0 }) d9 f9
  refine st1 h9.rc (by simp [recD]) fun w10 d10 f10 _ => ?_
  have h10 := h9.reg (r' := { r with bits := [], cur := 0, ph := 0, fin := 0, spot := 0, head := 0, wi := 0, fill := 0, n := 0, total := 0, fed := 0 }) d10 f10
  have F1 : Fr B 28 w w4 := (((f1.mono (by omega) (by omega)).trans (f2.mono (by omega) (by omega))).trans (f3.mono (by omega) (by omega))).trans (f4.mono (by omega) (by omega))
  have F2 : Fr B 28 w4 w7 := ((f5.mono (by omega) (by omega)).trans (f6.mono (by omega) (by omega))).trans (f7.mono (by omega) (by omega))
  have F3 : Fr B 28 w7 w10 := ((f8.mono (by omega) (by omega)).trans (f9.mono (by omega) (by omega))).trans (f10.mono (by omega) (by omega))
  exact hK w10 _ h10 ⟨rfl, rfl, rfl, fun h => by simp [initD] at h, fun h => by simp [initD] at h, fun h => by simp [initD] at h, fun h => by simp [initD] at h, ⟨rfl, rfl, rfl, rfl⟩, fun i hi => by simp at hi, fun j hj => by simp [initD] at hj, fun h => by simp [initD] at h, ho⟩ rfl rfl ((F1.trans F2).trans F3)

/-- What Feed has told: the buffer's first n bytes. -/
theorem buf_out {v : World} {out : List Nat} {K : ByteArray → Prop} (h : RW v B r) (hn : r.n + m0 = out.length) (ho : out.length ≤ 256) (hlt : ∀ x ∈ out, x < 256) (hb : ∀ i, i < r.n → r.bf i = out.getD (m0 + i) 0)
    (hK : K (strOf (out.drop m0))) : CutS 1 ⟨some ⟨B + 27, 0, none⟩, 256, 256⟩ 0 (r.n : Int) ((256 : Nat) : Int) fun l17 => BtS v l17 K := by
  refine cutS (lo := 0) (hi := r.n) (mx := 256) (bb := B + 27) rfl (by omega) (by omega) (by show 256 ≤ 256; omega) (by omega) ?_
  refine btS (zs := out.drop m0) h.buf ?_ (by simp; omega) (fun x hx => hlt x (List.mem_of_mem_drop hx)) hK
  rw [List.drop_zero, Nat.sub_zero]
  unfold byts
  rw [← List.map_take]
  congr 1
  apply List.ext_getElem?
  intro i
  rw [List.getElem?_take]
  by_cases hi : i < r.n
  · rw [if_pos hi, tab_get (by omega), hb i hi, List.getElem?_drop, List.getD_eq_getElem?_getD, List.getElem?_eq_getElem (by omega)]
    rfl
  · rw [if_neg hi, List.getElem?_eq_none (by simp; omega)]

set_option maxRecDepth 10000 in
theorem stream_Feed_spec {chunk : ByteArray} {last : Bool} {K : ByteArray → Int → Int → Int → World → Prop} (h : RW w B r) (q : Rel r s m0) (gd : GD r.bits s) (hfed : r.bits.length = 8 * r.fed) (hc : chunk.size + r.fed ≤ 512)
    (hF : ∀ (e : Nat) pos (sk : DS) w' (r' : RS), e ≠ 0 → RW w' B r' → heldOK r' → (∀ Q, (last = true → Q = []) → (decodeS (r.bits ++ sbits (bt chunk) ++ Q) s).1 = e) → (∃ x, sk.out = s.out ++ x) → sk.out.length ≤ 256 → (∀ x ∈ sk.out, x < 256) → Fr B 28 w w' → K (strOf (sk.out.drop s.out.length)) 2 (e : Int) pos w')
    (hD : last = true → ∀ (sk : DS) w' (r' : RS), RW w' B r' → heldOK r' → decodeS (r.bits ++ sbits (bt chunk)) s = (0, sk.out) → (∃ x, sk.out = s.out ++ x) → sk.out.length ≤ 256 → (∀ x ∈ sk.out, x < 256) → Fr B 28 w w' → K (strOf (sk.out.drop s.out.length)) 1 0 0 w')
    (hM : last = false → ∀ (sk : DS) w' (r' : RS), RW w' B r' → Rel r' sk s.out.length → GD r'.bits sk → r'.bits = r.bits ++ sbits (bt chunk) → r'.fed = r.fed + chunk.size → (∀ Q, D (r.bits ++ sbits (bt chunk) ++ Q) s = D (r.bits ++ sbits (bt chunk) ++ Q) sk) → (∃ x, sk.out = s.out ++ x) → Fr B 28 w w' → K (strOf (sk.out.drop s.out.length)) 0 0 0 w') :
    S.stream_Decoder_Feed (B + 24) chunk last w K := by
  unfold S.stream_Decoder_Feed
  have hlt := h.lt
  have hph := q.1
  have hp8 := gd.ph
  refine newB fun w1 b1 f1 s1 => ?_
  generalize hP : w.heap.size = P at *
  have h1 := h.fr f1 (by omega)
  refine ldI h1.rc rfl ?_
  rw [if_neg (by simp only [decide_eq_true_eq]; omega)]
  refine ldI h1.rc rfl ?_
  rw [W_id (by omega) (by omega), if_neg (by simp only [decide_eq_true_eq]; omega)]
  refine join_ ?_
  refine loopN (fun m st v => ∃ i : Nat, st = ((i : Int), ()) ∧ m + i = chunk.size ∧ RW v B { r with bits := r.bits ++ sbits ((bt chunk).take i) } ∧ Blk v P [.string ⟨#[]⟩, .int .i64 0, .int .i64 0, .int .i64 0] ∧ Fr B 28 w v) chunk.size
    ⟨0, rfl, by omega, by simpa [sbits] using h1, b1, f1.any _ _⟩ ?_
  rintro m _ v ⟨i, rfl, hm, hv, bv, fv⟩ Q hQ
  dsimp only
  have hsl : (sbits ((bt chunk).take i)).length = i * 8 := by rw [sbits_length, List.length_take, bt_length, Nat.min_eq_left (by omega)]
  by_cases hi : i < chunk.size
  · rw [if_pos (by simp only [decide_eq_true_eq]; omega)]
    refine drew_ (ldP hv.drew.rc rfl ?_)
    have hget : (bt chunk)[i]? = some ((bt chunk)[i]'(by simpa using hi)) := List.getElem?_eq_getElem _
    have hx := bt_get_lt hget
    generalize (bt chunk)[i]'(by simpa using hi) = x at *
    refine ixStr (by omega) (by rw [Int.toNat_natCast]; exact hget) ?_
    rw [W_nat (by omega)]
    refine put_spec (v := x) (k := 8) hv.drew.tape (by omega) (by omega) (by show (r.bits ++ sbits ((bt chunk).take i)).length + 8 ≤ 4096; rw [List.length_append, hsl]; omega) fun v1 t1 g1 => ?_
    have g1 : Fr B 2 v v1 := g1
    have t1 : RTape v1 B (r.bits ++ sbits ((bt chunk).take i) ++ bitsOf x 8) r.cur := t1
    rw [List.append_assoc, ← sbits_succ hget] at t1
    rw [W_succ (by omega)]
    exact let_ (hQ (m - 1) _ _ (by omega) ⟨i + 1, rfl, by omega, hv.setTape t1 g1, bv.fr g1 (by omega), fv.trans (g1.mono (by omega) (by omega))⟩)
  rw [if_neg (by simp only [decide_eq_true_eq]; omega)]
  have hie : i = chunk.size := by omega
  subst hie
  rw [List.take_of_length_le (by simp)] at hv hsl
  generalize hbits : r.bits ++ sbits (bt chunk) = bits at *
  have hbl : bits.length = 8 * (r.fed + chunk.size) := by rw [← hbits, List.length_append, hsl]; omega
  have gd' : GD bits s := by rw [← hbits]; exact gd.more
  refine ldI hv.rc rfl (st1 hv.rc (by simp [recD]) fun v2 d2 g2 _ => ?_)
  rw [W_add (by show r.fed + chunk.size < _; omega)] at d2
  have h2 := hv.reg (r' := { r with bits := bits, fed := r.fed + chunk.size }) d2 g2
  refine st1 h2.rc (by simp [recD]) fun v3 d3 g3 _ => ?_
  have h3 := h2.reg (r' := { r with bits := bits, fed := r.fed + chunk.size, n := 0 }) d3 g3
  have b3 := (bv.fr g2 (by omega)).fr g3 (by omega)
  have F3 := (fv.trans (g2.mono (q := B) (m := 28) (by omega) (by omega))).trans (g3.mono (q := B) (m := 28) (by omega) (by omega))
  have R3 : Rel { r with bits := bits, fed := r.fed + chunk.size, n := 0 } s s.out.length := by
    obtain ⟨q1, q2, q3, q4, q5, q6, q7, ⟨a1, a2, a3, a4⟩, q9, q10, q11, q12⟩ := q
    exact ⟨q1, q2, q3, q4, q5, q6, q7, ⟨a1, a2, a3, by show 0 + s.out.length = _; omega⟩, fun i hi => by simp at hi, q10, q11, q12⟩
  refine join_ ?_
  refine loopN (fun m st u => ∃ (e : Nat) (sk : DS) (rk : RS), st = ((e : Int), ()) ∧ RW u B rk ∧ Blk u P [.string ⟨#[]⟩, .int .i64 0, .int .i64 0, .int .i64 0] ∧ Fr B 28 w u ∧ rk.bits = bits ∧ rk.fed = r.fed + chunk.size ∧ GD bits sk ∧ (∀ Q, D (bits ++ Q) s = D (bits ++ Q) sk) ∧ (∃ x, sk.out = s.out ++ x) ∧
      rk.n + s.out.length = sk.out.length ∧ (∀ i, i < rk.n → rk.bf i = sk.out.getD (s.out.length + i) 0) ∧ heldOK rk ∧
      ((e = 0 ∧ Rel rk sk s.out.length ∧ m = mu bits sk + 1) ∨ (e ≠ 0 ∧ m = 0 ∧ sk.ph ≠ 8 ∧ (step bits sk).1 = e ∧ (e = 4 → Rel rk sk s.out.length)))) (mu bits s + 1)
    ⟨0, s, _, rfl, h3, b3, F3, rfl, rfl, gd', fun _ => rfl, ⟨[], by simp⟩, by show 0 + s.out.length = _; omega, fun i hi => by simp at hi, R3.held, .inl ⟨rfl, R3, rfl⟩⟩ ?_
  rintro m _ u ⟨e, sk, rk, rfl, hu, bu, fu, hrb, hrf, gk, hev, hpre, hn, hbf, hho, hI⟩ Q2 hQ2
  dsimp only
  have hno := gk.olen
  -- what comes behind the loop
  have after : ∀ (ee : Nat) (u2 : World) (r2 : RS), RW u2 B r2 → Blk u2 P [.string ⟨#[]⟩, .int .i64 0, .int .i64 0, .int .i64 0] → Fr B 28 w u2 → r2.bits = bits → r2.fed = r.fed + chunk.size → r2.n = rk.n → r2.bf = rk.bf → heldOK r2 →
      (ee = 0 → decodeS bits s = (0, sk.out) ∧ Rel r2 sk s.out.length) → (ee = 4 → decodeS bits s = (4, []) ∧ Rel r2 sk s.out.length) → (ee ≠ 0 → ee ≠ 4 → ∀ Q, (decodeS (bits ++ Q) s).1 = ee) →
      (Drew u2 fun w =>
            LdS w ⟨B + 24, 17, none⟩ fun buf_15 =>
            LdI .i64 w ⟨B + 24, 18, none⟩ fun n_16 =>
            CutS 1 buf_15 0 n_16 (buf_15.c : Int) fun l17 =>
            BtS w l17 fun s18 =>
            Join (fun (w : World) =>
              Join (fun (w : World) =>
                St1 w ⟨P, 0, none⟩ (.string s18) fun w =>
                St1 w ⟨P, 1, none⟩ (.int .i64 0) fun w =>
                St1 w ⟨P, 2, none⟩ (.int .i64 0) fun w =>
                St1 w ⟨P, 3, none⟩ (.int .i64 0) fun w =>
                LdStr w ⟨P, 0, none⟩ fun Out_19 =>
                LdI .i64 w ⟨P, 1, none⟩ fun State_20 =>
                LdI .i64 w ⟨P, 2, none⟩ fun Err_21 =>
                LdI .i64 w ⟨P, 3, none⟩ fun Pos_22 =>
                K Out_19 State_20 Err_21 Pos_22 w) fun J23 =>
              Join (fun (w : World) =>
                St1 w ⟨B + 24, 4, none⟩ (.int .i64 10) fun w =>
                LdI .i64 w ⟨B + 24, 6, none⟩ fun at_24 =>
                St1 w ⟨P, 0, none⟩ (.string s18) fun w =>
                St1 w ⟨P, 1, none⟩ (.int .i64 2) fun w =>
                St1 w ⟨P, 2, none⟩ (.int .i64 (ee : Int)) fun w =>
                St1 w ⟨P, 3, none⟩ (.int .i64 at_24) fun w =>
                LdStr w ⟨P, 0, none⟩ fun Out_25 =>
                LdI .i64 w ⟨P, 1, none⟩ fun State_26 =>
                LdI .i64 w ⟨P, 2, none⟩ fun Err_27 =>
                LdI .i64 w ⟨P, 3, none⟩ fun Pos_28 =>
                K Out_25 State_26 Err_27 Pos_28 w) fun J29 =>
              if (!last) = true then
                if ((ee : Int) == 0) = true then
                  J23 w
                else
                  if ((ee : Int) == 4) = true then
                    J23 w
                  else
                    J29 w
              else
                J29 w) fun J30 =>
            if ((ee : Int) == 0) = true then
              if last = true then
                St1 w ⟨B + 24, 4, none⟩ (.int .i64 9) fun w =>
                St1 w ⟨P, 0, none⟩ (.string s18) fun w =>
                St1 w ⟨P, 1, none⟩ (.int .i64 1) fun w =>
                St1 w ⟨P, 2, none⟩ (.int .i64 0) fun w =>
                St1 w ⟨P, 3, none⟩ (.int .i64 0) fun w =>
                LdStr w ⟨P, 0, none⟩ fun Out_31 =>
                LdI .i64 w ⟨P, 1, none⟩ fun State_32 =>
                LdI .i64 w ⟨P, 2, none⟩ fun Err_33 =>
                LdI .i64 w ⟨P, 3, none⟩ fun Pos_34 =>
                K Out_31 State_32 Err_33 Pos_34 w
              else
                J30 w
            else
              J30 w) := by
    intro ee u2 r2 hu2 bu2 fu2 e1 e2 e3 e4 ho2 c0 c4 cx
    refine drew_ (ldS hu2.drew.rc rfl (ldI hu2.drew.rc rfl ?_))
    refine buf_out (m0 := s.out.length) (out := sk.out) hu2.drew (by rw [e3]; exact hn) hno gk.lt (by rw [e3, e4]; exact hbf) ?_
    generalize hstr : strOf (sk.out.drop s.out.length) = str
    -- the answer is laid and read back
    have tell : ∀ (u3 : World) (st er ps : Int) (K' : World → Prop), Blk u3 P [.string ⟨#[]⟩, .int .i64 0, .int .i64 0, .int .i64 0] → (∀ u4, Fr P 1 u3 u4 → K str st er ps u4) →
        (St1 u3 ⟨P, 0, none⟩ (.string str) fun w =>
                St1 w ⟨P, 1, none⟩ (.int .i64 st) fun w =>
                St1 w ⟨P, 2, none⟩ (.int .i64 er) fun w =>
                St1 w ⟨P, 3, none⟩ (.int .i64 ps) fun w =>
                LdStr w ⟨P, 0, none⟩ fun Out_19 =>
                LdI .i64 w ⟨P, 1, none⟩ fun State_20 =>
                LdI .i64 w ⟨P, 2, none⟩ fun Err_21 =>
                LdI .i64 w ⟨P, 3, none⟩ fun Pos_22 =>
                K Out_19 State_20 Err_21 Pos_22 w) := by
      intro u3 st er ps K' hb hk
      refine st1 hb (by simp) fun y1 x1 z1 _ => ?_
      refine st1 x1 (by simp) fun y2 x2 z2 _ => ?_
      refine st1 x2 (by simp) fun y3 x3 z3 _ => ?_
      refine st1 x3 (by simp) fun y4 x4 z4 _ => ?_
      exact ldStr x4 rfl (ldI x4 rfl (ldI x4 rfl (ldI x4 rfl (hk y4 (((z1.trans z2).trans z3).trans z4)))))
    have fail : ee ≠ 0 → (ee = 4 → last = true) → (St1 u2.drew ⟨B + 24, 4, none⟩ (.int .i64 10) fun w =>
                LdI .i64 w ⟨B + 24, 6, none⟩ fun at_24 =>
                St1 w ⟨P, 0, none⟩ (.string str) fun w =>
                St1 w ⟨P, 1, none⟩ (.int .i64 2) fun w =>
                St1 w ⟨P, 2, none⟩ (.int .i64 (ee : Int)) fun w =>
                St1 w ⟨P, 3, none⟩ (.int .i64 at_24) fun w =>
                LdStr w ⟨P, 0, none⟩ fun Out_25 =>
                LdI .i64 w ⟨P, 1, none⟩ fun State_26 =>
                LdI .i64 w ⟨P, 2, none⟩ fun Err_27 =>
                LdI .i64 w ⟨P, 3, none⟩ fun Pos_28 =>
                K Out_25 State_26 Err_27 Pos_28 w) := by
      intro hne hl4
      refine st1 hu2.drew.rc (by simp [recD]) fun u3 d3 g3 _ => ?_
      have g3 : Fr (B + 24) 1 u2 u3 := g3
      have h3 := hu2.reg (r' := { r2 with ph := 10 }) d3 g3
      refine ldI h3.rc rfl (tell u3 _ _ _ (fun _ => True) (bu2.fr g3 (by omega)) fun u4 g4 => ?_)
      rw [← hstr]
      refine hF ee _ sk u4 _ hne (h3.fr g4 (by omega)) ho2 (fun Q hQ => ?_) hpre hno gk.lt ((fu2.trans (g3.mono (by omega) (by omega))).thenNew g4 (by omega))
      by_cases h4 : ee = 4
      · rw [hQ (hl4 h4), List.append_nil, (c4 h4).1, h4]
      · exact cx hne h4 Q
    refine join_ ?_
    by_cases hz : ee = 0
    · rw [if_pos (by simp only [beq_iff_eq]; omega)]
      obtain ⟨x1, x2⟩ := c0 hz
      cases hlast : last with
      | true =>
        rw [if_pos rfl]
        refine st1 hu2.drew.rc (by simp [recD]) fun u3 d3 g3 _ => ?_
        have g3 : Fr (B + 24) 1 u2 u3 := g3
        have h3 := hu2.reg (r' := { r2 with ph := 9 }) d3 g3
        refine tell u3 _ _ _ (fun _ => True) (bu2.fr g3 (by omega)) fun u4 g4 => ?_
        rw [← hstr]
        exact hD hlast sk u4 _ (h3.fr g4 (by omega)) ho2 x1 hpre hno gk.lt ((fu2.trans (g3.mono (by omega) (by omega))).thenNew g4 (by omega))
      | false =>
        rw [if_neg (by simp)]
        dsimp only
        refine join_ (join_ ?_)
        rw [if_pos (by simp), if_pos (by simp only [beq_iff_eq]; omega)]
        refine tell u2.drew _ _ _ (fun _ => True) bu2.drew fun u4 g4 => ?_
        have g4 : Fr P 1 u2 u4 := g4
        rw [← hstr]
        exact hM hlast sk u4 r2 (hu2.fr g4 (by omega)) x2 (by rw [e1]; exact gk) e1 e2 hev hpre (fu2.thenNew g4 (by omega))
    · rw [if_neg (by simp only [beq_iff_eq]; omega)]
      dsimp only
      refine join_ (join_ ?_)
      cases hlast : last with
      | true =>
        rw [if_neg (by simp)]
        exact fail hz fun _ => hlast
      | false =>
        rw [if_pos (by simp), if_neg (by simp only [beq_iff_eq]; omega)]
        by_cases h4 : ee = 4
        · rw [if_pos (by simp only [beq_iff_eq]; omega)]
          refine tell u2.drew _ _ _ (fun _ => True) bu2.drew fun u4 g4 => ?_
          have g4 : Fr P 1 u2 u4 := g4
          rw [← hstr]
          exact hM hlast sk u4 r2 (hu2.fr g4 (by omega)) (c4 h4).2 (by rw [e1]; exact gk) e1 e2 hev hpre (fu2.thenNew g4 (by omega))
        · rw [if_neg (by simp only [beq_iff_eq]; omega)]
          exact fail hz fun h => absurd h h4
  have hev0 : D bits s = D bits sk := by have := hev []; simpa using this
  rcases hI with ⟨rfl, R, hm⟩ | ⟨hne, hm, hp, hst, h4⟩
  · rw [if_pos (by simp)]
    refine ldI hu.rc rfl ?_
    have hphk := R.1
    by_cases h8 : sk.ph = 8
    · rw [if_neg (by simp only [bne_iff_ne, ne_eq]; omega)]
      refine join_ ?_
      rw [if_pos (by simp)]
      refine stream_tail_spec hu fun u2 h2 f2 => ?_
      have b2 : Blk u2 P [.string ⟨#[]⟩, .int .i64 0, .int .i64 0, .int .i64 0] := by
        have := bu.lt
        exact bu.fr f2 (by omega)
      rw [hrb, R.2.1]
      by_cases hcl : sk.cur < bits.length
      · rw [if_pos hcl]
        refine after 11 u2 _ h2 b2 (fu.trans f2) hrb hrf rfl rfl hho (fun h => by omega) (fun h => by omega) fun _ _ Q => ?_
        unfold decodeS
        rw [hev Q, D_stop h8]
        rw [if_neg (by simp), if_pos (by show sk.cur < _; simp; omega)]
      · rw [if_neg hcl]
        refine after 0 u2 _ h2 b2 (fu.trans f2) hrb hrf rfl rfl hho (fun _ => ⟨?_, R⟩) (fun h => by omega) fun h => by omega
        unfold decodeS
        rw [hev0, D_stop h8]
        rw [if_neg (by simp), if_neg hcl]
    · rw [if_pos (by simp only [bne_iff_ne, ne_eq]; omega)]
      have hPu := bu.lt
      refine stream_turn_spec hu R (by rw [hrb]; exact gk) h8 (fun e u2 r2 hne hse h2 ho2 h4 S2 f2 => ?_) fun s2 u2 r2 hse h2 R2 S2 f2 => ?_
      · rw [hrb] at hse
        refine hQ2 0 _ _ (by omega) ⟨e, sk, r2, rfl, h2, bu.fr f2 (by omega), fu.trans f2, S2.1.trans hrb, S2.2.1.trans hrf, gk, hev, hpre, by rw [S2.2.2.1]; exact hn, by rw [S2.2.2.1, S2.2.2.2]; exact hbf, ho2, .inr ⟨hne, rfl, h8, hse, h4⟩⟩
      · rw [hrb] at hse
        obtain ⟨g2, hmu⟩ := step_good gk h8 hse
        have hout := step_out bits sk
        rw [hse] at hout
        obtain ⟨x, hx⟩ := hpre
        obtain ⟨y, hy⟩ := hout
        refine hQ2 (mu bits s2 + 1) _ _ (by omega) ⟨0, s2, r2, rfl, h2, bu.fr f2 (by omega), fu.trans f2, S2.1.trans hrb, S2.2.trans hrf, g2, fun Q => ?_, ⟨x ++ y, by rw [← List.append_assoc, ← hx]; exact hy⟩, R2.2.2.2.2.2.2.2.1.2.2.2, R2.2.2.2.2.2.2.2.2.1, R2.held, .inl ⟨rfl, R2, rfl⟩⟩
        rw [hev Q]
        have hl := step_lift (Q := Q) gk h8 (by omega) (by rw [hse]; simp)
        rw [hse] at hl
        exact D_step gk.more h8 hl
  · rw [if_neg (by simp only [beq_iff_eq]; omega)]
    refine join_ ?_
    rw [if_neg (by simp only [beq_iff_eq]; omega)]
    refine after e u rk hu bu fu hrb hrf rfl rfl hho (fun h => by omega) (fun h => ⟨?_, h4 h⟩) fun _ hn4 Q => ?_
    · unfold decodeS
      have : (D bits s).1 = 4 := by rw [hev0, D_err hp (by omega), hst, h]
      rw [if_pos (by omega), this]
    · unfold decodeS
      have hl := step_lift (Q := Q) gk hp (by omega) (by omega)
      have : (D (bits ++ Q) s).1 = e := by rw [hev Q, D_err hp (by rw [hl]; omega), hl, hst]
      rw [if_pos (by omega), this]

theorem reset_nil_spec {K : World → Prop} (h : RTape w B [] 0) (hK : ∀ w', RTape w' B [] 0 → Fr B 2 w w' → w'.heap.size = w.heap.size → K w') : S.bits_Tape_Reset (B + 1) w K := by
  unfold S.bits_Tape_Reset S.bits_Tape_wipe
  refine ldI h.rcd rfl ?_
  rw [show Shr .i64 (W ((([] : List Bool).length : Int) + 7)) 3 = 0 from rfl]
  refine let_ ?_
  refine loopN (fun m st v => st = (0, ()) ∧ v = w) 0 ⟨rfl, rfl⟩ ?_
  rintro m _ v ⟨rfl, rfl⟩ Q hQ
  dsimp only
  rw [if_neg (by simp)]
  refine st1 h.rcd (by simp) fun w2 r2 f2 s2 => ?_
  refine st1 r2 (by simp) fun w3 r3 f3 s3 => ?_
  exact hK w3 ⟨(h.buf.fr f2 (by omega)).fr f3 (by omega), r3, by simp, by simp⟩ ((f2.mono (by omega) (by omega)).trans (f3.mono (by omega) (by omega))) (by omega)

theorem stream_New_spec {T : Nat} {sa sb : CS} {K : Nat → World → Prop} (hT : w.heap.size = T + 24) (h1 : RTape w T [] 0) (h2 : RC w (T + 2) sa) (h3 : RC w (T + 13) sb)
    (hK : ∀ w' r', RW w' T r' → heldOK r' → Fr T 2 w w' → w'.heap.size = T + 28 → K (T + 24) w') : S.stream_New (T + 1) (T + 2) (T + 13) w K := by
  unfold S.stream_New
  refine newB fun w1 b1 f1 s1 => ?_
  rw [hT] at b1 s1 ⊢
  refine mkN (n := 273) (by omega) fun w2 b2 f2 s2 => ?_
  rw [s1] at b2 s2 ⊢
  refine st1 (b1.fr f2 (by omega)) (by simp) fun w3 b3 f3 s3 => ?_
  refine mkS (by omega) (by omega) (by omega) (by omega) fun w4 b4 f4 s4 => ?_
  rw [s3, s2] at b4 s4 ⊢
  refine st1 (b3.fr f4 (by omega)) (by simp) fun w5 b5 f5 s5 => ?_
  refine mkS (by omega) (by omega) (by omega) (by omega) fun w6 b6 f6 s6 => ?_
  rw [s5, s4] at b6 s6 ⊢
  refine st1 (b5.fr f6 (by omega)) (by simp) fun w7 b7 f7 s7 => ?_
  have F : Fr (T + 24) 1 w w7 := (((((f1.any (T + 24) 1).then0 f2).trans f3).then0 f4).trans f5 |>.then0 f6).trans f7
  have F24 : Fr (T + 24) 1 w2 w7 := (((f3.then0 f4).trans f5).then0 f6).trans f7
  have F45 : Fr (T + 24) 1 w4 w7 := ((f5.then0 f6)).trans f7
  have l7 := b2.fr F24 (by omega)
  have r7 := b4.fr F45 (by omega)
  have bf7 := b6.fr f7 (by omega)
  refine reset_nil_spec (h1.fr F (by omega)) fun w8 t8 f8 s8 => ?_
  let z : Nat → Nat := fun _ => 0
  refine hK w8 ⟨false, 0, 0, 0, 0, 0, 0, 0, 0, 0, 0, 0, 0, 0, 0, z, z, z, [], 0, sa, sb⟩ ⟨t8, (h2.fr F (by omega)).fr f8 (by omega), (h3.fr F (by omega)).fr f8 (by omega), b7.fr f8 (by omega), l7.fr f8 (by omega), ?_, ?_⟩ (fun hh => by cases hh) ?_ ?_
  · have := r7.fr f8 (by omega)
    rw [reps_byts] at this
    exact this
  · have := bf7.fr f8 (by omega)
    rw [reps_byts] at this
    have e : List.replicate (Int.toNat 256) 0 = tab 256 z := tab_ext (by rw [List.length_replicate]; rfl) fun i hi => by rw [List.getElem?_replicate, if_pos (show i < Int.toNat 256 from hi)]
    rw [e] at this
    exact this
  · exact ⟨by have := F.1; have := f8.1; omega, fun b hb ho => by rw [f8.2 b (by have := F.1; omega) ho, F.2 b hb (by omega)]⟩
  · omega
end Go.Proofs.Qxb6500563aGreat
