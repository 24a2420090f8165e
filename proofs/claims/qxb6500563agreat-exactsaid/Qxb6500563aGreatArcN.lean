/-
  The model's container: read, List, Unpack.
-/
import Derived.Test.Qxb6500563aGreatArcM
namespace Go.Proofs.Qxb6500563aGreat
open Go.Den Go.Zip
set_option linter.unusedVariables false
set_option linter.unusedSimpArgs false
variable {w w' : World}

theorem runD_good {bits : List Bool} : ∀ (k : Nat) (s : DS), GD bits s → GD bits (runD bits k s).2
  | 0, s, g => g
  | k + 1, s, g => by
    simp only [runD]
    by_cases h8 : s.ph = 8
    · rw [if_pos h8]; exact g
    · rw [if_neg h8]
      by_cases he : (step bits s).1 = 0
      · rw [if_neg (by simpa using he)]
        exact runD_good k _ (step_good g h8 (show step bits s = (0, (step bits s).2) from by rw [← he])).1
      · rw [if_pos he]; exact g
theorem decode_good (bits : List Bool) : (decode bits).2.length ≤ 256 ∧ ∀ x ∈ (decode bits).2, x < 256 := by
  have g := runD_good (mu bits initD + 1) initD (init_good bits)
  unfold decode
  split
  · simp
  · split
    · simp
    · exact ⟨g.olen, g.lt⟩

def rowOf (raw : ByteArray) (s : Slot) : List Value := [.string (nameOf raw s), .int .i64 s.size, .int .i64 s.sum, .int .i64 ((s.head + 6 : Nat) : Int), .int .i64 s.to_, .int .i64 s.off]
theorem rows_len (raw : ByteArray) (l : List Slot) : (l.flatMap (rowOf raw)).length = l.length * 6 := flat_length (c := 6) (fun _ => rfl) l
theorem slots_succ (r : List Nat) (dir k : Nat) : slotsTo r dir (k + 1) = slotsTo r dir k ++ [spotOf r (dir + 2 * k)] := by unfold slotsTo; rw [List.range_succ, List.map_append]; rfl

set_option maxRecDepth 10000 in
theorem archm_read_spec {raw : ByteArray} {K : Sl → Int → Int → World → Prop}
    (hbad : (frameE (bt raw)).1 ≠ 0 → ∀ w', Fr 0 0 w w' → K ⟨none, 0, 0⟩ ((frameE (bt raw)).1 : Int) ((frameE (bt raw)).2 : Int) w')
    (hK : (frameE (bt raw)).1 = 0 → ∀ o w', OS w' o ((slotsR raw).flatMap (rowOf raw)) 6 → (∀ b, owns o b → w.heap.size ≤ b) → Fr 0 0 w w' → K o 0 0 w') : S.archm_read raw w K := by
  unfold S.archm_read
  have hbl := bt_length raw
  refine let_ ?_
  have hfr := Fr.refl 0 0 w
  unfold frameE at hbad hK
  rw [hbl] at hbad hK
  by_cases h1 : 1200 < raw.size
  · rw [if_pos (by simp only [decide_eq_true_eq]; omega)]
    rw [if_pos h1] at hbad
    exact hbad (by simp) w hfr
  rw [if_neg (by simp only [decide_eq_true_eq]; omega)]
  rw [if_neg h1] at hbad hK
  refine join_ ?_
  by_cases h4 : raw.size < 4
  · rw [if_pos (by simp only [decide_eq_true_eq]; omega)]
    rw [if_pos (.inl h4)] at hbad
    exact hbad (by simp) w hfr
  rw [if_neg (by simp only [decide_eq_true_eq]; omega)]
  rw [show W ((raw.size : Int) - 1) = ((raw.size - 1 : Nat) : Int) from by rw [W_id (by omega) (by omega)]; omega]
  refine byteS (by omega) ?_
  by_cases h90 : (bt raw).getD (raw.size - 1) 0 = 90
  case neg =>
    rw [if_pos (by simp only [bne_iff_ne, ne_eq]; omega)]
    rw [if_pos (.inr h90)] at hbad
    exact hbad (by simp) w hfr
  rw [if_neg (by simp only [bne_iff_ne, ne_eq]; omega)]
  rw [if_neg (by omega)] at hbad hK
  rw [show W ((raw.size : Int) - 4) = ((raw.size - 4 : Nat) : Int) from by rw [W_id (by omega) (by omega)]; omega, show W ((raw.size : Int) - 3) = ((raw.size - 3 : Nat) : Int) from by rw [W_id (by omega) (by omega)]; omega]
  refine byteS (by omega) ?_
  have hcb := bt_getD_lt raw (raw.size - 4)
  have hcn : cntR (bt raw) = (bt raw).getD (raw.size - 4) 0 := by unfold cntR; rw [hbl]
  have hdn : dirR (bt raw) = n16 (bt raw) (raw.size - 3) := by unfold dirR; rw [hbl]
  rw [W_nat (by omega), ← hcn]
  rw [← hcn] at hcb
  have hdl := n16_lt raw (raw.size - 3)
  rw [← hdn] at hdl
  unfold slotsR at hK
  generalize hC : cntR (bt raw) = C at *
  generalize hD : dirR (bt raw) = D at *
  refine let_ ?_
  by_cases hc4 : 4 < C
  · rw [if_pos (by simp only [decide_eq_true_eq]; omega)]
    rw [if_pos hc4] at hbad
    exact hbad (by simp) w hfr
  rw [if_neg (by simp only [decide_eq_true_eq]; omega)]
  rw [if_neg hc4] at hbad hK
  refine archm_num_spec (by omega) (by omega) fun w1 e1 => ?_
  rw [← hdn]
  rw [show W ((D : Int) + W (2 * (C : Int))) = ((D + 2 * C : Nat) : Int) from by rw [W_id (x := 2 * (C : Int)) (by omega) (by omega), W_id (by omega) (by omega)]; omega]
  have fr1 : Fr 0 0 w w1 := Fr.heq hfr e1
  by_cases hdc : D + 2 * C = raw.size - 4
  case neg =>
    rw [if_pos (by simp only [bne_iff_ne, ne_eq]; omega)]
    rw [if_pos hdc] at hbad
    exact hbad (by simp) w1 fr1
  rw [if_neg (by simp only [bne_iff_ne, ne_eq]; omega)]
  rw [if_neg (by simpa using hdc)] at hbad hK
  refine join_ ?_
  refine loopN (fun m st v => ∃ (i : Nat) (o : Sl), st = (o, (i : Int), ()) ∧ m + i = C ∧ (frameTo (bt raw) D i).1 = 0 ∧ OS v o ((slotsTo (bt raw) D i).flatMap (rowOf raw)) 6 ∧ (∀ b, owns o b → w.heap.size ≤ b) ∧ Fr 0 0 w v) C
    ⟨0, ⟨none, 0, 0⟩, rfl, rfl, rfl, OS.nil _ _, fun b hb => by simp [owns] at hb, fr1⟩ ?_
  rintro m _ v ⟨i, o, rfl, hm, hf, hv, ho, fv⟩ Q hQ
  dsimp only
  by_cases hi : i < C
  · rw [if_pos (by simp only [decide_eq_true_eq]; omega)]
    rw [show W ((D : Int) + W (2 * (i : Int))) = ((D + 2 * i : Nat) : Int) from by rw [W_id (x := 2 * (i : Int)) (by omega) (by omega), W_id (by omega) (by omega)]; omega]
    refine let_ (archm_num_spec (by omega) (by omega) fun v1 e1 => ?_)
    have g1 : Fr 0 0 w v1 := Fr.heq fv e1
    have hfs : frameTo (bt raw) D (i + 1) = spotE (bt raw) D (D + 2 * i) := by simp only [frameTo]; rw [if_neg (by simpa using hf)]
    have bad : ∀ (e : Nat) (p : Nat) v2, spotE (bt raw) D (D + 2 * i) = (e, p) → e ≠ 0 → Fr 0 0 w v2 → K ⟨none, 0, 0⟩ (e : Int) (p : Int) v2 := by
      intro e p v2 hs he f2
      have hst := frame_stop (r := bt raw) (dir := D) (k := i + 1) (by rw [hfs, hs]; exact he) (C - (i + 1))
      rw [show i + 1 + (C - (i + 1)) = C from by omega, hfs, hs] at hst
      rw [hst] at hbad
      exact hbad he v2 f2
    have hso : spotOf (bt raw) (D + 2 * i) = ⟨n16 (bt raw) (D + 2 * i), n16 (bt raw) (D + 2 * i) + 1 + (bt raw).getD (n16 (bt raw) (D + 2 * i)) 0, n16 (bt raw) (D + 2 * i) + 1 + (bt raw).getD (n16 (bt raw) (D + 2 * i)) 0 + 6 + n16 (bt raw) (n16 (bt raw) (D + 2 * i) + 1 + (bt raw).getD (n16 (bt raw) (D + 2 * i)) 0 + 2), n16 (bt raw) (n16 (bt raw) (D + 2 * i) + 1 + (bt raw).getD (n16 (bt raw) (D + 2 * i)) 0), n16 (bt raw) (n16 (bt raw) (D + 2 * i) + 1 + (bt raw).getD (n16 (bt raw) (D + 2 * i)) 0 + 4)⟩ := rfl
    have hspe := hfs
    unfold spotE at bad
    have hsl := slots_succ (bt raw) D i
    rw [hso] at bad hsl
    dsimp only at bad
    generalize hoff : n16 (bt raw) (D + 2 * i) = off at *
    have hol : off < 65536 := by rw [← hoff]; exact n16_lt raw _
    by_cases c1 : D ≤ off
    · rw [if_pos (by simp only [decide_eq_true_eq]; omega)]
      rw [if_pos c1] at bad
      exact bad 15 _ v1 rfl (by omega) g1
    rw [if_neg (by simp only [decide_eq_true_eq]; omega)]
    rw [if_neg c1] at bad
    refine byteS (by omega) ?_
    have hnl := bt_getD_lt raw off
    generalize hln : (bt raw).getD off 0 = ln at *
    rw [W_nat (by omega)]
    refine let_ ?_
    rw [W_succ (by omega), W_add (by omega)]
    rw [show W (((off + 1 + ln : Nat) : Int) + 6) = ((off + 1 + ln + 6 : Nat) : Int) from by rw [W_id (by omega) (by omega)]; omega]
    generalize hhd : off + 1 + ln = hd at *
    by_cases c2 : D < hd + 6
    · rw [if_pos (by simp only [decide_eq_true_eq]; omega)]
      rw [if_pos c2] at bad
      exact bad 15 _ v1 rfl (by omega) g1
    rw [if_neg (by simp only [decide_eq_true_eq]; omega)]
    rw [if_neg c2] at bad
    refine let_ (cutStr (by omega) (by omega) ?_)
    have hsz := n16_lt raw hd
    have hlg := n16_lt raw (hd + 2)
    have hsm := n16_lt raw (hd + 4)
    refine newB fun v2 b2 f2 s2 => ?_
    have g2 := g1.trans f2
    refine st1 b2 (by simp) fun v3 b3 f3 s3 => ?_
    refine st1 b3 (by simp) fun v4 b4 f4 s4 => ?_
    refine st1 b4 (by simp) fun v5 b5 f5 s5 => ?_
    refine st1 b5 (by simp) fun v6 b6 f6 s6 => ?_
    refine st1 b6 (by simp) fun v7 b7 f7 s7 => ?_
    refine st1 b7 (by simp) fun v8 b8 f8 s8 => ?_
    generalize hP : v1.heap.size = P at *
    have hwP : w.heap.size ≤ P := by have := g1.1; omega
    have G8 : Fr P 1 v2 v8 := (((((f3.trans f4).trans f5).trans f6).trans f7).trans f8)
    refine archm_num_spec (by omega) (by omega) fun v9 e9 => ?_
    have b9 := b8.heq e9
    refine st1 b9 (by simp) fun v10 b10 f10 s10 => ?_
    refine drew_ ?_
    show Hold _ _ _ _
    unfold Hold
    refine ldI b10.drew rfl ?_
    rw [show W ((hd : Int) + 2) = ((hd + 2 : Nat) : Int) from by rw [W_id (by omega) (by omega)]; omega, show W ((hd : Int) + 4) = ((hd + 4 : Nat) : Int) from by rw [W_id (by omega) (by omega)]; omega]
    refine archm_num_spec (by omega) (by omega) fun v11 e11 => ?_
    have e11 : v11.heap = v10.heap := e11
    have b11 := b10.heq e11
    refine ⟨fun j hj => ?_, ?_⟩
    · have hj0 : j = 0 := by omega
      subst hj0
      rw [show (⟨P, 3, none⟩ : Addr).add 0 = ⟨P, 3, none⟩ from rfl, b11.cell]
      exact (Blk.cell (w := v10.drew) b10 _).symm
    refine st1 b11 (by simp) fun v12 b12 f12 s12 => ?_
    refine archm_num_spec (by omega) (by omega) fun v13 e13 => ?_
    have b13 := b12.heq e13
    refine st1 b13 (by simp) fun v14 b14 f14 s14 => ?_
    have G14 : Fr P 1 v2 v14 := (Fr.heq ((Fr.heq ((Fr.heq G8 e9).trans f10) e11).trans f12) e13).trans f14
    have g14 : Fr 0 0 w v14 := g2.thenNew G14 hwP
    rw [show W ((hd : Int) + 6) = ((hd + 6 : Nat) : Int) from by rw [W_id (by omega) (by omega)]; omega, show W (((hd + 6 : Nat) : Int) + (n16 (bt raw) (hd + 2) : Int)) = ((hd + 6 + n16 (bt raw) (hd + 2) : Nat) : Int) from by rw [W_add (by omega)]] at b14
    have b14 : Blk v14 P [.string (raw.extract (off + 1) hd), .int .i64 (n16 (bt raw) hd : Int), .int .i64 (n16 (bt raw) (hd + 4) : Int), .int .i64 ((hd + 6 : Nat) : Int), .int .i64 ((hd + 6 + n16 (bt raw) (hd + 2) : Nat) : Int), .int .i64 (off : Int)] := b14
    refine ldI b14 rfl ?_
    generalize hsize : n16 (bt raw) hd = size at *
    generalize hlong : n16 (bt raw) (hd + 2) = long at *
    generalize hsum : n16 (bt raw) (hd + 4) = sum at *
    by_cases c3 : D < hd + 6 + long
    · rw [if_pos (by simp only [decide_eq_true_eq]; omega)]
      rw [if_pos c3] at bad
      exact bad 15 _ v14 rfl (by omega) g14
    rw [if_neg (by simp only [decide_eq_true_eq]; omega)]
    rw [if_neg c3] at bad
    refine join_ ?_
    by_cases c4 : ln = 0
    · rw [if_pos (by simp only [beq_iff_eq]; omega)]
      rw [if_pos (.inl c4)] at bad
      exact bad 16 _ v14 rfl (by omega) g14
    rw [if_neg (by simp only [beq_iff_eq]; omega)]
    by_cases c5 : 8 < ln
    · rw [if_pos (by simp only [decide_eq_true_eq]; omega)]
      rw [if_pos (.inr c5)] at bad
      exact bad 16 _ v14 rfl (by omega) g14
    rw [if_neg (by simp only [decide_eq_true_eq]; omega)]
    rw [if_neg (by omega)] at bad
    refine ldI b14 rfl ?_
    by_cases c6 : 256 < size
    · rw [if_pos (by simp only [decide_eq_true_eq]; omega)]
      rw [if_pos c6] at bad
      exact bad 19 _ v14 rfl (by omega) g14
    rw [if_neg (by simp only [decide_eq_true_eq]; omega)]
    rw [if_neg c6] at bad
    refine ldI b14 rfl (ldI b14 rfl ?_)
    rw [show W (((hd + 6 + long : Nat) : Int) - ((hd + 6 : Nat) : Int)) = (long : Int) from by rw [W_id (by omega) (by omega)]; omega]
    by_cases c7 : 512 < long
    · rw [if_pos (by simp only [decide_eq_true_eq]; omega)]
      rw [if_pos c7] at bad
      exact bad 1 _ v14 rfl (by omega) g14
    rw [if_neg (by simp only [decide_eq_true_eq]; omega)]
    have hz : (frameTo (bt raw) D (i + 1)).1 = 0 := by
      rw [hfs]
      unfold spotE
      rw [hso]
      simp only [hoff, hln, hlong]
      rw [if_neg (by omega), if_neg (by omega), if_neg (by omega), if_neg (by omega), if_neg (by omega), if_neg (by omega)]
    refine ldStr b14 rfl (ldI b14 rfl (ldI b14 rfl (ldI b14 rfl (ldI b14 rfl (ldI b14 rfl ?_)))))
    refine newB fun v15 b15 f15 s15 => ?_
    have hlenr := hv.len
    rw [rows_len, slots_len] at hlenr
    have hv1 : OS v1 o ((slotsTo (bt raw) D i).flatMap (rowOf raw)) 6 := hv.frp (P := fun _ => False) ⟨by rw [e1]; exact Nat.le_refl _, fun b _ _ => by rw [e1]⟩ (fun _ _ => id)
    have hv2 : OS v2 o ((slotsTo (bt raw) D i).flatMap (rowOf raw)) 6 := hv1.frp (P := fun _ => False) (FrP.of0 f2) (fun _ _ => id)
    have hv14 : OS v14 o ((slotsTo (bt raw) D i).flatMap (rowOf raw)) 6 := hv2.frp (P := fun b => b = P) (FrP.of G14 fun b h1 h2 => by omega) (fun b hb hp => by
      have := hv1.lt hb
      omega)
    have hv15 : OS v15 o ((slotsTo (bt raw) D i).flatMap (rowOf raw)) 6 := hv14.frp (P := fun _ => False) (FrP.of0 f15) (fun _ _ => id)
    refine appO (new := rowOf raw ⟨off, hd, hd + 6 + long, size, sum⟩) hv15 b15 rfl (by omega) rfl rfl (by show (o.l + 1) * 56 ≤ _; omega) fun o' v16 h16 l16 gr f16 => ?_
    rw [W_succ (by omega)]
    refine let_ (hQ (m - 1) _ _ (by omega) ⟨i + 1, o', rfl, by omega, hz, ?_, fun b hb => ?_, ?_⟩)
    · rw [hsl, List.flatMap_append]
      simpa using h16
    · rcases gr.owns hb with h | h
      · exact ho b h
      · have := g14.1; have := f15.1; omega
    · exact ⟨by have := g14.1; have := f15.1; have := f16.1; omega, fun b hb _ => by
        have := g14.1
        have := f15.1
        rw [f16.2 b (by omega) (fun h => by have := ho b h; omega), f15.2 b (by omega) (by omega), g14.2 b hb (by omega)]⟩
  · rw [if_neg (by simp only [decide_eq_true_eq]; omega)]
    have hie : i = C := by omega
    subst hie
    exact hK hf o v hv ho fv

/-- What List and Unpack hand out. -/
structure RowsOut (w0 w : World) (sl : Sl) (vs : List Value) (n : Nat) : Prop where
  ex : ∃ b, Blk w b vs ∧ sl = ⟨some ⟨b, 0, none⟩, n, n⟩ ∧ w0.heap.size ≤ b

/-- Three cells of a row at a time. -/
theorem st3 {b i : Nat} {pre junk : List Value} {v0 v1 v2 : Value} {K : World → Prop} (h : Blk w b (pre ++ junk)) (hp : pre.length = i * 3) (hj : 3 ≤ junk.length)
    (hk : ∀ w', Blk w' b ((pre ++ [v0, v1, v2]) ++ junk.drop 3) → Fr b 1 w w' → w'.heap.size = w.heap.size → K w') :
    St1 w ⟨b, 0 + Int.toNat (i : Int) * 3, none⟩ v0 fun w => St1 w ⟨b, 0 + Int.toNat (i : Int) * 3 + 1, none⟩ v1 fun w => St1 w ⟨b, 0 + Int.toNat (i : Int) * 3 + 2, none⟩ v2 K := by
  simp only [Int.toNat_natCast, Nat.zero_add]
  refine stJ h (by omega) (by omega) fun w1 h1 f1 s1 => ?_
  refine stJ h1 (by simp; omega) (by simp; omega) fun w2 h2 f2 s2 => ?_
  refine stJ h2 (by simp; omega) (by simp; omega) fun w3 h3 f3 s3 => ?_
  refine hk w3 ?_ ((f1.trans f2).trans f3) (by omega)
  have e : pre ++ [v0] ++ [v1] ++ [v2] = pre ++ [v0, v1, v2] := by simp
  rw [← e]
  have e2 : junk.tail.tail.tail = junk.drop 3 := by rw [← List.drop_one, ← List.drop_one, ← List.drop_one, List.drop_drop, List.drop_drop]
  rw [← e2]
  exact h3
theorem st2 {b i : Nat} {pre junk : List Value} {v0 v1 : Value} {K : World → Prop} (h : Blk w b (pre ++ junk)) (hp : pre.length = i * 2) (hj : 2 ≤ junk.length)
    (hk : ∀ w', Blk w' b ((pre ++ [v0, v1]) ++ junk.drop 2) → Fr b 1 w w' → w'.heap.size = w.heap.size → K w') :
    St1 w ⟨b, 0 + Int.toNat (i : Int) * 2, none⟩ v0 fun w => St1 w ⟨b, 0 + Int.toNat (i : Int) * 2 + 1, none⟩ v1 K := by
  simp only [Int.toNat_natCast, Nat.zero_add]
  refine stJ h (by omega) (by omega) fun w1 h1 f1 s1 => ?_
  refine stJ h1 (by simp; omega) (by simp; omega) fun w2 h2 f2 s2 => ?_
  refine hk w2 ?_ (f1.trans f2) (by omega)
  have e : pre ++ [v0] ++ [v1] = pre ++ [v0, v1] := by simp
  rw [← e]
  have e2 : junk.tail.tail = junk.drop 2 := by rw [← List.drop_one, ← List.drop_one, List.drop_drop]
  rw [← e2]
  exact h2

theorem row_get {raw : ByteArray} {l : List Slot} {k : Nat} {t : Slot} (h : l[k]? = some t) : (l.flatMap (rowOf raw))[k * 6]? = some (.string (nameOf raw t)) ∧ (l.flatMap (rowOf raw))[k * 6 + 1]? = some (.int .i64 t.size) ∧ (l.flatMap (rowOf raw))[k * 6 + 2]? = some (.int .i64 t.sum) ∧
    (l.flatMap (rowOf raw))[k * 6 + 3]? = some (.int .i64 ((t.head + 6 : Nat) : Int)) ∧ (l.flatMap (rowOf raw))[k * 6 + 4]? = some (.int .i64 t.to_) ∧ (l.flatMap (rowOf raw))[k * 6 + 5]? = some (.int .i64 t.off) := by
  have hg := fun j (hj : j < 6) => flat_get (f := rowOf raw) (c := 6) (fun _ => rfl) l k j hj
  have h0 := hg 0 (by omega)
  have h1 := hg 1 (by omega)
  have h2 := hg 2 (by omega)
  have h3 := hg 3 (by omega)
  have h4 := hg 4 (by omega)
  have h5 := hg 5 (by omega)
  rw [h] at h0 h1 h2 h3 h4 h5
  exact ⟨h0, h1, h2, h3, h4, h5⟩

/-- The slots' numbers are in range. -/
theorem slot_facts {raw : ByteArray} (h : (frameE (bt raw)).1 = 0) : (slotsR raw).length ≤ 4 ∧ ∀ s ∈ slotsR raw, s.off + 1 ≤ s.head ∧ s.head + 6 ≤ s.to_ ∧ s.to_ ≤ raw.size ∧ s.to_ ≤ s.head + 6 + 512 ∧ s.size ≤ 256 ∧ s.sum < 65536 ∧ raw.size ≤ 1200 := by
  have hbl := bt_length raw
  unfold frameE at h
  rw [hbl] at h
  by_cases h1 : 1200 < raw.size
  · rw [if_pos h1] at h; simp at h
  rw [if_neg h1] at h
  by_cases h2 : raw.size < 4 ∨ (bt raw).getD (raw.size - 1) 0 ≠ 90
  · rw [if_pos h2] at h; simp at h
  rw [if_neg h2] at h
  by_cases h3 : 4 < cntR (bt raw)
  · rw [if_pos h3] at h; simp at h
  rw [if_neg h3] at h
  by_cases h4 : dirR (bt raw) + 2 * cntR (bt raw) = raw.size - 4
  case neg => rw [if_pos h4] at h; simp at h
  rw [if_neg (by simpa using h4)] at h
  unfold slotsR
  refine ⟨by rw [slots_len]; omega, fun s hs => ?_⟩
  simp only [slotsTo, List.mem_map, List.mem_range] at hs
  obtain ⟨j, hj, rfl⟩ := hs
  have hok := spot_ok (frame_ok h j hj)
  have hsum := n16_lt raw (n16 (bt raw) (dirR (bt raw) + 2 * j) + 1 + (bt raw).getD (n16 (bt raw) (dirR (bt raw) + 2 * j)) 0 + 4)
  obtain ⟨o1, o2, o3, o4, o5, o6, o7⟩ := hok
  generalize hsp : spotOf (bt raw) (dirR (bt raw) + 2 * j) = sp at *
  have e1 : sp.head = sp.off + 1 + (bt raw).getD (n16 (bt raw) (dirR (bt raw) + 2 * j)) 0 := by rw [← hsp]; rfl
  have e2 : sp.to_ = sp.head + 6 + n16 (bt raw) (sp.head + 2) := by rw [← hsp]; rfl
  have e3 : sp.sum < 65536 := by rw [← hsp]; exact hsum
  exact ⟨by omega, by omega, by omega, by omega, o6, e3, by omega⟩

set_option maxRecDepth 10000 in
theorem archm_List_spec {a : Nat} {raw : ByteArray} {K : Sl → Int → Int → World → Prop}
    (hbad : (listE raw).1 ≠ 0 → ∀ w', Fr 0 0 w w' → K ⟨none, 0, 0⟩ ((listE raw).1 : Int) ((listE raw).2 : Int) w')
    (hK : (listE raw).1 = 0 → ∀ sl w', RowsOut w w' sl (((slotsR raw).map (infOf raw)).flatMap infV) (slotsR raw).length → Fr 0 0 w w' → K sl 0 0 w') : S.archm_Archive_List a raw w K := by
  unfold S.archm_Archive_List
  unfold listE at hbad hK
  refine archm_read_spec (fun hne w1 f1 => ?_) fun hz o w1 h1 ho f1 => ?_
  · rw [if_pos (by simp only [bne_iff_ne, ne_eq]; omega)]
    exact hbad hne w1 f1
  rw [if_neg (by simp)]
  obtain ⟨s4, sf⟩ := slot_facts hz
  have hK := hK hz
  have hlen := h1.len
  rw [rows_len] at hlen
  generalize slotsR raw = sls at *
  have hol : o.l = sls.length := by omega
  rw [hol]
  refine mkS (by omega) (by omega) (by omega) (by omega) fun w2 b2 f2 s2 => ?_
  rw [Int.toNat_natCast] at b2 ⊢
  generalize hN : w1.heap.size = N at *
  refine join_ ?_
  have hwN := f1.1
  have h2 := h1.frp (P := fun _ => False) (FrP.of0 f2) (fun _ _ => id)
  have hoN : ∀ b, owns o b → b < N := fun b hb => by rw [← hN]; exact h1.lt hb
  refine loopN (fun m st v => ∃ (i : Nat) (junk : List Value), st = ((i : Int), ()) ∧ m + i = sls.length ∧ Blk v N (((sls.take i).map (infOf raw)).flatMap infV ++ junk) ∧ junk.length = (sls.length - i) * 3 ∧ OS v o (sls.flatMap (rowOf raw)) 6 ∧ Fr 0 0 w v) sls.length
    ⟨0, reps [.string ⟨#[]⟩, .int .i64 0, .int .i64 0] sls.length, rfl, rfl, by simpa using b2, by rw [reps_const]; simp, h2, f1.trans f2⟩ ?_
  rintro m _ v ⟨i, junk, rfl, hm, bv, hj, hv, fv⟩ Q hQ
  dsimp only
  by_cases hi : i < sls.length
  · rw [if_pos (by simp only [decide_eq_true_eq]; omega)]
    have he : sls[i]? = some sls[i] := List.getElem?_eq_getElem hi
    have hs := sf _ (List.getElem_mem hi)
    generalize sls[i] = s at *
    obtain ⟨g0, g1, g2, g3, g4, g5⟩ := row_get (raw := raw) he
    rcases hv with ⟨_, hv⟩ | ⟨g, ga, gb, gc, gj, gd, ge⟩
    · have := congrArg List.length hv
      rw [rows_len] at this
      simp only [List.length_nil] at this
      omega
    have hgt : ∀ {k : Nat} {x : Value}, (sls.flatMap (rowOf raw))[k]? = some x → (sls.flatMap (rowOf raw) ++ gj)[k]? = some x := fun {k x} hh => by
      rw [List.getElem?_append_left (List.getElem?_eq_some_iff.1 hh).1]; exact hh
    refine drew_ ?_
    refine ix ga (by omega) (by omega) (ldStr gd.drew (by rw [Int.toNat_natCast, Nat.zero_add]; exact hgt g0) ?_)
    refine ix ga (by omega) (by omega) (ldI gd.drew (by rw [Int.toNat_natCast, Nat.zero_add]; exact hgt g1) ?_)
    refine ix ga (by omega) (by omega) (ldI gd.drew (by rw [Int.toNat_natCast, Nat.zero_add]; exact hgt g4) ?_)
    refine ix ga (by omega) (by omega) (ldI gd.drew (by rw [Int.toNat_natCast, Nat.zero_add]; exact hgt g3) ?_)
    rw [show W ((s.to_ : Int) - ((s.head + 6 : Nat) : Int)) = ((s.to_ - (s.head + 6) : Nat) : Int) from by rw [W_id (by omega) (by omega)]; omega]
    refine ix (b := N) (o := 0) rfl (by omega) (by omega) ?_
    have hpl : (((sls.take i).map (infOf raw)).flatMap infV).length = i * 3 := by rw [flat_length (c := 3) (fun _ => rfl)]; simp; omega
    have hj3 : 3 ≤ junk.length := by rw [hj]; omega
    refine st3 bv.drew hpl hj3 fun v2 d2 f2 s2 => ?_
    have f2 : Fr N 1 v v2 := f2
    rw [W_succ (by omega)]
    refine let_ (hQ (m - 1) _ _ (by omega) ⟨i + 1, junk.drop 3, rfl, by omega, ?_, by rw [List.length_drop, hj]; omega, .inr ⟨g, ga, gb, gc, gj, gd.fr f2 (by have := hoN g ga; omega), ge⟩, fv.thenNew f2 (by omega)⟩)
    rw [List.take_succ_eq_append_getElem hi, List.map_append, List.flatMap_append]
    have : sls[i] = s := by rw [List.getElem?_eq_getElem hi] at he; exact Option.some.inj he
    rw [this]
    simpa [infV, infOf] using d2
  · rw [if_neg (by simp only [decide_eq_true_eq]; omega)]
    have hj0 : junk = [] := List.eq_nil_of_length_eq_zero (by rw [hj]; omega)
    rw [hj0, List.append_nil, List.take_of_length_le (by omega)] at bv
    exact hK _ v ⟨N, bv, rfl, by omega⟩ fv

set_option maxRecDepth 10000 in
theorem archm_Unpack_spec {a : Nat} {raw : ByteArray} {K : Sl → Int → Int → World → Prop}
    (hbad : (unpE raw).1 ≠ 0 → ∀ w', Fr 0 0 w w' → K ⟨none, 0, 0⟩ ((unpE raw).1 : Int) ((unpE raw).2 : Int) w')
    (hK : (unpE raw).1 = 0 → ∀ sl w', RowsOut w w' sl (((slotsR raw).map (entOf raw)).flatMap entV) (slotsR raw).length → Fr 0 0 w w' → K sl 0 0 w') : S.archm_Archive_Unpack a raw w K := by
  unfold S.archm_Archive_Unpack
  unfold unpE at hbad hK
  refine archm_read_spec (fun hne w1 f1 => ?_) fun hz o w1 h1 ho f1 => ?_
  · rw [if_pos (by simp only [bne_iff_ne, ne_eq]; omega)]
    rw [if_pos hne] at hbad
    exact hbad hne w1 f1
  rw [if_neg (by simp)]
  rw [if_neg (by simpa using hz)] at hbad hK
  obtain ⟨s4, sf⟩ := slot_facts hz
  have hlen := h1.len
  rw [rows_len] at hlen
  generalize slotsR raw = sls at *
  have hol : o.l = sls.length := by omega
  rw [hol]
  refine mkS (by omega) (by omega) (by omega) (by omega) fun w2 b2 f2 s2 => ?_
  rw [Int.toNat_natCast] at b2 ⊢
  generalize hN : w1.heap.size = N at *
  refine join_ ?_
  have hwN := f1.1
  have h2 := h1.frp (P := fun _ => False) (FrP.of0 f2) (fun _ _ => id)
  have hoN : ∀ b, owns o b → b < N := fun b hb => by rw [← hN]; exact h1.lt hb
  refine loopN (fun m st v => ∃ (i : Nat) (junk : List Value), st = ((i : Int), ()) ∧ m + i = sls.length ∧ openTo raw sls = openTo raw (sls.drop i) ∧ Blk v N (((sls.take i).map (entOf raw)).flatMap entV ++ junk) ∧ junk.length = (sls.length - i) * 2 ∧ OS v o (sls.flatMap (rowOf raw)) 6 ∧ Fr 0 0 w v) sls.length
    ⟨0, reps [.string ⟨#[]⟩, .string ⟨#[]⟩] sls.length, rfl, rfl, rfl, by simpa using b2, by rw [reps_const]; simp, h2, f1.trans f2⟩ ?_
  rintro m _ v ⟨i, junk, rfl, hm, hop, bv, hj, hv, fv⟩ Q hQ
  dsimp only
  by_cases hi : i < sls.length
  · rw [if_pos (by simp only [decide_eq_true_eq]; omega)]
    have he : sls[i]? = some sls[i] := List.getElem?_eq_getElem hi
    have hs := sf _ (List.getElem_mem hi)
    have hod := openTo_drop (raw := raw) he
    generalize hse : sls[i] = s at *
    obtain ⟨g0, g1, g2, g3, g4, g5⟩ := row_get (raw := raw) he
    rcases hv with ⟨_, hv⟩ | ⟨g, ga, gb, gc, gj, gd, ge⟩
    · have := congrArg List.length hv
      rw [rows_len] at this
      simp only [List.length_nil] at this
      omega
    have hgt : ∀ {k : Nat} {x : Value}, (sls.flatMap (rowOf raw))[k]? = some x → (sls.flatMap (rowOf raw) ++ gj)[k]? = some x := fun {k x} hh => by
      rw [List.getElem?_append_left (List.getElem?_eq_some_iff.1 hh).1]; exact hh
    -- reading a number of the row
    have rd : ∀ {u : World} {k : Nat} {x : Int} {K' : Int → Prop}, Blk u g (sls.flatMap (rowOf raw) ++ gj) → (sls.flatMap (rowOf raw))[i * 6 + k]? = some (.int .i64 x) → K' x → Ix o.a sls.length (i : Int) fun b o => LdI .i64 u ⟨b, o + Int.toNat (i : Int) * 6 + k, none⟩ K' := by
      intro u k x K' hb hx hk
      exact ix ga (by omega) (by omega) (ldI hb (by rw [Int.toNat_natCast, Nat.zero_add]; exact hgt hx) hk)
    refine drew_ ?_
    refine rd gd.drew g3 (rd gd.drew g4 ?_)
    refine cutStr (by omega) (by omega) ?_
    have hesz : (raw.extract (s.head + 6) s.to_).size ≤ 512 := by rw [ByteArray.size_extract]; omega
    have hdg : (decOf raw s).2.length ≤ 256 ∧ ∀ x ∈ (decOf raw s).2, x < 256 := by unfold decOf; exact decode_good _
    have hdec : decode (sbits (bt (raw.extract (s.head + 6) s.to_))) = decOf raw s := by unfold decOf rawOf; rfl
    have hent : entV (entOf raw s) = [.string (nameOf raw s), .string (strOf (decOf raw s).2)] := by unfold entOf entV; rfl
    have hoe : openE raw s = (if (decOf raw s).1 ≠ 0 then (decOf raw s).1 else if (decOf raw s).2.length ≠ s.size then 19 else if sumP (decOf raw s).2 ≠ s.sum then 18 else 0) := by rw [openE]
    refine blockm_Run_spec hesz fun r pos v1 hrd f1 => ?_
    have f1 : Fr 0 0 v v1 := f1
    rw [hdec] at hrd ⊢
    generalize decOf raw s = dd at *
    generalize openE raw s = oe at *
    have gd1 := gd.fr f1 (by omega)
    have bv1 := bv.fr f1 (by omega)
    have fv1 := fv.trans f1
    have fail : ∀ (e : Nat) (u : World), openTo raw (sls.drop i) = (e, s.off) → e ≠ 0 → Fr 0 0 w u → K ⟨none, 0, 0⟩ (e : Int) (s.off : Int) u := by
      intro e u h1 h2 h3
      rw [hop, h1] at hbad
      exact hbad h2 u h3
    by_cases c1 : dd.1 = 0
    case neg =>
      rw [if_pos (by simp only [bne_iff_ne, ne_eq]; omega)]
      rw [if_pos c1] at hoe
      refine drew_ (rd gd1.drew g5 (fail _ v1.drew ?_ c1 fv1))
      rw [hod, hoe, if_pos c1]
    rw [if_neg (by simp only [bne_iff_ne, ne_eq]; omega)]
    have hr' := hrd c1
    subst hr'
    rw [if_neg (by simpa using c1)] at hoe
    refine rd gd1 g1 ?_
    rw [strOf_size]
    by_cases c2 : dd.2.length = s.size
    case neg =>
      rw [if_pos (by simp only [bne_iff_ne, ne_eq]; omega)]
      rw [if_pos c2] at hoe
      refine drew_ (rd gd1.drew g5 (fail 19 v1.drew ?_ (by omega) fv1))
      rw [hod, hoe, if_pos (by omega)]
    rw [if_neg (by simp only [bne_iff_ne, ne_eq]; omega)]
    rw [if_neg (by simpa using c2)] at hoe
    refine drew_ ?_
    refine ix ga (by omega) (by omega) ?_
    show Hold _ _ _ _
    unfold Hold
    refine ldI gd1.drew (by rw [Int.toNat_natCast, Nat.zero_add]; exact hgt g2) ?_
    refine api_Sum_spec (by rw [strOf_size]; omega) ?_
    rw [bt_strOf hdg.2]
    refine ⟨fun j hj => rfl, ?_⟩
    by_cases c3 : sumP dd.2 = s.sum
    case neg =>
      rw [if_pos (by simp only [bne_iff_ne, ne_eq]; omega)]
      rw [if_pos c3] at hoe
      refine drew_ (rd (u := v1.drew.drew) gd1.drew.drew g5 (fail 18 v1.drew.drew ?_ (by omega) fv1))
      rw [hod, hoe, if_pos (by omega)]
    rw [if_neg (by simp only [bne_iff_ne, ne_eq]; omega)]
    rw [if_neg (by simpa using c3)] at hoe
    rw [hoe, if_neg (by simp)] at hod
    refine ix ga (by omega) (by omega) (ldStr gd1.drew (by rw [Int.toNat_natCast, Nat.zero_add]; exact hgt g0) ?_)
    refine ix (b := N) (o := 0) rfl (by omega) (by omega) ?_
    have hpl : (((sls.take i).map (entOf raw)).flatMap entV).length = i * 2 := by rw [flat_length (c := 2) (fun _ => rfl)]; simp; omega
    have hj3 : 2 ≤ junk.length := by rw [hj]; omega
    refine st2 bv1.drew hpl hj3 fun v2 d2 f2 s2 => ?_
    have f2 : Fr N 1 v1 v2 := f2
    rw [W_succ (by omega)]
    refine let_ (hQ (m - 1) _ _ (by omega) ⟨i + 1, junk.drop 2, rfl, by omega, hop.trans hod, ?_, by rw [List.length_drop, hj]; omega, .inr ⟨g, ga, gb, gc, gj, gd1.fr f2 (by have := hoN g ga; omega), ge⟩, fv1.thenNew f2 (by omega)⟩)
    rw [List.take_succ_eq_append_getElem hi, List.map_append, List.flatMap_append, hse]
    rw [show ([s].map (entOf raw)).flatMap entV = entV (entOf raw s) from by simp, hent]
    exact d2
  · rw [if_neg (by simp only [decide_eq_true_eq]; omega)]
    have hj0 : junk = [] := List.eq_nil_of_length_eq_zero (by rw [hj]; omega)
    rw [hj0, List.append_nil, List.take_of_length_le (by omega)] at bv
    have hzz : (openTo raw sls).1 = 0 := by rw [hop, List.drop_of_length_le (by omega)]; rfl
    exact hK hzz _ v ⟨N, bv, rfl, by omega⟩ fv
end Go.Proofs.Qxb6500563aGreat
