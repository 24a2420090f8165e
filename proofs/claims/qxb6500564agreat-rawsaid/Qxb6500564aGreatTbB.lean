/-
  The order-keeping codes, walked.
-/
import Derived.Test.Qxb6500564aGreatTbA
namespace Go.Proofs.Qxb6500564aGreat
open Go.Den Go.Zip
set_option linter.unusedVariables false
set_option linter.unusedSimpArgs false
variable {w w' : World} {i j n : Nat}

theorem xor63 {b : Nat} (h : b < 2 ^ 63) : 2 ^ 63 ^^^ b = 2 ^ 63 + b := by
  have e := Nat.two_pow_add_eq_or_of_lt h 1
  rw [Nat.mul_one] at e
  rw [e]
  refine Nat.eq_of_testBit_eq fun i => ?_
  rw [Nat.testBit_xor, Nat.testBit_or, Nat.testBit_two_pow]
  by_cases hi : 63 = i
  · subst hi
    rw [Nat.testBit_lt_two_pow h]
    simp
  · rw [decide_eq_false hi]; simp
theorem xor63' {m : Nat} (h : m < 2 ^ 64) : m ^^^ 2 ^ 63 = if m < 2 ^ 63 then m + 2 ^ 63 else m - 2 ^ 63 := by
  split
  · rename_i h1
    rw [Nat.xor_comm, xor63 h1, Nat.add_comm]
  · rename_i h1
    obtain ⟨b, rfl⟩ : ∃ b, m = 2 ^ 63 + b := ⟨m - 2 ^ 63, by omega⟩
    have hb : b < 2 ^ 63 := by omega
    rw [← xor63 hb, Nat.xor_comm, ← Nat.xor_assoc, Nat.xor_self, Nat.zero_xor, xor63 hb]
    omega
theorem U64_mod (x : Int) : U64 x = x % 18446744073709551616 := rfl
theorem Xor_u64 {m : Nat} (h : m < 18446744073709551616) : Xor .u64 (m : Int) 9223372036854775808 = ((m ^^^ 2 ^ 63 : Nat) : Int) := by
  have hx : (m ^^^ 2 ^ 63) < 2 ^ 64 := Nat.xor_lt_two_pow h (by decide)
  have e : ((BitVec.ofInt 64 (m : Int) ^^^ BitVec.ofInt 64 (9223372036854775808 : Int)).toNat) = m ^^^ 2 ^ 63 := by
    have e2 : (BitVec.ofInt 64 (9223372036854775808 : Int)) = BitVec.ofNat 64 9223372036854775808 := by decide
    rw [ofInt_nat, e2, BitVec.toNat_xor, BitVec.toNat_ofNat, BitVec.toNat_ofNat, Nat.mod_eq_of_lt (by omega)]
  show IntKind.u64.wrap (((BitVec.ofInt 64 (m : Int) ^^^ BitVec.ofInt 64 (9223372036854775808 : Int)).toNat : Nat) : Int) = _
  rw [e]
  show U64 _ = _
  rw [U64_mod]
  omega
theorem xorUp {x : Int} (h : I64 x) : Xor .u64 (U64 x) 9223372036854775808 = (up63 x : Nat) := by
  unfold I64 at h
  obtain ⟨m, hm⟩ : ∃ m : Nat, U64 x = (m : Int) := ⟨(U64 x).toNat, by rw [U64_mod]; omega⟩
  have hlt : m < 18446744073709551616 := by rw [U64_mod] at hm; omega
  rw [hm, Xor_u64 hlt, xor63' hlt]
  rw [U64_mod] at hm
  unfold up63
  split <;> omega
theorem W_hi {x : Int} (h0 : 9223372036854775808 ≤ x) (h1 : x < 18446744073709551616) : W x = x - 18446744073709551616 := by
  simp only [W, IntKind.wrap, IntKind.bits, IntKind.signed, Bool.true_and, ge_iff_le, decide_eq_true_eq]
  split <;> omega
theorem Shr_u64 {m : Nat} : Shr .u64 (m : Int) 8 = ((m / 256 : Nat) : Int) := by
  simp only [Shr, IntKind.bits]
  rw [show min (8 : Int).toNat 64 = 8 from rfl, Int.fdiv_eq_ediv_of_nonneg _ (by decide)]
  norm_cast
theorem U8_low (m : Nat) : U8 (m : Int) = ((m % 256 : Nat) : Int) := U8_nat m
set_option maxHeartbeats 1000000 in
theorem codeInt_spec {x : Int} {K : ByteArray → World → Prop} (h : I64 x) (hK : ∀ w', Fr 0 0 w w' → K (codeI x) w') : S.table_codeInt x w K := by
  unfold S.table_codeInt
  rw [xorUp h]
  refine let_ (mkS (by omega) (by omega) (by omega) (by omega) fun w1 c1 f1 s1 => ?_)
  rw [show (8 : Int).toNat = 8 from rfl, reps_byts] at c1
  rw [show (8 : Int).toNat = 8 from rfl]
  refine join_W (fun u => Blk u w.heap.size (byts (be 8 (up63 x))) ∧ Fr 0 0 w u) ?_ ?_
  · rintro u ⟨cu, fu⟩
    exact btS cu (zs := be 8 (up63 x)) (by rw [List.drop_zero, List.take_of_length_le (by simp [byts, be_len])]) (be_len _ _) (be_lt _ _) (hK u fu)
  · intro J hJ
    refine loopN (fun m st u => ∃ t : Nat, st = (((up63 x / 256 ^ t : Nat) : Int), 7 - (t : Int), ()) ∧ t + m = 8 ∧ Blk u w.heap.size (byts (List.replicate (8 - t) 0 ++ be t (up63 x))) ∧ Fr 0 0 w u) 8
      ⟨0, by simp, by omega, by simpa [be] using c1, f1⟩ ?_
    rintro m _ u ⟨t, rfl, hm, cu, fu⟩ Q hQ
    dsimp only
    refine ifd (fun h1 => ?_) fun h1 => hJ _ ⟨by rw [show t = 8 by omega] at cu; simpa using cu, fu⟩
    have e7 : (7 : Int) - (t : Int) = ((7 - t : Nat) : Int) := by omega
    rw [e7]
    refine ixF (by omega) (stU (m := up63 x / 256 ^ t % 256) cu (by rw [Int.toNat_natCast]; simp [be_len]; omega) (U8_low _) fun u1 cu1 g1 _ => let_ (let_ ?_))
    rw [Int.toNat_natCast] at cu1
    rw [Shr_u64, W_id (by omega) (by omega)]
    refine hQ (m - 1) _ _ (by omega) ⟨t + 1, ?_, by omega, ?_, fu.thenNew g1 (Nat.le_refl _)⟩
    · rw [Nat.pow_succ, ← Nat.div_div_eq_div_mul]
      congr 2
      omega
    · have : (List.replicate (8 - t) 0 ++ be t (up63 x)).set (7 - t) (up63 x / 256 ^ t % 256) = List.replicate (8 - (t + 1)) 0 ++ be (t + 1) (up63 x) := by
        rw [show 8 - t = (7 - t) + 1 by omega, List.replicate_succ', List.append_assoc, List.set_append, if_neg (by simp)]
        simp [be]
      rw [← this]
      exact cu1
theorem Or_u64 {u c : Nat} (hu : u < 2 ^ 56) (hc : c < 256) : Or .u64 (Shl .u64 (u : Int) 8) (U64 (c : Int)) = ((u * 256 + c : Nat) : Int) := by
  have e1 : Shl .u64 (u : Int) 8 = ((u * 256 : Nat) : Int) := by
    show IntKind.u64.wrap ((u : Int) * 2 ^ (min (8 : Int).toNat 64)) = _
    rw [show (2 : Int) ^ (min (8 : Int).toNat 64) = 256 from rfl]
    show U64 _ = _
    rw [U64_mod]
    omega
  have e2 : U64 (c : Int) = (c : Int) := by rw [U64_mod]; omega
  rw [e1, e2]
  have e : ((BitVec.ofInt 64 ((u * 256 : Nat) : Int) ||| BitVec.ofInt 64 (c : Int)).toNat) = u * 256 + c := by
    rw [ofInt_nat, ofInt_nat, BitVec.toNat_or, BitVec.toNat_ofNat, BitVec.toNat_ofNat, Nat.mod_eq_of_lt (by omega), Nat.mod_eq_of_lt (by omega)]
    have := Nat.two_pow_add_eq_or_of_lt (i := 8) (b := c) (by omega) u
    rw [show u * 256 = 2 ^ 8 * u by omega, ← this]
  show IntKind.u64.wrap (((BitVec.ofInt 64 ((u * 256 : Nat) : Int) ||| BitVec.ofInt 64 (c : Int)).toNat : Nat) : Int) = _
  rw [e]
  show U64 _ = _
  rw [U64_mod]
  omega
theorem fold_lt : ∀ (l : List Nat) (u : Nat), (∀ x ∈ l, x < 256) → l.foldl (fun u c => u * 256 + c) u < (u + 1) * 256 ^ l.length
  | [], u, _ => by simp
  | c :: l, u, h => by
    have h1 := fold_lt l (u * 256 + c) fun x hx => h x (by simp [hx])
    have h2 := h c (by simp)
    rw [List.foldl_cons, List.length_cons, Nat.pow_succ, Nat.mul_comm (256 ^ l.length), ← Nat.mul_assoc]
    have h3 : (u * 256 + c + 1) * 256 ^ l.length ≤ ((u + 1) * 256) * 256 ^ l.length := Nat.mul_le_mul_right _ (by omega)
    omega
theorem vb_lt {l : List Nat} (h : ∀ x ∈ l, x < 256) : vb l < 256 ^ l.length := by
  have := fold_lt l 0 h
  rw [Nat.zero_add, Nat.one_mul] at this
  exact this
/-- What intOf answers of eight bytes. -/
def intP (c : ByteArray) : Int := (vb (bt c) : Int) - 9223372036854775808
theorem intP_code {x : Int} (h : I64 x) : intP (codeI x) = x := by
  unfold intP
  rw [codeI_bt, vb_be, Nat.mod_eq_of_lt (up63_lt h)]
  unfold up63 I64 at *
  omega
set_option maxRecDepth 100000 in
set_option maxHeartbeats 1000000 in
theorem intOf_spec {c : ByteArray} {K : Int → Bool → World → Prop} (hc : c.size = 8) (hK : K (intP c) true w) : S.table_intOf c w K := by
  unfold S.table_intOf
  rw [if_neg (by simp [hc])]
  have hl : (bt c).length = 8 := by rw [bt_len, hc]
  refine join_P (fun x u => x = ((vb (bt c) : Nat) : Int) ∧ w = u) ?_ ?_
  · rintro _ _ ⟨rfl, rfl⟩
    have hlt : vb (bt c) < 2 ^ 64 := by
      have := vb_lt (l := bt c) fun x hx => bt_lt hx
      rw [hl] at this
      exact this
    rw [Xor_u64 (by omega), xor63' hlt]
    have e : W (((if vb (bt c) < 2 ^ 63 then vb (bt c) + 2 ^ 63 else vb (bt c) - 2 ^ 63 : Nat)) : Int) = intP c := by
      unfold intP
      split
      · rw [W_hi (by omega) (by omega)]; omega
      · rw [W_id (by omega) (by omega)]; omega
    rw [e]
    exact hK
  · intro J hJ
    refine loopN (fun m st u => ∃ t : Nat, st = (((vb ((bt c).take t) : Nat) : Int), (t : Int), ()) ∧ t + m = 8 ∧ w = u) 8 ⟨0, rfl, by omega, rfl⟩ ?_
    rintro m _ u ⟨t, rfl, hm, rfl⟩ Q hQ
    dsimp only
    refine ifd (fun h1 => ?_) fun h1 => hJ _ _ ⟨by rw [List.take_of_length_le (by omega)], rfl⟩
    obtain ⟨b, hb⟩ : ∃ b, (bt c)[t]? = some b := ⟨_, List.getElem?_eq_getElem (by omega)⟩
    have hb256 := bt_get_lt hb
    refine ixB hb (let_ (let_ ?_))
    have hv : vb ((bt c).take t) < 2 ^ 56 := by
      have := vb_lt (l := (bt c).take t) fun x hx => bt_lt (List.mem_of_mem_take hx)
      rw [List.length_take, Nat.min_eq_left (by omega)] at this
      have h2 : 256 ^ t ≤ 256 ^ 7 := Nat.pow_le_pow_right (by omega) (by omega)
      omega
    rw [Or_u64 hv hb256, W_succ (by omega)]
    refine hQ (m - 1) _ _ (by omega) ⟨t + 1, ?_, by omega, rfl⟩
    rw [List.take_add_one, hb, Option.toList_some, vb_snoc]
set_option maxHeartbeats 1000000 in
theorem pad_spec {s : ByteArray} {K : ByteArray → World → Prop} (hs : s.size ≤ n) (hn : n < 200) (hK : ∀ w', Fr 0 0 w w' → K (padB s n) w') : S.table_pad s (n : Int) w K := by
  unfold S.table_pad
  rw [W_succ (by omega)]
  refine mkS (by omega) (by omega) (by omega) (by omega) fun w1 c1 f1 s1 => ?_
  rw [Int.toNat_natCast, reps_byts] at c1
  rw [Int.toNat_natCast]
  refine join_W (fun u => Blk u w.heap.size (byts ((bt s ++ List.replicate (n - s.size) 0) ++ [0])) ∧ Fr 0 0 w u) ?_ ?_
  · rintro u ⟨cu, fu⟩
    refine ixF (by show n < n + 1; omega) (stU (m := s.size) cu (by rw [Int.toNat_natCast]; simp; omega) (by rw [U8_nat, Nat.mod_eq_of_lt (by omega)]) fun u1 cu1 g1 _ => ?_)
    rw [Int.toNat_natCast] at cu1
    have e : ((bt s ++ List.replicate (n - s.size) 0) ++ [0]).set n s.size = padL (bt s) n := by
      have hl : (bt s ++ List.replicate (n - s.size) 0).length = n := by simp; omega
      rw [List.set_append, if_neg (by omega), hl, Nat.sub_self]
      unfold padL
      rw [bt_len]
      rfl
    rw [e] at cu1
    exact btS cu1 (zs := padL (bt s) n) (by rw [List.drop_zero, List.take_of_length_le (by simp [byts, padL_len (s := bt s) (n := n) (by rw [bt_len]; exact hs)])]) (padL_len (by rw [bt_len]; exact hs)) (padL_lt hs (by omega)) (hK u1 (fu.thenNew g1 (Nat.le_refl _)))
  · intro J hJ
    refine loopN (fun m st u => ∃ t : Nat, st = ((t : Int), ()) ∧ t + m = s.size ∧ Blk u w.heap.size (byts ((bt s).take t ++ List.replicate (n + 1 - t) 0)) ∧ Fr 0 0 w u) s.size
      ⟨0, rfl, by omega, by simpa using c1, f1⟩ ?_
    rintro m _ u ⟨t, rfl, hm, cu, fu⟩ Q hQ
    dsimp only
    have fin : t = s.size → J u := fun e => hJ _ ⟨by
      rw [e, List.take_of_length_le (by rw [bt_len]; omega)] at cu
      rw [List.append_assoc, ← List.replicate_succ', show n - s.size + 1 = n + 1 - s.size by omega]
      exact cu, fu⟩
    refine ifd (fun h1 => ?_) fun h1 => fin (by omega)
    refine ifd (fun h2 => ?_) fun h2 => by omega
    have hl : (bt s).length = s.size := bt_len s
    obtain ⟨b, hb⟩ : ∃ b, (bt s)[t]? = some b := ⟨_, List.getElem?_eq_getElem (by omega)⟩
    refine ixB hb (ixF (by show t < n + 1; omega) (stU (m := b) cu (by rw [Int.toNat_natCast]; simp; omega) rfl fun u1 cu1 g1 _ => let_ ?_))
    rw [Int.toNat_natCast] at cu1
    rw [W_succ (by omega)]
    refine hQ (m - 1) _ _ (by omega) ⟨t + 1, rfl, by omega, ?_, fu.thenNew g1 (Nat.le_refl _)⟩
    have e : ((bt s).take t ++ List.replicate (n + 1 - t) 0).set t b = (bt s).take (t + 1) ++ List.replicate (n + 1 - (t + 1)) 0 := by
      rw [List.set_append, if_neg (by rw [List.length_take]; omega), List.length_take, Nat.min_eq_left (by omega), Nat.sub_self, show n + 1 - t = (n + 1 - (t + 1)) + 1 by omega, List.replicate_succ, List.set_cons_zero, List.take_add_one, hb, Option.toList_some, List.append_assoc]
      rfl
    rw [e] at cu1
    exact cu1
end Go.Proofs.Qxb6500564aGreat
