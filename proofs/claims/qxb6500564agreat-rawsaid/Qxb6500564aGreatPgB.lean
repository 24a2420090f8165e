/-
  The pager's bitmap.
-/
import Derived.Test.Qxb6500564aGreatPgA
namespace Go.Proofs.Qxb6500564aGreat
open Go.Den Go.Zip
set_option linter.unusedVariables false
set_option linter.unusedSimpArgs false
variable {w w' : World} {m : Bk} {n i : Nat}

theorem And_u8 {a b : Nat} (ha : a < 256) (hb : b < 256) : And .u8 (a : Int) (b : Int) = ((a &&& b : Nat) : Int) := by
  have h : (a &&& b) < 2 ^ 8 := Nat.and_lt_two_pow _ hb
  have e : ((BitVec.ofInt 8 (a : Int) &&& BitVec.ofInt 8 (b : Int)).toNat) = a &&& b := by
    rw [ofInt_nat, ofInt_nat, BitVec.toNat_and, BitVec.toNat_ofNat, BitVec.toNat_ofNat, Nat.mod_eq_of_lt (by omega), Nat.mod_eq_of_lt (by omega)]
  show IntKind.u8.wrap (((BitVec.ofInt 8 (a : Int) &&& BitVec.ofInt 8 (b : Int)).toNat : Nat) : Int) = _
  rw [e]
  show U8 _ = _
  rw [U8_nat]
  congr 1
  exact Nat.mod_eq_of_lt h
/-- The bits of a that b has not. -/
def anb (a b : Nat) : Nat := (BitVec.ofNat 8 a &&& ~~~ BitVec.ofNat 8 b).toNat
theorem anb_lt (a b : Nat) : anb a b < 256 := (BitVec.ofNat 8 a &&& ~~~ BitVec.ofNat 8 b).isLt
theorem AndNot_u8 (a b : Nat) : AndNot .u8 (a : Int) (b : Int) = ((anb a b : Nat) : Int) := by
  show IntKind.u8.wrap (((BitVec.ofInt 8 (a : Int) &&& ~~~ BitVec.ofInt 8 (b : Int)).toNat : Nat) : Int) = _
  rw [ofInt_nat, ofInt_nat]
  show U8 _ = _
  rw [U8_nat]
  congr 1
  exact Nat.mod_eq_of_lt (anb_lt a b)
theorem anb_bit {a b k : Nat} (hk : k < 8) : (anb a b).testBit k = (a.testBit k && !b.testBit k) := by
  unfold anb
  rw [BitVec.toNat_and, Nat.testBit_and, BitVec.toNat_ofNat, Nat.testBit_mod_two_pow]
  have : (~~~ BitVec.ofNat 8 b).toNat.testBit k = !b.testBit k := by
    have h1 : (~~~ BitVec.ofNat 8 b).toNat.testBit k = (~~~ BitVec.ofNat 8 b).getLsbD k := rfl
    rw [h1, BitVec.getLsbD_not, BitVec.getLsbD_ofNat]
    simp [hk]
  rw [this]
  simp [hk]
/-- The bit of page n. -/
def usedB (m : Bk) (n : Nat) : Bool := (byteAt m (n / 8)).testBit (n % 8)
theorem mask_spec {K : Int → World → Prop} (hn : n < 1000) (hK : K (2 ^ (n % 8) : Nat) w) : S.pager_mask (n : Nat) w K := by
  unfold S.pager_mask
  have e : And .i64 ((n : Nat) : Int) 7 = ((n % 8 : Nat) : Int) := by
    have := And_nat (a := n) (b := 7) (by omega) (by omega)
    rw [and_7] at this
    exact this
  have e2 : U64 ((n % 8 : Nat) : Int) = ((n % 8 : Nat) : Int) := by
    have : n % 8 < 8 := Nat.mod_lt _ (by omega)
    show IntKind.u64.wrap _ = _
    simp only [IntKind.wrap, IntKind.bits, IntKind.signed, Bool.false_and, Bool.false_eq_true, if_false]
    omega
  rw [e, e2]
  refine ⟨by omega, ?_⟩
  have e3 : ∀ k, k < 8 → Shl .u8 1 ((k : Nat) : Int) = ((2 ^ k : Nat) : Int) := by decide
  rw [e3 _ (Nat.mod_lt _ (by omega))]
  exact hK
theorem shr3 (hn : n < 1000) : Shr .i64 ((n : Nat) : Int) 3 = ((n / 8 : Nat) : Int) := by
  simp only [Shr, IntKind.bits]
  rw [show min (3 : Int).toNat 64 = 3 from rfl, Int.fdiv_eq_ediv_of_nonneg _ (by decide)]
  norm_cast
theorem two_lt (n : Nat) : 2 ^ (n % 8) < 256 := by
  have : n % 8 < 8 := Nat.mod_lt _ (by omega)
  have h : ∀ k, k < 8 → 2 ^ k < 256 := by decide
  exact h _ this
theorem and_bit (a k : Nat) : ((a &&& 2 ^ k) ≠ 0) ↔ a.testBit k = true := by
  constructor
  · intro h
    cases hb : a.testBit k with
    | true => rfl
    | false =>
      refine absurd (Nat.eq_of_testBit_eq fun i => ?_) h
      rw [Nat.testBit_and, Nat.testBit_two_pow, Nat.zero_testBit]
      by_cases e : k = i
      · subst e; rw [hb]; rfl
      · rw [decide_eq_false e, Bool.and_false]
  · intro h e
    have : (a &&& 2 ^ k).testBit k = true := by rw [Nat.testBit_and, Nat.testBit_two_pow, h]; simp
    rw [e, Nat.zero_testBit] at this
    cases this
theorem bit_spec {K : Bool → World → Prop} (hm : m.size = 128) (hn : n < 72) (hK : K (usedB m n) w.drew) : S.pager_bit m (n : Nat) w K := by
  unfold S.pager_bit
  refine drew_ ?_
  rw [shr3 (by omega)]
  refine ixStr (m := byteAt m (n / 8)) (by omega) (by rw [Int.toNat_natCast]; exact byteAt_get (by omega)) (mask_spec (by omega) ?_)
  rw [And_u8 (byteAt_lt _ _) (two_lt n)]
  have e : ((((byteAt m (n / 8) &&& 2 ^ (n % 8) : Nat) : Int)) != 0) = usedB m n := by
    unfold usedB
    have := and_bit (byteAt m (n / 8)) (n % 8)
    cases h : (byteAt m (n / 8)).testBit (n % 8) with
    | true =>
      have := this.2 h
      simp only [bne_iff_ne, ne_eq]
      omega
    | false =>
      have h2 : ¬ (byteAt m (n / 8) &&& 2 ^ (n % 8)) ≠ 0 := fun h3 => by rw [this.1 h3] at h; cases h
      have : (byteAt m (n / 8) &&& 2 ^ (n % 8)) = 0 := Classical.not_not.1 h2
      rw [this]; rfl
  rw [e]
  exact hK
/-- A block with one byte turned. -/
def setY (m : Bk) (i v : Nat) : Bk := strOf ((bt m).set i v)
theorem setY_lt (m : Bk) {i v : Nat} (hv : v < 256) : ∀ x ∈ (bt m).set i v, x < 256 := fun x hx => (List.mem_or_eq_of_mem_set hx).elim bt_lt fun e => by rw [e]; exact hv
theorem setY_size (m : Bk) (i v : Nat) : (setY m i v).size = m.size := by unfold setY; rw [strOf_size]; simp
theorem setY_bt (m : Bk) {i v : Nat} (hv : v < 256) : bt (setY m i v) = (bt m).set i v := bt_strOf (setY_lt m hv)
theorem setY_byte {v j : Nat} (hv : v < 256) (hi : i < m.size) : byteAt (setY m i v) j = if j = i then v else byteAt m j := by
  unfold byteAt
  rw [setY_bt m hv]
  by_cases h : j = i
  · subst h
    rw [if_pos rfl, List.getD_eq_getElem?_getD, List.getElem?_set_self (by simpa using hi)]; rfl
  · rw [if_neg h, List.getD_eq_getElem?_getD, List.getElem?_set_ne (fun e => h e.symm), ← List.getD_eq_getElem?_getD]
/-- 'x[:i] + [v] + x[i+1:]'. -/
theorem joinB {v : Nat} {K : Bk → World → Prop} {ty : TypeId} (hm : m.size = 128) (hi : i < 128) (hv : v < 256) (hK : ∀ w', Fr 0 0 w w' → K (setY m i v) w') :
    CutStr m 0 (i : Nat) fun s1 => CutStr m ((i + 1 : Nat) : Int) (m.size : Int) fun s2 => New w (.cells #[.int .u8 (v : Nat)] ty) fun p w => BtS w ⟨some ⟨p, 0, none⟩, 1, 1⟩ fun s4 => CatOk s1 s4 <| CatOk (s1 ++ s4) s2 <| K ((s1 ++ s4) ++ s2) w := by
  refine cutStr (lo := 0) (hi := i) (by omega) (by omega) (cutStr (lo := i + 1) (hi := m.size) (by omega) (by omega) ?_)
  refine newB fun w1 c1 f1 s1 => ?_
  refine btS c1 (zs := [v]) rfl rfl (fun x hx => by rw [List.mem_singleton.1 hx]; exact hv) ?_
  have e1 : (strOf [v]).size = 1 := strOf_size _
  refine ⟨?_, ?_, ?_⟩
  · rw [ByteArray.size_extract, e1]; omega
  · rw [ByteArray.size_append, ByteArray.size_extract, ByteArray.size_extract, e1]; omega
  · have e : (m.extract 0 i ++ strOf [v]) ++ m.extract (i + 1) m.size = setY m i v := by
      apply bt_inj
      rw [setY_bt m hv, bt_append, bt_append, bt_extract, bt_extract, bt_strOf fun x hx => by rw [List.mem_singleton.1 hx]; exact hv]
      rw [List.drop_zero, Nat.sub_zero]
      have hl : (bt m).length = 128 := by simp [hm]
      rw [List.take_of_length_le (i := m.size - (i + 1)) (by rw [List.length_drop, hl, hm]; omega)]
      rw [List.set_eq_take_append_cons_drop, if_pos (by omega)]
      simp
    rw [e]
    exact hK w1 f1
def setB (m : Bk) (n : Nat) : Bk := setY m (n / 8) (byteAt m (n / 8) ||| 2 ^ (n % 8))
def clrB (m : Bk) (n : Nat) : Bk := setY m (n / 8) (anb (byteAt m (n / 8)) (2 ^ (n % 8)))
theorem or_lt (m : Bk) (n : Nat) : (byteAt m (n / 8) ||| 2 ^ (n % 8)) < 256 := Nat.or_lt_two_pow (n := 8) (byteAt_lt _ _) (two_lt n)
theorem setB_size (m : Bk) (n : Nat) : (setB m n).size = m.size := setY_size _ _ _
theorem clrB_size (m : Bk) (n : Nat) : (clrB m n).size = m.size := setY_size _ _ _
theorem pow_bit (a k : Nat) : (2 ^ a).testBit k = decide (a = k) := Nat.testBit_two_pow
theorem setB_used {j : Nat} (hm : m.size = 128) (hn : n < 72) : usedB (setB m n) j = (usedB m j || decide (j = n)) := by
  unfold usedB setB
  rw [setY_byte (or_lt m n) (by omega)]
  by_cases h : j / 8 = n / 8
  · rw [if_pos h, Nat.testBit_or, pow_bit, h]
    congr 1
    rw [decide_eq_decide]
    omega
  · rw [if_neg h]
    have : decide (j = n) = false := by rw [decide_eq_false_iff_not]; intro e; exact h (by rw [e])
    rw [this, Bool.or_false]
theorem clrB_used {j : Nat} (hm : m.size = 128) (hn : n < 72) : usedB (clrB m n) j = (usedB m j && !decide (j = n)) := by
  unfold usedB clrB
  rw [setY_byte (anb_lt _ _) (by omega)]
  by_cases h : j / 8 = n / 8
  · rw [if_pos h, anb_bit (Nat.mod_lt _ (by omega)), pow_bit, h]
    congr 2
    rw [decide_eq_decide]
    omega
  · rw [if_neg h]
    have : decide (j = n) = false := by rw [decide_eq_false_iff_not]; intro e; exact h (by rw [e])
    rw [this]; simp
theorem with_spec {v : Nat} {K : Bk → World → Prop} (hm : m.size = 128) (hi : i < 128) (hv : v < 256) (hK : ∀ w', Fr 0 0 w w' → K (setY m i v) w') : S.pager_with m (i : Nat) (v : Nat) w K := by
  unfold S.pager_with
  refine drew_ ?_
  rw [W_succ (by omega)]
  exact joinB (w := w.drew) hm hi hv fun w' f => hK w' f
theorem setBit_spec {K : Bk → World → Prop} (hm : m.size = 128) (hn : n < 72) (hK : ∀ w', Fr 0 0 w w' → K (setB m n) w') : S.pager_setBit m (n : Nat) w K := by
  unfold S.pager_setBit
  refine drew_ ?_
  rw [shr3 (by omega)]
  refine ixStr (m := byteAt m (n / 8)) (by omega) (by rw [Int.toNat_natCast]; exact byteAt_get (by omega)) (mask_spec (by omega) (let_ ?_))
  rw [Or_u8 (byteAt_lt _ _) (two_lt n)]
  exact with_spec hm (by omega) (or_lt m n) fun w' f => hK w' f
theorem clearBit_spec {K : Bk → World → Prop} (hm : m.size = 128) (hn : n < 72) (hK : ∀ w', Fr 0 0 w w' → K (clrB m n) w') : S.pager_clearBit m (n : Nat) w K := by
  unfold S.pager_clearBit
  refine drew_ ?_
  rw [shr3 (by omega)]
  refine ixStr (m := byteAt m (n / 8)) (by omega) (by rw [Int.toNat_natCast]; exact byteAt_get (by omega)) (mask_spec (by omega) (let_ ?_))
  rw [AndNot_u8]
  exact with_spec hm (by omega) (anb_lt _ _) fun w' f => hK w' f
theorem ones {b k : Nat} (h : b = 255) (hk : k < 8) : b.testBit k = true := by
  have : ∀ k, k < 8 → (255 : Nat).testBit k = true := by decide
  rw [h]; exact this k hk
/-- The lowest page that is free. -/
def lowC (m : Bk) (r : Nat) : Prop := (r = 0 ∧ ∀ n, 1 ≤ n → n < 72 → usedB m n = true) ∨ (1 ≤ r ∧ r < 72 ∧ usedB m r = false ∧ ∀ n, 1 ≤ n → n < r → usedB m n = true)
set_option maxHeartbeats 400000 in
theorem lowest_spec {K : Int → World → Prop} (hm : m.size = 128) (hK : ∀ r, lowC m r → K (r : Nat) w) : S.pager_lowestClear m w K := by
  unfold S.pager_lowestClear
  refine loopN (fun t st v => ∃ i : Nat, st = ((i : Int), ()) ∧ i + t = 9 ∧ v = w ∧ ∀ n, 1 ≤ n → n < 8 * i → usedB m n = true) 9 ⟨0, rfl, by omega, rfl, fun n h1 h2 => by omega⟩ ?_
  rintro t _ v ⟨i, rfl, ht, rfl, hu⟩ Q hQ
  dsimp only
  refine ifd (fun hi => ?_) fun hi => hK 0 (.inl ⟨rfl, fun n h1 h2 => hu n h1 (by omega)⟩)
  have hi : i < 9 := by omega
  rw [join_eq]
  have nx : (∀ n, 1 ≤ n → 8 * i ≤ n → n < 8 * (i + 1) → usedB m n = true) → (fun (w : World) => Let (W (((i : Nat) : Int) + 1)) fun i_3 => Q (i_3, ()) w) v := fun hx => by
    refine let_ ?_
    rw [W_succ (by omega)]
    refine hQ (t - 1) _ v (by omega) ⟨i + 1, rfl, by omega, rfl, fun n h1 h2 => ?_⟩
    rcases Nat.lt_or_ge n (8 * i) with h | h
    · exact hu n h1 h
    · exact hx n h1 h h2
  refine ixStr (m := byteAt m i) (by omega) (by rw [Int.toNat_natCast]; exact byteAt_get (by omega)) ?_
  rw [join_eq]
  have body : ∀ b : Nat, b < 256 → (∀ k, k < 8 → (8 * i + k ≠ 0) → b.testBit k = (byteAt m i).testBit k) → (i = 0 → b.testBit 0 = true) →
      (if (((b : Nat) : Int) != 255) = true then
          Let (W (((i : Nat) : Int) * 8)) fun n_7 =>
          LoopP (σ := Int × Unit) (fun st8 w next9 =>
            if (decide (st8.1 < (W ((W (((i : Nat) : Int) * 8)) + 8)))) = true then
              if (decide (st8.1 < 72)) = true then
                S.pager_mask st8.1 w (fun r10 w =>
                if ((And .u8 ((b : Nat) : Int) r10) == 0) = true then
                  K st8.1 w
                else
                  Let (W (st8.1 + 1)) fun n_11 =>
                  next9 (n_11, ()) w)
              else
                (fun (w : World) => Let (W (((i : Nat) : Int) + 1)) fun i_3 => Q (i_3, ()) w) w
            else
              (fun (w : World) => Let (W (((i : Nat) : Int) + 1)) fun i_3 => Q (i_3, ()) w) w) (n_7, ()) v
        else
          (fun (w : World) => Let (W (((i : Nat) : Int) + 1)) fun i_3 => Q (i_3, ()) w) v) := by
    intro b hb hbit h0
    have ub : ∀ k, k < 8 → 8 * i + k ≠ 0 → usedB m (8 * i + k) = b.testBit k := fun k hk hne => by
      unfold usedB
      rw [show (8 * i + k) / 8 = i by omega, show (8 * i + k) % 8 = k by omega, hbit k hk hne]
    by_cases h255 : b = 255
    · rw [if_neg (by simp only [bne_iff_ne, ne_eq]; omega)]
      refine nx fun n h1 h2 h3 => ?_
      obtain ⟨k, rfl⟩ : ∃ k, n = 8 * i + k := ⟨n - 8 * i, by omega⟩
      rw [ub k (by omega) (by omega)]
      exact ones h255 (by omega)
    · rw [if_pos (by simp only [bne_iff_ne, ne_eq]; omega)]
      have e8 : W (((i : Nat) : Int) * 8) = ((8 * i : Nat) : Int) := by rw [W_id (by omega) (by omega)]; omega
      have e16 : W (((8 * i : Nat) : Int) + 8) = ((8 * i + 8 : Nat) : Int) := by rw [W_id (by omega) (by omega)]; omega
      rw [e8, e16]
      refine let_ ?_
      refine loopN (fun s st u => ∃ k : Nat, st = (((8 * i + k : Nat) : Int), ()) ∧ k + s = 8 ∧ u = v ∧ ∀ j, j < k → b.testBit j = true) 8 ⟨0, rfl, by omega, rfl, fun j hj => by omega⟩ ?_
      rintro s _ u ⟨k, rfl, hs, rfl, hk⟩ Q2 hQ2
      dsimp only
      have done : k = 8 → (fun (w : World) => Let (W (((i : Nat) : Int) + 1)) fun i_3 => Q (i_3, ()) w) u := fun e => nx fun n h1 h2 h3 => by
        obtain ⟨j, rfl⟩ : ∃ j, n = 8 * i + j := ⟨n - 8 * i, by omega⟩
        rw [ub j (by omega) (by omega)]
        exact hk j (by omega)
      refine ifd (fun h1 => ?_) fun h1 => done (by omega)
      have hk8 : k < 8 := by omega
      refine ifd (fun h2 => ?_) fun h2 => by omega
      refine mask_spec (by omega) ?_
      rw [show (8 * i + k) % 8 = k by omega, And_u8 hb (by have h : ∀ k, k < 8 → 2 ^ k < 256 := by decide
                                                           exact h k hk8)]
      refine ifk (fun e => ?_) fun e => ?_
      · have hz : b.testBit k = false := by
          cases hb' : b.testBit k with
          | false => rfl
          | true => have := (and_bit b k).2 hb'; omega
        have hne : 8 * i + k ≠ 0 := fun e' => by
          have hi0 : i = 0 := by omega
          have hk0 : k = 0 := by omega
          rw [hk0, h0 hi0] at hz; cases hz
        refine hK (8 * i + k) (.inr ⟨by omega, by omega, by rw [ub k hk8 hne]; exact hz, fun n h3 h4 => ?_⟩)
        rcases Nat.lt_or_ge n (8 * i) with h | h
        · exact hu n h3 h
        · obtain ⟨j, rfl⟩ : ∃ j, n = 8 * i + j := ⟨n - 8 * i, by omega⟩
          rw [ub j (by omega) (by omega)]
          exact hk j (by omega)
      · refine let_ ?_
        have et : b.testBit k = true := (and_bit b k).1 fun e' => e (by omega)
        rw [W_succ (by omega)]
        refine hQ2 (s - 1) _ u (by omega) ⟨k + 1, by rw [Nat.add_assoc], by omega, rfl, fun j hj => ?_⟩
        rcases (by omega : j < k ∨ j = k) with h' | rfl
        · exact hk j h'
        · exact et
  refine ifk (fun e => ?_) fun e => ?_
  · have hi0 : i = 0 := by omega
    refine let_ ?_
    rw [show (1 : Int) = ((1 : Nat) : Int) from rfl, Or_u8 (byteAt_lt _ _) (by omega)]
    refine body _ (Nat.or_lt_two_pow (n := 8) (byteAt_lt _ _) (by decide)) (fun k hk hne => ?_) fun _ => ?_
    · rw [Nat.testBit_or, show (1 : Nat) = 2 ^ 0 from rfl, pow_bit]
      have : decide (0 = k) = false := by rw [decide_eq_false_iff_not]; omega
      rw [this, Bool.or_false]
    · rw [Nat.testBit_or]; simp
  · exact body _ (byteAt_lt _ _) (fun k hk hne => rfl) fun h => absurd h (by omega)
end Go.Proofs.Qxb6500564aGreat
