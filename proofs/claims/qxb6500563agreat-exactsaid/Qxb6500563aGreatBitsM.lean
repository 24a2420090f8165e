/-
  The model's tape of bits: its contracts.
-/
import Derived.Test.Qxb6500563aGreatBits
import Derived.Test.Qxb6500563aGreatGrow
namespace Go.Proofs.Qxb6500563aGreat
open Go.Den Go.Zip
set_option linter.unusedVariables false
set_option linter.unusedSimpArgs false

def bitv (b : Bool) : Value := .int .u8 (if b then 1 else 0)
/-- The model's tape: its record at p, its bits in block g. -/
structure MTape (w : World) (p g : Nat) (bits : List Bool) (at_ : Nat) : Prop where
  sl : ∃ s : Sl, Blk w p [.slice s.a s.l s.c, .int .i64 at_] ∧ GS w s g (bits.map bitv) 1
  ne : p ≠ g
  len : bits.length ≤ 4096
  cur : at_ ≤ bits.length

variable {w w' : World} {p g : Nat} {bits : List Bool} {at_ : Nat}
theorem MTape.fr2 {x y : Nat} (h : MTape w p g bits at_) (f : Fr2 x y w w') (h1 : p ≠ x) (h2 : p ≠ y) (h3 : g ≠ x) (h4 : g ≠ y) : MTape w' p g bits at_ := by
  obtain ⟨⟨s, hb, hg⟩, ne, len, cur⟩ := h
  exact ⟨⟨s, hb.fr2 f h1 h2, hg.fr2 f h3 h4⟩, ne, len, cur⟩
theorem MTape.ext (h : MTape w p g bits at_) (f : Fr 0 0 w w') : MTape w' p g bits at_ := by
  obtain ⟨⟨s, hb, hg⟩, ne, len, cur⟩ := h
  exact ⟨⟨s, hb.fr f (by omega), hg.fr f (by omega)⟩, ne, len, cur⟩
theorem MTape.drew (h : MTape w p g bits at_) : MTape w.drew p g bits at_ := ⟨h.sl, h.ne, h.len, h.cur⟩
theorem MTape.lt (h : MTape w p g bits at_) : p < w.heap.size := by obtain ⟨⟨s, hb, _⟩, _⟩ := h; exact hb.lt

theorem bitsm_New_spec {K : Nat → World → Prop} (hK : ∀ w', MTape w' w.heap.size (w.heap.size + 1) [] 0 → Fr 0 0 w w' → w'.heap.size = w.heap.size + 1 → K w.heap.size w') : S.bitsm_New w K := by
  unfold S.bitsm_New
  refine newB fun w1 b1 f1 s1 => ?_
  exact hK w1 ⟨⟨⟨none, 0, 0⟩, b1, GS.nil _ _ _⟩, by omega, by simp, by simp⟩ f1 s1

/-- One bit joins: the step of Put's and Pad's loops. -/
theorem joinBit {s : Sl} {v : Int} {b : Bool} {K : World → Prop} (hr : Blk w p [.slice s.a s.l s.c, .int .i64 at_]) (hg : GS w s g (bits.map bitv) 1) (ne : p ≠ g) (hl : bits.length < 4096) (hv : Value.int .u8 v = bitv b)
    (hK : ∀ w' g', MTape w' p g' (bits ++ [b]) at_ ∨ at_ > bits.length → (∃ s : Sl, Blk w' p [.slice s.a s.l s.c, .int .i64 at_] ∧ GS w' s g' ((bits ++ [b]).map bitv) 1) → p ≠ g' → (g' = g ∨ w.heap.size ≤ g') → Fr2 p g w w' → K w') :
    New w (.cells #[.int .u8 v] 5) fun p5 w =>
      AppS 5 [.int .u8 0] 1 1 w ⟨s.a, s.l, s.c⟩ ⟨some ⟨p5, 0, none⟩, 1, 1⟩ fun l6 w =>
      St1 w ⟨p, 0, none⟩ (.slice l6.a l6.l l6.c) K := by
  refine newB fun w1 b1 f1 s1 => ?_
  have hlen := hg.len
  have hpl := hr.lt
  simp only [List.length_map, Nat.mul_one] at hlen
  have hg1 := hg.fr f1 (by omega)
  have hr1 := hr.fr f1 (by omega)
  refine appS (new := [bitv b]) hg1 (by rw [← hv]; simpa using b1) rfl (by omega) (by cases b <;> rfl) rfl (by show (s.l + 1) * 1 ≤ _; omega) fun s' w2 g' hg2 hl2 hgg hgl ha f2 => ?_
  have hne : p ≠ g' := by omega
  have hr2 := hr1.fr2 f2 ne ne
  refine st1 hr2 (by simp) fun w3 r3 f3 s3 => ?_
  have hg3 := hg2.fr f3 (by omega)
  have hmap : bits.map bitv ++ [bitv b] = (bits ++ [b]).map bitv := by simp
  rw [hmap] at hg3
  refine hK w3 g' ?_ ⟨s', r3, hg3⟩ hne (by omega) ?_
  · by_cases hc : at_ ≤ bits.length
    · exact .inl ⟨⟨s', r3, hg3⟩, hne, by simp; omega, by simp; omega⟩
    · exact .inr (by omega)
  · exact ((Fr2.of f1 p g).trans ⟨f2.1, fun b hb h1 h2 => f2.2 b hb h2 h2⟩).trans ⟨f3.1, fun b hb h1 h2 => f3.2 b hb (by omega)⟩

theorem bitsm_Put_spec {v k : Nat} {K : Int → World → Prop} (h : MTape w p g bits at_) (hv : v < 2 ^ k) (hk : k ≤ 16) (hl : bits.length + k ≤ 4096)
    (hK : ∀ w' g', MTape w' p g' (bits ++ bitsOf v k) at_ → (g' = g ∨ w.heap.size ≤ g') → Fr2 p g w w' → K 0 w') : S.bitsm_Tape_Put p (v : Int) (k : Int) w K := by
  have hv16 : v < 65536 := Nat.lt_of_lt_of_le hv (by have := Nat.pow_le_pow_right (n := 2) (by omega) hk; simpa using this)
  unfold S.bitsm_Tape_Put
  rw [if_neg (by simp), if_neg (by simp; omega), if_neg (by simp), U64_id (by omega) (by omega), Shr_nat _ _ (by omega)]
  refine ⟨by omega, ?_⟩
  rw [if_neg (by simp [Nat.div_eq_of_lt hv])]
  obtain ⟨⟨s0, hr0, hg0⟩, ne, hn, ha⟩ := id h
  have hlen0 := hg0.len
  simp only [List.length_map, Nat.mul_one] at hlen0
  refine ldS hr0 rfl ?_
  rw [if_neg (by simp only [decide_eq_true_eq]; rw [W_id (by omega) (by omega)]; omega)]
  refine loopP (fun s w1 => ∃ (j : Nat) (g1 : Nat), s = ((j : Int), ()) ∧ j ≤ k ∧ MTape w1 p g1 (bits ++ (bitsOf v k).take j) at_ ∧ (g1 = g ∨ w.heap.size ≤ g1) ∧ Fr2 p g w w1) (fun s _ => k - s.1.toNat)
    ⟨0, g, rfl, by omega, by simpa using h, .inl rfl, Fr2.refl _ _ _⟩ ?_
  rintro _ w1 ⟨j, g1, rfl, hj, h1, hg1, f1⟩
  dsimp only
  by_cases hlt : j < k
  · rw [if_pos (by simp; omega)]
    obtain ⟨⟨s1, hr1, hgs1⟩, ne1, hn1, ha1⟩ := h1
    refine ldS hr1 rfl ?_
    rw [U64_id (by omega) (by omega), Shr_nat _ _ (by omega)]
    refine ⟨by omega, ?_⟩
    have hdv : v / 2 ^ j < 65536 := Nat.lt_of_le_of_lt (Nat.div_le_self _ _) hv16
    rw [show And .i64 ((v / 2 ^ j : Nat) : Int) 1 = ((v / 2 ^ j % 2 : Nat) : Int) from by
      rw [show ((v / 2 ^ j % 2 : Nat)) = v / 2 ^ j &&& (2 ^ 1 - 1) from by rw [and_mask]]; exact_mod_cast And_nat (a := v / 2 ^ j) (b := 1) (by omega) (by omega)]
    have hb : Value.int .u8 (U8 ((v / 2 ^ j % 2 : Nat) : Int)) = bitv (v.testBit j) := by
      rw [U8_nat]
      have : v.testBit j = decide (v / 2 ^ j % 2 = 1) := by rw [Nat.testBit_eq_decide_div_mod_eq]
      rw [this, bitv]
      congr 1
      rcases Nat.mod_two_eq_zero_or_one (v / 2 ^ j) with h2 | h2 <;> rw [h2] <;> rfl
    have hlb : (bits ++ (bitsOf v k).take j).length < 4096 := by simp; omega
    refine joinBit hr1 hgs1 ne1 hlb hb fun w2 g2 hor ⟨s2, hr2, hgs2⟩ hne2 hgg f2 => ?_
    have hsz := f1.1
    have htake : bits ++ (bitsOf v k).take j ++ [v.testBit j] = bits ++ (bitsOf v k).take (j + 1) := by
      rw [List.append_assoc, List.take_succ_eq_append_getElem (by simpa using hlt)]
      congr 2
      simp [bitsOf]
    rw [htake] at hgs2
    rw [show W ((j : Int) + 1) = ((j + 1 : Nat) : Int) from by rw [W_id (by omega) (by omega)]; omega]
    refine let_ ⟨⟨j + 1, g2, rfl, by omega, ⟨⟨s2, hr2, hgs2⟩, hne2, by simp; omega, by simp; omega⟩, by omega, f1.trans' f2 hg1⟩, by simp; omega⟩
  · rw [if_neg (by simp; omega)]
    have : j = k := by omega
    subst this
    rw [List.take_of_length_le (by simp)] at h1
    exact hK w1 g1 h1 hg1 f1

theorem bitsm_Pad_spec {K : World → Prop} (h : MTape w p g bits at_)
    (hK : ∀ w' g', MTape w' p g' (bits ++ List.replicate ((bits.length + 7) / 8 * 8 - bits.length) false) at_ → (g' = g ∨ w.heap.size ≤ g') → Fr2 p g w w' → K w') : S.bitsm_Tape_Pad p w K := by
  unfold S.bitsm_Tape_Pad
  have hn0 := h.len
  have hc0 := h.cur
  refine loopP (fun _ w1 => ∃ (j : Nat) (g1 : Nat), j ≤ (bits.length + 7) / 8 * 8 - bits.length ∧ MTape w1 p g1 (bits ++ List.replicate j false) at_ ∧ (g1 = g ∨ w.heap.size ≤ g1) ∧ Fr2 p g w w1)
    (fun _ w1 => match w1.cell? ⟨p, 0, none⟩ with | some (.slice _ l _) => 5000 - l | _ => 0) ⟨0, g, by omega, by simpa using h, .inl rfl, Fr2.refl _ _ _⟩ ?_
  rintro _ w1 ⟨j, g1, hj, h1, hg1, f1⟩
  obtain ⟨⟨s1, hr1, hgs1⟩, ne1, hn1, ha1⟩ := h1
  have hlen1 := hgs1.len
  simp only [List.length_map, Nat.mul_one, List.length_append, List.length_replicate] at hlen1
  refine ldS hr1 rfl ?_
  dsimp only
  by_cases hlt : j < (bits.length + 7) / 8 * 8 - bits.length
  · have hm : ((Int.tmod (s1.l : Int) 8) != 0) = true := by
      rw [← hlen1]
      simp only [bne_iff_ne, ne_eq]
      rw [Int.tmod_eq_emod_of_nonneg (by omega)]
      omega
    rw [if_pos hm]
    refine ldS hr1 rfl ?_
    refine joinBit (b := false) hr1 hgs1 ne1 (by simp; omega) rfl fun w2 g2 hor ⟨s2, hr2, hgs2⟩ hne2 hgg f2 => ?_
    have hsz := f1.1
    have hlen2 := hgs2.len
    rw [List.append_assoc, ← List.replicate_succ'] at hgs2
    refine ⟨⟨j + 1, g2, by omega, ⟨⟨s2, hr2, hgs2⟩, hne2, by simp; omega, by simp; omega⟩, by omega, f1.trans' f2 hg1⟩, ?_⟩
    rw [hr1.cell, hr2.cell]
    simp at hlen2 ⊢
    omega
  · have hm : ((Int.tmod (s1.l : Int) 8) != 0) = false := by
      rw [← hlen1]
      simp only [bne_eq_false_iff_eq]
      rw [Int.tmod_eq_emod_of_nonneg (by omega)]
      omega
    rw [if_neg (by rw [hm]; simp)]
    have : j = (bits.length + 7) / 8 * 8 - bits.length := by omega
    rw [← this] at hK
    exact hK w1 g1 ⟨⟨s1, hr1, hgs1⟩, ne1, hn1, ha1⟩ hg1 f1

theorem bitv_get {bits : List Bool} {i : Nat} {b : Bool} (h : bits[i]? = some b) : (bits.map bitv)[i]? = some (bitv b) := by simp [h]
/-- Bit i of the tape. -/
theorem ldBit {s : Sl} {i : Int} {b : Bool} {K : Int → Prop} (hg : GS w s g (bits.map bitv) 1) (h0 : 0 ≤ i) (hb : bits[i.toNat]? = some b) (hK : K (if b then 1 else 0)) :
    Ix s.a s.l i fun b10 o11 => LdI .u8 w ⟨b10, o11 + Int.toNat i * 1, none⟩ K := by
  have hlt : i.toNat < bits.length := by
    rcases Nat.lt_or_ge i.toNat bits.length with h | h
    · exact h
    · simp [h] at hb
  have hlen := hg.len
  simp only [List.length_map, Nat.mul_one] at hlen
  obtain ⟨ha, junk, hblk⟩ := hg.blk (by intro h; simp at h; simp [h] at hlt)
  refine ix ha h0 (by omega) ?_
  refine ldI hblk (k := .u8) ?_ hK
  rw [Nat.zero_add, Nat.mul_one, List.getElem?_append_left (by simpa using hlt), bitv_get hb]
  rfl

theorem ofBits_append (l m : List Bool) : ofBits (l ++ m) = ofBits l + 2 ^ l.length * ofBits m := by
  induction l with
  | nil => simp [ofBits]
  | cons b l ih =>
    simp only [List.cons_append, ofBits, ih, List.length_cons, Nat.pow_succ]
    rw [Nat.mul_add, Nat.mul_comm (2 ^ l.length) 2, Nat.mul_assoc]
    omega
theorem ofBits_or (l : List Bool) (b : Bool) : ofBits l ||| (b.toNat * 2 ^ l.length) = ofBits (l ++ [b]) := by
  apply Nat.eq_of_testBit_eq
  intro t
  rw [Nat.testBit_or, ofBits_testBit, ofBits_testBit, Nat.mul_comm, Nat.testBit_two_pow_mul]
  rcases Nat.lt_trichotomy t l.length with h | h | h
  · have : ¬ (l.length ≤ t) := by omega
    rw [List.getElem?_append_left h]; simp [this]
  · subst h
    cases b <;> simp
  · rw [List.getElem?_eq_none (by omega), List.getElem?_eq_none (by simp; omega)]
    have : b.toNat.testBit (t - l.length) = false := Nat.testBit_lt_two_pow (Nat.lt_of_le_of_lt (Bool.toNat_le b) (by have := Nat.pow_le_pow_right (n := 2) (by omega) (show 1 ≤ t - l.length by omega); omega))
    simp [this]

theorem bitsm_Peek_spec {k : Nat} {K : Int → Int → World → Prop} (h : MTape w p g bits at_) (hk : k ≤ 16)
    (hK : ∀ (n : Nat) w', n = min k (bits.length - at_) → MTape w' p g bits at_ → Fr 0 0 w w' → K (ofBits ((bits.drop at_).take k)) (n : Int) w') : S.bitsm_Tape_Peek p (k : Int) w K := by
  unfold S.bitsm_Tape_Peek
  rw [if_neg (by simp), if_neg (by simp; omega)]
  refine join_ ?_
  have hn0 := h.len
  have hc0 := h.cur
  refine loopP (fun s w1 => ∃ (j : Nat), s = (((ofBits ((bits.drop at_).take j) : Nat) : Int), (j : Int), ()) ∧ j ≤ min k (bits.length - at_) ∧ MTape w1 p g bits at_ ∧ Fr 0 0 w w1) (fun s _ => k - s.2.1.toNat)
    ⟨0, by simp [ofBits], by omega, h, Fr.refl _ _ _⟩ ?_
  rintro _ w1 ⟨j, rfl, hj, h1, f1⟩
  obtain ⟨⟨s1, hr1, hgs1⟩, ne1, hn1, ha1⟩ := id h1
  have hlen1 := hgs1.len
  simp only [List.length_map, Nat.mul_one] at hlen1
  refine drew_ ?_
  dsimp only
  have fin : ∀ w2 : World, MTape w2 p g bits at_ → Fr 0 0 w w2 → j = min k (bits.length - at_) → K (ofBits ((bits.drop at_).take j)) (j : Int) w2 := fun w2 h2 f2 e => by
    have e2 : (bits.drop at_).take j = (bits.drop at_).take k := by rw [e, List.take_eq_take_iff]; simp
    rw [e2]
    exact hK j w2 e h2 f2
  by_cases hlt : j < k
  · rw [if_pos (by simp; omega)]
    refine ldI hr1.drew rfl (ldS hr1.drew rfl ?_)
    rw [W_id (by omega) (by omega)]
    by_cases hlt2 : at_ + j < bits.length
    · rw [if_pos (by simp only [decide_eq_true_eq]; omega)]
      refine drew_ ?_
      refine ldS hr1.drew.drew rfl (ldI hr1.drew.drew rfl ?_)
      rw [W_id (by omega) (by omega)]
      have hb : bits[((at_ : Int) + (j : Int)).toNat]? = some bits[at_ + j] := by
        rw [show ((at_ : Int) + (j : Int)).toNat = at_ + j from by omega]; simp [hlt2]
      refine ldBit (s := ⟨s1.a, s1.l, s1.c⟩) hgs1.drew.drew (by omega) hb ?_
      rw [U64_id (by omega) (by omega)]
      refine ⟨by omega, ?_⟩
      have hp : 2 ^ j ≤ 32768 := by have := Nat.pow_le_pow_right (n := 2) (by omega) (show j ≤ 15 by omega); simpa using this
      have hx : W (if bits[at_ + j] = true then 1 else 0 : Int) = ((bits[at_ + j]).toNat : Int) := by cases bits[at_ + j] <;> rfl
      have hbl := Bool.toNat_le bits[at_ + j]
      have hmul : (bits[at_ + j]).toNat * 2 ^ j ≤ 32768 := by have := Nat.mul_le_mul hbl hp; omega
      have hol := ofBits_lt ((bits.drop at_).take j)
      have hol2 : 2 ^ ((bits.drop at_).take j).length ≤ 65536 := by
        have := Nat.pow_le_pow_right (n := 2) (by omega) (show ((bits.drop at_).take j).length ≤ 16 by simp; omega)
        simpa using this
      rw [hx, Shl_nat _ _ (by omega) (by omega), Or_nat (by omega) (by omega)]
      have hl : ((bits.drop at_).take j).length = j := by simp; omega
      have hst : (bits.drop at_).take (j + 1) = (bits.drop at_).take j ++ [bits[at_ + j]] := by
        rw [List.take_succ_eq_append_getElem (by simp; omega)]
        simp
      have := ofBits_or ((bits.drop at_).take j) bits[at_ + j]
      rw [hl] at this
      rw [this, ← hst]
      refine let_ ?_
      rw [show W ((j : Int) + 1) = ((j + 1 : Nat) : Int) from by rw [W_id (by omega) (by omega)]; omega]
      exact let_ ⟨⟨j + 1, rfl, by omega, h1.drew.drew, f1⟩, by simp; omega⟩
    · rw [if_neg (by simp only [decide_eq_true_eq]; omega)]
      exact fin _ h1.drew f1 (by omega)
  · rw [if_neg (by simp; omega)]
    exact fin _ h1.drew f1 (by omega)

theorem bitsm_Skip_spec {k : Nat} {K : Int → World → Prop} (h : MTape w p g bits at_) (hk : k ≤ 16)
    (hend : bits.length < at_ + k → ∀ w', MTape w' p g bits at_ → Fr 0 0 w w' → K 4 w')
    (hK : at_ + k ≤ bits.length → ∀ w', MTape w' p g bits (at_ + k) → Fr p 1 w w' → K 0 w') : S.bitsm_Tape_Skip p (k : Int) w K := by
  unfold S.bitsm_Tape_Skip
  rw [if_neg (by simp), if_neg (by simp; omega)]
  obtain ⟨⟨s1, hr1, hgs1⟩, ne1, hn1, ha1⟩ := id h
  have hlen1 := hgs1.len
  simp only [List.length_map, Nat.mul_one] at hlen1
  refine drew_ (ldI hr1.drew rfl (ldS hr1.drew rfl ?_))
  dsimp only
  rw [W_id (by omega) (by omega)]
  by_cases hl : at_ + k ≤ bits.length
  · rw [if_neg (by simp only [decide_eq_true_eq]; omega)]
    refine ldI hr1.drew rfl ?_
    refine st1 hr1.drew (by simp) fun w2 r2 f2 s2 => ?_
    rw [W_id (by omega) (by omega)] at r2
    exact hK hl w2 ⟨⟨s1, by simpa using r2, hgs1.drew.fr f2 (by omega)⟩, ne1, hn1, hl⟩ f2
  · rw [if_pos (by simp only [decide_eq_true_eq]; omega)]
    exact hend (by omega) _ h.drew (Fr.refl 0 0 w)

theorem bitsm_Take_spec {k : Nat} {K : Int → Int → World → Prop} (h : MTape w p g bits at_) (hk : k ≤ 16)
    (hend : bits.length < at_ + k → ∀ w', MTape w' p g bits at_ → Fr 0 0 w w' → K 0 4 w')
    (hK : at_ + k ≤ bits.length → ∀ w', MTape w' p g bits (at_ + k) → Fr p 1 w w' → K (ofBits ((bits.drop at_).take k)) 0 w') : S.bitsm_Tape_Take p (k : Int) w K := by
  unfold S.bitsm_Tape_Take
  refine bitsm_Peek_spec h hk fun n w1 hn h1 f1 => ?_
  refine bitsm_Skip_spec h1 hk (fun hl w2 h2 f2 => ?_) (fun hl w2 h2 f2 => ?_)
  · rw [if_pos (by decide)]
    exact hend hl w2 h2 (f1.trans f2)
  · rw [if_neg (by decide)]
    exact hK hl w2 h2 ((f1.any p 1).trans f2)

theorem bitsm_Sync_spec {K : World → Prop} (h : MTape w p g bits at_) (hK : ∀ w', MTape w' p g bits (min ((at_ + 7) / 8 * 8) bits.length) → Fr p 1 w w' → K w') : S.bitsm_Tape_Sync p w K := by
  unfold S.bitsm_Tape_Sync
  have hn0 := h.len
  have hc0 := h.cur
  refine loopP (fun _ w1 => ∃ (c : Nat), at_ ≤ c ∧ c ≤ min ((at_ + 7) / 8 * 8) bits.length ∧ MTape w1 p g bits c ∧ Fr p 1 w w1)
    (fun _ w1 => match w1.cell? ⟨p, 1, none⟩ with | some (.int _ c) => 5000 - c.toNat | _ => 0) ⟨at_, by omega, by omega, h, Fr.refl _ _ _⟩ ?_
  rintro _ w1 ⟨c, hc1, hc2, h1, f1⟩
  obtain ⟨⟨s1, hr1, hgs1⟩, ne1, hn1, ha1⟩ := id h1
  have hlen1 := hgs1.len
  simp only [List.length_map, Nat.mul_one] at hlen1
  refine drew_ (ldI hr1.drew rfl ?_)
  by_cases hm : c % 8 = 0
  · have hm' : ((Int.tmod (c : Int) 8) != 0) = false := by
      simp only [bne_eq_false_iff_eq]
      rw [Int.tmod_eq_emod_of_nonneg (by omega)]
      omega
    rw [if_neg (by rw [hm']; simp)]
    have : c = min ((at_ + 7) / 8 * 8) bits.length := by omega
    rw [← this] at hK
    exact hK _ h1.drew f1
  · have hm' : ((Int.tmod (c : Int) 8) != 0) = true := by
      simp only [bne_iff_ne, ne_eq]
      rw [Int.tmod_eq_emod_of_nonneg (by omega)]
      omega
    rw [if_pos hm']
    refine ldI hr1.drew rfl (ldS hr1.drew rfl ?_)
    dsimp only
    by_cases hl : c < bits.length
    · rw [if_pos (by simp only [decide_eq_true_eq]; omega)]
      refine ldI hr1.drew rfl ?_
      refine st1 hr1.drew (by simp) fun w2 r2 f2 s2 => ?_
      have r2' : Blk w2 p [.slice s1.a s1.l s1.c, .int .i64 ((c + 1 : Nat) : Int)] := by
        rw [show ((c + 1 : Nat) : Int) = W ((c : Int) + 1) from by rw [W_id (by omega) (by omega)]; omega]; exact r2
      refine ⟨⟨c + 1, by omega, by omega, ⟨⟨s1, r2', hgs1.drew.fr f2 (by omega)⟩, ne1, hn1, by omega⟩, f1.trans f2⟩, ?_⟩
      rw [hr1.cell, r2'.cell]
      simp
      omega
    · rw [if_neg (by simp only [decide_eq_true_eq]; omega)]
      have : c = min ((at_ + 7) / 8 * 8) bits.length := by omega
      rw [← this] at hK
      exact hK _ h1.drew f1

theorem bitsm_Pos_spec {K : Int → World → Prop} (h : MTape w p g bits at_) (hK : K at_ w) : S.bitsm_Tape_Pos p w K := by
  obtain ⟨⟨s1, hr1, hgs1⟩, ne1, hn1, ha1⟩ := h
  unfold S.bitsm_Tape_Pos
  exact ldI hr1 rfl hK
theorem bitsm_Len_spec {K : Int → World → Prop} (h : MTape w p g bits at_) (hK : K bits.length w) : S.bitsm_Tape_Len p w K := by
  obtain ⟨⟨s1, hr1, hgs1⟩, ne1, hn1, ha1⟩ := h
  have hlen1 := hgs1.len
  simp only [List.length_map, Nat.mul_one] at hlen1
  unfold S.bitsm_Tape_Len
  refine ldS hr1 rfl ?_
  dsimp only
  rw [← hlen1]
  exact hK
end Go.Proofs.Qxb6500563aGreat
