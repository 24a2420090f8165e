/-
  The model's encoder: Bits, Choose, Emit, Pack.
-/
import Derived.Test.Qxb6500563aGreatEncM
namespace Go.Proofs.Qxb6500563aGreat
open Go.Den Go.Zip
set_option linter.unusedVariables false
set_option linter.unusedSimpArgs false
variable {w w' : World}

theorem OS_rdV {s : Sl} {vs : List Value} {i : Nat} {m : Int} {K : Int → Prop} (h : OS w s vs 1) (hi : vs[i]? = some (.int .i64 m)) (hk : K m) : Ix s.a s.l (i : Int) fun b o => LdI .i64 w ⟨b, o + Int.toNat (i : Int) * 1, none⟩ K := by
  have hlt : i < vs.length := (List.getElem?_eq_some_iff.1 hi).1
  rcases h with ⟨rfl, rfl⟩ | ⟨g, a, b, c, junk, d, l⟩
  · simp at hi
  · rw [Nat.mul_one] at b
    refine ix a (by omega) (by omega) (ldI d ?_ hk)
    rw [Nat.zero_add, Nat.mul_one, Int.toNat_natCast, List.getElem?_append_left hlt, hi]
theorem item_get {l : List Item} {k : Nat} {t : Item} (h : l[k]? = some t) : (l.flatMap itemV)[3 * k]? = some (.int .i64 t.1) ∧ (l.flatMap itemV)[3 * k + 1]? = some (.int .i64 t.2.1) ∧ (l.flatMap itemV)[3 * k + 2]? = some (.int .i64 t.2.2) := by
  have h0 := flat_get (f := itemV) (c := 3) (fun _ => rfl) l k 0 (by omega)
  have h1 := flat_get (f := itemV) (c := 3) (fun _ => rfl) l k 1 (by omega)
  have h2 := flat_get (f := itemV) (c := 3) (fun _ => rfl) l k 2 (by omega)
  rw [h] at h0 h1 h2
  rw [Nat.mul_comm 3 k]
  exact ⟨h0, h1, h2⟩
theorem sum_take {α : Type} (f : α → Nat) {l : List α} {k : Nat} {t : α} (h : l[k]? = some t) : ((l.take (k + 1)).map f).sum = ((l.take k).map f).sum + f t := by
  obtain ⟨hk, ht⟩ := List.getElem?_eq_some_iff.1 h
  rw [List.take_succ_eq_append_getElem hk, List.map_append, List.sum_append, ht]
  simp
theorem sum_le_c {α : Type} (f : α → Nat) (c : Nat) : ∀ l : List α, (∀ t ∈ l, f t ≤ c) → (l.map f).sum ≤ l.length * c
  | [], _ => by simp
  | x :: l, h => by
    have := sum_le_c f c l fun t ht => h t (by simp [ht])
    have := h x (by simp)
    simp only [List.map_cons, List.sum_cons, List.length_cons, Nat.succ_mul]
    omega
theorem items_len (l : Nat → Nat) : (itemsL l).length ≤ 273 := by
  have := ist_le l 273
  unfold itemsL; omega
theorem items_ok {l : Nat → Nat} (hl : ∀ i, i < 273 → l i ≤ 10) : ∀ t ∈ itemsL l, ItemOK t := ist_ok hl 273
theorem cost_le {c l : Nat → Nat} (hc : ∀ s, c s ≤ 513) (hl : ∀ i, i < 273 → l i ≤ 10) {n : Nat} (hn : n ≤ 273) : costTo c l n ≤ n * 6156 := by
  unfold costTo
  have := sumTo_le (n := n) (f := fun s => c s * gW l s) (g := fun _ => 6156) fun i hi => by
    have h1 := hc i
    have h2 := hl i (by omega)
    have h3 : gW l i ≤ 12 := by
      unfold gW
      have := dMore_le (i - 265)
      split <;> omega
    exact Nat.mul_le_mul h1 h3
  rw [sumTo_const] at this
  exact this

set_option maxRecDepth 10000 in
/-- The sum over the symbols. -/
theorem blockm_BitsSum {cs ls : Sl} {cb lb base : Nat} {c l : Nat → Nat} {K : Int → World → Prop} (hC : IS w cs cb 273 c) (hL : IS w ls lb 273 l) (hc : ∀ s, c s ≤ 513) (hl : ∀ i, i < 273 → l i ≤ 10) (hb : base ≤ 100000)
    (hK : ∀ w', w'.heap = w.heap → K ((base + costTo c l 273 : Nat) : Int) w') :
    LoopP (σ := Int × Int × Unit) (fun st2 w next3 =>
        if (decide (st2.2.1 < (cs.l : Int))) = true then
          Join (fun (sum_4 : Int) (w : World) =>
            Let (W (st2.2.1 + 1)) fun s_5 =>
            next3 (sum_4, s_5, ()) w) fun J6 =>
          Drew w fun w =>
          Ix cs.a cs.l st2.2.1 fun b7 o8 =>
          LdI .i64 w ⟨b7, o8 + Int.toNat st2.2.1 * 1, none⟩ fun x_9 =>
          Ix ls.a ls.l st2.2.1 fun b10 o11 =>
          LdI .i64 w ⟨b10, o11 + Int.toNat st2.2.1 * 1, none⟩ fun x_12 =>
          Let (W (st2.1 + (W (x_9 * x_12)))) fun sum_13 =>
          if (decide (st2.2.1 ≥ 265)) = true then
            S.api_DistBase (W (st2.2.1 - 265)) w (fun r14 r15 w =>
            Ix cs.a cs.l st2.2.1 fun b16 o17 =>
            LdI .i64 w ⟨b16, o17 + Int.toNat st2.2.1 * 1, none⟩ fun x_18 =>
            Let (W (sum_13 + (W (x_18 * r15)))) fun sum_19 =>
            J6 sum_19 w)
          else
            J6 sum_13 w
        else
          K st2.1 w) ((base : Int), 0, ()) w := by
  have hcl := hC.len
  refine loopN (fun m st v => ∃ s : Nat, st = (((base + costTo c l s : Nat) : Int), (s : Int), ()) ∧ m + s = 273 ∧ v.heap = w.heap) 273 ⟨0, rfl, rfl, rfl⟩ ?_
  rintro m _ v ⟨s, rfl, hm, hv⟩ Q hQ
  dsimp only
  by_cases hs : s < 273
  · rw [if_pos (by simp only [decide_eq_true_eq]; omega)]
    have hC1 := hC.heq (show v.drew.heap = w.heap from hv)
    have hL1 := hL.heq (show v.drew.heap = w.heap from hv)
    refine join_ (drew_ (rdS hC1 hs (rdS hL1 hs ?_)))
    have h1 := hc s
    have h2 := hl s hs
    have hb1 := cost_le hc hl (n := s) (by omega)
    have hm1 : c s * l s ≤ 5130 := Nat.mul_le_mul h1 h2
    have hnx : costTo c l (s + 1) = costTo c l s + c s * gW l s := rfl
    rw [show W ((c s : Int) * (l s : Int)) = ((c s * l s : Nat) : Int) from by rw [← Int.natCast_mul, W_nat (by omega)], W_add (by omega)]
    refine let_ ?_
    by_cases h265 : s < 265
    · rw [if_neg (by simp only [decide_eq_true_eq]; omega), W_succ (by omega)]
      have hg : gW l s = l s := by unfold gW; rw [if_pos h265]; omega
      refine let_ (hQ (m - 1) _ _ (by omega) ⟨s + 1, ?_, by omega, hv⟩)
      rw [hnx, hg, Nat.add_assoc]
    · rw [if_pos (by simp only [decide_eq_true_eq]; omega)]
      rw [show W ((s : Int) - 265) = ((s - 265 : Nat) : Int) from by rw [W_id (by omega) (by omega)]; omega]
      refine api_DistBase_spec (by omega) (rdS hC1 hs ?_)
      have hdm := dMore_le (s - 265)
      have hm2 : c s * dMore (s - 265) ≤ 1026 := Nat.mul_le_mul h1 hdm
      rw [show W ((c s : Int) * (dMore (s - 265) : Int)) = ((c s * dMore (s - 265) : Nat) : Int) from by rw [← Int.natCast_mul, W_nat (by omega)], W_add (by omega), W_succ (by omega)]
      have hg : c s * gW l s = c s * l s + c s * dMore (s - 265) := by unfold gW; rw [if_neg h265, Nat.mul_add]
      refine let_ (let_ (hQ (m - 1) _ _ (by omega) ⟨s + 1, ?_, by omega, hv⟩))
      rw [hnx, hg]
      congr 2
      omega
  · rw [if_neg (by simp only [decide_eq_true_eq]; omega)]
    have : s = 273 := by omega
    subst this
    exact hK v hv

set_option maxRecDepth 10000 in
theorem blockm_Bits_spec {kind : Nat} {n : Nat} {cs ls : Sl} {cb lb : Nat} {c l : Nat → Nat} {K : Int → World → Prop} (hk : kind ≤ 2) (hn : n ≤ 256) (hC : IS w cs cb 273 c) (hL : IS w ls lb 273 l) (hc : ∀ s, c s ≤ 513) (hl : ∀ i, i < 273 → l i ≤ 10)
    (hK : ∀ w', Fr 0 0 w w' → K ((if kind = 0 then 24 + 8 * n else if kind = 1 then 3 + costTo c l 273 else 3 + listC l + costTo c l 273 : Nat) : Int) w') : S.blockm_Bits (kind : Int) (n : Int) cs ls w K := by
  unfold S.blockm_Bits
  by_cases k0 : kind = 0
  · rw [if_pos (by simp only [beq_iff_eq]; omega)]
    rw [if_pos k0] at hK
    rw [show W (24 + W (8 * (n : Int))) = ((24 + 8 * n : Nat) : Int) from by rw [W_id (x := 8 * (n : Int)) (by omega) (by omega), W_id (by omega) (by omega)]; omega]
    exact hK w (Fr.refl _ _ _)
  rw [if_neg (by simp only [beq_iff_eq]; omega)]
  rw [if_neg k0] at hK
  refine join_ ?_
  by_cases k1 : kind = 1
  · rw [if_neg (by simp only [beq_iff_eq]; omega)]
    rw [if_pos k1] at hK
    exact blockm_BitsSum (base := 3) hC hL hc hl (by omega) fun w2 e2 => hK w2 (Fr.heq (Fr.refl 0 0 w) e2)
  rw [if_pos (by simp only [beq_iff_eq]; omega)]
  rw [if_neg k1] at hK
  refine blockm_Items_spec hL hl fun o w1 h1 ho f1 => ?_
  have hlen := h1.len
  rw [itemsV_len, Nat.mul_one] at hlen
  have hil := items_len l
  have hio := items_ok hl
  have hcb := hC.lt
  have hlb := hL.lt
  have hlc : listC l = ((itemsL l).map itemC).sum := by rw [listC]
  rw [hlc] at hK
  clear hlc
  generalize itemsL l = it at *
  refine loopN (fun m st v => ∃ k : Nat, st = (((3 + (it.take k |>.map itemC).sum : Nat) : Int), ((3 * k : Nat) : Int), ()) ∧ m + k = it.length ∧ v = w1) it.length ⟨0, rfl, rfl, rfl⟩ ?_
  rintro m _ v ⟨k, rfl, hm, rfl⟩ Q hQ
  dsimp only
  have hsb : (it.take k |>.map itemC).sum ≤ 3003 := by
    have := sum_le_c itemC 11 (it.take k) fun t ht => by
      have := (hio t (List.mem_of_mem_take ht)).2.1
      unfold itemC; omega
    have : (it.take k).length ≤ 273 := by simp; omega
    omega
  by_cases hk2 : k < it.length
  · rw [if_pos (by simp only [decide_eq_true_eq]; omega)]
    have ht : it[k]? = some it[k] := List.getElem?_eq_getElem hk2
    have hto := hio _ (List.getElem_mem hk2)
    generalize it[k] = t at *
    rw [show W (((3 * k : Nat) : Int) + 2) = ((3 * k + 2 : Nat) : Int) from by rw [W_id (by omega) (by omega)]; omega]
    refine OS_rdV h1 (item_get ht).2.2 ?_
    have := hto.2.1
    rw [show W (W (((3 + (it.take k |>.map itemC).sum : Nat) : Int) + 4) + (t.2.2 : Int)) = ((3 + (it.take (k + 1) |>.map itemC).sum : Nat) : Int) from by
      rw [sum_take itemC ht, W_id (x := ((3 + (it.take k |>.map itemC).sum : Nat) : Int) + 4) (by omega) (by omega), W_id (by omega) (by omega)]
      unfold itemC
      omega]
    rw [show W (((3 * k : Nat) : Int) + 3) = ((3 * (k + 1) : Nat) : Int) from by rw [W_id (by omega) (by omega)]; omega]
    exact let_ (let_ (hQ (m - 1) _ _ (by omega) ⟨k + 1, rfl, by omega, rfl⟩))
  · rw [if_neg (by simp only [decide_eq_true_eq]; omega)]
    have hte : it.take k = it := List.take_of_length_le (by omega)
    rw [hte] at hsb ⊢
    refine blockm_BitsSum (base := 3 + (it.map itemC).sum) (hC.fr f1 (by omega)) (hL.fr f1 (by omega)) hc hl (by omega) fun w2 e2 => ?_
    exact hK w2 (Fr.heq f1 e2)

theorem blockm_Choose_spec {a b c : Nat} {K : Int → World → Prop} (hK : K ((if a ≤ b ∧ a ≤ c then 0 else if b ≤ c then 1 else 2 : Nat) : Int) w) : S.blockm_Choose (a : Int) (b : Int) (c : Int) w K := by
  unfold S.blockm_Choose
  refine join_ ?_
  by_cases h1 : a ≤ b
  · rw [if_pos (by simp only [decide_eq_true_eq]; omega)]
    by_cases h2 : a ≤ c
    · rw [if_pos (by simp only [decide_eq_true_eq]; omega)]
      rw [if_pos ⟨h1, h2⟩] at hK; exact hK
    · rw [if_neg (by simp only [decide_eq_true_eq]; omega)]
      rw [if_neg (by omega)] at hK
      by_cases h3 : b ≤ c
      · rw [if_pos (by simp only [decide_eq_true_eq]; omega)]
        rw [if_pos h3] at hK; exact hK
      · rw [if_neg (by simp only [decide_eq_true_eq]; omega)]
        rw [if_neg h3] at hK; exact hK
  · rw [if_neg (by simp only [decide_eq_true_eq]; omega)]
    rw [if_neg (by omega)] at hK
    by_cases h3 : b ≤ c
    · rw [if_pos (by simp only [decide_eq_true_eq]; omega)]
      rw [if_pos h3] at hK; exact hK
    · rw [if_neg (by simp only [decide_eq_true_eq]; omega)]
      rw [if_neg h3] at hK; exact hK

/-! ### The text of a tape -/
theorem byteAt_snoc (l : List Bool) (b : Bool) (j : Nat) : byteAt (l ++ [b]) j = if j = l.length / 8 then byteAt l j ||| b.toNat * 2 ^ (l.length % 8) else byteAt l j := by
  have hb : b.toNat < 2 := by cases b <;> simp
  by_cases h : j = l.length / 8
  · rw [if_pos h]
    apply Nat.eq_of_testBit_eq
    intro t
    rw [byteAt_testBit, Nat.testBit_or, byteAt_testBit, Nat.mul_comm b.toNat, Nat.testBit_two_pow_mul]
    rcases Nat.lt_trichotomy (8 * j + t) l.length with h1 | h1 | h1
    · rw [List.getElem?_append_left h1]
      have : ¬ (l.length % 8 ≤ t) := by omega
      simp [this]
    · have e : t = l.length % 8 := by omega
      have e2 : 8 * j + l.length % 8 = l.length := by omega
      subst e
      rw [e2]
      have : l.length % 8 < 8 := by omega
      cases b <;> simp [this]
    · rw [List.getElem?_eq_none (by simp; omega), List.getElem?_eq_none (by omega)]
      have : b.toNat.testBit (t - l.length % 8) = false := Nat.testBit_lt_two_pow (Nat.lt_of_lt_of_le hb (by
        have := Nat.pow_le_pow_right (n := 2) (by omega) (show 1 ≤ t - l.length % 8 by omega); omega))
      simp [this]
  · rw [if_neg h]
    apply Nat.eq_of_testBit_eq
    intro t
    rw [byteAt_testBit, byteAt_testBit]
    by_cases ht : t < 8
    · simp only [ht, decide_true, Bool.true_and]
      rcases Nat.lt_trichotomy (8 * j + t) l.length with h1 | h1 | h1
      · rw [List.getElem?_append_left h1]
      · omega
      · rw [List.getElem?_eq_none (by simp; omega), List.getElem?_eq_none (by omega)]
    · simp [ht]
theorem bufOf_snoc (l : List Bool) (b : Bool) (m : Nat) : (bufOf l m).set (l.length / 8) (byteAt l (l.length / 8) ||| b.toNat * 2 ^ (l.length % 8)) = bufOf (l ++ [b]) m := by
  apply List.ext_getElem (by simp)
  intro j h1 h2
  simp only [bufOf_length] at h2
  rw [List.getElem_set]
  simp only [bufOf, List.getElem_map, List.getElem_range]
  rw [byteAt_snoc]
  by_cases h : l.length / 8 = j
  · rw [if_pos h, if_pos h.symm, h]
  · rw [if_neg h, if_neg (fun e => h e.symm)]
theorem Shl_u8 {k : Nat} (hk : k < 8) (b : Bool) : Shl .u8 (if b then 1 else 0 : Int) (k : Int) = ((b.toNat * 2 ^ k : Nat) : Int) := by
  have : k = 0 ∨ k = 1 ∨ k = 2 ∨ k = 3 ∨ k = 4 ∨ k = 5 ∨ k = 6 ∨ k = 7 := by omega
  rcases this with e | e | e | e | e | e | e | e <;> subst e <;> cases b <;> rfl
theorem bitsm_Text_spec {p g : Nat} {bits : List Bool} {cur : Nat} {K : ByteArray → World → Prop} (h : MTape w p g bits cur) (hg : g < w.heap.size) (hK : ∀ w', Fr 0 0 w w' → K (textOf bits) w') : S.bitsm_Tape_Text p w K := by
  unfold S.bitsm_Tape_Text
  obtain ⟨⟨s, hb, hgs⟩, ne, len, _⟩ := id h
  have hlen := hgs.len
  simp only [List.length_map, Nat.mul_one] at hlen
  have hpl := hb.lt
  refine ldS hb rfl ?_
  dsimp only
  have hsz : W (Int.tdiv (W ((s.l : Int) + 7)) 8) = (((bits.length + 7) / 8 : Nat) : Int) := by
    rw [← hlen, W_id (x := (bits.length : Int) + 7) (by omega) (by omega), W_id]
    · rw [show (bits.length : Int) + 7 = ((bits.length + 7 : Nat) : Int) from by omega]; exact (Int.ofNat_tdiv _ _).symm
    · rw [show (bits.length : Int) + 7 = ((bits.length + 7 : Nat) : Int) from by omega, show Int.tdiv ((bits.length + 7 : Nat) : Int) 8 = (((bits.length + 7) / 8 : Nat) : Int) from (Int.ofNat_tdiv _ _).symm]; omega
    · rw [show (bits.length : Int) + 7 = ((bits.length + 7 : Nat) : Int) from by omega, show Int.tdiv ((bits.length + 7 : Nat) : Int) 8 = (((bits.length + 7) / 8 : Nat) : Int) from (Int.ofNat_tdiv _ _).symm]; omega
  rw [hsz]
  refine mkS (by omega) (by omega) (by omega) (by omega) fun w1 b1 f1 s1 => ?_
  generalize hN : w.heap.size = N at *
  rw [Int.toNat_natCast, reps_byts, ← bufOf_nil] at b1
  rw [Int.toNat_natCast]
  generalize hM : (bits.length + 7) / 8 = M at *
  refine join_ ?_
  refine loopN (fun m st v => ∃ i : Nat, st = ((i : Int), ()) ∧ m + i = bits.length ∧ Blk v N (byts (bufOf (bits.take i) M)) ∧ Blk v p [.slice s.a s.l s.c, .int .i64 cur] ∧ GS v s g (bits.map bitv) 1 ∧ Fr 0 0 w v) bits.length
    ⟨0, rfl, rfl, b1, hb.fr f1 (by omega), hgs.fr f1 (by omega), f1⟩ ?_
  rintro m _ v ⟨i, rfl, hm, bv, rv, gv, fv⟩ Q hQ
  refine ldS rv rfl ?_
  dsimp only
  by_cases hi : i < bits.length
  · rw [if_pos (by simp only [decide_eq_true_eq]; omega)]
    refine drew_ ?_
    have hd : W (Int.tdiv (i : Int) 8) = ((i / 8 : Nat) : Int) := by rw [show Int.tdiv (i : Int) 8 = ((i / 8 : Nat) : Int) from (Int.ofNat_tdiv _ _).symm, W_nat (by omega)]
    have hmd : Int.tmod (i : Int) 8 = ((i % 8 : Nat) : Int) := (Int.ofNat_tmod _ _).symm
    rw [hd, hmd]
    have htl : (bits.take i).length = i := by simp; omega
    refine ix rfl (by omega) (by omega) (ldU (m := byteAt (bits.take i) (i / 8)) bv.drew (by rw [Int.toNat_natCast]; exact bufOf_get (by omega)) ?_)
    refine ldS rv.drew rfl ?_
    have hbit : bits[i]? = some bits[i] := List.getElem?_eq_getElem hi
    refine ldBit (s := ⟨s.a, s.l, s.c⟩) gv.drew (by omega) (by rw [Int.toNat_natCast]; exact hbit) ?_
    rw [U64_id (by omega) (by omega)]
    refine ⟨by omega, ?_⟩
    rw [Shl_u8 (by omega)]
    have hbl := byteAt_lt (bits.take i) (i / 8)
    have hpw : (bits[i]).toNat * 2 ^ (i % 8) < 256 := by
      have h1 := Bool.toNat_le bits[i]
      have h2 : 2 ^ (i % 8) ≤ 2 ^ 7 := Nat.pow_le_pow_right (by omega) (by omega)
      have := Nat.mul_le_mul h1 h2
      omega
    rw [Or_u8 hbl hpw]
    refine ix rfl (by omega) (by omega) (stU bv.drew (by rw [Int.toNat_natCast]; simp; omega) rfl fun v2 d2 f2 _ => ?_)
    rw [Int.toNat_natCast] at d2
    have hsn := bufOf_snoc (bits.take i) bits[i] M
    rw [htl] at hsn
    rw [hsn, ← List.take_succ_eq_append_getElem hi] at d2
    rw [W_succ (by omega)]
    have f2 : Fr N 1 v v2 := f2
    exact let_ (hQ (m - 1) _ _ (by omega) ⟨i + 1, rfl, by omega, d2, rv.fr f2 (by omega), gv.fr f2 (by omega), fv.thenNew f2 (by omega)⟩)
  · rw [if_neg (by simp only [decide_eq_true_eq]; omega)]
    rw [List.take_of_length_le (by omega)] at bv
    refine btS (zs := bufOf bits M) bv (by rw [List.drop_zero, List.take_of_length_le (by simp)]) (by simp) (fun x hx => ?_) ?_
    · simp only [bufOf, List.mem_map] at hx
      obtain ⟨j, _, rfl⟩ := hx
      exact byteAt_lt bits j
    · have := hK v fv
      unfold textOf at this
      rw [hM] at this
      exact this
end Go.Proofs.Qxb6500563aGreat
