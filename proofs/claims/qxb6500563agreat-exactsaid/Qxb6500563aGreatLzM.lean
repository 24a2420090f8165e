/-
  The model's matcher: its contract.
-/
import Derived.Test.Qxb6500563aGreatLzP
namespace Go.Proofs.Qxb6500563aGreat
open Go.Den Go.Zip
set_option linter.unusedVariables false
set_option linter.unusedSimpArgs false
variable {w w' : World}

def tokv (t : Tok) : List Value := [.int .i64 t.1, .int .i64 t.2.1, .int .i64 t.2.2]
@[simp] theorem tokv_length (t : Tok) : (tokv t).length = 3 := rfl
theorem toks_length (l : List Tok) : (l.flatMap tokv).length = l.length * 3 := flat_length (f := tokv) (c := 3) (fun _ => rfl) l
theorem toks_ok (l : List Tok) : (l.flatMap tokv).all okV = true := by
  simp [List.all_flatMap, tokv, okV]

theorem lzm_Best_spec {s : ByteArray} {i : Nat} {K : Int → Int → World → Prop} (hs : s.size ≤ 256) (hi : i ≤ s.size)
    (hK : ∀ w', Fr 0 0 w w' → K ((best (bt s) i).1 : Int) ((best (bt s) i).2 : Int) w') : S.lzm_Best s (i : Int) w K := by
  unfold S.lzm_Best
  refine join_ ?_
  refine loopP (fun st w1 => ∃ d : Nat, st = (((bestTo (bt s) i d).1 : Int), ((bestTo (bt s) i d).2 : Int), ((d + 1 : Nat) : Int), ()) ∧ d ≤ min 16 i ∧ Fr 0 0 w w1) (fun st _ => 20 - st.2.2.1.toNat)
    ⟨0, rfl, by omega, Fr.refl _ _ _⟩ ?_
  rintro _ w1 ⟨d, rfl, hd, f1⟩
  dsimp only
  have fin : d = min 16 i → ∀ w1, Fr 0 0 w w1 → (if (decide (((bestTo (bt s) i d).1 : Int) < 3)) = true then K 0 0 w1 else K ((bestTo (bt s) i d).1 : Int) ((bestTo (bt s) i d).2 : Int) w1) := by
    intro e w1 f1
    have := hK w1 f1
    unfold best at this
    rw [← e] at this
    by_cases h : (bestTo (bt s) i d).1 < 3
    · rw [if_pos h] at this
      rw [if_pos (by simp; omega)]
      exact this
    · rw [if_neg h] at this
      rw [if_neg (by simp; omega)]
      exact this
  by_cases h16 : d + 1 ≤ 16
  · rw [if_pos (by simp only [decide_eq_true_eq]; omega)]
    by_cases hdi : d + 1 ≤ i
    · rw [if_pos (by simp only [decide_eq_true_eq]; omega)]
      refine join_ (join_ ?_)
      have next : ∀ w2, Fr 0 0 w w2 → (if (decide (((mlen (bt s) i (d + 1) : Nat) : Int) > ((bestTo (bt s) i d).1 : Int))) = true then
          (Let (W (((d + 1 : Nat) : Int) + 1)) fun d_8 => (∃ d', (((mlen (bt s) i (d + 1) : Nat) : Int), ((d + 1 : Nat) : Int), d_8, ()) = (((bestTo (bt s) i d').1 : Int), ((bestTo (bt s) i d').2 : Int), ((d' + 1 : Nat) : Int), ()) ∧ d' ≤ min 16 i ∧ Fr 0 0 w w2) ∧ 20 - d_8.toNat < 20 - ((d + 1 : Nat) : Int).toNat)
        else (Let (W (((d + 1 : Nat) : Int) + 1)) fun d_8 => (∃ d', (((bestTo (bt s) i d).1 : Int), ((bestTo (bt s) i d).2 : Int), d_8, ()) = (((bestTo (bt s) i d').1 : Int), ((bestTo (bt s) i d').2 : Int), ((d' + 1 : Nat) : Int), ()) ∧ d' ≤ min 16 i ∧ Fr 0 0 w w2) ∧ 20 - d_8.toNat < 20 - ((d + 1 : Nat) : Int).toNat)) := by
        intro w2 f2
        have hw : W (((d + 1 : Nat) : Int) + 1) = ((d + 1 + 1 : Nat) : Int) := by rw [W_id (by omega) (by omega)]; omega
        rw [hw]
        by_cases h : mlen (bt s) i (d + 1) > (bestTo (bt s) i d).1
        · rw [if_pos (by simp only [decide_eq_true_eq]; omega)]
          exact let_ ⟨⟨d + 1, by simp only [bestTo]; rw [if_pos h], by omega, f2⟩, by omega⟩
        · rw [if_neg (by simp only [decide_eq_true_eq]; omega)]
          exact let_ ⟨⟨d + 1, by simp only [bestTo]; rw [if_neg h], by omega, f2⟩, by omega⟩
      refine loopP (fun st w2 => ∃ n : Nat, st = ((n : Int), ()) ∧ n ≤ 10 ∧ (∀ m, m < n → agree (bt s) i (d + 1) m = true) ∧ Fr 0 0 w w2) (fun st _ => 20 - st.1.toNat) ⟨0, rfl, by omega, fun m hm => by omega, f1⟩ ?_
      rintro _ w2 ⟨n, rfl, hn, hag, f2⟩
      refine drew_ ?_
      dsimp only
      have stop : (n < 10 → agree (bt s) i (d + 1) n = false) → mlen (bt s) i (d + 1) = n := fun h => upto_eq ⟨hn, hag, h⟩
      by_cases hn10 : n < 10
      · rw [if_pos (by simp only [decide_eq_true_eq]; omega), W_id (by omega) (by omega)]
        by_cases hl : i + n < s.size
        · rw [if_pos (by simp only [decide_eq_true_eq]; omega)]
          refine ixStr (m := (bt s).getD (i + n) 0) (by omega) (by rw [show ((i : Int) + (n : Int)).toNat = i + n from by omega]; exact getD_some (by simpa using hl)) ?_
          rw [W_id (by omega) (by omega)]
          refine ixStr (m := (bt s).getD (i + n - (d + 1)) 0) (by omega) (by rw [show ((i : Int) + (n : Int) - ((d + 1 : Nat) : Int)).toNat = i + n - (d + 1) from by omega]; exact getD_some (by simp; omega)) ?_
          by_cases he : (bt s).getD (i + n) 0 = (bt s).getD (i + n - (d + 1)) 0
          · rw [if_pos (by simp only [beq_iff_eq]; omega)]
            rw [show W ((n : Int) + 1) = ((n + 1 : Nat) : Int) from by rw [W_id (by omega) (by omega)]; omega]
            refine let_ ⟨⟨n + 1, rfl, by omega, fun m hm => ?_, f2⟩, by omega⟩
            rcases Nat.lt_or_ge m n with h' | h'
            · exact hag m h'
            · have : m = n := by omega
              subst this
              simp only [agree, bt_length, hl, decide_true, Bool.true_and, beq_iff_eq]
              exact he
          · rw [if_neg (by simp only [beq_iff_eq]; omega)]
            have e := stop fun _ => by
              simp only [agree, bt_length, hl, decide_true, Bool.true_and]
              simpa using he
            have := next w2.drew f2
            rw [e] at this
            exact this
        · rw [if_neg (by simp only [decide_eq_true_eq]; omega)]
          have e := stop fun _ => by simp [agree, hl]
          have := next w2.drew f2
          rw [e] at this
          exact this
      · rw [if_neg (by simp only [decide_eq_true_eq]; omega)]
        have e := stop fun h => absurd h hn10
        have := next w2.drew f2
        rw [e] at this
        exact this
    · rw [if_neg (by simp only [decide_eq_true_eq]; omega)]
      exact fin (by omega) w1 f1
  · rw [if_neg (by simp only [decide_eq_true_eq]; omega)]
    exact fin (by omega) w1 f1

/-- The list of tokens that is handed out. -/
structure ToksOut (w0 w : World) (sl : Sl) (l : List Tok) : Prop where
  ex : ∃ b, Blk w b (l.flatMap tokv) ∧ sl = ⟨some ⟨b, 0, none⟩, l.length, l.length⟩ ∧ w0.heap.size ≤ b

theorem lzm_Parse_spec {m : Nat} {s : ByteArray} {level : Nat} {K : Sl → Int → World → Prop} (hs : s.size ≤ 256) (hv : level ≤ 2)
    (hK : ∀ sl w', ToksOut w w' sl (tokens level (bt s)) → Fr 0 0 w w' → K sl 0 w') : S.lzm_Matcher_Parse m s (level : Int) w K := by
  unfold S.lzm_Matcher_Parse
  rw [if_neg (by simp only [decide_eq_true_eq]; omega), if_neg (by simp only [decide_eq_true_eq]; omega), if_neg (by simp only [decide_eq_true_eq]; omega)]
  refine mkS (by omega) (by omega) (by omega) (by omega) fun w1 b1 f1 s1 => ?_
  refine join_ ?_
  refine loopN (fun n st w2 => ∃ (k : Nat) (g : Nat), st.2.1 = ((pst level (bt s) k).1 : Int) ∧ n = s.size - (pst level (bt s) k).1 ∧ GS w2 st.1 g ((pst level (bt s) k).2.flatMap tokv) 3 ∧ w.heap.size ≤ g ∧ Fr 0 0 w w2 ∧ g < w2.heap.size)
    (s.size) ⟨0, w.heap.size, rfl, rfl, .inr ⟨rfl, by simp [pst], Nat.zero_le _, reps [.int .i64 0, .int .i64 0, .int .i64 0] s.size, by simpa [pst] using b1, by simp [reps_const, pst]⟩, Nat.le_refl _, f1, by omega⟩ ?_
  rintro n ⟨sl, iv, _⟩ w2 ⟨k, g, hiv, hn, hg, hgl, f2, hgs⟩ Q hQ
  simp only at hiv hg ⊢
  subst hiv
  obtain ⟨p1, p2, p3⟩ := pst_le level (bt s) k
  rw [bt_length] at p1 p2
  have hlen := hg.len
  rw [toks_length] at hlen
  by_cases hlt : (pst level (bt s) k).1 < s.size
  · rw [if_pos (by simp only [decide_eq_true_eq]; omega)]
    have hadv := adv_fit (level := level) (s := bt s) (i := (pst level (bt s) k).1) (by simpa using hlt)
    rw [bt_length] at hadv
    -- the token is laid
    have lay : ∀ w3, Fr 0 0 w2 w3 → (if ((((pickAt level (bt s) (pst level (bt s) k).1).1 : Nat) : Int) == 0) = true then
        (IxStr s ((pst level (bt s) k).1 : Int) fun c11 =>
                  New w3 (.cells #[.int .i64 0, .int .i64 0, .int .i64 (W c11)] 170) fun p12 w =>
                  AppS 170 [.int .i64 0, .int .i64 0, .int .i64 0] 24 3 w sl ⟨some ⟨p12, 0, none⟩, 1, 1⟩ fun l13 w =>
                  Let (W (((pst level (bt s) k).1 : Int) + 1)) fun i_14 =>
                  Q (l13, i_14, ()) w)
        else (New w3 (.cells #[.int .i64 ((pickAt level (bt s) (pst level (bt s) k).1).1 : Nat), .int .i64 ((pickAt level (bt s) (pst level (bt s) k).1).2 : Nat), .int .i64 0] 170) fun p15 w =>
                  AppS 170 [.int .i64 0, .int .i64 0, .int .i64 0] 24 3 w sl ⟨some ⟨p15, 0, none⟩, 1, 1⟩ fun l16 w =>
                  Let (W (((pst level (bt s) k).1 : Int) + ((pickAt level (bt s) (pst level (bt s) k).1).1 : Nat))) fun i_17 =>
                  Q (l16, i_17, ()) w)) := by
      intro w3 f3
      have hg3 := hg.fr f3 (by omega)
      have hstep : pst level (bt s) (k + 1) = ((pst level (bt s) k).1 + adv (tokAt level (bt s) (pst level (bt s) k).1), (pst level (bt s) k).2 ++ [tokAt level (bt s) (pst level (bt s) k).1]) := by
        simp only [pst]; rw [if_pos (by simpa using hlt)]
      have fin : ∀ (cs : Array Value) (z : Int), cs.toList = tokv (tokAt level (bt s) (pst level (bt s) k).1) → z = ((adv (tokAt level (bt s) (pst level (bt s) k).1) : Nat) : Int) →
          (New w3 (.cells cs 170) fun p15 w =>
                  AppS 170 [.int .i64 0, .int .i64 0, .int .i64 0] 24 3 w sl ⟨some ⟨p15, 0, none⟩, 1, 1⟩ fun l16 w =>
                  Let (W (((pst level (bt s) k).1 : Int) + z)) fun i_17 =>
                  Q (l16, i_17, ()) w) := by
        intro cs z hcs hz
        refine newB fun w4 b4 f4 s4 => ?_
        have hg4 := hg3.fr f4 (by omega)
        have hsz3 := f3.1
        refine appS (new := tokv (tokAt level (bt s) (pst level (bt s) k).1)) hg4 (by rw [← hcs]; exact b4) rfl (by omega) rfl rfl (by omega) fun s' w5 g' hg5 hl5 hgg hg5l ha5 f5 => ?_
        rw [hz, W_id (by omega) (by omega)]
        refine let_ (hQ (s.size - (pst level (bt s) (k + 1)).1) _ _ ?_ ⟨k + 1, g', ?_, rfl, ?_, ?_, ?_, hg5l⟩)
        · rw [hstep]; simp only; omega
        · rw [hstep]; simp only; omega
        · rw [hstep]; simp only [List.flatMap_append, List.flatMap_cons, List.flatMap_nil, List.append_nil]; exact hg5
        · have := f2.1; omega
        · have h23 := (f2.trans f3).trans f4
          exact h23.thenNew2 f5 hgl hgl
      by_cases hz : (pickAt level (bt s) (pst level (bt s) k).1).1 = 0
      · rw [if_pos (by simp [hz])]
        refine ixStr (m := (bt s).getD (pst level (bt s) k).1 0) (by omega) (by rw [Int.toNat_natCast]; exact getD_some (by simpa using hlt)) ?_
        have hb : (bt s).getD (pst level (bt s) k).1 0 < 256 := bt_get_lt (getD_some (by simpa using hlt))
        refine fin _ 1 ?_ ?_
        · simp only [tokAt, if_pos hz, tokv]; rw [W_id (by omega) (by omega)]; rfl
        · simp only [tokAt, if_pos hz, adv]; rfl
      · rw [if_neg (by simp; omega)]
        refine fin _ _ ?_ ?_
        · simp only [tokAt, if_neg hz, tokv]; rfl
        · simp only [tokAt, if_neg hz, adv]
    refine join_ ?_
    by_cases hl0 : level = 0
    · subst hl0
      rw [if_neg (by simp)]
      refine join_ ?_
      rw [if_neg (by simp)]
      have := lay w2 (Fr.refl _ _ _)
      have e : pickAt 0 (bt s) (pst 0 (bt s) k).1 = (0, 0) := rfl
      simp only [e] at this
      exact this
    · rw [if_pos (by simp only [decide_eq_true_eq]; omega)]
      refine lzm_Best_spec hs (by omega) fun w3 f3 => ?_
      refine join_ ?_
      by_cases hl2 : level = 2
      · rw [if_pos (by simp [hl2])]
        by_cases h0 : 0 < (best (bt s) (pst level (bt s) k).1).1
        · rw [if_pos (by simp only [decide_eq_true_eq]; omega)]
          by_cases h10 : (best (bt s) (pst level (bt s) k).1).1 < 10
          · rw [if_pos (by simp only [decide_eq_true_eq]; omega)]
            have hW1 : W (((pst level (bt s) k).1 : Int) + 1) = (((pst level (bt s) k).1 + 1 : Nat) : Int) := by rw [W_id (by omega) (by omega)]; omega
            rw [hW1]
            refine lzm_Best_spec hs (by omega) fun w4 f4 => ?_
            have := lay w4 (f3.trans f4)
            simp only [hW1] at this
            by_cases hlt2 : (best (bt s) (pst level (bt s) k).1).1 < (best (bt s) ((pst level (bt s) k).1 + 1)).1
            · rw [if_pos (by simp only [decide_eq_true_eq]; omega)]
              have e : pickAt level (bt s) (pst level (bt s) k).1 = (0, 0) := by unfold pickAt; rw [if_neg hl0, if_pos ⟨hl2, h0, h10, hlt2⟩]
              simp only [e] at this
              rw [if_pos (by simp)] at this
              show (if ((0 : Int) == 0) = true then _ else _)
              rw [if_pos (by simp)]
              exact this
            · rw [if_neg (by simp only [decide_eq_true_eq]; omega)]
              have e : pickAt level (bt s) (pst level (bt s) k).1 = best (bt s) (pst level (bt s) k).1 := by unfold pickAt; rw [if_neg hl0, if_neg (fun h => hlt2 h.2.2.2)]
              simp only [e] at this
              exact this
          · rw [if_neg (by simp only [decide_eq_true_eq]; omega)]
            have := lay w3 f3
            have e : pickAt level (bt s) (pst level (bt s) k).1 = best (bt s) (pst level (bt s) k).1 := by unfold pickAt; rw [if_neg hl0, if_neg (fun h => h10 h.2.2.1)]
            simp only [e] at this
            exact this
        · rw [if_neg (by simp only [decide_eq_true_eq]; omega)]
          have := lay w3 f3
          have e : pickAt level (bt s) (pst level (bt s) k).1 = best (bt s) (pst level (bt s) k).1 := by unfold pickAt; rw [if_neg hl0, if_neg (fun h => h0 h.2.1)]
          simp only [e] at this
          exact this
      · rw [if_neg (by simp only [beq_iff_eq]; omega)]
        have := lay w3 f3
        have e : pickAt level (bt s) (pst level (bt s) k).1 = best (bt s) (pst level (bt s) k).1 := by unfold pickAt; rw [if_neg hl0, if_neg (fun h => hl2 h.1)]
        simp only [e] at this
        exact this
  · rw [if_neg (by simp only [decide_eq_true_eq]; omega)]
    have et := tokens_eq (level := level) (s := bt s) (k := k) (by rw [bt_length]; omega)
    refine mkS (by omega) (by omega) (by omega) (by omega) fun w3 b3 f3 s3 => ?_
    have hg3 := hg.fr f3 (by omega)
    by_cases hne : (pst level (bt s) k).2.flatMap tokv = []
    · have hz : (pst level (bt s) k).2.length = 0 := by have := toks_length (pst level (bt s) k).2; rw [hne, List.length_nil] at this; omega
      refine copyS_nil (by show Nat.min sl.l _ = 0; rw [show sl.l = 0 from by omega]; simp [Nat.min]) ?_
      have hl0 : (pst level (bt s) k).2 = [] := List.length_eq_zero_iff.1 hz
      refine hK _ w3 ⟨⟨w2.heap.size, ?_, ?_, f2.1⟩⟩ (f2.trans f3)
      · rw [et, hl0]
        rw [show ((sl.l : Int)).toNat = 0 from by omega] at b3
        exact b3
      · rw [et, hz, show ((sl.l : Int)).toNat = 0 from by omega]
    · obtain ⟨ha, junk, hblk⟩ := hg3.blk hne
      refine copyS (n := sl.l) (us := (pst level (bt s) k).2.flatMap tokv) hblk ha b3 rfl (by simp [Nat.min]) ?_ ?_ (toks_ok _) ?_ ?_
      · rw [List.drop_zero, List.take_left' (by rw [toks_length]; omega)]
      · rw [toks_length]; omega
      · rw [toks_length, reps_const]; show 0 + _ * 3 ≤ _ * 3; omega
      · intro w4 b4 f4 s4
        have hj : List.drop (0 + ((pst level (bt s) k).2.flatMap tokv).length) (reps [.int .i64 0, .int .i64 0, .int .i64 0] ((sl.l : Int)).toNat) = [] := by
          apply List.drop_eq_nil_of_le
          rw [toks_length, reps_const]; show _ * 3 ≤ 0 + _ * 3; omega
        rw [hj, List.take_zero, List.append_nil, List.nil_append] at b4
        refine hK _ w4 ⟨⟨w2.heap.size, ?_, ?_, f2.1⟩⟩ ((f2.trans f3).thenNew f4 f2.1)
        · rw [et]; exact b4
        · rw [et, show ((sl.l : Int)).toNat = (pst level (bt s) k).2.length from by omega]
end Go.Proofs.Qxb6500563aGreat
