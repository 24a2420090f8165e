/-
  The way back, plain: what the encoder writes, the decoder reads.
-/
import Derived.Test.Qxb6500563aGreatArcT
namespace Go.Proofs.Qxb6500563aGreat
open Go.Den Go.Zip
set_option linter.unusedVariables false
set_option linter.unusedSimpArgs false

/-! ### Reading what was laid -/
theorem num_at {A Z : List Bool} {v k : Nat} (hv : v < 2 ^ k) : num (A ++ (bitsOf v k ++ Z)) A.length k = v := by
  unfold num
  rw [List.drop_left, List.take_left' (by simp), ofBits_bitsOf, Nat.mod_eq_of_lt hv]
theorem num_at' {A Z : List Bool} {v k c : Nat} (hv : v < 2 ^ k) (hc : c = A.length) : num (A ++ (bitsOf v k ++ Z)) c k = v := by rw [hc]; exact num_at hv
theorem sym_at {n : Nat} {l : Nat → Nat} {A Z : List Bool} {x c : Nat} (L : Lens n l) (hx : x < n) (h0 : 0 < l x) (hc : c = A.length) : symAt n l (A ++ (bitsOf (codeOf n l x) (l x) ++ Z)) c = (x, l x, 0) := by
  subst hc
  have h10 := L.le x hx
  have hcl := code_lt n l x
  unfold symAt
  generalize ha : num (A ++ (bitsOf (codeOf n l x) (l x) ++ Z)) A.length 10 = a
  have hm : a % 2 ^ l x = codeOf n l x := by rw [← ha, num_low _ _ h10]; exact num_at hcl
  have hav : l x ≤ min 10 ((A ++ (bitsOf (codeOf n l x) (l x) ++ Z)).length - A.length) := by simp; omega
  generalize min 10 ((A ++ (bitsOf (codeOf n l x) (l x) ++ Z)).length - A.length) = hv at *
  have hb : hitB n l a hv x = true := by
    unfold hitB
    simp only [Bool.and_eq_true, decide_eq_true_eq, beq_iff_eq]
    exact ⟨⟨h0, hav⟩, hm⟩
  unfold findR
  cases e : hitTo n l a hv n with
  | none =>
    have := hitTo_none e x hx
    rw [hb] at this; cases this
  | some t =>
    have ht := hitTo_some e
    have : t = x := by
      obtain ⟨x1, x2, x3⟩ := hit_facts ht.2
      exact heads_uniq L ht.1 hx ⟨x1, x3⟩ ⟨h0, hm⟩
    subst this
    rfl

/-! ### Lengths that agree -/
theorem first_congr {n : Nat} {f g : Nat → Nat} (h : ∀ i, i < n → f i = g i) : ∀ k, first n f k = first n g k
  | 0 => rfl
  | k + 1 => by
    have hc : cntL n f k = cntL n g k := cntTo_congr fun i hi => by rw [h i hi]
    simp only [first]
    rw [first_congr h k, hc]
theorem code_congr {n : Nat} {f g : Nat → Nat} (h : ∀ i, i < n → f i = g i) {s : Nat} (hs : s < n) : codeOf n f s = codeOf n g s := by
  have hr : rank f s = rank g s := cntTo_congr fun i hi => by rw [h i (by omega), h s hs]
  unfold codeOf numOf
  rw [first_congr h, hr, h s hs]
theorem symB_congr {f g : Nat → Nat} (h : ∀ i, i < 273 → f i = g i) {s : Nat} (hs : s < 273) : symB f s = symB g s := by
  unfold symB
  split
  · rw [code_congr (fun i hi => h i (by omega)) (by assumption), h s hs]
  · rw [code_congr (f := hiL f) (g := hiL g) (fun i hi => h (265 + i) (by omega)) (by omega), h s hs]
theorem tokB_congr {f g : Nat → Nat} (h : ∀ i, i < 273 → f i = g i) {t : Tok} (ht : TokOK t) : tokB f t = tokB g t := by
  unfold tokB
  rcases ht with ⟨h1, h2⟩ | ⟨h1, h2, h3, h4⟩
  · rw [if_pos h1, if_pos h1, symB_congr h (by omega)]
  · have := (dCode_facts h3 h4).1
    rw [if_neg (by omega), if_neg (by omega), symB_congr h (by omega), symB_congr h (by omega)]
theorem lawful_congr {c f g : Nat → Nat} (h : ∀ i, i < 273 → f i = g i) (L : LawfulL c f) : LawfulL c g :=
  ⟨fun i hi => by rw [← h i hi]; exact L.le i hi, fun i hi hc => by rw [← h i hi]; exact L.pos i hi hc, by rw [← check_congr fun i hi => h i (by omega)]; exact L.ca, by rw [← check_congr (f := hiL f) (g := hiL g) fun i hi => h (265 + i) (by omega)]; exact L.cb⟩

/-! ### Tokens -/
theorem copy_take {d : List Nat} {i back : Nat} (hb : 1 ≤ back) (hbi : back ≤ i) : ∀ n, i + n ≤ d.length → (∀ m, m < n → d.getD (i + m) 0 = d.getD (i + m - back) 0) → copyOut (d.take i) back n = d.take (i + n)
  | 0, _, _ => rfl
  | n + 1, hl, ha => by
    have ih := copy_take hb hbi n (by omega) (fun m hm => ha m (by omega))
    simp only [copyOut]
    rw [ih]
    have hlen : (d.take (i + n)).length = i + n := by simp; omega
    have hlt : i + n < d.length := by omega
    rw [hlen, ← Nat.add_assoc, List.take_succ_eq_append_getElem hlt]
    congr 2
    have h1 : (d.take (i + n)).getD (i + n - back) 0 = d.getD (i + n - back) 0 := by
      simp only [List.getD, List.getElem?_take]
      rw [if_pos (by omega)]
    rw [h1, ← ha n (by omega)]
    simp [List.getD, hlt]
theorem best_agree {s : List Nat} {i : Nat} (h : 3 ≤ (best s i).1) : ∀ m, m < (best s i).1 → s.getD (i + m) 0 = s.getD (i + m - (best s i).2) 0 := by
  rcases best_cases s i with e | ⟨h1, h2, h3, h4, h5, h6⟩
  · rw [e] at h; simp at h
  · intro m hm
    have hr := (upto_run (agree s i (best s i).2) 10).2.1 m (by rw [← h6] at hm; exact hm)
    unfold agree at hr
    simp only [Bool.and_eq_true, decide_eq_true_eq, beq_iff_eq] at hr
    exact hr.2

/-- Where the decoder stands in the midst of a coded block. -/
structure At (W : List Bool) (s : DS) (c : Nat) (l : Nat → Nat) (out : List Nat) : Prop where
  gd : GD W s
  ph : s.ph = 5
  cur : s.cur = c
  set : s.set = l
  out : s.out = out
  fin : s.fin = 1

theorem tok_run {c l : Nat → Nat} {A Z : List Bool} {t : Tok} {d : List Nat} {level i : Nat} {s : DS} (L : LawfulL c l) (hp : ∀ x ∈ symsOf t, 0 < c x) (ht : t = tokAt level d i) (hd : ∀ x ∈ d, x < 256) (hi : i < d.length) (hl : d.length ≤ 256)
    (h : At (A ++ (tokB l t ++ Z)) s A.length l (d.take i)) : ∃ s', At (A ++ (tokB l t ++ Z)) s' (A ++ tokB l t).length l (d.take (i + adv t)) ∧ D (A ++ (tokB l t ++ Z)) s = D (A ++ (tokB l t ++ Z)) s' := by
  obtain ⟨gd, ph, cur, set, out, fin⟩ := h
  have hto : TokOK t := by rw [ht]; exact tok_ok hd
  have L1 : Lens 265 l := lens_ok L.ca fun k hk => L.le k (by omega)
  have L2 : Lens 8 (hiL l) := lens_ok L.cb fun k hk => L.le (265 + k) (by omega)
  have hol : s.out.length = i := by rw [out]; simp; omega
  have hlit : t.1 = 0 → t.2.2 = d.getD i 0 ∧ adv t = 1 := fun h0 => by
    rw [ht] at h0 ⊢
    unfold tokAt at h0 ⊢
    by_cases hz : (pickAt level d i).1 = 0
    · rw [if_pos hz]; exact ⟨rfl, rfl⟩
    · rw [if_neg hz] at h0; exact absurd h0 hz
  have hmat : t.1 ≠ 0 → t.1 = (best d i).1 ∧ t.2.1 = (best d i).2 ∧ 3 ≤ (best d i).1 ∧ adv t = t.1 := fun h0 => by
    rw [ht] at h0 ⊢
    unfold tokAt at h0 ⊢
    by_cases hz : (pickAt level d i).1 = 0
    · rw [if_pos hz] at h0; exact absurd rfl h0
    · rw [if_neg hz]
      rcases pick_cases level d i with e | ⟨e, e2⟩
      · rw [e] at hz; exact absurd rfl hz
      · rw [e]
        refine ⟨rfl, rfl, e2, ?_⟩
        unfold adv
        rw [if_neg (by show ¬ (best d i).1 = 0; omega)]
  rcases hto with ⟨h1, h2⟩ | ⟨h1, h2, h3, h4⟩
  · obtain ⟨hv, ha⟩ := hlit h1
    have htB : tokB l t = bitsOf (codeOf 265 l t.2.2) (l t.2.2) := by unfold tokB; rw [if_pos h1, symB_lo (by omega)]
    have hpos := L.pos t.2.2 (by omega) (hp _ (by unfold symsOf; rw [if_pos h1]; simp))
    have hsy : symAt 265 s.set (A ++ (tokB l t ++ Z)) s.cur = (t.2.2, l t.2.2, 0) := by rw [set, htB]; exact sym_at L1 (by omega) hpos cur
    have hst : step (A ++ (tokB l t ++ Z)) s = (0, { s with out := s.out ++ [t.2.2], cur := s.cur + l t.2.2 }) := by
      rw [step5 ph]
      unfold stSym
      rw [hsy]
      rw [if_neg (by simp), if_neg (by show ¬ t.2.2 = 256; omega), if_pos h2, if_neg (by omega)]
    refine ⟨_, ⟨(step_good gd (by omega) hst).1, ph, ?_, set, ?_, fin⟩, D_step gd (by omega) hst⟩
    · show s.cur + l t.2.2 = _
      rw [List.length_append, htB, bitsOf_length, cur]
    · show s.out ++ [t.2.2] = _
      rw [out, ha, hv, List.take_succ_eq_append_getElem hi]
      simp [List.getD, hi]
  · obtain ⟨m1, m2, m3, m4⟩ := hmat (by omega)
    obtain ⟨d1, d2, d3⟩ := dCode_facts h3 h4
    have htB : tokB l t = bitsOf (codeOf 265 l (254 + t.1)) (l (254 + t.1)) ++ bitsOf (codeOf 8 (hiL l) (dCode t.2.1)) (hiL l (dCode t.2.1)) ++ bitsOf (t.2.1 - dBase (dCode t.2.1)) (dMore (dCode t.2.1)) := by
      unfold tokB; rw [if_neg (by omega), symB_lo (by omega), symB_hi]
    have hpos1 := L.pos (254 + t.1) (by omega) (hp _ (by unfold symsOf; rw [if_neg (by omega)]; simp))
    have hpos2 : 0 < hiL l (dCode t.2.1) := L.pos (265 + dCode t.2.1) (by omega) (hp _ (by unfold symsOf; rw [if_neg (by omega)]; simp))
    generalize hW : A ++ (tokB l t ++ Z) = W at *
    have w1 : W = A ++ (bitsOf (codeOf 265 l (254 + t.1)) (l (254 + t.1)) ++ (bitsOf (codeOf 8 (hiL l) (dCode t.2.1)) (hiL l (dCode t.2.1)) ++ (bitsOf (t.2.1 - dBase (dCode t.2.1)) (dMore (dCode t.2.1)) ++ Z))) := by rw [← hW, htB]; simp only [List.append_assoc]
    have w2 : W = (A ++ bitsOf (codeOf 265 l (254 + t.1)) (l (254 + t.1))) ++ (bitsOf (codeOf 8 (hiL l) (dCode t.2.1)) (hiL l (dCode t.2.1)) ++ (bitsOf (t.2.1 - dBase (dCode t.2.1)) (dMore (dCode t.2.1)) ++ Z)) := by rw [w1]; simp only [List.append_assoc]
    have w3 : W = (A ++ bitsOf (codeOf 265 l (254 + t.1)) (l (254 + t.1)) ++ bitsOf (codeOf 8 (hiL l) (dCode t.2.1)) (hiL l (dCode t.2.1))) ++ (bitsOf (t.2.1 - dBase (dCode t.2.1)) (dMore (dCode t.2.1)) ++ Z) := by rw [w1]; simp only [List.append_assoc]
    have hsy : symAt 265 s.set W s.cur = (254 + t.1, l (254 + t.1), 0) := by rw [set, w1]; exact sym_at L1 (by omega) hpos1 cur
    have hst : step W s = (0, { s with ph := 6, run := t.1, cur := s.cur + l (254 + t.1) }) := by
      rw [step5 ph]
      unfold stSym
      rw [hsy]
      rw [if_neg (by simp), if_neg (by show ¬ 254 + t.1 = 256; omega), if_neg (by show ¬ 254 + t.1 < 256; omega)]
      rw [show (254 + t.1, l (254 + t.1), 0).1 - 254 = t.1 from by show 254 + t.1 - 254 = t.1; omega]
    have gd1 := (step_good gd (by omega) hst).1
    have hD1 := D_step gd (by omega) hst
    have hsy2 : symAt 8 (hiL s.set) W (s.cur + l (254 + t.1)) = (dCode t.2.1, hiL l (dCode t.2.1), 0) := by rw [set, w2]; exact sym_at L2 d1 hpos2 (by rw [List.length_append, bitsOf_length, cur])
    have hst2 : step W { s with ph := 6, run := t.1, cur := s.cur + l (254 + t.1) } = (0, { s with ph := 7, run := t.1, dc := dCode t.2.1, cur := s.cur + l (254 + t.1) + hiL l (dCode t.2.1) }) := by
      rw [step6 rfl]
      unfold stDist
      dsimp only
      rw [hsy2]
      rw [if_neg (by simp)]
    have gd2 := (step_good gd1 (by simp) hst2).1
    have hD2 := hD1.trans (D_step gd1 (by simp) hst2)
    have hnum : num W (s.cur + l (254 + t.1) + hiL l (dCode t.2.1)) (dMore (dCode t.2.1)) = t.2.1 - dBase (dCode t.2.1) := by
      rw [w3]; exact num_at' d3 (by simp only [List.length_append, bitsOf_length]; omega)
    have hback : dBase (dCode t.2.1) + (t.2.1 - dBase (dCode t.2.1)) = t.2.1 := by omega
    have hfit := best_fit (s := d) (i := i) (by omega)
    have hbi : t.2.1 ≤ i := by
      rcases best_cases d i with e | ⟨_, _, _, _, q, _⟩
      · rw [e] at m3; simp at m3
      · omega
    have hlenW : W.length = A.length + l (254 + t.1) + hiL l (dCode t.2.1) + dMore (dCode t.2.1) + Z.length := by rw [w1]; simp only [List.length_append, bitsOf_length]; omega
    have hst3 : step W { s with ph := 7, run := t.1, dc := dCode t.2.1, cur := s.cur + l (254 + t.1) + hiL l (dCode t.2.1) } = (0, { s with ph := 5, run := t.1, dc := dCode t.2.1, out := copyOut s.out t.2.1 t.1, cur := s.cur + l (254 + t.1) + hiL l (dCode t.2.1) + dMore (dCode t.2.1) }) := by
      rw [step7 rfl]
      unfold stMore
      dsimp only
      rw [hnum, hback]
      rw [if_neg (by omega), if_neg (by omega), if_neg (by omega)]
    refine ⟨_, ⟨(step_good gd2 (by simp) hst3).1, rfl, ?_, set, ?_, fin⟩, hD2.trans (D_step gd2 (by simp) hst3)⟩
    · show s.cur + l (254 + t.1) + hiL l (dCode t.2.1) + dMore (dCode t.2.1) = _
      rw [List.length_append, htB]
      simp only [List.length_append, bitsOf_length]
      omega
    · show copyOut s.out t.2.1 t.1 = _
      rw [out, m4]
      exact copy_take h3 hbi t.1 (by omega) (by rw [m1, m2]; exact best_agree m3)

theorem toks_run {c l : Nat → Nat} {d : List Nat} {level : Nat} (L : LawfulL c l) (hd : ∀ x ∈ d, x < 256) (hl : d.length ≤ 256) : ∀ (k : Nat), (∀ t ∈ (pst level d k).2, ∀ x ∈ symsOf t, 0 < c x) → ∀ (A Z : List Bool) (s : DS), At (A ++ ((pst level d k).2.flatMap (tokB l) ++ Z)) s A.length l [] →
    ∃ s', At (A ++ ((pst level d k).2.flatMap (tokB l) ++ Z)) s' (A ++ (pst level d k).2.flatMap (tokB l)).length l (d.take (pst level d k).1) ∧ D (A ++ ((pst level d k).2.flatMap (tokB l) ++ Z)) s = D (A ++ ((pst level d k).2.flatMap (tokB l) ++ Z)) s'
  | 0, _, A, Z, s, h => ⟨s, by simpa [pst] using h, rfl⟩
  | k + 1, hp, A, Z, s, h => by
    by_cases hlt : (pst level d k).1 < d.length
    · have e : pst level d (k + 1) = ((pst level d k).1 + adv (tokAt level d (pst level d k).1), (pst level d k).2 ++ [tokAt level d (pst level d k).1]) := by simp only [pst]; rw [if_pos hlt]
      rw [e] at h hp ⊢
      dsimp only at h hp ⊢
      generalize ht : tokAt level d (pst level d k).1 = t at *
      have ew : A ++ (((pst level d k).2 ++ [t]).flatMap (tokB l) ++ Z) = A ++ ((pst level d k).2.flatMap (tokB l) ++ (tokB l t ++ Z)) := by rw [List.flatMap_append]; simp
      rw [ew] at h ⊢
      obtain ⟨s1, a1, hD1⟩ := toks_run L hd hl k (fun t' ht' => hp t' (by simp [ht'])) A (tokB l t ++ Z) s h
      rw [← List.append_assoc] at a1 hD1 ⊢
      obtain ⟨s2, a2, hD2⟩ := tok_run (level := level) L (hp t (by simp)) ht.symm hd hlt hl a1
      refine ⟨s2, ?_, hD1.trans hD2⟩
      have el : (A ++ ((pst level d k).2 ++ [t]).flatMap (tokB l)) = A ++ (pst level d k).2.flatMap (tokB l) ++ tokB l t := by rw [List.flatMap_append]; simp
      rw [el]
      exact a2
    · have e : pst level d (k + 1) = pst level d k := by simp only [pst]; rw [if_neg hlt]
      rw [e] at h hp ⊢
      exact toks_run L hd hl k hp A Z s h

/-- The end of a final block. -/
theorem end_run {c l : Nat → Nat} {W A Z : List Bool} {s : DS} {out : List Nat} (L : LawfulL c l) (hc : 0 < c 256) (hW : W = A ++ (symB l 256 ++ Z)) (h8 : W.length = syncN (A ++ symB l 256).length) (h : At W s A.length l out) : decodeS W s = (0, out) := by
  obtain ⟨gd, ph, cur, set, hout, fin⟩ := h
  have L1 : Lens 265 l := lens_ok L.ca fun k hk => L.le k (by omega)
  have hpos := L.pos 256 (by omega) hc
  have hsy : symAt 265 s.set W s.cur = (256, l 256, 0) := by rw [set, hW, symB_lo (by omega)]; exact sym_at L1 (by omega) hpos cur
  have hst : step W s = (0, shutD W { s with cur := s.cur + l 256 }) := by
    rw [step5 ph]
    unfold stSym
    rw [hsy]
    rw [if_neg (by simp), if_pos rfl]
  have hsh : shutD W { s with cur := s.cur + l 256 } = { s with ph := 8, cur := min (syncN (s.cur + l 256)) W.length } := by unfold shutD; rw [if_neg (by show ¬ s.fin = 0; omega)]
  have hcur : syncN (s.cur + l 256) = W.length := by rw [h8, List.length_append, symB_len, cur]
  unfold decodeS
  rw [D_step gd (by omega) hst, hsh, D_stop rfl]
  rw [if_neg (by simp), if_neg (by show ¬ min (syncN (s.cur + l 256)) W.length < W.length; omega), hout]

/-! ### The list of lengths -/
theorem items_run {l : Nat → Nat} (hle : ∀ i, i < 273 → l i ≤ 10) (hs0 : ∀ f, (∀ i, i < 273 → f i = l i) → setsE f = 0) : ∀ (k : Nat) (A Z : List Bool) (s : DS), GD (A ++ ((ist l k).2.flatMap itemB ++ Z)) s → s.ph = 4 → s.idx = 0 → s.cur = A.length →
    ∃ s', GD (A ++ ((ist l k).2.flatMap itemB ++ Z)) s' ∧ D (A ++ ((ist l k).2.flatMap itemB ++ Z)) s = D (A ++ ((ist l k).2.flatMap itemB ++ Z)) s' ∧ s'.cur = (A ++ (ist l k).2.flatMap itemB).length ∧ s'.out = s.out ∧ s'.fin = s.fin ∧
      (((ist l k).1 < 273 ∧ s'.ph = 4 ∧ s'.idx = (ist l k).1 ∧ ∀ i, i < (ist l k).1 → s'.ln i = l i) ∨ ((ist l k).1 = 273 ∧ s'.ph = 5 ∧ ∀ i, i < 273 → s'.set i = l i))
  | 0, A, Z, s, g, hp, hi, hc => ⟨s, g, rfl, by simpa [ist] using hc, rfl, rfl, .inl ⟨by simp [ist], hp, by simpa [ist] using hi, fun i hi => by simp [ist] at hi⟩⟩
  | k + 1, A, Z, s, g, hp, hi, hc => by
    have hil := ist_le l k
    by_cases hlt : (ist l k).1 < 273
    · have e : ist l (k + 1) = ((ist l k).1 + (itemAt l (ist l k).1).2, (ist l k).2 ++ [(itemAt l (ist l k).1).1]) := by simp only [ist]; rw [if_pos hlt]
      rw [e] at g ⊢
      dsimp only at g ⊢
      have had := item_adv l hlt
      have hok := item_ok hle hlt
      obtain ⟨r1, r2, r3, r4⟩ := run_facts l hlt
      have hl10 := hle _ hlt
      generalize hit : itemAt l (ist l k).1 = it at *
      have ew : A ++ (((ist l k).2 ++ [it.1]).flatMap itemB ++ Z) = A ++ ((ist l k).2.flatMap itemB ++ (itemB it.1 ++ Z)) := by rw [List.flatMap_append]; simp
      rw [ew] at g ⊢
      obtain ⟨s1, g1, hD1, hc1, ho1, hf1, hcase⟩ := items_run hle hs0 k A (itemB it.1 ++ Z) s g hp hi hc
      obtain ⟨_, p1, i1, a1⟩ := hcase.resolve_right (by omega)
      generalize hpos : (ist l k).1 = p at *
      have ew2 : A ++ ((ist l k).2.flatMap itemB ++ (itemB it.1 ++ Z)) = (A ++ (ist l k).2.flatMap itemB) ++ (bitsOf it.1.1 4 ++ (bitsOf it.1.2.1 it.1.2.2 ++ Z)) := by unfold itemB; simp only [List.append_assoc]
      have ew3 : A ++ ((ist l k).2.flatMap itemB ++ (itemB it.1 ++ Z)) = (A ++ (ist l k).2.flatMap itemB ++ bitsOf it.1.1 4) ++ (bitsOf it.1.2.1 it.1.2.2 ++ Z) := by rw [ew2]; simp only [List.append_assoc]
      have el : (A ++ ((ist l k).2 ++ [it.1]).flatMap itemB).length = s1.cur + 4 + it.1.2.2 := by rw [hc1, List.flatMap_append]; simp [itemB]; omega
      generalize hW : A ++ ((ist l k).2.flatMap itemB ++ (itemB it.1 ++ Z)) = W at *
      have n4 : num W s1.cur 4 = it.1.1 := by rw [ew2]; exact num_at' (by have := hok.1; omega) hc1
      have nm : num W (s1.cur + 4) it.1.2.2 = it.1.2.1 := by rw [ew3]; exact num_at' hok.2.2 (by rw [List.length_append, bitsOf_length, hc1])
      have hwl : s1.cur + 4 + it.1.2.2 ≤ W.length := by rw [ew2, hc1]; simp only [List.length_append, bitsOf_length]; omega
      rw [el]
      -- behind the item
      have fin : ∀ (s2 : DS), step W s1 = listEnd s2 → s2.cur = s1.cur + 4 + it.1.2.2 → s2.out = s1.out → s2.fin = s1.fin → s2.ph = 4 → s2.idx = p + it.2 → (∀ i, i < p + it.2 → s2.ln i = l i) → ∃ s', GD W s' ∧ D W s = D W s' ∧ s'.cur = s1.cur + 4 + it.1.2.2 ∧ s'.out = s.out ∧ s'.fin = s.fin ∧ ((p + it.2 < 273 ∧ s'.ph = 4 ∧ s'.idx = p + it.2 ∧ ∀ i, i < p + it.2 → s'.ln i = l i) ∨ (p + it.2 = 273 ∧ s'.ph = 5 ∧ ∀ i, i < 273 → s'.set i = l i)) := by
        intro s2 hst x1 x2 x3 x4 x5 x6
        unfold listEnd at hst
        by_cases hfull : p + it.2 < 273
        · rw [if_pos (by omega)] at hst
          exact ⟨s2, (step_good g1 (by omega) hst).1, hD1.trans (D_step g1 (by omega) hst), x1, x2.trans ho1, x3.trans hf1, .inl ⟨hfull, x4, x5, x6⟩⟩
        · have hz : setsE s2.ln = 0 := hs0 s2.ln fun i hi => x6 i (by omega)
          rw [if_neg (by omega), if_neg (by simpa using hz)] at hst
          exact ⟨_, (step_good g1 (by omega) hst).1, hD1.trans (D_step g1 (by omega) hst), x1, x2.trans ho1, x3.trans hf1, .inr ⟨by omega, rfl, fun i hi => x6 i (by omega)⟩⟩
      have hst := step4 (bits := W) p1
      unfold stList at hst
      rw [n4, if_neg (by omega)] at hst
      unfold itemAt at hit
      by_cases c1 : l p = 0 ∧ 3 ≤ runAt l p
      · rw [if_pos c1] at hit
        subst hit
        dsimp only at *
        rw [if_neg (by omega), if_neg (by omega), if_neg (by omega), if_neg (by omega)] at hst
        unfold stRun at hst
        rw [nm, if_neg (by omega)] at hst
        refine fin _ hst rfl rfl rfl p1 (by show s1.idx + _ = _; omega) fun i hi => ?_
        show fillL s1.ln s1.idx (3 + (min (runAt l p) 130 - 3)) 0 i = l i
        unfold fillL
        by_cases hi2 : s1.idx ≤ i ∧ i < s1.idx + (3 + (min (runAt l p) 130 - 3))
        · rw [if_pos hi2]
          have := r3 (i - p) (by omega)
          rw [show p + (i - p) = i from by omega] at this
          omega
        · rw [if_neg hi2]; exact a1 i (by omega)
      · rw [if_neg c1] at hit
        by_cases c2 : 0 < p ∧ l p = l (p - 1) ∧ 3 ≤ runAt l p
        · rw [if_pos c2] at hit
          subst hit
          dsimp only at *
          rw [if_neg (by omega), if_neg (by omega), if_pos rfl, if_neg (by omega), if_neg (by omega)] at hst
          unfold stRun at hst
          rw [nm, if_neg (by omega)] at hst
          refine fin _ hst rfl rfl rfl p1 (by show s1.idx + _ = _; omega) fun i hi => ?_
          show fillL s1.ln s1.idx (3 + (min (runAt l p) 6 - 3)) (s1.ln (s1.idx - 1)) i = l i
          unfold fillL
          by_cases hi2 : s1.idx ≤ i ∧ i < s1.idx + (3 + (min (runAt l p) 6 - 3))
          · rw [if_pos hi2, i1, a1 (p - 1) (by omega), ← c2.2.1]
            have := r3 (i - p) (by omega)
            rw [show p + (i - p) = i from by omega] at this
            omega
          · rw [if_neg hi2]; exact a1 i (by omega)
        · rw [if_neg c2] at hit
          subst hit
          dsimp only at *
          rw [if_pos (by omega)] at hst
          refine fin _ hst (by show s1.cur + 4 = _; omega) rfl rfl p1 (by show s1.idx + 1 = _; omega) fun i hi => ?_
          show fset s1.ln s1.idx (l p) i = l i
          unfold fset
          by_cases e : i = s1.idx
          · rw [if_pos e, e, i1]
          · rw [if_neg e]; exact a1 i (by omega)
    · have e : ist l (k + 1) = ist l k := by simp only [ist]; rw [if_neg hlt]
      rw [e] at g ⊢
      exact items_run hle hs0 k A Z s g hp hi hc
end Go.Proofs.Qxb6500563aGreat
