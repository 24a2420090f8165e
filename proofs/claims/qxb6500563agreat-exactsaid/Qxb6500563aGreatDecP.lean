/-
  The decoder, plain: a machine of small steps over a row of bits.
-/
import Derived.Test.Qxb6500563aGreatCodX
namespace Go.Proofs.Qxb6500563aGreat
open Go.Den Go.Zip
set_option linter.unusedVariables false
set_option linter.unusedSimpArgs false

/-- The number of the k bits at a place. -/
def num (bits : List Bool) (at_ k : Nat) : Nat := ofBits ((bits.drop at_).take k)
def fixL : Nat → Nat := fun s => if s < 247 then 8 else if s < 265 then 9 else 3
def dBase (c : Nat) : Nat := if c < 4 then c + 1 else if c < 6 then 5 + 2 * (c - 4) else 9 + 4 * (c - 6)
def dMore (c : Nat) : Nat := if c < 4 then 0 else if c < 6 then 1 else 2
def hiL (l : Nat → Nat) : Nat → Nat := fun i => l (265 + i)
def syncN (a : Nat) : Nat := (a + 7) / 8 * 8
/-- The machine's state: the phase (as in package stream), the cursor, the registers, the output so far. -/
structure DS where
  ph : Nat
  cur : Nat
  fin : Nat
  due : Nat
  idx : Nat
  run : Nat
  dc : Nat
  ln : Nat → Nat
  set : Nat → Nat
  out : List Nat
def initD : DS := ⟨0, 0, 0, 0, 0, 0, 0, fun _ => 0, fun _ => 0, []⟩

def shutD (bits : List Bool) (s : DS) : DS := if s.fin = 0 then { s with ph := 0 } else { s with ph := 8, cur := min (syncN s.cur) bits.length }
def setsE (l : Nat → Nat) : Nat := if checkE 265 l ≠ 0 then checkE 265 l else if checkE 8 (hiL l) ≠ 0 then checkE 8 (hiL l) else if l 256 = 0 then 8 else 0
def listEnd (s : DS) : Nat × DS := if s.idx < 273 then (0, s) else if setsE s.ln ≠ 0 then (setsE s.ln, s) else (0, { s with ph := 5, set := s.ln })
def copyOut (out : List Nat) (back : Nat) : Nat → List Nat
  | 0 => out
  | k + 1 => copyOut out back k ++ [(copyOut out back k).getD ((copyOut out back k).length - back) 0]
def fillL (f : Nat → Nat) (i k v : Nat) : Nat → Nat := fun t => if i ≤ t ∧ t < i + k then v else f t
/-- The symbol that the next bits show. -/
def symAt (n : Nat) (l : Nat → Nat) (bits : List Bool) (at_ : Nat) : Nat × Nat × Nat := findR n l (num bits at_ 10) (min 10 (bits.length - at_))

def stFinal (bits : List Bool) (s : DS) : Nat × DS := if bits.length < s.cur + 1 then (4, s) else (0, { s with ph := 1, fin := num bits s.cur 1, cur := s.cur + 1 })
def stKind (bits : List Bool) (s : DS) : Nat × DS :=
  if bits.length < s.cur + 2 then (4, s)
  else if num bits s.cur 2 = 0 then (0, { s with ph := 2, cur := min (syncN (s.cur + 2)) bits.length })
  else if num bits s.cur 2 = 1 then (0, { s with ph := 5, set := fixL, cur := s.cur + 2 })
  else if num bits s.cur 2 = 2 then (0, { s with ph := 4, idx := 0, cur := s.cur + 2 })
  else (5, s)
def stSize (bits : List Bool) (s : DS) : Nat × DS :=
  if bits.length < s.cur + 16 then (4, s)
  else if num bits s.cur 16 = 0 then (0, shutD bits { s with ph := 3, due := 0, cur := s.cur + 16 })
  else (0, { s with ph := 3, due := num bits s.cur 16, cur := s.cur + 16 })
def stByte (bits : List Bool) (s : DS) : Nat × DS :=
  if bits.length < s.cur + 8 then (4, s)
  else if 256 ≤ s.out.length then (10, s)
  else if s.due - 1 = 0 then (0, shutD bits { s with due := s.due - 1, out := s.out ++ [num bits s.cur 8], cur := s.cur + 8 })
  else (0, { s with due := s.due - 1, out := s.out ++ [num bits s.cur 8], cur := s.cur + 8 })
def stRun (bits : List Bool) (s : DS) (wide v : Nat) : Nat × DS :=
  if 273 < s.idx + (3 + num bits (s.cur + 4) wide) then (8, s)
  else listEnd { s with ln := fillL s.ln s.idx (3 + num bits (s.cur + 4) wide) v, idx := s.idx + (3 + num bits (s.cur + 4) wide), cur := s.cur + 4 + wide }
def stList (bits : List Bool) (s : DS) : Nat × DS :=
  if bits.length < s.cur + 4 then (4, s)
  else if num bits s.cur 4 ≤ 10 then listEnd { s with ln := fset s.ln s.idx (num bits s.cur 4), idx := s.idx + 1, cur := s.cur + 4 }
  else if 12 < num bits s.cur 4 then (8, s)
  else if num bits s.cur 4 = 12 then
    if bits.length < s.cur + 4 + 2 then (4, s) else if s.idx = 0 then (8, s) else stRun bits s 2 (s.ln (s.idx - 1))
  else
    if bits.length < s.cur + 4 + 7 then (4, s) else stRun bits s 7 0
def stSym (bits : List Bool) (s : DS) : Nat × DS :=
  if (symAt 265 s.set bits s.cur).2.2 ≠ 0 then ((symAt 265 s.set bits s.cur).2.2, s)
  else if (symAt 265 s.set bits s.cur).1 = 256 then (0, shutD bits { s with cur := s.cur + (symAt 265 s.set bits s.cur).2.1 })
  else if (symAt 265 s.set bits s.cur).1 < 256 then
    if 256 ≤ s.out.length then (10, s) else (0, { s with out := s.out ++ [(symAt 265 s.set bits s.cur).1], cur := s.cur + (symAt 265 s.set bits s.cur).2.1 })
  else (0, { s with ph := 6, run := (symAt 265 s.set bits s.cur).1 - 254, cur := s.cur + (symAt 265 s.set bits s.cur).2.1 })
def stDist (bits : List Bool) (s : DS) : Nat × DS :=
  if (symAt 8 (hiL s.set) bits s.cur).2.2 ≠ 0 then ((symAt 8 (hiL s.set) bits s.cur).2.2, s)
  else (0, { s with ph := 7, dc := (symAt 8 (hiL s.set) bits s.cur).1, cur := s.cur + (symAt 8 (hiL s.set) bits s.cur).2.1 })
def stMore (bits : List Bool) (s : DS) : Nat × DS :=
  if bits.length < s.cur + dMore s.dc then (4, s)
  else if s.out.length < dBase s.dc + num bits s.cur (dMore s.dc) then (9, s)
  else if 256 < s.out.length + s.run then (10, s)
  else (0, { s with ph := 5, out := copyOut s.out (dBase s.dc + num bits s.cur (dMore s.dc)) s.run, cur := s.cur + dMore s.dc })
def step (bits : List Bool) (s : DS) : Nat × DS :=
  if s.ph = 0 then stFinal bits s else if s.ph = 1 then stKind bits s else if s.ph = 2 then stSize bits s else if s.ph = 3 then stByte bits s else if s.ph = 4 then stList bits s
  else if s.ph = 5 then stSym bits s else if s.ph = 6 then stDist bits s else stMore bits s

/-- What holds of every state that is reached. -/
structure GD (bits : List Bool) (s : DS) : Prop where
  cur : s.cur ≤ bits.length
  ph : s.ph ≤ 8
  fin : s.fin ≤ 1
  lt : ∀ x ∈ s.out, x < 256
  olen : s.out.length ≤ 256
  due : s.ph = 3 → 1 ≤ s.due ∧ s.due < 65536
  idx : s.ph = 4 → s.idx < 273 ∧ ∀ i, i < s.idx → s.ln i ≤ 10
  set : 5 ≤ s.ph → s.ph ≤ 7 → setsE s.set = 0 ∧ ∀ i, i < 273 → s.set i ≤ 10
  run : 6 ≤ s.ph → s.ph ≤ 7 → 3 ≤ s.run ∧ s.run ≤ 10
  dc : s.ph = 7 → s.dc < 8
def mu (bits : List Bool) (s : DS) : Nat := 2 * (bits.length - s.cur) + if s.ph = 7 then 1 else 0

theorem num_lt' (bits : List Bool) (a k : Nat) : num bits a k < 2 ^ k := by
  unfold num
  have := ofBits_lt ((bits.drop a).take k)
  have h2 : 2 ^ ((bits.drop a).take k).length ≤ 2 ^ k := Nat.pow_le_pow_right (by omega) (by simp; omega)
  omega
theorem num_avail (bits : List Bool) (a k : Nat) : num bits a k < 2 ^ min k (bits.length - a) := by
  unfold num
  have := ofBits_lt ((bits.drop a).take k)
  simpa using this
theorem find_hit {n : Nat} {l : Nat → Nat} {a hv : Nat} (h : (findR n l a hv).2.2 = 0) : (findR n l a hv).1 < n ∧ (findR n l a hv).2.1 = l (findR n l a hv).1 ∧ hitB n l a hv (findR n l a hv).1 = true := by
  unfold findR at *
  cases e : hitTo n l a hv n with
  | some s =>
    have := hitTo_some e
    simp only
    exact ⟨this.1, by trivial, this.2⟩
  | none =>
    rw [e] at h
    simp only at h
    split at h <;> simp at h
theorem hit_facts {n : Nat} {l : Nat → Nat} {a hv s : Nat} (h : hitB n l a hv s = true) : 0 < l s ∧ l s ≤ hv ∧ a % 2 ^ l s = codeOf n l s := by
  unfold hitB at h
  simp only [Bool.and_eq_true, decide_eq_true_eq, beq_iff_eq] at h
  exact ⟨h.1.1, h.1.2, h.2⟩
theorem mod_mod_pow {a i j : Nat} (h : i ≤ j) : a % 2 ^ j % 2 ^ i = a % 2 ^ i := Nat.mod_mod_of_dvd a (Nat.pow_dvd_pow 2 h)
/-- More bits do not turn an answer but 'the input ends'. -/
theorem find_lift {n : Nat} {l : Nat → Nat} {a hv a' hv' : Nat} (L : Lens n l) (ha : a < 2 ^ hv) (hle : hv ≤ hv') (hm : a' % 2 ^ hv = a) (he : (findR n l a hv).2.2 ≠ 4) : findR n l a' hv' = findR n l a hv := by
  have up : ∀ s, hitB n l a hv s = true → hitB n l a' hv' s = true := fun s h => by
    obtain ⟨h1, h2, h3⟩ := hit_facts h
    unfold hitB
    simp only [Bool.and_eq_true, decide_eq_true_eq, beq_iff_eq]
    refine ⟨⟨h1, by omega⟩, ?_⟩
    rw [← h3, ← hm, mod_mod_pow h2]
  cases e : hitTo n l a hv n with
  | some s =>
    have hs := hitTo_some e
    have e1 : findR n l a hv = (s, l s, 0) := by unfold findR; rw [e]
    rw [e1]
    cases e' : hitTo n l a' hv' n with
    | none =>
      have := hitTo_none e' s hs.1
      rw [up s hs.2] at this
      cases this
    | some t =>
      have ht := hitTo_some e'
      have : t = s := by
        obtain ⟨x1, x2, x3⟩ := hit_facts ht.2
        obtain ⟨y1, y2, y3⟩ := hit_facts (up s hs.2)
        exact heads_uniq L ht.1 hs.1 ⟨x1, x3⟩ ⟨y1, y3⟩
      subst this
      unfold findR
      rw [e']
  | none =>
    have e1 : findR n l a hv = if openTo n l a hv n then (0, 0, 4) else (0, 0, 8) := by unfold findR; rw [e]
    have hop : openTo n l a hv n = false := by
      cases ho : openTo n l a hv n with
      | false => rfl
      | true => rw [e1, ho] at he; simp at he
    rw [e1, hop]
    have nohit : hitTo n l a' hv' n = none := by
      cases e' : hitTo n l a' hv' n with
      | none => rfl
      | some t =>
        have ht := hitTo_some e'
        obtain ⟨x1, x2, x3⟩ := hit_facts ht.2
        exfalso
        rcases Nat.lt_or_ge hv (l t) with hlt | hge
        · have : openTo n l a hv n = true := (openTo_iff n).2 ⟨t, ht.1, by
            unfold openB
            simp only [Bool.and_eq_true, decide_eq_true_eq, beq_iff_eq]
            refine ⟨hlt, ?_⟩
            rw [← x3, mod_mod_pow (by omega)]
            exact hm⟩
          rw [hop] at this; cases this
        · have := hitTo_none e t ht.1
          unfold hitB at this
          have hh : (a % 2 ^ l t == codeOf n l t) = true := by
            rw [beq_iff_eq, ← hm, mod_mod_pow hge]; exact x3
          rw [hh] at this
          simp at this
          omega
    have noopen : openTo n l a' hv' n = false := by
      cases ho : openTo n l a' hv' n with
      | false => rfl
      | true =>
        obtain ⟨t, ht, hb⟩ := (openTo_iff n).1 ho
        unfold openB at hb
        simp only [Bool.and_eq_true, decide_eq_true_eq, beq_iff_eq] at hb
        have : openTo n l a hv n = true := (openTo_iff n).2 ⟨t, ht, by
          unfold openB
          simp only [Bool.and_eq_true, decide_eq_true_eq, beq_iff_eq]
          refine ⟨by omega, ?_⟩
          rw [← hm, ← hb.2, mod_mod_pow hle]⟩
        rw [hop] at this; cases this
    unfold findR
    rw [nohit]
    simp [noopen]

theorem sets_lens {l : Nat → Nat} (h : setsE l = 0) (hl : ∀ i, i < 273 → l i ≤ 10) : checkE 265 l = 0 ∧ checkE 8 (hiL l) = 0 ∧ l 256 ≠ 0 ∧ Lens 265 l ∧ Lens 8 (hiL l) := by
  unfold setsE at h
  by_cases h1 : checkE 265 l = 0
  · rw [if_neg (by simpa using h1)] at h
    by_cases h2 : checkE 8 (hiL l) = 0
    · rw [if_neg (by simpa using h2)] at h
      by_cases h3 : l 256 = 0
      · rw [if_pos h3] at h; omega
      · exact ⟨h1, h2, h3, lens_ok h1 fun i hi => hl i (by omega), lens_ok h2 fun i hi => hl (265 + i) (by omega)⟩
    · rw [if_pos h2] at h; omega
  · rw [if_pos h1] at h; omega

/-! ### A row that goes on -/
theorem num_append {P Q : List Bool} {a k : Nat} (h : a + k ≤ P.length) : num (P ++ Q) a k = num P a k := by
  unfold num
  congr 1
  rw [List.drop_append_of_le_length (by omega), List.take_append_of_le_length (by simp; omega)]
theorem num_prefix {P Q : List Bool} {a k : Nat} (h : a ≤ P.length) : num (P ++ Q) a k % 2 ^ min k (P.length - a) = num P a k := by
  have e : num P a k = num P a (min k (P.length - a)) := by
    unfold num
    congr 1
    rw [List.take_eq_take_iff]
    simp
  rw [e]
  rw [show num P a (min k (P.length - a)) = num (P ++ Q) a (min k (P.length - a)) from (num_append (by omega)).symm]
  unfold num
  apply Nat.eq_of_testBit_eq
  intro t
  rw [Nat.testBit_mod_two_pow, ofBits_testBit, ofBits_testBit, List.getElem?_take, List.getElem?_take]
  by_cases h1 : t < min k (P.length - a)
  · rw [if_pos h1, if_pos (by omega)]; simp [h1]
  · rw [if_neg h1]; simp [h1]
theorem sym_lift {n : Nat} {l : Nat → Nat} {P Q : List Bool} {a : Nat} (L : Lens n l) (h : a ≤ P.length) (he : (symAt n l P a).2.2 ≠ 4) : symAt n l (P ++ Q) a = symAt n l P a := by
  unfold symAt at *
  exact find_lift L (num_avail P a 10) (by simp; omega) (num_prefix h) he
theorem sync_le {P : List Bool} {a : Nat} (h8 : P.length % 8 = 0) (h : a ≤ P.length) : syncN a ≤ P.length := by unfold syncN; omega
theorem shut_lift {P Q : List Bool} {s : DS} (h8 : P.length % 8 = 0) (h : s.cur ≤ P.length) : shutD (P ++ Q) s = shutD P s := by
  unfold shutD
  have := sync_le h8 h
  rw [Nat.min_eq_left this, Nat.min_eq_left (by simp; omega)]

theorem sym_bound {n : Nat} {l : Nat → Nat} {P : List Bool} {a : Nat} (h : a ≤ P.length) (he : (symAt n l P a).2.2 = 0) : (symAt n l P a).1 < n ∧ 0 < (symAt n l P a).2.1 ∧ a + (symAt n l P a).2.1 ≤ P.length ∧ (symAt n l P a).2.1 = l (symAt n l P a).1 ∧ (symAt n l P a).2.1 ≤ 10 := by
  unfold symAt at *
  obtain ⟨h1, h2, h3⟩ := find_hit he
  obtain ⟨h4, h5, h6⟩ := hit_facts h3
  omega

theorem step0 {bits : List Bool} {s : DS} (h : s.ph = 0) : step bits s = stFinal bits s := by unfold step; rw [if_pos h]
theorem step1 {bits : List Bool} {s : DS} (h : s.ph = 1) : step bits s = stKind bits s := by unfold step; rw [if_neg (by omega), if_pos h]
theorem step2 {bits : List Bool} {s : DS} (h : s.ph = 2) : step bits s = stSize bits s := by unfold step; rw [if_neg (by omega), if_neg (by omega), if_pos h]
theorem step3 {bits : List Bool} {s : DS} (h : s.ph = 3) : step bits s = stByte bits s := by unfold step; rw [if_neg (by omega), if_neg (by omega), if_neg (by omega), if_pos h]
theorem step4 {bits : List Bool} {s : DS} (h : s.ph = 4) : step bits s = stList bits s := by unfold step; rw [if_neg (by omega), if_neg (by omega), if_neg (by omega), if_neg (by omega), if_pos h]
theorem step5 {bits : List Bool} {s : DS} (h : s.ph = 5) : step bits s = stSym bits s := by unfold step; rw [if_neg (by omega), if_neg (by omega), if_neg (by omega), if_neg (by omega), if_neg (by omega), if_pos h]
theorem step6 {bits : List Bool} {s : DS} (h : s.ph = 6) : step bits s = stDist bits s := by unfold step; rw [if_neg (by omega), if_neg (by omega), if_neg (by omega), if_neg (by omega), if_neg (by omega), if_neg (by omega), if_pos h]
theorem step7 {bits : List Bool} {s : DS} (h : s.ph = 7) : step bits s = stMore bits s := by unfold step; rw [if_neg (by omega), if_neg (by omega), if_neg (by omega), if_neg (by omega), if_neg (by omega), if_neg (by omega), if_neg (by omega)]

theorem step_lift {P Q : List Bool} {s : DS} (g : GD P s) (hp : s.ph ≠ 8) (h8 : P.length % 8 = 0) (he : (step P s).1 ≠ 4) : step (P ++ Q) s = step P s := by
  have hc := g.cur
  have hl : (P ++ Q).length = P.length + Q.length := by simp
  by_cases h0 : s.ph = 0
  · rw [step0 h0] at he
    rw [step0 h0, step0 h0]
    unfold stFinal at *
    by_cases hx : P.length < s.cur + 1
    · rw [if_pos hx] at he; exact absurd rfl he
    · rw [if_neg hx, if_neg (by omega), num_append (by omega)]
  by_cases h1 : s.ph = 1
  · rw [step1 h1] at he
    rw [step1 h1, step1 h1]
    unfold stKind at *
    by_cases hx : P.length < s.cur + 2
    · rw [if_pos hx] at he; exact absurd rfl he
    · rw [if_neg hx, if_neg (by omega), num_append (by omega)]
      have := sync_le h8 (a := s.cur + 2) (by omega)
      rw [Nat.min_eq_left this, Nat.min_eq_left (by omega)]
  by_cases h2 : s.ph = 2
  · rw [step2 h2] at he
    rw [step2 h2, step2 h2]
    unfold stSize at *
    by_cases hx : P.length < s.cur + 16
    · rw [if_pos hx] at he; exact absurd rfl he
    · rw [if_neg hx, if_neg (by omega), num_append (by omega), shut_lift h8 (by show s.cur + 16 ≤ _; omega)]
  by_cases h3 : s.ph = 3
  · rw [step3 h3] at he
    rw [step3 h3, step3 h3]
    unfold stByte at *
    by_cases hx : P.length < s.cur + 8
    · rw [if_pos hx] at he; exact absurd rfl he
    · rw [if_neg hx, if_neg (by omega), num_append (by omega), shut_lift h8 (by show s.cur + 8 ≤ _; omega)]
  by_cases h4 : s.ph = 4
  · rw [step4 h4] at he
    rw [step4 h4, step4 h4]
    unfold stList at *
    by_cases hx : P.length < s.cur + 4
    · rw [if_pos hx] at he; exact absurd rfl he
    · rw [if_neg hx] at he
      rw [if_neg hx, if_neg (by omega), num_append (by omega)]
      by_cases ha : num P s.cur 4 ≤ 10
      · rw [if_pos ha, if_pos ha]
      · rw [if_neg ha] at he
        rw [if_neg ha, if_neg ha]
        by_cases hb : 12 < num P s.cur 4
        · rw [if_pos hb, if_pos hb]
        · rw [if_neg hb] at he
          rw [if_neg hb, if_neg hb]
          unfold stRun at *
          by_cases hd : num P s.cur 4 = 12
          · rw [if_pos hd] at he
            rw [if_pos hd, if_pos hd]
            by_cases hy : P.length < s.cur + 4 + 2
            · rw [if_pos hy] at he; exact absurd rfl he
            · rw [if_neg hy, if_neg (by omega), num_append (by omega)]
          · rw [if_neg hd] at he
            rw [if_neg hd, if_neg hd]
            by_cases hy : P.length < s.cur + 4 + 7
            · rw [if_pos hy] at he; exact absurd rfl he
            · rw [if_neg hy, if_neg (by omega), num_append (by omega)]
  have hs := g.set
  have hph := g.ph
  obtain ⟨c1, c2, c3, L1, L2⟩ := sets_lens (hs (by omega) (by omega)).1 (hs (by omega) (by omega)).2
  by_cases h5 : s.ph = 5
  · rw [step5 h5] at he
    rw [step5 h5, step5 h5]
    unfold stSym at *
    have h4' : (symAt 265 s.set P s.cur).2.2 ≠ 4 := by
      intro e
      rw [if_pos (by omega)] at he; dsimp only at he
      exact he e
    rw [sym_lift L1 hc h4']
    by_cases h0' : (symAt 265 s.set P s.cur).2.2 = 0
    · have hb := sym_bound hc h0'
      rw [shut_lift h8 (by show s.cur + _ ≤ _; omega)]
    · rw [if_pos h0', if_pos h0']
  by_cases h6 : s.ph = 6
  · rw [step6 h6] at he
    rw [step6 h6, step6 h6]
    unfold stDist at *
    have h4' : (symAt 8 (hiL s.set) P s.cur).2.2 ≠ 4 := by
      intro e
      rw [if_pos (by omega)] at he; dsimp only at he
      exact he e
    rw [sym_lift L2 hc h4']
  have h7 : s.ph = 7 := by omega
  rw [step7 h7] at he
  rw [step7 h7, step7 h7]
  unfold stMore at *
  by_cases hx : P.length < s.cur + dMore s.dc
  · rw [if_pos hx] at he; exact absurd rfl he
  · rw [if_neg hx, if_neg (by omega), num_append (by omega)]

/-! ### The states that are reached -/
theorem mu_le {bits : List Bool} {s : DS} : 2 * (bits.length - s.cur) ≤ mu bits s := by unfold mu; omega
theorem mu_ge {bits : List Bool} {s : DS} : mu bits s ≤ 2 * (bits.length - s.cur) + 1 := by unfold mu; split <;> omega
theorem shut_good {bits : List Bool} {s : DS} (h1 : s.cur ≤ bits.length) (h2 : s.fin ≤ 1) (h3 : ∀ x ∈ s.out, x < 256) (h4 : s.out.length ≤ 256) : GD bits (shutD bits s) ∧ s.cur ≤ (shutD bits s).cur ∧ (shutD bits s).ph ≠ 7 := by
  unfold shutD
  by_cases hf : s.fin = 0
  · rw [if_pos hf]
    exact ⟨⟨h1, by simp, h2, h3, h4, fun h => by simp at h, fun h => by simp at h, fun h => by simp at h, fun h => by simp at h, fun h => by simp at h⟩, Nat.le_refl _, by simp⟩
  · rw [if_neg hf]
    refine ⟨⟨?_, by simp, h2, h3, h4, fun h => by simp at h, fun h => by simp at h, fun h h' => by simp at h', fun h h' => by simp at h', fun h => by simp at h⟩, ?_, by simp⟩
    · show min (syncN s.cur) bits.length ≤ bits.length; omega
    · show s.cur ≤ min (syncN s.cur) bits.length; unfold syncN; omega
theorem listEnd_good {bits : List Bool} {s s' : DS} (h : listEnd s = (0, s')) (hp : s.ph = 4) (h1 : s.cur ≤ bits.length) (h2 : s.fin ≤ 1) (h3 : ∀ x ∈ s.out, x < 256) (h4 : s.out.length ≤ 256) (hi : s.idx ≤ 273) (hl : ∀ i, i < s.idx → s.ln i ≤ 10) :
    GD bits s' ∧ s'.cur = s.cur ∧ s'.ph ≠ 7 := by
  unfold listEnd at h
  by_cases hd : s.idx < 273
  · rw [if_pos hd] at h
    obtain rfl : s = s' := by simpa using h
    exact ⟨⟨h1, by omega, h2, h3, h4, fun h => by omega, fun _ => ⟨hd, hl⟩, fun h => by omega, fun h => by omega, fun h => by omega⟩, rfl, by omega⟩
  · rw [if_neg hd] at h
    by_cases he : setsE s.ln = 0
    · rw [if_neg (by simpa using he)] at h
      obtain rfl : ({ s with ph := 5, set := s.ln } : DS) = s' := by simpa using h
      exact ⟨⟨h1, by simp, h2, h3, h4, fun h => by simp at h, fun h => by simp at h, fun _ _ => ⟨he, fun i hi => hl i (by omega)⟩, fun h => by simp at h, fun h => by simp at h⟩, rfl, by simp⟩
    · rw [if_pos he] at h
      simp at h
      omega
theorem copyOut_len (out : List Nat) (back : Nat) : ∀ k, (copyOut out back k).length = out.length + k
  | 0 => rfl
  | k + 1 => by simp only [copyOut, List.length_append, copyOut_len out back k, List.length_cons, List.length_nil]; omega
theorem getD_mem {l : List Nat} {i : Nat} {p : Nat → Prop} (h : ∀ x ∈ l, p x) (h0 : p 0) : p (l.getD i 0) := by
  rcases Nat.lt_or_ge i l.length with hi | hi
  · simp [List.getD, hi]; exact h _ (List.getElem_mem hi)
  · simp [List.getD, hi]; exact h0
theorem copyOut_lt {out : List Nat} (back : Nat) (h : ∀ x ∈ out, x < 256) : ∀ k, ∀ x ∈ copyOut out back k, x < 256
  | 0 => h
  | k + 1 => fun x hx => by
    simp only [copyOut, List.mem_append, List.mem_cons, List.not_mem_nil, or_false] at hx
    rcases hx with hx | hx
    · exact copyOut_lt back h k x hx
    · subst hx
      exact getD_mem (p := fun x => x < 256) (copyOut_lt back h k) (by omega)
theorem fix_le : ∀ i, fixL i ≤ 10 := fun i => by unfold fixL; split <;> (try split) <;> omega
set_option maxRecDepth 100000 in
theorem fix_sets : setsE fixL = 0 := by decide +kernel

theorem step_good {bits : List Bool} {s s' : DS} (g : GD bits s) (hp : s.ph ≠ 8) (h : step bits s = (0, s')) : GD bits s' ∧ mu bits s' < mu bits s := by
  obtain ⟨h1, hph, h2, h3, h4, hdue, hidx, hset, hrun, hdc⟩ := g
  have ml := mu_le (bits := bits) (s := s)
  -- a step that moves the cursor on
  have fwd : ∀ t : DS, GD bits t → s.cur + 1 ≤ t.cur → t.ph ≠ 7 ∨ s.cur + 2 ≤ t.cur ∨ True → mu bits t < mu bits s := fun t gt hc _ => by
    have := gt.cur
    have m2 := mu_ge (bits := bits) (s := t)
    omega
  unfold step at h
  by_cases p0 : s.ph = 0
  · rw [if_pos p0] at h
    unfold stFinal at h
    by_cases hx : bits.length < s.cur + 1
    · rw [if_pos hx] at h; simp at h
    · rw [if_neg hx] at h
      obtain rfl : ({ s with ph := 1, fin := num bits s.cur 1, cur := s.cur + 1 } : DS) = s' := by simpa using h
      have hn := num_lt' bits s.cur 1
      have gd : GD bits { s with ph := 1, fin := num bits s.cur 1, cur := s.cur + 1 } := ⟨by show s.cur + 1 ≤ _; omega, by simp, by show num bits s.cur 1 ≤ 1; omega, h3, h4, fun h => by simp at h, fun h => by simp at h, fun h => by simp at h, fun h => by simp at h, fun h => by simp at h⟩
      exact ⟨gd, fwd _ gd (Nat.le_refl _) (.inr (.inr trivial))⟩
  rw [if_neg p0] at h
  by_cases p1 : s.ph = 1
  · rw [if_pos p1] at h
    unfold stKind at h
    by_cases hx : bits.length < s.cur + 2
    · rw [if_pos hx] at h; simp at h
    rw [if_neg hx] at h
    by_cases k0 : num bits s.cur 2 = 0
    · rw [if_pos k0] at h
      obtain rfl : ({ s with ph := 2, cur := min (syncN (s.cur + 2)) bits.length } : DS) = s' := by simpa using h
      have hs : s.cur + 2 ≤ min (syncN (s.cur + 2)) bits.length := by unfold syncN; omega
      have gd : GD bits { s with ph := 2, cur := min (syncN (s.cur + 2)) bits.length } := ⟨by show min _ _ ≤ _; omega, by simp, h2, h3, h4, fun h => by simp at h, fun h => by simp at h, fun h => by simp at h, fun h => by simp at h, fun h => by simp at h⟩
      exact ⟨gd, fwd _ gd (by show s.cur + 1 ≤ min _ _; omega) (.inr (.inr trivial))⟩
    rw [if_neg k0] at h
    by_cases k1 : num bits s.cur 2 = 1
    · rw [if_pos k1] at h
      obtain rfl : ({ s with ph := 5, set := fixL, cur := s.cur + 2 } : DS) = s' := by simpa using h
      have gd : GD bits { s with ph := 5, set := fixL, cur := s.cur + 2 } := ⟨by show s.cur + 2 ≤ _; omega, by simp, h2, h3, h4, fun h => by simp at h, fun h => by simp at h, fun _ _ => ⟨fix_sets, fun i _ => fix_le i⟩, fun h => by simp at h, fun h => by simp at h⟩
      exact ⟨gd, fwd _ gd (by show s.cur + 1 ≤ s.cur + 2; omega) (.inr (.inr trivial))⟩
    rw [if_neg k1] at h
    by_cases k2 : num bits s.cur 2 = 2
    · rw [if_pos k2] at h
      obtain rfl : ({ s with ph := 4, idx := 0, cur := s.cur + 2 } : DS) = s' := by simpa using h
      have gd : GD bits { s with ph := 4, idx := 0, cur := s.cur + 2 } := ⟨by show s.cur + 2 ≤ _; omega, by simp, h2, h3, h4, fun h => by simp at h, fun _ => ⟨by show 0 < 273; omega, fun i hi => by simp at hi⟩, fun h => by simp at h, fun h => by simp at h, fun h => by simp at h⟩
      exact ⟨gd, fwd _ gd (by show s.cur + 1 ≤ s.cur + 2; omega) (.inr (.inr trivial))⟩
    rw [if_neg k2] at h
    simp at h
  rw [if_neg p1] at h
  by_cases p2 : s.ph = 2
  · rw [if_pos p2] at h
    unfold stSize at h
    by_cases hx : bits.length < s.cur + 16
    · rw [if_pos hx] at h; simp at h
    rw [if_neg hx] at h
    by_cases k0 : num bits s.cur 16 = 0
    · rw [if_pos k0] at h
      obtain rfl : shutD bits { s with ph := 3, due := 0, cur := s.cur + 16 } = s' := by simpa using h
      obtain ⟨a1, a2, a3⟩ := shut_good (bits := bits) (s := { s with ph := 3, due := 0, cur := s.cur + 16 }) (by show s.cur + 16 ≤ _; omega) h2 h3 h4
      have a2 : s.cur + 16 ≤ _ := a2
      exact ⟨a1, fwd _ a1 (by omega) (.inr (.inr trivial))⟩
    · rw [if_neg k0] at h
      obtain rfl : ({ s with ph := 3, due := num bits s.cur 16, cur := s.cur + 16 } : DS) = s' := by simpa using h
      have hn : num bits s.cur 16 < 65536 := num_lt' bits s.cur 16
      have gd : GD bits { s with ph := 3, due := num bits s.cur 16, cur := s.cur + 16 } := ⟨by show s.cur + 16 ≤ _; omega, by simp, h2, h3, h4, fun _ => ⟨by show 1 ≤ num _ _ _; omega, hn⟩, fun h => by simp at h, fun h => by simp at h, fun h => by simp at h, fun h => by simp at h⟩
      exact ⟨gd, fwd _ gd (by show s.cur + 1 ≤ s.cur + 16; omega) (.inr (.inr trivial))⟩
  rw [if_neg p2] at h
  by_cases p3 : s.ph = 3
  · rw [if_pos p3] at h
    unfold stByte at h
    by_cases hx : bits.length < s.cur + 8
    · rw [if_pos hx] at h; simp at h
    rw [if_neg hx] at h
    by_cases ho : 256 ≤ s.out.length
    · rw [if_pos ho] at h; simp at h
    rw [if_neg ho] at h
    have hd := hdue p3
    have hn : num bits s.cur 8 < 256 := num_lt' bits s.cur 8
    have h3' : ∀ x ∈ s.out ++ [num bits s.cur 8], x < 256 := fun x hx => by
      simp only [List.mem_append, List.mem_cons, List.not_mem_nil, or_false] at hx
      rcases hx with hx | hx
      · exact h3 x hx
      · omega
    have h4' : (s.out ++ [num bits s.cur 8]).length ≤ 256 := by simp; omega
    by_cases k0 : s.due - 1 = 0
    · rw [if_pos k0] at h
      obtain rfl : shutD bits { s with due := s.due - 1, out := s.out ++ [num bits s.cur 8], cur := s.cur + 8 } = s' := by simpa using h
      obtain ⟨a1, a2, a3⟩ := shut_good (bits := bits) (s := { s with due := s.due - 1, out := s.out ++ [num bits s.cur 8], cur := s.cur + 8 }) (by show s.cur + 8 ≤ _; omega) h2 h3' h4'
      have a2 : s.cur + 8 ≤ _ := a2
      exact ⟨a1, fwd _ a1 (by omega) (.inr (.inr trivial))⟩
    · rw [if_neg k0] at h
      obtain rfl : ({ s with due := s.due - 1, out := s.out ++ [num bits s.cur 8], cur := s.cur + 8 } : DS) = s' := by simpa using h
      have gd : GD bits { s with due := s.due - 1, out := s.out ++ [num bits s.cur 8], cur := s.cur + 8 } := ⟨by show s.cur + 8 ≤ _; omega, hph, h2, h3', h4', fun _ => ⟨by show 1 ≤ s.due - 1; omega, by show s.due - 1 < _; omega⟩, fun h => by have h : s.ph = 4 := h; omega, fun h => by have h : 5 ≤ s.ph := h; omega, fun h => by have h : 6 ≤ s.ph := h; omega, fun h => by have h : s.ph = 7 := h; omega⟩
      exact ⟨gd, fwd _ gd (by show s.cur + 1 ≤ s.cur + 8; omega) (.inr (.inr trivial))⟩
  rw [if_neg p3] at h
  by_cases p4 : s.ph = 4
  · rw [if_pos p4] at h
    obtain ⟨i1, i2⟩ := hidx p4
    unfold stList at h
    by_cases hx : bits.length < s.cur + 4
    · rw [if_pos hx] at h; simp at h
    rw [if_neg hx] at h
    by_cases ha : num bits s.cur 4 ≤ 10
    · rw [if_pos ha] at h
      obtain ⟨a1, a2, a3⟩ := listEnd_good (bits := bits) h p4 (by show s.cur + 4 ≤ _; omega) h2 h3 h4 (by show s.idx + 1 ≤ _; omega) (fun i hi => by
        show fset s.ln s.idx (num bits s.cur 4) i ≤ 10
        have hi : i < s.idx + 1 := hi
        unfold fset
        split
        · exact ha
        · exact i2 i (by omega))
      have a2 : s'.cur = s.cur + 4 := a2
      exact ⟨a1, fwd _ a1 (by omega) (.inr (.inr trivial))⟩
    rw [if_neg ha] at h
    by_cases hb : 12 < num bits s.cur 4
    · rw [if_pos hb] at h; simp at h
    rw [if_neg hb] at h
    have rn : ∀ wide v, v ≤ 10 → s.cur + 4 + wide ≤ bits.length → stRun bits s wide v = (0, s') → GD bits s' ∧ mu bits s' < mu bits s := by
      intro wide v hv hw hr
      unfold stRun at hr
      by_cases ht : 273 < s.idx + (3 + num bits (s.cur + 4) wide)
      · rw [if_pos ht] at hr; simp at hr
      · rw [if_neg ht] at hr
        obtain ⟨a1, a2, a3⟩ := listEnd_good (bits := bits) hr p4 hw h2 h3 h4 (by show s.idx + (3 + num bits (s.cur + 4) wide) ≤ _; omega) (fun i hi => by
          show fillL s.ln s.idx (3 + num bits (s.cur + 4) wide) v i ≤ 10
          have hi : i < s.idx + (3 + num bits (s.cur + 4) wide) := hi
          unfold fillL
          by_cases hge : s.idx ≤ i
          · rw [if_pos ⟨hge, hi⟩]; exact hv
          · rw [if_neg (by omega)]; exact i2 i (by omega))
        have a2 : s'.cur = s.cur + 4 + wide := a2
        exact ⟨a1, fwd _ a1 (by omega) (.inr (.inr trivial))⟩
    by_cases hd : num bits s.cur 4 = 12
    · rw [if_pos hd] at h
      by_cases hy : bits.length < s.cur + 4 + 2
      · rw [if_pos hy] at h; simp at h
      rw [if_neg hy] at h
      by_cases hz : s.idx = 0
      · rw [if_pos hz] at h; simp at h
      rw [if_neg hz] at h
      exact rn 2 _ (i2 _ (by omega)) (by omega) h
    · rw [if_neg hd] at h
      by_cases hy : bits.length < s.cur + 4 + 7
      · rw [if_pos hy] at h; simp at h
      rw [if_neg hy] at h
      exact rn 7 0 (by omega) (by omega) h
  rw [if_neg p4] at h
  have hS := hset (by omega) (by omega)
  by_cases p5 : s.ph = 5
  · rw [if_pos p5] at h
    unfold stSym at h
    by_cases he : (symAt 265 s.set bits s.cur).2.2 = 0
    · rw [if_neg (by simpa using he)] at h
      obtain ⟨b1, b2, b3, b4, b5⟩ := sym_bound h1 he
      generalize symAt 265 s.set bits s.cur = r at *
      by_cases k0 : r.1 = 256
      · rw [if_pos k0] at h
        obtain rfl : shutD bits { s with cur := s.cur + r.2.1 } = s' := by simpa using h
        obtain ⟨a1, a2, a3⟩ := shut_good (bits := bits) (s := { s with cur := s.cur + r.2.1 }) b3 h2 h3 h4
        have a2 : s.cur + r.2.1 ≤ _ := a2
        exact ⟨a1, fwd _ a1 (by omega) (.inr (.inr trivial))⟩
      rw [if_neg k0] at h
      by_cases k1 : r.1 < 256
      · rw [if_pos k1] at h
        by_cases ho : 256 ≤ s.out.length
        · rw [if_pos ho] at h; simp at h
        rw [if_neg ho] at h
        obtain rfl : ({ s with out := s.out ++ [r.1], cur := s.cur + r.2.1 } : DS) = s' := by simpa using h
        have gd : GD bits { s with out := s.out ++ [r.1], cur := s.cur + r.2.1 } := ⟨b3, hph, h2, fun x hx => by
          simp only [List.mem_append, List.mem_cons, List.not_mem_nil, or_false] at hx
          rcases hx with hx | hx
          · exact h3 x hx
          · omega, by simp; omega, fun h => by have h : s.ph = 3 := h; omega, fun h => by have h : s.ph = 4 := h; omega, fun _ _ => hS, fun h => by have h : 6 ≤ s.ph := h; omega, fun h => by have h : s.ph = 7 := h; omega⟩
        exact ⟨gd, fwd _ gd (by show s.cur + 1 ≤ s.cur + r.2.1; omega) (.inr (.inr trivial))⟩
      · rw [if_neg k1] at h
        obtain rfl : ({ s with ph := 6, run := r.1 - 254, cur := s.cur + r.2.1 } : DS) = s' := by simpa using h
        have gd : GD bits { s with ph := 6, run := r.1 - 254, cur := s.cur + r.2.1 } := ⟨b3, by simp, h2, h3, h4, fun h => by simp at h, fun h => by simp at h, fun _ _ => hS, fun _ _ => ⟨by show 3 ≤ r.1 - 254; omega, by show r.1 - 254 ≤ 10; omega⟩, fun h => by simp at h⟩
        exact ⟨gd, fwd _ gd (by show s.cur + 1 ≤ s.cur + r.2.1; omega) (.inr (.inr trivial))⟩
    · rw [if_pos he] at h
      simp at h
      exact absurd h.1 he
  rw [if_neg p5] at h
  by_cases p6 : s.ph = 6
  · rw [if_pos p6] at h
    unfold stDist at h
    by_cases he : (symAt 8 (hiL s.set) bits s.cur).2.2 = 0
    · rw [if_neg (by simpa using he)] at h
      obtain ⟨b1, b2, b3, b4, b5⟩ := sym_bound h1 he
      generalize symAt 8 (hiL s.set) bits s.cur = r at *
      obtain rfl : ({ s with ph := 7, dc := r.1, cur := s.cur + r.2.1 } : DS) = s' := by simpa using h
      have gd : GD bits { s with ph := 7, dc := r.1, cur := s.cur + r.2.1 } := ⟨b3, by simp, h2, h3, h4, fun h => by simp at h, fun h => by simp at h, fun _ _ => hS, fun _ _ => hrun (by omega) (by omega), fun _ => b1⟩
      exact ⟨gd, fwd _ gd (by show s.cur + 1 ≤ s.cur + r.2.1; omega) (.inr (.inr trivial))⟩
    · rw [if_pos he] at h
      simp at h
      exact absurd h.1 he
  rw [if_neg p6] at h
  have p7 : s.ph = 7 := by omega
  unfold stMore at h
  by_cases hx : bits.length < s.cur + dMore s.dc
  · rw [if_pos hx] at h; simp at h
  rw [if_neg hx] at h
  by_cases hd : s.out.length < dBase s.dc + num bits s.cur (dMore s.dc)
  · rw [if_pos hd] at h; simp at h
  rw [if_neg hd] at h
  by_cases ho : 256 < s.out.length + s.run
  · rw [if_pos ho] at h; simp at h
  rw [if_neg ho] at h
  obtain rfl : ({ s with ph := 5, out := copyOut s.out (dBase s.dc + num bits s.cur (dMore s.dc)) s.run, cur := s.cur + dMore s.dc } : DS) = s' := by simpa using h
  refine ⟨⟨by show s.cur + dMore s.dc ≤ _; omega, by simp, h2, copyOut_lt _ h3 _, by show (copyOut _ _ _).length ≤ 256; rw [copyOut_len]; omega, fun h => by simp at h, fun h => by simp at h, fun _ _ => hS, fun h => by simp at h, fun h => by simp at h⟩, ?_⟩
  unfold mu
  rw [if_pos p7]
  show 2 * (bits.length - (s.cur + dMore s.dc)) + (if 5 = 7 then 1 else 0) < _
  rw [if_neg (by omega)]
  omega

/-! ### The whole run -/
def runD (bits : List Bool) : Nat → DS → Nat × DS
  | 0, s => (0, s)
  | k + 1, s => if s.ph = 8 then (0, s) else if (step bits s).1 ≠ 0 then ((step bits s).1, s) else runD bits k (step bits s).2
/-- The machine's answer from a state on: the error and the last state. -/
def D (bits : List Bool) (s : DS) : Nat × DS := runD bits (mu bits s + 1) s
theorem runD_fuel {bits : List Bool} : ∀ (k : Nat) (s : DS) (m : Nat), GD bits s → mu bits s < k → mu bits s < m → runD bits k s = runD bits m s
  | 0, s, m, g, h1, h2 => by omega
  | k + 1, s, 0, g, h1, h2 => by omega
  | k + 1, s, m + 1, g, h1, h2 => by
    simp only [runD]
    by_cases h8 : s.ph = 8
    · rw [if_pos h8, if_pos h8]
    · rw [if_neg h8, if_neg h8]
      by_cases he : (step bits s).1 = 0
      · rw [if_neg (by simpa using he), if_neg (by simpa using he)]
        obtain ⟨g', hm⟩ := step_good g h8 (show step bits s = (0, (step bits s).2) from by rw [← he])
        exact runD_fuel k _ m g' (by omega) (by omega)
      · rw [if_pos he, if_pos he]
theorem D_stop {bits : List Bool} {s : DS} (h : s.ph = 8) : D bits s = (0, s) := by unfold D; simp only [runD]; rw [if_pos h]
theorem D_err {bits : List Bool} {s : DS} (h : s.ph ≠ 8) (he : (step bits s).1 ≠ 0) : (D bits s).1 = (step bits s).1 := by unfold D; simp only [runD]; rw [if_neg h, if_pos he]
theorem D_step {bits : List Bool} {s s' : DS} (g : GD bits s) (h : s.ph ≠ 8) (he : step bits s = (0, s')) : D bits s = D bits s' := by
  obtain ⟨g', hm⟩ := step_good g h he
  unfold D
  rw [show runD bits (mu bits s + 1) s = runD bits (mu bits s) s' from by
    simp only [runD]
    rw [if_neg h, he]
    simp]
  exact runD_fuel _ _ _ g' hm (by omega)
theorem init_good (bits : List Bool) : GD bits initD := ⟨by simp [initD], by simp [initD], by simp [initD], fun x hx => by simp [initD] at hx, by simp [initD], fun h => by simp [initD] at h, fun h => by simp [initD] at h, fun h => by simp [initD] at h, fun h => by simp [initD] at h, fun h => by simp [initD] at h⟩
/-- The decoder's answer: the error, the bytes. -/
def decode (bits : List Bool) : Nat × List Nat :=
  if (D bits initD).1 ≠ 0 then ((D bits initD).1, []) else if (D bits initD).2.cur < bits.length then (11, []) else (0, (D bits initD).2.out)
end Go.Proofs.Qxb6500563aGreat
