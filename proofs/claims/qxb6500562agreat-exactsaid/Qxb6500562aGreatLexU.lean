/-
  The real lexer: feed and begin.
-/
import Derived.Test.Qxb6500562aGreatLexQ
namespace Go.Proofs.Qxb6500562aGreat
open Go.Den Go.Zip
set_option linter.unusedVariables false
set_option linter.unusedSimpArgs false
variable {w w' : World} {l g n : Nat} {ts : List Tok} {state start first val fail opn : Nat} {r : List Nat} {i c : Nat}

theorem upto_pos {P : Nat → Bool} {lim : Nat} (h : P 0 = true) (hl : 0 < lim) : 0 < upto P lim := by
  rcases Nat.eq_zero_or_pos (upto P lim) with h0 | h0
  · have := (upto_run P lim).2.2 (by omega)
    rw [h0, h] at this; cases this
  · exact h0
theorem lexAt_adv (hi : i < r.length) (he : (lexAt r i).2.2 = 0) : (lexAt r i).2.1.length ≤ (lexAt r i).1 ∧ 1 ≤ (lexAt r i).1 := by
  unfold lexAt at he ⊢
  split
  · simp
  · split
    · rename_i h35
      have := upto_pos (P := fun m => r.getD (i + m) 0 != 10) (lim := r.length - i) (by simp only [Nat.add_zero, h35]; rfl) (by omega)
      exact ⟨Nat.zero_le _, this⟩
    · split
      · rename_i hL
        have := upto_pos (P := fun m => isW (r.getD (i + m) 0)) (lim := r.length - i) (by simp only [Nat.add_zero, isW, hL]; rfl) (by omega)
        split
        · rename_i h8
          rw [if_neg (by assumption), if_neg (by assumption), if_pos hL, if_pos h8] at he
          cases he
        · exact ⟨this, this⟩
      · split
        · rename_i hD
          have := upto_pos (P := fun m => isD (r.getD (i + m) 0)) (lim := r.length - i) (by simp only [Nat.add_zero, hD]) (by omega)
          split
          · exact ⟨this, this⟩
          · rename_i hv
            rw [if_neg (by assumption), if_neg (by assumption), if_neg (by assumption), if_pos hD, hv] at he
            cases he
        · split
          · simp
          · split
            · simp
            · rename_i h1 h2 h3 h4 h5 h6
              rw [if_neg h1, if_neg h2, if_neg h3, if_neg h4, if_neg h5, if_neg h6] at he
              cases he
theorem lexR_len (h : LexR r i ts) : ts.length ≤ i := by
  obtain ⟨k, hk⟩ := h
  induction k generalizing i ts with
  | zero => simp only [lexI, Option.some.injEq, Prod.mk.injEq] at hk; rw [← hk.1, ← hk.2]; simp
  | succ k ih =>
    simp only [lexI] at hk
    cases hp : lexI r k with
    | none => rw [hp] at hk; cases hk
    | some st =>
      rw [hp, Option.bind_some] at hk
      unfold lexS at hk
      split at hk
      · rename_i hc
        simp only [Option.some.injEq, Prod.mk.injEq] at hk
        have := ih (i := st.1) (ts := st.2) hp
        have ha := lexAt_adv hc.1 hc.2
        rw [← hk.1, ← hk.2, List.length_append]
        omega
      · cases hk
/-- What is open at place i. -/
structure MI (r : List Nat) (i : Nat) (ts : List Tok) (state start first val : Nat) : Prop where
  ex : (state = 0 ∧ LexR r i ts) ∨
    (state = 1 ∧ LexR r start ts ∧ start < i ∧ isL (r.getD start 0) = true ∧ (∀ m, start ≤ m → m < i → isW (r.getD m 0) = true) ∧ i ≤ start + 8 ∧ first = r.getD start 0) ∨
    (state = 2 ∧ LexR r start ts ∧ start < i ∧ (∀ m, start ≤ m → m < i → isD (r.getD m 0) = true) ∧ valP ((r.drop start).take (i - start)) 0 = some val ∧ val ≤ 9223372036854775807) ∨
    (state = 3 ∧ LexR r start ts ∧ start < i ∧ r.getD start 0 = 35 ∧ (∀ m, start ≤ m → m < i → r.getD m 0 ≠ 10)) ∨
    (state = 4 ∧ LexR r start ts ∧ i = start + 1 ∧ isT (r.getD start 0) = true ∧ first = r.getD start 0)
  le : i ≤ r.length
/-- The call has failed. -/
def BadL (r : List Nat) (ts : List Tok) (start fail : Nat) : Prop := LexR r start ts ∧ start < r.length ∧ (lexAt r start).2.2 = fail ∧ fail ≠ 0
theorem MI.len (h : MI r i ts state start first val) : ts.length ≤ i := by
  rcases h.ex with ⟨_, h1⟩ | ⟨_, h1, h2, _⟩ | ⟨_, h1, h2, _⟩ | ⟨_, h1, h2, _⟩ | ⟨_, h1, h2, _⟩ <;> have := lexR_len h1 <;> omega
theorem getD_lt (hr : ∀ x ∈ r, x < 256) (m : Nat) : r.getD m 0 < 256 := by
  rw [List.getD]
  cases h : r[m]? with
  | none => simp
  | some x => exact hr x (List.mem_of_getElem? h)
theorem cls_inv (c : Nat) : (classP c = 1 → isL c = true) ∧ (classP c = 2 → isD c = true) ∧ (classP c = 3 → isB c = true) ∧ (classP c = 4 → c = 35) ∧ (classP c = 5 → isT c = true) ∧ (classP c = 6 → isS c = true) ∧ classP c ≤ 6 := by
  unfold classP
  split
  · refine ⟨fun _ => by assumption, ?_, ?_, ?_, ?_, ?_, by omega⟩ <;> intro h <;> omega
  · split
    · refine ⟨?_, fun _ => by assumption, ?_, ?_, ?_, ?_, by omega⟩ <;> intro h <;> omega
    · split
      · refine ⟨?_, ?_, fun _ => by assumption, ?_, ?_, ?_, by omega⟩ <;> intro h <;> omega
      · split
        · refine ⟨?_, ?_, ?_, fun _ => by assumption, ?_, ?_, by omega⟩ <;> intro h <;> omega
        · split
          · refine ⟨?_, ?_, ?_, ?_, fun _ => by assumption, ?_, by omega⟩ <;> intro h <;> omega
          · split
            · refine ⟨?_, ?_, ?_, ?_, ?_, fun _ => by assumption, by omega⟩ <;> intro h <;> omega
            · refine ⟨?_, ?_, ?_, ?_, ?_, ?_, by omega⟩ <;> intro h <;> omega
theorem begin_spec {K : World → Prop} (h : LX w l g n ts 0 start first val 0 opn) (hr : LexR r i ts) (hi : i < r.length) (hsz : r.length ≤ 4096) (hlt : ∀ x ∈ r, x < 256) (hc : c = r.getD i 0)
    (hK : ∀ w' g' n' ts' state' start' first' val' fail' opn', LX w' l g' n' ts' state' start' first' val' fail' opn' → FrP (lo l g) w w' → (g' = g ∨ w.heap.size ≤ g') →
      ((fail' = 0 ∧ MI r (i + 1) ts' state' start' first' val') ∨ BadL r ts' start' fail') → K w') : S.lex_Lexer_begin l i c (classP c) w K := by
  unfold S.lex_Lexer_begin
  have hl := lexR_len hr
  have hc256 : c < 256 := by rw [hc]; exact getD_lt hlt i
  refine h.st (state' := 0) (start' := i) (first' := first) (val' := val) (fail' := 0) (opn' := opn) (by omega) rfl fun w1 h1 f1 => ?_
  refine h1.st (state' := 0) (start' := i) (first' := c) (val' := val) (fail' := 0) (opn' := opn) (by omega) rfl fun w2 h2 f2 => ?_
  have f12 := f1.trans f2
  have fl : ∀ {u v : World}, Fr l 1 u v → FrP (lo l g) u v := fun f => FrP.of f fun b h1 h2 => .inl (by omega)
  have F2 : FrP (lo l g) w w2 := fl f12
  refine join_W (fun u => ∃ g' n' ts' state' val' fail', LX u l g' n' ts' state' i c val' fail' opn ∧ FrP (lo l g) w u ∧ (g' = g ∨ w.heap.size ≤ g') ∧ ((fail' = 0 ∧ MI r (i + 1) ts' state' i c val') ∨ BadL r ts' i fail')) ?_ ?_
  · rintro u ⟨g', n', ts', state', val', fail', h3, f3, hg, hm⟩
    refine h3.st (state' := state') (start' := i) (first' := c) (val' := val') (fail' := fail') (opn' := classP c) (by omega) rfl fun w4 h4 f4 => ?_
    exact hK w4 g' n' ts' state' i c val' fail' (classP c) h4 (f3.trans (fl f4)) hg hm
  · intro J hJ
    obtain ⟨i1, i2, i3, i4, i5, i6, i7⟩ := cls_inv c
    refine if_c (k := 1) (fun e => ?_) (fun n1 => ?_)
    · have hL := i1 e
      refine h2.st (state' := 1) (start' := i) (first' := c) (val' := val) (fail' := 0) (opn' := opn) (by omega) rfl fun w3 h3 f3 => ?_
      refine hJ w3 ⟨g, n, ts, 1, val, 0, h3, F2.trans (fl f3), .inl rfl, .inl ⟨rfl, .inr (.inl ⟨rfl, hr, by omega, by rw [← hc]; exact hL, fun m h1 h2 => ?_, by omega, hc⟩), by omega⟩⟩
      rw [show m = i by omega, ← hc, isW, hL]; rfl
    refine if_c (k := 2) (fun e => ?_) (fun n2 => ?_)
    · have hD := i2 e
      have hD' := (isD_iff c).1 hD
      refine h2.st (state' := 2) (start' := i) (first' := c) (val' := val) (fail' := 0) (opn' := opn) (by omega) rfl fun w3 h3 f3 => ?_
      have e8 : W (U8 (((c : Nat) : Int) - 48)) = ((c - 48 : Nat) : Int) := by rw [U8_mod, W_id (by omega) (by omega)]; omega
      rw [e8]
      refine h3.st (state' := 2) (start' := i) (first' := c) (val' := c - 48) (fail' := 0) (opn' := opn) (by omega) rfl fun w4 h4 f4 => ?_
      refine hJ w4 ⟨g, n, ts, 2, c - 48, 0, h4, (F2.trans (fl f3)).trans (fl f4), .inl rfl, .inl ⟨rfl, .inr (.inr (.inl ⟨rfl, hr, by omega, fun m h1 h2 => ?_, ?_, by omega⟩)), by omega⟩⟩
      · rw [show m = i by omega, ← hc]; exact hD
      · rw [show i + 1 - i = 1 by omega, List.drop_eq_getElem_cons hi]
        have : r[i] = c := by rw [hc, List.getD_eq_getElem?_getD, List.getElem?_eq_getElem hi]; rfl
        rw [this]
        simp only [List.take_succ_cons, List.take_zero, valP]
        rw [if_neg (by omega)]
        simp
    refine if_c (k := 4) (fun e => ?_) (fun n4 => ?_)
    · have h35 := i4 e
      refine h2.st (state' := 3) (start' := i) (first' := c) (val' := val) (fail' := 0) (opn' := opn) (by omega) rfl fun w3 h3 f3 => ?_
      refine hJ w3 ⟨g, n, ts, 3, val, 0, h3, F2.trans (fl f3), .inl rfl, .inl ⟨rfl, .inr (.inr (.inr (.inl ⟨rfl, hr, by omega, by rw [← hc]; exact h35, fun m h1 h2 => ?_⟩))), by omega⟩⟩
      rw [show m = i by omega, ← hc]; omega
    refine if_c (k := 5) (fun e => ?_) (fun n5 => ?_)
    · have hT := i5 e
      refine h2.st (state' := 4) (start' := i) (first' := c) (val' := val) (fail' := 0) (opn' := opn) (by omega) rfl fun w3 h3 f3 => ?_
      exact hJ w3 ⟨g, n, ts, 4, val, 0, h3, F2.trans (fl f3), .inl rfl, .inl ⟨rfl, .inr (.inr (.inr (.inr ⟨rfl, hr, rfl, by rw [← hc]; exact hT, hc⟩))), by omega⟩⟩
    refine if_c (k := 6) (fun e => ?_) (fun n6 => ?_)
    · have hS := i6 e
      obtain ⟨t0, t1⟩ := twin_of_S hS (r.getD (i + 1) 0)
      refine single_spec ?_
      refine push_spec h2 (by omega) fun w3 g3 n3 h3 f3 hg3 => ?_
      have hat := lexAt_single (r := r) (i := i) (.inr (by rw [← hc]; exact hS)) (by rw [← hc]; exact t0) (by rw [← hc]; exact t1)
      refine hJ w3 ⟨g3, n3, _, 0, val, 0, h3, F2.trans f3, ?_, .inl ⟨rfl, .inl ⟨rfl, ?_⟩, by omega⟩⟩
      · have := F2.1.1
        rcases hg3 with h | h
        · exact .inl h
        · exact .inr (by omega)
      · have := hr.step hi hat
        rw [← hc] at this
        exact this
    refine if_c (k := 0) (fun e => ?_) (fun n0 => ?_)
    · refine h2.st (state' := 0) (start' := i) (first' := c) (val' := val) (fail' := 7) (opn' := opn) (by omega) rfl fun w3 h3 f3 => ?_
      exact hJ w3 ⟨g, n, ts, 0, val, 7, h3, F2.trans (fl f3), .inl rfl, .inr ⟨hr, hi, lexAt_bad (by rw [← hc]; exact e), by omega⟩⟩
    · have hB := i3 (by omega)
      refine hJ w2 ⟨g, n, ts, 0, val, 0, h2, F2, .inl rfl, .inl ⟨rfl, .inl ⟨rfl, ?_⟩, by omega⟩⟩
      have := hr.step hi (lexAt_blank (by rw [← hc]; exact hB))
      rwa [List.append_nil] at this
end Go.Proofs.Qxb6500562aGreat
