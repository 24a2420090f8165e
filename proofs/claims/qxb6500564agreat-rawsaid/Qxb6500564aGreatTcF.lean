/-
  Orders of values and rows; what a scan answers, plain.
-/
import Derived.Test.Qxb6500564aGreatTcE
namespace Go.Proofs.Qxb6500564aGreat
open Go.Den Go.Zip
set_option linter.unusedVariables false
set_option linter.unusedSimpArgs false
variable {T : Nat → Option Es} {xs : List Th} {tb : Tb} {k nm : ByteArray} {vs : List Vl}

/-- api.Cmp, plain. -/
def cmpV (a b : Vl) : Int :=
  if a.st ≠ b.st then (if b.st then -1 else 1) else if a.st then (if sl a.s b.s then -1 else if sl b.s a.s then 1 else 0) else (if a.i < b.i then -1 else if a.i > b.i then 1 else 0)
def vl (a b : Vl) : Bool := decide (cmpV a b < 0)
theorem cmp_cases (a b : Vl) : cmpV a b = -1 ∨ cmpV a b = 0 ∨ cmpV a b = 1 := by
  unfold cmpV
  repeat' split
  all_goals first | exact .inl rfl | exact .inr (.inl rfl) | exact .inr (.inr rfl)
theorem cmp_swap (a b : Vl) : cmpV b a = - cmpV a b := by
  unfold cmpV
  cases ha : a.st <;> cases hb : b.st
  · simp only [ne_eq, not_true_eq_false, if_false, Bool.false_eq_true]
    rcases Int.lt_trichotomy a.i b.i with h | h | h
    · rw [if_neg (by omega), if_pos (by omega), if_pos h]; rfl
    · rw [if_neg (by omega), if_neg (by omega), if_neg (by omega), if_neg (by omega)]; rfl
    · rw [if_pos (by omega), if_neg (by omega), if_pos h]
  · simp
  · simp
  · simp only [ne_eq, not_true_eq_false, if_false, if_true]
    cases h1 : sl a.s b.s with
    | true => rw [sl_asym h1]; simp
    | false =>
      cases h2 : sl b.s a.s with
      | true => simp
      | false => simp
theorem cmp_eq {a b : Vl} (ha : VMade a) (hb : VMade b) (h : cmpV a b = 0) : a = b := by
  unfold cmpV at h
  obtain ⟨sa, ia, ta⟩ := a
  obtain ⟨sb, ib, tb⟩ := b
  unfold VMade at ha hb
  dsimp only at ha hb h
  cases sa <;> cases sb
  · have a1 := ha.2 rfl
    have b1 := hb.2 rfl
    simp only [ne_eq, not_true_eq_false, if_false, Bool.false_eq_true] at h
    have : ia = ib := by
      rcases Int.lt_trichotomy ia ib with h' | h' | h'
      · rw [if_pos h'] at h; omega
      · exact h'
      · rw [if_neg (by omega), if_pos h'] at h; omega
    rw [this, a1.1, b1.1]
  · simp at h
  · simp at h
  · have a1 := ha.1 rfl
    have b1 := hb.1 rfl
    simp only [ne_eq, not_true_eq_false, if_false, if_true] at h
    have : ta = tb := by
      cases h1 : sl ta tb with
      | true => rw [h1, if_pos rfl] at h; omega
      | false =>
        cases h2 : sl tb ta with
        | true => rw [h1, h2, if_neg (by simp), if_pos rfl] at h; omega
        | false => exact sl_total h1 h2
    rw [this, a1, b1]
theorem cmp_self (a : Vl) : cmpV a a = 0 := by
  have := cmp_swap a a
  omega
theorem vl_irrefl (a : Vl) : vl a a = false := by unfold vl; rw [cmp_self]; rfl
theorem vl_asym {a b : Vl} (h : vl a b = true) : vl b a = false := by
  unfold vl at h ⊢
  rw [cmp_swap a b]
  simp at h ⊢
  omega
theorem vl_total {a b : Vl} (ha : VMade a) (hb : VMade b) (h1 : vl a b = false) (h2 : vl b a = false) : a = b := by
  unfold vl at h1 h2
  rw [cmp_swap a b] at h2
  simp at h1 h2
  exact cmp_eq ha hb (by omega)
theorem vl_same {a b : Vl} (h : a.st = b.st) : vl a b = vlt a b := by
  unfold vl vlt cmpV
  rw [if_neg (by simp [h])]
  cases ha : a.st with
  | true =>
    simp only [if_true]
    cases h1 : sl a.s b.s with
    | true => simp
    | false => cases h2 : sl b.s a.s with
      | true => simp
      | false => simp
  | false =>
    simp only [Bool.false_eq_true, if_false]
    rcases Int.lt_trichotomy a.i b.i with h | h | h
    · rw [if_pos h]; simp [h]
    · rw [if_neg (by omega), if_neg (by omega)]; simp; omega
    · rw [if_neg (by omega), if_pos h]; simp; omega
theorem vl_trans {a b c : Vl} (h1 : vl a b = true) (h2 : vl b c = true) : vl a c = true := by
  unfold vl cmpV at *
  cases ha : a.st <;> cases hb : b.st <;> cases hc : c.st <;> simp only [ha, hb, hc, ne_eq, not_true_eq_false, not_false_eq_true, reduceCtorEq, if_false, if_true, Bool.false_eq_true, decide_eq_true_eq] at h1 h2 ⊢
  · have h1 : a.i < b.i := by
      rcases Int.lt_trichotomy a.i b.i with h | h | h
      · exact h
      · rw [if_neg (by omega), if_neg (by omega)] at h1; omega
      · rw [if_neg (by omega), if_pos h] at h1; omega
    have h2 : b.i < c.i := by
      rcases Int.lt_trichotomy b.i c.i with h | h | h
      · exact h
      · rw [if_neg (by omega), if_neg (by omega)] at h2; omega
      · rw [if_neg (by omega), if_pos h] at h2; omega
    rw [if_pos (by omega)]; omega
  all_goals first | omega | skip
  · have h1 : sl a.s b.s = true := by
      cases h : sl a.s b.s with
      | true => rfl
      | false =>
        rw [h] at h1
        cases h' : sl b.s a.s with
        | true => rw [h'] at h1; simp at h1
        | false => rw [h'] at h1; simp at h1
    have h2 : sl b.s c.s = true := by
      cases h : sl b.s c.s with
      | true => rfl
      | false =>
        rw [h] at h2
        cases h' : sl c.s b.s with
        | true => rw [h'] at h2; simp at h2
        | false => rw [h'] at h2; simp at h2
    rw [if_pos (sl_trans h1 h2)]; omega
theorem ok_made {v : Vl} (h : VOk v) : VMade v := ⟨fun e => (h.1 e).1, h.2⟩
/-- The order of a scan: by the column, then by the key. -/
def rl (col pk : Nat) (a b : List Vl) : Prop := vl (a.getD col v0) (b.getD col v0) = true ∨ (a.getD col v0 = b.getD col v0 ∧ vl (a.getD pk v0) (b.getD pk v0) = true)
theorem rl_irrefl {col pk : Nat} {a : List Vl} : ¬ rl col pk a a := by
  rintro (h | ⟨_, h⟩)
  · rw [vl_irrefl] at h; cases h
  · rw [vl_irrefl] at h; cases h
theorem rl_asym {col pk : Nat} {a b : List Vl} (h : rl col pk a b) : ¬ rl col pk b a := by
  intro k
  rcases h with h | ⟨e, h⟩
  · rcases k with k | ⟨e', k⟩
    · rw [vl_asym h] at k; cases k
    · rw [e', vl_irrefl] at h; cases h
  · rcases k with k | ⟨e', k⟩
    · rw [e, vl_irrefl] at k; cases k
    · rw [vl_asym h] at k; cases k
theorem pw_ext {α : Type} {R : α → α → Prop} (irr : ∀ a, ¬ R a a) (asy : ∀ a b, R a b → ¬ R b a) : ∀ {a b : List α}, a.Pairwise R → b.Pairwise R → (∀ e, e ∈ a ↔ e ∈ b) → a = b
  | [], [], _, _, _ => rfl
  | [], y :: s, _, _, h => absurd ((h y).2 (by simp)) (by simp)
  | x :: r, [], _, _, h => absurd ((h x).1 (by simp)) (by simp)
  | x :: r, y :: s, ha, hb, h => by
    have a := List.pairwise_cons.1 ha
    have b := List.pairwise_cons.1 hb
    have e : x = y := by
      rcases List.mem_cons.1 ((h x).1 (by simp)) with e | h1
      · exact e
      · rcases List.mem_cons.1 ((h y).2 (by simp)) with e | h2
        · exact e.symm
        · exact absurd (b.1 x h1) (asy _ _ (a.1 y h2))
    subst e
    congr 1
    refine pw_ext irr asy a.2 b.2 fun e => ⟨fun he => ?_, fun he => ?_⟩
    · rcases List.mem_cons.1 ((h e).1 (by simp [he])) with rfl | h1
      · exact absurd (a.1 e he) (irr e)
      · exact h1
    · rcases List.mem_cons.1 ((h e).2 (by simp [he])) with rfl | h1
      · exact absurd (b.1 e he) (irr e)
      · exact h1
/-- Within the bounds. -/
def inB (lo hi : Bd) (v : Vl) : Bool := (!lo.has || !vl v lo.v) && (!hi.has || !vl hi.v v)
/-- What a scan answers. -/
def ScanR (rows : List (List Vl)) (col pk : Nat) (lo hi : Bd) (out : List (List Vl)) : Prop := out.Pairwise (rl col pk) ∧ ∀ r, r ∈ out ↔ r ∈ rows ∧ inB lo hi (r.getD col v0) = true
theorem ScanR.uniq {rows : List (List Vl)} {col pk : Nat} {lo hi : Bd} {a b : List (List Vl)} (h : ScanR rows col pk lo hi a) (k : ScanR rows col pk lo hi b) : a = b :=
  pw_ext (fun _ => rl_irrefl) (fun _ _ => rl_asym) h.1 k.1 fun r => by rw [h.2, k.2]
theorem mem_dw {α : Type} {p : α → Bool} {e : α} : ∀ {l : List α}, l.Pairwise (fun a b => p b = true → p a = true) → (e ∈ l.dropWhile p ↔ e ∈ l ∧ p e = false)
  | [], _ => by simp
  | x :: r, h => by
    have hc := List.pairwise_cons.1 h
    cases hp : p x with
    | true =>
      rw [List.dropWhile_cons_of_pos hp, mem_dw hc.2, List.mem_cons]
      constructor
      · exact fun h => ⟨.inr h.1, h.2⟩
      · rintro ⟨rfl | h, h2⟩
        · rw [hp] at h2; cases h2
        · exact ⟨h, h2⟩
    | false =>
      rw [List.dropWhile_cons_of_neg (by simp [hp])]
      refine ⟨fun he => ⟨he, ?_⟩, fun h => h.1⟩
      rcases List.mem_cons.1 he with rfl | he
      · exact hp
      · cases h' : p e with
        | false => rfl
        | true => rw [hc.1 e he h'] at hp; cases hp
theorem mem_tw {α : Type} {p : α → Bool} {e : α} : ∀ {l : List α}, l.Pairwise (fun a b => p b = true → p a = true) → (e ∈ l.takeWhile p ↔ e ∈ l ∧ p e = true)
  | [], _ => by simp
  | x :: r, h => by
    have hc := List.pairwise_cons.1 h
    cases hp : p x with
    | true =>
      rw [List.takeWhile_cons_of_pos hp, List.mem_cons, mem_tw hc.2, List.mem_cons]
      constructor
      · rintro (rfl | h)
        · exact ⟨.inl rfl, hp⟩
        · exact ⟨.inr h.1, h.2⟩
      · rintro ⟨rfl | h, h2⟩
        · exact .inl rfl
        · exact .inr ⟨h, h2⟩
    | false =>
      rw [List.takeWhile_cons_of_neg (by simp [hp])]
      refine ⟨fun he => (by cases he), fun h => ?_⟩
      rcases List.mem_cons.1 h.1 with rfl | he
      · rw [hp] at h; cases h.2
      · rw [hc.1 e he h.2] at hp; cases hp
end Go.Proofs.Qxb6500564aGreat
