/-
  The tokens, plain.
-/
import Derived.Test.Qxb6500562aGreatOwn
namespace Go.Proofs.Qxb6500562aGreat
open Go.Den Go.Zip
set_option linter.unusedVariables false
set_option linter.unusedSimpArgs false

def isL (c : Nat) : Bool := (decide (97 ≤ c) && decide (c ≤ 122)) || (decide (65 ≤ c) && decide (c ≤ 90)) || c == 95
def isD (c : Nat) : Bool := decide (48 ≤ c) && decide (c ≤ 57)
def isW (c : Nat) : Bool := isL c || isD c
def isB (c : Nat) : Bool := c == 32 || c == 9 || c == 10 || c == 13
/-- The fixed spellings. -/
def tokB (k : Nat) : List Nat :=
  if k = 3 then [102, 117, 110, 99] else
  if k = 4 then [118, 97, 114] else
  if k = 5 then [105, 102] else
  if k = 6 then [101, 108, 115, 101] else
  if k = 7 then [119, 104, 105, 108, 101] else
  if k = 8 then [114, 101, 116, 117, 114, 110] else
  if k = 9 then [112, 114, 105, 110, 116] else
  if k = 10 then [116, 114, 117, 101] else
  if k = 11 then [102, 97, 108, 115, 101] else
  if k = 12 then [110, 101, 119] else
  if k = 13 then [108, 101, 110] else
  if k = 14 then [114, 101, 97, 100] else
  if k = 15 then [105, 110, 116] else
  if k = 16 then [98, 111, 111, 108] else
  if k = 17 then [40] else
  if k = 18 then [41] else
  if k = 19 then [123] else
  if k = 20 then [125] else
  if k = 21 then [91] else
  if k = 22 then [93] else
  if k = 23 then [44] else
  if k = 24 then [59] else
  if k = 25 then [61] else
  if k = 26 then [61, 61] else
  if k = 27 then [33, 61] else
  if k = 28 then [60] else
  if k = 29 then [60, 61] else
  if k = 30 then [62] else
  if k = 31 then [62, 61] else
  if k = 32 then [43] else
  if k = 33 then [45] else
  if k = 34 then [42] else
  if k = 35 then [47] else
  if k = 36 then [37] else
  if k = 37 then [38, 38] else
  if k = 38 then [124, 124] else
  if k = 39 then [33] else
  []
/-- A sign of one byte. -/
def singleP (c : Nat) : Nat :=
  if c = 40 then 17 else
  if c = 41 then 18 else
  if c = 123 then 19 else
  if c = 125 then 20 else
  if c = 91 then 21 else
  if c = 93 then 22 else
  if c = 44 then 23 else
  if c = 59 then 24 else
  if c = 61 then 25 else
  if c = 60 then 28 else
  if c = 62 then 30 else
  if c = 43 then 32 else
  if c = 45 then 33 else
  if c = 42 then 34 else
  if c = 47 then 35 else
  if c = 37 then 36 else
  if c = 33 then 39 else
  0
/-- A sign of two bytes. -/
def twinP (a b : Nat) : Nat :=
  if a = 61 then (if b = 61 then 26 else 0) else
  if a = 33 then (if b = 61 then 27 else 0) else
  if a = 60 then (if b = 61 then 29 else 0) else
  if a = 62 then (if b = 61 then 31 else 0) else
  if a = 38 then (if b = 38 then 37 else 0) else
  if a = 124 then (if b = 124 then 38 else 0) else 0
def guessP (n c : Nat) : Nat :=
  if n = 2 then (if c = 105 then 5 else 1) else
  if n = 3 then (if c = 118 then 4 else if c = 110 then 12 else if c = 108 then 13 else if c = 105 then 15 else 1) else
  if n = 4 then (if c = 102 then 3 else if c = 101 then 6 else if c = 116 then 10 else if c = 114 then 14 else if c = 98 then 16 else 1) else
  if n = 5 then (if c = 119 then 7 else if c = 112 then 9 else if c = 102 then 11 else 1) else
  if n = 6 then (if c = 114 then 8 else 1) else 1
/-- A keyword's kind, or 1. -/
def kwP (l : List Nat) : Nat := if guessP l.length (l.getD 0 0) ≠ 1 ∧ l = tokB (guessP l.length (l.getD 0 0)) then guessP l.length (l.getD 0 0) else 1
structure Tok where
  kind : Int
  pos : Int
  val : Int
  text : ByteArray
def tokV (t : Tok) : List Value := [.int .i64 t.kind, .int .i64 t.pos, .int .i64 t.val, .string t.text]
/-- The digits' number; none above 2^63-1. -/
def valP : List Nat → Nat → Option Nat
  | [], v => some v
  | c :: l, v => if 9223372036854775807 < v * 10 + (c - 48) then none else valP l (v * 10 + (c - 48))
/-- At place i: how far, the token, the error. -/
def lexAt (r : List Nat) (i : Nat) : Nat × List Tok × Nat :=
  if isB (r.getD i 0) then (1, [], 0)
  else if r.getD i 0 = 35 then (upto (fun m => r.getD (i + m) 0 != 10) (r.length - i), [], 0)
  else if isL (r.getD i 0) then
    (if 8 < upto (fun m => isW (r.getD (i + m) 0)) (r.length - i) then (0, [], 9)
     else (upto (fun m => isW (r.getD (i + m) 0)) (r.length - i),
       [if kwP ((r.drop i).take (upto (fun m => isW (r.getD (i + m) 0)) (r.length - i))) = 1 then ⟨1, i, 0, strOf ((r.drop i).take (upto (fun m => isW (r.getD (i + m) 0)) (r.length - i)))⟩
        else ⟨kwP ((r.drop i).take (upto (fun m => isW (r.getD (i + m) 0)) (r.length - i))), i, 0, ⟨#[]⟩⟩], 0))
  else if isD (r.getD i 0) then
    (match valP ((r.drop i).take (upto (fun m => isD (r.getD (i + m) 0)) (r.length - i))) 0 with
     | some v => (upto (fun m => isD (r.getD (i + m) 0)) (r.length - i), [⟨2, i, v, ⟨#[]⟩⟩], 0)
     | none => (0, [], 8))
  else if twinP (r.getD i 0) (r.getD (i + 1) 0) ≠ 0 then (2, [⟨twinP (r.getD i 0) (r.getD (i + 1) 0), i, 0, ⟨#[]⟩⟩], 0)
  else if singleP (r.getD i 0) ≠ 0 then (1, [⟨singleP (r.getD i 0), i, 0, ⟨#[]⟩⟩], 0)
  else (0, [], 7)
/-- One token further. -/
def lexS (r : List Nat) (st : Nat × List Tok) : Option (Nat × List Tok) :=
  if st.1 < r.length ∧ (lexAt r st.1).2.2 = 0 then some (st.1 + (lexAt r st.1).1, st.2 ++ (lexAt r st.1).2.1) else none
def lexI (r : List Nat) : Nat → Option (Nat × List Tok)
  | 0 => some (0, [])
  | k + 1 => (lexI r k).bind (lexS r)
def LexR (r : List Nat) (i : Nat) (acc : List Tok) : Prop := ∃ k, lexI r k = some (i, acc)
/-- What Lex answers. -/
structure LexA (r : List Nat) (l : List Tok) (e pos : Nat) : Prop where
  ex : (e = 0 ∧ pos = 0 ∧ ∃ i acc, LexR r i acc ∧ r.length ≤ i ∧ l = acc ++ [⟨0, r.length, 0, ⟨#[]⟩⟩]) ∨ (e ≠ 0 ∧ l = [] ∧ ∃ acc, LexR r pos acc ∧ pos < r.length ∧ (lexAt r pos).2.2 = e)
theorem LexR.zero (r : List Nat) : LexR r 0 [] := ⟨0, rfl⟩
theorem LexR.step {r : List Nat} {i n : Nat} {acc t : List Tok} (h : LexR r i acc) (hi : i < r.length) (ht : lexAt r i = (n, t, 0)) : LexR r (i + n) (acc ++ t) := by
  obtain ⟨k, hk⟩ := h
  refine ⟨k + 1, ?_⟩
  simp only [lexI, hk, Option.bind_some, lexS, ht]
  rw [if_pos ⟨hi, trivial⟩]
theorem lexI_stop {r : List Nat} {k : Nat} (h : (lexI r k) = none) : ∀ m, lexI r (k + m) = none
  | 0 => h
  | m + 1 => by rw [← Nat.add_assoc]; simp only [lexI, lexI_stop h m]; rfl
theorem lexI_end {r : List Nat} {k i : Nat} {acc : List Tok} (h : lexI r k = some (i, acc)) (hs : lexS r (i, acc) = none) : ∀ m, k < m → lexI r m = none := by
  intro m hm
  have : lexI r (k + 1) = none := by simp only [lexI, h, Option.bind_some, hs]
  have := lexI_stop this (m - (k + 1))
  rwa [show k + 1 + (m - (k + 1)) = m by omega] at this
theorem LexA.uniq {r : List Nat} {l l' : List Tok} {e pos e' pos' : Nat} (h : LexA r l e pos) (h' : LexA r l' e' pos') : l = l' ∧ e = e' ∧ pos = pos' := by
  have stop : ∀ {i acc}, LexR r i acc → (r.length ≤ i ∨ (lexAt r i).2.2 ≠ 0) → ∀ {j acc'}, LexR r j acc' → (r.length ≤ j ∨ (lexAt r j).2.2 ≠ 0) → i = j ∧ acc = acc' := by
    intro i acc ⟨k, hk⟩ hi j acc' ⟨m, hm⟩ hj
    have s1 : lexS r (i, acc) = none := by unfold lexS; rw [if_neg (by simp only; omega)]
    have s2 : lexS r (j, acc') = none := by unfold lexS; rw [if_neg (by simp only; omega)]
    rcases Nat.lt_trichotomy k m with h | h | h
    · rw [lexI_end hk s1 m h] at hm; cases hm
    · subst h; rw [hk] at hm; cases hm; exact ⟨rfl, rfl⟩
    · rw [lexI_end hm s2 k h] at hk; cases hk
  rcases h.ex with ⟨a1, a2, i, acc, a3, a4, a5⟩ | ⟨a1, a2, acc, a3, a4, a5⟩ <;> rcases h'.ex with ⟨b1, b2, j, acc', b3, b4, b5⟩ | ⟨b1, b2, acc', b3, b4, b5⟩
  · obtain ⟨rfl, rfl⟩ := stop a3 (.inl a4) b3 (.inl b4)
    exact ⟨by rw [a5, b5], by omega, by omega⟩
  · obtain ⟨rfl, rfl⟩ := stop a3 (.inl a4) b3 (.inr (by omega))
    omega
  · obtain ⟨rfl, rfl⟩ := stop a3 (.inr (by omega)) b3 (.inl b4)
    omega
  · obtain ⟨rfl, rfl⟩ := stop a3 (.inr (by omega)) b3 (.inr (by omega))
    exact ⟨by rw [a2, b2], by omega, rfl⟩
end Go.Proofs.Qxb6500562aGreat
