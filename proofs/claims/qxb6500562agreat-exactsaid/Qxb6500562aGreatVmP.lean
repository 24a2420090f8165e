/-
  The machine, plain.
-/
import Derived.Test.Qxb6500562aGreatHpQ
import Derived.Test.Qxb6500562aGreatNum
namespace Go.Proofs.Qxb6500562aGreat
open Go.Den Go.Zip
set_option linter.unusedVariables false
set_option linter.unusedSimpArgs false

/-- A frame: where its caller goes on, its int locals, its int operands, how many ref locals, where they lie. -/
structure Fm where
  ret : Nat
  loc : List Int
  ops : List Int
  lr : Nat
  rb : Nat
structure MS where
  fs : List Fm
  pc : Nat
  ip : Nat
  fuel : Int
  out : List Int
  H : SH
  en : Int
  rv : Int
def packW (li lr rb : Nat) : Int := ((li + lr * 256 + rb * 65536 : Nat) : Int)
def topLi : List Fm → Nat
  | [] => 0
  | f :: _ => f.loc.length
def topLr : List Fm → Nat
  | [] => 0
  | f :: _ => f.lr
def topRb : List Fm → Nat
  | [] => 0
  | f :: _ => f.rb
def wsz : List Fm → Nat
  | [] => 0
  | f :: r => wsz r + f.loc.length + 3 + f.ops.length
/-- The words of the stack. -/
def words : List Fm → List Int
  | [] => []
  | f :: r => words r ++ f.loc ++ [(f.ret : Int), (wsz r.tail : Int), packW (topLi r) (topLr r) (topRb r)] ++ f.ops
theorem words_len : ∀ fs, (words fs).length = wsz fs
  | [] => rfl
  | f :: r => by
    unfold words wsz
    simp only [List.length_append, List.length_cons, List.length_nil, words_len r]
def sp (s : MS) : Nat := wsz s.fs
def trap (e : Int) (s : MS) : MS := { s with en := e }
def top (s : MS) : Fm := s.fs.headD ⟨0, [], [], 0, 0⟩
def setTop (f : Fm) (s : MS) : MS := { s with fs := f :: s.fs.tail }
def setOps (o : List Int) (s : MS) : MS := setTop { top s with ops := o } s
def mpush (v : Int) (s : MS) : MS := if 48 ≤ sp s then trap 29 s else setOps ((top s).ops ++ [v]) s
def rops (s : MS) : Int := (s.H.roots.length : Int) - (top s).rb - (top s).lr
def nargs (op : Nat) : Nat := if op = 0 then 8 else if op = 2 ∨ op = 3 ∨ op = 4 ∨ op = 5 then 1 else if op = 21 ∨ op = 22 ∨ op = 23 ∨ op = 24 then 2 else if op = 25 then 4 else 0
def wI (op : Nat) : Nat :=
  if op = 1 ∨ op = 3 ∨ op = 13 ∨ op = 14 ∨ op = 22 ∨ op = 23 ∨ op = 26 ∨ op = 35 ∨ op = 28 ∨ op = 29 ∨ op = 30 ∨ op = 31 ∨ op = 33 then 1
  else if op = 8 ∨ op = 9 ∨ op = 10 ∨ op = 11 ∨ op = 12 ∨ op = 15 ∨ op = 16 ∨ op = 17 ∨ op = 18 ∨ op = 19 ∨ op = 20 ∨ op = 32 then 2 else 0
def wR (op : Nat) : Nat := if op = 5 ∨ op = 6 ∨ op = 27 ∨ op = 30 ∨ op = 31 ∨ op = 32 ∨ op = 34 then 1 else if op = 33 then 2 else 0
def endOf (e : Int) : Int := if e = 4 then 27 else if e = 5 then 26 else if e = 1 then 28 else if e = 3 then 29 else if e = 6 then 23 else 24
/-- Behind a heap call. -/
def did (e : Int) (s : MS) : MS := if e ≠ 0 then trap (endOf e) s else s
/-- The number at a place of the code. -/
def i64At (c : List Nat) (p : Nat) : Int :=
  W ((c.getD p 0 + c.getD (p + 1) 0 * 256 + c.getD (p + 2) 0 * 65536 + c.getD (p + 3) 0 * 16777216 + c.getD (p + 4) 0 * 4294967296 + c.getD (p + 5) 0 * 1099511627776 + c.getD (p + 6) 0 * 281474976710656 + c.getD (p + 7) 0 * 72057594037927936 : Nat) : Int)
def u16At (c : List Nat) (p : Nat) : Nat := c.getD p 0 + c.getD (p + 1) 0 * 256
def quo (a b : Int) : Int := if b = -1 then W (0 - a) else W (Int.tdiv a b)
def rem (a b : Int) : Int := if b = -1 then 0 else Int.tmod a b
def b01 (p : Prop) [Decidable p] : Int := if p then 1 else 0
/-- The two top words. -/
def arith (op : Nat) (a b : Int) : Option Int :=
  if op = 8 then some (W (a + b)) else if op = 9 then some (W (a - b)) else if op = 10 then some (W (a * b)) else if op = 11 then (if b = 0 then none else some (quo a b)) else if op = 12 then (if b = 0 then none else some (rem a b))
  else if op = 15 then some (b01 (a = b)) else if op = 16 then some (b01 (a ≠ b)) else if op = 17 then some (b01 (a < b)) else if op = 18 then some (b01 (a ≤ b)) else if op = 19 then some (b01 (b < a)) else some (b01 (b ≤ a))
def mspend (s : MS) (k : MS → MS) : MS := if s.fuel ≤ 0 then trap 22 s else k { s with fuel := s.fuel - 1 }
def mjump (c : List Nat) (at_ a : Nat) (s : MS) : MS := if c.length ≤ a then trap 24 s else if a ≤ at_ then mspend s fun s => { s with pc := a } else { s with pc := a }
/-- Nil refs, n of them. -/
def nils : Nat → SH → SH
  | 0, H => H
  | n + 1, H => nils n (hPush H).2
/-- What is left of the caller when n operands go. -/
def rest (n : Nat) : List Fm → List Fm
  | [] => []
  | f :: r => { f with ops := f.ops.take (f.ops.length - n) } :: r
def args (n : Nat) : List Fm → List Int
  | [] => []
  | f :: r => f.ops.drop (f.ops.length - n)
def menter (c : List Nat) (a ret : Nat) (s : MS) : MS :=
  if c.length < a + 5 ∨ c.getD a 0 ≠ 25 then trap 24 s
  else if c.getD (a + 3) 0 < c.getD (a + 1) 0 ∨ c.getD (a + 4) 0 < c.getD (a + 2) 0 then trap 24 s
  else if (s.fs = [] ∧ (c.getD (a + 1) 0 ≠ 0 ∨ c.getD (a + 2) 0 ≠ 0)) ∨ (s.fs ≠ [] ∧ ((top s).ops.length < c.getD (a + 1) 0 ∨ rops s < c.getD (a + 2) 0)) then trap 24 s
  else mspend s fun s =>
    if 48 < sp s - c.getD (a + 1) 0 + c.getD (a + 3) 0 + 3 ∨ 24 < s.H.roots.length - c.getD (a + 2) 0 + c.getD (a + 4) 0 then trap 29 s
    else { s with
      fs := ⟨ret, args (c.getD (a + 1) 0) s.fs ++ List.replicate (c.getD (a + 3) 0 - c.getD (a + 1) 0) 0, [], c.getD (a + 4) 0, s.H.roots.length - c.getD (a + 2) 0⟩ ::
        rest (c.getD (a + 1) 0) s.fs
      H := nils (c.getD (a + 4) 0 - c.getD (a + 2) 0) s.H
      pc := a + 5 }
def mleave (s : MS) : MS := { s with fs := s.fs.tail, pc := (top s).ret }
def lastO (s : MS) : Int := (top s).ops.getD ((top s).ops.length - 1) 0
def cutO1 (n : Nat) (s : MS) : MS := setOps ((top s).ops.take ((top s).ops.length - n)) s
def mretI (s : MS) : MS :=
  let v := lastO s
  let s := mleave { s with H := (hPop s.H ((s.H.roots.length : Int) - (top s).rb)).2 }
  if s.fs = [] then { s with en := 21, rv := v } else mpush v s
def mretR (s : MS) : MS := if s.fs.length = 1 then trap 24 s else mleave { s with H := (hSlide s.H ((s.H.roots.length : Int) - (top s).rb - 1)).2 }
/-- What the instruction op at place p does; pc stands behind it. -/
def mop (c : List Nat) (inp : List Int) (p op : Nat) (s : MS) : MS :=
  if op = 0 then mpush (i64At c (p + 1)) s
  else if op = 1 then cutO1 1 s
  else if op = 2 then (if (top s).loc.length ≤ c.getD (p + 1) 0 then trap 24 s else mpush ((top s).loc.getD (c.getD (p + 1) 0) 0) s)
  else if op = 3 then (if (top s).loc.length ≤ c.getD (p + 1) 0 then trap 24 s else setTop { top s with loc := (top s).loc.set (c.getD (p + 1) 0) (lastO s), ops := (top s).ops.take ((top s).ops.length - 1) } s)
  else if op = 4 then (if (top s).lr ≤ c.getD (p + 1) 0 then trap 24 s else did (hDup s.H (((top s).rb + c.getD (p + 1) 0 : Nat) : Int)).1 { s with H := (hDup s.H (((top s).rb + c.getD (p + 1) 0 : Nat) : Int)).2 })
  else if op = 5 then (if (top s).lr ≤ c.getD (p + 1) 0 then trap 24 s else { s with H := (hSet s.H (((top s).rb + c.getD (p + 1) 0 : Nat) : Int)).2 })
  else if op = 6 then { s with H := (hPop s.H 1).2 }
  else if op = 7 then did (hPush s.H).1 { s with H := (hPush s.H).2 }
  else if op = 8 ∨ op = 9 ∨ op = 10 ∨ op = 11 ∨ op = 12 ∨ op = 15 ∨ op = 16 ∨ op = 17 ∨ op = 18 ∨ op = 19 ∨ op = 20 then
    (match arith op ((top s).ops.getD ((top s).ops.length - 2) 0) (lastO s) with
      | none => trap 25 (cutO1 1 s)
      | some v => setOps ((top s).ops.take ((top s).ops.length - 2) ++ [v]) s)
  else if op = 13 then setOps ((top s).ops.take ((top s).ops.length - 1) ++ [W (0 - lastO s)]) s
  else if op = 14 then setOps ((top s).ops.take ((top s).ops.length - 1) ++ [b01 (lastO s = 0)]) s
  else if op = 21 then mjump c p (u16At c (p + 1)) s
  else if op = 22 then (if lastO s = 0 then mjump c p (u16At c (p + 1)) (cutO1 1 s) else cutO1 1 s)
  else if op = 23 then (if lastO s ≠ 0 then mjump c p (u16At c (p + 1)) (cutO1 1 s) else cutO1 1 s)
  else if op = 24 then menter c (u16At c (p + 1)) (p + 3) s
  else if op = 25 then trap 24 s
  else if op = 26 then mretI s
  else if op = 27 then mretR s
  else if op = 28 then did (hAlloc s.H 0 (lastO s)).1 (cutO1 1 { s with H := (hAlloc s.H 0 (lastO s)).2 })
  else if op = 29 then did (hAlloc s.H (lastO s) 0).1 (cutO1 1 { s with H := (hAlloc s.H (lastO s) 0).2 })
  else if op = 30 then
    (if (hLoadI s.H ((s.H.roots.length : Int) - 1) (lastO s)).2 ≠ 0 then trap (endOf (hLoadI s.H ((s.H.roots.length : Int) - 1) (lastO s)).2) s
     else setOps ((top s).ops.take ((top s).ops.length - 1) ++ [(hLoadI s.H ((s.H.roots.length : Int) - 1) (lastO s)).1]) { s with H := (hPop s.H 1).2 })
  else if op = 31 then did (hLoadR s.H ((s.H.roots.length : Int) - 1) (lastO s) ((s.H.roots.length : Int) - 1)).1 (cutO1 1 { s with H := (hLoadR s.H ((s.H.roots.length : Int) - 1) (lastO s) ((s.H.roots.length : Int) - 1)).2 })
  else if op = 32 then
    (if (hStoreI s.H ((s.H.roots.length : Int) - 1) ((top s).ops.getD ((top s).ops.length - 2) 0) (lastO s)).1 ≠ 0 then trap (endOf (hStoreI s.H ((s.H.roots.length : Int) - 1) ((top s).ops.getD ((top s).ops.length - 2) 0) (lastO s)).1) (cutO1 2 s)
     else cutO1 2 { s with H := (hPop (hStoreI s.H ((s.H.roots.length : Int) - 1) ((top s).ops.getD ((top s).ops.length - 2) 0) (lastO s)).2 1).2 })
  else if op = 33 then
    (if (hStoreR s.H ((s.H.roots.length : Int) - 1 - 1) (lastO s) ((s.H.roots.length : Int) - 1)).1 ≠ 0 then trap (endOf (hStoreR s.H ((s.H.roots.length : Int) - 1 - 1) (lastO s) ((s.H.roots.length : Int) - 1)).1) (cutO1 1 s)
     else cutO1 1 { s with H := (hPop (hStoreR s.H ((s.H.roots.length : Int) - 1 - 1) (lastO s) ((s.H.roots.length : Int) - 1)).2 2).2 })
  else if op = 34 then
    (if (hLen s.H ((s.H.roots.length : Int) - 1)).2.2 ≠ 0 then trap (endOf (hLen s.H ((s.H.roots.length : Int) - 1)).2.2) s
     else mpush (W ((hLen s.H ((s.H.roots.length : Int) - 1)).1 + (hLen s.H ((s.H.roots.length : Int) - 1)).2.1)) { s with H := (hPop s.H 1).2 })
  else if op = 35 then (if 1024 ≤ s.out.length then trap 33 (cutO1 1 s) else cutO1 1 { s with out := s.out ++ [lastO s] })
  else if op = 36 then (if inp.length ≤ s.ip then trap 30 s else { mpush (inp.getD s.ip 0) s with ip := s.ip + 1 })
  else s
def mstep (c : List Nat) (inp : List Int) (s : MS) : MS :=
  if c.length ≤ s.pc then trap 24 s
  else if 37 ≤ c.getD s.pc 0 ∨ c.length < s.pc + 1 + nargs (c.getD s.pc 0) then trap 24 s
  else if (top s).ops.length < wI (c.getD s.pc 0) ∨ rops s < wR (c.getD s.pc 0) then trap 24 s
  else mop c inp s.pc (c.getD s.pc 0) { s with pc := s.pc + 1 + nargs (c.getD s.pc 0) }
def ms0 (fuel : Int) : MS := ⟨[], 0, 0, fuel, [], ⟨[], []⟩, 0, 0⟩
/-- Steps, n at most, until it ends. -/
def runN (c : List Nat) (inp : List Int) : Nat → MS → MS
  | 0, s => s
  | n + 1, s => if s.en ≠ 0 then s else runN c inp n (mstep c inp s)
/-- How a run ends. -/
def MRun (c : List Nat) (inp : List Int) (fuel : Int) (r : MS) : Prop := ∃ n, runN c inp n (menter c 0 0 (ms0 fuel)) = r ∧ r.en ≠ 0
theorem runN_end (c : List Nat) (inp : List Int) : ∀ (n : Nat) (s : MS), s.en ≠ 0 → runN c inp n s = s
  | 0, s, _ => rfl
  | n + 1, s, h => by unfold runN; rw [if_pos h]
theorem runN_add (c : List Nat) (inp : List Int) : ∀ (n k : Nat) (s : MS), runN c inp (n + k) s = runN c inp k (runN c inp n s)
  | 0, k, s => by rw [Nat.zero_add]; rfl
  | n + 1, k, s => by
    rw [show n + 1 + k = (n + k) + 1 by omega]
    show (if s.en ≠ 0 then s else runN c inp (n + k) (mstep c inp s)) = runN c inp k (if s.en ≠ 0 then s else runN c inp n (mstep c inp s))
    by_cases h : s.en ≠ 0
    · rw [if_pos h, if_pos h, runN_end c inp k s h]
    · rw [if_neg h, if_neg h]; exact runN_add c inp n k _
theorem MRun.uniq {c : List Nat} {inp : List Int} {fuel : Int} {r r' : MS} (h : MRun c inp fuel r) (h' : MRun c inp fuel r') : r = r' := by
  obtain ⟨n, h1, h2⟩ := h
  obtain ⟨k, h3, h4⟩ := h'
  have e1 := runN_add c inp n k (menter c 0 0 (ms0 fuel))
  have e2 := runN_add c inp k n (menter c 0 0 (ms0 fuel))
  rw [h1, runN_end c inp k r h2] at e1
  rw [h3, runN_end c inp n r' h4, Nat.add_comm] at e2
  rw [← e1, e2]
end Go.Proofs.Qxb6500562aGreat
