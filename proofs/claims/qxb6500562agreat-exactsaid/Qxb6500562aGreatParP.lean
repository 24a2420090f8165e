/-
  The tree, plain: nodes, the grammar.
-/
import Derived.Test.Qxb6500562aGreatLexP
namespace Go.Proofs.Qxb6500562aGreat
open Go.Den Go.Zip
set_option linter.unusedVariables false
set_option linter.unusedSimpArgs false

structure Nd where
  kind : Int
  a : Int
  b : Int
  c : Int
  next : Int
  val : Int
  pos : Int
  name : ByteArray
def ndV (n : Nd) : List Value := [.int .i64 n.kind, .int .i64 n.a, .int .i64 n.b, .int .i64 n.c, .int .i64 n.next, .int .i64 n.val, .int .i64 n.pos, .string n.name]
def nd0 (kind pos : Int) : Nd := ⟨kind, -1, -1, -1, -1, 0, pos, ⟨#[]⟩⟩
abbrev PS := Nat × List Nd
abbrev PR (α : Type) := Except (Int × Int) (α × PS)
def bnd {α β : Type} (r : PR α) (k : α → PS → PR β) : PR β := match r with | .error q => .error q | .ok (x, s) => k x s
@[simp] theorem bnd_ok {α β : Type} (x : α) (s : PS) (k : α → PS → PR β) : bnd (.ok (x, s)) k = k x s := rfl
@[simp] theorem bnd_error {α β : Type} (q : Int × Int) (k : α → PS → PR β) : bnd (.error q) k = .error q := rfl
theorem bnd_inv {α β : Type} {r : PR α} {k : α → PS → PR β} {y : β × PS} (h : bnd r k = .ok y) : ∃ x s, r = .ok (x, s) ∧ k x s = .ok y := by
  rcases r with q | ⟨x, s⟩
  · cases h
  · exact ⟨x, s, rfl, h⟩
theorem bnd_assoc {α β γ : Type} (r : PR α) (k : α → PS → PR β) (j : β → PS → PR γ) : bnd (bnd r k) j = bnd r fun x s => bnd (k x s) j := by
  rcases r with q | ⟨x, s⟩ <;> rfl
def tk (T : List Tok) (i : Nat) : Tok := T.getD i ⟨0, 0, 0, ⟨#[]⟩⟩
def knd (T : List Tok) (i : Nat) : Int := (tk T i).kind
def psn (T : List Tok) (i : Nat) : Int := (tk T i).pos
def txt (T : List Tok) (i : Nat) : ByteArray := (tk T i).text
/-- The list ends in the one TEOF. -/
structure TokOK (T : List Tok) : Prop where
  ne : 0 < T.length
  eof : ∀ i, i < T.length → (knd T i = 0 ↔ i + 1 = T.length)
  le : T.length ≤ 4097
  val : ∀ i, 0 ≤ (tk T i).val ∧ (tk T i).val ≤ 9223372036854775807 ∧ (tk T i).text.size ≤ 4096
theorem TokOK.lt {T : List Tok} (h : TokOK T) {i : Nat} (hi : i < T.length) (hk : knd T i ≠ 0) : i + 1 < T.length := by
  have := h.eof i hi
  have : i + 1 ≠ T.length := fun e => hk (this.2 e)
  omega
def pTake (T : List Tok) (k : Int) (st : PS) : PR Unit := if knd T st.1 = k then .ok ((), st.1 + 1, st.2) else .error (10, psn T st.1)
def pAdd (n : Nd) (st : PS) : PR Int := if 200 ≤ st.2.length then .error (12, n.pos) else .ok ((st.2.length : Int), st.1, st.2 ++ [n])
/-- Member x behind the last one. -/
def setNext (l : List Nd) (i : Nat) (x : Int) : List Nd := l.modify i fun n => { n with next := x }
def pHang (last x : Int) (st : PS) : PS := if last < 0 then st else (st.1, setNext st.2 last.toNat x)
/-- How many brackets open a type. -/
def tyOpen (T : List Tok) : Nat → PS → PR Nat
  | 0, st => if knd T st.1 = 21 then .error (11, psn T st.1) else .ok (0, st)
  | k + 1, st => if knd T st.1 = 21 then bnd (tyOpen T k (st.1 + 1, st.2)) fun d s => .ok (d + 1, s) else .ok (0, st)
def tyClose (T : List Tok) : Nat → PS → PR Unit
  | 0, st => .ok ((), st)
  | k + 1, st => bnd (pTake T 22 st) fun _ st => tyClose T k st
def tyBase (T : List Tok) (st : PS) : PR Int := if knd T st.1 = 16 then .ok (1, st.1 + 1, st.2) else bnd (pTake T 15 st) fun _ s => .ok (0, s)
def pTyp (T : List Tok) (st : PS) : PR Int := bnd (tyOpen T 3 st) fun d s => bnd (tyBase T s) fun t s => bnd (tyClose T d s) fun _ s => .ok (t + 2 * d, s)
/-- How tightly an operator binds. -/
def power (k : Int) : Nat :=
  if k = 38 then 1 else if k = 37 then 2 else if 26 ≤ k ∧ k ≤ 31 then 3 else if k = 32 ∨ k = 33 then 4 else if k = 34 ∨ k = 35 ∨ k = 36 then 5 else 0
/-- Operators behind an operand x. -/
def cl (T : List Tok) (u : PS → PR Int) : Nat → Nat → Int → PS → PR Int
  | 0, _, _, _ => .error (0, 0)
  | f + 1, m, x, st =>
    if power (knd T st.1) < m then .ok (x, st) else
    bnd (u (st.1 + 1, st.2)) fun y s1 => bnd (cl T u f (power (knd T st.1) + 1) y s1) fun b s2 =>
    bnd (pAdd { nd0 18 (psn T st.1) with a := x, b := b, val := knd T st.1 } s2) fun x' s3 => cl T u f m x' s3
def climb (T : List Tok) (u : PS → PR Int) (m : Nat) (st : PS) : PR Int := bnd (u st) fun y s => cl T u (T.length + 1) m y s
/-- What may stand one level deeper: an expression, a unary one. -/
abbrev Sub := Option ((PS → PR Int) × (PS → PR Int))
/-- '(' expr ')' . -/
def pInner (T : List Tok) (sub : Sub) (st : PS) : PR Int :=
  if knd T st.1 = 17 then
    match sub with
    | none => .error (11, psn T st.1)
    | some e => bnd (e.1 (st.1 + 1, st.2)) fun x s => bnd (pTake T 18 s) fun _ s => .ok (x, s)
  else .error (10, psn T st.1)
/-- A comma, but ahead of the first. -/
def pComma (T : List Tok) (first : Int) (st : PS) : PR Unit := if first < 0 then .ok ((), st) else pTake T 23 st
/-- A loop over tokens. -/
def lp {σ ρ : Type} (stop : σ → PS → Option (PR ρ)) (body : σ → PS → PR σ) : Nat → σ → PS → PR ρ
  | 0, _, _ => .error (0, 0)
  | f + 1, x, st => match stop x st with | some r => r | none => bnd (body x st) fun y s => lp stop body f y s
/-- A row of members up to a token of kind k: the first and the last of them so far. -/
def till (T : List Tok) (k : Int) (v : Int × Int) (st : PS) : Option (PR Int) := if knd T st.1 = k then some (.ok (v.1, st)) else none
def memb (one : Int → PS → PR Int) (v : Int × Int) (st : PS) : PR (Int × Int) := bnd (one v.1 st) fun x s => .ok ((if v.1 < 0 then x else v.1, x), pHang v.2 x s)
def row (T : List Tok) (k : Int) (one : Int → PS → PR Int) (v : Int × Int) (st : PS) : PR Int := lp (till T k) (memb one) (T.length + 1) v st
/-- The arguments of a call. -/
def pArg (T : List Tok) (e : PS → PR Int) (first : Int) (st : PS) : PR Int := bnd (pComma T first st) fun _ s => e s
def pCall (T : List Tok) (sub : Sub) (st : PS) : PR Int :=
  if knd T (st.1 + 1) = 17 then
    match sub with
    | none => .error (11, psn T (st.1 + 1))
    | some e =>
      bnd (row T 18 (pArg T e.1) (-1, -1) (st.1 + 2, st.2)) fun x s => bnd (pTake T 18 s) fun _ s =>
      pAdd { nd0 13 (psn T st.1) with a := x, name := txt T st.1 } s
  else pAdd { nd0 12 (psn T st.1) with name := txt T st.1 } (st.1 + 1, st.2)
def pPrim (T : List Tok) (sub : Sub) (st : PS) : PR Int :=
  if knd T st.1 = 2 then pAdd { nd0 10 (psn T st.1) with val := (tk T st.1).val } (st.1 + 1, st.2)
  else if knd T st.1 = 10 then pAdd { nd0 11 (psn T st.1) with val := 1 } (st.1 + 1, st.2)
  else if knd T st.1 = 11 then pAdd (nd0 11 (psn T st.1)) (st.1 + 1, st.2)
  else if knd T st.1 = 17 then pInner T sub st
  else if knd T st.1 = 12 then bnd (pTyp T (st.1 + 1, st.2)) fun t s => bnd (pInner T sub s) fun x s => pAdd { nd0 15 (psn T st.1) with val := t, a := x } s
  else if knd T st.1 = 13 then bnd (pInner T sub (st.1 + 1, st.2)) fun x s => pAdd { nd0 16 (psn T st.1) with a := x } s
  else if knd T st.1 = 14 then bnd (pTake T 17 (st.1 + 1, st.2)) fun _ s => bnd (pTake T 18 s) fun _ s => pAdd (nd0 17 (psn T st.1)) s
  else if knd T st.1 = 1 then pCall T sub st
  else .error (10, psn T st.1)
def idxStop (T : List Tok) (x : Int) (st : PS) : Option (PR Int) := if knd T st.1 = 21 then none else some (.ok (x, st))
def idxOne (T : List Tok) (sub : Sub) (x : Int) (st : PS) : PR Int :=
  match sub with
  | none => .error (11, psn T st.1)
  | some e => bnd (e.1 (st.1 + 1, st.2)) fun b s => bnd (pTake T 22 s) fun _ s => pAdd { nd0 14 (psn T st.1) with a := x, b := b } s
def pIdx (T : List Tok) (sub : Sub) (x : Int) (st : PS) : PR Int := lp (idxStop T) (idxOne T sub) (T.length + 1) x st
def pPost (T : List Tok) (sub : Sub) (st : PS) : PR Int := bnd (pPrim T sub st) fun x s => pIdx T sub x s
def pUn (T : List Tok) (sub : Sub) (st : PS) : PR Int :=
  if knd T st.1 = 33 ∨ knd T st.1 = 39 then
    match sub with
    | none => .error (11, psn T st.1)
    | some e => bnd (e.2 (st.1 + 1, st.2)) fun x s => pAdd { nd0 19 (psn T st.1) with a := x, val := knd T st.1 } s
  else pPost T sub st
/-- With l levels left: an expression, a unary one. -/
def EU (T : List Tok) : Nat → (PS → PR Int) × (PS → PR Int)
  | 0 => (climb T (pUn T none) 1, pUn T none)
  | l + 1 => (climb T (pUn T (some (EU T l))) 1, pUn T (some (EU T l)))
def subOf (T : List Tok) : Nat → Sub
  | 0 => none
  | l + 1 => some (EU T l)
theorem EU_eq (T : List Tok) (l : Nat) : EU T l = (climb T (pUn T (subOf T l)) 1, pUn T (subOf T l)) := by cases l <;> rfl
def pU (T : List Tok) (l : Nat) : PS → PR Int := pUn T (subOf T l)
def pE (T : List Tok) (l : Nat) : PS → PR Int := climb T (pU T l) 1
theorem subOf_succ (T : List Tok) (l : Nat) : subOf T (l + 1) = some (pE T l, pU T l) := by show some (EU T l) = _; rw [EU_eq]; rfl
/-- expr ';' as nd's A. -/
def pClosed (T : List Tok) (l : Nat) (n : Nd) (st : PS) : PR Int := bnd (pE T l st) fun x s => bnd (pTake T 24 s) fun _ s => pAdd { n with a := x } s
def ndAt (l : List Nd) (i : Int) : Nd := l.getD i.toNat (nd0 0 0)
def pPlain (T : List Tok) (l : Nat) (st : PS) : PR Int :=
  bnd (pE T l st) fun x s =>
    if knd T s.1 = 25 ∧ ((ndAt s.2 x).kind = 12 ∨ (ndAt s.2 x).kind = 14) then
      bnd (pE T l (s.1 + 1, s.2)) fun y s' => bnd (pTake T 24 s') fun _ s' => pAdd { nd0 4 (psn T s.1) with a := x, b := y } s'
    else bnd (pTake T 24 s) fun _ s' => pAdd { nd0 9 (ndAt s.2 x).pos with a := x } s'
def pElse (T : List Tok) (blk : PS → PR Int) (st : PS) : PR Int := if knd T st.1 = 6 then blk (st.1 + 1, st.2) else .ok (-1, st)
/-- A statement with l levels left; blk: a block with as many. -/
def pStmt (T : List Tok) (l : Nat) (blk : PS → PR Int) (st : PS) : PR Int :=
  if knd T st.1 = 4 then
    bnd (pTake T 1 (st.1 + 1, st.2)) fun _ s => bnd (pTyp T s) fun t s => bnd (pTake T 25 s) fun _ s =>
    pClosed T l { nd0 3 (psn T (st.1 + 1)) with val := t, name := txt T (st.1 + 1) } s
  else if knd T st.1 = 5 then
    bnd (pE T l (st.1 + 1, st.2)) fun x s => bnd (blk s) fun y s => bnd (pElse T blk s) fun z s => pAdd { nd0 5 (psn T st.1) with a := x, b := y, c := z } s
  else if knd T st.1 = 7 then
    bnd (pE T l (st.1 + 1, st.2)) fun x s => bnd (blk s) fun y s => pAdd { nd0 6 (psn T st.1) with a := x, b := y } s
  else if knd T st.1 = 8 then pClosed T l (nd0 7 (psn T st.1)) (st.1 + 1, st.2)
  else if knd T st.1 = 9 then pClosed T l (nd0 8 (psn T st.1)) (st.1 + 1, st.2)
  else pPlain T l st
def pBlk (T : List Tok) : Nat → PS → PR Int
  | 0, st => .error (if knd T st.1 = 19 then 11 else 10, psn T st.1)
  | l + 1, st =>
    if knd T st.1 = 19 then
      bnd (row T 20 (fun _ => pStmt T l (pBlk T l)) (-1, -1) (st.1 + 1, st.2)) fun x s => bnd (pTake T 20 s) fun _ s => pAdd { nd0 2 (psn T st.1) with a := x } s
    else .error (10, psn T st.1)
def pParam (T : List Tok) (first : Int) (st : PS) : PR Int :=
  bnd (pComma T first st) fun _ s => bnd (pTake T 1 s) fun _ s1 => bnd (pTyp T s1) fun t s2 => pAdd { nd0 1 (psn T s.1) with val := t, name := txt T s.1 } s2
def pFunc (T : List Tok) (st : PS) : PR Int :=
  bnd (pTake T 3 st) fun _ s => bnd (pTake T 1 s) fun _ s1 => bnd (pTake T 17 s1) fun _ s2 => bnd (row T 18 (pParam T) (-1, -1) s2) fun a s3 =>
  bnd (pTake T 18 s3) fun _ s4 => bnd (pTyp T s4) fun t s5 => bnd (pBlk T 8 s5) fun b s6 =>
  pAdd { nd0 0 (psn T s.1) with name := txt T s.1, a := a, b := b, val := t } s6
/-- The tree of a row of tokens. -/
def pTree (T : List Tok) : PR Int := row T 0 (fun _ => pFunc T) (-1, -1) (0, [])
end Go.Proofs.Qxb6500562aGreat
