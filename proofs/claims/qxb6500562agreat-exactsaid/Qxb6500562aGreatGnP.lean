/-
  The compiler, plain.
-/
import Derived.Test.Qxb6500562aGreatCkP
import Derived.Test.Qxb6500562aGreatNum
namespace Go.Proofs.Qxb6500562aGreat
open Go.Den Go.Zip
set_option linter.unusedVariables false
set_option linter.unusedSimpArgs false

/-- A byte, or half of a function's entry. -/
abbrev Sym := Sum Nat (Int × Bool)
def byS (l : List Nat) : List Sym := l.map Sum.inl
def rnd (ent : Int → Nat) : Sym → Nat
  | .inl b => b
  | .inr (k, false) => ent k % 256
  | .inr (k, true) => ent k / 256 % 256
def r0 : Sym → Nat := rnd fun _ => 0
def callsOf : Nat → List Sym → List (Int × Int)
  | _, [] => []
  | p, .inr (k, false) :: l => ((p : Int), k) :: callsOf (p + 1) l
  | p, .inr (_, true) :: l => callsOf (p + 1) l
  | p, .inl _ :: l => callsOf (p + 1) l
theorem callsOf_app : ∀ (l l' : List Sym) (p : Nat), callsOf p (l ++ l') = callsOf p l ++ callsOf (p + l.length) l'
  | [], l', p => by simp [callsOf]
  | .inl b :: l, l', p => by
    show callsOf (p + 1) (l ++ l') = callsOf (p + 1) l ++ _
    rw [callsOf_app l l' (p + 1), List.length_cons]; congr 2; omega
  | .inr (k, true) :: l, l', p => by
    show callsOf (p + 1) (l ++ l') = callsOf (p + 1) l ++ _
    rw [callsOf_app l l' (p + 1), List.length_cons]; congr 2; omega
  | .inr (k, false) :: l, l', p => by
    show _ :: callsOf (p + 1) (l ++ l') = _ :: callsOf (p + 1) l ++ _
    rw [callsOf_app l l' (p + 1), List.length_cons, List.cons_append]; congr 3; omega
theorem callsOf_by : ∀ (l : List Nat) (p : Nat), callsOf p (byS l) = []
  | [], p => rfl
  | b :: l, p => callsOf_by l (p + 1)
def u16B (v : Nat) : List Nat := [v % 256, v / 256 % 256]
def leB : Nat → Nat → List Nat
  | 0, _ => []
  | k + 1, u => u % 256 :: leB k (u / 256)
theorem leB_len : ∀ k u, (leB k u).length = k
  | 0, _ => rfl
  | k + 1, u => by show (leB k _).length + 1 = _; rw [leB_len k]
def i64B (v : Int) : List Nat := leB 8 (U64 v).toNat
theorem i64B_len (v : Int) : (i64B v).length = 8 := leB_len _ _
def cls (ty : Int) (i r : Nat) : Nat := if 2 ≤ ty then r else i
def b8 (v : Int) : Nat := (U8 v).toNat
def gI (l : List Int) (x : Int) : Int := l.getD x.toNat (-1)
def numS (v : Int) : List Sym := byS (0 :: i64B v)
def jmpS (o a : Nat) : List Sym := byS (o :: u16B a)
theorem numS_len (v : Int) : (numS v).length = 9 := by unfold numS byS; rw [List.length_map, List.length_cons, i64B_len]
theorem jmpS_len (o a : Nat) : (jmpS o a).length = 3 := rfl
theorem byS_len (l : List Nat) : (byS l).length = l.length := by unfold byS; rw [List.length_map]
def binO (t : Int) : Nat := if t = 32 then 8 else if t = 33 then 9 else if t = 34 then 10 else if t = 35 then 11 else if t = 36 then 12 else if t = 26 then 15 else if t = 27 then 16 else if t = 28 then 17 else if t = 29 then 18 else if t = 30 then 19 else 20
def rowS (f : Int → Nat → List Sym) : List Int → Nat → List Sym
  | [], _ => []
  | a :: l, p => f a p ++ rowS f l (p + (f a p).length)
section
variable (ns : List Nd) (T R : List Int)
/-- Behind the left side of a short circuit, at p. -/
def shortS (f : Nat → List Sym) (o : Nat) (v : Int) (p : Nat) : List Sym :=
  jmpS o (p + 3 + (f (p + 3)).length + 3) ++ f (p + 3) ++ jmpS 21 (p + 3 + (f (p + 3)).length + 3 + 9) ++ numS v
def sE : Nat → Int → Nat → List Sym
  | 0, _, _ => []
  | n + 1, x, p =>
    if (ndAt ns x).kind = 10 ∨ (ndAt ns x).kind = 11 then numS (ndAt ns x).val
    else if (ndAt ns x).kind = 12 then byS [cls (gI T x) 2 4, b8 (gI R x)]
    else if (ndAt ns x).kind = 17 then byS [36]
    else if (ndAt ns x).kind = 19 then sE n (ndAt ns x).a p ++ byS [if (ndAt ns x).val = 39 then 14 else 13]
    else if (ndAt ns x).kind = 18 then
      (if (ndAt ns x).val = 37 then sE n (ndAt ns x).a p ++ shortS (sE n (ndAt ns x).b) 22 0 (p + (sE n (ndAt ns x).a p).length)
       else if (ndAt ns x).val = 38 then sE n (ndAt ns x).a p ++ shortS (sE n (ndAt ns x).b) 23 1 (p + (sE n (ndAt ns x).a p).length)
       else sE n (ndAt ns x).a p ++ sE n (ndAt ns x).b (p + (sE n (ndAt ns x).a p).length) ++ byS [binO (ndAt ns x).val])
    else if (ndAt ns x).kind = 14 then sE n (ndAt ns x).a p ++ sE n (ndAt ns x).b (p + (sE n (ndAt ns x).a p).length) ++ byS [cls (gI T x) 30 31]
    else if (ndAt ns x).kind = 15 then sE n (ndAt ns x).a p ++ byS [cls (W ((ndAt ns x).val - 2)) 28 29]
    else if (ndAt ns x).kind = 16 then sE n (ndAt ns x).a p ++ byS [34]
    else if (ndAt ns x).kind = 13 then rowS (sE n) (kids ns (ndAt ns x).a) p ++ [.inl 24, .inr (gI R x, false), .inr (gI R x, true)]
    else []
/-- An expression of a statement. -/
def sX (x : Int) (p : Nat) : List Sym := sE ns T R ns.length x p
/-- Two pieces, one behind the other. -/
def thenS (f g : Nat → List Sym) (p : Nat) : List Sym := f p ++ g (p + (f p).length)
def blkS (f : Int → Nat → List Sym) (b : Int) (p : Nat) : List Sym := rowS f (kids ns (ndAt ns b).a) p
def sS : Nat → Int → Nat → List Sym
  | 0, _, _ => []
  | n + 1, x, p =>
    if (ndAt ns x).kind = 3 then sX ns T R (ndAt ns x).a p ++ byS [cls (ndAt ns x).val 3 5, b8 (gI R x)]
    else if (ndAt ns x).kind = 4 then
      (if (ndAt ns (ndAt ns x).a).kind = 12 then sX ns T R (ndAt ns x).b p ++ byS [cls (gI T (ndAt ns x).a) 3 5, b8 (gI R (ndAt ns x).a)]
       else thenS (thenS (sX ns T R (ndAt ns (ndAt ns x).a).a) (sX ns T R (ndAt ns (ndAt ns x).a).b)) (sX ns T R (ndAt ns x).b) p ++ byS [cls (gI T (ndAt ns x).b) 32 33])
    else if (ndAt ns x).kind = 5 then
      sX ns T R (ndAt ns x).a p ++
      (let q := p + (sX ns T R (ndAt ns x).a p).length + 3
       let B := blkS ns (sS n) (ndAt ns x).b q
       if (ndAt ns x).c < 0 then jmpS 22 (q + B.length) ++ B
       else jmpS 22 (q + B.length + 3) ++ B ++ jmpS 21 (q + B.length + 3 + (blkS ns (sS n) (ndAt ns x).c (q + B.length + 3)).length) ++ blkS ns (sS n) (ndAt ns x).c (q + B.length + 3))
    else if (ndAt ns x).kind = 6 then
      sX ns T R (ndAt ns x).a p ++
      (let q := p + (sX ns T R (ndAt ns x).a p).length + 3
       let B := blkS ns (sS n) (ndAt ns x).b q
       jmpS 22 (q + B.length + 3) ++ B ++ jmpS 21 p)
    else if (ndAt ns x).kind = 7 then sX ns T R (ndAt ns x).a p ++ byS [cls (gI T (ndAt ns x).a) 26 27]
    else if (ndAt ns x).kind = 8 then sX ns T R (ndAt ns x).a p ++ byS [35]
    else if (ndAt ns x).kind = 9 then sX ns T R (ndAt ns x).a p ++ byS [cls (gI T (ndAt ns x).a) 1 6]
    else []
def headS (f : Fn) : List Sym := byS [25, b8 f.pi, b8 f.pr, b8 f.li, b8 f.lr]
def tailS (ret : Int) : List Sym := (if 2 ≤ ret then byS [7] else numS 0) ++ byS [cls ret 26 27]
def sF (f : Fn) (p : Nat) : List Sym := headS f ++ blkS ns (sS ns T R ns.length) (ndAt ns f.node).b (p + 5) ++ tailS f.ret
/-- The functions but k from i on, n of them. -/
def sRest (fs : List Fn) (k : Int) : Nat → Nat → Nat → List Sym
  | 0, _, _ => []
  | n + 1, i, p => if (i : Int) = k then sRest fs k n (i + 1) p else sF ns T R (fnAt fs i) p ++ sRest fs k n (i + 1) (p + (sF ns T R (fnAt fs i) p).length)
def sAll (fs : List Fn) (main : Int) : List Sym := sF ns T R (fnAt fs main) 0 ++ sRest ns T R fs main fs.length 0 (sF ns T R (fnAt fs main) 0).length
/-- Where function j begins, of the functions but k from i on. -/
def entR (fs : List Fn) (k : Int) : Nat → Nat → Nat → Int → Nat
  | 0, _, _, _ => 0
  | n + 1, i, p, j => if (i : Int) = k then entR fs k n (i + 1) p j else if j = i then p else entR fs k n (i + 1) (p + (sF ns T R (fnAt fs i) p).length) j
def entA (fs : List Fn) (main j : Int) : Nat := if j = main then 0 else entR ns T R fs main fs.length 0 (sF ns T R (fnAt fs main) 0).length j
end
/-- The program's bytes. -/
def codeP (ns : List Nd) (T R : List Int) (fs : List Fn) (main : Int) : List Nat := (sAll ns T R fs main).map (rnd (entA ns T R fs main))
end Go.Proofs.Qxb6500562aGreat
