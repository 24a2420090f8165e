/-
  The forest: mend.
-/
import Derived.Test.Qxb6500564aGreatBtL
namespace Go.Proofs.Qxb6500564aGreat
open Go.Den Go.Zip
set_option linter.unusedVariables false
set_option linter.unusedSimpArgs false
variable {dq : Nat}
variable {w w' : World} {f p i j n : Nat} {d : Nd} {D : List Bk} {R : List Wr} {cur cur' : Nat → Bk} {O : Nat → Prop}

theorem join_P3 {k : Nat → Nat → ByteArray → World → Prop} {body : (Nat → Nat → ByteArray → World → Prop) → Prop} (P : Nat → Nat → ByteArray → World → Prop) (hk : ∀ x y z w, P x y z w → k x y z w) (hb : ∀ J : Nat → Nat → ByteArray → World → Prop, (∀ x y z w, P x y z w → J x y z w) → body J) : Join k body := hb k hk
theorem NodeOf.kd {h : Nat} {a b : Bo} {es : Es} {qs : List Nat} (s : NodeOf cur h d a b es qs) : d.kd = if h = 0 then 1 else 2 := by
  cases h with
  | zero => exact s.1
  | succ h => exact s.1
/-- The blocks of mend. -/
structure MB (dq : Nat) (w u : World) (f p : Nat) (D : List Bk) (R : List Wr) (cur : Nat → Bk) (O : Nat → Prop) (p1 p2 p3 : Nat) (e z m : Nd) : Prop where
  e : NB u p1 e
  z : NB u p2 z
  m : NB u p3 m
  s : FW dq u f p D R cur true O
  F : FrP O w u
theorem MB.fr0 {u v : World} {p1 p2 p3 : Nat} {e z m : Nd} (b : MB dq w u f p D R cur O p1 p2 p3 e z m) (F : Fr 0 0 u v) : MB dq w v f p D R cur O p1 p2 p3 e z m := ⟨b.e.fr F (by omega), b.z.fr F (by omega), b.m.fr F (by omega), b.s.fr0 F, b.F.trans (FrP.of0 F)⟩
theorem MB.drew {u : World} {p1 p2 p3 : Nat} {e z m : Nd} (b : MB dq w u f p D R cur O p1 p2 p3 e z m) : MB dq w u.drew f p D R cur O p1 p2 p3 e z m :=
  ⟨b.e, b.z, b.m, ⟨b.s.1.drew, b.s.2.1.frp (FrP.refl (fun _ => False) u).drew (fun _ _ h => h), b.s.2.2⟩, b.F.drew⟩
/-- A block of the call's own turns. -/
theorem MB.own {u v w0 : World} {p1 p2 p3 q : Nat} {e z m : Nd} (b : MB dq w u f p D R cur O p1 p2 p3 e z m) (F : Fr q 1 u v) (s0 : FW dq w f p D R cur true O) (hq : w.heap.size ≤ q) (h1 : q ≠ p1) (h2 : q ≠ p2) (h3 : q ≠ p3) : MB dq w v f p D R cur O p1 p2 p3 e z m :=
  ⟨b.e.fr F (by omega), b.z.fr F (by omega), b.m.fr F (by omega), b.s.frq F s0 hq, b.F.trans' (Q := fun b => b = q) (FrP.of F fun b h1 h2 => by omega) fun b hb => .inr (by omega)⟩
/-- The pager works. -/
theorem MB.pg {u v : World} {p1 p2 p3 : Nat} {e z m : Nd} (b : MB dq w u f p D R cur O p1 p2 p3 e z m) (F : FrP O u v) (s : FW dq v f p D R cur' true O) (h1 : ¬ O p1) (h2 : ¬ O p2) (h3 : ¬ O p3) : MB dq w v f p D R cur' O p1 p2 p3 e z m :=
  ⟨b.e.frp F h1, b.z.frp F h2, b.m.frp F h3, s, b.F.trans F⟩
def LeftD (cur : Nat → Bk) (h : Nat) (e : Nd) (a b a' b' : Bo) (x1 x3 : Es) (y1 y3 : List Nat) (l : Nd) : Nat → Prop
  | 0 => True
  | c + 1 => ∃ aL z1 zl w1 ql, Pair cur h e a b c aL b' z1 x3 w1 y3 ∧ a' = some (e.ky c) ∧ x1 = z1 ++ zl ∧ y1 = w1 ++ (e.kid c :: ql) ∧ NodeOf cur h l aL (some (e.ky c)) zl ql ∧ 2 ≤ l.n ∧ l.n ≤ (if h = 0 then 3 else 4)
def RightD (cur : Nat → Bk) (h : Nat) (e : Nd) (a b a' b' : Bo) (x1 x3 : Es) (y1 y3 : List Nat) (r : Nd) (c : Nat) : Prop :=
  ∃ bR zr z3 w3 qr, Pair cur h e a b c a' bR x1 z3 y1 w3 ∧ b' = some (e.ky c) ∧ x3 = zr ++ z3 ∧ y3 = (e.kid (c + 1) :: qr) ++ w3 ∧ NodeOf cur h r (some (e.ky c)) bR zr qr ∧ 2 ≤ r.n ∧ r.n ≤ (if h = 0 then 3 else 4)
/-- What mend hands back. -/
def MendA (cur : Nat → Bk) (h : Nat) (a b : Bo) (es : Es) (n : Nat) (rest : List Nat) (e' : Nd) (cur' : Nat → Bk) : Prop :=
  ∃ qs', NodeOf cur' (h + 1) e' a b es qs' ∧ n ≤ e'.n + 1 ∧ e'.n ≤ 4 ∧ Own cur' (qs' ++ rest) ∧ ∀ q ∈ rest, cur' q = cur q
/-- A pair that shared out its items anew. -/
theorem mend_turn {e l' r' : Nd} {h c : Nat} {a b aL bR : Bo} {X1 X3 eL eR : Es} {Y1 Y3 qL qR rest : List Nat} {s' : ByteArray} {bl br : Bk} (P : Pair cur h e a b c aL bR X1 X3 Y1 Y3) (hc : c + 1 < e.n) (hn : e.n ≤ 4) (hk : e.kd = 2) (z1 : ∀ k ∈ e.ks, k < 256) (z2 : ∀ k ∈ e.ss, k.size ≤ 16) (sz : s'.size ≤ 16)
    (L : NodeOf cur h l' aL (some s') eL qL) (M : NodeOf cur h r' (some s') bR eR qR) (hl : 2 ≤ l'.n) (hr : 2 ≤ r'.n) (pl : PgN bl l') (pr : PgN br r') (o : Own cur (e.kid c :: e.kid (c + 1) :: (Y1 ++ ((qL ++ qR) ++ Y3)) ++ rest)) :
    MendA cur h a b (X1 ++ ((eL ++ eR) ++ X3)) e.n rest { e with ky := fset e.ky c s' } (fset (fset cur (e.kid c) bl) (e.kid (c + 1)) br) := by
  have o' := o
  have hnd := o.1
  simp only [List.cons_append, List.nodup_cons, List.mem_cons, List.mem_append, not_or] at hnd
  have i1 := pgs o (q := e.kid c) (by simp)
  have i2 := pgs o (q := e.kid (c + 1)) (by simp)
  have kp : ∀ q, q ∈ (Y1 ++ ((qL ++ qR) ++ Y3)) ++ rest → fset (fset cur (e.kid c) bl) (e.kid (c + 1)) br q = cur q := fun q hq => by
    simp only [List.mem_append] at hq
    rw [fset_ne (fun e0 => by subst e0; exact absurd hq (by simp only [not_or]; exact ⟨⟨hnd.2.1.1.1, ⟨hnd.2.1.1.2.1.1, hnd.2.1.1.2.1.2⟩, hnd.2.1.1.2.2⟩, hnd.2.1.2⟩)), fset_ne (fun e0 => by subst e0; exact absurd hq (by simp only [not_or]; exact ⟨⟨hnd.1.2.1.1, ⟨hnd.1.2.1.2.1.1, hnd.1.2.1.2.1.2⟩, hnd.1.2.1.2.2⟩, hnd.1.2.2⟩))]
  refine ⟨Y1 ++ (((e.kid c :: qL) ++ (e.kid (c + 1) :: qR)) ++ Y3), (P.keep fun q hq => kp q ?_).turn hc hk z1 z2 sz ((L.keep fun q hq => kp q ?_).sub ?_ hl) ((M.keep fun q hq => kp q ?_).sub ?_ hr), by show e.n ≤ e.n + 1; omega, hn, ?_, fun q hq => kp q (by simp [hq])⟩
  · simp only [List.mem_append] at hq ⊢
    rcases hq with hq | hq
    · exact .inl (.inl hq)
    · exact .inl (.inr (.inr hq))
  · simp [hq]
  · rw [fset_ne hnd.1.1, fset_eq]; exact pl
  · simp [hq]
  · rw [fset_eq]; exact pr
  · refine ((o.set (by omega)).set (by omega)).perm (List.perm_iff_count.2 fun z => ?_)
    simp only [List.count_append, List.count_cons]
    omega
end Go.Proofs.Qxb6500564aGreat
