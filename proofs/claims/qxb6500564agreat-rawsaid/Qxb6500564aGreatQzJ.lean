/-
  SELECT's end: the real engine's project.
-/
import Derived.Test.Qxb6500564aGreatQzI
namespace Go.Proofs.Qxb6500564aGreat
open Go.Den Go.Zip
set_option linter.unusedVariables false
set_option linter.unusedSimpArgs false
variable {w w' u v : World} {i j k n a b b0 h0 q g : Nat} {x nm : ByteArray} {cs : List Cl} {sc hit c r : Sl} {row : List Vl} {T : Smt} {y : Nat → Sl} {ss hs : List Sl} {rows hr : List (List Vl)} {val : Vl} {ns : List ByteArray}

def rsC (e n : Int) (c r : Sl) : List Value := [.int .i64 e, .int .i64 n, slV c, slV r]
/-- What stays while the answer is built. -/
structure PS1 (p1 p2 p3 : Nat) (C1 C2 : List Value) (sc : Sl) (cs : List Cl) (hit : Sl) (ss : List Sl) (hr : List (List Vl)) (u : World) : Prop where
  b1 : Blk u p1 C1
  b2 : Blk u p2 C2
  b3 : Blk u p3 (rsC 0 0 nilS nilS)
  oc : OS u sc (colC cs) 2
  oh : OS u hit (ss.map slV) 1
  rw_ : RowsAt u ss hr
theorem PS1.frp {p1 p2 p3 : Nat} {C1 C2 : List Value} {P : Nat → Prop} (h : PS1 p1 p2 p3 C1 C2 sc cs hit ss hr u) (F : FrP P u v) (h1 : ¬ P p1 ∧ ¬ P p2 ∧ ¬ P p3) (h2 : ∀ b, owns sc b → ¬ P b) (h3 : ∀ b, owns hit b → ¬ P b) (h4 : ∀ s ∈ ss, ∀ b, owns s b → ¬ P b) : PS1 p1 p2 p3 C1 C2 sc cs hit ss hr v :=
  ⟨h.b1.frp F h1.1, h.b2.frp F h1.2.1, h.b3.frp F h1.2.2, h.oc.frp F h2, h.oh.frp F h3, h.rw_.frp F h4⟩
theorem PS1.fr0 {p1 p2 p3 : Nat} {C1 C2 : List Value} (h : PS1 p1 p2 p3 C1 C2 sc cs hit ss hr u) (F : Fr 0 0 u v) : PS1 p1 p2 p3 C1 C2 sc cs hit ss hr v := h.frp (FrP.of0 (P := fun _ => False) F) ⟨id, id, id⟩ (fun _ _ h => h) (fun _ _ h => h) fun _ _ _ _ h => h
theorem PS1.dr {p1 p2 p3 : Nat} {C1 C2 : List Value} (h : PS1 p1 p2 p3 C1 C2 sc cs hit ss hr u) : PS1 p1 p2 p3 C1 C2 sc cs hit ss hr u.drew := h.fr0 ((Fr.refl 0 0 u).drew)
/-- Four cells of an answer are laid. -/
theorem stR {vs : List Value} {e n : Int} {K : World → Prop} (h : Blk w q vs) (hl : vs.length = 4) (hk : ∀ w', Blk w' q (rsC e n c r) → Fr q 1 w w' → K w') :
    St1 w ⟨q, 0, none⟩ (.int .i64 e) fun w => St1 w ⟨q, 1, none⟩ (.int .i64 n) fun w => St1 w ⟨q, 2, none⟩ (.slice c.a c.l c.c) fun w => St1 w ⟨q, 3, none⟩ (.slice r.a r.l r.c) fun w => K w := by
  match vs, hl with
  | [_, _, _, _], _ =>
    exact st1 h (by show _ < 4; omega) fun w1 h f1 _ => st1 h (by show _ < 4; omega) fun w2 h f2 _ => st1 h (by show _ < 4; omega) fun w3 h f3 _ => st1 h (by show _ < 4; omega) fun w4 h f4 _ => hk w4 h (((f1.trans f2).trans f3).trans f4)
theorem ldR {e n : Int} {K : Int → Int → Sl → Sl → Prop} (h : Blk w q (rsC e n c r)) (hk : K e n c r) : LdI .i64 w ⟨q, 0, none⟩ fun a => LdI .i64 w ⟨q, 1, none⟩ fun b => LdS w ⟨q, 2, none⟩ fun c => LdS w ⟨q, 3, none⟩ fun d => K a b c d :=
  ldI h rfl (ldI h rfl (ldS h rfl (ldS h rfl hk)))
theorem fail_spec {e : Int} {K : Int → Int → Sl → Sl → World → Prop} (hK : ∀ w', Fr 0 0 w w' → K e 0 nilS nilS w') : S.query_fail e w K := by
  unfold S.query_fail
  exact newB fun w1 q1 f1 z1 => stR (c := nilS) (r := nilS) q1 rfl fun w2 q2 f2 => ldR q2 (hK w2 (f1.thenNew f2 (Nat.le_refl _)))
theorem mfail_spec {e : Int} {K : Int → Int → Sl → Sl → World → Prop} (hK : ∀ w', Fr 0 0 w w' → K e 0 nilS nilS w') : S.querym_fail e w K := by
  unfold S.querym_fail
  exact newB fun w1 q1 f1 z1 => stR (c := nilS) (r := nilS) q1 rfl fun w2 q2 f2 => ldR q2 (hK w2 (f1.thenNew f2 (Nat.le_refl _)))
end Go.Proofs.Qxb6500564aGreat
