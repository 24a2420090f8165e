/-
  The store: SchemaOf.
-/
import Derived.Test.Qxb6500564aGreatTbV
namespace Go.Proofs.Qxb6500564aGreat
open Go.Den Go.Zip
set_option linter.unusedVariables false
set_option linter.unusedSimpArgs false
variable {dq : Nat}
variable {w w' u v : World} {i j n t f p : Nat} {D : List Bk} {R : List Wr} {cur cur' : Nat → Bk} {op : Bool} {O : Nat → Prop} {T : Nat → Option Es} {pg : Nat → List Nat} {xs : List Th} {nm : ByteArray}

set_option maxHeartbeats 2000000 in
theorem tschema_spec {K : ByteArray → Sl → Int → Int → Int → World → Prop} (s : TW dq w t f p D R cur op O) (c : FCp cur T pg) (d : DBT T xs)
    (h1 : fnd nm xs = none → ∀ w', TW dq w' t f p D R cur op O → FrP O w w' → K ⟨#[]⟩ ⟨none, 0, 0⟩ 0 (-1) 10 w')
    (h2 : ∀ x, fnd nm xs = some x → ∀ w' q, TW dq w' t f p D R cur op O → FrP O w w' → w.heap.size ≤ q → Blk w' q (colC x.tb.cols) → K nm (fullS q x.tb.cols.length) x.tb.pk x.tb.ix 0 w') : S.table_Store_SchemaOf t nm w K := by
  unfold S.table_Store_SchemaOf
  refine newB fun w0 b0 f0 s0 => ?_
  have b0 : Blk w0 w.heap.size (schC ⟨#[]⟩ ⟨none, 0, 0⟩ 0 0) := b0
  have n0 : ¬ O w.heap.size := fun h => by have := s.2.1.2.1.lt h; omega
  have S0 := s.fr0 f0
  refine load_store S0 c d (fun hf w1 S1 F1 => ?_) fun x hf w1 q S1 F1 hq b1 => ?_
  · have l1 := F1.1.1
    refine newB fun w2 a2 f2 s2 => newB fun w3 b3 f3 s3 => st5 (a2.fr f3 (by omega)) rfl fun w4 a4 f4 => st4 (s := ⟨none, 0, 0⟩) (b3.fr f4 (by omega)) rfl fun w5 b5 f5 => rd4 b5 ?_
    have b05 := ((((b0.frp F1 n0).fr f2 (by omega)).fr f3 (by omega)).fr f4 (by omega)).fr f5 (by omega)
    refine st4 (s := ⟨none, 0, 0⟩) b05 rfl fun w6 b6 f6 => rd4 b6 ?_
    have G : FrP (fun b => b = w1.heap.size ∨ b = w2.heap.size ∨ b = w.heap.size) w3 w6 := ((FrP.of f4 fun b h1 h2 => .inl (by omega)).trans (FrP.of f5 fun b h1 h2 => .inr (.inl (by omega)))).trans (FrP.of f6 fun b h1 h2 => .inr (.inr (by omega)))
    exact h1 hf w6 (((S1.fr0 f2).fr0 f3).new G s fun b hb => by omega) (((((FrP.of0 f0).trans F1).trans (FrP.of0 f2)).trans (FrP.of0 f3)).trans' G fun b hb => .inr (by omega))
  · have l1 := F1.1.1
    have qlt := b1.lt
    refine newB fun w2 a2 f2 s2 => newB fun w3 b3 f3 s3 => st5 (a2.fr f3 (by omega)) rfl fun w4 a4 f4 => st4 (s := fullS q x.tb.cols.length) (b3.fr f4 (by omega)) rfl fun w5 b5 f5 => rd4 b5 ?_
    have b05 := ((((b0.frp F1 n0).fr f2 (by omega)).fr f3 (by omega)).fr f4 (by omega)).fr f5 (by omega)
    refine st4 (s := fullS q x.tb.cols.length) b05 rfl fun w6 b6 f6 => rd4 b6 ?_
    have G : FrP (fun b => b = w1.heap.size ∨ b = w2.heap.size ∨ b = w.heap.size) w3 w6 := ((FrP.of f4 fun b h1 h2 => .inl (by omega)).trans (FrP.of f5 fun b h1 h2 => .inr (.inl (by omega)))).trans (FrP.of f6 fun b h1 h2 => .inr (.inr (by omega)))
    exact h2 x hf w6 q (((S1.fr0 f2).fr0 f3).new G s fun b hb => by omega) (((((FrP.of0 f0).trans F1).trans (FrP.of0 f2)).trans (FrP.of0 f3)).trans' G fun b hb => .inr (by omega)) (by omega) (((b1.fr f2 (by omega)).fr f3 (by omega)).frp G fun h => by omega)
end Go.Proofs.Qxb6500564aGreat
