/-
  A walk's own blocks, and the local blocks that it leaves alone.
-/
import Derived.Test.Qxb6500562aGreatOwn
namespace Go.Den
open Go.Zip
set_option linter.unusedVariables false
set_option linter.unusedSimpArgs false
/-- Since w0 nothing has changed but the blocks of P; the walk owns the blocks of own; the blocks of L (all new) hold what L says. -/
structure Sep (w0 : World) (P : Nat → Prop) (w : World) (own : Nat → Prop) (L : List (Nat × List Value)) : Prop where
  fr : FrP P w0 w
  ow : ∀ b, own b → b < w.heap.size ∧ (P b ∨ w0.heap.size ≤ b)
  lc : ∀ q, q ∈ L → Blk w q.1 q.2 ∧ ¬ own q.1
  nw : ∀ q, q ∈ L → P q.1 ∨ w0.heap.size ≤ q.1
  nd : L.Pairwise fun a b => a.1 ≠ b.1
section
variable {w0 w w' : World} {P own own' : Nat → Prop} {L : List (Nat × List Value)} {p : Nat} {vs : List Value}
theorem Sep.step (h : Sep w0 P w own L) (f : FrP own w w') (ho : ∀ b, own' b → (own b ∨ w.heap.size ≤ b) ∧ b < w'.heap.size) : Sep w0 P w' own' L := by
  have hle := h.fr.1.1
  refine ⟨FrP.trans' h.fr f fun b hb => (h.ow b hb).2, fun b hb => ?_, fun q hq => ?_, h.nw, h.nd⟩
  · obtain ⟨h1, h2⟩ := ho b hb
    refine ⟨h2, ?_⟩
    rcases h1 with h1 | h1
    · exact (h.ow b h1).2
    · exact .inr (by omega)
  · obtain ⟨h1, h2⟩ := h.lc q hq
    refine ⟨h1.frp f h2, fun h3 => ?_⟩
    rcases (ho _ h3).1 with h4 | h4
    · exact h2 h4
    · have := h1.lt; omega
theorem Sep.step0 (h : Sep w0 P w own L) (f : FrP own w w') : Sep w0 P w' own L := h.step f fun b hb => ⟨.inl hb, by have := (h.ow b hb).1; have := f.1.1; omega⟩
theorem Sep.ext (h : Sep w0 P w own L) (f : Fr 0 0 w w') : Sep w0 P w' own L := h.step0 (FrP.of0 f)
theorem Sep.drew (h : Sep w0 P w own L) : Sep w0 P w.drew own L := ⟨h.fr.drew, h.ow, h.lc, h.nw, h.nd⟩
theorem Sep.blk (h : Sep w0 P w own ((p, vs) :: L)) : Blk w p vs := (h.lc (p, vs) (.head _)).1
theorem Sep.nown (h : Sep w0 P w own ((p, vs) :: L)) : ¬ own p := (h.lc (p, vs) (.head _)).2
theorem Sep.blk2 {q : Nat × List Value} (h : Sep w0 P w own (q :: (p, vs) :: L)) : Blk w p vs := (h.lc (p, vs) (.tail _ (.head _))).1
theorem Sep.tail {q : Nat × List Value} (h : Sep w0 P w own (q :: L)) : Sep w0 P w own L := ⟨h.fr, h.ow, fun q hq => h.lc q (.tail _ hq), fun q hq => h.nw q (.tail _ hq), (List.pairwise_cons.1 h.nd).2⟩
/-- A new local block. -/
theorem Sep.new {cs : List Value} (h : Sep w0 P w own L) (f : Fr 0 0 w w') (hp : w.heap.size ≤ p) (hb : Blk w' p cs) : Sep w0 P w' own ((p, cs) :: L) := by
  have h' := h.ext f
  have hle := h.fr.1.1
  refine ⟨h'.fr, h'.ow, fun q hq => ?_, fun q hq => ?_, List.pairwise_cons.2 ⟨fun q hq => ?_, h.nd⟩⟩
  · rcases List.mem_cons.1 hq with rfl | hq
    · exact ⟨hb, fun h3 => by have := (h.ow _ h3).1; dsimp only at this; omega⟩
    · exact h'.lc q hq
  · rcases List.mem_cons.1 hq with rfl | hq
    · exact .inr (by dsimp only; omega)
    · exact h.nw q hq
  · have := (h.lc q hq).1.lt
    dsimp only; omega
/-- A write into a local block. -/
theorem Sep.set {us : List Value} (h : Sep w0 P w own ((p, vs) :: L)) (f : Fr p 1 w w') (hb : Blk w' p us) : Sep w0 P w' own ((p, us) :: L) := by
  have hle := f.le
  have hnd := List.pairwise_cons.1 h.nd
  refine ⟨FrP.trans' h.fr (FrP.of (P := fun b => b = p) f fun b h1 h2 => by omega) fun b hb => by subst hb; exact h.nw (b, vs) (.head _), fun b hb' => ?_, fun q hq => ?_, fun q hq => ?_, List.pairwise_cons.2 ⟨hnd.1, hnd.2⟩⟩
  · have := h.ow b hb'; exact ⟨by omega, this.2⟩
  · rcases List.mem_cons.1 hq with rfl | hq
    · exact ⟨hb, h.nown⟩
    · have := h.lc q (.tail _ hq)
      have hn := hnd.1 q hq
      exact ⟨this.1.fr f (by omega), this.2⟩
  · rcases List.mem_cons.1 hq with rfl | hq
    · exact h.nw (p, vs) (.head _)
    · exact h.nw q (.tail _ hq)
theorem Sep.swap {a b : Nat × List Value} (h : Sep w0 P w own (a :: b :: L)) : Sep w0 P w own (b :: a :: L) := by
  have h1 := List.pairwise_cons.1 h.nd
  have h2 := List.pairwise_cons.1 h1.2
  refine ⟨h.fr, h.ow, fun q hq => h.lc q ?_, fun q hq => h.nw q ?_, List.pairwise_cons.2 ⟨fun q hq => ?_, List.pairwise_cons.2 ⟨fun q hq => h1.1 q (.tail _ hq), h2.2⟩⟩⟩
  · simp only [List.mem_cons] at hq ⊢; rcases hq with h | h | h <;> simp [h]
  · simp only [List.mem_cons] at hq ⊢; rcases hq with h | h | h <;> simp [h]
  · rcases List.mem_cons.1 hq with rfl | hq
    · exact (h1.1 b (.head _)).symm
    · exact h2.1 q hq
theorem Sep.set2 {us : List Value} {q0 : Nat × List Value} (h : Sep w0 P w own (q0 :: (p, vs) :: L)) (f : Fr p 1 w w') (hb : Blk w' p us) : Sep w0 P w' own (q0 :: (p, us) :: L) := (h.swap.set f hb).swap
end
end Go.Den
