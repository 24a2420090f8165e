/-
  SELECT's end: the model's project.
-/
import Derived.Test.Qxb6500564aGreatQzM
namespace Go.Proofs.Qxb6500564aGreat
open Go.Den Go.Zip
set_option linter.unusedVariables false
set_option linter.unusedSimpArgs false
variable {w w' u v : World} {i j k n a b b0 h0 q g : Nat} {x nm : ByteArray} {cs : List Cl} {sc hit c r : Sl} {row : List Vl} {T : Smt} {z : Nat → Sl} {ss hs : List Sl} {rows hr : List (List Vl)} {val : Vl} {ns : List ByteArray}

theorem FR.cut (h : FR b0 w hit ss hr) (hn : n ≤ hr.length) : FR b0 w ⟨hit.a, n, hit.c⟩ (ss.take n) (hr.take n) := by
  have hl := h.len
  have hss := h.row.1
  refine ⟨?_, ⟨by rw [List.length_take, List.length_take, hss], fun i s r' h1 h2 => ?_⟩, fun b hb => h.ra b hb, fun t ht b hb => h.rb t (List.mem_of_mem_take ht) b hb, h.dis.sublist (List.take_sublist _ _)⟩
  · rcases h.arr with ⟨e1, e2⟩ | ⟨g, a, e, c, junk, d, e2⟩
    · have : hr.length = 0 := by rw [← hss]; simpa using congrArg List.length e2
      have hn0 : n = 0 := by omega
      subst hn0
      subst e1
      exact .inl ⟨rfl, by simp⟩
    · rw [List.length_map] at e
      refine .inr ⟨g, a, by rw [List.length_map, List.length_take]; show _ = n * 1; omega, by show n ≤ hit.c; omega, (ss.drop n).map slV ++ junk, ?_, ?_⟩
      · rw [← List.append_assoc, ← List.map_append, List.take_append_drop]
        exact d
      · rw [← List.append_assoc, ← List.map_append, List.take_append_drop]
        exact e2
  · have hi : i < n := by
      have := (List.getElem?_eq_some_iff.1 h1).1
      rw [List.length_take] at this
      omega
    rw [List.getElem?_take_of_lt hi] at h1 h2
    exact h.row.2 i s r' h1 h2
end Go.Proofs.Qxb6500564aGreat
