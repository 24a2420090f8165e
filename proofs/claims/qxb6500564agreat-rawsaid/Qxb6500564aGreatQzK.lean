/-
  SELECT's end: the real engine's project, whole.
-/
import Derived.Test.Qxb6500564aGreatQzJ
namespace Go.Proofs.Qxb6500564aGreat
open Go.Den Go.Zip
set_option linter.unusedVariables false
set_option linter.unusedSimpArgs false
variable {w w' u v : World} {i j k n a b b0 h0 q g : Nat} {x nm : ByteArray} {cs : List Cl} {sc hit c r : Sl} {row : List Vl} {T : Smt} {y : Nat → Sl} {ss hs : List Sl} {rows hr : List (List Vl)} {val : Vl} {ns : List ByteArray}

theorem frAdd {x : Sl} {K : Sl → World → Prop} {out : List (List Vl)} (h : FR b0 w r ss out) (hl : out.length < 100000) (ox : OS w x (rowC row) 3) (hx : ∀ b, owns x b → b0 ≤ b ∧ ¬ owns r b ∧ ∀ s ∈ ss, ¬ owns s b) (hb : b0 ≤ w.heap.size)
    (hK : ∀ w' r', FR b0 w' r' (ss ++ [x]) (out ++ [row]) → FrP (owns r) w w' → (∀ b, owns r' b → owns r b ∨ w.heap.size ≤ b) → K r' w') :
    New w (.cells #[.slice x.a x.l x.c] 61) fun p46 w => AppS 61 [.slice none 0 0] 24 1 w r ⟨some ⟨p46, 0, none⟩, 1, 1⟩ fun l47 w => K l47 w := by
  refine newB fun w1 q1 f1 z1 => ?_
  have hln := h.len
  have h1 := h.fr0 f1
  have hle := f1.le
  refine app1 h1.arr q1 rfl rfl rfl (by rw [hln]; omega) fun r' w2 o2 l2 gr F2 => hK w2 r' ⟨by rw [List.map_append]; exact o2, ?_, fun b hb => ?_, fun t ht b hb => ?_, ?_⟩ ((FrP.of0 f1).trans F2) fun b hb => (gr b hb).elim .inl fun h => .inr (by omega)
  · have hr1 : RowsAt w2 ss out := h1.row.frp F2 fun t ht b hb hP => (h.rb t ht b hb).2 hP
    have hx1 : OS w2 x (rowC row) 3 := (OS.fr0 ox f1).frp F2 fun b hb hP => (hx b hb).2.1 hP
    refine ⟨by rw [List.length_append, List.length_append, h.row.1]; rfl, fun i t r' h1' h2' => ?_⟩
    rcases Nat.lt_or_ge i ss.length with hi | hi
    · rw [List.getElem?_append_left hi] at h1'
      rw [List.getElem?_append_left (by rw [← h.row.1]; exact hi)] at h2'
      exact hr1.2 i t r' h1' h2'
    · rw [List.getElem?_append_right hi] at h1'
      rw [List.getElem?_append_right (by rw [← h.row.1]; exact hi), ← h.row.1] at h2'
      cases hk : i - ss.length with
      | zero =>
        rw [hk] at h1' h2'
        cases h1'; cases h2'
        exact hx1
      | succ k => rw [hk] at h1'; cases h1'
  · rcases gr b hb with hb | hb
    · exact h.ra b hb
    · omega
  · rcases List.mem_append.1 ht with ht | ht
    · refine ⟨(h.rb t ht b hb).1, fun hb' => ?_⟩
      rcases gr b hb' with hb' | hb'
      · exact (h.rb t ht b hb).2 hb'
      · have := h.row.lt ht hb; omega
    · rw [List.mem_singleton] at ht
      subst ht
      refine ⟨(hx b hb).1, fun hb' => ?_⟩
      rcases gr b hb' with hb' | hb'
      · exact (hx b hb).2.1 hb'
      · have := OS.lt ox hb; omega
  · refine List.pairwise_append.2 ⟨h.dis, List.pairwise_singleton _ _, fun a ha c hc b hb hb' => ?_⟩
    rw [List.mem_singleton] at hc
    subst hc
    exact (hx b hb').2.2 a ha hb
end Go.Proofs.Qxb6500564aGreat
