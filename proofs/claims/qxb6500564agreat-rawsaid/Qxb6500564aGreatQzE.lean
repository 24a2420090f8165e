/-
  Fetching the rows that match: the list of hits; the real engine's record.
-/
import Derived.Test.Qxb6500564aGreatQzD
namespace Go.Proofs.Qxb6500564aGreat
open Go.Den Go.Zip
set_option linter.unusedVariables false
set_option linter.unusedSimpArgs false
variable {dq : Nat}
variable {w w' u v : World} {i j k n a b b0 q g : Nat} {s x nm : ByteArray} {cs : List Cl} {sc sw r hit : Sl} {wh : List Cp} {row : List Vl} {T : Smt} {y : Nat → Sl} {ss hs : List Sl} {rows hr : List (List Vl)} {D : List Bk} {R : List Wr} {cur : Nat → Bk} {U : Mu} {O : Nat → Prop}

/-- The hits so far, out of the first p rows. -/
structure HT (b0 : Nat) (u : World) (hit : Sl) (hs : List Sl) (hr : List (List Vl)) (ss : List Sl) (p : Nat) : Prop where
  arr : OS u hit (hs.map slV) 1
  row : RowsAt u hs hr
  ra : ∀ b, owns hit b → b0 ≤ b
  rn : ∀ t ∈ ss, ∀ b, owns t b → ¬ owns hit b
  sub : hs.Sublist (ss.take p)
theorem HT.nil (b0 : Nat) (u : World) (ss : List Sl) : HT b0 u nilS [] [] ss 0 := ⟨OS.nil _ _, ⟨rfl, fun i s r h => (by cases h)⟩, fun b hb => (by cases hb), fun t _ b _ hb => (by cases hb), List.Sublist.refl _ |>.trans (List.nil_sublist _)⟩
theorem HT.fr0 {p : Nat} (h : HT b0 u hit hs hr ss p) (f : Fr 0 0 u v) : HT b0 v hit hs hr ss p := ⟨OS.fr0 h.arr f, h.row.fr0 f, h.ra, h.rn, h.sub⟩
theorem HT.skip {p : Nat} (h : HT b0 u hit hs hr ss p) : HT b0 u hit hs hr ss (p + 1) := ⟨h.arr, h.row, h.ra, h.rn, h.sub.trans (by rw [List.take_add_one]; exact List.sublist_append_left _ _)⟩
theorem HT.len {p : Nat} (h : HT b0 u hit hs hr ss p) : hit.l = hs.length := by
  have := OS.len h.arr
  rw [List.length_map] at this
  omega
theorem HT.add {p : Nat} {x : Sl} {K : Sl → World → Prop} (h : HT b0 u hit hs hr ss p) (F : FR b0 u r ss rows) (hp : p < 100000) (hx : ss[p]? = some x) (hrow : rows[p]? = some row)
    (hK : ∀ w' hit', HT b0 w' hit' (hs ++ [x]) (hr ++ [row]) ss (p + 1) → FrP (fun b => b0 ≤ b ∧ (owns hit b)) u w' → (∀ b, owns hit' b → owns hit b ∨ u.heap.size ≤ b) → K hit' w') (hb0 : b0 ≤ u.heap.size) :
    New u (.cells #[.slice x.a x.l x.c] 61) fun p46 w => AppS 61 [.slice none 0 0] 24 1 w hit ⟨some ⟨p46, 0, none⟩, 1, 1⟩ fun l47 w => K l47 w := by
  refine newB fun u1 q1 f1 z1 => ?_
  have h1 := h.fr0 f1
  have hl := h.len
  have hsl := h.sub.length_le
  rw [List.length_take] at hsl
  refine app1 h1.arr q1 rfl rfl rfl (by rw [hl]; omega) fun s' w2 o2 l2 gr F2 => hK w2 s' ⟨by rw [List.map_append]; exact o2, ?_, fun b hb => ?_, fun t ht b hb hb' => ?_, ?_⟩ ?_ fun b hb => (gr b hb).elim .inl fun h => .inr (by have := f1.le; omega)
  · have hr1 : RowsAt w2 hs hr := h1.row.frp F2 fun t ht b hb hP => h1.rn t (List.mem_of_mem_take (h.sub.subset ht)) b hb hP
    have hx1 : OS w2 x (rowC row) 3 := (OS.fr0 (F.row.2 p x row hx hrow) f1).frp F2 fun b hb hP => h1.rn x (List.mem_of_getElem? hx) b hb hP
    refine ⟨by rw [List.length_append, List.length_append, h.row.1]; rfl, fun i t r' h1' h2' => ?_⟩
    rcases Nat.lt_or_ge i hs.length with hi | hi
    · rw [List.getElem?_append_left hi] at h1'
      rw [List.getElem?_append_left (by rw [← h.row.1]; exact hi)] at h2'
      exact hr1.2 i t r' h1' h2'
    · rw [List.getElem?_append_right hi] at h1'
      rw [List.getElem?_append_right (by rw [← h.row.1]; exact hi), ← h.row.1] at h2'
      cases hk : i - hs.length with
      | zero =>
        rw [hk] at h1' h2'
        cases h1'; cases h2'
        exact hx1
      | succ k => rw [hk] at h1'; cases h1'
  · rcases gr b hb with hb | hb
    · exact h.ra b hb
    · have := f1.le; omega
  · rcases gr b hb' with hb' | hb'
    · exact h.rn t ht b hb hb'
    · obtain ⟨i, hi, e⟩ := List.getElem_of_mem ht
      have hlt := F.row.lt ht hb
      have := f1.le
      omega
  · rw [List.take_add_one, hx]
    exact h.sub.append (List.Sublist.refl _)
  · exact (FrP.of0 f1).trans (F2.mono fun b hb => ⟨h.ra b hb, hb⟩)
theorem HT.fin (h : HT b0 u hit hs hr ss n) (F : FR b0 u r ss rows) : FR b0 u hit hs hr := by
  have hsub := h.sub.trans (List.take_sublist _ _)
  exact ⟨h.arr, h.row, h.ra, fun t ht b hb => ⟨(F.rb t (hsub.subset ht) b hb).1, h.rn t (hsub.subset ht) b hb⟩, F.dis.sublist hsub⟩
/-- The real engine. -/
def EV (dq : Nat) (w : World) (q : Nat) (D : List Bk) (R : List Wr) (cur : Nat → Bk) (U : Mu) (O : Nat → Prop) : Prop :=
  ∃ g O1 last, Blk w q [ptrV g, .int .i64 ((last : Nat) : Int)] ∧ XV dq w g D R cur U O1 ∧ ¬ O1 q ∧ (∀ b, O b ↔ (b = q ∨ O1 b)) ∧ last ≤ 4
theorem EV.frp {P : Nat → Prop} (h : EV dq w q D R cur U O) (F : FrP P w w') (hn : ∀ b, O b → ¬ P b) : EV dq w' q D R cur U O := by
  obtain ⟨g, O1, last, b, h, nq, hO, hl⟩ := h
  exact ⟨g, O1, last, b.frp F (hn q ((hO q).2 (.inl rfl))), h.frp F fun b hb => hn b ((hO b).2 (.inr hb)), nq, hO, hl⟩
theorem EV.fr0 (h : EV dq w q D R cur U O) (F : Fr 0 0 w w') : EV dq w' q D R cur U O := h.frp (FrP.of0 (P := fun _ => False) F) fun _ _ h => h
theorem EV.dr (h : EV dq w q D R cur U O) : EV dq w.drew q D R cur U O := h.frp (FrP.refl (fun _ => False) w).drew fun _ _ h => h
theorem EV.lt (h : EV dq w q D R cur U O) {b : Nat} (hb : O b) : b < w.heap.size := by
  obtain ⟨g, O1, last, bb, h, nq, hO, hl⟩ := h
  rcases (hO b).1 hb with rfl | hb
  · exact bb.lt
  · exact h.lt hb
theorem EV.ok (h : EV dq w q D R cur U O) : UOk U := by
  obtain ⟨g, O1, last, bb, h, nq, hO, hl⟩ := h
  exact h.ok
end Go.Proofs.Qxb6500564aGreat
