/-
  A slice that its owner grows by 'append'.
-/
import Derived.Test.Qxb6500564aGreatNum
set_option linter.unusedVariables false
set_option linter.unusedSimpArgs false
namespace Go.Den
/-- Nothing that was there has changed, but for the blocks p and q. -/
def Fr2 (p q : Nat) (w w' : World) : Prop := Up w w' ∧ ∀ b, b < w.heap.size → b ≠ p → b ≠ q → w'.heap[b]? = w.heap[b]?
/-- The slice s, its cells in block g (if it is not nil): the elements 'vs' (sz cells each), then spare room. -/
def GS (w : World) (s : Sl) (g : Nat) (vs : List Value) (sz : Nat) : Prop :=
  (s = ⟨none, 0, 0⟩ ∧ vs = []) ∨ (s.a = some ⟨g, 0, none⟩ ∧ vs.length = s.l * sz ∧ s.l ≤ s.c ∧ ∃ junk, Blk w g (vs ++ junk) ∧ (vs ++ junk).length = s.c * sz)
section
variable {w w' w'' : World} {p q g sz : Nat} {s : Sl} {vs : List Value}
theorem Fr2.refl (p q : Nat) (w : World) : Fr2 p q w w := ⟨Up.refl _, fun _ _ _ _ => rfl⟩
theorem Fr2.trans (h : Fr2 p q w w') (h' : Fr2 p q w' w'') : Fr2 p q w w'' := ⟨h.1.trans h'.1, fun b hb h1 h2 => by rw [h'.2 b (Nat.lt_of_lt_of_le hb h.1.1) h1 h2, h.2 b hb h1 h2]⟩
/-- The second one's block may be another, if it is new. -/
theorem Fr2.trans' {q' : Nat} (h : Fr2 p q w w') (h' : Fr2 p q' w' w'') (hq : q' = q ∨ w.heap.size ≤ q') : Fr2 p q w w'' :=
  ⟨h.1.trans h'.1, fun b hb h1 h2 => by rw [h'.2 b (Nat.lt_of_lt_of_le hb h.1.1) h1 (by omega), h.2 b hb h1 h2]⟩
theorem Fr2.of (h : Fr 0 0 w w') (p q : Nat) : Fr2 p q w w' := ⟨h.1, fun b hb _ _ => h.2 b hb (by omega)⟩
theorem Fr2.of1 (h : Fr p 1 w w') (q : Nat) : Fr2 p q w w' := ⟨h.1, fun b hb h1 _ => h.2 b hb (by omega)⟩
theorem Fr2.ofr (h : Fr q 1 w w') (p : Nat) : Fr2 p q w w' := ⟨h.1, fun b hb _ h2 => h.2 b hb (by omega)⟩
theorem Fr2.drew (h : Fr2 p q w w') : Fr2 p q w w'.drew := h
/-- All of it new: nothing changed. -/
theorem Fr2.fresh (h : Fr2 p q w w') (hp : w.heap.size ≤ p) (hq : w.heap.size ≤ q) : Fr 0 0 w w' := ⟨h.1, fun b hb _ => h.2 b hb (by omega) (by omega)⟩
theorem Blk.fr2 {b : Nat} (h : Blk w b vs) (f : Fr2 p q w w') (h1 : b ≠ p) (h2 : b ≠ q) : Blk w' b vs := by
  obtain ⟨ty, h'⟩ := h
  exact ⟨ty, by rw [f.2 b (Blk.lt ⟨ty, h'⟩) h1 h2]; exact h'⟩
theorem GS.fr2 (h : GS w s g vs sz) (f : Fr2 p q w w') (h1 : g ≠ p) (h2 : g ≠ q) : GS w' s g vs sz := by
  rcases h with h | ⟨a, b, c, junk, d, e⟩
  · exact .inl h
  · exact .inr ⟨a, b, c, junk, d.fr2 f h1 h2, e⟩
theorem GS.fr {n : Nat} (h : GS w s g vs sz) (f : Fr p n w w') (h1 : g < p ∨ p + n ≤ g) : GS w' s g vs sz := by
  rcases h with h | ⟨a, b, c, junk, d, e⟩
  · exact .inl h
  · exact .inr ⟨a, b, c, junk, d.fr f h1, e⟩
theorem GS.drew (h : GS w s g vs sz) : GS w.drew s g vs sz := h
theorem GS.nil (w : World) (g sz : Nat) : GS w ⟨none, 0, 0⟩ g [] sz := .inl ⟨rfl, rfl⟩
theorem GS.len (h : GS w s g vs sz) : vs.length = s.l * sz := by
  rcases h with ⟨rfl, rfl⟩ | ⟨_, b, _⟩
  · simp
  · exact b
theorem GS.lenLe (h : GS w s g vs sz) : s.l ≤ s.c := by
  rcases h with ⟨rfl, rfl⟩ | ⟨_, _, c, _⟩
  · simp
  · exact c
/-- A slice that is not empty lies in its block. -/
theorem GS.blk (h : GS w s g vs sz) (hne : vs ≠ []) : s.a = some ⟨g, 0, none⟩ ∧ ∃ junk, Blk w g (vs ++ junk) := by
  rcases h with ⟨_, h⟩ | ⟨a, _, _, junk, d, _⟩
  · exact absurd h hne
  · exact ⟨a, junk, d⟩

theorem putC_blk {g : Nat} : ∀ (new : List Value) (o : Nat) (w : World) (cs : List Value), Blk w g cs → o + new.length ≤ cs.length →
    Blk (putC g o new w) g (cs.take o ++ new ++ cs.drop (o + new.length)) ∧ Fr g 1 w (putC g o new w) ∧ (putC g o new w).heap.size = w.heap.size
  | [], o, w, cs, h, _ => by simpa [putC] using ⟨h, Fr.refl g 1 w⟩
  | v :: new, o, w, cs, h, hl => by
    simp only [List.length_cons] at hl
    have h1 := h.set o v
    have ih := putC_blk new (o + 1) (w.setCell ⟨g, o, none⟩ v) (cs.set o v) h1 (by simp; omega)
    simp only [putC]
    refine ⟨?_, (Fr.setCell (Fr.refl g 1 w) (by omega) (by omega)).trans ih.2.1, by rw [ih.2.2]; simp [World.setCell]⟩
    have e : (cs.set o v).take (o + 1) ++ new ++ (cs.set o v).drop (o + 1 + new.length) = cs.take o ++ v :: new ++ cs.drop (o + (new.length + 1)) := by
      rw [List.take_succ_eq_append_getElem (by simp; omega), List.take_set_of_le (by omega), List.drop_set_of_lt (by omega)]
      simp only [List.getElem_set_self, List.append_assoc, List.cons_append, List.nil_append]
      congr 4
      omega
    rw [List.length_cons, ← e]
    exact ih.1

theorem appS {e : TypeId} {z : List Value} {bytes m : Nat} {new : List Value} {K : Sl → World → Prop} {x : Nat} (hg : GS w s g vs sz) (hx : Blk w x new) (hl : new.length = m * sz) (hm : 0 < m)
    (hok : new.all okV = true) (hz : z.length = sz) (hsmall : (s.l + m) * bytes ≤ 2 ^ 46)
    (hK : ∀ (s' : Sl) (w' : World) (g' : Nat), GS w' s' g' (vs ++ new) sz → s'.l = s.l + m → (g' = g ∨ w.heap.size ≤ g') → g' < w'.heap.size → s'.a = some ⟨g', 0, none⟩ → Fr2 g g w w' → K s' w') :
    AppS e z bytes sz w s ⟨some ⟨x, 0, none⟩, m, m⟩ K := by
  refine ⟨new, ⟨hl, .inr ⟨x, 0, rfl, fun i _ => by rw [Nat.zero_add]; exact hx.cell i⟩⟩, hok, ?_⟩
  have hlen := hg.len
  by_cases hfit : s.l + m ≤ s.c
  · left
    refine ⟨hfit, ?_⟩
    rcases hg with ⟨rfl, rfl⟩ | ⟨ha, hb, hc, junk, hblk, hcl⟩
    · simp only at hfit; omega
    · right
      have hmul : s.l * sz + m * sz ≤ s.c * sz := by rw [← Nat.add_mul]; exact Nat.mul_le_mul_right _ hfit
      have hbound : s.l * sz + new.length ≤ (vs ++ junk).length := by omega
      obtain ⟨p1, p2, p3⟩ := putC_blk new (s.l * sz) w (vs ++ junk) hblk hbound
      refine ⟨g, s.l * sz, by rw [ha]; simp [add_mk], fun i hi => ⟨?_, hblk.frozen _⟩, ?_⟩
      · rw [hblk.cell]
        have : s.l * sz + i < (vs ++ junk).length := by omega
        rw [List.getElem?_eq_getElem this]
        rfl
      · have e1 : (vs ++ junk).take (s.l * sz) = vs := by rw [← hb]; simp
        have e2 : (vs ++ junk).drop (s.l * sz + new.length) = junk.drop new.length := by rw [← hb, List.drop_append]; simp
        rw [e1, e2] at p1
        refine hK _ _ g (.inr ⟨ha, by simp [hb, hl, Nat.add_mul], hfit, junk.drop new.length, p1, ?_⟩) rfl (.inl rfl) ?_ ha (Fr2.of1 p2 g)
        · simp only [List.length_append, List.length_drop] at hcl hbound ⊢
          show _ = s.c * sz
          omega
        · rw [p3]; exact hblk.lt
  · right
    refine ⟨by show s.c < s.l + m; omega, hsmall, ?_⟩
    have hold : CellsAt w s.a (s.l * sz) vs := by
      rcases hg with ⟨rfl, rfl⟩ | ⟨ha, hb, hc, junk, hblk, hcl⟩
      · exact ⟨by simp, .inl (by simp)⟩
      · refine ⟨hb, .inr ⟨g, 0, ha, fun i hi => ?_⟩⟩
        rw [Nat.zero_add, hblk.cell, List.getElem?_append_left (by omega)]
    refine ⟨vs, hold, fun cap hcap => ?_⟩
    have hcap : s.l + m ≤ cap := hcap
    have hn := Blk.new w.drew (vs ++ new ++ reps z (cap - (s.l + m))).toArray e
    have hf := Fr.alloc (.cells (vs ++ new ++ reps z (cap - (s.l + m))).toArray e) (Fr.refl 0 0 w.drew)
    refine hK _ _ w.heap.size (.inr ⟨rfl, by simp [hlen, hl, Nat.add_mul], hcap, reps z (cap - (s.l + m)), by simpa using hn, ?_⟩) rfl (.inr (Nat.le_refl _)) (by simp) rfl (Fr2.of hf g g)
    simp only [List.length_append, reps_length, hz, hlen, hl]
    show _ = cap * sz
    rw [← Nat.add_mul, ← Nat.add_mul]
    congr 1
    omega
end
end Go.Den
