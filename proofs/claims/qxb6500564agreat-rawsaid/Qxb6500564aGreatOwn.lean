/-
  Frames by a set of blocks; slices that own their block; the model's tape: Reset, Load, Text.
-/
import Derived.Test.Qxb6500564aGreatTab
namespace Go.Den
open Go.Zip
set_option linter.unusedVariables false
set_option linter.unusedSimpArgs false
/-- Nothing that was there has changed, but for the blocks of P. -/
def FrP (P : Nat → Prop) (w w' : World) : Prop := Up w w' ∧ ∀ b, b < w.heap.size → ¬ P b → w'.heap[b]? = w.heap[b]?
/-- The block that a slice lies in. -/
def owns (s : Sl) (b : Nat) : Prop := s.a = some ⟨b, 0, none⟩
/-- A slice that its owner grows: nil, or from the head of a block on: its elements, then spare room. -/
def OS (w : World) (s : Sl) (vs : List Value) (sz : Nat) : Prop :=
  (s = ⟨none, 0, 0⟩ ∧ vs = []) ∨ ∃ g, s.a = some ⟨g, 0, none⟩ ∧ vs.length = s.l * sz ∧ s.l ≤ s.c ∧ ∃ junk, Blk w g (vs ++ junk) ∧ (vs ++ junk).length = s.c * sz
section
variable {w w' w'' : World} {P Q : Nat → Prop} {s s' : Sl} {vs : List Value} {sz b : Nat}
theorem FrP.refl (P : Nat → Prop) (w : World) : FrP P w w := ⟨Up.refl _, fun _ _ _ => rfl⟩
theorem FrP.trans (h : FrP P w w') (h' : FrP P w' w'') : FrP P w w'' := ⟨h.1.trans h'.1, fun b hb hn => by rw [h'.2 b (Nat.lt_of_lt_of_le hb h.1.1) hn, h.2 b hb hn]⟩
/-- The second one's blocks may be others, if they are new. -/
theorem FrP.trans' (h : FrP P w w') (h' : FrP Q w' w'') (hq : ∀ b, Q b → P b ∨ w.heap.size ≤ b) : FrP P w w'' :=
  ⟨h.1.trans h'.1, fun b hb hn => by rw [h'.2 b (Nat.lt_of_lt_of_le hb h.1.1) (fun hq' => (hq b hq').elim hn (by omega)), h.2 b hb hn]⟩
theorem FrP.mono (h : FrP P w w') (hq : ∀ b, P b → Q b) : FrP Q w w' := ⟨h.1, fun b hb hn => h.2 b hb fun hp => hn (hq b hp)⟩
theorem FrP.of {p n : Nat} (h : Fr p n w w') (hq : ∀ b, p ≤ b → b < p + n → P b) : FrP P w w' := ⟨h.1, fun b hb hn => h.2 b hb (by
  rcases Nat.lt_or_ge b p with h1 | h1
  · exact .inl h1
  · rcases Nat.lt_or_ge b (p + n) with h2 | h2
    · exact absurd (hq b h1 h2) hn
    · exact .inr h2)⟩
theorem FrP.of0 (h : Fr 0 0 w w') : FrP P w w' := FrP.of h fun b h1 h2 => by omega
theorem FrP.ofR {p n : Nat} (h : FrP P w w') (hq : ∀ b, P b → p ≤ b ∧ b < p + n) : Fr p n w w' := ⟨h.1, fun b hb hn => h.2 b hb fun hp => by have := hq b hp; omega⟩
theorem FrP.drew (h : FrP P w w') : FrP P w w'.drew := h
theorem FrP.like (h : FrP P w w') (l : Like w' w'') : FrP P w w'' := ⟨⟨by rw [l.1]; exact h.1.1, h.1.2.trans l.2⟩, fun b hb hn => by rw [l.1]; exact h.2 b hb hn⟩
theorem Blk.frp (h : Blk w b vs) (f : FrP P w w') (hb : ¬ P b) : Blk w' b vs := by
  obtain ⟨ty, h'⟩ := h
  exact ⟨ty, by rw [f.2 b (Blk.lt ⟨ty, h'⟩) hb]; exact h'⟩
theorem OS.frp (h : OS w s vs sz) (f : FrP P w w') (hb : ∀ b, owns s b → ¬ P b) : OS w' s vs sz := by
  rcases h with h | ⟨g, a, b, c, junk, d, e⟩
  · exact .inl h
  · exact .inr ⟨g, a, b, c, junk, d.frp f (hb g a), e⟩
theorem OS.nil (w : World) (sz : Nat) : OS w ⟨none, 0, 0⟩ [] sz := .inl ⟨rfl, rfl⟩
theorem OS.len (h : OS w s vs sz) : vs.length = s.l * sz := by
  rcases h with ⟨rfl, rfl⟩ | ⟨g, _, b, _⟩
  · simp
  · exact b
theorem OS.lt (h : OS w s vs sz) (ho : owns s b) : b < w.heap.size := by
  rcases h with ⟨rfl, rfl⟩ | ⟨g, a, _, _, junk, d, _⟩
  · simp [owns] at ho
  · have : g = b := by unfold owns at ho; rw [a] at ho; simpa using ho
    subst this; exact d.lt
theorem owns_inj {b c : Nat} (h1 : owns s b) (h2 : owns s c) : b = c := by unfold owns at h1 h2; rw [h1] at h2; simpa using h2
/-- Where a slice goes that grows. -/
def grown (w : World) (s s' : Sl) : Prop := s'.a = s.a ∨ ∃ g, w.heap.size ≤ g ∧ s'.a = some ⟨g, 0, none⟩
theorem grown.owns (h : grown w s s') (ho : Go.Den.owns s' b) : Go.Den.owns s b ∨ w.heap.size ≤ b := by
  rcases h with h | ⟨g, hg, h⟩
  · left; unfold Go.Den.owns at *; rw [← h]; exact ho
  · right; unfold Go.Den.owns at ho; rw [h] at ho; simp at ho; omega
theorem grown.refl (w : World) (s : Sl) : grown w s s := .inl rfl
theorem grown.trans {s'' : Sl} (h : grown w s s') (h' : grown w' s' s'') (hle : w.heap.size ≤ w'.heap.size) : grown w s s'' := by
  rcases h' with h' | ⟨g, hg, h'⟩
  · rcases h with h | ⟨g, hg, h⟩
    · exact .inl (h'.trans h)
    · exact .inr ⟨g, hg, h'.trans h⟩
  · exact .inr ⟨g, by omega, h'⟩
theorem appO {e : TypeId} {z : List Value} {bytes m : Nat} {new : List Value} {K : Sl → World → Prop} {x : Nat} (hg : OS w s vs sz) (hx : Blk w x new) (hl : new.length = m * sz) (hm : 0 < m)
    (hok : new.all okV = true) (hz : z.length = sz) (hsmall : (s.l + m) * bytes ≤ 2 ^ 46)
    (hK : ∀ (s' : Sl) (w' : World), OS w' s' (vs ++ new) sz → s'.l = s.l + m → grown w s s' → FrP (owns s) w w' → K s' w') :
    AppS e z bytes sz w s ⟨some ⟨x, 0, none⟩, m, m⟩ K := by
  rcases hg with ⟨rfl, rfl⟩ | ⟨g, a, b, c, junk, d, l⟩
  · refine appS (g := w.heap.size) (GS.nil w w.heap.size sz) hx hl hm hok hz hsmall fun s' w' g' h1 h2 h3 h4 h5 h6 => ?_
    refine hK s' w' ?_ h2 (.inr ⟨g', by omega, h5⟩) ⟨h6.1, fun b hb _ => h6.2 b hb (by omega) (by omega)⟩
    rcases h1 with ⟨h1, h1'⟩ | h1
    · rw [h1] at h5; simp at h5
    · exact .inr ⟨g', h1⟩
  · refine appS (g := g) (.inr ⟨a, b, c, junk, d, l⟩) hx hl hm hok hz hsmall fun s' w' g' h1 h2 h3 h4 h5 h6 => ?_
    refine hK s' w' ?_ h2 ?_ ⟨h6.1, fun b hb hn => ?_⟩
    · rcases h1 with ⟨h1, h1'⟩ | h1
      · rw [h1] at h5; simp at h5
      · exact .inr ⟨g', h1⟩
    · rcases h3 with h3 | h3
      · subst h3; exact .inl (h5.trans a.symm)
      · exact .inr ⟨g', h3, h5⟩
    · have : b ≠ g := fun e => hn (by subst e; exact a)
      exact h6.2 b hb this this
/-- The bytes of such a slice as a string. -/
theorem OS.btS {zs : List Nat} {K : ByteArray → Prop} (h : OS w s (byts zs) 1) (hlt : ∀ x ∈ zs, x < 256) (hk : K (strOf zs)) : BtS w s K := by
  rcases h with ⟨rfl, h⟩ | ⟨g, a, b, c, junk, d, l⟩
  · have : zs = [] := by simpa [byts] using h
    subst this
    exact ⟨[], ⟨by simp, .inl (by simp)⟩, hk⟩
  · obtain ⟨sa, sl, sc⟩ := s
    simp only at a b
    subst a
    simp only [byts_length, Nat.mul_one] at b
    exact Go.Den.btS d (zs := zs) (by rw [List.drop_zero, ← b]; simp) b hlt hk
/-- A read of such a slice. -/
theorem OS.rd {zs : List Nat} {i : Nat} {x : Nat} {K : Int → Prop} (h : OS w s (byts zs) 1) (hi : zs[i]? = some x) (hk : K (x : Int)) : Ix s.a s.l (i : Int) fun b o => LdI .u8 w ⟨b, o + Int.toNat (i : Int) * 1, none⟩ K := by
  have hlt : i < zs.length := by
    rcases Nat.lt_or_ge i zs.length with h | h
    · exact h
    · simp [h] at hi
  rcases h with ⟨rfl, h⟩ | ⟨g, a, b, c, junk, d, l⟩
  · have : zs = [] := by simpa [byts] using h
    subst this
    simp at hi
  · simp only [byts_length, Nat.mul_one] at b
    refine ix a (by omega) (by omega) ?_
    refine ldI d ?_ hk
    rw [Nat.zero_add, Nat.mul_one, Int.toNat_natCast, List.getElem?_append_left (by simpa using hlt), byts_get hi]
end
end Go.Den
