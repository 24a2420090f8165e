/-
  Frames by a set of blocks; slices that own their block; the model's tape: Reset, Load, Text.
-/
import Derived.Test.Qxb6500563aGreatDecP
namespace Go.Den
open Go.Zip
set_option linter.unusedVariables false
set_option linter.unusedSimpArgs false
/-- Nothing that was there has changed, but for the blocks of P. -/
def FrP (P : Nat → Prop) (w w' : World) : Prop := w.heap.size ≤ w'.heap.size ∧ ∀ b, b < w.heap.size → ¬ P b → w'.heap[b]? = w.heap[b]?
/-- The block that a slice lies in. -/
def owns (s : Sl) (b : Nat) : Prop := s.a = some ⟨b, 0, none⟩
/-- A slice that its owner grows: nil, or from the head of a block on: its elements, then spare room. -/
def OS (w : World) (s : Sl) (vs : List Value) (sz : Nat) : Prop :=
  (s = ⟨none, 0, 0⟩ ∧ vs = []) ∨ ∃ g, s.a = some ⟨g, 0, none⟩ ∧ vs.length = s.l * sz ∧ s.l ≤ s.c ∧ ∃ junk, Blk w g (vs ++ junk) ∧ (vs ++ junk).length = s.c * sz
section
variable {w w' w'' : World} {P Q : Nat → Prop} {s s' : Sl} {vs : List Value} {sz b : Nat}
theorem FrP.refl (P : Nat → Prop) (w : World) : FrP P w w := ⟨Nat.le_refl _, fun _ _ _ => rfl⟩
theorem FrP.trans (h : FrP P w w') (h' : FrP P w' w'') : FrP P w w'' := ⟨Nat.le_trans h.1 h'.1, fun b hb hn => by rw [h'.2 b (Nat.lt_of_lt_of_le hb h.1) hn, h.2 b hb hn]⟩
/-- The second one's blocks may be others, if they are new. -/
theorem FrP.trans' (h : FrP P w w') (h' : FrP Q w' w'') (hq : ∀ b, Q b → P b ∨ w.heap.size ≤ b) : FrP P w w'' :=
  ⟨Nat.le_trans h.1 h'.1, fun b hb hn => by rw [h'.2 b (Nat.lt_of_lt_of_le hb h.1) (fun hq' => (hq b hq').elim hn (by omega)), h.2 b hb hn]⟩
theorem FrP.mono (h : FrP P w w') (hq : ∀ b, P b → Q b) : FrP Q w w' := ⟨h.1, fun b hb hn => h.2 b hb fun hp => hn (hq b hp)⟩
theorem FrP.of {p n : Nat} (h : Fr p n w w') (hq : ∀ b, p ≤ b → b < p + n → P b) : FrP P w w' := ⟨h.1, fun b hb hn => h.2 b hb (by
  rcases Nat.lt_or_ge b p with h1 | h1
  · exact .inl h1
  · rcases Nat.lt_or_ge b (p + n) with h2 | h2
    · exact absurd (hq b h1 h2) hn
    · exact .inr h2)⟩
theorem FrP.of0 (h : Fr 0 0 w w') : FrP P w w' := FrP.of h fun b h1 h2 => by omega
theorem FrP.ofR {p n : Nat} (h : FrP P w w') (hq : ∀ b, P b → p ≤ b ∧ b < p + n) : Fr p n w w' := ⟨h.1, fun b hb hn => h.2 b hb fun hp => by have := hq b hp; omega⟩
theorem FrP.drew (h : FrP P w w') : FrP P w w'.drew := h
theorem FrP.heq (h : FrP P w w') (e : w''.heap = w'.heap) : FrP P w w'' := ⟨by rw [e]; exact h.1, fun b hb hn => by rw [e]; exact h.2 b hb hn⟩
theorem Blk.frp (h : Blk w b vs) (f : FrP P w w') (hb : ¬ P b) : Blk w' b vs := by
  obtain ⟨ty, h'⟩ := h
  exact ⟨ty, by rw [f.2 b (Blk.lt ⟨ty, h'⟩) hb]; exact h'⟩
theorem OS.frp (h : OS w s vs sz) (f : FrP P w w') (hb : ∀ b, owns s b → ¬ P b) : OS w' s vs sz := by
  rcases h with h | ⟨g, a, b, c, junk, d, e⟩
  · exact .inl h
  · exact .inr ⟨g, a, b, c, junk, d.frp f (hb g a), e⟩
theorem OS.nil (w : World) (sz : Nat) : OS w ⟨none, 0, 0⟩ [] sz := .inl ⟨rfl, rfl⟩
theorem OS.len (h : OS w s vs sz) : vs.length = s.l * sz := by
  rcases h with ⟨rfl, rfl⟩ | ⟨g, _, b, _⟩
  · simp
  · exact b
theorem OS.lt (h : OS w s vs sz) (ho : owns s b) : b < w.heap.size := by
  rcases h with ⟨rfl, rfl⟩ | ⟨g, a, _, _, junk, d, _⟩
  · simp [owns] at ho
  · have : g = b := by unfold owns at ho; rw [a] at ho; simpa using ho
    subst this; exact d.lt
theorem owns_inj {b c : Nat} (h1 : owns s b) (h2 : owns s c) : b = c := by unfold owns at h1 h2; rw [h1] at h2; simpa using h2
/-- Where a slice goes that grows. -/
def grown (w : World) (s s' : Sl) : Prop := s'.a = s.a ∨ ∃ g, w.heap.size ≤ g ∧ s'.a = some ⟨g, 0, none⟩
theorem grown.owns (h : grown w s s') (ho : Go.Den.owns s' b) : Go.Den.owns s b ∨ w.heap.size ≤ b := by
  rcases h with h | ⟨g, hg, h⟩
  · left; unfold Go.Den.owns at *; rw [← h]; exact ho
  · right; unfold Go.Den.owns at ho; rw [h] at ho; simp at ho; omega
theorem grown.refl (w : World) (s : Sl) : grown w s s := .inl rfl
theorem grown.trans {s'' : Sl} (h : grown w s s') (h' : grown w' s' s'') (hle : w.heap.size ≤ w'.heap.size) : grown w s s'' := by
  rcases h' with h' | ⟨g, hg, h'⟩
  · rcases h with h | ⟨g, hg, h⟩
    · exact .inl (h'.trans h)
    · exact .inr ⟨g, hg, h'.trans h⟩
  · exact .inr ⟨g, by omega, h'⟩
theorem appO {e : TypeId} {z : List Value} {bytes m : Nat} {new : List Value} {K : Sl → World → Prop} {x : Nat} (hg : OS w s vs sz) (hx : Blk w x new) (hl : new.length = m * sz) (hm : 0 < m)
    (hok : new.all okV = true) (hz : z.length = sz) (hsmall : (s.l + m) * bytes ≤ 2 ^ 46)
    (hK : ∀ (s' : Sl) (w' : World), OS w' s' (vs ++ new) sz → s'.l = s.l + m → grown w s s' → FrP (owns s) w w' → K s' w') :
    AppS e z bytes sz w s ⟨some ⟨x, 0, none⟩, m, m⟩ K := by
  rcases hg with ⟨rfl, rfl⟩ | ⟨g, a, b, c, junk, d, l⟩
  · refine appS (g := w.heap.size) (GS.nil w w.heap.size sz) hx hl hm hok hz hsmall fun s' w' g' h1 h2 h3 h4 h5 h6 => ?_
    refine hK s' w' ?_ h2 (.inr ⟨g', by omega, h5⟩) ⟨h6.1, fun b hb _ => h6.2 b hb (by omega) (by omega)⟩
    rcases h1 with ⟨h1, h1'⟩ | h1
    · rw [h1] at h5; simp at h5
    · exact .inr ⟨g', h1⟩
  · refine appS (g := g) (.inr ⟨a, b, c, junk, d, l⟩) hx hl hm hok hz hsmall fun s' w' g' h1 h2 h3 h4 h5 h6 => ?_
    refine hK s' w' ?_ h2 ?_ ⟨h6.1, fun b hb hn => ?_⟩
    · rcases h1 with ⟨h1, h1'⟩ | h1
      · rw [h1] at h5; simp at h5
      · exact .inr ⟨g', h1⟩
    · rcases h3 with h3 | h3
      · subst h3; exact .inl (h5.trans a.symm)
      · exact .inr ⟨g', h3, h5⟩
    · have : b ≠ g := fun e => hn (by subst e; exact a)
      exact h6.2 b hb this this
/-- The bytes of such a slice as a string. -/
theorem OS.btS {zs : List Nat} {K : ByteArray → Prop} (h : OS w s (byts zs) 1) (hlt : ∀ x ∈ zs, x < 256) (hk : K (strOf zs)) : BtS w s K := by
  rcases h with ⟨rfl, h⟩ | ⟨g, a, b, c, junk, d, l⟩
  · have : zs = [] := by simpa [byts] using h
    subst this
    exact ⟨[], ⟨by simp, .inl (by simp)⟩, hk⟩
  · obtain ⟨sa, sl, sc⟩ := s
    simp only at a b
    subst a
    simp only [byts_length, Nat.mul_one] at b
    exact Go.Den.btS d (zs := zs) (by rw [List.drop_zero, ← b]; simp) b hlt hk
/-- A read of such a slice. -/
theorem OS.rd {zs : List Nat} {i : Nat} {x : Nat} {K : Int → Prop} (h : OS w s (byts zs) 1) (hi : zs[i]? = some x) (hk : K (x : Int)) : Ix s.a s.l (i : Int) fun b o => LdI .u8 w ⟨b, o + Int.toNat (i : Int) * 1, none⟩ K := by
  have hlt : i < zs.length := by
    rcases Nat.lt_or_ge i zs.length with h | h
    · exact h
    · simp [h] at hi
  rcases h with ⟨rfl, h⟩ | ⟨g, a, b, c, junk, d, l⟩
  · have : zs = [] := by simpa [byts] using h
    subst this
    simp at hi
  · simp only [byts_length, Nat.mul_one] at b
    refine ix a (by omega) (by omega) ?_
    refine ldI d ?_ hk
    rw [Nat.zero_add, Nat.mul_one, Int.toNat_natCast, List.getElem?_append_left (by simpa using hlt), byts_get hi]
end
end Go.Den
namespace Go.Proofs.Qxb6500563aGreat
open Go.Den Go.Zip
set_option linter.unusedVariables false
set_option linter.unusedSimpArgs false
variable {w w' : World} {p g : Nat} {bits : List Bool} {at_ : Nat}

theorem MTape.frp {P : Nat → Prop} (h : MTape w p g bits at_) (f : FrP P w w') (h1 : ¬ P p) (h2 : ¬ P g) : MTape w' p g bits at_ := by
  obtain ⟨⟨s, hb, hg⟩, ne, len, cur⟩ := h
  refine ⟨⟨s, hb.frp f h1, ?_⟩, ne, len, cur⟩
  rcases hg with h | ⟨a, b, c, junk, d, e⟩
  · exact .inl h
  · exact .inr ⟨a, b, c, junk, d.frp f h2, e⟩
theorem MCod.frp {P : Nat → Prop} {n x y : Nat} {l : Nat → Nat} (h : MCod w p x y n l) (f : FrP P w w') (h1 : ¬ P p) (h2 : ¬ P x) (h3 : ¬ P y) : MCod w' p x y n l := ⟨h.rc.frp f h1, h.lens.frp f h2, h.code.frp f h3⟩

theorem bitsm_Reset_spec {K : World → Prop} (h : MTape w p g bits at_) (hK : ∀ w', MTape w' p g [] 0 → Fr p 1 w w' → K w') : S.bitsm_Tape_Reset p w K := by
  obtain ⟨⟨s, hb, hg⟩, ne, len, cur⟩ := h
  unfold S.bitsm_Tape_Reset
  refine st1 hb (by simp) fun w1 r1 f1 s1 => ?_
  refine st1 r1 (by simp) fun w2 r2 f2 s2 => ?_
  exact hK w2 ⟨⟨⟨none, 0, 0⟩, r2, GS.nil _ _ _⟩, ne, by simp, by simp⟩ (f1.trans f2)

/-- The bits of a row of bytes. -/
def sbits (l : List Nat) : List Bool := l.flatMap fun b => bitsOf b 8
theorem sbits_length (l : List Nat) : (sbits l).length = l.length * 8 := flat_length (fun x => bitsOf_length x 8) l
theorem sbits_append (l m : List Nat) : sbits (l ++ m) = sbits l ++ sbits m := by simp [sbits]
theorem sbits_succ {l : List Nat} {i x : Nat} (h : l[i]? = some x) : sbits (l.take (i + 1)) = sbits (l.take i) ++ bitsOf x 8 := by
  have hlt : i < l.length := by
    rcases Nat.lt_or_ge i l.length with h' | h'
    · exact h'
    · simp [h'] at h
  have hx : l[i] = x := by rw [List.getElem?_eq_getElem hlt] at h; exact Option.some.inj h
  rw [List.take_succ_eq_append_getElem hlt, sbits_append, hx]
  congr 1

theorem bitsm_Load_spec {s : ByteArray} {K : Int → World → Prop} (h : MTape w p g bits at_) (hs : s.size ≤ 512)
    (hK : ∀ w' g', MTape w' p g' (sbits (bt s)) 0 → (g' = g ∨ w.heap.size ≤ g') → Fr2 p g w w' → K 0 w') : S.bitsm_Tape_Load p s w K := by
  unfold S.bitsm_Tape_Load
  rw [if_neg (by simp only [decide_eq_true_eq]; omega)]
  refine bitsm_Reset_spec h fun w1 h1 f1 => ?_
  refine loopN (fun m st v => ∃ (i g' : Nat), st = ((i : Int), ()) ∧ m + i = s.size ∧ MTape v p g' (sbits ((bt s).take i)) 0 ∧ (g' = g ∨ w.heap.size ≤ g') ∧ Fr2 p g w v) s.size ⟨0, g, rfl, by omega, by simpa [sbits] using h1, .inl rfl, Fr2.of1 f1 g⟩ ?_
  rintro m _ v ⟨i, g', rfl, hm, hv, hg, fv⟩ Q hQ
  dsimp only
  by_cases hi : i < s.size
  · rw [if_pos (by simp only [decide_eq_true_eq]; omega)]
    have hget : (bt s)[i]? = some ((bt s)[i]'(by simpa using hi)) := List.getElem?_eq_getElem _
    have hx := bt_get_lt hget
    generalize (bt s)[i]'(by simpa using hi) = x at *
    refine ixStr (by omega) (by rw [Int.toNat_natCast]; exact hget) ?_
    rw [W_nat (by omega)]
    have hl := sbits_length ((bt s).take i)
    refine bitsm_Put_spec (v := x) (k := 8) hv (by omega) (by omega) (by rw [hl]; simp; omega) fun v1 g1 h1 hg1 f1 => ?_
    rw [← sbits_succ hget] at h1
    rw [W_succ (by omega)]
    have := fv.1
    refine let_ (hQ (m - 1) _ _ (by omega) ⟨i + 1, g1, rfl, by omega, h1, by omega, ?_⟩)
    exact ⟨Nat.le_trans fv.1 f1.1, fun b hb h1 h2 => by rw [f1.2 b (by omega) h1 (by omega), fv.2 b hb h1 h2]⟩
  · rw [if_neg (by simp only [decide_eq_true_eq]; omega)]
    have e : i = s.size := by omega
    subst e
    rw [List.take_of_length_le (by simp)] at hv
    exact hK v g' hv hg fv
end Go.Proofs.Qxb6500563aGreat
