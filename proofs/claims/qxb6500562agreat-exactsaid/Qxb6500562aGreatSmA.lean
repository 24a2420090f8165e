/-
  The machine on code: single instructions.
-/
import Derived.Test.Qxb6500562aGreatVmQ
import Derived.Test.Qxb6500562aGreatGnD
namespace Go.Proofs.Qxb6500562aGreat
open Go.Den Go.Zip
set_option linter.unusedVariables false
set_option linter.unusedSimpArgs false
variable {c : List Nat} {inp : List Int} {s s' s'' : MS} {p : Nat} {f : Fm} {r : List Fm} {ent : Int → Nat}

/-- The bytes l lie in the code at p. -/
def At (c : List Nat) (p : Nat) (l : List Nat) : Prop := p + l.length ≤ c.length ∧ ∀ i, i < l.length → c.getD (p + i) 0 = l.getD i 0
theorem gdA1 {a b : List Nat} {i : Nat} (h : i < a.length) : (a ++ b).getD i 0 = a.getD i 0 := by
  rw [List.getD_eq_getElem?_getD, List.getElem?_append_left h, ← List.getD_eq_getElem?_getD]
theorem gdA2 {a b : List Nat} {i j : Nat} (h : i = a.length + j) : (a ++ b).getD i 0 = b.getD j 0 := by
  rw [List.getD_eq_getElem?_getD, List.getElem?_append_right (by omega), ← List.getD_eq_getElem?_getD, show i - a.length = j by omega]
theorem At.left {a b : List Nat} (h : At c p (a ++ b)) : At c p a := ⟨by have := h.1; rw [List.length_append] at this; omega, fun i hi => by rw [h.2 i (by rw [List.length_append]; omega), gdA1 hi]⟩
theorem At.right {a b : List Nat} {q : Nat} (h : At c p (a ++ b)) (hq : q = p + a.length) : At c q b := ⟨by have := h.1; rw [List.length_append] at this; omega, fun i hi => by rw [hq, Nat.add_assoc, h.2 (a.length + i) (by rw [List.length_append]; omega), gdA2 rfl]⟩
theorem At.of {pre l post : List Nat} (hp : pre.length = p) : At (pre ++ l ++ post) p l := ⟨by simp only [List.length_append]; omega, fun i hi => by rw [List.append_assoc, gdA2 (j := i) (by omega), gdA1 hi]⟩
/-- Symbols in the code. -/
def SA (c : List Nat) (ent : Int → Nat) (p : Nat) (L : List Sym) : Prop := At c p (L.map (rnd ent))
theorem SA.left {a b : List Sym} (h : SA c ent p (a ++ b)) : SA c ent p a := by unfold SA at h; rw [List.map_append] at h; exact h.left
theorem SA.right {a b : List Sym} {q : Nat} (h : SA c ent p (a ++ b)) (hq : q = p + a.length) : SA c ent q b := by unfold SA at h; rw [List.map_append] at h; exact h.right (by rw [List.length_map]; exact hq)
theorem SA.by_ {l : List Nat} (h : SA c ent p (byS l)) : At c p l := by
  unfold SA byS at h
  rw [List.map_map] at h
  have : (rnd ent ∘ Sum.inl : Nat → Nat) = id := rfl
  rw [this, List.map_id] at h
  exact h
theorem SA.le {L : List Sym} (h : SA c ent p L) : p + L.length ≤ c.length := by have := h.1; rw [List.length_map] at this; exact this
/-- The machine reaches s'. -/
def Rn (c : List Nat) (inp : List Int) (s s' : MS) : Prop := ∃ k, runN c inp k s = s'
theorem Rn.refl (s : MS) : Rn c inp s s := ⟨0, rfl⟩
theorem Rn.trans (h : Rn c inp s s') (h' : Rn c inp s' s'') : Rn c inp s s'' := by
  obtain ⟨k, rfl⟩ := h
  obtain ⟨j, rfl⟩ := h'
  exact ⟨k + j, runN_add _ _ _ _ _⟩
theorem Rn.step (he : s.en = 0) : Rn c inp s (mstep c inp s) := ⟨1, by show (if s.en ≠ 0 then s else runN c inp 0 (mstep c inp s)) = _; rw [if_neg (by simp [he])]; rfl⟩
theorem topE (hs : s.fs = f :: r) : top s = f := by unfold top; rw [hs]; rfl
theorem setOpsE {o : List Int} (hs : s.fs = f :: r) : setOps o s = { s with fs := { f with ops := o } :: r } := by unfold setOps setTop top; rw [hs]; rfl
/-- One instruction. -/
theorem ins {op : Nat} {args : List Nat} (he : s.en = 0) (hs : s.fs = f :: r) (ha : At c s.pc (op :: args)) (hn : args.length = nargs op) (ho : op < 37) (hw : wI op ≤ f.ops.length) (hr : (wR op : Int) + f.rb + f.lr ≤ s.H.roots.length) : Rn c inp s (mop c inp s.pc op { s with pc := s.pc + 1 + nargs op }) := by
  have h0 := ha.2 0 (by simp)
  rw [Nat.add_zero] at h0
  have h0 : c.getD s.pc 0 = op := h0
  have hl := ha.1
  simp only [List.length_cons] at hl
  have := Rn.step (c := c) (inp := inp) he
  unfold mstep at this
  rw [h0, if_neg (by omega), if_neg (by omega), if_neg (by rw [topE hs]; unfold rops; rw [topE hs]; omega)] at this
  exact this
theorem hb_le (u : Nat) (hA : At c p (leB 8 u)) : i64At c p = W ((u % 18446744073709551616 : Nat) : Int) := by
  unfold i64At
  have g := hA.2
  rw [leB_len] at g
  have e0 : c.getD (p + 0) 0 = u % 256 := g 0 (by omega)
  have e1 : c.getD (p + 1) 0 = u / 256 % 256 := g 1 (by omega)
  have e2 : c.getD (p + 2) 0 = u / 256 / 256 % 256 := g 2 (by omega)
  have e3 : c.getD (p + 3) 0 = u / 256 / 256 / 256 % 256 := g 3 (by omega)
  have e4 : c.getD (p + 4) 0 = u / 256 / 256 / 256 / 256 % 256 := g 4 (by omega)
  have e5 : c.getD (p + 5) 0 = u / 256 / 256 / 256 / 256 / 256 % 256 := g 5 (by omega)
  have e6 : c.getD (p + 6) 0 = u / 256 / 256 / 256 / 256 / 256 / 256 % 256 := g 6 (by omega)
  have e7 : c.getD (p + 7) 0 = u / 256 / 256 / 256 / 256 / 256 / 256 / 256 % 256 := g 7 (by omega)
  rw [Nat.add_zero] at e0
  rw [e0, e1, e2, e3, e4, e5, e6, e7]
  congr 2
  omega
theorem i64_at {v : Int} (hv : 0 ≤ v ∧ v ≤ 9223372036854775807) (h : At c p (i64B v)) : i64At c p = v := by
  have hu : U64 v = v := U64_id (by omega) (by omega)
  unfold i64B at h
  rw [hu] at h
  rw [hb_le _ h, W_id (by omega) (by omega)]
  omega
theorem u16_at {a : Nat} (ha : a < 65536) (h : At c p (u16B a)) : u16At c p = a := by
  have h0 := h.2 0 (by simp [u16B])
  have h1 := h.2 1 (by simp [u16B])
  rw [Nat.add_zero] at h0
  have h0 : c.getD p 0 = a % 256 := h0
  have h1 : c.getD (p + 1) 0 = a / 256 % 256 := h1
  unfold u16At
  rw [h0, h1]; omega
theorem At.tail {o : Nat} {l : List Nat} (h : At c p (o :: l)) : At c (p + 1) l := At.right (a := [o]) (b := l) h rfl
/-- 'Push v'. -/
theorem ins_num {v : Int} (hv : 0 ≤ v ∧ v ≤ 9223372036854775807) (he : s.en = 0) (hs : s.fs = f :: r) (ha : SA c ent s.pc (numS v)) (hr : (f.rb : Int) + f.lr ≤ s.H.roots.length) : Rn c inp s (mpush v { s with pc := s.pc + 9 }) := by
  have h := SA.by_ ha
  have := ins (inp := inp) he hs h (i64B_len v) (by omega) (by show 0 ≤ _; omega) (by show ((0 : Nat) : Int) + _ + _ ≤ _; omega)
  rw [mop_0, i64_at hv h.tail] at this
  exact this
/-- A jump that goes forward. -/
theorem jump_fwd {a : Nat} (h1 : p < a) (h2 : a < c.length) : mjump c p a s = { s with pc := a } := by unfold mjump; rw [if_neg (by omega), if_neg (by omega)]
theorem jump_back {a : Nat} (h1 : a ≤ p) (h2 : a < c.length) : mjump c p a s = if s.fuel ≤ 0 then trap 22 s else { s with pc := a, fuel := s.fuel - 1 } := by unfold mjump mspend; rw [if_neg (by omega), if_pos h1]
end Go.Proofs.Qxb6500562aGreat
