/-
  The model's reader: WHERE.
-/
import Derived.Test.Qxb6500564aGreatQyO
namespace Go.Proofs.Qxb6500564aGreat
open Go.Den Go.Zip
set_option linter.unusedVariables false
set_option linter.unusedSimpArgs false
variable {w w' u v : World} {i j k n a b r st B q : Nat} {s x : ByteArray} {t : Tk} {A L L' : List Tk} {M M' : Mst} {z : Nat → Sl} {bd : Bool}

theorem MX.flag {K : Bool → Prop} (h : MX w B r st A L M z) (h1 : L = bad → K true) (h2 : ∀ i, MXs w B r st A i false M z → L = A.drop i ++ [endT] → K false) : LdB w ⟨r, 2, none⟩ K := by
  obtain ⟨i, bd, M1, hs, h⟩ := h
  refine ldB hs.rb rfl ?_
  rcases h with ⟨rfl, rfl, rfl⟩ | ⟨rfl, rfl⟩
  · exact h2 i hs rfl
  · exact h1 rfl
theorem MX.len (h : MX w B r st A L M z) : 0 < L.length ∧ L.length ≤ FU := by
  obtain ⟨i, bd, M1, hs, h⟩ := h
  have := hs.al
  rcases h with ⟨rfl, rfl, rfl⟩ | ⟨rfl, rfl⟩
  · rw [List.length_append, List.length_drop]
    exact ⟨by show 0 < _ + 1; omega, by show _ + 1 ≤ 300; omega⟩
  · exact ⟨by decide, by decide⟩
/-- A field that is no list is laid. -/
theorem MX.put {o : Nat} {c : Value} {K : World → Prop} (h : MX w B r st A L M z) (gr : Mst → Mst) (ho : o < 12) (hc : ∀ M, (mC M z).set o c = mC (gr M) z) (hv : ∀ M i, vm A (gr M) i = vm A M i) (hK : ∀ w', MX w' B r st A L (gr M) z → Fr st 1 w w' → K w') : St1 w ⟨st, o, none⟩ c K := by
  obtain ⟨i, bd, M1, hs, h⟩ := h
  refine st1 hs.blk ho fun w1 b1 f1 z1 => hK w1 ⟨i, bd, gr M1, hs.set (hc M1 ▸ b1) f1 (hv M1), ?_⟩ f1
  rcases h with ⟨h1, rfl, h3⟩ | h
  · exact .inl ⟨h1, rfl, h3⟩
  · exact .inr h
theorem MX.app {ty : TypeId} {zz new : List Value} {bytes : Nat} {K : World → Prop} (h : MX w B r st A L M z) (gr : Mst → Mst) (hi : i < 4) (hx : Blk w q new) (hl : new.length = szm i) (hok : new.all okV = true) (hz : zz.length = szm i) (hsm : ((z i).l + 1) * bytes ≤ 2 ^ 46)
    (hS : ∀ M, vm A (gr M) i = vm A M i ++ new ∧ ∀ j, j < 5 → j ≠ i → vm A (gr M) j = vm A M j) (hc : ∀ M s', (mC M z).set (celm i) (slV s') = mC (gr M) (fset z i s'))
    (hK : ∀ w' s', MX w' B r st A L (gr M) (fset z i s') → FrP (fun b => B ≤ b) w w' → K w') :
    AppS ty zz bytes (szm i) w (z i) ⟨some ⟨q, 0, none⟩, 1, 1⟩ fun l w => St1 w ⟨st, celm i, none⟩ (.slice l.a l.l l.c) fun w => K w := by
  obtain ⟨n, bd, M1, hs, h⟩ := h
  refine hs.app hi hx hl hok hz hsm (hS M1) (hc M1) fun w1 s' h1 F1 => hK w1 s' ⟨n, bd, gr M1, h1, ?_⟩ (hs.base (by omega) F1)
  rcases h with ⟨h1, rfl, h3⟩ | h
  · exact .inl ⟨h1, rfl, h3⟩
  · exact .inr h
theorem MX.sblk (h : MX w B r st A L M z) : ∃ M1, Blk w st (mC M1 z) := by
  obtain ⟨n, bd, M1, hs, h⟩ := h
  exact ⟨M1, hs.blk⟩
theorem MX.b2 (h : MX w B r st A L M z) (f : Fr st 1 w w') : FrP (fun b => B ≤ b) w w' := by
  obtain ⟨i, bd, M1, hs, h⟩ := h
  exact hs.b2 f
theorem MX.fresh (h : MX w B r st A L M z) {q : Nat} (hq : w.heap.size ≤ q) (F : FrP (fun b => B ≤ b) u v) (f : Fr q 1 v w') : FrP (fun b => B ≤ b) u w' :=
  F.trans' (FrP.of (P := fun b => b = q) f fun b h1 h2 => by omega) fun b hb => .inl (by have := h.bl; omega)
def hsB (x : ByteArray) : Bool := decide (x = ⟨#[61]⟩) || decide (x = ⟨#[33, 61]⟩) || decide (x = ⟨#[60]⟩) || decide (x = ⟨#[60, 61]⟩) || decide (x = ⟨#[62]⟩) || decide (x = ⟨#[62, 61]⟩)
theorem holdsSign_spec {K : Bool → World → Prop} (hK : K (hsB x) w) : S.querym_holdsSign x w K := by
  unfold S.querym_holdsSign
  unfold hsB at hK
  refine str_eq (fun e => ?_) fun n1 => ?_
  · subst e; exact hK
  rw [decide_eq_false n1, Bool.false_or] at hK
  refine str_eq (fun e => ?_) fun n2 => ?_
  · subst e; exact hK
  rw [decide_eq_false n2, Bool.false_or] at hK
  refine str_eq (fun e => ?_) fun n3 => ?_
  · subst e; exact hK
  rw [decide_eq_false n3, Bool.false_or] at hK
  refine str_eq (fun e => ?_) fun n4 => ?_
  · subst e; exact hK
  rw [decide_eq_false n4, Bool.false_or] at hK
  refine str_eq (fun e => ?_) fun n5 => ?_
  · subst e; exact hK
  rw [decide_eq_false n5, Bool.false_or] at hK
  rw [dec_tl]
  exact hK
theorem opC_hs (h : t.kind = 6) : (hsB t.text = true → opC t ≠ 0 ∧ opS (opC t) = t.text) ∧ (hsB t.text = false → opC t = 0) := by
  unfold opC
  rw [if_neg (by omega)]
  by_cases e1 : t.text = ⟨#[60]⟩
  · rw [if_pos e1, e1]; exact ⟨fun _ => ⟨by decide, rfl⟩, fun h => by cases h⟩
  rw [if_neg e1]
  by_cases e2 : t.text = ⟨#[61]⟩
  · rw [if_pos e2, e2]; exact ⟨fun _ => ⟨by decide, rfl⟩, fun h => by cases h⟩
  rw [if_neg e2]
  by_cases e3 : t.text = ⟨#[60, 61]⟩
  · rw [if_pos e3, e3]; exact ⟨fun _ => ⟨by decide, rfl⟩, fun h => by cases h⟩
  rw [if_neg e3]
  by_cases e4 : t.text = ⟨#[62]⟩
  · rw [if_pos e4, e4]; exact ⟨fun _ => ⟨by decide, rfl⟩, fun h => by cases h⟩
  rw [if_neg e4]
  by_cases e5 : t.text = ⟨#[33, 61]⟩
  · rw [if_pos e5, e5]; exact ⟨fun _ => ⟨by decide, rfl⟩, fun h => by cases h⟩
  rw [if_neg e5]
  by_cases e6 : t.text = ⟨#[62, 61]⟩
  · rw [if_pos e6, e6]; exact ⟨fun _ => ⟨by decide, rfl⟩, fun h => by cases h⟩
  rw [if_neg e6]
  refine ⟨fun h => ?_, fun _ => rfl⟩
  unfold hsB at h
  rw [decide_eq_false e1, decide_eq_false e2, decide_eq_false e3, decide_eq_false e4, decide_eq_false e5, decide_eq_false e6] at h
  cases h
theorem opC_k (h : t.kind ≠ 6) : opC t = 0 := by unfold opC; rw [if_pos h]
/-- A loop of the model's reader: where it stands. -/
def RM {α : Type} (f : List Tk → α) (g : List Tk → List Tk) (x : ByteArray) (R : List α × List Tk) (n : Nat) (more : Bool) (C : List α) (L : List Tk) : Prop := RdL f g x R n more C L ∨ (L = bad ∧ R.2 = bad)
theorem RM.bad {α : Type} {f : List Tk → α} {g : List Tk → List Tk} {R : List α × List Tk} {more : Bool} {C : List α} (h : RM f g x R n more C bad) (hg : g bad = Qxb6500564aGreat.bad) : R.2 = Qxb6500564aGreat.bad := by
  rcases h with h | h
  · cases more with
    | true =>
      obtain ⟨h1, h2, h3, h4⟩ := h
      cases n with
      | zero => exact absurd h1 (by decide)
      | succ n =>
        rw [lstP_bad hg] at h4
        exact h4.symm
    | false => exact h.2.symm
  · exact h.2
theorem RM.next {α : Type} {f : List Tk → α} {g : List Tk → List Tk} {R : List α × List Tk} {C : List α} {b : Bool} (h : RM f g x R n true C L) (hn : L ≠ Qxb6500564aGreat.bad) (h0 : 0 < L.length) (hg : (g L).length ≤ max L.length 1) (hb : b = isP x (g L) ∨ g L = Qxb6500564aGreat.bad) :
    RM f g x R (n - 1) b (C ++ [f L]) (aft x (g L)) := by
  rcases h with h | h
  · obtain ⟨h1, h2, h3⟩ := RdL.next h h0 hg
    rcases hb with rfl | hb
    · exact .inl h3
    · rw [hb] at h3 ⊢
      have h4 : RdL f g x R (n - 1) false (C ++ [f L]) Qxb6500564aGreat.bad := h3
      exact .inr ⟨rfl, h4.out.2.symm⟩
  · exact absurd h.1 hn
theorem RM.pos {α : Type} {f : List Tk → α} {g : List Tk → List Tk} {R : List α × List Tk} {C : List α} (h : RM f g x R n true C L) (hn : L ≠ Qxb6500564aGreat.bad) (h0 : 0 < L.length) : 0 < n ∧ C.length < FU := by
  rcases h with h | h
  · obtain ⟨h1, h2, h3, h4⟩ := h
    exact ⟨by omega, by omega⟩
  · exact absurd h.1 hn
end Go.Proofs.Qxb6500564aGreat
