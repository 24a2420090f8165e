/-
  The real heap: the collector.
-/
import Derived.Test.Qxb6500562aGreatHrB
namespace Go.Proofs.Qxb6500562aGreat
open Go.Den Go.Zip
set_option linter.unusedVariables false
set_option linter.unusedSimpArgs false
variable {w w' : World} {h : Nat} {f : Nat → Int} {M H : SH} {b t : Nat} {l : List Int}

def nofs (M : SH) (l : List Int) (p : Nat) : Nat := ((l.take p).map fun x => osz (obAt M x)).sum
def nadr (M : SH) (t : Nat) (l : List Int) (x : Int) : Int := if x < 0 then -1 else ((t + nofs M l (ixOf l x).toNat : Nat) : Int)
/-- Word j of an object's fields, as it lies. -/
def word (M : SH) (b : Nat) (x : Int) (j : Nat) : Int := if j < (obAt M x).refs.length then adr M b ((obAt M x).refs.getD j (-1)) else (obAt M x).ints.getD (j - (obAt M x).refs.length) 0
theorem sum_erase (g : Int → Nat) : ∀ {l : List Int} {x : Int}, x ∈ l → (l.map g).sum = ((l.erase x).map g).sum + g x
  | y :: l, x, h => by
    by_cases e : y = x
    · subst e
      rw [List.erase_cons_head]
      simp only [List.map_cons, List.sum_cons]; omega
    · rw [List.erase_cons_tail (by simpa using e)]
      have : x ∈ l := by
        rcases List.mem_cons.1 h with h | h
        · exact absurd h.symm e
        · exact h
      simp only [List.map_cons, List.sum_cons]
      have := sum_erase g this
      omega
theorem sum_ofs (M : SH) : ∀ {n : Nat} {l : List Int}, n ≤ M.objs.length → l.Nodup → (∀ x ∈ l, 0 ≤ x ∧ x < n) → (l.map fun x => osz (obAt M x)).sum ≤ ofs M n
  | 0, [], _, _, _ => by simp
  | 0, x :: l, _, _, hb => by have := hb x (.head _); omega
  | n + 1, l, hn, hnd, hb => by
    have e : ofs M (n + 1) = ofs M n + osz (obN M n) := ofsL_succ M.objs n (by omega)
    by_cases hm : (n : Int) ∈ l
    · have h1 := sum_ofs M (n := n) (l := l.erase (n : Int)) (by omega) (hnd.erase _) fun x hx => by
        obtain ⟨h1, h2⟩ := hnd.mem_erase_iff.1 hx
        have := hb x h2
        omega
      rw [sum_erase _ hm, e]
      have : obAt M (n : Int) = obN M n := rfl
      rw [this]
      omega
    · have h1 := sum_ofs M (n := n) (by omega) hnd fun x hx => by
        have h1 := hb x hx
        have h2 : x ≠ n := fun e => hm (by rw [← e]; exact hx)
        omega
      omega
theorem nofs_succ (M : SH) (l : List Int) (p : Nat) {x : Int} (h : l[p]? = some x) : nofs M l (p + 1) = nofs M l p + osz (obAt M x) := by
  unfold nofs
  rw [List.take_add_one, h]
  simp
theorem nofs_mono (M : SH) (l : List Int) {p q : Nat} (h : p ≤ q) : nofs M l p ≤ nofs M l q := by
  induction q with
  | zero => rw [show p = 0 by omega]; exact Nat.le_refl _
  | succ q ih =>
    by_cases e : p = q + 1
    · rw [e]; exact Nat.le_refl _
    · have := ih (by omega)
      cases hx : l[q]? with
      | none =>
        have hl : l.length ≤ q := by
          rcases Nat.lt_or_ge q l.length with h | h
          · rw [List.getElem?_eq_getElem h] at hx; cases hx
          · exact h
        have : nofs M l (q + 1) = nofs M l q := by unfold nofs; rw [List.take_of_length_le (by omega), List.take_of_length_le hl]
        omega
      | some x => rw [nofs_succ M l q hx]; omega
theorem nofs_app (M : SH) (l r : List Int) {p : Nat} (h : p ≤ l.length) : nofs M (l ++ r) p = nofs M l p := by
  unfold nofs
  rw [List.take_append_of_le_length h]
theorem fnd_app : ∀ {l r : List Int} {x : Int} {i : Nat}, x ∈ l → fnd (l ++ r) x i = fnd l x i
  | y :: l, r, x, i, h => by
    show (if y = x then (i : Int) else fnd (l ++ r) x (i + 1)) = if y = x then (i : Int) else fnd l x (i + 1)
    by_cases e : y = x
    · rw [if_pos e, if_pos e]
    · rw [if_neg e, if_neg e]
      exact fnd_app (by
        rcases List.mem_cons.1 h with h | h
        · exact absurd h.symm e
        · exact h)
theorem ixOf_app {l r : List Int} {x : Int} (h : x ∈ l) : ixOf (l ++ r) x = ixOf l x := fnd_app h
theorem nadr_app {r : List Int} {x : Int} (hn : l.Nodup) (h : x = -1 ∨ x ∈ l) : nadr M t (l ++ r) x = nadr M t l x := by
  unfold nadr
  rcases h with rfl | h
  · rw [if_pos (by omega), if_pos (by omega)]
  · rw [ixOf_app h]
    obtain ⟨k, hk⟩ := List.mem_iff_getElem?.1 h
    have hkl : k < l.length := by
      rcases Nat.lt_or_ge k l.length with h | h
      · exact h
      · rw [List.getElem?_eq_none h] at hk; cases hk
    rw [ixOf_at hn hk, Int.toNat_natCast, nofs_app M l r (by omega)]
/-- In the middle of a collection: l has moved; copy i is being scanned, jj of its fields are done; ri roots are done. -/
structure CL (f : Nat → Int) (M : SH) (b t : Nat) (l : List Int) (i jj ri : Nat) : Prop where
  bt : (b = 0 ∧ t = 48) ∨ (b = 48 ∧ t = 0)
  tl : tot M ≤ 48
  nd : l.Nodup
  lr : ∀ x ∈ l, 0 ≤ x ∧ x < M.objs.length
  bs : f 96 = b
  fr : f 97 = (t + nofs M l l.length : Nat)
  tp : f 122 = M.roots.length
  rt : ∀ k, k < M.roots.length → f (98 + k) = if k < ri then nadr M t l (M.roots.getD k (-1)) else adr M b (M.roots.getD k (-1))
  rd : ∀ k, k < M.roots.length → k < ri → M.roots.getD k (-1) = -1 ∨ M.roots.getD k (-1) ∈ l
  hd : ∀ x : Nat, x < M.objs.length → f (b + ofs M x) = if (x : Int) ∈ l then -1 - nadr M t l x else hdr (obN M x)
  fl : ∀ x j : Nat, x < M.objs.length → j < (obN M x).refs.length + (obN M x).ints.length → f (b + ofs M x + 1 + j) = word M b x j
  ch : ∀ p x, l[p]? = some x → f (t + nofs M l p) = hdr (obAt M x)
  cf : ∀ p x j, l[p]? = some x → j < (obAt M x).refs.length + (obAt M x).ints.length → f (t + nofs M l p + 1 + j) = if (p < i ∨ p = i ∧ j < jj) ∧ j < (obAt M x).refs.length then nadr M t l ((obAt M x).refs.getD j (-1)) else word M b x j
  cd : ∀ p x j, l[p]? = some x → j < (obAt M x).refs.length → (p < i ∨ p = i ∧ j < jj) → (obAt M x).refs.getD j (-1) = -1 ∨ (obAt M x).refs.getD j (-1) ∈ l
theorem CL.sum {i jj ri : Nat} (c : CL f M b t l i jj ri) : nofs M l l.length ≤ 48 := by
  have h1 := sum_ofs M (Nat.le_refl _) c.nd c.lr
  have : nofs M l l.length = (l.map fun x => osz (obAt M x)).sum := by unfold nofs; rw [List.take_length]
  have h2 : ofs M M.objs.length = tot M := rfl
  have := c.tl
  omega
theorem lt_of_get {l : List Int} {k : Nat} {x : Int} (hk : l[k]? = some x) : k < l.length := by
  rcases Nat.lt_or_ge k l.length with h | h
  · exact h
  · rw [List.getElem?_eq_none h] at hk; cases hk
theorem CL.at_ {i jj ri p : Nat} {x : Int} (c : CL f M b t l i jj ri) (hp : l[p]? = some x) : t + nofs M l p + osz (obAt M x) ≤ t + nofs M l l.length := by
  have h1 := nofs_mono M l (p := p + 1) (q := l.length) (lt_of_get hp)
  rw [nofs_succ M l p hp] at h1
  omega
end Go.Proofs.Qxb6500562aGreat
