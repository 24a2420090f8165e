/-
  The database with sessions, plain; its memory.
-/
import Derived.Test.Qxb6500564aGreatMcM
namespace Go.Proofs.Qxb6500564aGreat
open Go.Den Go.Zip
set_option linter.unusedVariables false
set_option linter.unusedSimpArgs false
variable {w w' u v : World} {i j k n q g b d o b0 : Nat} {s r x : Sl} {nm : ByteArray} {ms L : List MR} {m m' y : MR} {P Q O : Nat → Prop}

/-- The state: database 0 is the committed one, s + 1 the own copy of session s. -/
structure Mu where
  db : Nat → Db
  act : Nat → Bool
  lk : Nat → Nat → Nat
def fI (nm : ByteArray) (db : Db) : Option Nat := db.findIdx? fun t => decide (t.name = nm)
theorem fI_some {db : Db} {t : Tb} (hi : db[i]? = some t) (hn : t.name = nm) (h : ∀ j t', j < i → db[j]? = some t' → t'.name ≠ nm) : fI nm db = some i := by
  obtain ⟨hil, e⟩ := List.getElem?_eq_some_iff.1 hi
  unfold fI
  rw [List.findIdx?_eq_some_iff_getElem]
  refine ⟨hil, by rw [e]; simpa using hn, fun j hj => ?_⟩
  have := h j db[j] hj (List.getElem?_eq_getElem (by omega))
  simpa using this
theorem fI_none {db : Db} (h : fnB nm db = none) : fI nm db = none := by
  unfold fI fnB at *
  rw [List.findIdx?_eq_none_iff]
  intro x hx
  simpa using List.find?_eq_none.1 h x hx
theorem fI_get {db : Db} (h : fI nm db = some i) : ∃ t, db[i]? = some t ∧ t.name = nm ∧ fnB nm db = some t := by
  unfold fI at h
  rw [List.findIdx?_eq_some_iff_getElem] at h
  obtain ⟨hi, hn, hall⟩ := h
  refine ⟨db[i], List.getElem?_eq_getElem hi, by simpa using hn, ?_⟩
  unfold fnB
  rw [List.find?_eq_some_iff_getElem]
  exact ⟨by simpa using hn, i, hi, rfl, fun j hj => by simpa using hall j hj⟩
def gs (s : Int) : Bool := decide (0 ≤ s ∧ s < 4)
theorem goodSess_spec {s : Int} {K : Bool → World → Prop} (hK : K (gs s) w) : S.api_GoodSess s w K := by
  unfold S.api_GoodSess
  refine ifd (fun h1 => ?_) fun h1 => ?_
  · have e : decide (s < 4) = gs s := by unfold gs; rw [decide_eq_decide]; omega
    rw [e]; exact hK
  · have e : gs s = false := by unfold gs; rw [decide_eq_false_iff_not]; omega
    rw [e] at hK; exact hK
def muC (sl : Nat → Sl) (act : Nat → Bool) (lk : Nat → Nat → Nat) : List Value :=
  [slV (sl 0), .bool (act 0), .bool (act 1), .bool (act 2), .bool (act 3), .int .i64 (lk 0 0 : Nat), .int .i64 (lk 0 1 : Nat), .int .i64 (lk 0 2 : Nat), .int .i64 (lk 1 0 : Nat), .int .i64 (lk 1 1 : Nat), .int .i64 (lk 1 2 : Nat), .int .i64 (lk 2 0 : Nat), .int .i64 (lk 2 1 : Nat), .int .i64 (lk 2 2 : Nat), .int .i64 (lk 3 0 : Nat), .int .i64 (lk 3 1 : Nat), .int .i64 (lk 3 2 : Nat), slV (sl 1), slV (sl 2), slV (sl 3), slV (sl 4)]
structure MU (w : World) (d : Nat) (U : Mu) (sl : Nat → Sl) (mr : Nat → List MR) : Prop where
  bl : Blk w d (muC sl U.act U.lk)
  mt : ∀ k, k < 5 → MT w (sl k) (mr k)
  eq : ∀ k, k < 5 → dbOf (mr k) = U.db k
  nd : ∀ k, k < 5 → ¬ mo (sl k) (mr k) d
  dj : ∀ k, k < 5 → ∀ l, l < 5 → k ≠ l → ∀ b, mo (sl k) (mr k) b → ¬ mo (sl l) (mr l) b
def mw (d : Nat) (sl : Nat → Sl) (mr : Nat → List MR) (b : Nat) : Prop := b = d ∨ ∃ k, k < 5 ∧ mo (sl k) (mr k) b
/-- The Multi at d stands for U and owns the blocks O. -/
def MV (w : World) (d : Nat) (U : Mu) (O : Nat → Prop) : Prop := ∃ sl mr, MU w d U sl mr ∧ ∀ b, O b ↔ mw d sl mr b
def offD (k : Nat) : Nat := if k = 0 then 0 else 16 + k
section
variable {sl : Nat → Sl} {mr : Nat → List MR} {act : Nat → Bool} {lk : Nat → Nat → Nat} {U : Mu}
theorem muC_db (hk : k < 5) : (muC sl act lk)[offD k]? = some (slV (sl k)) := by
  match k, hk with
  | 0, _ => rfl
  | 1, _ => rfl
  | 2, _ => rfl
  | 3, _ => rfl
  | 4, _ => rfl
theorem muC_act (hk : k < 4) : (muC sl act lk)[1 + k]? = some (.bool (act k)) := by
  match k, hk with
  | 0, _ => rfl
  | 1, _ => rfl
  | 2, _ => rfl
  | 3, _ => rfl
theorem muC_lk (hk : k < 4) (hi : i < 3) : (muC sl act lk)[5 + k * 3 + i]? = some (.int .i64 (lk k i : Nat)) := by
  match k, hk, i, hi with
  | 0, _, 0, _ => rfl
  | 0, _, 1, _ => rfl
  | 0, _, 2, _ => rfl
  | 1, _, 0, _ => rfl
  | 1, _, 1, _ => rfl
  | 1, _, 2, _ => rfl
  | 2, _, 0, _ => rfl
  | 2, _, 1, _ => rfl
  | 2, _, 2, _ => rfl
  | 3, _, 0, _ => rfl
  | 3, _, 1, _ => rfl
  | 3, _, 2, _ => rfl
theorem muC_len : (muC sl act lk).length = 21 := rfl
theorem muC_setD {t : Sl} (hk : k < 5) : (muC sl act lk).set (offD k) (slV t) = muC (fset sl k t) act lk := by
  match k, hk with
  | 0, _ => rfl
  | 1, _ => rfl
  | 2, _ => rfl
  | 3, _ => rfl
  | 4, _ => rfl
theorem muC_setA {a : Bool} (hk : k < 4) : (muC sl act lk).set (1 + k) (.bool a) = muC sl (fset act k a) lk := by
  match k, hk with
  | 0, _ => rfl
  | 1, _ => rfl
  | 2, _ => rfl
  | 3, _ => rfl
def setL (lk : Nat → Nat → Nat) (k i a : Nat) : Nat → Nat → Nat := fset lk k (fset (lk k) i a)
theorem muC_setL {a : Nat} (hk : k < 4) (hi : i < 3) : (muC sl act lk).set (5 + k * 3 + i) (.int .i64 (a : Nat)) = muC sl act (setL lk k i a) := by
  match k, hk, i, hi with
  | 0, _, 0, _ => rfl
  | 0, _, 1, _ => rfl
  | 0, _, 2, _ => rfl
  | 1, _, 0, _ => rfl
  | 1, _, 1, _ => rfl
  | 1, _, 2, _ => rfl
  | 2, _, 0, _ => rfl
  | 2, _, 1, _ => rfl
  | 2, _, 2, _ => rfl
  | 3, _, 0, _ => rfl
  | 3, _, 1, _ => rfl
  | 3, _, 2, _ => rfl
theorem MU.md (h : MU w d U sl mr) (hk : k < 5) : MD w d (offD k) (sl k) (mr k) := ⟨⟨_, h.bl, muC_db hk⟩, h.mt k hk, h.nd k hk⟩
theorem MU.frp (h : MU w d U sl mr) (F : FrP P w w') (hn : ∀ b, mw d sl mr b → ¬ P b) : MU w' d U sl mr :=
  ⟨h.bl.frp F (hn d (.inl rfl)), fun k hk => (h.mt k hk).frp F fun b hb => hn b (.inr ⟨k, hk, hb⟩), h.eq, h.nd, h.dj⟩
theorem MU.fr0 (h : MU w d U sl mr) (F : Fr 0 0 w w') : MU w' d U sl mr := h.frp (FrP.of0 (P := fun _ => False) F) fun _ _ h => h
theorem MU.dr (h : MU w d U sl mr) : MU w.drew d U sl mr := h.frp (FrP.refl (fun _ => False) w).drew fun _ _ h => h
theorem MU.lt (h : MU w d U sl mr) {b : Nat} (hb : mw d sl mr b) : b < w.heap.size := by
  rcases hb with rfl | ⟨k, hk, hb⟩
  · exact h.bl.lt
  · exact (h.mt k hk).molt b hb
theorem MU.ac {K : Bool → Prop} (h : MU w d U sl mr) (hk : k < 4) (hK : K (U.act k)) : LdB w ⟨d, 1 + Int.toNat (k : Int) * 1, none⟩ K := by
  rw [Int.toNat_natCast, Nat.mul_one]
  exact ldB h.bl (muC_act hk) hK
theorem MU.lo {K : Int → Prop} (h : MU w d U sl mr) (hk : k < 4) (hi : i < 3) (hK : K (U.lk k i : Nat)) : LdI .i64 w ⟨d, 5 + Int.toNat (k : Int) * 3 + Int.toNat (i : Int) * 1, none⟩ K := by
  rw [Int.toNat_natCast, Int.toNat_natCast, Nat.mul_one]
  exact ldI h.bl (muC_lk hk hi) hK
/-- Database k, its slice in its cell standing, has turned. -/
theorem MU.turn {ms' : List MR} (h : MU w d U sl mr) (hk : k < 5) (M : MD w' d (offD k) (sl k) ms') (G : Gw (mo (sl k) (mr k)) w (mo (sl k) ms') w') : MU w' d { U with db := fset U.db k (dbOf ms') } sl (fset mr k ms') ∧ Gw (mw d sl mr) w (mw d sl (fset mr k ms')) w' := by
  have hf : ∀ l, l ≠ k → fset mr k ms' l = mr l := fun l hl => fset_ne hl
  refine ⟨⟨?_, fun l hl => ?_, fun l hl => ?_, fun l hl => ?_, fun l hl l' hl' hne b hb hb' => ?_⟩, G.1.mono fun b hb => .inr ⟨k, hk, hb⟩, fun b hb => ?_⟩
  · exact h.bl.frp G.1 (h.nd k hk)
  · by_cases e : l = k
    · subst e; rw [fset_eq]; exact M.mt
    · rw [hf l e]
      exact (h.mt l hl).frp G.1 fun b hb hb' => h.dj l hl k hk e b hb hb'
  · show dbOf (fset mr k ms' l) = fset U.db k (dbOf ms') l
    by_cases e : l = k
    · subst e; rw [fset_eq, fset_eq]
    · rw [hf l e, fset_ne e]; exact h.eq l hl
  · by_cases e : l = k
    · subst e; rw [fset_eq]; exact M.nd
    · rw [hf l e]; exact h.nd l hl
  · by_cases e : l = k
    · subst e
      rw [fset_eq] at hb
      rw [hf l' fun e => hne e.symm] at hb'
      rcases G.2 b hb with h1 | h1
      · exact h.dj l hl l' hl' hne b h1 hb'
      · have := (h.mt l' hl').molt b hb'; omega
    · rw [hf l e] at hb
      by_cases e' : l' = k
      · subst e'
        rw [fset_eq] at hb'
        rcases G.2 b hb' with h1 | h1
        · exact h.dj l hl l' hl' hne b hb h1
        · have := (h.mt l hl).molt b hb; omega
      · rw [hf l' e'] at hb'
        exact h.dj l hl l' hl' hne b hb hb'
  · rcases hb with rfl | ⟨l, hl, hb⟩
    · exact .inl (.inl rfl)
    · by_cases e : l = k
      · subst e
        rw [fset_eq] at hb
        exact (G.2 b hb).elim (fun h => .inl (.inr ⟨l, hl, h⟩)) .inr
      · rw [hf l e] at hb
        exact .inl (.inr ⟨l, hl, hb⟩)
/-- Database k is another one, its slice laid into its cell. -/
theorem MU.put {s' : Sl} {ms' : List MR} (h : MU w d U sl mr) (hk : k < 5) (B : Blk w' d (muC (fset sl k s') U.act U.lk)) (M : MT w' s' ms') (F : FrP (fun b => mo (sl k) (mr k) b ∨ b = d ∨ w.heap.size ≤ b) w w') (hn : ∀ b, mo s' ms' b → mo (sl k) (mr k) b ∨ w.heap.size ≤ b) :
    MU w' d { U with db := fset U.db k (dbOf ms') } (fset sl k s') (fset mr k ms') ∧ Gw (mw d sl mr) w (mw d (fset sl k s') (fset mr k ms')) w' := by
  have hf : ∀ l, l ≠ k → fset mr k ms' l = mr l := fun l hl => fset_ne hl
  have hg : ∀ l, l ≠ k → fset sl k s' l = sl l := fun l hl => fset_ne hl
  have dlt := h.bl.lt
  refine ⟨⟨B, fun l hl => ?_, fun l hl => ?_, fun l hl => ?_, fun l hl l' hl' hne b hb hb' => ?_⟩, ⟨F.1, fun b hb hn' => F.2 b hb fun hq => ?_⟩, fun b hb => ?_⟩
  · by_cases e : l = k
    · subst e; rw [fset_eq, fset_eq]; exact M
    · rw [hf l e, hg l e]
      refine (h.mt l hl).frp F fun b hb hb' => ?_
      rcases hb' with h1 | h1 | h1
      · exact h.dj l hl k hk e b hb h1
      · exact h.nd l hl (by rw [← h1]; exact hb)
      · have := (h.mt l hl).molt b hb; omega
  · show dbOf (fset mr k ms' l) = fset U.db k (dbOf ms') l
    by_cases e : l = k
    · subst e; rw [fset_eq, fset_eq]
    · rw [hf l e, fset_ne e]; exact h.eq l hl
  · by_cases e : l = k
    · subst e; rw [fset_eq, fset_eq]
      intro hd
      rcases hn d hd with h1 | h1
      · exact h.nd l hl h1
      · omega
    · rw [hf l e, hg l e]; exact h.nd l hl
  · by_cases e : l = k
    · subst e
      rw [fset_eq, fset_eq] at hb
      rw [hf l' fun e => hne e.symm, hg l' fun e => hne e.symm] at hb'
      rcases hn b hb with h1 | h1
      · exact h.dj l hl l' hl' hne b h1 hb'
      · have := (h.mt l' hl').molt b hb'; omega
    · rw [hf l e, hg l e] at hb
      by_cases e' : l' = k
      · subst e'
        rw [fset_eq, fset_eq] at hb'
        rcases hn b hb' with h1 | h1
        · exact h.dj l hl l' hl' hne b hb h1
        · have := (h.mt l hl).molt b hb; omega
      · rw [hf l' e', hg l' e'] at hb'
        exact h.dj l hl l' hl' hne b hb hb'
  · rcases hq with h1 | h1 | h1
    · exact hn' (.inr ⟨k, hk, h1⟩)
    · exact hn' (.inl h1)
    · omega
  · rcases hb with rfl | ⟨l, hl, hb⟩
    · exact .inl (.inl rfl)
    · by_cases e : l = k
      · subst e
        rw [fset_eq, fset_eq] at hb
        exact (hn b hb).elim (fun h => .inl (.inr ⟨l, hl, h⟩)) .inr
      · rw [hf l e, hg l e] at hb
        exact .inl (.inr ⟨l, hl, hb⟩)
/-- Flags turn. -/
theorem MU.cel {act' : Nat → Bool} {lk' : Nat → Nat → Nat} (h : MU w d U sl mr) (B : Blk w' d (muC sl act' lk')) (F : FrP (fun b => b = d) w w') : MU w' d { U with act := act', lk := lk' } sl mr :=
  ⟨B, fun k hk => (h.mt k hk).frp F fun b hb e => h.nd k hk (by rw [← show b = d from e]; exact hb), h.eq, h.nd, h.dj⟩
end
end Go.Proofs.Qxb6500564aGreat
