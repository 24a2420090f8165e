/-
  The store: every hit of a scan has its row.
-/
import Derived.Test.Qxb6500564aGreatTbS
namespace Go.Proofs.Qxb6500564aGreat
open Go.Den Go.Zip
set_option linter.unusedVariables false
set_option linter.unusedSimpArgs false
variable {T : Nat → Option Es} {xs : List Th} {tb : Tb} {k nm : ByteArray} {vs : List Vl}

/-- A bound. -/
structure Bd where
  has : Bool
  v : Vl
/-- What Scan checks. -/
def scanE (t : Tb) (col : Int) (lo hi : Bd) : Int :=
  if col < 0 ∨ col ≥ t.cols.length then 14 else if col ≠ t.pk ∧ col ≠ t.ix then 19
  else if (lo.has = true ∧ lo.v.st ≠ (t.cols.getD col.toNat c0).st) ∨ (hi.has = true ∧ hi.v.st ≠ (t.cols.getD col.toNat c0).st) then 15
  else if (lo.has = true ∧ lo.v.s.size > 7) ∨ (hi.has = true ∧ hi.v.s.size > 7) then 16 else 0
/-- The code of a bound. -/
def bdC (b : Bd) : ByteArray := if b.has then codeV b.v else ⟨#[]⟩
theorem back8 (h : k.size = 8) : backP k = k := by unfold backP; rw [if_neg (by omega)]
theorem back16 {a b : ByteArray} (ha : a.size = 8) (hb : b.size = 8) : backP (a ++ b) = b := by
  have hs : (a ++ b).size = 16 := by rw [ByteArray.size_append]; omega
  unfold backP
  rw [if_pos (by omega)]
  apply bt_inj
  rw [bt_extract, bt_append, hs]
  have la : (bt a).length = 8 := by rw [bt_len, ha]
  have lb : (bt b).length = 8 := by rw [bt_len, hb]
  rw [show 16 - 8 = (bt a).length by omega, List.drop_left, List.take_of_length_le (by omega)]
theorem rowBy_self {pk : Nat} {y : List Vl} (ok : TbOk tb) (hy : y ∈ tb.rows) : rowBy tb (rk tb.pk y) = some y := by
  unfold rowBy
  cases h : tb.rows.find? (fun r => decide (codeV (r.getD tb.pk v0) = rk tb.pk y)) with
  | none => exact absurd (decide_eq_true rfl) (List.find?_eq_none.1 h y hy)
  | some z =>
    have hz := List.mem_of_find?_eq_some h
    have he : rk tb.pk z = rk tb.pk y := by simpa [rk] using List.find?_some h
    rw [rk_inj (RSrt_tb ok) hz hy he]
theorem span_sub {es : Es} {fr up : ByteArray} {cap : Bool} {e : ByteArray × ByteArray} (h : e ∈ spanP es fr cap up) : e ∈ es := by
  unfold spanP at h
  exact (List.dropWhile_sublist _).subset ((List.takeWhile_sublist _).subset h)
theorem hit_rows {fr up : ByteArray} {cap : Bool} (ok : TbOk tb) : ∀ e ∈ spanP (rowsE tb) fr cap up, e.1.size < 1000 ∧ ∃ y ∈ tb.rows, rowBy tb (backP e.1) = some y ∧ e = entR tb.pk y := fun e he => by
  obtain ⟨y, hy, rfl⟩ := List.mem_map.1 (span_sub he)
  have ok' := ok
  unfold TbOk at ok'
  have hv := (ok'.2.2.2.2.2.2.1 y hy).2
  have hs : (rk tb.pk y).size = 8 := rk_size hv
  refine ⟨by show (rk tb.pk y).size < 1000; omega, y, hy, ?_, rfl⟩
  show rowBy tb (backP (rk tb.pk y)) = _
  rw [back8 hs]
  exact rowBy_self (pk := tb.pk) ok hy
theorem hit_idx {es : Es} {fr up : ByteArray} {cap : Bool} (ok : TbOk tb) (hi : IdxOf tb es) : ∀ e ∈ spanP es fr cap up, e.1.size < 1000 ∧ ∃ y ∈ tb.rows, rowBy tb (backP e.1) = some y ∧ e = (idxP y tb.ix.toNat tb.pk, ⟨#[]⟩) := fun e he => by
  obtain ⟨y, hy, rfl⟩ := (hi.2 e).1 (span_sub he)
  have ok' := ok
  unfold TbOk at ok'
  have hv := (ok'.2.2.2.2.2.2.1 y hy).2
  have s1 := codeV_size (getD_ok hv tb.ix.toNat)
  have s2 := codeV_size (getD_ok hv tb.pk)
  refine ⟨?_, y, hy, ?_, rfl⟩
  · show (codeV _ ++ codeV _).size < 1000
    rw [ByteArray.size_append]; omega
  · show rowBy tb (backP (codeV _ ++ codeV _)) = _
    rw [back16 s1 s2]
    exact rowBy_self (pk := tb.pk) ok hy
end Go.Proofs.Qxb6500564aGreat
