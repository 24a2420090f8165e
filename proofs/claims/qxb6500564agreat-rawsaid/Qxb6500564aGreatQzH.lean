/-
  SELECT's end, plain; a value is laid into a row.
-/
import Derived.Test.Qxb6500564aGreatQzG
namespace Go.Proofs.Qxb6500564aGreat
open Go.Den Go.Zip
set_option linter.unusedVariables false
set_option linter.unusedSimpArgs false
variable {w w' u v : World} {i j k n a b b0 q g : Nat} {x nm : ByteArray} {cs : List Cl} {row : List Vl} {T : Smt} {rows hr : List (List Vl)} {val : Vl}

def prO (cs : List Cl) (T : Smt) (hr : List (List Vl)) : List (List Vl) := if T.order = ⟨#[]⟩ then hr else sortP (coI cs T.order).toNat T.desc hr
def prN (T : Smt) (n : Nat) : Nat := if T.hasLim = true ∧ T.lim < (n : Int) then (if T.lim < 0 then 0 else T.lim.toNat) else n
def prC (cs : List Cl) (T : Smt) : List ByteArray := T.list ++ (if T.star then cs.map (·.name) else [])
def prR (cs : List Cl) (ns : List ByteArray) (row : List Vl) : List Vl := ns.map fun n => row.getD (coI cs n).toNat v0
/-- SELECT's rows. -/
def prA (cs : List Cl) (T : Smt) (hr : List (List Vl)) : List (List Vl) := ((prO cs T hr).take (prN T hr.length)).map (prR cs (prC cs T))
theorem prO_len : (prO cs T hr).length = hr.length := by unfold prO; split; rfl; exact sortP_len
theorem prO_mem {r : List Vl} : r ∈ prO cs T hr ↔ r ∈ hr := by unfold prO; split; exact Iff.rfl; exact sortP_mem
theorem prN_le (T : Smt) (n : Nat) : prN T n ≤ n := by
  unfold prN
  split
  · split
    · omega
    · omega
  · exact Nat.le_refl _
theorem rowC_set (h : i < row.length) : rowC (row.set i val) = rowC (row.take i) ++ (valC val ++ rowC (row.drop (i + 1))) := by
  rw [List.set_eq_take_append_cons_drop, if_pos h]
  unfold rowC
  rw [List.flatMap_append, List.flatMap_cons]
theorem rowC_cut (h : i < row.length) : rowC row = rowC (row.take i) ++ (valC (row.getD i v0) ++ rowC (row.drop (i + 1))) := by
  have e : row.set i (row.getD i v0) = row := by
    rw [List.getD_eq_getElem?_getD, List.getElem?_eq_getElem h]
    exact List.set_getElem_self h
  rw [← rowC_set h, e]
/-- A value is laid into a row's block. -/
theorem layV {junk : List Value} {K : World → Prop} (h : Blk w q (rowC row ++ junk)) (hi : i < row.length) (hk : ∀ w', Blk w' q (rowC (row.set i val) ++ junk) → Fr q 1 w w' → K w') :
    St1 w ⟨q, 0 + Int.toNat (i : Int) * 3, none⟩ (.bool val.st) fun w => St1 w ⟨q, 0 + Int.toNat (i : Int) * 3 + 1, none⟩ (.int .i64 val.i) fun w => St1 w ⟨q, 0 + Int.toNat (i : Int) * 3 + 2, none⟩ (.string val.s) fun w => K w := by
  have hA : (rowC (row.take i)).length = i * 3 := by rw [rowC_len, List.length_take, Nat.min_eq_left (by omega)]
  have e0 : 0 + Int.toNat (i : Int) * 3 = (rowC (row.take i)).length := by rw [Int.toNat_natCast, Nat.zero_add, hA]
  rw [e0]
  rw [rowC_cut hi, List.append_assoc] at h
  have hl : ∀ z : List Value, z.length = 3 → (rowC (row.take i) ++ (z ++ rowC (row.drop (i + 1)) ++ junk)).length ≥ (rowC (row.take i)).length + 3 := fun z hz => by
    rw [List.length_append, List.length_append, List.length_append, hz]; omega
  have st : ∀ (a b c : Value) (k : Nat) (v : Value), k < 3 → (rowC (row.take i) ++ ([a, b, c] ++ rowC (row.drop (i + 1)) ++ junk)).set ((rowC (row.take i)).length + k) v = rowC (row.take i) ++ (([a, b, c].set k v) ++ rowC (row.drop (i + 1)) ++ junk) := fun a b c k v hk => by
    rw [List.set_append_right _ _ (by omega), Nat.add_sub_cancel_left, List.append_assoc, List.set_append_left _ _ (by show k < 3; exact hk), List.append_assoc]
  refine st1 h (by have := hl (valC (row.getD i v0)) rfl; omega) fun w1 h1 f1 _ => ?_
  have h1' := h1
  rw [show (rowC (row.take i)).length = (rowC (row.take i)).length + 0 from rfl, show valC (row.getD i v0) = [.bool (row.getD i v0).st, .int .i64 (row.getD i v0).i, .string (row.getD i v0).s] from rfl, st _ _ _ 0 _ (by omega)] at h1'
  refine st1 h1' (by have := hl [.bool val.st, .int .i64 (row.getD i v0).i, .string (row.getD i v0).s] rfl; simp only [List.set] at *; omega) fun w2 h2 f2 _ => ?_
  simp only [List.set] at h2
  rw [st _ _ _ 1 _ (by omega)] at h2
  refine st1 h2 (by have := hl [.bool val.st, .int .i64 val.i, .string (row.getD i v0).s] rfl; simp only [List.set] at *; omega) fun w3 h3 f3 _ => ?_
  simp only [List.set] at h3
  rw [st _ _ _ 2 _ (by omega)] at h3
  refine hk w3 ?_ ((f1.trans f2).trans f3)
  rw [rowC_set hi, List.append_assoc]
  exact h3
end Go.Proofs.Qxb6500564aGreat
