/-
  The store: Tables.
-/
import Derived.Test.Qxb6500564aGreatTbW
namespace Go.Proofs.Qxb6500564aGreat
open Go.Den Go.Zip
set_option linter.unusedVariables false
set_option linter.unusedSimpArgs false
variable {w w' u v : World} {i j n t f p : Nat} {D : List Bk} {R : List Wr} {cur cur' : Nat → Bk} {op : Bool} {O : Nat → Prop} {T : Nat → Option Es} {pg : Nat → List Nat} {xs : List Th} {nm : ByteArray}

/-- The parts of the catalog: name and number. -/
def prt1 (x : Th) : List (ByteArray × Nat) := (List.range (x.tb.cols.length + 1)).map fun j => (x.tb.name, j)
def prts (xs : List Th) : List (ByteArray × Nat) := xs.flatMap prt1
theorem colE_keys (name : ByteArray) : ∀ (cs : List Cl) (i : Nat), (colE name i cs).map (·.1) = (List.range' i cs.length).map (catK name)
  | [], _ => rfl
  | c :: r, i => by
    show catK name i :: (colE name (i + 1) r).map (·.1) = _
    rw [colE_keys name r (i + 1), List.length_cons, List.range'_succ, List.map_cons]
theorem catE_keys (x : Th) : (catE x).map (·.1) = (prt1 x).map fun q => catK q.1 q.2 := by
  unfold catE prt1
  rw [List.map_cons, colE_keys, List.map_map, List.range_eq_range', List.range'_succ, List.map_cons]
  rfl
theorem cat_keys : ∀ xs : List Th, (cat xs).map (·.1) = (prts xs).map fun q => catK q.1 q.2
  | [] => rfl
  | x :: r => by
    show (catE x ++ cat r).map _ = (prt1 x ++ prts r).map _
    rw [List.map_append, List.map_append, catE_keys, cat_keys r]
/-- The heads among the parts. -/
def headsOf (l : List (ByteArray × Nat)) : List ByteArray := (l.filter fun q => decide (q.2 = 0)).map (·.1)
theorem heads_prt (x : Th) : headsOf (prt1 x) = [x.tb.name] := by
  unfold headsOf prt1
  rw [List.range_eq_range', List.range'_succ, List.map_cons, List.filter_cons_of_pos (by simp), List.map_cons]
  have : (List.map (fun j => (x.tb.name, j)) (List.range' 1 x.tb.cols.length)).filter (fun q => decide (q.2 = 0)) = [] := by
    rw [List.filter_eq_nil_iff]
    intro q hq
    obtain ⟨j, hj, rfl⟩ := List.mem_map.1 hq
    have := (List.mem_range'_1.1 hj).1
    simp
    omega
  rw [this]
  rfl
theorem heads_all : ∀ xs : List Th, headsOf (prts xs) = xs.map fun x => x.tb.name
  | [] => rfl
  | x :: r => by
    have h1 : headsOf (prts (x :: r)) = headsOf (prt1 x) ++ headsOf (prts r) := by
      show headsOf (prt1 x ++ prts r) = _
      unfold headsOf
      rw [List.filter_append, List.map_append]
    rw [h1, heads_prt, heads_all r]
    rfl
theorem prts_ok (d : DBT T xs) : ∀ q ∈ prts xs, q.1.size ≤ 6 ∧ q.2 < 256 := fun q hq => by
  obtain ⟨x, hx, hq⟩ := List.mem_flatMap.1 hq
  obtain ⟨j, hj, rfl⟩ := List.mem_map.1 hq
  have := d.small x hx
  have := List.mem_range.1 hj
  exact ⟨(d.small x hx).1, by omega⟩
end Go.Proofs.Qxb6500564aGreat
