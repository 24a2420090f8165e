/-
  No cell of these rows narrows 'for every input' (looked for: loops, veiled, ifaces, maps, wideKeys, modest, calm, conditions, laid).
  DERIVED. THE GIVEN ROWS OF THIS SEAT. 2 by the template 'for every input the law returns true; each argument reads behind the call as it read before'; 0 by the template 'total and deterministic' (their statements: Qxb6500564aGreatTotals.lean).
  GIVEN WITH THE SEED: the statements are not yours to turn. If you find one false, say at which input.
  Laid BY PROGRAM, IN A SANDBOX (cutbox-rows.mjs): the forced cells as the released guide's own fill.sh prints them over the translation d4a63967c5b833c5… (all of the seat's roots in one cut). By AI agents, Wed Nov 11 2026. No macro, syntax, notation, axiom, sorry.
-/
import Derived.Test.Qxb6500564aGreatChecked
import GoSem.Claim
import GoSem.ClaimJoined
import GoSem.ClaimMapViews
import Derived.JoinedTies
import Derived.KernelRfl
namespace Go.Proofs.Qxb6500564aGreat
/- THE CELL 'sum', in the pinned program and in every row, IS THE sha256 OF THE DUMP (.gsa) THAT Qxb6500564aGreatProg.lean LOADS. Nothing in Lean hashes anything: it is a label: what it is worth is what the hold of that sum in a sandbox is worth. -/
noncomputable def Tryz.pinned : Pinned := { name := "qxb6500564agreat", sum := "d4a63967c5b833c56579cc99c52f79f60b95b831ce71216b033d42ab651bd8c8", checked := Tryz.checked }
namespace Rows
def none {H : Type} : Left H := { results := [], args := [] }

/-- 'towerexact.Raw': WHATEVER THE INPUT: true; the input reads as it did. -/
def rawSpec : ChangeSpec := { name := "raw", fn := fun _ => fun
  | [d1, d2, d3] => { results := [.lit (.bool true)], args := [d1, d2, d3] }
  | _ => none }
def rawRow : OpenClaim := { program := "qxb6500564agreat", sum := "d4a63967c5b833c56579cc99c52f79f60b95b831ce71216b033d42ab651bd8c8", func := "e2e/towerexact.Raw", spec := "raw", recurses := true, apart := false }
def RawSaid : Prop := rawRow.holds Tryz.pinned (OpenSpec.ofChange rawSpec)

/-- ITS FALSE NEIGHBOUR: 'it returns false'. Refute it at one input. -/
def rawWrong : ChangeSpec := { name := "raw", fn := fun _ => fun
  | [d1, d2, d3] => { results := [.lit (.bool false)], args := [d1, d2, d3] }
  | _ => none }
def RawWrongFalsely : Prop := rawRow.holds Tryz.pinned (OpenSpec.ofChange rawWrong)

/-- 'towerexact.Exact': WHATEVER THE INPUT: true; the input reads as it did. -/
def exactSpec : ChangeSpec := { name := "exact", fn := fun _ => fun
  | [d] => { results := [.lit (.bool true)], args := [d] }
  | _ => none }
def exactRow : OpenClaim := { program := "qxb6500564agreat", sum := "d4a63967c5b833c56579cc99c52f79f60b95b831ce71216b033d42ab651bd8c8", func := "e2e/towerexact.Exact", spec := "exact", recurses := true, apart := false }
def ExactSaid : Prop := exactRow.holds Tryz.pinned (OpenSpec.ofChange exactSpec)

/-- ITS FALSE NEIGHBOUR: 'it returns false'. Refute it at one input. -/
def exactWrong : ChangeSpec := { name := "exact", fn := fun _ => fun
  | [d] => { results := [.lit (.bool false)], args := [d] }
  | _ => none }
def ExactWrongFalsely : Prop := exactRow.holds Tryz.pinned (OpenSpec.ofChange exactWrong)

end Rows
end Go.Proofs.Qxb6500564aGreat
