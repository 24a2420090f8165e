/-
  The machine: what each instruction does.
-/
import Derived.Test.Qxb6500562aGreatVmP
namespace Go.Proofs.Qxb6500562aGreat
open Go.Den Go.Zip
set_option linter.unusedVariables false
variable {c : List Nat} {inp : List Int} {p : Nat} {s : MS}
/-- The two top words give way to one. -/
def marith (op : Nat) (s : MS) : MS :=
  match arith op ((top s).ops.getD ((top s).ops.length - 2) 0) (lastO s) with
  | none => trap 25 (cutO1 1 s)
  | some v => setOps ((top s).ops.take ((top s).ops.length - 2) ++ [v]) s
theorem mop_0 : mop c inp p 0 s = mpush (i64At c (p + 1)) s := by unfold mop; repeat (first | rw [if_pos (by decide)] | rw [if_neg (by decide)])
theorem mop_1 : mop c inp p 1 s = cutO1 1 s := by unfold mop; repeat (first | rw [if_pos (by decide)] | rw [if_neg (by decide)])
theorem mop_2 : mop c inp p 2 s = (if (top s).loc.length ≤ c.getD (p + 1) 0 then trap 24 s else mpush ((top s).loc.getD (c.getD (p + 1) 0) 0) s) := by unfold mop; repeat (first | rw [if_pos (by decide)] | rw [if_neg (by decide)])
theorem mop_3 : mop c inp p 3 s = (if (top s).loc.length ≤ c.getD (p + 1) 0 then trap 24 s else setTop { top s with loc := (top s).loc.set (c.getD (p + 1) 0) (lastO s), ops := (top s).ops.take ((top s).ops.length - 1) } s) := by unfold mop; repeat (first | rw [if_pos (by decide)] | rw [if_neg (by decide)])
theorem mop_4 : mop c inp p 4 s = (if (top s).lr ≤ c.getD (p + 1) 0 then trap 24 s else did (hDup s.H (((top s).rb + c.getD (p + 1) 0 : Nat) : Int)).1 { s with H := (hDup s.H (((top s).rb + c.getD (p + 1) 0 : Nat) : Int)).2 }) := by unfold mop; repeat (first | rw [if_pos (by decide)] | rw [if_neg (by decide)])
theorem mop_5 : mop c inp p 5 s = (if (top s).lr ≤ c.getD (p + 1) 0 then trap 24 s else { s with H := (hSet s.H (((top s).rb + c.getD (p + 1) 0 : Nat) : Int)).2 }) := by unfold mop; repeat (first | rw [if_pos (by decide)] | rw [if_neg (by decide)])
theorem mop_6 : mop c inp p 6 s = { s with H := (hPop s.H 1).2 } := by unfold mop; repeat (first | rw [if_pos (by decide)] | rw [if_neg (by decide)])
theorem mop_7 : mop c inp p 7 s = did (hPush s.H).1 { s with H := (hPush s.H).2 } := by unfold mop; repeat (first | rw [if_pos (by decide)] | rw [if_neg (by decide)])
theorem mop_8 : mop c inp p 8 s = marith 8 s := by unfold mop; repeat (first | rw [if_pos (by decide)] | rw [if_neg (by decide)]); rfl
theorem mop_9 : mop c inp p 9 s = marith 9 s := by unfold mop; repeat (first | rw [if_pos (by decide)] | rw [if_neg (by decide)]); rfl
theorem mop_10 : mop c inp p 10 s = marith 10 s := by unfold mop; repeat (first | rw [if_pos (by decide)] | rw [if_neg (by decide)]); rfl
theorem mop_11 : mop c inp p 11 s = marith 11 s := by unfold mop; repeat (first | rw [if_pos (by decide)] | rw [if_neg (by decide)]); rfl
theorem mop_12 : mop c inp p 12 s = marith 12 s := by unfold mop; repeat (first | rw [if_pos (by decide)] | rw [if_neg (by decide)]); rfl
theorem mop_13 : mop c inp p 13 s = setOps ((top s).ops.take ((top s).ops.length - 1) ++ [W (0 - lastO s)]) s := by unfold mop; repeat (first | rw [if_pos (by decide)] | rw [if_neg (by decide)])
theorem mop_14 : mop c inp p 14 s = setOps ((top s).ops.take ((top s).ops.length - 1) ++ [b01 (lastO s = 0)]) s := by unfold mop; repeat (first | rw [if_pos (by decide)] | rw [if_neg (by decide)])
theorem mop_15 : mop c inp p 15 s = marith 15 s := by unfold mop; repeat (first | rw [if_pos (by decide)] | rw [if_neg (by decide)]); rfl
theorem mop_16 : mop c inp p 16 s = marith 16 s := by unfold mop; repeat (first | rw [if_pos (by decide)] | rw [if_neg (by decide)]); rfl
theorem mop_17 : mop c inp p 17 s = marith 17 s := by unfold mop; repeat (first | rw [if_pos (by decide)] | rw [if_neg (by decide)]); rfl
theorem mop_18 : mop c inp p 18 s = marith 18 s := by unfold mop; repeat (first | rw [if_pos (by decide)] | rw [if_neg (by decide)]); rfl
theorem mop_19 : mop c inp p 19 s = marith 19 s := by unfold mop; repeat (first | rw [if_pos (by decide)] | rw [if_neg (by decide)]); rfl
theorem mop_20 : mop c inp p 20 s = marith 20 s := by unfold mop; repeat (first | rw [if_pos (by decide)] | rw [if_neg (by decide)]); rfl
theorem mop_21 : mop c inp p 21 s = mjump c p (u16At c (p + 1)) s := by unfold mop; repeat (first | rw [if_pos (by decide)] | rw [if_neg (by decide)])
theorem mop_22 : mop c inp p 22 s = (if lastO s = 0 then mjump c p (u16At c (p + 1)) (cutO1 1 s) else cutO1 1 s) := by unfold mop; repeat (first | rw [if_pos (by decide)] | rw [if_neg (by decide)])
theorem mop_23 : mop c inp p 23 s = (if lastO s ≠ 0 then mjump c p (u16At c (p + 1)) (cutO1 1 s) else cutO1 1 s) := by unfold mop; repeat (first | rw [if_pos (by decide)] | rw [if_neg (by decide)])
theorem mop_24 : mop c inp p 24 s = menter c (u16At c (p + 1)) (p + 3) s := by unfold mop; repeat (first | rw [if_pos (by decide)] | rw [if_neg (by decide)])
theorem mop_25 : mop c inp p 25 s = trap 24 s := by unfold mop; repeat (first | rw [if_pos (by decide)] | rw [if_neg (by decide)])
theorem mop_26 : mop c inp p 26 s = mretI s := by unfold mop; repeat (first | rw [if_pos (by decide)] | rw [if_neg (by decide)])
theorem mop_27 : mop c inp p 27 s = mretR s := by unfold mop; repeat (first | rw [if_pos (by decide)] | rw [if_neg (by decide)])
theorem mop_28 : mop c inp p 28 s = did (hAlloc s.H 0 (lastO s)).1 (cutO1 1 { s with H := (hAlloc s.H 0 (lastO s)).2 }) := by unfold mop; repeat (first | rw [if_pos (by decide)] | rw [if_neg (by decide)])
theorem mop_29 : mop c inp p 29 s = did (hAlloc s.H (lastO s) 0).1 (cutO1 1 { s with H := (hAlloc s.H (lastO s) 0).2 }) := by unfold mop; repeat (first | rw [if_pos (by decide)] | rw [if_neg (by decide)])
theorem mop_30 : mop c inp p 30 s = (if (hLoadI s.H ((s.H.roots.length : Int) - 1) (lastO s)).2 ≠ 0 then trap (endOf (hLoadI s.H ((s.H.roots.length : Int) - 1) (lastO s)).2) s
     else setOps ((top s).ops.take ((top s).ops.length - 1) ++ [(hLoadI s.H ((s.H.roots.length : Int) - 1) (lastO s)).1]) { s with H := (hPop s.H 1).2 }) := by unfold mop; repeat (first | rw [if_pos (by decide)] | rw [if_neg (by decide)])
theorem mop_31 : mop c inp p 31 s = did (hLoadR s.H ((s.H.roots.length : Int) - 1) (lastO s) ((s.H.roots.length : Int) - 1)).1 (cutO1 1 { s with H := (hLoadR s.H ((s.H.roots.length : Int) - 1) (lastO s) ((s.H.roots.length : Int) - 1)).2 }) := by unfold mop; repeat (first | rw [if_pos (by decide)] | rw [if_neg (by decide)])
theorem mop_32 : mop c inp p 32 s = (if (hStoreI s.H ((s.H.roots.length : Int) - 1) ((top s).ops.getD ((top s).ops.length - 2) 0) (lastO s)).1 ≠ 0 then trap (endOf (hStoreI s.H ((s.H.roots.length : Int) - 1) ((top s).ops.getD ((top s).ops.length - 2) 0) (lastO s)).1) (cutO1 2 s)
     else cutO1 2 { s with H := (hPop (hStoreI s.H ((s.H.roots.length : Int) - 1) ((top s).ops.getD ((top s).ops.length - 2) 0) (lastO s)).2 1).2 }) := by unfold mop; repeat (first | rw [if_pos (by decide)] | rw [if_neg (by decide)])
theorem mop_33 : mop c inp p 33 s = (if (hStoreR s.H ((s.H.roots.length : Int) - 1 - 1) (lastO s) ((s.H.roots.length : Int) - 1)).1 ≠ 0 then trap (endOf (hStoreR s.H ((s.H.roots.length : Int) - 1 - 1) (lastO s) ((s.H.roots.length : Int) - 1)).1) (cutO1 1 s)
     else cutO1 1 { s with H := (hPop (hStoreR s.H ((s.H.roots.length : Int) - 1 - 1) (lastO s) ((s.H.roots.length : Int) - 1)).2 2).2 }) := by unfold mop; repeat (first | rw [if_pos (by decide)] | rw [if_neg (by decide)])
theorem mop_34 : mop c inp p 34 s = (if (hLen s.H ((s.H.roots.length : Int) - 1)).2.2 ≠ 0 then trap (endOf (hLen s.H ((s.H.roots.length : Int) - 1)).2.2) s
     else mpush (W ((hLen s.H ((s.H.roots.length : Int) - 1)).1 + (hLen s.H ((s.H.roots.length : Int) - 1)).2.1)) { s with H := (hPop s.H 1).2 }) := by unfold mop; repeat (first | rw [if_pos (by decide)] | rw [if_neg (by decide)])
theorem mop_35 : mop c inp p 35 s = (if 1024 ≤ s.out.length then trap 33 (cutO1 1 s) else cutO1 1 { s with out := s.out ++ [lastO s] }) := by unfold mop; repeat (first | rw [if_pos (by decide)] | rw [if_neg (by decide)])
theorem mop_36 : mop c inp p 36 s = (if inp.length ≤ s.ip then trap 30 s else { mpush (inp.getD s.ip 0) s with ip := s.ip + 1 }) := by unfold mop; repeat (first | rw [if_pos (by decide)] | rw [if_neg (by decide)])
end Go.Proofs.Qxb6500562aGreat
