/-
  The base of the texts that gen.py prints: small combinators, the call tables.
-/
import Derived.Test.Qxb6500564aGreatSound
import Derived.Test.Qxb6500564aGreatProg
namespace Go.Den
def Let {α : Type} (x : α) (K : α → Prop) : Prop := K x
def Drew (w : World) (K : World → Prop) : Prop := K w.drew
def Join {α : Type} (k : α) (body : α → Prop) : Prop := body k
def New (w : World) (o : Obj) (K : Nat → World → Prop) : Prop := K w.heap.size (w.alloc o)
def CallT.nil : CallT := fun _ _ _ _ => False
def CallT.cons (n : Nat) (c : List Value → World → (Value → World → Prop) → Prop) (C : CallT) : CallT := fun f vs w K => bif Nat.beq f n then c vs w K else C f vs w K
theorem CallOk.nil {P : Program} : CallOk P CallT.nil := fun _ _ _ _ h => h.elim
theorem CallOk.cons {P : Program} (n : Nat) {c : List Value → World → (Value → World → Prop) → Prop} {C : CallT}
    (hc : ∀ vs w K, c vs w K → (callFunc n vs.toArray).run P w = .ok (.enter n vs.toArray) w ∧ Calls P n vs.toArray w fun e w' => ∃ v, e = .returned v ∧ K v w') (hC : CallOk P C) : CallOk P (CallT.cons n c C) := by
  intro f vs w K h
  unfold CallT.cons at h
  cases hb : Nat.beq f n with
  | true =>
    rw [hb, cond_true] at h
    have := Nat.eq_of_beq_eq_true hb
    subst this
    exact hc vs w K h
  | false => rw [hb, cond_false] at h; exact hC f vs w K h
theorem ok_of {P : Program} {C : CallT} {A : Ann} {f : FuncId} {fn : Func} {args : List Value} {w : World} {K0 : Value → World → Prop} {X : Prop} (hC : CallOk P C) (hm : P.follows .mixedOrders = true)
    (hf : P.funcs[f]? = some fn) (he : denF P C A fn args w K0 = X) (h : X) {R : Ending → World → Prop} (hR : ∀ v w', K0 v w' → R (.returned v) w') : Calls P f args.toArray w R := by
  rw [← he] at h
  refine (calls_of_den hC hm hf h).mono ?_
  rintro e w' ⟨v, rfl, hk⟩
  exact hR v w' hk
/-- The block of zeros. -/
def blk0 : ByteArray := ⟨(List.replicate 128 (0 : UInt8)).toArray⟩
end Go.Den
namespace Go.Proofs.Qxb6500564aGreat
theorem mixed : Tryz.prog.follows .mixedOrders = true := by kernel_rfl
end Go.Proofs.Qxb6500564aGreat
