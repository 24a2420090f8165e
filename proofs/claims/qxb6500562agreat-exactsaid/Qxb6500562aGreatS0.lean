/-
  MADE BY PROGRAM (my own gen2.py) out of the translation: the Go functions as typed texts, each tied to the model by the kernel.
-/
import Derived.Test.Qxb6500562aGreatBase
set_option linter.unusedVariables false
namespace Go.Proofs.Qxb6500562aGreat
open Go.Den

/-- e2e/towerexact.pick (function 5). -/
def S.towerexact_pick (c : Int) (n : Int) (w : World) (K : Int → World → Prop) : Prop :=
  Join (fun (c_1 : Int) (w : World) =>
    NonZ n <|
    K (Int.tmod c_1 n) w) fun J2 =>
  if (decide (c < 0)) = true then
    Let (W (0 - (W (c + 1)))) fun c_3 =>
    J2 c_3 w
  else
    J2 c w
def T.C5 : CallT := CallT.nil
def T.A5 : Ann := fun _ => none
set_option maxRecDepth 1000000 in
theorem T.eq5 (c : Int) (n : Int) (w : World) (K : Int → World → Prop) : denF Tryz.prog T.C5 T.A5 Tryz.f5 [.int .i64 c, .int .i64 n] w (fun v w' => match v with | .int .i64 r0 => K r0 w' | _ => False) = S.towerexact_pick c n w K := by kernel_rfl
theorem T.CO5 : CallOk Tryz.prog T.C5 := CallOk.nil
def T.c5 (vs : List Value) (w : World) (K : Value → World → Prop) : Prop :=
  match vs with
  | [.int .i64 c, .int .i64 n] => S.towerexact_pick c n w (fun r0 w' => K (.int .i64 r0) w')
  | _ => False
theorem T.ok5 : ∀ vs w K, T.c5 vs w K → (callFunc 5 vs.toArray).run Tryz.prog w = .ok (.enter 5 vs.toArray) w ∧ Calls Tryz.prog 5 vs.toArray w fun e w' => ∃ v, e = .returned v ∧ K v w' := by
  intro vs w K h
  unfold T.c5 at h
  split at h
  · refine ⟨Tryz.call5 _ _, ok_of T.CO5 mixed Tryz.func5 (T.eq5 _ _ _ _) h fun v w' hk => ⟨v, rfl, ?_⟩⟩
    split at hk
    · exact hk
    · exact hk.elim
  · exact h.elim

/-- e2e/lex.New (function 17). -/
def S.lex_New (w : World) (K : Nat → World → Prop) : Prop :=
  MkS 196 [.int .i64 0, .int .i64 0, .int .i64 0, .string ⟨#[]⟩] 40 w 4 4 fun l1 w =>
  New w (.cells #[.slice l1.a l1.l l1.c, .int .i64 0, .int .i64 0, .int .i64 0, .int .u8 0, .int .i64 0, .int .i64 0, .int .i64 0] 83) fun p2 w =>
  K p2 w
def T.C17 : CallT := CallT.nil
def T.A17 : Ann := fun _ => none
set_option maxRecDepth 1000000 in
theorem T.eq17 (w : World) (K : Nat → World → Prop) : denF Tryz.prog T.C17 T.A17 Tryz.f17 [] w (fun v w' => match v with | .pointer (some ⟨r0, 0, none⟩) => K r0 w' | _ => False) = S.lex_New w K := by kernel_rfl
theorem T.CO17 : CallOk Tryz.prog T.C17 := CallOk.nil
def T.c17 (vs : List Value) (w : World) (K : Value → World → Prop) : Prop :=
  match vs with
  | [] => S.lex_New w (fun r0 w' => K (.pointer (some ⟨r0, 0, none⟩)) w')
  | _ => False
theorem T.ok17 : ∀ vs w K, T.c17 vs w K → (callFunc 17 vs.toArray).run Tryz.prog w = .ok (.enter 17 vs.toArray) w ∧ Calls Tryz.prog 17 vs.toArray w fun e w' => ∃ v, e = .returned v ∧ K v w' := by
  intro vs w K h
  unfold T.c17 at h
  split at h
  · refine ⟨Tryz.call17 _ _, ok_of T.CO17 mixed Tryz.func17 (T.eq17 _ _) h fun v w' hk => ⟨v, rfl, ?_⟩⟩
    split at hk
    · exact hk
    · exact hk.elim
  · exact h.elim

/-- e2e/parse.New (function 18). -/
def S.parse_New (lx : Nat) (w : World) (K : Nat → World → Prop) : Prop :=
  MkS 150 [.int .i64 0, .int .i64 0, .int .i64 0, .int .i64 0, .int .i64 0, .int .i64 0, .int .i64 0, .string ⟨#[]⟩] 72 w 200 200 fun l1 w =>
  New w (.cells #[.pointer (some ⟨lx, 0, none⟩), .slice none 0 0, .int .i64 0, .slice l1.a l1.l l1.c, .int .i64 0, .bool false, .int .i64 0, .int .i64 0] 86) fun p2 w =>
  K p2 w
def T.C18 : CallT := CallT.nil
def T.A18 : Ann := fun _ => none
set_option maxRecDepth 1000000 in
theorem T.eq18 (lx : Nat) (w : World) (K : Nat → World → Prop) : denF Tryz.prog T.C18 T.A18 Tryz.f18 [.pointer (some ⟨lx, 0, none⟩)] w (fun v w' => match v with | .pointer (some ⟨r0, 0, none⟩) => K r0 w' | _ => False) = S.parse_New lx w K := by kernel_rfl
theorem T.CO18 : CallOk Tryz.prog T.C18 := CallOk.nil
def T.c18 (vs : List Value) (w : World) (K : Value → World → Prop) : Prop :=
  match vs with
  | [.pointer (some ⟨lx, 0, none⟩)] => S.parse_New lx w (fun r0 w' => K (.pointer (some ⟨r0, 0, none⟩)) w')
  | _ => False
theorem T.ok18 : ∀ vs w K, T.c18 vs w K → (callFunc 18 vs.toArray).run Tryz.prog w = .ok (.enter 18 vs.toArray) w ∧ Calls Tryz.prog 18 vs.toArray w fun e w' => ∃ v, e = .returned v ∧ K v w' := by
  intro vs w K h
  unfold T.c18 at h
  split at h
  · refine ⟨Tryz.call18 _ _, ok_of T.CO18 mixed Tryz.func18 (T.eq18 _ _ _) h fun v w' hk => ⟨v, rfl, ?_⟩⟩
    split at hk
    · exact hk
    · exact hk.elim
  · exact h.elim

/-- (*e2e/check.table).clear (function 48). -/
def S.check_table_clear (t : Nat) (t_o : Nat) (w : World) (K : World → Prop) : Prop :=
  Join (fun (w : World) =>
    St1 w ⟨t, t_o + 160, none⟩ (.int .i64 0) fun w =>
    K w) fun J1 =>
  LoopP (σ := Int × Unit) (fun st2 w next3 =>
    if (decide (st2.1 < 16)) = true then
      IxA 16 st2.1 <|
      St1 w ⟨t, t_o + Int.toNat st2.1 * 1, none⟩ (.int .i64 (-1)) fun w =>
      Let (W (st2.1 + 1)) fun b_4 =>
      next3 (b_4, ()) w
    else
      J1 w) (0, ()) w
def T.C48 : CallT := CallT.nil
def T.A48 : Ann := fun i => bif Nat.beq i 1 then some ([0], [(2, 0)]) else none
set_option maxRecDepth 1000000 in
theorem T.eq48 (t : Nat) (t_o : Nat) (w : World) (K : World → Prop) : denF Tryz.prog T.C48 T.A48 Tryz.f48 [.pointer (some ⟨t, t_o, none⟩)] w (fun v w' => match v with | .tuple ⟨[]⟩ => K w' | _ => False) = S.check_table_clear t t_o w K := by kernel_rfl
theorem T.CO48 : CallOk Tryz.prog T.C48 := CallOk.nil
def T.c48 (vs : List Value) (w : World) (K : Value → World → Prop) : Prop :=
  match vs with
  | [.pointer (some ⟨t, t_o, none⟩)] => S.check_table_clear t t_o w (fun w' => K (.tuple #[]) w')
  | _ => False
theorem T.ok48 : ∀ vs w K, T.c48 vs w K → (callFunc 48 vs.toArray).run Tryz.prog w = .ok (.enter 48 vs.toArray) w ∧ Calls Tryz.prog 48 vs.toArray w fun e w' => ∃ v, e = .returned v ∧ K v w' := by
  intro vs w K h
  unfold T.c48 at h
  split at h
  · refine ⟨Tryz.call48 _ _, ok_of T.CO48 mixed Tryz.func48 (T.eq48 _ _ _ _) h fun v w' hk => ⟨v, rfl, ?_⟩⟩
    split at hk
    · exact hk
    · exact hk.elim
  · exact h.elim

/-- (*e2e/check.Checker).clear (function 35). -/
def S.check_Checker_clear (c : Nat) (w : World) (K : World → Prop) : Prop :=
  S.check_table_clear c 1 w (fun w =>
  S.check_table_clear c 165 w (fun w =>
  St1 w ⟨c, 162, none⟩ (.int .i64 0) fun w =>
  St1 w ⟨c, 163, none⟩ (.int .i64 0) fun w =>
  St1 w ⟨c, 164, none⟩ (.int .i64 0) fun w =>
  St1 w ⟨c, 414, none⟩ (.int .i64 0) fun w =>
  St1 w ⟨c, 418, none⟩ (.int .i64 0) fun w =>
  St1 w ⟨c, 419, none⟩ (.int .i64 0) fun w =>
  K w))
def T.C35 : CallT := (CallT.cons 48 T.c48 CallT.nil)
def T.A35 : Ann := fun _ => none
set_option maxRecDepth 1000000 in
theorem T.eq35 (c : Nat) (w : World) (K : World → Prop) : denF Tryz.prog T.C35 T.A35 Tryz.f35 [.pointer (some ⟨c, 0, none⟩)] w (fun v w' => match v with | .tuple ⟨[]⟩ => K w' | _ => False) = S.check_Checker_clear c w K := by kernel_rfl
theorem T.CO35 : CallOk Tryz.prog T.C35 := (CallOk.cons 48 T.ok48 CallOk.nil)
def T.c35 (vs : List Value) (w : World) (K : Value → World → Prop) : Prop :=
  match vs with
  | [.pointer (some ⟨c, 0, none⟩)] => S.check_Checker_clear c w (fun w' => K (.tuple #[]) w')
  | _ => False
theorem T.ok35 : ∀ vs w K, T.c35 vs w K → (callFunc 35 vs.toArray).run Tryz.prog w = .ok (.enter 35 vs.toArray) w ∧ Calls Tryz.prog 35 vs.toArray w fun e w' => ∃ v, e = .returned v ∧ K v w' := by
  intro vs w K h
  unfold T.c35 at h
  split at h
  · refine ⟨Tryz.call35 _ _, ok_of T.CO35 mixed Tryz.func35 (T.eq35 _ _ _) h fun v w' hk => ⟨v, rfl, ?_⟩⟩
    split at hk
    · exact hk
    · exact hk.elim
  · exact h.elim

/-- e2e/check.New (function 19). -/
def S.check_New (ps : Nat) (w : World) (K : Nat → World → Prop) : Prop :=
  New w (.cells #[.pointer (some ⟨ps, 0, none⟩), .int .i64 0, .int .i64 0, .int .i64 0, .int .i64 0, .int .i64 0, .int .i64 0, .int .i64 0, .int .i64 0, .int .i64 0, .int .i64 0, .int .i64 0, .int .i64 0, .int .i64 0, .int .i64 0, .int .i64 0, .int .i64 0, .string ⟨#[]⟩, .int .i64 0, .int .i64 0, .int .i64 0, .int .i64 0, .int .i64 0, .string ⟨#[]⟩, .int .i64 0, .int .i64 0, .int .i64 0, .int .i64 0, .int .i64 0, .string ⟨#[]⟩, .int .i64 0, .int .i64 0, .int .i64 0, .int .i64 0, .int .i64 0, .string ⟨#[]⟩, .int .i64 0, .int .i64 0, .int .i64 0, .int .i64 0, .int .i64 0, .string ⟨#[]⟩, .int .i64 0, .int .i64 0, .int .i64 0, .int .i64 0, .int .i64 0, .string ⟨#[]⟩, .int .i64 0, .int .i64 0, .int .i64 0, .int .i64 0, .int .i64 0, .string ⟨#[]⟩, .int .i64 0, .int .i64 0, .int .i64 0, .int .i64 0, .int .i64 0, .string ⟨#[]⟩, .int .i64 0, .int .i64 0, .int .i64 0, .int .i64 0, .int .i64 0, .string ⟨#[]⟩, .int .i64 0, .int .i64 0, .int .i64 0, .int .i64 0, .int .i64 0, .string ⟨#[]⟩, .int .i64 0, .int .i64 0, .int .i64 0, .int .i64 0, .int .i64 0, .string ⟨#[]⟩, .int .i64 0, .int .i64 0, .int .i64 0, .int .i64 0, .int .i64 0, .string ⟨#[]⟩, .int .i64 0, .int .i64 0, .int .i64 0, .int .i64 0, .int .i64 0, .string ⟨#[]⟩, .int .i64 0, .int .i64 0, .int .i64 0, .int .i64 0, .int .i64 0, .string ⟨#[]⟩, .int .i64 0, .int .i64 0, .int .i64 0, .int .i64 0, .int .i64 0, .string ⟨#[]⟩, .int .i64 0, .int .i64 0, .int .i64 0, .int .i64 0, .int .i64 0, .string ⟨#[]⟩, .int .i64 0, .int .i64 0, .int .i64 0, .int .i64 0, .int .i64 0, .string ⟨#[]⟩, .int .i64 0, .int .i64 0, .int .i64 0, .int .i64 0, .int .i64 0, .string ⟨#[]⟩, .int .i64 0, .int .i64 0, .int .i64 0, .int .i64 0, .int .i64 0, .string ⟨#[]⟩, .int .i64 0, .int .i64 0, .int .i64 0, .int .i64 0, .int .i64 0, .string ⟨#[]⟩, .int .i64 0, .int .i64 0, .int .i64 0, .int .i64 0, .int .i64 0, .string ⟨#[]⟩, .int .i64 0, .int .i64 0, .int .i64 0, .int .i64 0, .int .i64 0, .string ⟨#[]⟩, .int .i64 0, .int .i64 0, .int .i64 0, .int .i64 0, .int .i64 0, .string ⟨#[]⟩, .int .i64 0, .int .i64 0, .int .i64 0, .int .i64 0, .int .i64 0, .string ⟨#[]⟩, .int .i64 0, .int .i64 0, .int .i64 0, .int .i64 0, .int .i64 0, .int .i64 0, .int .i64 0, .int .i64 0, .int .i64 0, .int .i64 0, .int .i64 0, .int .i64 0, .int .i64 0, .int .i64 0, .int .i64 0, .int .i64 0, .int .i64 0, .int .i64 0, .int .i64 0, .int .i64 0, .int .i64 0, .int .i64 0, .int .i64 0, .int .i64 0, .int .i64 0, .string ⟨#[]⟩, .int .i64 0, .int .i64 0, .int .i64 0, .int .i64 0, .int .i64 0, .string ⟨#[]⟩, .int .i64 0, .int .i64 0, .int .i64 0, .int .i64 0, .int .i64 0, .string ⟨#[]⟩, .int .i64 0, .int .i64 0, .int .i64 0, .int .i64 0, .int .i64 0, .string ⟨#[]⟩, .int .i64 0, .int .i64 0, .int .i64 0, .int .i64 0, .int .i64 0, .string ⟨#[]⟩, .int .i64 0, .int .i64 0, .int .i64 0, .int .i64 0, .int .i64 0, .string ⟨#[]⟩, .int .i64 0, .int .i64 0, .int .i64 0, .int .i64 0, .int .i64 0, .string ⟨#[]⟩, .int .i64 0, .int .i64 0, .int .i64 0, .int .i64 0, .int .i64 0, .string ⟨#[]⟩, .int .i64 0, .int .i64 0, .int .i64 0, .int .i64 0, .int .i64 0, .string ⟨#[]⟩, .int .i64 0, .int .i64 0, .int .i64 0, .int .i64 0, .int .i64 0, .string ⟨#[]⟩, .int .i64 0, .int .i64 0, .int .i64 0, .int .i64 0, .int .i64 0, .string ⟨#[]⟩, .int .i64 0, .int .i64 0, .int .i64 0, .int .i64 0, .int .i64 0, .string ⟨#[]⟩, .int .i64 0, .int .i64 0, .int .i64 0, .int .i64 0, .int .i64 0, .string ⟨#[]⟩, .int .i64 0, .int .i64 0, .int .i64 0, .int .i64 0, .int .i64 0, .string ⟨#[]⟩, .int .i64 0, .int .i64 0, .int .i64 0, .int .i64 0, .int .i64 0, .string ⟨#[]⟩, .int .i64 0, .int .i64 0, .int .i64 0, .int .i64 0, .int .i64 0, .string ⟨#[]⟩, .int .i64 0, .int .i64 0, .int .i64 0, .int .i64 0, .int .i64 0, .string ⟨#[]⟩, .int .i64 0, .int .i64 0, .int .i64 0, .int .i64 0, .int .i64 0, .string ⟨#[]⟩, .int .i64 0, .int .i64 0, .int .i64 0, .int .i64 0, .int .i64 0, .string ⟨#[]⟩, .int .i64 0, .int .i64 0, .int .i64 0, .int .i64 0, .int .i64 0, .string ⟨#[]⟩, .int .i64 0, .int .i64 0, .int .i64 0, .int .i64 0, .int .i64 0, .string ⟨#[]⟩, .int .i64 0, .int .i64 0, .int .i64 0, .int .i64 0, .int .i64 0, .string ⟨#[]⟩, .int .i64 0, .int .i64 0, .int .i64 0, .int .i64 0, .int .i64 0, .string ⟨#[]⟩, .int .i64 0, .int .i64 0, .int .i64 0, .int .i64 0, .int .i64 0, .string ⟨#[]⟩, .int .i64 0, .int .i64 0, .int .i64 0, .int .i64 0, .int .i64 0, .int .i64 0, .int .i64 0, .int .i64 0, .int .i64 0, .int .i64 0, .int .i64 0, .int .i64 0, .string ⟨#[]⟩, .int .i64 0, .int .i64 0, .int .i64 0, .int .i64 0, .int .i64 0, .int .i64 0, .string ⟨#[]⟩, .int .i64 0, .int .i64 0, .int .i64 0, .int .i64 0, .int .i64 0, .int .i64 0, .string ⟨#[]⟩, .int .i64 0, .int .i64 0, .int .i64 0, .int .i64 0, .int .i64 0, .int .i64 0, .string ⟨#[]⟩, .int .i64 0, .int .i64 0, .int .i64 0, .int .i64 0, .int .i64 0, .int .i64 0, .string ⟨#[]⟩, .int .i64 0, .int .i64 0, .int .i64 0, .int .i64 0, .int .i64 0, .int .i64 0, .string ⟨#[]⟩, .int .i64 0, .int .i64 0, .int .i64 0, .int .i64 0, .int .i64 0, .int .i64 0, .string ⟨#[]⟩, .int .i64 0, .int .i64 0, .int .i64 0, .int .i64 0, .int .i64 0, .int .i64 0, .string ⟨#[]⟩, .int .i64 0, .int .i64 0, .int .i64 0, .int .i64 0, .int .i64 0, .int .i64 0, .int .i64 0, .int .i64 0, .int .i64 0, .int .i64 0, .int .i64 0, .int .i64 0, .int .i64 0, .int .i64 0, .int .i64 0, .int .i64 0, .int .i64 0, .int .i64 0, .int .i64 0, .int .i64 0, .int .i64 0, .int .i64 0, .int .i64 0, .int .i64 0, .int .i64 0, .int .i64 0, .int .i64 0, .int .i64 0, .int .i64 0, .int .i64 0, .int .i64 0, .int .i64 0, .int .i64 0, .slice none 0 0, .slice none 0 0, .slice none 0 0, .int .i64 0, .int .i64 0] 98) fun p1 w =>
  S.check_Checker_clear p1 w (fun w =>
  K p1 w)
def T.C19 : CallT := (CallT.cons 35 T.c35 CallT.nil)
def T.A19 : Ann := fun _ => none
set_option maxRecDepth 1000000 in
theorem T.eq19 (ps : Nat) (w : World) (K : Nat → World → Prop) : denF Tryz.prog T.C19 T.A19 Tryz.f19 [.pointer (some ⟨ps, 0, none⟩)] w (fun v w' => match v with | .pointer (some ⟨r0, 0, none⟩) => K r0 w' | _ => False) = S.check_New ps w K := by kernel_rfl
theorem T.CO19 : CallOk Tryz.prog T.C19 := (CallOk.cons 35 T.ok35 CallOk.nil)
def T.c19 (vs : List Value) (w : World) (K : Value → World → Prop) : Prop :=
  match vs with
  | [.pointer (some ⟨ps, 0, none⟩)] => S.check_New ps w (fun r0 w' => K (.pointer (some ⟨r0, 0, none⟩)) w')
  | _ => False
theorem T.ok19 : ∀ vs w K, T.c19 vs w K → (callFunc 19 vs.toArray).run Tryz.prog w = .ok (.enter 19 vs.toArray) w ∧ Calls Tryz.prog 19 vs.toArray w fun e w' => ∃ v, e = .returned v ∧ K v w' := by
  intro vs w K h
  unfold T.c19 at h
  split at h
  · refine ⟨Tryz.call19 _ _, ok_of T.CO19 mixed Tryz.func19 (T.eq19 _ _ _) h fun v w' hk => ⟨v, rfl, ?_⟩⟩
    split at hk
    · exact hk
    · exact hk.elim
  · exact h.elim

/-- e2e/heap.New (function 29). -/
def S.heap_New (w : World) (K : Nat → World → Prop) : Prop :=
  New w (.cells #[.int .i64 0, .int .i64 0, .int .i64 0, .int .i64 0, .int .i64 0, .int .i64 0, .int .i64 0, .int .i64 0, .int .i64 0, .int .i64 0, .int .i64 0, .int .i64 0, .int .i64 0, .int .i64 0, .int .i64 0, .int .i64 0, .int .i64 0, .int .i64 0, .int .i64 0, .int .i64 0, .int .i64 0, .int .i64 0, .int .i64 0, .int .i64 0, .int .i64 0, .int .i64 0, .int .i64 0, .int .i64 0, .int .i64 0, .int .i64 0, .int .i64 0, .int .i64 0, .int .i64 0, .int .i64 0, .int .i64 0, .int .i64 0, .int .i64 0, .int .i64 0, .int .i64 0, .int .i64 0, .int .i64 0, .int .i64 0, .int .i64 0, .int .i64 0, .int .i64 0, .int .i64 0, .int .i64 0, .int .i64 0, .int .i64 0, .int .i64 0, .int .i64 0, .int .i64 0, .int .i64 0, .int .i64 0, .int .i64 0, .int .i64 0, .int .i64 0, .int .i64 0, .int .i64 0, .int .i64 0, .int .i64 0, .int .i64 0, .int .i64 0, .int .i64 0, .int .i64 0, .int .i64 0, .int .i64 0, .int .i64 0, .int .i64 0, .int .i64 0, .int .i64 0, .int .i64 0, .int .i64 0, .int .i64 0, .int .i64 0, .int .i64 0, .int .i64 0, .int .i64 0, .int .i64 0, .int .i64 0, .int .i64 0, .int .i64 0, .int .i64 0, .int .i64 0, .int .i64 0, .int .i64 0, .int .i64 0, .int .i64 0, .int .i64 0, .int .i64 0, .int .i64 0, .int .i64 0, .int .i64 0, .int .i64 0, .int .i64 0, .int .i64 0, .int .i64 0, .int .i64 0, .int .i64 0, .int .i64 0, .int .i64 0, .int .i64 0, .int .i64 0, .int .i64 0, .int .i64 0, .int .i64 0, .int .i64 0, .int .i64 0, .int .i64 0, .int .i64 0, .int .i64 0, .int .i64 0, .int .i64 0, .int .i64 0, .int .i64 0, .int .i64 0, .int .i64 0, .int .i64 0, .int .i64 0, .int .i64 0, .int .i64 0, .int .i64 0, .int .i64 0, .int .i64 0] 126) fun p1 w =>
  LoopP (σ := Int × Unit) (fun st2 w next3 =>
    if (decide (st2.1 < 24)) = true then
      IxA 24 st2.1 <|
      St1 w ⟨p1, 98 + Int.toNat st2.1 * 1, none⟩ (.int .i64 (-1)) fun w =>
      Let (W (st2.1 + 1)) fun i_4 =>
      next3 (i_4, ()) w
    else
      K p1 w) (0, ()) w
def T.C29 : CallT := CallT.nil
def T.A29 : Ann := fun i => bif Nat.beq i 3 then some ([1], [(2, 0)]) else none
set_option maxRecDepth 1000000 in
theorem T.eq29 (w : World) (K : Nat → World → Prop) : denF Tryz.prog T.C29 T.A29 Tryz.f29 [] w (fun v w' => match v with | .pointer (some ⟨r0, 0, none⟩) => K r0 w' | _ => False) = S.heap_New w K := by kernel_rfl
theorem T.CO29 : CallOk Tryz.prog T.C29 := CallOk.nil
def T.c29 (vs : List Value) (w : World) (K : Value → World → Prop) : Prop :=
  match vs with
  | [] => S.heap_New w (fun r0 w' => K (.pointer (some ⟨r0, 0, none⟩)) w')
  | _ => False
theorem T.ok29 : ∀ vs w K, T.c29 vs w K → (callFunc 29 vs.toArray).run Tryz.prog w = .ok (.enter 29 vs.toArray) w ∧ Calls Tryz.prog 29 vs.toArray w fun e w' => ∃ v, e = .returned v ∧ K v w' := by
  intro vs w K h
  unfold T.c29 at h
  split at h
  · refine ⟨Tryz.call29 _ _, ok_of T.CO29 mixed Tryz.func29 (T.eq29 _ _) h fun v w' hk => ⟨v, rfl, ?_⟩⟩
    split at hk
    · exact hk
    · exact hk.elim
  · exact h.elim

/-- e2e/vm.New (function 30). -/
def S.vm_New (h : Nat) (w : World) (K : Nat → World → Prop) : Prop :=
  New w (.cells #[.pointer (some ⟨h, 0, none⟩), .int .i64 0, .int .i64 0, .int .i64 0, .int .i64 0, .int .i64 0, .int .i64 0, .int .i64 0, .int .i64 0, .int .i64 0, .int .i64 0, .int .i64 0, .int .i64 0, .int .i64 0, .int .i64 0, .int .i64 0, .int .i64 0, .int .i64 0, .int .i64 0, .int .i64 0, .int .i64 0, .int .i64 0, .int .i64 0, .int .i64 0, .int .i64 0, .int .i64 0, .int .i64 0, .int .i64 0, .int .i64 0, .int .i64 0, .int .i64 0, .int .i64 0, .int .i64 0, .int .i64 0, .int .i64 0, .int .i64 0, .int .i64 0, .int .i64 0, .int .i64 0, .int .i64 0, .int .i64 0, .int .i64 0, .int .i64 0, .int .i64 0, .int .i64 0, .int .i64 0, .int .i64 0, .int .i64 0, .int .i64 0, .int .i64 0, .int .i64 0, .int .i64 0, .int .i64 0, .int .i64 0, .int .i64 0, .int .i64 0, .slice none 0 0, .slice none 0 0, .int .i64 0, .int .i64 0, .slice none 0 0, .int .i64 0, .int .i64 0, .int .i64 0, .int .i64 0] 129) fun p1 w =>
  K p1 w
def T.C30 : CallT := CallT.nil
def T.A30 : Ann := fun _ => none
set_option maxRecDepth 1000000 in
theorem T.eq30 (h : Nat) (w : World) (K : Nat → World → Prop) : denF Tryz.prog T.C30 T.A30 Tryz.f30 [.pointer (some ⟨h, 0, none⟩)] w (fun v w' => match v with | .pointer (some ⟨r0, 0, none⟩) => K r0 w' | _ => False) = S.vm_New h w K := by kernel_rfl
theorem T.CO30 : CallOk Tryz.prog T.C30 := CallOk.nil
def T.c30 (vs : List Value) (w : World) (K : Value → World → Prop) : Prop :=
  match vs with
  | [.pointer (some ⟨h, 0, none⟩)] => S.vm_New h w (fun r0 w' => K (.pointer (some ⟨r0, 0, none⟩)) w')
  | _ => False
theorem T.ok30 : ∀ vs w K, T.c30 vs w K → (callFunc 30 vs.toArray).run Tryz.prog w = .ok (.enter 30 vs.toArray) w ∧ Calls Tryz.prog 30 vs.toArray w fun e w' => ∃ v, e = .returned v ∧ K v w' := by
  intro vs w K h
  unfold T.c30 at h
  split at h
  · refine ⟨Tryz.call30 _ _, ok_of T.CO30 mixed Tryz.func30 (T.eq30 _ _ _) h fun v w' hk => ⟨v, rfl, ?_⟩⟩
    split at hk
    · exact hk
    · exact hk.elim
  · exact h.elim

/-- e2e/tower.Machine (function 11). -/
def S.tower_Machine (w : World) (K : Nat → World → Prop) : Prop :=
  S.heap_New w (fun r1 w =>
  S.vm_New r1 w (fun r2 w =>
  K r2 w))
def T.C11 : CallT := (CallT.cons 29 T.c29 (CallT.cons 30 T.c30 CallT.nil))
def T.A11 : Ann := fun _ => none
set_option maxRecDepth 1000000 in
theorem T.eq11 (w : World) (K : Nat → World → Prop) : denF Tryz.prog T.C11 T.A11 Tryz.f11 [] w (fun v w' => match v with | .pointer (some ⟨r0, 0, none⟩) => K r0 w' | _ => False) = S.tower_Machine w K := by kernel_rfl
theorem T.CO11 : CallOk Tryz.prog T.C11 := (CallOk.cons 29 T.ok29 (CallOk.cons 30 T.ok30 CallOk.nil))
def T.c11 (vs : List Value) (w : World) (K : Value → World → Prop) : Prop :=
  match vs with
  | [] => S.tower_Machine w (fun r0 w' => K (.pointer (some ⟨r0, 0, none⟩)) w')
  | _ => False
theorem T.ok11 : ∀ vs w K, T.c11 vs w K → (callFunc 11 vs.toArray).run Tryz.prog w = .ok (.enter 11 vs.toArray) w ∧ Calls Tryz.prog 11 vs.toArray w fun e w' => ∃ v, e = .returned v ∧ K v w' := by
  intro vs w K h
  unfold T.c11 at h
  split at h
  · refine ⟨Tryz.call11 _ _, ok_of T.CO11 mixed Tryz.func11 (T.eq11 _ _) h fun v w' hk => ⟨v, rfl, ?_⟩⟩
    split at hk
    · exact hk
    · exact hk.elim
  · exact h.elim

/-- e2e/gen.New (function 20). -/
def S.gen_New (ck : Nat) (m : Nat) (w : World) (K : Nat → World → Prop) : Prop :=
  New w (.cells #[.pointer (some ⟨ck, 0, none⟩), .pointer (some ⟨m, 0, none⟩), .slice none 0 0, .int .i64 0, .int .i64 0, .int .i64 0, .slice none 0 0, .slice none 0 0, .slice none 0 0, .int .i64 0, .int .i64 0, .int .i64 0, .slice none 0 0, .slice none 0 0, .slice none 0 0, .slice none 0 0] 106) fun p1 w =>
  K p1 w
def T.C20 : CallT := CallT.nil
def T.A20 : Ann := fun _ => none
set_option maxRecDepth 1000000 in
theorem T.eq20 (ck : Nat) (m : Nat) (w : World) (K : Nat → World → Prop) : denF Tryz.prog T.C20 T.A20 Tryz.f20 [.pointer (some ⟨ck, 0, none⟩), .pointer (some ⟨m, 0, none⟩)] w (fun v w' => match v with | .pointer (some ⟨r0, 0, none⟩) => K r0 w' | _ => False) = S.gen_New ck m w K := by kernel_rfl
theorem T.CO20 : CallOk Tryz.prog T.C20 := CallOk.nil
def T.c20 (vs : List Value) (w : World) (K : Value → World → Prop) : Prop :=
  match vs with
  | [.pointer (some ⟨ck, 0, none⟩), .pointer (some ⟨m, 0, none⟩)] => S.gen_New ck m w (fun r0 w' => K (.pointer (some ⟨r0, 0, none⟩)) w')
  | _ => False
theorem T.ok20 : ∀ vs w K, T.c20 vs w K → (callFunc 20 vs.toArray).run Tryz.prog w = .ok (.enter 20 vs.toArray) w ∧ Calls Tryz.prog 20 vs.toArray w fun e w' => ∃ v, e = .returned v ∧ K v w' := by
  intro vs w K h
  unfold T.c20 at h
  split at h
  · refine ⟨Tryz.call20 _ _, ok_of T.CO20 mixed Tryz.func20 (T.eq20 _ _ _ _) h fun v w' hk => ⟨v, rfl, ?_⟩⟩
    split at hk
    · exact hk
    · exact hk.elim
  · exact h.elim

/-- e2e/tower.New (function 6). -/
def S.tower_New (w : World) (K : Nat → World → Prop) : Prop :=
  S.lex_New w (fun r1 w =>
  S.parse_New r1 w (fun r2 w =>
  S.check_New r2 w (fun r3 w =>
  S.tower_Machine w (fun r4 w =>
  S.gen_New r3 r4 w (fun r5 w =>
  K r5 w)))))
def T.C6 : CallT := (CallT.cons 17 T.c17 (CallT.cons 18 T.c18 (CallT.cons 19 T.c19 (CallT.cons 11 T.c11 (CallT.cons 20 T.c20 CallT.nil)))))
def T.A6 : Ann := fun _ => none
set_option maxRecDepth 1000000 in
theorem T.eq6 (w : World) (K : Nat → World → Prop) : denF Tryz.prog T.C6 T.A6 Tryz.f6 [] w (fun v w' => match v with | .pointer (some ⟨r0, 0, none⟩) => K r0 w' | _ => False) = S.tower_New w K := by kernel_rfl
theorem T.CO6 : CallOk Tryz.prog T.C6 := (CallOk.cons 17 T.ok17 (CallOk.cons 18 T.ok18 (CallOk.cons 19 T.ok19 (CallOk.cons 11 T.ok11 (CallOk.cons 20 T.ok20 CallOk.nil)))))
def T.c6 (vs : List Value) (w : World) (K : Value → World → Prop) : Prop :=
  match vs with
  | [] => S.tower_New w (fun r0 w' => K (.pointer (some ⟨r0, 0, none⟩)) w')
  | _ => False
theorem T.ok6 : ∀ vs w K, T.c6 vs w K → (callFunc 6 vs.toArray).run Tryz.prog w = .ok (.enter 6 vs.toArray) w ∧ Calls Tryz.prog 6 vs.toArray w fun e w' => ∃ v, e = .returned v ∧ K v w' := by
  intro vs w K h
  unfold T.c6 at h
  split at h
  · refine ⟨Tryz.call6 _ _, ok_of T.CO6 mixed Tryz.func6 (T.eq6 _ _) h fun v w' hk => ⟨v, rfl, ?_⟩⟩
    split at hk
    · exact hk
    · exact hk.elim
  · exact h.elim

/-- e2e/lexm.New (function 49). -/
def S.lexm_New (w : World) (K : Nat → World → Prop) : Prop :=
  New w (.cells #[] 166) fun p1 w =>
  K p1 w
def T.C49 : CallT := CallT.nil
def T.A49 : Ann := fun _ => none
set_option maxRecDepth 1000000 in
theorem T.eq49 (w : World) (K : Nat → World → Prop) : denF Tryz.prog T.C49 T.A49 Tryz.f49 [] w (fun v w' => match v with | .pointer (some ⟨r0, 0, none⟩) => K r0 w' | _ => False) = S.lexm_New w K := by kernel_rfl
theorem T.CO49 : CallOk Tryz.prog T.C49 := CallOk.nil
def T.c49 (vs : List Value) (w : World) (K : Value → World → Prop) : Prop :=
  match vs with
  | [] => S.lexm_New w (fun r0 w' => K (.pointer (some ⟨r0, 0, none⟩)) w')
  | _ => False
theorem T.ok49 : ∀ vs w K, T.c49 vs w K → (callFunc 49 vs.toArray).run Tryz.prog w = .ok (.enter 49 vs.toArray) w ∧ Calls Tryz.prog 49 vs.toArray w fun e w' => ∃ v, e = .returned v ∧ K v w' := by
  intro vs w K h
  unfold T.c49 at h
  split at h
  · refine ⟨Tryz.call49 _ _, ok_of T.CO49 mixed Tryz.func49 (T.eq49 _ _) h fun v w' hk => ⟨v, rfl, ?_⟩⟩
    split at hk
    · exact hk
    · exact hk.elim
  · exact h.elim

/-- e2e/parsem.New (function 36). -/
def S.parsem_New (w : World) (K : Nat → World → Prop) : Prop :=
  S.lexm_New w (fun r1 w =>
  New w (.cells #[.pointer (some ⟨r1, 0, none⟩)] 137) fun p2 w =>
  K p2 w)
def T.C36 : CallT := (CallT.cons 49 T.c49 CallT.nil)
def T.A36 : Ann := fun _ => none
set_option maxRecDepth 1000000 in
theorem T.eq36 (w : World) (K : Nat → World → Prop) : denF Tryz.prog T.C36 T.A36 Tryz.f36 [] w (fun v w' => match v with | .pointer (some ⟨r0, 0, none⟩) => K r0 w' | _ => False) = S.parsem_New w K := by kernel_rfl
theorem T.CO36 : CallOk Tryz.prog T.C36 := (CallOk.cons 49 T.ok49 CallOk.nil)
def T.c36 (vs : List Value) (w : World) (K : Value → World → Prop) : Prop :=
  match vs with
  | [] => S.parsem_New w (fun r0 w' => K (.pointer (some ⟨r0, 0, none⟩)) w')
  | _ => False
theorem T.ok36 : ∀ vs w K, T.c36 vs w K → (callFunc 36 vs.toArray).run Tryz.prog w = .ok (.enter 36 vs.toArray) w ∧ Calls Tryz.prog 36 vs.toArray w fun e w' => ∃ v, e = .returned v ∧ K v w' := by
  intro vs w K h
  unfold T.c36 at h
  split at h
  · refine ⟨Tryz.call36 _ _, ok_of T.CO36 mixed Tryz.func36 (T.eq36 _ _) h fun v w' hk => ⟨v, rfl, ?_⟩⟩
    split at hk
    · exact hk
    · exact hk.elim
  · exact h.elim

/-- e2e/checkm.New (function 21). -/
def S.checkm_New (w : World) (K : Nat → World → Prop) : Prop :=
  S.parsem_New w (fun r1 w =>
  New w (.cells #[.pointer (some ⟨r1, 0, none⟩)] 110) fun p2 w =>
  K p2 w)
def T.C21 : CallT := (CallT.cons 36 T.c36 CallT.nil)
def T.A21 : Ann := fun _ => none
set_option maxRecDepth 1000000 in
theorem T.eq21 (w : World) (K : Nat → World → Prop) : denF Tryz.prog T.C21 T.A21 Tryz.f21 [] w (fun v w' => match v with | .pointer (some ⟨r0, 0, none⟩) => K r0 w' | _ => False) = S.checkm_New w K := by kernel_rfl
theorem T.CO21 : CallOk Tryz.prog T.C21 := (CallOk.cons 36 T.ok36 CallOk.nil)
def T.c21 (vs : List Value) (w : World) (K : Value → World → Prop) : Prop :=
  match vs with
  | [] => S.checkm_New w (fun r0 w' => K (.pointer (some ⟨r0, 0, none⟩)) w')
  | _ => False
theorem T.ok21 : ∀ vs w K, T.c21 vs w K → (callFunc 21 vs.toArray).run Tryz.prog w = .ok (.enter 21 vs.toArray) w ∧ Calls Tryz.prog 21 vs.toArray w fun e w' => ∃ v, e = .returned v ∧ K v w' := by
  intro vs w K h
  unfold T.c21 at h
  split at h
  · refine ⟨Tryz.call21 _ _, ok_of T.CO21 mixed Tryz.func21 (T.eq21 _ _) h fun v w' hk => ⟨v, rfl, ?_⟩⟩
    split at hk
    · exact hk
    · exact hk.elim
  · exact h.elim

/-- e2e/heapm.New (function 22). -/
def S.heapm_New (w : World) (K : Nat → World → Prop) : Prop :=
  New w (.cells #[.slice none 0 0, .slice none 0 0] 113) fun p1 w =>
  K p1 w
def T.C22 : CallT := CallT.nil
def T.A22 : Ann := fun _ => none
set_option maxRecDepth 1000000 in
theorem T.eq22 (w : World) (K : Nat → World → Prop) : denF Tryz.prog T.C22 T.A22 Tryz.f22 [] w (fun v w' => match v with | .pointer (some ⟨r0, 0, none⟩) => K r0 w' | _ => False) = S.heapm_New w K := by kernel_rfl
theorem T.CO22 : CallOk Tryz.prog T.C22 := CallOk.nil
def T.c22 (vs : List Value) (w : World) (K : Value → World → Prop) : Prop :=
  match vs with
  | [] => S.heapm_New w (fun r0 w' => K (.pointer (some ⟨r0, 0, none⟩)) w')
  | _ => False
theorem T.ok22 : ∀ vs w K, T.c22 vs w K → (callFunc 22 vs.toArray).run Tryz.prog w = .ok (.enter 22 vs.toArray) w ∧ Calls Tryz.prog 22 vs.toArray w fun e w' => ∃ v, e = .returned v ∧ K v w' := by
  intro vs w K h
  unfold T.c22 at h
  split at h
  · refine ⟨Tryz.call22 _ _, ok_of T.CO22 mixed Tryz.func22 (T.eq22 _ _) h fun v w' hk => ⟨v, rfl, ?_⟩⟩
    split at hk
    · exact hk
    · exact hk.elim
  · exact h.elim

/-- e2e/genm.New (function 7). -/
def S.genm_New (w : World) (K : Nat → World → Prop) : Prop :=
  S.checkm_New w (fun r1 w =>
  S.heapm_New w (fun r2 w =>
  New w (.cells #[.pointer (some ⟨r1, 0, none⟩), .pointer (some ⟨r2, 0, none⟩)] 57) fun p3 w =>
  K p3 w))
def T.C7 : CallT := (CallT.cons 21 T.c21 (CallT.cons 22 T.c22 CallT.nil))
def T.A7 : Ann := fun _ => none
set_option maxRecDepth 1000000 in
theorem T.eq7 (w : World) (K : Nat → World → Prop) : denF Tryz.prog T.C7 T.A7 Tryz.f7 [] w (fun v w' => match v with | .pointer (some ⟨r0, 0, none⟩) => K r0 w' | _ => False) = S.genm_New w K := by kernel_rfl
theorem T.CO7 : CallOk Tryz.prog T.C7 := (CallOk.cons 21 T.ok21 (CallOk.cons 22 T.ok22 CallOk.nil))
def T.c7 (vs : List Value) (w : World) (K : Value → World → Prop) : Prop :=
  match vs with
  | [] => S.genm_New w (fun r0 w' => K (.pointer (some ⟨r0, 0, none⟩)) w')
  | _ => False
theorem T.ok7 : ∀ vs w K, T.c7 vs w K → (callFunc 7 vs.toArray).run Tryz.prog w = .ok (.enter 7 vs.toArray) w ∧ Calls Tryz.prog 7 vs.toArray w fun e w' => ∃ v, e = .returned v ∧ K v w' := by
  intro vs w K h
  unfold T.c7 at h
  split at h
  · refine ⟨Tryz.call7 _ _, ok_of T.CO7 mixed Tryz.func7 (T.eq7 _ _) h fun v w' hk => ⟨v, rfl, ?_⟩⟩
    split at hk
    · exact hk
    · exact hk.elim
  · exact h.elim

/-- e2e/towerexact.copyInts (function 8). -/
def S.towerexact_copyInts (a : Sl) (w : World) (K : Sl → World → Prop) : Prop :=
  MkS 3 [.int .i64 0] 8 w (a.l : Int) (a.l : Int) fun l1 w =>
  CopyS 1 w l1 a fun n2 w =>
  K l1 w
def T.C8 : CallT := CallT.nil
def T.A8 : Ann := fun _ => none
set_option maxRecDepth 1000000 in
theorem T.eq8 (a : Sl) (w : World) (K : Sl → World → Prop) : denF Tryz.prog T.C8 T.A8 Tryz.f8 [.slice a.a a.l a.c] w (fun v w' => match v with | .slice r0a r0l r0c => K ⟨r0a, r0l, r0c⟩ w' | _ => False) = S.towerexact_copyInts a w K := by kernel_rfl
theorem T.CO8 : CallOk Tryz.prog T.C8 := CallOk.nil
def T.c8 (vs : List Value) (w : World) (K : Value → World → Prop) : Prop :=
  match vs with
  | [.slice aa al ac] => S.towerexact_copyInts ⟨aa, al, ac⟩ w (fun r0 w' => K (.slice r0.a r0.l r0.c) w')
  | _ => False
theorem T.ok8 : ∀ vs w K, T.c8 vs w K → (callFunc 8 vs.toArray).run Tryz.prog w = .ok (.enter 8 vs.toArray) w ∧ Calls Tryz.prog 8 vs.toArray w fun e w' => ∃ v, e = .returned v ∧ K v w' := by
  intro vs w K h
  unfold T.c8 at h
  split at h
  · refine ⟨Tryz.call8 _ _, ok_of T.CO8 mixed Tryz.func8 (T.eq8 _ _ _) h fun v w' hk => ⟨v, rfl, ?_⟩⟩
    split at hk
    · exact hk
    · exact hk.elim
  · exact h.elim

/-- (*e2e/lex.Lexer).push (function 142). -/
def S.lex_Lexer_push (l : Nat) (t_Kind : Int) (t_Pos : Int) (t_Val : Int) (t_Text : ByteArray) (w : World) (K : World → Prop) : Prop :=
  New w (.cells #[.int .i64 t_Kind, .int .i64 t_Pos, .int .i64 t_Val, .string t_Text] 196) fun p1 w =>
  Drew w fun w =>
  LdI .i64 w ⟨l, 1, none⟩ fun used_2 =>
  LdS w ⟨l, 0, none⟩ fun buf_3 =>
  Join (fun (w : World) =>
    Drew w fun w =>
    LdS w ⟨l, 0, none⟩ fun buf_4 =>
    LdI .i64 w ⟨l, 1, none⟩ fun used_5 =>
    LdI .i64 w ⟨p1, 0, none⟩ fun Kind_6 =>
    LdI .i64 w ⟨p1, 1, none⟩ fun Pos_7 =>
    LdI .i64 w ⟨p1, 2, none⟩ fun Val_8 =>
    LdStr w ⟨p1, 3, none⟩ fun Text_9 =>
    Ix buf_4.a buf_4.l used_5 fun b10 o11 =>
    St1 w ⟨b10, o11 + Int.toNat used_5 * 4, none⟩ (.int .i64 Kind_6) fun w =>
    St1 w ⟨b10, o11 + Int.toNat used_5 * 4 + 1, none⟩ (.int .i64 Pos_7) fun w =>
    St1 w ⟨b10, o11 + Int.toNat used_5 * 4 + 2, none⟩ (.int .i64 Val_8) fun w =>
    St1 w ⟨b10, o11 + Int.toNat used_5 * 4 + 3, none⟩ (.string Text_9) fun w =>
    LdI .i64 w ⟨l, 1, none⟩ fun used_12 =>
    St1 w ⟨l, 1, none⟩ (.int .i64 (W (used_12 + 1))) fun w =>
    K w) fun J13 =>
  if (used_2 == (buf_3.l : Int)) = true then
    LdS w ⟨l, 0, none⟩ fun buf_14 =>
    MkS 196 [.int .i64 0, .int .i64 0, .int .i64 0, .string ⟨#[]⟩] 40 w (W (2 * (buf_14.l : Int))) (W (2 * (buf_14.l : Int))) fun l15 w =>
    LdS w ⟨l, 0, none⟩ fun buf_16 =>
    CopyS 4 w l15 buf_16 fun n17 w =>
    St1 w ⟨l, 0, none⟩ (.slice l15.a l15.l l15.c) fun w =>
    J13 w
  else
    J13 w
def T.C142 : CallT := CallT.nil
def T.A142 : Ann := fun _ => none
set_option maxRecDepth 1000000 in
theorem T.eq142 (l : Nat) (t_Kind : Int) (t_Pos : Int) (t_Val : Int) (t_Text : ByteArray) (w : World) (K : World → Prop) : denF Tryz.prog T.C142 T.A142 Tryz.f142 [.pointer (some ⟨l, 0, none⟩), .agg #[.int .i64 t_Kind, .int .i64 t_Pos, .int .i64 t_Val, .string t_Text]] w (fun v w' => match v with | .tuple ⟨[]⟩ => K w' | _ => False) = S.lex_Lexer_push l t_Kind t_Pos t_Val t_Text w K := by kernel_rfl
theorem T.CO142 : CallOk Tryz.prog T.C142 := CallOk.nil
def T.c142 (vs : List Value) (w : World) (K : Value → World → Prop) : Prop :=
  match vs with
  | [.pointer (some ⟨l, 0, none⟩), .agg ⟨[.int .i64 t_Kind, .int .i64 t_Pos, .int .i64 t_Val, .string t_Text]⟩] => S.lex_Lexer_push l t_Kind t_Pos t_Val t_Text w (fun w' => K (.tuple #[]) w')
  | _ => False
theorem T.ok142 : ∀ vs w K, T.c142 vs w K → (callFunc 142 vs.toArray).run Tryz.prog w = .ok (.enter 142 vs.toArray) w ∧ Calls Tryz.prog 142 vs.toArray w fun e w' => ∃ v, e = .returned v ∧ K v w' := by
  intro vs w K h
  unfold T.c142 at h
  split at h
  · refine ⟨Tryz.call142 _ _, ok_of T.CO142 mixed Tryz.func142 (T.eq142 _ _ _ _ _ _ _) h fun v w' hk => ⟨v, rfl, ?_⟩⟩
    split at hk
    · exact hk
    · exact hk.elim
  · exact h.elim

/-- (*e2e/lex.Lexer).answer (function 143). -/
def S.lex_Lexer_answer (l : Nat) (w : World) (K : Sl → World → Prop) : Prop :=
  LdI .i64 w ⟨l, 1, none⟩ fun used_1 =>
  MkS 196 [.int .i64 0, .int .i64 0, .int .i64 0, .string ⟨#[]⟩] 40 w used_1 used_1 fun l2 w =>
  Drew w fun w =>
  LdS w ⟨l, 0, none⟩ fun buf_3 =>
  LdI .i64 w ⟨l, 1, none⟩ fun used_4 =>
  CutS 4 buf_3 0 used_4 (buf_3.c : Int) fun l5 =>
  CopyS 4 w l2 l5 fun n6 w =>
  K l2 w
def T.C143 : CallT := CallT.nil
def T.A143 : Ann := fun _ => none
set_option maxRecDepth 1000000 in
theorem T.eq143 (l : Nat) (w : World) (K : Sl → World → Prop) : denF Tryz.prog T.C143 T.A143 Tryz.f143 [.pointer (some ⟨l, 0, none⟩)] w (fun v w' => match v with | .slice r0a r0l r0c => K ⟨r0a, r0l, r0c⟩ w' | _ => False) = S.lex_Lexer_answer l w K := by kernel_rfl
theorem T.CO143 : CallOk Tryz.prog T.C143 := CallOk.nil
def T.c143 (vs : List Value) (w : World) (K : Value → World → Prop) : Prop :=
  match vs with
  | [.pointer (some ⟨l, 0, none⟩)] => S.lex_Lexer_answer l w (fun r0 w' => K (.slice r0.a r0.l r0.c) w')
  | _ => False
theorem T.ok143 : ∀ vs w K, T.c143 vs w K → (callFunc 143 vs.toArray).run Tryz.prog w = .ok (.enter 143 vs.toArray) w ∧ Calls Tryz.prog 143 vs.toArray w fun e w' => ∃ v, e = .returned v ∧ K v w' := by
  intro vs w K h
  unfold T.c143 at h
  split at h
  · refine ⟨Tryz.call143 _ _, ok_of T.CO143 mixed Tryz.func143 (T.eq143 _ _ _) h fun v w' hk => ⟨v, rfl, ?_⟩⟩
    split at hk
    · exact hk
    · exact hk.elim
  · exact h.elim

/-- e2e/lex.guess (function 214). -/
def S.lex_guess (n : Int) (c : Int) (w : World) (K : Int → World → Prop) : Prop :=
  if (n == 2) = true then
    if (c == 105) = true then
      K 5 w
    else
      K 1 w
  else
    if (n == 3) = true then
      if (c == 118) = true then
        K 4 w
      else
        if (c == 110) = true then
          K 12 w
        else
          if (c == 108) = true then
            K 13 w
          else
            if (c == 105) = true then
              K 15 w
            else
              K 1 w
    else
      if (n == 4) = true then
        if (c == 102) = true then
          K 3 w
        else
          if (c == 101) = true then
            K 6 w
          else
            if (c == 116) = true then
              K 10 w
            else
              if (c == 114) = true then
                K 14 w
              else
                if (c == 98) = true then
                  K 16 w
                else
                  K 1 w
      else
        if (n == 5) = true then
          if (c == 119) = true then
            K 7 w
          else
            if (c == 112) = true then
              K 9 w
            else
              if (c == 102) = true then
                K 11 w
              else
                K 1 w
        else
          if (n == 6) = true then
            if (c == 114) = true then
              K 8 w
            else
              K 1 w
          else
            K 1 w
def T.C214 : CallT := CallT.nil
def T.A214 : Ann := fun i => bif Nat.beq i 1000033 then some ([], [(36, 1)]) else bif Nat.beq i 1000031 then some ([], [(36, 1)]) else bif Nat.beq i 1000035 then some ([], [(1, 1), (5, 0)]) else bif Nat.beq i 1000025 then some ([], [(23, 1)]) else bif Nat.beq i 1000023 then some ([], [(23, 1)]) else bif Nat.beq i 1000021 then some ([], [(23, 1)]) else bif Nat.beq i 1000019 then some ([], [(23, 1)]) else bif Nat.beq i 1000027 then some ([], [(1, 1), (5, 0)]) else bif Nat.beq i 1000013 then some ([], [(12, 1)]) else bif Nat.beq i 1000011 then some ([], [(12, 1)]) else bif Nat.beq i 1000009 then some ([], [(12, 1)]) else bif Nat.beq i 1000015 then some ([], [(1, 1), (5, 0)]) else bif Nat.beq i 1000005 then some ([], [(1, 1), (5, 0)]) else none
set_option maxRecDepth 1000000 in
theorem T.eq214 (n : Int) (c : Int) (w : World) (K : Int → World → Prop) : denF Tryz.prog T.C214 T.A214 Tryz.f214 [.int .i64 n, .int .u8 c] w (fun v w' => match v with | .int .i64 r0 => K r0 w' | _ => False) = S.lex_guess n c w K := by kernel_rfl
theorem T.CO214 : CallOk Tryz.prog T.C214 := CallOk.nil
def T.c214 (vs : List Value) (w : World) (K : Value → World → Prop) : Prop :=
  match vs with
  | [.int .i64 n, .int .u8 c] => S.lex_guess n c w (fun r0 w' => K (.int .i64 r0) w')
  | _ => False
theorem T.ok214 : ∀ vs w K, T.c214 vs w K → (callFunc 214 vs.toArray).run Tryz.prog w = .ok (.enter 214 vs.toArray) w ∧ Calls Tryz.prog 214 vs.toArray w fun e w' => ∃ v, e = .returned v ∧ K v w' := by
  intro vs w K h
  unfold T.c214 at h
  split at h
  · refine ⟨Tryz.call214 _ _, ok_of T.CO214 mixed Tryz.func214 (T.eq214 _ _ _ _) h fun v w' hk => ⟨v, rfl, ?_⟩⟩
    split at hk
    · exact hk
    · exact hk.elim
  · exact h.elim

/-- e2e/api.TokText (function 201). -/
def S.api_TokText (k : Int) (w : World) (K : ByteArray → World → Prop) : Prop :=
  if (k == 3) = true then
    K ⟨#[102, 117, 110, 99]⟩ w
  else
    if (k == 4) = true then
      K ⟨#[118, 97, 114]⟩ w
    else
      if (k == 5) = true then
        K ⟨#[105, 102]⟩ w
      else
        if (k == 6) = true then
          K ⟨#[101, 108, 115, 101]⟩ w
        else
          if (k == 7) = true then
            K ⟨#[119, 104, 105, 108, 101]⟩ w
          else
            if (k == 8) = true then
              K ⟨#[114, 101, 116, 117, 114, 110]⟩ w
            else
              if (k == 9) = true then
                K ⟨#[112, 114, 105, 110, 116]⟩ w
              else
                if (k == 10) = true then
                  K ⟨#[116, 114, 117, 101]⟩ w
                else
                  if (k == 11) = true then
                    K ⟨#[102, 97, 108, 115, 101]⟩ w
                  else
                    if (k == 12) = true then
                      K ⟨#[110, 101, 119]⟩ w
                    else
                      if (k == 13) = true then
                        K ⟨#[108, 101, 110]⟩ w
                      else
                        if (k == 14) = true then
                          K ⟨#[114, 101, 97, 100]⟩ w
                        else
                          if (k == 15) = true then
                            K ⟨#[105, 110, 116]⟩ w
                          else
                            if (k == 16) = true then
                              K ⟨#[98, 111, 111, 108]⟩ w
                            else
                              if (k == 17) = true then
                                K ⟨#[40]⟩ w
                              else
                                if (k == 18) = true then
                                  K ⟨#[41]⟩ w
                                else
                                  if (k == 19) = true then
                                    K ⟨#[123]⟩ w
                                  else
                                    if (k == 20) = true then
                                      K ⟨#[125]⟩ w
                                    else
                                      if (k == 21) = true then
                                        K ⟨#[91]⟩ w
                                      else
                                        if (k == 22) = true then
                                          K ⟨#[93]⟩ w
                                        else
                                          if (k == 23) = true then
                                            K ⟨#[44]⟩ w
                                          else
                                            if (k == 24) = true then
                                              K ⟨#[59]⟩ w
                                            else
                                              if (k == 25) = true then
                                                K ⟨#[61]⟩ w
                                              else
                                                if (k == 26) = true then
                                                  K ⟨#[61, 61]⟩ w
                                                else
                                                  if (k == 27) = true then
                                                    K ⟨#[33, 61]⟩ w
                                                  else
                                                    if (k == 28) = true then
                                                      K ⟨#[60]⟩ w
                                                    else
                                                      if (k == 29) = true then
                                                        K ⟨#[60, 61]⟩ w
                                                      else
                                                        if (k == 30) = true then
                                                          K ⟨#[62]⟩ w
                                                        else
                                                          if (k == 31) = true then
                                                            K ⟨#[62, 61]⟩ w
                                                          else
                                                            if (k == 32) = true then
                                                              K ⟨#[43]⟩ w
                                                            else
                                                              if (k == 33) = true then
                                                                K ⟨#[45]⟩ w
                                                              else
                                                                if (k == 34) = true then
                                                                  K ⟨#[42]⟩ w
                                                                else
                                                                  if (k == 35) = true then
                                                                    K ⟨#[47]⟩ w
                                                                  else
                                                                    if (k == 36) = true then
                                                                      K ⟨#[37]⟩ w
                                                                    else
                                                                      if (k == 37) = true then
                                                                        K ⟨#[38, 38]⟩ w
                                                                      else
                                                                        if (k == 38) = true then
                                                                          K ⟨#[124, 124]⟩ w
                                                                        else
                                                                          if (k == 39) = true then
                                                                            K ⟨#[33]⟩ w
                                                                          else
                                                                            K ⟨#[]⟩ w
def T.C201 : CallT := CallT.nil
def T.A201 : Ann := fun i => bif Nat.beq i 1000074 then some ([], [(3, 0)]) else bif Nat.beq i 1000072 then some ([], [(3, 0)]) else bif Nat.beq i 1000070 then some ([], [(3, 0)]) else bif Nat.beq i 1000068 then some ([], [(3, 0)]) else bif Nat.beq i 1000066 then some ([], [(3, 0)]) else bif Nat.beq i 1000064 then some ([], [(3, 0)]) else bif Nat.beq i 1000062 then some ([], [(3, 0)]) else bif Nat.beq i 1000060 then some ([], [(3, 0)]) else bif Nat.beq i 1000058 then some ([], [(3, 0)]) else bif Nat.beq i 1000056 then some ([], [(3, 0)]) else bif Nat.beq i 1000054 then some ([], [(3, 0)]) else bif Nat.beq i 1000052 then some ([], [(3, 0)]) else bif Nat.beq i 1000050 then some ([], [(3, 0)]) else bif Nat.beq i 1000048 then some ([], [(3, 0)]) else bif Nat.beq i 1000046 then some ([], [(3, 0)]) else bif Nat.beq i 1000044 then some ([], [(3, 0)]) else bif Nat.beq i 1000042 then some ([], [(3, 0)]) else bif Nat.beq i 1000040 then some ([], [(3, 0)]) else bif Nat.beq i 1000038 then some ([], [(3, 0)]) else bif Nat.beq i 1000036 then some ([], [(3, 0)]) else bif Nat.beq i 1000034 then some ([], [(3, 0)]) else bif Nat.beq i 1000032 then some ([], [(3, 0)]) else bif Nat.beq i 1000030 then some ([], [(3, 0)]) else bif Nat.beq i 1000028 then some ([], [(3, 0)]) else bif Nat.beq i 1000026 then some ([], [(3, 0)]) else bif Nat.beq i 1000024 then some ([], [(3, 0)]) else bif Nat.beq i 1000022 then some ([], [(3, 0)]) else bif Nat.beq i 1000020 then some ([], [(3, 0)]) else bif Nat.beq i 1000018 then some ([], [(3, 0)]) else bif Nat.beq i 1000016 then some ([], [(3, 0)]) else bif Nat.beq i 1000014 then some ([], [(3, 0)]) else bif Nat.beq i 1000012 then some ([], [(3, 0)]) else bif Nat.beq i 1000010 then some ([], [(3, 0)]) else bif Nat.beq i 1000008 then some ([], [(3, 0)]) else bif Nat.beq i 1000006 then some ([], [(3, 0)]) else bif Nat.beq i 1000004 then some ([], [(3, 0)]) else none
set_option maxRecDepth 1000000 in
theorem T.eq201 (k : Int) (w : World) (K : ByteArray → World → Prop) : denF Tryz.prog T.C201 T.A201 Tryz.f201 [.int .i64 k] w (fun v w' => match v with | .string r0 => K r0 w' | _ => False) = S.api_TokText k w K := by kernel_rfl
theorem T.CO201 : CallOk Tryz.prog T.C201 := CallOk.nil
def T.c201 (vs : List Value) (w : World) (K : Value → World → Prop) : Prop :=
  match vs with
  | [.int .i64 k] => S.api_TokText k w (fun r0 w' => K (.string r0) w')
  | _ => False
theorem T.ok201 : ∀ vs w K, T.c201 vs w K → (callFunc 201 vs.toArray).run Tryz.prog w = .ok (.enter 201 vs.toArray) w ∧ Calls Tryz.prog 201 vs.toArray w fun e w' => ∃ v, e = .returned v ∧ K v w' := by
  intro vs w K h
  unfold T.c201 at h
  split at h
  · refine ⟨Tryz.call201 _ _, ok_of T.CO201 mixed Tryz.func201 (T.eq201 _ _ _) h fun v w' hk => ⟨v, rfl, ?_⟩⟩
    split at hk
    · exact hk
    · exact hk.elim
  · exact h.elim

/-- (*e2e/lex.Lexer).word (function 180). -/
def S.lex_Lexer_word (l : Nat) (w_ : ByteArray) (w : World) (K : World → Prop) : Prop :=
  LdI .u8 w ⟨l, 4, none⟩ fun first_1 =>
  S.lex_guess (w_.size : Int) first_1 w (fun r2 w =>
  Join (fun (w : World) =>
    LdI .i64 w ⟨l, 3, none⟩ fun start_3 =>
    S.lex_Lexer_push l 1 start_3 0 w_ w (fun w =>
    K w)) fun J4 =>
  if (r2 != 1) = true then
    S.api_TokText r2 w (fun r5 w =>
    if (w_.toList == r5.toList) = true then
      LdI .i64 w ⟨l, 3, none⟩ fun start_6 =>
      S.lex_Lexer_push l r2 start_6 0 ⟨#[]⟩ w (fun w =>
      K w)
    else
      J4 w)
  else
    J4 w)
def T.C180 : CallT := (CallT.cons 214 T.c214 (CallT.cons 201 T.c201 (CallT.cons 142 T.c142 CallT.nil)))
def T.A180 : Ann := fun _ => none
set_option maxRecDepth 1000000 in
theorem T.eq180 (l : Nat) (w_ : ByteArray) (w : World) (K : World → Prop) : denF Tryz.prog T.C180 T.A180 Tryz.f180 [.pointer (some ⟨l, 0, none⟩), .string w_] w (fun v w' => match v with | .tuple ⟨[]⟩ => K w' | _ => False) = S.lex_Lexer_word l w_ w K := by kernel_rfl
theorem T.CO180 : CallOk Tryz.prog T.C180 := (CallOk.cons 214 T.ok214 (CallOk.cons 201 T.ok201 (CallOk.cons 142 T.ok142 CallOk.nil)))
def T.c180 (vs : List Value) (w : World) (K : Value → World → Prop) : Prop :=
  match vs with
  | [.pointer (some ⟨l, 0, none⟩), .string w_] => S.lex_Lexer_word l w_ w (fun w' => K (.tuple #[]) w')
  | _ => False
theorem T.ok180 : ∀ vs w K, T.c180 vs w K → (callFunc 180 vs.toArray).run Tryz.prog w = .ok (.enter 180 vs.toArray) w ∧ Calls Tryz.prog 180 vs.toArray w fun e w' => ∃ v, e = .returned v ∧ K v w' := by
  intro vs w K h
  unfold T.c180 at h
  split at h
  · refine ⟨Tryz.call180 _ _, ok_of T.CO180 mixed Tryz.func180 (T.eq180 _ _ _ _) h fun v w' hk => ⟨v, rfl, ?_⟩⟩
    split at hk
    · exact hk
    · exact hk.elim
  · exact h.elim

/-- e2e/lex.twin (function 181). -/
def S.lex_twin (a : Int) (b : Int) (w : World) (K : Int → World → Prop) : Prop :=
  if (a == 61) = true then
    if (b == 61) = true then
      K 26 w
    else
      K 0 w
  else
    if (a == 33) = true then
      if (b == 61) = true then
        K 27 w
      else
        K 0 w
    else
      if (a == 60) = true then
        if (b == 61) = true then
          K 29 w
        else
          K 0 w
      else
        if (a == 62) = true then
          if (b == 61) = true then
            K 31 w
          else
            K 0 w
        else
          if (a == 38) = true then
            if (b == 38) = true then
              K 37 w
            else
              K 0 w
          else
            if (a == 124) = true then
              if (b == 124) = true then
                K 38 w
              else
                K 0 w
            else
              K 0 w
def T.C181 : CallT := CallT.nil
def T.A181 : Ann := fun i => bif Nat.beq i 1000017 then some ([], [(1, 1), (5, 1)]) else bif Nat.beq i 1000014 then some ([], [(1, 1), (5, 1)]) else bif Nat.beq i 1000011 then some ([], [(1, 1), (5, 1)]) else bif Nat.beq i 1000008 then some ([], [(1, 1), (5, 1)]) else bif Nat.beq i 1000005 then some ([], [(1, 1), (5, 1)]) else none
set_option maxRecDepth 1000000 in
theorem T.eq181 (a : Int) (b : Int) (w : World) (K : Int → World → Prop) : denF Tryz.prog T.C181 T.A181 Tryz.f181 [.int .u8 a, .int .u8 b] w (fun v w' => match v with | .int .i64 r0 => K r0 w' | _ => False) = S.lex_twin a b w K := by kernel_rfl
theorem T.CO181 : CallOk Tryz.prog T.C181 := CallOk.nil
def T.c181 (vs : List Value) (w : World) (K : Value → World → Prop) : Prop :=
  match vs with
  | [.int .u8 a, .int .u8 b] => S.lex_twin a b w (fun r0 w' => K (.int .i64 r0) w')
  | _ => False
theorem T.ok181 : ∀ vs w K, T.c181 vs w K → (callFunc 181 vs.toArray).run Tryz.prog w = .ok (.enter 181 vs.toArray) w ∧ Calls Tryz.prog 181 vs.toArray w fun e w' => ∃ v, e = .returned v ∧ K v w' := by
  intro vs w K h
  unfold T.c181 at h
  split at h
  · refine ⟨Tryz.call181 _ _, ok_of T.CO181 mixed Tryz.func181 (T.eq181 _ _ _ _) h fun v w' hk => ⟨v, rfl, ?_⟩⟩
    split at hk
    · exact hk
    · exact hk.elim
  · exact h.elim

/-- e2e/lex.single (function 182). -/
def S.lex_single (c : Int) (w : World) (K : Int → World → Prop) : Prop :=
  if (c == 40) = true then
    K 17 w
  else
    if (c == 41) = true then
      K 18 w
    else
      if (c == 123) = true then
        K 19 w
      else
        if (c == 125) = true then
          K 20 w
        else
          if (c == 91) = true then
            K 21 w
          else
            if (c == 93) = true then
              K 22 w
            else
              if (c == 44) = true then
                K 23 w
              else
                if (c == 59) = true then
                  K 24 w
                else
                  if (c == 61) = true then
                    K 25 w
                  else
                    if (c == 60) = true then
                      K 28 w
                    else
                      if (c == 62) = true then
                        K 30 w
                      else
                        if (c == 43) = true then
                          K 32 w
                        else
                          if (c == 45) = true then
                            K 33 w
                          else
                            if (c == 42) = true then
                              K 34 w
                            else
                              if (c == 47) = true then
                                K 35 w
                              else
                                if (c == 37) = true then
                                  K 36 w
                                else
                                  if (c == 33) = true then
                                    K 39 w
                                  else
                                    K 0 w
def T.C182 : CallT := CallT.nil
def T.A182 : Ann := fun i => bif Nat.beq i 1000034 then some ([], [(3, 1)]) else bif Nat.beq i 1000032 then some ([], [(3, 1)]) else bif Nat.beq i 1000030 then some ([], [(3, 1)]) else bif Nat.beq i 1000028 then some ([], [(3, 1)]) else bif Nat.beq i 1000026 then some ([], [(3, 1)]) else bif Nat.beq i 1000024 then some ([], [(3, 1)]) else bif Nat.beq i 1000022 then some ([], [(3, 1)]) else bif Nat.beq i 1000020 then some ([], [(3, 1)]) else bif Nat.beq i 1000018 then some ([], [(3, 1)]) else bif Nat.beq i 1000016 then some ([], [(3, 1)]) else bif Nat.beq i 1000014 then some ([], [(3, 1)]) else bif Nat.beq i 1000012 then some ([], [(3, 1)]) else bif Nat.beq i 1000010 then some ([], [(3, 1)]) else bif Nat.beq i 1000008 then some ([], [(3, 1)]) else bif Nat.beq i 1000006 then some ([], [(3, 1)]) else bif Nat.beq i 1000004 then some ([], [(3, 1)]) else none
set_option maxRecDepth 1000000 in
theorem T.eq182 (c : Int) (w : World) (K : Int → World → Prop) : denF Tryz.prog T.C182 T.A182 Tryz.f182 [.int .u8 c] w (fun v w' => match v with | .int .i64 r0 => K r0 w' | _ => False) = S.lex_single c w K := by kernel_rfl
theorem T.CO182 : CallOk Tryz.prog T.C182 := CallOk.nil
def T.c182 (vs : List Value) (w : World) (K : Value → World → Prop) : Prop :=
  match vs with
  | [.int .u8 c] => S.lex_single c w (fun r0 w' => K (.int .i64 r0) w')
  | _ => False
theorem T.ok182 : ∀ vs w K, T.c182 vs w K → (callFunc 182 vs.toArray).run Tryz.prog w = .ok (.enter 182 vs.toArray) w ∧ Calls Tryz.prog 182 vs.toArray w fun e w' => ∃ v, e = .returned v ∧ K v w' := by
  intro vs w K h
  unfold T.c182 at h
  split at h
  · refine ⟨Tryz.call182 _ _, ok_of T.CO182 mixed Tryz.func182 (T.eq182 _ _ _) h fun v w' hk => ⟨v, rfl, ?_⟩⟩
    split at hk
    · exact hk
    · exact hk.elim
  · exact h.elim

/-- (*e2e/lex.Lexer).feed (function 140). -/
def S.lex_Lexer_feed (l : Nat) (src : ByteArray) (i : Int) (c : Int) (k : Int) (w : World) (K : Bool → World → Prop) : Prop :=
  LdI .i64 w ⟨l, 2, none⟩ fun state_1 =>
  Join (fun (w : World) =>
    St1 w ⟨l, 2, none⟩ (.int .i64 0) fun w =>
    K false w) fun J2 =>
  if (state_1 == 1) = true then
    Join (fun (w : World) =>
      LdI .i64 w ⟨l, 3, none⟩ fun start_3 =>
      Join (fun (w : World) =>
        K true w) fun J4 =>
      if (decide ((W (i - start_3)) ≥ 8)) = true then
        St1 w ⟨l, 6, none⟩ (.int .i64 9) fun w =>
        J4 w
      else
        J4 w) fun J5 =>
    if (k == 1) = true then
      J5 w
    else
      if (k == 2) = true then
        J5 w
      else
        LdI .i64 w ⟨l, 3, none⟩ fun start_6 =>
        CutStr src start_6 i fun s7 =>
        S.lex_Lexer_word l s7 w (fun w =>
        J2 w)
  else
    if (state_1 == 2) = true then
      if (k == 2) = true then
        Let (W (U8 (c - 48))) fun d_8 =>
        Join (fun (w : World) =>
          St1 w ⟨l, 6, none⟩ (.int .i64 8) fun w =>
          K true w) fun J9 =>
        Join (fun (w : World) =>
          LdI .i64 w ⟨l, 5, none⟩ fun val_10 =>
          St1 w ⟨l, 5, none⟩ (.int .i64 (W ((W (val_10 * 10)) + d_8))) fun w =>
          K true w) fun J11 =>
        LdI .i64 w ⟨l, 5, none⟩ fun val_12 =>
        if (decide (val_12 > 922337203685477580)) = true then
          J9 w
        else
          LdI .i64 w ⟨l, 5, none⟩ fun val_13 =>
          if (val_13 == 922337203685477580) = true then
            if (decide (d_8 > 7)) = true then
              J9 w
            else
              J11 w
          else
            J11 w
      else
        Drew w fun w =>
        LdI .i64 w ⟨l, 3, none⟩ fun start_14 =>
        LdI .i64 w ⟨l, 5, none⟩ fun val_15 =>
        S.lex_Lexer_push l 2 start_14 val_15 ⟨#[]⟩ w (fun w =>
        J2 w)
    else
      if (state_1 == 3) = true then
        if (k != 7) = true then
          if (c != 10) = true then
            K true w
          else
            J2 w
        else
          J2 w
      else
        if (state_1 == 4) = true then
          LdI .u8 w ⟨l, 4, none⟩ fun first_16 =>
          S.lex_twin first_16 c w (fun r17 w =>
          if (r17 != 0) = true then
            LdI .i64 w ⟨l, 3, none⟩ fun start_18 =>
            S.lex_Lexer_push l r17 start_18 0 ⟨#[]⟩ w (fun w =>
            St1 w ⟨l, 2, none⟩ (.int .i64 0) fun w =>
            K true w)
          else
            LdI .u8 w ⟨l, 4, none⟩ fun first_19 =>
            S.lex_single first_19 w (fun r20 w =>
            if (r20 == 0) = true then
              St1 w ⟨l, 6, none⟩ (.int .i64 7) fun w =>
              K true w
            else
              LdI .i64 w ⟨l, 3, none⟩ fun start_21 =>
              S.lex_Lexer_push l r20 start_21 0 ⟨#[]⟩ w (fun w =>
              J2 w)))
        else
          J2 w
def T.C140 : CallT := (CallT.cons 180 T.c180 (CallT.cons 142 T.c142 (CallT.cons 181 T.c181 (CallT.cons 182 T.c182 CallT.nil))))
def T.A140 : Ann := fun i => bif Nat.beq i 1000020 then some ([], [(0, 5), (3, 1), (17, 0)]) else bif Nat.beq i 1000017 then some ([], [(0, 5), (3, 1), (4, 0), (17, 0)]) else bif Nat.beq i 1000008 then some ([], [(0, 5), (3, 1), (4, 0), (17, 0)]) else none
set_option maxRecDepth 1000000 in
theorem T.eq140 (l : Nat) (src : ByteArray) (i : Int) (c : Int) (k : Int) (w : World) (K : Bool → World → Prop) : denF Tryz.prog T.C140 T.A140 Tryz.f140 [.pointer (some ⟨l, 0, none⟩), .string src, .int .i64 i, .int .u8 c, .int .i64 k] w (fun v w' => match v with | .bool r0 => K r0 w' | _ => False) = S.lex_Lexer_feed l src i c k w K := by kernel_rfl
theorem T.CO140 : CallOk Tryz.prog T.C140 := (CallOk.cons 180 T.ok180 (CallOk.cons 142 T.ok142 (CallOk.cons 181 T.ok181 (CallOk.cons 182 T.ok182 CallOk.nil))))
def T.c140 (vs : List Value) (w : World) (K : Value → World → Prop) : Prop :=
  match vs with
  | [.pointer (some ⟨l, 0, none⟩), .string src, .int .i64 i, .int .u8 c, .int .i64 k] => S.lex_Lexer_feed l src i c k w (fun r0 w' => K (.bool r0) w')
  | _ => False
theorem T.ok140 : ∀ vs w K, T.c140 vs w K → (callFunc 140 vs.toArray).run Tryz.prog w = .ok (.enter 140 vs.toArray) w ∧ Calls Tryz.prog 140 vs.toArray w fun e w' => ∃ v, e = .returned v ∧ K v w' := by
  intro vs w K h
  unfold T.c140 at h
  split at h
  · refine ⟨Tryz.call140 _ _, ok_of T.CO140 mixed Tryz.func140 (T.eq140 _ _ _ _ _ _ _) h fun v w' hk => ⟨v, rfl, ?_⟩⟩
    split at hk
    · exact hk
    · exact hk.elim
  · exact h.elim

/-- e2e/lex.Class (function 139). -/
def S.lex_class (c : Int) (w : World) (K : Int → World → Prop) : Prop :=
  Join (fun (w : World) =>
    Join (fun (w : World) =>
      Join (fun (j_1 : Bool) (w : World) =>
        if j_1 = true then
          K 3 w
        else
          if (c == 35) = true then
            K 4 w
          else
            Join (fun (j_2 : Bool) (w : World) =>
              if j_2 = true then
                K 5 w
              else
                Join (fun (j_3 : Bool) (w : World) =>
                  if j_3 = true then
                    K 6 w
                  else
                    K 0 w) fun J4 =>
                if (c == 40) = true then
                  J4 (c == 40) w
                else
                  if (c == 41) = true then
                    J4 (c == 41) w
                  else
                    if (c == 123) = true then
                      J4 (c == 123) w
                    else
                      if (c == 125) = true then
                        J4 (c == 125) w
                      else
                        if (c == 91) = true then
                          J4 (c == 91) w
                        else
                          if (c == 93) = true then
                            J4 (c == 93) w
                          else
                            if (c == 44) = true then
                              J4 (c == 44) w
                            else
                              if (c == 59) = true then
                                J4 (c == 59) w
                              else
                                if (c == 43) = true then
                                  J4 (c == 43) w
                                else
                                  if (c == 45) = true then
                                    J4 (c == 45) w
                                  else
                                    if (c == 42) = true then
                                      J4 (c == 42) w
                                    else
                                      if (c == 47) = true then
                                        J4 (c == 47) w
                                      else
                                        J4 (c == 37) w) fun J5 =>
            if (c == 61) = true then
              J5 (c == 61) w
            else
              if (c == 33) = true then
                J5 (c == 33) w
              else
                if (c == 60) = true then
                  J5 (c == 60) w
                else
                  if (c == 62) = true then
                    J5 (c == 62) w
                  else
                    if (c == 38) = true then
                      J5 (c == 38) w
                    else
                      J5 (c == 124) w) fun J6 =>
      if (c == 32) = true then
        J6 (c == 32) w
      else
        if (c == 9) = true then
          J6 (c == 9) w
        else
          if (c == 10) = true then
            J6 (c == 10) w
          else
            J6 (c == 13) w) fun J7 =>
    if (decide (c ≥ 48)) = true then
      if (decide (c ≤ 57)) = true then
        K 2 w
      else
        J7 w
    else
      J7 w) fun J8 =>
  if (decide (c ≥ 97)) = true then
    if (decide (c ≤ 122)) = true then
      K 1 w
    else
      if (decide (c ≥ 65)) = true then
        if (decide (c ≤ 90)) = true then
          K 1 w
        else
          if (c == 95) = true then
            K 1 w
          else
            J8 w
      else
        if (c == 95) = true then
          K 1 w
        else
          J8 w
  else
    if (decide (c ≥ 65)) = true then
      if (decide (c ≤ 90)) = true then
        K 1 w
      else
        if (c == 95) = true then
          K 1 w
        else
          J8 w
    else
      if (c == 95) = true then
        K 1 w
      else
        J8 w
def T.C139 : CallT := CallT.nil
def T.A139 : Ann := fun i => bif Nat.beq i 1000008 then some ([], [(27, 1)]) else bif Nat.beq i 1000017 then some ([], [(27, 1)]) else bif Nat.beq i 1000016 then some ([], [(27, 1)]) else bif Nat.beq i 1000015 then some ([], [(27, 1)]) else bif Nat.beq i 1000031 then some ([], [(27, 1)]) else bif Nat.beq i 1000030 then some ([], [(27, 1)]) else bif Nat.beq i 1000029 then some ([], [(27, 1)]) else bif Nat.beq i 1000028 then some ([], [(27, 1)]) else bif Nat.beq i 1000027 then some ([], [(27, 1)]) else bif Nat.beq i 1000026 then some ([], [(27, 1)]) else bif Nat.beq i 1000025 then some ([], [(27, 1)]) else bif Nat.beq i 1000024 then some ([], [(27, 1)]) else bif Nat.beq i 1000023 then some ([], [(27, 1)]) else bif Nat.beq i 1000022 then some ([], [(27, 1)]) else bif Nat.beq i 1000021 then some ([], [(27, 1)]) else bif Nat.beq i 1000020 then some ([], [(27, 1)]) else bif Nat.beq i 1000014 then some ([], [(27, 1)]) else bif Nat.beq i 1000013 then some ([], [(27, 1)]) else bif Nat.beq i 1000011 then some ([], [(27, 1)]) else bif Nat.beq i 1000007 then some ([], [(27, 1)]) else none
set_option maxRecDepth 1000000 in
theorem T.eq139 (c : Int) (w : World) (K : Int → World → Prop) : denF Tryz.prog T.C139 T.A139 Tryz.f139 [.int .u8 c] w (fun v w' => match v with | .int .i64 r0 => K r0 w' | _ => False) = S.lex_class c w K := by kernel_rfl
theorem T.CO139 : CallOk Tryz.prog T.C139 := CallOk.nil
def T.c139 (vs : List Value) (w : World) (K : Value → World → Prop) : Prop :=
  match vs with
  | [.int .u8 c] => S.lex_class c w (fun r0 w' => K (.int .i64 r0) w')
  | _ => False
theorem T.ok139 : ∀ vs w K, T.c139 vs w K → (callFunc 139 vs.toArray).run Tryz.prog w = .ok (.enter 139 vs.toArray) w ∧ Calls Tryz.prog 139 vs.toArray w fun e w' => ∃ v, e = .returned v ∧ K v w' := by
  intro vs w K h
  unfold T.c139 at h
  split at h
  · refine ⟨Tryz.call139 _ _, ok_of T.CO139 mixed Tryz.func139 (T.eq139 _ _ _) h fun v w' hk => ⟨v, rfl, ?_⟩⟩
    split at hk
    · exact hk
    · exact hk.elim
  · exact h.elim

/-- (*e2e/lex.Lexer).begin (function 141). -/
def S.lex_Lexer_begin (l : Nat) (i : Int) (c : Int) (k : Int) (w : World) (K : World → Prop) : Prop :=
  St1 w ⟨l, 3, none⟩ (.int .i64 i) fun w =>
  St1 w ⟨l, 4, none⟩ (.int .u8 c) fun w =>
  Join (fun (w : World) =>
    St1 w ⟨l, 7, none⟩ (.int .i64 k) fun w =>
    K w) fun J1 =>
  if (k == 1) = true then
    St1 w ⟨l, 2, none⟩ (.int .i64 1) fun w =>
    J1 w
  else
    if (k == 2) = true then
      St1 w ⟨l, 2, none⟩ (.int .i64 2) fun w =>
      St1 w ⟨l, 5, none⟩ (.int .i64 (W (U8 (c - 48)))) fun w =>
      J1 w
    else
      if (k == 4) = true then
        St1 w ⟨l, 2, none⟩ (.int .i64 3) fun w =>
        J1 w
      else
        if (k == 5) = true then
          St1 w ⟨l, 2, none⟩ (.int .i64 4) fun w =>
          J1 w
        else
          if (k == 6) = true then
            S.lex_single c w (fun r2 w =>
            S.lex_Lexer_push l r2 i 0 ⟨#[]⟩ w (fun w =>
            J1 w))
          else
            if (k == 0) = true then
              St1 w ⟨l, 6, none⟩ (.int .i64 7) fun w =>
              J1 w
            else
              J1 w
def T.C141 : CallT := (CallT.cons 182 T.c182 (CallT.cons 142 T.c142 CallT.nil))
def T.A141 : Ann := fun i => bif Nat.beq i 1000014 then some ([], [(0, 5), (3, 0), (17, 0)]) else bif Nat.beq i 1000011 then some ([], [(0, 5), (1, 0), (2, 1), (3, 0), (17, 0)]) else bif Nat.beq i 1000009 then some ([], [(0, 5), (1, 0), (2, 1), (3, 0), (17, 0)]) else bif Nat.beq i 1000007 then some ([], [(0, 5), (1, 0), (2, 1), (3, 0), (17, 0)]) else bif Nat.beq i 1000004 then some ([], [(0, 5), (1, 0), (2, 1), (3, 0), (17, 0)]) else none
set_option maxRecDepth 1000000 in
theorem T.eq141 (l : Nat) (i : Int) (c : Int) (k : Int) (w : World) (K : World → Prop) : denF Tryz.prog T.C141 T.A141 Tryz.f141 [.pointer (some ⟨l, 0, none⟩), .int .i64 i, .int .u8 c, .int .i64 k] w (fun v w' => match v with | .tuple ⟨[]⟩ => K w' | _ => False) = S.lex_Lexer_begin l i c k w K := by kernel_rfl
theorem T.CO141 : CallOk Tryz.prog T.C141 := (CallOk.cons 182 T.ok182 (CallOk.cons 142 T.ok142 CallOk.nil))
def T.c141 (vs : List Value) (w : World) (K : Value → World → Prop) : Prop :=
  match vs with
  | [.pointer (some ⟨l, 0, none⟩), .int .i64 i, .int .u8 c, .int .i64 k] => S.lex_Lexer_begin l i c k w (fun w' => K (.tuple #[]) w')
  | _ => False
theorem T.ok141 : ∀ vs w K, T.c141 vs w K → (callFunc 141 vs.toArray).run Tryz.prog w = .ok (.enter 141 vs.toArray) w ∧ Calls Tryz.prog 141 vs.toArray w fun e w' => ∃ v, e = .returned v ∧ K v w' := by
  intro vs w K h
  unfold T.c141 at h
  split at h
  · refine ⟨Tryz.call141 _ _, ok_of T.CO141 mixed Tryz.func141 (T.eq141 _ _ _ _ _ _) h fun v w' hk => ⟨v, rfl, ?_⟩⟩
    split at hk
    · exact hk
    · exact hk.elim
  · exact h.elim

/-- (*e2e/lex.Lexer).Lex (function 99). -/
def S.lex_Lexer_Lex (l : Nat) (src : ByteArray) (w : World) (K : Sl → Int → Int → World → Prop) : Prop :=
  New w (.cells #[.slice none 0 0, .int .i64 0, .int .i64 0] 168) fun p1 w =>
  if (decide ((src.size : Int) > 4096)) = true then
    St1 w ⟨p1, 0, none⟩ (.slice none 0 0) fun w =>
    St1 w ⟨p1, 1, none⟩ (.int .i64 31) fun w =>
    St1 w ⟨p1, 2, none⟩ (.int .i64 4096) fun w =>
    LdS w ⟨p1, 0, none⟩ fun List_2 =>
    LdI .i64 w ⟨p1, 1, none⟩ fun Err_3 =>
    LdI .i64 w ⟨p1, 2, none⟩ fun Pos_4 =>
    K List_2 Err_3 Pos_4 w
  else
    St1 w ⟨l, 1, none⟩ (.int .i64 0) fun w =>
    St1 w ⟨l, 2, none⟩ (.int .i64 0) fun w =>
    St1 w ⟨l, 3, none⟩ (.int .i64 0) fun w =>
    St1 w ⟨l, 4, none⟩ (.int .u8 0) fun w =>
    St1 w ⟨l, 5, none⟩ (.int .i64 0) fun w =>
    St1 w ⟨l, 6, none⟩ (.int .i64 0) fun w =>
    St1 w ⟨l, 7, none⟩ (.int .i64 0) fun w =>
    Join (fun (w : World) =>
      LdI .i64 w ⟨l, 6, none⟩ fun fail_5 =>
      Join (fun (w : World) =>
        LdI .i64 w ⟨l, 6, none⟩ fun fail_6 =>
        if (fail_6 != 0) = true then
          Drew w fun w =>
          LdI .i64 w ⟨l, 6, none⟩ fun fail_7 =>
          LdI .i64 w ⟨l, 3, none⟩ fun start_8 =>
          St1 w ⟨p1, 0, none⟩ (.slice none 0 0) fun w =>
          St1 w ⟨p1, 1, none⟩ (.int .i64 fail_7) fun w =>
          St1 w ⟨p1, 2, none⟩ (.int .i64 start_8) fun w =>
          LdS w ⟨p1, 0, none⟩ fun List_9 =>
          LdI .i64 w ⟨p1, 1, none⟩ fun Err_10 =>
          LdI .i64 w ⟨p1, 2, none⟩ fun Pos_11 =>
          K List_9 Err_10 Pos_11 w
        else
          S.lex_Lexer_push l 0 (src.size : Int) 0 ⟨#[]⟩ w (fun w =>
          S.lex_Lexer_answer l w (fun r12 w =>
          St1 w ⟨p1, 0, none⟩ (.slice r12.a r12.l r12.c) fun w =>
          St1 w ⟨p1, 1, none⟩ (.int .i64 0) fun w =>
          St1 w ⟨p1, 2, none⟩ (.int .i64 0) fun w =>
          LdS w ⟨p1, 0, none⟩ fun List_13 =>
          LdI .i64 w ⟨p1, 1, none⟩ fun Err_14 =>
          LdI .i64 w ⟨p1, 2, none⟩ fun Pos_15 =>
          K List_13 Err_14 Pos_15 w))) fun J16 =>
      if (fail_5 == 0) = true then
        S.lex_Lexer_feed l src (src.size : Int) 0 7 w (fun r17 w =>
        J16 w)
      else
        J16 w) fun J18 =>
    LoopP (σ := Int × Unit) (fun st19 w next20 =>
      if (decide (st19.1 < (src.size : Int))) = true then
        LdI .i64 w ⟨l, 6, none⟩ fun fail_21 =>
        if (fail_21 == 0) = true then
          Join (fun (w : World) =>
            Let (W (st19.1 + 1)) fun i_22 =>
            next20 (i_22, ()) w) fun J23 =>
          IxStr src st19.1 fun c24 =>
          S.lex_class c24 w (fun r25 w =>
          S.lex_Lexer_feed l src st19.1 c24 r25 w (fun r26 w =>
          if (!r26) = true then
            S.lex_Lexer_begin l st19.1 c24 r25 w (fun w =>
            J23 w)
          else
            J23 w))
        else
          J18 w
      else
        J18 w) (0, ()) w
def T.C99 : CallT := (CallT.cons 142 T.c142 (CallT.cons 143 T.c143 (CallT.cons 140 T.c140 (CallT.cons 139 T.c139 (CallT.cons 141 T.c141 CallT.nil)))))
def T.A99 : Ann := fun i => bif Nat.beq i 6 then some ([0, 1, 4], [(5, 0)]) else none
set_option maxRecDepth 1000000 in
theorem T.eq99 (l : Nat) (src : ByteArray) (w : World) (K : Sl → Int → Int → World → Prop) : denF Tryz.prog T.C99 T.A99 Tryz.f99 [.pointer (some ⟨l, 0, none⟩), .string src] w (fun v w' => match v with | .agg ⟨[.slice r0a r0l r0c, .int .i64 r1, .int .i64 r2]⟩ => K ⟨r0a, r0l, r0c⟩ r1 r2 w' | _ => False) = S.lex_Lexer_Lex l src w K := by kernel_rfl
theorem T.CO99 : CallOk Tryz.prog T.C99 := (CallOk.cons 142 T.ok142 (CallOk.cons 143 T.ok143 (CallOk.cons 140 T.ok140 (CallOk.cons 139 T.ok139 (CallOk.cons 141 T.ok141 CallOk.nil)))))
def T.c99 (vs : List Value) (w : World) (K : Value → World → Prop) : Prop :=
  match vs with
  | [.pointer (some ⟨l, 0, none⟩), .string src] => S.lex_Lexer_Lex l src w (fun r0 r1 r2 w' => K (.agg #[.slice r0.a r0.l r0.c, .int .i64 r1, .int .i64 r2]) w')
  | _ => False
theorem T.ok99 : ∀ vs w K, T.c99 vs w K → (callFunc 99 vs.toArray).run Tryz.prog w = .ok (.enter 99 vs.toArray) w ∧ Calls Tryz.prog 99 vs.toArray w fun e w' => ∃ v, e = .returned v ∧ K v w' := by
  intro vs w K h
  unfold T.c99 at h
  split at h
  · refine ⟨Tryz.call99 _ _, ok_of T.CO99 mixed Tryz.func99 (T.eq99 _ _ _ _) h fun v w' hk => ⟨v, rfl, ?_⟩⟩
    split at hk
    · exact hk
    · exact hk.elim
  · exact h.elim

/-- (*e2e/parse.Parser).kind (function 144). -/
def S.parse_Parser_kind (p : Nat) (w : World) (K : Int → World → Prop) : Prop :=
  Drew w fun w =>
  LdS w ⟨p, 1, none⟩ fun toks_1 =>
  LdI .i64 w ⟨p, 2, none⟩ fun cur_2 =>
  Ix toks_1.a toks_1.l cur_2 fun b3 o4 =>
  LdI .i64 w ⟨b3, o4 + Int.toNat cur_2 * 4, none⟩ fun Kind_5 =>
  K Kind_5 w
def T.C144 : CallT := CallT.nil
def T.A144 : Ann := fun _ => none
set_option maxRecDepth 1000000 in
theorem T.eq144 (p : Nat) (w : World) (K : Int → World → Prop) : denF Tryz.prog T.C144 T.A144 Tryz.f144 [.pointer (some ⟨p, 0, none⟩)] w (fun v w' => match v with | .int .i64 r0 => K r0 w' | _ => False) = S.parse_Parser_kind p w K := by kernel_rfl
theorem T.CO144 : CallOk Tryz.prog T.C144 := CallOk.nil
def T.c144 (vs : List Value) (w : World) (K : Value → World → Prop) : Prop :=
  match vs with
  | [.pointer (some ⟨p, 0, none⟩)] => S.parse_Parser_kind p w (fun r0 w' => K (.int .i64 r0) w')
  | _ => False
theorem T.ok144 : ∀ vs w K, T.c144 vs w K → (callFunc 144 vs.toArray).run Tryz.prog w = .ok (.enter 144 vs.toArray) w ∧ Calls Tryz.prog 144 vs.toArray w fun e w' => ∃ v, e = .returned v ∧ K v w' := by
  intro vs w K h
  unfold T.c144 at h
  split at h
  · refine ⟨Tryz.call144 _ _, ok_of T.CO144 mixed Tryz.func144 (T.eq144 _ _ _) h fun v w' hk => ⟨v, rfl, ?_⟩⟩
    split at hk
    · exact hk
    · exact hk.elim
  · exact h.elim

/-- (*e2e/parse.Parser).at (function 184). -/
def S.parse_Parser_at (p : Nat) (w : World) (K : Int → World → Prop) : Prop :=
  Drew w fun w =>
  LdS w ⟨p, 1, none⟩ fun toks_1 =>
  LdI .i64 w ⟨p, 2, none⟩ fun cur_2 =>
  Ix toks_1.a toks_1.l cur_2 fun b3 o4 =>
  LdI .i64 w ⟨b3, o4 + Int.toNat cur_2 * 4 + 1, none⟩ fun Pos_5 =>
  K Pos_5 w
def T.C184 : CallT := CallT.nil
def T.A184 : Ann := fun _ => none
set_option maxRecDepth 1000000 in
theorem T.eq184 (p : Nat) (w : World) (K : Int → World → Prop) : denF Tryz.prog T.C184 T.A184 Tryz.f184 [.pointer (some ⟨p, 0, none⟩)] w (fun v w' => match v with | .int .i64 r0 => K r0 w' | _ => False) = S.parse_Parser_at p w K := by kernel_rfl
theorem T.CO184 : CallOk Tryz.prog T.C184 := CallOk.nil
def T.c184 (vs : List Value) (w : World) (K : Value → World → Prop) : Prop :=
  match vs with
  | [.pointer (some ⟨p, 0, none⟩)] => S.parse_Parser_at p w (fun r0 w' => K (.int .i64 r0) w')
  | _ => False
theorem T.ok184 : ∀ vs w K, T.c184 vs w K → (callFunc 184 vs.toArray).run Tryz.prog w = .ok (.enter 184 vs.toArray) w ∧ Calls Tryz.prog 184 vs.toArray w fun e w' => ∃ v, e = .returned v ∧ K v w' := by
  intro vs w K h
  unfold T.c184 at h
  split at h
  · refine ⟨Tryz.call184 _ _, ok_of T.CO184 mixed Tryz.func184 (T.eq184 _ _ _) h fun v w' hk => ⟨v, rfl, ?_⟩⟩
    split at hk
    · exact hk
    · exact hk.elim
  · exact h.elim

/-- (*e2e/parse.Parser).fail (function 215). -/
def S.parse_Parser_fail (p : Nat) (e : Int) (pos : Int) (w : World) (K : Int → World → Prop) : Prop :=
  LdB w ⟨p, 5, none⟩ fun failed_1 =>
  if (!failed_1) = true then
    St1 w ⟨p, 5, none⟩ (.bool true) fun w =>
    St1 w ⟨p, 6, none⟩ (.int .i64 e) fun w =>
    St1 w ⟨p, 7, none⟩ (.int .i64 pos) fun w =>
    K (-1) w
  else
    K (-1) w
def T.C215 : CallT := CallT.nil
def T.A215 : Ann := fun _ => none
set_option maxRecDepth 1000000 in
theorem T.eq215 (p : Nat) (e : Int) (pos : Int) (w : World) (K : Int → World → Prop) : denF Tryz.prog T.C215 T.A215 Tryz.f215 [.pointer (some ⟨p, 0, none⟩), .int .i64 e, .int .i64 pos] w (fun v w' => match v with | .int .i64 r0 => K r0 w' | _ => False) = S.parse_Parser_fail p e pos w K := by kernel_rfl
theorem T.CO215 : CallOk Tryz.prog T.C215 := CallOk.nil
def T.c215 (vs : List Value) (w : World) (K : Value → World → Prop) : Prop :=
  match vs with
  | [.pointer (some ⟨p, 0, none⟩), .int .i64 e, .int .i64 pos] => S.parse_Parser_fail p e pos w (fun r0 w' => K (.int .i64 r0) w')
  | _ => False
theorem T.ok215 : ∀ vs w K, T.c215 vs w K → (callFunc 215 vs.toArray).run Tryz.prog w = .ok (.enter 215 vs.toArray) w ∧ Calls Tryz.prog 215 vs.toArray w fun e w' => ∃ v, e = .returned v ∧ K v w' := by
  intro vs w K h
  unfold T.c215 at h
  split at h
  · refine ⟨Tryz.call215 _ _, ok_of T.CO215 mixed Tryz.func215 (T.eq215 _ _ _ _ _) h fun v w' hk => ⟨v, rfl, ?_⟩⟩
    split at hk
    · exact hk
    · exact hk.elim
  · exact h.elim

/-- (*e2e/parse.Parser).step (function 216). -/
def S.parse_Parser_step (p : Nat) (w : World) (K : World → Prop) : Prop :=
  Drew w fun w =>
  LdI .i64 w ⟨p, 2, none⟩ fun cur_1 =>
  LdS w ⟨p, 1, none⟩ fun toks_2 =>
  if (decide ((W (cur_1 + 1)) < (toks_2.l : Int))) = true then
    LdI .i64 w ⟨p, 2, none⟩ fun cur_3 =>
    St1 w ⟨p, 2, none⟩ (.int .i64 (W (cur_3 + 1))) fun w =>
    K w
  else
    K w
def T.C216 : CallT := CallT.nil
def T.A216 : Ann := fun _ => none
set_option maxRecDepth 1000000 in
theorem T.eq216 (p : Nat) (w : World) (K : World → Prop) : denF Tryz.prog T.C216 T.A216 Tryz.f216 [.pointer (some ⟨p, 0, none⟩)] w (fun v w' => match v with | .tuple ⟨[]⟩ => K w' | _ => False) = S.parse_Parser_step p w K := by kernel_rfl
theorem T.CO216 : CallOk Tryz.prog T.C216 := CallOk.nil
def T.c216 (vs : List Value) (w : World) (K : Value → World → Prop) : Prop :=
  match vs with
  | [.pointer (some ⟨p, 0, none⟩)] => S.parse_Parser_step p w (fun w' => K (.tuple #[]) w')
  | _ => False
theorem T.ok216 : ∀ vs w K, T.c216 vs w K → (callFunc 216 vs.toArray).run Tryz.prog w = .ok (.enter 216 vs.toArray) w ∧ Calls Tryz.prog 216 vs.toArray w fun e w' => ∃ v, e = .returned v ∧ K v w' := by
  intro vs w K h
  unfold T.c216 at h
  split at h
  · refine ⟨Tryz.call216 _ _, ok_of T.CO216 mixed Tryz.func216 (T.eq216 _ _ _) h fun v w' hk => ⟨v, rfl, ?_⟩⟩
    split at hk
    · exact hk
    · exact hk.elim
  · exact h.elim

/-- (*e2e/parse.Parser).take (function 183). -/
def S.parse_Parser_take (p : Nat) (k : Int) (w : World) (K : Bool → World → Prop) : Prop :=
  LdB w ⟨p, 5, none⟩ fun failed_1 =>
  if failed_1 = true then
    K false w
  else
    S.parse_Parser_kind p w (fun r2 w =>
    if (r2 != k) = true then
      S.parse_Parser_at p w (fun r3 w =>
      S.parse_Parser_fail p 10 r3 w (fun r4 w =>
      K false w))
    else
      S.parse_Parser_step p w (fun w =>
      K true w))
def T.C183 : CallT := (CallT.cons 144 T.c144 (CallT.cons 184 T.c184 (CallT.cons 215 T.c215 (CallT.cons 216 T.c216 CallT.nil))))
def T.A183 : Ann := fun _ => none
set_option maxRecDepth 1000000 in
theorem T.eq183 (p : Nat) (k : Int) (w : World) (K : Bool → World → Prop) : denF Tryz.prog T.C183 T.A183 Tryz.f183 [.pointer (some ⟨p, 0, none⟩), .int .i64 k] w (fun v w' => match v with | .bool r0 => K r0 w' | _ => False) = S.parse_Parser_take p k w K := by kernel_rfl
theorem T.CO183 : CallOk Tryz.prog T.C183 := (CallOk.cons 144 T.ok144 (CallOk.cons 184 T.ok184 (CallOk.cons 215 T.ok215 (CallOk.cons 216 T.ok216 CallOk.nil))))
def T.c183 (vs : List Value) (w : World) (K : Value → World → Prop) : Prop :=
  match vs with
  | [.pointer (some ⟨p, 0, none⟩), .int .i64 k] => S.parse_Parser_take p k w (fun r0 w' => K (.bool r0) w')
  | _ => False
theorem T.ok183 : ∀ vs w K, T.c183 vs w K → (callFunc 183 vs.toArray).run Tryz.prog w = .ok (.enter 183 vs.toArray) w ∧ Calls Tryz.prog 183 vs.toArray w fun e w' => ∃ v, e = .returned v ∧ K v w' := by
  intro vs w K h
  unfold T.c183 at h
  split at h
  · refine ⟨Tryz.call183 _ _, ok_of T.CO183 mixed Tryz.func183 (T.eq183 _ _ _ _) h fun v w' hk => ⟨v, rfl, ?_⟩⟩
    split at hk
    · exact hk
    · exact hk.elim
  · exact h.elim

/-- e2e/parse.fresh (function 185). -/
def S.parse_fresh (kind : Int) (pos : Int) (w : World) (K : Int → Int → Int → Int → Int → Int → Int → ByteArray → World → Prop) : Prop :=
  New w (.cells #[.int .i64 0, .int .i64 0, .int .i64 0, .int .i64 0, .int .i64 0, .int .i64 0, .int .i64 0, .string ⟨#[]⟩] 150) fun p1 w =>
  St1 w ⟨p1, 0, none⟩ (.int .i64 kind) fun w =>
  St1 w ⟨p1, 1, none⟩ (.int .i64 (-1)) fun w =>
  St1 w ⟨p1, 2, none⟩ (.int .i64 (-1)) fun w =>
  St1 w ⟨p1, 3, none⟩ (.int .i64 (-1)) fun w =>
  St1 w ⟨p1, 4, none⟩ (.int .i64 (-1)) fun w =>
  St1 w ⟨p1, 5, none⟩ (.int .i64 0) fun w =>
  St1 w ⟨p1, 6, none⟩ (.int .i64 pos) fun w =>
  St1 w ⟨p1, 7, none⟩ (.string ⟨#[]⟩) fun w =>
  LdI .i64 w ⟨p1, 0, none⟩ fun Kind_2 =>
  LdI .i64 w ⟨p1, 1, none⟩ fun A_3 =>
  LdI .i64 w ⟨p1, 2, none⟩ fun B_4 =>
  LdI .i64 w ⟨p1, 3, none⟩ fun C_5 =>
  LdI .i64 w ⟨p1, 4, none⟩ fun Next_6 =>
  LdI .i64 w ⟨p1, 5, none⟩ fun Val_7 =>
  LdI .i64 w ⟨p1, 6, none⟩ fun Pos_8 =>
  LdStr w ⟨p1, 7, none⟩ fun Name_9 =>
  K Kind_2 A_3 B_4 C_5 Next_6 Val_7 Pos_8 Name_9 w
def T.C185 : CallT := CallT.nil
def T.A185 : Ann := fun _ => none
set_option maxRecDepth 1000000 in
theorem T.eq185 (kind : Int) (pos : Int) (w : World) (K : Int → Int → Int → Int → Int → Int → Int → ByteArray → World → Prop) : denF Tryz.prog T.C185 T.A185 Tryz.f185 [.int .i64 kind, .int .i64 pos] w (fun v w' => match v with | .agg ⟨[.int .i64 r0, .int .i64 r1, .int .i64 r2, .int .i64 r3, .int .i64 r4, .int .i64 r5, .int .i64 r6, .string r7]⟩ => K r0 r1 r2 r3 r4 r5 r6 r7 w' | _ => False) = S.parse_fresh kind pos w K := by kernel_rfl
theorem T.CO185 : CallOk Tryz.prog T.C185 := CallOk.nil
def T.c185 (vs : List Value) (w : World) (K : Value → World → Prop) : Prop :=
  match vs with
  | [.int .i64 kind, .int .i64 pos] => S.parse_fresh kind pos w (fun r0 r1 r2 r3 r4 r5 r6 r7 w' => K (.agg #[.int .i64 r0, .int .i64 r1, .int .i64 r2, .int .i64 r3, .int .i64 r4, .int .i64 r5, .int .i64 r6, .string r7]) w')
  | _ => False
theorem T.ok185 : ∀ vs w K, T.c185 vs w K → (callFunc 185 vs.toArray).run Tryz.prog w = .ok (.enter 185 vs.toArray) w ∧ Calls Tryz.prog 185 vs.toArray w fun e w' => ∃ v, e = .returned v ∧ K v w' := by
  intro vs w K h
  unfold T.c185 at h
  split at h
  · refine ⟨Tryz.call185 _ _, ok_of T.CO185 mixed Tryz.func185 (T.eq185 _ _ _ _) h fun v w' hk => ⟨v, rfl, ?_⟩⟩
    split at hk
    · exact hk
    · exact hk.elim
  · exact h.elim

/-- (*e2e/parse.Parser).typ (function 187). -/
def S.parse_Parser_typ (p : Nat) (w : World) (K : Int → World → Prop) : Prop :=
  Join (fun (dims_1 : Int) (w : World) =>
    S.parse_Parser_kind p w (fun r2 w =>
    Join (fun (t_3 : Int) (w : World) =>
      Join (fun (w : World) =>
        K (W (t_3 + (W (2 * dims_1)))) w) fun J4 =>
      LoopP (σ := Int × Unit) (fun st5 w next6 =>
        if (decide (st5.1 < dims_1)) = true then
          S.parse_Parser_take p 22 w (fun r7 w =>
          if (!r7) = true then
            K (-1) w
          else
            Let (W (st5.1 + 1)) fun k_8 =>
            next6 (k_8, ()) w)
        else
          J4 w) (0, ()) w) fun J9 =>
    if (r2 == 16) = true then
      S.parse_Parser_step p w (fun w =>
      J9 1 w)
    else
      S.parse_Parser_take p 15 w (fun r10 w =>
      if (!r10) = true then
        K (-1) w
      else
        J9 0 w))) fun J11 =>
  LoopP (σ := Int × Unit) (fun st12 w next13 =>
    S.parse_Parser_kind p w (fun r14 w =>
    if (r14 == 21) = true then
      if (decide (st12.1 ≥ 3)) = true then
        S.parse_Parser_at p w (fun r15 w =>
        S.parse_Parser_fail p 11 r15 w (fun r16 w =>
        K r16 w))
      else
        Let (W (st12.1 + 1)) fun dims_17 =>
        S.parse_Parser_step p w (fun w =>
        next13 (dims_17, ()) w)
    else
      J11 st12.1 w)) (0, ()) w
def T.C187 : CallT := (CallT.cons 144 T.c144 (CallT.cons 183 T.c183 (CallT.cons 216 T.c216 (CallT.cons 184 T.c184 (CallT.cons 215 T.c215 CallT.nil)))))
def T.A187 : Ann := fun i => bif Nat.beq i 2 then some ([0], [(3, 0)]) else bif Nat.beq i 15 then some ([0, 3, 5], [(6, 0)]) else bif Nat.beq i 1000012 then some ([], [(0, 5), (3, 0), (5, 0)]) else none
set_option maxRecDepth 1000000 in
theorem T.eq187 (p : Nat) (w : World) (K : Int → World → Prop) : denF Tryz.prog T.C187 T.A187 Tryz.f187 [.pointer (some ⟨p, 0, none⟩)] w (fun v w' => match v with | .int .i64 r0 => K r0 w' | _ => False) = S.parse_Parser_typ p w K := by kernel_rfl
theorem T.CO187 : CallOk Tryz.prog T.C187 := (CallOk.cons 144 T.ok144 (CallOk.cons 183 T.ok183 (CallOk.cons 216 T.ok216 (CallOk.cons 184 T.ok184 (CallOk.cons 215 T.ok215 CallOk.nil)))))
def T.c187 (vs : List Value) (w : World) (K : Value → World → Prop) : Prop :=
  match vs with
  | [.pointer (some ⟨p, 0, none⟩)] => S.parse_Parser_typ p w (fun r0 w' => K (.int .i64 r0) w')
  | _ => False
theorem T.ok187 : ∀ vs w K, T.c187 vs w K → (callFunc 187 vs.toArray).run Tryz.prog w = .ok (.enter 187 vs.toArray) w ∧ Calls Tryz.prog 187 vs.toArray w fun e w' => ∃ v, e = .returned v ∧ K v w' := by
  intro vs w K h
  unfold T.c187 at h
  split at h
  · refine ⟨Tryz.call187 _ _, ok_of T.CO187 mixed Tryz.func187 (T.eq187 _ _ _) h fun v w' hk => ⟨v, rfl, ?_⟩⟩
    split at hk
    · exact hk
    · exact hk.elim
  · exact h.elim

/-- (*e2e/parse.Parser).add (function 189). -/
def S.parse_Parser_add (p : Nat) (nd_Kind : Int) (nd_A : Int) (nd_B : Int) (nd_C : Int) (nd_Next : Int) (nd_Val : Int) (nd_Pos : Int) (nd_Name : ByteArray) (w : World) (K : Int → World → Prop) : Prop :=
  New w (.cells #[.int .i64 nd_Kind, .int .i64 nd_A, .int .i64 nd_B, .int .i64 nd_C, .int .i64 nd_Next, .int .i64 nd_Val, .int .i64 nd_Pos, .string nd_Name] 150) fun p1 w =>
  LdB w ⟨p, 5, none⟩ fun failed_2 =>
  if failed_2 = true then
    K (-1) w
  else
    LdI .i64 w ⟨p, 4, none⟩ fun n_3 =>
    if (decide (n_3 ≥ 200)) = true then
      LdI .i64 w ⟨p1, 6, none⟩ fun Pos_4 =>
      S.parse_Parser_fail p 12 Pos_4 w (fun r5 w =>
      K r5 w)
    else
      Drew w fun w =>
      LdS w ⟨p, 3, none⟩ fun arena_6 =>
      LdI .i64 w ⟨p, 4, none⟩ fun n_7 =>
      LdI .i64 w ⟨p1, 0, none⟩ fun Kind_8 =>
      LdI .i64 w ⟨p1, 1, none⟩ fun A_9 =>
      LdI .i64 w ⟨p1, 2, none⟩ fun B_10 =>
      LdI .i64 w ⟨p1, 3, none⟩ fun C_11 =>
      LdI .i64 w ⟨p1, 4, none⟩ fun Next_12 =>
      LdI .i64 w ⟨p1, 5, none⟩ fun Val_13 =>
      LdI .i64 w ⟨p1, 6, none⟩ fun Pos_14 =>
      LdStr w ⟨p1, 7, none⟩ fun Name_15 =>
      Ix arena_6.a arena_6.l n_7 fun b16 o17 =>
      St1 w ⟨b16, o17 + Int.toNat n_7 * 8, none⟩ (.int .i64 Kind_8) fun w =>
      St1 w ⟨b16, o17 + Int.toNat n_7 * 8 + 1, none⟩ (.int .i64 A_9) fun w =>
      St1 w ⟨b16, o17 + Int.toNat n_7 * 8 + 2, none⟩ (.int .i64 B_10) fun w =>
      St1 w ⟨b16, o17 + Int.toNat n_7 * 8 + 3, none⟩ (.int .i64 C_11) fun w =>
      St1 w ⟨b16, o17 + Int.toNat n_7 * 8 + 4, none⟩ (.int .i64 Next_12) fun w =>
      St1 w ⟨b16, o17 + Int.toNat n_7 * 8 + 5, none⟩ (.int .i64 Val_13) fun w =>
      St1 w ⟨b16, o17 + Int.toNat n_7 * 8 + 6, none⟩ (.int .i64 Pos_14) fun w =>
      St1 w ⟨b16, o17 + Int.toNat n_7 * 8 + 7, none⟩ (.string Name_15) fun w =>
      LdI .i64 w ⟨p, 4, none⟩ fun n_18 =>
      St1 w ⟨p, 4, none⟩ (.int .i64 (W (n_18 + 1))) fun w =>
      LdI .i64 w ⟨p, 4, none⟩ fun n_19 =>
      K (W (n_19 - 1)) w
def T.C189 : CallT := (CallT.cons 215 T.c215 CallT.nil)
def T.A189 : Ann := fun _ => none
set_option maxRecDepth 1000000 in
theorem T.eq189 (p : Nat) (nd_Kind : Int) (nd_A : Int) (nd_B : Int) (nd_C : Int) (nd_Next : Int) (nd_Val : Int) (nd_Pos : Int) (nd_Name : ByteArray) (w : World) (K : Int → World → Prop) : denF Tryz.prog T.C189 T.A189 Tryz.f189 [.pointer (some ⟨p, 0, none⟩), .agg #[.int .i64 nd_Kind, .int .i64 nd_A, .int .i64 nd_B, .int .i64 nd_C, .int .i64 nd_Next, .int .i64 nd_Val, .int .i64 nd_Pos, .string nd_Name]] w (fun v w' => match v with | .int .i64 r0 => K r0 w' | _ => False) = S.parse_Parser_add p nd_Kind nd_A nd_B nd_C nd_Next nd_Val nd_Pos nd_Name w K := by kernel_rfl
theorem T.CO189 : CallOk Tryz.prog T.C189 := (CallOk.cons 215 T.ok215 CallOk.nil)
def T.c189 (vs : List Value) (w : World) (K : Value → World → Prop) : Prop :=
  match vs with
  | [.pointer (some ⟨p, 0, none⟩), .agg ⟨[.int .i64 nd_Kind, .int .i64 nd_A, .int .i64 nd_B, .int .i64 nd_C, .int .i64 nd_Next, .int .i64 nd_Val, .int .i64 nd_Pos, .string nd_Name]⟩] => S.parse_Parser_add p nd_Kind nd_A nd_B nd_C nd_Next nd_Val nd_Pos nd_Name w (fun r0 w' => K (.int .i64 r0) w')
  | _ => False
theorem T.ok189 : ∀ vs w K, T.c189 vs w K → (callFunc 189 vs.toArray).run Tryz.prog w = .ok (.enter 189 vs.toArray) w ∧ Calls Tryz.prog 189 vs.toArray w fun e w' => ∃ v, e = .returned v ∧ K v w' := by
  intro vs w K h
  unfold T.c189 at h
  split at h
  · refine ⟨Tryz.call189 _ _, ok_of T.CO189 mixed Tryz.func189 (T.eq189 _ _ _ _ _ _ _ _ _ _ _) h fun v w' hk => ⟨v, rfl, ?_⟩⟩
    split at hk
    · exact hk
    · exact hk.elim
  · exact h.elim

/-- (*e2e/parse.Parser).hang (function 146). -/
def S.parse_Parser_hang (p : Nat) (last : Int) (x : Int) (w : World) (K : Int → World → Prop) : Prop :=
  if (decide (x ≥ 0)) = true then
    if (decide (last ≥ 0)) = true then
      LdS w ⟨p, 3, none⟩ fun arena_1 =>
      Ix arena_1.a arena_1.l last fun b2 o3 =>
      St1 w ⟨b2, o3 + Int.toNat last * 8 + 4, none⟩ (.int .i64 x) fun w =>
      K x w
    else
      K x w
  else
    K x w
def T.C146 : CallT := CallT.nil
def T.A146 : Ann := fun _ => none
set_option maxRecDepth 1000000 in
theorem T.eq146 (p : Nat) (last : Int) (x : Int) (w : World) (K : Int → World → Prop) : denF Tryz.prog T.C146 T.A146 Tryz.f146 [.pointer (some ⟨p, 0, none⟩), .int .i64 last, .int .i64 x] w (fun v w' => match v with | .int .i64 r0 => K r0 w' | _ => False) = S.parse_Parser_hang p last x w K := by kernel_rfl
theorem T.CO146 : CallOk Tryz.prog T.C146 := CallOk.nil
def T.c146 (vs : List Value) (w : World) (K : Value → World → Prop) : Prop :=
  match vs with
  | [.pointer (some ⟨p, 0, none⟩), .int .i64 last, .int .i64 x] => S.parse_Parser_hang p last x w (fun r0 w' => K (.int .i64 r0) w')
  | _ => False
theorem T.ok146 : ∀ vs w K, T.c146 vs w K → (callFunc 146 vs.toArray).run Tryz.prog w = .ok (.enter 146 vs.toArray) w ∧ Calls Tryz.prog 146 vs.toArray w fun e w' => ∃ v, e = .returned v ∧ K v w' := by
  intro vs w K h
  unfold T.c146 at h
  split at h
  · refine ⟨Tryz.call146 _ _, ok_of T.CO146 mixed Tryz.func146 (T.eq146 _ _ _ _ _) h fun v w' hk => ⟨v, rfl, ?_⟩⟩
    split at hk
    · exact hk
    · exact hk.elim
  · exact h.elim

/-- (*e2e/parse.Parser).params (function 186). -/
def S.parse_Parser_params (p : Nat) (w : World) (K : Int → World → Prop) : Prop :=
  LoopP (σ := Int × Int × Unit) (fun st1 w next2 =>
    LdB w ⟨p, 5, none⟩ fun failed_3 =>
    if (!failed_3) = true then
      S.parse_Parser_kind p w (fun r4 w =>
      if (r4 != 18) = true then
        Join (fun (w : World) =>
          S.parse_Parser_at p w (fun r5 w =>
          S.parse_fresh 1 r5 w (fun Kind_6 A_7 B_8 C_9 Next_10 Val_11 Pos_12 Name_13 w =>
          New w (.cells #[.int .i64 0, .int .i64 0, .int .i64 0, .int .i64 0, .int .i64 0, .int .i64 0, .int .i64 0, .string ⟨#[]⟩] 150) fun p14 w =>
          St1 w ⟨p14, 0, none⟩ (.int .i64 Kind_6) fun w =>
          St1 w ⟨p14, 1, none⟩ (.int .i64 A_7) fun w =>
          St1 w ⟨p14, 2, none⟩ (.int .i64 B_8) fun w =>
          St1 w ⟨p14, 3, none⟩ (.int .i64 C_9) fun w =>
          St1 w ⟨p14, 4, none⟩ (.int .i64 Next_10) fun w =>
          St1 w ⟨p14, 5, none⟩ (.int .i64 Val_11) fun w =>
          St1 w ⟨p14, 6, none⟩ (.int .i64 Pos_12) fun w =>
          St1 w ⟨p14, 7, none⟩ (.string Name_13) fun w =>
          Drew w fun w =>
          LdS w ⟨p, 1, none⟩ fun toks_15 =>
          LdI .i64 w ⟨p, 2, none⟩ fun cur_16 =>
          Ix toks_15.a toks_15.l cur_16 fun b17 o18 =>
          LdStr w ⟨b17, o18 + Int.toNat cur_16 * 4 + 3, none⟩ fun Text_19 =>
          St1 w ⟨p14, 7, none⟩ (.string Text_19) fun w =>
          S.parse_Parser_take p 1 w (fun r20 w =>
          if (!r20) = true then
            K (-1) w
          else
            S.parse_Parser_typ p w (fun r21 w =>
            St1 w ⟨p14, 5, none⟩ (.int .i64 r21) fun w =>
            LdI .i64 w ⟨p14, 0, none⟩ fun Kind_22 =>
            LdI .i64 w ⟨p14, 1, none⟩ fun A_23 =>
            LdI .i64 w ⟨p14, 2, none⟩ fun B_24 =>
            LdI .i64 w ⟨p14, 3, none⟩ fun C_25 =>
            LdI .i64 w ⟨p14, 4, none⟩ fun Next_26 =>
            LdI .i64 w ⟨p14, 5, none⟩ fun Val_27 =>
            LdI .i64 w ⟨p14, 6, none⟩ fun Pos_28 =>
            LdStr w ⟨p14, 7, none⟩ fun Name_29 =>
            S.parse_Parser_add p Kind_22 A_23 B_24 C_25 Next_26 Val_27 Pos_28 Name_29 w (fun r30 w =>
            S.parse_Parser_hang p st1.2.1 r30 w (fun r31 w =>
            if (decide (st1.1 < 0)) = true then
              next2 (r31, r31, ()) w
            else
              next2 (st1.1, r31, ()) w))))))) fun J32 =>
        if (decide (st1.2.1 ≥ 0)) = true then
          S.parse_Parser_take p 23 w (fun r33 w =>
          if (!r33) = true then
            K (-1) w
          else
            J32 w)
        else
          J32 w
      else
        K st1.1 w)
    else
      K st1.1 w) (-1, -1, ()) w
def T.C186 : CallT := (CallT.cons 144 T.c144 (CallT.cons 183 T.c183 (CallT.cons 184 T.c184 (CallT.cons 185 T.c185 (CallT.cons 187 T.c187 (CallT.cons 189 T.c189 (CallT.cons 146 T.c146 CallT.nil)))))))
def T.A186 : Ann := fun i => bif Nat.beq i 2 then some ([0], [(3, 0), (4, 0)]) else none
set_option maxRecDepth 1000000 in
theorem T.eq186 (p : Nat) (w : World) (K : Int → World → Prop) : denF Tryz.prog T.C186 T.A186 Tryz.f186 [.pointer (some ⟨p, 0, none⟩)] w (fun v w' => match v with | .int .i64 r0 => K r0 w' | _ => False) = S.parse_Parser_params p w K := by kernel_rfl
theorem T.CO186 : CallOk Tryz.prog T.C186 := (CallOk.cons 144 T.ok144 (CallOk.cons 183 T.ok183 (CallOk.cons 184 T.ok184 (CallOk.cons 185 T.ok185 (CallOk.cons 187 T.ok187 (CallOk.cons 189 T.ok189 (CallOk.cons 146 T.ok146 CallOk.nil)))))))
def T.c186 (vs : List Value) (w : World) (K : Value → World → Prop) : Prop :=
  match vs with
  | [.pointer (some ⟨p, 0, none⟩)] => S.parse_Parser_params p w (fun r0 w' => K (.int .i64 r0) w')
  | _ => False
theorem T.ok186 : ∀ vs w K, T.c186 vs w K → (callFunc 186 vs.toArray).run Tryz.prog w = .ok (.enter 186 vs.toArray) w ∧ Calls Tryz.prog 186 vs.toArray w fun e w' => ∃ v, e = .returned v ∧ K v w' := by
  intro vs w K h
  unfold T.c186 at h
  split at h
  · refine ⟨Tryz.call186 _ _, ok_of T.CO186 mixed Tryz.func186 (T.eq186 _ _ _) h fun v w' hk => ⟨v, rfl, ?_⟩⟩
    split at hk
    · exact hk
    · exact hk.elim
  · exact h.elim

/-- (*e2e/parse.Parser).open (function 217). -/
def S.parse_Parser_open (p : Nat) (left : Int) (w : World) (K : Bool → World → Prop) : Prop :=
  if (decide (left ≤ 0)) = true then
    S.parse_Parser_at p w (fun r1 w =>
    S.parse_Parser_fail p 11 r1 w (fun r2 w =>
    K false w))
  else
    K true w
def T.C217 : CallT := (CallT.cons 184 T.c184 (CallT.cons 215 T.c215 CallT.nil))
def T.A217 : Ann := fun _ => none
set_option maxRecDepth 1000000 in
theorem T.eq217 (p : Nat) (left : Int) (w : World) (K : Bool → World → Prop) : denF Tryz.prog T.C217 T.A217 Tryz.f217 [.pointer (some ⟨p, 0, none⟩), .int .i64 left] w (fun v w' => match v with | .bool r0 => K r0 w' | _ => False) = S.parse_Parser_open p left w K := by kernel_rfl
theorem T.CO217 : CallOk Tryz.prog T.C217 := (CallOk.cons 184 T.ok184 (CallOk.cons 215 T.ok215 CallOk.nil))
def T.c217 (vs : List Value) (w : World) (K : Value → World → Prop) : Prop :=
  match vs with
  | [.pointer (some ⟨p, 0, none⟩), .int .i64 left] => S.parse_Parser_open p left w (fun r0 w' => K (.bool r0) w')
  | _ => False
theorem T.ok217 : ∀ vs w K, T.c217 vs w K → (callFunc 217 vs.toArray).run Tryz.prog w = .ok (.enter 217 vs.toArray) w ∧ Calls Tryz.prog 217 vs.toArray w fun e w' => ∃ v, e = .returned v ∧ K v w' := by
  intro vs w K h
  unfold T.c217 at h
  split at h
  · refine ⟨Tryz.call217 _ _, ok_of T.CO217 mixed Tryz.func217 (T.eq217 _ _ _ _) h fun v w' hk => ⟨v, rfl, ?_⟩⟩
    split at hk
    · exact hk
    · exact hk.elim
  · exact h.elim

/-- e2e/parse.power (function 241). -/
def S.parse_power (k : Int) (w : World) (K : Int → World → Prop) : Prop :=
  if (k == 38) = true then
    K 1 w
  else
    if (k == 37) = true then
      K 2 w
    else
      Join (fun (j_1 : Bool) (w : World) =>
        if j_1 = true then
          K 3 w
        else
          Join (fun (j_2 : Bool) (w : World) =>
            if j_2 = true then
              K 4 w
            else
              Join (fun (j_3 : Bool) (w : World) =>
                if j_3 = true then
                  K 5 w
                else
                  K 0 w) fun J4 =>
              if (k == 34) = true then
                J4 (k == 34) w
              else
                if (k == 35) = true then
                  J4 (k == 35) w
                else
                  J4 (k == 36) w) fun J5 =>
          if (k == 32) = true then
            J5 (k == 32) w
          else
            J5 (k == 33) w) fun J6 =>
      if (k == 26) = true then
        J6 (k == 26) w
      else
        if (k == 27) = true then
          J6 (k == 27) w
        else
          if (k == 28) = true then
            J6 (k == 28) w
          else
            if (k == 29) = true then
              J6 (k == 29) w
            else
              if (k == 30) = true then
                J6 (k == 30) w
              else
                J6 (k == 31) w
def T.C241 : CallT := CallT.nil
def T.A241 : Ann := fun i => bif Nat.beq i 1000010 then some ([], [(3, 0)]) else bif Nat.beq i 1000009 then some ([], [(3, 0)]) else bif Nat.beq i 1000008 then some ([], [(3, 0)]) else bif Nat.beq i 1000017 then some ([], [(3, 0)]) else bif Nat.beq i 1000016 then some ([], [(3, 0)]) else bif Nat.beq i 1000013 then some ([], [(3, 0)]) else bif Nat.beq i 1000007 then some ([], [(3, 0)]) else bif Nat.beq i 1000006 then some ([], [(3, 0)]) else bif Nat.beq i 1000004 then some ([], [(3, 0)]) else none
set_option maxRecDepth 1000000 in
theorem T.eq241 (k : Int) (w : World) (K : Int → World → Prop) : denF Tryz.prog T.C241 T.A241 Tryz.f241 [.int .i64 k] w (fun v w' => match v with | .int .i64 r0 => K r0 w' | _ => False) = S.parse_power k w K := by kernel_rfl
theorem T.CO241 : CallOk Tryz.prog T.C241 := CallOk.nil
def T.c241 (vs : List Value) (w : World) (K : Value → World → Prop) : Prop :=
  match vs with
  | [.int .i64 k] => S.parse_power k w (fun r0 w' => K (.int .i64 r0) w')
  | _ => False
theorem T.ok241 : ∀ vs w K, T.c241 vs w K → (callFunc 241 vs.toArray).run Tryz.prog w = .ok (.enter 241 vs.toArray) w ∧ Calls Tryz.prog 241 vs.toArray w fun e w' => ∃ v, e = .returned v ∧ K v w' := by
  intro vs w K h
  unfold T.c241 at h
  split at h
  · refine ⟨Tryz.call241 _ _, ok_of T.CO241 mixed Tryz.func241 (T.eq241 _ _ _) h fun v w' hk => ⟨v, rfl, ?_⟩⟩
    split at hk
    · exact hk
    · exact hk.elim
  · exact h.elim

/-- (*e2e/parse.Parser).binary (function 234): its body over the calls of its kin. -/
def B.parse_Parser_binary (R_parse_Parser_binary : Nat → Int → Int → World → (Int → World → Prop) → Prop) (R_parse_Parser_unary : Nat → Int → World → (Int → World → Prop) → Prop) (R_parse_Parser_postfix : Nat → Int → World → (Int → World → Prop) → Prop) (R_parse_Parser_primary : Nat → Int → World → (Int → World → Prop) → Prop) (R_parse_Parser_bracket : Nat → Int → World → (Int → World → Prop) → Prop) (R_parse_Parser_args : Nat → Int → World → (Int → World → Prop) → Prop) (p : Nat) (minPower : Int) (left : Int) (w : World) (K : Int → World → Prop) : Prop :=
  R_parse_Parser_unary p left w (fun r1 w =>
  LoopP (σ := Int × Unit) (fun st2 w next3 =>
    LdB w ⟨p, 5, none⟩ fun failed_4 =>
    if (!failed_4) = true then
      S.parse_Parser_kind p w (fun r5 w =>
      S.parse_power r5 w (fun r6 w =>
      if (decide (r6 < minPower)) = true then
        K st2.1 w
      else
        S.parse_Parser_at p w (fun r7 w =>
        S.parse_fresh 18 r7 w (fun Kind_8 A_9 B_10 C_11 Next_12 Val_13 Pos_14 Name_15 w =>
        New w (.cells #[.int .i64 0, .int .i64 0, .int .i64 0, .int .i64 0, .int .i64 0, .int .i64 0, .int .i64 0, .string ⟨#[]⟩] 150) fun p16 w =>
        St1 w ⟨p16, 0, none⟩ (.int .i64 Kind_8) fun w =>
        St1 w ⟨p16, 1, none⟩ (.int .i64 A_9) fun w =>
        St1 w ⟨p16, 2, none⟩ (.int .i64 B_10) fun w =>
        St1 w ⟨p16, 3, none⟩ (.int .i64 C_11) fun w =>
        St1 w ⟨p16, 4, none⟩ (.int .i64 Next_12) fun w =>
        St1 w ⟨p16, 5, none⟩ (.int .i64 Val_13) fun w =>
        St1 w ⟨p16, 6, none⟩ (.int .i64 Pos_14) fun w =>
        St1 w ⟨p16, 7, none⟩ (.string Name_15) fun w =>
        St1 w ⟨p16, 5, none⟩ (.int .i64 r5) fun w =>
        S.parse_Parser_step p w (fun w =>
        St1 w ⟨p16, 1, none⟩ (.int .i64 st2.1) fun w =>
        R_parse_Parser_binary p (W (r6 + 1)) left w (fun r17 w =>
        St1 w ⟨p16, 2, none⟩ (.int .i64 r17) fun w =>
        LdI .i64 w ⟨p16, 0, none⟩ fun Kind_18 =>
        LdI .i64 w ⟨p16, 1, none⟩ fun A_19 =>
        LdI .i64 w ⟨p16, 2, none⟩ fun B_20 =>
        LdI .i64 w ⟨p16, 3, none⟩ fun C_21 =>
        LdI .i64 w ⟨p16, 4, none⟩ fun Next_22 =>
        LdI .i64 w ⟨p16, 5, none⟩ fun Val_23 =>
        LdI .i64 w ⟨p16, 6, none⟩ fun Pos_24 =>
        LdStr w ⟨p16, 7, none⟩ fun Name_25 =>
        S.parse_Parser_add p Kind_18 A_19 B_20 C_21 Next_22 Val_23 Pos_24 Name_25 w (fun r26 w =>
        next3 (r26, ()) w)))))))
    else
      K st2.1 w) (r1, ()) w)
def T.r234 (R : Nat → Int → Int → World → (Int → World → Prop) → Prop) (vs : List Value) (w : World) (K : Value → World → Prop) : Prop :=
  match vs with
  | [.pointer (some ⟨p, 0, none⟩), .int .i64 minPower, .int .i64 left] => R p minPower left w (fun r0 w' => K (.int .i64 r0) w')
  | _ => False
def T.A234 : Ann := fun i => bif Nat.beq i 2 then some ([0, 1, 2], [(7, 0)]) else none
/-- (*e2e/parse.Parser).unary (function 240): its body over the calls of its kin. -/
def B.parse_Parser_unary (R_parse_Parser_binary : Nat → Int → Int → World → (Int → World → Prop) → Prop) (R_parse_Parser_unary : Nat → Int → World → (Int → World → Prop) → Prop) (R_parse_Parser_postfix : Nat → Int → World → (Int → World → Prop) → Prop) (R_parse_Parser_primary : Nat → Int → World → (Int → World → Prop) → Prop) (R_parse_Parser_bracket : Nat → Int → World → (Int → World → Prop) → Prop) (R_parse_Parser_args : Nat → Int → World → (Int → World → Prop) → Prop) (p : Nat) (left : Int) (w : World) (K : Int → World → Prop) : Prop :=
  LdI .i64 w ⟨p, 2, none⟩ fun cur_1 =>
  S.parse_Parser_kind p w (fun r2 w =>
  Join (fun (left_3 : Int) (w : World) =>
    LdI .i64 w ⟨p, 2, none⟩ fun cur_4 =>
    R_parse_Parser_postfix p left_3 w (fun r5 w =>
    Let (W (cur_4 - 1)) fun j_6 =>
    LoopP (σ := Int × Int × Unit) (fun st7 w next8 =>
      if (decide (st7.2.1 ≥ cur_1)) = true then
        LdB w ⟨p, 5, none⟩ fun failed_9 =>
        if (!failed_9) = true then
          LdS w ⟨p, 1, none⟩ fun toks_10 =>
          Ix toks_10.a toks_10.l st7.2.1 fun b11 o12 =>
          LdI .i64 w ⟨b11, o12 + Int.toNat st7.2.1 * 4 + 1, none⟩ fun Pos_13 =>
          S.parse_fresh 19 Pos_13 w (fun Kind_14 A_15 B_16 C_17 Next_18 Val_19 Pos_20 Name_21 w =>
          New w (.cells #[.int .i64 0, .int .i64 0, .int .i64 0, .int .i64 0, .int .i64 0, .int .i64 0, .int .i64 0, .string ⟨#[]⟩] 150) fun p22 w =>
          St1 w ⟨p22, 0, none⟩ (.int .i64 Kind_14) fun w =>
          St1 w ⟨p22, 1, none⟩ (.int .i64 A_15) fun w =>
          St1 w ⟨p22, 2, none⟩ (.int .i64 B_16) fun w =>
          St1 w ⟨p22, 3, none⟩ (.int .i64 C_17) fun w =>
          St1 w ⟨p22, 4, none⟩ (.int .i64 Next_18) fun w =>
          St1 w ⟨p22, 5, none⟩ (.int .i64 Val_19) fun w =>
          St1 w ⟨p22, 6, none⟩ (.int .i64 Pos_20) fun w =>
          St1 w ⟨p22, 7, none⟩ (.string Name_21) fun w =>
          LdS w ⟨p, 1, none⟩ fun toks_23 =>
          Ix toks_23.a toks_23.l st7.2.1 fun b24 o25 =>
          LdI .i64 w ⟨b24, o25 + Int.toNat st7.2.1 * 4, none⟩ fun Kind_26 =>
          St1 w ⟨p22, 5, none⟩ (.int .i64 Kind_26) fun w =>
          St1 w ⟨p22, 1, none⟩ (.int .i64 st7.1) fun w =>
          LdI .i64 w ⟨p22, 0, none⟩ fun Kind_27 =>
          LdI .i64 w ⟨p22, 1, none⟩ fun A_28 =>
          LdI .i64 w ⟨p22, 2, none⟩ fun B_29 =>
          LdI .i64 w ⟨p22, 3, none⟩ fun C_30 =>
          LdI .i64 w ⟨p22, 4, none⟩ fun Next_31 =>
          LdI .i64 w ⟨p22, 5, none⟩ fun Val_32 =>
          LdI .i64 w ⟨p22, 6, none⟩ fun Pos_33 =>
          LdStr w ⟨p22, 7, none⟩ fun Name_34 =>
          S.parse_Parser_add p Kind_27 A_28 B_29 C_30 Next_31 Val_32 Pos_33 Name_34 w (fun r35 w =>
          Let (W (st7.2.1 - 1)) fun j_36 =>
          next8 (r35, j_36, ()) w))
        else
          K st7.1 w
      else
        K st7.1 w) (r5, j_6, ()) w)) fun J37 =>
  LoopP (σ := Int × Int × Unit) (fun st38 w next39 =>
    Join (fun (w : World) =>
      S.parse_Parser_open p st38.1 w (fun r40 w =>
      if (!r40) = true then
        K (-1) w
      else
        Let (W (st38.1 - 1)) fun left_41 =>
        S.parse_Parser_step p w (fun w =>
        S.parse_Parser_kind p w (fun r42 w =>
        next39 (left_41, r42, ()) w)))) fun J43 =>
    if (st38.2.1 == 33) = true then
      J43 w
    else
      if (st38.2.1 == 39) = true then
        J43 w
      else
        J37 st38.1 w) (left, r2, ()) w)
def T.r240 (R : Nat → Int → World → (Int → World → Prop) → Prop) (vs : List Value) (w : World) (K : Value → World → Prop) : Prop :=
  match vs with
  | [.pointer (some ⟨p, 0, none⟩), .int .i64 left] => R p left w (fun r0 w' => K (.int .i64 r0) w')
  | _ => False
def T.A240 : Ann := fun i => bif Nat.beq i 3 then some ([0, 5], [(1, 0), (6, 0)]) else bif Nat.beq i 12 then some ([0, 5], [(8, 0), (9, 0)]) else none
/-- (*e2e/parse.Parser).Postfix (function 243): its body over the calls of its kin. -/
def B.parse_Parser_postfix (R_parse_Parser_binary : Nat → Int → Int → World → (Int → World → Prop) → Prop) (R_parse_Parser_unary : Nat → Int → World → (Int → World → Prop) → Prop) (R_parse_Parser_postfix : Nat → Int → World → (Int → World → Prop) → Prop) (R_parse_Parser_primary : Nat → Int → World → (Int → World → Prop) → Prop) (R_parse_Parser_bracket : Nat → Int → World → (Int → World → Prop) → Prop) (R_parse_Parser_args : Nat → Int → World → (Int → World → Prop) → Prop) (p : Nat) (left : Int) (w : World) (K : Int → World → Prop) : Prop :=
  R_parse_Parser_primary p left w (fun r1 w =>
  LoopP (σ := Int × Unit) (fun st2 w next3 =>
    LdB w ⟨p, 5, none⟩ fun failed_4 =>
    if (!failed_4) = true then
      S.parse_Parser_kind p w (fun r5 w =>
      if (r5 == 21) = true then
        S.parse_Parser_open p left w (fun r6 w =>
        if (!r6) = true then
          K (-1) w
        else
          S.parse_Parser_at p w (fun r7 w =>
          S.parse_fresh 14 r7 w (fun Kind_8 A_9 B_10 C_11 Next_12 Val_13 Pos_14 Name_15 w =>
          New w (.cells #[.int .i64 0, .int .i64 0, .int .i64 0, .int .i64 0, .int .i64 0, .int .i64 0, .int .i64 0, .string ⟨#[]⟩] 150) fun p16 w =>
          St1 w ⟨p16, 0, none⟩ (.int .i64 Kind_8) fun w =>
          St1 w ⟨p16, 1, none⟩ (.int .i64 A_9) fun w =>
          St1 w ⟨p16, 2, none⟩ (.int .i64 B_10) fun w =>
          St1 w ⟨p16, 3, none⟩ (.int .i64 C_11) fun w =>
          St1 w ⟨p16, 4, none⟩ (.int .i64 Next_12) fun w =>
          St1 w ⟨p16, 5, none⟩ (.int .i64 Val_13) fun w =>
          St1 w ⟨p16, 6, none⟩ (.int .i64 Pos_14) fun w =>
          St1 w ⟨p16, 7, none⟩ (.string Name_15) fun w =>
          S.parse_Parser_step p w (fun w =>
          St1 w ⟨p16, 1, none⟩ (.int .i64 st2.1) fun w =>
          R_parse_Parser_binary p 1 (W (left - 1)) w (fun r17 w =>
          St1 w ⟨p16, 2, none⟩ (.int .i64 r17) fun w =>
          S.parse_Parser_take p 22 w (fun r18 w =>
          if (!r18) = true then
            K (-1) w
          else
            LdI .i64 w ⟨p16, 0, none⟩ fun Kind_19 =>
            LdI .i64 w ⟨p16, 1, none⟩ fun A_20 =>
            LdI .i64 w ⟨p16, 2, none⟩ fun B_21 =>
            LdI .i64 w ⟨p16, 3, none⟩ fun C_22 =>
            LdI .i64 w ⟨p16, 4, none⟩ fun Next_23 =>
            LdI .i64 w ⟨p16, 5, none⟩ fun Val_24 =>
            LdI .i64 w ⟨p16, 6, none⟩ fun Pos_25 =>
            LdStr w ⟨p16, 7, none⟩ fun Name_26 =>
            S.parse_Parser_add p Kind_19 A_20 B_21 C_22 Next_23 Val_24 Pos_25 Name_26 w (fun r27 w =>
            next3 (r27, ()) w)))))))
      else
        K st2.1 w)
    else
      K st2.1 w) (r1, ()) w)
def T.r243 (R : Nat → Int → World → (Int → World → Prop) → Prop) (vs : List Value) (w : World) (K : Value → World → Prop) : Prop :=
  match vs with
  | [.pointer (some ⟨p, 0, none⟩), .int .i64 left] => R p left w (fun r0 w' => K (.int .i64 r0) w')
  | _ => False
def T.A243 : Ann := fun i => bif Nat.beq i 2 then some ([0, 1], [(5, 0)]) else none
/-- (*e2e/parse.Parser).primary (function 246): its body over the calls of its kin. -/
def B.parse_Parser_primary (R_parse_Parser_binary : Nat → Int → Int → World → (Int → World → Prop) → Prop) (R_parse_Parser_unary : Nat → Int → World → (Int → World → Prop) → Prop) (R_parse_Parser_postfix : Nat → Int → World → (Int → World → Prop) → Prop) (R_parse_Parser_primary : Nat → Int → World → (Int → World → Prop) → Prop) (R_parse_Parser_bracket : Nat → Int → World → (Int → World → Prop) → Prop) (R_parse_Parser_args : Nat → Int → World → (Int → World → Prop) → Prop) (p : Nat) (left : Int) (w : World) (K : Int → World → Prop) : Prop :=
  Drew w fun w =>
  Hold w ⟨p, 1, none⟩ 1 fun R1 =>
  LdS w ⟨p, 1, none⟩ fun toks_2 =>
  Hold w ⟨p, 2, none⟩ 1 fun R3 =>
  LdI .i64 w ⟨p, 2, none⟩ fun cur_4 =>
  Ix toks_2.a toks_2.l cur_4 fun b5 o6 =>
  Hold w ⟨b5, o6 + Int.toNat cur_4 * 4, none⟩ 4 fun R7 =>
  LdI .i64 w ⟨b5, o6 + Int.toNat cur_4 * 4, none⟩ fun Kind_8 =>
  LdI .i64 w ⟨b5, o6 + Int.toNat cur_4 * 4 + 1, none⟩ fun Pos_9 =>
  LdI .i64 w ⟨b5, o6 + Int.toNat cur_4 * 4 + 2, none⟩ fun Val_10 =>
  LdStr w ⟨b5, o6 + Int.toNat cur_4 * 4 + 3, none⟩ fun Text_11 =>
  New w (.cells #[.int .i64 0, .int .i64 0, .int .i64 0, .string ⟨#[]⟩] 196) fun p12 w =>
  After R7 w <|
  After R3 w <|
  After R1 w <|
  St1 w ⟨p12, 0, none⟩ (.int .i64 Kind_8) fun w =>
  St1 w ⟨p12, 1, none⟩ (.int .i64 Pos_9) fun w =>
  St1 w ⟨p12, 2, none⟩ (.int .i64 Val_10) fun w =>
  St1 w ⟨p12, 3, none⟩ (.string Text_11) fun w =>
  LdI .i64 w ⟨p12, 0, none⟩ fun Kind_13 =>
  if (Kind_13 == 2) = true then
    S.parse_Parser_step p w (fun w =>
    LdI .i64 w ⟨p12, 1, none⟩ fun Pos_14 =>
    S.parse_fresh 10 Pos_14 w (fun Kind_15 A_16 B_17 C_18 Next_19 Val_20 Pos_21 Name_22 w =>
    New w (.cells #[.int .i64 0, .int .i64 0, .int .i64 0, .int .i64 0, .int .i64 0, .int .i64 0, .int .i64 0, .string ⟨#[]⟩] 150) fun p23 w =>
    St1 w ⟨p23, 0, none⟩ (.int .i64 Kind_15) fun w =>
    St1 w ⟨p23, 1, none⟩ (.int .i64 A_16) fun w =>
    St1 w ⟨p23, 2, none⟩ (.int .i64 B_17) fun w =>
    St1 w ⟨p23, 3, none⟩ (.int .i64 C_18) fun w =>
    St1 w ⟨p23, 4, none⟩ (.int .i64 Next_19) fun w =>
    St1 w ⟨p23, 5, none⟩ (.int .i64 Val_20) fun w =>
    St1 w ⟨p23, 6, none⟩ (.int .i64 Pos_21) fun w =>
    St1 w ⟨p23, 7, none⟩ (.string Name_22) fun w =>
    LdI .i64 w ⟨p12, 2, none⟩ fun Val_24 =>
    St1 w ⟨p23, 5, none⟩ (.int .i64 Val_24) fun w =>
    LdI .i64 w ⟨p23, 0, none⟩ fun Kind_25 =>
    LdI .i64 w ⟨p23, 1, none⟩ fun A_26 =>
    LdI .i64 w ⟨p23, 2, none⟩ fun B_27 =>
    LdI .i64 w ⟨p23, 3, none⟩ fun C_28 =>
    LdI .i64 w ⟨p23, 4, none⟩ fun Next_29 =>
    LdI .i64 w ⟨p23, 5, none⟩ fun Val_30 =>
    LdI .i64 w ⟨p23, 6, none⟩ fun Pos_31 =>
    LdStr w ⟨p23, 7, none⟩ fun Name_32 =>
    S.parse_Parser_add p Kind_25 A_26 B_27 C_28 Next_29 Val_30 Pos_31 Name_32 w (fun r33 w =>
    K r33 w)))
  else
    if (Kind_13 == 10) = true then
      S.parse_Parser_step p w (fun w =>
      LdI .i64 w ⟨p12, 1, none⟩ fun Pos_34 =>
      S.parse_fresh 11 Pos_34 w (fun Kind_35 A_36 B_37 C_38 Next_39 Val_40 Pos_41 Name_42 w =>
      New w (.cells #[.int .i64 0, .int .i64 0, .int .i64 0, .int .i64 0, .int .i64 0, .int .i64 0, .int .i64 0, .string ⟨#[]⟩] 150) fun p43 w =>
      St1 w ⟨p43, 0, none⟩ (.int .i64 Kind_35) fun w =>
      St1 w ⟨p43, 1, none⟩ (.int .i64 A_36) fun w =>
      St1 w ⟨p43, 2, none⟩ (.int .i64 B_37) fun w =>
      St1 w ⟨p43, 3, none⟩ (.int .i64 C_38) fun w =>
      St1 w ⟨p43, 4, none⟩ (.int .i64 Next_39) fun w =>
      St1 w ⟨p43, 5, none⟩ (.int .i64 Val_40) fun w =>
      St1 w ⟨p43, 6, none⟩ (.int .i64 Pos_41) fun w =>
      St1 w ⟨p43, 7, none⟩ (.string Name_42) fun w =>
      St1 w ⟨p43, 5, none⟩ (.int .i64 1) fun w =>
      LdI .i64 w ⟨p43, 0, none⟩ fun Kind_44 =>
      LdI .i64 w ⟨p43, 1, none⟩ fun A_45 =>
      LdI .i64 w ⟨p43, 2, none⟩ fun B_46 =>
      LdI .i64 w ⟨p43, 3, none⟩ fun C_47 =>
      LdI .i64 w ⟨p43, 4, none⟩ fun Next_48 =>
      LdI .i64 w ⟨p43, 5, none⟩ fun Val_49 =>
      LdI .i64 w ⟨p43, 6, none⟩ fun Pos_50 =>
      LdStr w ⟨p43, 7, none⟩ fun Name_51 =>
      S.parse_Parser_add p Kind_44 A_45 B_46 C_47 Next_48 Val_49 Pos_50 Name_51 w (fun r52 w =>
      K r52 w)))
    else
      if (Kind_13 == 11) = true then
        S.parse_Parser_step p w (fun w =>
        LdI .i64 w ⟨p12, 1, none⟩ fun Pos_53 =>
        S.parse_fresh 11 Pos_53 w (fun Kind_54 A_55 B_56 C_57 Next_58 Val_59 Pos_60 Name_61 w =>
        New w (.cells #[.int .i64 0, .int .i64 0, .int .i64 0, .int .i64 0, .int .i64 0, .int .i64 0, .int .i64 0, .string ⟨#[]⟩] 150) fun p62 w =>
        St1 w ⟨p62, 0, none⟩ (.int .i64 Kind_54) fun w =>
        St1 w ⟨p62, 1, none⟩ (.int .i64 A_55) fun w =>
        St1 w ⟨p62, 2, none⟩ (.int .i64 B_56) fun w =>
        St1 w ⟨p62, 3, none⟩ (.int .i64 C_57) fun w =>
        St1 w ⟨p62, 4, none⟩ (.int .i64 Next_58) fun w =>
        St1 w ⟨p62, 5, none⟩ (.int .i64 Val_59) fun w =>
        St1 w ⟨p62, 6, none⟩ (.int .i64 Pos_60) fun w =>
        St1 w ⟨p62, 7, none⟩ (.string Name_61) fun w =>
        LdI .i64 w ⟨p62, 0, none⟩ fun Kind_63 =>
        LdI .i64 w ⟨p62, 1, none⟩ fun A_64 =>
        LdI .i64 w ⟨p62, 2, none⟩ fun B_65 =>
        LdI .i64 w ⟨p62, 3, none⟩ fun C_66 =>
        LdI .i64 w ⟨p62, 4, none⟩ fun Next_67 =>
        LdI .i64 w ⟨p62, 5, none⟩ fun Val_68 =>
        LdI .i64 w ⟨p62, 6, none⟩ fun Pos_69 =>
        LdStr w ⟨p62, 7, none⟩ fun Name_70 =>
        S.parse_Parser_add p Kind_63 A_64 B_65 C_66 Next_67 Val_68 Pos_69 Name_70 w (fun r71 w =>
        K r71 w)))
      else
        if (Kind_13 == 17) = true then
          R_parse_Parser_bracket p left w (fun r72 w =>
          K r72 w)
        else
          if (Kind_13 == 12) = true then
            S.parse_Parser_step p w (fun w =>
            LdI .i64 w ⟨p12, 1, none⟩ fun Pos_73 =>
            S.parse_fresh 15 Pos_73 w (fun Kind_74 A_75 B_76 C_77 Next_78 Val_79 Pos_80 Name_81 w =>
            New w (.cells #[.int .i64 0, .int .i64 0, .int .i64 0, .int .i64 0, .int .i64 0, .int .i64 0, .int .i64 0, .string ⟨#[]⟩] 150) fun p82 w =>
            St1 w ⟨p82, 0, none⟩ (.int .i64 Kind_74) fun w =>
            St1 w ⟨p82, 1, none⟩ (.int .i64 A_75) fun w =>
            St1 w ⟨p82, 2, none⟩ (.int .i64 B_76) fun w =>
            St1 w ⟨p82, 3, none⟩ (.int .i64 C_77) fun w =>
            St1 w ⟨p82, 4, none⟩ (.int .i64 Next_78) fun w =>
            St1 w ⟨p82, 5, none⟩ (.int .i64 Val_79) fun w =>
            St1 w ⟨p82, 6, none⟩ (.int .i64 Pos_80) fun w =>
            St1 w ⟨p82, 7, none⟩ (.string Name_81) fun w =>
            S.parse_Parser_typ p w (fun r83 w =>
            St1 w ⟨p82, 5, none⟩ (.int .i64 r83) fun w =>
            R_parse_Parser_bracket p left w (fun r84 w =>
            St1 w ⟨p82, 1, none⟩ (.int .i64 r84) fun w =>
            LdI .i64 w ⟨p82, 0, none⟩ fun Kind_85 =>
            LdI .i64 w ⟨p82, 1, none⟩ fun A_86 =>
            LdI .i64 w ⟨p82, 2, none⟩ fun B_87 =>
            LdI .i64 w ⟨p82, 3, none⟩ fun C_88 =>
            LdI .i64 w ⟨p82, 4, none⟩ fun Next_89 =>
            LdI .i64 w ⟨p82, 5, none⟩ fun Val_90 =>
            LdI .i64 w ⟨p82, 6, none⟩ fun Pos_91 =>
            LdStr w ⟨p82, 7, none⟩ fun Name_92 =>
            S.parse_Parser_add p Kind_85 A_86 B_87 C_88 Next_89 Val_90 Pos_91 Name_92 w (fun r93 w =>
            K r93 w)))))
          else
            if (Kind_13 == 13) = true then
              S.parse_Parser_step p w (fun w =>
              LdI .i64 w ⟨p12, 1, none⟩ fun Pos_94 =>
              S.parse_fresh 16 Pos_94 w (fun Kind_95 A_96 B_97 C_98 Next_99 Val_100 Pos_101 Name_102 w =>
              New w (.cells #[.int .i64 0, .int .i64 0, .int .i64 0, .int .i64 0, .int .i64 0, .int .i64 0, .int .i64 0, .string ⟨#[]⟩] 150) fun p103 w =>
              St1 w ⟨p103, 0, none⟩ (.int .i64 Kind_95) fun w =>
              St1 w ⟨p103, 1, none⟩ (.int .i64 A_96) fun w =>
              St1 w ⟨p103, 2, none⟩ (.int .i64 B_97) fun w =>
              St1 w ⟨p103, 3, none⟩ (.int .i64 C_98) fun w =>
              St1 w ⟨p103, 4, none⟩ (.int .i64 Next_99) fun w =>
              St1 w ⟨p103, 5, none⟩ (.int .i64 Val_100) fun w =>
              St1 w ⟨p103, 6, none⟩ (.int .i64 Pos_101) fun w =>
              St1 w ⟨p103, 7, none⟩ (.string Name_102) fun w =>
              R_parse_Parser_bracket p left w (fun r104 w =>
              St1 w ⟨p103, 1, none⟩ (.int .i64 r104) fun w =>
              LdI .i64 w ⟨p103, 0, none⟩ fun Kind_105 =>
              LdI .i64 w ⟨p103, 1, none⟩ fun A_106 =>
              LdI .i64 w ⟨p103, 2, none⟩ fun B_107 =>
              LdI .i64 w ⟨p103, 3, none⟩ fun C_108 =>
              LdI .i64 w ⟨p103, 4, none⟩ fun Next_109 =>
              LdI .i64 w ⟨p103, 5, none⟩ fun Val_110 =>
              LdI .i64 w ⟨p103, 6, none⟩ fun Pos_111 =>
              LdStr w ⟨p103, 7, none⟩ fun Name_112 =>
              S.parse_Parser_add p Kind_105 A_106 B_107 C_108 Next_109 Val_110 Pos_111 Name_112 w (fun r113 w =>
              K r113 w))))
            else
              if (Kind_13 == 14) = true then
                S.parse_Parser_step p w (fun w =>
                S.parse_Parser_take p 17 w (fun r114 w =>
                if (!r114) = true then
                  K (-1) w
                else
                  S.parse_Parser_take p 18 w (fun r115 w =>
                  if (!r115) = true then
                    K (-1) w
                  else
                    LdI .i64 w ⟨p12, 1, none⟩ fun Pos_116 =>
                    S.parse_fresh 17 Pos_116 w (fun Kind_117 A_118 B_119 C_120 Next_121 Val_122 Pos_123 Name_124 w =>
                    New w (.cells #[.int .i64 0, .int .i64 0, .int .i64 0, .int .i64 0, .int .i64 0, .int .i64 0, .int .i64 0, .string ⟨#[]⟩] 150) fun p125 w =>
                    St1 w ⟨p125, 0, none⟩ (.int .i64 Kind_117) fun w =>
                    St1 w ⟨p125, 1, none⟩ (.int .i64 A_118) fun w =>
                    St1 w ⟨p125, 2, none⟩ (.int .i64 B_119) fun w =>
                    St1 w ⟨p125, 3, none⟩ (.int .i64 C_120) fun w =>
                    St1 w ⟨p125, 4, none⟩ (.int .i64 Next_121) fun w =>
                    St1 w ⟨p125, 5, none⟩ (.int .i64 Val_122) fun w =>
                    St1 w ⟨p125, 6, none⟩ (.int .i64 Pos_123) fun w =>
                    St1 w ⟨p125, 7, none⟩ (.string Name_124) fun w =>
                    LdI .i64 w ⟨p125, 0, none⟩ fun Kind_126 =>
                    LdI .i64 w ⟨p125, 1, none⟩ fun A_127 =>
                    LdI .i64 w ⟨p125, 2, none⟩ fun B_128 =>
                    LdI .i64 w ⟨p125, 3, none⟩ fun C_129 =>
                    LdI .i64 w ⟨p125, 4, none⟩ fun Next_130 =>
                    LdI .i64 w ⟨p125, 5, none⟩ fun Val_131 =>
                    LdI .i64 w ⟨p125, 6, none⟩ fun Pos_132 =>
                    LdStr w ⟨p125, 7, none⟩ fun Name_133 =>
                    S.parse_Parser_add p Kind_126 A_127 B_128 C_129 Next_130 Val_131 Pos_132 Name_133 w (fun r134 w =>
                    K r134 w)))))
              else
                if (Kind_13 == 1) = true then
                  S.parse_Parser_step p w (fun w =>
                  LdI .i64 w ⟨p12, 1, none⟩ fun Pos_135 =>
                  S.parse_fresh 12 Pos_135 w (fun Kind_136 A_137 B_138 C_139 Next_140 Val_141 Pos_142 Name_143 w =>
                  New w (.cells #[.int .i64 0, .int .i64 0, .int .i64 0, .int .i64 0, .int .i64 0, .int .i64 0, .int .i64 0, .string ⟨#[]⟩] 150) fun p144 w =>
                  St1 w ⟨p144, 0, none⟩ (.int .i64 Kind_136) fun w =>
                  St1 w ⟨p144, 1, none⟩ (.int .i64 A_137) fun w =>
                  St1 w ⟨p144, 2, none⟩ (.int .i64 B_138) fun w =>
                  St1 w ⟨p144, 3, none⟩ (.int .i64 C_139) fun w =>
                  St1 w ⟨p144, 4, none⟩ (.int .i64 Next_140) fun w =>
                  St1 w ⟨p144, 5, none⟩ (.int .i64 Val_141) fun w =>
                  St1 w ⟨p144, 6, none⟩ (.int .i64 Pos_142) fun w =>
                  St1 w ⟨p144, 7, none⟩ (.string Name_143) fun w =>
                  LdStr w ⟨p12, 3, none⟩ fun Text_145 =>
                  St1 w ⟨p144, 7, none⟩ (.string Text_145) fun w =>
                  S.parse_Parser_kind p w (fun r146 w =>
                  Join (fun (w : World) =>
                    LdI .i64 w ⟨p144, 0, none⟩ fun Kind_147 =>
                    LdI .i64 w ⟨p144, 1, none⟩ fun A_148 =>
                    LdI .i64 w ⟨p144, 2, none⟩ fun B_149 =>
                    LdI .i64 w ⟨p144, 3, none⟩ fun C_150 =>
                    LdI .i64 w ⟨p144, 4, none⟩ fun Next_151 =>
                    LdI .i64 w ⟨p144, 5, none⟩ fun Val_152 =>
                    LdI .i64 w ⟨p144, 6, none⟩ fun Pos_153 =>
                    LdStr w ⟨p144, 7, none⟩ fun Name_154 =>
                    S.parse_Parser_add p Kind_147 A_148 B_149 C_150 Next_151 Val_152 Pos_153 Name_154 w (fun r155 w =>
                    K r155 w)) fun J156 =>
                  if (r146 == 17) = true then
                    St1 w ⟨p144, 0, none⟩ (.int .i64 13) fun w =>
                    R_parse_Parser_args p left w (fun r157 w =>
                    St1 w ⟨p144, 1, none⟩ (.int .i64 r157) fun w =>
                    J156 w)
                  else
                    J156 w)))
                else
                  LdI .i64 w ⟨p12, 1, none⟩ fun Pos_158 =>
                  S.parse_Parser_fail p 10 Pos_158 w (fun r159 w =>
                  K r159 w)
def T.r246 (R : Nat → Int → World → (Int → World → Prop) → Prop) (vs : List Value) (w : World) (K : Value → World → Prop) : Prop :=
  match vs with
  | [.pointer (some ⟨p, 0, none⟩), .int .i64 left] => R p left w (fun r0 w' => K (.int .i64 r0) w')
  | _ => False
def T.A246 : Ann := fun i => bif Nat.beq i 1000038 then some ([], [(0, 5), (1, 0), (5, 5), (24, 0)]) else bif Nat.beq i 1000030 then some ([], [(0, 5), (1, 0), (5, 5), (24, 0)]) else bif Nat.beq i 1000025 then some ([], [(0, 5), (1, 0), (5, 5), (24, 0)]) else bif Nat.beq i 1000019 then some ([], [(0, 5), (1, 0), (5, 5), (24, 0)]) else bif Nat.beq i 1000017 then some ([], [(0, 5), (1, 0), (5, 5), (24, 0)]) else bif Nat.beq i 1000013 then some ([], [(0, 5), (1, 0), (5, 5), (24, 0)]) else bif Nat.beq i 1000008 then some ([], [(0, 5), (1, 0), (5, 5), (24, 0)]) else none
/-- (*e2e/parse.Parser).bracket (function 248): its body over the calls of its kin. -/
def B.parse_Parser_bracket (R_parse_Parser_binary : Nat → Int → Int → World → (Int → World → Prop) → Prop) (R_parse_Parser_unary : Nat → Int → World → (Int → World → Prop) → Prop) (R_parse_Parser_postfix : Nat → Int → World → (Int → World → Prop) → Prop) (R_parse_Parser_primary : Nat → Int → World → (Int → World → Prop) → Prop) (R_parse_Parser_bracket : Nat → Int → World → (Int → World → Prop) → Prop) (R_parse_Parser_args : Nat → Int → World → (Int → World → Prop) → Prop) (p : Nat) (left : Int) (w : World) (K : Int → World → Prop) : Prop :=
  LdB w ⟨p, 5, none⟩ fun failed_1 =>
  if failed_1 = true then
    K (-1) w
  else
    S.parse_Parser_kind p w (fun r2 w =>
    if (r2 != 17) = true then
      S.parse_Parser_at p w (fun r3 w =>
      S.parse_Parser_fail p 10 r3 w (fun r4 w =>
      K r4 w))
    else
      S.parse_Parser_open p left w (fun r5 w =>
      if (!r5) = true then
        K (-1) w
      else
        S.parse_Parser_step p w (fun w =>
        R_parse_Parser_binary p 1 (W (left - 1)) w (fun r6 w =>
        S.parse_Parser_take p 18 w (fun r7 w =>
        if (!r7) = true then
          K (-1) w
        else
          K r6 w)))))
def T.r248 (R : Nat → Int → World → (Int → World → Prop) → Prop) (vs : List Value) (w : World) (K : Value → World → Prop) : Prop :=
  match vs with
  | [.pointer (some ⟨p, 0, none⟩), .int .i64 left] => R p left w (fun r0 w' => K (.int .i64 r0) w')
  | _ => False
def T.A248 : Ann := fun _ => none
/-- (*e2e/parse.Parser).args (function 249): its body over the calls of its kin. -/
def B.parse_Parser_args (R_parse_Parser_binary : Nat → Int → Int → World → (Int → World → Prop) → Prop) (R_parse_Parser_unary : Nat → Int → World → (Int → World → Prop) → Prop) (R_parse_Parser_postfix : Nat → Int → World → (Int → World → Prop) → Prop) (R_parse_Parser_primary : Nat → Int → World → (Int → World → Prop) → Prop) (R_parse_Parser_bracket : Nat → Int → World → (Int → World → Prop) → Prop) (R_parse_Parser_args : Nat → Int → World → (Int → World → Prop) → Prop) (p : Nat) (left : Int) (w : World) (K : Int → World → Prop) : Prop :=
  S.parse_Parser_open p left w (fun r1 w =>
  if (!r1) = true then
    K (-1) w
  else
    S.parse_Parser_step p w (fun w =>
    Join (fun (first_2 : Int) (w : World) =>
      S.parse_Parser_take p 18 w (fun r3 w =>
      if (!r3) = true then
        K (-1) w
      else
        K first_2 w)) fun J4 =>
    LoopP (σ := Int × Int × Unit) (fun st5 w next6 =>
      LdB w ⟨p, 5, none⟩ fun failed_7 =>
      if (!failed_7) = true then
        S.parse_Parser_kind p w (fun r8 w =>
        if (r8 != 18) = true then
          Join (fun (w : World) =>
            R_parse_Parser_binary p 1 (W (left - 1)) w (fun r9 w =>
            S.parse_Parser_hang p st5.2.1 r9 w (fun r10 w =>
            if (decide (st5.1 < 0)) = true then
              next6 (r10, r10, ()) w
            else
              next6 (st5.1, r10, ()) w))) fun J11 =>
          if (decide (st5.2.1 ≥ 0)) = true then
            S.parse_Parser_take p 23 w (fun r12 w =>
            if (!r12) = true then
              K (-1) w
            else
              J11 w)
          else
            J11 w
        else
          J4 st5.1 w)
      else
        J4 st5.1 w) (-1, -1, ()) w))
def T.r249 (R : Nat → Int → World → (Int → World → Prop) → Prop) (vs : List Value) (w : World) (K : Value → World → Prop) : Prop :=
  match vs with
  | [.pointer (some ⟨p, 0, none⟩), .int .i64 left] => R p left w (fun r0 w' => K (.int .i64 r0) w')
  | _ => False
def T.A249 : Ann := fun i => bif Nat.beq i 5 then some ([0, 1], [(5, 0), (6, 0)]) else none
def T.C234 (R_parse_Parser_binary : Nat → Int → Int → World → (Int → World → Prop) → Prop) (R_parse_Parser_unary : Nat → Int → World → (Int → World → Prop) → Prop) (R_parse_Parser_postfix : Nat → Int → World → (Int → World → Prop) → Prop) (R_parse_Parser_primary : Nat → Int → World → (Int → World → Prop) → Prop) (R_parse_Parser_bracket : Nat → Int → World → (Int → World → Prop) → Prop) (R_parse_Parser_args : Nat → Int → World → (Int → World → Prop) → Prop) : CallT := (CallT.cons 240 (T.r240 R_parse_Parser_unary) (CallT.cons 144 T.c144 (CallT.cons 241 T.c241 (CallT.cons 184 T.c184 (CallT.cons 185 T.c185 (CallT.cons 216 T.c216 (CallT.cons 234 (T.r234 R_parse_Parser_binary) (CallT.cons 189 T.c189 CallT.nil))))))))
set_option maxRecDepth 1000000 in
theorem T.eq234 (R_parse_Parser_binary : Nat → Int → Int → World → (Int → World → Prop) → Prop) (R_parse_Parser_unary : Nat → Int → World → (Int → World → Prop) → Prop) (R_parse_Parser_postfix : Nat → Int → World → (Int → World → Prop) → Prop) (R_parse_Parser_primary : Nat → Int → World → (Int → World → Prop) → Prop) (R_parse_Parser_bracket : Nat → Int → World → (Int → World → Prop) → Prop) (R_parse_Parser_args : Nat → Int → World → (Int → World → Prop) → Prop) (p : Nat) (minPower : Int) (left : Int) (w : World) (K : Int → World → Prop) : denF Tryz.prog (T.C234 R_parse_Parser_binary R_parse_Parser_unary R_parse_Parser_postfix R_parse_Parser_primary R_parse_Parser_bracket R_parse_Parser_args) T.A234 Tryz.f234 [.pointer (some ⟨p, 0, none⟩), .int .i64 minPower, .int .i64 left] w (fun v w' => match v with | .int .i64 r0 => K r0 w' | _ => False) = B.parse_Parser_binary R_parse_Parser_binary R_parse_Parser_unary R_parse_Parser_postfix R_parse_Parser_primary R_parse_Parser_bracket R_parse_Parser_args p minPower left w K := by kernel_rfl
def T.C240 (R_parse_Parser_binary : Nat → Int → Int → World → (Int → World → Prop) → Prop) (R_parse_Parser_unary : Nat → Int → World → (Int → World → Prop) → Prop) (R_parse_Parser_postfix : Nat → Int → World → (Int → World → Prop) → Prop) (R_parse_Parser_primary : Nat → Int → World → (Int → World → Prop) → Prop) (R_parse_Parser_bracket : Nat → Int → World → (Int → World → Prop) → Prop) (R_parse_Parser_args : Nat → Int → World → (Int → World → Prop) → Prop) : CallT := (CallT.cons 144 T.c144 (CallT.cons 243 (T.r243 R_parse_Parser_postfix) (CallT.cons 185 T.c185 (CallT.cons 189 T.c189 (CallT.cons 217 T.c217 (CallT.cons 216 T.c216 CallT.nil))))))
set_option maxRecDepth 1000000 in
theorem T.eq240 (R_parse_Parser_binary : Nat → Int → Int → World → (Int → World → Prop) → Prop) (R_parse_Parser_unary : Nat → Int → World → (Int → World → Prop) → Prop) (R_parse_Parser_postfix : Nat → Int → World → (Int → World → Prop) → Prop) (R_parse_Parser_primary : Nat → Int → World → (Int → World → Prop) → Prop) (R_parse_Parser_bracket : Nat → Int → World → (Int → World → Prop) → Prop) (R_parse_Parser_args : Nat → Int → World → (Int → World → Prop) → Prop) (p : Nat) (left : Int) (w : World) (K : Int → World → Prop) : denF Tryz.prog (T.C240 R_parse_Parser_binary R_parse_Parser_unary R_parse_Parser_postfix R_parse_Parser_primary R_parse_Parser_bracket R_parse_Parser_args) T.A240 Tryz.f240 [.pointer (some ⟨p, 0, none⟩), .int .i64 left] w (fun v w' => match v with | .int .i64 r0 => K r0 w' | _ => False) = B.parse_Parser_unary R_parse_Parser_binary R_parse_Parser_unary R_parse_Parser_postfix R_parse_Parser_primary R_parse_Parser_bracket R_parse_Parser_args p left w K := by kernel_rfl
def T.C243 (R_parse_Parser_binary : Nat → Int → Int → World → (Int → World → Prop) → Prop) (R_parse_Parser_unary : Nat → Int → World → (Int → World → Prop) → Prop) (R_parse_Parser_postfix : Nat → Int → World → (Int → World → Prop) → Prop) (R_parse_Parser_primary : Nat → Int → World → (Int → World → Prop) → Prop) (R_parse_Parser_bracket : Nat → Int → World → (Int → World → Prop) → Prop) (R_parse_Parser_args : Nat → Int → World → (Int → World → Prop) → Prop) : CallT := (CallT.cons 246 (T.r246 R_parse_Parser_primary) (CallT.cons 144 T.c144 (CallT.cons 217 T.c217 (CallT.cons 184 T.c184 (CallT.cons 185 T.c185 (CallT.cons 216 T.c216 (CallT.cons 234 (T.r234 R_parse_Parser_binary) (CallT.cons 183 T.c183 (CallT.cons 189 T.c189 CallT.nil)))))))))
set_option maxRecDepth 1000000 in
theorem T.eq243 (R_parse_Parser_binary : Nat → Int → Int → World → (Int → World → Prop) → Prop) (R_parse_Parser_unary : Nat → Int → World → (Int → World → Prop) → Prop) (R_parse_Parser_postfix : Nat → Int → World → (Int → World → Prop) → Prop) (R_parse_Parser_primary : Nat → Int → World → (Int → World → Prop) → Prop) (R_parse_Parser_bracket : Nat → Int → World → (Int → World → Prop) → Prop) (R_parse_Parser_args : Nat → Int → World → (Int → World → Prop) → Prop) (p : Nat) (left : Int) (w : World) (K : Int → World → Prop) : denF Tryz.prog (T.C243 R_parse_Parser_binary R_parse_Parser_unary R_parse_Parser_postfix R_parse_Parser_primary R_parse_Parser_bracket R_parse_Parser_args) T.A243 Tryz.f243 [.pointer (some ⟨p, 0, none⟩), .int .i64 left] w (fun v w' => match v with | .int .i64 r0 => K r0 w' | _ => False) = B.parse_Parser_postfix R_parse_Parser_binary R_parse_Parser_unary R_parse_Parser_postfix R_parse_Parser_primary R_parse_Parser_bracket R_parse_Parser_args p left w K := by kernel_rfl
def T.C246 (R_parse_Parser_binary : Nat → Int → Int → World → (Int → World → Prop) → Prop) (R_parse_Parser_unary : Nat → Int → World → (Int → World → Prop) → Prop) (R_parse_Parser_postfix : Nat → Int → World → (Int → World → Prop) → Prop) (R_parse_Parser_primary : Nat → Int → World → (Int → World → Prop) → Prop) (R_parse_Parser_bracket : Nat → Int → World → (Int → World → Prop) → Prop) (R_parse_Parser_args : Nat → Int → World → (Int → World → Prop) → Prop) : CallT := (CallT.cons 216 T.c216 (CallT.cons 185 T.c185 (CallT.cons 189 T.c189 (CallT.cons 248 (T.r248 R_parse_Parser_bracket) (CallT.cons 187 T.c187 (CallT.cons 183 T.c183 (CallT.cons 144 T.c144 (CallT.cons 249 (T.r249 R_parse_Parser_args) (CallT.cons 215 T.c215 CallT.nil)))))))))
set_option maxRecDepth 1000000 in
theorem T.eq246 (R_parse_Parser_binary : Nat → Int → Int → World → (Int → World → Prop) → Prop) (R_parse_Parser_unary : Nat → Int → World → (Int → World → Prop) → Prop) (R_parse_Parser_postfix : Nat → Int → World → (Int → World → Prop) → Prop) (R_parse_Parser_primary : Nat → Int → World → (Int → World → Prop) → Prop) (R_parse_Parser_bracket : Nat → Int → World → (Int → World → Prop) → Prop) (R_parse_Parser_args : Nat → Int → World → (Int → World → Prop) → Prop) (p : Nat) (left : Int) (w : World) (K : Int → World → Prop) : denF Tryz.prog (T.C246 R_parse_Parser_binary R_parse_Parser_unary R_parse_Parser_postfix R_parse_Parser_primary R_parse_Parser_bracket R_parse_Parser_args) T.A246 Tryz.f246 [.pointer (some ⟨p, 0, none⟩), .int .i64 left] w (fun v w' => match v with | .int .i64 r0 => K r0 w' | _ => False) = B.parse_Parser_primary R_parse_Parser_binary R_parse_Parser_unary R_parse_Parser_postfix R_parse_Parser_primary R_parse_Parser_bracket R_parse_Parser_args p left w K := by kernel_rfl
def T.C248 (R_parse_Parser_binary : Nat → Int → Int → World → (Int → World → Prop) → Prop) (R_parse_Parser_unary : Nat → Int → World → (Int → World → Prop) → Prop) (R_parse_Parser_postfix : Nat → Int → World → (Int → World → Prop) → Prop) (R_parse_Parser_primary : Nat → Int → World → (Int → World → Prop) → Prop) (R_parse_Parser_bracket : Nat → Int → World → (Int → World → Prop) → Prop) (R_parse_Parser_args : Nat → Int → World → (Int → World → Prop) → Prop) : CallT := (CallT.cons 144 T.c144 (CallT.cons 184 T.c184 (CallT.cons 215 T.c215 (CallT.cons 217 T.c217 (CallT.cons 216 T.c216 (CallT.cons 234 (T.r234 R_parse_Parser_binary) (CallT.cons 183 T.c183 CallT.nil)))))))
set_option maxRecDepth 1000000 in
theorem T.eq248 (R_parse_Parser_binary : Nat → Int → Int → World → (Int → World → Prop) → Prop) (R_parse_Parser_unary : Nat → Int → World → (Int → World → Prop) → Prop) (R_parse_Parser_postfix : Nat → Int → World → (Int → World → Prop) → Prop) (R_parse_Parser_primary : Nat → Int → World → (Int → World → Prop) → Prop) (R_parse_Parser_bracket : Nat → Int → World → (Int → World → Prop) → Prop) (R_parse_Parser_args : Nat → Int → World → (Int → World → Prop) → Prop) (p : Nat) (left : Int) (w : World) (K : Int → World → Prop) : denF Tryz.prog (T.C248 R_parse_Parser_binary R_parse_Parser_unary R_parse_Parser_postfix R_parse_Parser_primary R_parse_Parser_bracket R_parse_Parser_args) T.A248 Tryz.f248 [.pointer (some ⟨p, 0, none⟩), .int .i64 left] w (fun v w' => match v with | .int .i64 r0 => K r0 w' | _ => False) = B.parse_Parser_bracket R_parse_Parser_binary R_parse_Parser_unary R_parse_Parser_postfix R_parse_Parser_primary R_parse_Parser_bracket R_parse_Parser_args p left w K := by kernel_rfl
def T.C249 (R_parse_Parser_binary : Nat → Int → Int → World → (Int → World → Prop) → Prop) (R_parse_Parser_unary : Nat → Int → World → (Int → World → Prop) → Prop) (R_parse_Parser_postfix : Nat → Int → World → (Int → World → Prop) → Prop) (R_parse_Parser_primary : Nat → Int → World → (Int → World → Prop) → Prop) (R_parse_Parser_bracket : Nat → Int → World → (Int → World → Prop) → Prop) (R_parse_Parser_args : Nat → Int → World → (Int → World → Prop) → Prop) : CallT := (CallT.cons 217 T.c217 (CallT.cons 216 T.c216 (CallT.cons 183 T.c183 (CallT.cons 144 T.c144 (CallT.cons 234 (T.r234 R_parse_Parser_binary) (CallT.cons 146 T.c146 CallT.nil))))))
set_option maxRecDepth 1000000 in
theorem T.eq249 (R_parse_Parser_binary : Nat → Int → Int → World → (Int → World → Prop) → Prop) (R_parse_Parser_unary : Nat → Int → World → (Int → World → Prop) → Prop) (R_parse_Parser_postfix : Nat → Int → World → (Int → World → Prop) → Prop) (R_parse_Parser_primary : Nat → Int → World → (Int → World → Prop) → Prop) (R_parse_Parser_bracket : Nat → Int → World → (Int → World → Prop) → Prop) (R_parse_Parser_args : Nat → Int → World → (Int → World → Prop) → Prop) (p : Nat) (left : Int) (w : World) (K : Int → World → Prop) : denF Tryz.prog (T.C249 R_parse_Parser_binary R_parse_Parser_unary R_parse_Parser_postfix R_parse_Parser_primary R_parse_Parser_bracket R_parse_Parser_args) T.A249 Tryz.f249 [.pointer (some ⟨p, 0, none⟩), .int .i64 left] w (fun v w' => match v with | .int .i64 r0 => K r0 w' | _ => False) = B.parse_Parser_args R_parse_Parser_binary R_parse_Parser_unary R_parse_Parser_postfix R_parse_Parser_primary R_parse_Parser_bracket R_parse_Parser_args p left w K := by kernel_rfl
/-- The specifications hold of the bodies. -/
def T.G234 (P_parse_Parser_binary : Nat → Nat → Int → Int → World → (Int → World → Prop) → Prop) (P_parse_Parser_unary : Nat → Nat → Int → World → (Int → World → Prop) → Prop) (P_parse_Parser_postfix : Nat → Nat → Int → World → (Int → World → Prop) → Prop) (P_parse_Parser_primary : Nat → Nat → Int → World → (Int → World → Prop) → Prop) (P_parse_Parser_bracket : Nat → Nat → Int → World → (Int → World → Prop) → Prop) (P_parse_Parser_args : Nat → Nat → Int → World → (Int → World → Prop) → Prop) : Prop :=
  (∀ (n : Nat) (p : Nat) (minPower : Int) (left : Int) (w : World) (K : Int → World → Prop), P_parse_Parser_binary n p minPower left w K → B.parse_Parser_binary (fun x0 x1 x2 w K => ∃ m, m < n ∧ P_parse_Parser_binary m x0 x1 x2 w K) (fun x0 x1 w K => ∃ m, m < n ∧ P_parse_Parser_unary m x0 x1 w K) (fun x0 x1 w K => ∃ m, m < n ∧ P_parse_Parser_postfix m x0 x1 w K) (fun x0 x1 w K => ∃ m, m < n ∧ P_parse_Parser_primary m x0 x1 w K) (fun x0 x1 w K => ∃ m, m < n ∧ P_parse_Parser_bracket m x0 x1 w K) (fun x0 x1 w K => ∃ m, m < n ∧ P_parse_Parser_args m x0 x1 w K) p minPower left w K) ∧
  (∀ (n : Nat) (p : Nat) (left : Int) (w : World) (K : Int → World → Prop), P_parse_Parser_unary n p left w K → B.parse_Parser_unary (fun x0 x1 x2 w K => ∃ m, m < n ∧ P_parse_Parser_binary m x0 x1 x2 w K) (fun x0 x1 w K => ∃ m, m < n ∧ P_parse_Parser_unary m x0 x1 w K) (fun x0 x1 w K => ∃ m, m < n ∧ P_parse_Parser_postfix m x0 x1 w K) (fun x0 x1 w K => ∃ m, m < n ∧ P_parse_Parser_primary m x0 x1 w K) (fun x0 x1 w K => ∃ m, m < n ∧ P_parse_Parser_bracket m x0 x1 w K) (fun x0 x1 w K => ∃ m, m < n ∧ P_parse_Parser_args m x0 x1 w K) p left w K) ∧
  (∀ (n : Nat) (p : Nat) (left : Int) (w : World) (K : Int → World → Prop), P_parse_Parser_postfix n p left w K → B.parse_Parser_postfix (fun x0 x1 x2 w K => ∃ m, m < n ∧ P_parse_Parser_binary m x0 x1 x2 w K) (fun x0 x1 w K => ∃ m, m < n ∧ P_parse_Parser_unary m x0 x1 w K) (fun x0 x1 w K => ∃ m, m < n ∧ P_parse_Parser_postfix m x0 x1 w K) (fun x0 x1 w K => ∃ m, m < n ∧ P_parse_Parser_primary m x0 x1 w K) (fun x0 x1 w K => ∃ m, m < n ∧ P_parse_Parser_bracket m x0 x1 w K) (fun x0 x1 w K => ∃ m, m < n ∧ P_parse_Parser_args m x0 x1 w K) p left w K) ∧
  (∀ (n : Nat) (p : Nat) (left : Int) (w : World) (K : Int → World → Prop), P_parse_Parser_primary n p left w K → B.parse_Parser_primary (fun x0 x1 x2 w K => ∃ m, m < n ∧ P_parse_Parser_binary m x0 x1 x2 w K) (fun x0 x1 w K => ∃ m, m < n ∧ P_parse_Parser_unary m x0 x1 w K) (fun x0 x1 w K => ∃ m, m < n ∧ P_parse_Parser_postfix m x0 x1 w K) (fun x0 x1 w K => ∃ m, m < n ∧ P_parse_Parser_primary m x0 x1 w K) (fun x0 x1 w K => ∃ m, m < n ∧ P_parse_Parser_bracket m x0 x1 w K) (fun x0 x1 w K => ∃ m, m < n ∧ P_parse_Parser_args m x0 x1 w K) p left w K) ∧
  (∀ (n : Nat) (p : Nat) (left : Int) (w : World) (K : Int → World → Prop), P_parse_Parser_bracket n p left w K → B.parse_Parser_bracket (fun x0 x1 x2 w K => ∃ m, m < n ∧ P_parse_Parser_binary m x0 x1 x2 w K) (fun x0 x1 w K => ∃ m, m < n ∧ P_parse_Parser_unary m x0 x1 w K) (fun x0 x1 w K => ∃ m, m < n ∧ P_parse_Parser_postfix m x0 x1 w K) (fun x0 x1 w K => ∃ m, m < n ∧ P_parse_Parser_primary m x0 x1 w K) (fun x0 x1 w K => ∃ m, m < n ∧ P_parse_Parser_bracket m x0 x1 w K) (fun x0 x1 w K => ∃ m, m < n ∧ P_parse_Parser_args m x0 x1 w K) p left w K) ∧
  (∀ (n : Nat) (p : Nat) (left : Int) (w : World) (K : Int → World → Prop), P_parse_Parser_args n p left w K → B.parse_Parser_args (fun x0 x1 x2 w K => ∃ m, m < n ∧ P_parse_Parser_binary m x0 x1 x2 w K) (fun x0 x1 w K => ∃ m, m < n ∧ P_parse_Parser_unary m x0 x1 w K) (fun x0 x1 w K => ∃ m, m < n ∧ P_parse_Parser_postfix m x0 x1 w K) (fun x0 x1 w K => ∃ m, m < n ∧ P_parse_Parser_primary m x0 x1 w K) (fun x0 x1 w K => ∃ m, m < n ∧ P_parse_Parser_bracket m x0 x1 w K) (fun x0 x1 w K => ∃ m, m < n ∧ P_parse_Parser_args m x0 x1 w K) p left w K)
/-- (*e2e/parse.Parser).binary (function 234). -/
def S.parse_Parser_binary (p : Nat) (minPower : Int) (left : Int) (w : World) (K : Int → World → Prop) : Prop :=
  ∃ (P_parse_Parser_binary : Nat → Nat → Int → Int → World → (Int → World → Prop) → Prop) (P_parse_Parser_unary : Nat → Nat → Int → World → (Int → World → Prop) → Prop) (P_parse_Parser_postfix : Nat → Nat → Int → World → (Int → World → Prop) → Prop) (P_parse_Parser_primary : Nat → Nat → Int → World → (Int → World → Prop) → Prop) (P_parse_Parser_bracket : Nat → Nat → Int → World → (Int → World → Prop) → Prop) (P_parse_Parser_args : Nat → Nat → Int → World → (Int → World → Prop) → Prop), T.G234 P_parse_Parser_binary P_parse_Parser_unary P_parse_Parser_postfix P_parse_Parser_primary P_parse_Parser_bracket P_parse_Parser_args ∧ ∃ n, P_parse_Parser_binary n p minPower left w K
def T.c234 (vs : List Value) (w : World) (K : Value → World → Prop) : Prop :=
  match vs with
  | [.pointer (some ⟨p, 0, none⟩), .int .i64 minPower, .int .i64 left] => S.parse_Parser_binary p minPower left w (fun r0 w' => K (.int .i64 r0) w')
  | _ => False
/-- (*e2e/parse.Parser).unary (function 240). -/
def S.parse_Parser_unary (p : Nat) (left : Int) (w : World) (K : Int → World → Prop) : Prop :=
  ∃ (P_parse_Parser_binary : Nat → Nat → Int → Int → World → (Int → World → Prop) → Prop) (P_parse_Parser_unary : Nat → Nat → Int → World → (Int → World → Prop) → Prop) (P_parse_Parser_postfix : Nat → Nat → Int → World → (Int → World → Prop) → Prop) (P_parse_Parser_primary : Nat → Nat → Int → World → (Int → World → Prop) → Prop) (P_parse_Parser_bracket : Nat → Nat → Int → World → (Int → World → Prop) → Prop) (P_parse_Parser_args : Nat → Nat → Int → World → (Int → World → Prop) → Prop), T.G234 P_parse_Parser_binary P_parse_Parser_unary P_parse_Parser_postfix P_parse_Parser_primary P_parse_Parser_bracket P_parse_Parser_args ∧ ∃ n, P_parse_Parser_unary n p left w K
def T.c240 (vs : List Value) (w : World) (K : Value → World → Prop) : Prop :=
  match vs with
  | [.pointer (some ⟨p, 0, none⟩), .int .i64 left] => S.parse_Parser_unary p left w (fun r0 w' => K (.int .i64 r0) w')
  | _ => False
/-- (*e2e/parse.Parser).Postfix (function 243). -/
def S.parse_Parser_postfix (p : Nat) (left : Int) (w : World) (K : Int → World → Prop) : Prop :=
  ∃ (P_parse_Parser_binary : Nat → Nat → Int → Int → World → (Int → World → Prop) → Prop) (P_parse_Parser_unary : Nat → Nat → Int → World → (Int → World → Prop) → Prop) (P_parse_Parser_postfix : Nat → Nat → Int → World → (Int → World → Prop) → Prop) (P_parse_Parser_primary : Nat → Nat → Int → World → (Int → World → Prop) → Prop) (P_parse_Parser_bracket : Nat → Nat → Int → World → (Int → World → Prop) → Prop) (P_parse_Parser_args : Nat → Nat → Int → World → (Int → World → Prop) → Prop), T.G234 P_parse_Parser_binary P_parse_Parser_unary P_parse_Parser_postfix P_parse_Parser_primary P_parse_Parser_bracket P_parse_Parser_args ∧ ∃ n, P_parse_Parser_postfix n p left w K
def T.c243 (vs : List Value) (w : World) (K : Value → World → Prop) : Prop :=
  match vs with
  | [.pointer (some ⟨p, 0, none⟩), .int .i64 left] => S.parse_Parser_postfix p left w (fun r0 w' => K (.int .i64 r0) w')
  | _ => False
/-- (*e2e/parse.Parser).primary (function 246). -/
def S.parse_Parser_primary (p : Nat) (left : Int) (w : World) (K : Int → World → Prop) : Prop :=
  ∃ (P_parse_Parser_binary : Nat → Nat → Int → Int → World → (Int → World → Prop) → Prop) (P_parse_Parser_unary : Nat → Nat → Int → World → (Int → World → Prop) → Prop) (P_parse_Parser_postfix : Nat → Nat → Int → World → (Int → World → Prop) → Prop) (P_parse_Parser_primary : Nat → Nat → Int → World → (Int → World → Prop) → Prop) (P_parse_Parser_bracket : Nat → Nat → Int → World → (Int → World → Prop) → Prop) (P_parse_Parser_args : Nat → Nat → Int → World → (Int → World → Prop) → Prop), T.G234 P_parse_Parser_binary P_parse_Parser_unary P_parse_Parser_postfix P_parse_Parser_primary P_parse_Parser_bracket P_parse_Parser_args ∧ ∃ n, P_parse_Parser_primary n p left w K
def T.c246 (vs : List Value) (w : World) (K : Value → World → Prop) : Prop :=
  match vs with
  | [.pointer (some ⟨p, 0, none⟩), .int .i64 left] => S.parse_Parser_primary p left w (fun r0 w' => K (.int .i64 r0) w')
  | _ => False
/-- (*e2e/parse.Parser).bracket (function 248). -/
def S.parse_Parser_bracket (p : Nat) (left : Int) (w : World) (K : Int → World → Prop) : Prop :=
  ∃ (P_parse_Parser_binary : Nat → Nat → Int → Int → World → (Int → World → Prop) → Prop) (P_parse_Parser_unary : Nat → Nat → Int → World → (Int → World → Prop) → Prop) (P_parse_Parser_postfix : Nat → Nat → Int → World → (Int → World → Prop) → Prop) (P_parse_Parser_primary : Nat → Nat → Int → World → (Int → World → Prop) → Prop) (P_parse_Parser_bracket : Nat → Nat → Int → World → (Int → World → Prop) → Prop) (P_parse_Parser_args : Nat → Nat → Int → World → (Int → World → Prop) → Prop), T.G234 P_parse_Parser_binary P_parse_Parser_unary P_parse_Parser_postfix P_parse_Parser_primary P_parse_Parser_bracket P_parse_Parser_args ∧ ∃ n, P_parse_Parser_bracket n p left w K
def T.c248 (vs : List Value) (w : World) (K : Value → World → Prop) : Prop :=
  match vs with
  | [.pointer (some ⟨p, 0, none⟩), .int .i64 left] => S.parse_Parser_bracket p left w (fun r0 w' => K (.int .i64 r0) w')
  | _ => False
/-- (*e2e/parse.Parser).args (function 249). -/
def S.parse_Parser_args (p : Nat) (left : Int) (w : World) (K : Int → World → Prop) : Prop :=
  ∃ (P_parse_Parser_binary : Nat → Nat → Int → Int → World → (Int → World → Prop) → Prop) (P_parse_Parser_unary : Nat → Nat → Int → World → (Int → World → Prop) → Prop) (P_parse_Parser_postfix : Nat → Nat → Int → World → (Int → World → Prop) → Prop) (P_parse_Parser_primary : Nat → Nat → Int → World → (Int → World → Prop) → Prop) (P_parse_Parser_bracket : Nat → Nat → Int → World → (Int → World → Prop) → Prop) (P_parse_Parser_args : Nat → Nat → Int → World → (Int → World → Prop) → Prop), T.G234 P_parse_Parser_binary P_parse_Parser_unary P_parse_Parser_postfix P_parse_Parser_primary P_parse_Parser_bracket P_parse_Parser_args ∧ ∃ n, P_parse_Parser_args n p left w K
def T.c249 (vs : List Value) (w : World) (K : Value → World → Prop) : Prop :=
  match vs with
  | [.pointer (some ⟨p, 0, none⟩), .int .i64 left] => S.parse_Parser_args p left w (fun r0 w' => K (.int .i64 r0) w')
  | _ => False
theorem T.all234 (P_parse_Parser_binary : Nat → Nat → Int → Int → World → (Int → World → Prop) → Prop) (P_parse_Parser_unary : Nat → Nat → Int → World → (Int → World → Prop) → Prop) (P_parse_Parser_postfix : Nat → Nat → Int → World → (Int → World → Prop) → Prop) (P_parse_Parser_primary : Nat → Nat → Int → World → (Int → World → Prop) → Prop) (P_parse_Parser_bracket : Nat → Nat → Int → World → (Int → World → Prop) → Prop) (P_parse_Parser_args : Nat → Nat → Int → World → (Int → World → Prop) → Prop) (h : T.G234 P_parse_Parser_binary P_parse_Parser_unary P_parse_Parser_postfix P_parse_Parser_primary P_parse_Parser_bracket P_parse_Parser_args) : ∀ n, (∀ vs w K, T.r234 (P_parse_Parser_binary n) vs w K → (callFunc 234 vs.toArray).run Tryz.prog w = .ok (.enter 234 vs.toArray) w ∧ Calls Tryz.prog 234 vs.toArray w fun e w' => ∃ v, e = .returned v ∧ K v w') ∧ (∀ vs w K, T.r240 (P_parse_Parser_unary n) vs w K → (callFunc 240 vs.toArray).run Tryz.prog w = .ok (.enter 240 vs.toArray) w ∧ Calls Tryz.prog 240 vs.toArray w fun e w' => ∃ v, e = .returned v ∧ K v w') ∧ (∀ vs w K, T.r243 (P_parse_Parser_postfix n) vs w K → (callFunc 243 vs.toArray).run Tryz.prog w = .ok (.enter 243 vs.toArray) w ∧ Calls Tryz.prog 243 vs.toArray w fun e w' => ∃ v, e = .returned v ∧ K v w') ∧ (∀ vs w K, T.r246 (P_parse_Parser_primary n) vs w K → (callFunc 246 vs.toArray).run Tryz.prog w = .ok (.enter 246 vs.toArray) w ∧ Calls Tryz.prog 246 vs.toArray w fun e w' => ∃ v, e = .returned v ∧ K v w') ∧ (∀ vs w K, T.r248 (P_parse_Parser_bracket n) vs w K → (callFunc 248 vs.toArray).run Tryz.prog w = .ok (.enter 248 vs.toArray) w ∧ Calls Tryz.prog 248 vs.toArray w fun e w' => ∃ v, e = .returned v ∧ K v w') ∧ (∀ vs w K, T.r249 (P_parse_Parser_args n) vs w K → (callFunc 249 vs.toArray).run Tryz.prog w = .ok (.enter 249 vs.toArray) w ∧ Calls Tryz.prog 249 vs.toArray w fun e w' => ∃ v, e = .returned v ∧ K v w') := by
  intro n
  induction n using Nat.strongRecOn with
  | _ n ih =>
    obtain ⟨g234, g240, g243, g246, g248, g249⟩ := h
    have k234 : (∀ vs w K, T.r234 (fun x0 x1 x2 w K => ∃ m, m < n ∧ P_parse_Parser_binary m x0 x1 x2 w K) vs w K → (callFunc 234 vs.toArray).run Tryz.prog w = .ok (.enter 234 vs.toArray) w ∧ Calls Tryz.prog 234 vs.toArray w fun e w' => ∃ v, e = .returned v ∧ K v w') := by
      intro vs w K hk
      unfold T.r234 at hk
      split at hk
      · obtain ⟨m, hm, hp⟩ := hk
        exact (ih m hm).1 _ w K hp
      · exact hk.elim
    have k240 : (∀ vs w K, T.r240 (fun x0 x1 w K => ∃ m, m < n ∧ P_parse_Parser_unary m x0 x1 w K) vs w K → (callFunc 240 vs.toArray).run Tryz.prog w = .ok (.enter 240 vs.toArray) w ∧ Calls Tryz.prog 240 vs.toArray w fun e w' => ∃ v, e = .returned v ∧ K v w') := by
      intro vs w K hk
      unfold T.r240 at hk
      split at hk
      · obtain ⟨m, hm, hp⟩ := hk
        exact (ih m hm).2.1 _ w K hp
      · exact hk.elim
    have k243 : (∀ vs w K, T.r243 (fun x0 x1 w K => ∃ m, m < n ∧ P_parse_Parser_postfix m x0 x1 w K) vs w K → (callFunc 243 vs.toArray).run Tryz.prog w = .ok (.enter 243 vs.toArray) w ∧ Calls Tryz.prog 243 vs.toArray w fun e w' => ∃ v, e = .returned v ∧ K v w') := by
      intro vs w K hk
      unfold T.r243 at hk
      split at hk
      · obtain ⟨m, hm, hp⟩ := hk
        exact (ih m hm).2.2.1 _ w K hp
      · exact hk.elim
    have k246 : (∀ vs w K, T.r246 (fun x0 x1 w K => ∃ m, m < n ∧ P_parse_Parser_primary m x0 x1 w K) vs w K → (callFunc 246 vs.toArray).run Tryz.prog w = .ok (.enter 246 vs.toArray) w ∧ Calls Tryz.prog 246 vs.toArray w fun e w' => ∃ v, e = .returned v ∧ K v w') := by
      intro vs w K hk
      unfold T.r246 at hk
      split at hk
      · obtain ⟨m, hm, hp⟩ := hk
        exact (ih m hm).2.2.2.1 _ w K hp
      · exact hk.elim
    have k248 : (∀ vs w K, T.r248 (fun x0 x1 w K => ∃ m, m < n ∧ P_parse_Parser_bracket m x0 x1 w K) vs w K → (callFunc 248 vs.toArray).run Tryz.prog w = .ok (.enter 248 vs.toArray) w ∧ Calls Tryz.prog 248 vs.toArray w fun e w' => ∃ v, e = .returned v ∧ K v w') := by
      intro vs w K hk
      unfold T.r248 at hk
      split at hk
      · obtain ⟨m, hm, hp⟩ := hk
        exact (ih m hm).2.2.2.2.1 _ w K hp
      · exact hk.elim
    have k249 : (∀ vs w K, T.r249 (fun x0 x1 w K => ∃ m, m < n ∧ P_parse_Parser_args m x0 x1 w K) vs w K → (callFunc 249 vs.toArray).run Tryz.prog w = .ok (.enter 249 vs.toArray) w ∧ Calls Tryz.prog 249 vs.toArray w fun e w' => ∃ v, e = .returned v ∧ K v w') := by
      intro vs w K hk
      unfold T.r249 at hk
      split at hk
      · obtain ⟨m, hm, hp⟩ := hk
        exact (ih m hm).2.2.2.2.2 _ w K hp
      · exact hk.elim
    refine ⟨?_, ?_, ?_, ?_, ?_, ?_⟩
    · intro vs w K hk
      unfold T.r234 at hk
      split at hk
      · have hb := g234 _ _ _ _ _ _ hk
        have hco : CallOk Tryz.prog (T.C234 (fun x0 x1 x2 w K => ∃ m, m < n ∧ P_parse_Parser_binary m x0 x1 x2 w K) (fun x0 x1 w K => ∃ m, m < n ∧ P_parse_Parser_unary m x0 x1 w K) (fun x0 x1 w K => ∃ m, m < n ∧ P_parse_Parser_postfix m x0 x1 w K) (fun x0 x1 w K => ∃ m, m < n ∧ P_parse_Parser_primary m x0 x1 w K) (fun x0 x1 w K => ∃ m, m < n ∧ P_parse_Parser_bracket m x0 x1 w K) (fun x0 x1 w K => ∃ m, m < n ∧ P_parse_Parser_args m x0 x1 w K)) := (CallOk.cons 240 k240 (CallOk.cons 144 T.ok144 (CallOk.cons 241 T.ok241 (CallOk.cons 184 T.ok184 (CallOk.cons 185 T.ok185 (CallOk.cons 216 T.ok216 (CallOk.cons 234 k234 (CallOk.cons 189 T.ok189 CallOk.nil))))))))
        refine ⟨Tryz.call234 _ _, ok_of hco mixed Tryz.func234 (T.eq234 _ _ _ _ _ _ _ _ _ _ _) hb fun v w' hk => ⟨v, rfl, ?_⟩⟩
        split at hk
        · exact hk
        · exact hk.elim
      · exact hk.elim
    · intro vs w K hk
      unfold T.r240 at hk
      split at hk
      · have hb := g240 _ _ _ _ _ hk
        have hco : CallOk Tryz.prog (T.C240 (fun x0 x1 x2 w K => ∃ m, m < n ∧ P_parse_Parser_binary m x0 x1 x2 w K) (fun x0 x1 w K => ∃ m, m < n ∧ P_parse_Parser_unary m x0 x1 w K) (fun x0 x1 w K => ∃ m, m < n ∧ P_parse_Parser_postfix m x0 x1 w K) (fun x0 x1 w K => ∃ m, m < n ∧ P_parse_Parser_primary m x0 x1 w K) (fun x0 x1 w K => ∃ m, m < n ∧ P_parse_Parser_bracket m x0 x1 w K) (fun x0 x1 w K => ∃ m, m < n ∧ P_parse_Parser_args m x0 x1 w K)) := (CallOk.cons 144 T.ok144 (CallOk.cons 243 k243 (CallOk.cons 185 T.ok185 (CallOk.cons 189 T.ok189 (CallOk.cons 217 T.ok217 (CallOk.cons 216 T.ok216 CallOk.nil))))))
        refine ⟨Tryz.call240 _ _, ok_of hco mixed Tryz.func240 (T.eq240 _ _ _ _ _ _ _ _ _ _) hb fun v w' hk => ⟨v, rfl, ?_⟩⟩
        split at hk
        · exact hk
        · exact hk.elim
      · exact hk.elim
    · intro vs w K hk
      unfold T.r243 at hk
      split at hk
      · have hb := g243 _ _ _ _ _ hk
        have hco : CallOk Tryz.prog (T.C243 (fun x0 x1 x2 w K => ∃ m, m < n ∧ P_parse_Parser_binary m x0 x1 x2 w K) (fun x0 x1 w K => ∃ m, m < n ∧ P_parse_Parser_unary m x0 x1 w K) (fun x0 x1 w K => ∃ m, m < n ∧ P_parse_Parser_postfix m x0 x1 w K) (fun x0 x1 w K => ∃ m, m < n ∧ P_parse_Parser_primary m x0 x1 w K) (fun x0 x1 w K => ∃ m, m < n ∧ P_parse_Parser_bracket m x0 x1 w K) (fun x0 x1 w K => ∃ m, m < n ∧ P_parse_Parser_args m x0 x1 w K)) := (CallOk.cons 246 k246 (CallOk.cons 144 T.ok144 (CallOk.cons 217 T.ok217 (CallOk.cons 184 T.ok184 (CallOk.cons 185 T.ok185 (CallOk.cons 216 T.ok216 (CallOk.cons 234 k234 (CallOk.cons 183 T.ok183 (CallOk.cons 189 T.ok189 CallOk.nil)))))))))
        refine ⟨Tryz.call243 _ _, ok_of hco mixed Tryz.func243 (T.eq243 _ _ _ _ _ _ _ _ _ _) hb fun v w' hk => ⟨v, rfl, ?_⟩⟩
        split at hk
        · exact hk
        · exact hk.elim
      · exact hk.elim
    · intro vs w K hk
      unfold T.r246 at hk
      split at hk
      · have hb := g246 _ _ _ _ _ hk
        have hco : CallOk Tryz.prog (T.C246 (fun x0 x1 x2 w K => ∃ m, m < n ∧ P_parse_Parser_binary m x0 x1 x2 w K) (fun x0 x1 w K => ∃ m, m < n ∧ P_parse_Parser_unary m x0 x1 w K) (fun x0 x1 w K => ∃ m, m < n ∧ P_parse_Parser_postfix m x0 x1 w K) (fun x0 x1 w K => ∃ m, m < n ∧ P_parse_Parser_primary m x0 x1 w K) (fun x0 x1 w K => ∃ m, m < n ∧ P_parse_Parser_bracket m x0 x1 w K) (fun x0 x1 w K => ∃ m, m < n ∧ P_parse_Parser_args m x0 x1 w K)) := (CallOk.cons 216 T.ok216 (CallOk.cons 185 T.ok185 (CallOk.cons 189 T.ok189 (CallOk.cons 248 k248 (CallOk.cons 187 T.ok187 (CallOk.cons 183 T.ok183 (CallOk.cons 144 T.ok144 (CallOk.cons 249 k249 (CallOk.cons 215 T.ok215 CallOk.nil)))))))))
        refine ⟨Tryz.call246 _ _, ok_of hco mixed Tryz.func246 (T.eq246 _ _ _ _ _ _ _ _ _ _) hb fun v w' hk => ⟨v, rfl, ?_⟩⟩
        split at hk
        · exact hk
        · exact hk.elim
      · exact hk.elim
    · intro vs w K hk
      unfold T.r248 at hk
      split at hk
      · have hb := g248 _ _ _ _ _ hk
        have hco : CallOk Tryz.prog (T.C248 (fun x0 x1 x2 w K => ∃ m, m < n ∧ P_parse_Parser_binary m x0 x1 x2 w K) (fun x0 x1 w K => ∃ m, m < n ∧ P_parse_Parser_unary m x0 x1 w K) (fun x0 x1 w K => ∃ m, m < n ∧ P_parse_Parser_postfix m x0 x1 w K) (fun x0 x1 w K => ∃ m, m < n ∧ P_parse_Parser_primary m x0 x1 w K) (fun x0 x1 w K => ∃ m, m < n ∧ P_parse_Parser_bracket m x0 x1 w K) (fun x0 x1 w K => ∃ m, m < n ∧ P_parse_Parser_args m x0 x1 w K)) := (CallOk.cons 144 T.ok144 (CallOk.cons 184 T.ok184 (CallOk.cons 215 T.ok215 (CallOk.cons 217 T.ok217 (CallOk.cons 216 T.ok216 (CallOk.cons 234 k234 (CallOk.cons 183 T.ok183 CallOk.nil)))))))
        refine ⟨Tryz.call248 _ _, ok_of hco mixed Tryz.func248 (T.eq248 _ _ _ _ _ _ _ _ _ _) hb fun v w' hk => ⟨v, rfl, ?_⟩⟩
        split at hk
        · exact hk
        · exact hk.elim
      · exact hk.elim
    · intro vs w K hk
      unfold T.r249 at hk
      split at hk
      · have hb := g249 _ _ _ _ _ hk
        have hco : CallOk Tryz.prog (T.C249 (fun x0 x1 x2 w K => ∃ m, m < n ∧ P_parse_Parser_binary m x0 x1 x2 w K) (fun x0 x1 w K => ∃ m, m < n ∧ P_parse_Parser_unary m x0 x1 w K) (fun x0 x1 w K => ∃ m, m < n ∧ P_parse_Parser_postfix m x0 x1 w K) (fun x0 x1 w K => ∃ m, m < n ∧ P_parse_Parser_primary m x0 x1 w K) (fun x0 x1 w K => ∃ m, m < n ∧ P_parse_Parser_bracket m x0 x1 w K) (fun x0 x1 w K => ∃ m, m < n ∧ P_parse_Parser_args m x0 x1 w K)) := (CallOk.cons 217 T.ok217 (CallOk.cons 216 T.ok216 (CallOk.cons 183 T.ok183 (CallOk.cons 144 T.ok144 (CallOk.cons 234 k234 (CallOk.cons 146 T.ok146 CallOk.nil))))))
        refine ⟨Tryz.call249 _ _, ok_of hco mixed Tryz.func249 (T.eq249 _ _ _ _ _ _ _ _ _ _) hb fun v w' hk => ⟨v, rfl, ?_⟩⟩
        split at hk
        · exact hk
        · exact hk.elim
      · exact hk.elim
theorem T.ok234 : ∀ vs w K, T.c234 vs w K → (callFunc 234 vs.toArray).run Tryz.prog w = .ok (.enter 234 vs.toArray) w ∧ Calls Tryz.prog 234 vs.toArray w fun e w' => ∃ v, e = .returned v ∧ K v w' := by
  intro vs w K h
  unfold T.c234 at h
  split at h
  · obtain ⟨P234, P240, P243, P246, P248, P249, hg, m, hp⟩ := h
    exact (T.all234 P234 P240 P243 P246 P248 P249 hg m).1 _ w K hp
  · exact h.elim
theorem T.ok240 : ∀ vs w K, T.c240 vs w K → (callFunc 240 vs.toArray).run Tryz.prog w = .ok (.enter 240 vs.toArray) w ∧ Calls Tryz.prog 240 vs.toArray w fun e w' => ∃ v, e = .returned v ∧ K v w' := by
  intro vs w K h
  unfold T.c240 at h
  split at h
  · obtain ⟨P234, P240, P243, P246, P248, P249, hg, m, hp⟩ := h
    exact (T.all234 P234 P240 P243 P246 P248 P249 hg m).2.1 _ w K hp
  · exact h.elim
theorem T.ok243 : ∀ vs w K, T.c243 vs w K → (callFunc 243 vs.toArray).run Tryz.prog w = .ok (.enter 243 vs.toArray) w ∧ Calls Tryz.prog 243 vs.toArray w fun e w' => ∃ v, e = .returned v ∧ K v w' := by
  intro vs w K h
  unfold T.c243 at h
  split at h
  · obtain ⟨P234, P240, P243, P246, P248, P249, hg, m, hp⟩ := h
    exact (T.all234 P234 P240 P243 P246 P248 P249 hg m).2.2.1 _ w K hp
  · exact h.elim
theorem T.ok246 : ∀ vs w K, T.c246 vs w K → (callFunc 246 vs.toArray).run Tryz.prog w = .ok (.enter 246 vs.toArray) w ∧ Calls Tryz.prog 246 vs.toArray w fun e w' => ∃ v, e = .returned v ∧ K v w' := by
  intro vs w K h
  unfold T.c246 at h
  split at h
  · obtain ⟨P234, P240, P243, P246, P248, P249, hg, m, hp⟩ := h
    exact (T.all234 P234 P240 P243 P246 P248 P249 hg m).2.2.2.1 _ w K hp
  · exact h.elim
theorem T.ok248 : ∀ vs w K, T.c248 vs w K → (callFunc 248 vs.toArray).run Tryz.prog w = .ok (.enter 248 vs.toArray) w ∧ Calls Tryz.prog 248 vs.toArray w fun e w' => ∃ v, e = .returned v ∧ K v w' := by
  intro vs w K h
  unfold T.c248 at h
  split at h
  · obtain ⟨P234, P240, P243, P246, P248, P249, hg, m, hp⟩ := h
    exact (T.all234 P234 P240 P243 P246 P248 P249 hg m).2.2.2.2.1 _ w K hp
  · exact h.elim
theorem T.ok249 : ∀ vs w K, T.c249 vs w K → (callFunc 249 vs.toArray).run Tryz.prog w = .ok (.enter 249 vs.toArray) w ∧ Calls Tryz.prog 249 vs.toArray w fun e w' => ∃ v, e = .returned v ∧ K v w' := by
  intro vs w K h
  unfold T.c249 at h
  split at h
  · obtain ⟨P234, P240, P243, P246, P248, P249, hg, m, hp⟩ := h
    exact (T.all234 P234 P240 P243 P246 P248 P249 hg m).2.2.2.2.2 _ w K hp
  · exact h.elim
end Go.Proofs.Qxb6500562aGreat
