/-
  MADE BY PROGRAM (my own gen2.py) out of the translation: the Go functions as typed texts, each tied to the model by the kernel.
-/
import Derived.Test.Qxb6500564aGreatBase
set_option linter.unusedVariables false
namespace Go.Proofs.Qxb6500564aGreat
open Go.Den

/-- e2e/towerexact.few (function 5). -/
def S.towerexact_few (texts : Sl) (w : World) (K : Bool → World → Prop) : Prop :=
  if (decide ((texts.l : Int) > 1073741824)) = true then
    K false w
  else
    Let (texts.l : Int) fun n_1 =>
    LoopP (σ := Int × Int × Unit) (fun st2 w next3 =>
      if (decide (st2.2.1 < (texts.l : Int))) = true then
        Ix texts.a texts.l st2.2.1 fun b4 o5 =>
        LdStr w ⟨b4, o5 + Int.toNat st2.2.1 * 1, none⟩ fun x_6 =>
        Let (W (st2.1 + (x_6.size : Int))) fun n_7 =>
        if (decide (n_7 > 1073741824)) = true then
          K false w
        else
          Let (W (st2.2.1 + 1)) fun i_8 =>
          next3 (n_7, i_8, ()) w
      else
        K true w) (n_1, 0, ()) w
def T.C5 : CallT := CallT.nil
def T.A5 : Ann := fun i => bif Nat.beq i 5 then some ([0], [(3, 0), (4, 0)]) else none
set_option maxRecDepth 1000000 in
theorem T.eq5 (texts : Sl) (w : World) (K : Bool → World → Prop) : denF Tryz.prog T.C5 T.A5 Tryz.f5 [.slice texts.a texts.l texts.c] w (fun v w' => match v with | .bool r0 => K r0 w' | _ => False) = S.towerexact_few texts w K := by kernel_rfl
theorem T.CO5 : CallOk Tryz.prog T.C5 := CallOk.nil
def T.c5 (vs : List Value) (w : World) (K : Value → World → Prop) : Prop :=
  match vs with
  | [.slice textsa textsl textsc] => S.towerexact_few ⟨textsa, textsl, textsc⟩ w (fun r0 w' => K (.bool r0) w')
  | _ => False
theorem T.ok5 : ∀ vs w K, T.c5 vs w K → (callFunc 5 vs.toArray).run Tryz.prog w = .ok (.enter 5 vs.toArray) w ∧ Calls Tryz.prog 5 vs.toArray w fun e w' => ∃ v, e = .returned v ∧ K v w' := by
  intro vs w K h
  unfold T.c5 at h
  split at h
  · refine ⟨Tryz.call5 _ _, ok_of T.CO5 mixed Tryz.func5 (T.eq5 _ _ _) h fun v w' hk => ⟨v, rfl, ?_⟩⟩
    split at hk
    · exact hk
    · exact hk.elim
  · exact h.elim

/-- e2e/api.Blocks (function 56). -/
def S.api_Blocks (n : Int) (w : World) (K : Sl → World → Prop) : Prop :=
  Join (fun (n_1 : Int) (w : World) =>
    MkS 202 [.string ⟨#[]⟩] 16 w n_1 n_1 fun l2 w =>
    LoopP (σ := Int × Unit) (fun st3 w next4 =>
      if (decide (st3.1 < n_1)) = true then
        Ix l2.a l2.l st3.1 fun b5 o6 =>
        St1 w ⟨b5, o6 + Int.toNat st3.1 * 1, none⟩ (.string blk0) fun w =>
        Let (W (st3.1 + 1)) fun i_7 =>
        next4 (i_7, ()) w
      else
        K l2 w) (0, ()) w) fun J8 =>
  if (decide (n < 0)) = true then
    J8 0 w
  else
    J8 n w
def T.C56 : CallT := CallT.nil
def T.A56 : Ann := fun i => bif Nat.beq i 5 then some ([0, 3], [(4, 0)]) else none
set_option maxRecDepth 1000000 in
theorem T.eq56 (n : Int) (w : World) (K : Sl → World → Prop) : denF Tryz.prog T.C56 T.A56 Tryz.f56 [.int .i64 n] w (fun v w' => match v with | .slice r0a r0l r0c => K ⟨r0a, r0l, r0c⟩ w' | _ => False) = S.api_Blocks n w K := by kernel_rfl
theorem T.CO56 : CallOk Tryz.prog T.C56 := CallOk.nil
def T.c56 (vs : List Value) (w : World) (K : Value → World → Prop) : Prop :=
  match vs with
  | [.int .i64 n] => S.api_Blocks n w (fun r0 w' => K (.slice r0.a r0.l r0.c) w')
  | _ => False
theorem T.ok56 : ∀ vs w K, T.c56 vs w K → (callFunc 56 vs.toArray).run Tryz.prog w = .ok (.enter 56 vs.toArray) w ∧ Calls Tryz.prog 56 vs.toArray w fun e w' => ∃ v, e = .returned v ∧ K v w' := by
  intro vs w K h
  unfold T.c56 at h
  split at h
  · refine ⟨Tryz.call56 _ _, ok_of T.CO56 mixed Tryz.func56 (T.eq56 _ _ _) h fun v w' hk => ⟨v, rfl, ?_⟩⟩
    split at hk
    · exact hk
    · exact hk.elim
  · exact h.elim

/-- e2e/diskm.New (function 16). -/
def S.diskm_New (w : World) (K : Nat → World → Prop) : Prop :=
  New w (.cells #[.slice none 0 0, .slice none 0 0, .slice none 0 0] 118) fun p1 w =>
  S.api_Blocks 153 w (fun r2 w =>
  St1 w ⟨p1, 0, none⟩ (.slice r2.a r2.l r2.c) fun w =>
  S.api_Blocks 153 w (fun r3 w =>
  St1 w ⟨p1, 1, none⟩ (.slice r3.a r3.l r3.c) fun w =>
  K p1 w))
def T.C16 : CallT := (CallT.cons 56 T.c56 CallT.nil)
def T.A16 : Ann := fun _ => none
set_option maxRecDepth 1000000 in
theorem T.eq16 (w : World) (K : Nat → World → Prop) : denF Tryz.prog T.C16 T.A16 Tryz.f16 [] w (fun v w' => match v with | .pointer (some ⟨r0, 0, none⟩) => K r0 w' | _ => False) = S.diskm_New w K := by kernel_rfl
theorem T.CO16 : CallOk Tryz.prog T.C16 := (CallOk.cons 56 T.ok56 CallOk.nil)
def T.c16 (vs : List Value) (w : World) (K : Value → World → Prop) : Prop :=
  match vs with
  | [] => S.diskm_New w (fun r0 w' => K (.pointer (some ⟨r0, 0, none⟩)) w')
  | _ => False
theorem T.ok16 : ∀ vs w K, T.c16 vs w K → (callFunc 16 vs.toArray).run Tryz.prog w = .ok (.enter 16 vs.toArray) w ∧ Calls Tryz.prog 16 vs.toArray w fun e w' => ∃ v, e = .returned v ∧ K v w' := by
  intro vs w K h
  unfold T.c16 at h
  split at h
  · refine ⟨Tryz.call16 _ _, ok_of T.CO16 mixed Tryz.func16 (T.eq16 _ _) h fun v w' hk => ⟨v, rfl, ?_⟩⟩
    split at hk
    · exact hk
    · exact hk.elim
  · exact h.elim

/-- e2e/querym.New (function 17). -/
def S.querym_New (w : World) (K : Nat → World → Prop) : Prop :=
  New w (.cells #[.slice none 0 0, .bool false, .bool false, .bool false, .bool false, .int .i64 0, .int .i64 0, .int .i64 0, .int .i64 0, .int .i64 0, .int .i64 0, .int .i64 0, .int .i64 0, .int .i64 0, .int .i64 0, .int .i64 0, .int .i64 0, .slice none 0 0, .slice none 0 0, .slice none 0 0, .slice none 0 0] 93) fun p1 w =>
  New w (.cells #[.pointer (some ⟨p1, 0, none⟩)] 57) fun p2 w =>
  K p2 w
def T.C17 : CallT := CallT.nil
def T.A17 : Ann := fun _ => none
set_option maxRecDepth 1000000 in
theorem T.eq17 (w : World) (K : Nat → World → Prop) : denF Tryz.prog T.C17 T.A17 Tryz.f17 [] w (fun v w' => match v with | .pointer (some ⟨r0, 0, none⟩) => K r0 w' | _ => False) = S.querym_New w K := by kernel_rfl
theorem T.CO17 : CallOk Tryz.prog T.C17 := CallOk.nil
def T.c17 (vs : List Value) (w : World) (K : Value → World → Prop) : Prop :=
  match vs with
  | [] => S.querym_New w (fun r0 w' => K (.pointer (some ⟨r0, 0, none⟩)) w')
  | _ => False
theorem T.ok17 : ∀ vs w K, T.c17 vs w K → (callFunc 17 vs.toArray).run Tryz.prog w = .ok (.enter 17 vs.toArray) w ∧ Calls Tryz.prog 17 vs.toArray w fun e w' => ∃ v, e = .returned v ∧ K v w' := by
  intro vs w K h
  unfold T.c17 at h
  split at h
  · refine ⟨Tryz.call17 _ _, ok_of T.CO17 mixed Tryz.func17 (T.eq17 _ _) h fun v w' hk => ⟨v, rfl, ?_⟩⟩
    split at hk
    · exact hk
    · exact hk.elim
  · exact h.elim

/-- e2e/wal.over (function 134). -/
def S.wal_over (d : Nat) (w : World) (K : Nat → World → Prop) : Prop :=
  New w (.cells #[.pointer (some ⟨d, 0, none⟩), .bool false, .int .i64 0, .slice none 0 0, .slice none 0 0] 258) fun p1 w =>
  MkS 3 [.int .i64 0] 8 w 72 72 fun l2 w =>
  St1 w ⟨p1, 3, none⟩ (.slice l2.a l2.l l2.c) fun w =>
  MkS 202 [.string ⟨#[]⟩] 16 w 72 72 fun l3 w =>
  St1 w ⟨p1, 4, none⟩ (.slice l3.a l3.l l3.c) fun w =>
  K p1 w
def T.C134 : CallT := CallT.nil
def T.A134 : Ann := fun _ => none
set_option maxRecDepth 1000000 in
theorem T.eq134 (d : Nat) (w : World) (K : Nat → World → Prop) : denF Tryz.prog T.C134 T.A134 Tryz.f134 [.pointer (some ⟨d, 0, none⟩)] w (fun v w' => match v with | .pointer (some ⟨r0, 0, none⟩) => K r0 w' | _ => False) = S.wal_over d w K := by kernel_rfl
theorem T.CO134 : CallOk Tryz.prog T.C134 := CallOk.nil
def T.c134 (vs : List Value) (w : World) (K : Value → World → Prop) : Prop :=
  match vs with
  | [.pointer (some ⟨d, 0, none⟩)] => S.wal_over d w (fun r0 w' => K (.pointer (some ⟨r0, 0, none⟩)) w')
  | _ => False
theorem T.ok134 : ∀ vs w K, T.c134 vs w K → (callFunc 134 vs.toArray).run Tryz.prog w = .ok (.enter 134 vs.toArray) w ∧ Calls Tryz.prog 134 vs.toArray w fun e w' => ∃ v, e = .returned v ∧ K v w' := by
  intro vs w K h
  unfold T.c134 at h
  split at h
  · refine ⟨Tryz.call134 _ _, ok_of T.CO134 mixed Tryz.func134 (T.eq134 _ _ _) h fun v w' hk => ⟨v, rfl, ?_⟩⟩
    split at hk
    · exact hk
    · exact hk.elim
  · exact h.elim

/-- e2e/wal.New (function 57). -/
def S.wal_New (d : Nat) (w : World) (K : Nat → World → Prop) : Prop :=
  S.wal_over d w (fun r1 w =>
  K r1 w)
def T.C57 : CallT := (CallT.cons 134 T.c134 CallT.nil)
def T.A57 : Ann := fun _ => none
set_option maxRecDepth 1000000 in
theorem T.eq57 (d : Nat) (w : World) (K : Nat → World → Prop) : denF Tryz.prog T.C57 T.A57 Tryz.f57 [.pointer (some ⟨d, 0, none⟩)] w (fun v w' => match v with | .pointer (some ⟨r0, 0, none⟩) => K r0 w' | _ => False) = S.wal_New d w K := by kernel_rfl
theorem T.CO57 : CallOk Tryz.prog T.C57 := (CallOk.cons 134 T.ok134 CallOk.nil)
def T.c57 (vs : List Value) (w : World) (K : Value → World → Prop) : Prop :=
  match vs with
  | [.pointer (some ⟨d, 0, none⟩)] => S.wal_New d w (fun r0 w' => K (.pointer (some ⟨r0, 0, none⟩)) w')
  | _ => False
theorem T.ok57 : ∀ vs w K, T.c57 vs w K → (callFunc 57 vs.toArray).run Tryz.prog w = .ok (.enter 57 vs.toArray) w ∧ Calls Tryz.prog 57 vs.toArray w fun e w' => ∃ v, e = .returned v ∧ K v w' := by
  intro vs w K h
  unfold T.c57 at h
  split at h
  · refine ⟨Tryz.call57 _ _, ok_of T.CO57 mixed Tryz.func57 (T.eq57 _ _ _) h fun v w' hk => ⟨v, rfl, ?_⟩⟩
    split at hk
    · exact hk
    · exact hk.elim
  · exact h.elim

/-- e2e/pager.empty (function 135). -/
def S.pager_empty (l : Nat) (w : World) (K : Nat → World → Prop) : Prop :=
  New w (.cells #[.pointer (some ⟨l, 0, none⟩), .bool false, .int .i64 0, .bool false, .bool false, .string ⟨#[]⟩, .int .i64 0, .bool false, .bool false, .string ⟨#[]⟩, .int .i64 0, .bool false, .bool false, .string ⟨#[]⟩, .int .i64 0, .bool false, .bool false, .string ⟨#[]⟩, .int .i64 0, .bool false, .bool false, .string ⟨#[]⟩, .int .i64 0, .int .i64 0, .int .i64 0, .int .i64 0, .int .i64 0] 264) fun p1 w =>
  LoopP (σ := Int × Unit) (fun st2 w next3 =>
    if (decide (st2.1 < 5)) = true then
      IxA 5 st2.1 <|
      St1 w ⟨p1, 22 + Int.toNat st2.1 * 1, none⟩ (.int .i64 st2.1) fun w =>
      Let (W (st2.1 + 1)) fun i_4 =>
      next3 (i_4, ()) w
    else
      K p1 w) (0, ()) w
def T.C135 : CallT := CallT.nil
def T.A135 : Ann := fun i => bif Nat.beq i 3 then some ([3], [(4, 0)]) else none
set_option maxRecDepth 1000000 in
theorem T.eq135 (l : Nat) (w : World) (K : Nat → World → Prop) : denF Tryz.prog T.C135 T.A135 Tryz.f135 [.pointer (some ⟨l, 0, none⟩)] w (fun v w' => match v with | .pointer (some ⟨r0, 0, none⟩) => K r0 w' | _ => False) = S.pager_empty l w K := by kernel_rfl
theorem T.CO135 : CallOk Tryz.prog T.C135 := CallOk.nil
def T.c135 (vs : List Value) (w : World) (K : Value → World → Prop) : Prop :=
  match vs with
  | [.pointer (some ⟨l, 0, none⟩)] => S.pager_empty l w (fun r0 w' => K (.pointer (some ⟨r0, 0, none⟩)) w')
  | _ => False
theorem T.ok135 : ∀ vs w K, T.c135 vs w K → (callFunc 135 vs.toArray).run Tryz.prog w = .ok (.enter 135 vs.toArray) w ∧ Calls Tryz.prog 135 vs.toArray w fun e w' => ∃ v, e = .returned v ∧ K v w' := by
  intro vs w K h
  unfold T.c135 at h
  split at h
  · refine ⟨Tryz.call135 _ _, ok_of T.CO135 mixed Tryz.func135 (T.eq135 _ _ _) h fun v w' hk => ⟨v, rfl, ?_⟩⟩
    split at hk
    · exact hk
    · exact hk.elim
  · exact h.elim

/-- e2e/pager.New (function 58). -/
def S.pager_New (l : Nat) (w : World) (K : Nat → World → Prop) : Prop :=
  S.pager_empty l w (fun r1 w =>
  K r1 w)
def T.C58 : CallT := (CallT.cons 135 T.c135 CallT.nil)
def T.A58 : Ann := fun _ => none
set_option maxRecDepth 1000000 in
theorem T.eq58 (l : Nat) (w : World) (K : Nat → World → Prop) : denF Tryz.prog T.C58 T.A58 Tryz.f58 [.pointer (some ⟨l, 0, none⟩)] w (fun v w' => match v with | .pointer (some ⟨r0, 0, none⟩) => K r0 w' | _ => False) = S.pager_New l w K := by kernel_rfl
theorem T.CO58 : CallOk Tryz.prog T.C58 := (CallOk.cons 135 T.ok135 CallOk.nil)
def T.c58 (vs : List Value) (w : World) (K : Value → World → Prop) : Prop :=
  match vs with
  | [.pointer (some ⟨l, 0, none⟩)] => S.pager_New l w (fun r0 w' => K (.pointer (some ⟨r0, 0, none⟩)) w')
  | _ => False
theorem T.ok58 : ∀ vs w K, T.c58 vs w K → (callFunc 58 vs.toArray).run Tryz.prog w = .ok (.enter 58 vs.toArray) w ∧ Calls Tryz.prog 58 vs.toArray w fun e w' => ∃ v, e = .returned v ∧ K v w' := by
  intro vs w K h
  unfold T.c58 at h
  split at h
  · refine ⟨Tryz.call58 _ _, ok_of T.CO58 mixed Tryz.func58 (T.eq58 _ _ _) h fun v w' hk => ⟨v, rfl, ?_⟩⟩
    split at hk
    · exact hk
    · exact hk.elim
  · exact h.elim

/-- (*e2e/pager.Pager).find (function 297). -/
def S.pager_Pager_find (p : Nat) (n : Int) (w : World) (K : Int → World → Prop) : Prop :=
  LoopP (σ := Int × Unit) (fun st1 w next2 =>
    if (decide (st1.1 < 5)) = true then
      Join (fun (w : World) =>
        Let (W (st1.1 + 1)) fun f_3 =>
        next2 (f_3, ()) w) fun J4 =>
      IxA 5 st1.1 <|
      LdB w ⟨p, 2 + Int.toNat st1.1 * 4 + 1, none⟩ fun valid_5 =>
      if valid_5 = true then
        IxA 5 st1.1 <|
        LdI .i64 w ⟨p, 2 + Int.toNat st1.1 * 4, none⟩ fun page_6 =>
        if (page_6 == n) = true then
          K st1.1 w
        else
          J4 w
      else
        J4 w
    else
      K (-1) w) (0, ()) w
def T.C297 : CallT := CallT.nil
def T.A297 : Ann := fun i => bif Nat.beq i 2 then some ([0, 1], [(5, 0)]) else none
set_option maxRecDepth 1000000 in
theorem T.eq297 (p : Nat) (n : Int) (w : World) (K : Int → World → Prop) : denF Tryz.prog T.C297 T.A297 Tryz.f297 [.pointer (some ⟨p, 0, none⟩), .int .i64 n] w (fun v w' => match v with | .int .i64 r0 => K r0 w' | _ => False) = S.pager_Pager_find p n w K := by kernel_rfl
theorem T.CO297 : CallOk Tryz.prog T.C297 := CallOk.nil
def T.c297 (vs : List Value) (w : World) (K : Value → World → Prop) : Prop :=
  match vs with
  | [.pointer (some ⟨p, 0, none⟩), .int .i64 n] => S.pager_Pager_find p n w (fun r0 w' => K (.int .i64 r0) w')
  | _ => False
theorem T.ok297 : ∀ vs w K, T.c297 vs w K → (callFunc 297 vs.toArray).run Tryz.prog w = .ok (.enter 297 vs.toArray) w ∧ Calls Tryz.prog 297 vs.toArray w fun e w' => ∃ v, e = .returned v ∧ K v w' := by
  intro vs w K h
  unfold T.c297 at h
  split at h
  · refine ⟨Tryz.call297 _ _, ok_of T.CO297 mixed Tryz.func297 (T.eq297 _ _ _ _) h fun v w' hk => ⟨v, rfl, ?_⟩⟩
    split at hk
    · exact hk
    · exact hk.elim
  · exact h.elim

/-- (*e2e/pager.Pager).place (function 331). -/
def S.pager_Pager_place (p : Nat) (f : Int) (w : World) (K : Int → World → Prop) : Prop :=
  LoopP (σ := Int × Unit) (fun st1 w next2 =>
    if (decide (st1.1 < 4)) = true then
      IxA 5 st1.1 <|
      LdI .i64 w ⟨p, 22 + Int.toNat st1.1 * 1, none⟩ fun order_3 =>
      if (order_3 != f) = true then
        Let (W (st1.1 + 1)) fun i_4 =>
        next2 (i_4, ()) w
      else
        K st1.1 w
    else
      K st1.1 w) (0, ()) w
def T.C331 : CallT := CallT.nil
def T.A331 : Ann := fun i => bif Nat.beq i 2 then some ([0, 1], [(5, 0)]) else none
set_option maxRecDepth 1000000 in
theorem T.eq331 (p : Nat) (f : Int) (w : World) (K : Int → World → Prop) : denF Tryz.prog T.C331 T.A331 Tryz.f331 [.pointer (some ⟨p, 0, none⟩), .int .i64 f] w (fun v w' => match v with | .int .i64 r0 => K r0 w' | _ => False) = S.pager_Pager_place p f w K := by kernel_rfl
theorem T.CO331 : CallOk Tryz.prog T.C331 := CallOk.nil
def T.c331 (vs : List Value) (w : World) (K : Value → World → Prop) : Prop :=
  match vs with
  | [.pointer (some ⟨p, 0, none⟩), .int .i64 f] => S.pager_Pager_place p f w (fun r0 w' => K (.int .i64 r0) w')
  | _ => False
theorem T.ok331 : ∀ vs w K, T.c331 vs w K → (callFunc 331 vs.toArray).run Tryz.prog w = .ok (.enter 331 vs.toArray) w ∧ Calls Tryz.prog 331 vs.toArray w fun e w' => ∃ v, e = .returned v ∧ K v w' := by
  intro vs w K h
  unfold T.c331 at h
  split at h
  · refine ⟨Tryz.call331 _ _, ok_of T.CO331 mixed Tryz.func331 (T.eq331 _ _ _ _) h fun v w' hk => ⟨v, rfl, ?_⟩⟩
    split at hk
    · exact hk
    · exact hk.elim
  · exact h.elim

/-- (*e2e/pager.Pager).touch (function 316). -/
def S.pager_Pager_touch (p : Nat) (f : Int) (w : World) (K : World → Prop) : Prop :=
  S.pager_Pager_place p f w (fun r1 w =>
  Join (fun (w : World) =>
    IxA 5 0 <|
    St1 w ⟨p, 22 + Int.toNat 0 * 1, none⟩ (.int .i64 f) fun w =>
    K w) fun J2 =>
  LoopP (σ := Int × Unit) (fun st3 w next4 =>
    if (decide (st3.1 > 0)) = true then
      Drew w fun w =>
      IxA 5 (W (st3.1 - 1)) <|
      LdI .i64 w ⟨p, 22 + Int.toNat (W (st3.1 - 1)) * 1, none⟩ fun order_5 =>
      IxA 5 st3.1 <|
      St1 w ⟨p, 22 + Int.toNat st3.1 * 1, none⟩ (.int .i64 order_5) fun w =>
      Let (W (st3.1 - 1)) fun i_6 =>
      next4 (i_6, ()) w
    else
      J2 w) (r1, ()) w)
def T.C316 : CallT := (CallT.cons 331 T.c331 CallT.nil)
def T.A316 : Ann := fun i => bif Nat.beq i 1 then some ([0, 1], [(4, 0)]) else none
set_option maxRecDepth 1000000 in
theorem T.eq316 (p : Nat) (f : Int) (w : World) (K : World → Prop) : denF Tryz.prog T.C316 T.A316 Tryz.f316 [.pointer (some ⟨p, 0, none⟩), .int .i64 f] w (fun v w' => match v with | .tuple ⟨[]⟩ => K w' | _ => False) = S.pager_Pager_touch p f w K := by kernel_rfl
theorem T.CO316 : CallOk Tryz.prog T.C316 := (CallOk.cons 331 T.ok331 CallOk.nil)
def T.c316 (vs : List Value) (w : World) (K : Value → World → Prop) : Prop :=
  match vs with
  | [.pointer (some ⟨p, 0, none⟩), .int .i64 f] => S.pager_Pager_touch p f w (fun w' => K (.tuple #[]) w')
  | _ => False
theorem T.ok316 : ∀ vs w K, T.c316 vs w K → (callFunc 316 vs.toArray).run Tryz.prog w = .ok (.enter 316 vs.toArray) w ∧ Calls Tryz.prog 316 vs.toArray w fun e w' => ∃ v, e = .returned v ∧ K v w' := by
  intro vs w K h
  unfold T.c316 at h
  split at h
  · refine ⟨Tryz.call316 _ _, ok_of T.CO316 mixed Tryz.func316 (T.eq316 _ _ _ _) h fun v w' hk => ⟨v, rfl, ?_⟩⟩
    split at hk
    · exact hk
    · exact hk.elim
  · exact h.elim

/-- e2e/wal.inData (function 319). -/
def S.wal_inData (b : Int) (w : World) (K : Bool → World → Prop) : Prop :=
  if (decide (b ≥ 0)) = true then
    K (decide (b < 80)) w
  else
    K false w
def T.C319 : CallT := CallT.nil
def T.A319 : Ann := fun _ => none
set_option maxRecDepth 1000000 in
theorem T.eq319 (b : Int) (w : World) (K : Bool → World → Prop) : denF Tryz.prog T.C319 T.A319 Tryz.f319 [.int .i64 b] w (fun v w' => match v with | .bool r0 => K r0 w' | _ => False) = S.wal_inData b w K := by kernel_rfl
theorem T.CO319 : CallOk Tryz.prog T.C319 := CallOk.nil
def T.c319 (vs : List Value) (w : World) (K : Value → World → Prop) : Prop :=
  match vs with
  | [.int .i64 b] => S.wal_inData b w (fun r0 w' => K (.bool r0) w')
  | _ => False
theorem T.ok319 : ∀ vs w K, T.c319 vs w K → (callFunc 319 vs.toArray).run Tryz.prog w = .ok (.enter 319 vs.toArray) w ∧ Calls Tryz.prog 319 vs.toArray w fun e w' => ∃ v, e = .returned v ∧ K v w' := by
  intro vs w K h
  unfold T.c319 at h
  split at h
  · refine ⟨Tryz.call319 _ _, ok_of T.CO319 mixed Tryz.func319 (T.eq319 _ _ _) h fun v w' hk => ⟨v, rfl, ?_⟩⟩
    split at hk
    · exact hk
    · exact hk.elim
  · exact h.elim

/-- (*e2e/wal.Log).find (function 320). -/
def S.wal_Log_find (l : Nat) (b : Int) (w : World) (K : Int → World → Prop) : Prop :=
  LoopP (σ := Int × Unit) (fun st1 w next2 =>
    LdI .i64 w ⟨l, 2, none⟩ fun n_3 =>
    if (decide (st1.1 < n_3)) = true then
      LdS w ⟨l, 3, none⟩ fun num_4 =>
      Ix num_4.a num_4.l st1.1 fun b5 o6 =>
      LdI .i64 w ⟨b5, o6 + Int.toNat st1.1 * 1, none⟩ fun x_7 =>
      if (x_7 == b) = true then
        K st1.1 w
      else
        Let (W (st1.1 + 1)) fun i_8 =>
        next2 (i_8, ()) w
    else
      K (-1) w) (0, ()) w
def T.C320 : CallT := CallT.nil
def T.A320 : Ann := fun i => bif Nat.beq i 2 then some ([0, 1], [(5, 0)]) else none
set_option maxRecDepth 1000000 in
theorem T.eq320 (l : Nat) (b : Int) (w : World) (K : Int → World → Prop) : denF Tryz.prog T.C320 T.A320 Tryz.f320 [.pointer (some ⟨l, 0, none⟩), .int .i64 b] w (fun v w' => match v with | .int .i64 r0 => K r0 w' | _ => False) = S.wal_Log_find l b w K := by kernel_rfl
theorem T.CO320 : CallOk Tryz.prog T.C320 := CallOk.nil
def T.c320 (vs : List Value) (w : World) (K : Value → World → Prop) : Prop :=
  match vs with
  | [.pointer (some ⟨l, 0, none⟩), .int .i64 b] => S.wal_Log_find l b w (fun r0 w' => K (.int .i64 r0) w')
  | _ => False
theorem T.ok320 : ∀ vs w K, T.c320 vs w K → (callFunc 320 vs.toArray).run Tryz.prog w = .ok (.enter 320 vs.toArray) w ∧ Calls Tryz.prog 320 vs.toArray w fun e w' => ∃ v, e = .returned v ∧ K v w' := by
  intro vs w K h
  unfold T.c320 at h
  split at h
  · refine ⟨Tryz.call320 _ _, ok_of T.CO320 mixed Tryz.func320 (T.eq320 _ _ _ _) h fun v w' hk => ⟨v, rfl, ?_⟩⟩
    split at hk
    · exact hk
    · exact hk.elim
  · exact h.elim

/-- e2e/api.BlockOf (function 321). -/
def S.api_BlockOf (s_ : ByteArray) (w : World) (K : ByteArray → World → Prop) : Prop :=
  if (decide ((s_.size : Int) ≥ 128)) = true then
    CutStr s_ 0 128 fun s1 =>
    K s1 w
  else
    CutStr blk0 (s_.size : Int) (blk0.size : Int) fun s2 =>
    CatOk s_ s2 <|
    K (s_ ++ s2) w
def T.C321 : CallT := CallT.nil
def T.A321 : Ann := fun _ => none
set_option maxRecDepth 1000000 in
theorem T.eq321 (s_ : ByteArray) (w : World) (K : ByteArray → World → Prop) : denF Tryz.prog T.C321 T.A321 Tryz.f321 [.string s_] w (fun v w' => match v with | .string r0 => K r0 w' | _ => False) = S.api_BlockOf s_ w K := by kernel_rfl
theorem T.CO321 : CallOk Tryz.prog T.C321 := CallOk.nil
def T.c321 (vs : List Value) (w : World) (K : Value → World → Prop) : Prop :=
  match vs with
  | [.string s_] => S.api_BlockOf s_ w (fun r0 w' => K (.string r0) w')
  | _ => False
theorem T.ok321 : ∀ vs w K, T.c321 vs w K → (callFunc 321 vs.toArray).run Tryz.prog w = .ok (.enter 321 vs.toArray) w ∧ Calls Tryz.prog 321 vs.toArray w fun e w' => ∃ v, e = .returned v ∧ K v w' := by
  intro vs w K h
  unfold T.c321 at h
  split at h
  · refine ⟨Tryz.call321 _ _, ok_of T.CO321 mixed Tryz.func321 (T.eq321 _ _ _) h fun v w' hk => ⟨v, rfl, ?_⟩⟩
    split at hk
    · exact hk
    · exact hk.elim
  · exact h.elim

/-- (*e2e/wal.Log).Write (function 281). -/
def S.wal_Log_Write (l : Nat) (b : Int) (x : ByteArray) (w : World) (K : Int → World → Prop) : Prop :=
  LdB w ⟨l, 1, none⟩ fun open_1 =>
  if (!open_1) = true then
    K 2 w
  else
    S.wal_inData b w (fun r2 w =>
    if (!r2) = true then
      K 1 w
    else
      S.wal_Log_find l b w (fun r3 w =>
      Join (fun (i_4 : Int) (w : World) =>
        Drew w fun w =>
        Hold w ⟨l, 4, none⟩ 1 fun R5 =>
        LdS w ⟨l, 4, none⟩ fun data_6 =>
        S.api_BlockOf x w (fun r7 w =>
        After R5 w <|
        Ix data_6.a data_6.l i_4 fun b8 o9 =>
        St1 w ⟨b8, o9 + Int.toNat i_4 * 1, none⟩ (.string r7) fun w =>
        K 0 w)) fun J10 =>
      if (decide (r3 < 0)) = true then
        LdI .i64 w ⟨l, 2, none⟩ fun n_11 =>
        if (decide (n_11 ≥ 72)) = true then
          K 4 w
        else
          LdI .i64 w ⟨l, 2, none⟩ fun n_12 =>
          LdS w ⟨l, 3, none⟩ fun num_13 =>
          Ix num_13.a num_13.l n_12 fun b14 o15 =>
          St1 w ⟨b14, o15 + Int.toNat n_12 * 1, none⟩ (.int .i64 b) fun w =>
          LdI .i64 w ⟨l, 2, none⟩ fun n_16 =>
          St1 w ⟨l, 2, none⟩ (.int .i64 (W (n_16 + 1))) fun w =>
          J10 n_12 w
      else
        J10 r3 w))
def T.C281 : CallT := (CallT.cons 319 T.c319 (CallT.cons 320 T.c320 (CallT.cons 321 T.c321 CallT.nil)))
def T.A281 : Ann := fun _ => none
set_option maxRecDepth 1000000 in
theorem T.eq281 (l : Nat) (b : Int) (x : ByteArray) (w : World) (K : Int → World → Prop) : denF Tryz.prog T.C281 T.A281 Tryz.f281 [.pointer (some ⟨l, 0, none⟩), .int .i64 b, .string x] w (fun v w' => match v with | .int .i64 r0 => K r0 w' | _ => False) = S.wal_Log_Write l b x w K := by kernel_rfl
theorem T.CO281 : CallOk Tryz.prog T.C281 := (CallOk.cons 319 T.ok319 (CallOk.cons 320 T.ok320 (CallOk.cons 321 T.ok321 CallOk.nil)))
def T.c281 (vs : List Value) (w : World) (K : Value → World → Prop) : Prop :=
  match vs with
  | [.pointer (some ⟨l, 0, none⟩), .int .i64 b, .string x] => S.wal_Log_Write l b x w (fun r0 w' => K (.int .i64 r0) w')
  | _ => False
theorem T.ok281 : ∀ vs w K, T.c281 vs w K → (callFunc 281 vs.toArray).run Tryz.prog w = .ok (.enter 281 vs.toArray) w ∧ Calls Tryz.prog 281 vs.toArray w fun e w' => ∃ v, e = .returned v ∧ K v w' := by
  intro vs w K h
  unfold T.c281 at h
  split at h
  · refine ⟨Tryz.call281 _ _, ok_of T.CO281 mixed Tryz.func281 (T.eq281 _ _ _ _ _) h fun v w' hk => ⟨v, rfl, ?_⟩⟩
    split at hk
    · exact hk
    · exact hk.elim
  · exact h.elim

/-- (*e2e/pager.Pager).room (function 314). -/
def S.pager_Pager_room (p : Nat) (w : World) (K : Int → Int → World → Prop) : Prop :=
  IxA 5 4 <|
  LdI .i64 w ⟨p, 22 + Int.toNat 4 * 1, none⟩ fun order_1 =>
  Join (fun (w : World) =>
    IxA 5 order_1 <|
    St1 w ⟨p, 2 + Int.toNat order_1 * 4, none⟩ (.int .i64 0) fun w =>
    St1 w ⟨p, 2 + Int.toNat order_1 * 4 + 1, none⟩ (.bool false) fun w =>
    St1 w ⟨p, 2 + Int.toNat order_1 * 4 + 2, none⟩ (.bool false) fun w =>
    St1 w ⟨p, 2 + Int.toNat order_1 * 4 + 3, none⟩ (.string ⟨#[]⟩) fun w =>
    K order_1 0 w) fun J2 =>
  IxA 5 order_1 <|
  LdB w ⟨p, 2 + Int.toNat order_1 * 4 + 1, none⟩ fun valid_3 =>
  if valid_3 = true then
    IxA 5 order_1 <|
    LdB w ⟨p, 2 + Int.toNat order_1 * 4 + 2, none⟩ fun dirty_4 =>
    if dirty_4 = true then
      Drew w fun w =>
      LdP w ⟨p, 0, none⟩ fun l_5 =>
      IxA 5 order_1 <|
      LdI .i64 w ⟨p, 2 + Int.toNat order_1 * 4, none⟩ fun page_6 =>
      IxA 5 order_1 <|
      LdStr w ⟨p, 2 + Int.toNat order_1 * 4 + 3, none⟩ fun data_7 =>
      S.wal_Log_Write l_5 page_6 data_7 w (fun r8 w =>
      if (r8 != 0) = true then
        K 0 23 w
      else
        J2 w)
    else
      J2 w
  else
    J2 w
def T.C314 : CallT := (CallT.cons 281 T.c281 CallT.nil)
def T.A314 : Ann := fun _ => none
set_option maxRecDepth 1000000 in
theorem T.eq314 (p : Nat) (w : World) (K : Int → Int → World → Prop) : denF Tryz.prog T.C314 T.A314 Tryz.f314 [.pointer (some ⟨p, 0, none⟩)] w (fun v w' => match v with | .tuple ⟨[.int .i64 r0, .int .i64 r1]⟩ => K r0 r1 w' | _ => False) = S.pager_Pager_room p w K := by kernel_rfl
theorem T.CO314 : CallOk Tryz.prog T.C314 := (CallOk.cons 281 T.ok281 CallOk.nil)
def T.c314 (vs : List Value) (w : World) (K : Value → World → Prop) : Prop :=
  match vs with
  | [.pointer (some ⟨p, 0, none⟩)] => S.pager_Pager_room p w (fun r0 r1 w' => K (.tuple #[.int .i64 r0, .int .i64 r1]) w')
  | _ => False
theorem T.ok314 : ∀ vs w K, T.c314 vs w K → (callFunc 314 vs.toArray).run Tryz.prog w = .ok (.enter 314 vs.toArray) w ∧ Calls Tryz.prog 314 vs.toArray w fun e w' => ∃ v, e = .returned v ∧ K v w' := by
  intro vs w K h
  unfold T.c314 at h
  split at h
  · refine ⟨Tryz.call314 _ _, ok_of T.CO314 mixed Tryz.func314 (T.eq314 _ _ _) h fun v w' hk => ⟨v, rfl, ?_⟩⟩
    split at hk
    · exact hk
    · exact hk.elim
  · exact h.elim

/-- e2e/wal.homeAt (function 312). -/
def S.wal_homeAt (b : Int) (w : World) (K : Int → World → Prop) : Prop :=
  K (W (73 + b)) w
def T.C312 : CallT := CallT.nil
def T.A312 : Ann := fun _ => none
set_option maxRecDepth 1000000 in
theorem T.eq312 (b : Int) (w : World) (K : Int → World → Prop) : denF Tryz.prog T.C312 T.A312 Tryz.f312 [.int .i64 b] w (fun v w' => match v with | .int .i64 r0 => K r0 w' | _ => False) = S.wal_homeAt b w K := by kernel_rfl
theorem T.CO312 : CallOk Tryz.prog T.C312 := CallOk.nil
def T.c312 (vs : List Value) (w : World) (K : Value → World → Prop) : Prop :=
  match vs with
  | [.int .i64 b] => S.wal_homeAt b w (fun r0 w' => K (.int .i64 r0) w')
  | _ => False
theorem T.ok312 : ∀ vs w K, T.c312 vs w K → (callFunc 312 vs.toArray).run Tryz.prog w = .ok (.enter 312 vs.toArray) w ∧ Calls Tryz.prog 312 vs.toArray w fun e w' => ∃ v, e = .returned v ∧ K v w' := by
  intro vs w K h
  unfold T.c312 at h
  split at h
  · refine ⟨Tryz.call312 _ _, ok_of T.CO312 mixed Tryz.func312 (T.eq312 _ _ _) h fun v w' hk => ⟨v, rfl, ?_⟩⟩
    split at hk
    · exact hk
    · exact hk.elim
  · exact h.elim

/-- (*e2e/diskm.Disk).Read (function 271). -/
def S.diskm_Disk_Read (d : Nat) (b : Int) (w : World) (K : ByteArray → Int → World → Prop) : Prop :=
  if (decide (b < 0)) = true then
    K (⟨#[]⟩ : ByteArray) 1 w
  else
    if (decide (b ≥ 153)) = true then
      K (⟨#[]⟩ : ByteArray) 1 w
    else
      LdS w ⟨d, 0, none⟩ fun blk_1 =>
      Ix blk_1.a blk_1.l b fun b2 o3 =>
      LdStr w ⟨b2, o3 + Int.toNat b * 1, none⟩ fun x_4 =>
      K x_4 0 w
def T.C271 : CallT := CallT.nil
def T.A271 : Ann := fun _ => none
set_option maxRecDepth 1000000 in
theorem T.eq271 (d : Nat) (b : Int) (w : World) (K : ByteArray → Int → World → Prop) : denF Tryz.prog T.C271 T.A271 Tryz.f271 [.pointer (some ⟨d, 0, none⟩), .int .i64 b] w (fun v w' => match v with | .tuple ⟨[.string r0, .int .i64 r1]⟩ => K r0 r1 w' | _ => False) = S.diskm_Disk_Read d b w K := by kernel_rfl
theorem T.CO271 : CallOk Tryz.prog T.C271 := CallOk.nil
def T.c271 (vs : List Value) (w : World) (K : Value → World → Prop) : Prop :=
  match vs with
  | [.pointer (some ⟨d, 0, none⟩), .int .i64 b] => S.diskm_Disk_Read d b w (fun r0 r1 w' => K (.tuple #[.string r0, .int .i64 r1]) w')
  | _ => False
theorem T.ok271 : ∀ vs w K, T.c271 vs w K → (callFunc 271 vs.toArray).run Tryz.prog w = .ok (.enter 271 vs.toArray) w ∧ Calls Tryz.prog 271 vs.toArray w fun e w' => ∃ v, e = .returned v ∧ K v w' := by
  intro vs w K h
  unfold T.c271 at h
  split at h
  · refine ⟨Tryz.call271 _ _, ok_of T.CO271 mixed Tryz.func271 (T.eq271 _ _ _ _) h fun v w' hk => ⟨v, rfl, ?_⟩⟩
    split at hk
    · exact hk
    · exact hk.elim
  · exact h.elim

/-- (*e2e/wal.Log).Read (function 315). -/
def S.wal_Log_Read (l : Nat) (b : Int) (w : World) (K : ByteArray → Int → World → Prop) : Prop :=
  S.wal_inData b w (fun r1 w =>
  if (!r1) = true then
    K (⟨#[]⟩ : ByteArray) 1 w
  else
    S.wal_Log_find l b w (fun r2 w =>
    if (decide (r2 ≥ 0)) = true then
      LdS w ⟨l, 4, none⟩ fun data_3 =>
      Ix data_3.a data_3.l r2 fun b4 o5 =>
      LdStr w ⟨b4, o5 + Int.toNat r2 * 1, none⟩ fun x_6 =>
      K x_6 0 w
    else
      S.wal_homeAt b w (fun r7 w =>
      LdP w ⟨l, 0, none⟩ fun d_8 =>
      S.diskm_Disk_Read d_8 r7 w (fun r9 r10 w =>
      if (r10 != 0) = true then
        K (⟨#[]⟩ : ByteArray) 23 w
      else
        K r9 0 w))))
def T.C315 : CallT := (CallT.cons 319 T.c319 (CallT.cons 320 T.c320 (CallT.cons 312 T.c312 (CallT.cons 271 T.c271 CallT.nil))))
def T.A315 : Ann := fun _ => none
set_option maxRecDepth 1000000 in
theorem T.eq315 (l : Nat) (b : Int) (w : World) (K : ByteArray → Int → World → Prop) : denF Tryz.prog T.C315 T.A315 Tryz.f315 [.pointer (some ⟨l, 0, none⟩), .int .i64 b] w (fun v w' => match v with | .tuple ⟨[.string r0, .int .i64 r1]⟩ => K r0 r1 w' | _ => False) = S.wal_Log_Read l b w K := by kernel_rfl
theorem T.CO315 : CallOk Tryz.prog T.C315 := (CallOk.cons 319 T.ok319 (CallOk.cons 320 T.ok320 (CallOk.cons 312 T.ok312 (CallOk.cons 271 T.ok271 CallOk.nil))))
def T.c315 (vs : List Value) (w : World) (K : Value → World → Prop) : Prop :=
  match vs with
  | [.pointer (some ⟨l, 0, none⟩), .int .i64 b] => S.wal_Log_Read l b w (fun r0 r1 w' => K (.tuple #[.string r0, .int .i64 r1]) w')
  | _ => False
theorem T.ok315 : ∀ vs w K, T.c315 vs w K → (callFunc 315 vs.toArray).run Tryz.prog w = .ok (.enter 315 vs.toArray) w ∧ Calls Tryz.prog 315 vs.toArray w fun e w' => ∃ v, e = .returned v ∧ K v w' := by
  intro vs w K h
  unfold T.c315 at h
  split at h
  · refine ⟨Tryz.call315 _ _, ok_of T.CO315 mixed Tryz.func315 (T.eq315 _ _ _ _) h fun v w' hk => ⟨v, rfl, ?_⟩⟩
    split at hk
    · exact hk
    · exact hk.elim
  · exact h.elim

/-- (*e2e/pager.Pager).read (function 275). -/
def S.pager_Pager_read (p : Nat) (n : Int) (w : World) (K : ByteArray → Int → World → Prop) : Prop :=
  S.pager_Pager_find p n w (fun r1 w =>
  Join (fun (f_2 : Int) (w : World) =>
    S.pager_Pager_touch p f_2 w (fun w =>
    IxA 5 f_2 <|
    LdStr w ⟨p, 2 + Int.toNat f_2 * 4 + 3, none⟩ fun data_3 =>
    K data_3 0 w)) fun J4 =>
  if (decide (r1 < 0)) = true then
    S.pager_Pager_room p w (fun r5 r6 w =>
    if (r6 != 0) = true then
      K (⟨#[]⟩ : ByteArray) r6 w
    else
      LdP w ⟨p, 0, none⟩ fun l_7 =>
      S.wal_Log_Read l_7 n w (fun r8 r9 w =>
      if (r9 != 0) = true then
        K (⟨#[]⟩ : ByteArray) 23 w
      else
        IxA 5 r5 <|
        St1 w ⟨p, 2 + Int.toNat r5 * 4, none⟩ (.int .i64 n) fun w =>
        St1 w ⟨p, 2 + Int.toNat r5 * 4 + 1, none⟩ (.bool true) fun w =>
        St1 w ⟨p, 2 + Int.toNat r5 * 4 + 2, none⟩ (.bool false) fun w =>
        St1 w ⟨p, 2 + Int.toNat r5 * 4 + 3, none⟩ (.string r8) fun w =>
        J4 r5 w))
  else
    J4 r1 w)
def T.C275 : CallT := (CallT.cons 297 T.c297 (CallT.cons 316 T.c316 (CallT.cons 314 T.c314 (CallT.cons 315 T.c315 CallT.nil))))
def T.A275 : Ann := fun _ => none
set_option maxRecDepth 1000000 in
theorem T.eq275 (p : Nat) (n : Int) (w : World) (K : ByteArray → Int → World → Prop) : denF Tryz.prog T.C275 T.A275 Tryz.f275 [.pointer (some ⟨p, 0, none⟩), .int .i64 n] w (fun v w' => match v with | .tuple ⟨[.string r0, .int .i64 r1]⟩ => K r0 r1 w' | _ => False) = S.pager_Pager_read p n w K := by kernel_rfl
theorem T.CO275 : CallOk Tryz.prog T.C275 := (CallOk.cons 297 T.ok297 (CallOk.cons 316 T.ok316 (CallOk.cons 314 T.ok314 (CallOk.cons 315 T.ok315 CallOk.nil))))
def T.c275 (vs : List Value) (w : World) (K : Value → World → Prop) : Prop :=
  match vs with
  | [.pointer (some ⟨p, 0, none⟩), .int .i64 n] => S.pager_Pager_read p n w (fun r0 r1 w' => K (.tuple #[.string r0, .int .i64 r1]) w')
  | _ => False
theorem T.ok275 : ∀ vs w K, T.c275 vs w K → (callFunc 275 vs.toArray).run Tryz.prog w = .ok (.enter 275 vs.toArray) w ∧ Calls Tryz.prog 275 vs.toArray w fun e w' => ∃ v, e = .returned v ∧ K v w' := by
  intro vs w K h
  unfold T.c275 at h
  split at h
  · refine ⟨Tryz.call275 _ _, ok_of T.CO275 mixed Tryz.func275 (T.eq275 _ _ _ _) h fun v w' hk => ⟨v, rfl, ?_⟩⟩
    split at hk
    · exact hk
    · exact hk.elim
  · exact h.elim

/-- e2e/pager.mask (function 317). -/
def S.pager_mask (n : Int) (w : World) (K : Int → World → Prop) : Prop :=
  Pos (U64 (And .i64 n 7)) <|
  K (Shl .u8 1 (U64 (And .i64 n 7))) w
def T.C317 : CallT := CallT.nil
def T.A317 : Ann := fun _ => none
set_option maxRecDepth 1000000 in
theorem T.eq317 (n : Int) (w : World) (K : Int → World → Prop) : denF Tryz.prog T.C317 T.A317 Tryz.f317 [.int .i64 n] w (fun v w' => match v with | .int .u8 r0 => K r0 w' | _ => False) = S.pager_mask n w K := by kernel_rfl
theorem T.CO317 : CallOk Tryz.prog T.C317 := CallOk.nil
def T.c317 (vs : List Value) (w : World) (K : Value → World → Prop) : Prop :=
  match vs with
  | [.int .i64 n] => S.pager_mask n w (fun r0 w' => K (.int .u8 r0) w')
  | _ => False
theorem T.ok317 : ∀ vs w K, T.c317 vs w K → (callFunc 317 vs.toArray).run Tryz.prog w = .ok (.enter 317 vs.toArray) w ∧ Calls Tryz.prog 317 vs.toArray w fun e w' => ∃ v, e = .returned v ∧ K v w' := by
  intro vs w K h
  unfold T.c317 at h
  split at h
  · refine ⟨Tryz.call317 _ _, ok_of T.CO317 mixed Tryz.func317 (T.eq317 _ _ _) h fun v w' hk => ⟨v, rfl, ?_⟩⟩
    split at hk
    · exact hk
    · exact hk.elim
  · exact h.elim

/-- e2e/pager.bit (function 276). -/
def S.pager_bit (m : ByteArray) (n : Int) (w : World) (K : Bool → World → Prop) : Prop :=
  Drew w fun w =>
  IxStr m (Shr .i64 n 3) fun c1 =>
  S.pager_mask n w (fun r2 w =>
  K ((And .u8 c1 r2) != 0) w)
def T.C276 : CallT := (CallT.cons 317 T.c317 CallT.nil)
def T.A276 : Ann := fun _ => none
set_option maxRecDepth 1000000 in
theorem T.eq276 (m : ByteArray) (n : Int) (w : World) (K : Bool → World → Prop) : denF Tryz.prog T.C276 T.A276 Tryz.f276 [.string m, .int .i64 n] w (fun v w' => match v with | .bool r0 => K r0 w' | _ => False) = S.pager_bit m n w K := by kernel_rfl
theorem T.CO276 : CallOk Tryz.prog T.C276 := (CallOk.cons 317 T.ok317 CallOk.nil)
def T.c276 (vs : List Value) (w : World) (K : Value → World → Prop) : Prop :=
  match vs with
  | [.string m, .int .i64 n] => S.pager_bit m n w (fun r0 w' => K (.bool r0) w')
  | _ => False
theorem T.ok276 : ∀ vs w K, T.c276 vs w K → (callFunc 276 vs.toArray).run Tryz.prog w = .ok (.enter 276 vs.toArray) w ∧ Calls Tryz.prog 276 vs.toArray w fun e w' => ∃ v, e = .returned v ∧ K v w' := by
  intro vs w K h
  unfold T.c276 at h
  split at h
  · refine ⟨Tryz.call276 _ _, ok_of T.CO276 mixed Tryz.func276 (T.eq276 _ _ _ _) h fun v w' hk => ⟨v, rfl, ?_⟩⟩
    split at hk
    · exact hk
    · exact hk.elim
  · exact h.elim

/-- (*e2e/pager.Pager).Used (function 217). -/
def S.pager_Pager_Used (p : Nat) (n : Int) (w : World) (K : Bool → World → Prop) : Prop :=
  if (decide (n < 1)) = true then
    K false w
  else
    if (decide (n ≥ 72)) = true then
      K false w
    else
      S.pager_Pager_read p 0 w (fun r1 r2 w =>
      if (r2 == 0) = true then
        S.pager_bit r1 n w (fun r3 w =>
        K r3 w)
      else
        K false w)
def T.C217 : CallT := (CallT.cons 275 T.c275 (CallT.cons 276 T.c276 CallT.nil))
def T.A217 : Ann := fun _ => none
set_option maxRecDepth 1000000 in
theorem T.eq217 (p : Nat) (n : Int) (w : World) (K : Bool → World → Prop) : denF Tryz.prog T.C217 T.A217 Tryz.f217 [.pointer (some ⟨p, 0, none⟩), .int .i64 n] w (fun v w' => match v with | .bool r0 => K r0 w' | _ => False) = S.pager_Pager_Used p n w K := by kernel_rfl
theorem T.CO217 : CallOk Tryz.prog T.C217 := (CallOk.cons 275 T.ok275 (CallOk.cons 276 T.ok276 CallOk.nil))
def T.c217 (vs : List Value) (w : World) (K : Value → World → Prop) : Prop :=
  match vs with
  | [.pointer (some ⟨p, 0, none⟩), .int .i64 n] => S.pager_Pager_Used p n w (fun r0 w' => K (.bool r0) w')
  | _ => False
theorem T.ok217 : ∀ vs w K, T.c217 vs w K → (callFunc 217 vs.toArray).run Tryz.prog w = .ok (.enter 217 vs.toArray) w ∧ Calls Tryz.prog 217 vs.toArray w fun e w' => ∃ v, e = .returned v ∧ K v w' := by
  intro vs w K h
  unfold T.c217 at h
  split at h
  · refine ⟨Tryz.call217 _ _, ok_of T.CO217 mixed Tryz.func217 (T.eq217 _ _ _ _) h fun v w' hk => ⟨v, rfl, ?_⟩⟩
    split at hk
    · exact hk
    · exact hk.elim
  · exact h.elim

/-- (*e2e/wal.Log).Begin (function 277). -/
def S.wal_Log_Begin (l : Nat) (w : World) (K : Int → World → Prop) : Prop :=
  LdB w ⟨l, 1, none⟩ fun open_1 =>
  if open_1 = true then
    K 3 w
  else
    St1 w ⟨l, 1, none⟩ (.bool true) fun w =>
    K 0 w
def T.C277 : CallT := CallT.nil
def T.A277 : Ann := fun _ => none
set_option maxRecDepth 1000000 in
theorem T.eq277 (l : Nat) (w : World) (K : Int → World → Prop) : denF Tryz.prog T.C277 T.A277 Tryz.f277 [.pointer (some ⟨l, 0, none⟩)] w (fun v w' => match v with | .int .i64 r0 => K r0 w' | _ => False) = S.wal_Log_Begin l w K := by kernel_rfl
theorem T.CO277 : CallOk Tryz.prog T.C277 := CallOk.nil
def T.c277 (vs : List Value) (w : World) (K : Value → World → Prop) : Prop :=
  match vs with
  | [.pointer (some ⟨l, 0, none⟩)] => S.wal_Log_Begin l w (fun r0 w' => K (.int .i64 r0) w')
  | _ => False
theorem T.ok277 : ∀ vs w K, T.c277 vs w K → (callFunc 277 vs.toArray).run Tryz.prog w = .ok (.enter 277 vs.toArray) w ∧ Calls Tryz.prog 277 vs.toArray w fun e w' => ∃ v, e = .returned v ∧ K v w' := by
  intro vs w K h
  unfold T.c277 at h
  split at h
  · refine ⟨Tryz.call277 _ _, ok_of T.CO277 mixed Tryz.func277 (T.eq277 _ _ _) h fun v w' hk => ⟨v, rfl, ?_⟩⟩
    split at hk
    · exact hk
    · exact hk.elim
  · exact h.elim

/-- (*e2e/pager.Pager).Begin (function 218). -/
def S.pager_Pager_Begin (p : Nat) (w : World) (K : Int → World → Prop) : Prop :=
  LdB w ⟨p, 1, none⟩ fun open_1 =>
  if open_1 = true then
    K 3 w
  else
    LdP w ⟨p, 0, none⟩ fun l_2 =>
    S.wal_Log_Begin l_2 w (fun r3 w =>
    if (r3 != 0) = true then
      K 23 w
    else
      St1 w ⟨p, 1, none⟩ (.bool true) fun w =>
      K 0 w)
def T.C218 : CallT := (CallT.cons 277 T.c277 CallT.nil)
def T.A218 : Ann := fun _ => none
set_option maxRecDepth 1000000 in
theorem T.eq218 (p : Nat) (w : World) (K : Int → World → Prop) : denF Tryz.prog T.C218 T.A218 Tryz.f218 [.pointer (some ⟨p, 0, none⟩)] w (fun v w' => match v with | .int .i64 r0 => K r0 w' | _ => False) = S.pager_Pager_Begin p w K := by kernel_rfl
theorem T.CO218 : CallOk Tryz.prog T.C218 := (CallOk.cons 277 T.ok277 CallOk.nil)
def T.c218 (vs : List Value) (w : World) (K : Value → World → Prop) : Prop :=
  match vs with
  | [.pointer (some ⟨p, 0, none⟩)] => S.pager_Pager_Begin p w (fun r0 w' => K (.int .i64 r0) w')
  | _ => False
theorem T.ok218 : ∀ vs w K, T.c218 vs w K → (callFunc 218 vs.toArray).run Tryz.prog w = .ok (.enter 218 vs.toArray) w ∧ Calls Tryz.prog 218 vs.toArray w fun e w' => ∃ v, e = .returned v ∧ K v w' := by
  intro vs w K h
  unfold T.c218 at h
  split at h
  · refine ⟨Tryz.call218 _ _, ok_of T.CO218 mixed Tryz.func218 (T.eq218 _ _ _) h fun v w' hk => ⟨v, rfl, ?_⟩⟩
    split at hk
    · exact hk
    · exact hk.elim
  · exact h.elim

/-- e2e/pager.lowestClear (function 278). -/
def S.pager_lowestClear (m : ByteArray) (w : World) (K : Int → World → Prop) : Prop :=
  LoopP (σ := Int × Unit) (fun st1 w next2 =>
    if (decide (st1.1 < 9)) = true then
      Join (fun (w : World) =>
        Let (W (st1.1 + 1)) fun i_3 =>
        next2 (i_3, ()) w) fun J4 =>
      IxStr m st1.1 fun c5 =>
      Join (fun (b_6 : Int) (w : World) =>
        if (b_6 != 255) = true then
          Let (W (st1.1 * 8)) fun n_7 =>
          LoopP (σ := Int × Unit) (fun st8 w next9 =>
            if (decide (st8.1 < (W ((W (st1.1 * 8)) + 8)))) = true then
              if (decide (st8.1 < 72)) = true then
                S.pager_mask st8.1 w (fun r10 w =>
                if ((And .u8 b_6 r10) == 0) = true then
                  K st8.1 w
                else
                  Let (W (st8.1 + 1)) fun n_11 =>
                  next9 (n_11, ()) w)
              else
                J4 w
            else
              J4 w) (n_7, ()) w
        else
          J4 w) fun J12 =>
      if (st1.1 == 0) = true then
        Let (Or .u8 c5 1) fun b_13 =>
        J12 b_13 w
      else
        J12 c5 w
    else
      K 0 w) (0, ()) w
def T.C278 : CallT := (CallT.cons 317 T.c317 CallT.nil)
def T.A278 : Ann := fun i => bif Nat.beq i 9 then some ([0, 3, 4], [(5, 0)]) else bif Nat.beq i 2 then some ([0], [(3, 0)]) else none
set_option maxRecDepth 1000000 in
theorem T.eq278 (m : ByteArray) (w : World) (K : Int → World → Prop) : denF Tryz.prog T.C278 T.A278 Tryz.f278 [.string m] w (fun v w' => match v with | .int .i64 r0 => K r0 w' | _ => False) = S.pager_lowestClear m w K := by kernel_rfl
theorem T.CO278 : CallOk Tryz.prog T.C278 := (CallOk.cons 317 T.ok317 CallOk.nil)
def T.c278 (vs : List Value) (w : World) (K : Value → World → Prop) : Prop :=
  match vs with
  | [.string m] => S.pager_lowestClear m w (fun r0 w' => K (.int .i64 r0) w')
  | _ => False
theorem T.ok278 : ∀ vs w K, T.c278 vs w K → (callFunc 278 vs.toArray).run Tryz.prog w = .ok (.enter 278 vs.toArray) w ∧ Calls Tryz.prog 278 vs.toArray w fun e w' => ∃ v, e = .returned v ∧ K v w' := by
  intro vs w K h
  unfold T.c278 at h
  split at h
  · refine ⟨Tryz.call278 _ _, ok_of T.CO278 mixed Tryz.func278 (T.eq278 _ _ _) h fun v w' hk => ⟨v, rfl, ?_⟩⟩
    split at hk
    · exact hk
    · exact hk.elim
  · exact h.elim

/-- e2e/pager.with (function 318). -/
def S.pager_with (m : ByteArray) (i : Int) (v : Int) (w : World) (K : ByteArray → World → Prop) : Prop :=
  Drew w fun w =>
  CutStr m 0 i fun s1 =>
  CutStr m (W (i + 1)) (m.size : Int) fun s2 =>
  New w (.cells #[.int .u8 v] 5) fun p3 w =>
  BtS w ⟨some ⟨p3, 0, none⟩, 1, 1⟩ fun s4 =>
  CatOk s1 s4 <|
  CatOk (s1 ++ s4) s2 <|
  K ((s1 ++ s4) ++ s2) w
def T.C318 : CallT := CallT.nil
def T.A318 : Ann := fun _ => none
set_option maxRecDepth 1000000 in
theorem T.eq318 (m : ByteArray) (i : Int) (v : Int) (w : World) (K : ByteArray → World → Prop) : denF Tryz.prog T.C318 T.A318 Tryz.f318 [.string m, .int .i64 i, .int .u8 v] w (fun v w' => match v with | .string r0 => K r0 w' | _ => False) = S.pager_with m i v w K := by kernel_rfl
theorem T.CO318 : CallOk Tryz.prog T.C318 := CallOk.nil
def T.c318 (vs : List Value) (w : World) (K : Value → World → Prop) : Prop :=
  match vs with
  | [.string m, .int .i64 i, .int .u8 v] => S.pager_with m i v w (fun r0 w' => K (.string r0) w')
  | _ => False
theorem T.ok318 : ∀ vs w K, T.c318 vs w K → (callFunc 318 vs.toArray).run Tryz.prog w = .ok (.enter 318 vs.toArray) w ∧ Calls Tryz.prog 318 vs.toArray w fun e w' => ∃ v, e = .returned v ∧ K v w' := by
  intro vs w K h
  unfold T.c318 at h
  split at h
  · refine ⟨Tryz.call318 _ _, ok_of T.CO318 mixed Tryz.func318 (T.eq318 _ _ _ _ _) h fun v w' hk => ⟨v, rfl, ?_⟩⟩
    split at hk
    · exact hk
    · exact hk.elim
  · exact h.elim

/-- e2e/pager.setBit (function 279). -/
def S.pager_setBit (m : ByteArray) (n : Int) (w : World) (K : ByteArray → World → Prop) : Prop :=
  Drew w fun w =>
  IxStr m (Shr .i64 n 3) fun c1 =>
  S.pager_mask n w (fun r2 w =>
  Let (Or .u8 c1 r2) fun v_3 =>
  S.pager_with m (Shr .i64 n 3) v_3 w (fun r4 w =>
  K r4 w))
def T.C279 : CallT := (CallT.cons 317 T.c317 (CallT.cons 318 T.c318 CallT.nil))
def T.A279 : Ann := fun _ => none
set_option maxRecDepth 1000000 in
theorem T.eq279 (m : ByteArray) (n : Int) (w : World) (K : ByteArray → World → Prop) : denF Tryz.prog T.C279 T.A279 Tryz.f279 [.string m, .int .i64 n] w (fun v w' => match v with | .string r0 => K r0 w' | _ => False) = S.pager_setBit m n w K := by kernel_rfl
theorem T.CO279 : CallOk Tryz.prog T.C279 := (CallOk.cons 317 T.ok317 (CallOk.cons 318 T.ok318 CallOk.nil))
def T.c279 (vs : List Value) (w : World) (K : Value → World → Prop) : Prop :=
  match vs with
  | [.string m, .int .i64 n] => S.pager_setBit m n w (fun r0 w' => K (.string r0) w')
  | _ => False
theorem T.ok279 : ∀ vs w K, T.c279 vs w K → (callFunc 279 vs.toArray).run Tryz.prog w = .ok (.enter 279 vs.toArray) w ∧ Calls Tryz.prog 279 vs.toArray w fun e w' => ∃ v, e = .returned v ∧ K v w' := by
  intro vs w K h
  unfold T.c279 at h
  split at h
  · refine ⟨Tryz.call279 _ _, ok_of T.CO279 mixed Tryz.func279 (T.eq279 _ _ _ _) h fun v w' hk => ⟨v, rfl, ?_⟩⟩
    split at hk
    · exact hk
    · exact hk.elim
  · exact h.elim

/-- (*e2e/pager.Pager).write (function 280). -/
def S.pager_Pager_write (p : Nat) (n : Int) (x : ByteArray) (w : World) (K : Int → World → Prop) : Prop :=
  S.pager_Pager_find p n w (fun r1 w =>
  Join (fun (f_2 : Int) (w : World) =>
    IxA 5 f_2 <|
    St1 w ⟨p, 2 + Int.toNat f_2 * 4, none⟩ (.int .i64 n) fun w =>
    St1 w ⟨p, 2 + Int.toNat f_2 * 4 + 1, none⟩ (.bool true) fun w =>
    St1 w ⟨p, 2 + Int.toNat f_2 * 4 + 2, none⟩ (.bool true) fun w =>
    St1 w ⟨p, 2 + Int.toNat f_2 * 4 + 3, none⟩ (.string x) fun w =>
    S.pager_Pager_touch p f_2 w (fun w =>
    K 0 w)) fun J3 =>
  if (decide (r1 < 0)) = true then
    S.pager_Pager_room p w (fun r4 r5 w =>
    if (r5 != 0) = true then
      K r5 w
    else
      J3 r4 w)
  else
    J3 r1 w)
def T.C280 : CallT := (CallT.cons 297 T.c297 (CallT.cons 316 T.c316 (CallT.cons 314 T.c314 CallT.nil)))
def T.A280 : Ann := fun _ => none
set_option maxRecDepth 1000000 in
theorem T.eq280 (p : Nat) (n : Int) (x : ByteArray) (w : World) (K : Int → World → Prop) : denF Tryz.prog T.C280 T.A280 Tryz.f280 [.pointer (some ⟨p, 0, none⟩), .int .i64 n, .string x] w (fun v w' => match v with | .int .i64 r0 => K r0 w' | _ => False) = S.pager_Pager_write p n x w K := by kernel_rfl
theorem T.CO280 : CallOk Tryz.prog T.C280 := (CallOk.cons 297 T.ok297 (CallOk.cons 316 T.ok316 (CallOk.cons 314 T.ok314 CallOk.nil)))
def T.c280 (vs : List Value) (w : World) (K : Value → World → Prop) : Prop :=
  match vs with
  | [.pointer (some ⟨p, 0, none⟩), .int .i64 n, .string x] => S.pager_Pager_write p n x w (fun r0 w' => K (.int .i64 r0) w')
  | _ => False
theorem T.ok280 : ∀ vs w K, T.c280 vs w K → (callFunc 280 vs.toArray).run Tryz.prog w = .ok (.enter 280 vs.toArray) w ∧ Calls Tryz.prog 280 vs.toArray w fun e w' => ∃ v, e = .returned v ∧ K v w' := by
  intro vs w K h
  unfold T.c280 at h
  split at h
  · refine ⟨Tryz.call280 _ _, ok_of T.CO280 mixed Tryz.func280 (T.eq280 _ _ _ _ _) h fun v w' hk => ⟨v, rfl, ?_⟩⟩
    split at hk
    · exact hk
    · exact hk.elim
  · exact h.elim

/-- (*e2e/pager.Pager).Alloc (function 219). -/
def S.pager_Pager_Alloc (p : Nat) (w : World) (K : Int → Int → World → Prop) : Prop :=
  LdB w ⟨p, 1, none⟩ fun open_1 =>
  if (!open_1) = true then
    K 0 2 w
  else
    S.pager_Pager_read p 0 w (fun r2 r3 w =>
    if (r3 != 0) = true then
      K 0 r3 w
    else
      S.pager_lowestClear r2 w (fun r4 w =>
      if (r4 == 0) = true then
        K 0 6 w
      else
        S.pager_setBit r2 r4 w (fun r5 w =>
        S.pager_Pager_write p 0 r5 w (fun r6 w =>
        if (r6 != 0) = true then
          K 0 r6 w
        else
          S.pager_Pager_write p r4 blk0 w (fun r7 w =>
          if (r7 != 0) = true then
            K 0 r7 w
          else
            K r4 0 w)))))
def T.C219 : CallT := (CallT.cons 275 T.c275 (CallT.cons 278 T.c278 (CallT.cons 279 T.c279 (CallT.cons 280 T.c280 CallT.nil))))
def T.A219 : Ann := fun _ => none
set_option maxRecDepth 1000000 in
theorem T.eq219 (p : Nat) (w : World) (K : Int → Int → World → Prop) : denF Tryz.prog T.C219 T.A219 Tryz.f219 [.pointer (some ⟨p, 0, none⟩)] w (fun v w' => match v with | .tuple ⟨[.int .i64 r0, .int .i64 r1]⟩ => K r0 r1 w' | _ => False) = S.pager_Pager_Alloc p w K := by kernel_rfl
theorem T.CO219 : CallOk Tryz.prog T.C219 := (CallOk.cons 275 T.ok275 (CallOk.cons 278 T.ok278 (CallOk.cons 279 T.ok279 (CallOk.cons 280 T.ok280 CallOk.nil))))
def T.c219 (vs : List Value) (w : World) (K : Value → World → Prop) : Prop :=
  match vs with
  | [.pointer (some ⟨p, 0, none⟩)] => S.pager_Pager_Alloc p w (fun r0 r1 w' => K (.tuple #[.int .i64 r0, .int .i64 r1]) w')
  | _ => False
theorem T.ok219 : ∀ vs w K, T.c219 vs w K → (callFunc 219 vs.toArray).run Tryz.prog w = .ok (.enter 219 vs.toArray) w ∧ Calls Tryz.prog 219 vs.toArray w fun e w' => ∃ v, e = .returned v ∧ K v w' := by
  intro vs w K h
  unfold T.c219 at h
  split at h
  · refine ⟨Tryz.call219 _ _, ok_of T.CO219 mixed Tryz.func219 (T.eq219 _ _ _) h fun v w' hk => ⟨v, rfl, ?_⟩⟩
    split at hk
    · exact hk
    · exact hk.elim
  · exact h.elim

/-- e2e/wal.headerOf (function 333). -/
def S.wal_headerOf (num : Sl) (n : Int) (w : World) (K : ByteArray → World → Prop) : Prop :=
  MkS 5 [.int .u8 0] 1 w 128 128 fun l1 w =>
  Ix l1.a l1.l 0 fun b2 o3 =>
  St1 w ⟨b2, o3 + Int.toNat 0 * 1, none⟩ (.int .u8 (U8 n)) fun w =>
  Join (fun (w : World) =>
    BtS w l1 fun s4 =>
    K s4 w) fun J5 =>
  LoopP (σ := Int × Unit) (fun st6 w next7 =>
    if (decide (st6.1 < n)) = true then
      if (decide (st6.1 < 72)) = true then
        if (decide (st6.1 < (num.l : Int))) = true then
          Ix num.a num.l st6.1 fun b8 o9 =>
          LdI .i64 w ⟨b8, o9 + Int.toNat st6.1 * 1, none⟩ fun x_10 =>
          Ix l1.a l1.l (W (1 + st6.1)) fun b11 o12 =>
          St1 w ⟨b11, o12 + Int.toNat (W (1 + st6.1)) * 1, none⟩ (.int .u8 (U8 x_10)) fun w =>
          Let (W (st6.1 + 1)) fun i_13 =>
          next7 (i_13, ()) w
        else
          J5 w
      else
        J5 w
    else
      J5 w) (0, ()) w
def T.C333 : CallT := CallT.nil
def T.A333 : Ann := fun i => bif Nat.beq i 4 then some ([0, 1, 5], [(6, 0)]) else none
set_option maxRecDepth 1000000 in
theorem T.eq333 (num : Sl) (n : Int) (w : World) (K : ByteArray → World → Prop) : denF Tryz.prog T.C333 T.A333 Tryz.f333 [.slice num.a num.l num.c, .int .i64 n] w (fun v w' => match v with | .string r0 => K r0 w' | _ => False) = S.wal_headerOf num n w K := by kernel_rfl
theorem T.CO333 : CallOk Tryz.prog T.C333 := CallOk.nil
def T.c333 (vs : List Value) (w : World) (K : Value → World → Prop) : Prop :=
  match vs with
  | [.slice numa numl numc, .int .i64 n] => S.wal_headerOf ⟨numa, numl, numc⟩ n w (fun r0 w' => K (.string r0) w')
  | _ => False
theorem T.ok333 : ∀ vs w K, T.c333 vs w K → (callFunc 333 vs.toArray).run Tryz.prog w = .ok (.enter 333 vs.toArray) w ∧ Calls Tryz.prog 333 vs.toArray w fun e w' => ∃ v, e = .returned v ∧ K v w' := by
  intro vs w K h
  unfold T.c333 at h
  split at h
  · refine ⟨Tryz.call333 _ _, ok_of T.CO333 mixed Tryz.func333 (T.eq333 _ _ _ _) h fun v w' hk => ⟨v, rfl, ?_⟩⟩
    split at hk
    · exact hk
    · exact hk.elim
  · exact h.elim

/-- (*e2e/diskm.Disk).Write (function 313). -/
def S.diskm_Disk_Write (d : Nat) (b : Int) (x : ByteArray) (w : World) (K : Int → World → Prop) : Prop :=
  if (decide (b < 0)) = true then
    K 1 w
  else
    if (decide (b ≥ 153)) = true then
      K 1 w
    else
      S.api_BlockOf x w (fun r1 w =>
      LdS w ⟨d, 0, none⟩ fun blk_2 =>
      Ix blk_2.a blk_2.l b fun b3 o4 =>
      St1 w ⟨b3, o4 + Int.toNat b * 1, none⟩ (.string r1) fun w =>
      LdS w ⟨d, 2, none⟩ fun recs_5 =>
      New w (.cells #[.int .i64 b, .string r1] 319) fun p6 w =>
      AppS 319 [.int .i64 0, .string ⟨#[]⟩] 24 2 w recs_5 ⟨some ⟨p6, 0, none⟩, 1, 1⟩ fun l7 w =>
      St1 w ⟨d, 2, none⟩ (.slice l7.a l7.l l7.c) fun w =>
      K 0 w)
def T.C313 : CallT := (CallT.cons 321 T.c321 CallT.nil)
def T.A313 : Ann := fun _ => none
set_option maxRecDepth 1000000 in
theorem T.eq313 (d : Nat) (b : Int) (x : ByteArray) (w : World) (K : Int → World → Prop) : denF Tryz.prog T.C313 T.A313 Tryz.f313 [.pointer (some ⟨d, 0, none⟩), .int .i64 b, .string x] w (fun v w' => match v with | .int .i64 r0 => K r0 w' | _ => False) = S.diskm_Disk_Write d b x w K := by kernel_rfl
theorem T.CO313 : CallOk Tryz.prog T.C313 := (CallOk.cons 321 T.ok321 CallOk.nil)
def T.c313 (vs : List Value) (w : World) (K : Value → World → Prop) : Prop :=
  match vs with
  | [.pointer (some ⟨d, 0, none⟩), .int .i64 b, .string x] => S.diskm_Disk_Write d b x w (fun r0 w' => K (.int .i64 r0) w')
  | _ => False
theorem T.ok313 : ∀ vs w K, T.c313 vs w K → (callFunc 313 vs.toArray).run Tryz.prog w = .ok (.enter 313 vs.toArray) w ∧ Calls Tryz.prog 313 vs.toArray w fun e w' => ∃ v, e = .returned v ∧ K v w' := by
  intro vs w K h
  unfold T.c313 at h
  split at h
  · refine ⟨Tryz.call313 _ _, ok_of T.CO313 mixed Tryz.func313 (T.eq313 _ _ _ _ _) h fun v w' hk => ⟨v, rfl, ?_⟩⟩
    split at hk
    · exact hk
    · exact hk.elim
  · exact h.elim

/-- e2e/wal.logged (function 309). -/
def S.wal_logged (h : ByteArray) (w : World) (K : Int → World → Prop) : Prop :=
  if ((h.size : Int) != 128) = true then
    K 0 w
  else
    IxStr h 0 fun c1 =>
    Let (W c1) fun n_2 =>
    if (decide (n_2 > 72)) = true then
      K 0 w
    else
      LoopP (σ := Int × Unit) (fun st3 w next4 =>
        if (decide (st3.1 < n_2)) = true then
          IxStr h (W (1 + st3.1)) fun c5 =>
          S.wal_inData (W c5) w (fun r6 w =>
          if (!r6) = true then
            K 0 w
          else
            Let (W (st3.1 + 1)) fun i_7 =>
            next4 (i_7, ()) w)
        else
          K n_2 w) (0, ()) w
def T.C309 : CallT := (CallT.cons 319 T.c319 CallT.nil)
def T.A309 : Ann := fun i => bif Nat.beq i 7 then some ([0, 3], [(4, 0)]) else none
set_option maxRecDepth 1000000 in
theorem T.eq309 (h : ByteArray) (w : World) (K : Int → World → Prop) : denF Tryz.prog T.C309 T.A309 Tryz.f309 [.string h] w (fun v w' => match v with | .int .i64 r0 => K r0 w' | _ => False) = S.wal_logged h w K := by kernel_rfl
theorem T.CO309 : CallOk Tryz.prog T.C309 := (CallOk.cons 319 T.ok319 CallOk.nil)
def T.c309 (vs : List Value) (w : World) (K : Value → World → Prop) : Prop :=
  match vs with
  | [.string h] => S.wal_logged h w (fun r0 w' => K (.int .i64 r0) w')
  | _ => False
theorem T.ok309 : ∀ vs w K, T.c309 vs w K → (callFunc 309 vs.toArray).run Tryz.prog w = .ok (.enter 309 vs.toArray) w ∧ Calls Tryz.prog 309 vs.toArray w fun e w' => ∃ v, e = .returned v ∧ K v w' := by
  intro vs w K h
  unfold T.c309 at h
  split at h
  · refine ⟨Tryz.call309 _ _, ok_of T.CO309 mixed Tryz.func309 (T.eq309 _ _ _) h fun v w' hk => ⟨v, rfl, ?_⟩⟩
    split at hk
    · exact hk
    · exact hk.elim
  · exact h.elim

/-- e2e/wal.slotAt (function 310). -/
def S.wal_slotAt (i : Int) (w : World) (K : Int → World → Prop) : Prop :=
  K (W (1 + i)) w
def T.C310 : CallT := CallT.nil
def T.A310 : Ann := fun _ => none
set_option maxRecDepth 1000000 in
theorem T.eq310 (i : Int) (w : World) (K : Int → World → Prop) : denF Tryz.prog T.C310 T.A310 Tryz.f310 [.int .i64 i] w (fun v w' => match v with | .int .i64 r0 => K r0 w' | _ => False) = S.wal_slotAt i w K := by kernel_rfl
theorem T.CO310 : CallOk Tryz.prog T.C310 := CallOk.nil
def T.c310 (vs : List Value) (w : World) (K : Value → World → Prop) : Prop :=
  match vs with
  | [.int .i64 i] => S.wal_slotAt i w (fun r0 w' => K (.int .i64 r0) w')
  | _ => False
theorem T.ok310 : ∀ vs w K, T.c310 vs w K → (callFunc 310 vs.toArray).run Tryz.prog w = .ok (.enter 310 vs.toArray) w ∧ Calls Tryz.prog 310 vs.toArray w fun e w' => ∃ v, e = .returned v ∧ K v w' := by
  intro vs w K h
  unfold T.c310 at h
  split at h
  · refine ⟨Tryz.call310 _ _, ok_of T.CO310 mixed Tryz.func310 (T.eq310 _ _ _) h fun v w' hk => ⟨v, rfl, ?_⟩⟩
    split at hk
    · exact hk
    · exact hk.elim
  · exact h.elim

/-- e2e/wal.numberAt (function 311). -/
def S.wal_numberAt (h : ByteArray) (i : Int) (w : World) (K : Int → World → Prop) : Prop :=
  IxStr h (W (1 + i)) fun c1 =>
  K (W c1) w
def T.C311 : CallT := CallT.nil
def T.A311 : Ann := fun _ => none
set_option maxRecDepth 1000000 in
theorem T.eq311 (h : ByteArray) (i : Int) (w : World) (K : Int → World → Prop) : denF Tryz.prog T.C311 T.A311 Tryz.f311 [.string h, .int .i64 i] w (fun v w' => match v with | .int .i64 r0 => K r0 w' | _ => False) = S.wal_numberAt h i w K := by kernel_rfl
theorem T.CO311 : CallOk Tryz.prog T.C311 := CallOk.nil
def T.c311 (vs : List Value) (w : World) (K : Value → World → Prop) : Prop :=
  match vs with
  | [.string h, .int .i64 i] => S.wal_numberAt h i w (fun r0 w' => K (.int .i64 r0) w')
  | _ => False
theorem T.ok311 : ∀ vs w K, T.c311 vs w K → (callFunc 311 vs.toArray).run Tryz.prog w = .ok (.enter 311 vs.toArray) w ∧ Calls Tryz.prog 311 vs.toArray w fun e w' => ∃ v, e = .returned v ∧ K v w' := by
  intro vs w K h
  unfold T.c311 at h
  split at h
  · refine ⟨Tryz.call311 _ _, ok_of T.CO311 mixed Tryz.func311 (T.eq311 _ _ _ _) h fun v w' hk => ⟨v, rfl, ?_⟩⟩
    split at hk
    · exact hk
    · exact hk.elim
  · exact h.elim

/-- e2e/wal.install (function 272). -/
def S.wal_install (d : Nat) (h : ByteArray) (w : World) (K : Int → World → Prop) : Prop :=
  S.wal_logged h w (fun r1 w =>
  Join (fun (w : World) =>
    S.diskm_Disk_Write d 0 blk0 w (fun r2 w =>
    if (r2 != 0) = true then
      K 23 w
    else
      K 0 w)) fun J3 =>
  LoopP (σ := Int × Unit) (fun st4 w next5 =>
    if (decide (st4.1 < r1)) = true then
      S.wal_slotAt st4.1 w (fun r6 w =>
      S.diskm_Disk_Read d r6 w (fun r7 r8 w =>
      if (r8 != 0) = true then
        K 23 w
      else
        S.wal_numberAt h st4.1 w (fun r9 w =>
        S.wal_homeAt r9 w (fun r10 w =>
        S.diskm_Disk_Write d r10 r7 w (fun r11 w =>
        if (r11 != 0) = true then
          K 23 w
        else
          Let (W (st4.1 + 1)) fun i_12 =>
          next5 (i_12, ()) w)))))
    else
      J3 w) (0, ()) w)
def T.C272 : CallT := (CallT.cons 309 T.c309 (CallT.cons 313 T.c313 (CallT.cons 310 T.c310 (CallT.cons 271 T.c271 (CallT.cons 311 T.c311 (CallT.cons 312 T.c312 CallT.nil))))))
def T.A272 : Ann := fun i => bif Nat.beq i 3 then some ([0, 1, 5], [(6, 0)]) else none
set_option maxRecDepth 1000000 in
theorem T.eq272 (d : Nat) (h : ByteArray) (w : World) (K : Int → World → Prop) : denF Tryz.prog T.C272 T.A272 Tryz.f272 [.pointer (some ⟨d, 0, none⟩), .string h] w (fun v w' => match v with | .int .i64 r0 => K r0 w' | _ => False) = S.wal_install d h w K := by kernel_rfl
theorem T.CO272 : CallOk Tryz.prog T.C272 := (CallOk.cons 309 T.ok309 (CallOk.cons 313 T.ok313 (CallOk.cons 310 T.ok310 (CallOk.cons 271 T.ok271 (CallOk.cons 311 T.ok311 (CallOk.cons 312 T.ok312 CallOk.nil))))))
def T.c272 (vs : List Value) (w : World) (K : Value → World → Prop) : Prop :=
  match vs with
  | [.pointer (some ⟨d, 0, none⟩), .string h] => S.wal_install d h w (fun r0 w' => K (.int .i64 r0) w')
  | _ => False
theorem T.ok272 : ∀ vs w K, T.c272 vs w K → (callFunc 272 vs.toArray).run Tryz.prog w = .ok (.enter 272 vs.toArray) w ∧ Calls Tryz.prog 272 vs.toArray w fun e w' => ∃ v, e = .returned v ∧ K v w' := by
  intro vs w K h
  unfold T.c272 at h
  split at h
  · refine ⟨Tryz.call272 _ _, ok_of T.CO272 mixed Tryz.func272 (T.eq272 _ _ _ _) h fun v w' hk => ⟨v, rfl, ?_⟩⟩
    split at hk
    · exact hk
    · exact hk.elim
  · exact h.elim

/-- (*e2e/wal.Log).flush (function 322). -/
def S.wal_Log_flush (l : Nat) (w : World) (K : Int → World → Prop) : Prop :=
  Join (fun (w : World) =>
    Drew w fun w =>
    LdS w ⟨l, 3, none⟩ fun num_1 =>
    LdI .i64 w ⟨l, 2, none⟩ fun n_2 =>
    S.wal_headerOf num_1 n_2 w (fun r3 w =>
    LdP w ⟨l, 0, none⟩ fun d_4 =>
    S.diskm_Disk_Write d_4 0 r3 w (fun r5 w =>
    if (r5 != 0) = true then
      K 23 w
    else
      LdP w ⟨l, 0, none⟩ fun d_6 =>
      S.wal_install d_6 r3 w (fun r7 w =>
      K r7 w)))) fun J8 =>
  LoopP (σ := Int × Unit) (fun st9 w next10 =>
    LdI .i64 w ⟨l, 2, none⟩ fun n_11 =>
    if (decide (st9.1 < n_11)) = true then
      S.wal_slotAt st9.1 w (fun r12 w =>
      Drew w fun w =>
      LdP w ⟨l, 0, none⟩ fun d_13 =>
      LdS w ⟨l, 4, none⟩ fun data_14 =>
      Ix data_14.a data_14.l st9.1 fun b15 o16 =>
      LdStr w ⟨b15, o16 + Int.toNat st9.1 * 1, none⟩ fun x_17 =>
      S.diskm_Disk_Write d_13 r12 x_17 w (fun r18 w =>
      if (r18 != 0) = true then
        K 23 w
      else
        Let (W (st9.1 + 1)) fun i_19 =>
        next10 (i_19, ()) w))
    else
      J8 w) (0, ()) w
def T.C322 : CallT := (CallT.cons 333 T.c333 (CallT.cons 313 T.c313 (CallT.cons 272 T.c272 (CallT.cons 310 T.c310 CallT.nil))))
def T.A322 : Ann := fun i => bif Nat.beq i 2 then some ([0], [(3, 0)]) else none
set_option maxRecDepth 1000000 in
theorem T.eq322 (l : Nat) (w : World) (K : Int → World → Prop) : denF Tryz.prog T.C322 T.A322 Tryz.f322 [.pointer (some ⟨l, 0, none⟩)] w (fun v w' => match v with | .int .i64 r0 => K r0 w' | _ => False) = S.wal_Log_flush l w K := by kernel_rfl
theorem T.CO322 : CallOk Tryz.prog T.C322 := (CallOk.cons 333 T.ok333 (CallOk.cons 313 T.ok313 (CallOk.cons 272 T.ok272 (CallOk.cons 310 T.ok310 CallOk.nil))))
def T.c322 (vs : List Value) (w : World) (K : Value → World → Prop) : Prop :=
  match vs with
  | [.pointer (some ⟨l, 0, none⟩)] => S.wal_Log_flush l w (fun r0 w' => K (.int .i64 r0) w')
  | _ => False
theorem T.ok322 : ∀ vs w K, T.c322 vs w K → (callFunc 322 vs.toArray).run Tryz.prog w = .ok (.enter 322 vs.toArray) w ∧ Calls Tryz.prog 322 vs.toArray w fun e w' => ∃ v, e = .returned v ∧ K v w' := by
  intro vs w K h
  unfold T.c322 at h
  split at h
  · refine ⟨Tryz.call322 _ _, ok_of T.CO322 mixed Tryz.func322 (T.eq322 _ _ _) h fun v w' hk => ⟨v, rfl, ?_⟩⟩
    split at hk
    · exact hk
    · exact hk.elim
  · exact h.elim

/-- (*e2e/wal.Log).Commit (function 282). -/
def S.wal_Log_Commit (l : Nat) (w : World) (K : Int → World → Prop) : Prop :=
  LdB w ⟨l, 1, none⟩ fun open_1 =>
  if (!open_1) = true then
    K 2 w
  else
    LdI .i64 w ⟨l, 2, none⟩ fun n_2 =>
    Join (fun (e_3 : Int) (w : World) =>
      St1 w ⟨l, 1, none⟩ (.bool false) fun w =>
      St1 w ⟨l, 2, none⟩ (.int .i64 0) fun w =>
      K e_3 w) fun J4 =>
    if (decide (n_2 > 0)) = true then
      S.wal_Log_flush l w (fun r5 w =>
      J4 r5 w)
    else
      J4 0 w
def T.C282 : CallT := (CallT.cons 322 T.c322 CallT.nil)
def T.A282 : Ann := fun _ => none
set_option maxRecDepth 1000000 in
theorem T.eq282 (l : Nat) (w : World) (K : Int → World → Prop) : denF Tryz.prog T.C282 T.A282 Tryz.f282 [.pointer (some ⟨l, 0, none⟩)] w (fun v w' => match v with | .int .i64 r0 => K r0 w' | _ => False) = S.wal_Log_Commit l w K := by kernel_rfl
theorem T.CO282 : CallOk Tryz.prog T.C282 := (CallOk.cons 322 T.ok322 CallOk.nil)
def T.c282 (vs : List Value) (w : World) (K : Value → World → Prop) : Prop :=
  match vs with
  | [.pointer (some ⟨l, 0, none⟩)] => S.wal_Log_Commit l w (fun r0 w' => K (.int .i64 r0) w')
  | _ => False
theorem T.ok282 : ∀ vs w K, T.c282 vs w K → (callFunc 282 vs.toArray).run Tryz.prog w = .ok (.enter 282 vs.toArray) w ∧ Calls Tryz.prog 282 vs.toArray w fun e w' => ∃ v, e = .returned v ∧ K v w' := by
  intro vs w K h
  unfold T.c282 at h
  split at h
  · refine ⟨Tryz.call282 _ _, ok_of T.CO282 mixed Tryz.func282 (T.eq282 _ _ _) h fun v w' hk => ⟨v, rfl, ?_⟩⟩
    split at hk
    · exact hk
    · exact hk.elim
  · exact h.elim

/-- (*e2e/pager.Pager).Commit (function 220). -/
def S.pager_Pager_Commit (p : Nat) (w : World) (K : Int → World → Prop) : Prop :=
  LdB w ⟨p, 1, none⟩ fun open_1 =>
  if (!open_1) = true then
    K 2 w
  else
    Join (fun (w : World) =>
      LdP w ⟨p, 0, none⟩ fun l_2 =>
      S.wal_Log_Commit l_2 w (fun r3 w =>
      if (r3 != 0) = true then
        K 23 w
      else
        St1 w ⟨p, 1, none⟩ (.bool false) fun w =>
        K 0 w)) fun J4 =>
    LoopP (σ := Int × Unit) (fun st5 w next6 =>
      if (decide (st5.1 < 5)) = true then
        Join (fun (w : World) =>
          Let (W (st5.1 + 1)) fun f_7 =>
          next6 (f_7, ()) w) fun J8 =>
        IxA 5 st5.1 <|
        LdB w ⟨p, 2 + Int.toNat st5.1 * 4 + 1, none⟩ fun valid_9 =>
        if valid_9 = true then
          IxA 5 st5.1 <|
          LdB w ⟨p, 2 + Int.toNat st5.1 * 4 + 2, none⟩ fun dirty_10 =>
          if dirty_10 = true then
            Drew w fun w =>
            LdP w ⟨p, 0, none⟩ fun l_11 =>
            IxA 5 st5.1 <|
            LdI .i64 w ⟨p, 2 + Int.toNat st5.1 * 4, none⟩ fun page_12 =>
            IxA 5 st5.1 <|
            LdStr w ⟨p, 2 + Int.toNat st5.1 * 4 + 3, none⟩ fun data_13 =>
            S.wal_Log_Write l_11 page_12 data_13 w (fun r14 w =>
            if (r14 != 0) = true then
              K 23 w
            else
              IxA 5 st5.1 <|
              St1 w ⟨p, 2 + Int.toNat st5.1 * 4 + 2, none⟩ (.bool false) fun w =>
              J8 w)
          else
            J8 w
        else
          J8 w
      else
        J4 w) (0, ()) w
def T.C220 : CallT := (CallT.cons 282 T.c282 (CallT.cons 281 T.c281 CallT.nil))
def T.A220 : Ann := fun i => bif Nat.beq i 4 then some ([0], [(3, 0)]) else none
set_option maxRecDepth 1000000 in
theorem T.eq220 (p : Nat) (w : World) (K : Int → World → Prop) : denF Tryz.prog T.C220 T.A220 Tryz.f220 [.pointer (some ⟨p, 0, none⟩)] w (fun v w' => match v with | .int .i64 r0 => K r0 w' | _ => False) = S.pager_Pager_Commit p w K := by kernel_rfl
theorem T.CO220 : CallOk Tryz.prog T.C220 := (CallOk.cons 282 T.ok282 (CallOk.cons 281 T.ok281 CallOk.nil))
def T.c220 (vs : List Value) (w : World) (K : Value → World → Prop) : Prop :=
  match vs with
  | [.pointer (some ⟨p, 0, none⟩)] => S.pager_Pager_Commit p w (fun r0 w' => K (.int .i64 r0) w')
  | _ => False
theorem T.ok220 : ∀ vs w K, T.c220 vs w K → (callFunc 220 vs.toArray).run Tryz.prog w = .ok (.enter 220 vs.toArray) w ∧ Calls Tryz.prog 220 vs.toArray w fun e w' => ∃ v, e = .returned v ∧ K v w' := by
  intro vs w K h
  unfold T.c220 at h
  split at h
  · refine ⟨Tryz.call220 _ _, ok_of T.CO220 mixed Tryz.func220 (T.eq220 _ _ _) h fun v w' hk => ⟨v, rfl, ?_⟩⟩
    split at hk
    · exact hk
    · exact hk.elim
  · exact h.elim

/-- e2e/btree.Open (function 136). -/
def S.btree_Open (p : Nat) (w : World) (K : Nat → World → Prop) : Prop :=
  S.pager_Pager_Used p 1 w (fun r1 w =>
  Join (fun (w : World) =>
    New w (.cells #[.pointer (some ⟨p, 0, none⟩)] 266) fun p2 w =>
    K p2 w) fun J3 =>
  if (!r1) = true then
    S.pager_Pager_Begin p w (fun r4 w =>
    S.pager_Pager_Alloc p w (fun r5 r6 w =>
    S.pager_Pager_Commit p w (fun r7 w =>
    J3 w)))
  else
    J3 w)
def T.C136 : CallT := (CallT.cons 217 T.c217 (CallT.cons 218 T.c218 (CallT.cons 219 T.c219 (CallT.cons 220 T.c220 CallT.nil))))
def T.A136 : Ann := fun _ => none
set_option maxRecDepth 1000000 in
theorem T.eq136 (p : Nat) (w : World) (K : Nat → World → Prop) : denF Tryz.prog T.C136 T.A136 Tryz.f136 [.pointer (some ⟨p, 0, none⟩)] w (fun v w' => match v with | .pointer (some ⟨r0, 0, none⟩) => K r0 w' | _ => False) = S.btree_Open p w K := by kernel_rfl
theorem T.CO136 : CallOk Tryz.prog T.C136 := (CallOk.cons 217 T.ok217 (CallOk.cons 218 T.ok218 (CallOk.cons 219 T.ok219 (CallOk.cons 220 T.ok220 CallOk.nil))))
def T.c136 (vs : List Value) (w : World) (K : Value → World → Prop) : Prop :=
  match vs with
  | [.pointer (some ⟨p, 0, none⟩)] => S.btree_Open p w (fun r0 w' => K (.pointer (some ⟨r0, 0, none⟩)) w')
  | _ => False
theorem T.ok136 : ∀ vs w K, T.c136 vs w K → (callFunc 136 vs.toArray).run Tryz.prog w = .ok (.enter 136 vs.toArray) w ∧ Calls Tryz.prog 136 vs.toArray w fun e w' => ∃ v, e = .returned v ∧ K v w' := by
  intro vs w K h
  unfold T.c136 at h
  split at h
  · refine ⟨Tryz.call136 _ _, ok_of T.CO136 mixed Tryz.func136 (T.eq136 _ _ _) h fun v w' hk => ⟨v, rfl, ?_⟩⟩
    split at hk
    · exact hk
    · exact hk.elim
  · exact h.elim

/-- e2e/btree.New (function 59). -/
def S.btree_New (p : Nat) (w : World) (K : Nat → World → Prop) : Prop :=
  S.btree_Open p w (fun r1 w =>
  K r1 w)
def T.C59 : CallT := (CallT.cons 136 T.c136 CallT.nil)
def T.A59 : Ann := fun _ => none
set_option maxRecDepth 1000000 in
theorem T.eq59 (p : Nat) (w : World) (K : Nat → World → Prop) : denF Tryz.prog T.C59 T.A59 Tryz.f59 [.pointer (some ⟨p, 0, none⟩)] w (fun v w' => match v with | .pointer (some ⟨r0, 0, none⟩) => K r0 w' | _ => False) = S.btree_New p w K := by kernel_rfl
theorem T.CO59 : CallOk Tryz.prog T.C59 := (CallOk.cons 136 T.ok136 CallOk.nil)
def T.c59 (vs : List Value) (w : World) (K : Value → World → Prop) : Prop :=
  match vs with
  | [.pointer (some ⟨p, 0, none⟩)] => S.btree_New p w (fun r0 w' => K (.pointer (some ⟨r0, 0, none⟩)) w')
  | _ => False
theorem T.ok59 : ∀ vs w K, T.c59 vs w K → (callFunc 59 vs.toArray).run Tryz.prog w = .ok (.enter 59 vs.toArray) w ∧ Calls Tryz.prog 59 vs.toArray w fun e w' => ∃ v, e = .returned v ∧ K v w' := by
  intro vs w K h
  unfold T.c59 at h
  split at h
  · refine ⟨Tryz.call59 _ _, ok_of T.CO59 mixed Tryz.func59 (T.eq59 _ _ _) h fun v w' hk => ⟨v, rfl, ?_⟩⟩
    split at hk
    · exact hk
    · exact hk.elim
  · exact h.elim

/-- (*e2e/pager.Pager).Get (function 286). -/
def S.pager_Pager_Get (p : Nat) (n : Int) (w : World) (K : ByteArray → Int → World → Prop) : Prop :=
  S.pager_Pager_Used p n w (fun r1 w =>
  if (!r1) = true then
    K (⟨#[]⟩ : ByteArray) 5 w
  else
    S.pager_Pager_read p n w (fun r2 r3 w =>
    K r2 r3 w))
def T.C286 : CallT := (CallT.cons 217 T.c217 (CallT.cons 275 T.c275 CallT.nil))
def T.A286 : Ann := fun _ => none
set_option maxRecDepth 1000000 in
theorem T.eq286 (p : Nat) (n : Int) (w : World) (K : ByteArray → Int → World → Prop) : denF Tryz.prog T.C286 T.A286 Tryz.f286 [.pointer (some ⟨p, 0, none⟩), .int .i64 n] w (fun v w' => match v with | .tuple ⟨[.string r0, .int .i64 r1]⟩ => K r0 r1 w' | _ => False) = S.pager_Pager_Get p n w K := by kernel_rfl
theorem T.CO286 : CallOk Tryz.prog T.C286 := (CallOk.cons 217 T.ok217 (CallOk.cons 275 T.ok275 CallOk.nil))
def T.c286 (vs : List Value) (w : World) (K : Value → World → Prop) : Prop :=
  match vs with
  | [.pointer (some ⟨p, 0, none⟩), .int .i64 n] => S.pager_Pager_Get p n w (fun r0 r1 w' => K (.tuple #[.string r0, .int .i64 r1]) w')
  | _ => False
theorem T.ok286 : ∀ vs w K, T.c286 vs w K → (callFunc 286 vs.toArray).run Tryz.prog w = .ok (.enter 286 vs.toArray) w ∧ Calls Tryz.prog 286 vs.toArray w fun e w' => ∃ v, e = .returned v ∧ K v w' := by
  intro vs w K h
  unfold T.c286 at h
  split at h
  · refine ⟨Tryz.call286 _ _, ok_of T.CO286 mixed Tryz.func286 (T.eq286 _ _ _ _) h fun v w' hk => ⟨v, rfl, ?_⟩⟩
    split at hk
    · exact hk
    · exact hk.elim
  · exact h.elim

/-- (*e2e/btree.Forest).root (function 245). -/
def S.btree_Forest_root (f : Nat) (h : Int) (w : World) (K : ByteArray → Int → World → Prop) : Prop :=
  LdP w ⟨f, 0, none⟩ fun p_1 =>
  S.pager_Pager_Get p_1 1 w (fun r2 r3 w =>
  Join (fun (d_4 : ByteArray) (w : World) =>
    Join (fun (w : World) =>
      K d_4 0 w) fun J5 =>
    if (decide (h < 0)) = true then
      J5 w
    else
      if (decide (h ≥ 8)) = true then
        J5 w
      else
        Drew w fun w =>
        IxStr d_4 h fun c6 =>
        K d_4 (W c6) w) fun J7 =>
  if ((r2.size : Int) != 128) = true then
    J7 blk0 w
  else
    J7 r2 w)
def T.C245 : CallT := (CallT.cons 286 T.c286 CallT.nil)
def T.A245 : Ann := fun _ => none
set_option maxRecDepth 1000000 in
theorem T.eq245 (f : Nat) (h : Int) (w : World) (K : ByteArray → Int → World → Prop) : denF Tryz.prog T.C245 T.A245 Tryz.f245 [.pointer (some ⟨f, 0, none⟩), .int .i64 h] w (fun v w' => match v with | .tuple ⟨[.string r0, .int .i64 r1]⟩ => K r0 r1 w' | _ => False) = S.btree_Forest_root f h w K := by kernel_rfl
theorem T.CO245 : CallOk Tryz.prog T.C245 := (CallOk.cons 286 T.ok286 CallOk.nil)
def T.c245 (vs : List Value) (w : World) (K : Value → World → Prop) : Prop :=
  match vs with
  | [.pointer (some ⟨f, 0, none⟩), .int .i64 h] => S.btree_Forest_root f h w (fun r0 r1 w' => K (.tuple #[.string r0, .int .i64 r1]) w')
  | _ => False
theorem T.ok245 : ∀ vs w K, T.c245 vs w K → (callFunc 245 vs.toArray).run Tryz.prog w = .ok (.enter 245 vs.toArray) w ∧ Calls Tryz.prog 245 vs.toArray w fun e w' => ∃ v, e = .returned v ∧ K v w' := by
  intro vs w K h
  unfold T.c245 at h
  split at h
  · refine ⟨Tryz.call245 _ _, ok_of T.CO245 mixed Tryz.func245 (T.eq245 _ _ _ _) h fun v w' hk => ⟨v, rfl, ?_⟩⟩
    split at hk
    · exact hk
    · exact hk.elim
  · exact h.elim

/-- (*e2e/btree.Forest).Used (function 221). -/
def S.btree_Forest_Used (f : Nat) (h : Int) (w : World) (K : Bool → World → Prop) : Prop :=
  S.btree_Forest_root f h w (fun r1 r2 w =>
  K (r2 != 0) w)
def T.C221 : CallT := (CallT.cons 245 T.c245 CallT.nil)
def T.A221 : Ann := fun _ => none
set_option maxRecDepth 1000000 in
theorem T.eq221 (f : Nat) (h : Int) (w : World) (K : Bool → World → Prop) : denF Tryz.prog T.C221 T.A221 Tryz.f221 [.pointer (some ⟨f, 0, none⟩), .int .i64 h] w (fun v w' => match v with | .bool r0 => K r0 w' | _ => False) = S.btree_Forest_Used f h w K := by kernel_rfl
theorem T.CO221 : CallOk Tryz.prog T.C221 := (CallOk.cons 245 T.ok245 CallOk.nil)
def T.c221 (vs : List Value) (w : World) (K : Value → World → Prop) : Prop :=
  match vs with
  | [.pointer (some ⟨f, 0, none⟩), .int .i64 h] => S.btree_Forest_Used f h w (fun r0 w' => K (.bool r0) w')
  | _ => False
theorem T.ok221 : ∀ vs w K, T.c221 vs w K → (callFunc 221 vs.toArray).run Tryz.prog w = .ok (.enter 221 vs.toArray) w ∧ Calls Tryz.prog 221 vs.toArray w fun e w' => ∃ v, e = .returned v ∧ K v w' := by
  intro vs w K h
  unfold T.c221 at h
  split at h
  · refine ⟨Tryz.call221 _ _, ok_of T.CO221 mixed Tryz.func221 (T.eq221 _ _ _ _) h fun v w' hk => ⟨v, rfl, ?_⟩⟩
    split at hk
    · exact hk
    · exact hk.elim
  · exact h.elim

/-- (*e2e/btree.Forest).Begin (function 222). -/
def S.btree_Forest_Begin (f : Nat) (w : World) (K : Int → World → Prop) : Prop :=
  LdP w ⟨f, 0, none⟩ fun p_1 =>
  S.pager_Pager_Begin p_1 w (fun r2 w =>
  K r2 w)
def T.C222 : CallT := (CallT.cons 218 T.c218 CallT.nil)
def T.A222 : Ann := fun _ => none
set_option maxRecDepth 1000000 in
theorem T.eq222 (f : Nat) (w : World) (K : Int → World → Prop) : denF Tryz.prog T.C222 T.A222 Tryz.f222 [.pointer (some ⟨f, 0, none⟩)] w (fun v w' => match v with | .int .i64 r0 => K r0 w' | _ => False) = S.btree_Forest_Begin f w K := by kernel_rfl
theorem T.CO222 : CallOk Tryz.prog T.C222 := (CallOk.cons 218 T.ok218 CallOk.nil)
def T.c222 (vs : List Value) (w : World) (K : Value → World → Prop) : Prop :=
  match vs with
  | [.pointer (some ⟨f, 0, none⟩)] => S.btree_Forest_Begin f w (fun r0 w' => K (.int .i64 r0) w')
  | _ => False
theorem T.ok222 : ∀ vs w K, T.c222 vs w K → (callFunc 222 vs.toArray).run Tryz.prog w = .ok (.enter 222 vs.toArray) w ∧ Calls Tryz.prog 222 vs.toArray w fun e w' => ∃ v, e = .returned v ∧ K v w' := by
  intro vs w K h
  unfold T.c222 at h
  split at h
  · refine ⟨Tryz.call222 _ _, ok_of T.CO222 mixed Tryz.func222 (T.eq222 _ _ _) h fun v w' hk => ⟨v, rfl, ?_⟩⟩
    split at hk
    · exact hk
    · exact hk.elim
  · exact h.elim

/-- (*e2e/pager.Pager).InTxn (function 239). -/
def S.pager_Pager_InTxn (p : Nat) (w : World) (K : Bool → World → Prop) : Prop :=
  LdB w ⟨p, 1, none⟩ fun open_1 =>
  K open_1 w
def T.C239 : CallT := CallT.nil
def T.A239 : Ann := fun _ => none
set_option maxRecDepth 1000000 in
theorem T.eq239 (p : Nat) (w : World) (K : Bool → World → Prop) : denF Tryz.prog T.C239 T.A239 Tryz.f239 [.pointer (some ⟨p, 0, none⟩)] w (fun v w' => match v with | .bool r0 => K r0 w' | _ => False) = S.pager_Pager_InTxn p w K := by kernel_rfl
theorem T.CO239 : CallOk Tryz.prog T.C239 := CallOk.nil
def T.c239 (vs : List Value) (w : World) (K : Value → World → Prop) : Prop :=
  match vs with
  | [.pointer (some ⟨p, 0, none⟩)] => S.pager_Pager_InTxn p w (fun r0 w' => K (.bool r0) w')
  | _ => False
theorem T.ok239 : ∀ vs w K, T.c239 vs w K → (callFunc 239 vs.toArray).run Tryz.prog w = .ok (.enter 239 vs.toArray) w ∧ Calls Tryz.prog 239 vs.toArray w fun e w' => ∃ v, e = .returned v ∧ K v w' := by
  intro vs w K h
  unfold T.c239 at h
  split at h
  · refine ⟨Tryz.call239 _ _, ok_of T.CO239 mixed Tryz.func239 (T.eq239 _ _ _) h fun v w' hk => ⟨v, rfl, ?_⟩⟩
    split at hk
    · exact hk
    · exact hk.elim
  · exact h.elim

/-- e2e/btree.putStr (function 324). -/
def S.btree_putStr (b : Sl) (off : Int) (s_ : ByteArray) (most : Int) (w : World) (K : Sl → World → Prop) : Prop :=
  Ix b.a b.l off fun b1 o2 =>
  St1 w ⟨b1, o2 + Int.toNat off * 1, none⟩ (.int .u8 (U8 (s_.size : Int))) fun w =>
  LoopP (σ := Int × Unit) (fun st3 w next4 =>
    if (decide (st3.1 < (s_.size : Int))) = true then
      if (decide (st3.1 < most)) = true then
        IxStr s_ st3.1 fun c5 =>
        Ix b.a b.l (W ((W (off + 1)) + st3.1)) fun b6 o7 =>
        St1 w ⟨b6, o7 + Int.toNat (W ((W (off + 1)) + st3.1)) * 1, none⟩ (.int .u8 c5) fun w =>
        Let (W (st3.1 + 1)) fun i_8 =>
        next4 (i_8, ()) w
      else
        K b w
    else
      K b w) (0, ()) w
def T.C324 : CallT := CallT.nil
def T.A324 : Ann := fun i => bif Nat.beq i 3 then some ([0, 1, 2, 3], [(9, 0)]) else none
set_option maxRecDepth 1000000 in
theorem T.eq324 (b : Sl) (off : Int) (s_ : ByteArray) (most : Int) (w : World) (K : Sl → World → Prop) : denF Tryz.prog T.C324 T.A324 Tryz.f324 [.slice b.a b.l b.c, .int .i64 off, .string s_, .int .i64 most] w (fun v w' => match v with | .slice r0a r0l r0c => K ⟨r0a, r0l, r0c⟩ w' | _ => False) = S.btree_putStr b off s_ most w K := by kernel_rfl
theorem T.CO324 : CallOk Tryz.prog T.C324 := CallOk.nil
def T.c324 (vs : List Value) (w : World) (K : Value → World → Prop) : Prop :=
  match vs with
  | [.slice ba bl bc, .int .i64 off, .string s_, .int .i64 most] => S.btree_putStr ⟨ba, bl, bc⟩ off s_ most w (fun r0 w' => K (.slice r0.a r0.l r0.c) w')
  | _ => False
theorem T.ok324 : ∀ vs w K, T.c324 vs w K → (callFunc 324 vs.toArray).run Tryz.prog w = .ok (.enter 324 vs.toArray) w ∧ Calls Tryz.prog 324 vs.toArray w fun e w' => ∃ v, e = .returned v ∧ K v w' := by
  intro vs w K h
  unfold T.c324 at h
  split at h
  · refine ⟨Tryz.call324 _ _, ok_of T.CO324 mixed Tryz.func324 (T.eq324 _ _ _ _ _ _) h fun v w' hk => ⟨v, rfl, ?_⟩⟩
    split at hk
    · exact hk
    · exact hk.elim
  · exact h.elim

/-- e2e/btree.encode (function 287). -/
def S.btree_encode (nd_kind : Int) (nd_n : Int) (nd_keys : ByteArray) (nd_keys_ : ByteArray) (nd_keys__ : ByteArray) (nd_keys___ : ByteArray) (nd_vals : ByteArray) (nd_vals_ : ByteArray) (nd_vals__ : ByteArray) (nd_vals___ : ByteArray) (nd_kids : Int) (nd_kids_ : Int) (nd_kids__ : Int) (nd_kids___ : Int) (nd_kids____ : Int) (w : World) (K : ByteArray → World → Prop) : Prop :=
  New w (.cells #[.int .i64 nd_kind, .int .i64 nd_n, .string nd_keys, .string nd_keys_, .string nd_keys__, .string nd_keys___, .string nd_vals, .string nd_vals_, .string nd_vals__, .string nd_vals___, .int .i64 nd_kids, .int .i64 nd_kids_, .int .i64 nd_kids__, .int .i64 nd_kids___, .int .i64 nd_kids____] 289) fun p1 w =>
  MkS 5 [.int .u8 0] 1 w 128 128 fun l2 w =>
  LdI .i64 w ⟨p1, 0, none⟩ fun kind_3 =>
  Ix l2.a l2.l 0 fun b4 o5 =>
  St1 w ⟨b4, o5 + Int.toNat 0 * 1, none⟩ (.int .u8 (U8 kind_3)) fun w =>
  LdI .i64 w ⟨p1, 1, none⟩ fun n_6 =>
  Ix l2.a l2.l 1 fun b7 o8 =>
  St1 w ⟨b7, o8 + Int.toNat 1 * 1, none⟩ (.int .u8 (U8 n_6)) fun w =>
  LdI .i64 w ⟨p1, 0, none⟩ fun kind_9 =>
  if (kind_9 == 1) = true then
    Join (fun (b_10 : Sl) (w : World) =>
      BtS w b_10 fun s11 =>
      K s11 w) fun J12 =>
    LoopP (σ := Sl × Int × Unit) (fun st13 w next14 =>
      LdI .i64 w ⟨p1, 1, none⟩ fun n_15 =>
      if (decide (st13.2.1 < n_15)) = true then
        if (decide (st13.2.1 < 3)) = true then
          Let (W (4 + (W (st13.2.1 * 34)))) fun at_16 =>
          IxA 4 st13.2.1 <|
          LdStr w ⟨p1, 2 + Int.toNat st13.2.1 * 1, none⟩ fun keys_17 =>
          S.btree_putStr st13.1 at_16 keys_17 16 w (fun r18 w =>
          IxA 4 st13.2.1 <|
          LdStr w ⟨p1, 6 + Int.toNat st13.2.1 * 1, none⟩ fun vals_19 =>
          S.btree_putStr r18 (W ((W (at_16 + 1)) + 16)) vals_19 16 w (fun r20 w =>
          Let (W (st13.2.1 + 1)) fun i_21 =>
          next14 (r20, i_21, ()) w))
        else
          J12 st13.1 w
      else
        J12 st13.1 w) (l2, 0, ()) w
  else
    Join (fun (w : World) =>
      Join (fun (b_22 : Sl) (w : World) =>
        BtS w b_22 fun s23 =>
        K s23 w) fun J24 =>
      LoopP (σ := Sl × Int × Unit) (fun st25 w next26 =>
        LdI .i64 w ⟨p1, 1, none⟩ fun n_27 =>
        if (decide ((W (st25.2.1 + 1)) < n_27)) = true then
          if (decide ((W (st25.2.1 + 1)) < 4)) = true then
            IxA 4 st25.2.1 <|
            LdStr w ⟨p1, 2 + Int.toNat st25.2.1 * 1, none⟩ fun keys_28 =>
            S.btree_putStr st25.1 (W (8 + (W (st25.2.1 * 17)))) keys_28 16 w (fun r29 w =>
            Let (W (st25.2.1 + 1)) fun i_30 =>
            next26 (r29, i_30, ()) w)
          else
            J24 st25.1 w
        else
          J24 st25.1 w) (l2, 0, ()) w) fun J31 =>
    LoopP (σ := Int × Unit) (fun st32 w next33 =>
      LdI .i64 w ⟨p1, 1, none⟩ fun n_34 =>
      if (decide (st32.1 < n_34)) = true then
        if (decide (st32.1 < 4)) = true then
          IxA 5 st32.1 <|
          LdI .i64 w ⟨p1, 10 + Int.toNat st32.1 * 1, none⟩ fun kids_35 =>
          Ix l2.a l2.l (W (4 + st32.1)) fun b36 o37 =>
          St1 w ⟨b36, o37 + Int.toNat (W (4 + st32.1)) * 1, none⟩ (.int .u8 (U8 kids_35)) fun w =>
          Let (W (st32.1 + 1)) fun i_38 =>
          next33 (i_38, ()) w
        else
          J31 w
      else
        J31 w) (0, ()) w
def T.C287 : CallT := (CallT.cons 324 T.c324 CallT.nil)
def T.A287 : Ann := fun i => bif Nat.beq i 13 then some ([1, 3], [(6, 0)]) else bif Nat.beq i 17 then some ([1], [(3, 6), (7, 0)]) else bif Nat.beq i 6 then some ([1], [(3, 6), (4, 0)]) else none
set_option maxRecDepth 1000000 in
theorem T.eq287 (nd_kind : Int) (nd_n : Int) (nd_keys : ByteArray) (nd_keys_ : ByteArray) (nd_keys__ : ByteArray) (nd_keys___ : ByteArray) (nd_vals : ByteArray) (nd_vals_ : ByteArray) (nd_vals__ : ByteArray) (nd_vals___ : ByteArray) (nd_kids : Int) (nd_kids_ : Int) (nd_kids__ : Int) (nd_kids___ : Int) (nd_kids____ : Int) (w : World) (K : ByteArray → World → Prop) : denF Tryz.prog T.C287 T.A287 Tryz.f287 [.agg #[.int .i64 nd_kind, .int .i64 nd_n, .string nd_keys, .string nd_keys_, .string nd_keys__, .string nd_keys___, .string nd_vals, .string nd_vals_, .string nd_vals__, .string nd_vals___, .int .i64 nd_kids, .int .i64 nd_kids_, .int .i64 nd_kids__, .int .i64 nd_kids___, .int .i64 nd_kids____]] w (fun v w' => match v with | .string r0 => K r0 w' | _ => False) = S.btree_encode nd_kind nd_n nd_keys nd_keys_ nd_keys__ nd_keys___ nd_vals nd_vals_ nd_vals__ nd_vals___ nd_kids nd_kids_ nd_kids__ nd_kids___ nd_kids____ w K := by kernel_rfl
theorem T.CO287 : CallOk Tryz.prog T.C287 := (CallOk.cons 324 T.ok324 CallOk.nil)
def T.c287 (vs : List Value) (w : World) (K : Value → World → Prop) : Prop :=
  match vs with
  | [.agg ⟨[.int .i64 nd_kind, .int .i64 nd_n, .string nd_keys, .string nd_keys_, .string nd_keys__, .string nd_keys___, .string nd_vals, .string nd_vals_, .string nd_vals__, .string nd_vals___, .int .i64 nd_kids, .int .i64 nd_kids_, .int .i64 nd_kids__, .int .i64 nd_kids___, .int .i64 nd_kids____]⟩] => S.btree_encode nd_kind nd_n nd_keys nd_keys_ nd_keys__ nd_keys___ nd_vals nd_vals_ nd_vals__ nd_vals___ nd_kids nd_kids_ nd_kids__ nd_kids___ nd_kids____ w (fun r0 w' => K (.string r0) w')
  | _ => False
theorem T.ok287 : ∀ vs w K, T.c287 vs w K → (callFunc 287 vs.toArray).run Tryz.prog w = .ok (.enter 287 vs.toArray) w ∧ Calls Tryz.prog 287 vs.toArray w fun e w' => ∃ v, e = .returned v ∧ K v w' := by
  intro vs w K h
  unfold T.c287 at h
  split at h
  · refine ⟨Tryz.call287 _ _, ok_of T.CO287 mixed Tryz.func287 (T.eq287 _ _ _ _ _ _ _ _ _ _ _ _ _ _ _ _ _) h fun v w' hk => ⟨v, rfl, ?_⟩⟩
    split at hk
    · exact hk
    · exact hk.elim
  · exact h.elim

/-- (*e2e/pager.Pager).Put (function 288). -/
def S.pager_Pager_Put (p : Nat) (n : Int) (x : ByteArray) (w : World) (K : Int → World → Prop) : Prop :=
  LdB w ⟨p, 1, none⟩ fun open_1 =>
  if (!open_1) = true then
    K 2 w
  else
    S.pager_Pager_Used p n w (fun r2 w =>
    if (!r2) = true then
      K 5 w
    else
      S.api_BlockOf x w (fun r3 w =>
      S.pager_Pager_write p n r3 w (fun r4 w =>
      K r4 w)))
def T.C288 : CallT := (CallT.cons 217 T.c217 (CallT.cons 321 T.c321 (CallT.cons 280 T.c280 CallT.nil)))
def T.A288 : Ann := fun _ => none
set_option maxRecDepth 1000000 in
theorem T.eq288 (p : Nat) (n : Int) (x : ByteArray) (w : World) (K : Int → World → Prop) : denF Tryz.prog T.C288 T.A288 Tryz.f288 [.pointer (some ⟨p, 0, none⟩), .int .i64 n, .string x] w (fun v w' => match v with | .int .i64 r0 => K r0 w' | _ => False) = S.pager_Pager_Put p n x w K := by kernel_rfl
theorem T.CO288 : CallOk Tryz.prog T.C288 := (CallOk.cons 217 T.ok217 (CallOk.cons 321 T.ok321 (CallOk.cons 280 T.ok280 CallOk.nil)))
def T.c288 (vs : List Value) (w : World) (K : Value → World → Prop) : Prop :=
  match vs with
  | [.pointer (some ⟨p, 0, none⟩), .int .i64 n, .string x] => S.pager_Pager_Put p n x w (fun r0 w' => K (.int .i64 r0) w')
  | _ => False
theorem T.ok288 : ∀ vs w K, T.c288 vs w K → (callFunc 288 vs.toArray).run Tryz.prog w = .ok (.enter 288 vs.toArray) w ∧ Calls Tryz.prog 288 vs.toArray w fun e w' => ∃ v, e = .returned v ∧ K v w' := by
  intro vs w K h
  unfold T.c288 at h
  split at h
  · refine ⟨Tryz.call288 _ _, ok_of T.CO288 mixed Tryz.func288 (T.eq288 _ _ _ _ _) h fun v w' hk => ⟨v, rfl, ?_⟩⟩
    split at hk
    · exact hk
    · exact hk.elim
  · exact h.elim

/-- (*e2e/btree.Forest).store (function 246). -/
def S.btree_Forest_store (f : Nat) (pg : Int) (nd_kind : Int) (nd_n : Int) (nd_keys : ByteArray) (nd_keys_ : ByteArray) (nd_keys__ : ByteArray) (nd_keys___ : ByteArray) (nd_vals : ByteArray) (nd_vals_ : ByteArray) (nd_vals__ : ByteArray) (nd_vals___ : ByteArray) (nd_kids : Int) (nd_kids_ : Int) (nd_kids__ : Int) (nd_kids___ : Int) (nd_kids____ : Int) (w : World) (K : Int → World → Prop) : Prop :=
  New w (.cells #[.int .i64 nd_kind, .int .i64 nd_n, .string nd_keys, .string nd_keys_, .string nd_keys__, .string nd_keys___, .string nd_vals, .string nd_vals_, .string nd_vals__, .string nd_vals___, .int .i64 nd_kids, .int .i64 nd_kids_, .int .i64 nd_kids__, .int .i64 nd_kids___, .int .i64 nd_kids____] 289) fun p1 w =>
  LdI .i64 w ⟨p1, 0, none⟩ fun kind_2 =>
  LdI .i64 w ⟨p1, 1, none⟩ fun n_3 =>
  LdStr w ⟨p1, 2, none⟩ fun keys_4 =>
  LdStr w ⟨p1, 3, none⟩ fun keys_5 =>
  LdStr w ⟨p1, 4, none⟩ fun keys_6 =>
  LdStr w ⟨p1, 5, none⟩ fun keys_7 =>
  LdStr w ⟨p1, 6, none⟩ fun vals_8 =>
  LdStr w ⟨p1, 7, none⟩ fun vals_9 =>
  LdStr w ⟨p1, 8, none⟩ fun vals_10 =>
  LdStr w ⟨p1, 9, none⟩ fun vals_11 =>
  LdI .i64 w ⟨p1, 10, none⟩ fun kids_12 =>
  LdI .i64 w ⟨p1, 11, none⟩ fun kids_13 =>
  LdI .i64 w ⟨p1, 12, none⟩ fun kids_14 =>
  LdI .i64 w ⟨p1, 13, none⟩ fun kids_15 =>
  LdI .i64 w ⟨p1, 14, none⟩ fun kids_16 =>
  S.btree_encode kind_2 n_3 keys_4 keys_5 keys_6 keys_7 vals_8 vals_9 vals_10 vals_11 kids_12 kids_13 kids_14 kids_15 kids_16 w (fun r17 w =>
  LdP w ⟨f, 0, none⟩ fun p_18 =>
  S.pager_Pager_Put p_18 pg r17 w (fun r19 w =>
  if (r19 != 0) = true then
    K 23 w
  else
    K 0 w))
def T.C246 : CallT := (CallT.cons 287 T.c287 (CallT.cons 288 T.c288 CallT.nil))
def T.A246 : Ann := fun _ => none
set_option maxRecDepth 1000000 in
theorem T.eq246 (f : Nat) (pg : Int) (nd_kind : Int) (nd_n : Int) (nd_keys : ByteArray) (nd_keys_ : ByteArray) (nd_keys__ : ByteArray) (nd_keys___ : ByteArray) (nd_vals : ByteArray) (nd_vals_ : ByteArray) (nd_vals__ : ByteArray) (nd_vals___ : ByteArray) (nd_kids : Int) (nd_kids_ : Int) (nd_kids__ : Int) (nd_kids___ : Int) (nd_kids____ : Int) (w : World) (K : Int → World → Prop) : denF Tryz.prog T.C246 T.A246 Tryz.f246 [.pointer (some ⟨f, 0, none⟩), .int .i64 pg, .agg #[.int .i64 nd_kind, .int .i64 nd_n, .string nd_keys, .string nd_keys_, .string nd_keys__, .string nd_keys___, .string nd_vals, .string nd_vals_, .string nd_vals__, .string nd_vals___, .int .i64 nd_kids, .int .i64 nd_kids_, .int .i64 nd_kids__, .int .i64 nd_kids___, .int .i64 nd_kids____]] w (fun v w' => match v with | .int .i64 r0 => K r0 w' | _ => False) = S.btree_Forest_store f pg nd_kind nd_n nd_keys nd_keys_ nd_keys__ nd_keys___ nd_vals nd_vals_ nd_vals__ nd_vals___ nd_kids nd_kids_ nd_kids__ nd_kids___ nd_kids____ w K := by kernel_rfl
theorem T.CO246 : CallOk Tryz.prog T.C246 := (CallOk.cons 287 T.ok287 (CallOk.cons 288 T.ok288 CallOk.nil))
def T.c246 (vs : List Value) (w : World) (K : Value → World → Prop) : Prop :=
  match vs with
  | [.pointer (some ⟨f, 0, none⟩), .int .i64 pg, .agg ⟨[.int .i64 nd_kind, .int .i64 nd_n, .string nd_keys, .string nd_keys_, .string nd_keys__, .string nd_keys___, .string nd_vals, .string nd_vals_, .string nd_vals__, .string nd_vals___, .int .i64 nd_kids, .int .i64 nd_kids_, .int .i64 nd_kids__, .int .i64 nd_kids___, .int .i64 nd_kids____]⟩] => S.btree_Forest_store f pg nd_kind nd_n nd_keys nd_keys_ nd_keys__ nd_keys___ nd_vals nd_vals_ nd_vals__ nd_vals___ nd_kids nd_kids_ nd_kids__ nd_kids___ nd_kids____ w (fun r0 w' => K (.int .i64 r0) w')
  | _ => False
theorem T.ok246 : ∀ vs w K, T.c246 vs w K → (callFunc 246 vs.toArray).run Tryz.prog w = .ok (.enter 246 vs.toArray) w ∧ Calls Tryz.prog 246 vs.toArray w fun e w' => ∃ v, e = .returned v ∧ K v w' := by
  intro vs w K h
  unfold T.c246 at h
  split at h
  · refine ⟨Tryz.call246 _ _, ok_of T.CO246 mixed Tryz.func246 (T.eq246 _ _ _ _ _ _ _ _ _ _ _ _ _ _ _ _ _ _ _) h fun v w' hk => ⟨v, rfl, ?_⟩⟩
    split at hk
    · exact hk
    · exact hk.elim
  · exact h.elim

/-- e2e/btree.setAt (function 247). -/
def S.btree_setAt (b : ByteArray) (i : Int) (v : Int) (w : World) (K : ByteArray → World → Prop) : Prop :=
  Drew w fun w =>
  CutStr b 0 i fun s1 =>
  CutStr b (W (i + 1)) (b.size : Int) fun s2 =>
  New w (.cells #[.int .u8 v] 5) fun p3 w =>
  BtS w ⟨some ⟨p3, 0, none⟩, 1, 1⟩ fun s4 =>
  CatOk s1 s4 <|
  CatOk (s1 ++ s4) s2 <|
  K ((s1 ++ s4) ++ s2) w
def T.C247 : CallT := CallT.nil
def T.A247 : Ann := fun _ => none
set_option maxRecDepth 1000000 in
theorem T.eq247 (b : ByteArray) (i : Int) (v : Int) (w : World) (K : ByteArray → World → Prop) : denF Tryz.prog T.C247 T.A247 Tryz.f247 [.string b, .int .i64 i, .int .u8 v] w (fun v w' => match v with | .string r0 => K r0 w' | _ => False) = S.btree_setAt b i v w K := by kernel_rfl
theorem T.CO247 : CallOk Tryz.prog T.C247 := CallOk.nil
def T.c247 (vs : List Value) (w : World) (K : Value → World → Prop) : Prop :=
  match vs with
  | [.string b, .int .i64 i, .int .u8 v] => S.btree_setAt b i v w (fun r0 w' => K (.string r0) w')
  | _ => False
theorem T.ok247 : ∀ vs w K, T.c247 vs w K → (callFunc 247 vs.toArray).run Tryz.prog w = .ok (.enter 247 vs.toArray) w ∧ Calls Tryz.prog 247 vs.toArray w fun e w' => ∃ v, e = .returned v ∧ K v w' := by
  intro vs w K h
  unfold T.c247 at h
  split at h
  · refine ⟨Tryz.call247 _ _, ok_of T.CO247 mixed Tryz.func247 (T.eq247 _ _ _ _ _) h fun v w' hk => ⟨v, rfl, ?_⟩⟩
    split at hk
    · exact hk
    · exact hk.elim
  · exact h.elim

/-- (*e2e/btree.Forest).putDir (function 248). -/
def S.btree_Forest_putDir (f : Nat) (d : ByteArray) (w : World) (K : Int → World → Prop) : Prop :=
  LdP w ⟨f, 0, none⟩ fun p_1 =>
  S.pager_Pager_Put p_1 1 d w (fun r2 w =>
  if (r2 != 0) = true then
    K 23 w
  else
    K 0 w)
def T.C248 : CallT := (CallT.cons 288 T.c288 CallT.nil)
def T.A248 : Ann := fun _ => none
set_option maxRecDepth 1000000 in
theorem T.eq248 (f : Nat) (d : ByteArray) (w : World) (K : Int → World → Prop) : denF Tryz.prog T.C248 T.A248 Tryz.f248 [.pointer (some ⟨f, 0, none⟩), .string d] w (fun v w' => match v with | .int .i64 r0 => K r0 w' | _ => False) = S.btree_Forest_putDir f d w K := by kernel_rfl
theorem T.CO248 : CallOk Tryz.prog T.C248 := (CallOk.cons 288 T.ok288 CallOk.nil)
def T.c248 (vs : List Value) (w : World) (K : Value → World → Prop) : Prop :=
  match vs with
  | [.pointer (some ⟨f, 0, none⟩), .string d] => S.btree_Forest_putDir f d w (fun r0 w' => K (.int .i64 r0) w')
  | _ => False
theorem T.ok248 : ∀ vs w K, T.c248 vs w K → (callFunc 248 vs.toArray).run Tryz.prog w = .ok (.enter 248 vs.toArray) w ∧ Calls Tryz.prog 248 vs.toArray w fun e w' => ∃ v, e = .returned v ∧ K v w' := by
  intro vs w K h
  unfold T.c248 at h
  split at h
  · refine ⟨Tryz.call248 _ _, ok_of T.CO248 mixed Tryz.func248 (T.eq248 _ _ _ _) h fun v w' hk => ⟨v, rfl, ?_⟩⟩
    split at hk
    · exact hk
    · exact hk.elim
  · exact h.elim

/-- (*e2e/btree.Forest).Create (function 161). -/
def S.btree_Forest_Create (f : Nat) (w : World) (K : Int → Int → World → Prop) : Prop :=
  LdP w ⟨f, 0, none⟩ fun p_1 =>
  S.pager_Pager_InTxn p_1 w (fun r2 w =>
  if (!r2) = true then
    K (-1) 2 w
  else
    S.btree_Forest_root f 0 w (fun r3 r4 w =>
    Join (fun (h_5 : Int) (w : World) =>
      if (h_5 == 8) = true then
        K (-1) 6 w
      else
        LdP w ⟨f, 0, none⟩ fun p_6 =>
        S.pager_Pager_Alloc p_6 w (fun r7 r8 w =>
        if (r8 != 0) = true then
          K (-1) 23 w
        else
          S.btree_Forest_store f r7 1 0 ⟨#[]⟩ ⟨#[]⟩ ⟨#[]⟩ ⟨#[]⟩ ⟨#[]⟩ ⟨#[]⟩ ⟨#[]⟩ ⟨#[]⟩ 0 0 0 0 0 w (fun r9 w =>
          if (r9 != 0) = true then
            K (-1) 23 w
          else
            S.btree_setAt r3 h_5 (U8 r7) w (fun r10 w =>
            S.btree_Forest_putDir f r10 w (fun r11 w =>
            K h_5 r11 w))))) fun J12 =>
    LoopP (σ := Int × Unit) (fun st13 w next14 =>
      if (decide (st13.1 < 8)) = true then
        IxStr r3 st13.1 fun c15 =>
        if (c15 != 0) = true then
          Let (W (st13.1 + 1)) fun h_16 =>
          next14 (h_16, ()) w
        else
          J12 st13.1 w
      else
        J12 st13.1 w) (0, ()) w))
def T.C161 : CallT := (CallT.cons 239 T.c239 (CallT.cons 245 T.c245 (CallT.cons 219 T.c219 (CallT.cons 246 T.c246 (CallT.cons 247 T.c247 (CallT.cons 248 T.c248 CallT.nil))))))
def T.A161 : Ann := fun i => bif Nat.beq i 5 then some ([0, 4], [(6, 0)]) else none
set_option maxRecDepth 1000000 in
theorem T.eq161 (f : Nat) (w : World) (K : Int → Int → World → Prop) : denF Tryz.prog T.C161 T.A161 Tryz.f161 [.pointer (some ⟨f, 0, none⟩)] w (fun v w' => match v with | .tuple ⟨[.int .i64 r0, .int .i64 r1]⟩ => K r0 r1 w' | _ => False) = S.btree_Forest_Create f w K := by kernel_rfl
theorem T.CO161 : CallOk Tryz.prog T.C161 := (CallOk.cons 239 T.ok239 (CallOk.cons 245 T.ok245 (CallOk.cons 219 T.ok219 (CallOk.cons 246 T.ok246 (CallOk.cons 247 T.ok247 (CallOk.cons 248 T.ok248 CallOk.nil))))))
def T.c161 (vs : List Value) (w : World) (K : Value → World → Prop) : Prop :=
  match vs with
  | [.pointer (some ⟨f, 0, none⟩)] => S.btree_Forest_Create f w (fun r0 r1 w' => K (.tuple #[.int .i64 r0, .int .i64 r1]) w')
  | _ => False
theorem T.ok161 : ∀ vs w K, T.c161 vs w K → (callFunc 161 vs.toArray).run Tryz.prog w = .ok (.enter 161 vs.toArray) w ∧ Calls Tryz.prog 161 vs.toArray w fun e w' => ∃ v, e = .returned v ∧ K v w' := by
  intro vs w K h
  unfold T.c161 at h
  split at h
  · refine ⟨Tryz.call161 _ _, ok_of T.CO161 mixed Tryz.func161 (T.eq161 _ _ _) h fun v w' hk => ⟨v, rfl, ?_⟩⟩
    split at hk
    · exact hk
    · exact hk.elim
  · exact h.elim

/-- (*e2e/btree.Forest).Commit (function 223). -/
def S.btree_Forest_Commit (f : Nat) (w : World) (K : Int → World → Prop) : Prop :=
  LdP w ⟨f, 0, none⟩ fun p_1 =>
  S.pager_Pager_Commit p_1 w (fun r2 w =>
  K r2 w)
def T.C223 : CallT := (CallT.cons 220 T.c220 CallT.nil)
def T.A223 : Ann := fun _ => none
set_option maxRecDepth 1000000 in
theorem T.eq223 (f : Nat) (w : World) (K : Int → World → Prop) : denF Tryz.prog T.C223 T.A223 Tryz.f223 [.pointer (some ⟨f, 0, none⟩)] w (fun v w' => match v with | .int .i64 r0 => K r0 w' | _ => False) = S.btree_Forest_Commit f w K := by kernel_rfl
theorem T.CO223 : CallOk Tryz.prog T.C223 := (CallOk.cons 220 T.ok220 CallOk.nil)
def T.c223 (vs : List Value) (w : World) (K : Value → World → Prop) : Prop :=
  match vs with
  | [.pointer (some ⟨f, 0, none⟩)] => S.btree_Forest_Commit f w (fun r0 w' => K (.int .i64 r0) w')
  | _ => False
theorem T.ok223 : ∀ vs w K, T.c223 vs w K → (callFunc 223 vs.toArray).run Tryz.prog w = .ok (.enter 223 vs.toArray) w ∧ Calls Tryz.prog 223 vs.toArray w fun e w' => ∃ v, e = .returned v ∧ K v w' := by
  intro vs w K h
  unfold T.c223 at h
  split at h
  · refine ⟨Tryz.call223 _ _, ok_of T.CO223 mixed Tryz.func223 (T.eq223 _ _ _) h fun v w' hk => ⟨v, rfl, ?_⟩⟩
    split at hk
    · exact hk
    · exact hk.elim
  · exact h.elim

/-- e2e/table.Open (function 137). -/
def S.table_Open (f : Nat) (w : World) (K : Nat → World → Prop) : Prop :=
  S.btree_Forest_Used f 0 w (fun r1 w =>
  Join (fun (w : World) =>
    New w (.cells #[.pointer (some ⟨f, 0, none⟩)] 211) fun p2 w =>
    K p2 w) fun J3 =>
  if (!r1) = true then
    S.btree_Forest_Begin f w (fun r4 w =>
    S.btree_Forest_Create f w (fun r5 r6 w =>
    S.btree_Forest_Commit f w (fun r7 w =>
    J3 w)))
  else
    J3 w)
def T.C137 : CallT := (CallT.cons 221 T.c221 (CallT.cons 222 T.c222 (CallT.cons 161 T.c161 (CallT.cons 223 T.c223 CallT.nil))))
def T.A137 : Ann := fun _ => none
set_option maxRecDepth 1000000 in
theorem T.eq137 (f : Nat) (w : World) (K : Nat → World → Prop) : denF Tryz.prog T.C137 T.A137 Tryz.f137 [.pointer (some ⟨f, 0, none⟩)] w (fun v w' => match v with | .pointer (some ⟨r0, 0, none⟩) => K r0 w' | _ => False) = S.table_Open f w K := by kernel_rfl
theorem T.CO137 : CallOk Tryz.prog T.C137 := (CallOk.cons 221 T.ok221 (CallOk.cons 222 T.ok222 (CallOk.cons 161 T.ok161 (CallOk.cons 223 T.ok223 CallOk.nil))))
def T.c137 (vs : List Value) (w : World) (K : Value → World → Prop) : Prop :=
  match vs with
  | [.pointer (some ⟨f, 0, none⟩)] => S.table_Open f w (fun r0 w' => K (.pointer (some ⟨r0, 0, none⟩)) w')
  | _ => False
theorem T.ok137 : ∀ vs w K, T.c137 vs w K → (callFunc 137 vs.toArray).run Tryz.prog w = .ok (.enter 137 vs.toArray) w ∧ Calls Tryz.prog 137 vs.toArray w fun e w' => ∃ v, e = .returned v ∧ K v w' := by
  intro vs w K h
  unfold T.c137 at h
  split at h
  · refine ⟨Tryz.call137 _ _, ok_of T.CO137 mixed Tryz.func137 (T.eq137 _ _ _) h fun v w' hk => ⟨v, rfl, ?_⟩⟩
    split at hk
    · exact hk
    · exact hk.elim
  · exact h.elim

/-- e2e/table.New (function 60). -/
def S.table_New (f : Nat) (w : World) (K : Nat → World → Prop) : Prop :=
  S.table_Open f w (fun r1 w =>
  K r1 w)
def T.C60 : CallT := (CallT.cons 137 T.c137 CallT.nil)
def T.A60 : Ann := fun _ => none
set_option maxRecDepth 1000000 in
theorem T.eq60 (f : Nat) (w : World) (K : Nat → World → Prop) : denF Tryz.prog T.C60 T.A60 Tryz.f60 [.pointer (some ⟨f, 0, none⟩)] w (fun v w' => match v with | .pointer (some ⟨r0, 0, none⟩) => K r0 w' | _ => False) = S.table_New f w K := by kernel_rfl
theorem T.CO60 : CallOk Tryz.prog T.C60 := (CallOk.cons 137 T.ok137 CallOk.nil)
def T.c60 (vs : List Value) (w : World) (K : Value → World → Prop) : Prop :=
  match vs with
  | [.pointer (some ⟨f, 0, none⟩)] => S.table_New f w (fun r0 w' => K (.pointer (some ⟨r0, 0, none⟩)) w')
  | _ => False
theorem T.ok60 : ∀ vs w K, T.c60 vs w K → (callFunc 60 vs.toArray).run Tryz.prog w = .ok (.enter 60 vs.toArray) w ∧ Calls Tryz.prog 60 vs.toArray w fun e w' => ∃ v, e = .returned v ∧ K v w' := by
  intro vs w K h
  unfold T.c60 at h
  split at h
  · refine ⟨Tryz.call60 _ _, ok_of T.CO60 mixed Tryz.func60 (T.eq60 _ _ _) h fun v w' hk => ⟨v, rfl, ?_⟩⟩
    split at hk
    · exact hk
    · exact hk.elim
  · exact h.elim

/-- e2e/txn.New (function 61). -/
def S.txn_New (t : Nat) (w : World) (K : Nat → World → Prop) : Prop :=
  New w (.cells #[.pointer (some ⟨t, 0, none⟩), .bool false, .bool false, .bool false, .bool false, .bool false, .string ⟨#[]⟩, .int .i64 0, .int .i64 0, .int .i64 0, .int .i64 0, .bool false, .string ⟨#[]⟩, .int .i64 0, .int .i64 0, .int .i64 0, .int .i64 0, .bool false, .string ⟨#[]⟩, .int .i64 0, .int .i64 0, .int .i64 0, .int .i64 0, .slice none 0 0, .slice none 0 0, .slice none 0 0, .slice none 0 0] 142) fun p1 w =>
  K p1 w
def T.C61 : CallT := CallT.nil
def T.A61 : Ann := fun _ => none
set_option maxRecDepth 1000000 in
theorem T.eq61 (t : Nat) (w : World) (K : Nat → World → Prop) : denF Tryz.prog T.C61 T.A61 Tryz.f61 [.pointer (some ⟨t, 0, none⟩)] w (fun v w' => match v with | .pointer (some ⟨r0, 0, none⟩) => K r0 w' | _ => False) = S.txn_New t w K := by kernel_rfl
theorem T.CO61 : CallOk Tryz.prog T.C61 := CallOk.nil
def T.c61 (vs : List Value) (w : World) (K : Value → World → Prop) : Prop :=
  match vs with
  | [.pointer (some ⟨t, 0, none⟩)] => S.txn_New t w (fun r0 w' => K (.pointer (some ⟨r0, 0, none⟩)) w')
  | _ => False
theorem T.ok61 : ∀ vs w K, T.c61 vs w K → (callFunc 61 vs.toArray).run Tryz.prog w = .ok (.enter 61 vs.toArray) w ∧ Calls Tryz.prog 61 vs.toArray w fun e w' => ∃ v, e = .returned v ∧ K v w' := by
  intro vs w K h
  unfold T.c61 at h
  split at h
  · refine ⟨Tryz.call61 _ _, ok_of T.CO61 mixed Tryz.func61 (T.eq61 _ _ _) h fun v w' hk => ⟨v, rfl, ?_⟩⟩
    split at hk
    · exact hk
    · exact hk.elim
  · exact h.elim

/-- e2e/query.New (function 62). -/
def S.query_New (t : Nat) (w : World) (K : Nat → World → Prop) : Prop :=
  New w (.cells #[.pointer (some ⟨t, 0, none⟩), .int .i64 0] 68) fun p1 w =>
  K p1 w
def T.C62 : CallT := CallT.nil
def T.A62 : Ann := fun _ => none
set_option maxRecDepth 1000000 in
theorem T.eq62 (t : Nat) (w : World) (K : Nat → World → Prop) : denF Tryz.prog T.C62 T.A62 Tryz.f62 [.pointer (some ⟨t, 0, none⟩)] w (fun v w' => match v with | .pointer (some ⟨r0, 0, none⟩) => K r0 w' | _ => False) = S.query_New t w K := by kernel_rfl
theorem T.CO62 : CallOk Tryz.prog T.C62 := CallOk.nil
def T.c62 (vs : List Value) (w : World) (K : Value → World → Prop) : Prop :=
  match vs with
  | [.pointer (some ⟨t, 0, none⟩)] => S.query_New t w (fun r0 w' => K (.pointer (some ⟨r0, 0, none⟩)) w')
  | _ => False
theorem T.ok62 : ∀ vs w K, T.c62 vs w K → (callFunc 62 vs.toArray).run Tryz.prog w = .ok (.enter 62 vs.toArray) w ∧ Calls Tryz.prog 62 vs.toArray w fun e w' => ∃ v, e = .returned v ∧ K v w' := by
  intro vs w K h
  unfold T.c62 at h
  split at h
  · refine ⟨Tryz.call62 _ _, ok_of T.CO62 mixed Tryz.func62 (T.eq62 _ _ _) h fun v w' hk => ⟨v, rfl, ?_⟩⟩
    split at hk
    · exact hk
    · exact hk.elim
  · exact h.elim

/-- e2e/tower.NewBox (function 18). -/
def S.tower_NewBox (d : Nat) (w : World) (K : Nat → Nat → Nat → Nat → Nat → Nat → World → Prop) : Prop :=
  New w (.cells #[.pointer none, .pointer none, .pointer none, .pointer none, .pointer none, .pointer none] 52) fun p1 w =>
  S.wal_New d w (fun r2 w =>
  S.pager_New r2 w (fun r3 w =>
  S.btree_New r3 w (fun r4 w =>
  S.table_New r4 w (fun r5 w =>
  S.txn_New r5 w (fun r6 w =>
  S.query_New r6 w (fun r7 w =>
  St1 w ⟨p1, 0, none⟩ (.pointer (some ⟨r2, 0, none⟩)) fun w =>
  St1 w ⟨p1, 1, none⟩ (.pointer (some ⟨r3, 0, none⟩)) fun w =>
  St1 w ⟨p1, 2, none⟩ (.pointer (some ⟨r4, 0, none⟩)) fun w =>
  St1 w ⟨p1, 3, none⟩ (.pointer (some ⟨r5, 0, none⟩)) fun w =>
  St1 w ⟨p1, 4, none⟩ (.pointer (some ⟨r6, 0, none⟩)) fun w =>
  St1 w ⟨p1, 5, none⟩ (.pointer (some ⟨r7, 0, none⟩)) fun w =>
  LdP w ⟨p1, 0, none⟩ fun L_8 =>
  LdP w ⟨p1, 1, none⟩ fun P_9 =>
  LdP w ⟨p1, 2, none⟩ fun F_10 =>
  LdP w ⟨p1, 3, none⟩ fun S_11 =>
  LdP w ⟨p1, 4, none⟩ fun T_12 =>
  LdP w ⟨p1, 5, none⟩ fun Q_13 =>
  K L_8 P_9 F_10 S_11 T_12 Q_13 w))))))
def T.C18 : CallT := (CallT.cons 57 T.c57 (CallT.cons 58 T.c58 (CallT.cons 59 T.c59 (CallT.cons 60 T.c60 (CallT.cons 61 T.c61 (CallT.cons 62 T.c62 CallT.nil))))))
def T.A18 : Ann := fun _ => none
set_option maxRecDepth 1000000 in
theorem T.eq18 (d : Nat) (w : World) (K : Nat → Nat → Nat → Nat → Nat → Nat → World → Prop) : denF Tryz.prog T.C18 T.A18 Tryz.f18 [.pointer (some ⟨d, 0, none⟩)] w (fun v w' => match v with | .agg ⟨[.pointer (some ⟨r0, 0, none⟩), .pointer (some ⟨r1, 0, none⟩), .pointer (some ⟨r2, 0, none⟩), .pointer (some ⟨r3, 0, none⟩), .pointer (some ⟨r4, 0, none⟩), .pointer (some ⟨r5, 0, none⟩)]⟩ => K r0 r1 r2 r3 r4 r5 w' | _ => False) = S.tower_NewBox d w K := by kernel_rfl
theorem T.CO18 : CallOk Tryz.prog T.C18 := (CallOk.cons 57 T.ok57 (CallOk.cons 58 T.ok58 (CallOk.cons 59 T.ok59 (CallOk.cons 60 T.ok60 (CallOk.cons 61 T.ok61 (CallOk.cons 62 T.ok62 CallOk.nil))))))
def T.c18 (vs : List Value) (w : World) (K : Value → World → Prop) : Prop :=
  match vs with
  | [.pointer (some ⟨d, 0, none⟩)] => S.tower_NewBox d w (fun r0 r1 r2 r3 r4 r5 w' => K (.agg #[.pointer (some ⟨r0, 0, none⟩), .pointer (some ⟨r1, 0, none⟩), .pointer (some ⟨r2, 0, none⟩), .pointer (some ⟨r3, 0, none⟩), .pointer (some ⟨r4, 0, none⟩), .pointer (some ⟨r5, 0, none⟩)]) w')
  | _ => False
theorem T.ok18 : ∀ vs w K, T.c18 vs w K → (callFunc 18 vs.toArray).run Tryz.prog w = .ok (.enter 18 vs.toArray) w ∧ Calls Tryz.prog 18 vs.toArray w fun e w' => ∃ v, e = .returned v ∧ K v w' := by
  intro vs w K h
  unfold T.c18 at h
  split at h
  · refine ⟨Tryz.call18 _ _, ok_of T.CO18 mixed Tryz.func18 (T.eq18 _ _ _) h fun v w' hk => ⟨v, rfl, ?_⟩⟩
    split at hk
    · exact hk
    · exact hk.elim
  · exact h.elim

/-- e2e/api.CloneSchema (function 190). -/
def S.api_CloneSchema (s_Name : ByteArray) (s_Cols : Sl) (s_PK : Int) (s_Index : Int) (w : World) (K : ByteArray → Sl → Int → Int → World → Prop) : Prop :=
  New w (.cells #[.string s_Name, .slice s_Cols.a s_Cols.l s_Cols.c, .int .i64 s_PK, .int .i64 s_Index] 73) fun p1 w =>
  New w (.cells #[.string ⟨#[]⟩, .slice none 0 0, .int .i64 0, .int .i64 0] 73) fun p2 w =>
  LdS w ⟨p1, 1, none⟩ fun Cols_3 =>
  MkS 149 [.string ⟨#[]⟩, .bool false] 24 w (Cols_3.l : Int) (Cols_3.l : Int) fun l4 w =>
  LdS w ⟨p1, 1, none⟩ fun Cols_5 =>
  CopyS 2 w l4 Cols_5 fun n6 w =>
  LdStr w ⟨p1, 0, none⟩ fun Name_7 =>
  LdI .i64 w ⟨p1, 2, none⟩ fun PK_8 =>
  LdI .i64 w ⟨p1, 3, none⟩ fun Index_9 =>
  St1 w ⟨p2, 0, none⟩ (.string Name_7) fun w =>
  St1 w ⟨p2, 1, none⟩ (.slice l4.a l4.l l4.c) fun w =>
  St1 w ⟨p2, 2, none⟩ (.int .i64 PK_8) fun w =>
  St1 w ⟨p2, 3, none⟩ (.int .i64 Index_9) fun w =>
  LdStr w ⟨p2, 0, none⟩ fun Name_10 =>
  LdS w ⟨p2, 1, none⟩ fun Cols_11 =>
  LdI .i64 w ⟨p2, 2, none⟩ fun PK_12 =>
  LdI .i64 w ⟨p2, 3, none⟩ fun Index_13 =>
  K Name_10 Cols_11 PK_12 Index_13 w
def T.C190 : CallT := CallT.nil
def T.A190 : Ann := fun _ => none
set_option maxRecDepth 1000000 in
theorem T.eq190 (s_Name : ByteArray) (s_Cols : Sl) (s_PK : Int) (s_Index : Int) (w : World) (K : ByteArray → Sl → Int → Int → World → Prop) : denF Tryz.prog T.C190 T.A190 Tryz.f190 [.agg #[.string s_Name, .slice s_Cols.a s_Cols.l s_Cols.c, .int .i64 s_PK, .int .i64 s_Index]] w (fun v w' => match v with | .agg ⟨[.string r0, .slice r1a r1l r1c, .int .i64 r2, .int .i64 r3]⟩ => K r0 ⟨r1a, r1l, r1c⟩ r2 r3 w' | _ => False) = S.api_CloneSchema s_Name s_Cols s_PK s_Index w K := by kernel_rfl
theorem T.CO190 : CallOk Tryz.prog T.C190 := CallOk.nil
def T.c190 (vs : List Value) (w : World) (K : Value → World → Prop) : Prop :=
  match vs with
  | [.agg ⟨[.string s_Name, .slice s_Colsa s_Colsl s_Colsc, .int .i64 s_PK, .int .i64 s_Index]⟩] => S.api_CloneSchema s_Name ⟨s_Colsa, s_Colsl, s_Colsc⟩ s_PK s_Index w (fun r0 r1 r2 r3 w' => K (.agg #[.string r0, .slice r1.a r1.l r1.c, .int .i64 r2, .int .i64 r3]) w')
  | _ => False
theorem T.ok190 : ∀ vs w K, T.c190 vs w K → (callFunc 190 vs.toArray).run Tryz.prog w = .ok (.enter 190 vs.toArray) w ∧ Calls Tryz.prog 190 vs.toArray w fun e w' => ∃ v, e = .returned v ∧ K v w' := by
  intro vs w K h
  unfold T.c190 at h
  split at h
  · refine ⟨Tryz.call190 _ _, ok_of T.CO190 mixed Tryz.func190 (T.eq190 _ _ _ _ _ _) h fun v w' hk => ⟨v, rfl, ?_⟩⟩
    split at hk
    · exact hk
    · exact hk.elim
  · exact h.elim

/-- e2e/api.CloneRow (function 261). -/
def S.api_CloneRow (r : Sl) (w : World) (K : Sl → World → Prop) : Prop :=
  MkS 167 [.bool false, .int .i64 0, .string ⟨#[]⟩] 32 w (r.l : Int) (r.l : Int) fun l1 w =>
  CopyS 3 w l1 r fun n2 w =>
  K l1 w
def T.C261 : CallT := CallT.nil
def T.A261 : Ann := fun _ => none
set_option maxRecDepth 1000000 in
theorem T.eq261 (r : Sl) (w : World) (K : Sl → World → Prop) : denF Tryz.prog T.C261 T.A261 Tryz.f261 [.slice r.a r.l r.c] w (fun v w' => match v with | .slice r0a r0l r0c => K ⟨r0a, r0l, r0c⟩ w' | _ => False) = S.api_CloneRow r w K := by kernel_rfl
theorem T.CO261 : CallOk Tryz.prog T.C261 := CallOk.nil
def T.c261 (vs : List Value) (w : World) (K : Value → World → Prop) : Prop :=
  match vs with
  | [.slice ra rl rc] => S.api_CloneRow ⟨ra, rl, rc⟩ w (fun r0 w' => K (.slice r0.a r0.l r0.c) w')
  | _ => False
theorem T.ok261 : ∀ vs w K, T.c261 vs w K → (callFunc 261 vs.toArray).run Tryz.prog w = .ok (.enter 261 vs.toArray) w ∧ Calls Tryz.prog 261 vs.toArray w fun e w' => ∃ v, e = .returned v ∧ K v w' := by
  intro vs w K h
  unfold T.c261 at h
  split at h
  · refine ⟨Tryz.call261 _ _, ok_of T.CO261 mixed Tryz.func261 (T.eq261 _ _ _) h fun v w' hk => ⟨v, rfl, ?_⟩⟩
    split at hk
    · exact hk
    · exact hk.elim
  · exact h.elim

/-- e2e/api.CloneRows (function 191). -/
def S.api_CloneRows (r : Sl) (w : World) (K : Sl → World → Prop) : Prop :=
  MkS 61 [.slice none 0 0] 24 w (r.l : Int) (r.l : Int) fun l1 w =>
  LoopP (σ := Int × Unit) (fun st2 w next3 =>
    if (decide (st2.1 < (r.l : Int))) = true then
      Ix r.a r.l st2.1 fun b4 o5 =>
      LdS w ⟨b4, o5 + Int.toNat st2.1 * 1, none⟩ fun x_6 =>
      S.api_CloneRow x_6 w (fun r7 w =>
      Ix l1.a l1.l st2.1 fun b8 o9 =>
      St1 w ⟨b8, o9 + Int.toNat st2.1 * 1, none⟩ (.slice r7.a r7.l r7.c) fun w =>
      Let (W (st2.1 + 1)) fun i_10 =>
      next3 (i_10, ()) w)
    else
      K l1 w) (0, ()) w
def T.C191 : CallT := (CallT.cons 261 T.c261 CallT.nil)
def T.A191 : Ann := fun i => bif Nat.beq i 3 then some ([0, 3], [(4, 0)]) else none
set_option maxRecDepth 1000000 in
theorem T.eq191 (r : Sl) (w : World) (K : Sl → World → Prop) : denF Tryz.prog T.C191 T.A191 Tryz.f191 [.slice r.a r.l r.c] w (fun v w' => match v with | .slice r0a r0l r0c => K ⟨r0a, r0l, r0c⟩ w' | _ => False) = S.api_CloneRows r w K := by kernel_rfl
theorem T.CO191 : CallOk Tryz.prog T.C191 := (CallOk.cons 261 T.ok261 CallOk.nil)
def T.c191 (vs : List Value) (w : World) (K : Value → World → Prop) : Prop :=
  match vs with
  | [.slice ra rl rc] => S.api_CloneRows ⟨ra, rl, rc⟩ w (fun r0 w' => K (.slice r0.a r0.l r0.c) w')
  | _ => False
theorem T.ok191 : ∀ vs w K, T.c191 vs w K → (callFunc 191 vs.toArray).run Tryz.prog w = .ok (.enter 191 vs.toArray) w ∧ Calls Tryz.prog 191 vs.toArray w fun e w' => ∃ v, e = .returned v ∧ K v w' := by
  intro vs w K h
  unfold T.c191 at h
  split at h
  · refine ⟨Tryz.call191 _ _, ok_of T.CO191 mixed Tryz.func191 (T.eq191 _ _ _) h fun v w' hk => ⟨v, rfl, ?_⟩⟩
    split at hk
    · exact hk
    · exact hk.elim
  · exact h.elim

/-- e2e/api.CloneTable (function 88). -/
def S.api_CloneTable (t_Sch_Name : ByteArray) (t_Sch_Cols : Sl) (t_Sch_PK : Int) (t_Sch_Index : Int) (t_Rows : Sl) (w : World) (K : ByteArray → Sl → Int → Int → Sl → World → Prop) : Prop :=
  New w (.cells #[.string t_Sch_Name, .slice t_Sch_Cols.a t_Sch_Cols.l t_Sch_Cols.c, .int .i64 t_Sch_PK, .int .i64 t_Sch_Index, .slice t_Rows.a t_Rows.l t_Rows.c] 174) fun p1 w =>
  New w (.cells #[.string ⟨#[]⟩, .slice none 0 0, .int .i64 0, .int .i64 0, .slice none 0 0] 174) fun p2 w =>
  LdStr w ⟨p1, 0, none⟩ fun Name_3 =>
  LdS w ⟨p1, 1, none⟩ fun Cols_4 =>
  LdI .i64 w ⟨p1, 2, none⟩ fun PK_5 =>
  LdI .i64 w ⟨p1, 3, none⟩ fun Index_6 =>
  S.api_CloneSchema Name_3 Cols_4 PK_5 Index_6 w (fun Name_7 Cols_8 PK_9 Index_10 w =>
  New w (.cells #[.string ⟨#[]⟩, .slice none 0 0, .int .i64 0, .int .i64 0] 73) fun p11 w =>
  St1 w ⟨p11, 0, none⟩ (.string Name_7) fun w =>
  St1 w ⟨p11, 1, none⟩ (.slice Cols_8.a Cols_8.l Cols_8.c) fun w =>
  St1 w ⟨p11, 2, none⟩ (.int .i64 PK_9) fun w =>
  St1 w ⟨p11, 3, none⟩ (.int .i64 Index_10) fun w =>
  LdS w ⟨p1, 4, none⟩ fun Rows_12 =>
  S.api_CloneRows Rows_12 w (fun r13 w =>
  LdStr w ⟨p11, 0, none⟩ fun Name_14 =>
  LdS w ⟨p11, 1, none⟩ fun Cols_15 =>
  LdI .i64 w ⟨p11, 2, none⟩ fun PK_16 =>
  LdI .i64 w ⟨p11, 3, none⟩ fun Index_17 =>
  St1 w ⟨p2, 0, none⟩ (.string Name_14) fun w =>
  St1 w ⟨p2, 1, none⟩ (.slice Cols_15.a Cols_15.l Cols_15.c) fun w =>
  St1 w ⟨p2, 2, none⟩ (.int .i64 PK_16) fun w =>
  St1 w ⟨p2, 3, none⟩ (.int .i64 Index_17) fun w =>
  St1 w ⟨p2, 4, none⟩ (.slice r13.a r13.l r13.c) fun w =>
  LdStr w ⟨p2, 0, none⟩ fun Sch_Name_18 =>
  LdS w ⟨p2, 1, none⟩ fun Sch_Cols_19 =>
  LdI .i64 w ⟨p2, 2, none⟩ fun Sch_PK_20 =>
  LdI .i64 w ⟨p2, 3, none⟩ fun Sch_Index_21 =>
  LdS w ⟨p2, 4, none⟩ fun Rows_22 =>
  K Sch_Name_18 Sch_Cols_19 Sch_PK_20 Sch_Index_21 Rows_22 w))
def T.C88 : CallT := (CallT.cons 190 T.c190 (CallT.cons 191 T.c191 CallT.nil))
def T.A88 : Ann := fun _ => none
set_option maxRecDepth 1000000 in
theorem T.eq88 (t_Sch_Name : ByteArray) (t_Sch_Cols : Sl) (t_Sch_PK : Int) (t_Sch_Index : Int) (t_Rows : Sl) (w : World) (K : ByteArray → Sl → Int → Int → Sl → World → Prop) : denF Tryz.prog T.C88 T.A88 Tryz.f88 [.agg #[.string t_Sch_Name, .slice t_Sch_Cols.a t_Sch_Cols.l t_Sch_Cols.c, .int .i64 t_Sch_PK, .int .i64 t_Sch_Index, .slice t_Rows.a t_Rows.l t_Rows.c]] w (fun v w' => match v with | .agg ⟨[.string r0, .slice r1a r1l r1c, .int .i64 r2, .int .i64 r3, .slice r4a r4l r4c]⟩ => K r0 ⟨r1a, r1l, r1c⟩ r2 r3 ⟨r4a, r4l, r4c⟩ w' | _ => False) = S.api_CloneTable t_Sch_Name t_Sch_Cols t_Sch_PK t_Sch_Index t_Rows w K := by kernel_rfl
theorem T.CO88 : CallOk Tryz.prog T.C88 := (CallOk.cons 190 T.ok190 (CallOk.cons 191 T.ok191 CallOk.nil))
def T.c88 (vs : List Value) (w : World) (K : Value → World → Prop) : Prop :=
  match vs with
  | [.agg ⟨[.string t_Sch_Name, .slice t_Sch_Colsa t_Sch_Colsl t_Sch_Colsc, .int .i64 t_Sch_PK, .int .i64 t_Sch_Index, .slice t_Rowsa t_Rowsl t_Rowsc]⟩] => S.api_CloneTable t_Sch_Name ⟨t_Sch_Colsa, t_Sch_Colsl, t_Sch_Colsc⟩ t_Sch_PK t_Sch_Index ⟨t_Rowsa, t_Rowsl, t_Rowsc⟩ w (fun r0 r1 r2 r3 r4 w' => K (.agg #[.string r0, .slice r1.a r1.l r1.c, .int .i64 r2, .int .i64 r3, .slice r4.a r4.l r4.c]) w')
  | _ => False
theorem T.ok88 : ∀ vs w K, T.c88 vs w K → (callFunc 88 vs.toArray).run Tryz.prog w = .ok (.enter 88 vs.toArray) w ∧ Calls Tryz.prog 88 vs.toArray w fun e w' => ∃ v, e = .returned v ∧ K v w' := by
  intro vs w K h
  unfold T.c88 at h
  split at h
  · refine ⟨Tryz.call88 _ _, ok_of T.CO88 mixed Tryz.func88 (T.eq88 _ _ _ _ _ _ _) h fun v w' hk => ⟨v, rfl, ?_⟩⟩
    split at hk
    · exact hk
    · exact hk.elim
  · exact h.elim

/-- (*e2e/api.DB).Clone (function 64). -/
def S.api_DB_Clone (d : Nat) (d_o : Nat) (w : World) (K : Sl → World → Prop) : Prop :=
  New w (.cells #[.slice none 0 0] 87) fun p1 w =>
  LdS w ⟨d, d_o, none⟩ fun Tabs_2 =>
  MkS 174 [.string ⟨#[]⟩, .slice none 0 0, .int .i64 0, .int .i64 0, .slice none 0 0] 80 w (Tabs_2.l : Int) (Tabs_2.l : Int) fun l3 w =>
  Join (fun (w : World) =>
    St1 w ⟨p1, 0, none⟩ (.slice l3.a l3.l l3.c) fun w =>
    LdS w ⟨p1, 0, none⟩ fun Tabs_4 =>
    K Tabs_4 w) fun J5 =>
  LoopP (σ := Int × Unit) (fun st6 w next7 =>
    LdS w ⟨d, d_o, none⟩ fun Tabs_8 =>
    if (decide (st6.1 < (Tabs_8.l : Int))) = true then
      LdS w ⟨d, d_o, none⟩ fun Tabs_9 =>
      Ix Tabs_9.a Tabs_9.l st6.1 fun b10 o11 =>
      LdStr w ⟨b10, o11 + Int.toNat st6.1 * 5, none⟩ fun Sch_Name_12 =>
      LdS w ⟨b10, o11 + Int.toNat st6.1 * 5 + 1, none⟩ fun Sch_Cols_13 =>
      LdI .i64 w ⟨b10, o11 + Int.toNat st6.1 * 5 + 2, none⟩ fun Sch_PK_14 =>
      LdI .i64 w ⟨b10, o11 + Int.toNat st6.1 * 5 + 3, none⟩ fun Sch_Index_15 =>
      LdS w ⟨b10, o11 + Int.toNat st6.1 * 5 + 4, none⟩ fun Rows_16 =>
      S.api_CloneTable Sch_Name_12 Sch_Cols_13 Sch_PK_14 Sch_Index_15 Rows_16 w (fun Sch_Name_17 Sch_Cols_18 Sch_PK_19 Sch_Index_20 Rows_21 w =>
      Ix l3.a l3.l st6.1 fun b22 o23 =>
      St1 w ⟨b22, o23 + Int.toNat st6.1 * 5, none⟩ (.string Sch_Name_17) fun w =>
      St1 w ⟨b22, o23 + Int.toNat st6.1 * 5 + 1, none⟩ (.slice Sch_Cols_18.a Sch_Cols_18.l Sch_Cols_18.c) fun w =>
      St1 w ⟨b22, o23 + Int.toNat st6.1 * 5 + 2, none⟩ (.int .i64 Sch_PK_19) fun w =>
      St1 w ⟨b22, o23 + Int.toNat st6.1 * 5 + 3, none⟩ (.int .i64 Sch_Index_20) fun w =>
      St1 w ⟨b22, o23 + Int.toNat st6.1 * 5 + 4, none⟩ (.slice Rows_21.a Rows_21.l Rows_21.c) fun w =>
      Let (W (st6.1 + 1)) fun i_24 =>
      next7 (i_24, ()) w)
    else
      J5 w) (0, ()) w
def T.C64 : CallT := (CallT.cons 88 T.c88 CallT.nil)
def T.A64 : Ann := fun i => bif Nat.beq i 3 then some ([0, 2, 3], [(4, 0)]) else none
set_option maxRecDepth 1000000 in
theorem T.eq64 (d : Nat) (d_o : Nat) (w : World) (K : Sl → World → Prop) : denF Tryz.prog T.C64 T.A64 Tryz.f64 [.pointer (some ⟨d, d_o, none⟩)] w (fun v w' => match v with | .agg ⟨[.slice r0a r0l r0c]⟩ => K ⟨r0a, r0l, r0c⟩ w' | _ => False) = S.api_DB_Clone d d_o w K := by kernel_rfl
theorem T.CO64 : CallOk Tryz.prog T.C64 := (CallOk.cons 88 T.ok88 CallOk.nil)
def T.c64 (vs : List Value) (w : World) (K : Value → World → Prop) : Prop :=
  match vs with
  | [.pointer (some ⟨d, d_o, none⟩)] => S.api_DB_Clone d d_o w (fun r0 w' => K (.agg #[.slice r0.a r0.l r0.c]) w')
  | _ => False
theorem T.ok64 : ∀ vs w K, T.c64 vs w K → (callFunc 64 vs.toArray).run Tryz.prog w = .ok (.enter 64 vs.toArray) w ∧ Calls Tryz.prog 64 vs.toArray w fun e w' => ∃ v, e = .returned v ∧ K v w' := by
  intro vs w K h
  unfold T.c64 at h
  split at h
  · refine ⟨Tryz.call64 _ _, ok_of T.CO64 mixed Tryz.func64 (T.eq64 _ _ _ _) h fun v w' hk => ⟨v, rfl, ?_⟩⟩
    split at hk
    · exact hk
    · exact hk.elim
  · exact h.elim

/-- (*e2e/api.Multi).Clone (function 21). -/
def S.api_Multi_Clone (m : Nat) (w : World) (K : Nat → World → Prop) : Prop :=
  New w (.cells #[.slice none 0 0, .bool false, .bool false, .bool false, .bool false, .int .i64 0, .int .i64 0, .int .i64 0, .int .i64 0, .int .i64 0, .int .i64 0, .int .i64 0, .int .i64 0, .int .i64 0, .int .i64 0, .int .i64 0, .int .i64 0, .slice none 0 0, .slice none 0 0, .slice none 0 0, .slice none 0 0] 93) fun p1 w =>
  S.api_DB_Clone m 0 w (fun Tabs_2 w =>
  St1 w ⟨p1, 0, none⟩ (.slice Tabs_2.a Tabs_2.l Tabs_2.c) fun w =>
  LdB w ⟨m, 1, none⟩ fun x_3 =>
  LdB w ⟨m, 2, none⟩ fun x_4 =>
  LdB w ⟨m, 3, none⟩ fun x_5 =>
  LdB w ⟨m, 4, none⟩ fun x_6 =>
  St1 w ⟨p1, 1, none⟩ (.bool x_3) fun w =>
  St1 w ⟨p1, 2, none⟩ (.bool x_4) fun w =>
  St1 w ⟨p1, 3, none⟩ (.bool x_5) fun w =>
  St1 w ⟨p1, 4, none⟩ (.bool x_6) fun w =>
  LdI .i64 w ⟨m, 5, none⟩ fun x_7 =>
  LdI .i64 w ⟨m, 6, none⟩ fun x_8 =>
  LdI .i64 w ⟨m, 7, none⟩ fun x_9 =>
  LdI .i64 w ⟨m, 8, none⟩ fun x_10 =>
  LdI .i64 w ⟨m, 9, none⟩ fun x_11 =>
  LdI .i64 w ⟨m, 10, none⟩ fun x_12 =>
  LdI .i64 w ⟨m, 11, none⟩ fun x_13 =>
  LdI .i64 w ⟨m, 12, none⟩ fun x_14 =>
  LdI .i64 w ⟨m, 13, none⟩ fun x_15 =>
  LdI .i64 w ⟨m, 14, none⟩ fun x_16 =>
  LdI .i64 w ⟨m, 15, none⟩ fun x_17 =>
  LdI .i64 w ⟨m, 16, none⟩ fun x_18 =>
  St1 w ⟨p1, 5, none⟩ (.int .i64 x_7) fun w =>
  St1 w ⟨p1, 6, none⟩ (.int .i64 x_8) fun w =>
  St1 w ⟨p1, 7, none⟩ (.int .i64 x_9) fun w =>
  St1 w ⟨p1, 8, none⟩ (.int .i64 x_10) fun w =>
  St1 w ⟨p1, 9, none⟩ (.int .i64 x_11) fun w =>
  St1 w ⟨p1, 10, none⟩ (.int .i64 x_12) fun w =>
  St1 w ⟨p1, 11, none⟩ (.int .i64 x_13) fun w =>
  St1 w ⟨p1, 12, none⟩ (.int .i64 x_14) fun w =>
  St1 w ⟨p1, 13, none⟩ (.int .i64 x_15) fun w =>
  St1 w ⟨p1, 14, none⟩ (.int .i64 x_16) fun w =>
  St1 w ⟨p1, 15, none⟩ (.int .i64 x_17) fun w =>
  St1 w ⟨p1, 16, none⟩ (.int .i64 x_18) fun w =>
  LoopP (σ := Int × Unit) (fun st19 w next20 =>
    if (decide (st19.1 < 4)) = true then
      Drew w fun w =>
      IxA 4 st19.1 <|
      S.api_DB_Clone m (17 + Int.toNat st19.1 * 1) w (fun Tabs_21 w =>
      IxA 4 st19.1 <|
      St1 w ⟨p1, 17 + Int.toNat st19.1 * 1, none⟩ (.slice Tabs_21.a Tabs_21.l Tabs_21.c) fun w =>
      Let (W (st19.1 + 1)) fun s_22 =>
      next20 (s_22, ()) w)
    else
      K p1 w) (0, ()) w)
def T.C21 : CallT := (CallT.cons 64 T.c64 CallT.nil)
def T.A21 : Ann := fun i => bif Nat.beq i 6 then some ([0, 3], [(4, 0)]) else none
set_option maxRecDepth 1000000 in
theorem T.eq21 (m : Nat) (w : World) (K : Nat → World → Prop) : denF Tryz.prog T.C21 T.A21 Tryz.f21 [.pointer (some ⟨m, 0, none⟩)] w (fun v w' => match v with | .pointer (some ⟨r0, 0, none⟩) => K r0 w' | _ => False) = S.api_Multi_Clone m w K := by kernel_rfl
theorem T.CO21 : CallOk Tryz.prog T.C21 := (CallOk.cons 64 T.ok64 CallOk.nil)
def T.c21 (vs : List Value) (w : World) (K : Value → World → Prop) : Prop :=
  match vs with
  | [.pointer (some ⟨m, 0, none⟩)] => S.api_Multi_Clone m w (fun r0 w' => K (.pointer (some ⟨r0, 0, none⟩)) w')
  | _ => False
theorem T.ok21 : ∀ vs w K, T.c21 vs w K → (callFunc 21 vs.toArray).run Tryz.prog w = .ok (.enter 21 vs.toArray) w ∧ Calls Tryz.prog 21 vs.toArray w fun e w' => ∃ v, e = .returned v ∧ K v w' := by
  intro vs w K h
  unfold T.c21 at h
  split at h
  · refine ⟨Tryz.call21 _ _, ok_of T.CO21 mixed Tryz.func21 (T.eq21 _ _ _) h fun v w' hk => ⟨v, rfl, ?_⟩⟩
    split at hk
    · exact hk
    · exact hk.elim
  · exact h.elim

/-- (*e2e/querym.Engine).Clone (function 8). -/
def S.querym_Engine_Clone (q : Nat) (w : World) (K : Nat → World → Prop) : Prop :=
  LdP w ⟨q, 0, none⟩ fun m_1 =>
  S.api_Multi_Clone m_1 w (fun r2 w =>
  New w (.cells #[.pointer (some ⟨r2, 0, none⟩)] 57) fun p3 w =>
  K p3 w)
def T.C8 : CallT := (CallT.cons 21 T.c21 CallT.nil)
def T.A8 : Ann := fun _ => none
set_option maxRecDepth 1000000 in
theorem T.eq8 (q : Nat) (w : World) (K : Nat → World → Prop) : denF Tryz.prog T.C8 T.A8 Tryz.f8 [.pointer (some ⟨q, 0, none⟩)] w (fun v w' => match v with | .pointer (some ⟨r0, 0, none⟩) => K r0 w' | _ => False) = S.querym_Engine_Clone q w K := by kernel_rfl
theorem T.CO8 : CallOk Tryz.prog T.C8 := (CallOk.cons 21 T.ok21 CallOk.nil)
def T.c8 (vs : List Value) (w : World) (K : Value → World → Prop) : Prop :=
  match vs with
  | [.pointer (some ⟨q, 0, none⟩)] => S.querym_Engine_Clone q w (fun r0 w' => K (.pointer (some ⟨r0, 0, none⟩)) w')
  | _ => False
theorem T.ok8 : ∀ vs w K, T.c8 vs w K → (callFunc 8 vs.toArray).run Tryz.prog w = .ok (.enter 8 vs.toArray) w ∧ Calls Tryz.prog 8 vs.toArray w fun e w' => ∃ v, e = .returned v ∧ K v w' := by
  intro vs w K h
  unfold T.c8 at h
  split at h
  · refine ⟨Tryz.call8 _ _, ok_of T.CO8 mixed Tryz.func8 (T.eq8 _ _ _) h fun v w' hk => ⟨v, rfl, ?_⟩⟩
    split at hk
    · exact hk
    · exact hk.elim
  · exact h.elim

/-- e2e/tower.New (function 19). -/
def S.tower_New (d : Nat) (w : World) (K : Nat → World → Prop) : Prop :=
  S.wal_New d w (fun r1 w =>
  S.pager_New r1 w (fun r2 w =>
  S.btree_New r2 w (fun r3 w =>
  S.table_New r3 w (fun r4 w =>
  S.txn_New r4 w (fun r5 w =>
  S.query_New r5 w (fun r6 w =>
  K r6 w))))))
def T.C19 : CallT := (CallT.cons 57 T.c57 (CallT.cons 58 T.c58 (CallT.cons 59 T.c59 (CallT.cons 60 T.c60 (CallT.cons 61 T.c61 (CallT.cons 62 T.c62 CallT.nil))))))
def T.A19 : Ann := fun _ => none
set_option maxRecDepth 1000000 in
theorem T.eq19 (d : Nat) (w : World) (K : Nat → World → Prop) : denF Tryz.prog T.C19 T.A19 Tryz.f19 [.pointer (some ⟨d, 0, none⟩)] w (fun v w' => match v with | .pointer (some ⟨r0, 0, none⟩) => K r0 w' | _ => False) = S.tower_New d w K := by kernel_rfl
theorem T.CO19 : CallOk Tryz.prog T.C19 := (CallOk.cons 57 T.ok57 (CallOk.cons 58 T.ok58 (CallOk.cons 59 T.ok59 (CallOk.cons 60 T.ok60 (CallOk.cons 61 T.ok61 (CallOk.cons 62 T.ok62 CallOk.nil))))))
def T.c19 (vs : List Value) (w : World) (K : Value → World → Prop) : Prop :=
  match vs with
  | [.pointer (some ⟨d, 0, none⟩)] => S.tower_New d w (fun r0 w' => K (.pointer (some ⟨r0, 0, none⟩)) w')
  | _ => False
theorem T.ok19 : ∀ vs w K, T.c19 vs w K → (callFunc 19 vs.toArray).run Tryz.prog w = .ok (.enter 19 vs.toArray) w ∧ Calls Tryz.prog 19 vs.toArray w fun e w' => ∃ v, e = .returned v ∧ K v w' := by
  intro vs w K h
  unfold T.c19 at h
  split at h
  · refine ⟨Tryz.call19 _ _, ok_of T.CO19 mixed Tryz.func19 (T.eq19 _ _ _) h fun v w' hk => ⟨v, rfl, ?_⟩⟩
    split at hk
    · exact hk
    · exact hk.elim
  · exact h.elim

/-- e2e/towerexact.fresh (function 6). -/
def S.towerexact_fresh (box : Bool) (w : World) (K : Bool → Nat → Nat → Nat → Nat → World → Prop) : Prop :=
  New w (.cells #[.bool false, .pointer none, .pointer none, .pointer none, .pointer none] 29) fun p1 w =>
  S.diskm_New w (fun r2 w =>
  S.querym_New w (fun r3 w =>
  if box = true then
    S.tower_NewBox r2 w (fun L_4 P_5 F_6 S_7 T_8 Q_9 w =>
    New w (.cells #[.pointer none, .pointer none, .pointer none, .pointer none, .pointer none, .pointer none] 52) fun p10 w =>
    St1 w ⟨p10, 0, none⟩ (.pointer (some ⟨L_4, 0, none⟩)) fun w =>
    St1 w ⟨p10, 1, none⟩ (.pointer (some ⟨P_5, 0, none⟩)) fun w =>
    St1 w ⟨p10, 2, none⟩ (.pointer (some ⟨F_6, 0, none⟩)) fun w =>
    St1 w ⟨p10, 3, none⟩ (.pointer (some ⟨S_7, 0, none⟩)) fun w =>
    St1 w ⟨p10, 4, none⟩ (.pointer (some ⟨T_8, 0, none⟩)) fun w =>
    St1 w ⟨p10, 5, none⟩ (.pointer (some ⟨Q_9, 0, none⟩)) fun w =>
    Drew w fun w =>
    Hold w ⟨p10, 5, none⟩ 1 fun R11 =>
    LdP w ⟨p10, 5, none⟩ fun Q_12 =>
    S.querym_Engine_Clone r3 w (fun r13 w =>
    After R11 w <|
    St1 w ⟨p1, 0, none⟩ (.bool true) fun w =>
    St1 w ⟨p1, 1, none⟩ (.pointer (some ⟨r2, 0, none⟩)) fun w =>
    St1 w ⟨p1, 2, none⟩ (.pointer (some ⟨Q_12, 0, none⟩)) fun w =>
    St1 w ⟨p1, 3, none⟩ (.pointer (some ⟨r3, 0, none⟩)) fun w =>
    St1 w ⟨p1, 4, none⟩ (.pointer (some ⟨r13, 0, none⟩)) fun w =>
    LdB w ⟨p1, 0, none⟩ fun box_14 =>
    LdP w ⟨p1, 1, none⟩ fun d_15 =>
    LdP w ⟨p1, 2, none⟩ fun x_16 =>
    LdP w ⟨p1, 3, none⟩ fun m_17 =>
    LdP w ⟨p1, 4, none⟩ fun mb_18 =>
    K box_14 d_15 x_16 m_17 mb_18 w))
  else
    S.tower_New r2 w (fun r19 w =>
    S.querym_Engine_Clone r3 w (fun r20 w =>
    St1 w ⟨p1, 0, none⟩ (.bool false) fun w =>
    St1 w ⟨p1, 1, none⟩ (.pointer (some ⟨r2, 0, none⟩)) fun w =>
    St1 w ⟨p1, 2, none⟩ (.pointer (some ⟨r19, 0, none⟩)) fun w =>
    St1 w ⟨p1, 3, none⟩ (.pointer (some ⟨r3, 0, none⟩)) fun w =>
    St1 w ⟨p1, 4, none⟩ (.pointer (some ⟨r20, 0, none⟩)) fun w =>
    LdB w ⟨p1, 0, none⟩ fun box_21 =>
    LdP w ⟨p1, 1, none⟩ fun d_22 =>
    LdP w ⟨p1, 2, none⟩ fun x_23 =>
    LdP w ⟨p1, 3, none⟩ fun m_24 =>
    LdP w ⟨p1, 4, none⟩ fun mb_25 =>
    K box_21 d_22 x_23 m_24 mb_25 w))))
def T.C6 : CallT := (CallT.cons 16 T.c16 (CallT.cons 17 T.c17 (CallT.cons 18 T.c18 (CallT.cons 8 T.c8 (CallT.cons 19 T.c19 CallT.nil)))))
def T.A6 : Ann := fun _ => none
set_option maxRecDepth 1000000 in
theorem T.eq6 (box : Bool) (w : World) (K : Bool → Nat → Nat → Nat → Nat → World → Prop) : denF Tryz.prog T.C6 T.A6 Tryz.f6 [.bool box] w (fun v w' => match v with | .agg ⟨[.bool r0, .pointer (some ⟨r1, 0, none⟩), .pointer (some ⟨r2, 0, none⟩), .pointer (some ⟨r3, 0, none⟩), .pointer (some ⟨r4, 0, none⟩)]⟩ => K r0 r1 r2 r3 r4 w' | _ => False) = S.towerexact_fresh box w K := by kernel_rfl
theorem T.CO6 : CallOk Tryz.prog T.C6 := (CallOk.cons 16 T.ok16 (CallOk.cons 17 T.ok17 (CallOk.cons 18 T.ok18 (CallOk.cons 8 T.ok8 (CallOk.cons 19 T.ok19 CallOk.nil)))))
def T.c6 (vs : List Value) (w : World) (K : Value → World → Prop) : Prop :=
  match vs with
  | [.bool box] => S.towerexact_fresh box w (fun r0 r1 r2 r3 r4 w' => K (.agg #[.bool r0, .pointer (some ⟨r1, 0, none⟩), .pointer (some ⟨r2, 0, none⟩), .pointer (some ⟨r3, 0, none⟩), .pointer (some ⟨r4, 0, none⟩)]) w')
  | _ => False
theorem T.ok6 : ∀ vs w K, T.c6 vs w K → (callFunc 6 vs.toArray).run Tryz.prog w = .ok (.enter 6 vs.toArray) w ∧ Calls Tryz.prog 6 vs.toArray w fun e w' => ∃ v, e = .returned v ∧ K v w' := by
  intro vs w K h
  unfold T.c6 at h
  split at h
  · refine ⟨Tryz.call6 _ _, ok_of T.CO6 mixed Tryz.func6 (T.eq6 _ _ _) h fun v w' hk => ⟨v, rfl, ?_⟩⟩
    split at hk
    · exact hk
    · exact hk.elim
  · exact h.elim
end Go.Proofs.Qxb6500564aGreat
