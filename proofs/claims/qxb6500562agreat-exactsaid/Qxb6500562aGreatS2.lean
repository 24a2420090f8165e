/-
  MADE BY PROGRAM (my own gen2.py) out of the translation: the Go functions as typed texts, each tied to the model by the kernel.
-/
import Derived.Test.Qxb6500562aGreatS1
set_option linter.unusedVariables false
namespace Go.Proofs.Qxb6500562aGreat
open Go.Den

/-- (*e2e/check.Checker).declare (function 105). -/
def S.check_Checker_declare (c : Nat) (x : Int) (w : World) (K : World → Prop) : Prop :=
  LdS w ⟨c, 415, none⟩ fun t_1 =>
  Ix t_1.a t_1.l x fun b2 o3 =>
  LdI .i64 w ⟨b2, o3 + Int.toNat x * 8 + 5, none⟩ fun Val_4 =>
  Join (fun (slot_5 : Int) (w : World) =>
    Drew w fun w =>
    LdS w ⟨c, 415, none⟩ fun t_6 =>
    Ix t_6.a t_6.l x fun b7 o8 =>
    LdStr w ⟨b7, o8 + Int.toNat x * 8 + 7, none⟩ fun Name_9 =>
    LdS w ⟨c, 415, none⟩ fun t_10 =>
    Ix t_10.a t_10.l x fun b11 o12 =>
    LdI .i64 w ⟨b11, o12 + Int.toNat x * 8 + 5, none⟩ fun Val_13 =>
    LdI .i64 w ⟨c, 164, none⟩ fun level_14 =>
    S.check_table_push c 1 Name_9 Val_13 slot_5 level_14 w (fun w =>
    LdS w ⟨c, 417, none⟩ fun ref_15 =>
    Ix ref_15.a ref_15.l x fun b16 o17 =>
    St1 w ⟨b16, o17 + Int.toNat x * 1, none⟩ (.int .i64 slot_5) fun w =>
    K w)) fun J18 =>
  if (decide (Val_4 ≥ 2)) = true then
    LdI .i64 w ⟨c, 163, none⟩ fun nr_19 =>
    LdI .i64 w ⟨c, 163, none⟩ fun nr_20 =>
    St1 w ⟨c, 163, none⟩ (.int .i64 (W (nr_20 + 1))) fun w =>
    Drew w fun w =>
    LdI .i64 w ⟨c, 163, none⟩ fun nr_21 =>
    LdI .i64 w ⟨c, 414, none⟩ fun cur_22 =>
    IxA 8 cur_22 <|
    LdI .i64 w ⟨c, 326 + Int.toNat cur_22 * 7 + 5, none⟩ fun LR_23 =>
    if (decide (nr_21 > LR_23)) = true then
      Drew w fun w =>
      LdI .i64 w ⟨c, 414, none⟩ fun cur_24 =>
      LdI .i64 w ⟨c, 163, none⟩ fun nr_25 =>
      IxA 8 cur_24 <|
      St1 w ⟨c, 326 + Int.toNat cur_24 * 7 + 5, none⟩ (.int .i64 nr_25) fun w =>
      J18 nr_19 w
    else
      J18 nr_19 w
  else
    LdI .i64 w ⟨c, 162, none⟩ fun ni_26 =>
    LdI .i64 w ⟨c, 162, none⟩ fun ni_27 =>
    St1 w ⟨c, 162, none⟩ (.int .i64 (W (ni_27 + 1))) fun w =>
    Drew w fun w =>
    LdI .i64 w ⟨c, 162, none⟩ fun ni_28 =>
    LdI .i64 w ⟨c, 414, none⟩ fun cur_29 =>
    IxA 8 cur_29 <|
    LdI .i64 w ⟨c, 326 + Int.toNat cur_29 * 7 + 4, none⟩ fun LI_30 =>
    if (decide (ni_28 > LI_30)) = true then
      Drew w fun w =>
      LdI .i64 w ⟨c, 414, none⟩ fun cur_31 =>
      LdI .i64 w ⟨c, 162, none⟩ fun ni_32 =>
      IxA 8 cur_31 <|
      St1 w ⟨c, 326 + Int.toNat cur_31 * 7 + 4, none⟩ (.int .i64 ni_32) fun w =>
      J18 ni_26 w
    else
      J18 ni_26 w
def T.C105 : CallT := (CallT.cons 103 T.c103 CallT.nil)
def T.A105 : Ann := fun i => bif Nat.beq i 1000006 then some ([], [(0, 5), (1, 0)]) else none
set_option maxRecDepth 1000000 in
theorem T.eq105 (c : Nat) (x : Int) (w : World) (K : World → Prop) : denF Tryz.prog T.C105 T.A105 Tryz.f105 [.pointer (some ⟨c, 0, none⟩), .int .i64 x] w (fun v w' => match v with | .tuple ⟨[]⟩ => K w' | _ => False) = S.check_Checker_declare c x w K := by kernel_rfl
theorem T.CO105 : CallOk Tryz.prog T.C105 := (CallOk.cons 103 T.ok103 CallOk.nil)
def T.c105 (vs : List Value) (w : World) (K : Value → World → Prop) : Prop :=
  match vs with
  | [.pointer (some ⟨c, 0, none⟩), .int .i64 x] => S.check_Checker_declare c x w (fun w' => K (.tuple #[]) w')
  | _ => False
theorem T.ok105 : ∀ vs w K, T.c105 vs w K → (callFunc 105 vs.toArray).run Tryz.prog w = .ok (.enter 105 vs.toArray) w ∧ Calls Tryz.prog 105 vs.toArray w fun e w' => ∃ v, e = .returned v ∧ K v w' := by
  intro vs w K h
  unfold T.c105 at h
  split at h
  · refine ⟨Tryz.call105 _ _, ok_of T.CO105 mixed Tryz.func105 (T.eq105 _ _ _ _) h fun v w' hk => ⟨v, rfl, ?_⟩⟩
    split at hk
    · exact hk
    · exact hk.elim
  · exact h.elim

/-- (*e2e/check.Checker).block (function 106): its body over the calls of its kin. -/
def B.check_Checker_block (R_check_Checker_block : Nat → Int → World → (Bool → World → Prop) → Prop) (R_check_Checker_stmt : Nat → Int → World → (Bool → World → Prop) → Prop) (c : Nat) (b : Int) (w : World) (K : Bool → World → Prop) : Prop :=
  LdI .i64 w ⟨c, 161, none⟩ fun n_1 =>
  LdI .i64 w ⟨c, 164, none⟩ fun level_2 =>
  St1 w ⟨c, 164, none⟩ (.int .i64 (W (level_2 + 1))) fun w =>
  LdS w ⟨c, 415, none⟩ fun t_3 =>
  Ix t_3.a t_3.l b fun b4 o5 =>
  LdI .i64 w ⟨b4, o5 + Int.toNat b * 8 + 1, none⟩ fun A_6 =>
  Join (fun (w : World) =>
    S.check_Checker_undo c n_1 w (fun w =>
    LdI .i64 w ⟨c, 164, none⟩ fun level_7 =>
    St1 w ⟨c, 164, none⟩ (.int .i64 (W (level_7 - 1))) fun w =>
    K true w)) fun J8 =>
  LoopP (σ := Int × Unit) (fun st9 w next10 =>
    if (decide (st9.1 ≥ 0)) = true then
      R_check_Checker_stmt c st9.1 w (fun r11 w =>
      if (!r11) = true then
        K false w
      else
        LdS w ⟨c, 415, none⟩ fun t_12 =>
        Ix t_12.a t_12.l st9.1 fun b13 o14 =>
        LdI .i64 w ⟨b13, o14 + Int.toNat st9.1 * 8 + 4, none⟩ fun Next_15 =>
        next10 (Next_15, ()) w)
    else
      J8 w) (A_6, ()) w
def T.r106 (R : Nat → Int → World → (Bool → World → Prop) → Prop) (vs : List Value) (w : World) (K : Value → World → Prop) : Prop :=
  match vs with
  | [.pointer (some ⟨c, 0, none⟩), .int .i64 b] => R c b w (fun r0 w' => K (.bool r0) w')
  | _ => False
def T.A106 : Ann := fun i => bif Nat.beq i 4 then some ([0, 5], [(6, 0)]) else none
/-- (*e2e/check.Checker).stmt (function 147): its body over the calls of its kin. -/
def B.check_Checker_stmt (R_check_Checker_block : Nat → Int → World → (Bool → World → Prop) → Prop) (R_check_Checker_stmt : Nat → Int → World → (Bool → World → Prop) → Prop) (c : Nat) (x : Int) (w : World) (K : Bool → World → Prop) : Prop :=
  LdS w ⟨c, 415, none⟩ fun t_1 =>
  Ix t_1.a t_1.l x fun b2 o3 =>
  LdI .i64 w ⟨b2, o3 + Int.toNat x * 8, none⟩ fun Kind_4 =>
  if (Kind_4 == 3) = true then
    S.check_Checker_mayDeclare c x w (fun r5 w =>
    if (!r5) = true then
      K false w
    else
      Drew w fun w =>
      LdS w ⟨c, 415, none⟩ fun t_6 =>
      Ix t_6.a t_6.l x fun b7 o8 =>
      LdI .i64 w ⟨b7, o8 + Int.toNat x * 8 + 1, none⟩ fun A_9 =>
      LdS w ⟨c, 415, none⟩ fun t_10 =>
      Ix t_10.a t_10.l x fun b11 o12 =>
      LdI .i64 w ⟨b11, o12 + Int.toNat x * 8 + 5, none⟩ fun Val_13 =>
      S.check_Checker_want c A_9 Val_13 w (fun r14 w =>
      if (!r14) = true then
        K false w
      else
        S.check_Checker_declare c x w (fun w =>
        K true w)))
  else
    if (Kind_4 == 4) = true then
      LdS w ⟨c, 415, none⟩ fun t_15 =>
      Ix t_15.a t_15.l x fun b16 o17 =>
      LdI .i64 w ⟨b16, o17 + Int.toNat x * 8 + 1, none⟩ fun A_18 =>
      S.check_Checker_expr c A_18 w (fun r19 w =>
      if (decide (r19 ≥ 0)) = true then
        LdS w ⟨c, 415, none⟩ fun t_20 =>
        Ix t_20.a t_20.l x fun b21 o22 =>
        LdI .i64 w ⟨b21, o22 + Int.toNat x * 8 + 2, none⟩ fun B_23 =>
        S.check_Checker_want c B_23 r19 w (fun r24 w =>
        K r24 w)
      else
        K false w)
    else
      if (Kind_4 == 5) = true then
        LdS w ⟨c, 415, none⟩ fun t_25 =>
        Ix t_25.a t_25.l x fun b26 o27 =>
        LdI .i64 w ⟨b26, o27 + Int.toNat x * 8 + 1, none⟩ fun A_28 =>
        S.check_Checker_want c A_28 1 w (fun r29 w =>
        if (!r29) = true then
          K false w
        else
          LdS w ⟨c, 415, none⟩ fun t_30 =>
          Ix t_30.a t_30.l x fun b31 o32 =>
          LdI .i64 w ⟨b31, o32 + Int.toNat x * 8 + 2, none⟩ fun B_33 =>
          R_check_Checker_block c B_33 w (fun r34 w =>
          if (!r34) = true then
            K false w
          else
            LdS w ⟨c, 415, none⟩ fun t_35 =>
            Ix t_35.a t_35.l x fun b36 o37 =>
            LdI .i64 w ⟨b36, o37 + Int.toNat x * 8 + 3, none⟩ fun C_38 =>
            if (decide (C_38 < 0)) = true then
              K true w
            else
              LdS w ⟨c, 415, none⟩ fun t_39 =>
              Ix t_39.a t_39.l x fun b40 o41 =>
              LdI .i64 w ⟨b40, o41 + Int.toNat x * 8 + 3, none⟩ fun C_42 =>
              R_check_Checker_block c C_42 w (fun r43 w =>
              K r43 w)))
      else
        if (Kind_4 == 6) = true then
          LdS w ⟨c, 415, none⟩ fun t_44 =>
          Ix t_44.a t_44.l x fun b45 o46 =>
          LdI .i64 w ⟨b45, o46 + Int.toNat x * 8 + 1, none⟩ fun A_47 =>
          S.check_Checker_want c A_47 1 w (fun r48 w =>
          if (!r48) = true then
            K false w
          else
            LdS w ⟨c, 415, none⟩ fun t_49 =>
            Ix t_49.a t_49.l x fun b50 o51 =>
            LdI .i64 w ⟨b50, o51 + Int.toNat x * 8 + 2, none⟩ fun B_52 =>
            R_check_Checker_block c B_52 w (fun r53 w =>
            K r53 w))
        else
          if (Kind_4 == 7) = true then
            Drew w fun w =>
            LdS w ⟨c, 415, none⟩ fun t_54 =>
            Ix t_54.a t_54.l x fun b55 o56 =>
            LdI .i64 w ⟨b55, o56 + Int.toNat x * 8 + 1, none⟩ fun A_57 =>
            LdI .i64 w ⟨c, 414, none⟩ fun cur_58 =>
            IxA 8 cur_58 <|
            LdI .i64 w ⟨c, 326 + Int.toNat cur_58 * 7 + 1, none⟩ fun Ret_59 =>
            S.check_Checker_want c A_57 Ret_59 w (fun r60 w =>
            K r60 w)
          else
            if (Kind_4 == 8) = true then
              LdS w ⟨c, 415, none⟩ fun t_61 =>
              Ix t_61.a t_61.l x fun b62 o63 =>
              LdI .i64 w ⟨b62, o63 + Int.toNat x * 8 + 1, none⟩ fun A_64 =>
              S.check_Checker_want c A_64 0 w (fun r65 w =>
              K r65 w)
            else
              if (Kind_4 == 9) = true then
                LdS w ⟨c, 415, none⟩ fun t_66 =>
                Ix t_66.a t_66.l x fun b67 o68 =>
                LdI .i64 w ⟨b67, o68 + Int.toNat x * 8 + 1, none⟩ fun A_69 =>
                S.check_Checker_expr c A_69 w (fun r70 w =>
                K (decide (r70 ≥ 0)) w)
              else
                K true w
def T.r147 (R : Nat → Int → World → (Bool → World → Prop) → Prop) (vs : List Value) (w : World) (K : Value → World → Prop) : Prop :=
  match vs with
  | [.pointer (some ⟨c, 0, none⟩), .int .i64 x] => R c x w (fun r0 w' => K (.bool r0) w')
  | _ => False
def T.A147 : Ann := fun i => bif Nat.beq i 1000027 then some ([], [(0, 5), (1, 0), (13, 0)]) else bif Nat.beq i 1000025 then some ([], [(0, 5), (1, 0), (13, 0)]) else bif Nat.beq i 1000023 then some ([], [(0, 5), (1, 0), (13, 0)]) else bif Nat.beq i 1000019 then some ([], [(0, 5), (1, 0), (13, 0)]) else bif Nat.beq i 1000011 then some ([], [(0, 5), (1, 0), (13, 0)]) else bif Nat.beq i 1000008 then some ([], [(0, 5), (1, 0), (13, 0)]) else none
def T.C106 (R_check_Checker_block : Nat → Int → World → (Bool → World → Prop) → Prop) (R_check_Checker_stmt : Nat → Int → World → (Bool → World → Prop) → Prop) : CallT := (CallT.cons 107 T.c107 (CallT.cons 147 (T.r147 R_check_Checker_stmt) CallT.nil))
set_option maxRecDepth 1000000 in
theorem T.eq106 (R_check_Checker_block : Nat → Int → World → (Bool → World → Prop) → Prop) (R_check_Checker_stmt : Nat → Int → World → (Bool → World → Prop) → Prop) (c : Nat) (b : Int) (w : World) (K : Bool → World → Prop) : denF Tryz.prog (T.C106 R_check_Checker_block R_check_Checker_stmt) T.A106 Tryz.f106 [.pointer (some ⟨c, 0, none⟩), .int .i64 b] w (fun v w' => match v with | .bool r0 => K r0 w' | _ => False) = B.check_Checker_block R_check_Checker_block R_check_Checker_stmt c b w K := by kernel_rfl
def T.C147 (R_check_Checker_block : Nat → Int → World → (Bool → World → Prop) → Prop) (R_check_Checker_stmt : Nat → Int → World → (Bool → World → Prop) → Prop) : CallT := (CallT.cons 104 T.c104 (CallT.cons 190 T.c190 (CallT.cons 105 T.c105 (CallT.cons 191 T.c191 (CallT.cons 106 (T.r106 R_check_Checker_block) CallT.nil)))))
set_option maxRecDepth 1000000 in
theorem T.eq147 (R_check_Checker_block : Nat → Int → World → (Bool → World → Prop) → Prop) (R_check_Checker_stmt : Nat → Int → World → (Bool → World → Prop) → Prop) (c : Nat) (x : Int) (w : World) (K : Bool → World → Prop) : denF Tryz.prog (T.C147 R_check_Checker_block R_check_Checker_stmt) T.A147 Tryz.f147 [.pointer (some ⟨c, 0, none⟩), .int .i64 x] w (fun v w' => match v with | .bool r0 => K r0 w' | _ => False) = B.check_Checker_stmt R_check_Checker_block R_check_Checker_stmt c x w K := by kernel_rfl
/-- The specifications hold of the bodies. -/
def T.G106 (P_check_Checker_block : Nat → Nat → Int → World → (Bool → World → Prop) → Prop) (P_check_Checker_stmt : Nat → Nat → Int → World → (Bool → World → Prop) → Prop) : Prop :=
  (∀ (n : Nat) (c : Nat) (b : Int) (w : World) (K : Bool → World → Prop), P_check_Checker_block n c b w K → B.check_Checker_block (fun x0 x1 w K => ∃ m, m < n ∧ P_check_Checker_block m x0 x1 w K) (fun x0 x1 w K => ∃ m, m < n ∧ P_check_Checker_stmt m x0 x1 w K) c b w K) ∧
  (∀ (n : Nat) (c : Nat) (x : Int) (w : World) (K : Bool → World → Prop), P_check_Checker_stmt n c x w K → B.check_Checker_stmt (fun x0 x1 w K => ∃ m, m < n ∧ P_check_Checker_block m x0 x1 w K) (fun x0 x1 w K => ∃ m, m < n ∧ P_check_Checker_stmt m x0 x1 w K) c x w K)
/-- (*e2e/check.Checker).block (function 106). -/
def S.check_Checker_block (c : Nat) (b : Int) (w : World) (K : Bool → World → Prop) : Prop :=
  ∃ (P_check_Checker_block : Nat → Nat → Int → World → (Bool → World → Prop) → Prop) (P_check_Checker_stmt : Nat → Nat → Int → World → (Bool → World → Prop) → Prop), T.G106 P_check_Checker_block P_check_Checker_stmt ∧ ∃ n, P_check_Checker_block n c b w K
def T.c106 (vs : List Value) (w : World) (K : Value → World → Prop) : Prop :=
  match vs with
  | [.pointer (some ⟨c, 0, none⟩), .int .i64 b] => S.check_Checker_block c b w (fun r0 w' => K (.bool r0) w')
  | _ => False
/-- (*e2e/check.Checker).stmt (function 147). -/
def S.check_Checker_stmt (c : Nat) (x : Int) (w : World) (K : Bool → World → Prop) : Prop :=
  ∃ (P_check_Checker_block : Nat → Nat → Int → World → (Bool → World → Prop) → Prop) (P_check_Checker_stmt : Nat → Nat → Int → World → (Bool → World → Prop) → Prop), T.G106 P_check_Checker_block P_check_Checker_stmt ∧ ∃ n, P_check_Checker_stmt n c x w K
def T.c147 (vs : List Value) (w : World) (K : Value → World → Prop) : Prop :=
  match vs with
  | [.pointer (some ⟨c, 0, none⟩), .int .i64 x] => S.check_Checker_stmt c x w (fun r0 w' => K (.bool r0) w')
  | _ => False
theorem T.all106 (P_check_Checker_block : Nat → Nat → Int → World → (Bool → World → Prop) → Prop) (P_check_Checker_stmt : Nat → Nat → Int → World → (Bool → World → Prop) → Prop) (h : T.G106 P_check_Checker_block P_check_Checker_stmt) : ∀ n, (∀ vs w K, T.r106 (P_check_Checker_block n) vs w K → (callFunc 106 vs.toArray).run Tryz.prog w = .ok (.enter 106 vs.toArray) w ∧ Calls Tryz.prog 106 vs.toArray w fun e w' => ∃ v, e = .returned v ∧ K v w') ∧ (∀ vs w K, T.r147 (P_check_Checker_stmt n) vs w K → (callFunc 147 vs.toArray).run Tryz.prog w = .ok (.enter 147 vs.toArray) w ∧ Calls Tryz.prog 147 vs.toArray w fun e w' => ∃ v, e = .returned v ∧ K v w') := by
  intro n
  induction n using Nat.strongRecOn with
  | _ n ih =>
    obtain ⟨g106, g147⟩ := h
    have k106 : (∀ vs w K, T.r106 (fun x0 x1 w K => ∃ m, m < n ∧ P_check_Checker_block m x0 x1 w K) vs w K → (callFunc 106 vs.toArray).run Tryz.prog w = .ok (.enter 106 vs.toArray) w ∧ Calls Tryz.prog 106 vs.toArray w fun e w' => ∃ v, e = .returned v ∧ K v w') := by
      intro vs w K hk
      unfold T.r106 at hk
      split at hk
      · obtain ⟨m, hm, hp⟩ := hk
        exact (ih m hm).1 _ w K hp
      · exact hk.elim
    have k147 : (∀ vs w K, T.r147 (fun x0 x1 w K => ∃ m, m < n ∧ P_check_Checker_stmt m x0 x1 w K) vs w K → (callFunc 147 vs.toArray).run Tryz.prog w = .ok (.enter 147 vs.toArray) w ∧ Calls Tryz.prog 147 vs.toArray w fun e w' => ∃ v, e = .returned v ∧ K v w') := by
      intro vs w K hk
      unfold T.r147 at hk
      split at hk
      · obtain ⟨m, hm, hp⟩ := hk
        exact (ih m hm).2 _ w K hp
      · exact hk.elim
    refine ⟨?_, ?_⟩
    · intro vs w K hk
      unfold T.r106 at hk
      split at hk
      · have hb := g106 _ _ _ _ _ hk
        have hco : CallOk Tryz.prog (T.C106 (fun x0 x1 w K => ∃ m, m < n ∧ P_check_Checker_block m x0 x1 w K) (fun x0 x1 w K => ∃ m, m < n ∧ P_check_Checker_stmt m x0 x1 w K)) := (CallOk.cons 107 T.ok107 (CallOk.cons 147 k147 CallOk.nil))
        refine ⟨Tryz.call106 _ _, ok_of hco mixed Tryz.func106 (T.eq106 _ _ _ _ _ _) hb fun v w' hk => ⟨v, rfl, ?_⟩⟩
        split at hk
        · exact hk
        · exact hk.elim
      · exact hk.elim
    · intro vs w K hk
      unfold T.r147 at hk
      split at hk
      · have hb := g147 _ _ _ _ _ hk
        have hco : CallOk Tryz.prog (T.C147 (fun x0 x1 w K => ∃ m, m < n ∧ P_check_Checker_block m x0 x1 w K) (fun x0 x1 w K => ∃ m, m < n ∧ P_check_Checker_stmt m x0 x1 w K)) := (CallOk.cons 104 T.ok104 (CallOk.cons 190 T.ok190 (CallOk.cons 105 T.ok105 (CallOk.cons 191 T.ok191 (CallOk.cons 106 k106 CallOk.nil)))))
        refine ⟨Tryz.call147 _ _, ok_of hco mixed Tryz.func147 (T.eq147 _ _ _ _ _ _) hb fun v w' hk => ⟨v, rfl, ?_⟩⟩
        split at hk
        · exact hk
        · exact hk.elim
      · exact hk.elim
theorem T.ok106 : ∀ vs w K, T.c106 vs w K → (callFunc 106 vs.toArray).run Tryz.prog w = .ok (.enter 106 vs.toArray) w ∧ Calls Tryz.prog 106 vs.toArray w fun e w' => ∃ v, e = .returned v ∧ K v w' := by
  intro vs w K h
  unfold T.c106 at h
  split at h
  · obtain ⟨P106, P147, hg, m, hp⟩ := h
    exact (T.all106 P106 P147 hg m).1 _ w K hp
  · exact h.elim
theorem T.ok147 : ∀ vs w K, T.c147 vs w K → (callFunc 147 vs.toArray).run Tryz.prog w = .ok (.enter 147 vs.toArray) w ∧ Calls Tryz.prog 147 vs.toArray w fun e w' => ∃ v, e = .returned v ∧ K v w' := by
  intro vs w K h
  unfold T.c147 at h
  split at h
  · obtain ⟨P106, P147, hg, m, hp⟩ := h
    exact (T.all106 P106 P147 hg m).2 _ w K hp
  · exact h.elim

/-- (*e2e/check.Checker).allBodies (function 53). -/
def S.check_Checker_allBodies (c : Nat) (w : World) (K : Bool → World → Prop) : Prop :=
  LoopP (σ := Int × Unit) (fun st1 w next2 =>
    LdI .i64 w ⟨c, 325, none⟩ fun n_3 =>
    if (decide (st1.1 < n_3)) = true then
      St1 w ⟨c, 414, none⟩ (.int .i64 st1.1) fun w =>
      IxA 8 st1.1 <|
      LdI .i64 w ⟨c, 326 + Int.toNat st1.1 * 7, none⟩ fun Node_4 =>
      LdS w ⟨c, 415, none⟩ fun t_5 =>
      Ix t_5.a t_5.l Node_4 fun b6 o7 =>
      LdI .i64 w ⟨b6, o7 + Int.toNat Node_4 * 8 + 1, none⟩ fun A_8 =>
      Join (fun (w : World) =>
        LdS w ⟨c, 415, none⟩ fun t_9 =>
        Ix t_9.a t_9.l Node_4 fun b10 o11 =>
        LdI .i64 w ⟨b10, o11 + Int.toNat Node_4 * 8 + 2, none⟩ fun B_12 =>
        S.check_Checker_block c B_12 w (fun r13 w =>
        if (!r13) = true then
          K false w
        else
          S.check_Checker_undo c 0 w (fun w =>
          Let (W (st1.1 + 1)) fun i_14 =>
          next2 (i_14, ()) w))) fun J15 =>
      LoopP (σ := Int × Unit) (fun st16 w next17 =>
        if (decide (st16.1 ≥ 0)) = true then
          S.check_Checker_mayDeclare c st16.1 w (fun r18 w =>
          if (!r18) = true then
            K false w
          else
            S.check_Checker_declare c st16.1 w (fun w =>
            LdS w ⟨c, 415, none⟩ fun t_19 =>
            Ix t_19.a t_19.l st16.1 fun b20 o21 =>
            LdI .i64 w ⟨b20, o21 + Int.toNat st16.1 * 8 + 4, none⟩ fun Next_22 =>
            next17 (Next_22, ()) w))
        else
          J15 w) (A_8, ()) w
    else
      K true w) (0, ()) w
def T.C53 : CallT := (CallT.cons 106 T.c106 (CallT.cons 107 T.c107 (CallT.cons 104 T.c104 (CallT.cons 105 T.c105 CallT.nil))))
def T.A53 : Ann := fun i => bif Nat.beq i 7 then some ([0, 3, 4], [(5, 0)]) else bif Nat.beq i 2 then some ([0], [(3, 0)]) else none
set_option maxRecDepth 1000000 in
theorem T.eq53 (c : Nat) (w : World) (K : Bool → World → Prop) : denF Tryz.prog T.C53 T.A53 Tryz.f53 [.pointer (some ⟨c, 0, none⟩)] w (fun v w' => match v with | .bool r0 => K r0 w' | _ => False) = S.check_Checker_allBodies c w K := by kernel_rfl
theorem T.CO53 : CallOk Tryz.prog T.C53 := (CallOk.cons 106 T.ok106 (CallOk.cons 107 T.ok107 (CallOk.cons 104 T.ok104 (CallOk.cons 105 T.ok105 CallOk.nil))))
def T.c53 (vs : List Value) (w : World) (K : Value → World → Prop) : Prop :=
  match vs with
  | [.pointer (some ⟨c, 0, none⟩)] => S.check_Checker_allBodies c w (fun r0 w' => K (.bool r0) w')
  | _ => False
theorem T.ok53 : ∀ vs w K, T.c53 vs w K → (callFunc 53 vs.toArray).run Tryz.prog w = .ok (.enter 53 vs.toArray) w ∧ Calls Tryz.prog 53 vs.toArray w fun e w' => ∃ v, e = .returned v ∧ K v w' := by
  intro vs w K h
  unfold T.c53 at h
  split at h
  · refine ⟨Tryz.call53 _ _, ok_of T.CO53 mixed Tryz.func53 (T.eq53 _ _ _) h fun v w' hk => ⟨v, rfl, ?_⟩⟩
    split at hk
    · exact hk
    · exact hk.elim
  · exact h.elim

/-- (*e2e/check.Checker).Check (function 37). -/
def S.check_Checker_Check (c : Nat) (src : ByteArray) (w : World) (K : Sl → Int → Int → Int → Sl → Sl → Sl → Int → Int → Int → World → Prop) : Prop :=
  New w (.cells #[.slice none 0 0, .int .i64 0, .int .i64 0, .int .i64 0, .slice none 0 0, .slice none 0 0, .slice none 0 0, .int .i64 0, .int .i64 0, .int .i64 0] 103) fun p1 w =>
  LdP w ⟨c, 0, none⟩ fun ps_2 =>
  S.parse_Parser_Parse ps_2 src w (fun Nodes_3 Root_4 Err_5 Pos_6 w =>
  New w (.cells #[.slice none 0 0, .int .i64 0, .int .i64 0, .int .i64 0] 100) fun p7 w =>
  St1 w ⟨p7, 0, none⟩ (.slice Nodes_3.a Nodes_3.l Nodes_3.c) fun w =>
  St1 w ⟨p7, 1, none⟩ (.int .i64 Root_4) fun w =>
  St1 w ⟨p7, 2, none⟩ (.int .i64 Err_5) fun w =>
  St1 w ⟨p7, 3, none⟩ (.int .i64 Pos_6) fun w =>
  LdI .i64 w ⟨p7, 2, none⟩ fun Err_8 =>
  if (Err_8 != 0) = true then
    LdI .i64 w ⟨p7, 2, none⟩ fun Err_9 =>
    LdI .i64 w ⟨p7, 3, none⟩ fun Pos_10 =>
    S.check_refused Err_9 Pos_10 w (fun Tree_Nodes_11 Tree_Root_12 Tree_Err_13 Tree_Pos_14 Ty_15 Ref_16 Funcs_17 Main_18 Err_19 Pos_20 w =>
    St1 w ⟨p1, 0, none⟩ (.slice Tree_Nodes_11.a Tree_Nodes_11.l Tree_Nodes_11.c) fun w =>
    St1 w ⟨p1, 1, none⟩ (.int .i64 Tree_Root_12) fun w =>
    St1 w ⟨p1, 2, none⟩ (.int .i64 Tree_Err_13) fun w =>
    St1 w ⟨p1, 3, none⟩ (.int .i64 Tree_Pos_14) fun w =>
    St1 w ⟨p1, 4, none⟩ (.slice Ty_15.a Ty_15.l Ty_15.c) fun w =>
    St1 w ⟨p1, 5, none⟩ (.slice Ref_16.a Ref_16.l Ref_16.c) fun w =>
    St1 w ⟨p1, 6, none⟩ (.slice Funcs_17.a Funcs_17.l Funcs_17.c) fun w =>
    St1 w ⟨p1, 7, none⟩ (.int .i64 Main_18) fun w =>
    St1 w ⟨p1, 8, none⟩ (.int .i64 Err_19) fun w =>
    St1 w ⟨p1, 9, none⟩ (.int .i64 Pos_20) fun w =>
    LdS w ⟨p1, 0, none⟩ fun Tree_Nodes_21 =>
    LdI .i64 w ⟨p1, 1, none⟩ fun Tree_Root_22 =>
    LdI .i64 w ⟨p1, 2, none⟩ fun Tree_Err_23 =>
    LdI .i64 w ⟨p1, 3, none⟩ fun Tree_Pos_24 =>
    LdS w ⟨p1, 4, none⟩ fun Ty_25 =>
    LdS w ⟨p1, 5, none⟩ fun Ref_26 =>
    LdS w ⟨p1, 6, none⟩ fun Funcs_27 =>
    LdI .i64 w ⟨p1, 7, none⟩ fun Main_28 =>
    LdI .i64 w ⟨p1, 8, none⟩ fun Err_29 =>
    LdI .i64 w ⟨p1, 9, none⟩ fun Pos_30 =>
    K Tree_Nodes_21 Tree_Root_22 Tree_Err_23 Tree_Pos_24 Ty_25 Ref_26 Funcs_27 Main_28 Err_29 Pos_30 w)
  else
    S.check_Checker_clear c w (fun w =>
    LdS w ⟨p7, 0, none⟩ fun Nodes_31 =>
    St1 w ⟨c, 415, none⟩ (.slice Nodes_31.a Nodes_31.l Nodes_31.c) fun w =>
    LdS w ⟨p7, 0, none⟩ fun Nodes_32 =>
    MkS 3 [.int .i64 0] 8 w (Nodes_32.l : Int) (Nodes_32.l : Int) fun l33 w =>
    St1 w ⟨c, 416, none⟩ (.slice l33.a l33.l l33.c) fun w =>
    LdS w ⟨p7, 0, none⟩ fun Nodes_34 =>
    MkS 3 [.int .i64 0] 8 w (Nodes_34.l : Int) (Nodes_34.l : Int) fun l35 w =>
    St1 w ⟨c, 417, none⟩ (.slice l35.a l35.l l35.c) fun w =>
    Join (fun (w : World) =>
      New w (.cells #[.slice none 0 0, .int .i64 0, .int .i64 0, .int .i64 0, .slice none 0 0, .slice none 0 0, .slice none 0 0, .int .i64 0, .int .i64 0, .int .i64 0] 103) fun p36 w =>
      LdI .i64 w ⟨p7, 1, none⟩ fun Root_37 =>
      S.check_Checker_allHeads c Root_37 w (fun r38 w =>
      Join (fun (fine_39 : Bool) (w : World) =>
        Join (fun (fine_40 : Bool) (w : World) =>
          Join (fun (w : World) =>
            St1 w ⟨c, 415, none⟩ (.slice none 0 0) fun w =>
            St1 w ⟨c, 416, none⟩ (.slice none 0 0) fun w =>
            St1 w ⟨c, 417, none⟩ (.slice none 0 0) fun w =>
            LdS w ⟨p36, 0, none⟩ fun Tree_Nodes_41 =>
            LdI .i64 w ⟨p36, 1, none⟩ fun Tree_Root_42 =>
            LdI .i64 w ⟨p36, 2, none⟩ fun Tree_Err_43 =>
            LdI .i64 w ⟨p36, 3, none⟩ fun Tree_Pos_44 =>
            LdS w ⟨p36, 4, none⟩ fun Ty_45 =>
            LdS w ⟨p36, 5, none⟩ fun Ref_46 =>
            LdS w ⟨p36, 6, none⟩ fun Funcs_47 =>
            LdI .i64 w ⟨p36, 7, none⟩ fun Main_48 =>
            LdI .i64 w ⟨p36, 8, none⟩ fun Err_49 =>
            LdI .i64 w ⟨p36, 9, none⟩ fun Pos_50 =>
            St1 w ⟨p1, 0, none⟩ (.slice Tree_Nodes_41.a Tree_Nodes_41.l Tree_Nodes_41.c) fun w =>
            St1 w ⟨p1, 1, none⟩ (.int .i64 Tree_Root_42) fun w =>
            St1 w ⟨p1, 2, none⟩ (.int .i64 Tree_Err_43) fun w =>
            St1 w ⟨p1, 3, none⟩ (.int .i64 Tree_Pos_44) fun w =>
            St1 w ⟨p1, 4, none⟩ (.slice Ty_45.a Ty_45.l Ty_45.c) fun w =>
            St1 w ⟨p1, 5, none⟩ (.slice Ref_46.a Ref_46.l Ref_46.c) fun w =>
            St1 w ⟨p1, 6, none⟩ (.slice Funcs_47.a Funcs_47.l Funcs_47.c) fun w =>
            St1 w ⟨p1, 7, none⟩ (.int .i64 Main_48) fun w =>
            St1 w ⟨p1, 8, none⟩ (.int .i64 Err_49) fun w =>
            St1 w ⟨p1, 9, none⟩ (.int .i64 Pos_50) fun w =>
            LdS w ⟨p1, 0, none⟩ fun Tree_Nodes_51 =>
            LdI .i64 w ⟨p1, 1, none⟩ fun Tree_Root_52 =>
            LdI .i64 w ⟨p1, 2, none⟩ fun Tree_Err_53 =>
            LdI .i64 w ⟨p1, 3, none⟩ fun Tree_Pos_54 =>
            LdS w ⟨p1, 4, none⟩ fun Ty_55 =>
            LdS w ⟨p1, 5, none⟩ fun Ref_56 =>
            LdS w ⟨p1, 6, none⟩ fun Funcs_57 =>
            LdI .i64 w ⟨p1, 7, none⟩ fun Main_58 =>
            LdI .i64 w ⟨p1, 8, none⟩ fun Err_59 =>
            LdI .i64 w ⟨p1, 9, none⟩ fun Pos_60 =>
            K Tree_Nodes_51 Tree_Root_52 Tree_Err_53 Tree_Pos_54 Ty_55 Ref_56 Funcs_57 Main_58 Err_59 Pos_60 w) fun J61 =>
          if fine_40 = true then
            LdI .i64 w ⟨c, 325, none⟩ fun n_62 =>
            MkS 94 [.int .i64 0, .int .i64 0, .int .i64 0, .int .i64 0, .int .i64 0, .int .i64 0, .string ⟨#[]⟩] 64 w n_62 n_62 fun l63 w =>
            Join (fun (w : World) =>
              S.check_table_find c 165 ⟨#[109, 97, 105, 110]⟩ w (fun r64 w =>
              Drew w fun w =>
              LdS w ⟨p7, 0, none⟩ fun Nodes_65 =>
              LdI .i64 w ⟨p7, 1, none⟩ fun Root_66 =>
              LdI .i64 w ⟨p7, 2, none⟩ fun Err_67 =>
              LdI .i64 w ⟨p7, 3, none⟩ fun Pos_68 =>
              LdS w ⟨c, 416, none⟩ fun ty_69 =>
              LdS w ⟨c, 417, none⟩ fun ref_70 =>
              St1 w ⟨p36, 0, none⟩ (.slice Nodes_65.a Nodes_65.l Nodes_65.c) fun w =>
              St1 w ⟨p36, 1, none⟩ (.int .i64 Root_66) fun w =>
              St1 w ⟨p36, 2, none⟩ (.int .i64 Err_67) fun w =>
              St1 w ⟨p36, 3, none⟩ (.int .i64 Pos_68) fun w =>
              St1 w ⟨p36, 4, none⟩ (.slice ty_69.a ty_69.l ty_69.c) fun w =>
              St1 w ⟨p36, 5, none⟩ (.slice ref_70.a ref_70.l ref_70.c) fun w =>
              St1 w ⟨p36, 6, none⟩ (.slice l63.a l63.l l63.c) fun w =>
              St1 w ⟨p36, 7, none⟩ (.int .i64 r64) fun w =>
              St1 w ⟨p36, 8, none⟩ (.int .i64 0) fun w =>
              St1 w ⟨p36, 9, none⟩ (.int .i64 0) fun w =>
              J61 w)) fun J71 =>
            LoopP (σ := Int × Unit) (fun st72 w next73 =>
              LdI .i64 w ⟨c, 325, none⟩ fun n_74 =>
              if (decide (st72.1 < n_74)) = true then
                IxA 8 st72.1 <|
                LdI .i64 w ⟨c, 326 + Int.toNat st72.1 * 7, none⟩ fun Node_75 =>
                LdI .i64 w ⟨c, 326 + Int.toNat st72.1 * 7 + 1, none⟩ fun Ret_76 =>
                LdI .i64 w ⟨c, 326 + Int.toNat st72.1 * 7 + 2, none⟩ fun PI_77 =>
                LdI .i64 w ⟨c, 326 + Int.toNat st72.1 * 7 + 3, none⟩ fun PR_78 =>
                LdI .i64 w ⟨c, 326 + Int.toNat st72.1 * 7 + 4, none⟩ fun LI_79 =>
                LdI .i64 w ⟨c, 326 + Int.toNat st72.1 * 7 + 5, none⟩ fun LR_80 =>
                LdStr w ⟨c, 326 + Int.toNat st72.1 * 7 + 6, none⟩ fun Name_81 =>
                Ix l63.a l63.l st72.1 fun b82 o83 =>
                St1 w ⟨b82, o83 + Int.toNat st72.1 * 7, none⟩ (.int .i64 Node_75) fun w =>
                St1 w ⟨b82, o83 + Int.toNat st72.1 * 7 + 1, none⟩ (.int .i64 Ret_76) fun w =>
                St1 w ⟨b82, o83 + Int.toNat st72.1 * 7 + 2, none⟩ (.int .i64 PI_77) fun w =>
                St1 w ⟨b82, o83 + Int.toNat st72.1 * 7 + 3, none⟩ (.int .i64 PR_78) fun w =>
                St1 w ⟨b82, o83 + Int.toNat st72.1 * 7 + 4, none⟩ (.int .i64 LI_79) fun w =>
                St1 w ⟨b82, o83 + Int.toNat st72.1 * 7 + 5, none⟩ (.int .i64 LR_80) fun w =>
                St1 w ⟨b82, o83 + Int.toNat st72.1 * 7 + 6, none⟩ (.string Name_81) fun w =>
                Let (W (st72.1 + 1)) fun i_84 =>
                next73 (i_84, ()) w
              else
                J71 w) (0, ()) w
          else
            Drew w fun w =>
            LdI .i64 w ⟨c, 418, none⟩ fun err_85 =>
            LdI .i64 w ⟨c, 419, none⟩ fun pos_86 =>
            S.check_refused err_85 pos_86 w (fun Tree_Nodes_87 Tree_Root_88 Tree_Err_89 Tree_Pos_90 Ty_91 Ref_92 Funcs_93 Main_94 Err_95 Pos_96 w =>
            St1 w ⟨p36, 0, none⟩ (.slice Tree_Nodes_87.a Tree_Nodes_87.l Tree_Nodes_87.c) fun w =>
            St1 w ⟨p36, 1, none⟩ (.int .i64 Tree_Root_88) fun w =>
            St1 w ⟨p36, 2, none⟩ (.int .i64 Tree_Err_89) fun w =>
            St1 w ⟨p36, 3, none⟩ (.int .i64 Tree_Pos_90) fun w =>
            St1 w ⟨p36, 4, none⟩ (.slice Ty_91.a Ty_91.l Ty_91.c) fun w =>
            St1 w ⟨p36, 5, none⟩ (.slice Ref_92.a Ref_92.l Ref_92.c) fun w =>
            St1 w ⟨p36, 6, none⟩ (.slice Funcs_93.a Funcs_93.l Funcs_93.c) fun w =>
            St1 w ⟨p36, 7, none⟩ (.int .i64 Main_94) fun w =>
            St1 w ⟨p36, 8, none⟩ (.int .i64 Err_95) fun w =>
            St1 w ⟨p36, 9, none⟩ (.int .i64 Pos_96) fun w =>
            J61 w)) fun J97 =>
        if fine_39 = true then
          S.check_Checker_mainIsThere c (src.size : Int) w (fun r98 w =>
          J97 r98 w)
        else
          J97 fine_39 w) fun J99 =>
      if r38 = true then
        S.check_Checker_allBodies c w (fun r100 w =>
        J99 r100 w)
      else
        J99 r38 w)) fun J101 =>
    LoopP (σ := Int × Unit) (fun st102 w next103 =>
      LdS w ⟨p7, 0, none⟩ fun Nodes_104 =>
      if (decide (st102.1 < (Nodes_104.l : Int))) = true then
        LdS w ⟨c, 416, none⟩ fun ty_105 =>
        Ix ty_105.a ty_105.l st102.1 fun b106 o107 =>
        St1 w ⟨b106, o107 + Int.toNat st102.1 * 1, none⟩ (.int .i64 (-1)) fun w =>
        LdS w ⟨c, 417, none⟩ fun ref_108 =>
        Ix ref_108.a ref_108.l st102.1 fun b109 o110 =>
        St1 w ⟨b109, o110 + Int.toNat st102.1 * 1, none⟩ (.int .i64 (-1)) fun w =>
        Let (W (st102.1 + 1)) fun i_111 =>
        next103 (i_111, ()) w
      else
        J101 w) (0, ()) w))
def T.C37 : CallT := (CallT.cons 50 T.c50 (CallT.cons 51 T.c51 (CallT.cons 35 T.c35 (CallT.cons 52 T.c52 (CallT.cons 55 T.c55 (CallT.cons 54 T.c54 (CallT.cons 53 T.c53 CallT.nil)))))))
def T.A37 : Ann := fun i => bif Nat.beq i 9 then some ([0, 1, 4, 5], [(6, 0)]) else bif Nat.beq i 22 then some ([0, 4, 5, 7, 9], [(10, 0)]) else bif Nat.beq i 1000027 then some ([], [(0, 5), (4, 5), (7, 5)]) else none
set_option maxRecDepth 1000000 in
theorem T.eq37 (c : Nat) (src : ByteArray) (w : World) (K : Sl → Int → Int → Int → Sl → Sl → Sl → Int → Int → Int → World → Prop) : denF Tryz.prog T.C37 T.A37 Tryz.f37 [.pointer (some ⟨c, 0, none⟩), .string src] w (fun v w' => match v with | .agg ⟨[.slice r0a r0l r0c, .int .i64 r1, .int .i64 r2, .int .i64 r3, .slice r4a r4l r4c, .slice r5a r5l r5c, .slice r6a r6l r6c, .int .i64 r7, .int .i64 r8, .int .i64 r9]⟩ => K ⟨r0a, r0l, r0c⟩ r1 r2 r3 ⟨r4a, r4l, r4c⟩ ⟨r5a, r5l, r5c⟩ ⟨r6a, r6l, r6c⟩ r7 r8 r9 w' | _ => False) = S.check_Checker_Check c src w K := by kernel_rfl
theorem T.CO37 : CallOk Tryz.prog T.C37 := (CallOk.cons 50 T.ok50 (CallOk.cons 51 T.ok51 (CallOk.cons 35 T.ok35 (CallOk.cons 52 T.ok52 (CallOk.cons 55 T.ok55 (CallOk.cons 54 T.ok54 (CallOk.cons 53 T.ok53 CallOk.nil)))))))
def T.c37 (vs : List Value) (w : World) (K : Value → World → Prop) : Prop :=
  match vs with
  | [.pointer (some ⟨c, 0, none⟩), .string src] => S.check_Checker_Check c src w (fun r0 r1 r2 r3 r4 r5 r6 r7 r8 r9 w' => K (.agg #[.slice r0.a r0.l r0.c, .int .i64 r1, .int .i64 r2, .int .i64 r3, .slice r4.a r4.l r4.c, .slice r5.a r5.l r5.c, .slice r6.a r6.l r6.c, .int .i64 r7, .int .i64 r8, .int .i64 r9]) w')
  | _ => False
theorem T.ok37 : ∀ vs w K, T.c37 vs w K → (callFunc 37 vs.toArray).run Tryz.prog w = .ok (.enter 37 vs.toArray) w ∧ Calls Tryz.prog 37 vs.toArray w fun e w' => ∃ v, e = .returned v ∧ K v w' := by
  intro vs w K h
  unfold T.c37 at h
  split at h
  · refine ⟨Tryz.call37 _ _, ok_of T.CO37 mixed Tryz.func37 (T.eq37 _ _ _ _) h fun v w' hk => ⟨v, rfl, ?_⟩⟩
    split at hk
    · exact hk
    · exact hk.elim
  · exact h.elim

/-- (*e2e/gen.Engine).here (function 109). -/
def S.gen_Engine_here (g : Nat) (w : World) (K : Int → World → Prop) : Prop :=
  LdS w ⟨g, 12, none⟩ fun code_1 =>
  K (code_1.l : Int) w
def T.C109 : CallT := CallT.nil
def T.A109 : Ann := fun _ => none
set_option maxRecDepth 1000000 in
theorem T.eq109 (g : Nat) (w : World) (K : Int → World → Prop) : denF Tryz.prog T.C109 T.A109 Tryz.f109 [.pointer (some ⟨g, 0, none⟩)] w (fun v w' => match v with | .int .i64 r0 => K r0 w' | _ => False) = S.gen_Engine_here g w K := by kernel_rfl
theorem T.CO109 : CallOk Tryz.prog T.C109 := CallOk.nil
def T.c109 (vs : List Value) (w : World) (K : Value → World → Prop) : Prop :=
  match vs with
  | [.pointer (some ⟨g, 0, none⟩)] => S.gen_Engine_here g w (fun r0 w' => K (.int .i64 r0) w')
  | _ => False
theorem T.ok109 : ∀ vs w K, T.c109 vs w K → (callFunc 109 vs.toArray).run Tryz.prog w = .ok (.enter 109 vs.toArray) w ∧ Calls Tryz.prog 109 vs.toArray w fun e w' => ∃ v, e = .returned v ∧ K v w' := by
  intro vs w K h
  unfold T.c109 at h
  split at h
  · refine ⟨Tryz.call109 _ _, ok_of T.CO109 mixed Tryz.func109 (T.eq109 _ _ _) h fun v w' hk => ⟨v, rfl, ?_⟩⟩
    split at hk
    · exact hk
    · exact hk.elim
  · exact h.elim

/-- (*e2e/gen.Engine).node (function 110). -/
def S.gen_Engine_node (g : Nat) (x : Int) (w : World) (K : Int → Int → Int → Int → Int → Int → Int → ByteArray → World → Prop) : Prop :=
  New w (.cells #[.int .i64 0, .int .i64 0, .int .i64 0, .int .i64 0, .int .i64 0, .int .i64 0, .int .i64 0, .string ⟨#[]⟩] 150) fun p1 w =>
  LdS w ⟨g, 2, none⟩ fun Nodes_2 =>
  Ix Nodes_2.a Nodes_2.l x fun b3 o4 =>
  LdI .i64 w ⟨b3, o4 + Int.toNat x * 8, none⟩ fun Kind_5 =>
  LdI .i64 w ⟨b3, o4 + Int.toNat x * 8 + 1, none⟩ fun A_6 =>
  LdI .i64 w ⟨b3, o4 + Int.toNat x * 8 + 2, none⟩ fun B_7 =>
  LdI .i64 w ⟨b3, o4 + Int.toNat x * 8 + 3, none⟩ fun C_8 =>
  LdI .i64 w ⟨b3, o4 + Int.toNat x * 8 + 4, none⟩ fun Next_9 =>
  LdI .i64 w ⟨b3, o4 + Int.toNat x * 8 + 5, none⟩ fun Val_10 =>
  LdI .i64 w ⟨b3, o4 + Int.toNat x * 8 + 6, none⟩ fun Pos_11 =>
  LdStr w ⟨b3, o4 + Int.toNat x * 8 + 7, none⟩ fun Name_12 =>
  St1 w ⟨p1, 0, none⟩ (.int .i64 Kind_5) fun w =>
  St1 w ⟨p1, 1, none⟩ (.int .i64 A_6) fun w =>
  St1 w ⟨p1, 2, none⟩ (.int .i64 B_7) fun w =>
  St1 w ⟨p1, 3, none⟩ (.int .i64 C_8) fun w =>
  St1 w ⟨p1, 4, none⟩ (.int .i64 Next_9) fun w =>
  St1 w ⟨p1, 5, none⟩ (.int .i64 Val_10) fun w =>
  St1 w ⟨p1, 6, none⟩ (.int .i64 Pos_11) fun w =>
  St1 w ⟨p1, 7, none⟩ (.string Name_12) fun w =>
  LdI .i64 w ⟨p1, 0, none⟩ fun Kind_13 =>
  LdI .i64 w ⟨p1, 1, none⟩ fun A_14 =>
  LdI .i64 w ⟨p1, 2, none⟩ fun B_15 =>
  LdI .i64 w ⟨p1, 3, none⟩ fun C_16 =>
  LdI .i64 w ⟨p1, 4, none⟩ fun Next_17 =>
  LdI .i64 w ⟨p1, 5, none⟩ fun Val_18 =>
  LdI .i64 w ⟨p1, 6, none⟩ fun Pos_19 =>
  LdStr w ⟨p1, 7, none⟩ fun Name_20 =>
  K Kind_13 A_14 B_15 C_16 Next_17 Val_18 Pos_19 Name_20 w
def T.C110 : CallT := CallT.nil
def T.A110 : Ann := fun _ => none
set_option maxRecDepth 1000000 in
theorem T.eq110 (g : Nat) (x : Int) (w : World) (K : Int → Int → Int → Int → Int → Int → Int → ByteArray → World → Prop) : denF Tryz.prog T.C110 T.A110 Tryz.f110 [.pointer (some ⟨g, 0, none⟩), .int .i64 x] w (fun v w' => match v with | .agg ⟨[.int .i64 r0, .int .i64 r1, .int .i64 r2, .int .i64 r3, .int .i64 r4, .int .i64 r5, .int .i64 r6, .string r7]⟩ => K r0 r1 r2 r3 r4 r5 r6 r7 w' | _ => False) = S.gen_Engine_node g x w K := by kernel_rfl
theorem T.CO110 : CallOk Tryz.prog T.C110 := CallOk.nil
def T.c110 (vs : List Value) (w : World) (K : Value → World → Prop) : Prop :=
  match vs with
  | [.pointer (some ⟨g, 0, none⟩), .int .i64 x] => S.gen_Engine_node g x w (fun r0 r1 r2 r3 r4 r5 r6 r7 w' => K (.agg #[.int .i64 r0, .int .i64 r1, .int .i64 r2, .int .i64 r3, .int .i64 r4, .int .i64 r5, .int .i64 r6, .string r7]) w')
  | _ => False
theorem T.ok110 : ∀ vs w K, T.c110 vs w K → (callFunc 110 vs.toArray).run Tryz.prog w = .ok (.enter 110 vs.toArray) w ∧ Calls Tryz.prog 110 vs.toArray w fun e w' => ∃ v, e = .returned v ∧ K v w' := by
  intro vs w K h
  unfold T.c110 at h
  split at h
  · refine ⟨Tryz.call110 _ _, ok_of T.CO110 mixed Tryz.func110 (T.eq110 _ _ _ _) h fun v w' hk => ⟨v, rfl, ?_⟩⟩
    split at hk
    · exact hk
    · exact hk.elim
  · exact h.elim

/-- (*e2e/gen.Engine).op (function 112). -/
def S.gen_Engine_op (g : Nat) (o : Int) (w : World) (K : World → Prop) : Prop :=
  LdS w ⟨g, 12, none⟩ fun code_1 =>
  New w (.cells #[.int .u8 (U8 o)] 5) fun p2 w =>
  AppS 5 [.int .u8 0] 1 1 w code_1 ⟨some ⟨p2, 0, none⟩, 1, 1⟩ fun l3 w =>
  St1 w ⟨g, 12, none⟩ (.slice l3.a l3.l l3.c) fun w =>
  K w
def T.C112 : CallT := CallT.nil
def T.A112 : Ann := fun _ => none
set_option maxRecDepth 1000000 in
theorem T.eq112 (g : Nat) (o : Int) (w : World) (K : World → Prop) : denF Tryz.prog T.C112 T.A112 Tryz.f112 [.pointer (some ⟨g, 0, none⟩), .int .i64 o] w (fun v w' => match v with | .tuple ⟨[]⟩ => K w' | _ => False) = S.gen_Engine_op g o w K := by kernel_rfl
theorem T.CO112 : CallOk Tryz.prog T.C112 := CallOk.nil
def T.c112 (vs : List Value) (w : World) (K : Value → World → Prop) : Prop :=
  match vs with
  | [.pointer (some ⟨g, 0, none⟩), .int .i64 o] => S.gen_Engine_op g o w (fun w' => K (.tuple #[]) w')
  | _ => False
theorem T.ok112 : ∀ vs w K, T.c112 vs w K → (callFunc 112 vs.toArray).run Tryz.prog w = .ok (.enter 112 vs.toArray) w ∧ Calls Tryz.prog 112 vs.toArray w fun e w' => ∃ v, e = .returned v ∧ K v w' := by
  intro vs w K h
  unfold T.c112 at h
  split at h
  · refine ⟨Tryz.call112 _ _, ok_of T.CO112 mixed Tryz.func112 (T.eq112 _ _ _ _) h fun v w' hk => ⟨v, rfl, ?_⟩⟩
    split at hk
    · exact hk
    · exact hk.elim
  · exact h.elim

/-- e2e/api.AppendI64 (function 150). -/
def S.api_AppendI64 (code : Sl) (v : Int) (w : World) (K : Sl → World → Prop) : Prop :=
  Let (U64 v) fun u_1 =>
  LoopP (σ := Sl × Int × Int × Unit) (fun st2 w next3 =>
    if (decide (st2.2.2.1 < 8)) = true then
      New w (.cells #[.int .u8 (U8 st2.2.1)] 5) fun p4 w =>
      AppS 5 [.int .u8 0] 1 1 w st2.1 ⟨some ⟨p4, 0, none⟩, 1, 1⟩ fun l5 w =>
      Let (Shr .u64 st2.2.1 8) fun u_6 =>
      Let (W (st2.2.2.1 + 1)) fun i_7 =>
      next3 (l5, u_6, i_7, ()) w
    else
      K st2.1 w) (code, u_1, 0, ()) w
def T.C150 : CallT := CallT.nil
def T.A150 : Ann := fun i => bif Nat.beq i 3 then some ([], [(0, 6), (5, 2), (6, 0)]) else none
set_option maxRecDepth 1000000 in
theorem T.eq150 (code : Sl) (v : Int) (w : World) (K : Sl → World → Prop) : denF Tryz.prog T.C150 T.A150 Tryz.f150 [.slice code.a code.l code.c, .int .i64 v] w (fun v w' => match v with | .slice r0a r0l r0c => K ⟨r0a, r0l, r0c⟩ w' | _ => False) = S.api_AppendI64 code v w K := by kernel_rfl
theorem T.CO150 : CallOk Tryz.prog T.C150 := CallOk.nil
def T.c150 (vs : List Value) (w : World) (K : Value → World → Prop) : Prop :=
  match vs with
  | [.slice codea codel codec, .int .i64 v] => S.api_AppendI64 ⟨codea, codel, codec⟩ v w (fun r0 w' => K (.slice r0.a r0.l r0.c) w')
  | _ => False
theorem T.ok150 : ∀ vs w K, T.c150 vs w K → (callFunc 150 vs.toArray).run Tryz.prog w = .ok (.enter 150 vs.toArray) w ∧ Calls Tryz.prog 150 vs.toArray w fun e w' => ∃ v, e = .returned v ∧ K v w' := by
  intro vs w K h
  unfold T.c150 at h
  split at h
  · refine ⟨Tryz.call150 _ _, ok_of T.CO150 mixed Tryz.func150 (T.eq150 _ _ _ _) h fun v w' hk => ⟨v, rfl, ?_⟩⟩
    split at hk
    · exact hk
    · exact hk.elim
  · exact h.elim

/-- (*e2e/gen.Engine).num (function 113). -/
def S.gen_Engine_num (g : Nat) (v : Int) (w : World) (K : World → Prop) : Prop :=
  S.gen_Engine_op g 0 w (fun w =>
  LdS w ⟨g, 12, none⟩ fun code_1 =>
  S.api_AppendI64 code_1 v w (fun r2 w =>
  St1 w ⟨g, 12, none⟩ (.slice r2.a r2.l r2.c) fun w =>
  K w))
def T.C113 : CallT := (CallT.cons 112 T.c112 (CallT.cons 150 T.c150 CallT.nil))
def T.A113 : Ann := fun _ => none
set_option maxRecDepth 1000000 in
theorem T.eq113 (g : Nat) (v : Int) (w : World) (K : World → Prop) : denF Tryz.prog T.C113 T.A113 Tryz.f113 [.pointer (some ⟨g, 0, none⟩), .int .i64 v] w (fun v w' => match v with | .tuple ⟨[]⟩ => K w' | _ => False) = S.gen_Engine_num g v w K := by kernel_rfl
theorem T.CO113 : CallOk Tryz.prog T.C113 := (CallOk.cons 112 T.ok112 (CallOk.cons 150 T.ok150 CallOk.nil))
def T.c113 (vs : List Value) (w : World) (K : Value → World → Prop) : Prop :=
  match vs with
  | [.pointer (some ⟨g, 0, none⟩), .int .i64 v] => S.gen_Engine_num g v w (fun w' => K (.tuple #[]) w')
  | _ => False
theorem T.ok113 : ∀ vs w K, T.c113 vs w K → (callFunc 113 vs.toArray).run Tryz.prog w = .ok (.enter 113 vs.toArray) w ∧ Calls Tryz.prog 113 vs.toArray w fun e w' => ∃ v, e = .returned v ∧ K v w' := by
  intro vs w K h
  unfold T.c113 at h
  split at h
  · refine ⟨Tryz.call113 _ _, ok_of T.CO113 mixed Tryz.func113 (T.eq113 _ _ _ _) h fun v w' hk => ⟨v, rfl, ?_⟩⟩
    split at hk
    · exact hk
    · exact hk.elim
  · exact h.elim

/-- e2e/gen.Class (function 114). -/
def S.gen_class (ty : Int) (opI : Int) (opR : Int) (w : World) (K : Int → World → Prop) : Prop :=
  if (decide (ty ≥ 2)) = true then
    K opR w
  else
    K opI w
def T.C114 : CallT := CallT.nil
def T.A114 : Ann := fun _ => none
set_option maxRecDepth 1000000 in
theorem T.eq114 (ty : Int) (opI : Int) (opR : Int) (w : World) (K : Int → World → Prop) : denF Tryz.prog T.C114 T.A114 Tryz.f114 [.int .i64 ty, .int .i64 opI, .int .i64 opR] w (fun v w' => match v with | .int .i64 r0 => K r0 w' | _ => False) = S.gen_class ty opI opR w K := by kernel_rfl
theorem T.CO114 : CallOk Tryz.prog T.C114 := CallOk.nil
def T.c114 (vs : List Value) (w : World) (K : Value → World → Prop) : Prop :=
  match vs with
  | [.int .i64 ty, .int .i64 opI, .int .i64 opR] => S.gen_class ty opI opR w (fun r0 w' => K (.int .i64 r0) w')
  | _ => False
theorem T.ok114 : ∀ vs w K, T.c114 vs w K → (callFunc 114 vs.toArray).run Tryz.prog w = .ok (.enter 114 vs.toArray) w ∧ Calls Tryz.prog 114 vs.toArray w fun e w' => ∃ v, e = .returned v ∧ K v w' := by
  intro vs w K h
  unfold T.c114 at h
  split at h
  · refine ⟨Tryz.call114 _ _, ok_of T.CO114 mixed Tryz.func114 (T.eq114 _ _ _ _ _) h fun v w' hk => ⟨v, rfl, ?_⟩⟩
    split at hk
    · exact hk
    · exact hk.elim
  · exact h.elim

/-- (*e2e/gen.Engine).slot (function 222). -/
def S.gen_Engine_slot (g : Nat) (o : Int) (s_ : Int) (w : World) (K : World → Prop) : Prop :=
  LdS w ⟨g, 12, none⟩ fun code_1 =>
  New w (.cells #[.int .u8 (U8 o), .int .u8 (U8 s_)] 5) fun p2 w =>
  AppS 5 [.int .u8 0] 1 1 w code_1 ⟨some ⟨p2, 0, none⟩, 2, 2⟩ fun l3 w =>
  St1 w ⟨g, 12, none⟩ (.slice l3.a l3.l l3.c) fun w =>
  K w
def T.C222 : CallT := CallT.nil
def T.A222 : Ann := fun _ => none
set_option maxRecDepth 1000000 in
theorem T.eq222 (g : Nat) (o : Int) (s_ : Int) (w : World) (K : World → Prop) : denF Tryz.prog T.C222 T.A222 Tryz.f222 [.pointer (some ⟨g, 0, none⟩), .int .i64 o, .int .i64 s_] w (fun v w' => match v with | .tuple ⟨[]⟩ => K w' | _ => False) = S.gen_Engine_slot g o s_ w K := by kernel_rfl
theorem T.CO222 : CallOk Tryz.prog T.C222 := CallOk.nil
def T.c222 (vs : List Value) (w : World) (K : Value → World → Prop) : Prop :=
  match vs with
  | [.pointer (some ⟨g, 0, none⟩), .int .i64 o, .int .i64 s_] => S.gen_Engine_slot g o s_ w (fun w' => K (.tuple #[]) w')
  | _ => False
theorem T.ok222 : ∀ vs w K, T.c222 vs w K → (callFunc 222 vs.toArray).run Tryz.prog w = .ok (.enter 222 vs.toArray) w ∧ Calls Tryz.prog 222 vs.toArray w fun e w' => ∃ v, e = .returned v ∧ K v w' := by
  intro vs w K h
  unfold T.c222 at h
  split at h
  · refine ⟨Tryz.call222 _ _, ok_of T.CO222 mixed Tryz.func222 (T.eq222 _ _ _ _ _) h fun v w' hk => ⟨v, rfl, ?_⟩⟩
    split at hk
    · exact hk
    · exact hk.elim
  · exact h.elim

/-- e2e/api.AppendU16 (function 225). -/
def S.api_AppendU16 (code : Sl) (v : Int) (w : World) (K : Sl → World → Prop) : Prop :=
  New w (.cells #[.int .u8 (U8 v), .int .u8 (U8 (Shr .i64 v 8))] 5) fun p1 w =>
  AppS 5 [.int .u8 0] 1 1 w code ⟨some ⟨p1, 0, none⟩, 2, 2⟩ fun l2 w =>
  K l2 w
def T.C225 : CallT := CallT.nil
def T.A225 : Ann := fun _ => none
set_option maxRecDepth 1000000 in
theorem T.eq225 (code : Sl) (v : Int) (w : World) (K : Sl → World → Prop) : denF Tryz.prog T.C225 T.A225 Tryz.f225 [.slice code.a code.l code.c, .int .i64 v] w (fun v w' => match v with | .slice r0a r0l r0c => K ⟨r0a, r0l, r0c⟩ w' | _ => False) = S.api_AppendU16 code v w K := by kernel_rfl
theorem T.CO225 : CallOk Tryz.prog T.C225 := CallOk.nil
def T.c225 (vs : List Value) (w : World) (K : Value → World → Prop) : Prop :=
  match vs with
  | [.slice codea codel codec, .int .i64 v] => S.api_AppendU16 ⟨codea, codel, codec⟩ v w (fun r0 w' => K (.slice r0.a r0.l r0.c) w')
  | _ => False
theorem T.ok225 : ∀ vs w K, T.c225 vs w K → (callFunc 225 vs.toArray).run Tryz.prog w = .ok (.enter 225 vs.toArray) w ∧ Calls Tryz.prog 225 vs.toArray w fun e w' => ∃ v, e = .returned v ∧ K v w' := by
  intro vs w K h
  unfold T.c225 at h
  split at h
  · refine ⟨Tryz.call225 _ _, ok_of T.CO225 mixed Tryz.func225 (T.eq225 _ _ _ _) h fun v w' hk => ⟨v, rfl, ?_⟩⟩
    split at hk
    · exact hk
    · exact hk.elim
  · exact h.elim

/-- (*e2e/gen.Engine).call (function 224). -/
def S.gen_Engine_call (g : Nat) (fn : Int) (w : World) (K : World → Prop) : Prop :=
  S.gen_Engine_op g 24 w (fun w =>
  Drew w fun w =>
  Hold w ⟨g, 14, none⟩ 1 fun R1 =>
  LdS w ⟨g, 14, none⟩ fun calls_2 =>
  S.gen_Engine_here g w (fun r3 w =>
  After R1 w <|
  New w (.cells #[.int .i64 r3, .int .i64 fn] 144) fun p4 w =>
  After R1 w <|
  AppS 144 [.int .i64 0, .int .i64 0] 16 2 w calls_2 ⟨some ⟨p4, 0, none⟩, 1, 1⟩ fun l5 w =>
  St1 w ⟨g, 14, none⟩ (.slice l5.a l5.l l5.c) fun w =>
  LdS w ⟨g, 12, none⟩ fun code_6 =>
  S.api_AppendU16 code_6 0 w (fun r7 w =>
  St1 w ⟨g, 12, none⟩ (.slice r7.a r7.l r7.c) fun w =>
  K w)))
def T.C224 : CallT := (CallT.cons 112 T.c112 (CallT.cons 109 T.c109 (CallT.cons 225 T.c225 CallT.nil)))
def T.A224 : Ann := fun _ => none
set_option maxRecDepth 1000000 in
theorem T.eq224 (g : Nat) (fn : Int) (w : World) (K : World → Prop) : denF Tryz.prog T.C224 T.A224 Tryz.f224 [.pointer (some ⟨g, 0, none⟩), .int .i64 fn] w (fun v w' => match v with | .tuple ⟨[]⟩ => K w' | _ => False) = S.gen_Engine_call g fn w K := by kernel_rfl
theorem T.CO224 : CallOk Tryz.prog T.C224 := (CallOk.cons 112 T.ok112 (CallOk.cons 109 T.ok109 (CallOk.cons 225 T.ok225 CallOk.nil)))
def T.c224 (vs : List Value) (w : World) (K : Value → World → Prop) : Prop :=
  match vs with
  | [.pointer (some ⟨g, 0, none⟩), .int .i64 fn] => S.gen_Engine_call g fn w (fun w' => K (.tuple #[]) w')
  | _ => False
theorem T.ok224 : ∀ vs w K, T.c224 vs w K → (callFunc 224 vs.toArray).run Tryz.prog w = .ok (.enter 224 vs.toArray) w ∧ Calls Tryz.prog 224 vs.toArray w fun e w' => ∃ v, e = .returned v ∧ K v w' := by
  intro vs w K h
  unfold T.c224 at h
  split at h
  · refine ⟨Tryz.call224 _ _, ok_of T.CO224 mixed Tryz.func224 (T.eq224 _ _ _ _) h fun v w' hk => ⟨v, rfl, ?_⟩⟩
    split at hk
    · exact hk
    · exact hk.elim
  · exact h.elim

/-- e2e/gen.binOp (function 238). -/
def S.gen_binOp (tok : Int) (w : World) (K : Int → World → Prop) : Prop :=
  if (tok == 32) = true then
    K 8 w
  else
    if (tok == 33) = true then
      K 9 w
    else
      if (tok == 34) = true then
        K 10 w
      else
        if (tok == 35) = true then
          K 11 w
        else
          if (tok == 36) = true then
            K 12 w
          else
            if (tok == 26) = true then
              K 15 w
            else
              if (tok == 27) = true then
                K 16 w
              else
                if (tok == 28) = true then
                  K 17 w
                else
                  if (tok == 29) = true then
                    K 18 w
                  else
                    if (tok == 30) = true then
                      K 19 w
                    else
                      K 20 w
def T.C238 : CallT := CallT.nil
def T.A238 : Ann := fun i => bif Nat.beq i 1000020 then some ([], [(3, 0)]) else bif Nat.beq i 1000018 then some ([], [(3, 0)]) else bif Nat.beq i 1000016 then some ([], [(3, 0)]) else bif Nat.beq i 1000014 then some ([], [(3, 0)]) else bif Nat.beq i 1000012 then some ([], [(3, 0)]) else bif Nat.beq i 1000010 then some ([], [(3, 0)]) else bif Nat.beq i 1000008 then some ([], [(3, 0)]) else bif Nat.beq i 1000006 then some ([], [(3, 0)]) else bif Nat.beq i 1000004 then some ([], [(3, 0)]) else none
set_option maxRecDepth 1000000 in
theorem T.eq238 (tok : Int) (w : World) (K : Int → World → Prop) : denF Tryz.prog T.C238 T.A238 Tryz.f238 [.int .i64 tok] w (fun v w' => match v with | .int .i64 r0 => K r0 w' | _ => False) = S.gen_binOp tok w K := by kernel_rfl
theorem T.CO238 : CallOk Tryz.prog T.C238 := CallOk.nil
def T.c238 (vs : List Value) (w : World) (K : Value → World → Prop) : Prop :=
  match vs with
  | [.int .i64 tok] => S.gen_binOp tok w (fun r0 w' => K (.int .i64 r0) w')
  | _ => False
theorem T.ok238 : ∀ vs w K, T.c238 vs w K → (callFunc 238 vs.toArray).run Tryz.prog w = .ok (.enter 238 vs.toArray) w ∧ Calls Tryz.prog 238 vs.toArray w fun e w' => ∃ v, e = .returned v ∧ K v w' := by
  intro vs w K h
  unfold T.c238 at h
  split at h
  · refine ⟨Tryz.call238 _ _, ok_of T.CO238 mixed Tryz.func238 (T.eq238 _ _ _) h fun v w' hk => ⟨v, rfl, ?_⟩⟩
    split at hk
    · exact hk
    · exact hk.elim
  · exact h.elim

/-- (*e2e/gen.Engine).ahead (function 195). -/
def S.gen_Engine_ahead (g : Nat) (o : Int) (w : World) (K : World → Prop) : Prop :=
  S.gen_Engine_op g o w (fun w =>
  Drew w fun w =>
  Hold w ⟨g, 13, none⟩ 1 fun R1 =>
  LdS w ⟨g, 13, none⟩ fun holes_2 =>
  S.gen_Engine_here g w (fun r3 w =>
  After R1 w <|
  New w (.cells #[.int .i64 r3] 3) fun p4 w =>
  After R1 w <|
  AppS 3 [.int .i64 0] 8 1 w holes_2 ⟨some ⟨p4, 0, none⟩, 1, 1⟩ fun l5 w =>
  St1 w ⟨g, 13, none⟩ (.slice l5.a l5.l l5.c) fun w =>
  LdS w ⟨g, 12, none⟩ fun code_6 =>
  S.api_AppendU16 code_6 0 w (fun r7 w =>
  St1 w ⟨g, 12, none⟩ (.slice r7.a r7.l r7.c) fun w =>
  K w)))
def T.C195 : CallT := (CallT.cons 112 T.c112 (CallT.cons 109 T.c109 (CallT.cons 225 T.c225 CallT.nil)))
def T.A195 : Ann := fun _ => none
set_option maxRecDepth 1000000 in
theorem T.eq195 (g : Nat) (o : Int) (w : World) (K : World → Prop) : denF Tryz.prog T.C195 T.A195 Tryz.f195 [.pointer (some ⟨g, 0, none⟩), .int .i64 o] w (fun v w' => match v with | .tuple ⟨[]⟩ => K w' | _ => False) = S.gen_Engine_ahead g o w K := by kernel_rfl
theorem T.CO195 : CallOk Tryz.prog T.C195 := (CallOk.cons 112 T.ok112 (CallOk.cons 109 T.ok109 (CallOk.cons 225 T.ok225 CallOk.nil)))
def T.c195 (vs : List Value) (w : World) (K : Value → World → Prop) : Prop :=
  match vs with
  | [.pointer (some ⟨g, 0, none⟩), .int .i64 o] => S.gen_Engine_ahead g o w (fun w' => K (.tuple #[]) w')
  | _ => False
theorem T.ok195 : ∀ vs w K, T.c195 vs w K → (callFunc 195 vs.toArray).run Tryz.prog w = .ok (.enter 195 vs.toArray) w ∧ Calls Tryz.prog 195 vs.toArray w fun e w' => ∃ v, e = .returned v ∧ K v w' := by
  intro vs w K h
  unfold T.c195 at h
  split at h
  · refine ⟨Tryz.call195 _ _, ok_of T.CO195 mixed Tryz.func195 (T.eq195 _ _ _ _) h fun v w' hk => ⟨v, rfl, ?_⟩⟩
    split at hk
    · exact hk
    · exact hk.elim
  · exact h.elim

/-- (*e2e/gen.Engine).fill (function 57). -/
def S.gen_Engine_fill (g : Nat) (hole : Int) (to_ : Int) (w : World) (K : World → Prop) : Prop :=
  LdS w ⟨g, 12, none⟩ fun code_1 =>
  Ix code_1.a code_1.l hole fun b2 o3 =>
  St1 w ⟨b2, o3 + Int.toNat hole * 1, none⟩ (.int .u8 (U8 to_)) fun w =>
  LdS w ⟨g, 12, none⟩ fun code_4 =>
  Ix code_4.a code_4.l (W (hole + 1)) fun b5 o6 =>
  St1 w ⟨b5, o6 + Int.toNat (W (hole + 1)) * 1, none⟩ (.int .u8 (U8 (Shr .i64 to_ 8))) fun w =>
  K w
def T.C57 : CallT := CallT.nil
def T.A57 : Ann := fun _ => none
set_option maxRecDepth 1000000 in
theorem T.eq57 (g : Nat) (hole : Int) (to_ : Int) (w : World) (K : World → Prop) : denF Tryz.prog T.C57 T.A57 Tryz.f57 [.pointer (some ⟨g, 0, none⟩), .int .i64 hole, .int .i64 to_] w (fun v w' => match v with | .tuple ⟨[]⟩ => K w' | _ => False) = S.gen_Engine_fill g hole to_ w K := by kernel_rfl
theorem T.CO57 : CallOk Tryz.prog T.C57 := CallOk.nil
def T.c57 (vs : List Value) (w : World) (K : Value → World → Prop) : Prop :=
  match vs with
  | [.pointer (some ⟨g, 0, none⟩), .int .i64 hole, .int .i64 to_] => S.gen_Engine_fill g hole to_ w (fun w' => K (.tuple #[]) w')
  | _ => False
theorem T.ok57 : ∀ vs w K, T.c57 vs w K → (callFunc 57 vs.toArray).run Tryz.prog w = .ok (.enter 57 vs.toArray) w ∧ Calls Tryz.prog 57 vs.toArray w fun e w' => ∃ v, e = .returned v ∧ K v w' := by
  intro vs w K h
  unfold T.c57 at h
  split at h
  · refine ⟨Tryz.call57 _ _, ok_of T.CO57 mixed Tryz.func57 (T.eq57 _ _ _ _ _) h fun v w' hk => ⟨v, rfl, ?_⟩⟩
    split at hk
    · exact hk
    · exact hk.elim
  · exact h.elim

/-- (*e2e/gen.Engine).over (function 196). -/
def S.gen_Engine_over (g : Nat) (w : World) (K : World → Prop) : Prop :=
  S.gen_Engine_op g 21 w (fun w =>
  S.gen_Engine_here g w (fun r1 w =>
  LdS w ⟨g, 12, none⟩ fun code_2 =>
  S.api_AppendU16 code_2 0 w (fun r3 w =>
  St1 w ⟨g, 12, none⟩ (.slice r3.a r3.l r3.c) fun w =>
  LdS w ⟨g, 13, none⟩ fun holes_4 =>
  Let (W ((holes_4.l : Int) - 1)) fun k_5 =>
  S.gen_Engine_here g w (fun r6 w =>
  LdS w ⟨g, 13, none⟩ fun holes_7 =>
  Ix holes_7.a holes_7.l k_5 fun b8 o9 =>
  LdI .i64 w ⟨b8, o9 + Int.toNat k_5 * 1, none⟩ fun x_10 =>
  S.gen_Engine_fill g x_10 r6 w (fun w =>
  LdS w ⟨g, 13, none⟩ fun holes_11 =>
  Ix holes_11.a holes_11.l k_5 fun b12 o13 =>
  St1 w ⟨b12, o13 + Int.toNat k_5 * 1, none⟩ (.int .i64 r1) fun w =>
  K w)))))
def T.C196 : CallT := (CallT.cons 112 T.c112 (CallT.cons 109 T.c109 (CallT.cons 225 T.c225 (CallT.cons 57 T.c57 CallT.nil))))
def T.A196 : Ann := fun _ => none
set_option maxRecDepth 1000000 in
theorem T.eq196 (g : Nat) (w : World) (K : World → Prop) : denF Tryz.prog T.C196 T.A196 Tryz.f196 [.pointer (some ⟨g, 0, none⟩)] w (fun v w' => match v with | .tuple ⟨[]⟩ => K w' | _ => False) = S.gen_Engine_over g w K := by kernel_rfl
theorem T.CO196 : CallOk Tryz.prog T.C196 := (CallOk.cons 112 T.ok112 (CallOk.cons 109 T.ok109 (CallOk.cons 225 T.ok225 (CallOk.cons 57 T.ok57 CallOk.nil))))
def T.c196 (vs : List Value) (w : World) (K : Value → World → Prop) : Prop :=
  match vs with
  | [.pointer (some ⟨g, 0, none⟩)] => S.gen_Engine_over g w (fun w' => K (.tuple #[]) w')
  | _ => False
theorem T.ok196 : ∀ vs w K, T.c196 vs w K → (callFunc 196 vs.toArray).run Tryz.prog w = .ok (.enter 196 vs.toArray) w ∧ Calls Tryz.prog 196 vs.toArray w fun e w' => ∃ v, e = .returned v ∧ K v w' := by
  intro vs w K h
  unfold T.c196 at h
  split at h
  · refine ⟨Tryz.call196 _ _, ok_of T.CO196 mixed Tryz.func196 (T.eq196 _ _ _) h fun v w' hk => ⟨v, rfl, ?_⟩⟩
    split at hk
    · exact hk
    · exact hk.elim
  · exact h.elim

/-- (*e2e/gen.Engine).land (function 197). -/
def S.gen_Engine_land (g : Nat) (w : World) (K : World → Prop) : Prop :=
  LdS w ⟨g, 13, none⟩ fun holes_1 =>
  Let (W ((holes_1.l : Int) - 1)) fun k_2 =>
  S.gen_Engine_here g w (fun r3 w =>
  LdS w ⟨g, 13, none⟩ fun holes_4 =>
  Ix holes_4.a holes_4.l k_2 fun b5 o6 =>
  LdI .i64 w ⟨b5, o6 + Int.toNat k_2 * 1, none⟩ fun x_7 =>
  S.gen_Engine_fill g x_7 r3 w (fun w =>
  LdS w ⟨g, 13, none⟩ fun holes_8 =>
  CutS 1 holes_8 0 k_2 (holes_8.c : Int) fun l9 =>
  St1 w ⟨g, 13, none⟩ (.slice l9.a l9.l l9.c) fun w =>
  K w))
def T.C197 : CallT := (CallT.cons 109 T.c109 (CallT.cons 57 T.c57 CallT.nil))
def T.A197 : Ann := fun _ => none
set_option maxRecDepth 1000000 in
theorem T.eq197 (g : Nat) (w : World) (K : World → Prop) : denF Tryz.prog T.C197 T.A197 Tryz.f197 [.pointer (some ⟨g, 0, none⟩)] w (fun v w' => match v with | .tuple ⟨[]⟩ => K w' | _ => False) = S.gen_Engine_land g w K := by kernel_rfl
theorem T.CO197 : CallOk Tryz.prog T.C197 := (CallOk.cons 109 T.ok109 (CallOk.cons 57 T.ok57 CallOk.nil))
def T.c197 (vs : List Value) (w : World) (K : Value → World → Prop) : Prop :=
  match vs with
  | [.pointer (some ⟨g, 0, none⟩)] => S.gen_Engine_land g w (fun w' => K (.tuple #[]) w')
  | _ => False
theorem T.ok197 : ∀ vs w K, T.c197 vs w K → (callFunc 197 vs.toArray).run Tryz.prog w = .ok (.enter 197 vs.toArray) w ∧ Calls Tryz.prog 197 vs.toArray w fun e w' => ∃ v, e = .returned v ∧ K v w' := by
  intro vs w K h
  unfold T.c197 at h
  split at h
  · refine ⟨Tryz.call197 _ _, ok_of T.CO197 mixed Tryz.func197 (T.eq197 _ _ _) h fun v w' hk => ⟨v, rfl, ?_⟩⟩
    split at hk
    · exact hk
    · exact hk.elim
  · exact h.elim

/-- (*e2e/gen.Engine).expr (function 192): its body over the calls of its kin. -/
def B.gen_Engine_expr (R_gen_Engine_expr : Nat → Int → World → (World → Prop) → Prop) (R_gen_Engine_binary : Nat → Int → Int → Int → Int → Int → Int → Int → ByteArray → World → (World → Prop) → Prop) (R_gen_Engine_short : Nat → Int → Int → Int → World → (World → Prop) → Prop) (g : Nat) (x : Int) (w : World) (K : World → Prop) : Prop :=
  S.gen_Engine_node g x w (fun Kind_1 A_2 B_3 C_4 Next_5 Val_6 Pos_7 Name_8 w =>
  New w (.cells #[.int .i64 0, .int .i64 0, .int .i64 0, .int .i64 0, .int .i64 0, .int .i64 0, .int .i64 0, .string ⟨#[]⟩] 150) fun p9 w =>
  St1 w ⟨p9, 0, none⟩ (.int .i64 Kind_1) fun w =>
  St1 w ⟨p9, 1, none⟩ (.int .i64 A_2) fun w =>
  St1 w ⟨p9, 2, none⟩ (.int .i64 B_3) fun w =>
  St1 w ⟨p9, 3, none⟩ (.int .i64 C_4) fun w =>
  St1 w ⟨p9, 4, none⟩ (.int .i64 Next_5) fun w =>
  St1 w ⟨p9, 5, none⟩ (.int .i64 Val_6) fun w =>
  St1 w ⟨p9, 6, none⟩ (.int .i64 Pos_7) fun w =>
  St1 w ⟨p9, 7, none⟩ (.string Name_8) fun w =>
  LdI .i64 w ⟨p9, 0, none⟩ fun Kind_10 =>
  Join (fun (j_11 : Bool) (w : World) =>
    if j_11 = true then
      LdI .i64 w ⟨p9, 5, none⟩ fun Val_12 =>
      S.gen_Engine_num g Val_12 w (fun w =>
      K w)
    else
      if (Kind_10 == 12) = true then
        LdS w ⟨g, 6, none⟩ fun Ty_13 =>
        Ix Ty_13.a Ty_13.l x fun b14 o15 =>
        LdI .i64 w ⟨b14, o15 + Int.toNat x * 1, none⟩ fun x_16 =>
        S.gen_class x_16 2 4 w (fun r17 w =>
        LdS w ⟨g, 7, none⟩ fun Ref_18 =>
        Ix Ref_18.a Ref_18.l x fun b19 o20 =>
        LdI .i64 w ⟨b19, o20 + Int.toNat x * 1, none⟩ fun x_21 =>
        S.gen_Engine_slot g r17 x_21 w (fun w =>
        K w))
      else
        if (Kind_10 == 17) = true then
          S.gen_Engine_op g 36 w (fun w =>
          K w)
        else
          if (Kind_10 == 19) = true then
            LdI .i64 w ⟨p9, 1, none⟩ fun A_22 =>
            R_gen_Engine_expr g A_22 w (fun w =>
            LdI .i64 w ⟨p9, 5, none⟩ fun Val_23 =>
            if (Val_23 == 39) = true then
              S.gen_Engine_op g 14 w (fun w =>
              K w)
            else
              S.gen_Engine_op g 13 w (fun w =>
              K w))
          else
            if (Kind_10 == 18) = true then
              LdI .i64 w ⟨p9, 0, none⟩ fun Kind_24 =>
              LdI .i64 w ⟨p9, 1, none⟩ fun A_25 =>
              LdI .i64 w ⟨p9, 2, none⟩ fun B_26 =>
              LdI .i64 w ⟨p9, 3, none⟩ fun C_27 =>
              LdI .i64 w ⟨p9, 4, none⟩ fun Next_28 =>
              LdI .i64 w ⟨p9, 5, none⟩ fun Val_29 =>
              LdI .i64 w ⟨p9, 6, none⟩ fun Pos_30 =>
              LdStr w ⟨p9, 7, none⟩ fun Name_31 =>
              R_gen_Engine_binary g Kind_24 A_25 B_26 C_27 Next_28 Val_29 Pos_30 Name_31 w (fun w =>
              K w)
            else
              if (Kind_10 == 14) = true then
                LdI .i64 w ⟨p9, 1, none⟩ fun A_32 =>
                R_gen_Engine_expr g A_32 w (fun w =>
                LdI .i64 w ⟨p9, 2, none⟩ fun B_33 =>
                R_gen_Engine_expr g B_33 w (fun w =>
                LdS w ⟨g, 6, none⟩ fun Ty_34 =>
                Ix Ty_34.a Ty_34.l x fun b35 o36 =>
                LdI .i64 w ⟨b35, o36 + Int.toNat x * 1, none⟩ fun x_37 =>
                S.gen_class x_37 30 31 w (fun r38 w =>
                S.gen_Engine_op g r38 w (fun w =>
                K w))))
              else
                if (Kind_10 == 15) = true then
                  LdI .i64 w ⟨p9, 1, none⟩ fun A_39 =>
                  R_gen_Engine_expr g A_39 w (fun w =>
                  LdI .i64 w ⟨p9, 5, none⟩ fun Val_40 =>
                  S.gen_class (W (Val_40 - 2)) 28 29 w (fun r41 w =>
                  S.gen_Engine_op g r41 w (fun w =>
                  K w)))
                else
                  if (Kind_10 == 16) = true then
                    LdI .i64 w ⟨p9, 1, none⟩ fun A_42 =>
                    R_gen_Engine_expr g A_42 w (fun w =>
                    S.gen_Engine_op g 34 w (fun w =>
                    K w))
                  else
                    if (Kind_10 == 13) = true then
                      LdI .i64 w ⟨p9, 1, none⟩ fun A_43 =>
                      Join (fun (w : World) =>
                        LdS w ⟨g, 7, none⟩ fun Ref_44 =>
                        Ix Ref_44.a Ref_44.l x fun b45 o46 =>
                        LdI .i64 w ⟨b45, o46 + Int.toNat x * 1, none⟩ fun x_47 =>
                        S.gen_Engine_call g x_47 w (fun w =>
                        K w)) fun J48 =>
                      LoopP (σ := Int × Unit) (fun st49 w next50 =>
                        if (decide (st49.1 ≥ 0)) = true then
                          R_gen_Engine_expr g st49.1 w (fun w =>
                          S.gen_Engine_node g st49.1 w (fun Kind_51 A_52 B_53 C_54 Next_55 Val_56 Pos_57 Name_58 w =>
                          next50 (Next_55, ()) w))
                        else
                          J48 w) (A_43, ()) w
                    else
                      K w) fun J59 =>
  if (Kind_10 == 10) = true then
    J59 (Kind_10 == 10) w
  else
    J59 (Kind_10 == 11) w)
def T.r192 (R : Nat → Int → World → (World → Prop) → Prop) (vs : List Value) (w : World) (K : Value → World → Prop) : Prop :=
  match vs with
  | [.pointer (some ⟨g, 0, none⟩), .int .i64 x] => R g x w (fun w' => K (.tuple #[]) w')
  | _ => False
def T.A192 : Ann := fun i => bif Nat.beq i 31 then some ([0, 1], [(8, 0)]) else bif Nat.beq i 1000029 then some ([], [(0, 5), (1, 0), (4, 5), (13, 0)]) else bif Nat.beq i 1000026 then some ([], [(0, 5), (1, 0), (4, 5), (13, 0)]) else bif Nat.beq i 1000022 then some ([], [(0, 5), (1, 0), (4, 5), (13, 0)]) else bif Nat.beq i 1000017 then some ([], [(0, 5), (1, 0), (4, 5), (13, 0)]) else bif Nat.beq i 1000015 then some ([], [(0, 5), (1, 0), (4, 5), (13, 0)]) else bif Nat.beq i 1000010 then some ([], [(0, 5), (1, 0), (4, 5), (13, 0)]) else bif Nat.beq i 1000008 then some ([], [(0, 5), (1, 0), (4, 5), (13, 0)]) else bif Nat.beq i 1000005 then some ([], [(0, 5), (1, 0), (4, 5), (13, 0)]) else none
/-- (*e2e/gen.Engine).binary (function 223): its body over the calls of its kin. -/
def B.gen_Engine_binary (R_gen_Engine_expr : Nat → Int → World → (World → Prop) → Prop) (R_gen_Engine_binary : Nat → Int → Int → Int → Int → Int → Int → Int → ByteArray → World → (World → Prop) → Prop) (R_gen_Engine_short : Nat → Int → Int → Int → World → (World → Prop) → Prop) (g : Nat) (n_Kind : Int) (n_A : Int) (n_B : Int) (n_C : Int) (n_Next : Int) (n_Val : Int) (n_Pos : Int) (n_Name : ByteArray) (w : World) (K : World → Prop) : Prop :=
  New w (.cells #[.int .i64 n_Kind, .int .i64 n_A, .int .i64 n_B, .int .i64 n_C, .int .i64 n_Next, .int .i64 n_Val, .int .i64 n_Pos, .string n_Name] 150) fun p1 w =>
  LdI .i64 w ⟨p1, 1, none⟩ fun A_2 =>
  R_gen_Engine_expr g A_2 w (fun w =>
  LdI .i64 w ⟨p1, 5, none⟩ fun Val_3 =>
  if (Val_3 == 37) = true then
    LdI .i64 w ⟨p1, 2, none⟩ fun B_4 =>
    R_gen_Engine_short g B_4 22 0 w (fun w =>
    K w)
  else
    if (Val_3 == 38) = true then
      LdI .i64 w ⟨p1, 2, none⟩ fun B_5 =>
      R_gen_Engine_short g B_5 23 1 w (fun w =>
      K w)
    else
      LdI .i64 w ⟨p1, 2, none⟩ fun B_6 =>
      R_gen_Engine_expr g B_6 w (fun w =>
      LdI .i64 w ⟨p1, 5, none⟩ fun Val_7 =>
      S.gen_binOp Val_7 w (fun r8 w =>
      S.gen_Engine_op g r8 w (fun w =>
      K w))))
def T.r223 (R : Nat → Int → Int → Int → Int → Int → Int → Int → ByteArray → World → (World → Prop) → Prop) (vs : List Value) (w : World) (K : Value → World → Prop) : Prop :=
  match vs with
  | [.pointer (some ⟨g, 0, none⟩), .agg ⟨[.int .i64 n_Kind, .int .i64 n_A, .int .i64 n_B, .int .i64 n_C, .int .i64 n_Next, .int .i64 n_Val, .int .i64 n_Pos, .string n_Name]⟩] => R g n_Kind n_A n_B n_C n_Next n_Val n_Pos n_Name w (fun w' => K (.tuple #[]) w')
  | _ => False
def T.A223 : Ann := fun i => bif Nat.beq i 1000003 then some ([], [(0, 5), (3, 5)]) else bif Nat.beq i 1000008 then some ([], [(0, 5), (3, 5), (10, 0)]) else none
/-- (*e2e/gen.Engine).short (function 237): its body over the calls of its kin. -/
def B.gen_Engine_short (R_gen_Engine_expr : Nat → Int → World → (World → Prop) → Prop) (R_gen_Engine_binary : Nat → Int → Int → Int → Int → Int → Int → Int → ByteArray → World → (World → Prop) → Prop) (R_gen_Engine_short : Nat → Int → Int → Int → World → (World → Prop) → Prop) (g : Nat) (b : Int) (o : Int) (settled : Int) (w : World) (K : World → Prop) : Prop :=
  S.gen_Engine_ahead g o w (fun w =>
  R_gen_Engine_expr g b w (fun w =>
  S.gen_Engine_over g w (fun w =>
  S.gen_Engine_num g settled w (fun w =>
  S.gen_Engine_land g w (fun w =>
  K w)))))
def T.r237 (R : Nat → Int → Int → Int → World → (World → Prop) → Prop) (vs : List Value) (w : World) (K : Value → World → Prop) : Prop :=
  match vs with
  | [.pointer (some ⟨g, 0, none⟩), .int .i64 b, .int .i64 o, .int .i64 settled] => R g b o settled w (fun w' => K (.tuple #[]) w')
  | _ => False
def T.A237 : Ann := fun _ => none
def T.C192 (R_gen_Engine_expr : Nat → Int → World → (World → Prop) → Prop) (R_gen_Engine_binary : Nat → Int → Int → Int → Int → Int → Int → Int → ByteArray → World → (World → Prop) → Prop) (R_gen_Engine_short : Nat → Int → Int → Int → World → (World → Prop) → Prop) : CallT := (CallT.cons 110 T.c110 (CallT.cons 113 T.c113 (CallT.cons 114 T.c114 (CallT.cons 222 T.c222 (CallT.cons 112 T.c112 (CallT.cons 192 (T.r192 R_gen_Engine_expr) (CallT.cons 223 (T.r223 R_gen_Engine_binary) (CallT.cons 224 T.c224 CallT.nil))))))))
set_option maxRecDepth 1000000 in
theorem T.eq192 (R_gen_Engine_expr : Nat → Int → World → (World → Prop) → Prop) (R_gen_Engine_binary : Nat → Int → Int → Int → Int → Int → Int → Int → ByteArray → World → (World → Prop) → Prop) (R_gen_Engine_short : Nat → Int → Int → Int → World → (World → Prop) → Prop) (g : Nat) (x : Int) (w : World) (K : World → Prop) : denF Tryz.prog (T.C192 R_gen_Engine_expr R_gen_Engine_binary R_gen_Engine_short) T.A192 Tryz.f192 [.pointer (some ⟨g, 0, none⟩), .int .i64 x] w (fun v w' => match v with | .tuple ⟨[]⟩ => K w' | _ => False) = B.gen_Engine_expr R_gen_Engine_expr R_gen_Engine_binary R_gen_Engine_short g x w K := by kernel_rfl
def T.C223 (R_gen_Engine_expr : Nat → Int → World → (World → Prop) → Prop) (R_gen_Engine_binary : Nat → Int → Int → Int → Int → Int → Int → Int → ByteArray → World → (World → Prop) → Prop) (R_gen_Engine_short : Nat → Int → Int → Int → World → (World → Prop) → Prop) : CallT := (CallT.cons 192 (T.r192 R_gen_Engine_expr) (CallT.cons 237 (T.r237 R_gen_Engine_short) (CallT.cons 238 T.c238 (CallT.cons 112 T.c112 CallT.nil))))
set_option maxRecDepth 1000000 in
theorem T.eq223 (R_gen_Engine_expr : Nat → Int → World → (World → Prop) → Prop) (R_gen_Engine_binary : Nat → Int → Int → Int → Int → Int → Int → Int → ByteArray → World → (World → Prop) → Prop) (R_gen_Engine_short : Nat → Int → Int → Int → World → (World → Prop) → Prop) (g : Nat) (n_Kind : Int) (n_A : Int) (n_B : Int) (n_C : Int) (n_Next : Int) (n_Val : Int) (n_Pos : Int) (n_Name : ByteArray) (w : World) (K : World → Prop) : denF Tryz.prog (T.C223 R_gen_Engine_expr R_gen_Engine_binary R_gen_Engine_short) T.A223 Tryz.f223 [.pointer (some ⟨g, 0, none⟩), .agg #[.int .i64 n_Kind, .int .i64 n_A, .int .i64 n_B, .int .i64 n_C, .int .i64 n_Next, .int .i64 n_Val, .int .i64 n_Pos, .string n_Name]] w (fun v w' => match v with | .tuple ⟨[]⟩ => K w' | _ => False) = B.gen_Engine_binary R_gen_Engine_expr R_gen_Engine_binary R_gen_Engine_short g n_Kind n_A n_B n_C n_Next n_Val n_Pos n_Name w K := by kernel_rfl
def T.C237 (R_gen_Engine_expr : Nat → Int → World → (World → Prop) → Prop) (R_gen_Engine_binary : Nat → Int → Int → Int → Int → Int → Int → Int → ByteArray → World → (World → Prop) → Prop) (R_gen_Engine_short : Nat → Int → Int → Int → World → (World → Prop) → Prop) : CallT := (CallT.cons 195 T.c195 (CallT.cons 192 (T.r192 R_gen_Engine_expr) (CallT.cons 196 T.c196 (CallT.cons 113 T.c113 (CallT.cons 197 T.c197 CallT.nil)))))
set_option maxRecDepth 1000000 in
theorem T.eq237 (R_gen_Engine_expr : Nat → Int → World → (World → Prop) → Prop) (R_gen_Engine_binary : Nat → Int → Int → Int → Int → Int → Int → Int → ByteArray → World → (World → Prop) → Prop) (R_gen_Engine_short : Nat → Int → Int → Int → World → (World → Prop) → Prop) (g : Nat) (b : Int) (o : Int) (settled : Int) (w : World) (K : World → Prop) : denF Tryz.prog (T.C237 R_gen_Engine_expr R_gen_Engine_binary R_gen_Engine_short) T.A237 Tryz.f237 [.pointer (some ⟨g, 0, none⟩), .int .i64 b, .int .i64 o, .int .i64 settled] w (fun v w' => match v with | .tuple ⟨[]⟩ => K w' | _ => False) = B.gen_Engine_short R_gen_Engine_expr R_gen_Engine_binary R_gen_Engine_short g b o settled w K := by kernel_rfl
/-- The specifications hold of the bodies. -/
def T.G192 (P_gen_Engine_expr : Nat → Nat → Int → World → (World → Prop) → Prop) (P_gen_Engine_binary : Nat → Nat → Int → Int → Int → Int → Int → Int → Int → ByteArray → World → (World → Prop) → Prop) (P_gen_Engine_short : Nat → Nat → Int → Int → Int → World → (World → Prop) → Prop) : Prop :=
  (∀ (n : Nat) (g : Nat) (x : Int) (w : World) (K : World → Prop), P_gen_Engine_expr n g x w K → B.gen_Engine_expr (fun x0 x1 w K => ∃ m, m < n ∧ P_gen_Engine_expr m x0 x1 w K) (fun x0 x1 x2 x3 x4 x5 x6 x7 x8 w K => ∃ m, m < n ∧ P_gen_Engine_binary m x0 x1 x2 x3 x4 x5 x6 x7 x8 w K) (fun x0 x1 x2 x3 w K => ∃ m, m < n ∧ P_gen_Engine_short m x0 x1 x2 x3 w K) g x w K) ∧
  (∀ (n : Nat) (g : Nat) (n_Kind : Int) (n_A : Int) (n_B : Int) (n_C : Int) (n_Next : Int) (n_Val : Int) (n_Pos : Int) (n_Name : ByteArray) (w : World) (K : World → Prop), P_gen_Engine_binary n g n_Kind n_A n_B n_C n_Next n_Val n_Pos n_Name w K → B.gen_Engine_binary (fun x0 x1 w K => ∃ m, m < n ∧ P_gen_Engine_expr m x0 x1 w K) (fun x0 x1 x2 x3 x4 x5 x6 x7 x8 w K => ∃ m, m < n ∧ P_gen_Engine_binary m x0 x1 x2 x3 x4 x5 x6 x7 x8 w K) (fun x0 x1 x2 x3 w K => ∃ m, m < n ∧ P_gen_Engine_short m x0 x1 x2 x3 w K) g n_Kind n_A n_B n_C n_Next n_Val n_Pos n_Name w K) ∧
  (∀ (n : Nat) (g : Nat) (b : Int) (o : Int) (settled : Int) (w : World) (K : World → Prop), P_gen_Engine_short n g b o settled w K → B.gen_Engine_short (fun x0 x1 w K => ∃ m, m < n ∧ P_gen_Engine_expr m x0 x1 w K) (fun x0 x1 x2 x3 x4 x5 x6 x7 x8 w K => ∃ m, m < n ∧ P_gen_Engine_binary m x0 x1 x2 x3 x4 x5 x6 x7 x8 w K) (fun x0 x1 x2 x3 w K => ∃ m, m < n ∧ P_gen_Engine_short m x0 x1 x2 x3 w K) g b o settled w K)
/-- (*e2e/gen.Engine).expr (function 192). -/
def S.gen_Engine_expr (g : Nat) (x : Int) (w : World) (K : World → Prop) : Prop :=
  ∃ (P_gen_Engine_expr : Nat → Nat → Int → World → (World → Prop) → Prop) (P_gen_Engine_binary : Nat → Nat → Int → Int → Int → Int → Int → Int → Int → ByteArray → World → (World → Prop) → Prop) (P_gen_Engine_short : Nat → Nat → Int → Int → Int → World → (World → Prop) → Prop), T.G192 P_gen_Engine_expr P_gen_Engine_binary P_gen_Engine_short ∧ ∃ n, P_gen_Engine_expr n g x w K
def T.c192 (vs : List Value) (w : World) (K : Value → World → Prop) : Prop :=
  match vs with
  | [.pointer (some ⟨g, 0, none⟩), .int .i64 x] => S.gen_Engine_expr g x w (fun w' => K (.tuple #[]) w')
  | _ => False
/-- (*e2e/gen.Engine).binary (function 223). -/
def S.gen_Engine_binary (g : Nat) (n_Kind : Int) (n_A : Int) (n_B : Int) (n_C : Int) (n_Next : Int) (n_Val : Int) (n_Pos : Int) (n_Name : ByteArray) (w : World) (K : World → Prop) : Prop :=
  ∃ (P_gen_Engine_expr : Nat → Nat → Int → World → (World → Prop) → Prop) (P_gen_Engine_binary : Nat → Nat → Int → Int → Int → Int → Int → Int → Int → ByteArray → World → (World → Prop) → Prop) (P_gen_Engine_short : Nat → Nat → Int → Int → Int → World → (World → Prop) → Prop), T.G192 P_gen_Engine_expr P_gen_Engine_binary P_gen_Engine_short ∧ ∃ n, P_gen_Engine_binary n g n_Kind n_A n_B n_C n_Next n_Val n_Pos n_Name w K
def T.c223 (vs : List Value) (w : World) (K : Value → World → Prop) : Prop :=
  match vs with
  | [.pointer (some ⟨g, 0, none⟩), .agg ⟨[.int .i64 n_Kind, .int .i64 n_A, .int .i64 n_B, .int .i64 n_C, .int .i64 n_Next, .int .i64 n_Val, .int .i64 n_Pos, .string n_Name]⟩] => S.gen_Engine_binary g n_Kind n_A n_B n_C n_Next n_Val n_Pos n_Name w (fun w' => K (.tuple #[]) w')
  | _ => False
/-- (*e2e/gen.Engine).short (function 237). -/
def S.gen_Engine_short (g : Nat) (b : Int) (o : Int) (settled : Int) (w : World) (K : World → Prop) : Prop :=
  ∃ (P_gen_Engine_expr : Nat → Nat → Int → World → (World → Prop) → Prop) (P_gen_Engine_binary : Nat → Nat → Int → Int → Int → Int → Int → Int → Int → ByteArray → World → (World → Prop) → Prop) (P_gen_Engine_short : Nat → Nat → Int → Int → Int → World → (World → Prop) → Prop), T.G192 P_gen_Engine_expr P_gen_Engine_binary P_gen_Engine_short ∧ ∃ n, P_gen_Engine_short n g b o settled w K
def T.c237 (vs : List Value) (w : World) (K : Value → World → Prop) : Prop :=
  match vs with
  | [.pointer (some ⟨g, 0, none⟩), .int .i64 b, .int .i64 o, .int .i64 settled] => S.gen_Engine_short g b o settled w (fun w' => K (.tuple #[]) w')
  | _ => False
theorem T.all192 (P_gen_Engine_expr : Nat → Nat → Int → World → (World → Prop) → Prop) (P_gen_Engine_binary : Nat → Nat → Int → Int → Int → Int → Int → Int → Int → ByteArray → World → (World → Prop) → Prop) (P_gen_Engine_short : Nat → Nat → Int → Int → Int → World → (World → Prop) → Prop) (h : T.G192 P_gen_Engine_expr P_gen_Engine_binary P_gen_Engine_short) : ∀ n, (∀ vs w K, T.r192 (P_gen_Engine_expr n) vs w K → (callFunc 192 vs.toArray).run Tryz.prog w = .ok (.enter 192 vs.toArray) w ∧ Calls Tryz.prog 192 vs.toArray w fun e w' => ∃ v, e = .returned v ∧ K v w') ∧ (∀ vs w K, T.r223 (P_gen_Engine_binary n) vs w K → (callFunc 223 vs.toArray).run Tryz.prog w = .ok (.enter 223 vs.toArray) w ∧ Calls Tryz.prog 223 vs.toArray w fun e w' => ∃ v, e = .returned v ∧ K v w') ∧ (∀ vs w K, T.r237 (P_gen_Engine_short n) vs w K → (callFunc 237 vs.toArray).run Tryz.prog w = .ok (.enter 237 vs.toArray) w ∧ Calls Tryz.prog 237 vs.toArray w fun e w' => ∃ v, e = .returned v ∧ K v w') := by
  intro n
  induction n using Nat.strongRecOn with
  | _ n ih =>
    obtain ⟨g192, g223, g237⟩ := h
    have k192 : (∀ vs w K, T.r192 (fun x0 x1 w K => ∃ m, m < n ∧ P_gen_Engine_expr m x0 x1 w K) vs w K → (callFunc 192 vs.toArray).run Tryz.prog w = .ok (.enter 192 vs.toArray) w ∧ Calls Tryz.prog 192 vs.toArray w fun e w' => ∃ v, e = .returned v ∧ K v w') := by
      intro vs w K hk
      unfold T.r192 at hk
      split at hk
      · obtain ⟨m, hm, hp⟩ := hk
        exact (ih m hm).1 _ w K hp
      · exact hk.elim
    have k223 : (∀ vs w K, T.r223 (fun x0 x1 x2 x3 x4 x5 x6 x7 x8 w K => ∃ m, m < n ∧ P_gen_Engine_binary m x0 x1 x2 x3 x4 x5 x6 x7 x8 w K) vs w K → (callFunc 223 vs.toArray).run Tryz.prog w = .ok (.enter 223 vs.toArray) w ∧ Calls Tryz.prog 223 vs.toArray w fun e w' => ∃ v, e = .returned v ∧ K v w') := by
      intro vs w K hk
      unfold T.r223 at hk
      split at hk
      · obtain ⟨m, hm, hp⟩ := hk
        exact (ih m hm).2.1 _ w K hp
      · exact hk.elim
    have k237 : (∀ vs w K, T.r237 (fun x0 x1 x2 x3 w K => ∃ m, m < n ∧ P_gen_Engine_short m x0 x1 x2 x3 w K) vs w K → (callFunc 237 vs.toArray).run Tryz.prog w = .ok (.enter 237 vs.toArray) w ∧ Calls Tryz.prog 237 vs.toArray w fun e w' => ∃ v, e = .returned v ∧ K v w') := by
      intro vs w K hk
      unfold T.r237 at hk
      split at hk
      · obtain ⟨m, hm, hp⟩ := hk
        exact (ih m hm).2.2 _ w K hp
      · exact hk.elim
    refine ⟨?_, ?_, ?_⟩
    · intro vs w K hk
      unfold T.r192 at hk
      split at hk
      · have hb := g192 _ _ _ _ _ hk
        have hco : CallOk Tryz.prog (T.C192 (fun x0 x1 w K => ∃ m, m < n ∧ P_gen_Engine_expr m x0 x1 w K) (fun x0 x1 x2 x3 x4 x5 x6 x7 x8 w K => ∃ m, m < n ∧ P_gen_Engine_binary m x0 x1 x2 x3 x4 x5 x6 x7 x8 w K) (fun x0 x1 x2 x3 w K => ∃ m, m < n ∧ P_gen_Engine_short m x0 x1 x2 x3 w K)) := (CallOk.cons 110 T.ok110 (CallOk.cons 113 T.ok113 (CallOk.cons 114 T.ok114 (CallOk.cons 222 T.ok222 (CallOk.cons 112 T.ok112 (CallOk.cons 192 k192 (CallOk.cons 223 k223 (CallOk.cons 224 T.ok224 CallOk.nil))))))))
        refine ⟨Tryz.call192 _ _, ok_of hco mixed Tryz.func192 (T.eq192 _ _ _ _ _ _ _) hb fun v w' hk => ⟨v, rfl, ?_⟩⟩
        split at hk
        · exact hk
        · exact hk.elim
      · exact hk.elim
    · intro vs w K hk
      unfold T.r223 at hk
      split at hk
      · have hb := g223 _ _ _ _ _ _ _ _ _ _ _ _ hk
        have hco : CallOk Tryz.prog (T.C223 (fun x0 x1 w K => ∃ m, m < n ∧ P_gen_Engine_expr m x0 x1 w K) (fun x0 x1 x2 x3 x4 x5 x6 x7 x8 w K => ∃ m, m < n ∧ P_gen_Engine_binary m x0 x1 x2 x3 x4 x5 x6 x7 x8 w K) (fun x0 x1 x2 x3 w K => ∃ m, m < n ∧ P_gen_Engine_short m x0 x1 x2 x3 w K)) := (CallOk.cons 192 k192 (CallOk.cons 237 k237 (CallOk.cons 238 T.ok238 (CallOk.cons 112 T.ok112 CallOk.nil))))
        refine ⟨Tryz.call223 _ _, ok_of hco mixed Tryz.func223 (T.eq223 _ _ _ _ _ _ _ _ _ _ _ _ _ _) hb fun v w' hk => ⟨v, rfl, ?_⟩⟩
        split at hk
        · exact hk
        · exact hk.elim
      · exact hk.elim
    · intro vs w K hk
      unfold T.r237 at hk
      split at hk
      · have hb := g237 _ _ _ _ _ _ _ hk
        have hco : CallOk Tryz.prog (T.C237 (fun x0 x1 w K => ∃ m, m < n ∧ P_gen_Engine_expr m x0 x1 w K) (fun x0 x1 x2 x3 x4 x5 x6 x7 x8 w K => ∃ m, m < n ∧ P_gen_Engine_binary m x0 x1 x2 x3 x4 x5 x6 x7 x8 w K) (fun x0 x1 x2 x3 w K => ∃ m, m < n ∧ P_gen_Engine_short m x0 x1 x2 x3 w K)) := (CallOk.cons 195 T.ok195 (CallOk.cons 192 k192 (CallOk.cons 196 T.ok196 (CallOk.cons 113 T.ok113 (CallOk.cons 197 T.ok197 CallOk.nil)))))
        refine ⟨Tryz.call237 _ _, ok_of hco mixed Tryz.func237 (T.eq237 _ _ _ _ _ _ _ _ _) hb fun v w' hk => ⟨v, rfl, ?_⟩⟩
        split at hk
        · exact hk
        · exact hk.elim
      · exact hk.elim
theorem T.ok192 : ∀ vs w K, T.c192 vs w K → (callFunc 192 vs.toArray).run Tryz.prog w = .ok (.enter 192 vs.toArray) w ∧ Calls Tryz.prog 192 vs.toArray w fun e w' => ∃ v, e = .returned v ∧ K v w' := by
  intro vs w K h
  unfold T.c192 at h
  split at h
  · obtain ⟨P192, P223, P237, hg, m, hp⟩ := h
    exact (T.all192 P192 P223 P237 hg m).1 _ w K hp
  · exact h.elim
theorem T.ok223 : ∀ vs w K, T.c223 vs w K → (callFunc 223 vs.toArray).run Tryz.prog w = .ok (.enter 223 vs.toArray) w ∧ Calls Tryz.prog 223 vs.toArray w fun e w' => ∃ v, e = .returned v ∧ K v w' := by
  intro vs w K h
  unfold T.c223 at h
  split at h
  · obtain ⟨P192, P223, P237, hg, m, hp⟩ := h
    exact (T.all192 P192 P223 P237 hg m).2.1 _ w K hp
  · exact h.elim
theorem T.ok237 : ∀ vs w K, T.c237 vs w K → (callFunc 237 vs.toArray).run Tryz.prog w = .ok (.enter 237 vs.toArray) w ∧ Calls Tryz.prog 237 vs.toArray w fun e w' => ∃ v, e = .returned v ∧ K v w' := by
  intro vs w K h
  unfold T.c237 at h
  split at h
  · obtain ⟨P192, P223, P237, hg, m, hp⟩ := h
    exact (T.all192 P192 P223 P237 hg m).2.2 _ w K hp
  · exact h.elim

/-- (*e2e/gen.Engine).store (function 193). -/
def S.gen_Engine_store (g : Nat) (x : Int) (ty : Int) (w : World) (K : World → Prop) : Prop :=
  S.gen_class ty 3 5 w (fun r1 w =>
  LdS w ⟨g, 7, none⟩ fun Ref_2 =>
  Ix Ref_2.a Ref_2.l x fun b3 o4 =>
  LdI .i64 w ⟨b3, o4 + Int.toNat x * 1, none⟩ fun x_5 =>
  S.gen_Engine_slot g r1 x_5 w (fun w =>
  K w))
def T.C193 : CallT := (CallT.cons 114 T.c114 (CallT.cons 222 T.c222 CallT.nil))
def T.A193 : Ann := fun _ => none
set_option maxRecDepth 1000000 in
theorem T.eq193 (g : Nat) (x : Int) (ty : Int) (w : World) (K : World → Prop) : denF Tryz.prog T.C193 T.A193 Tryz.f193 [.pointer (some ⟨g, 0, none⟩), .int .i64 x, .int .i64 ty] w (fun v w' => match v with | .tuple ⟨[]⟩ => K w' | _ => False) = S.gen_Engine_store g x ty w K := by kernel_rfl
theorem T.CO193 : CallOk Tryz.prog T.C193 := (CallOk.cons 114 T.ok114 (CallOk.cons 222 T.ok222 CallOk.nil))
def T.c193 (vs : List Value) (w : World) (K : Value → World → Prop) : Prop :=
  match vs with
  | [.pointer (some ⟨g, 0, none⟩), .int .i64 x, .int .i64 ty] => S.gen_Engine_store g x ty w (fun w' => K (.tuple #[]) w')
  | _ => False
theorem T.ok193 : ∀ vs w K, T.c193 vs w K → (callFunc 193 vs.toArray).run Tryz.prog w = .ok (.enter 193 vs.toArray) w ∧ Calls Tryz.prog 193 vs.toArray w fun e w' => ∃ v, e = .returned v ∧ K v w' := by
  intro vs w K h
  unfold T.c193 at h
  split at h
  · refine ⟨Tryz.call193 _ _, ok_of T.CO193 mixed Tryz.func193 (T.eq193 _ _ _ _ _) h fun v w' hk => ⟨v, rfl, ?_⟩⟩
    split at hk
    · exact hk
    · exact hk.elim
  · exact h.elim

/-- (*e2e/gen.Engine).assign (function 194). -/
def S.gen_Engine_assign (g : Nat) (n_Kind : Int) (n_A : Int) (n_B : Int) (n_C : Int) (n_Next : Int) (n_Val : Int) (n_Pos : Int) (n_Name : ByteArray) (w : World) (K : World → Prop) : Prop :=
  New w (.cells #[.int .i64 n_Kind, .int .i64 n_A, .int .i64 n_B, .int .i64 n_C, .int .i64 n_Next, .int .i64 n_Val, .int .i64 n_Pos, .string n_Name] 150) fun p1 w =>
  LdI .i64 w ⟨p1, 1, none⟩ fun A_2 =>
  S.gen_Engine_node g A_2 w (fun Kind_3 A_4 B_5 C_6 Next_7 Val_8 Pos_9 Name_10 w =>
  New w (.cells #[.int .i64 0, .int .i64 0, .int .i64 0, .int .i64 0, .int .i64 0, .int .i64 0, .int .i64 0, .string ⟨#[]⟩] 150) fun p11 w =>
  St1 w ⟨p11, 0, none⟩ (.int .i64 Kind_3) fun w =>
  St1 w ⟨p11, 1, none⟩ (.int .i64 A_4) fun w =>
  St1 w ⟨p11, 2, none⟩ (.int .i64 B_5) fun w =>
  St1 w ⟨p11, 3, none⟩ (.int .i64 C_6) fun w =>
  St1 w ⟨p11, 4, none⟩ (.int .i64 Next_7) fun w =>
  St1 w ⟨p11, 5, none⟩ (.int .i64 Val_8) fun w =>
  St1 w ⟨p11, 6, none⟩ (.int .i64 Pos_9) fun w =>
  St1 w ⟨p11, 7, none⟩ (.string Name_10) fun w =>
  LdI .i64 w ⟨p11, 0, none⟩ fun Kind_12 =>
  if (Kind_12 == 12) = true then
    LdI .i64 w ⟨p1, 2, none⟩ fun B_13 =>
    S.gen_Engine_expr g B_13 w (fun w =>
    Drew w fun w =>
    LdI .i64 w ⟨p1, 1, none⟩ fun A_14 =>
    LdS w ⟨g, 6, none⟩ fun Ty_15 =>
    LdI .i64 w ⟨p1, 1, none⟩ fun A_16 =>
    Ix Ty_15.a Ty_15.l A_16 fun b17 o18 =>
    LdI .i64 w ⟨b17, o18 + Int.toNat A_16 * 1, none⟩ fun x_19 =>
    S.gen_Engine_store g A_14 x_19 w (fun w =>
    K w))
  else
    LdI .i64 w ⟨p11, 1, none⟩ fun A_20 =>
    S.gen_Engine_expr g A_20 w (fun w =>
    LdI .i64 w ⟨p11, 2, none⟩ fun B_21 =>
    S.gen_Engine_expr g B_21 w (fun w =>
    LdI .i64 w ⟨p1, 2, none⟩ fun B_22 =>
    S.gen_Engine_expr g B_22 w (fun w =>
    Drew w fun w =>
    LdS w ⟨g, 6, none⟩ fun Ty_23 =>
    LdI .i64 w ⟨p1, 2, none⟩ fun B_24 =>
    Ix Ty_23.a Ty_23.l B_24 fun b25 o26 =>
    LdI .i64 w ⟨b25, o26 + Int.toNat B_24 * 1, none⟩ fun x_27 =>
    S.gen_class x_27 32 33 w (fun r28 w =>
    S.gen_Engine_op g r28 w (fun w =>
    K w))))))
def T.C194 : CallT := (CallT.cons 110 T.c110 (CallT.cons 192 T.c192 (CallT.cons 193 T.c193 (CallT.cons 114 T.c114 (CallT.cons 112 T.c112 CallT.nil)))))
def T.A194 : Ann := fun _ => none
set_option maxRecDepth 1000000 in
theorem T.eq194 (g : Nat) (n_Kind : Int) (n_A : Int) (n_B : Int) (n_C : Int) (n_Next : Int) (n_Val : Int) (n_Pos : Int) (n_Name : ByteArray) (w : World) (K : World → Prop) : denF Tryz.prog T.C194 T.A194 Tryz.f194 [.pointer (some ⟨g, 0, none⟩), .agg #[.int .i64 n_Kind, .int .i64 n_A, .int .i64 n_B, .int .i64 n_C, .int .i64 n_Next, .int .i64 n_Val, .int .i64 n_Pos, .string n_Name]] w (fun v w' => match v with | .tuple ⟨[]⟩ => K w' | _ => False) = S.gen_Engine_assign g n_Kind n_A n_B n_C n_Next n_Val n_Pos n_Name w K := by kernel_rfl
theorem T.CO194 : CallOk Tryz.prog T.C194 := (CallOk.cons 110 T.ok110 (CallOk.cons 192 T.ok192 (CallOk.cons 193 T.ok193 (CallOk.cons 114 T.ok114 (CallOk.cons 112 T.ok112 CallOk.nil)))))
def T.c194 (vs : List Value) (w : World) (K : Value → World → Prop) : Prop :=
  match vs with
  | [.pointer (some ⟨g, 0, none⟩), .agg ⟨[.int .i64 n_Kind, .int .i64 n_A, .int .i64 n_B, .int .i64 n_C, .int .i64 n_Next, .int .i64 n_Val, .int .i64 n_Pos, .string n_Name]⟩] => S.gen_Engine_assign g n_Kind n_A n_B n_C n_Next n_Val n_Pos n_Name w (fun w' => K (.tuple #[]) w')
  | _ => False
theorem T.ok194 : ∀ vs w K, T.c194 vs w K → (callFunc 194 vs.toArray).run Tryz.prog w = .ok (.enter 194 vs.toArray) w ∧ Calls Tryz.prog 194 vs.toArray w fun e w' => ∃ v, e = .returned v ∧ K v w' := by
  intro vs w K h
  unfold T.c194 at h
  split at h
  · refine ⟨Tryz.call194 _ _, ok_of T.CO194 mixed Tryz.func194 (T.eq194 _ _ _ _ _ _ _ _ _ _ _) h fun v w' hk => ⟨v, rfl, ?_⟩⟩
    split at hk
    · exact hk
    · exact hk.elim
  · exact h.elim

/-- (*e2e/gen.Engine).back (function 198). -/
def S.gen_Engine_back (g : Nat) (o : Int) (to_ : Int) (w : World) (K : World → Prop) : Prop :=
  S.gen_Engine_op g o w (fun w =>
  LdS w ⟨g, 12, none⟩ fun code_1 =>
  S.api_AppendU16 code_1 to_ w (fun r2 w =>
  St1 w ⟨g, 12, none⟩ (.slice r2.a r2.l r2.c) fun w =>
  K w))
def T.C198 : CallT := (CallT.cons 112 T.c112 (CallT.cons 225 T.c225 CallT.nil))
def T.A198 : Ann := fun _ => none
set_option maxRecDepth 1000000 in
theorem T.eq198 (g : Nat) (o : Int) (to_ : Int) (w : World) (K : World → Prop) : denF Tryz.prog T.C198 T.A198 Tryz.f198 [.pointer (some ⟨g, 0, none⟩), .int .i64 o, .int .i64 to_] w (fun v w' => match v with | .tuple ⟨[]⟩ => K w' | _ => False) = S.gen_Engine_back g o to_ w K := by kernel_rfl
theorem T.CO198 : CallOk Tryz.prog T.C198 := (CallOk.cons 112 T.ok112 (CallOk.cons 225 T.ok225 CallOk.nil))
def T.c198 (vs : List Value) (w : World) (K : Value → World → Prop) : Prop :=
  match vs with
  | [.pointer (some ⟨g, 0, none⟩), .int .i64 o, .int .i64 to_] => S.gen_Engine_back g o to_ w (fun w' => K (.tuple #[]) w')
  | _ => False
theorem T.ok198 : ∀ vs w K, T.c198 vs w K → (callFunc 198 vs.toArray).run Tryz.prog w = .ok (.enter 198 vs.toArray) w ∧ Calls Tryz.prog 198 vs.toArray w fun e w' => ∃ v, e = .returned v ∧ K v w' := by
  intro vs w K h
  unfold T.c198 at h
  split at h
  · refine ⟨Tryz.call198 _ _, ok_of T.CO198 mixed Tryz.func198 (T.eq198 _ _ _ _ _) h fun v w' hk => ⟨v, rfl, ?_⟩⟩
    split at hk
    · exact hk
    · exact hk.elim
  · exact h.elim

/-- (*e2e/gen.Engine).block (function 111): its body over the calls of its kin. -/
def B.gen_Engine_block (R_gen_Engine_block : Nat → Int → World → (World → Prop) → Prop) (R_gen_Engine_stmt : Nat → Int → World → (World → Prop) → Prop) (g : Nat) (x : Int) (w : World) (K : World → Prop) : Prop :=
  S.gen_Engine_node g x w (fun Kind_1 A_2 B_3 C_4 Next_5 Val_6 Pos_7 Name_8 w =>
  LoopP (σ := Int × Unit) (fun st9 w next10 =>
    if (decide (st9.1 ≥ 0)) = true then
      R_gen_Engine_stmt g st9.1 w (fun w =>
      S.gen_Engine_node g st9.1 w (fun Kind_11 A_12 B_13 C_14 Next_15 Val_16 Pos_17 Name_18 w =>
      next10 (Next_15, ()) w))
    else
      K w) (A_2, ()) w)
def T.r111 (R : Nat → Int → World → (World → Prop) → Prop) (vs : List Value) (w : World) (K : Value → World → Prop) : Prop :=
  match vs with
  | [.pointer (some ⟨g, 0, none⟩), .int .i64 x] => R g x w (fun w' => K (.tuple #[]) w')
  | _ => False
def T.A111 : Ann := fun i => bif Nat.beq i 1 then some ([0], [(4, 0)]) else none
/-- (*e2e/gen.Engine).stmt (function 149): its body over the calls of its kin. -/
def B.gen_Engine_stmt (R_gen_Engine_block : Nat → Int → World → (World → Prop) → Prop) (R_gen_Engine_stmt : Nat → Int → World → (World → Prop) → Prop) (g : Nat) (x : Int) (w : World) (K : World → Prop) : Prop :=
  S.gen_Engine_node g x w (fun Kind_1 A_2 B_3 C_4 Next_5 Val_6 Pos_7 Name_8 w =>
  New w (.cells #[.int .i64 0, .int .i64 0, .int .i64 0, .int .i64 0, .int .i64 0, .int .i64 0, .int .i64 0, .string ⟨#[]⟩] 150) fun p9 w =>
  St1 w ⟨p9, 0, none⟩ (.int .i64 Kind_1) fun w =>
  St1 w ⟨p9, 1, none⟩ (.int .i64 A_2) fun w =>
  St1 w ⟨p9, 2, none⟩ (.int .i64 B_3) fun w =>
  St1 w ⟨p9, 3, none⟩ (.int .i64 C_4) fun w =>
  St1 w ⟨p9, 4, none⟩ (.int .i64 Next_5) fun w =>
  St1 w ⟨p9, 5, none⟩ (.int .i64 Val_6) fun w =>
  St1 w ⟨p9, 6, none⟩ (.int .i64 Pos_7) fun w =>
  St1 w ⟨p9, 7, none⟩ (.string Name_8) fun w =>
  LdI .i64 w ⟨p9, 0, none⟩ fun Kind_10 =>
  if (Kind_10 == 3) = true then
    LdI .i64 w ⟨p9, 1, none⟩ fun A_11 =>
    S.gen_Engine_expr g A_11 w (fun w =>
    LdI .i64 w ⟨p9, 5, none⟩ fun Val_12 =>
    S.gen_Engine_store g x Val_12 w (fun w =>
    K w))
  else
    if (Kind_10 == 4) = true then
      LdI .i64 w ⟨p9, 0, none⟩ fun Kind_13 =>
      LdI .i64 w ⟨p9, 1, none⟩ fun A_14 =>
      LdI .i64 w ⟨p9, 2, none⟩ fun B_15 =>
      LdI .i64 w ⟨p9, 3, none⟩ fun C_16 =>
      LdI .i64 w ⟨p9, 4, none⟩ fun Next_17 =>
      LdI .i64 w ⟨p9, 5, none⟩ fun Val_18 =>
      LdI .i64 w ⟨p9, 6, none⟩ fun Pos_19 =>
      LdStr w ⟨p9, 7, none⟩ fun Name_20 =>
      S.gen_Engine_assign g Kind_13 A_14 B_15 C_16 Next_17 Val_18 Pos_19 Name_20 w (fun w =>
      K w)
    else
      if (Kind_10 == 5) = true then
        LdI .i64 w ⟨p9, 1, none⟩ fun A_21 =>
        S.gen_Engine_expr g A_21 w (fun w =>
        S.gen_Engine_ahead g 22 w (fun w =>
        LdI .i64 w ⟨p9, 2, none⟩ fun B_22 =>
        R_gen_Engine_block g B_22 w (fun w =>
        LdI .i64 w ⟨p9, 3, none⟩ fun C_23 =>
        if (decide (C_23 ≥ 0)) = true then
          S.gen_Engine_over g w (fun w =>
          LdI .i64 w ⟨p9, 3, none⟩ fun C_24 =>
          R_gen_Engine_block g C_24 w (fun w =>
          S.gen_Engine_land g w (fun w =>
          K w)))
        else
          S.gen_Engine_land g w (fun w =>
          K w))))
      else
        if (Kind_10 == 6) = true then
          S.gen_Engine_here g w (fun r25 w =>
          LdI .i64 w ⟨p9, 1, none⟩ fun A_26 =>
          S.gen_Engine_expr g A_26 w (fun w =>
          S.gen_Engine_ahead g 22 w (fun w =>
          LdI .i64 w ⟨p9, 2, none⟩ fun B_27 =>
          R_gen_Engine_block g B_27 w (fun w =>
          S.gen_Engine_back g 21 r25 w (fun w =>
          S.gen_Engine_land g w (fun w =>
          K w))))))
        else
          if (Kind_10 == 7) = true then
            LdI .i64 w ⟨p9, 1, none⟩ fun A_28 =>
            S.gen_Engine_expr g A_28 w (fun w =>
            Drew w fun w =>
            LdS w ⟨g, 6, none⟩ fun Ty_29 =>
            LdI .i64 w ⟨p9, 1, none⟩ fun A_30 =>
            Ix Ty_29.a Ty_29.l A_30 fun b31 o32 =>
            LdI .i64 w ⟨b31, o32 + Int.toNat A_30 * 1, none⟩ fun x_33 =>
            S.gen_class x_33 26 27 w (fun r34 w =>
            S.gen_Engine_op g r34 w (fun w =>
            K w)))
          else
            if (Kind_10 == 8) = true then
              LdI .i64 w ⟨p9, 1, none⟩ fun A_35 =>
              S.gen_Engine_expr g A_35 w (fun w =>
              S.gen_Engine_op g 35 w (fun w =>
              K w))
            else
              if (Kind_10 == 9) = true then
                LdI .i64 w ⟨p9, 1, none⟩ fun A_36 =>
                S.gen_Engine_expr g A_36 w (fun w =>
                Drew w fun w =>
                LdS w ⟨g, 6, none⟩ fun Ty_37 =>
                LdI .i64 w ⟨p9, 1, none⟩ fun A_38 =>
                Ix Ty_37.a Ty_37.l A_38 fun b39 o40 =>
                LdI .i64 w ⟨b39, o40 + Int.toNat A_38 * 1, none⟩ fun x_41 =>
                S.gen_class x_41 1 6 w (fun r42 w =>
                S.gen_Engine_op g r42 w (fun w =>
                K w)))
              else
                K w)
def T.r149 (R : Nat → Int → World → (World → Prop) → Prop) (vs : List Value) (w : World) (K : Value → World → Prop) : Prop :=
  match vs with
  | [.pointer (some ⟨g, 0, none⟩), .int .i64 x] => R g x w (fun w' => K (.tuple #[]) w')
  | _ => False
def T.A149 : Ann := fun i => bif Nat.beq i 1000029 then some ([], [(0, 5), (4, 5), (12, 0)]) else bif Nat.beq i 1000026 then some ([], [(0, 5), (4, 5), (12, 0)]) else bif Nat.beq i 1000022 then some ([], [(0, 5), (4, 5), (12, 0)]) else bif Nat.beq i 1000015 then some ([], [(0, 5), (4, 5), (12, 0)]) else bif Nat.beq i 1000007 then some ([], [(0, 5), (4, 5), (12, 0)]) else bif Nat.beq i 1000005 then some ([], [(0, 5), (4, 5), (12, 0)]) else none
def T.C111 (R_gen_Engine_block : Nat → Int → World → (World → Prop) → Prop) (R_gen_Engine_stmt : Nat → Int → World → (World → Prop) → Prop) : CallT := (CallT.cons 110 T.c110 (CallT.cons 149 (T.r149 R_gen_Engine_stmt) CallT.nil))
set_option maxRecDepth 1000000 in
theorem T.eq111 (R_gen_Engine_block : Nat → Int → World → (World → Prop) → Prop) (R_gen_Engine_stmt : Nat → Int → World → (World → Prop) → Prop) (g : Nat) (x : Int) (w : World) (K : World → Prop) : denF Tryz.prog (T.C111 R_gen_Engine_block R_gen_Engine_stmt) T.A111 Tryz.f111 [.pointer (some ⟨g, 0, none⟩), .int .i64 x] w (fun v w' => match v with | .tuple ⟨[]⟩ => K w' | _ => False) = B.gen_Engine_block R_gen_Engine_block R_gen_Engine_stmt g x w K := by kernel_rfl
def T.C149 (R_gen_Engine_block : Nat → Int → World → (World → Prop) → Prop) (R_gen_Engine_stmt : Nat → Int → World → (World → Prop) → Prop) : CallT := (CallT.cons 110 T.c110 (CallT.cons 192 T.c192 (CallT.cons 193 T.c193 (CallT.cons 194 T.c194 (CallT.cons 195 T.c195 (CallT.cons 111 (T.r111 R_gen_Engine_block) (CallT.cons 196 T.c196 (CallT.cons 197 T.c197 (CallT.cons 109 T.c109 (CallT.cons 198 T.c198 (CallT.cons 114 T.c114 (CallT.cons 112 T.c112 CallT.nil))))))))))))
set_option maxRecDepth 1000000 in
theorem T.eq149 (R_gen_Engine_block : Nat → Int → World → (World → Prop) → Prop) (R_gen_Engine_stmt : Nat → Int → World → (World → Prop) → Prop) (g : Nat) (x : Int) (w : World) (K : World → Prop) : denF Tryz.prog (T.C149 R_gen_Engine_block R_gen_Engine_stmt) T.A149 Tryz.f149 [.pointer (some ⟨g, 0, none⟩), .int .i64 x] w (fun v w' => match v with | .tuple ⟨[]⟩ => K w' | _ => False) = B.gen_Engine_stmt R_gen_Engine_block R_gen_Engine_stmt g x w K := by kernel_rfl
/-- The specifications hold of the bodies. -/
def T.G111 (P_gen_Engine_block : Nat → Nat → Int → World → (World → Prop) → Prop) (P_gen_Engine_stmt : Nat → Nat → Int → World → (World → Prop) → Prop) : Prop :=
  (∀ (n : Nat) (g : Nat) (x : Int) (w : World) (K : World → Prop), P_gen_Engine_block n g x w K → B.gen_Engine_block (fun x0 x1 w K => ∃ m, m < n ∧ P_gen_Engine_block m x0 x1 w K) (fun x0 x1 w K => ∃ m, m < n ∧ P_gen_Engine_stmt m x0 x1 w K) g x w K) ∧
  (∀ (n : Nat) (g : Nat) (x : Int) (w : World) (K : World → Prop), P_gen_Engine_stmt n g x w K → B.gen_Engine_stmt (fun x0 x1 w K => ∃ m, m < n ∧ P_gen_Engine_block m x0 x1 w K) (fun x0 x1 w K => ∃ m, m < n ∧ P_gen_Engine_stmt m x0 x1 w K) g x w K)
/-- (*e2e/gen.Engine).block (function 111). -/
def S.gen_Engine_block (g : Nat) (x : Int) (w : World) (K : World → Prop) : Prop :=
  ∃ (P_gen_Engine_block : Nat → Nat → Int → World → (World → Prop) → Prop) (P_gen_Engine_stmt : Nat → Nat → Int → World → (World → Prop) → Prop), T.G111 P_gen_Engine_block P_gen_Engine_stmt ∧ ∃ n, P_gen_Engine_block n g x w K
def T.c111 (vs : List Value) (w : World) (K : Value → World → Prop) : Prop :=
  match vs with
  | [.pointer (some ⟨g, 0, none⟩), .int .i64 x] => S.gen_Engine_block g x w (fun w' => K (.tuple #[]) w')
  | _ => False
/-- (*e2e/gen.Engine).stmt (function 149). -/
def S.gen_Engine_stmt (g : Nat) (x : Int) (w : World) (K : World → Prop) : Prop :=
  ∃ (P_gen_Engine_block : Nat → Nat → Int → World → (World → Prop) → Prop) (P_gen_Engine_stmt : Nat → Nat → Int → World → (World → Prop) → Prop), T.G111 P_gen_Engine_block P_gen_Engine_stmt ∧ ∃ n, P_gen_Engine_stmt n g x w K
def T.c149 (vs : List Value) (w : World) (K : Value → World → Prop) : Prop :=
  match vs with
  | [.pointer (some ⟨g, 0, none⟩), .int .i64 x] => S.gen_Engine_stmt g x w (fun w' => K (.tuple #[]) w')
  | _ => False
theorem T.all111 (P_gen_Engine_block : Nat → Nat → Int → World → (World → Prop) → Prop) (P_gen_Engine_stmt : Nat → Nat → Int → World → (World → Prop) → Prop) (h : T.G111 P_gen_Engine_block P_gen_Engine_stmt) : ∀ n, (∀ vs w K, T.r111 (P_gen_Engine_block n) vs w K → (callFunc 111 vs.toArray).run Tryz.prog w = .ok (.enter 111 vs.toArray) w ∧ Calls Tryz.prog 111 vs.toArray w fun e w' => ∃ v, e = .returned v ∧ K v w') ∧ (∀ vs w K, T.r149 (P_gen_Engine_stmt n) vs w K → (callFunc 149 vs.toArray).run Tryz.prog w = .ok (.enter 149 vs.toArray) w ∧ Calls Tryz.prog 149 vs.toArray w fun e w' => ∃ v, e = .returned v ∧ K v w') := by
  intro n
  induction n using Nat.strongRecOn with
  | _ n ih =>
    obtain ⟨g111, g149⟩ := h
    have k111 : (∀ vs w K, T.r111 (fun x0 x1 w K => ∃ m, m < n ∧ P_gen_Engine_block m x0 x1 w K) vs w K → (callFunc 111 vs.toArray).run Tryz.prog w = .ok (.enter 111 vs.toArray) w ∧ Calls Tryz.prog 111 vs.toArray w fun e w' => ∃ v, e = .returned v ∧ K v w') := by
      intro vs w K hk
      unfold T.r111 at hk
      split at hk
      · obtain ⟨m, hm, hp⟩ := hk
        exact (ih m hm).1 _ w K hp
      · exact hk.elim
    have k149 : (∀ vs w K, T.r149 (fun x0 x1 w K => ∃ m, m < n ∧ P_gen_Engine_stmt m x0 x1 w K) vs w K → (callFunc 149 vs.toArray).run Tryz.prog w = .ok (.enter 149 vs.toArray) w ∧ Calls Tryz.prog 149 vs.toArray w fun e w' => ∃ v, e = .returned v ∧ K v w') := by
      intro vs w K hk
      unfold T.r149 at hk
      split at hk
      · obtain ⟨m, hm, hp⟩ := hk
        exact (ih m hm).2 _ w K hp
      · exact hk.elim
    refine ⟨?_, ?_⟩
    · intro vs w K hk
      unfold T.r111 at hk
      split at hk
      · have hb := g111 _ _ _ _ _ hk
        have hco : CallOk Tryz.prog (T.C111 (fun x0 x1 w K => ∃ m, m < n ∧ P_gen_Engine_block m x0 x1 w K) (fun x0 x1 w K => ∃ m, m < n ∧ P_gen_Engine_stmt m x0 x1 w K)) := (CallOk.cons 110 T.ok110 (CallOk.cons 149 k149 CallOk.nil))
        refine ⟨Tryz.call111 _ _, ok_of hco mixed Tryz.func111 (T.eq111 _ _ _ _ _ _) hb fun v w' hk => ⟨v, rfl, ?_⟩⟩
        split at hk
        · exact hk
        · exact hk.elim
      · exact hk.elim
    · intro vs w K hk
      unfold T.r149 at hk
      split at hk
      · have hb := g149 _ _ _ _ _ hk
        have hco : CallOk Tryz.prog (T.C149 (fun x0 x1 w K => ∃ m, m < n ∧ P_gen_Engine_block m x0 x1 w K) (fun x0 x1 w K => ∃ m, m < n ∧ P_gen_Engine_stmt m x0 x1 w K)) := (CallOk.cons 110 T.ok110 (CallOk.cons 192 T.ok192 (CallOk.cons 193 T.ok193 (CallOk.cons 194 T.ok194 (CallOk.cons 195 T.ok195 (CallOk.cons 111 k111 (CallOk.cons 196 T.ok196 (CallOk.cons 197 T.ok197 (CallOk.cons 109 T.ok109 (CallOk.cons 198 T.ok198 (CallOk.cons 114 T.ok114 (CallOk.cons 112 T.ok112 CallOk.nil))))))))))))
        refine ⟨Tryz.call149 _ _, ok_of hco mixed Tryz.func149 (T.eq149 _ _ _ _ _ _) hb fun v w' hk => ⟨v, rfl, ?_⟩⟩
        split at hk
        · exact hk
        · exact hk.elim
      · exact hk.elim
theorem T.ok111 : ∀ vs w K, T.c111 vs w K → (callFunc 111 vs.toArray).run Tryz.prog w = .ok (.enter 111 vs.toArray) w ∧ Calls Tryz.prog 111 vs.toArray w fun e w' => ∃ v, e = .returned v ∧ K v w' := by
  intro vs w K h
  unfold T.c111 at h
  split at h
  · obtain ⟨P111, P149, hg, m, hp⟩ := h
    exact (T.all111 P111 P149 hg m).1 _ w K hp
  · exact h.elim
theorem T.ok149 : ∀ vs w K, T.c149 vs w K → (callFunc 149 vs.toArray).run Tryz.prog w = .ok (.enter 149 vs.toArray) w ∧ Calls Tryz.prog 149 vs.toArray w fun e w' => ∃ v, e = .returned v ∧ K v w' := by
  intro vs w K h
  unfold T.c149 at h
  split at h
  · obtain ⟨P111, P149, hg, m, hp⟩ := h
    exact (T.all111 P111 P149 hg m).2 _ w K hp
  · exact h.elim
end Go.Proofs.Qxb6500562aGreat
