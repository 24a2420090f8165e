/-
  MADE BY PROGRAM (my own gen2.py) out of the translation: the Go functions as typed texts, each tied to the model by the kernel.
-/
import Derived.Test.Qxb6500562aGreatS0
set_option linter.unusedVariables false
namespace Go.Proofs.Qxb6500562aGreat
open Go.Den

/-- (*e2e/parse.Parser).closed (function 235). -/
def S.parse_Parser_closed (p : Nat) (nd_Kind : Int) (nd_A : Int) (nd_B : Int) (nd_C : Int) (nd_Next : Int) (nd_Val : Int) (nd_Pos : Int) (nd_Name : ByteArray) (left : Int) (w : World) (K : Int → World → Prop) : Prop :=
  New w (.cells #[.int .i64 nd_Kind, .int .i64 nd_A, .int .i64 nd_B, .int .i64 nd_C, .int .i64 nd_Next, .int .i64 nd_Val, .int .i64 nd_Pos, .string nd_Name] 150) fun p1 w =>
  S.parse_Parser_binary p 1 left w (fun r2 w =>
  St1 w ⟨p1, 1, none⟩ (.int .i64 r2) fun w =>
  S.parse_Parser_take p 24 w (fun r3 w =>
  if (!r3) = true then
    K (-1) w
  else
    LdI .i64 w ⟨p1, 0, none⟩ fun Kind_4 =>
    LdI .i64 w ⟨p1, 1, none⟩ fun A_5 =>
    LdI .i64 w ⟨p1, 2, none⟩ fun B_6 =>
    LdI .i64 w ⟨p1, 3, none⟩ fun C_7 =>
    LdI .i64 w ⟨p1, 4, none⟩ fun Next_8 =>
    LdI .i64 w ⟨p1, 5, none⟩ fun Val_9 =>
    LdI .i64 w ⟨p1, 6, none⟩ fun Pos_10 =>
    LdStr w ⟨p1, 7, none⟩ fun Name_11 =>
    S.parse_Parser_add p Kind_4 A_5 B_6 C_7 Next_8 Val_9 Pos_10 Name_11 w (fun r12 w =>
    K r12 w)))
def T.C235 : CallT := (CallT.cons 234 T.c234 (CallT.cons 183 T.c183 (CallT.cons 189 T.c189 CallT.nil)))
def T.A235 : Ann := fun _ => none
set_option maxRecDepth 1000000 in
theorem T.eq235 (p : Nat) (nd_Kind : Int) (nd_A : Int) (nd_B : Int) (nd_C : Int) (nd_Next : Int) (nd_Val : Int) (nd_Pos : Int) (nd_Name : ByteArray) (left : Int) (w : World) (K : Int → World → Prop) : denF Tryz.prog T.C235 T.A235 Tryz.f235 [.pointer (some ⟨p, 0, none⟩), .agg #[.int .i64 nd_Kind, .int .i64 nd_A, .int .i64 nd_B, .int .i64 nd_C, .int .i64 nd_Next, .int .i64 nd_Val, .int .i64 nd_Pos, .string nd_Name], .int .i64 left] w (fun v w' => match v with | .int .i64 r0 => K r0 w' | _ => False) = S.parse_Parser_closed p nd_Kind nd_A nd_B nd_C nd_Next nd_Val nd_Pos nd_Name left w K := by kernel_rfl
theorem T.CO235 : CallOk Tryz.prog T.C235 := (CallOk.cons 234 T.ok234 (CallOk.cons 183 T.ok183 (CallOk.cons 189 T.ok189 CallOk.nil)))
def T.c235 (vs : List Value) (w : World) (K : Value → World → Prop) : Prop :=
  match vs with
  | [.pointer (some ⟨p, 0, none⟩), .agg ⟨[.int .i64 nd_Kind, .int .i64 nd_A, .int .i64 nd_B, .int .i64 nd_C, .int .i64 nd_Next, .int .i64 nd_Val, .int .i64 nd_Pos, .string nd_Name]⟩, .int .i64 left] => S.parse_Parser_closed p nd_Kind nd_A nd_B nd_C nd_Next nd_Val nd_Pos nd_Name left w (fun r0 w' => K (.int .i64 r0) w')
  | _ => False
theorem T.ok235 : ∀ vs w K, T.c235 vs w K → (callFunc 235 vs.toArray).run Tryz.prog w = .ok (.enter 235 vs.toArray) w ∧ Calls Tryz.prog 235 vs.toArray w fun e w' => ∃ v, e = .returned v ∧ K v w' := by
  intro vs w K h
  unfold T.c235 at h
  split at h
  · refine ⟨Tryz.call235 _ _, ok_of T.CO235 mixed Tryz.func235 (T.eq235 _ _ _ _ _ _ _ _ _ _ _ _) h fun v w' hk => ⟨v, rfl, ?_⟩⟩
    split at hk
    · exact hk
    · exact hk.elim
  · exact h.elim

/-- (*e2e/parse.Parser).varDecl (function 233). -/
def S.parse_Parser_varDecl (p : Nat) (left : Int) (w : World) (K : Int → World → Prop) : Prop :=
  S.parse_Parser_at p w (fun r1 w =>
  S.parse_fresh 3 r1 w (fun Kind_2 A_3 B_4 C_5 Next_6 Val_7 Pos_8 Name_9 w =>
  New w (.cells #[.int .i64 0, .int .i64 0, .int .i64 0, .int .i64 0, .int .i64 0, .int .i64 0, .int .i64 0, .string ⟨#[]⟩] 150) fun p10 w =>
  St1 w ⟨p10, 0, none⟩ (.int .i64 Kind_2) fun w =>
  St1 w ⟨p10, 1, none⟩ (.int .i64 A_3) fun w =>
  St1 w ⟨p10, 2, none⟩ (.int .i64 B_4) fun w =>
  St1 w ⟨p10, 3, none⟩ (.int .i64 C_5) fun w =>
  St1 w ⟨p10, 4, none⟩ (.int .i64 Next_6) fun w =>
  St1 w ⟨p10, 5, none⟩ (.int .i64 Val_7) fun w =>
  St1 w ⟨p10, 6, none⟩ (.int .i64 Pos_8) fun w =>
  St1 w ⟨p10, 7, none⟩ (.string Name_9) fun w =>
  Drew w fun w =>
  LdS w ⟨p, 1, none⟩ fun toks_11 =>
  LdI .i64 w ⟨p, 2, none⟩ fun cur_12 =>
  Ix toks_11.a toks_11.l cur_12 fun b13 o14 =>
  LdStr w ⟨b13, o14 + Int.toNat cur_12 * 4 + 3, none⟩ fun Text_15 =>
  St1 w ⟨p10, 7, none⟩ (.string Text_15) fun w =>
  S.parse_Parser_take p 1 w (fun r16 w =>
  if (!r16) = true then
    K (-1) w
  else
    S.parse_Parser_typ p w (fun r17 w =>
    St1 w ⟨p10, 5, none⟩ (.int .i64 r17) fun w =>
    S.parse_Parser_take p 25 w (fun r18 w =>
    if (!r18) = true then
      K (-1) w
    else
      LdI .i64 w ⟨p10, 0, none⟩ fun Kind_19 =>
      LdI .i64 w ⟨p10, 1, none⟩ fun A_20 =>
      LdI .i64 w ⟨p10, 2, none⟩ fun B_21 =>
      LdI .i64 w ⟨p10, 3, none⟩ fun C_22 =>
      LdI .i64 w ⟨p10, 4, none⟩ fun Next_23 =>
      LdI .i64 w ⟨p10, 5, none⟩ fun Val_24 =>
      LdI .i64 w ⟨p10, 6, none⟩ fun Pos_25 =>
      LdStr w ⟨p10, 7, none⟩ fun Name_26 =>
      S.parse_Parser_closed p Kind_19 A_20 B_21 C_22 Next_23 Val_24 Pos_25 Name_26 left w (fun r27 w =>
      K r27 w))))))
def T.C233 : CallT := (CallT.cons 184 T.c184 (CallT.cons 185 T.c185 (CallT.cons 183 T.c183 (CallT.cons 187 T.c187 (CallT.cons 235 T.c235 CallT.nil)))))
def T.A233 : Ann := fun _ => none
set_option maxRecDepth 1000000 in
theorem T.eq233 (p : Nat) (left : Int) (w : World) (K : Int → World → Prop) : denF Tryz.prog T.C233 T.A233 Tryz.f233 [.pointer (some ⟨p, 0, none⟩), .int .i64 left] w (fun v w' => match v with | .int .i64 r0 => K r0 w' | _ => False) = S.parse_Parser_varDecl p left w K := by kernel_rfl
theorem T.CO233 : CallOk Tryz.prog T.C233 := (CallOk.cons 184 T.ok184 (CallOk.cons 185 T.ok185 (CallOk.cons 183 T.ok183 (CallOk.cons 187 T.ok187 (CallOk.cons 235 T.ok235 CallOk.nil)))))
def T.c233 (vs : List Value) (w : World) (K : Value → World → Prop) : Prop :=
  match vs with
  | [.pointer (some ⟨p, 0, none⟩), .int .i64 left] => S.parse_Parser_varDecl p left w (fun r0 w' => K (.int .i64 r0) w')
  | _ => False
theorem T.ok233 : ∀ vs w K, T.c233 vs w K → (callFunc 233 vs.toArray).run Tryz.prog w = .ok (.enter 233 vs.toArray) w ∧ Calls Tryz.prog 233 vs.toArray w fun e w' => ∃ v, e = .returned v ∧ K v w' := by
  intro vs w K h
  unfold T.c233 at h
  split at h
  · refine ⟨Tryz.call233 _ _, ok_of T.CO233 mixed Tryz.func233 (T.eq233 _ _ _ _) h fun v w' hk => ⟨v, rfl, ?_⟩⟩
    split at hk
    · exact hk
    · exact hk.elim
  · exact h.elim

/-- (*e2e/parse.Parser).plain (function 236). -/
def S.parse_Parser_plain (p : Nat) (left : Int) (w : World) (K : Int → World → Prop) : Prop :=
  S.parse_Parser_binary p 1 left w (fun r1 w =>
  LdB w ⟨p, 5, none⟩ fun failed_2 =>
  if failed_2 = true then
    K (-1) w
  else
    LdS w ⟨p, 3, none⟩ fun arena_3 =>
    Ix arena_3.a arena_3.l r1 fun b4 o5 =>
    LdI .i64 w ⟨b4, o5 + Int.toNat r1 * 8 + 6, none⟩ fun Pos_6 =>
    S.parse_fresh 9 Pos_6 w (fun Kind_7 A_8 B_9 C_10 Next_11 Val_12 Pos_13 Name_14 w =>
    New w (.cells #[.int .i64 0, .int .i64 0, .int .i64 0, .int .i64 0, .int .i64 0, .int .i64 0, .int .i64 0, .string ⟨#[]⟩] 150) fun p15 w =>
    St1 w ⟨p15, 0, none⟩ (.int .i64 Kind_7) fun w =>
    St1 w ⟨p15, 1, none⟩ (.int .i64 A_8) fun w =>
    St1 w ⟨p15, 2, none⟩ (.int .i64 B_9) fun w =>
    St1 w ⟨p15, 3, none⟩ (.int .i64 C_10) fun w =>
    St1 w ⟨p15, 4, none⟩ (.int .i64 Next_11) fun w =>
    St1 w ⟨p15, 5, none⟩ (.int .i64 Val_12) fun w =>
    St1 w ⟨p15, 6, none⟩ (.int .i64 Pos_13) fun w =>
    St1 w ⟨p15, 7, none⟩ (.string Name_14) fun w =>
    St1 w ⟨p15, 1, none⟩ (.int .i64 r1) fun w =>
    Join (fun (w : World) =>
      S.parse_Parser_take p 24 w (fun r16 w =>
      if (!r16) = true then
        K (-1) w
      else
        LdI .i64 w ⟨p15, 0, none⟩ fun Kind_17 =>
        LdI .i64 w ⟨p15, 1, none⟩ fun A_18 =>
        LdI .i64 w ⟨p15, 2, none⟩ fun B_19 =>
        LdI .i64 w ⟨p15, 3, none⟩ fun C_20 =>
        LdI .i64 w ⟨p15, 4, none⟩ fun Next_21 =>
        LdI .i64 w ⟨p15, 5, none⟩ fun Val_22 =>
        LdI .i64 w ⟨p15, 6, none⟩ fun Pos_23 =>
        LdStr w ⟨p15, 7, none⟩ fun Name_24 =>
        S.parse_Parser_add p Kind_17 A_18 B_19 C_20 Next_21 Val_22 Pos_23 Name_24 w (fun r25 w =>
        K r25 w))) fun J26 =>
    Join (fun (w : World) =>
      S.parse_Parser_at p w (fun r27 w =>
      St1 w ⟨p15, 0, none⟩ (.int .i64 4) fun w =>
      St1 w ⟨p15, 6, none⟩ (.int .i64 r27) fun w =>
      S.parse_Parser_step p w (fun w =>
      S.parse_Parser_binary p 1 left w (fun r28 w =>
      St1 w ⟨p15, 2, none⟩ (.int .i64 r28) fun w =>
      J26 w)))) fun J29 =>
    S.parse_Parser_kind p w (fun r30 w =>
    if (r30 == 25) = true then
      LdS w ⟨p, 3, none⟩ fun arena_31 =>
      Ix arena_31.a arena_31.l r1 fun b32 o33 =>
      LdI .i64 w ⟨b32, o33 + Int.toNat r1 * 8, none⟩ fun Kind_34 =>
      if (Kind_34 == 12) = true then
        J29 w
      else
        LdS w ⟨p, 3, none⟩ fun arena_35 =>
        Ix arena_35.a arena_35.l r1 fun b36 o37 =>
        LdI .i64 w ⟨b36, o37 + Int.toNat r1 * 8, none⟩ fun Kind_38 =>
        if (Kind_38 == 14) = true then
          J29 w
        else
          J26 w
    else
      J26 w)))
def T.C236 : CallT := (CallT.cons 234 T.c234 (CallT.cons 185 T.c185 (CallT.cons 144 T.c144 (CallT.cons 183 T.c183 (CallT.cons 189 T.c189 (CallT.cons 184 T.c184 (CallT.cons 216 T.c216 CallT.nil)))))))
def T.A236 : Ann := fun _ => none
set_option maxRecDepth 1000000 in
theorem T.eq236 (p : Nat) (left : Int) (w : World) (K : Int → World → Prop) : denF Tryz.prog T.C236 T.A236 Tryz.f236 [.pointer (some ⟨p, 0, none⟩), .int .i64 left] w (fun v w' => match v with | .int .i64 r0 => K r0 w' | _ => False) = S.parse_Parser_plain p left w K := by kernel_rfl
theorem T.CO236 : CallOk Tryz.prog T.C236 := (CallOk.cons 234 T.ok234 (CallOk.cons 185 T.ok185 (CallOk.cons 144 T.ok144 (CallOk.cons 183 T.ok183 (CallOk.cons 189 T.ok189 (CallOk.cons 184 T.ok184 (CallOk.cons 216 T.ok216 CallOk.nil)))))))
def T.c236 (vs : List Value) (w : World) (K : Value → World → Prop) : Prop :=
  match vs with
  | [.pointer (some ⟨p, 0, none⟩), .int .i64 left] => S.parse_Parser_plain p left w (fun r0 w' => K (.int .i64 r0) w')
  | _ => False
theorem T.ok236 : ∀ vs w K, T.c236 vs w K → (callFunc 236 vs.toArray).run Tryz.prog w = .ok (.enter 236 vs.toArray) w ∧ Calls Tryz.prog 236 vs.toArray w fun e w' => ∃ v, e = .returned v ∧ K v w' := by
  intro vs w K h
  unfold T.c236 at h
  split at h
  · refine ⟨Tryz.call236 _ _, ok_of T.CO236 mixed Tryz.func236 (T.eq236 _ _ _ _) h fun v w' hk => ⟨v, rfl, ?_⟩⟩
    split at hk
    · exact hk
    · exact hk.elim
  · exact h.elim

/-- (*e2e/parse.Parser).block (function 188): its body over the calls of its kin. -/
def B.parse_Parser_block (R_parse_Parser_block : Nat → Int → World → (Int → World → Prop) → Prop) (R_parse_Parser_stmt : Nat → Int → World → (Int → World → Prop) → Prop) (p : Nat) (left : Int) (w : World) (K : Int → World → Prop) : Prop :=
  LdB w ⟨p, 5, none⟩ fun failed_1 =>
  if failed_1 = true then
    K (-1) w
  else
    S.parse_Parser_kind p w (fun r2 w =>
    if (r2 != 19) = true then
      S.parse_Parser_at p w (fun r3 w =>
      S.parse_Parser_fail p 10 r3 w (fun r4 w =>
      K r4 w))
    else
      S.parse_Parser_open p left w (fun r5 w =>
      if (!r5) = true then
        K (-1) w
      else
        S.parse_Parser_at p w (fun r6 w =>
        S.parse_fresh 2 r6 w (fun Kind_7 A_8 B_9 C_10 Next_11 Val_12 Pos_13 Name_14 w =>
        New w (.cells #[.int .i64 0, .int .i64 0, .int .i64 0, .int .i64 0, .int .i64 0, .int .i64 0, .int .i64 0, .string ⟨#[]⟩] 150) fun p15 w =>
        St1 w ⟨p15, 0, none⟩ (.int .i64 Kind_7) fun w =>
        St1 w ⟨p15, 1, none⟩ (.int .i64 A_8) fun w =>
        St1 w ⟨p15, 2, none⟩ (.int .i64 B_9) fun w =>
        St1 w ⟨p15, 3, none⟩ (.int .i64 C_10) fun w =>
        St1 w ⟨p15, 4, none⟩ (.int .i64 Next_11) fun w =>
        St1 w ⟨p15, 5, none⟩ (.int .i64 Val_12) fun w =>
        St1 w ⟨p15, 6, none⟩ (.int .i64 Pos_13) fun w =>
        St1 w ⟨p15, 7, none⟩ (.string Name_14) fun w =>
        S.parse_Parser_step p w (fun w =>
        Join (fun (w : World) =>
          S.parse_Parser_take p 20 w (fun r16 w =>
          if (!r16) = true then
            K (-1) w
          else
            LdI .i64 w ⟨p15, 0, none⟩ fun Kind_17 =>
            LdI .i64 w ⟨p15, 1, none⟩ fun A_18 =>
            LdI .i64 w ⟨p15, 2, none⟩ fun B_19 =>
            LdI .i64 w ⟨p15, 3, none⟩ fun C_20 =>
            LdI .i64 w ⟨p15, 4, none⟩ fun Next_21 =>
            LdI .i64 w ⟨p15, 5, none⟩ fun Val_22 =>
            LdI .i64 w ⟨p15, 6, none⟩ fun Pos_23 =>
            LdStr w ⟨p15, 7, none⟩ fun Name_24 =>
            S.parse_Parser_add p Kind_17 A_18 B_19 C_20 Next_21 Val_22 Pos_23 Name_24 w (fun r25 w =>
            K r25 w))) fun J26 =>
        LoopP (σ := Int × Unit) (fun st27 w next28 =>
          LdB w ⟨p, 5, none⟩ fun failed_29 =>
          if (!failed_29) = true then
            S.parse_Parser_kind p w (fun r30 w =>
            if (r30 != 20) = true then
              R_parse_Parser_stmt p (W (left - 1)) w (fun r31 w =>
              S.parse_Parser_hang p st27.1 r31 w (fun r32 w =>
              LdI .i64 w ⟨p15, 1, none⟩ fun A_33 =>
              if (decide (A_33 < 0)) = true then
                St1 w ⟨p15, 1, none⟩ (.int .i64 r32) fun w =>
                next28 (r32, ()) w
              else
                next28 (r32, ()) w))
            else
              J26 w)
          else
            J26 w) (-1, ()) w)))))
def T.r188 (R : Nat → Int → World → (Int → World → Prop) → Prop) (vs : List Value) (w : World) (K : Value → World → Prop) : Prop :=
  match vs with
  | [.pointer (some ⟨p, 0, none⟩), .int .i64 left] => R p left w (fun r0 w' => K (.int .i64 r0) w')
  | _ => False
def T.A188 : Ann := fun i => bif Nat.beq i 12 then some ([0, 1, 7], [(8, 0)]) else none
/-- (*e2e/parse.Parser).stmt (function 218): its body over the calls of its kin. -/
def B.parse_Parser_stmt (R_parse_Parser_block : Nat → Int → World → (Int → World → Prop) → Prop) (R_parse_Parser_stmt : Nat → Int → World → (Int → World → Prop) → Prop) (p : Nat) (left : Int) (w : World) (K : Int → World → Prop) : Prop :=
  S.parse_Parser_at p w (fun r1 w =>
  S.parse_Parser_kind p w (fun r2 w =>
  if (r2 == 4) = true then
    S.parse_Parser_step p w (fun w =>
    S.parse_Parser_varDecl p left w (fun r3 w =>
    K r3 w))
  else
    if (r2 == 5) = true then
      S.parse_Parser_step p w (fun w =>
      S.parse_fresh 5 r1 w (fun Kind_4 A_5 B_6 C_7 Next_8 Val_9 Pos_10 Name_11 w =>
      New w (.cells #[.int .i64 0, .int .i64 0, .int .i64 0, .int .i64 0, .int .i64 0, .int .i64 0, .int .i64 0, .string ⟨#[]⟩] 150) fun p12 w =>
      St1 w ⟨p12, 0, none⟩ (.int .i64 Kind_4) fun w =>
      St1 w ⟨p12, 1, none⟩ (.int .i64 A_5) fun w =>
      St1 w ⟨p12, 2, none⟩ (.int .i64 B_6) fun w =>
      St1 w ⟨p12, 3, none⟩ (.int .i64 C_7) fun w =>
      St1 w ⟨p12, 4, none⟩ (.int .i64 Next_8) fun w =>
      St1 w ⟨p12, 5, none⟩ (.int .i64 Val_9) fun w =>
      St1 w ⟨p12, 6, none⟩ (.int .i64 Pos_10) fun w =>
      St1 w ⟨p12, 7, none⟩ (.string Name_11) fun w =>
      S.parse_Parser_binary p 1 left w (fun r13 w =>
      St1 w ⟨p12, 1, none⟩ (.int .i64 r13) fun w =>
      R_parse_Parser_block p left w (fun r14 w =>
      St1 w ⟨p12, 2, none⟩ (.int .i64 r14) fun w =>
      Join (fun (w : World) =>
        LdI .i64 w ⟨p12, 0, none⟩ fun Kind_15 =>
        LdI .i64 w ⟨p12, 1, none⟩ fun A_16 =>
        LdI .i64 w ⟨p12, 2, none⟩ fun B_17 =>
        LdI .i64 w ⟨p12, 3, none⟩ fun C_18 =>
        LdI .i64 w ⟨p12, 4, none⟩ fun Next_19 =>
        LdI .i64 w ⟨p12, 5, none⟩ fun Val_20 =>
        LdI .i64 w ⟨p12, 6, none⟩ fun Pos_21 =>
        LdStr w ⟨p12, 7, none⟩ fun Name_22 =>
        S.parse_Parser_add p Kind_15 A_16 B_17 C_18 Next_19 Val_20 Pos_21 Name_22 w (fun r23 w =>
        K r23 w)) fun J24 =>
      LdB w ⟨p, 5, none⟩ fun failed_25 =>
      if (!failed_25) = true then
        S.parse_Parser_kind p w (fun r26 w =>
        if (r26 == 6) = true then
          S.parse_Parser_step p w (fun w =>
          R_parse_Parser_block p left w (fun r27 w =>
          St1 w ⟨p12, 3, none⟩ (.int .i64 r27) fun w =>
          J24 w))
        else
          J24 w)
      else
        J24 w))))
    else
      if (r2 == 7) = true then
        S.parse_Parser_step p w (fun w =>
        S.parse_fresh 6 r1 w (fun Kind_28 A_29 B_30 C_31 Next_32 Val_33 Pos_34 Name_35 w =>
        New w (.cells #[.int .i64 0, .int .i64 0, .int .i64 0, .int .i64 0, .int .i64 0, .int .i64 0, .int .i64 0, .string ⟨#[]⟩] 150) fun p36 w =>
        St1 w ⟨p36, 0, none⟩ (.int .i64 Kind_28) fun w =>
        St1 w ⟨p36, 1, none⟩ (.int .i64 A_29) fun w =>
        St1 w ⟨p36, 2, none⟩ (.int .i64 B_30) fun w =>
        St1 w ⟨p36, 3, none⟩ (.int .i64 C_31) fun w =>
        St1 w ⟨p36, 4, none⟩ (.int .i64 Next_32) fun w =>
        St1 w ⟨p36, 5, none⟩ (.int .i64 Val_33) fun w =>
        St1 w ⟨p36, 6, none⟩ (.int .i64 Pos_34) fun w =>
        St1 w ⟨p36, 7, none⟩ (.string Name_35) fun w =>
        S.parse_Parser_binary p 1 left w (fun r37 w =>
        St1 w ⟨p36, 1, none⟩ (.int .i64 r37) fun w =>
        R_parse_Parser_block p left w (fun r38 w =>
        St1 w ⟨p36, 2, none⟩ (.int .i64 r38) fun w =>
        LdI .i64 w ⟨p36, 0, none⟩ fun Kind_39 =>
        LdI .i64 w ⟨p36, 1, none⟩ fun A_40 =>
        LdI .i64 w ⟨p36, 2, none⟩ fun B_41 =>
        LdI .i64 w ⟨p36, 3, none⟩ fun C_42 =>
        LdI .i64 w ⟨p36, 4, none⟩ fun Next_43 =>
        LdI .i64 w ⟨p36, 5, none⟩ fun Val_44 =>
        LdI .i64 w ⟨p36, 6, none⟩ fun Pos_45 =>
        LdStr w ⟨p36, 7, none⟩ fun Name_46 =>
        S.parse_Parser_add p Kind_39 A_40 B_41 C_42 Next_43 Val_44 Pos_45 Name_46 w (fun r47 w =>
        K r47 w)))))
      else
        if (r2 == 8) = true then
          S.parse_Parser_step p w (fun w =>
          S.parse_fresh 7 r1 w (fun Kind_48 A_49 B_50 C_51 Next_52 Val_53 Pos_54 Name_55 w =>
          New w (.cells #[.int .i64 0, .int .i64 0, .int .i64 0, .int .i64 0, .int .i64 0, .int .i64 0, .int .i64 0, .string ⟨#[]⟩] 150) fun p56 w =>
          St1 w ⟨p56, 0, none⟩ (.int .i64 Kind_48) fun w =>
          St1 w ⟨p56, 1, none⟩ (.int .i64 A_49) fun w =>
          St1 w ⟨p56, 2, none⟩ (.int .i64 B_50) fun w =>
          St1 w ⟨p56, 3, none⟩ (.int .i64 C_51) fun w =>
          St1 w ⟨p56, 4, none⟩ (.int .i64 Next_52) fun w =>
          St1 w ⟨p56, 5, none⟩ (.int .i64 Val_53) fun w =>
          St1 w ⟨p56, 6, none⟩ (.int .i64 Pos_54) fun w =>
          St1 w ⟨p56, 7, none⟩ (.string Name_55) fun w =>
          LdI .i64 w ⟨p56, 0, none⟩ fun Kind_57 =>
          LdI .i64 w ⟨p56, 1, none⟩ fun A_58 =>
          LdI .i64 w ⟨p56, 2, none⟩ fun B_59 =>
          LdI .i64 w ⟨p56, 3, none⟩ fun C_60 =>
          LdI .i64 w ⟨p56, 4, none⟩ fun Next_61 =>
          LdI .i64 w ⟨p56, 5, none⟩ fun Val_62 =>
          LdI .i64 w ⟨p56, 6, none⟩ fun Pos_63 =>
          LdStr w ⟨p56, 7, none⟩ fun Name_64 =>
          S.parse_Parser_closed p Kind_57 A_58 B_59 C_60 Next_61 Val_62 Pos_63 Name_64 left w (fun r65 w =>
          K r65 w)))
        else
          if (r2 == 9) = true then
            S.parse_Parser_step p w (fun w =>
            S.parse_fresh 8 r1 w (fun Kind_66 A_67 B_68 C_69 Next_70 Val_71 Pos_72 Name_73 w =>
            New w (.cells #[.int .i64 0, .int .i64 0, .int .i64 0, .int .i64 0, .int .i64 0, .int .i64 0, .int .i64 0, .string ⟨#[]⟩] 150) fun p74 w =>
            St1 w ⟨p74, 0, none⟩ (.int .i64 Kind_66) fun w =>
            St1 w ⟨p74, 1, none⟩ (.int .i64 A_67) fun w =>
            St1 w ⟨p74, 2, none⟩ (.int .i64 B_68) fun w =>
            St1 w ⟨p74, 3, none⟩ (.int .i64 C_69) fun w =>
            St1 w ⟨p74, 4, none⟩ (.int .i64 Next_70) fun w =>
            St1 w ⟨p74, 5, none⟩ (.int .i64 Val_71) fun w =>
            St1 w ⟨p74, 6, none⟩ (.int .i64 Pos_72) fun w =>
            St1 w ⟨p74, 7, none⟩ (.string Name_73) fun w =>
            LdI .i64 w ⟨p74, 0, none⟩ fun Kind_75 =>
            LdI .i64 w ⟨p74, 1, none⟩ fun A_76 =>
            LdI .i64 w ⟨p74, 2, none⟩ fun B_77 =>
            LdI .i64 w ⟨p74, 3, none⟩ fun C_78 =>
            LdI .i64 w ⟨p74, 4, none⟩ fun Next_79 =>
            LdI .i64 w ⟨p74, 5, none⟩ fun Val_80 =>
            LdI .i64 w ⟨p74, 6, none⟩ fun Pos_81 =>
            LdStr w ⟨p74, 7, none⟩ fun Name_82 =>
            S.parse_Parser_closed p Kind_75 A_76 B_77 C_78 Next_79 Val_80 Pos_81 Name_82 left w (fun r83 w =>
            K r83 w)))
          else
            S.parse_Parser_plain p left w (fun r84 w =>
            K r84 w)))
def T.r218 (R : Nat → Int → World → (Int → World → Prop) → Prop) (vs : List Value) (w : World) (K : Value → World → Prop) : Prop :=
  match vs with
  | [.pointer (some ⟨p, 0, none⟩), .int .i64 left] => R p left w (fun r0 w' => K (.int .i64 r0) w')
  | _ => False
def T.A218 : Ann := fun i => bif Nat.beq i 1000025 then some ([], [(0, 5), (1, 0), (5, 0), (13, 0)]) else bif Nat.beq i 1000021 then some ([], [(0, 5), (1, 0), (5, 0), (13, 0)]) else bif Nat.beq i 1000015 then some ([], [(0, 5), (1, 0), (5, 0), (13, 0)]) else bif Nat.beq i 1000006 then some ([], [(0, 5), (1, 0), (5, 0), (13, 0)]) else none
def T.C188 (R_parse_Parser_block : Nat → Int → World → (Int → World → Prop) → Prop) (R_parse_Parser_stmt : Nat → Int → World → (Int → World → Prop) → Prop) : CallT := (CallT.cons 144 T.c144 (CallT.cons 184 T.c184 (CallT.cons 215 T.c215 (CallT.cons 217 T.c217 (CallT.cons 185 T.c185 (CallT.cons 216 T.c216 (CallT.cons 183 T.c183 (CallT.cons 189 T.c189 (CallT.cons 218 (T.r218 R_parse_Parser_stmt) (CallT.cons 146 T.c146 CallT.nil))))))))))
set_option maxRecDepth 1000000 in
theorem T.eq188 (R_parse_Parser_block : Nat → Int → World → (Int → World → Prop) → Prop) (R_parse_Parser_stmt : Nat → Int → World → (Int → World → Prop) → Prop) (p : Nat) (left : Int) (w : World) (K : Int → World → Prop) : denF Tryz.prog (T.C188 R_parse_Parser_block R_parse_Parser_stmt) T.A188 Tryz.f188 [.pointer (some ⟨p, 0, none⟩), .int .i64 left] w (fun v w' => match v with | .int .i64 r0 => K r0 w' | _ => False) = B.parse_Parser_block R_parse_Parser_block R_parse_Parser_stmt p left w K := by kernel_rfl
def T.C218 (R_parse_Parser_block : Nat → Int → World → (Int → World → Prop) → Prop) (R_parse_Parser_stmt : Nat → Int → World → (Int → World → Prop) → Prop) : CallT := (CallT.cons 184 T.c184 (CallT.cons 144 T.c144 (CallT.cons 216 T.c216 (CallT.cons 233 T.c233 (CallT.cons 185 T.c185 (CallT.cons 234 T.c234 (CallT.cons 188 (T.r188 R_parse_Parser_block) (CallT.cons 189 T.c189 (CallT.cons 235 T.c235 (CallT.cons 236 T.c236 CallT.nil))))))))))
set_option maxRecDepth 1000000 in
theorem T.eq218 (R_parse_Parser_block : Nat → Int → World → (Int → World → Prop) → Prop) (R_parse_Parser_stmt : Nat → Int → World → (Int → World → Prop) → Prop) (p : Nat) (left : Int) (w : World) (K : Int → World → Prop) : denF Tryz.prog (T.C218 R_parse_Parser_block R_parse_Parser_stmt) T.A218 Tryz.f218 [.pointer (some ⟨p, 0, none⟩), .int .i64 left] w (fun v w' => match v with | .int .i64 r0 => K r0 w' | _ => False) = B.parse_Parser_stmt R_parse_Parser_block R_parse_Parser_stmt p left w K := by kernel_rfl
/-- The specifications hold of the bodies. -/
def T.G188 (P_parse_Parser_block : Nat → Nat → Int → World → (Int → World → Prop) → Prop) (P_parse_Parser_stmt : Nat → Nat → Int → World → (Int → World → Prop) → Prop) : Prop :=
  (∀ (n : Nat) (p : Nat) (left : Int) (w : World) (K : Int → World → Prop), P_parse_Parser_block n p left w K → B.parse_Parser_block (fun x0 x1 w K => ∃ m, m < n ∧ P_parse_Parser_block m x0 x1 w K) (fun x0 x1 w K => ∃ m, m < n ∧ P_parse_Parser_stmt m x0 x1 w K) p left w K) ∧
  (∀ (n : Nat) (p : Nat) (left : Int) (w : World) (K : Int → World → Prop), P_parse_Parser_stmt n p left w K → B.parse_Parser_stmt (fun x0 x1 w K => ∃ m, m < n ∧ P_parse_Parser_block m x0 x1 w K) (fun x0 x1 w K => ∃ m, m < n ∧ P_parse_Parser_stmt m x0 x1 w K) p left w K)
/-- (*e2e/parse.Parser).block (function 188). -/
def S.parse_Parser_block (p : Nat) (left : Int) (w : World) (K : Int → World → Prop) : Prop :=
  ∃ (P_parse_Parser_block : Nat → Nat → Int → World → (Int → World → Prop) → Prop) (P_parse_Parser_stmt : Nat → Nat → Int → World → (Int → World → Prop) → Prop), T.G188 P_parse_Parser_block P_parse_Parser_stmt ∧ ∃ n, P_parse_Parser_block n p left w K
def T.c188 (vs : List Value) (w : World) (K : Value → World → Prop) : Prop :=
  match vs with
  | [.pointer (some ⟨p, 0, none⟩), .int .i64 left] => S.parse_Parser_block p left w (fun r0 w' => K (.int .i64 r0) w')
  | _ => False
/-- (*e2e/parse.Parser).stmt (function 218). -/
def S.parse_Parser_stmt (p : Nat) (left : Int) (w : World) (K : Int → World → Prop) : Prop :=
  ∃ (P_parse_Parser_block : Nat → Nat → Int → World → (Int → World → Prop) → Prop) (P_parse_Parser_stmt : Nat → Nat → Int → World → (Int → World → Prop) → Prop), T.G188 P_parse_Parser_block P_parse_Parser_stmt ∧ ∃ n, P_parse_Parser_stmt n p left w K
def T.c218 (vs : List Value) (w : World) (K : Value → World → Prop) : Prop :=
  match vs with
  | [.pointer (some ⟨p, 0, none⟩), .int .i64 left] => S.parse_Parser_stmt p left w (fun r0 w' => K (.int .i64 r0) w')
  | _ => False
theorem T.all188 (P_parse_Parser_block : Nat → Nat → Int → World → (Int → World → Prop) → Prop) (P_parse_Parser_stmt : Nat → Nat → Int → World → (Int → World → Prop) → Prop) (h : T.G188 P_parse_Parser_block P_parse_Parser_stmt) : ∀ n, (∀ vs w K, T.r188 (P_parse_Parser_block n) vs w K → (callFunc 188 vs.toArray).run Tryz.prog w = .ok (.enter 188 vs.toArray) w ∧ Calls Tryz.prog 188 vs.toArray w fun e w' => ∃ v, e = .returned v ∧ K v w') ∧ (∀ vs w K, T.r218 (P_parse_Parser_stmt n) vs w K → (callFunc 218 vs.toArray).run Tryz.prog w = .ok (.enter 218 vs.toArray) w ∧ Calls Tryz.prog 218 vs.toArray w fun e w' => ∃ v, e = .returned v ∧ K v w') := by
  intro n
  induction n using Nat.strongRecOn with
  | _ n ih =>
    obtain ⟨g188, g218⟩ := h
    have k188 : (∀ vs w K, T.r188 (fun x0 x1 w K => ∃ m, m < n ∧ P_parse_Parser_block m x0 x1 w K) vs w K → (callFunc 188 vs.toArray).run Tryz.prog w = .ok (.enter 188 vs.toArray) w ∧ Calls Tryz.prog 188 vs.toArray w fun e w' => ∃ v, e = .returned v ∧ K v w') := by
      intro vs w K hk
      unfold T.r188 at hk
      split at hk
      · obtain ⟨m, hm, hp⟩ := hk
        exact (ih m hm).1 _ w K hp
      · exact hk.elim
    have k218 : (∀ vs w K, T.r218 (fun x0 x1 w K => ∃ m, m < n ∧ P_parse_Parser_stmt m x0 x1 w K) vs w K → (callFunc 218 vs.toArray).run Tryz.prog w = .ok (.enter 218 vs.toArray) w ∧ Calls Tryz.prog 218 vs.toArray w fun e w' => ∃ v, e = .returned v ∧ K v w') := by
      intro vs w K hk
      unfold T.r218 at hk
      split at hk
      · obtain ⟨m, hm, hp⟩ := hk
        exact (ih m hm).2 _ w K hp
      · exact hk.elim
    refine ⟨?_, ?_⟩
    · intro vs w K hk
      unfold T.r188 at hk
      split at hk
      · have hb := g188 _ _ _ _ _ hk
        have hco : CallOk Tryz.prog (T.C188 (fun x0 x1 w K => ∃ m, m < n ∧ P_parse_Parser_block m x0 x1 w K) (fun x0 x1 w K => ∃ m, m < n ∧ P_parse_Parser_stmt m x0 x1 w K)) := (CallOk.cons 144 T.ok144 (CallOk.cons 184 T.ok184 (CallOk.cons 215 T.ok215 (CallOk.cons 217 T.ok217 (CallOk.cons 185 T.ok185 (CallOk.cons 216 T.ok216 (CallOk.cons 183 T.ok183 (CallOk.cons 189 T.ok189 (CallOk.cons 218 k218 (CallOk.cons 146 T.ok146 CallOk.nil))))))))))
        refine ⟨Tryz.call188 _ _, ok_of hco mixed Tryz.func188 (T.eq188 _ _ _ _ _ _) hb fun v w' hk => ⟨v, rfl, ?_⟩⟩
        split at hk
        · exact hk
        · exact hk.elim
      · exact hk.elim
    · intro vs w K hk
      unfold T.r218 at hk
      split at hk
      · have hb := g218 _ _ _ _ _ hk
        have hco : CallOk Tryz.prog (T.C218 (fun x0 x1 w K => ∃ m, m < n ∧ P_parse_Parser_block m x0 x1 w K) (fun x0 x1 w K => ∃ m, m < n ∧ P_parse_Parser_stmt m x0 x1 w K)) := (CallOk.cons 184 T.ok184 (CallOk.cons 144 T.ok144 (CallOk.cons 216 T.ok216 (CallOk.cons 233 T.ok233 (CallOk.cons 185 T.ok185 (CallOk.cons 234 T.ok234 (CallOk.cons 188 k188 (CallOk.cons 189 T.ok189 (CallOk.cons 235 T.ok235 (CallOk.cons 236 T.ok236 CallOk.nil))))))))))
        refine ⟨Tryz.call218 _ _, ok_of hco mixed Tryz.func218 (T.eq218 _ _ _ _ _ _) hb fun v w' hk => ⟨v, rfl, ?_⟩⟩
        split at hk
        · exact hk
        · exact hk.elim
      · exact hk.elim
theorem T.ok188 : ∀ vs w K, T.c188 vs w K → (callFunc 188 vs.toArray).run Tryz.prog w = .ok (.enter 188 vs.toArray) w ∧ Calls Tryz.prog 188 vs.toArray w fun e w' => ∃ v, e = .returned v ∧ K v w' := by
  intro vs w K h
  unfold T.c188 at h
  split at h
  · obtain ⟨P188, P218, hg, m, hp⟩ := h
    exact (T.all188 P188 P218 hg m).1 _ w K hp
  · exact h.elim
theorem T.ok218 : ∀ vs w K, T.c218 vs w K → (callFunc 218 vs.toArray).run Tryz.prog w = .ok (.enter 218 vs.toArray) w ∧ Calls Tryz.prog 218 vs.toArray w fun e w' => ∃ v, e = .returned v ∧ K v w' := by
  intro vs w K h
  unfold T.c218 at h
  split at h
  · obtain ⟨P188, P218, hg, m, hp⟩ := h
    exact (T.all188 P188 P218 hg m).2 _ w K hp
  · exact h.elim

/-- (*e2e/parse.Parser).function (function 145). -/
def S.parse_Parser_function (p : Nat) (w : World) (K : Int → World → Prop) : Prop :=
  S.parse_Parser_take p 3 w (fun r1 w =>
  if (!r1) = true then
    K (-1) w
  else
    S.parse_Parser_at p w (fun r2 w =>
    S.parse_fresh 0 r2 w (fun Kind_3 A_4 B_5 C_6 Next_7 Val_8 Pos_9 Name_10 w =>
    New w (.cells #[.int .i64 0, .int .i64 0, .int .i64 0, .int .i64 0, .int .i64 0, .int .i64 0, .int .i64 0, .string ⟨#[]⟩] 150) fun p11 w =>
    St1 w ⟨p11, 0, none⟩ (.int .i64 Kind_3) fun w =>
    St1 w ⟨p11, 1, none⟩ (.int .i64 A_4) fun w =>
    St1 w ⟨p11, 2, none⟩ (.int .i64 B_5) fun w =>
    St1 w ⟨p11, 3, none⟩ (.int .i64 C_6) fun w =>
    St1 w ⟨p11, 4, none⟩ (.int .i64 Next_7) fun w =>
    St1 w ⟨p11, 5, none⟩ (.int .i64 Val_8) fun w =>
    St1 w ⟨p11, 6, none⟩ (.int .i64 Pos_9) fun w =>
    St1 w ⟨p11, 7, none⟩ (.string Name_10) fun w =>
    Drew w fun w =>
    LdS w ⟨p, 1, none⟩ fun toks_12 =>
    LdI .i64 w ⟨p, 2, none⟩ fun cur_13 =>
    Ix toks_12.a toks_12.l cur_13 fun b14 o15 =>
    LdStr w ⟨b14, o15 + Int.toNat cur_13 * 4 + 3, none⟩ fun Text_16 =>
    St1 w ⟨p11, 7, none⟩ (.string Text_16) fun w =>
    S.parse_Parser_take p 1 w (fun r17 w =>
    if (!r17) = true then
      K (-1) w
    else
      S.parse_Parser_take p 17 w (fun r18 w =>
      if (!r18) = true then
        K (-1) w
      else
        S.parse_Parser_params p w (fun r19 w =>
        St1 w ⟨p11, 1, none⟩ (.int .i64 r19) fun w =>
        S.parse_Parser_take p 18 w (fun r20 w =>
        if (!r20) = true then
          K (-1) w
        else
          S.parse_Parser_typ p w (fun r21 w =>
          St1 w ⟨p11, 5, none⟩ (.int .i64 r21) fun w =>
          S.parse_Parser_block p 8 w (fun r22 w =>
          St1 w ⟨p11, 2, none⟩ (.int .i64 r22) fun w =>
          LdI .i64 w ⟨p11, 0, none⟩ fun Kind_23 =>
          LdI .i64 w ⟨p11, 1, none⟩ fun A_24 =>
          LdI .i64 w ⟨p11, 2, none⟩ fun B_25 =>
          LdI .i64 w ⟨p11, 3, none⟩ fun C_26 =>
          LdI .i64 w ⟨p11, 4, none⟩ fun Next_27 =>
          LdI .i64 w ⟨p11, 5, none⟩ fun Val_28 =>
          LdI .i64 w ⟨p11, 6, none⟩ fun Pos_29 =>
          LdStr w ⟨p11, 7, none⟩ fun Name_30 =>
          S.parse_Parser_add p Kind_23 A_24 B_25 C_26 Next_27 Val_28 Pos_29 Name_30 w (fun r31 w =>
          K r31 w))))))))))
def T.C145 : CallT := (CallT.cons 183 T.c183 (CallT.cons 184 T.c184 (CallT.cons 185 T.c185 (CallT.cons 186 T.c186 (CallT.cons 187 T.c187 (CallT.cons 188 T.c188 (CallT.cons 189 T.c189 CallT.nil)))))))
def T.A145 : Ann := fun _ => none
set_option maxRecDepth 1000000 in
theorem T.eq145 (p : Nat) (w : World) (K : Int → World → Prop) : denF Tryz.prog T.C145 T.A145 Tryz.f145 [.pointer (some ⟨p, 0, none⟩)] w (fun v w' => match v with | .int .i64 r0 => K r0 w' | _ => False) = S.parse_Parser_function p w K := by kernel_rfl
theorem T.CO145 : CallOk Tryz.prog T.C145 := (CallOk.cons 183 T.ok183 (CallOk.cons 184 T.ok184 (CallOk.cons 185 T.ok185 (CallOk.cons 186 T.ok186 (CallOk.cons 187 T.ok187 (CallOk.cons 188 T.ok188 (CallOk.cons 189 T.ok189 CallOk.nil)))))))
def T.c145 (vs : List Value) (w : World) (K : Value → World → Prop) : Prop :=
  match vs with
  | [.pointer (some ⟨p, 0, none⟩)] => S.parse_Parser_function p w (fun r0 w' => K (.int .i64 r0) w')
  | _ => False
theorem T.ok145 : ∀ vs w K, T.c145 vs w K → (callFunc 145 vs.toArray).run Tryz.prog w = .ok (.enter 145 vs.toArray) w ∧ Calls Tryz.prog 145 vs.toArray w fun e w' => ∃ v, e = .returned v ∧ K v w' := by
  intro vs w K h
  unfold T.c145 at h
  split at h
  · refine ⟨Tryz.call145 _ _, ok_of T.CO145 mixed Tryz.func145 (T.eq145 _ _ _) h fun v w' hk => ⟨v, rfl, ?_⟩⟩
    split at hk
    · exact hk
    · exact hk.elim
  · exact h.elim

/-- (*e2e/parse.Parser).program (function 100). -/
def S.parse_Parser_program (p : Nat) (w : World) (K : Int → World → Prop) : Prop :=
  LoopP (σ := Int × Int × Unit) (fun st1 w next2 =>
    LdB w ⟨p, 5, none⟩ fun failed_3 =>
    if (!failed_3) = true then
      S.parse_Parser_kind p w (fun r4 w =>
      if (r4 != 0) = true then
        S.parse_Parser_function p w (fun r5 w =>
        S.parse_Parser_hang p st1.2.1 r5 w (fun r6 w =>
        if (decide (st1.1 < 0)) = true then
          next2 (r6, r6, ()) w
        else
          next2 (st1.1, r6, ()) w))
      else
        K st1.1 w)
    else
      K st1.1 w) (-1, -1, ()) w
def T.C100 : CallT := (CallT.cons 144 T.c144 (CallT.cons 145 T.c145 (CallT.cons 146 T.c146 CallT.nil)))
def T.A100 : Ann := fun i => bif Nat.beq i 2 then some ([0], [(3, 0), (4, 0)]) else none
set_option maxRecDepth 1000000 in
theorem T.eq100 (p : Nat) (w : World) (K : Int → World → Prop) : denF Tryz.prog T.C100 T.A100 Tryz.f100 [.pointer (some ⟨p, 0, none⟩)] w (fun v w' => match v with | .int .i64 r0 => K r0 w' | _ => False) = S.parse_Parser_program p w K := by kernel_rfl
theorem T.CO100 : CallOk Tryz.prog T.C100 := (CallOk.cons 144 T.ok144 (CallOk.cons 145 T.ok145 (CallOk.cons 146 T.ok146 CallOk.nil)))
def T.c100 (vs : List Value) (w : World) (K : Value → World → Prop) : Prop :=
  match vs with
  | [.pointer (some ⟨p, 0, none⟩)] => S.parse_Parser_program p w (fun r0 w' => K (.int .i64 r0) w')
  | _ => False
theorem T.ok100 : ∀ vs w K, T.c100 vs w K → (callFunc 100 vs.toArray).run Tryz.prog w = .ok (.enter 100 vs.toArray) w ∧ Calls Tryz.prog 100 vs.toArray w fun e w' => ∃ v, e = .returned v ∧ K v w' := by
  intro vs w K h
  unfold T.c100 at h
  split at h
  · refine ⟨Tryz.call100 _ _, ok_of T.CO100 mixed Tryz.func100 (T.eq100 _ _ _) h fun v w' hk => ⟨v, rfl, ?_⟩⟩
    split at hk
    · exact hk
    · exact hk.elim
  · exact h.elim

/-- (*e2e/parse.Parser).answer (function 101). -/
def S.parse_Parser_answer (p : Nat) (w : World) (K : Sl → World → Prop) : Prop :=
  LdI .i64 w ⟨p, 4, none⟩ fun n_1 =>
  if (n_1 == 0) = true then
    K ⟨none, 0, 0⟩ w
  else
    LdI .i64 w ⟨p, 4, none⟩ fun n_2 =>
    MkS 150 [.int .i64 0, .int .i64 0, .int .i64 0, .int .i64 0, .int .i64 0, .int .i64 0, .int .i64 0, .string ⟨#[]⟩] 72 w n_2 n_2 fun l3 w =>
    LoopP (σ := Int × Unit) (fun st4 w next5 =>
      LdI .i64 w ⟨p, 4, none⟩ fun n_6 =>
      if (decide (st4.1 < n_6)) = true then
        LdS w ⟨p, 3, none⟩ fun arena_7 =>
        Ix arena_7.a arena_7.l st4.1 fun b8 o9 =>
        LdI .i64 w ⟨b8, o9 + Int.toNat st4.1 * 8, none⟩ fun Kind_10 =>
        LdI .i64 w ⟨b8, o9 + Int.toNat st4.1 * 8 + 1, none⟩ fun A_11 =>
        LdI .i64 w ⟨b8, o9 + Int.toNat st4.1 * 8 + 2, none⟩ fun B_12 =>
        LdI .i64 w ⟨b8, o9 + Int.toNat st4.1 * 8 + 3, none⟩ fun C_13 =>
        LdI .i64 w ⟨b8, o9 + Int.toNat st4.1 * 8 + 4, none⟩ fun Next_14 =>
        LdI .i64 w ⟨b8, o9 + Int.toNat st4.1 * 8 + 5, none⟩ fun Val_15 =>
        LdI .i64 w ⟨b8, o9 + Int.toNat st4.1 * 8 + 6, none⟩ fun Pos_16 =>
        LdStr w ⟨b8, o9 + Int.toNat st4.1 * 8 + 7, none⟩ fun Name_17 =>
        Ix l3.a l3.l st4.1 fun b18 o19 =>
        St1 w ⟨b18, o19 + Int.toNat st4.1 * 8, none⟩ (.int .i64 Kind_10) fun w =>
        St1 w ⟨b18, o19 + Int.toNat st4.1 * 8 + 1, none⟩ (.int .i64 A_11) fun w =>
        St1 w ⟨b18, o19 + Int.toNat st4.1 * 8 + 2, none⟩ (.int .i64 B_12) fun w =>
        St1 w ⟨b18, o19 + Int.toNat st4.1 * 8 + 3, none⟩ (.int .i64 C_13) fun w =>
        St1 w ⟨b18, o19 + Int.toNat st4.1 * 8 + 4, none⟩ (.int .i64 Next_14) fun w =>
        St1 w ⟨b18, o19 + Int.toNat st4.1 * 8 + 5, none⟩ (.int .i64 Val_15) fun w =>
        St1 w ⟨b18, o19 + Int.toNat st4.1 * 8 + 6, none⟩ (.int .i64 Pos_16) fun w =>
        St1 w ⟨b18, o19 + Int.toNat st4.1 * 8 + 7, none⟩ (.string Name_17) fun w =>
        Let (W (st4.1 + 1)) fun i_20 =>
        next5 (i_20, ()) w
      else
        K l3 w) (0, ()) w
def T.C101 : CallT := CallT.nil
def T.A101 : Ann := fun i => bif Nat.beq i 5 then some ([0, 3], [(4, 0)]) else none
set_option maxRecDepth 1000000 in
theorem T.eq101 (p : Nat) (w : World) (K : Sl → World → Prop) : denF Tryz.prog T.C101 T.A101 Tryz.f101 [.pointer (some ⟨p, 0, none⟩)] w (fun v w' => match v with | .slice r0a r0l r0c => K ⟨r0a, r0l, r0c⟩ w' | _ => False) = S.parse_Parser_answer p w K := by kernel_rfl
theorem T.CO101 : CallOk Tryz.prog T.C101 := CallOk.nil
def T.c101 (vs : List Value) (w : World) (K : Value → World → Prop) : Prop :=
  match vs with
  | [.pointer (some ⟨p, 0, none⟩)] => S.parse_Parser_answer p w (fun r0 w' => K (.slice r0.a r0.l r0.c) w')
  | _ => False
theorem T.ok101 : ∀ vs w K, T.c101 vs w K → (callFunc 101 vs.toArray).run Tryz.prog w = .ok (.enter 101 vs.toArray) w ∧ Calls Tryz.prog 101 vs.toArray w fun e w' => ∃ v, e = .returned v ∧ K v w' := by
  intro vs w K h
  unfold T.c101 at h
  split at h
  · refine ⟨Tryz.call101 _ _, ok_of T.CO101 mixed Tryz.func101 (T.eq101 _ _ _) h fun v w' hk => ⟨v, rfl, ?_⟩⟩
    split at hk
    · exact hk
    · exact hk.elim
  · exact h.elim

/-- (*e2e/parse.Parser).Parse (function 50). -/
def S.parse_Parser_Parse (p : Nat) (src : ByteArray) (w : World) (K : Sl → Int → Int → Int → World → Prop) : Prop :=
  New w (.cells #[.slice none 0 0, .int .i64 0, .int .i64 0, .int .i64 0] 100) fun p1 w =>
  LdP w ⟨p, 0, none⟩ fun lx_2 =>
  S.lex_Lexer_Lex lx_2 src w (fun List_3 Err_4 Pos_5 w =>
  New w (.cells #[.slice none 0 0, .int .i64 0, .int .i64 0] 168) fun p6 w =>
  St1 w ⟨p6, 0, none⟩ (.slice List_3.a List_3.l List_3.c) fun w =>
  St1 w ⟨p6, 1, none⟩ (.int .i64 Err_4) fun w =>
  St1 w ⟨p6, 2, none⟩ (.int .i64 Pos_5) fun w =>
  LdS w ⟨p6, 0, none⟩ fun List_7 =>
  St1 w ⟨p, 1, none⟩ (.slice List_7.a List_7.l List_7.c) fun w =>
  St1 w ⟨p, 2, none⟩ (.int .i64 0) fun w =>
  St1 w ⟨p, 4, none⟩ (.int .i64 0) fun w =>
  St1 w ⟨p, 5, none⟩ (.bool false) fun w =>
  St1 w ⟨p, 6, none⟩ (.int .i64 0) fun w =>
  St1 w ⟨p, 7, none⟩ (.int .i64 0) fun w =>
  LdI .i64 w ⟨p6, 1, none⟩ fun Err_8 =>
  if (Err_8 != 0) = true then
    St1 w ⟨p, 1, none⟩ (.slice none 0 0) fun w =>
    LdI .i64 w ⟨p6, 1, none⟩ fun Err_9 =>
    LdI .i64 w ⟨p6, 2, none⟩ fun Pos_10 =>
    St1 w ⟨p1, 0, none⟩ (.slice none 0 0) fun w =>
    St1 w ⟨p1, 1, none⟩ (.int .i64 (-1)) fun w =>
    St1 w ⟨p1, 2, none⟩ (.int .i64 Err_9) fun w =>
    St1 w ⟨p1, 3, none⟩ (.int .i64 Pos_10) fun w =>
    LdS w ⟨p1, 0, none⟩ fun Nodes_11 =>
    LdI .i64 w ⟨p1, 1, none⟩ fun Root_12 =>
    LdI .i64 w ⟨p1, 2, none⟩ fun Err_13 =>
    LdI .i64 w ⟨p1, 3, none⟩ fun Pos_14 =>
    K Nodes_11 Root_12 Err_13 Pos_14 w
  else
    S.parse_Parser_program p w (fun r15 w =>
    LdB w ⟨p, 5, none⟩ fun failed_16 =>
    if failed_16 = true then
      Drew w fun w =>
      LdI .i64 w ⟨p, 6, none⟩ fun err_17 =>
      LdI .i64 w ⟨p, 7, none⟩ fun pos_18 =>
      St1 w ⟨p1, 0, none⟩ (.slice none 0 0) fun w =>
      St1 w ⟨p1, 1, none⟩ (.int .i64 (-1)) fun w =>
      St1 w ⟨p1, 2, none⟩ (.int .i64 err_17) fun w =>
      St1 w ⟨p1, 3, none⟩ (.int .i64 pos_18) fun w =>
      LdS w ⟨p1, 0, none⟩ fun Nodes_19 =>
      LdI .i64 w ⟨p1, 1, none⟩ fun Root_20 =>
      LdI .i64 w ⟨p1, 2, none⟩ fun Err_21 =>
      LdI .i64 w ⟨p1, 3, none⟩ fun Pos_22 =>
      K Nodes_19 Root_20 Err_21 Pos_22 w
    else
      S.parse_Parser_answer p w (fun r23 w =>
      St1 w ⟨p1, 0, none⟩ (.slice r23.a r23.l r23.c) fun w =>
      St1 w ⟨p1, 1, none⟩ (.int .i64 r15) fun w =>
      St1 w ⟨p1, 2, none⟩ (.int .i64 0) fun w =>
      St1 w ⟨p1, 3, none⟩ (.int .i64 0) fun w =>
      LdS w ⟨p1, 0, none⟩ fun Nodes_24 =>
      LdI .i64 w ⟨p1, 1, none⟩ fun Root_25 =>
      LdI .i64 w ⟨p1, 2, none⟩ fun Err_26 =>
      LdI .i64 w ⟨p1, 3, none⟩ fun Pos_27 =>
      K Nodes_24 Root_25 Err_26 Pos_27 w)))
def T.C50 : CallT := (CallT.cons 99 T.c99 (CallT.cons 100 T.c100 (CallT.cons 101 T.c101 CallT.nil)))
def T.A50 : Ann := fun _ => none
set_option maxRecDepth 1000000 in
theorem T.eq50 (p : Nat) (src : ByteArray) (w : World) (K : Sl → Int → Int → Int → World → Prop) : denF Tryz.prog T.C50 T.A50 Tryz.f50 [.pointer (some ⟨p, 0, none⟩), .string src] w (fun v w' => match v with | .agg ⟨[.slice r0a r0l r0c, .int .i64 r1, .int .i64 r2, .int .i64 r3]⟩ => K ⟨r0a, r0l, r0c⟩ r1 r2 r3 w' | _ => False) = S.parse_Parser_Parse p src w K := by kernel_rfl
theorem T.CO50 : CallOk Tryz.prog T.C50 := (CallOk.cons 99 T.ok99 (CallOk.cons 100 T.ok100 (CallOk.cons 101 T.ok101 CallOk.nil)))
def T.c50 (vs : List Value) (w : World) (K : Value → World → Prop) : Prop :=
  match vs with
  | [.pointer (some ⟨p, 0, none⟩), .string src] => S.parse_Parser_Parse p src w (fun r0 r1 r2 r3 w' => K (.agg #[.slice r0.a r0.l r0.c, .int .i64 r1, .int .i64 r2, .int .i64 r3]) w')
  | _ => False
theorem T.ok50 : ∀ vs w K, T.c50 vs w K → (callFunc 50 vs.toArray).run Tryz.prog w = .ok (.enter 50 vs.toArray) w ∧ Calls Tryz.prog 50 vs.toArray w fun e w' => ∃ v, e = .returned v ∧ K v w' := by
  intro vs w K h
  unfold T.c50 at h
  split at h
  · refine ⟨Tryz.call50 _ _, ok_of T.CO50 mixed Tryz.func50 (T.eq50 _ _ _ _) h fun v w' hk => ⟨v, rfl, ?_⟩⟩
    split at hk
    · exact hk
    · exact hk.elim
  · exact h.elim

/-- e2e/check.refused (function 51). -/
def S.check_refused (e : Int) (pos : Int) (w : World) (K : Sl → Int → Int → Int → Sl → Sl → Sl → Int → Int → Int → World → Prop) : Prop :=
  New w (.cells #[.slice none 0 0, .int .i64 0, .int .i64 0, .int .i64 0, .slice none 0 0, .slice none 0 0, .slice none 0 0, .int .i64 0, .int .i64 0, .int .i64 0] 103) fun p1 w =>
  St1 w ⟨p1, 0, none⟩ (.slice none 0 0) fun w =>
  St1 w ⟨p1, 1, none⟩ (.int .i64 (-1)) fun w =>
  St1 w ⟨p1, 2, none⟩ (.int .i64 0) fun w =>
  St1 w ⟨p1, 3, none⟩ (.int .i64 0) fun w =>
  St1 w ⟨p1, 4, none⟩ (.slice none 0 0) fun w =>
  St1 w ⟨p1, 5, none⟩ (.slice none 0 0) fun w =>
  St1 w ⟨p1, 6, none⟩ (.slice none 0 0) fun w =>
  St1 w ⟨p1, 7, none⟩ (.int .i64 (-1)) fun w =>
  St1 w ⟨p1, 8, none⟩ (.int .i64 e) fun w =>
  St1 w ⟨p1, 9, none⟩ (.int .i64 pos) fun w =>
  LdS w ⟨p1, 0, none⟩ fun Tree_Nodes_2 =>
  LdI .i64 w ⟨p1, 1, none⟩ fun Tree_Root_3 =>
  LdI .i64 w ⟨p1, 2, none⟩ fun Tree_Err_4 =>
  LdI .i64 w ⟨p1, 3, none⟩ fun Tree_Pos_5 =>
  LdS w ⟨p1, 4, none⟩ fun Ty_6 =>
  LdS w ⟨p1, 5, none⟩ fun Ref_7 =>
  LdS w ⟨p1, 6, none⟩ fun Funcs_8 =>
  LdI .i64 w ⟨p1, 7, none⟩ fun Main_9 =>
  LdI .i64 w ⟨p1, 8, none⟩ fun Err_10 =>
  LdI .i64 w ⟨p1, 9, none⟩ fun Pos_11 =>
  K Tree_Nodes_2 Tree_Root_3 Tree_Err_4 Tree_Pos_5 Ty_6 Ref_7 Funcs_8 Main_9 Err_10 Pos_11 w
def T.C51 : CallT := CallT.nil
def T.A51 : Ann := fun _ => none
set_option maxRecDepth 1000000 in
theorem T.eq51 (e : Int) (pos : Int) (w : World) (K : Sl → Int → Int → Int → Sl → Sl → Sl → Int → Int → Int → World → Prop) : denF Tryz.prog T.C51 T.A51 Tryz.f51 [.int .i64 e, .int .i64 pos] w (fun v w' => match v with | .agg ⟨[.slice r0a r0l r0c, .int .i64 r1, .int .i64 r2, .int .i64 r3, .slice r4a r4l r4c, .slice r5a r5l r5c, .slice r6a r6l r6c, .int .i64 r7, .int .i64 r8, .int .i64 r9]⟩ => K ⟨r0a, r0l, r0c⟩ r1 r2 r3 ⟨r4a, r4l, r4c⟩ ⟨r5a, r5l, r5c⟩ ⟨r6a, r6l, r6c⟩ r7 r8 r9 w' | _ => False) = S.check_refused e pos w K := by kernel_rfl
theorem T.CO51 : CallOk Tryz.prog T.C51 := CallOk.nil
def T.c51 (vs : List Value) (w : World) (K : Value → World → Prop) : Prop :=
  match vs with
  | [.int .i64 e, .int .i64 pos] => S.check_refused e pos w (fun r0 r1 r2 r3 r4 r5 r6 r7 r8 r9 w' => K (.agg #[.slice r0.a r0.l r0.c, .int .i64 r1, .int .i64 r2, .int .i64 r3, .slice r4.a r4.l r4.c, .slice r5.a r5.l r5.c, .slice r6.a r6.l r6.c, .int .i64 r7, .int .i64 r8, .int .i64 r9]) w')
  | _ => False
theorem T.ok51 : ∀ vs w K, T.c51 vs w K → (callFunc 51 vs.toArray).run Tryz.prog w = .ok (.enter 51 vs.toArray) w ∧ Calls Tryz.prog 51 vs.toArray w fun e w' => ∃ v, e = .returned v ∧ K v w' := by
  intro vs w K h
  unfold T.c51 at h
  split at h
  · refine ⟨Tryz.call51 _ _, ok_of T.CO51 mixed Tryz.func51 (T.eq51 _ _ _ _) h fun v w' hk => ⟨v, rfl, ?_⟩⟩
    split at hk
    · exact hk
    · exact hk.elim
  · exact h.elim

/-- (*e2e/check.Checker).fail (function 102). -/
def S.check_Checker_fail (c : Nat) (e : Int) (pos : Int) (w : World) (K : Bool → World → Prop) : Prop :=
  St1 w ⟨c, 418, none⟩ (.int .i64 e) fun w =>
  St1 w ⟨c, 419, none⟩ (.int .i64 pos) fun w =>
  K false w
def T.C102 : CallT := CallT.nil
def T.A102 : Ann := fun _ => none
set_option maxRecDepth 1000000 in
theorem T.eq102 (c : Nat) (e : Int) (pos : Int) (w : World) (K : Bool → World → Prop) : denF Tryz.prog T.C102 T.A102 Tryz.f102 [.pointer (some ⟨c, 0, none⟩), .int .i64 e, .int .i64 pos] w (fun v w' => match v with | .bool r0 => K r0 w' | _ => False) = S.check_Checker_fail c e pos w K := by kernel_rfl
theorem T.CO102 : CallOk Tryz.prog T.C102 := CallOk.nil
def T.c102 (vs : List Value) (w : World) (K : Value → World → Prop) : Prop :=
  match vs with
  | [.pointer (some ⟨c, 0, none⟩), .int .i64 e, .int .i64 pos] => S.check_Checker_fail c e pos w (fun r0 w' => K (.bool r0) w')
  | _ => False
theorem T.ok102 : ∀ vs w K, T.c102 vs w K → (callFunc 102 vs.toArray).run Tryz.prog w = .ok (.enter 102 vs.toArray) w ∧ Calls Tryz.prog 102 vs.toArray w fun e w' => ∃ v, e = .returned v ∧ K v w' := by
  intro vs w K h
  unfold T.c102 at h
  split at h
  · refine ⟨Tryz.call102 _ _, ok_of T.CO102 mixed Tryz.func102 (T.eq102 _ _ _ _ _) h fun v w' hk => ⟨v, rfl, ?_⟩⟩
    split at hk
    · exact hk
    · exact hk.elim
  · exact h.elim

/-- e2e/check.Bucket (function 108). -/
def S.check_Bucket (name : ByteArray) (w : World) (K : Int → World → Prop) : Prop :=
  LoopP (σ := Int × Int × Unit) (fun st1 w next2 =>
    if (decide (st1.2.1 < (name.size : Int))) = true then
      IxStr name st1.2.1 fun c3 =>
      Let (And .i64 (W ((W (st1.1 * 5)) + (W c3))) 15) fun h_4 =>
      Let (W (st1.2.1 + 1)) fun i_5 =>
      next2 (h_4, i_5, ()) w
    else
      K st1.1 w) (0, 0, ()) w
def T.C108 : CallT := CallT.nil
def T.A108 : Ann := fun i => bif Nat.beq i 3 then some ([0], [(3, 0), (4, 0)]) else none
set_option maxRecDepth 1000000 in
theorem T.eq108 (name : ByteArray) (w : World) (K : Int → World → Prop) : denF Tryz.prog T.C108 T.A108 Tryz.f108 [.string name] w (fun v w' => match v with | .int .i64 r0 => K r0 w' | _ => False) = S.check_Bucket name w K := by kernel_rfl
theorem T.CO108 : CallOk Tryz.prog T.C108 := CallOk.nil
def T.c108 (vs : List Value) (w : World) (K : Value → World → Prop) : Prop :=
  match vs with
  | [.string name] => S.check_Bucket name w (fun r0 w' => K (.int .i64 r0) w')
  | _ => False
theorem T.ok108 : ∀ vs w K, T.c108 vs w K → (callFunc 108 vs.toArray).run Tryz.prog w = .ok (.enter 108 vs.toArray) w ∧ Calls Tryz.prog 108 vs.toArray w fun e w' => ∃ v, e = .returned v ∧ K v w' := by
  intro vs w K h
  unfold T.c108 at h
  split at h
  · refine ⟨Tryz.call108 _ _, ok_of T.CO108 mixed Tryz.func108 (T.eq108 _ _ _) h fun v w' hk => ⟨v, rfl, ?_⟩⟩
    split at hk
    · exact hk
    · exact hk.elim
  · exact h.elim

/-- (*e2e/check.table).find (function 55). -/
def S.check_table_find (t : Nat) (t_o : Nat) (name : ByteArray) (w : World) (K : Int → World → Prop) : Prop :=
  Drew w fun w =>
  S.check_Bucket name w (fun r1 w =>
  IxA 16 r1 <|
  LdI .i64 w ⟨t, t_o + Int.toNat r1 * 1, none⟩ fun heads_2 =>
  LoopP (σ := Int × Unit) (fun st3 w next4 =>
    if (decide (st3.1 ≥ 0)) = true then
      IxA 24 st3.1 <|
      LdStr w ⟨t, t_o + 16 + Int.toNat st3.1 * 6, none⟩ fun name_5 =>
      if (!(name_5.toList == name.toList)) = true then
        IxA 24 st3.1 <|
        LdI .i64 w ⟨t, t_o + 16 + Int.toNat st3.1 * 6 + 5, none⟩ fun next_6 =>
        next4 (next_6, ()) w
      else
        K st3.1 w
    else
      K st3.1 w) (heads_2, ()) w)
def T.C55 : CallT := (CallT.cons 108 T.c108 CallT.nil)
def T.A55 : Ann := fun i => bif Nat.beq i 2 then some ([0, 1], [(5, 0)]) else none
set_option maxRecDepth 1000000 in
theorem T.eq55 (t : Nat) (t_o : Nat) (name : ByteArray) (w : World) (K : Int → World → Prop) : denF Tryz.prog T.C55 T.A55 Tryz.f55 [.pointer (some ⟨t, t_o, none⟩), .string name] w (fun v w' => match v with | .int .i64 r0 => K r0 w' | _ => False) = S.check_table_find t t_o name w K := by kernel_rfl
theorem T.CO55 : CallOk Tryz.prog T.C55 := (CallOk.cons 108 T.ok108 CallOk.nil)
def T.c55 (vs : List Value) (w : World) (K : Value → World → Prop) : Prop :=
  match vs with
  | [.pointer (some ⟨t, t_o, none⟩), .string name] => S.check_table_find t t_o name w (fun r0 w' => K (.int .i64 r0) w')
  | _ => False
theorem T.ok55 : ∀ vs w K, T.c55 vs w K → (callFunc 55 vs.toArray).run Tryz.prog w = .ok (.enter 55 vs.toArray) w ∧ Calls Tryz.prog 55 vs.toArray w fun e w' => ∃ v, e = .returned v ∧ K v w' := by
  intro vs w K h
  unfold T.c55 at h
  split at h
  · refine ⟨Tryz.call55 _ _, ok_of T.CO55 mixed Tryz.func55 (T.eq55 _ _ _ _ _) h fun v w' hk => ⟨v, rfl, ?_⟩⟩
    split at hk
    · exact hk
    · exact hk.elim
  · exact h.elim

/-- (*e2e/check.table).push (function 103). -/
def S.check_table_push (t : Nat) (t_o : Nat) (name : ByteArray) (ty : Int) (slot : Int) (level : Int) (w : World) (K : World → Prop) : Prop :=
  S.check_Bucket name w (fun r1 w =>
  Drew w fun w =>
  LdI .i64 w ⟨t, t_o + 160, none⟩ fun n_2 =>
  IxA 16 r1 <|
  LdI .i64 w ⟨t, t_o + Int.toNat r1 * 1, none⟩ fun heads_3 =>
  IxA 24 n_2 <|
  St1 w ⟨t, t_o + 16 + Int.toNat n_2 * 6, none⟩ (.string name) fun w =>
  St1 w ⟨t, t_o + 16 + Int.toNat n_2 * 6 + 1, none⟩ (.int .i64 ty) fun w =>
  St1 w ⟨t, t_o + 16 + Int.toNat n_2 * 6 + 2, none⟩ (.int .i64 slot) fun w =>
  St1 w ⟨t, t_o + 16 + Int.toNat n_2 * 6 + 3, none⟩ (.int .i64 level) fun w =>
  St1 w ⟨t, t_o + 16 + Int.toNat n_2 * 6 + 4, none⟩ (.int .i64 r1) fun w =>
  St1 w ⟨t, t_o + 16 + Int.toNat n_2 * 6 + 5, none⟩ (.int .i64 heads_3) fun w =>
  Drew w fun w =>
  LdI .i64 w ⟨t, t_o + 160, none⟩ fun n_4 =>
  IxA 16 r1 <|
  St1 w ⟨t, t_o + Int.toNat r1 * 1, none⟩ (.int .i64 n_4) fun w =>
  LdI .i64 w ⟨t, t_o + 160, none⟩ fun n_5 =>
  St1 w ⟨t, t_o + 160, none⟩ (.int .i64 (W (n_5 + 1))) fun w =>
  K w)
def T.C103 : CallT := (CallT.cons 108 T.c108 CallT.nil)
def T.A103 : Ann := fun _ => none
set_option maxRecDepth 1000000 in
theorem T.eq103 (t : Nat) (t_o : Nat) (name : ByteArray) (ty : Int) (slot : Int) (level : Int) (w : World) (K : World → Prop) : denF Tryz.prog T.C103 T.A103 Tryz.f103 [.pointer (some ⟨t, t_o, none⟩), .string name, .int .i64 ty, .int .i64 slot, .int .i64 level] w (fun v w' => match v with | .tuple ⟨[]⟩ => K w' | _ => False) = S.check_table_push t t_o name ty slot level w K := by kernel_rfl
theorem T.CO103 : CallOk Tryz.prog T.C103 := (CallOk.cons 108 T.ok108 CallOk.nil)
def T.c103 (vs : List Value) (w : World) (K : Value → World → Prop) : Prop :=
  match vs with
  | [.pointer (some ⟨t, t_o, none⟩), .string name, .int .i64 ty, .int .i64 slot, .int .i64 level] => S.check_table_push t t_o name ty slot level w (fun w' => K (.tuple #[]) w')
  | _ => False
theorem T.ok103 : ∀ vs w K, T.c103 vs w K → (callFunc 103 vs.toArray).run Tryz.prog w = .ok (.enter 103 vs.toArray) w ∧ Calls Tryz.prog 103 vs.toArray w fun e w' => ∃ v, e = .returned v ∧ K v w' := by
  intro vs w K h
  unfold T.c103 at h
  split at h
  · refine ⟨Tryz.call103 _ _, ok_of T.CO103 mixed Tryz.func103 (T.eq103 _ _ _ _ _ _ _ _) h fun v w' hk => ⟨v, rfl, ?_⟩⟩
    split at hk
    · exact hk
    · exact hk.elim
  · exact h.elim

/-- (*e2e/check.Checker).allHeads (function 52). -/
def S.check_Checker_allHeads (c : Nat) (root : Int) (w : World) (K : Bool → World → Prop) : Prop :=
  LoopP (σ := Int × Unit) (fun st1 w next2 =>
    if (decide (st1.1 ≥ 0)) = true then
      LdI .i64 w ⟨c, 325, none⟩ fun n_3 =>
      if (decide (n_3 ≥ 8)) = true then
        LdS w ⟨c, 415, none⟩ fun t_4 =>
        Ix t_4.a t_4.l st1.1 fun b5 o6 =>
        LdI .i64 w ⟨b5, o6 + Int.toNat st1.1 * 8 + 6, none⟩ fun Pos_7 =>
        S.check_Checker_fail c 19 Pos_7 w (fun r8 w =>
        K r8 w)
      else
        Drew w fun w =>
        LdS w ⟨c, 415, none⟩ fun t_9 =>
        Ix t_9.a t_9.l st1.1 fun b10 o11 =>
        LdStr w ⟨b10, o11 + Int.toNat st1.1 * 8 + 7, none⟩ fun Name_12 =>
        S.check_table_find c 165 Name_12 w (fun r13 w =>
        if (decide (r13 ≥ 0)) = true then
          LdS w ⟨c, 415, none⟩ fun t_14 =>
          Ix t_14.a t_14.l st1.1 fun b15 o16 =>
          LdI .i64 w ⟨b15, o16 + Int.toNat st1.1 * 8 + 6, none⟩ fun Pos_17 =>
          S.check_Checker_fail c 13 Pos_17 w (fun r18 w =>
          K r18 w)
        else
          Drew w fun w =>
          Hold w ⟨c, 415, none⟩ 1 fun R19 =>
          LdS w ⟨c, 415, none⟩ fun t_20 =>
          Ix t_20.a t_20.l st1.1 fun b21 o22 =>
          Hold w ⟨b21, o22 + Int.toNat st1.1 * 8 + 5, none⟩ 1 fun R23 =>
          LdI .i64 w ⟨b21, o22 + Int.toNat st1.1 * 8 + 5, none⟩ fun Val_24 =>
          Hold w ⟨c, 415, none⟩ 1 fun R25 =>
          LdS w ⟨c, 415, none⟩ fun t_26 =>
          Ix t_26.a t_26.l st1.1 fun b27 o28 =>
          Hold w ⟨b27, o28 + Int.toNat st1.1 * 8 + 7, none⟩ 1 fun R29 =>
          LdStr w ⟨b27, o28 + Int.toNat st1.1 * 8 + 7, none⟩ fun Name_30 =>
          New w (.cells #[.int .i64 0, .int .i64 0, .int .i64 0, .int .i64 0, .int .i64 0, .int .i64 0, .string ⟨#[]⟩] 94) fun p31 w =>
          After R29 w <|
          After R25 w <|
          After R23 w <|
          After R19 w <|
          St1 w ⟨p31, 0, none⟩ (.int .i64 st1.1) fun w =>
          St1 w ⟨p31, 1, none⟩ (.int .i64 Val_24) fun w =>
          St1 w ⟨p31, 2, none⟩ (.int .i64 0) fun w =>
          St1 w ⟨p31, 3, none⟩ (.int .i64 0) fun w =>
          St1 w ⟨p31, 4, none⟩ (.int .i64 0) fun w =>
          St1 w ⟨p31, 5, none⟩ (.int .i64 0) fun w =>
          St1 w ⟨p31, 6, none⟩ (.string Name_30) fun w =>
          LdS w ⟨c, 415, none⟩ fun t_32 =>
          Ix t_32.a t_32.l st1.1 fun b33 o34 =>
          LdI .i64 w ⟨b33, o34 + Int.toNat st1.1 * 8 + 1, none⟩ fun A_35 =>
          Join (fun (w : World) =>
            Drew w fun w =>
            LdI .i64 w ⟨c, 325, none⟩ fun n_36 =>
            LdI .i64 w ⟨p31, 0, none⟩ fun Node_37 =>
            LdI .i64 w ⟨p31, 1, none⟩ fun Ret_38 =>
            LdI .i64 w ⟨p31, 2, none⟩ fun PI_39 =>
            LdI .i64 w ⟨p31, 3, none⟩ fun PR_40 =>
            LdI .i64 w ⟨p31, 4, none⟩ fun LI_41 =>
            LdI .i64 w ⟨p31, 5, none⟩ fun LR_42 =>
            LdStr w ⟨p31, 6, none⟩ fun Name_43 =>
            IxA 8 n_36 <|
            St1 w ⟨c, 326 + Int.toNat n_36 * 7, none⟩ (.int .i64 Node_37) fun w =>
            St1 w ⟨c, 326 + Int.toNat n_36 * 7 + 1, none⟩ (.int .i64 Ret_38) fun w =>
            St1 w ⟨c, 326 + Int.toNat n_36 * 7 + 2, none⟩ (.int .i64 PI_39) fun w =>
            St1 w ⟨c, 326 + Int.toNat n_36 * 7 + 3, none⟩ (.int .i64 PR_40) fun w =>
            St1 w ⟨c, 326 + Int.toNat n_36 * 7 + 4, none⟩ (.int .i64 LI_41) fun w =>
            St1 w ⟨c, 326 + Int.toNat n_36 * 7 + 5, none⟩ (.int .i64 LR_42) fun w =>
            St1 w ⟨c, 326 + Int.toNat n_36 * 7 + 6, none⟩ (.string Name_43) fun w =>
            Drew w fun w =>
            LdStr w ⟨p31, 6, none⟩ fun Name_44 =>
            S.check_table_push c 165 Name_44 0 0 0 w (fun w =>
            LdS w ⟨c, 415, none⟩ fun t_45 =>
            Ix t_45.a t_45.l st1.1 fun b46 o47 =>
            LdI .i64 w ⟨b46, o47 + Int.toNat st1.1 * 8 + 4, none⟩ fun Next_48 =>
            next2 (Next_48, ()) w)) fun J49 =>
          LoopP (σ := Int × Unit) (fun st50 w next51 =>
            if (decide (st50.1 ≥ 0)) = true then
              Join (fun (w : World) =>
                LdS w ⟨c, 415, none⟩ fun t_52 =>
                Ix t_52.a t_52.l st50.1 fun b53 o54 =>
                LdI .i64 w ⟨b53, o54 + Int.toNat st50.1 * 8 + 4, none⟩ fun Next_55 =>
                next51 (Next_55, ()) w) fun J56 =>
              LdI .i64 w ⟨p31, 2, none⟩ fun PI_57 =>
              LdI .i64 w ⟨p31, 3, none⟩ fun PR_58 =>
              if (decide ((W (PI_57 + PR_58)) ≥ 4)) = true then
                LdS w ⟨c, 415, none⟩ fun t_59 =>
                Ix t_59.a t_59.l st50.1 fun b60 o61 =>
                LdI .i64 w ⟨b60, o61 + Int.toNat st50.1 * 8 + 6, none⟩ fun Pos_62 =>
                S.check_Checker_fail c 19 Pos_62 w (fun r63 w =>
                K r63 w)
              else
                Drew w fun w =>
                LdI .i64 w ⟨c, 325, none⟩ fun n_64 =>
                LdI .i64 w ⟨p31, 2, none⟩ fun PI_65 =>
                LdI .i64 w ⟨p31, 3, none⟩ fun PR_66 =>
                LdS w ⟨c, 415, none⟩ fun t_67 =>
                Ix t_67.a t_67.l st50.1 fun b68 o69 =>
                LdI .i64 w ⟨b68, o69 + Int.toNat st50.1 * 8 + 5, none⟩ fun Val_70 =>
                IxA 32 (W ((W ((W (n_64 * 4)) + PI_65)) + PR_66)) <|
                St1 w ⟨c, 382 + Int.toNat (W ((W ((W (n_64 * 4)) + PI_65)) + PR_66)) * 1, none⟩ (.int .i64 Val_70) fun w =>
                LdS w ⟨c, 415, none⟩ fun t_71 =>
                Ix t_71.a t_71.l st50.1 fun b72 o73 =>
                LdI .i64 w ⟨b72, o73 + Int.toNat st50.1 * 8 + 5, none⟩ fun Val_74 =>
                if (decide (Val_74 ≥ 2)) = true then
                  LdI .i64 w ⟨p31, 3, none⟩ fun PR_75 =>
                  St1 w ⟨p31, 3, none⟩ (.int .i64 (W (PR_75 + 1))) fun w =>
                  J56 w
                else
                  LdI .i64 w ⟨p31, 2, none⟩ fun PI_76 =>
                  St1 w ⟨p31, 2, none⟩ (.int .i64 (W (PI_76 + 1))) fun w =>
                  J56 w
            else
              J49 w) (A_35, ()) w)
    else
      K true w) (root, ()) w
def T.C52 : CallT := (CallT.cons 102 T.c102 (CallT.cons 55 T.c55 (CallT.cons 103 T.c103 CallT.nil)))
def T.A52 : Ann := fun i => bif Nat.beq i 1000017 then some ([], [(0, 5), (5, 0), (6, 5), (7, 0)]) else bif Nat.beq i 10 then some ([0, 5, 6], [(7, 0)]) else bif Nat.beq i 2 then some ([0], [(5, 0)]) else none
set_option maxRecDepth 1000000 in
theorem T.eq52 (c : Nat) (root : Int) (w : World) (K : Bool → World → Prop) : denF Tryz.prog T.C52 T.A52 Tryz.f52 [.pointer (some ⟨c, 0, none⟩), .int .i64 root] w (fun v w' => match v with | .bool r0 => K r0 w' | _ => False) = S.check_Checker_allHeads c root w K := by kernel_rfl
theorem T.CO52 : CallOk Tryz.prog T.C52 := (CallOk.cons 102 T.ok102 (CallOk.cons 55 T.ok55 (CallOk.cons 103 T.ok103 CallOk.nil)))
def T.c52 (vs : List Value) (w : World) (K : Value → World → Prop) : Prop :=
  match vs with
  | [.pointer (some ⟨c, 0, none⟩), .int .i64 root] => S.check_Checker_allHeads c root w (fun r0 w' => K (.bool r0) w')
  | _ => False
theorem T.ok52 : ∀ vs w K, T.c52 vs w K → (callFunc 52 vs.toArray).run Tryz.prog w = .ok (.enter 52 vs.toArray) w ∧ Calls Tryz.prog 52 vs.toArray w fun e w' => ∃ v, e = .returned v ∧ K v w' := by
  intro vs w K h
  unfold T.c52 at h
  split at h
  · refine ⟨Tryz.call52 _ _, ok_of T.CO52 mixed Tryz.func52 (T.eq52 _ _ _ _) h fun v w' hk => ⟨v, rfl, ?_⟩⟩
    split at hk
    · exact hk
    · exact hk.elim
  · exact h.elim

/-- (*e2e/check.Checker).mainIsThere (function 54). -/
def S.check_Checker_mainIsThere (c : Nat) (end_ : Int) (w : World) (K : Bool → World → Prop) : Prop :=
  S.check_table_find c 165 ⟨#[109, 97, 105, 110]⟩ w (fun r1 w =>
  if (decide (r1 < 0)) = true then
    S.check_Checker_fail c 20 end_ w (fun r2 w =>
    K r2 w)
  else
    Join (fun (w : World) =>
      Drew w fun w =>
      LdS w ⟨c, 415, none⟩ fun t_3 =>
      IxA 8 r1 <|
      LdI .i64 w ⟨c, 326 + Int.toNat r1 * 7, none⟩ fun Node_4 =>
      Ix t_3.a t_3.l Node_4 fun b5 o6 =>
      LdI .i64 w ⟨b5, o6 + Int.toNat Node_4 * 8 + 6, none⟩ fun Pos_7 =>
      S.check_Checker_fail c 20 Pos_7 w (fun r8 w =>
      K r8 w)) fun J9 =>
    Drew w fun w =>
    IxA 8 r1 <|
    LdI .i64 w ⟨c, 326 + Int.toNat r1 * 7 + 2, none⟩ fun PI_10 =>
    IxA 8 r1 <|
    LdI .i64 w ⟨c, 326 + Int.toNat r1 * 7 + 3, none⟩ fun PR_11 =>
    if ((W (PI_10 + PR_11)) != 0) = true then
      J9 w
    else
      IxA 8 r1 <|
      LdI .i64 w ⟨c, 326 + Int.toNat r1 * 7 + 1, none⟩ fun Ret_12 =>
      if (Ret_12 != 0) = true then
        J9 w
      else
        K true w)
def T.C54 : CallT := (CallT.cons 55 T.c55 (CallT.cons 102 T.c102 CallT.nil))
def T.A54 : Ann := fun _ => none
set_option maxRecDepth 1000000 in
theorem T.eq54 (c : Nat) (end_ : Int) (w : World) (K : Bool → World → Prop) : denF Tryz.prog T.C54 T.A54 Tryz.f54 [.pointer (some ⟨c, 0, none⟩), .int .i64 end_] w (fun v w' => match v with | .bool r0 => K r0 w' | _ => False) = S.check_Checker_mainIsThere c end_ w K := by kernel_rfl
theorem T.CO54 : CallOk Tryz.prog T.C54 := (CallOk.cons 55 T.ok55 (CallOk.cons 102 T.ok102 CallOk.nil))
def T.c54 (vs : List Value) (w : World) (K : Value → World → Prop) : Prop :=
  match vs with
  | [.pointer (some ⟨c, 0, none⟩), .int .i64 end_] => S.check_Checker_mainIsThere c end_ w (fun r0 w' => K (.bool r0) w')
  | _ => False
theorem T.ok54 : ∀ vs w K, T.c54 vs w K → (callFunc 54 vs.toArray).run Tryz.prog w = .ok (.enter 54 vs.toArray) w ∧ Calls Tryz.prog 54 vs.toArray w fun e w' => ∃ v, e = .returned v ∧ K v w' := by
  intro vs w K h
  unfold T.c54 at h
  split at h
  · refine ⟨Tryz.call54 _ _, ok_of T.CO54 mixed Tryz.func54 (T.eq54 _ _ _ _) h fun v w' hk => ⟨v, rfl, ?_⟩⟩
    split at hk
    · exact hk
    · exact hk.elim
  · exact h.elim

/-- (*e2e/check.table).pop (function 148). -/
def S.check_table_pop (t : Nat) (t_o : Nat) (w : World) (K : Int → World → Prop) : Prop :=
  LdI .i64 w ⟨t, t_o + 160, none⟩ fun n_1 =>
  St1 w ⟨t, t_o + 160, none⟩ (.int .i64 (W (n_1 - 1))) fun w =>
  Drew w fun w =>
  LdI .i64 w ⟨t, t_o + 160, none⟩ fun n_2 =>
  IxA 24 n_2 <|
  LdI .i64 w ⟨t, t_o + 16 + Int.toNat n_2 * 6 + 4, none⟩ fun bucket_3 =>
  LdI .i64 w ⟨t, t_o + 160, none⟩ fun n_4 =>
  IxA 24 n_4 <|
  LdI .i64 w ⟨t, t_o + 16 + Int.toNat n_4 * 6 + 5, none⟩ fun next_5 =>
  IxA 16 bucket_3 <|
  St1 w ⟨t, t_o + Int.toNat bucket_3 * 1, none⟩ (.int .i64 next_5) fun w =>
  Drew w fun w =>
  LdI .i64 w ⟨t, t_o + 160, none⟩ fun n_6 =>
  IxA 24 n_6 <|
  LdI .i64 w ⟨t, t_o + 16 + Int.toNat n_6 * 6 + 1, none⟩ fun ty_7 =>
  K ty_7 w
def T.C148 : CallT := CallT.nil
def T.A148 : Ann := fun _ => none
set_option maxRecDepth 1000000 in
theorem T.eq148 (t : Nat) (t_o : Nat) (w : World) (K : Int → World → Prop) : denF Tryz.prog T.C148 T.A148 Tryz.f148 [.pointer (some ⟨t, t_o, none⟩)] w (fun v w' => match v with | .int .i64 r0 => K r0 w' | _ => False) = S.check_table_pop t t_o w K := by kernel_rfl
theorem T.CO148 : CallOk Tryz.prog T.C148 := CallOk.nil
def T.c148 (vs : List Value) (w : World) (K : Value → World → Prop) : Prop :=
  match vs with
  | [.pointer (some ⟨t, t_o, none⟩)] => S.check_table_pop t t_o w (fun r0 w' => K (.int .i64 r0) w')
  | _ => False
theorem T.ok148 : ∀ vs w K, T.c148 vs w K → (callFunc 148 vs.toArray).run Tryz.prog w = .ok (.enter 148 vs.toArray) w ∧ Calls Tryz.prog 148 vs.toArray w fun e w' => ∃ v, e = .returned v ∧ K v w' := by
  intro vs w K h
  unfold T.c148 at h
  split at h
  · refine ⟨Tryz.call148 _ _, ok_of T.CO148 mixed Tryz.func148 (T.eq148 _ _ _ _) h fun v w' hk => ⟨v, rfl, ?_⟩⟩
    split at hk
    · exact hk
    · exact hk.elim
  · exact h.elim

/-- (*e2e/check.Checker).undo (function 107). -/
def S.check_Checker_undo (c : Nat) (mark : Int) (w : World) (K : World → Prop) : Prop :=
  LoopP (σ := Unit) (fun st1 w next2 =>
    LdI .i64 w ⟨c, 161, none⟩ fun n_3 =>
    if (decide (n_3 > mark)) = true then
      S.check_table_pop c 1 w (fun r4 w =>
      if (decide (r4 ≥ 2)) = true then
        LdI .i64 w ⟨c, 163, none⟩ fun nr_5 =>
        St1 w ⟨c, 163, none⟩ (.int .i64 (W (nr_5 - 1))) fun w =>
        next2 (()) w
      else
        LdI .i64 w ⟨c, 162, none⟩ fun ni_6 =>
        St1 w ⟨c, 162, none⟩ (.int .i64 (W (ni_6 - 1))) fun w =>
        next2 (()) w)
    else
      K w) (()) w
def T.C107 : CallT := (CallT.cons 148 T.c148 CallT.nil)
def T.A107 : Ann := fun i => bif Nat.beq i 1000003 then some ([], [(0, 5), (1, 0)]) else bif Nat.beq i 0 then some ([0, 1], []) else none
set_option maxRecDepth 1000000 in
theorem T.eq107 (c : Nat) (mark : Int) (w : World) (K : World → Prop) : denF Tryz.prog T.C107 T.A107 Tryz.f107 [.pointer (some ⟨c, 0, none⟩), .int .i64 mark] w (fun v w' => match v with | .tuple ⟨[]⟩ => K w' | _ => False) = S.check_Checker_undo c mark w K := by kernel_rfl
theorem T.CO107 : CallOk Tryz.prog T.C107 := (CallOk.cons 148 T.ok148 CallOk.nil)
def T.c107 (vs : List Value) (w : World) (K : Value → World → Prop) : Prop :=
  match vs with
  | [.pointer (some ⟨c, 0, none⟩), .int .i64 mark] => S.check_Checker_undo c mark w (fun w' => K (.tuple #[]) w')
  | _ => False
theorem T.ok107 : ∀ vs w K, T.c107 vs w K → (callFunc 107 vs.toArray).run Tryz.prog w = .ok (.enter 107 vs.toArray) w ∧ Calls Tryz.prog 107 vs.toArray w fun e w' => ∃ v, e = .returned v ∧ K v w' := by
  intro vs w K h
  unfold T.c107 at h
  split at h
  · refine ⟨Tryz.call107 _ _, ok_of T.CO107 mixed Tryz.func107 (T.eq107 _ _ _ _) h fun v w' hk => ⟨v, rfl, ?_⟩⟩
    split at hk
    · exact hk
    · exact hk.elim
  · exact h.elim

/-- (*e2e/check.Checker).mayDeclare (function 104). -/
def S.check_Checker_mayDeclare (c : Nat) (x : Int) (w : World) (K : Bool → World → Prop) : Prop :=
  Drew w fun w =>
  LdS w ⟨c, 415, none⟩ fun t_1 =>
  Ix t_1.a t_1.l x fun b2 o3 =>
  LdStr w ⟨b2, o3 + Int.toNat x * 8 + 7, none⟩ fun Name_4 =>
  S.check_table_find c 1 Name_4 w (fun r5 w =>
  Join (fun (w : World) =>
    LdS w ⟨c, 415, none⟩ fun t_6 =>
    Ix t_6.a t_6.l x fun b7 o8 =>
    LdI .i64 w ⟨b7, o8 + Int.toNat x * 8 + 5, none⟩ fun Val_9 =>
    if (decide (Val_9 ≥ 2)) = true then
      LdI .i64 w ⟨c, 163, none⟩ fun nr_10 =>
      if (decide (nr_10 ≥ 12)) = true then
        LdS w ⟨c, 415, none⟩ fun t_11 =>
        Ix t_11.a t_11.l x fun b12 o13 =>
        LdI .i64 w ⟨b12, o13 + Int.toNat x * 8 + 6, none⟩ fun Pos_14 =>
        S.check_Checker_fail c 19 Pos_14 w (fun r15 w =>
        K r15 w)
      else
        K true w
    else
      LdI .i64 w ⟨c, 162, none⟩ fun ni_16 =>
      if (decide (ni_16 ≥ 12)) = true then
        LdS w ⟨c, 415, none⟩ fun t_17 =>
        Ix t_17.a t_17.l x fun b18 o19 =>
        LdI .i64 w ⟨b18, o19 + Int.toNat x * 8 + 6, none⟩ fun Pos_20 =>
        S.check_Checker_fail c 19 Pos_20 w (fun r21 w =>
        K r21 w)
      else
        K true w) fun J22 =>
  Drew w fun w =>
  if (decide (r5 ≥ 0)) = true then
    IxA 24 r5 <|
    LdI .i64 w ⟨c, 17 + Int.toNat r5 * 6 + 3, none⟩ fun level_23 =>
    LdI .i64 w ⟨c, 164, none⟩ fun level_24 =>
    if (level_23 == level_24) = true then
      LdS w ⟨c, 415, none⟩ fun t_25 =>
      Ix t_25.a t_25.l x fun b26 o27 =>
      LdI .i64 w ⟨b26, o27 + Int.toNat x * 8 + 6, none⟩ fun Pos_28 =>
      S.check_Checker_fail c 14 Pos_28 w (fun r29 w =>
      K r29 w)
    else
      J22 w
  else
    J22 w)
def T.C104 : CallT := (CallT.cons 55 T.c55 (CallT.cons 102 T.c102 CallT.nil))
def T.A104 : Ann := fun i => bif Nat.beq i 1000007 then some ([], [(0, 5), (1, 0)]) else none
set_option maxRecDepth 1000000 in
theorem T.eq104 (c : Nat) (x : Int) (w : World) (K : Bool → World → Prop) : denF Tryz.prog T.C104 T.A104 Tryz.f104 [.pointer (some ⟨c, 0, none⟩), .int .i64 x] w (fun v w' => match v with | .bool r0 => K r0 w' | _ => False) = S.check_Checker_mayDeclare c x w K := by kernel_rfl
theorem T.CO104 : CallOk Tryz.prog T.C104 := (CallOk.cons 55 T.ok55 (CallOk.cons 102 T.ok102 CallOk.nil))
def T.c104 (vs : List Value) (w : World) (K : Value → World → Prop) : Prop :=
  match vs with
  | [.pointer (some ⟨c, 0, none⟩), .int .i64 x] => S.check_Checker_mayDeclare c x w (fun r0 w' => K (.bool r0) w')
  | _ => False
theorem T.ok104 : ∀ vs w K, T.c104 vs w K → (callFunc 104 vs.toArray).run Tryz.prog w = .ok (.enter 104 vs.toArray) w ∧ Calls Tryz.prog 104 vs.toArray w fun e w' => ∃ v, e = .returned v ∧ K v w' := by
  intro vs w K h
  unfold T.c104 at h
  split at h
  · refine ⟨Tryz.call104 _ _, ok_of T.CO104 mixed Tryz.func104 (T.eq104 _ _ _ _) h fun v w' hk => ⟨v, rfl, ?_⟩⟩
    split at hk
    · exact hk
    · exact hk.elim
  · exact h.elim

/-- (*e2e/check.Checker).none (function 219). -/
def S.check_Checker_none (c : Nat) (e : Int) (pos : Int) (w : World) (K : Int → World → Prop) : Prop :=
  St1 w ⟨c, 418, none⟩ (.int .i64 e) fun w =>
  St1 w ⟨c, 419, none⟩ (.int .i64 pos) fun w =>
  K (-1) w
def T.C219 : CallT := CallT.nil
def T.A219 : Ann := fun _ => none
set_option maxRecDepth 1000000 in
theorem T.eq219 (c : Nat) (e : Int) (pos : Int) (w : World) (K : Int → World → Prop) : denF Tryz.prog T.C219 T.A219 Tryz.f219 [.pointer (some ⟨c, 0, none⟩), .int .i64 e, .int .i64 pos] w (fun v w' => match v with | .int .i64 r0 => K r0 w' | _ => False) = S.check_Checker_none c e pos w K := by kernel_rfl
theorem T.CO219 : CallOk Tryz.prog T.C219 := CallOk.nil
def T.c219 (vs : List Value) (w : World) (K : Value → World → Prop) : Prop :=
  match vs with
  | [.pointer (some ⟨c, 0, none⟩), .int .i64 e, .int .i64 pos] => S.check_Checker_none c e pos w (fun r0 w' => K (.int .i64 r0) w')
  | _ => False
theorem T.ok219 : ∀ vs w K, T.c219 vs w K → (callFunc 219 vs.toArray).run Tryz.prog w = .ok (.enter 219 vs.toArray) w ∧ Calls Tryz.prog 219 vs.toArray w fun e w' => ∃ v, e = .returned v ∧ K v w' := by
  intro vs w K h
  unfold T.c219 at h
  split at h
  · refine ⟨Tryz.call219 _ _, ok_of T.CO219 mixed Tryz.func219 (T.eq219 _ _ _ _ _) h fun v w' hk => ⟨v, rfl, ?_⟩⟩
    split at hk
    · exact hk
    · exact hk.elim
  · exact h.elim

/-- (*e2e/check.Checker).want (function 190): its body over the calls of its kin. -/
def B.check_Checker_want (R_check_Checker_want : Nat → Int → Int → World → (Bool → World → Prop) → Prop) (R_check_Checker_expr : Nat → Int → World → (Int → World → Prop) → Prop) (R_check_Checker_call : Nat → Int → World → (Int → World → Prop) → Prop) (R_check_Checker_binary : Nat → Int → World → (Int → World → Prop) → Prop) (c : Nat) (x : Int) (ty : Int) (w : World) (K : Bool → World → Prop) : Prop :=
  R_check_Checker_expr c x w (fun r1 w =>
  if (decide (r1 < 0)) = true then
    K false w
  else
    if (r1 != ty) = true then
      LdS w ⟨c, 415, none⟩ fun t_2 =>
      Ix t_2.a t_2.l x fun b3 o4 =>
      LdI .i64 w ⟨b3, o4 + Int.toNat x * 8 + 6, none⟩ fun Pos_5 =>
      S.check_Checker_fail c 17 Pos_5 w (fun r6 w =>
      K r6 w)
    else
      K true w)
def T.r190 (R : Nat → Int → Int → World → (Bool → World → Prop) → Prop) (vs : List Value) (w : World) (K : Value → World → Prop) : Prop :=
  match vs with
  | [.pointer (some ⟨c, 0, none⟩), .int .i64 x, .int .i64 ty] => R c x ty w (fun r0 w' => K (.bool r0) w')
  | _ => False
def T.A190 : Ann := fun _ => none
/-- (*e2e/check.Checker).expr (function 191): its body over the calls of its kin. -/
def B.check_Checker_expr (R_check_Checker_want : Nat → Int → Int → World → (Bool → World → Prop) → Prop) (R_check_Checker_expr : Nat → Int → World → (Int → World → Prop) → Prop) (R_check_Checker_call : Nat → Int → World → (Int → World → Prop) → Prop) (R_check_Checker_binary : Nat → Int → World → (Int → World → Prop) → Prop) (c : Nat) (x : Int) (w : World) (K : Int → World → Prop) : Prop :=
  LdS w ⟨c, 415, none⟩ fun t_1 =>
  Ix t_1.a t_1.l x fun b2 o3 =>
  LdI .i64 w ⟨b2, o3 + Int.toNat x * 8, none⟩ fun Kind_4 =>
  Join (fun (t_5 : Int) (w : World) =>
    if (decide (t_5 ≥ 0)) = true then
      LdS w ⟨c, 416, none⟩ fun ty_6 =>
      Ix ty_6.a ty_6.l x fun b7 o8 =>
      St1 w ⟨b7, o8 + Int.toNat x * 1, none⟩ (.int .i64 t_5) fun w =>
      K t_5 w
    else
      K t_5 w) fun J9 =>
  if (Kind_4 == 11) = true then
    J9 1 w
  else
    if (Kind_4 == 12) = true then
      Drew w fun w =>
      LdS w ⟨c, 415, none⟩ fun t_10 =>
      Ix t_10.a t_10.l x fun b11 o12 =>
      LdStr w ⟨b11, o12 + Int.toNat x * 8 + 7, none⟩ fun Name_13 =>
      S.check_table_find c 1 Name_13 w (fun r14 w =>
      if (decide (r14 < 0)) = true then
        LdS w ⟨c, 415, none⟩ fun t_15 =>
        Ix t_15.a t_15.l x fun b16 o17 =>
        LdI .i64 w ⟨b16, o17 + Int.toNat x * 8 + 6, none⟩ fun Pos_18 =>
        S.check_Checker_none c 15 Pos_18 w (fun r19 w =>
        K r19 w)
      else
        IxA 24 r14 <|
        LdI .i64 w ⟨c, 17 + Int.toNat r14 * 6 + 1, none⟩ fun ty_20 =>
        Drew w fun w =>
        LdS w ⟨c, 417, none⟩ fun ref_21 =>
        IxA 24 r14 <|
        LdI .i64 w ⟨c, 17 + Int.toNat r14 * 6 + 2, none⟩ fun slot_22 =>
        Ix ref_21.a ref_21.l x fun b23 o24 =>
        St1 w ⟨b23, o24 + Int.toNat x * 1, none⟩ (.int .i64 slot_22) fun w =>
        J9 ty_20 w)
    else
      if (Kind_4 == 13) = true then
        R_check_Checker_call c x w (fun r25 w =>
        J9 r25 w)
      else
        if (Kind_4 == 14) = true then
          LdS w ⟨c, 415, none⟩ fun t_26 =>
          Ix t_26.a t_26.l x fun b27 o28 =>
          LdI .i64 w ⟨b27, o28 + Int.toNat x * 8 + 1, none⟩ fun A_29 =>
          R_check_Checker_expr c A_29 w (fun r30 w =>
          if (decide (r30 < 0)) = true then
            K (-1) w
          else
            if (decide (r30 < 2)) = true then
              LdS w ⟨c, 415, none⟩ fun t_31 =>
              Ix t_31.a t_31.l x fun b32 o33 =>
              LdI .i64 w ⟨b32, o33 + Int.toNat x * 8 + 6, none⟩ fun Pos_34 =>
              S.check_Checker_none c 17 Pos_34 w (fun r35 w =>
              K r35 w)
            else
              Let (W (r30 - 2)) fun t_36 =>
              LdS w ⟨c, 415, none⟩ fun t_37 =>
              Ix t_37.a t_37.l x fun b38 o39 =>
              LdI .i64 w ⟨b38, o39 + Int.toNat x * 8 + 2, none⟩ fun B_40 =>
              R_check_Checker_want c B_40 0 w (fun r41 w =>
              if (!r41) = true then
                K (-1) w
              else
                J9 t_36 w))
        else
          if (Kind_4 == 15) = true then
            LdS w ⟨c, 415, none⟩ fun t_42 =>
            Ix t_42.a t_42.l x fun b43 o44 =>
            LdI .i64 w ⟨b43, o44 + Int.toNat x * 8 + 5, none⟩ fun Val_45 =>
            if (decide (Val_45 < 2)) = true then
              LdS w ⟨c, 415, none⟩ fun t_46 =>
              Ix t_46.a t_46.l x fun b47 o48 =>
              LdI .i64 w ⟨b47, o48 + Int.toNat x * 8 + 6, none⟩ fun Pos_49 =>
              S.check_Checker_none c 17 Pos_49 w (fun r50 w =>
              K r50 w)
            else
              LdS w ⟨c, 415, none⟩ fun t_51 =>
              Ix t_51.a t_51.l x fun b52 o53 =>
              LdI .i64 w ⟨b52, o53 + Int.toNat x * 8 + 1, none⟩ fun A_54 =>
              R_check_Checker_want c A_54 0 w (fun r55 w =>
              if (!r55) = true then
                K (-1) w
              else
                J9 Val_45 w)
          else
            if (Kind_4 == 16) = true then
              LdS w ⟨c, 415, none⟩ fun t_56 =>
              Ix t_56.a t_56.l x fun b57 o58 =>
              LdI .i64 w ⟨b57, o58 + Int.toNat x * 8 + 1, none⟩ fun A_59 =>
              R_check_Checker_expr c A_59 w (fun r60 w =>
              if (decide (r60 < 0)) = true then
                K (-1) w
              else
                if (decide (r60 < 2)) = true then
                  Drew w fun w =>
                  LdS w ⟨c, 415, none⟩ fun t_61 =>
                  LdS w ⟨c, 415, none⟩ fun t_62 =>
                  Ix t_62.a t_62.l x fun b63 o64 =>
                  LdI .i64 w ⟨b63, o64 + Int.toNat x * 8 + 1, none⟩ fun A_65 =>
                  Ix t_61.a t_61.l A_65 fun b66 o67 =>
                  LdI .i64 w ⟨b66, o67 + Int.toNat A_65 * 8 + 6, none⟩ fun Pos_68 =>
                  S.check_Checker_none c 17 Pos_68 w (fun r69 w =>
                  K r69 w)
                else
                  J9 0 w)
            else
              if (Kind_4 == 19) = true then
                LdS w ⟨c, 415, none⟩ fun t_70 =>
                Ix t_70.a t_70.l x fun b71 o72 =>
                LdI .i64 w ⟨b71, o72 + Int.toNat x * 8 + 5, none⟩ fun Val_73 =>
                Join (fun (t_74 : Int) (w : World) =>
                  LdS w ⟨c, 415, none⟩ fun t_75 =>
                  Ix t_75.a t_75.l x fun b76 o77 =>
                  LdI .i64 w ⟨b76, o77 + Int.toNat x * 8 + 1, none⟩ fun A_78 =>
                  R_check_Checker_want c A_78 t_74 w (fun r79 w =>
                  if (!r79) = true then
                    K (-1) w
                  else
                    J9 t_74 w)) fun J80 =>
                if (Val_73 == 39) = true then
                  J80 1 w
                else
                  J80 0 w
              else
                if (Kind_4 == 18) = true then
                  R_check_Checker_binary c x w (fun r81 w =>
                  J9 r81 w)
                else
                  J9 0 w
def T.r191 (R : Nat → Int → World → (Int → World → Prop) → Prop) (vs : List Value) (w : World) (K : Value → World → Prop) : Prop :=
  match vs with
  | [.pointer (some ⟨c, 0, none⟩), .int .i64 x] => R c x w (fun r0 w' => K (.int .i64 r0) w')
  | _ => False
def T.A191 : Ann := fun i => bif Nat.beq i 1000039 then some ([], [(0, 5), (1, 0), (5, 0), (15, 0)]) else bif Nat.beq i 1000034 then some ([], [(0, 5), (1, 0), (5, 0), (15, 0)]) else bif Nat.beq i 1000028 then some ([], [(0, 5), (1, 0), (5, 0), (15, 0)]) else bif Nat.beq i 1000022 then some ([], [(0, 5), (1, 0), (5, 0), (15, 0)]) else bif Nat.beq i 1000013 then some ([], [(0, 5), (1, 0), (5, 0), (15, 0)]) else bif Nat.beq i 1000011 then some ([], [(0, 5), (1, 0), (5, 0), (15, 0)]) else bif Nat.beq i 1000005 then some ([], [(0, 5), (1, 0), (5, 0), (15, 0)]) else none
/-- (*e2e/check.Checker).call (function 220): its body over the calls of its kin. -/
def B.check_Checker_call (R_check_Checker_want : Nat → Int → Int → World → (Bool → World → Prop) → Prop) (R_check_Checker_expr : Nat → Int → World → (Int → World → Prop) → Prop) (R_check_Checker_call : Nat → Int → World → (Int → World → Prop) → Prop) (R_check_Checker_binary : Nat → Int → World → (Int → World → Prop) → Prop) (c : Nat) (x : Int) (w : World) (K : Int → World → Prop) : Prop :=
  Drew w fun w =>
  LdS w ⟨c, 415, none⟩ fun t_1 =>
  Ix t_1.a t_1.l x fun b2 o3 =>
  LdStr w ⟨b2, o3 + Int.toNat x * 8 + 7, none⟩ fun Name_4 =>
  S.check_table_find c 165 Name_4 w (fun r5 w =>
  if (decide (r5 < 0)) = true then
    LdS w ⟨c, 415, none⟩ fun t_6 =>
    Ix t_6.a t_6.l x fun b7 o8 =>
    LdI .i64 w ⟨b7, o8 + Int.toNat x * 8 + 6, none⟩ fun Pos_9 =>
    S.check_Checker_none c 16 Pos_9 w (fun r10 w =>
    K r10 w)
  else
    Drew w fun w =>
    IxA 8 r5 <|
    LdI .i64 w ⟨c, 326 + Int.toNat r5 * 7 + 2, none⟩ fun PI_11 =>
    IxA 8 r5 <|
    LdI .i64 w ⟨c, 326 + Int.toNat r5 * 7 + 3, none⟩ fun PR_12 =>
    Let (W (PI_11 + PR_12)) fun np_13 =>
    LdS w ⟨c, 415, none⟩ fun t_14 =>
    Ix t_14.a t_14.l x fun b15 o16 =>
    LdI .i64 w ⟨b15, o16 + Int.toNat x * 8 + 1, none⟩ fun A_17 =>
    Join (fun (k_18 : Int) (odd_19 : Int) (w : World) =>
      if (k_18 != np_13) = true then
        LdS w ⟨c, 415, none⟩ fun t_20 =>
        Ix t_20.a t_20.l x fun b21 o22 =>
        LdI .i64 w ⟨b21, o22 + Int.toNat x * 8 + 6, none⟩ fun Pos_23 =>
        S.check_Checker_none c 18 Pos_23 w (fun r24 w =>
        K r24 w)
      else
        if (decide (odd_19 ≥ 0)) = true then
          LdS w ⟨c, 415, none⟩ fun t_25 =>
          Ix t_25.a t_25.l odd_19 fun b26 o27 =>
          LdI .i64 w ⟨b26, o27 + Int.toNat odd_19 * 8 + 6, none⟩ fun Pos_28 =>
          S.check_Checker_none c 17 Pos_28 w (fun r29 w =>
          K r29 w)
        else
          LdS w ⟨c, 417, none⟩ fun ref_30 =>
          Ix ref_30.a ref_30.l x fun b31 o32 =>
          St1 w ⟨b31, o32 + Int.toNat x * 1, none⟩ (.int .i64 r5) fun w =>
          IxA 8 r5 <|
          LdI .i64 w ⟨c, 326 + Int.toNat r5 * 7 + 1, none⟩ fun Ret_33 =>
          K Ret_33 w) fun J34 =>
    LoopP (σ := Int × Int × Int × Unit) (fun st35 w next36 =>
      if (decide (st35.2.2.1 ≥ 0)) = true then
        R_check_Checker_expr c st35.2.2.1 w (fun r37 w =>
        if (decide (r37 < 0)) = true then
          K (-1) w
        else
          Join (fun (odd_38 : Int) (w : World) =>
            Let (W (st35.1 + 1)) fun k_39 =>
            LdS w ⟨c, 415, none⟩ fun t_40 =>
            Ix t_40.a t_40.l st35.2.2.1 fun b41 o42 =>
            LdI .i64 w ⟨b41, o42 + Int.toNat st35.2.2.1 * 8 + 4, none⟩ fun Next_43 =>
            next36 (k_39, odd_38, Next_43, ()) w) fun J44 =>
          if (decide (st35.2.1 < 0)) = true then
            if (decide (st35.1 < np_13)) = true then
              IxA 32 (W ((W (r5 * 4)) + st35.1)) <|
              LdI .i64 w ⟨c, 382 + Int.toNat (W ((W (r5 * 4)) + st35.1)) * 1, none⟩ fun ptypes_45 =>
              if (r37 != ptypes_45) = true then
                J44 st35.2.2.1 w
              else
                J44 st35.2.1 w
            else
              J44 st35.2.1 w
          else
            J44 st35.2.1 w)
      else
        J34 st35.1 st35.2.1 w) (0, -1, A_17, ()) w)
def T.r220 (R : Nat → Int → World → (Int → World → Prop) → Prop) (vs : List Value) (w : World) (K : Value → World → Prop) : Prop :=
  match vs with
  | [.pointer (some ⟨c, 0, none⟩), .int .i64 x] => R c x w (fun r0 w' => K (.int .i64 r0) w')
  | _ => False
def T.A220 : Ann := fun i => bif Nat.beq i 7 then some ([0, 1, 5, 6], [(7, 0), (8, 0), (9, 0)]) else none
/-- (*e2e/check.Checker).binary (function 221): its body over the calls of its kin. -/
def B.check_Checker_binary (R_check_Checker_want : Nat → Int → Int → World → (Bool → World → Prop) → Prop) (R_check_Checker_expr : Nat → Int → World → (Int → World → Prop) → Prop) (R_check_Checker_call : Nat → Int → World → (Int → World → Prop) → Prop) (R_check_Checker_binary : Nat → Int → World → (Int → World → Prop) → Prop) (c : Nat) (x : Int) (w : World) (K : Int → World → Prop) : Prop :=
  LdS w ⟨c, 415, none⟩ fun t_1 =>
  Ix t_1.a t_1.l x fun b2 o3 =>
  LdI .i64 w ⟨b2, o3 + Int.toNat x * 8 + 5, none⟩ fun Val_4 =>
  Join (fun (side_5 : Int) (gives_6 : Int) (w : World) =>
    LdS w ⟨c, 415, none⟩ fun t_7 =>
    Ix t_7.a t_7.l x fun b8 o9 =>
    LdI .i64 w ⟨b8, o9 + Int.toNat x * 8 + 1, none⟩ fun A_10 =>
    R_check_Checker_want c A_10 side_5 w (fun r11 w =>
    if (!r11) = true then
      K (-1) w
    else
      LdS w ⟨c, 415, none⟩ fun t_12 =>
      Ix t_12.a t_12.l x fun b13 o14 =>
      LdI .i64 w ⟨b13, o14 + Int.toNat x * 8 + 2, none⟩ fun B_15 =>
      R_check_Checker_want c B_15 side_5 w (fun r16 w =>
      if (!r16) = true then
        K (-1) w
      else
        K gives_6 w))) fun J17 =>
  Join (fun (j_18 : Bool) (w : World) =>
    if j_18 = true then
      J17 1 1 w
    else
      Join (fun (j_19 : Bool) (w : World) =>
        if j_19 = true then
          J17 0 1 w
        else
          Join (fun (j_20 : Bool) (w : World) =>
            if j_20 = true then
              LdS w ⟨c, 415, none⟩ fun t_21 =>
              Ix t_21.a t_21.l x fun b22 o23 =>
              LdI .i64 w ⟨b22, o23 + Int.toNat x * 8 + 1, none⟩ fun A_24 =>
              R_check_Checker_expr c A_24 w (fun r25 w =>
              if (decide (r25 < 0)) = true then
                K (-1) w
              else
                if (decide (r25 ≥ 2)) = true then
                  Drew w fun w =>
                  LdS w ⟨c, 415, none⟩ fun t_26 =>
                  LdS w ⟨c, 415, none⟩ fun t_27 =>
                  Ix t_27.a t_27.l x fun b28 o29 =>
                  LdI .i64 w ⟨b28, o29 + Int.toNat x * 8 + 1, none⟩ fun A_30 =>
                  Ix t_26.a t_26.l A_30 fun b31 o32 =>
                  LdI .i64 w ⟨b31, o32 + Int.toNat A_30 * 8 + 6, none⟩ fun Pos_33 =>
                  S.check_Checker_none c 17 Pos_33 w (fun r34 w =>
                  K r34 w)
                else
                  LdS w ⟨c, 415, none⟩ fun t_35 =>
                  Ix t_35.a t_35.l x fun b36 o37 =>
                  LdI .i64 w ⟨b36, o37 + Int.toNat x * 8 + 2, none⟩ fun B_38 =>
                  R_check_Checker_want c B_38 r25 w (fun r39 w =>
                  if (!r39) = true then
                    K (-1) w
                  else
                    K 1 w))
            else
              J17 0 0 w) fun J40 =>
          if (Val_4 == 26) = true then
            J40 (Val_4 == 26) w
          else
            J40 (Val_4 == 27) w) fun J41 =>
      if (Val_4 == 28) = true then
        J41 (Val_4 == 28) w
      else
        if (Val_4 == 29) = true then
          J41 (Val_4 == 29) w
        else
          if (Val_4 == 30) = true then
            J41 (Val_4 == 30) w
          else
            J41 (Val_4 == 31) w) fun J42 =>
  if (Val_4 == 38) = true then
    J42 (Val_4 == 38) w
  else
    J42 (Val_4 == 37) w
def T.r221 (R : Nat → Int → World → (Int → World → Prop) → Prop) (vs : List Value) (w : World) (K : Value → World → Prop) : Prop :=
  match vs with
  | [.pointer (some ⟨c, 0, none⟩), .int .i64 x] => R c x w (fun r0 w' => K (.int .i64 r0) w')
  | _ => False
def T.A221 : Ann := fun i => bif Nat.beq i 1000008 then some ([], [(0, 5), (1, 0), (5, 0), (6, 0), (14, 0)]) else bif Nat.beq i 1000011 then some ([], [(0, 5), (1, 0), (5, 0), (6, 0), (14, 0)]) else bif Nat.beq i 1000007 then some ([], [(0, 5), (1, 0), (5, 0), (6, 0), (14, 0)]) else bif Nat.beq i 1000006 then some ([], [(0, 5), (1, 0), (5, 0), (6, 0), (14, 0)]) else none
def T.C190 (R_check_Checker_want : Nat → Int → Int → World → (Bool → World → Prop) → Prop) (R_check_Checker_expr : Nat → Int → World → (Int → World → Prop) → Prop) (R_check_Checker_call : Nat → Int → World → (Int → World → Prop) → Prop) (R_check_Checker_binary : Nat → Int → World → (Int → World → Prop) → Prop) : CallT := (CallT.cons 191 (T.r191 R_check_Checker_expr) (CallT.cons 102 T.c102 CallT.nil))
set_option maxRecDepth 1000000 in
theorem T.eq190 (R_check_Checker_want : Nat → Int → Int → World → (Bool → World → Prop) → Prop) (R_check_Checker_expr : Nat → Int → World → (Int → World → Prop) → Prop) (R_check_Checker_call : Nat → Int → World → (Int → World → Prop) → Prop) (R_check_Checker_binary : Nat → Int → World → (Int → World → Prop) → Prop) (c : Nat) (x : Int) (ty : Int) (w : World) (K : Bool → World → Prop) : denF Tryz.prog (T.C190 R_check_Checker_want R_check_Checker_expr R_check_Checker_call R_check_Checker_binary) T.A190 Tryz.f190 [.pointer (some ⟨c, 0, none⟩), .int .i64 x, .int .i64 ty] w (fun v w' => match v with | .bool r0 => K r0 w' | _ => False) = B.check_Checker_want R_check_Checker_want R_check_Checker_expr R_check_Checker_call R_check_Checker_binary c x ty w K := by kernel_rfl
def T.C191 (R_check_Checker_want : Nat → Int → Int → World → (Bool → World → Prop) → Prop) (R_check_Checker_expr : Nat → Int → World → (Int → World → Prop) → Prop) (R_check_Checker_call : Nat → Int → World → (Int → World → Prop) → Prop) (R_check_Checker_binary : Nat → Int → World → (Int → World → Prop) → Prop) : CallT := (CallT.cons 55 T.c55 (CallT.cons 219 T.c219 (CallT.cons 220 (T.r220 R_check_Checker_call) (CallT.cons 191 (T.r191 R_check_Checker_expr) (CallT.cons 190 (T.r190 R_check_Checker_want) (CallT.cons 221 (T.r221 R_check_Checker_binary) CallT.nil))))))
set_option maxRecDepth 1000000 in
theorem T.eq191 (R_check_Checker_want : Nat → Int → Int → World → (Bool → World → Prop) → Prop) (R_check_Checker_expr : Nat → Int → World → (Int → World → Prop) → Prop) (R_check_Checker_call : Nat → Int → World → (Int → World → Prop) → Prop) (R_check_Checker_binary : Nat → Int → World → (Int → World → Prop) → Prop) (c : Nat) (x : Int) (w : World) (K : Int → World → Prop) : denF Tryz.prog (T.C191 R_check_Checker_want R_check_Checker_expr R_check_Checker_call R_check_Checker_binary) T.A191 Tryz.f191 [.pointer (some ⟨c, 0, none⟩), .int .i64 x] w (fun v w' => match v with | .int .i64 r0 => K r0 w' | _ => False) = B.check_Checker_expr R_check_Checker_want R_check_Checker_expr R_check_Checker_call R_check_Checker_binary c x w K := by kernel_rfl
def T.C220 (R_check_Checker_want : Nat → Int → Int → World → (Bool → World → Prop) → Prop) (R_check_Checker_expr : Nat → Int → World → (Int → World → Prop) → Prop) (R_check_Checker_call : Nat → Int → World → (Int → World → Prop) → Prop) (R_check_Checker_binary : Nat → Int → World → (Int → World → Prop) → Prop) : CallT := (CallT.cons 55 T.c55 (CallT.cons 219 T.c219 (CallT.cons 191 (T.r191 R_check_Checker_expr) CallT.nil)))
set_option maxRecDepth 1000000 in
theorem T.eq220 (R_check_Checker_want : Nat → Int → Int → World → (Bool → World → Prop) → Prop) (R_check_Checker_expr : Nat → Int → World → (Int → World → Prop) → Prop) (R_check_Checker_call : Nat → Int → World → (Int → World → Prop) → Prop) (R_check_Checker_binary : Nat → Int → World → (Int → World → Prop) → Prop) (c : Nat) (x : Int) (w : World) (K : Int → World → Prop) : denF Tryz.prog (T.C220 R_check_Checker_want R_check_Checker_expr R_check_Checker_call R_check_Checker_binary) T.A220 Tryz.f220 [.pointer (some ⟨c, 0, none⟩), .int .i64 x] w (fun v w' => match v with | .int .i64 r0 => K r0 w' | _ => False) = B.check_Checker_call R_check_Checker_want R_check_Checker_expr R_check_Checker_call R_check_Checker_binary c x w K := by kernel_rfl
def T.C221 (R_check_Checker_want : Nat → Int → Int → World → (Bool → World → Prop) → Prop) (R_check_Checker_expr : Nat → Int → World → (Int → World → Prop) → Prop) (R_check_Checker_call : Nat → Int → World → (Int → World → Prop) → Prop) (R_check_Checker_binary : Nat → Int → World → (Int → World → Prop) → Prop) : CallT := (CallT.cons 190 (T.r190 R_check_Checker_want) (CallT.cons 191 (T.r191 R_check_Checker_expr) (CallT.cons 219 T.c219 CallT.nil)))
set_option maxRecDepth 1000000 in
theorem T.eq221 (R_check_Checker_want : Nat → Int → Int → World → (Bool → World → Prop) → Prop) (R_check_Checker_expr : Nat → Int → World → (Int → World → Prop) → Prop) (R_check_Checker_call : Nat → Int → World → (Int → World → Prop) → Prop) (R_check_Checker_binary : Nat → Int → World → (Int → World → Prop) → Prop) (c : Nat) (x : Int) (w : World) (K : Int → World → Prop) : denF Tryz.prog (T.C221 R_check_Checker_want R_check_Checker_expr R_check_Checker_call R_check_Checker_binary) T.A221 Tryz.f221 [.pointer (some ⟨c, 0, none⟩), .int .i64 x] w (fun v w' => match v with | .int .i64 r0 => K r0 w' | _ => False) = B.check_Checker_binary R_check_Checker_want R_check_Checker_expr R_check_Checker_call R_check_Checker_binary c x w K := by kernel_rfl
/-- The specifications hold of the bodies. -/
def T.G190 (P_check_Checker_want : Nat → Nat → Int → Int → World → (Bool → World → Prop) → Prop) (P_check_Checker_expr : Nat → Nat → Int → World → (Int → World → Prop) → Prop) (P_check_Checker_call : Nat → Nat → Int → World → (Int → World → Prop) → Prop) (P_check_Checker_binary : Nat → Nat → Int → World → (Int → World → Prop) → Prop) : Prop :=
  (∀ (n : Nat) (c : Nat) (x : Int) (ty : Int) (w : World) (K : Bool → World → Prop), P_check_Checker_want n c x ty w K → B.check_Checker_want (fun x0 x1 x2 w K => ∃ m, m < n ∧ P_check_Checker_want m x0 x1 x2 w K) (fun x0 x1 w K => ∃ m, m < n ∧ P_check_Checker_expr m x0 x1 w K) (fun x0 x1 w K => ∃ m, m < n ∧ P_check_Checker_call m x0 x1 w K) (fun x0 x1 w K => ∃ m, m < n ∧ P_check_Checker_binary m x0 x1 w K) c x ty w K) ∧
  (∀ (n : Nat) (c : Nat) (x : Int) (w : World) (K : Int → World → Prop), P_check_Checker_expr n c x w K → B.check_Checker_expr (fun x0 x1 x2 w K => ∃ m, m < n ∧ P_check_Checker_want m x0 x1 x2 w K) (fun x0 x1 w K => ∃ m, m < n ∧ P_check_Checker_expr m x0 x1 w K) (fun x0 x1 w K => ∃ m, m < n ∧ P_check_Checker_call m x0 x1 w K) (fun x0 x1 w K => ∃ m, m < n ∧ P_check_Checker_binary m x0 x1 w K) c x w K) ∧
  (∀ (n : Nat) (c : Nat) (x : Int) (w : World) (K : Int → World → Prop), P_check_Checker_call n c x w K → B.check_Checker_call (fun x0 x1 x2 w K => ∃ m, m < n ∧ P_check_Checker_want m x0 x1 x2 w K) (fun x0 x1 w K => ∃ m, m < n ∧ P_check_Checker_expr m x0 x1 w K) (fun x0 x1 w K => ∃ m, m < n ∧ P_check_Checker_call m x0 x1 w K) (fun x0 x1 w K => ∃ m, m < n ∧ P_check_Checker_binary m x0 x1 w K) c x w K) ∧
  (∀ (n : Nat) (c : Nat) (x : Int) (w : World) (K : Int → World → Prop), P_check_Checker_binary n c x w K → B.check_Checker_binary (fun x0 x1 x2 w K => ∃ m, m < n ∧ P_check_Checker_want m x0 x1 x2 w K) (fun x0 x1 w K => ∃ m, m < n ∧ P_check_Checker_expr m x0 x1 w K) (fun x0 x1 w K => ∃ m, m < n ∧ P_check_Checker_call m x0 x1 w K) (fun x0 x1 w K => ∃ m, m < n ∧ P_check_Checker_binary m x0 x1 w K) c x w K)
/-- (*e2e/check.Checker).want (function 190). -/
def S.check_Checker_want (c : Nat) (x : Int) (ty : Int) (w : World) (K : Bool → World → Prop) : Prop :=
  ∃ (P_check_Checker_want : Nat → Nat → Int → Int → World → (Bool → World → Prop) → Prop) (P_check_Checker_expr : Nat → Nat → Int → World → (Int → World → Prop) → Prop) (P_check_Checker_call : Nat → Nat → Int → World → (Int → World → Prop) → Prop) (P_check_Checker_binary : Nat → Nat → Int → World → (Int → World → Prop) → Prop), T.G190 P_check_Checker_want P_check_Checker_expr P_check_Checker_call P_check_Checker_binary ∧ ∃ n, P_check_Checker_want n c x ty w K
def T.c190 (vs : List Value) (w : World) (K : Value → World → Prop) : Prop :=
  match vs with
  | [.pointer (some ⟨c, 0, none⟩), .int .i64 x, .int .i64 ty] => S.check_Checker_want c x ty w (fun r0 w' => K (.bool r0) w')
  | _ => False
/-- (*e2e/check.Checker).expr (function 191). -/
def S.check_Checker_expr (c : Nat) (x : Int) (w : World) (K : Int → World → Prop) : Prop :=
  ∃ (P_check_Checker_want : Nat → Nat → Int → Int → World → (Bool → World → Prop) → Prop) (P_check_Checker_expr : Nat → Nat → Int → World → (Int → World → Prop) → Prop) (P_check_Checker_call : Nat → Nat → Int → World → (Int → World → Prop) → Prop) (P_check_Checker_binary : Nat → Nat → Int → World → (Int → World → Prop) → Prop), T.G190 P_check_Checker_want P_check_Checker_expr P_check_Checker_call P_check_Checker_binary ∧ ∃ n, P_check_Checker_expr n c x w K
def T.c191 (vs : List Value) (w : World) (K : Value → World → Prop) : Prop :=
  match vs with
  | [.pointer (some ⟨c, 0, none⟩), .int .i64 x] => S.check_Checker_expr c x w (fun r0 w' => K (.int .i64 r0) w')
  | _ => False
/-- (*e2e/check.Checker).call (function 220). -/
def S.check_Checker_call (c : Nat) (x : Int) (w : World) (K : Int → World → Prop) : Prop :=
  ∃ (P_check_Checker_want : Nat → Nat → Int → Int → World → (Bool → World → Prop) → Prop) (P_check_Checker_expr : Nat → Nat → Int → World → (Int → World → Prop) → Prop) (P_check_Checker_call : Nat → Nat → Int → World → (Int → World → Prop) → Prop) (P_check_Checker_binary : Nat → Nat → Int → World → (Int → World → Prop) → Prop), T.G190 P_check_Checker_want P_check_Checker_expr P_check_Checker_call P_check_Checker_binary ∧ ∃ n, P_check_Checker_call n c x w K
def T.c220 (vs : List Value) (w : World) (K : Value → World → Prop) : Prop :=
  match vs with
  | [.pointer (some ⟨c, 0, none⟩), .int .i64 x] => S.check_Checker_call c x w (fun r0 w' => K (.int .i64 r0) w')
  | _ => False
/-- (*e2e/check.Checker).binary (function 221). -/
def S.check_Checker_binary (c : Nat) (x : Int) (w : World) (K : Int → World → Prop) : Prop :=
  ∃ (P_check_Checker_want : Nat → Nat → Int → Int → World → (Bool → World → Prop) → Prop) (P_check_Checker_expr : Nat → Nat → Int → World → (Int → World → Prop) → Prop) (P_check_Checker_call : Nat → Nat → Int → World → (Int → World → Prop) → Prop) (P_check_Checker_binary : Nat → Nat → Int → World → (Int → World → Prop) → Prop), T.G190 P_check_Checker_want P_check_Checker_expr P_check_Checker_call P_check_Checker_binary ∧ ∃ n, P_check_Checker_binary n c x w K
def T.c221 (vs : List Value) (w : World) (K : Value → World → Prop) : Prop :=
  match vs with
  | [.pointer (some ⟨c, 0, none⟩), .int .i64 x] => S.check_Checker_binary c x w (fun r0 w' => K (.int .i64 r0) w')
  | _ => False
theorem T.all190 (P_check_Checker_want : Nat → Nat → Int → Int → World → (Bool → World → Prop) → Prop) (P_check_Checker_expr : Nat → Nat → Int → World → (Int → World → Prop) → Prop) (P_check_Checker_call : Nat → Nat → Int → World → (Int → World → Prop) → Prop) (P_check_Checker_binary : Nat → Nat → Int → World → (Int → World → Prop) → Prop) (h : T.G190 P_check_Checker_want P_check_Checker_expr P_check_Checker_call P_check_Checker_binary) : ∀ n, (∀ vs w K, T.r190 (P_check_Checker_want n) vs w K → (callFunc 190 vs.toArray).run Tryz.prog w = .ok (.enter 190 vs.toArray) w ∧ Calls Tryz.prog 190 vs.toArray w fun e w' => ∃ v, e = .returned v ∧ K v w') ∧ (∀ vs w K, T.r191 (P_check_Checker_expr n) vs w K → (callFunc 191 vs.toArray).run Tryz.prog w = .ok (.enter 191 vs.toArray) w ∧ Calls Tryz.prog 191 vs.toArray w fun e w' => ∃ v, e = .returned v ∧ K v w') ∧ (∀ vs w K, T.r220 (P_check_Checker_call n) vs w K → (callFunc 220 vs.toArray).run Tryz.prog w = .ok (.enter 220 vs.toArray) w ∧ Calls Tryz.prog 220 vs.toArray w fun e w' => ∃ v, e = .returned v ∧ K v w') ∧ (∀ vs w K, T.r221 (P_check_Checker_binary n) vs w K → (callFunc 221 vs.toArray).run Tryz.prog w = .ok (.enter 221 vs.toArray) w ∧ Calls Tryz.prog 221 vs.toArray w fun e w' => ∃ v, e = .returned v ∧ K v w') := by
  intro n
  induction n using Nat.strongRecOn with
  | _ n ih =>
    obtain ⟨g190, g191, g220, g221⟩ := h
    have k190 : (∀ vs w K, T.r190 (fun x0 x1 x2 w K => ∃ m, m < n ∧ P_check_Checker_want m x0 x1 x2 w K) vs w K → (callFunc 190 vs.toArray).run Tryz.prog w = .ok (.enter 190 vs.toArray) w ∧ Calls Tryz.prog 190 vs.toArray w fun e w' => ∃ v, e = .returned v ∧ K v w') := by
      intro vs w K hk
      unfold T.r190 at hk
      split at hk
      · obtain ⟨m, hm, hp⟩ := hk
        exact (ih m hm).1 _ w K hp
      · exact hk.elim
    have k191 : (∀ vs w K, T.r191 (fun x0 x1 w K => ∃ m, m < n ∧ P_check_Checker_expr m x0 x1 w K) vs w K → (callFunc 191 vs.toArray).run Tryz.prog w = .ok (.enter 191 vs.toArray) w ∧ Calls Tryz.prog 191 vs.toArray w fun e w' => ∃ v, e = .returned v ∧ K v w') := by
      intro vs w K hk
      unfold T.r191 at hk
      split at hk
      · obtain ⟨m, hm, hp⟩ := hk
        exact (ih m hm).2.1 _ w K hp
      · exact hk.elim
    have k220 : (∀ vs w K, T.r220 (fun x0 x1 w K => ∃ m, m < n ∧ P_check_Checker_call m x0 x1 w K) vs w K → (callFunc 220 vs.toArray).run Tryz.prog w = .ok (.enter 220 vs.toArray) w ∧ Calls Tryz.prog 220 vs.toArray w fun e w' => ∃ v, e = .returned v ∧ K v w') := by
      intro vs w K hk
      unfold T.r220 at hk
      split at hk
      · obtain ⟨m, hm, hp⟩ := hk
        exact (ih m hm).2.2.1 _ w K hp
      · exact hk.elim
    have k221 : (∀ vs w K, T.r221 (fun x0 x1 w K => ∃ m, m < n ∧ P_check_Checker_binary m x0 x1 w K) vs w K → (callFunc 221 vs.toArray).run Tryz.prog w = .ok (.enter 221 vs.toArray) w ∧ Calls Tryz.prog 221 vs.toArray w fun e w' => ∃ v, e = .returned v ∧ K v w') := by
      intro vs w K hk
      unfold T.r221 at hk
      split at hk
      · obtain ⟨m, hm, hp⟩ := hk
        exact (ih m hm).2.2.2 _ w K hp
      · exact hk.elim
    refine ⟨?_, ?_, ?_, ?_⟩
    · intro vs w K hk
      unfold T.r190 at hk
      split at hk
      · have hb := g190 _ _ _ _ _ _ hk
        have hco : CallOk Tryz.prog (T.C190 (fun x0 x1 x2 w K => ∃ m, m < n ∧ P_check_Checker_want m x0 x1 x2 w K) (fun x0 x1 w K => ∃ m, m < n ∧ P_check_Checker_expr m x0 x1 w K) (fun x0 x1 w K => ∃ m, m < n ∧ P_check_Checker_call m x0 x1 w K) (fun x0 x1 w K => ∃ m, m < n ∧ P_check_Checker_binary m x0 x1 w K)) := (CallOk.cons 191 k191 (CallOk.cons 102 T.ok102 CallOk.nil))
        refine ⟨Tryz.call190 _ _, ok_of hco mixed Tryz.func190 (T.eq190 _ _ _ _ _ _ _ _ _) hb fun v w' hk => ⟨v, rfl, ?_⟩⟩
        split at hk
        · exact hk
        · exact hk.elim
      · exact hk.elim
    · intro vs w K hk
      unfold T.r191 at hk
      split at hk
      · have hb := g191 _ _ _ _ _ hk
        have hco : CallOk Tryz.prog (T.C191 (fun x0 x1 x2 w K => ∃ m, m < n ∧ P_check_Checker_want m x0 x1 x2 w K) (fun x0 x1 w K => ∃ m, m < n ∧ P_check_Checker_expr m x0 x1 w K) (fun x0 x1 w K => ∃ m, m < n ∧ P_check_Checker_call m x0 x1 w K) (fun x0 x1 w K => ∃ m, m < n ∧ P_check_Checker_binary m x0 x1 w K)) := (CallOk.cons 55 T.ok55 (CallOk.cons 219 T.ok219 (CallOk.cons 220 k220 (CallOk.cons 191 k191 (CallOk.cons 190 k190 (CallOk.cons 221 k221 CallOk.nil))))))
        refine ⟨Tryz.call191 _ _, ok_of hco mixed Tryz.func191 (T.eq191 _ _ _ _ _ _ _ _) hb fun v w' hk => ⟨v, rfl, ?_⟩⟩
        split at hk
        · exact hk
        · exact hk.elim
      · exact hk.elim
    · intro vs w K hk
      unfold T.r220 at hk
      split at hk
      · have hb := g220 _ _ _ _ _ hk
        have hco : CallOk Tryz.prog (T.C220 (fun x0 x1 x2 w K => ∃ m, m < n ∧ P_check_Checker_want m x0 x1 x2 w K) (fun x0 x1 w K => ∃ m, m < n ∧ P_check_Checker_expr m x0 x1 w K) (fun x0 x1 w K => ∃ m, m < n ∧ P_check_Checker_call m x0 x1 w K) (fun x0 x1 w K => ∃ m, m < n ∧ P_check_Checker_binary m x0 x1 w K)) := (CallOk.cons 55 T.ok55 (CallOk.cons 219 T.ok219 (CallOk.cons 191 k191 CallOk.nil)))
        refine ⟨Tryz.call220 _ _, ok_of hco mixed Tryz.func220 (T.eq220 _ _ _ _ _ _ _ _) hb fun v w' hk => ⟨v, rfl, ?_⟩⟩
        split at hk
        · exact hk
        · exact hk.elim
      · exact hk.elim
    · intro vs w K hk
      unfold T.r221 at hk
      split at hk
      · have hb := g221 _ _ _ _ _ hk
        have hco : CallOk Tryz.prog (T.C221 (fun x0 x1 x2 w K => ∃ m, m < n ∧ P_check_Checker_want m x0 x1 x2 w K) (fun x0 x1 w K => ∃ m, m < n ∧ P_check_Checker_expr m x0 x1 w K) (fun x0 x1 w K => ∃ m, m < n ∧ P_check_Checker_call m x0 x1 w K) (fun x0 x1 w K => ∃ m, m < n ∧ P_check_Checker_binary m x0 x1 w K)) := (CallOk.cons 190 k190 (CallOk.cons 191 k191 (CallOk.cons 219 T.ok219 CallOk.nil)))
        refine ⟨Tryz.call221 _ _, ok_of hco mixed Tryz.func221 (T.eq221 _ _ _ _ _ _ _ _) hb fun v w' hk => ⟨v, rfl, ?_⟩⟩
        split at hk
        · exact hk
        · exact hk.elim
      · exact hk.elim
theorem T.ok190 : ∀ vs w K, T.c190 vs w K → (callFunc 190 vs.toArray).run Tryz.prog w = .ok (.enter 190 vs.toArray) w ∧ Calls Tryz.prog 190 vs.toArray w fun e w' => ∃ v, e = .returned v ∧ K v w' := by
  intro vs w K h
  unfold T.c190 at h
  split at h
  · obtain ⟨P190, P191, P220, P221, hg, m, hp⟩ := h
    exact (T.all190 P190 P191 P220 P221 hg m).1 _ w K hp
  · exact h.elim
theorem T.ok191 : ∀ vs w K, T.c191 vs w K → (callFunc 191 vs.toArray).run Tryz.prog w = .ok (.enter 191 vs.toArray) w ∧ Calls Tryz.prog 191 vs.toArray w fun e w' => ∃ v, e = .returned v ∧ K v w' := by
  intro vs w K h
  unfold T.c191 at h
  split at h
  · obtain ⟨P190, P191, P220, P221, hg, m, hp⟩ := h
    exact (T.all190 P190 P191 P220 P221 hg m).2.1 _ w K hp
  · exact h.elim
theorem T.ok220 : ∀ vs w K, T.c220 vs w K → (callFunc 220 vs.toArray).run Tryz.prog w = .ok (.enter 220 vs.toArray) w ∧ Calls Tryz.prog 220 vs.toArray w fun e w' => ∃ v, e = .returned v ∧ K v w' := by
  intro vs w K h
  unfold T.c220 at h
  split at h
  · obtain ⟨P190, P191, P220, P221, hg, m, hp⟩ := h
    exact (T.all190 P190 P191 P220 P221 hg m).2.2.1 _ w K hp
  · exact h.elim
theorem T.ok221 : ∀ vs w K, T.c221 vs w K → (callFunc 221 vs.toArray).run Tryz.prog w = .ok (.enter 221 vs.toArray) w ∧ Calls Tryz.prog 221 vs.toArray w fun e w' => ∃ v, e = .returned v ∧ K v w' := by
  intro vs w K h
  unfold T.c221 at h
  split at h
  · obtain ⟨P190, P191, P220, P221, hg, m, hp⟩ := h
    exact (T.all190 P190 P191 P220 P221 hg m).2.2.2 _ w K hp
  · exact h.elim
end Go.Proofs.Qxb6500562aGreat
