/-
  MADE BY PROGRAM (my own gen2.py) out of the translation: the Go functions as typed texts, each tied to the model by the kernel.
-/
import Derived.Test.Qxb6500564aGreatS4
set_option linter.unusedVariables false
namespace Go.Proofs.Qxb6500564aGreat
open Go.Den

/-- (*e2e/query.parser).step (function 65). -/
def S.query_parser_step (p : Nat) (w : World) (K : World → Prop) : Prop :=
  Drew w fun w =>
  LdStr w ⟨p, 0, none⟩ fun s_1 =>
  LdI .i64 w ⟨p, 4, none⟩ fun End_2 =>
  S.query_lex s_1 End_2 w (fun Kind_3 Text_4 Val_5 End_6 w =>
  St1 w ⟨p, 1, none⟩ (.int .i64 Kind_3) fun w =>
  St1 w ⟨p, 2, none⟩ (.string Text_4) fun w =>
  St1 w ⟨p, 3, none⟩ (.int .i64 Val_5) fun w =>
  St1 w ⟨p, 4, none⟩ (.int .i64 End_6) fun w =>
  K w)
def T.C65 : CallT := (CallT.cons 138 T.c138 CallT.nil)
def T.A65 : Ann := fun _ => none
set_option maxRecDepth 1000000 in
theorem T.eq65 (p : Nat) (w : World) (K : World → Prop) : denF Tryz.prog T.C65 T.A65 Tryz.f65 [.pointer (some ⟨p, 0, none⟩)] w (fun v w' => match v with | .tuple ⟨[]⟩ => K w' | _ => False) = S.query_parser_step p w K := by kernel_rfl
theorem T.CO65 : CallOk Tryz.prog T.C65 := (CallOk.cons 138 T.ok138 CallOk.nil)
def T.c65 (vs : List Value) (w : World) (K : Value → World → Prop) : Prop :=
  match vs with
  | [.pointer (some ⟨p, 0, none⟩)] => S.query_parser_step p w (fun w' => K (.tuple #[]) w')
  | _ => False
theorem T.ok65 : ∀ vs w K, T.c65 vs w K → (callFunc 65 vs.toArray).run Tryz.prog w = .ok (.enter 65 vs.toArray) w ∧ Calls Tryz.prog 65 vs.toArray w fun e w' => ∃ v, e = .returned v ∧ K v w' := by
  intro vs w K h
  unfold T.c65 at h
  split at h
  · refine ⟨Tryz.call65 _ _, ok_of T.CO65 mixed Tryz.func65 (T.eq65 _ _ _) h fun v w' hk => ⟨v, rfl, ?_⟩⟩
    split at hk
    · exact hk
    · exact hk.elim
  · exact h.elim

/-- (*e2e/query.parser).eat (function 139). -/
def S.query_parser_eat (p : Nat) (w_ : ByteArray) (w : World) (K : Bool → World → Prop) : Prop :=
  LdI .i64 w ⟨p, 1, none⟩ fun Kind_1 =>
  if (Kind_1 != 3) = true then
    LdI .i64 w ⟨p, 1, none⟩ fun Kind_2 =>
    if (Kind_2 != 6) = true then
      K false w
    else
      LdStr w ⟨p, 2, none⟩ fun Text_3 =>
      if (!(Text_3.toList == w_.toList)) = true then
        K false w
      else
        S.query_parser_step p w (fun w =>
        K true w)
  else
    LdStr w ⟨p, 2, none⟩ fun Text_4 =>
    if (!(Text_4.toList == w_.toList)) = true then
      K false w
    else
      S.query_parser_step p w (fun w =>
      K true w)
def T.C139 : CallT := (CallT.cons 65 T.c65 CallT.nil)
def T.A139 : Ann := fun _ => none
set_option maxRecDepth 1000000 in
theorem T.eq139 (p : Nat) (w_ : ByteArray) (w : World) (K : Bool → World → Prop) : denF Tryz.prog T.C139 T.A139 Tryz.f139 [.pointer (some ⟨p, 0, none⟩), .string w_] w (fun v w' => match v with | .bool r0 => K r0 w' | _ => False) = S.query_parser_eat p w_ w K := by kernel_rfl
theorem T.CO139 : CallOk Tryz.prog T.C139 := (CallOk.cons 65 T.ok65 CallOk.nil)
def T.c139 (vs : List Value) (w : World) (K : Value → World → Prop) : Prop :=
  match vs with
  | [.pointer (some ⟨p, 0, none⟩), .string w_] => S.query_parser_eat p w_ w (fun r0 w' => K (.bool r0) w')
  | _ => False
theorem T.ok139 : ∀ vs w K, T.c139 vs w K → (callFunc 139 vs.toArray).run Tryz.prog w = .ok (.enter 139 vs.toArray) w ∧ Calls Tryz.prog 139 vs.toArray w fun e w' => ∃ v, e = .returned v ∧ K v w' := by
  intro vs w K h
  unfold T.c139 at h
  split at h
  · refine ⟨Tryz.call139 _ _, ok_of T.CO139 mixed Tryz.func139 (T.eq139 _ _ _ _) h fun v w' hk => ⟨v, rfl, ?_⟩⟩
    split at hk
    · exact hk
    · exact hk.elim
  · exact h.elim

/-- (*e2e/query.parser).fail (function 147). -/
def S.query_parser_fail (p : Nat) (w : World) (K : World → Prop) : Prop :=
  St1 w ⟨p, 1, none⟩ (.int .i64 1) fun w =>
  St1 w ⟨p, 2, none⟩ (.string ⟨#[]⟩) fun w =>
  St1 w ⟨p, 3, none⟩ (.int .i64 0) fun w =>
  St1 w ⟨p, 4, none⟩ (.int .i64 0) fun w =>
  K w
def T.C147 : CallT := CallT.nil
def T.A147 : Ann := fun _ => none
set_option maxRecDepth 1000000 in
theorem T.eq147 (p : Nat) (w : World) (K : World → Prop) : denF Tryz.prog T.C147 T.A147 Tryz.f147 [.pointer (some ⟨p, 0, none⟩)] w (fun v w' => match v with | .tuple ⟨[]⟩ => K w' | _ => False) = S.query_parser_fail p w K := by kernel_rfl
theorem T.CO147 : CallOk Tryz.prog T.C147 := CallOk.nil
def T.c147 (vs : List Value) (w : World) (K : Value → World → Prop) : Prop :=
  match vs with
  | [.pointer (some ⟨p, 0, none⟩)] => S.query_parser_fail p w (fun w' => K (.tuple #[]) w')
  | _ => False
theorem T.ok147 : ∀ vs w K, T.c147 vs w K → (callFunc 147 vs.toArray).run Tryz.prog w = .ok (.enter 147 vs.toArray) w ∧ Calls Tryz.prog 147 vs.toArray w fun e w' => ∃ v, e = .returned v ∧ K v w' := by
  intro vs w K h
  unfold T.c147 at h
  split at h
  · refine ⟨Tryz.call147 _ _, ok_of T.CO147 mixed Tryz.func147 (T.eq147 _ _ _) h fun v w' hk => ⟨v, rfl, ?_⟩⟩
    split at hk
    · exact hk
    · exact hk.elim
  · exact h.elim

/-- (*e2e/query.parser).want (function 143). -/
def S.query_parser_want (p : Nat) (w_ : ByteArray) (w : World) (K : World → Prop) : Prop :=
  S.query_parser_eat p w_ w (fun r1 w =>
  if (!r1) = true then
    S.query_parser_fail p w (fun w =>
    K w)
  else
    K w)
def T.C143 : CallT := (CallT.cons 139 T.c139 (CallT.cons 147 T.c147 CallT.nil))
def T.A143 : Ann := fun _ => none
set_option maxRecDepth 1000000 in
theorem T.eq143 (p : Nat) (w_ : ByteArray) (w : World) (K : World → Prop) : denF Tryz.prog T.C143 T.A143 Tryz.f143 [.pointer (some ⟨p, 0, none⟩), .string w_] w (fun v w' => match v with | .tuple ⟨[]⟩ => K w' | _ => False) = S.query_parser_want p w_ w K := by kernel_rfl
theorem T.CO143 : CallOk Tryz.prog T.C143 := (CallOk.cons 139 T.ok139 (CallOk.cons 147 T.ok147 CallOk.nil))
def T.c143 (vs : List Value) (w : World) (K : Value → World → Prop) : Prop :=
  match vs with
  | [.pointer (some ⟨p, 0, none⟩), .string w_] => S.query_parser_want p w_ w (fun w' => K (.tuple #[]) w')
  | _ => False
theorem T.ok143 : ∀ vs w K, T.c143 vs w K → (callFunc 143 vs.toArray).run Tryz.prog w = .ok (.enter 143 vs.toArray) w ∧ Calls Tryz.prog 143 vs.toArray w fun e w' => ∃ v, e = .returned v ∧ K v w' := by
  intro vs w K h
  unfold T.c143 at h
  split at h
  · refine ⟨Tryz.call143 _ _, ok_of T.CO143 mixed Tryz.func143 (T.eq143 _ _ _ _) h fun v w' hk => ⟨v, rfl, ?_⟩⟩
    split at hk
    · exact hk
    · exact hk.elim
  · exact h.elim

/-- (*e2e/query.parser).name (function 144). -/
def S.query_parser_name (p : Nat) (w : World) (K : ByteArray → World → Prop) : Prop :=
  LdStr w ⟨p, 2, none⟩ fun Text_1 =>
  LdI .i64 w ⟨p, 1, none⟩ fun Kind_2 =>
  if (Kind_2 != 2) = true then
    S.query_parser_fail p w (fun w =>
    K (⟨#[]⟩ : ByteArray) w)
  else
    S.query_parser_step p w (fun w =>
    K Text_1 w)
def T.C144 : CallT := (CallT.cons 147 T.c147 (CallT.cons 65 T.c65 CallT.nil))
def T.A144 : Ann := fun _ => none
set_option maxRecDepth 1000000 in
theorem T.eq144 (p : Nat) (w : World) (K : ByteArray → World → Prop) : denF Tryz.prog T.C144 T.A144 Tryz.f144 [.pointer (some ⟨p, 0, none⟩)] w (fun v w' => match v with | .string r0 => K r0 w' | _ => False) = S.query_parser_name p w K := by kernel_rfl
theorem T.CO144 : CallOk Tryz.prog T.C144 := (CallOk.cons 147 T.ok147 (CallOk.cons 65 T.ok65 CallOk.nil))
def T.c144 (vs : List Value) (w : World) (K : Value → World → Prop) : Prop :=
  match vs with
  | [.pointer (some ⟨p, 0, none⟩)] => S.query_parser_name p w (fun r0 w' => K (.string r0) w')
  | _ => False
theorem T.ok144 : ∀ vs w K, T.c144 vs w K → (callFunc 144 vs.toArray).run Tryz.prog w = .ok (.enter 144 vs.toArray) w ∧ Calls Tryz.prog 144 vs.toArray w fun e w' => ∃ v, e = .returned v ∧ K v w' := by
  intro vs w K h
  unfold T.c144 at h
  split at h
  · refine ⟨Tryz.call144 _ _, ok_of T.CO144 mixed Tryz.func144 (T.eq144 _ _ _) h fun v w' hk => ⟨v, rfl, ?_⟩⟩
    split at hk
    · exact hk
    · exact hk.elim
  · exact h.elim

/-- e2e/query.opOf (function 230). -/
def S.query_opOf (t_Kind : Int) (t_Text : ByteArray) (t_Val : Int) (t_End : Int) (w : World) (K : Int → World → Prop) : Prop :=
  New w (.cells #[.int .i64 t_Kind, .string t_Text, .int .i64 t_Val, .int .i64 t_End] 130) fun p1 w =>
  LdI .i64 w ⟨p1, 0, none⟩ fun Kind_2 =>
  if (Kind_2 != 6) = true then
    K 0 w
  else
    LdStr w ⟨p1, 1, none⟩ fun Text_3 =>
    if (Text_3.toList == (⟨#[60]⟩ : ByteArray).toList) = true then
      K 1 w
    else
      if (Text_3.toList == (⟨#[61]⟩ : ByteArray).toList) = true then
        K 2 w
      else
        if (Text_3.toList == (⟨#[60, 61]⟩ : ByteArray).toList) = true then
          K 3 w
        else
          if (Text_3.toList == (⟨#[62]⟩ : ByteArray).toList) = true then
            K 4 w
          else
            if (Text_3.toList == (⟨#[33, 61]⟩ : ByteArray).toList) = true then
              K 5 w
            else
              if (Text_3.toList == (⟨#[62, 61]⟩ : ByteArray).toList) = true then
                K 6 w
              else
                K 0 w
def T.C230 : CallT := CallT.nil
def T.A230 : Ann := fun i => bif Nat.beq i 1000014 then some ([], [(7, 4)]) else bif Nat.beq i 1000012 then some ([], [(7, 4)]) else bif Nat.beq i 1000010 then some ([], [(7, 4)]) else bif Nat.beq i 1000008 then some ([], [(7, 4)]) else bif Nat.beq i 1000006 then some ([], [(7, 4)]) else none
set_option maxRecDepth 1000000 in
theorem T.eq230 (t_Kind : Int) (t_Text : ByteArray) (t_Val : Int) (t_End : Int) (w : World) (K : Int → World → Prop) : denF Tryz.prog T.C230 T.A230 Tryz.f230 [.agg #[.int .i64 t_Kind, .string t_Text, .int .i64 t_Val, .int .i64 t_End]] w (fun v w' => match v with | .int .i64 r0 => K r0 w' | _ => False) = S.query_opOf t_Kind t_Text t_Val t_End w K := by kernel_rfl
theorem T.CO230 : CallOk Tryz.prog T.C230 := CallOk.nil
def T.c230 (vs : List Value) (w : World) (K : Value → World → Prop) : Prop :=
  match vs with
  | [.agg ⟨[.int .i64 t_Kind, .string t_Text, .int .i64 t_Val, .int .i64 t_End]⟩] => S.query_opOf t_Kind t_Text t_Val t_End w (fun r0 w' => K (.int .i64 r0) w')
  | _ => False
theorem T.ok230 : ∀ vs w K, T.c230 vs w K → (callFunc 230 vs.toArray).run Tryz.prog w = .ok (.enter 230 vs.toArray) w ∧ Calls Tryz.prog 230 vs.toArray w fun e w' => ∃ v, e = .returned v ∧ K v w' := by
  intro vs w K h
  unfold T.c230 at h
  split at h
  · refine ⟨Tryz.call230 _ _, ok_of T.CO230 mixed Tryz.func230 (T.eq230 _ _ _ _ _ _) h fun v w' hk => ⟨v, rfl, ?_⟩⟩
    split at hk
    · exact hk
    · exact hk.elim
  · exact h.elim

/-- (*e2e/query.parser).lit (function 229). -/
def S.query_parser_lit (p : Nat) (w : World) (K : Bool → Int → ByteArray → World → Prop) : Prop :=
  New w (.cells #[.bool false, .int .i64 0, .string ⟨#[]⟩] 167) fun p1 w =>
  LdI .i64 w ⟨p, 1, none⟩ fun Kind_2 =>
  LdStr w ⟨p, 2, none⟩ fun Text_3 =>
  LdI .i64 w ⟨p, 3, none⟩ fun Val_4 =>
  LdI .i64 w ⟨p, 4, none⟩ fun End_5 =>
  New w (.cells #[.int .i64 0, .string ⟨#[]⟩, .int .i64 0, .int .i64 0] 130) fun p6 w =>
  St1 w ⟨p6, 0, none⟩ (.int .i64 Kind_2) fun w =>
  St1 w ⟨p6, 1, none⟩ (.string Text_3) fun w =>
  St1 w ⟨p6, 2, none⟩ (.int .i64 Val_4) fun w =>
  St1 w ⟨p6, 3, none⟩ (.int .i64 End_5) fun w =>
  Join (fun (w : World) =>
    S.query_parser_step p w (fun w =>
    LdI .i64 w ⟨p6, 0, none⟩ fun Kind_7 =>
    if (Kind_7 == 5) = true then
      LdStr w ⟨p6, 1, none⟩ fun Text_8 =>
      S.api_Str Text_8 w (fun IsStr_9 I_10 S_11 w =>
      St1 w ⟨p1, 0, none⟩ (.bool IsStr_9) fun w =>
      St1 w ⟨p1, 1, none⟩ (.int .i64 I_10) fun w =>
      St1 w ⟨p1, 2, none⟩ (.string S_11) fun w =>
      LdB w ⟨p1, 0, none⟩ fun IsStr_12 =>
      LdI .i64 w ⟨p1, 1, none⟩ fun I_13 =>
      LdStr w ⟨p1, 2, none⟩ fun S_14 =>
      K IsStr_12 I_13 S_14 w)
    else
      LdI .i64 w ⟨p6, 2, none⟩ fun Val_15 =>
      S.api_Int Val_15 w (fun IsStr_16 I_17 S_18 w =>
      St1 w ⟨p1, 0, none⟩ (.bool IsStr_16) fun w =>
      St1 w ⟨p1, 1, none⟩ (.int .i64 I_17) fun w =>
      St1 w ⟨p1, 2, none⟩ (.string S_18) fun w =>
      LdB w ⟨p1, 0, none⟩ fun IsStr_19 =>
      LdI .i64 w ⟨p1, 1, none⟩ fun I_20 =>
      LdStr w ⟨p1, 2, none⟩ fun S_21 =>
      K IsStr_19 I_20 S_21 w))) fun J22 =>
  LdI .i64 w ⟨p6, 0, none⟩ fun Kind_23 =>
  if (Kind_23 != 4) = true then
    LdI .i64 w ⟨p6, 0, none⟩ fun Kind_24 =>
    if (Kind_24 != 5) = true then
      S.query_parser_fail p w (fun w =>
      S.api_Int 0 w (fun IsStr_25 I_26 S_27 w =>
      St1 w ⟨p1, 0, none⟩ (.bool IsStr_25) fun w =>
      St1 w ⟨p1, 1, none⟩ (.int .i64 I_26) fun w =>
      St1 w ⟨p1, 2, none⟩ (.string S_27) fun w =>
      LdB w ⟨p1, 0, none⟩ fun IsStr_28 =>
      LdI .i64 w ⟨p1, 1, none⟩ fun I_29 =>
      LdStr w ⟨p1, 2, none⟩ fun S_30 =>
      K IsStr_28 I_29 S_30 w))
    else
      J22 w
  else
    J22 w
def T.C229 : CallT := (CallT.cons 65 T.c65 (CallT.cons 188 T.c188 (CallT.cons 187 T.c187 (CallT.cons 147 T.c147 CallT.nil))))
def T.A229 : Ann := fun _ => none
set_option maxRecDepth 1000000 in
theorem T.eq229 (p : Nat) (w : World) (K : Bool → Int → ByteArray → World → Prop) : denF Tryz.prog T.C229 T.A229 Tryz.f229 [.pointer (some ⟨p, 0, none⟩)] w (fun v w' => match v with | .agg ⟨[.bool r0, .int .i64 r1, .string r2]⟩ => K r0 r1 r2 w' | _ => False) = S.query_parser_lit p w K := by kernel_rfl
theorem T.CO229 : CallOk Tryz.prog T.C229 := (CallOk.cons 65 T.ok65 (CallOk.cons 188 T.ok188 (CallOk.cons 187 T.ok187 (CallOk.cons 147 T.ok147 CallOk.nil))))
def T.c229 (vs : List Value) (w : World) (K : Value → World → Prop) : Prop :=
  match vs with
  | [.pointer (some ⟨p, 0, none⟩)] => S.query_parser_lit p w (fun r0 r1 r2 w' => K (.agg #[.bool r0, .int .i64 r1, .string r2]) w')
  | _ => False
theorem T.ok229 : ∀ vs w K, T.c229 vs w K → (callFunc 229 vs.toArray).run Tryz.prog w = .ok (.enter 229 vs.toArray) w ∧ Calls Tryz.prog 229 vs.toArray w fun e w' => ∃ v, e = .returned v ∧ K v w' := by
  intro vs w K h
  unfold T.c229 at h
  split at h
  · refine ⟨Tryz.call229 _ _, ok_of T.CO229 mixed Tryz.func229 (T.eq229 _ _ _) h fun v w' hk => ⟨v, rfl, ?_⟩⟩
    split at hk
    · exact hk
    · exact hk.elim
  · exact h.elim

/-- (*e2e/query.parser).where (function 145). -/
def S.query_parser_where (p : Nat) (st : Nat) (w : World) (K : World → Prop) : Prop :=
  S.query_parser_eat p (⟨#[87, 72, 69, 82, 69]⟩ : ByteArray) w (fun r1 w =>
  LoopP (σ := Bool × Unit) (fun st2 w next3 =>
    if st2.1 = true then
      New w (.cells #[.string ⟨#[]⟩, .int .i64 0, .bool false, .int .i64 0, .string ⟨#[]⟩] 233) fun p4 w =>
      St1 w ⟨p4, 0, none⟩ (.string ⟨#[]⟩) fun w =>
      St1 w ⟨p4, 1, none⟩ (.int .i64 0) fun w =>
      St1 w ⟨p4, 2, none⟩ (.bool false) fun w =>
      St1 w ⟨p4, 3, none⟩ (.int .i64 0) fun w =>
      St1 w ⟨p4, 4, none⟩ (.string ⟨#[]⟩) fun w =>
      S.query_parser_name p w (fun r5 w =>
      St1 w ⟨p4, 0, none⟩ (.string r5) fun w =>
      LdI .i64 w ⟨p, 1, none⟩ fun Kind_6 =>
      LdStr w ⟨p, 2, none⟩ fun Text_7 =>
      LdI .i64 w ⟨p, 3, none⟩ fun Val_8 =>
      LdI .i64 w ⟨p, 4, none⟩ fun End_9 =>
      S.query_opOf Kind_6 Text_7 Val_8 End_9 w (fun r10 w =>
      St1 w ⟨p4, 1, none⟩ (.int .i64 r10) fun w =>
      LdI .i64 w ⟨p4, 1, none⟩ fun Op_11 =>
      Join (fun (w : World) =>
        S.query_parser_lit p w (fun IsStr_12 I_13 S_14 w =>
        St1 w ⟨p4, 2, none⟩ (.bool IsStr_12) fun w =>
        St1 w ⟨p4, 3, none⟩ (.int .i64 I_13) fun w =>
        St1 w ⟨p4, 4, none⟩ (.string S_14) fun w =>
        Drew w fun w =>
        Hold w ⟨st, 8, none⟩ 1 fun R15 =>
        LdS w ⟨st, 8, none⟩ fun Where_16 =>
        LdStr w ⟨p4, 0, none⟩ fun Col_17 =>
        LdI .i64 w ⟨p4, 1, none⟩ fun Op_18 =>
        LdB w ⟨p4, 2, none⟩ fun Lit_IsStr_19 =>
        LdI .i64 w ⟨p4, 3, none⟩ fun Lit_I_20 =>
        LdStr w ⟨p4, 4, none⟩ fun Lit_S_21 =>
        New w (.cells #[.string Col_17, .int .i64 Op_18, .bool Lit_IsStr_19, .int .i64 Lit_I_20, .string Lit_S_21] 233) fun p22 w =>
        After R15 w <|
        AppS 233 [.string ⟨#[]⟩, .int .i64 0, .bool false, .int .i64 0, .string ⟨#[]⟩] 56 5 w Where_16 ⟨some ⟨p22, 0, none⟩, 1, 1⟩ fun l23 w =>
        St1 w ⟨st, 8, none⟩ (.slice l23.a l23.l l23.c) fun w =>
        S.query_parser_eat p (⟨#[65, 78, 68]⟩ : ByteArray) w (fun r24 w =>
        next3 (r24, ()) w))) fun J25 =>
      if (Op_11 != 0) = true then
        S.query_parser_step p w (fun w =>
        J25 w)
      else
        S.query_parser_fail p w (fun w =>
        J25 w)))
    else
      K w) (r1, ()) w)
def T.C145 : CallT := (CallT.cons 139 T.c139 (CallT.cons 144 T.c144 (CallT.cons 230 T.c230 (CallT.cons 229 T.c229 (CallT.cons 65 T.c65 (CallT.cons 147 T.c147 CallT.nil))))))
def T.A145 : Ann := fun i => bif Nat.beq i 1 then some ([0, 1], [(4, 3)]) else none
set_option maxRecDepth 1000000 in
theorem T.eq145 (p : Nat) (st : Nat) (w : World) (K : World → Prop) : denF Tryz.prog T.C145 T.A145 Tryz.f145 [.pointer (some ⟨p, 0, none⟩), .pointer (some ⟨st, 0, none⟩)] w (fun v w' => match v with | .tuple ⟨[]⟩ => K w' | _ => False) = S.query_parser_where p st w K := by kernel_rfl
theorem T.CO145 : CallOk Tryz.prog T.C145 := (CallOk.cons 139 T.ok139 (CallOk.cons 144 T.ok144 (CallOk.cons 230 T.ok230 (CallOk.cons 229 T.ok229 (CallOk.cons 65 T.ok65 (CallOk.cons 147 T.ok147 CallOk.nil))))))
def T.c145 (vs : List Value) (w : World) (K : Value → World → Prop) : Prop :=
  match vs with
  | [.pointer (some ⟨p, 0, none⟩), .pointer (some ⟨st, 0, none⟩)] => S.query_parser_where p st w (fun w' => K (.tuple #[]) w')
  | _ => False
theorem T.ok145 : ∀ vs w K, T.c145 vs w K → (callFunc 145 vs.toArray).run Tryz.prog w = .ok (.enter 145 vs.toArray) w ∧ Calls Tryz.prog 145 vs.toArray w fun e w' => ∃ v, e = .returned v ∧ K v w' := by
  intro vs w K h
  unfold T.c145 at h
  split at h
  · refine ⟨Tryz.call145 _ _, ok_of T.CO145 mixed Tryz.func145 (T.eq145 _ _ _ _) h fun v w' hk => ⟨v, rfl, ?_⟩⟩
    split at hk
    · exact hk
    · exact hk.elim
  · exact h.elim

/-- (*e2e/query.parser).selects (function 140). -/
def S.query_parser_selects (p : Nat) (st : Nat) (w : World) (K : World → Prop) : Prop :=
  St1 w ⟨st, 0, none⟩ (.int .i64 8) fun w =>
  S.query_parser_eat p (⟨#[42]⟩ : ByteArray) w (fun r1 w =>
  St1 w ⟨st, 5, none⟩ (.bool r1) fun w =>
  LdB w ⟨st, 5, none⟩ fun Star_2 =>
  Let (!Star_2) fun more_3 =>
  Join (fun (w : World) =>
    S.query_parser_want p (⟨#[70, 82, 79, 77]⟩ : ByteArray) w (fun w =>
    S.query_parser_name p w (fun r4 w =>
    St1 w ⟨st, 1, none⟩ (.string r4) fun w =>
    S.query_parser_where p st w (fun w =>
    S.query_parser_eat p (⟨#[79, 82, 68, 69, 82]⟩ : ByteArray) w (fun r5 w =>
    Join (fun (w : World) =>
      S.query_parser_eat p (⟨#[76, 73, 77, 73, 84]⟩ : ByteArray) w (fun r6 w =>
      if r6 = true then
        St1 w ⟨st, 11, none⟩ (.bool true) fun w =>
        LdI .i64 w ⟨p, 3, none⟩ fun Val_7 =>
        St1 w ⟨st, 12, none⟩ (.int .i64 Val_7) fun w =>
        LdI .i64 w ⟨p, 1, none⟩ fun Kind_8 =>
        if (Kind_8 == 4) = true then
          S.query_parser_step p w (fun w =>
          K w)
        else
          S.query_parser_fail p w (fun w =>
          K w)
      else
        K w)) fun J9 =>
    if r5 = true then
      S.query_parser_want p (⟨#[66, 89]⟩ : ByteArray) w (fun w =>
      S.query_parser_name p w (fun r10 w =>
      St1 w ⟨st, 9, none⟩ (.string r10) fun w =>
      S.query_parser_eat p (⟨#[68, 69, 83, 67]⟩ : ByteArray) w (fun r11 w =>
      St1 w ⟨st, 10, none⟩ (.bool r11) fun w =>
      J9 w)))
    else
      J9 w))))) fun J12 =>
  LoopP (σ := Bool × Unit) (fun st13 w next14 =>
    if st13.1 = true then
      Drew w fun w =>
      Hold w ⟨st, 6, none⟩ 1 fun R15 =>
      LdS w ⟨st, 6, none⟩ fun List_16 =>
      S.query_parser_name p w (fun r17 w =>
      After R15 w <|
      New w (.cells #[.string r17] 9) fun p18 w =>
      After R15 w <|
      AppS 9 [.string ⟨#[]⟩] 16 1 w List_16 ⟨some ⟨p18, 0, none⟩, 1, 1⟩ fun l19 w =>
      St1 w ⟨st, 6, none⟩ (.slice l19.a l19.l l19.c) fun w =>
      S.query_parser_eat p (⟨#[44]⟩ : ByteArray) w (fun r20 w =>
      next14 (r20, ()) w))
    else
      J12 w) (more_3, ()) w)
def T.C140 : CallT := (CallT.cons 139 T.c139 (CallT.cons 143 T.c143 (CallT.cons 144 T.c144 (CallT.cons 145 T.c145 (CallT.cons 65 T.c65 (CallT.cons 147 T.c147 CallT.nil))))))
def T.A140 : Ann := fun i => bif Nat.beq i 3 then some ([0, 1], [(4, 3)]) else none
set_option maxRecDepth 1000000 in
theorem T.eq140 (p : Nat) (st : Nat) (w : World) (K : World → Prop) : denF Tryz.prog T.C140 T.A140 Tryz.f140 [.pointer (some ⟨p, 0, none⟩), .pointer (some ⟨st, 0, none⟩)] w (fun v w' => match v with | .tuple ⟨[]⟩ => K w' | _ => False) = S.query_parser_selects p st w K := by kernel_rfl
theorem T.CO140 : CallOk Tryz.prog T.C140 := (CallOk.cons 139 T.ok139 (CallOk.cons 143 T.ok143 (CallOk.cons 144 T.ok144 (CallOk.cons 145 T.ok145 (CallOk.cons 65 T.ok65 (CallOk.cons 147 T.ok147 CallOk.nil))))))
def T.c140 (vs : List Value) (w : World) (K : Value → World → Prop) : Prop :=
  match vs with
  | [.pointer (some ⟨p, 0, none⟩), .pointer (some ⟨st, 0, none⟩)] => S.query_parser_selects p st w (fun w' => K (.tuple #[]) w')
  | _ => False
theorem T.ok140 : ∀ vs w K, T.c140 vs w K → (callFunc 140 vs.toArray).run Tryz.prog w = .ok (.enter 140 vs.toArray) w ∧ Calls Tryz.prog 140 vs.toArray w fun e w' => ∃ v, e = .returned v ∧ K v w' := by
  intro vs w K h
  unfold T.c140 at h
  split at h
  · refine ⟨Tryz.call140 _ _, ok_of T.CO140 mixed Tryz.func140 (T.eq140 _ _ _ _) h fun v w' hk => ⟨v, rfl, ?_⟩⟩
    split at hk
    · exact hk
    · exact hk.elim
  · exact h.elim

/-- (*e2e/query.parser).inserts (function 141). -/
def S.query_parser_inserts (p : Nat) (st : Nat) (w : World) (K : World → Prop) : Prop :=
  St1 w ⟨st, 0, none⟩ (.int .i64 7) fun w =>
  S.query_parser_want p (⟨#[73, 78, 84, 79]⟩ : ByteArray) w (fun w =>
  S.query_parser_name p w (fun r1 w =>
  St1 w ⟨st, 1, none⟩ (.string r1) fun w =>
  S.query_parser_want p (⟨#[86, 65, 76, 85, 69, 83]⟩ : ByteArray) w (fun w =>
  S.query_parser_want p (⟨#[40]⟩ : ByteArray) w (fun w =>
  LoopP (σ := Bool × Unit) (fun st2 w next3 =>
    if st2.1 = true then
      Drew w fun w =>
      Hold w ⟨st, 4, none⟩ 1 fun R4 =>
      LdS w ⟨st, 4, none⟩ fun Lits_5 =>
      S.query_parser_lit p w (fun IsStr_6 I_7 S_8 w =>
      After R4 w <|
      New w (.cells #[.bool IsStr_6, .int .i64 I_7, .string S_8] 167) fun p9 w =>
      After R4 w <|
      AppS 167 [.bool false, .int .i64 0, .string ⟨#[]⟩] 32 3 w Lits_5 ⟨some ⟨p9, 0, none⟩, 1, 1⟩ fun l10 w =>
      St1 w ⟨st, 4, none⟩ (.slice l10.a l10.l l10.c) fun w =>
      S.query_parser_eat p (⟨#[44]⟩ : ByteArray) w (fun r11 w =>
      next3 (r11, ()) w))
    else
      S.query_parser_want p (⟨#[41]⟩ : ByteArray) w (fun w =>
      K w)) (true, ()) w))))
def T.C141 : CallT := (CallT.cons 143 T.c143 (CallT.cons 144 T.c144 (CallT.cons 229 T.c229 (CallT.cons 139 T.c139 CallT.nil))))
def T.A141 : Ann := fun i => bif Nat.beq i 6 then some ([0, 1], [(4, 3)]) else none
set_option maxRecDepth 1000000 in
theorem T.eq141 (p : Nat) (st : Nat) (w : World) (K : World → Prop) : denF Tryz.prog T.C141 T.A141 Tryz.f141 [.pointer (some ⟨p, 0, none⟩), .pointer (some ⟨st, 0, none⟩)] w (fun v w' => match v with | .tuple ⟨[]⟩ => K w' | _ => False) = S.query_parser_inserts p st w K := by kernel_rfl
theorem T.CO141 : CallOk Tryz.prog T.C141 := (CallOk.cons 143 T.ok143 (CallOk.cons 144 T.ok144 (CallOk.cons 229 T.ok229 (CallOk.cons 139 T.ok139 CallOk.nil))))
def T.c141 (vs : List Value) (w : World) (K : Value → World → Prop) : Prop :=
  match vs with
  | [.pointer (some ⟨p, 0, none⟩), .pointer (some ⟨st, 0, none⟩)] => S.query_parser_inserts p st w (fun w' => K (.tuple #[]) w')
  | _ => False
theorem T.ok141 : ∀ vs w K, T.c141 vs w K → (callFunc 141 vs.toArray).run Tryz.prog w = .ok (.enter 141 vs.toArray) w ∧ Calls Tryz.prog 141 vs.toArray w fun e w' => ∃ v, e = .returned v ∧ K v w' := by
  intro vs w K h
  unfold T.c141 at h
  split at h
  · refine ⟨Tryz.call141 _ _, ok_of T.CO141 mixed Tryz.func141 (T.eq141 _ _ _ _) h fun v w' hk => ⟨v, rfl, ?_⟩⟩
    split at hk
    · exact hk
    · exact hk.elim
  · exact h.elim

/-- (*e2e/query.parser).updates (function 142). -/
def S.query_parser_updates (p : Nat) (st : Nat) (w : World) (K : World → Prop) : Prop :=
  St1 w ⟨st, 0, none⟩ (.int .i64 9) fun w =>
  S.query_parser_name p w (fun r1 w =>
  St1 w ⟨st, 1, none⟩ (.string r1) fun w =>
  S.query_parser_want p (⟨#[83, 69, 84]⟩ : ByteArray) w (fun w =>
  Join (fun (w : World) =>
    S.query_parser_where p st w (fun w =>
    K w)) fun J2 =>
  LoopP (σ := Bool × Unit) (fun st3 w next4 =>
    if st3.1 = true then
      New w (.cells #[.string ⟨#[]⟩, .int .i64 0, .bool false, .int .i64 0, .string ⟨#[]⟩] 233) fun p5 w =>
      St1 w ⟨p5, 0, none⟩ (.string ⟨#[]⟩) fun w =>
      St1 w ⟨p5, 1, none⟩ (.int .i64 2) fun w =>
      St1 w ⟨p5, 2, none⟩ (.bool false) fun w =>
      St1 w ⟨p5, 3, none⟩ (.int .i64 0) fun w =>
      St1 w ⟨p5, 4, none⟩ (.string ⟨#[]⟩) fun w =>
      S.query_parser_name p w (fun r6 w =>
      St1 w ⟨p5, 0, none⟩ (.string r6) fun w =>
      S.query_parser_want p (⟨#[61]⟩ : ByteArray) w (fun w =>
      S.query_parser_lit p w (fun IsStr_7 I_8 S_9 w =>
      St1 w ⟨p5, 2, none⟩ (.bool IsStr_7) fun w =>
      St1 w ⟨p5, 3, none⟩ (.int .i64 I_8) fun w =>
      St1 w ⟨p5, 4, none⟩ (.string S_9) fun w =>
      Drew w fun w =>
      Hold w ⟨st, 7, none⟩ 1 fun R10 =>
      LdS w ⟨st, 7, none⟩ fun Sets_11 =>
      LdStr w ⟨p5, 0, none⟩ fun Col_12 =>
      LdI .i64 w ⟨p5, 1, none⟩ fun Op_13 =>
      LdB w ⟨p5, 2, none⟩ fun Lit_IsStr_14 =>
      LdI .i64 w ⟨p5, 3, none⟩ fun Lit_I_15 =>
      LdStr w ⟨p5, 4, none⟩ fun Lit_S_16 =>
      New w (.cells #[.string Col_12, .int .i64 Op_13, .bool Lit_IsStr_14, .int .i64 Lit_I_15, .string Lit_S_16] 233) fun p17 w =>
      After R10 w <|
      AppS 233 [.string ⟨#[]⟩, .int .i64 0, .bool false, .int .i64 0, .string ⟨#[]⟩] 56 5 w Sets_11 ⟨some ⟨p17, 0, none⟩, 1, 1⟩ fun l18 w =>
      St1 w ⟨st, 7, none⟩ (.slice l18.a l18.l l18.c) fun w =>
      S.query_parser_eat p (⟨#[44]⟩ : ByteArray) w (fun r19 w =>
      next4 (r19, ()) w))))
    else
      J2 w) (true, ()) w))
def T.C142 : CallT := (CallT.cons 144 T.c144 (CallT.cons 143 T.c143 (CallT.cons 145 T.c145 (CallT.cons 229 T.c229 (CallT.cons 139 T.c139 CallT.nil)))))
def T.A142 : Ann := fun i => bif Nat.beq i 4 then some ([0, 1], [(4, 3)]) else none
set_option maxRecDepth 1000000 in
theorem T.eq142 (p : Nat) (st : Nat) (w : World) (K : World → Prop) : denF Tryz.prog T.C142 T.A142 Tryz.f142 [.pointer (some ⟨p, 0, none⟩), .pointer (some ⟨st, 0, none⟩)] w (fun v w' => match v with | .tuple ⟨[]⟩ => K w' | _ => False) = S.query_parser_updates p st w K := by kernel_rfl
theorem T.CO142 : CallOk Tryz.prog T.C142 := (CallOk.cons 144 T.ok144 (CallOk.cons 143 T.ok143 (CallOk.cons 145 T.ok145 (CallOk.cons 229 T.ok229 (CallOk.cons 139 T.ok139 CallOk.nil)))))
def T.c142 (vs : List Value) (w : World) (K : Value → World → Prop) : Prop :=
  match vs with
  | [.pointer (some ⟨p, 0, none⟩), .pointer (some ⟨st, 0, none⟩)] => S.query_parser_updates p st w (fun w' => K (.tuple #[]) w')
  | _ => False
theorem T.ok142 : ∀ vs w K, T.c142 vs w K → (callFunc 142 vs.toArray).run Tryz.prog w = .ok (.enter 142 vs.toArray) w ∧ Calls Tryz.prog 142 vs.toArray w fun e w' => ∃ v, e = .returned v ∧ K v w' := by
  intro vs w K h
  unfold T.c142 at h
  split at h
  · refine ⟨Tryz.call142 _ _, ok_of T.CO142 mixed Tryz.func142 (T.eq142 _ _ _ _) h fun v w' hk => ⟨v, rfl, ?_⟩⟩
    split at hk
    · exact hk
    · exact hk.elim
  · exact h.elim

/-- (*e2e/query.parser).creates (function 146). -/
def S.query_parser_creates (p : Nat) (st : Nat) (w : World) (K : World → Prop) : Prop :=
  S.query_parser_eat p (⟨#[84, 65, 66, 76, 69]⟩ : ByteArray) w (fun r1 w =>
  if (!r1) = true then
    St1 w ⟨st, 0, none⟩ (.int .i64 6) fun w =>
    S.query_parser_want p (⟨#[73, 78, 68, 69, 88]⟩ : ByteArray) w (fun w =>
    S.query_parser_want p (⟨#[79, 78]⟩ : ByteArray) w (fun w =>
    S.query_parser_name p w (fun r2 w =>
    St1 w ⟨st, 1, none⟩ (.string r2) fun w =>
    S.query_parser_want p (⟨#[40]⟩ : ByteArray) w (fun w =>
    Drew w fun w =>
    Hold w ⟨st, 6, none⟩ 1 fun R3 =>
    LdS w ⟨st, 6, none⟩ fun List_4 =>
    S.query_parser_name p w (fun r5 w =>
    After R3 w <|
    New w (.cells #[.string r5] 9) fun p6 w =>
    After R3 w <|
    AppS 9 [.string ⟨#[]⟩] 16 1 w List_4 ⟨some ⟨p6, 0, none⟩, 1, 1⟩ fun l7 w =>
    St1 w ⟨st, 6, none⟩ (.slice l7.a l7.l l7.c) fun w =>
    S.query_parser_want p (⟨#[41]⟩ : ByteArray) w (fun w =>
    K w))))))
  else
    St1 w ⟨st, 0, none⟩ (.int .i64 4) fun w =>
    S.query_parser_name p w (fun r8 w =>
    St1 w ⟨st, 1, none⟩ (.string r8) fun w =>
    S.query_parser_want p (⟨#[40]⟩ : ByteArray) w (fun w =>
    Join (fun (keys_9 : Int) (w : World) =>
      S.query_parser_want p (⟨#[41]⟩ : ByteArray) w (fun w =>
      if (keys_9 != 1) = true then
        S.query_parser_fail p w (fun w =>
        K w)
      else
        K w)) fun J10 =>
    LoopP (σ := Int × Bool × Unit) (fun st11 w next12 =>
      if st11.2.1 = true then
        New w (.cells #[.string ⟨#[]⟩, .bool false] 149) fun p13 w =>
        St1 w ⟨p13, 0, none⟩ (.string ⟨#[]⟩) fun w =>
        St1 w ⟨p13, 1, none⟩ (.bool false) fun w =>
        S.query_parser_name p w (fun r14 w =>
        St1 w ⟨p13, 0, none⟩ (.string r14) fun w =>
        S.query_parser_eat p (⟨#[84, 69, 88, 84]⟩ : ByteArray) w (fun r15 w =>
        St1 w ⟨p13, 1, none⟩ (.bool r15) fun w =>
        LdB w ⟨p13, 1, none⟩ fun IsStr_16 =>
        Join (fun (w : World) =>
          S.query_parser_eat p (⟨#[75, 69, 89]⟩ : ByteArray) w (fun r17 w =>
          Join (fun (keys_18 : Int) (w : World) =>
            Drew w fun w =>
            Hold w ⟨st, 2, none⟩ 1 fun R19 =>
            LdS w ⟨st, 2, none⟩ fun Defs_20 =>
            LdStr w ⟨p13, 0, none⟩ fun Name_21 =>
            LdB w ⟨p13, 1, none⟩ fun IsStr_22 =>
            New w (.cells #[.string Name_21, .bool IsStr_22] 149) fun p23 w =>
            After R19 w <|
            AppS 149 [.string ⟨#[]⟩, .bool false] 24 2 w Defs_20 ⟨some ⟨p23, 0, none⟩, 1, 1⟩ fun l24 w =>
            St1 w ⟨st, 2, none⟩ (.slice l24.a l24.l l24.c) fun w =>
            S.query_parser_eat p (⟨#[44]⟩ : ByteArray) w (fun r25 w =>
            next12 (keys_18, r25, ()) w)) fun J26 =>
          if r17 = true then
            Let (W (st11.1 + 1)) fun keys_27 =>
            LdS w ⟨st, 2, none⟩ fun Defs_28 =>
            St1 w ⟨st, 3, none⟩ (.int .i64 (Defs_28.l : Int)) fun w =>
            J26 keys_27 w
          else
            J26 st11.1 w)) fun J29 =>
        if (!IsStr_16) = true then
          S.query_parser_want p (⟨#[73, 78, 84]⟩ : ByteArray) w (fun w =>
          J29 w)
        else
          J29 w))
      else
        J10 st11.1 w) (0, true, ()) w)))
def T.C146 : CallT := (CallT.cons 139 T.c139 (CallT.cons 143 T.c143 (CallT.cons 144 T.c144 (CallT.cons 147 T.c147 CallT.nil))))
def T.A146 : Ann := fun i => bif Nat.beq i 13 then some ([0, 1], [(4, 0), (5, 3)]) else none
set_option maxRecDepth 1000000 in
theorem T.eq146 (p : Nat) (st : Nat) (w : World) (K : World → Prop) : denF Tryz.prog T.C146 T.A146 Tryz.f146 [.pointer (some ⟨p, 0, none⟩), .pointer (some ⟨st, 0, none⟩)] w (fun v w' => match v with | .tuple ⟨[]⟩ => K w' | _ => False) = S.query_parser_creates p st w K := by kernel_rfl
theorem T.CO146 : CallOk Tryz.prog T.C146 := (CallOk.cons 139 T.ok139 (CallOk.cons 143 T.ok143 (CallOk.cons 144 T.ok144 (CallOk.cons 147 T.ok147 CallOk.nil))))
def T.c146 (vs : List Value) (w : World) (K : Value → World → Prop) : Prop :=
  match vs with
  | [.pointer (some ⟨p, 0, none⟩), .pointer (some ⟨st, 0, none⟩)] => S.query_parser_creates p st w (fun w' => K (.tuple #[]) w')
  | _ => False
theorem T.ok146 : ∀ vs w K, T.c146 vs w K → (callFunc 146 vs.toArray).run Tryz.prog w = .ok (.enter 146 vs.toArray) w ∧ Calls Tryz.prog 146 vs.toArray w fun e w' => ∃ v, e = .returned v ∧ K v w' := by
  intro vs w K h
  unfold T.c146 at h
  split at h
  · refine ⟨Tryz.call146 _ _, ok_of T.CO146 mixed Tryz.func146 (T.eq146 _ _ _ _) h fun v w' hk => ⟨v, rfl, ?_⟩⟩
    split at hk
    · exact hk
    · exact hk.elim
  · exact h.elim

/-- (*e2e/query.parser).sentence (function 66). -/
def S.query_parser_sentence (p : Nat) (st : Nat) (w : World) (K : World → Prop) : Prop :=
  S.query_parser_eat p (⟨#[83, 69, 76, 69, 67, 84]⟩ : ByteArray) w (fun r1 w =>
  if r1 = true then
    S.query_parser_selects p st w (fun w =>
    K w)
  else
    S.query_parser_eat p (⟨#[73, 78, 83, 69, 82, 84]⟩ : ByteArray) w (fun r2 w =>
    if r2 = true then
      S.query_parser_inserts p st w (fun w =>
      K w)
    else
      S.query_parser_eat p (⟨#[85, 80, 68, 65, 84, 69]⟩ : ByteArray) w (fun r3 w =>
      if r3 = true then
        S.query_parser_updates p st w (fun w =>
        K w)
      else
        S.query_parser_eat p (⟨#[68, 69, 76, 69, 84, 69]⟩ : ByteArray) w (fun r4 w =>
        if r4 = true then
          St1 w ⟨st, 0, none⟩ (.int .i64 10) fun w =>
          S.query_parser_want p (⟨#[70, 82, 79, 77]⟩ : ByteArray) w (fun w =>
          S.query_parser_name p w (fun r5 w =>
          St1 w ⟨st, 1, none⟩ (.string r5) fun w =>
          S.query_parser_where p st w (fun w =>
          K w)))
        else
          S.query_parser_eat p (⟨#[66, 69, 71, 73, 78]⟩ : ByteArray) w (fun r6 w =>
          if r6 = true then
            St1 w ⟨st, 0, none⟩ (.int .i64 1) fun w =>
            K w
          else
            S.query_parser_eat p (⟨#[67, 79, 77, 77, 73, 84]⟩ : ByteArray) w (fun r7 w =>
            if r7 = true then
              St1 w ⟨st, 0, none⟩ (.int .i64 2) fun w =>
              K w
            else
              S.query_parser_eat p (⟨#[82, 79, 76, 76, 66, 65, 67, 75]⟩ : ByteArray) w (fun r8 w =>
              if r8 = true then
                St1 w ⟨st, 0, none⟩ (.int .i64 3) fun w =>
                K w
              else
                S.query_parser_eat p (⟨#[68, 82, 79, 80]⟩ : ByteArray) w (fun r9 w =>
                if r9 = true then
                  St1 w ⟨st, 0, none⟩ (.int .i64 5) fun w =>
                  S.query_parser_want p (⟨#[84, 65, 66, 76, 69]⟩ : ByteArray) w (fun w =>
                  S.query_parser_name p w (fun r10 w =>
                  St1 w ⟨st, 1, none⟩ (.string r10) fun w =>
                  K w))
                else
                  S.query_parser_eat p (⟨#[67, 82, 69, 65, 84, 69]⟩ : ByteArray) w (fun r11 w =>
                  if r11 = true then
                    S.query_parser_creates p st w (fun w =>
                    K w)
                  else
                    S.query_parser_fail p w (fun w =>
                    K w))))))))))
def T.C66 : CallT := (CallT.cons 139 T.c139 (CallT.cons 140 T.c140 (CallT.cons 141 T.c141 (CallT.cons 142 T.c142 (CallT.cons 143 T.c143 (CallT.cons 144 T.c144 (CallT.cons 145 T.c145 (CallT.cons 146 T.c146 (CallT.cons 147 T.c147 CallT.nil)))))))))
def T.A66 : Ann := fun i => bif Nat.beq i 1000021 then some ([], [(0, 5), (1, 5)]) else bif Nat.beq i 1000017 then some ([], [(0, 5), (1, 5)]) else bif Nat.beq i 1000015 then some ([], [(0, 5), (1, 5)]) else bif Nat.beq i 1000013 then some ([], [(0, 5), (1, 5)]) else bif Nat.beq i 1000011 then some ([], [(0, 5), (1, 5)]) else bif Nat.beq i 1000006 then some ([], [(0, 5), (1, 5)]) else bif Nat.beq i 1000004 then some ([], [(0, 5), (1, 5)]) else bif Nat.beq i 1000002 then some ([], [(0, 5), (1, 5)]) else none
set_option maxRecDepth 1000000 in
theorem T.eq66 (p : Nat) (st : Nat) (w : World) (K : World → Prop) : denF Tryz.prog T.C66 T.A66 Tryz.f66 [.pointer (some ⟨p, 0, none⟩), .pointer (some ⟨st, 0, none⟩)] w (fun v w' => match v with | .tuple ⟨[]⟩ => K w' | _ => False) = S.query_parser_sentence p st w K := by kernel_rfl
theorem T.CO66 : CallOk Tryz.prog T.C66 := (CallOk.cons 139 T.ok139 (CallOk.cons 140 T.ok140 (CallOk.cons 141 T.ok141 (CallOk.cons 142 T.ok142 (CallOk.cons 143 T.ok143 (CallOk.cons 144 T.ok144 (CallOk.cons 145 T.ok145 (CallOk.cons 146 T.ok146 (CallOk.cons 147 T.ok147 CallOk.nil)))))))))
def T.c66 (vs : List Value) (w : World) (K : Value → World → Prop) : Prop :=
  match vs with
  | [.pointer (some ⟨p, 0, none⟩), .pointer (some ⟨st, 0, none⟩)] => S.query_parser_sentence p st w (fun w' => K (.tuple #[]) w')
  | _ => False
theorem T.ok66 : ∀ vs w K, T.c66 vs w K → (callFunc 66 vs.toArray).run Tryz.prog w = .ok (.enter 66 vs.toArray) w ∧ Calls Tryz.prog 66 vs.toArray w fun e w' => ∃ v, e = .returned v ∧ K v w' := by
  intro vs w K h
  unfold T.c66 at h
  split at h
  · refine ⟨Tryz.call66 _ _, ok_of T.CO66 mixed Tryz.func66 (T.eq66 _ _ _ _) h fun v w' hk => ⟨v, rfl, ?_⟩⟩
    split at hk
    · exact hk
    · exact hk.elim
  · exact h.elim

/-- e2e/query.Parse (function 24). -/
def S.query_Parse (text : ByteArray) (w : World) (K : Int → ByteArray → Sl → Int → Sl → Bool → Sl → Sl → Sl → ByteArray → Bool → Bool → Int → Bool → World → Prop) : Prop :=
  New w (.cells #[.int .i64 0, .string ⟨#[]⟩, .slice none 0 0, .int .i64 0, .slice none 0 0, .bool false, .slice none 0 0, .slice none 0 0, .slice none 0 0, .string ⟨#[]⟩, .bool false, .bool false, .int .i64 0] 64) fun p1 w =>
  if (decide ((text.size : Int) > 256)) = true then
    St1 w ⟨p1, 0, none⟩ (.int .i64 0) fun w =>
    St1 w ⟨p1, 1, none⟩ (.string ⟨#[]⟩) fun w =>
    St1 w ⟨p1, 2, none⟩ (.slice none 0 0) fun w =>
    St1 w ⟨p1, 3, none⟩ (.int .i64 0) fun w =>
    St1 w ⟨p1, 4, none⟩ (.slice none 0 0) fun w =>
    St1 w ⟨p1, 5, none⟩ (.bool false) fun w =>
    St1 w ⟨p1, 6, none⟩ (.slice none 0 0) fun w =>
    St1 w ⟨p1, 7, none⟩ (.slice none 0 0) fun w =>
    St1 w ⟨p1, 8, none⟩ (.slice none 0 0) fun w =>
    St1 w ⟨p1, 9, none⟩ (.string ⟨#[]⟩) fun w =>
    St1 w ⟨p1, 10, none⟩ (.bool false) fun w =>
    St1 w ⟨p1, 11, none⟩ (.bool false) fun w =>
    St1 w ⟨p1, 12, none⟩ (.int .i64 0) fun w =>
    LdI .i64 w ⟨p1, 0, none⟩ fun Kind_2 =>
    LdStr w ⟨p1, 1, none⟩ fun Table_3 =>
    LdS w ⟨p1, 2, none⟩ fun Defs_4 =>
    LdI .i64 w ⟨p1, 3, none⟩ fun PK_5 =>
    LdS w ⟨p1, 4, none⟩ fun Lits_6 =>
    LdB w ⟨p1, 5, none⟩ fun Star_7 =>
    LdS w ⟨p1, 6, none⟩ fun List_8 =>
    LdS w ⟨p1, 7, none⟩ fun Sets_9 =>
    LdS w ⟨p1, 8, none⟩ fun Where_10 =>
    LdStr w ⟨p1, 9, none⟩ fun Order_11 =>
    LdB w ⟨p1, 10, none⟩ fun Desc_12 =>
    LdB w ⟨p1, 11, none⟩ fun HasLimit_13 =>
    LdI .i64 w ⟨p1, 12, none⟩ fun Limit_14 =>
    K Kind_2 Table_3 Defs_4 PK_5 Lits_6 Star_7 List_8 Sets_9 Where_10 Order_11 Desc_12 HasLimit_13 Limit_14 false w
  else
    New w (.cells #[.string text, .int .i64 0, .string ⟨#[]⟩, .int .i64 0, .int .i64 0] 132) fun p15 w =>
    S.query_parser_step p15 w (fun w =>
    New w (.cells #[.int .i64 0, .string ⟨#[]⟩, .slice none 0 0, .int .i64 0, .slice none 0 0, .bool false, .slice none 0 0, .slice none 0 0, .slice none 0 0, .string ⟨#[]⟩, .bool false, .bool false, .int .i64 0] 64) fun p16 w =>
    S.query_parser_sentence p15 p16 w (fun w =>
    LdI .i64 w ⟨p15, 1, none⟩ fun Kind_17 =>
    if (Kind_17 != 0) = true then
      St1 w ⟨p1, 0, none⟩ (.int .i64 0) fun w =>
      St1 w ⟨p1, 1, none⟩ (.string ⟨#[]⟩) fun w =>
      St1 w ⟨p1, 2, none⟩ (.slice none 0 0) fun w =>
      St1 w ⟨p1, 3, none⟩ (.int .i64 0) fun w =>
      St1 w ⟨p1, 4, none⟩ (.slice none 0 0) fun w =>
      St1 w ⟨p1, 5, none⟩ (.bool false) fun w =>
      St1 w ⟨p1, 6, none⟩ (.slice none 0 0) fun w =>
      St1 w ⟨p1, 7, none⟩ (.slice none 0 0) fun w =>
      St1 w ⟨p1, 8, none⟩ (.slice none 0 0) fun w =>
      St1 w ⟨p1, 9, none⟩ (.string ⟨#[]⟩) fun w =>
      St1 w ⟨p1, 10, none⟩ (.bool false) fun w =>
      St1 w ⟨p1, 11, none⟩ (.bool false) fun w =>
      St1 w ⟨p1, 12, none⟩ (.int .i64 0) fun w =>
      LdI .i64 w ⟨p1, 0, none⟩ fun Kind_18 =>
      LdStr w ⟨p1, 1, none⟩ fun Table_19 =>
      LdS w ⟨p1, 2, none⟩ fun Defs_20 =>
      LdI .i64 w ⟨p1, 3, none⟩ fun PK_21 =>
      LdS w ⟨p1, 4, none⟩ fun Lits_22 =>
      LdB w ⟨p1, 5, none⟩ fun Star_23 =>
      LdS w ⟨p1, 6, none⟩ fun List_24 =>
      LdS w ⟨p1, 7, none⟩ fun Sets_25 =>
      LdS w ⟨p1, 8, none⟩ fun Where_26 =>
      LdStr w ⟨p1, 9, none⟩ fun Order_27 =>
      LdB w ⟨p1, 10, none⟩ fun Desc_28 =>
      LdB w ⟨p1, 11, none⟩ fun HasLimit_29 =>
      LdI .i64 w ⟨p1, 12, none⟩ fun Limit_30 =>
      K Kind_18 Table_19 Defs_20 PK_21 Lits_22 Star_23 List_24 Sets_25 Where_26 Order_27 Desc_28 HasLimit_29 Limit_30 false w
    else
      LdI .i64 w ⟨p16, 0, none⟩ fun Kind_31 =>
      LdStr w ⟨p16, 1, none⟩ fun Table_32 =>
      LdS w ⟨p16, 2, none⟩ fun Defs_33 =>
      LdI .i64 w ⟨p16, 3, none⟩ fun PK_34 =>
      LdS w ⟨p16, 4, none⟩ fun Lits_35 =>
      LdB w ⟨p16, 5, none⟩ fun Star_36 =>
      LdS w ⟨p16, 6, none⟩ fun List_37 =>
      LdS w ⟨p16, 7, none⟩ fun Sets_38 =>
      LdS w ⟨p16, 8, none⟩ fun Where_39 =>
      LdStr w ⟨p16, 9, none⟩ fun Order_40 =>
      LdB w ⟨p16, 10, none⟩ fun Desc_41 =>
      LdB w ⟨p16, 11, none⟩ fun HasLimit_42 =>
      LdI .i64 w ⟨p16, 12, none⟩ fun Limit_43 =>
      St1 w ⟨p1, 0, none⟩ (.int .i64 Kind_31) fun w =>
      St1 w ⟨p1, 1, none⟩ (.string Table_32) fun w =>
      St1 w ⟨p1, 2, none⟩ (.slice Defs_33.a Defs_33.l Defs_33.c) fun w =>
      St1 w ⟨p1, 3, none⟩ (.int .i64 PK_34) fun w =>
      St1 w ⟨p1, 4, none⟩ (.slice Lits_35.a Lits_35.l Lits_35.c) fun w =>
      St1 w ⟨p1, 5, none⟩ (.bool Star_36) fun w =>
      St1 w ⟨p1, 6, none⟩ (.slice List_37.a List_37.l List_37.c) fun w =>
      St1 w ⟨p1, 7, none⟩ (.slice Sets_38.a Sets_38.l Sets_38.c) fun w =>
      St1 w ⟨p1, 8, none⟩ (.slice Where_39.a Where_39.l Where_39.c) fun w =>
      St1 w ⟨p1, 9, none⟩ (.string Order_40) fun w =>
      St1 w ⟨p1, 10, none⟩ (.bool Desc_41) fun w =>
      St1 w ⟨p1, 11, none⟩ (.bool HasLimit_42) fun w =>
      St1 w ⟨p1, 12, none⟩ (.int .i64 Limit_43) fun w =>
      LdI .i64 w ⟨p1, 0, none⟩ fun Kind_44 =>
      LdStr w ⟨p1, 1, none⟩ fun Table_45 =>
      LdS w ⟨p1, 2, none⟩ fun Defs_46 =>
      LdI .i64 w ⟨p1, 3, none⟩ fun PK_47 =>
      LdS w ⟨p1, 4, none⟩ fun Lits_48 =>
      LdB w ⟨p1, 5, none⟩ fun Star_49 =>
      LdS w ⟨p1, 6, none⟩ fun List_50 =>
      LdS w ⟨p1, 7, none⟩ fun Sets_51 =>
      LdS w ⟨p1, 8, none⟩ fun Where_52 =>
      LdStr w ⟨p1, 9, none⟩ fun Order_53 =>
      LdB w ⟨p1, 10, none⟩ fun Desc_54 =>
      LdB w ⟨p1, 11, none⟩ fun HasLimit_55 =>
      LdI .i64 w ⟨p1, 12, none⟩ fun Limit_56 =>
      K Kind_44 Table_45 Defs_46 PK_47 Lits_48 Star_49 List_50 Sets_51 Where_52 Order_53 Desc_54 HasLimit_55 Limit_56 true w))
def T.C24 : CallT := (CallT.cons 65 T.c65 (CallT.cons 66 T.c66 CallT.nil))
def T.A24 : Ann := fun _ => none
set_option maxRecDepth 1000000 in
theorem T.eq24 (text : ByteArray) (w : World) (K : Int → ByteArray → Sl → Int → Sl → Bool → Sl → Sl → Sl → ByteArray → Bool → Bool → Int → Bool → World → Prop) : denF Tryz.prog T.C24 T.A24 Tryz.f24 [.string text] w (fun v w' => match v with | .tuple ⟨[.agg ⟨[.int .i64 r0, .string r1, .slice r2a r2l r2c, .int .i64 r3, .slice r4a r4l r4c, .bool r5, .slice r6a r6l r6c, .slice r7a r7l r7c, .slice r8a r8l r8c, .string r9, .bool r10, .bool r11, .int .i64 r12]⟩, .bool r13]⟩ => K r0 r1 ⟨r2a, r2l, r2c⟩ r3 ⟨r4a, r4l, r4c⟩ r5 ⟨r6a, r6l, r6c⟩ ⟨r7a, r7l, r7c⟩ ⟨r8a, r8l, r8c⟩ r9 r10 r11 r12 r13 w' | _ => False) = S.query_Parse text w K := by kernel_rfl
theorem T.CO24 : CallOk Tryz.prog T.C24 := (CallOk.cons 65 T.ok65 (CallOk.cons 66 T.ok66 CallOk.nil))
def T.c24 (vs : List Value) (w : World) (K : Value → World → Prop) : Prop :=
  match vs with
  | [.string text] => S.query_Parse text w (fun r0 r1 r2 r3 r4 r5 r6 r7 r8 r9 r10 r11 r12 r13 w' => K (.tuple #[.agg #[.int .i64 r0, .string r1, .slice r2.a r2.l r2.c, .int .i64 r3, .slice r4.a r4.l r4.c, .bool r5, .slice r6.a r6.l r6.c, .slice r7.a r7.l r7.c, .slice r8.a r8.l r8.c, .string r9, .bool r10, .bool r11, .int .i64 r12], .bool r13]) w')
  | _ => False
theorem T.ok24 : ∀ vs w K, T.c24 vs w K → (callFunc 24 vs.toArray).run Tryz.prog w = .ok (.enter 24 vs.toArray) w ∧ Calls Tryz.prog 24 vs.toArray w fun e w' => ∃ v, e = .returned v ∧ K v w' := by
  intro vs w K h
  unfold T.c24 at h
  split at h
  · refine ⟨Tryz.call24 _ _, ok_of T.CO24 mixed Tryz.func24 (T.eq24 _ _ _) h fun v w' hk => ⟨v, rfl, ?_⟩⟩
    split at hk
    · exact hk
    · exact hk.elim
  · exact h.elim

/-- (*e2e/txn.Mgr).Begin (function 25). -/
def S.txn_Mgr_Begin (g : Nat) (s_ : Int) (w : World) (K : Int → World → Prop) : Prop :=
  S.api_GoodSess s_ w (fun r1 w =>
  if (!r1) = true then
    K 20 w
  else
    IxA 4 s_ <|
    LdB w ⟨g, 1 + Int.toNat s_ * 1, none⟩ fun act_2 =>
    if act_2 = true then
      K 3 w
    else
      IxA 4 s_ <|
      St1 w ⟨g, 1 + Int.toNat s_ * 1, none⟩ (.bool true) fun w =>
      K 0 w)
def T.C25 : CallT := (CallT.cons 23 T.c23 CallT.nil)
def T.A25 : Ann := fun _ => none
set_option maxRecDepth 1000000 in
theorem T.eq25 (g : Nat) (s_ : Int) (w : World) (K : Int → World → Prop) : denF Tryz.prog T.C25 T.A25 Tryz.f25 [.pointer (some ⟨g, 0, none⟩), .int .i64 s_] w (fun v w' => match v with | .int .i64 r0 => K r0 w' | _ => False) = S.txn_Mgr_Begin g s_ w K := by kernel_rfl
theorem T.CO25 : CallOk Tryz.prog T.C25 := (CallOk.cons 23 T.ok23 CallOk.nil)
def T.c25 (vs : List Value) (w : World) (K : Value → World → Prop) : Prop :=
  match vs with
  | [.pointer (some ⟨g, 0, none⟩), .int .i64 s_] => S.txn_Mgr_Begin g s_ w (fun r0 w' => K (.int .i64 r0) w')
  | _ => False
theorem T.ok25 : ∀ vs w K, T.c25 vs w K → (callFunc 25 vs.toArray).run Tryz.prog w = .ok (.enter 25 vs.toArray) w ∧ Calls Tryz.prog 25 vs.toArray w fun e w' => ∃ v, e = .returned v ∧ K v w' := by
  intro vs w K h
  unfold T.c25 at h
  split at h
  · refine ⟨Tryz.call25 _ _, ok_of T.CO25 mixed Tryz.func25 (T.eq25 _ _ _ _) h fun v w' hk => ⟨v, rfl, ?_⟩⟩
    split at hk
    · exact hk
    · exact hk.elim
  · exact h.elim

/-- (*e2e/txn.Mgr).inTxn (function 67). -/
def S.txn_Mgr_inTxn (g : Nat) (s_ : Int) (w : World) (K : Int → World → Prop) : Prop :=
  S.api_GoodSess s_ w (fun r1 w =>
  if (!r1) = true then
    K 20 w
  else
    IxA 4 s_ <|
    LdB w ⟨g, 1 + Int.toNat s_ * 1, none⟩ fun act_2 =>
    if (!act_2) = true then
      K 2 w
    else
      K 0 w)
def T.C67 : CallT := (CallT.cons 23 T.c23 CallT.nil)
def T.A67 : Ann := fun _ => none
set_option maxRecDepth 1000000 in
theorem T.eq67 (g : Nat) (s_ : Int) (w : World) (K : Int → World → Prop) : denF Tryz.prog T.C67 T.A67 Tryz.f67 [.pointer (some ⟨g, 0, none⟩), .int .i64 s_] w (fun v w' => match v with | .int .i64 r0 => K r0 w' | _ => False) = S.txn_Mgr_inTxn g s_ w K := by kernel_rfl
theorem T.CO67 : CallOk Tryz.prog T.C67 := (CallOk.cons 23 T.ok23 CallOk.nil)
def T.c67 (vs : List Value) (w : World) (K : Value → World → Prop) : Prop :=
  match vs with
  | [.pointer (some ⟨g, 0, none⟩), .int .i64 s_] => S.txn_Mgr_inTxn g s_ w (fun r0 w' => K (.int .i64 r0) w')
  | _ => False
theorem T.ok67 : ∀ vs w K, T.c67 vs w K → (callFunc 67 vs.toArray).run Tryz.prog w = .ok (.enter 67 vs.toArray) w ∧ Calls Tryz.prog 67 vs.toArray w fun e w' => ∃ v, e = .returned v ∧ K v w' := by
  intro vs w K h
  unfold T.c67 at h
  split at h
  · refine ⟨Tryz.call67 _ _, ok_of T.CO67 mixed Tryz.func67 (T.eq67 _ _ _ _) h fun v w' hk => ⟨v, rfl, ?_⟩⟩
    split at hk
    · exact hk
    · exact hk.elim
  · exact h.elim

/-- (*e2e/txn.Mgr).barred (function 238). -/
def S.txn_Mgr_barred (g : Nat) (i : Int) (s_ : Int) (mode : Int) (w : World) (K : Bool → World → Prop) : Prop :=
  LoopP (σ := Int × Unit) (fun st1 w next2 =>
    if (decide (st1.1 < 4)) = true then
      Join (fun (w : World) =>
        Let (W (st1.1 + 1)) fun o_3 =>
        next2 (o_3, ()) w) fun J4 =>
      if (st1.1 != s_) = true then
        IxA 3 i <|
        IxA 4 st1.1 <|
        LdI .i64 w ⟨g, 5 + Int.toNat i * 6 + 2 + Int.toNat st1.1 * 1, none⟩ fun mode_5 =>
        if (mode_5 == 2) = true then
          K true w
        else
          if (mode == 2) = true then
            IxA 3 i <|
            IxA 4 st1.1 <|
            LdI .i64 w ⟨g, 5 + Int.toNat i * 6 + 2 + Int.toNat st1.1 * 1, none⟩ fun mode_6 =>
            if (mode_6 != 0) = true then
              K true w
            else
              J4 w
          else
            J4 w
      else
        J4 w
    else
      K false w) (0, ()) w
def T.C238 : CallT := CallT.nil
def T.A238 : Ann := fun i => bif Nat.beq i 2 then some ([0, 1, 2, 3], [(9, 0)]) else none
set_option maxRecDepth 1000000 in
theorem T.eq238 (g : Nat) (i : Int) (s_ : Int) (mode : Int) (w : World) (K : Bool → World → Prop) : denF Tryz.prog T.C238 T.A238 Tryz.f238 [.pointer (some ⟨g, 0, none⟩), .int .i64 i, .int .i64 s_, .int .i64 mode] w (fun v w' => match v with | .bool r0 => K r0 w' | _ => False) = S.txn_Mgr_barred g i s_ mode w K := by kernel_rfl
theorem T.CO238 : CallOk Tryz.prog T.C238 := CallOk.nil
def T.c238 (vs : List Value) (w : World) (K : Value → World → Prop) : Prop :=
  match vs with
  | [.pointer (some ⟨g, 0, none⟩), .int .i64 i, .int .i64 s_, .int .i64 mode] => S.txn_Mgr_barred g i s_ mode w (fun r0 w' => K (.bool r0) w')
  | _ => False
theorem T.ok238 : ∀ vs w K, T.c238 vs w K → (callFunc 238 vs.toArray).run Tryz.prog w = .ok (.enter 238 vs.toArray) w ∧ Calls Tryz.prog 238 vs.toArray w fun e w' => ∃ v, e = .returned v ∧ K v w' := by
  intro vs w K h
  unfold T.c238 at h
  split at h
  · refine ⟨Tryz.call238 _ _, ok_of T.CO238 mixed Tryz.func238 (T.eq238 _ _ _ _ _ _) h fun v w' hk => ⟨v, rfl, ?_⟩⟩
    split at hk
    · exact hk
    · exact hk.elim
  · exact h.elim

/-- (*e2e/txn.Mgr).release (function 155). -/
def S.txn_Mgr_release (g : Nat) (s_ : Int) (w : World) (K : World → Prop) : Prop :=
  LoopP (σ := Int × Unit) (fun st1 w next2 =>
    if (decide (st1.1 < 3)) = true then
      Join (fun (w : World) =>
        Let (W (st1.1 + 1)) fun i_3 =>
        next2 (i_3, ()) w) fun J4 =>
      IxA 3 st1.1 <|
      IxA 4 s_ <|
      St1 w ⟨g, 5 + Int.toNat st1.1 * 6 + 2 + Int.toNat s_ * 1, none⟩ (.int .i64 0) fun w =>
      S.txn_Mgr_barred g st1.1 (-1) 2 w (fun r5 w =>
      if (!r5) = true then
        IxA 3 st1.1 <|
        St1 w ⟨g, 5 + Int.toNat st1.1 * 6, none⟩ (.bool false) fun w =>
        St1 w ⟨g, 5 + Int.toNat st1.1 * 6 + 1, none⟩ (.string ⟨#[]⟩) fun w =>
        St1 w ⟨g, 5 + Int.toNat st1.1 * 6 + 2, none⟩ (.int .i64 0) fun w =>
        St1 w ⟨g, 5 + Int.toNat st1.1 * 6 + 3, none⟩ (.int .i64 0) fun w =>
        St1 w ⟨g, 5 + Int.toNat st1.1 * 6 + 4, none⟩ (.int .i64 0) fun w =>
        St1 w ⟨g, 5 + Int.toNat st1.1 * 6 + 5, none⟩ (.int .i64 0) fun w =>
        J4 w
      else
        J4 w)
    else
      K w) (0, ()) w
def T.C155 : CallT := (CallT.cons 238 T.c238 CallT.nil)
def T.A155 : Ann := fun i => bif Nat.beq i 1 then some ([0, 1], [(4, 0)]) else none
set_option maxRecDepth 1000000 in
theorem T.eq155 (g : Nat) (s_ : Int) (w : World) (K : World → Prop) : denF Tryz.prog T.C155 T.A155 Tryz.f155 [.pointer (some ⟨g, 0, none⟩), .int .i64 s_] w (fun v w' => match v with | .tuple ⟨[]⟩ => K w' | _ => False) = S.txn_Mgr_release g s_ w K := by kernel_rfl
theorem T.CO155 : CallOk Tryz.prog T.C155 := (CallOk.cons 238 T.ok238 CallOk.nil)
def T.c155 (vs : List Value) (w : World) (K : Value → World → Prop) : Prop :=
  match vs with
  | [.pointer (some ⟨g, 0, none⟩), .int .i64 s_] => S.txn_Mgr_release g s_ w (fun w' => K (.tuple #[]) w')
  | _ => False
theorem T.ok155 : ∀ vs w K, T.c155 vs w K → (callFunc 155 vs.toArray).run Tryz.prog w = .ok (.enter 155 vs.toArray) w ∧ Calls Tryz.prog 155 vs.toArray w fun e w' => ∃ v, e = .returned v ∧ K v w' := by
  intro vs w K h
  unfold T.c155 at h
  split at h
  · refine ⟨Tryz.call155 _ _, ok_of T.CO155 mixed Tryz.func155 (T.eq155 _ _ _ _) h fun v w' hk => ⟨v, rfl, ?_⟩⟩
    split at hk
    · exact hk
    · exact hk.elim
  · exact h.elim

/-- (*e2e/txn.Mgr).end (function 71). -/
def S.txn_Mgr_end (g : Nat) (s_ : Int) (w : World) (K : World → Prop) : Prop :=
  IxA 4 s_ <|
  St1 w ⟨g, 1 + Int.toNat s_ * 1, none⟩ (.bool false) fun w =>
  IxA 4 s_ <|
  St1 w ⟨g, 23 + Int.toNat s_ * 1, none⟩ (.slice none 0 0) fun w =>
  S.txn_Mgr_release g s_ w (fun w =>
  K w)
def T.C71 : CallT := (CallT.cons 155 T.c155 CallT.nil)
def T.A71 : Ann := fun _ => none
set_option maxRecDepth 1000000 in
theorem T.eq71 (g : Nat) (s_ : Int) (w : World) (K : World → Prop) : denF Tryz.prog T.C71 T.A71 Tryz.f71 [.pointer (some ⟨g, 0, none⟩), .int .i64 s_] w (fun v w' => match v with | .tuple ⟨[]⟩ => K w' | _ => False) = S.txn_Mgr_end g s_ w K := by kernel_rfl
theorem T.CO71 : CallOk Tryz.prog T.C71 := (CallOk.cons 155 T.ok155 CallOk.nil)
def T.c71 (vs : List Value) (w : World) (K : Value → World → Prop) : Prop :=
  match vs with
  | [.pointer (some ⟨g, 0, none⟩), .int .i64 s_] => S.txn_Mgr_end g s_ w (fun w' => K (.tuple #[]) w')
  | _ => False
theorem T.ok71 : ∀ vs w K, T.c71 vs w K → (callFunc 71 vs.toArray).run Tryz.prog w = .ok (.enter 71 vs.toArray) w ∧ Calls Tryz.prog 71 vs.toArray w fun e w' => ∃ v, e = .returned v ∧ K v w' := by
  intro vs w K h
  unfold T.c71 at h
  split at h
  · refine ⟨Tryz.call71 _ _, ok_of T.CO71 mixed Tryz.func71 (T.eq71 _ _ _ _) h fun v w' hk => ⟨v, rfl, ?_⟩⟩
    split at hk
    · exact hk
    · exact hk.elim
  · exact h.elim

/-- (*e2e/table.Store).Begin (function 148). -/
def S.table_Store_Begin (t : Nat) (w : World) (K : Int → World → Prop) : Prop :=
  LdP w ⟨t, 0, none⟩ fun f_1 =>
  S.btree_Forest_Begin f_1 w (fun r2 w =>
  K r2 w)
def T.C148 : CallT := (CallT.cons 222 T.c222 CallT.nil)
def T.A148 : Ann := fun _ => none
set_option maxRecDepth 1000000 in
theorem T.eq148 (t : Nat) (w : World) (K : Int → World → Prop) : denF Tryz.prog T.C148 T.A148 Tryz.f148 [.pointer (some ⟨t, 0, none⟩)] w (fun v w' => match v with | .int .i64 r0 => K r0 w' | _ => False) = S.table_Store_Begin t w K := by kernel_rfl
theorem T.CO148 : CallOk Tryz.prog T.C148 := (CallOk.cons 222 T.ok222 CallOk.nil)
def T.c148 (vs : List Value) (w : World) (K : Value → World → Prop) : Prop :=
  match vs with
  | [.pointer (some ⟨t, 0, none⟩)] => S.table_Store_Begin t w (fun r0 w' => K (.int .i64 r0) w')
  | _ => False
theorem T.ok148 : ∀ vs w K, T.c148 vs w K → (callFunc 148 vs.toArray).run Tryz.prog w = .ok (.enter 148 vs.toArray) w ∧ Calls Tryz.prog 148 vs.toArray w fun e w' => ∃ v, e = .returned v ∧ K v w' := by
  intro vs w K h
  unfold T.c148 at h
  split at h
  · refine ⟨Tryz.call148 _ _, ok_of T.CO148 mixed Tryz.func148 (T.eq148 _ _ _) h fun v w' hk => ⟨v, rfl, ?_⟩⟩
    split at hk
    · exact hk
    · exact hk.elim
  · exact h.elim

/-- (*e2e/txn.Mgr).bracket (function 68). -/
def S.txn_Mgr_bracket (g : Nat) (w : World) (K : Int → World → Prop) : Prop :=
  LdP w ⟨g, 0, none⟩ fun t_1 =>
  S.table_Store_Begin t_1 w (fun r2 w =>
  if (r2 != 0) = true then
    K 23 w
  else
    K 0 w)
def T.C68 : CallT := (CallT.cons 148 T.c148 CallT.nil)
def T.A68 : Ann := fun _ => none
set_option maxRecDepth 1000000 in
theorem T.eq68 (g : Nat) (w : World) (K : Int → World → Prop) : denF Tryz.prog T.C68 T.A68 Tryz.f68 [.pointer (some ⟨g, 0, none⟩)] w (fun v w' => match v with | .int .i64 r0 => K r0 w' | _ => False) = S.txn_Mgr_bracket g w K := by kernel_rfl
theorem T.CO68 : CallOk Tryz.prog T.C68 := (CallOk.cons 148 T.ok148 CallOk.nil)
def T.c68 (vs : List Value) (w : World) (K : Value → World → Prop) : Prop :=
  match vs with
  | [.pointer (some ⟨g, 0, none⟩)] => S.txn_Mgr_bracket g w (fun r0 w' => K (.int .i64 r0) w')
  | _ => False
theorem T.ok68 : ∀ vs w K, T.c68 vs w K → (callFunc 68 vs.toArray).run Tryz.prog w = .ok (.enter 68 vs.toArray) w ∧ Calls Tryz.prog 68 vs.toArray w fun e w' => ∃ v, e = .returned v ∧ K v w' := by
  intro vs w K h
  unfold T.c68 at h
  split at h
  · refine ⟨Tryz.call68 _ _, ok_of T.CO68 mixed Tryz.func68 (T.eq68 _ _ _) h fun v w' hk => ⟨v, rfl, ?_⟩⟩
    split at hk
    · exact hk
    · exact hk.elim
  · exact h.elim

/-- (*e2e/table.Store).Lookup (function 234). -/
def S.table_Store_Lookup (t : Nat) (name : ByteArray) (key_IsStr : Bool) (key_I : Int) (key_S : ByteArray) (w : World) (K : Sl → Int → World → Prop) : Prop :=
  New w (.cells #[.bool key_IsStr, .int .i64 key_I, .string key_S] 167) fun p1 w =>
  S.table_Store_load t name w (fun ncols_2 pk_3 index_4 rows_5 idx_6 Name_7 Cols_8 PK_9 Index_10 r11 w =>
  New w (.cells #[.int .i64 0, .int .i64 0, .int .i64 0, .int .i64 0, .int .i64 0] 214) fun p12 w =>
  New w (.cells #[.string ⟨#[]⟩, .slice none 0 0, .int .i64 0, .int .i64 0] 73) fun p13 w =>
  St1 w ⟨p12, 0, none⟩ (.int .i64 ncols_2) fun w =>
  St1 w ⟨p12, 1, none⟩ (.int .i64 pk_3) fun w =>
  St1 w ⟨p12, 2, none⟩ (.int .i64 index_4) fun w =>
  St1 w ⟨p12, 3, none⟩ (.int .i64 rows_5) fun w =>
  St1 w ⟨p12, 4, none⟩ (.int .i64 idx_6) fun w =>
  St1 w ⟨p13, 0, none⟩ (.string Name_7) fun w =>
  St1 w ⟨p13, 1, none⟩ (.slice Cols_8.a Cols_8.l Cols_8.c) fun w =>
  St1 w ⟨p13, 2, none⟩ (.int .i64 PK_9) fun w =>
  St1 w ⟨p13, 3, none⟩ (.int .i64 Index_10) fun w =>
  if (r11 != 0) = true then
    K ⟨none, 0, 0⟩ r11 w
  else
    LdStr w ⟨p13, 0, none⟩ fun Name_14 =>
    LdS w ⟨p13, 1, none⟩ fun Cols_15 =>
    LdI .i64 w ⟨p13, 2, none⟩ fun PK_16 =>
    LdI .i64 w ⟨p13, 3, none⟩ fun Index_17 =>
    LdI .i64 w ⟨p12, 1, none⟩ fun pk_18 =>
    LdB w ⟨p1, 0, none⟩ fun IsStr_19 =>
    LdI .i64 w ⟨p1, 1, none⟩ fun I_20 =>
    LdStr w ⟨p1, 2, none⟩ fun S_21 =>
    S.api_CheckVal Name_14 Cols_15 PK_16 Index_17 pk_18 IsStr_19 I_20 S_21 w (fun r22 w =>
    if (r22 != 0) = true then
      K ⟨none, 0, 0⟩ r22 w
    else
      LdB w ⟨p1, 0, none⟩ fun IsStr_23 =>
      LdI .i64 w ⟨p1, 1, none⟩ fun I_24 =>
      LdStr w ⟨p1, 2, none⟩ fun S_25 =>
      S.table_codeVal IsStr_23 I_24 S_25 w (fun r26 w =>
      LdI .i64 w ⟨p12, 0, none⟩ fun ncols_27 =>
      LdI .i64 w ⟨p12, 1, none⟩ fun pk_28 =>
      LdI .i64 w ⟨p12, 2, none⟩ fun index_29 =>
      LdI .i64 w ⟨p12, 3, none⟩ fun rows_30 =>
      LdI .i64 w ⟨p12, 4, none⟩ fun idx_31 =>
      LdStr w ⟨p13, 0, none⟩ fun Name_32 =>
      LdS w ⟨p13, 1, none⟩ fun Cols_33 =>
      LdI .i64 w ⟨p13, 2, none⟩ fun PK_34 =>
      LdI .i64 w ⟨p13, 3, none⟩ fun Index_35 =>
      S.table_Store_fetch t ncols_27 pk_28 index_29 rows_30 idx_31 Name_32 Cols_33 PK_34 Index_35 r26 w (fun r36 r37 w =>
      K r36 r37 w))))
def T.C234 : CallT := (CallT.cons 159 T.c159 (CallT.cons 231 T.c231 (CallT.cons 232 T.c232 (CallT.cons 233 T.c233 CallT.nil))))
def T.A234 : Ann := fun _ => none
set_option maxRecDepth 1000000 in
theorem T.eq234 (t : Nat) (name : ByteArray) (key_IsStr : Bool) (key_I : Int) (key_S : ByteArray) (w : World) (K : Sl → Int → World → Prop) : denF Tryz.prog T.C234 T.A234 Tryz.f234 [.pointer (some ⟨t, 0, none⟩), .string name, .agg #[.bool key_IsStr, .int .i64 key_I, .string key_S]] w (fun v w' => match v with | .tuple ⟨[.slice r0a r0l r0c, .int .i64 r1]⟩ => K ⟨r0a, r0l, r0c⟩ r1 w' | _ => False) = S.table_Store_Lookup t name key_IsStr key_I key_S w K := by kernel_rfl
theorem T.CO234 : CallOk Tryz.prog T.C234 := (CallOk.cons 159 T.ok159 (CallOk.cons 231 T.ok231 (CallOk.cons 232 T.ok232 (CallOk.cons 233 T.ok233 CallOk.nil))))
def T.c234 (vs : List Value) (w : World) (K : Value → World → Prop) : Prop :=
  match vs with
  | [.pointer (some ⟨t, 0, none⟩), .string name, .agg ⟨[.bool key_IsStr, .int .i64 key_I, .string key_S]⟩] => S.table_Store_Lookup t name key_IsStr key_I key_S w (fun r0 r1 w' => K (.tuple #[.slice r0.a r0.l r0.c, .int .i64 r1]) w')
  | _ => False
theorem T.ok234 : ∀ vs w K, T.c234 vs w K → (callFunc 234 vs.toArray).run Tryz.prog w = .ok (.enter 234 vs.toArray) w ∧ Calls Tryz.prog 234 vs.toArray w fun e w' => ∃ v, e = .returned v ∧ K v w' := by
  intro vs w K h
  unfold T.c234 at h
  split at h
  · refine ⟨Tryz.call234 _ _, ok_of T.CO234 mixed Tryz.func234 (T.eq234 _ _ _ _ _ _ _) h fun v w' hk => ⟨v, rfl, ?_⟩⟩
    split at hk
    · exact hk
    · exact hk.elim
  · exact h.elim

/-- (*e2e/txn.Mgr).below (function 150). -/
def S.txn_Mgr_below (g : Nat) (tab : ByteArray) (key_IsStr : Bool) (key_I : Int) (key_S : ByteArray) (w : World) (K : Bool → World → Prop) : Prop :=
  New w (.cells #[.bool key_IsStr, .int .i64 key_I, .string key_S] 167) fun p1 w =>
  Drew w fun w =>
  LdP w ⟨g, 0, none⟩ fun t_2 =>
  LdB w ⟨p1, 0, none⟩ fun IsStr_3 =>
  LdI .i64 w ⟨p1, 1, none⟩ fun I_4 =>
  LdStr w ⟨p1, 2, none⟩ fun S_5 =>
  S.table_Store_Lookup t_2 tab IsStr_3 I_4 S_5 w (fun r6 r7 w =>
  K (r7 == 0) w)
def T.C150 : CallT := (CallT.cons 234 T.c234 CallT.nil)
def T.A150 : Ann := fun _ => none
set_option maxRecDepth 1000000 in
theorem T.eq150 (g : Nat) (tab : ByteArray) (key_IsStr : Bool) (key_I : Int) (key_S : ByteArray) (w : World) (K : Bool → World → Prop) : denF Tryz.prog T.C150 T.A150 Tryz.f150 [.pointer (some ⟨g, 0, none⟩), .string tab, .agg #[.bool key_IsStr, .int .i64 key_I, .string key_S]] w (fun v w' => match v with | .bool r0 => K r0 w' | _ => False) = S.txn_Mgr_below g tab key_IsStr key_I key_S w K := by kernel_rfl
theorem T.CO150 : CallOk Tryz.prog T.C150 := (CallOk.cons 234 T.ok234 CallOk.nil)
def T.c150 (vs : List Value) (w : World) (K : Value → World → Prop) : Prop :=
  match vs with
  | [.pointer (some ⟨g, 0, none⟩), .string tab, .agg ⟨[.bool key_IsStr, .int .i64 key_I, .string key_S]⟩] => S.txn_Mgr_below g tab key_IsStr key_I key_S w (fun r0 w' => K (.bool r0) w')
  | _ => False
theorem T.ok150 : ∀ vs w K, T.c150 vs w K → (callFunc 150 vs.toArray).run Tryz.prog w = .ok (.enter 150 vs.toArray) w ∧ Calls Tryz.prog 150 vs.toArray w fun e w' => ∃ v, e = .returned v ∧ K v w' := by
  intro vs w K h
  unfold T.c150 at h
  split at h
  · refine ⟨Tryz.call150 _ _, ok_of T.CO150 mixed Tryz.func150 (T.eq150 _ _ _ _ _ _ _) h fun v w' hk => ⟨v, rfl, ?_⟩⟩
    split at hk
    · exact hk
    · exact hk.elim
  · exact h.elim

/-- (*e2e/btree.Forest).InTxn (function 156). -/
def S.btree_Forest_InTxn (f : Nat) (w : World) (K : Bool → World → Prop) : Prop :=
  LdP w ⟨f, 0, none⟩ fun p_1 =>
  S.pager_Pager_InTxn p_1 w (fun r2 w =>
  K r2 w)
def T.C156 : CallT := (CallT.cons 239 T.c239 CallT.nil)
def T.A156 : Ann := fun _ => none
set_option maxRecDepth 1000000 in
theorem T.eq156 (f : Nat) (w : World) (K : Bool → World → Prop) : denF Tryz.prog T.C156 T.A156 Tryz.f156 [.pointer (some ⟨f, 0, none⟩)] w (fun v w' => match v with | .bool r0 => K r0 w' | _ => False) = S.btree_Forest_InTxn f w K := by kernel_rfl
theorem T.CO156 : CallOk Tryz.prog T.C156 := (CallOk.cons 239 T.ok239 CallOk.nil)
def T.c156 (vs : List Value) (w : World) (K : Value → World → Prop) : Prop :=
  match vs with
  | [.pointer (some ⟨f, 0, none⟩)] => S.btree_Forest_InTxn f w (fun r0 w' => K (.bool r0) w')
  | _ => False
theorem T.ok156 : ∀ vs w K, T.c156 vs w K → (callFunc 156 vs.toArray).run Tryz.prog w = .ok (.enter 156 vs.toArray) w ∧ Calls Tryz.prog 156 vs.toArray w fun e w' => ∃ v, e = .returned v ∧ K v w' := by
  intro vs w K h
  unfold T.c156 at h
  split at h
  · refine ⟨Tryz.call156 _ _, ok_of T.CO156 mixed Tryz.func156 (T.eq156 _ _ _) h fun v w' hk => ⟨v, rfl, ?_⟩⟩
    split at hk
    · exact hk
    · exact hk.elim
  · exact h.elim

/-- (*e2e/table.Store).loadTxn (function 167). -/
def S.table_Store_loadTxn (t : Nat) (name : ByteArray) (w : World) (K : Int → Int → Int → Int → Int → ByteArray → Sl → Int → Int → Int → World → Prop) : Prop :=
  New w (.cells #[.int .i64 0, .int .i64 0, .int .i64 0, .int .i64 0, .int .i64 0] 214) fun p1 w =>
  New w (.cells #[.string ⟨#[]⟩, .slice none 0 0, .int .i64 0, .int .i64 0] 73) fun p2 w =>
  LdP w ⟨t, 0, none⟩ fun f_3 =>
  S.btree_Forest_InTxn f_3 w (fun r4 w =>
  if (!r4) = true then
    S.table_noSchema w (fun Name_5 Cols_6 PK_7 Index_8 w =>
    St1 w ⟨p1, 0, none⟩ (.int .i64 0) fun w =>
    St1 w ⟨p1, 1, none⟩ (.int .i64 0) fun w =>
    St1 w ⟨p1, 2, none⟩ (.int .i64 0) fun w =>
    St1 w ⟨p1, 3, none⟩ (.int .i64 0) fun w =>
    St1 w ⟨p1, 4, none⟩ (.int .i64 0) fun w =>
    St1 w ⟨p2, 0, none⟩ (.string Name_5) fun w =>
    St1 w ⟨p2, 1, none⟩ (.slice Cols_6.a Cols_6.l Cols_6.c) fun w =>
    St1 w ⟨p2, 2, none⟩ (.int .i64 PK_7) fun w =>
    St1 w ⟨p2, 3, none⟩ (.int .i64 Index_8) fun w =>
    LdI .i64 w ⟨p1, 0, none⟩ fun ncols_9 =>
    LdI .i64 w ⟨p1, 1, none⟩ fun pk_10 =>
    LdI .i64 w ⟨p1, 2, none⟩ fun index_11 =>
    LdI .i64 w ⟨p1, 3, none⟩ fun rows_12 =>
    LdI .i64 w ⟨p1, 4, none⟩ fun idx_13 =>
    LdStr w ⟨p2, 0, none⟩ fun Name_14 =>
    LdS w ⟨p2, 1, none⟩ fun Cols_15 =>
    LdI .i64 w ⟨p2, 2, none⟩ fun PK_16 =>
    LdI .i64 w ⟨p2, 3, none⟩ fun Index_17 =>
    K ncols_9 pk_10 index_11 rows_12 idx_13 Name_14 Cols_15 PK_16 Index_17 2 w)
  else
    S.table_Store_load t name w (fun ncols_18 pk_19 index_20 rows_21 idx_22 Name_23 Cols_24 PK_25 Index_26 r27 w =>
    St1 w ⟨p1, 0, none⟩ (.int .i64 ncols_18) fun w =>
    St1 w ⟨p1, 1, none⟩ (.int .i64 pk_19) fun w =>
    St1 w ⟨p1, 2, none⟩ (.int .i64 index_20) fun w =>
    St1 w ⟨p1, 3, none⟩ (.int .i64 rows_21) fun w =>
    St1 w ⟨p1, 4, none⟩ (.int .i64 idx_22) fun w =>
    St1 w ⟨p2, 0, none⟩ (.string Name_23) fun w =>
    St1 w ⟨p2, 1, none⟩ (.slice Cols_24.a Cols_24.l Cols_24.c) fun w =>
    St1 w ⟨p2, 2, none⟩ (.int .i64 PK_25) fun w =>
    St1 w ⟨p2, 3, none⟩ (.int .i64 Index_26) fun w =>
    LdI .i64 w ⟨p1, 0, none⟩ fun ncols_28 =>
    LdI .i64 w ⟨p1, 1, none⟩ fun pk_29 =>
    LdI .i64 w ⟨p1, 2, none⟩ fun index_30 =>
    LdI .i64 w ⟨p1, 3, none⟩ fun rows_31 =>
    LdI .i64 w ⟨p1, 4, none⟩ fun idx_32 =>
    LdStr w ⟨p2, 0, none⟩ fun Name_33 =>
    LdS w ⟨p2, 1, none⟩ fun Cols_34 =>
    LdI .i64 w ⟨p2, 2, none⟩ fun PK_35 =>
    LdI .i64 w ⟨p2, 3, none⟩ fun Index_36 =>
    K ncols_28 pk_29 index_30 rows_31 idx_32 Name_33 Cols_34 PK_35 Index_36 r27 w))
def T.C167 : CallT := (CallT.cons 156 T.c156 (CallT.cons 240 T.c240 (CallT.cons 159 T.c159 CallT.nil)))
def T.A167 : Ann := fun _ => none
set_option maxRecDepth 1000000 in
theorem T.eq167 (t : Nat) (name : ByteArray) (w : World) (K : Int → Int → Int → Int → Int → ByteArray → Sl → Int → Int → Int → World → Prop) : denF Tryz.prog T.C167 T.A167 Tryz.f167 [.pointer (some ⟨t, 0, none⟩), .string name] w (fun v w' => match v with | .tuple ⟨[.agg ⟨[.int .i64 r0, .int .i64 r1, .int .i64 r2, .int .i64 r3, .int .i64 r4]⟩, .agg ⟨[.string r5, .slice r6a r6l r6c, .int .i64 r7, .int .i64 r8]⟩, .int .i64 r9]⟩ => K r0 r1 r2 r3 r4 r5 ⟨r6a, r6l, r6c⟩ r7 r8 r9 w' | _ => False) = S.table_Store_loadTxn t name w K := by kernel_rfl
theorem T.CO167 : CallOk Tryz.prog T.C167 := (CallOk.cons 156 T.ok156 (CallOk.cons 240 T.ok240 (CallOk.cons 159 T.ok159 CallOk.nil)))
def T.c167 (vs : List Value) (w : World) (K : Value → World → Prop) : Prop :=
  match vs with
  | [.pointer (some ⟨t, 0, none⟩), .string name] => S.table_Store_loadTxn t name w (fun r0 r1 r2 r3 r4 r5 r6 r7 r8 r9 w' => K (.tuple #[.agg #[.int .i64 r0, .int .i64 r1, .int .i64 r2, .int .i64 r3, .int .i64 r4], .agg #[.string r5, .slice r6.a r6.l r6.c, .int .i64 r7, .int .i64 r8], .int .i64 r9]) w')
  | _ => False
theorem T.ok167 : ∀ vs w K, T.c167 vs w K → (callFunc 167 vs.toArray).run Tryz.prog w = .ok (.enter 167 vs.toArray) w ∧ Calls Tryz.prog 167 vs.toArray w fun e w' => ∃ v, e = .returned v ∧ K v w' := by
  intro vs w K h
  unfold T.c167 at h
  split at h
  · refine ⟨Tryz.call167 _ _, ok_of T.CO167 mixed Tryz.func167 (T.eq167 _ _ _ _) h fun v w' hk => ⟨v, rfl, ?_⟩⟩
    split at hk
    · exact hk
    · exact hk.elim
  · exact h.elim

/-- e2e/table.restOf (function 236). -/
def S.table_restOf (row : Sl) (pk : Int) (w : World) (K : ByteArray → World → Prop) : Prop :=
  Let (⟨#[]⟩ : ByteArray) fun s_1 =>
  LoopP (σ := ByteArray × Int × Unit) (fun st2 w next3 =>
    if (decide (st2.2.1 < (row.l : Int))) = true then
      Join (fun (s_4 : ByteArray) (w : World) =>
        Let (W (st2.2.1 + 1)) fun c_5 =>
        next3 (s_4, c_5, ()) w) fun J6 =>
      if (st2.2.1 != pk) = true then
        Ix row.a row.l st2.2.1 fun b7 o8 =>
        LdB w ⟨b7, o8 + Int.toNat st2.2.1 * 3, none⟩ fun IsStr_9 =>
        LdI .i64 w ⟨b7, o8 + Int.toNat st2.2.1 * 3 + 1, none⟩ fun I_10 =>
        LdStr w ⟨b7, o8 + Int.toNat st2.2.1 * 3 + 2, none⟩ fun S_11 =>
        S.table_codeVal IsStr_9 I_10 S_11 w (fun r12 w =>
        CatOk st2.1 r12 <|
        Let (st2.1 ++ r12) fun s_13 =>
        J6 s_13 w)
      else
        J6 st2.1 w
    else
      K st2.1 w) (s_1, 0, ()) w
def T.C236 : CallT := (CallT.cons 232 T.c232 CallT.nil)
def T.A236 : Ann := fun i => bif Nat.beq i 3 then some ([0, 1], [(5, 4), (6, 0)]) else none
set_option maxRecDepth 1000000 in
theorem T.eq236 (row : Sl) (pk : Int) (w : World) (K : ByteArray → World → Prop) : denF Tryz.prog T.C236 T.A236 Tryz.f236 [.slice row.a row.l row.c, .int .i64 pk] w (fun v w' => match v with | .string r0 => K r0 w' | _ => False) = S.table_restOf row pk w K := by kernel_rfl
theorem T.CO236 : CallOk Tryz.prog T.C236 := (CallOk.cons 232 T.ok232 CallOk.nil)
def T.c236 (vs : List Value) (w : World) (K : Value → World → Prop) : Prop :=
  match vs with
  | [.slice rowa rowl rowc, .int .i64 pk] => S.table_restOf ⟨rowa, rowl, rowc⟩ pk w (fun r0 w' => K (.string r0) w')
  | _ => False
theorem T.ok236 : ∀ vs w K, T.c236 vs w K → (callFunc 236 vs.toArray).run Tryz.prog w = .ok (.enter 236 vs.toArray) w ∧ Calls Tryz.prog 236 vs.toArray w fun e w' => ∃ v, e = .returned v ∧ K v w' := by
  intro vs w K h
  unfold T.c236 at h
  split at h
  · refine ⟨Tryz.call236 _ _, ok_of T.CO236 mixed Tryz.func236 (T.eq236 _ _ _ _) h fun v w' hk => ⟨v, rfl, ?_⟩⟩
    split at hk
    · exact hk
    · exact hk.elim
  · exact h.elim

/-- e2e/btree.split (function 292). -/
def S.btree_split (nd_kind : Int) (nd_n : Int) (nd_keys : ByteArray) (nd_keys_ : ByteArray) (nd_keys__ : ByteArray) (nd_keys___ : ByteArray) (nd_vals : ByteArray) (nd_vals_ : ByteArray) (nd_vals__ : ByteArray) (nd_vals___ : ByteArray) (nd_kids : Int) (nd_kids_ : Int) (nd_kids__ : Int) (nd_kids___ : Int) (nd_kids____ : Int) (w : World) (K : Int → Int → ByteArray → ByteArray → ByteArray → ByteArray → ByteArray → ByteArray → ByteArray → ByteArray → Int → Int → Int → Int → Int → Int → Int → ByteArray → ByteArray → ByteArray → ByteArray → ByteArray → ByteArray → ByteArray → ByteArray → Int → Int → Int → Int → Int → ByteArray → World → Prop) : Prop :=
  New w (.cells #[.int .i64 nd_kind, .int .i64 nd_n, .string nd_keys, .string nd_keys_, .string nd_keys__, .string nd_keys___, .string nd_vals, .string nd_vals_, .string nd_vals__, .string nd_vals___, .int .i64 nd_kids, .int .i64 nd_kids_, .int .i64 nd_kids__, .int .i64 nd_kids___, .int .i64 nd_kids____] 289) fun p1 w =>
  New w (.cells #[.int .i64 0, .int .i64 0, .string ⟨#[]⟩, .string ⟨#[]⟩, .string ⟨#[]⟩, .string ⟨#[]⟩, .string ⟨#[]⟩, .string ⟨#[]⟩, .string ⟨#[]⟩, .string ⟨#[]⟩, .int .i64 0, .int .i64 0, .int .i64 0, .int .i64 0, .int .i64 0] 289) fun p2 w =>
  New w (.cells #[.int .i64 0, .int .i64 0, .string ⟨#[]⟩, .string ⟨#[]⟩, .string ⟨#[]⟩, .string ⟨#[]⟩, .string ⟨#[]⟩, .string ⟨#[]⟩, .string ⟨#[]⟩, .string ⟨#[]⟩, .int .i64 0, .int .i64 0, .int .i64 0, .int .i64 0, .int .i64 0] 289) fun p3 w =>
  LdI .i64 w ⟨p1, 0, none⟩ fun kind_4 =>
  New w (.cells #[.int .i64 0, .int .i64 0, .string ⟨#[]⟩, .string ⟨#[]⟩, .string ⟨#[]⟩, .string ⟨#[]⟩, .string ⟨#[]⟩, .string ⟨#[]⟩, .string ⟨#[]⟩, .string ⟨#[]⟩, .int .i64 0, .int .i64 0, .int .i64 0, .int .i64 0, .int .i64 0] 289) fun p5 w =>
  St1 w ⟨p5, 0, none⟩ (.int .i64 kind_4) fun w =>
  St1 w ⟨p5, 1, none⟩ (.int .i64 2) fun w =>
  St1 w ⟨p5, 2, none⟩ (.string ⟨#[]⟩) fun w =>
  St1 w ⟨p5, 3, none⟩ (.string ⟨#[]⟩) fun w =>
  St1 w ⟨p5, 4, none⟩ (.string ⟨#[]⟩) fun w =>
  St1 w ⟨p5, 5, none⟩ (.string ⟨#[]⟩) fun w =>
  St1 w ⟨p5, 6, none⟩ (.string ⟨#[]⟩) fun w =>
  St1 w ⟨p5, 7, none⟩ (.string ⟨#[]⟩) fun w =>
  St1 w ⟨p5, 8, none⟩ (.string ⟨#[]⟩) fun w =>
  St1 w ⟨p5, 9, none⟩ (.string ⟨#[]⟩) fun w =>
  St1 w ⟨p5, 10, none⟩ (.int .i64 0) fun w =>
  St1 w ⟨p5, 11, none⟩ (.int .i64 0) fun w =>
  St1 w ⟨p5, 12, none⟩ (.int .i64 0) fun w =>
  St1 w ⟨p5, 13, none⟩ (.int .i64 0) fun w =>
  St1 w ⟨p5, 14, none⟩ (.int .i64 0) fun w =>
  LdI .i64 w ⟨p1, 0, none⟩ fun kind_6 =>
  LdI .i64 w ⟨p1, 1, none⟩ fun n_7 =>
  New w (.cells #[.int .i64 0, .int .i64 0, .string ⟨#[]⟩, .string ⟨#[]⟩, .string ⟨#[]⟩, .string ⟨#[]⟩, .string ⟨#[]⟩, .string ⟨#[]⟩, .string ⟨#[]⟩, .string ⟨#[]⟩, .int .i64 0, .int .i64 0, .int .i64 0, .int .i64 0, .int .i64 0] 289) fun p8 w =>
  St1 w ⟨p8, 0, none⟩ (.int .i64 kind_6) fun w =>
  St1 w ⟨p8, 1, none⟩ (.int .i64 (W (n_7 - 2))) fun w =>
  St1 w ⟨p8, 2, none⟩ (.string ⟨#[]⟩) fun w =>
  St1 w ⟨p8, 3, none⟩ (.string ⟨#[]⟩) fun w =>
  St1 w ⟨p8, 4, none⟩ (.string ⟨#[]⟩) fun w =>
  St1 w ⟨p8, 5, none⟩ (.string ⟨#[]⟩) fun w =>
  St1 w ⟨p8, 6, none⟩ (.string ⟨#[]⟩) fun w =>
  St1 w ⟨p8, 7, none⟩ (.string ⟨#[]⟩) fun w =>
  St1 w ⟨p8, 8, none⟩ (.string ⟨#[]⟩) fun w =>
  St1 w ⟨p8, 9, none⟩ (.string ⟨#[]⟩) fun w =>
  St1 w ⟨p8, 10, none⟩ (.int .i64 0) fun w =>
  St1 w ⟨p8, 11, none⟩ (.int .i64 0) fun w =>
  St1 w ⟨p8, 12, none⟩ (.int .i64 0) fun w =>
  St1 w ⟨p8, 13, none⟩ (.int .i64 0) fun w =>
  St1 w ⟨p8, 14, none⟩ (.int .i64 0) fun w =>
  Join (fun (w : World) =>
    Join (fun (w : World) =>
      Join (fun (w : World) =>
        LdI .i64 w ⟨p1, 0, none⟩ fun kind_9 =>
        if (kind_9 == 1) = true then
          Drew w fun w =>
          LdI .i64 w ⟨p5, 0, none⟩ fun kind_10 =>
          LdI .i64 w ⟨p5, 1, none⟩ fun n_11 =>
          LdStr w ⟨p5, 2, none⟩ fun keys_12 =>
          LdStr w ⟨p5, 3, none⟩ fun keys_13 =>
          LdStr w ⟨p5, 4, none⟩ fun keys_14 =>
          LdStr w ⟨p5, 5, none⟩ fun keys_15 =>
          LdStr w ⟨p5, 6, none⟩ fun vals_16 =>
          LdStr w ⟨p5, 7, none⟩ fun vals_17 =>
          LdStr w ⟨p5, 8, none⟩ fun vals_18 =>
          LdStr w ⟨p5, 9, none⟩ fun vals_19 =>
          LdI .i64 w ⟨p5, 10, none⟩ fun kids_20 =>
          LdI .i64 w ⟨p5, 11, none⟩ fun kids_21 =>
          LdI .i64 w ⟨p5, 12, none⟩ fun kids_22 =>
          LdI .i64 w ⟨p5, 13, none⟩ fun kids_23 =>
          LdI .i64 w ⟨p5, 14, none⟩ fun kids_24 =>
          Hold w ⟨p8, 0, none⟩ 15 fun R25 =>
          LdI .i64 w ⟨p8, 0, none⟩ fun kind_26 =>
          LdI .i64 w ⟨p8, 1, none⟩ fun n_27 =>
          LdStr w ⟨p8, 2, none⟩ fun keys_28 =>
          LdStr w ⟨p8, 3, none⟩ fun keys_29 =>
          LdStr w ⟨p8, 4, none⟩ fun keys_30 =>
          LdStr w ⟨p8, 5, none⟩ fun keys_31 =>
          LdStr w ⟨p8, 6, none⟩ fun vals_32 =>
          LdStr w ⟨p8, 7, none⟩ fun vals_33 =>
          LdStr w ⟨p8, 8, none⟩ fun vals_34 =>
          LdStr w ⟨p8, 9, none⟩ fun vals_35 =>
          LdI .i64 w ⟨p8, 10, none⟩ fun kids_36 =>
          LdI .i64 w ⟨p8, 11, none⟩ fun kids_37 =>
          LdI .i64 w ⟨p8, 12, none⟩ fun kids_38 =>
          LdI .i64 w ⟨p8, 13, none⟩ fun kids_39 =>
          LdI .i64 w ⟨p8, 14, none⟩ fun kids_40 =>
          IxA 4 0 <|
          Hold w ⟨p8, 2 + Int.toNat 0 * 1, none⟩ 1 fun R41 =>
          LdStr w ⟨p8, 2 + Int.toNat 0 * 1, none⟩ fun keys_42 =>
          St1 w ⟨p2, 0, none⟩ (.int .i64 kind_10) fun w =>
          St1 w ⟨p2, 1, none⟩ (.int .i64 n_11) fun w =>
          St1 w ⟨p2, 2, none⟩ (.string keys_12) fun w =>
          St1 w ⟨p2, 3, none⟩ (.string keys_13) fun w =>
          St1 w ⟨p2, 4, none⟩ (.string keys_14) fun w =>
          St1 w ⟨p2, 5, none⟩ (.string keys_15) fun w =>
          St1 w ⟨p2, 6, none⟩ (.string vals_16) fun w =>
          St1 w ⟨p2, 7, none⟩ (.string vals_17) fun w =>
          St1 w ⟨p2, 8, none⟩ (.string vals_18) fun w =>
          St1 w ⟨p2, 9, none⟩ (.string vals_19) fun w =>
          St1 w ⟨p2, 10, none⟩ (.int .i64 kids_20) fun w =>
          St1 w ⟨p2, 11, none⟩ (.int .i64 kids_21) fun w =>
          St1 w ⟨p2, 12, none⟩ (.int .i64 kids_22) fun w =>
          St1 w ⟨p2, 13, none⟩ (.int .i64 kids_23) fun w =>
          St1 w ⟨p2, 14, none⟩ (.int .i64 kids_24) fun w =>
          After R41 w <|
          After R25 w <|
          St1 w ⟨p3, 0, none⟩ (.int .i64 kind_26) fun w =>
          St1 w ⟨p3, 1, none⟩ (.int .i64 n_27) fun w =>
          St1 w ⟨p3, 2, none⟩ (.string keys_28) fun w =>
          St1 w ⟨p3, 3, none⟩ (.string keys_29) fun w =>
          St1 w ⟨p3, 4, none⟩ (.string keys_30) fun w =>
          St1 w ⟨p3, 5, none⟩ (.string keys_31) fun w =>
          St1 w ⟨p3, 6, none⟩ (.string vals_32) fun w =>
          St1 w ⟨p3, 7, none⟩ (.string vals_33) fun w =>
          St1 w ⟨p3, 8, none⟩ (.string vals_34) fun w =>
          St1 w ⟨p3, 9, none⟩ (.string vals_35) fun w =>
          St1 w ⟨p3, 10, none⟩ (.int .i64 kids_36) fun w =>
          St1 w ⟨p3, 11, none⟩ (.int .i64 kids_37) fun w =>
          St1 w ⟨p3, 12, none⟩ (.int .i64 kids_38) fun w =>
          St1 w ⟨p3, 13, none⟩ (.int .i64 kids_39) fun w =>
          St1 w ⟨p3, 14, none⟩ (.int .i64 kids_40) fun w =>
          After R41 w <|
          LdI .i64 w ⟨p2, 0, none⟩ fun kind_43 =>
          LdI .i64 w ⟨p2, 1, none⟩ fun n_44 =>
          LdStr w ⟨p2, 2, none⟩ fun keys_45 =>
          LdStr w ⟨p2, 3, none⟩ fun keys_46 =>
          LdStr w ⟨p2, 4, none⟩ fun keys_47 =>
          LdStr w ⟨p2, 5, none⟩ fun keys_48 =>
          LdStr w ⟨p2, 6, none⟩ fun vals_49 =>
          LdStr w ⟨p2, 7, none⟩ fun vals_50 =>
          LdStr w ⟨p2, 8, none⟩ fun vals_51 =>
          LdStr w ⟨p2, 9, none⟩ fun vals_52 =>
          LdI .i64 w ⟨p2, 10, none⟩ fun kids_53 =>
          LdI .i64 w ⟨p2, 11, none⟩ fun kids_54 =>
          LdI .i64 w ⟨p2, 12, none⟩ fun kids_55 =>
          LdI .i64 w ⟨p2, 13, none⟩ fun kids_56 =>
          LdI .i64 w ⟨p2, 14, none⟩ fun kids_57 =>
          LdI .i64 w ⟨p3, 0, none⟩ fun kind_58 =>
          LdI .i64 w ⟨p3, 1, none⟩ fun n_59 =>
          LdStr w ⟨p3, 2, none⟩ fun keys_60 =>
          LdStr w ⟨p3, 3, none⟩ fun keys_61 =>
          LdStr w ⟨p3, 4, none⟩ fun keys_62 =>
          LdStr w ⟨p3, 5, none⟩ fun keys_63 =>
          LdStr w ⟨p3, 6, none⟩ fun vals_64 =>
          LdStr w ⟨p3, 7, none⟩ fun vals_65 =>
          LdStr w ⟨p3, 8, none⟩ fun vals_66 =>
          LdStr w ⟨p3, 9, none⟩ fun vals_67 =>
          LdI .i64 w ⟨p3, 10, none⟩ fun kids_68 =>
          LdI .i64 w ⟨p3, 11, none⟩ fun kids_69 =>
          LdI .i64 w ⟨p3, 12, none⟩ fun kids_70 =>
          LdI .i64 w ⟨p3, 13, none⟩ fun kids_71 =>
          LdI .i64 w ⟨p3, 14, none⟩ fun kids_72 =>
          K kind_43 n_44 keys_45 keys_46 keys_47 keys_48 vals_49 vals_50 vals_51 vals_52 kids_53 kids_54 kids_55 kids_56 kids_57 kind_58 n_59 keys_60 keys_61 keys_62 keys_63 vals_64 vals_65 vals_66 vals_67 kids_68 kids_69 kids_70 kids_71 kids_72 keys_42 w
        else
          Drew w fun w =>
          LdI .i64 w ⟨p5, 0, none⟩ fun kind_73 =>
          LdI .i64 w ⟨p5, 1, none⟩ fun n_74 =>
          LdStr w ⟨p5, 2, none⟩ fun keys_75 =>
          LdStr w ⟨p5, 3, none⟩ fun keys_76 =>
          LdStr w ⟨p5, 4, none⟩ fun keys_77 =>
          LdStr w ⟨p5, 5, none⟩ fun keys_78 =>
          LdStr w ⟨p5, 6, none⟩ fun vals_79 =>
          LdStr w ⟨p5, 7, none⟩ fun vals_80 =>
          LdStr w ⟨p5, 8, none⟩ fun vals_81 =>
          LdStr w ⟨p5, 9, none⟩ fun vals_82 =>
          LdI .i64 w ⟨p5, 10, none⟩ fun kids_83 =>
          LdI .i64 w ⟨p5, 11, none⟩ fun kids_84 =>
          LdI .i64 w ⟨p5, 12, none⟩ fun kids_85 =>
          LdI .i64 w ⟨p5, 13, none⟩ fun kids_86 =>
          LdI .i64 w ⟨p5, 14, none⟩ fun kids_87 =>
          Hold w ⟨p8, 0, none⟩ 15 fun R88 =>
          LdI .i64 w ⟨p8, 0, none⟩ fun kind_89 =>
          LdI .i64 w ⟨p8, 1, none⟩ fun n_90 =>
          LdStr w ⟨p8, 2, none⟩ fun keys_91 =>
          LdStr w ⟨p8, 3, none⟩ fun keys_92 =>
          LdStr w ⟨p8, 4, none⟩ fun keys_93 =>
          LdStr w ⟨p8, 5, none⟩ fun keys_94 =>
          LdStr w ⟨p8, 6, none⟩ fun vals_95 =>
          LdStr w ⟨p8, 7, none⟩ fun vals_96 =>
          LdStr w ⟨p8, 8, none⟩ fun vals_97 =>
          LdStr w ⟨p8, 9, none⟩ fun vals_98 =>
          LdI .i64 w ⟨p8, 10, none⟩ fun kids_99 =>
          LdI .i64 w ⟨p8, 11, none⟩ fun kids_100 =>
          LdI .i64 w ⟨p8, 12, none⟩ fun kids_101 =>
          LdI .i64 w ⟨p8, 13, none⟩ fun kids_102 =>
          LdI .i64 w ⟨p8, 14, none⟩ fun kids_103 =>
          IxA 4 1 <|
          Hold w ⟨p1, 2 + Int.toNat 1 * 1, none⟩ 1 fun R104 =>
          LdStr w ⟨p1, 2 + Int.toNat 1 * 1, none⟩ fun keys_105 =>
          St1 w ⟨p2, 0, none⟩ (.int .i64 kind_73) fun w =>
          St1 w ⟨p2, 1, none⟩ (.int .i64 n_74) fun w =>
          St1 w ⟨p2, 2, none⟩ (.string keys_75) fun w =>
          St1 w ⟨p2, 3, none⟩ (.string keys_76) fun w =>
          St1 w ⟨p2, 4, none⟩ (.string keys_77) fun w =>
          St1 w ⟨p2, 5, none⟩ (.string keys_78) fun w =>
          St1 w ⟨p2, 6, none⟩ (.string vals_79) fun w =>
          St1 w ⟨p2, 7, none⟩ (.string vals_80) fun w =>
          St1 w ⟨p2, 8, none⟩ (.string vals_81) fun w =>
          St1 w ⟨p2, 9, none⟩ (.string vals_82) fun w =>
          St1 w ⟨p2, 10, none⟩ (.int .i64 kids_83) fun w =>
          St1 w ⟨p2, 11, none⟩ (.int .i64 kids_84) fun w =>
          St1 w ⟨p2, 12, none⟩ (.int .i64 kids_85) fun w =>
          St1 w ⟨p2, 13, none⟩ (.int .i64 kids_86) fun w =>
          St1 w ⟨p2, 14, none⟩ (.int .i64 kids_87) fun w =>
          After R104 w <|
          After R88 w <|
          St1 w ⟨p3, 0, none⟩ (.int .i64 kind_89) fun w =>
          St1 w ⟨p3, 1, none⟩ (.int .i64 n_90) fun w =>
          St1 w ⟨p3, 2, none⟩ (.string keys_91) fun w =>
          St1 w ⟨p3, 3, none⟩ (.string keys_92) fun w =>
          St1 w ⟨p3, 4, none⟩ (.string keys_93) fun w =>
          St1 w ⟨p3, 5, none⟩ (.string keys_94) fun w =>
          St1 w ⟨p3, 6, none⟩ (.string vals_95) fun w =>
          St1 w ⟨p3, 7, none⟩ (.string vals_96) fun w =>
          St1 w ⟨p3, 8, none⟩ (.string vals_97) fun w =>
          St1 w ⟨p3, 9, none⟩ (.string vals_98) fun w =>
          St1 w ⟨p3, 10, none⟩ (.int .i64 kids_99) fun w =>
          St1 w ⟨p3, 11, none⟩ (.int .i64 kids_100) fun w =>
          St1 w ⟨p3, 12, none⟩ (.int .i64 kids_101) fun w =>
          St1 w ⟨p3, 13, none⟩ (.int .i64 kids_102) fun w =>
          St1 w ⟨p3, 14, none⟩ (.int .i64 kids_103) fun w =>
          After R104 w <|
          LdI .i64 w ⟨p2, 0, none⟩ fun kind_106 =>
          LdI .i64 w ⟨p2, 1, none⟩ fun n_107 =>
          LdStr w ⟨p2, 2, none⟩ fun keys_108 =>
          LdStr w ⟨p2, 3, none⟩ fun keys_109 =>
          LdStr w ⟨p2, 4, none⟩ fun keys_110 =>
          LdStr w ⟨p2, 5, none⟩ fun keys_111 =>
          LdStr w ⟨p2, 6, none⟩ fun vals_112 =>
          LdStr w ⟨p2, 7, none⟩ fun vals_113 =>
          LdStr w ⟨p2, 8, none⟩ fun vals_114 =>
          LdStr w ⟨p2, 9, none⟩ fun vals_115 =>
          LdI .i64 w ⟨p2, 10, none⟩ fun kids_116 =>
          LdI .i64 w ⟨p2, 11, none⟩ fun kids_117 =>
          LdI .i64 w ⟨p2, 12, none⟩ fun kids_118 =>
          LdI .i64 w ⟨p2, 13, none⟩ fun kids_119 =>
          LdI .i64 w ⟨p2, 14, none⟩ fun kids_120 =>
          LdI .i64 w ⟨p3, 0, none⟩ fun kind_121 =>
          LdI .i64 w ⟨p3, 1, none⟩ fun n_122 =>
          LdStr w ⟨p3, 2, none⟩ fun keys_123 =>
          LdStr w ⟨p3, 3, none⟩ fun keys_124 =>
          LdStr w ⟨p3, 4, none⟩ fun keys_125 =>
          LdStr w ⟨p3, 5, none⟩ fun keys_126 =>
          LdStr w ⟨p3, 6, none⟩ fun vals_127 =>
          LdStr w ⟨p3, 7, none⟩ fun vals_128 =>
          LdStr w ⟨p3, 8, none⟩ fun vals_129 =>
          LdStr w ⟨p3, 9, none⟩ fun vals_130 =>
          LdI .i64 w ⟨p3, 10, none⟩ fun kids_131 =>
          LdI .i64 w ⟨p3, 11, none⟩ fun kids_132 =>
          LdI .i64 w ⟨p3, 12, none⟩ fun kids_133 =>
          LdI .i64 w ⟨p3, 13, none⟩ fun kids_134 =>
          LdI .i64 w ⟨p3, 14, none⟩ fun kids_135 =>
          K kind_106 n_107 keys_108 keys_109 keys_110 keys_111 vals_112 vals_113 vals_114 vals_115 kids_116 kids_117 kids_118 kids_119 kids_120 kind_121 n_122 keys_123 keys_124 keys_125 keys_126 vals_127 vals_128 vals_129 vals_130 kids_131 kids_132 kids_133 kids_134 kids_135 keys_105 w) fun J136 =>
      LoopP (σ := Int × Unit) (fun st137 w next138 =>
        if (decide (st137.1 ≤ 3)) = true then
          IxA 4 st137.1 <|
          LdStr w ⟨p1, 2 + Int.toNat st137.1 * 1, none⟩ fun keys_139 =>
          IxA 4 (W (st137.1 - 2)) <|
          St1 w ⟨p8, 2 + Int.toNat (W (st137.1 - 2)) * 1, none⟩ (.string keys_139) fun w =>
          IxA 4 st137.1 <|
          LdStr w ⟨p1, 6 + Int.toNat st137.1 * 1, none⟩ fun vals_140 =>
          IxA 4 (W (st137.1 - 2)) <|
          St1 w ⟨p8, 6 + Int.toNat (W (st137.1 - 2)) * 1, none⟩ (.string vals_140) fun w =>
          Let (W (st137.1 + 1)) fun i_141 =>
          next138 (i_141, ()) w
        else
          J136 w) (2, ()) w) fun J142 =>
    LoopP (σ := Int × Unit) (fun st143 w next144 =>
      LdI .i64 w ⟨p1, 1, none⟩ fun n_145 =>
      if (decide (st143.1 < n_145)) = true then
        IxA 5 st143.1 <|
        LdI .i64 w ⟨p1, 10 + Int.toNat st143.1 * 1, none⟩ fun kids_146 =>
        IxA 5 (W (st143.1 - 2)) <|
        St1 w ⟨p8, 10 + Int.toNat (W (st143.1 - 2)) * 1, none⟩ (.int .i64 kids_146) fun w =>
        Let (W (st143.1 + 1)) fun i_147 =>
        next144 (i_147, ()) w
      else
        J142 w) (2, ()) w) fun J148 =>
  LoopP (σ := Int × Unit) (fun st149 w next150 =>
    if (decide (st149.1 < 2)) = true then
      IxA 4 st149.1 <|
      LdStr w ⟨p1, 2 + Int.toNat st149.1 * 1, none⟩ fun keys_151 =>
      IxA 4 st149.1 <|
      St1 w ⟨p5, 2 + Int.toNat st149.1 * 1, none⟩ (.string keys_151) fun w =>
      IxA 4 st149.1 <|
      LdStr w ⟨p1, 6 + Int.toNat st149.1 * 1, none⟩ fun vals_152 =>
      IxA 4 st149.1 <|
      St1 w ⟨p5, 6 + Int.toNat st149.1 * 1, none⟩ (.string vals_152) fun w =>
      IxA 5 st149.1 <|
      LdI .i64 w ⟨p1, 10 + Int.toNat st149.1 * 1, none⟩ fun kids_153 =>
      IxA 5 st149.1 <|
      St1 w ⟨p5, 10 + Int.toNat st149.1 * 1, none⟩ (.int .i64 kids_153) fun w =>
      Let (W (st149.1 + 1)) fun i_154 =>
      next150 (i_154, ()) w
    else
      J148 w) (0, ()) w
def T.C292 : CallT := CallT.nil
def T.A292 : Ann := fun i => bif Nat.beq i 4 then some ([1, 2, 3, 5, 6], [(7, 0)]) else bif Nat.beq i 10 then some ([1, 2, 3, 5, 6], [(8, 0)]) else bif Nat.beq i 14 then some ([1, 2, 3, 5, 6], [(9, 0)]) else none
set_option maxRecDepth 1000000 in
theorem T.eq292 (nd_kind : Int) (nd_n : Int) (nd_keys : ByteArray) (nd_keys_ : ByteArray) (nd_keys__ : ByteArray) (nd_keys___ : ByteArray) (nd_vals : ByteArray) (nd_vals_ : ByteArray) (nd_vals__ : ByteArray) (nd_vals___ : ByteArray) (nd_kids : Int) (nd_kids_ : Int) (nd_kids__ : Int) (nd_kids___ : Int) (nd_kids____ : Int) (w : World) (K : Int → Int → ByteArray → ByteArray → ByteArray → ByteArray → ByteArray → ByteArray → ByteArray → ByteArray → Int → Int → Int → Int → Int → Int → Int → ByteArray → ByteArray → ByteArray → ByteArray → ByteArray → ByteArray → ByteArray → ByteArray → Int → Int → Int → Int → Int → ByteArray → World → Prop) : denF Tryz.prog T.C292 T.A292 Tryz.f292 [.agg #[.int .i64 nd_kind, .int .i64 nd_n, .string nd_keys, .string nd_keys_, .string nd_keys__, .string nd_keys___, .string nd_vals, .string nd_vals_, .string nd_vals__, .string nd_vals___, .int .i64 nd_kids, .int .i64 nd_kids_, .int .i64 nd_kids__, .int .i64 nd_kids___, .int .i64 nd_kids____]] w (fun v w' => match v with | .tuple ⟨[.agg ⟨[.int .i64 r0, .int .i64 r1, .string r2, .string r3, .string r4, .string r5, .string r6, .string r7, .string r8, .string r9, .int .i64 r10, .int .i64 r11, .int .i64 r12, .int .i64 r13, .int .i64 r14]⟩, .agg ⟨[.int .i64 r15, .int .i64 r16, .string r17, .string r18, .string r19, .string r20, .string r21, .string r22, .string r23, .string r24, .int .i64 r25, .int .i64 r26, .int .i64 r27, .int .i64 r28, .int .i64 r29]⟩, .string r30]⟩ => K r0 r1 r2 r3 r4 r5 r6 r7 r8 r9 r10 r11 r12 r13 r14 r15 r16 r17 r18 r19 r20 r21 r22 r23 r24 r25 r26 r27 r28 r29 r30 w' | _ => False) = S.btree_split nd_kind nd_n nd_keys nd_keys_ nd_keys__ nd_keys___ nd_vals nd_vals_ nd_vals__ nd_vals___ nd_kids nd_kids_ nd_kids__ nd_kids___ nd_kids____ w K := by kernel_rfl
theorem T.CO292 : CallOk Tryz.prog T.C292 := CallOk.nil
def T.c292 (vs : List Value) (w : World) (K : Value → World → Prop) : Prop :=
  match vs with
  | [.agg ⟨[.int .i64 nd_kind, .int .i64 nd_n, .string nd_keys, .string nd_keys_, .string nd_keys__, .string nd_keys___, .string nd_vals, .string nd_vals_, .string nd_vals__, .string nd_vals___, .int .i64 nd_kids, .int .i64 nd_kids_, .int .i64 nd_kids__, .int .i64 nd_kids___, .int .i64 nd_kids____]⟩] => S.btree_split nd_kind nd_n nd_keys nd_keys_ nd_keys__ nd_keys___ nd_vals nd_vals_ nd_vals__ nd_vals___ nd_kids nd_kids_ nd_kids__ nd_kids___ nd_kids____ w (fun r0 r1 r2 r3 r4 r5 r6 r7 r8 r9 r10 r11 r12 r13 r14 r15 r16 r17 r18 r19 r20 r21 r22 r23 r24 r25 r26 r27 r28 r29 r30 w' => K (.tuple #[.agg #[.int .i64 r0, .int .i64 r1, .string r2, .string r3, .string r4, .string r5, .string r6, .string r7, .string r8, .string r9, .int .i64 r10, .int .i64 r11, .int .i64 r12, .int .i64 r13, .int .i64 r14], .agg #[.int .i64 r15, .int .i64 r16, .string r17, .string r18, .string r19, .string r20, .string r21, .string r22, .string r23, .string r24, .int .i64 r25, .int .i64 r26, .int .i64 r27, .int .i64 r28, .int .i64 r29], .string r30]) w')
  | _ => False
theorem T.ok292 : ∀ vs w K, T.c292 vs w K → (callFunc 292 vs.toArray).run Tryz.prog w = .ok (.enter 292 vs.toArray) w ∧ Calls Tryz.prog 292 vs.toArray w fun e w' => ∃ v, e = .returned v ∧ K v w' := by
  intro vs w K h
  unfold T.c292 at h
  split at h
  · refine ⟨Tryz.call292 _ _, ok_of T.CO292 mixed Tryz.func292 (T.eq292 _ _ _ _ _ _ _ _ _ _ _ _ _ _ _ _ _) h fun v w' hk => ⟨v, rfl, ?_⟩⟩
    split at hk
    · exact hk
    · exact hk.elim
  · exact h.elim

/-- e2e/btree.leafPut (function 290). -/
def S.btree_leafPut (nd_kind : Int) (nd_n : Int) (nd_keys : ByteArray) (nd_keys_ : ByteArray) (nd_keys__ : ByteArray) (nd_keys___ : ByteArray) (nd_vals : ByteArray) (nd_vals_ : ByteArray) (nd_vals__ : ByteArray) (nd_vals___ : ByteArray) (nd_kids : Int) (nd_kids_ : Int) (nd_kids__ : Int) (nd_kids___ : Int) (nd_kids____ : Int) (k : ByteArray) (v : ByteArray) (w : World) (K : Int → Int → ByteArray → ByteArray → ByteArray → ByteArray → ByteArray → ByteArray → ByteArray → ByteArray → Int → Int → Int → Int → Int → World → Prop) : Prop :=
  New w (.cells #[.int .i64 nd_kind, .int .i64 nd_n, .string nd_keys, .string nd_keys_, .string nd_keys__, .string nd_keys___, .string nd_vals, .string nd_vals_, .string nd_vals__, .string nd_vals___, .int .i64 nd_kids, .int .i64 nd_kids_, .int .i64 nd_kids__, .int .i64 nd_kids___, .int .i64 nd_kids____] 289) fun p1 w =>
  New w (.cells #[.int .i64 0, .int .i64 0, .string ⟨#[]⟩, .string ⟨#[]⟩, .string ⟨#[]⟩, .string ⟨#[]⟩, .string ⟨#[]⟩, .string ⟨#[]⟩, .string ⟨#[]⟩, .string ⟨#[]⟩, .int .i64 0, .int .i64 0, .int .i64 0, .int .i64 0, .int .i64 0] 289) fun p2 w =>
  Join (fun (i_3 : Int) (w : World) =>
    Join (fun (w : World) =>
      LdI .i64 w ⟨p1, 1, none⟩ fun n_4 =>
      Join (fun (w : World) =>
        IxA 4 i_3 <|
        St1 w ⟨p1, 2 + Int.toNat i_3 * 1, none⟩ (.string k) fun w =>
        IxA 4 i_3 <|
        St1 w ⟨p1, 6 + Int.toNat i_3 * 1, none⟩ (.string v) fun w =>
        LdI .i64 w ⟨p1, 1, none⟩ fun n_5 =>
        St1 w ⟨p1, 1, none⟩ (.int .i64 (W (n_5 + 1))) fun w =>
        LdI .i64 w ⟨p1, 0, none⟩ fun kind_6 =>
        LdI .i64 w ⟨p1, 1, none⟩ fun n_7 =>
        LdStr w ⟨p1, 2, none⟩ fun keys_8 =>
        LdStr w ⟨p1, 3, none⟩ fun keys_9 =>
        LdStr w ⟨p1, 4, none⟩ fun keys_10 =>
        LdStr w ⟨p1, 5, none⟩ fun keys_11 =>
        LdStr w ⟨p1, 6, none⟩ fun vals_12 =>
        LdStr w ⟨p1, 7, none⟩ fun vals_13 =>
        LdStr w ⟨p1, 8, none⟩ fun vals_14 =>
        LdStr w ⟨p1, 9, none⟩ fun vals_15 =>
        LdI .i64 w ⟨p1, 10, none⟩ fun kids_16 =>
        LdI .i64 w ⟨p1, 11, none⟩ fun kids_17 =>
        LdI .i64 w ⟨p1, 12, none⟩ fun kids_18 =>
        LdI .i64 w ⟨p1, 13, none⟩ fun kids_19 =>
        LdI .i64 w ⟨p1, 14, none⟩ fun kids_20 =>
        St1 w ⟨p2, 0, none⟩ (.int .i64 kind_6) fun w =>
        St1 w ⟨p2, 1, none⟩ (.int .i64 n_7) fun w =>
        St1 w ⟨p2, 2, none⟩ (.string keys_8) fun w =>
        St1 w ⟨p2, 3, none⟩ (.string keys_9) fun w =>
        St1 w ⟨p2, 4, none⟩ (.string keys_10) fun w =>
        St1 w ⟨p2, 5, none⟩ (.string keys_11) fun w =>
        St1 w ⟨p2, 6, none⟩ (.string vals_12) fun w =>
        St1 w ⟨p2, 7, none⟩ (.string vals_13) fun w =>
        St1 w ⟨p2, 8, none⟩ (.string vals_14) fun w =>
        St1 w ⟨p2, 9, none⟩ (.string vals_15) fun w =>
        St1 w ⟨p2, 10, none⟩ (.int .i64 kids_16) fun w =>
        St1 w ⟨p2, 11, none⟩ (.int .i64 kids_17) fun w =>
        St1 w ⟨p2, 12, none⟩ (.int .i64 kids_18) fun w =>
        St1 w ⟨p2, 13, none⟩ (.int .i64 kids_19) fun w =>
        St1 w ⟨p2, 14, none⟩ (.int .i64 kids_20) fun w =>
        LdI .i64 w ⟨p2, 0, none⟩ fun kind_21 =>
        LdI .i64 w ⟨p2, 1, none⟩ fun n_22 =>
        LdStr w ⟨p2, 2, none⟩ fun keys_23 =>
        LdStr w ⟨p2, 3, none⟩ fun keys_24 =>
        LdStr w ⟨p2, 4, none⟩ fun keys_25 =>
        LdStr w ⟨p2, 5, none⟩ fun keys_26 =>
        LdStr w ⟨p2, 6, none⟩ fun vals_27 =>
        LdStr w ⟨p2, 7, none⟩ fun vals_28 =>
        LdStr w ⟨p2, 8, none⟩ fun vals_29 =>
        LdStr w ⟨p2, 9, none⟩ fun vals_30 =>
        LdI .i64 w ⟨p2, 10, none⟩ fun kids_31 =>
        LdI .i64 w ⟨p2, 11, none⟩ fun kids_32 =>
        LdI .i64 w ⟨p2, 12, none⟩ fun kids_33 =>
        LdI .i64 w ⟨p2, 13, none⟩ fun kids_34 =>
        LdI .i64 w ⟨p2, 14, none⟩ fun kids_35 =>
        K kind_21 n_22 keys_23 keys_24 keys_25 keys_26 vals_27 vals_28 vals_29 vals_30 kids_31 kids_32 kids_33 kids_34 kids_35 w) fun J36 =>
      LoopP (σ := Int × Unit) (fun st37 w next38 =>
        if (decide (st37.1 > i_3)) = true then
          IxA 4 (W (st37.1 - 1)) <|
          LdStr w ⟨p1, 2 + Int.toNat (W (st37.1 - 1)) * 1, none⟩ fun keys_39 =>
          IxA 4 st37.1 <|
          St1 w ⟨p1, 2 + Int.toNat st37.1 * 1, none⟩ (.string keys_39) fun w =>
          IxA 4 (W (st37.1 - 1)) <|
          LdStr w ⟨p1, 6 + Int.toNat (W (st37.1 - 1)) * 1, none⟩ fun vals_40 =>
          IxA 4 st37.1 <|
          St1 w ⟨p1, 6 + Int.toNat st37.1 * 1, none⟩ (.string vals_40) fun w =>
          Let (W (st37.1 - 1)) fun j_41 =>
          next38 (j_41, ()) w
        else
          J36 w) (n_4, ()) w) fun J42 =>
    LdI .i64 w ⟨p1, 1, none⟩ fun n_43 =>
    if (decide (i_3 < n_43)) = true then
      IxA 4 i_3 <|
      LdStr w ⟨p1, 2 + Int.toNat i_3 * 1, none⟩ fun keys_44 =>
      if (keys_44.toList == k.toList) = true then
        IxA 4 i_3 <|
        St1 w ⟨p1, 6 + Int.toNat i_3 * 1, none⟩ (.string v) fun w =>
        LdI .i64 w ⟨p1, 0, none⟩ fun kind_45 =>
        LdI .i64 w ⟨p1, 1, none⟩ fun n_46 =>
        LdStr w ⟨p1, 2, none⟩ fun keys_47 =>
        LdStr w ⟨p1, 3, none⟩ fun keys_48 =>
        LdStr w ⟨p1, 4, none⟩ fun keys_49 =>
        LdStr w ⟨p1, 5, none⟩ fun keys_50 =>
        LdStr w ⟨p1, 6, none⟩ fun vals_51 =>
        LdStr w ⟨p1, 7, none⟩ fun vals_52 =>
        LdStr w ⟨p1, 8, none⟩ fun vals_53 =>
        LdStr w ⟨p1, 9, none⟩ fun vals_54 =>
        LdI .i64 w ⟨p1, 10, none⟩ fun kids_55 =>
        LdI .i64 w ⟨p1, 11, none⟩ fun kids_56 =>
        LdI .i64 w ⟨p1, 12, none⟩ fun kids_57 =>
        LdI .i64 w ⟨p1, 13, none⟩ fun kids_58 =>
        LdI .i64 w ⟨p1, 14, none⟩ fun kids_59 =>
        St1 w ⟨p2, 0, none⟩ (.int .i64 kind_45) fun w =>
        St1 w ⟨p2, 1, none⟩ (.int .i64 n_46) fun w =>
        St1 w ⟨p2, 2, none⟩ (.string keys_47) fun w =>
        St1 w ⟨p2, 3, none⟩ (.string keys_48) fun w =>
        St1 w ⟨p2, 4, none⟩ (.string keys_49) fun w =>
        St1 w ⟨p2, 5, none⟩ (.string keys_50) fun w =>
        St1 w ⟨p2, 6, none⟩ (.string vals_51) fun w =>
        St1 w ⟨p2, 7, none⟩ (.string vals_52) fun w =>
        St1 w ⟨p2, 8, none⟩ (.string vals_53) fun w =>
        St1 w ⟨p2, 9, none⟩ (.string vals_54) fun w =>
        St1 w ⟨p2, 10, none⟩ (.int .i64 kids_55) fun w =>
        St1 w ⟨p2, 11, none⟩ (.int .i64 kids_56) fun w =>
        St1 w ⟨p2, 12, none⟩ (.int .i64 kids_57) fun w =>
        St1 w ⟨p2, 13, none⟩ (.int .i64 kids_58) fun w =>
        St1 w ⟨p2, 14, none⟩ (.int .i64 kids_59) fun w =>
        LdI .i64 w ⟨p2, 0, none⟩ fun kind_60 =>
        LdI .i64 w ⟨p2, 1, none⟩ fun n_61 =>
        LdStr w ⟨p2, 2, none⟩ fun keys_62 =>
        LdStr w ⟨p2, 3, none⟩ fun keys_63 =>
        LdStr w ⟨p2, 4, none⟩ fun keys_64 =>
        LdStr w ⟨p2, 5, none⟩ fun keys_65 =>
        LdStr w ⟨p2, 6, none⟩ fun vals_66 =>
        LdStr w ⟨p2, 7, none⟩ fun vals_67 =>
        LdStr w ⟨p2, 8, none⟩ fun vals_68 =>
        LdStr w ⟨p2, 9, none⟩ fun vals_69 =>
        LdI .i64 w ⟨p2, 10, none⟩ fun kids_70 =>
        LdI .i64 w ⟨p2, 11, none⟩ fun kids_71 =>
        LdI .i64 w ⟨p2, 12, none⟩ fun kids_72 =>
        LdI .i64 w ⟨p2, 13, none⟩ fun kids_73 =>
        LdI .i64 w ⟨p2, 14, none⟩ fun kids_74 =>
        K kind_60 n_61 keys_62 keys_63 keys_64 keys_65 vals_66 vals_67 vals_68 vals_69 kids_70 kids_71 kids_72 kids_73 kids_74 w
      else
        J42 w
    else
      J42 w) fun J75 =>
  LoopP (σ := Int × Unit) (fun st76 w next77 =>
    LdI .i64 w ⟨p1, 1, none⟩ fun n_78 =>
    if (decide (st76.1 < n_78)) = true then
      IxA 4 st76.1 <|
      LdStr w ⟨p1, 2 + Int.toNat st76.1 * 1, none⟩ fun keys_79 =>
      if (Op.bytesLess keys_79.toList k.toList) = true then
        Let (W (st76.1 + 1)) fun i_80 =>
        next77 (i_80, ()) w
      else
        J75 st76.1 w
    else
      J75 st76.1 w) (0, ()) w
def T.C290 : CallT := CallT.nil
def T.A290 : Ann := fun i => bif Nat.beq i 2 then some ([1, 2, 3, 6], [(7, 0)]) else bif Nat.beq i 8 then some ([1, 2, 3, 6, 7], [(8, 0)]) else none
set_option maxRecDepth 1000000 in
theorem T.eq290 (nd_kind : Int) (nd_n : Int) (nd_keys : ByteArray) (nd_keys_ : ByteArray) (nd_keys__ : ByteArray) (nd_keys___ : ByteArray) (nd_vals : ByteArray) (nd_vals_ : ByteArray) (nd_vals__ : ByteArray) (nd_vals___ : ByteArray) (nd_kids : Int) (nd_kids_ : Int) (nd_kids__ : Int) (nd_kids___ : Int) (nd_kids____ : Int) (k : ByteArray) (v : ByteArray) (w : World) (K : Int → Int → ByteArray → ByteArray → ByteArray → ByteArray → ByteArray → ByteArray → ByteArray → ByteArray → Int → Int → Int → Int → Int → World → Prop) : denF Tryz.prog T.C290 T.A290 Tryz.f290 [.agg #[.int .i64 nd_kind, .int .i64 nd_n, .string nd_keys, .string nd_keys_, .string nd_keys__, .string nd_keys___, .string nd_vals, .string nd_vals_, .string nd_vals__, .string nd_vals___, .int .i64 nd_kids, .int .i64 nd_kids_, .int .i64 nd_kids__, .int .i64 nd_kids___, .int .i64 nd_kids____], .string k, .string v] w (fun v w' => match v with | .agg ⟨[.int .i64 r0, .int .i64 r1, .string r2, .string r3, .string r4, .string r5, .string r6, .string r7, .string r8, .string r9, .int .i64 r10, .int .i64 r11, .int .i64 r12, .int .i64 r13, .int .i64 r14]⟩ => K r0 r1 r2 r3 r4 r5 r6 r7 r8 r9 r10 r11 r12 r13 r14 w' | _ => False) = S.btree_leafPut nd_kind nd_n nd_keys nd_keys_ nd_keys__ nd_keys___ nd_vals nd_vals_ nd_vals__ nd_vals___ nd_kids nd_kids_ nd_kids__ nd_kids___ nd_kids____ k v w K := by kernel_rfl
theorem T.CO290 : CallOk Tryz.prog T.C290 := CallOk.nil
def T.c290 (vs : List Value) (w : World) (K : Value → World → Prop) : Prop :=
  match vs with
  | [.agg ⟨[.int .i64 nd_kind, .int .i64 nd_n, .string nd_keys, .string nd_keys_, .string nd_keys__, .string nd_keys___, .string nd_vals, .string nd_vals_, .string nd_vals__, .string nd_vals___, .int .i64 nd_kids, .int .i64 nd_kids_, .int .i64 nd_kids__, .int .i64 nd_kids___, .int .i64 nd_kids____]⟩, .string k, .string v] => S.btree_leafPut nd_kind nd_n nd_keys nd_keys_ nd_keys__ nd_keys___ nd_vals nd_vals_ nd_vals__ nd_vals___ nd_kids nd_kids_ nd_kids__ nd_kids___ nd_kids____ k v w (fun r0 r1 r2 r3 r4 r5 r6 r7 r8 r9 r10 r11 r12 r13 r14 w' => K (.agg #[.int .i64 r0, .int .i64 r1, .string r2, .string r3, .string r4, .string r5, .string r6, .string r7, .string r8, .string r9, .int .i64 r10, .int .i64 r11, .int .i64 r12, .int .i64 r13, .int .i64 r14]) w')
  | _ => False
theorem T.ok290 : ∀ vs w K, T.c290 vs w K → (callFunc 290 vs.toArray).run Tryz.prog w = .ok (.enter 290 vs.toArray) w ∧ Calls Tryz.prog 290 vs.toArray w fun e w' => ∃ v, e = .returned v ∧ K v w' := by
  intro vs w K h
  unfold T.c290 at h
  split at h
  · refine ⟨Tryz.call290 _ _, ok_of T.CO290 mixed Tryz.func290 (T.eq290 _ _ _ _ _ _ _ _ _ _ _ _ _ _ _ _ _ _ _) h fun v w' hk => ⟨v, rfl, ?_⟩⟩
    split at hk
    · exact hk
    · exact hk.elim
  · exact h.elim

/-- e2e/btree.innerPut (function 291). -/
def S.btree_innerPut (nd_kind : Int) (nd_n : Int) (nd_keys : ByteArray) (nd_keys_ : ByteArray) (nd_keys__ : ByteArray) (nd_keys___ : ByteArray) (nd_vals : ByteArray) (nd_vals_ : ByteArray) (nd_vals__ : ByteArray) (nd_vals___ : ByteArray) (nd_kids : Int) (nd_kids_ : Int) (nd_kids__ : Int) (nd_kids___ : Int) (nd_kids____ : Int) (c : Int) (sep : ByteArray) (right : Int) (w : World) (K : Int → Int → ByteArray → ByteArray → ByteArray → ByteArray → ByteArray → ByteArray → ByteArray → ByteArray → Int → Int → Int → Int → Int → World → Prop) : Prop :=
  New w (.cells #[.int .i64 nd_kind, .int .i64 nd_n, .string nd_keys, .string nd_keys_, .string nd_keys__, .string nd_keys___, .string nd_vals, .string nd_vals_, .string nd_vals__, .string nd_vals___, .int .i64 nd_kids, .int .i64 nd_kids_, .int .i64 nd_kids__, .int .i64 nd_kids___, .int .i64 nd_kids____] 289) fun p1 w =>
  New w (.cells #[.int .i64 0, .int .i64 0, .string ⟨#[]⟩, .string ⟨#[]⟩, .string ⟨#[]⟩, .string ⟨#[]⟩, .string ⟨#[]⟩, .string ⟨#[]⟩, .string ⟨#[]⟩, .string ⟨#[]⟩, .int .i64 0, .int .i64 0, .int .i64 0, .int .i64 0, .int .i64 0] 289) fun p2 w =>
  LdI .i64 w ⟨p1, 1, none⟩ fun n_3 =>
  Join (fun (w : World) =>
    IxA 5 (W (c + 1)) <|
    St1 w ⟨p1, 10 + Int.toNat (W (c + 1)) * 1, none⟩ (.int .i64 right) fun w =>
    IxA 4 c <|
    St1 w ⟨p1, 2 + Int.toNat c * 1, none⟩ (.string sep) fun w =>
    LdI .i64 w ⟨p1, 1, none⟩ fun n_4 =>
    St1 w ⟨p1, 1, none⟩ (.int .i64 (W (n_4 + 1))) fun w =>
    LdI .i64 w ⟨p1, 0, none⟩ fun kind_5 =>
    LdI .i64 w ⟨p1, 1, none⟩ fun n_6 =>
    LdStr w ⟨p1, 2, none⟩ fun keys_7 =>
    LdStr w ⟨p1, 3, none⟩ fun keys_8 =>
    LdStr w ⟨p1, 4, none⟩ fun keys_9 =>
    LdStr w ⟨p1, 5, none⟩ fun keys_10 =>
    LdStr w ⟨p1, 6, none⟩ fun vals_11 =>
    LdStr w ⟨p1, 7, none⟩ fun vals_12 =>
    LdStr w ⟨p1, 8, none⟩ fun vals_13 =>
    LdStr w ⟨p1, 9, none⟩ fun vals_14 =>
    LdI .i64 w ⟨p1, 10, none⟩ fun kids_15 =>
    LdI .i64 w ⟨p1, 11, none⟩ fun kids_16 =>
    LdI .i64 w ⟨p1, 12, none⟩ fun kids_17 =>
    LdI .i64 w ⟨p1, 13, none⟩ fun kids_18 =>
    LdI .i64 w ⟨p1, 14, none⟩ fun kids_19 =>
    St1 w ⟨p2, 0, none⟩ (.int .i64 kind_5) fun w =>
    St1 w ⟨p2, 1, none⟩ (.int .i64 n_6) fun w =>
    St1 w ⟨p2, 2, none⟩ (.string keys_7) fun w =>
    St1 w ⟨p2, 3, none⟩ (.string keys_8) fun w =>
    St1 w ⟨p2, 4, none⟩ (.string keys_9) fun w =>
    St1 w ⟨p2, 5, none⟩ (.string keys_10) fun w =>
    St1 w ⟨p2, 6, none⟩ (.string vals_11) fun w =>
    St1 w ⟨p2, 7, none⟩ (.string vals_12) fun w =>
    St1 w ⟨p2, 8, none⟩ (.string vals_13) fun w =>
    St1 w ⟨p2, 9, none⟩ (.string vals_14) fun w =>
    St1 w ⟨p2, 10, none⟩ (.int .i64 kids_15) fun w =>
    St1 w ⟨p2, 11, none⟩ (.int .i64 kids_16) fun w =>
    St1 w ⟨p2, 12, none⟩ (.int .i64 kids_17) fun w =>
    St1 w ⟨p2, 13, none⟩ (.int .i64 kids_18) fun w =>
    St1 w ⟨p2, 14, none⟩ (.int .i64 kids_19) fun w =>
    LdI .i64 w ⟨p2, 0, none⟩ fun kind_20 =>
    LdI .i64 w ⟨p2, 1, none⟩ fun n_21 =>
    LdStr w ⟨p2, 2, none⟩ fun keys_22 =>
    LdStr w ⟨p2, 3, none⟩ fun keys_23 =>
    LdStr w ⟨p2, 4, none⟩ fun keys_24 =>
    LdStr w ⟨p2, 5, none⟩ fun keys_25 =>
    LdStr w ⟨p2, 6, none⟩ fun vals_26 =>
    LdStr w ⟨p2, 7, none⟩ fun vals_27 =>
    LdStr w ⟨p2, 8, none⟩ fun vals_28 =>
    LdStr w ⟨p2, 9, none⟩ fun vals_29 =>
    LdI .i64 w ⟨p2, 10, none⟩ fun kids_30 =>
    LdI .i64 w ⟨p2, 11, none⟩ fun kids_31 =>
    LdI .i64 w ⟨p2, 12, none⟩ fun kids_32 =>
    LdI .i64 w ⟨p2, 13, none⟩ fun kids_33 =>
    LdI .i64 w ⟨p2, 14, none⟩ fun kids_34 =>
    K kind_20 n_21 keys_22 keys_23 keys_24 keys_25 vals_26 vals_27 vals_28 vals_29 kids_30 kids_31 kids_32 kids_33 kids_34 w) fun J35 =>
  LoopP (σ := Int × Unit) (fun st36 w next37 =>
    if (decide (st36.1 > (W (c + 1)))) = true then
      IxA 5 (W (st36.1 - 1)) <|
      LdI .i64 w ⟨p1, 10 + Int.toNat (W (st36.1 - 1)) * 1, none⟩ fun kids_38 =>
      IxA 5 st36.1 <|
      St1 w ⟨p1, 10 + Int.toNat st36.1 * 1, none⟩ (.int .i64 kids_38) fun w =>
      IxA 4 (W (st36.1 - 2)) <|
      LdStr w ⟨p1, 2 + Int.toNat (W (st36.1 - 2)) * 1, none⟩ fun keys_39 =>
      IxA 4 (W (st36.1 - 1)) <|
      St1 w ⟨p1, 2 + Int.toNat (W (st36.1 - 1)) * 1, none⟩ (.string keys_39) fun w =>
      Let (W (st36.1 - 1)) fun j_40 =>
      next37 (j_40, ()) w
    else
      J35 w) (n_3, ()) w
def T.C291 : CallT := CallT.nil
def T.A291 : Ann := fun i => bif Nat.beq i 2 then some ([1, 2, 3, 4, 8], [(9, 0)]) else none
set_option maxRecDepth 1000000 in
theorem T.eq291 (nd_kind : Int) (nd_n : Int) (nd_keys : ByteArray) (nd_keys_ : ByteArray) (nd_keys__ : ByteArray) (nd_keys___ : ByteArray) (nd_vals : ByteArray) (nd_vals_ : ByteArray) (nd_vals__ : ByteArray) (nd_vals___ : ByteArray) (nd_kids : Int) (nd_kids_ : Int) (nd_kids__ : Int) (nd_kids___ : Int) (nd_kids____ : Int) (c : Int) (sep : ByteArray) (right : Int) (w : World) (K : Int → Int → ByteArray → ByteArray → ByteArray → ByteArray → ByteArray → ByteArray → ByteArray → ByteArray → Int → Int → Int → Int → Int → World → Prop) : denF Tryz.prog T.C291 T.A291 Tryz.f291 [.agg #[.int .i64 nd_kind, .int .i64 nd_n, .string nd_keys, .string nd_keys_, .string nd_keys__, .string nd_keys___, .string nd_vals, .string nd_vals_, .string nd_vals__, .string nd_vals___, .int .i64 nd_kids, .int .i64 nd_kids_, .int .i64 nd_kids__, .int .i64 nd_kids___, .int .i64 nd_kids____], .int .i64 c, .string sep, .int .i64 right] w (fun v w' => match v with | .agg ⟨[.int .i64 r0, .int .i64 r1, .string r2, .string r3, .string r4, .string r5, .string r6, .string r7, .string r8, .string r9, .int .i64 r10, .int .i64 r11, .int .i64 r12, .int .i64 r13, .int .i64 r14]⟩ => K r0 r1 r2 r3 r4 r5 r6 r7 r8 r9 r10 r11 r12 r13 r14 w' | _ => False) = S.btree_innerPut nd_kind nd_n nd_keys nd_keys_ nd_keys__ nd_keys___ nd_vals nd_vals_ nd_vals__ nd_vals___ nd_kids nd_kids_ nd_kids__ nd_kids___ nd_kids____ c sep right w K := by kernel_rfl
theorem T.CO291 : CallOk Tryz.prog T.C291 := CallOk.nil
def T.c291 (vs : List Value) (w : World) (K : Value → World → Prop) : Prop :=
  match vs with
  | [.agg ⟨[.int .i64 nd_kind, .int .i64 nd_n, .string nd_keys, .string nd_keys_, .string nd_keys__, .string nd_keys___, .string nd_vals, .string nd_vals_, .string nd_vals__, .string nd_vals___, .int .i64 nd_kids, .int .i64 nd_kids_, .int .i64 nd_kids__, .int .i64 nd_kids___, .int .i64 nd_kids____]⟩, .int .i64 c, .string sep, .int .i64 right] => S.btree_innerPut nd_kind nd_n nd_keys nd_keys_ nd_keys__ nd_keys___ nd_vals nd_vals_ nd_vals__ nd_vals___ nd_kids nd_kids_ nd_kids__ nd_kids___ nd_kids____ c sep right w (fun r0 r1 r2 r3 r4 r5 r6 r7 r8 r9 r10 r11 r12 r13 r14 w' => K (.agg #[.int .i64 r0, .int .i64 r1, .string r2, .string r3, .string r4, .string r5, .string r6, .string r7, .string r8, .string r9, .int .i64 r10, .int .i64 r11, .int .i64 r12, .int .i64 r13, .int .i64 r14]) w')
  | _ => False
theorem T.ok291 : ∀ vs w K, T.c291 vs w K → (callFunc 291 vs.toArray).run Tryz.prog w = .ok (.enter 291 vs.toArray) w ∧ Calls Tryz.prog 291 vs.toArray w fun e w' => ∃ v, e = .returned v ∧ K v w' := by
  intro vs w K h
  unfold T.c291 at h
  split at h
  · refine ⟨Tryz.call291 _ _, ok_of T.CO291 mixed Tryz.func291 (T.eq291 _ _ _ _ _ _ _ _ _ _ _ _ _ _ _ _ _ _ _ _) h fun v w' hk => ⟨v, rfl, ?_⟩⟩
    split at hk
    · exact hk
    · exact hk.elim
  · exact h.elim

/-- (*e2e/btree.Forest).put (function 251): its body over the calls of its kin. -/
def B.btree_Forest_put (R_btree_Forest_put : Nat → Int → ByteArray → ByteArray → Int → World → (ByteArray → Int → Int → World → Prop) → Prop) (f : Nat) (pg : Int) (k : ByteArray) (v : ByteArray) (fuel : Int) (w : World) (K : ByteArray → Int → Int → World → Prop) : Prop :=
  S.btree_Forest_load f pg w (fun kind_1 n_2 keys_3 keys_4 keys_5 keys_6 vals_7 vals_8 vals_9 vals_10 kids_11 kids_12 kids_13 kids_14 kids_15 r16 w =>
  New w (.cells #[.int .i64 0, .int .i64 0, .string ⟨#[]⟩, .string ⟨#[]⟩, .string ⟨#[]⟩, .string ⟨#[]⟩, .string ⟨#[]⟩, .string ⟨#[]⟩, .string ⟨#[]⟩, .string ⟨#[]⟩, .int .i64 0, .int .i64 0, .int .i64 0, .int .i64 0, .int .i64 0] 289) fun p17 w =>
  St1 w ⟨p17, 0, none⟩ (.int .i64 kind_1) fun w =>
  St1 w ⟨p17, 1, none⟩ (.int .i64 n_2) fun w =>
  St1 w ⟨p17, 2, none⟩ (.string keys_3) fun w =>
  St1 w ⟨p17, 3, none⟩ (.string keys_4) fun w =>
  St1 w ⟨p17, 4, none⟩ (.string keys_5) fun w =>
  St1 w ⟨p17, 5, none⟩ (.string keys_6) fun w =>
  St1 w ⟨p17, 6, none⟩ (.string vals_7) fun w =>
  St1 w ⟨p17, 7, none⟩ (.string vals_8) fun w =>
  St1 w ⟨p17, 8, none⟩ (.string vals_9) fun w =>
  St1 w ⟨p17, 9, none⟩ (.string vals_10) fun w =>
  St1 w ⟨p17, 10, none⟩ (.int .i64 kids_11) fun w =>
  St1 w ⟨p17, 11, none⟩ (.int .i64 kids_12) fun w =>
  St1 w ⟨p17, 12, none⟩ (.int .i64 kids_13) fun w =>
  St1 w ⟨p17, 13, none⟩ (.int .i64 kids_14) fun w =>
  St1 w ⟨p17, 14, none⟩ (.int .i64 kids_15) fun w =>
  Join (fun (w : World) =>
    K (⟨#[]⟩ : ByteArray) 0 23 w) fun J18 =>
  if (decide (fuel ≤ 0)) = true then
    J18 w
  else
    if (!r16) = true then
      J18 w
    else
      LdI .i64 w ⟨p17, 0, none⟩ fun kind_19 =>
      Join (fun (most_20 : Int) (w : World) =>
        LdI .i64 w ⟨p17, 1, none⟩ fun n_21 =>
        if (decide (n_21 ≤ most_20)) = true then
          LdI .i64 w ⟨p17, 0, none⟩ fun kind_22 =>
          LdI .i64 w ⟨p17, 1, none⟩ fun n_23 =>
          LdStr w ⟨p17, 2, none⟩ fun keys_24 =>
          LdStr w ⟨p17, 3, none⟩ fun keys_25 =>
          LdStr w ⟨p17, 4, none⟩ fun keys_26 =>
          LdStr w ⟨p17, 5, none⟩ fun keys_27 =>
          LdStr w ⟨p17, 6, none⟩ fun vals_28 =>
          LdStr w ⟨p17, 7, none⟩ fun vals_29 =>
          LdStr w ⟨p17, 8, none⟩ fun vals_30 =>
          LdStr w ⟨p17, 9, none⟩ fun vals_31 =>
          LdI .i64 w ⟨p17, 10, none⟩ fun kids_32 =>
          LdI .i64 w ⟨p17, 11, none⟩ fun kids_33 =>
          LdI .i64 w ⟨p17, 12, none⟩ fun kids_34 =>
          LdI .i64 w ⟨p17, 13, none⟩ fun kids_35 =>
          LdI .i64 w ⟨p17, 14, none⟩ fun kids_36 =>
          S.btree_Forest_store f pg kind_22 n_23 keys_24 keys_25 keys_26 keys_27 vals_28 vals_29 vals_30 vals_31 kids_32 kids_33 kids_34 kids_35 kids_36 w (fun r37 w =>
          K (⟨#[]⟩ : ByteArray) 0 r37 w)
        else
          LdI .i64 w ⟨p17, 0, none⟩ fun kind_38 =>
          LdI .i64 w ⟨p17, 1, none⟩ fun n_39 =>
          LdStr w ⟨p17, 2, none⟩ fun keys_40 =>
          LdStr w ⟨p17, 3, none⟩ fun keys_41 =>
          LdStr w ⟨p17, 4, none⟩ fun keys_42 =>
          LdStr w ⟨p17, 5, none⟩ fun keys_43 =>
          LdStr w ⟨p17, 6, none⟩ fun vals_44 =>
          LdStr w ⟨p17, 7, none⟩ fun vals_45 =>
          LdStr w ⟨p17, 8, none⟩ fun vals_46 =>
          LdStr w ⟨p17, 9, none⟩ fun vals_47 =>
          LdI .i64 w ⟨p17, 10, none⟩ fun kids_48 =>
          LdI .i64 w ⟨p17, 11, none⟩ fun kids_49 =>
          LdI .i64 w ⟨p17, 12, none⟩ fun kids_50 =>
          LdI .i64 w ⟨p17, 13, none⟩ fun kids_51 =>
          LdI .i64 w ⟨p17, 14, none⟩ fun kids_52 =>
          S.btree_split kind_38 n_39 keys_40 keys_41 keys_42 keys_43 vals_44 vals_45 vals_46 vals_47 kids_48 kids_49 kids_50 kids_51 kids_52 w (fun kind_53 n_54 keys_55 keys_56 keys_57 keys_58 vals_59 vals_60 vals_61 vals_62 kids_63 kids_64 kids_65 kids_66 kids_67 kind_68 n_69 keys_70 keys_71 keys_72 keys_73 vals_74 vals_75 vals_76 vals_77 kids_78 kids_79 kids_80 kids_81 kids_82 r83 w =>
          New w (.cells #[.int .i64 0, .int .i64 0, .string ⟨#[]⟩, .string ⟨#[]⟩, .string ⟨#[]⟩, .string ⟨#[]⟩, .string ⟨#[]⟩, .string ⟨#[]⟩, .string ⟨#[]⟩, .string ⟨#[]⟩, .int .i64 0, .int .i64 0, .int .i64 0, .int .i64 0, .int .i64 0] 289) fun p84 w =>
          New w (.cells #[.int .i64 0, .int .i64 0, .string ⟨#[]⟩, .string ⟨#[]⟩, .string ⟨#[]⟩, .string ⟨#[]⟩, .string ⟨#[]⟩, .string ⟨#[]⟩, .string ⟨#[]⟩, .string ⟨#[]⟩, .int .i64 0, .int .i64 0, .int .i64 0, .int .i64 0, .int .i64 0] 289) fun p85 w =>
          St1 w ⟨p84, 0, none⟩ (.int .i64 kind_53) fun w =>
          St1 w ⟨p84, 1, none⟩ (.int .i64 n_54) fun w =>
          St1 w ⟨p84, 2, none⟩ (.string keys_55) fun w =>
          St1 w ⟨p84, 3, none⟩ (.string keys_56) fun w =>
          St1 w ⟨p84, 4, none⟩ (.string keys_57) fun w =>
          St1 w ⟨p84, 5, none⟩ (.string keys_58) fun w =>
          St1 w ⟨p84, 6, none⟩ (.string vals_59) fun w =>
          St1 w ⟨p84, 7, none⟩ (.string vals_60) fun w =>
          St1 w ⟨p84, 8, none⟩ (.string vals_61) fun w =>
          St1 w ⟨p84, 9, none⟩ (.string vals_62) fun w =>
          St1 w ⟨p84, 10, none⟩ (.int .i64 kids_63) fun w =>
          St1 w ⟨p84, 11, none⟩ (.int .i64 kids_64) fun w =>
          St1 w ⟨p84, 12, none⟩ (.int .i64 kids_65) fun w =>
          St1 w ⟨p84, 13, none⟩ (.int .i64 kids_66) fun w =>
          St1 w ⟨p84, 14, none⟩ (.int .i64 kids_67) fun w =>
          St1 w ⟨p85, 0, none⟩ (.int .i64 kind_68) fun w =>
          St1 w ⟨p85, 1, none⟩ (.int .i64 n_69) fun w =>
          St1 w ⟨p85, 2, none⟩ (.string keys_70) fun w =>
          St1 w ⟨p85, 3, none⟩ (.string keys_71) fun w =>
          St1 w ⟨p85, 4, none⟩ (.string keys_72) fun w =>
          St1 w ⟨p85, 5, none⟩ (.string keys_73) fun w =>
          St1 w ⟨p85, 6, none⟩ (.string vals_74) fun w =>
          St1 w ⟨p85, 7, none⟩ (.string vals_75) fun w =>
          St1 w ⟨p85, 8, none⟩ (.string vals_76) fun w =>
          St1 w ⟨p85, 9, none⟩ (.string vals_77) fun w =>
          St1 w ⟨p85, 10, none⟩ (.int .i64 kids_78) fun w =>
          St1 w ⟨p85, 11, none⟩ (.int .i64 kids_79) fun w =>
          St1 w ⟨p85, 12, none⟩ (.int .i64 kids_80) fun w =>
          St1 w ⟨p85, 13, none⟩ (.int .i64 kids_81) fun w =>
          St1 w ⟨p85, 14, none⟩ (.int .i64 kids_82) fun w =>
          LdP w ⟨f, 0, none⟩ fun p_86 =>
          S.pager_Pager_Alloc p_86 w (fun r87 r88 w =>
          if (r88 != 0) = true then
            K (⟨#[]⟩ : ByteArray) 0 23 w
          else
            LdI .i64 w ⟨p84, 0, none⟩ fun kind_89 =>
            LdI .i64 w ⟨p84, 1, none⟩ fun n_90 =>
            LdStr w ⟨p84, 2, none⟩ fun keys_91 =>
            LdStr w ⟨p84, 3, none⟩ fun keys_92 =>
            LdStr w ⟨p84, 4, none⟩ fun keys_93 =>
            LdStr w ⟨p84, 5, none⟩ fun keys_94 =>
            LdStr w ⟨p84, 6, none⟩ fun vals_95 =>
            LdStr w ⟨p84, 7, none⟩ fun vals_96 =>
            LdStr w ⟨p84, 8, none⟩ fun vals_97 =>
            LdStr w ⟨p84, 9, none⟩ fun vals_98 =>
            LdI .i64 w ⟨p84, 10, none⟩ fun kids_99 =>
            LdI .i64 w ⟨p84, 11, none⟩ fun kids_100 =>
            LdI .i64 w ⟨p84, 12, none⟩ fun kids_101 =>
            LdI .i64 w ⟨p84, 13, none⟩ fun kids_102 =>
            LdI .i64 w ⟨p84, 14, none⟩ fun kids_103 =>
            S.btree_Forest_store f pg kind_89 n_90 keys_91 keys_92 keys_93 keys_94 vals_95 vals_96 vals_97 vals_98 kids_99 kids_100 kids_101 kids_102 kids_103 w (fun r104 w =>
            if (r104 != 0) = true then
              K (⟨#[]⟩ : ByteArray) 0 23 w
            else
              LdI .i64 w ⟨p85, 0, none⟩ fun kind_105 =>
              LdI .i64 w ⟨p85, 1, none⟩ fun n_106 =>
              LdStr w ⟨p85, 2, none⟩ fun keys_107 =>
              LdStr w ⟨p85, 3, none⟩ fun keys_108 =>
              LdStr w ⟨p85, 4, none⟩ fun keys_109 =>
              LdStr w ⟨p85, 5, none⟩ fun keys_110 =>
              LdStr w ⟨p85, 6, none⟩ fun vals_111 =>
              LdStr w ⟨p85, 7, none⟩ fun vals_112 =>
              LdStr w ⟨p85, 8, none⟩ fun vals_113 =>
              LdStr w ⟨p85, 9, none⟩ fun vals_114 =>
              LdI .i64 w ⟨p85, 10, none⟩ fun kids_115 =>
              LdI .i64 w ⟨p85, 11, none⟩ fun kids_116 =>
              LdI .i64 w ⟨p85, 12, none⟩ fun kids_117 =>
              LdI .i64 w ⟨p85, 13, none⟩ fun kids_118 =>
              LdI .i64 w ⟨p85, 14, none⟩ fun kids_119 =>
              S.btree_Forest_store f r87 kind_105 n_106 keys_107 keys_108 keys_109 keys_110 vals_111 vals_112 vals_113 vals_114 kids_115 kids_116 kids_117 kids_118 kids_119 w (fun r120 w =>
              if (r120 != 0) = true then
                K (⟨#[]⟩ : ByteArray) 0 23 w
              else
                K r83 r87 0 w))))) fun J121 =>
      if (kind_19 == 1) = true then
        LdI .i64 w ⟨p17, 0, none⟩ fun kind_122 =>
        LdI .i64 w ⟨p17, 1, none⟩ fun n_123 =>
        LdStr w ⟨p17, 2, none⟩ fun keys_124 =>
        LdStr w ⟨p17, 3, none⟩ fun keys_125 =>
        LdStr w ⟨p17, 4, none⟩ fun keys_126 =>
        LdStr w ⟨p17, 5, none⟩ fun keys_127 =>
        LdStr w ⟨p17, 6, none⟩ fun vals_128 =>
        LdStr w ⟨p17, 7, none⟩ fun vals_129 =>
        LdStr w ⟨p17, 8, none⟩ fun vals_130 =>
        LdStr w ⟨p17, 9, none⟩ fun vals_131 =>
        LdI .i64 w ⟨p17, 10, none⟩ fun kids_132 =>
        LdI .i64 w ⟨p17, 11, none⟩ fun kids_133 =>
        LdI .i64 w ⟨p17, 12, none⟩ fun kids_134 =>
        LdI .i64 w ⟨p17, 13, none⟩ fun kids_135 =>
        LdI .i64 w ⟨p17, 14, none⟩ fun kids_136 =>
        S.btree_leafPut kind_122 n_123 keys_124 keys_125 keys_126 keys_127 vals_128 vals_129 vals_130 vals_131 kids_132 kids_133 kids_134 kids_135 kids_136 k v w (fun kind_137 n_138 keys_139 keys_140 keys_141 keys_142 vals_143 vals_144 vals_145 vals_146 kids_147 kids_148 kids_149 kids_150 kids_151 w =>
        St1 w ⟨p17, 0, none⟩ (.int .i64 kind_137) fun w =>
        St1 w ⟨p17, 1, none⟩ (.int .i64 n_138) fun w =>
        St1 w ⟨p17, 2, none⟩ (.string keys_139) fun w =>
        St1 w ⟨p17, 3, none⟩ (.string keys_140) fun w =>
        St1 w ⟨p17, 4, none⟩ (.string keys_141) fun w =>
        St1 w ⟨p17, 5, none⟩ (.string keys_142) fun w =>
        St1 w ⟨p17, 6, none⟩ (.string vals_143) fun w =>
        St1 w ⟨p17, 7, none⟩ (.string vals_144) fun w =>
        St1 w ⟨p17, 8, none⟩ (.string vals_145) fun w =>
        St1 w ⟨p17, 9, none⟩ (.string vals_146) fun w =>
        St1 w ⟨p17, 10, none⟩ (.int .i64 kids_147) fun w =>
        St1 w ⟨p17, 11, none⟩ (.int .i64 kids_148) fun w =>
        St1 w ⟨p17, 12, none⟩ (.int .i64 kids_149) fun w =>
        St1 w ⟨p17, 13, none⟩ (.int .i64 kids_150) fun w =>
        St1 w ⟨p17, 14, none⟩ (.int .i64 kids_151) fun w =>
        J121 3 w)
      else
        LdI .i64 w ⟨p17, 0, none⟩ fun kind_152 =>
        LdI .i64 w ⟨p17, 1, none⟩ fun n_153 =>
        LdStr w ⟨p17, 2, none⟩ fun keys_154 =>
        LdStr w ⟨p17, 3, none⟩ fun keys_155 =>
        LdStr w ⟨p17, 4, none⟩ fun keys_156 =>
        LdStr w ⟨p17, 5, none⟩ fun keys_157 =>
        LdStr w ⟨p17, 6, none⟩ fun vals_158 =>
        LdStr w ⟨p17, 7, none⟩ fun vals_159 =>
        LdStr w ⟨p17, 8, none⟩ fun vals_160 =>
        LdStr w ⟨p17, 9, none⟩ fun vals_161 =>
        LdI .i64 w ⟨p17, 10, none⟩ fun kids_162 =>
        LdI .i64 w ⟨p17, 11, none⟩ fun kids_163 =>
        LdI .i64 w ⟨p17, 12, none⟩ fun kids_164 =>
        LdI .i64 w ⟨p17, 13, none⟩ fun kids_165 =>
        LdI .i64 w ⟨p17, 14, none⟩ fun kids_166 =>
        S.btree_childOf kind_152 n_153 keys_154 keys_155 keys_156 keys_157 vals_158 vals_159 vals_160 vals_161 kids_162 kids_163 kids_164 kids_165 kids_166 k w (fun r167 w =>
        IxA 5 r167 <|
        LdI .i64 w ⟨p17, 10 + Int.toNat r167 * 1, none⟩ fun kids_168 =>
        R_btree_Forest_put f kids_168 k v (W (fuel - 1)) w (fun r169 r170 r171 w =>
        Join (fun (w : World) =>
          K (⟨#[]⟩ : ByteArray) 0 r171 w) fun J172 =>
        if (r171 != 0) = true then
          J172 w
        else
          if (r170 == 0) = true then
            J172 w
          else
            LdI .i64 w ⟨p17, 0, none⟩ fun kind_173 =>
            LdI .i64 w ⟨p17, 1, none⟩ fun n_174 =>
            LdStr w ⟨p17, 2, none⟩ fun keys_175 =>
            LdStr w ⟨p17, 3, none⟩ fun keys_176 =>
            LdStr w ⟨p17, 4, none⟩ fun keys_177 =>
            LdStr w ⟨p17, 5, none⟩ fun keys_178 =>
            LdStr w ⟨p17, 6, none⟩ fun vals_179 =>
            LdStr w ⟨p17, 7, none⟩ fun vals_180 =>
            LdStr w ⟨p17, 8, none⟩ fun vals_181 =>
            LdStr w ⟨p17, 9, none⟩ fun vals_182 =>
            LdI .i64 w ⟨p17, 10, none⟩ fun kids_183 =>
            LdI .i64 w ⟨p17, 11, none⟩ fun kids_184 =>
            LdI .i64 w ⟨p17, 12, none⟩ fun kids_185 =>
            LdI .i64 w ⟨p17, 13, none⟩ fun kids_186 =>
            LdI .i64 w ⟨p17, 14, none⟩ fun kids_187 =>
            S.btree_innerPut kind_173 n_174 keys_175 keys_176 keys_177 keys_178 vals_179 vals_180 vals_181 vals_182 kids_183 kids_184 kids_185 kids_186 kids_187 r167 r169 r170 w (fun kind_188 n_189 keys_190 keys_191 keys_192 keys_193 vals_194 vals_195 vals_196 vals_197 kids_198 kids_199 kids_200 kids_201 kids_202 w =>
            St1 w ⟨p17, 0, none⟩ (.int .i64 kind_188) fun w =>
            St1 w ⟨p17, 1, none⟩ (.int .i64 n_189) fun w =>
            St1 w ⟨p17, 2, none⟩ (.string keys_190) fun w =>
            St1 w ⟨p17, 3, none⟩ (.string keys_191) fun w =>
            St1 w ⟨p17, 4, none⟩ (.string keys_192) fun w =>
            St1 w ⟨p17, 5, none⟩ (.string keys_193) fun w =>
            St1 w ⟨p17, 6, none⟩ (.string vals_194) fun w =>
            St1 w ⟨p17, 7, none⟩ (.string vals_195) fun w =>
            St1 w ⟨p17, 8, none⟩ (.string vals_196) fun w =>
            St1 w ⟨p17, 9, none⟩ (.string vals_197) fun w =>
            St1 w ⟨p17, 10, none⟩ (.int .i64 kids_198) fun w =>
            St1 w ⟨p17, 11, none⟩ (.int .i64 kids_199) fun w =>
            St1 w ⟨p17, 12, none⟩ (.int .i64 kids_200) fun w =>
            St1 w ⟨p17, 13, none⟩ (.int .i64 kids_201) fun w =>
            St1 w ⟨p17, 14, none⟩ (.int .i64 kids_202) fun w =>
            J121 4 w))))
def T.r251 (R : Nat → Int → ByteArray → ByteArray → Int → World → (ByteArray → Int → Int → World → Prop) → Prop) (vs : List Value) (w : World) (K : Value → World → Prop) : Prop :=
  match vs with
  | [.pointer (some ⟨f, 0, none⟩), .int .i64 pg, .string k, .string v, .int .i64 fuel] => R f pg k v fuel w (fun r0 r1 r2 w' => K (.tuple #[.string r0, .int .i64 r1, .int .i64 r2]) w')
  | _ => False
def T.A251 : Ann := fun i => bif Nat.beq i 1000007 then some ([], [(0, 5), (1, 0), (2, 4), (3, 4), (4, 0), (13, 5)]) else none
def T.C251 (R_btree_Forest_put : Nat → Int → ByteArray → ByteArray → Int → World → (ByteArray → Int → Int → World → Prop) → Prop) : CallT := (CallT.cons 254 T.c254 (CallT.cons 246 T.c246 (CallT.cons 292 T.c292 (CallT.cons 219 T.c219 (CallT.cons 290 T.c290 (CallT.cons 289 T.c289 (CallT.cons 251 (T.r251 R_btree_Forest_put) (CallT.cons 291 T.c291 CallT.nil))))))))
set_option maxRecDepth 1000000 in
theorem T.eq251 (R_btree_Forest_put : Nat → Int → ByteArray → ByteArray → Int → World → (ByteArray → Int → Int → World → Prop) → Prop) (f : Nat) (pg : Int) (k : ByteArray) (v : ByteArray) (fuel : Int) (w : World) (K : ByteArray → Int → Int → World → Prop) : denF Tryz.prog (T.C251 R_btree_Forest_put) T.A251 Tryz.f251 [.pointer (some ⟨f, 0, none⟩), .int .i64 pg, .string k, .string v, .int .i64 fuel] w (fun v w' => match v with | .tuple ⟨[.string r0, .int .i64 r1, .int .i64 r2]⟩ => K r0 r1 r2 w' | _ => False) = B.btree_Forest_put R_btree_Forest_put f pg k v fuel w K := by kernel_rfl
/-- The specifications hold of the bodies. -/
def T.G251 (P_btree_Forest_put : Nat → Nat → Int → ByteArray → ByteArray → Int → World → (ByteArray → Int → Int → World → Prop) → Prop) : Prop :=
  (∀ (n : Nat) (f : Nat) (pg : Int) (k : ByteArray) (v : ByteArray) (fuel : Int) (w : World) (K : ByteArray → Int → Int → World → Prop), P_btree_Forest_put n f pg k v fuel w K → B.btree_Forest_put (fun x0 x1 x2 x3 x4 w K => ∃ m, m < n ∧ P_btree_Forest_put m x0 x1 x2 x3 x4 w K) f pg k v fuel w K)
/-- (*e2e/btree.Forest).put (function 251). -/
def S.btree_Forest_put (f : Nat) (pg : Int) (k : ByteArray) (v : ByteArray) (fuel : Int) (w : World) (K : ByteArray → Int → Int → World → Prop) : Prop :=
  ∃ (P_btree_Forest_put : Nat → Nat → Int → ByteArray → ByteArray → Int → World → (ByteArray → Int → Int → World → Prop) → Prop), T.G251 P_btree_Forest_put ∧ ∃ n, P_btree_Forest_put n f pg k v fuel w K
def T.c251 (vs : List Value) (w : World) (K : Value → World → Prop) : Prop :=
  match vs with
  | [.pointer (some ⟨f, 0, none⟩), .int .i64 pg, .string k, .string v, .int .i64 fuel] => S.btree_Forest_put f pg k v fuel w (fun r0 r1 r2 w' => K (.tuple #[.string r0, .int .i64 r1, .int .i64 r2]) w')
  | _ => False
theorem T.all251 (P_btree_Forest_put : Nat → Nat → Int → ByteArray → ByteArray → Int → World → (ByteArray → Int → Int → World → Prop) → Prop) (h : T.G251 P_btree_Forest_put) : ∀ n, (∀ vs w K, T.r251 (P_btree_Forest_put n) vs w K → (callFunc 251 vs.toArray).run Tryz.prog w = .ok (.enter 251 vs.toArray) w ∧ Calls Tryz.prog 251 vs.toArray w fun e w' => ∃ v, e = .returned v ∧ K v w') := by
  intro n
  induction n using Nat.strongRecOn with
  | _ n ih =>
    have g251 := h
    have k251 : (∀ vs w K, T.r251 (fun x0 x1 x2 x3 x4 w K => ∃ m, m < n ∧ P_btree_Forest_put m x0 x1 x2 x3 x4 w K) vs w K → (callFunc 251 vs.toArray).run Tryz.prog w = .ok (.enter 251 vs.toArray) w ∧ Calls Tryz.prog 251 vs.toArray w fun e w' => ∃ v, e = .returned v ∧ K v w') := by
      intro vs w K hk
      unfold T.r251 at hk
      split at hk
      · obtain ⟨m, hm, hp⟩ := hk
        exact (ih m hm) _ w K hp
      · exact hk.elim
    · intro vs w K hk
      unfold T.r251 at hk
      split at hk
      · have hb := g251 _ _ _ _ _ _ _ _ hk
        have hco : CallOk Tryz.prog (T.C251 (fun x0 x1 x2 x3 x4 w K => ∃ m, m < n ∧ P_btree_Forest_put m x0 x1 x2 x3 x4 w K)) := (CallOk.cons 254 T.ok254 (CallOk.cons 246 T.ok246 (CallOk.cons 292 T.ok292 (CallOk.cons 219 T.ok219 (CallOk.cons 290 T.ok290 (CallOk.cons 289 T.ok289 (CallOk.cons 251 k251 (CallOk.cons 291 T.ok291 CallOk.nil))))))))
        refine ⟨Tryz.call251 _ _, ok_of hco mixed Tryz.func251 (T.eq251 _ _ _ _ _ _ _ _) hb fun v w' hk => ⟨v, rfl, ?_⟩⟩
        split at hk
        · exact hk
        · exact hk.elim
      · exact hk.elim
theorem T.ok251 : ∀ vs w K, T.c251 vs w K → (callFunc 251 vs.toArray).run Tryz.prog w = .ok (.enter 251 vs.toArray) w ∧ Calls Tryz.prog 251 vs.toArray w fun e w' => ∃ v, e = .returned v ∧ K v w' := by
  intro vs w K h
  unfold T.c251 at h
  split at h
  · obtain ⟨P251, hg, m, hp⟩ := h
    exact (T.all251 P251 hg m) _ w K hp
  · exact h.elim
end Go.Proofs.Qxb6500564aGreat
