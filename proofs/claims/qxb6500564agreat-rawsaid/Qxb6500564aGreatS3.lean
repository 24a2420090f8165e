/-
  MADE BY PROGRAM (my own gen2.py) out of the translation: the Go functions as typed texts, each tied to the model by the kernel.
-/
import Derived.Test.Qxb6500564aGreatS2
set_option linter.unusedVariables false
namespace Go.Proofs.Qxb6500564aGreat
open Go.Den

/-- (*e2e/querym.Engine).Crashed (function 53). -/
def S.querym_Engine_Crashed (q : Nat) (w : World) (K : Nat → World → Prop) : Prop :=
  LdP w ⟨q, 0, none⟩ fun m_1 =>
  S.api_Multi_Crashed m_1 w (fun r2 w =>
  New w (.cells #[.pointer (some ⟨r2, 0, none⟩)] 57) fun p3 w =>
  K p3 w)
def T.C53 : CallT := (CallT.cons 116 T.c116 CallT.nil)
def T.A53 : Ann := fun _ => none
set_option maxRecDepth 1000000 in
theorem T.eq53 (q : Nat) (w : World) (K : Nat → World → Prop) : denF Tryz.prog T.C53 T.A53 Tryz.f53 [.pointer (some ⟨q, 0, none⟩)] w (fun v w' => match v with | .pointer (some ⟨r0, 0, none⟩) => K r0 w' | _ => False) = S.querym_Engine_Crashed q w K := by kernel_rfl
theorem T.CO53 : CallOk Tryz.prog T.C53 := (CallOk.cons 116 T.ok116 CallOk.nil)
def T.c53 (vs : List Value) (w : World) (K : Value → World → Prop) : Prop :=
  match vs with
  | [.pointer (some ⟨q, 0, none⟩)] => S.querym_Engine_Crashed q w (fun r0 w' => K (.pointer (some ⟨r0, 0, none⟩)) w')
  | _ => False
theorem T.ok53 : ∀ vs w K, T.c53 vs w K → (callFunc 53 vs.toArray).run Tryz.prog w = .ok (.enter 53 vs.toArray) w ∧ Calls Tryz.prog 53 vs.toArray w fun e w' => ∃ v, e = .returned v ∧ K v w' := by
  intro vs w K h
  unfold T.c53 at h
  split at h
  · refine ⟨Tryz.call53 _ _, ok_of T.CO53 mixed Tryz.func53 (T.eq53 _ _ _) h fun v w' hk => ⟨v, rfl, ?_⟩⟩
    split at hk
    · exact hk
    · exact hk.elim
  · exact h.elim

/-- (*e2e/towerexact.base).cut (function 13). -/
def S.towerexact_base_cut (b : Nat) (b_o : Nat) (k : Int) (w : World) (K : Bool → World → Prop) : Prop :=
  LdP w ⟨b, b_o + 1, none⟩ fun d_1 =>
  S.towerlaw_Steps d_1 w (fun r2 w =>
  LdP w ⟨b, b_o + 1, none⟩ fun d_3 =>
  S.towerlaw_After d_3 k w (fun r4 w =>
  LdB w ⟨b, b_o, none⟩ fun box_5 =>
  S.towerexact_open r4 box_5 w (fun r6 w =>
  LdP w ⟨b, b_o + 4, none⟩ fun mb_7 =>
  S.querym_Engine_Crashed mb_7 w (fun r8 w =>
  LdP w ⟨b, b_o + 3, none⟩ fun m_9 =>
  S.querym_Engine_Crashed m_9 w (fun r10 w =>
  S.towerlaw_Alike r6 r8 w (fun r11 w =>
  S.towerlaw_Alike r6 r10 w (fun r12 w =>
  Join (fun (w : World) =>
    Join (fun (w : World) =>
      LdP w ⟨b, b_o + 1, none⟩ fun d_13 =>
      S.towerlaw_After d_13 k w (fun r14 w =>
      St1 w ⟨b, b_o + 1, none⟩ (.pointer (some ⟨r14, 0, none⟩)) fun w =>
      LdB w ⟨b, b_o, none⟩ fun box_15 =>
      S.towerexact_open r14 box_15 w (fun r16 w =>
      St1 w ⟨b, b_o + 2, none⟩ (.pointer (some ⟨r16, 0, none⟩)) fun w =>
      Join (fun (w : World) =>
        LdP w ⟨b, b_o + 3, none⟩ fun m_17 =>
        S.querym_Engine_Clone m_17 w (fun r18 w =>
        St1 w ⟨b, b_o + 4, none⟩ (.pointer (some ⟨r18, 0, none⟩)) fun w =>
        K true w)) fun J19 =>
      if r12 = true then
        St1 w ⟨b, b_o + 3, none⟩ (.pointer (some ⟨r10, 0, none⟩)) fun w =>
        J19 w
      else
        St1 w ⟨b, b_o + 3, none⟩ (.pointer (some ⟨r8, 0, none⟩)) fun w =>
        J19 w))) fun J20 =>
    if (decide (k ≤ 0)) = true then
      if (!r11) = true then
        K false w
      else
        if (decide (k ≥ r2)) = true then
          if (!r12) = true then
            K false w
          else
            J20 w
        else
          J20 w
    else
      if (decide (k ≥ r2)) = true then
        if (!r12) = true then
          K false w
        else
          J20 w
      else
        J20 w) fun J21 =>
  if (!r11) = true then
    if (!r12) = true then
      K false w
    else
      J21 w
  else
    J21 w)))))))
def T.C13 : CallT := (CallT.cons 50 T.c50 (CallT.cons 51 T.c51 (CallT.cons 52 T.c52 (CallT.cons 53 T.c53 (CallT.cons 12 T.c12 (CallT.cons 8 T.c8 CallT.nil))))))
def T.A13 : Ann := fun _ => none
set_option maxRecDepth 1000000 in
theorem T.eq13 (b : Nat) (b_o : Nat) (k : Int) (w : World) (K : Bool → World → Prop) : denF Tryz.prog T.C13 T.A13 Tryz.f13 [.pointer (some ⟨b, b_o, none⟩), .int .i64 k] w (fun v w' => match v with | .bool r0 => K r0 w' | _ => False) = S.towerexact_base_cut b b_o k w K := by kernel_rfl
theorem T.CO13 : CallOk Tryz.prog T.C13 := (CallOk.cons 50 T.ok50 (CallOk.cons 51 T.ok51 (CallOk.cons 52 T.ok52 (CallOk.cons 53 T.ok53 (CallOk.cons 12 T.ok12 (CallOk.cons 8 T.ok8 CallOk.nil))))))
def T.c13 (vs : List Value) (w : World) (K : Value → World → Prop) : Prop :=
  match vs with
  | [.pointer (some ⟨b, b_o, none⟩), .int .i64 k] => S.towerexact_base_cut b b_o k w (fun r0 w' => K (.bool r0) w')
  | _ => False
theorem T.ok13 : ∀ vs w K, T.c13 vs w K → (callFunc 13 vs.toArray).run Tryz.prog w = .ok (.enter 13 vs.toArray) w ∧ Calls Tryz.prog 13 vs.toArray w fun e w' => ∃ v, e = .returned v ∧ K v w' := by
  intro vs w K h
  unfold T.c13 at h
  split at h
  · refine ⟨Tryz.call13 _ _, ok_of T.CO13 mixed Tryz.func13 (T.eq13 _ _ _ _ _) h fun v w' hk => ⟨v, rfl, ?_⟩⟩
    split at hk
    · exact hk
    · exact hk.elim
  · exact h.elim

/-- e2e/towerlaw.Mark (function 7). -/
def S.towerlaw_Mark (d : Nat) (w : World) (K : World → Prop) : Prop :=
  S.diskm_Disk_Mark d w (fun w =>
  K w)
def T.C7 : CallT := (CallT.cons 20 T.c20 CallT.nil)
def T.A7 : Ann := fun _ => none
set_option maxRecDepth 1000000 in
theorem T.eq7 (d : Nat) (w : World) (K : World → Prop) : denF Tryz.prog T.C7 T.A7 Tryz.f7 [.pointer (some ⟨d, 0, none⟩)] w (fun v w' => match v with | .tuple ⟨[]⟩ => K w' | _ => False) = S.towerlaw_Mark d w K := by kernel_rfl
theorem T.CO7 : CallOk Tryz.prog T.C7 := (CallOk.cons 20 T.ok20 CallOk.nil)
def T.c7 (vs : List Value) (w : World) (K : Value → World → Prop) : Prop :=
  match vs with
  | [.pointer (some ⟨d, 0, none⟩)] => S.towerlaw_Mark d w (fun w' => K (.tuple #[]) w')
  | _ => False
theorem T.ok7 : ∀ vs w K, T.c7 vs w K → (callFunc 7 vs.toArray).run Tryz.prog w = .ok (.enter 7 vs.toArray) w ∧ Calls Tryz.prog 7 vs.toArray w fun e w' => ∃ v, e = .returned v ∧ K v w' := by
  intro vs w K h
  unfold T.c7 at h
  split at h
  · refine ⟨Tryz.call7 _ _, ok_of T.CO7 mixed Tryz.func7 (T.eq7 _ _ _) h fun v w' hk => ⟨v, rfl, ?_⟩⟩
    split at hk
    · exact hk
    · exact hk.elim
  · exact h.elim

/-- e2e/towerlaw.SameResult (function 11). -/
def S.towerlaw_SameResult (a_Err : Int) (a_N : Int) (a_Cols : Sl) (a_Rows : Sl) (b_Err : Int) (b_N : Int) (b_Cols : Sl) (b_Rows : Sl) (w : World) (K : Bool → World → Prop) : Prop :=
  New w (.cells #[.int .i64 a_Err, .int .i64 a_N, .slice a_Cols.a a_Cols.l a_Cols.c, .slice a_Rows.a a_Rows.l a_Rows.c] 36) fun p1 w =>
  New w (.cells #[.int .i64 b_Err, .int .i64 b_N, .slice b_Cols.a b_Cols.l b_Cols.c, .slice b_Rows.a b_Rows.l b_Rows.c] 36) fun p2 w =>
  LdI .i64 w ⟨p1, 0, none⟩ fun Err_3 =>
  LdI .i64 w ⟨p2, 0, none⟩ fun Err_4 =>
  if (Err_3 != Err_4) = true then
    K false w
  else
    LdI .i64 w ⟨p1, 1, none⟩ fun N_5 =>
    LdI .i64 w ⟨p2, 1, none⟩ fun N_6 =>
    if (N_5 != N_6) = true then
      K false w
    else
      LdS w ⟨p1, 2, none⟩ fun Cols_7 =>
      LdS w ⟨p2, 2, none⟩ fun Cols_8 =>
      S.towerlaw_SameStrings Cols_7 Cols_8 w (fun r9 w =>
      if (!r9) = true then
        K false w
      else
        LdS w ⟨p1, 3, none⟩ fun Rows_10 =>
        LdS w ⟨p2, 3, none⟩ fun Rows_11 =>
        S.towerlaw_SameRows Rows_10 Rows_11 w (fun r12 w =>
        K r12 w))
def T.C11 : CallT := (CallT.cons 44 T.c44 (CallT.cons 45 T.c45 CallT.nil))
def T.A11 : Ann := fun _ => none
set_option maxRecDepth 1000000 in
theorem T.eq11 (a_Err : Int) (a_N : Int) (a_Cols : Sl) (a_Rows : Sl) (b_Err : Int) (b_N : Int) (b_Cols : Sl) (b_Rows : Sl) (w : World) (K : Bool → World → Prop) : denF Tryz.prog T.C11 T.A11 Tryz.f11 [.agg #[.int .i64 a_Err, .int .i64 a_N, .slice a_Cols.a a_Cols.l a_Cols.c, .slice a_Rows.a a_Rows.l a_Rows.c], .agg #[.int .i64 b_Err, .int .i64 b_N, .slice b_Cols.a b_Cols.l b_Cols.c, .slice b_Rows.a b_Rows.l b_Rows.c]] w (fun v w' => match v with | .bool r0 => K r0 w' | _ => False) = S.towerlaw_SameResult a_Err a_N a_Cols a_Rows b_Err b_N b_Cols b_Rows w K := by kernel_rfl
theorem T.CO11 : CallOk Tryz.prog T.C11 := (CallOk.cons 44 T.ok44 (CallOk.cons 45 T.ok45 CallOk.nil))
def T.c11 (vs : List Value) (w : World) (K : Value → World → Prop) : Prop :=
  match vs with
  | [.agg ⟨[.int .i64 a_Err, .int .i64 a_N, .slice a_Colsa a_Colsl a_Colsc, .slice a_Rowsa a_Rowsl a_Rowsc]⟩, .agg ⟨[.int .i64 b_Err, .int .i64 b_N, .slice b_Colsa b_Colsl b_Colsc, .slice b_Rowsa b_Rowsl b_Rowsc]⟩] => S.towerlaw_SameResult a_Err a_N ⟨a_Colsa, a_Colsl, a_Colsc⟩ ⟨a_Rowsa, a_Rowsl, a_Rowsc⟩ b_Err b_N ⟨b_Colsa, b_Colsl, b_Colsc⟩ ⟨b_Rowsa, b_Rowsl, b_Rowsc⟩ w (fun r0 w' => K (.bool r0) w')
  | _ => False
theorem T.ok11 : ∀ vs w K, T.c11 vs w K → (callFunc 11 vs.toArray).run Tryz.prog w = .ok (.enter 11 vs.toArray) w ∧ Calls Tryz.prog 11 vs.toArray w fun e w' => ∃ v, e = .returned v ∧ K v w' := by
  intro vs w K h
  unfold T.c11 at h
  split at h
  · refine ⟨Tryz.call11 _ _, ok_of T.CO11 mixed Tryz.func11 (T.eq11 _ _ _ _ _ _ _ _ _ _) h fun v w' hk => ⟨v, rfl, ?_⟩⟩
    split at hk
    · exact hk
    · exact hk.elim
  · exact h.elim

/-- e2e/querym.fail (function 35). -/
def S.querym_fail (e : Int) (w : World) (K : Int → Int → Sl → Sl → World → Prop) : Prop :=
  New w (.cells #[.int .i64 0, .int .i64 0, .slice none 0 0, .slice none 0 0] 36) fun p1 w =>
  St1 w ⟨p1, 0, none⟩ (.int .i64 e) fun w =>
  St1 w ⟨p1, 1, none⟩ (.int .i64 0) fun w =>
  St1 w ⟨p1, 2, none⟩ (.slice none 0 0) fun w =>
  St1 w ⟨p1, 3, none⟩ (.slice none 0 0) fun w =>
  LdI .i64 w ⟨p1, 0, none⟩ fun Err_2 =>
  LdI .i64 w ⟨p1, 1, none⟩ fun N_3 =>
  LdS w ⟨p1, 2, none⟩ fun Cols_4 =>
  LdS w ⟨p1, 3, none⟩ fun Rows_5 =>
  K Err_2 N_3 Cols_4 Rows_5 w
def T.C35 : CallT := CallT.nil
def T.A35 : Ann := fun _ => none
set_option maxRecDepth 1000000 in
theorem T.eq35 (e : Int) (w : World) (K : Int → Int → Sl → Sl → World → Prop) : denF Tryz.prog T.C35 T.A35 Tryz.f35 [.int .i64 e] w (fun v w' => match v with | .agg ⟨[.int .i64 r0, .int .i64 r1, .slice r2a r2l r2c, .slice r3a r3l r3c]⟩ => K r0 r1 ⟨r2a, r2l, r2c⟩ ⟨r3a, r3l, r3c⟩ w' | _ => False) = S.querym_fail e w K := by kernel_rfl
theorem T.CO35 : CallOk Tryz.prog T.C35 := CallOk.nil
def T.c35 (vs : List Value) (w : World) (K : Value → World → Prop) : Prop :=
  match vs with
  | [.int .i64 e] => S.querym_fail e w (fun r0 r1 r2 r3 w' => K (.agg #[.int .i64 r0, .int .i64 r1, .slice r2.a r2.l r2.c, .slice r3.a r3.l r3.c]) w')
  | _ => False
theorem T.ok35 : ∀ vs w K, T.c35 vs w K → (callFunc 35 vs.toArray).run Tryz.prog w = .ok (.enter 35 vs.toArray) w ∧ Calls Tryz.prog 35 vs.toArray w fun e w' => ∃ v, e = .returned v ∧ K v w' := by
  intro vs w K h
  unfold T.c35 at h
  split at h
  · refine ⟨Tryz.call35 _ _, ok_of T.CO35 mixed Tryz.func35 (T.eq35 _ _ _) h fun v w' hk => ⟨v, rfl, ?_⟩⟩
    split at hk
    · exact hk
    · exact hk.elim
  · exact h.elim

/-- e2e/querym.letter (function 181). -/
def S.querym_letter (c : Int) (w : World) (K : Bool → World → Prop) : Prop :=
  if (decide (c ≥ 65)) = true then
    if (decide (c ≤ 90)) = true then
      K true w
    else
      if (decide (c ≥ 97)) = true then
        if (decide (c ≤ 122)) = true then
          K true w
        else
          K (c == 95) w
      else
        K (c == 95) w
  else
    if (decide (c ≥ 97)) = true then
      if (decide (c ≤ 122)) = true then
        K true w
      else
        K (c == 95) w
    else
      K (c == 95) w
def T.C181 : CallT := CallT.nil
def T.A181 : Ann := fun _ => none
set_option maxRecDepth 1000000 in
theorem T.eq181 (c : Int) (w : World) (K : Bool → World → Prop) : denF Tryz.prog T.C181 T.A181 Tryz.f181 [.int .u8 c] w (fun v w' => match v with | .bool r0 => K r0 w' | _ => False) = S.querym_letter c w K := by kernel_rfl
theorem T.CO181 : CallOk Tryz.prog T.C181 := CallOk.nil
def T.c181 (vs : List Value) (w : World) (K : Value → World → Prop) : Prop :=
  match vs with
  | [.int .u8 c] => S.querym_letter c w (fun r0 w' => K (.bool r0) w')
  | _ => False
theorem T.ok181 : ∀ vs w K, T.c181 vs w K → (callFunc 181 vs.toArray).run Tryz.prog w = .ok (.enter 181 vs.toArray) w ∧ Calls Tryz.prog 181 vs.toArray w fun e w' => ∃ v, e = .returned v ∧ K v w' := by
  intro vs w K h
  unfold T.c181 at h
  split at h
  · refine ⟨Tryz.call181 _ _, ok_of T.CO181 mixed Tryz.func181 (T.eq181 _ _ _) h fun v w' hk => ⟨v, rfl, ?_⟩⟩
    split at hk
    · exact hk
    · exact hk.elim
  · exact h.elim

/-- e2e/querym.wordy (function 182). -/
def S.querym_wordy (c : Int) (w : World) (K : Bool → World → Prop) : Prop :=
  if (decide (c ≥ 65)) = true then
    if (decide (c ≤ 90)) = true then
      K true w
    else
      if (decide (c ≥ 97)) = true then
        if (decide (c ≤ 122)) = true then
          K true w
        else
          if (c == 95) = true then
            K true w
          else
            if (decide (c ≥ 48)) = true then
              K (decide (c ≤ 57)) w
            else
              K false w
      else
        if (c == 95) = true then
          K true w
        else
          if (decide (c ≥ 48)) = true then
            K (decide (c ≤ 57)) w
          else
            K false w
  else
    if (decide (c ≥ 97)) = true then
      if (decide (c ≤ 122)) = true then
        K true w
      else
        if (c == 95) = true then
          K true w
        else
          if (decide (c ≥ 48)) = true then
            K (decide (c ≤ 57)) w
          else
            K false w
    else
      if (c == 95) = true then
        K true w
      else
        if (decide (c ≥ 48)) = true then
          K (decide (c ≤ 57)) w
        else
          K false w
def T.C182 : CallT := CallT.nil
def T.A182 : Ann := fun _ => none
set_option maxRecDepth 1000000 in
theorem T.eq182 (c : Int) (w : World) (K : Bool → World → Prop) : denF Tryz.prog T.C182 T.A182 Tryz.f182 [.int .u8 c] w (fun v w' => match v with | .bool r0 => K r0 w' | _ => False) = S.querym_wordy c w K := by kernel_rfl
theorem T.CO182 : CallOk Tryz.prog T.C182 := CallOk.nil
def T.c182 (vs : List Value) (w : World) (K : Value → World → Prop) : Prop :=
  match vs with
  | [.int .u8 c] => S.querym_wordy c w (fun r0 w' => K (.bool r0) w')
  | _ => False
theorem T.ok182 : ∀ vs w K, T.c182 vs w K → (callFunc 182 vs.toArray).run Tryz.prog w = .ok (.enter 182 vs.toArray) w ∧ Calls Tryz.prog 182 vs.toArray w fun e w' => ∃ v, e = .returned v ∧ K v w' := by
  intro vs w K h
  unfold T.c182 at h
  split at h
  · refine ⟨Tryz.call182 _ _, ok_of T.CO182 mixed Tryz.func182 (T.eq182 _ _ _) h fun v w' hk => ⟨v, rfl, ?_⟩⟩
    split at hk
    · exact hk
    · exact hk.elim
  · exact h.elim

/-- e2e/querym.digit (function 184). -/
def S.querym_digit (c : Int) (w : World) (K : Bool → World → Prop) : Prop :=
  if (decide (c ≥ 48)) = true then
    K (decide (c ≤ 57)) w
  else
    K false w
def T.C184 : CallT := CallT.nil
def T.A184 : Ann := fun _ => none
set_option maxRecDepth 1000000 in
theorem T.eq184 (c : Int) (w : World) (K : Bool → World → Prop) : denF Tryz.prog T.C184 T.A184 Tryz.f184 [.int .u8 c] w (fun v w' => match v with | .bool r0 => K r0 w' | _ => False) = S.querym_digit c w K := by kernel_rfl
theorem T.CO184 : CallOk Tryz.prog T.C184 := CallOk.nil
def T.c184 (vs : List Value) (w : World) (K : Value → World → Prop) : Prop :=
  match vs with
  | [.int .u8 c] => S.querym_digit c w (fun r0 w' => K (.bool r0) w')
  | _ => False
theorem T.ok184 : ∀ vs w K, T.c184 vs w K → (callFunc 184 vs.toArray).run Tryz.prog w = .ok (.enter 184 vs.toArray) w ∧ Calls Tryz.prog 184 vs.toArray w fun e w' => ∃ v, e = .returned v ∧ K v w' := by
  intro vs w K h
  unfold T.c184 at h
  split at h
  · refine ⟨Tryz.call184 _ _, ok_of T.CO184 mixed Tryz.func184 (T.eq184 _ _ _) h fun v w' hk => ⟨v, rfl, ?_⟩⟩
    split at hk
    · exact hk
    · exact hk.elim
  · exact h.elim

/-- e2e/querym.number (function 183). -/
def S.querym_number (s_ : ByteArray) (i : Int) (w : World) (K : Bool → World → Prop) : Prop :=
  Join (fun (w : World) =>
    IxStr s_ i fun c1 =>
    S.querym_digit c1 w (fun r2 w =>
    K r2 w)) fun J3 =>
  IxStr s_ i fun c4 =>
  if (c4 == 45) = true then
    if (decide ((W (i + 1)) < (s_.size : Int))) = true then
      IxStr s_ (W (i + 1)) fun c5 =>
      S.querym_digit c5 w (fun r6 w =>
      K r6 w)
    else
      J3 w
  else
    J3 w
def T.C183 : CallT := (CallT.cons 184 T.c184 CallT.nil)
def T.A183 : Ann := fun _ => none
set_option maxRecDepth 1000000 in
theorem T.eq183 (s_ : ByteArray) (i : Int) (w : World) (K : Bool → World → Prop) : denF Tryz.prog T.C183 T.A183 Tryz.f183 [.string s_, .int .i64 i] w (fun v w' => match v with | .bool r0 => K r0 w' | _ => False) = S.querym_number s_ i w K := by kernel_rfl
theorem T.CO183 : CallOk Tryz.prog T.C183 := (CallOk.cons 184 T.ok184 CallOk.nil)
def T.c183 (vs : List Value) (w : World) (K : Value → World → Prop) : Prop :=
  match vs with
  | [.string s_, .int .i64 i] => S.querym_number s_ i w (fun r0 w' => K (.bool r0) w')
  | _ => False
theorem T.ok183 : ∀ vs w K, T.c183 vs w K → (callFunc 183 vs.toArray).run Tryz.prog w = .ok (.enter 183 vs.toArray) w ∧ Calls Tryz.prog 183 vs.toArray w fun e w' => ∃ v, e = .returned v ∧ K v w' := by
  intro vs w K h
  unfold T.c183 at h
  split at h
  · refine ⟨Tryz.call183 _ _, ok_of T.CO183 mixed Tryz.func183 (T.eq183 _ _ _ _) h fun v w' hk => ⟨v, rfl, ?_⟩⟩
    split at hk
    · exact hk
    · exact hk.elim
  · exact h.elim

/-- e2e/querym.tokens (function 82). -/
def S.querym_tokens (s_ : ByteArray) (w : World) (K : Sl → Bool → World → Prop) : Prop :=
  if (decide ((s_.size : Int) > 256)) = true then
    K ⟨none, 0, 0⟩ false w
  else
    Join (fun (t_1 : Sl) (w : World) =>
      K t_1 true w) fun J2 =>
    LoopP (σ := Sl × Int × Unit) (fun st3 w next4 =>
      if (decide (st3.2.1 < (s_.size : Int))) = true then
        IxStr s_ st3.2.1 fun c5 =>
        Join (fun (w : World) =>
          Let (W (st3.2.1 + 1)) fun i_6 =>
          next4 (st3.1, i_6, ()) w) fun J7 =>
        if (c5 == 32) = true then
          J7 w
        else
          if (c5 == 9) = true then
            J7 w
          else
            if (c5 == 10) = true then
              J7 w
            else
              if (c5 == 13) = true then
                J7 w
              else
                S.querym_letter c5 w (fun r8 w =>
                if r8 = true then
                  Join (fun (j_9 : Int) (w : World) =>
                    CutStr s_ st3.2.1 j_9 fun s10 =>
                    New w (.cells #[.int .i64 1, .string s10, .int .i64 0] 172) fun p11 w =>
                    AppS 172 [.int .i64 0, .string ⟨#[]⟩, .int .i64 0] 32 3 w st3.1 ⟨some ⟨p11, 0, none⟩, 1, 1⟩ fun l12 w =>
                    next4 (l12, j_9, ()) w) fun J13 =>
                  LoopP (σ := Int × Unit) (fun st14 w next15 =>
                    if (decide (st14.1 < (s_.size : Int))) = true then
                      IxStr s_ st14.1 fun c16 =>
                      S.querym_wordy c16 w (fun r17 w =>
                      if r17 = true then
                        Let (W (st14.1 + 1)) fun j_18 =>
                        next15 (j_18, ()) w
                      else
                        J13 st14.1 w)
                    else
                      J13 st14.1 w) (st3.2.1, ()) w
                else
                  S.querym_number s_ st3.2.1 w (fun r19 w =>
                  if r19 = true then
                    Let (c5 == 45) fun neg_20 =>
                    Join (fun (i_21 : Int) (w : World) =>
                      Join (fun (lim_22 : Int) (w : World) =>
                        Join (fun (i_23 : Int) (acc_24 : Int) (w : World) =>
                          Let (W acc_24) fun v_25 =>
                          Join (fun (v_26 : Int) (w : World) =>
                            New w (.cells #[.int .i64 2, .string (⟨#[]⟩ : ByteArray), .int .i64 v_26] 172) fun p27 w =>
                            AppS 172 [.int .i64 0, .string ⟨#[]⟩, .int .i64 0] 32 3 w st3.1 ⟨some ⟨p27, 0, none⟩, 1, 1⟩ fun l28 w =>
                            next4 (l28, i_23, ()) w) fun J29 =>
                          if neg_20 = true then
                            Let (W (0 - v_25)) fun v_30 =>
                            J29 v_30 w
                          else
                            J29 v_25 w) fun J31 =>
                        LoopP (σ := Int × Int × Unit) (fun st32 w next33 =>
                          if (decide (st32.1 < (s_.size : Int))) = true then
                            IxStr s_ st32.1 fun c34 =>
                            S.querym_digit c34 w (fun r35 w =>
                            if r35 = true then
                              IxStr s_ st32.1 fun c36 =>
                              Let (U64 (U8 (c36 - 48))) fun d_37 =>
                              if (decide (st32.2.1 > (U64 (Int.tdiv (U64 (lim_22 - d_37)) 10)))) = true then
                                K ⟨none, 0, 0⟩ false w
                              else
                                Let (U64 ((U64 (st32.2.1 * 10)) + d_37)) fun acc_38 =>
                                Let (W (st32.1 + 1)) fun i_39 =>
                                next33 (i_39, acc_38, ()) w
                            else
                              J31 st32.1 st32.2.1 w)
                          else
                            J31 st32.1 st32.2.1 w) (i_21, 0, ()) w) fun J40 =>
                      if neg_20 = true then
                        J40 9223372036854775808 w
                      else
                        J40 9223372036854775807 w) fun J41 =>
                    if neg_20 = true then
                      Let (W (st3.2.1 + 1)) fun i_42 =>
                      J41 i_42 w
                    else
                      J41 st3.2.1 w
                  else
                    if (c5 == 39) = true then
                      Let (W (st3.2.1 + 1)) fun j_43 =>
                      Join (fun (j_44 : Int) (w : World) =>
                        if (decide (j_44 ≥ (s_.size : Int))) = true then
                          K ⟨none, 0, 0⟩ false w
                        else
                          CutStr s_ (W (st3.2.1 + 1)) j_44 fun s45 =>
                          New w (.cells #[.int .i64 3, .string s45, .int .i64 0] 172) fun p46 w =>
                          AppS 172 [.int .i64 0, .string ⟨#[]⟩, .int .i64 0] 32 3 w st3.1 ⟨some ⟨p46, 0, none⟩, 1, 1⟩ fun l47 w =>
                          Let (W (j_44 + 1)) fun i_48 =>
                          next4 (l47, i_48, ()) w) fun J49 =>
                      LoopP (σ := Int × Unit) (fun st50 w next51 =>
                        if (decide (st50.1 < (s_.size : Int))) = true then
                          IxStr s_ st50.1 fun c52 =>
                          if (c52 != 39) = true then
                            Let (W (st50.1 + 1)) fun j_53 =>
                            next51 (j_53, ()) w
                          else
                            J49 st50.1 w
                        else
                          J49 st50.1 w) (j_43, ()) w
                    else
                      Join (fun (w : World) =>
                        CutStr s_ st3.2.1 (W (st3.2.1 + 2)) fun s54 =>
                        New w (.cells #[.int .i64 4, .string s54, .int .i64 0] 172) fun p55 w =>
                        AppS 172 [.int .i64 0, .string ⟨#[]⟩, .int .i64 0] 32 3 w st3.1 ⟨some ⟨p55, 0, none⟩, 1, 1⟩ fun l56 w =>
                        Let (W (st3.2.1 + 2)) fun i_57 =>
                        next4 (l56, i_57, ()) w) fun J58 =>
                      Join (fun (w : World) =>
                        Join (fun (w : World) =>
                          CutStr s_ st3.2.1 (W (st3.2.1 + 1)) fun s59 =>
                          New w (.cells #[.int .i64 4, .string s59, .int .i64 0] 172) fun p60 w =>
                          AppS 172 [.int .i64 0, .string ⟨#[]⟩, .int .i64 0] 32 3 w st3.1 ⟨some ⟨p60, 0, none⟩, 1, 1⟩ fun l61 w =>
                          Let (W (st3.2.1 + 1)) fun i_62 =>
                          next4 (l61, i_62, ()) w) fun J63 =>
                        if (c5 == 40) = true then
                          J63 w
                        else
                          if (c5 == 41) = true then
                            J63 w
                          else
                            if (c5 == 44) = true then
                              J63 w
                            else
                              if (c5 == 42) = true then
                                J63 w
                              else
                                if (c5 == 61) = true then
                                  J63 w
                                else
                                  if (c5 == 60) = true then
                                    J63 w
                                  else
                                    if (c5 == 62) = true then
                                      J63 w
                                    else
                                      K ⟨none, 0, 0⟩ false w) fun J64 =>
                      if (c5 == 60) = true then
                        if (decide ((W (st3.2.1 + 1)) < (s_.size : Int))) = true then
                          IxStr s_ (W (st3.2.1 + 1)) fun c65 =>
                          if (c65 == 61) = true then
                            J58 w
                          else
                            J64 w
                        else
                          J64 w
                      else
                        if (c5 == 62) = true then
                          if (decide ((W (st3.2.1 + 1)) < (s_.size : Int))) = true then
                            IxStr s_ (W (st3.2.1 + 1)) fun c66 =>
                            if (c66 == 61) = true then
                              J58 w
                            else
                              J64 w
                          else
                            J64 w
                        else
                          if (c5 == 33) = true then
                            if (decide ((W (st3.2.1 + 1)) < (s_.size : Int))) = true then
                              IxStr s_ (W (st3.2.1 + 1)) fun c67 =>
                              if (c67 == 61) = true then
                                J58 w
                              else
                                J64 w
                            else
                              J64 w
                          else
                            J64 w))
      else
        J2 st3.1 w) (⟨none, 0, 0⟩, 0, ()) w
def T.C82 : CallT := (CallT.cons 181 T.c181 (CallT.cons 182 T.c182 (CallT.cons 183 T.c183 (CallT.cons 184 T.c184 CallT.nil))))
def T.A82 : Ann := fun i => bif Nat.beq i 1000044 then some ([], [(0, 4), (4, 6), (5, 0), (6, 1)]) else bif Nat.beq i 35 then some ([0, 4, 5], [(13, 0)]) else bif Nat.beq i 1000041 then some ([], [(0, 4), (4, 6), (5, 0), (6, 1)]) else bif Nat.beq i 23 then some ([0, 4, 8, 9], [(5, 0), (10, 2)]) else bif Nat.beq i 1000033 then some ([], [(0, 4), (4, 6), (5, 0), (6, 1)]) else bif Nat.beq i 11 then some ([0, 4, 5], [(7, 0)]) else bif Nat.beq i 1000015 then some ([], [(0, 4), (4, 6), (5, 0), (6, 1)]) else bif Nat.beq i 1000009 then some ([], [(0, 4), (4, 6), (5, 0), (6, 1)]) else bif Nat.beq i 5 then some ([0], [(4, 6), (5, 0)]) else none
set_option maxRecDepth 1000000 in
theorem T.eq82 (s_ : ByteArray) (w : World) (K : Sl → Bool → World → Prop) : denF Tryz.prog T.C82 T.A82 Tryz.f82 [.string s_] w (fun v w' => match v with | .tuple ⟨[.slice r0a r0l r0c, .bool r1]⟩ => K ⟨r0a, r0l, r0c⟩ r1 w' | _ => False) = S.querym_tokens s_ w K := by kernel_rfl
theorem T.CO82 : CallOk Tryz.prog T.C82 := (CallOk.cons 181 T.ok181 (CallOk.cons 182 T.ok182 (CallOk.cons 183 T.ok183 (CallOk.cons 184 T.ok184 CallOk.nil))))
def T.c82 (vs : List Value) (w : World) (K : Value → World → Prop) : Prop :=
  match vs with
  | [.string s_] => S.querym_tokens s_ w (fun r0 r1 w' => K (.tuple #[.slice r0.a r0.l r0.c, .bool r1]) w')
  | _ => False
theorem T.ok82 : ∀ vs w K, T.c82 vs w K → (callFunc 82 vs.toArray).run Tryz.prog w = .ok (.enter 82 vs.toArray) w ∧ Calls Tryz.prog 82 vs.toArray w fun e w' => ∃ v, e = .returned v ∧ K v w' := by
  intro vs w K h
  unfold T.c82 at h
  split at h
  · refine ⟨Tryz.call82 _ _, ok_of T.CO82 mixed Tryz.func82 (T.eq82 _ _ _) h fun v w' hk => ⟨v, rfl, ?_⟩⟩
    split at hk
    · exact hk
    · exact hk.elim
  · exact h.elim

/-- (*e2e/querym.reader).is (function 185). -/
def S.querym_reader_is (r : Nat) (x : ByteArray) (w : World) (K : Bool → World → Prop) : Prop :=
  Drew w fun w =>
  LdI .i64 w ⟨r, 1, none⟩ fun i_1 =>
  LdS w ⟨r, 0, none⟩ fun t_2 =>
  if (decide (i_1 < (t_2.l : Int))) = true then
    LdS w ⟨r, 0, none⟩ fun t_3 =>
    LdI .i64 w ⟨r, 1, none⟩ fun i_4 =>
    Ix t_3.a t_3.l i_4 fun b5 o6 =>
    LdI .i64 w ⟨b5, o6 + Int.toNat i_4 * 3, none⟩ fun kind_7 =>
    if (kind_7 == 1) = true then
      LdS w ⟨r, 0, none⟩ fun t_8 =>
      LdI .i64 w ⟨r, 1, none⟩ fun i_9 =>
      Ix t_8.a t_8.l i_9 fun b10 o11 =>
      LdStr w ⟨b10, o11 + Int.toNat i_9 * 3 + 1, none⟩ fun text_12 =>
      K (text_12.toList == x.toList) w
    else
      LdS w ⟨r, 0, none⟩ fun t_13 =>
      LdI .i64 w ⟨r, 1, none⟩ fun i_14 =>
      Ix t_13.a t_13.l i_14 fun b15 o16 =>
      LdI .i64 w ⟨b15, o16 + Int.toNat i_14 * 3, none⟩ fun kind_17 =>
      if (kind_17 == 4) = true then
        LdS w ⟨r, 0, none⟩ fun t_18 =>
        LdI .i64 w ⟨r, 1, none⟩ fun i_19 =>
        Ix t_18.a t_18.l i_19 fun b20 o21 =>
        LdStr w ⟨b20, o21 + Int.toNat i_19 * 3 + 1, none⟩ fun text_22 =>
        K (text_22.toList == x.toList) w
      else
        K false w
  else
    K false w
def T.C185 : CallT := CallT.nil
def T.A185 : Ann := fun _ => none
set_option maxRecDepth 1000000 in
theorem T.eq185 (r : Nat) (x : ByteArray) (w : World) (K : Bool → World → Prop) : denF Tryz.prog T.C185 T.A185 Tryz.f185 [.pointer (some ⟨r, 0, none⟩), .string x] w (fun v w' => match v with | .bool r0 => K r0 w' | _ => False) = S.querym_reader_is r x w K := by kernel_rfl
theorem T.CO185 : CallOk Tryz.prog T.C185 := CallOk.nil
def T.c185 (vs : List Value) (w : World) (K : Value → World → Prop) : Prop :=
  match vs with
  | [.pointer (some ⟨r, 0, none⟩), .string x] => S.querym_reader_is r x w (fun r0 w' => K (.bool r0) w')
  | _ => False
theorem T.ok185 : ∀ vs w K, T.c185 vs w K → (callFunc 185 vs.toArray).run Tryz.prog w = .ok (.enter 185 vs.toArray) w ∧ Calls Tryz.prog 185 vs.toArray w fun e w' => ∃ v, e = .returned v ∧ K v w' := by
  intro vs w K h
  unfold T.c185 at h
  split at h
  · refine ⟨Tryz.call185 _ _, ok_of T.CO185 mixed Tryz.func185 (T.eq185 _ _ _ _) h fun v w' hk => ⟨v, rfl, ?_⟩⟩
    split at hk
    · exact hk
    · exact hk.elim
  · exact h.elim

/-- (*e2e/querym.reader).eat (function 83). -/
def S.querym_reader_eat (r : Nat) (x : ByteArray) (w : World) (K : Bool → World → Prop) : Prop :=
  S.querym_reader_is r x w (fun r1 w =>
  if r1 = true then
    LdI .i64 w ⟨r, 1, none⟩ fun i_2 =>
    St1 w ⟨r, 1, none⟩ (.int .i64 (W (i_2 + 1))) fun w =>
    K true w
  else
    K false w)
def T.C83 : CallT := (CallT.cons 185 T.c185 CallT.nil)
def T.A83 : Ann := fun _ => none
set_option maxRecDepth 1000000 in
theorem T.eq83 (r : Nat) (x : ByteArray) (w : World) (K : Bool → World → Prop) : denF Tryz.prog T.C83 T.A83 Tryz.f83 [.pointer (some ⟨r, 0, none⟩), .string x] w (fun v w' => match v with | .bool r0 => K r0 w' | _ => False) = S.querym_reader_eat r x w K := by kernel_rfl
theorem T.CO83 : CallOk Tryz.prog T.C83 := (CallOk.cons 185 T.ok185 CallOk.nil)
def T.c83 (vs : List Value) (w : World) (K : Value → World → Prop) : Prop :=
  match vs with
  | [.pointer (some ⟨r, 0, none⟩), .string x] => S.querym_reader_eat r x w (fun r0 w' => K (.bool r0) w')
  | _ => False
theorem T.ok83 : ∀ vs w K, T.c83 vs w K → (callFunc 83 vs.toArray).run Tryz.prog w = .ok (.enter 83 vs.toArray) w ∧ Calls Tryz.prog 83 vs.toArray w fun e w' => ∃ v, e = .returned v ∧ K v w' := by
  intro vs w K h
  unfold T.c83 at h
  split at h
  · refine ⟨Tryz.call83 _ _, ok_of T.CO83 mixed Tryz.func83 (T.eq83 _ _ _ _) h fun v w' hk => ⟨v, rfl, ?_⟩⟩
    split at hk
    · exact hk
    · exact hk.elim
  · exact h.elim

/-- e2e/querym.keyword (function 186). -/
def S.querym_keyword (w_ : ByteArray) (w : World) (K : Bool → World → Prop) : Prop :=
  Join (fun (j_1 : Bool) (w : World) =>
    if j_1 = true then
      K true w
    else
      K false w) fun J2 =>
  if (w_.toList == (⟨#[66, 69, 71, 73, 78]⟩ : ByteArray).toList) = true then
    J2 (w_.toList == (⟨#[66, 69, 71, 73, 78]⟩ : ByteArray).toList) w
  else
    if (w_.toList == (⟨#[67, 79, 77, 77, 73, 84]⟩ : ByteArray).toList) = true then
      J2 (w_.toList == (⟨#[67, 79, 77, 77, 73, 84]⟩ : ByteArray).toList) w
    else
      if (w_.toList == (⟨#[82, 79, 76, 76, 66, 65, 67, 75]⟩ : ByteArray).toList) = true then
        J2 (w_.toList == (⟨#[82, 79, 76, 76, 66, 65, 67, 75]⟩ : ByteArray).toList) w
      else
        if (w_.toList == (⟨#[67, 82, 69, 65, 84, 69]⟩ : ByteArray).toList) = true then
          J2 (w_.toList == (⟨#[67, 82, 69, 65, 84, 69]⟩ : ByteArray).toList) w
        else
          if (w_.toList == (⟨#[68, 82, 79, 80]⟩ : ByteArray).toList) = true then
            J2 (w_.toList == (⟨#[68, 82, 79, 80]⟩ : ByteArray).toList) w
          else
            if (w_.toList == (⟨#[84, 65, 66, 76, 69]⟩ : ByteArray).toList) = true then
              J2 (w_.toList == (⟨#[84, 65, 66, 76, 69]⟩ : ByteArray).toList) w
            else
              if (w_.toList == (⟨#[73, 78, 68, 69, 88]⟩ : ByteArray).toList) = true then
                J2 (w_.toList == (⟨#[73, 78, 68, 69, 88]⟩ : ByteArray).toList) w
              else
                if (w_.toList == (⟨#[79, 78]⟩ : ByteArray).toList) = true then
                  J2 (w_.toList == (⟨#[79, 78]⟩ : ByteArray).toList) w
                else
                  if (w_.toList == (⟨#[73, 78, 83, 69, 82, 84]⟩ : ByteArray).toList) = true then
                    J2 (w_.toList == (⟨#[73, 78, 83, 69, 82, 84]⟩ : ByteArray).toList) w
                  else
                    if (w_.toList == (⟨#[73, 78, 84, 79]⟩ : ByteArray).toList) = true then
                      J2 (w_.toList == (⟨#[73, 78, 84, 79]⟩ : ByteArray).toList) w
                    else
                      if (w_.toList == (⟨#[86, 65, 76, 85, 69, 83]⟩ : ByteArray).toList) = true then
                        J2 (w_.toList == (⟨#[86, 65, 76, 85, 69, 83]⟩ : ByteArray).toList) w
                      else
                        if (w_.toList == (⟨#[83, 69, 76, 69, 67, 84]⟩ : ByteArray).toList) = true then
                          J2 (w_.toList == (⟨#[83, 69, 76, 69, 67, 84]⟩ : ByteArray).toList) w
                        else
                          if (w_.toList == (⟨#[70, 82, 79, 77]⟩ : ByteArray).toList) = true then
                            J2 (w_.toList == (⟨#[70, 82, 79, 77]⟩ : ByteArray).toList) w
                          else
                            if (w_.toList == (⟨#[87, 72, 69, 82, 69]⟩ : ByteArray).toList) = true then
                              J2 (w_.toList == (⟨#[87, 72, 69, 82, 69]⟩ : ByteArray).toList) w
                            else
                              if (w_.toList == (⟨#[65, 78, 68]⟩ : ByteArray).toList) = true then
                                J2 (w_.toList == (⟨#[65, 78, 68]⟩ : ByteArray).toList) w
                              else
                                if (w_.toList == (⟨#[79, 82, 68, 69, 82]⟩ : ByteArray).toList) = true then
                                  J2 (w_.toList == (⟨#[79, 82, 68, 69, 82]⟩ : ByteArray).toList) w
                                else
                                  if (w_.toList == (⟨#[66, 89]⟩ : ByteArray).toList) = true then
                                    J2 (w_.toList == (⟨#[66, 89]⟩ : ByteArray).toList) w
                                  else
                                    if (w_.toList == (⟨#[68, 69, 83, 67]⟩ : ByteArray).toList) = true then
                                      J2 (w_.toList == (⟨#[68, 69, 83, 67]⟩ : ByteArray).toList) w
                                    else
                                      if (w_.toList == (⟨#[76, 73, 77, 73, 84]⟩ : ByteArray).toList) = true then
                                        J2 (w_.toList == (⟨#[76, 73, 77, 73, 84]⟩ : ByteArray).toList) w
                                      else
                                        if (w_.toList == (⟨#[85, 80, 68, 65, 84, 69]⟩ : ByteArray).toList) = true then
                                          J2 (w_.toList == (⟨#[85, 80, 68, 65, 84, 69]⟩ : ByteArray).toList) w
                                        else
                                          if (w_.toList == (⟨#[83, 69, 84]⟩ : ByteArray).toList) = true then
                                            J2 (w_.toList == (⟨#[83, 69, 84]⟩ : ByteArray).toList) w
                                          else
                                            if (w_.toList == (⟨#[68, 69, 76, 69, 84, 69]⟩ : ByteArray).toList) = true then
                                              J2 (w_.toList == (⟨#[68, 69, 76, 69, 84, 69]⟩ : ByteArray).toList) w
                                            else
                                              if (w_.toList == (⟨#[73, 78, 84]⟩ : ByteArray).toList) = true then
                                                J2 (w_.toList == (⟨#[73, 78, 84]⟩ : ByteArray).toList) w
                                              else
                                                if (w_.toList == (⟨#[84, 69, 88, 84]⟩ : ByteArray).toList) = true then
                                                  J2 (w_.toList == (⟨#[84, 69, 88, 84]⟩ : ByteArray).toList) w
                                                else
                                                  J2 (w_.toList == (⟨#[75, 69, 89]⟩ : ByteArray).toList) w
def T.C186 : CallT := CallT.nil
def T.A186 : Ann := fun i => bif Nat.beq i 1000025 then some ([], [(3, 4)]) else bif Nat.beq i 1000024 then some ([], [(3, 4)]) else bif Nat.beq i 1000023 then some ([], [(3, 4)]) else bif Nat.beq i 1000022 then some ([], [(3, 4)]) else bif Nat.beq i 1000021 then some ([], [(3, 4)]) else bif Nat.beq i 1000020 then some ([], [(3, 4)]) else bif Nat.beq i 1000019 then some ([], [(3, 4)]) else bif Nat.beq i 1000018 then some ([], [(3, 4)]) else bif Nat.beq i 1000017 then some ([], [(3, 4)]) else bif Nat.beq i 1000016 then some ([], [(3, 4)]) else bif Nat.beq i 1000015 then some ([], [(3, 4)]) else bif Nat.beq i 1000014 then some ([], [(3, 4)]) else bif Nat.beq i 1000013 then some ([], [(3, 4)]) else bif Nat.beq i 1000012 then some ([], [(3, 4)]) else bif Nat.beq i 1000011 then some ([], [(3, 4)]) else bif Nat.beq i 1000010 then some ([], [(3, 4)]) else bif Nat.beq i 1000009 then some ([], [(3, 4)]) else bif Nat.beq i 1000008 then some ([], [(3, 4)]) else bif Nat.beq i 1000007 then some ([], [(3, 4)]) else bif Nat.beq i 1000006 then some ([], [(3, 4)]) else bif Nat.beq i 1000005 then some ([], [(3, 4)]) else bif Nat.beq i 1000004 then some ([], [(3, 4)]) else bif Nat.beq i 1000003 then some ([], [(3, 4)]) else none
set_option maxRecDepth 1000000 in
theorem T.eq186 (w_ : ByteArray) (w : World) (K : Bool → World → Prop) : denF Tryz.prog T.C186 T.A186 Tryz.f186 [.string w_] w (fun v w' => match v with | .bool r0 => K r0 w' | _ => False) = S.querym_keyword w_ w K := by kernel_rfl
theorem T.CO186 : CallOk Tryz.prog T.C186 := CallOk.nil
def T.c186 (vs : List Value) (w : World) (K : Value → World → Prop) : Prop :=
  match vs with
  | [.string w_] => S.querym_keyword w_ w (fun r0 w' => K (.bool r0) w')
  | _ => False
theorem T.ok186 : ∀ vs w K, T.c186 vs w K → (callFunc 186 vs.toArray).run Tryz.prog w = .ok (.enter 186 vs.toArray) w ∧ Calls Tryz.prog 186 vs.toArray w fun e w' => ∃ v, e = .returned v ∧ K v w' := by
  intro vs w K h
  unfold T.c186 at h
  split at h
  · refine ⟨Tryz.call186 _ _, ok_of T.CO186 mixed Tryz.func186 (T.eq186 _ _ _) h fun v w' hk => ⟨v, rfl, ?_⟩⟩
    split at hk
    · exact hk
    · exact hk.elim
  · exact h.elim

/-- (*e2e/querym.reader).name (function 84). -/
def S.querym_reader_name (r : Nat) (w : World) (K : ByteArray → World → Prop) : Prop :=
  Join (fun (w : World) =>
    St1 w ⟨r, 2, none⟩ (.bool true) fun w =>
    K (⟨#[]⟩ : ByteArray) w) fun J1 =>
  Drew w fun w =>
  LdI .i64 w ⟨r, 1, none⟩ fun i_2 =>
  LdS w ⟨r, 0, none⟩ fun t_3 =>
  if (decide (i_2 < (t_3.l : Int))) = true then
    LdS w ⟨r, 0, none⟩ fun t_4 =>
    LdI .i64 w ⟨r, 1, none⟩ fun i_5 =>
    Ix t_4.a t_4.l i_5 fun b6 o7 =>
    LdI .i64 w ⟨b6, o7 + Int.toNat i_5 * 3, none⟩ fun kind_8 =>
    if (kind_8 == 1) = true then
      LdS w ⟨r, 0, none⟩ fun t_9 =>
      LdI .i64 w ⟨r, 1, none⟩ fun i_10 =>
      Ix t_9.a t_9.l i_10 fun b11 o12 =>
      LdStr w ⟨b11, o12 + Int.toNat i_10 * 3 + 1, none⟩ fun text_13 =>
      S.querym_keyword text_13 w (fun r14 w =>
      if (!r14) = true then
        LdI .i64 w ⟨r, 1, none⟩ fun i_15 =>
        St1 w ⟨r, 1, none⟩ (.int .i64 (W (i_15 + 1))) fun w =>
        Drew w fun w =>
        LdS w ⟨r, 0, none⟩ fun t_16 =>
        LdI .i64 w ⟨r, 1, none⟩ fun i_17 =>
        Ix t_16.a t_16.l (W (i_17 - 1)) fun b18 o19 =>
        LdStr w ⟨b18, o19 + Int.toNat (W (i_17 - 1)) * 3 + 1, none⟩ fun text_20 =>
        K text_20 w
      else
        J1 w)
    else
      J1 w
  else
    J1 w
def T.C84 : CallT := (CallT.cons 186 T.c186 CallT.nil)
def T.A84 : Ann := fun _ => none
set_option maxRecDepth 1000000 in
theorem T.eq84 (r : Nat) (w : World) (K : ByteArray → World → Prop) : denF Tryz.prog T.C84 T.A84 Tryz.f84 [.pointer (some ⟨r, 0, none⟩)] w (fun v w' => match v with | .string r0 => K r0 w' | _ => False) = S.querym_reader_name r w K := by kernel_rfl
theorem T.CO84 : CallOk Tryz.prog T.C84 := (CallOk.cons 186 T.ok186 CallOk.nil)
def T.c84 (vs : List Value) (w : World) (K : Value → World → Prop) : Prop :=
  match vs with
  | [.pointer (some ⟨r, 0, none⟩)] => S.querym_reader_name r w (fun r0 w' => K (.string r0) w')
  | _ => False
theorem T.ok84 : ∀ vs w K, T.c84 vs w K → (callFunc 84 vs.toArray).run Tryz.prog w = .ok (.enter 84 vs.toArray) w ∧ Calls Tryz.prog 84 vs.toArray w fun e w' => ∃ v, e = .returned v ∧ K v w' := by
  intro vs w K h
  unfold T.c84 at h
  split at h
  · refine ⟨Tryz.call84 _ _, ok_of T.CO84 mixed Tryz.func84 (T.eq84 _ _ _) h fun v w' hk => ⟨v, rfl, ?_⟩⟩
    split at hk
    · exact hk
    · exact hk.elim
  · exact h.elim

/-- (*e2e/querym.reader).want (function 85). -/
def S.querym_reader_want (r : Nat) (x : ByteArray) (w : World) (K : World → Prop) : Prop :=
  S.querym_reader_eat r x w (fun r1 w =>
  if (!r1) = true then
    St1 w ⟨r, 2, none⟩ (.bool true) fun w =>
    K w
  else
    K w)
def T.C85 : CallT := (CallT.cons 83 T.c83 CallT.nil)
def T.A85 : Ann := fun _ => none
set_option maxRecDepth 1000000 in
theorem T.eq85 (r : Nat) (x : ByteArray) (w : World) (K : World → Prop) : denF Tryz.prog T.C85 T.A85 Tryz.f85 [.pointer (some ⟨r, 0, none⟩), .string x] w (fun v w' => match v with | .tuple ⟨[]⟩ => K w' | _ => False) = S.querym_reader_want r x w K := by kernel_rfl
theorem T.CO85 : CallOk Tryz.prog T.C85 := (CallOk.cons 83 T.ok83 CallOk.nil)
def T.c85 (vs : List Value) (w : World) (K : Value → World → Prop) : Prop :=
  match vs with
  | [.pointer (some ⟨r, 0, none⟩), .string x] => S.querym_reader_want r x w (fun w' => K (.tuple #[]) w')
  | _ => False
theorem T.ok85 : ∀ vs w K, T.c85 vs w K → (callFunc 85 vs.toArray).run Tryz.prog w = .ok (.enter 85 vs.toArray) w ∧ Calls Tryz.prog 85 vs.toArray w fun e w' => ∃ v, e = .returned v ∧ K v w' := by
  intro vs w K h
  unfold T.c85 at h
  split at h
  · refine ⟨Tryz.call85 _ _, ok_of T.CO85 mixed Tryz.func85 (T.eq85 _ _ _ _) h fun v w' hk => ⟨v, rfl, ?_⟩⟩
    split at hk
    · exact hk
    · exact hk.elim
  · exact h.elim

/-- (*e2e/querym.reader).lit (function 86). -/
def S.querym_reader_lit (r : Nat) (w : World) (K : Bool → Int → ByteArray → World → Prop) : Prop :=
  New w (.cells #[.bool false, .int .i64 0, .string ⟨#[]⟩] 167) fun p1 w =>
  Join (fun (w : World) =>
    Join (fun (w : World) =>
      St1 w ⟨r, 2, none⟩ (.bool true) fun w =>
      S.api_Int 0 w (fun IsStr_2 I_3 S_4 w =>
      St1 w ⟨p1, 0, none⟩ (.bool IsStr_2) fun w =>
      St1 w ⟨p1, 1, none⟩ (.int .i64 I_3) fun w =>
      St1 w ⟨p1, 2, none⟩ (.string S_4) fun w =>
      LdB w ⟨p1, 0, none⟩ fun IsStr_5 =>
      LdI .i64 w ⟨p1, 1, none⟩ fun I_6 =>
      LdStr w ⟨p1, 2, none⟩ fun S_7 =>
      K IsStr_5 I_6 S_7 w)) fun J8 =>
    Drew w fun w =>
    LdI .i64 w ⟨r, 1, none⟩ fun i_9 =>
    LdS w ⟨r, 0, none⟩ fun t_10 =>
    if (decide (i_9 < (t_10.l : Int))) = true then
      LdS w ⟨r, 0, none⟩ fun t_11 =>
      LdI .i64 w ⟨r, 1, none⟩ fun i_12 =>
      Ix t_11.a t_11.l i_12 fun b13 o14 =>
      LdI .i64 w ⟨b13, o14 + Int.toNat i_12 * 3, none⟩ fun kind_15 =>
      if (kind_15 == 3) = true then
        LdI .i64 w ⟨r, 1, none⟩ fun i_16 =>
        St1 w ⟨r, 1, none⟩ (.int .i64 (W (i_16 + 1))) fun w =>
        Drew w fun w =>
        LdS w ⟨r, 0, none⟩ fun t_17 =>
        LdI .i64 w ⟨r, 1, none⟩ fun i_18 =>
        Ix t_17.a t_17.l (W (i_18 - 1)) fun b19 o20 =>
        LdStr w ⟨b19, o20 + Int.toNat (W (i_18 - 1)) * 3 + 1, none⟩ fun text_21 =>
        S.api_Str text_21 w (fun IsStr_22 I_23 S_24 w =>
        St1 w ⟨p1, 0, none⟩ (.bool IsStr_22) fun w =>
        St1 w ⟨p1, 1, none⟩ (.int .i64 I_23) fun w =>
        St1 w ⟨p1, 2, none⟩ (.string S_24) fun w =>
        LdB w ⟨p1, 0, none⟩ fun IsStr_25 =>
        LdI .i64 w ⟨p1, 1, none⟩ fun I_26 =>
        LdStr w ⟨p1, 2, none⟩ fun S_27 =>
        K IsStr_25 I_26 S_27 w)
      else
        J8 w
    else
      J8 w) fun J28 =>
  Drew w fun w =>
  LdI .i64 w ⟨r, 1, none⟩ fun i_29 =>
  LdS w ⟨r, 0, none⟩ fun t_30 =>
  if (decide (i_29 < (t_30.l : Int))) = true then
    LdS w ⟨r, 0, none⟩ fun t_31 =>
    LdI .i64 w ⟨r, 1, none⟩ fun i_32 =>
    Ix t_31.a t_31.l i_32 fun b33 o34 =>
    LdI .i64 w ⟨b33, o34 + Int.toNat i_32 * 3, none⟩ fun kind_35 =>
    if (kind_35 == 2) = true then
      LdI .i64 w ⟨r, 1, none⟩ fun i_36 =>
      St1 w ⟨r, 1, none⟩ (.int .i64 (W (i_36 + 1))) fun w =>
      Drew w fun w =>
      LdS w ⟨r, 0, none⟩ fun t_37 =>
      LdI .i64 w ⟨r, 1, none⟩ fun i_38 =>
      Ix t_37.a t_37.l (W (i_38 - 1)) fun b39 o40 =>
      LdI .i64 w ⟨b39, o40 + Int.toNat (W (i_38 - 1)) * 3 + 2, none⟩ fun val_41 =>
      S.api_Int val_41 w (fun IsStr_42 I_43 S_44 w =>
      St1 w ⟨p1, 0, none⟩ (.bool IsStr_42) fun w =>
      St1 w ⟨p1, 1, none⟩ (.int .i64 I_43) fun w =>
      St1 w ⟨p1, 2, none⟩ (.string S_44) fun w =>
      LdB w ⟨p1, 0, none⟩ fun IsStr_45 =>
      LdI .i64 w ⟨p1, 1, none⟩ fun I_46 =>
      LdStr w ⟨p1, 2, none⟩ fun S_47 =>
      K IsStr_45 I_46 S_47 w)
    else
      J28 w
  else
    J28 w
def T.C86 : CallT := (CallT.cons 187 T.c187 (CallT.cons 188 T.c188 CallT.nil))
def T.A86 : Ann := fun _ => none
set_option maxRecDepth 1000000 in
theorem T.eq86 (r : Nat) (w : World) (K : Bool → Int → ByteArray → World → Prop) : denF Tryz.prog T.C86 T.A86 Tryz.f86 [.pointer (some ⟨r, 0, none⟩)] w (fun v w' => match v with | .agg ⟨[.bool r0, .int .i64 r1, .string r2]⟩ => K r0 r1 r2 w' | _ => False) = S.querym_reader_lit r w K := by kernel_rfl
theorem T.CO86 : CallOk Tryz.prog T.C86 := (CallOk.cons 187 T.ok187 (CallOk.cons 188 T.ok188 CallOk.nil))
def T.c86 (vs : List Value) (w : World) (K : Value → World → Prop) : Prop :=
  match vs with
  | [.pointer (some ⟨r, 0, none⟩)] => S.querym_reader_lit r w (fun r0 r1 r2 w' => K (.agg #[.bool r0, .int .i64 r1, .string r2]) w')
  | _ => False
theorem T.ok86 : ∀ vs w K, T.c86 vs w K → (callFunc 86 vs.toArray).run Tryz.prog w = .ok (.enter 86 vs.toArray) w ∧ Calls Tryz.prog 86 vs.toArray w fun e w' => ∃ v, e = .returned v ∧ K v w' := by
  intro vs w K h
  unfold T.c86 at h
  split at h
  · refine ⟨Tryz.call86 _ _, ok_of T.CO86 mixed Tryz.func86 (T.eq86 _ _ _) h fun v w' hk => ⟨v, rfl, ?_⟩⟩
    split at hk
    · exact hk
    · exact hk.elim
  · exact h.elim

/-- e2e/querym.holdsSign (function 189). -/
def S.querym_holdsSign (x : ByteArray) (w : World) (K : Bool → World → Prop) : Prop :=
  if (x.toList == (⟨#[61]⟩ : ByteArray).toList) = true then
    K true w
  else
    if (x.toList == (⟨#[33, 61]⟩ : ByteArray).toList) = true then
      K true w
    else
      if (x.toList == (⟨#[60]⟩ : ByteArray).toList) = true then
        K true w
      else
        if (x.toList == (⟨#[60, 61]⟩ : ByteArray).toList) = true then
          K true w
        else
          if (x.toList == (⟨#[62]⟩ : ByteArray).toList) = true then
            K true w
          else
            K (x.toList == (⟨#[62, 61]⟩ : ByteArray).toList) w
def T.C189 : CallT := CallT.nil
def T.A189 : Ann := fun _ => none
set_option maxRecDepth 1000000 in
theorem T.eq189 (x : ByteArray) (w : World) (K : Bool → World → Prop) : denF Tryz.prog T.C189 T.A189 Tryz.f189 [.string x] w (fun v w' => match v with | .bool r0 => K r0 w' | _ => False) = S.querym_holdsSign x w K := by kernel_rfl
theorem T.CO189 : CallOk Tryz.prog T.C189 := CallOk.nil
def T.c189 (vs : List Value) (w : World) (K : Value → World → Prop) : Prop :=
  match vs with
  | [.string x] => S.querym_holdsSign x w (fun r0 w' => K (.bool r0) w')
  | _ => False
theorem T.ok189 : ∀ vs w K, T.c189 vs w K → (callFunc 189 vs.toArray).run Tryz.prog w = .ok (.enter 189 vs.toArray) w ∧ Calls Tryz.prog 189 vs.toArray w fun e w' => ∃ v, e = .returned v ∧ K v w' := by
  intro vs w K h
  unfold T.c189 at h
  split at h
  · refine ⟨Tryz.call189 _ _, ok_of T.CO189 mixed Tryz.func189 (T.eq189 _ _ _) h fun v w' hk => ⟨v, rfl, ?_⟩⟩
    split at hk
    · exact hk
    · exact hk.elim
  · exact h.elim

/-- (*e2e/querym.reader).where (function 87). -/
def S.querym_reader_where (r : Nat) (st : Nat) (w : World) (K : World → Prop) : Prop :=
  S.querym_reader_eat r (⟨#[87, 72, 69, 82, 69]⟩ : ByteArray) w (fun r1 w =>
  if (!r1) = true then
    K w
  else
    LoopP (σ := Bool × Unit) (fun st2 w next3 =>
      if st2.1 = true then
        LdB w ⟨r, 2, none⟩ fun bad_4 =>
        if (!bad_4) = true then
          New w (.cells #[.string ⟨#[]⟩, .string ⟨#[]⟩, .bool false, .int .i64 0, .string ⟨#[]⟩] 247) fun p5 w =>
          St1 w ⟨p5, 0, none⟩ (.string ⟨#[]⟩) fun w =>
          St1 w ⟨p5, 1, none⟩ (.string ⟨#[]⟩) fun w =>
          St1 w ⟨p5, 2, none⟩ (.bool false) fun w =>
          St1 w ⟨p5, 3, none⟩ (.int .i64 0) fun w =>
          St1 w ⟨p5, 4, none⟩ (.string ⟨#[]⟩) fun w =>
          S.querym_reader_name r w (fun r6 w =>
          St1 w ⟨p5, 0, none⟩ (.string r6) fun w =>
          Join (fun (w : World) =>
            S.querym_reader_lit r w (fun IsStr_7 I_8 S_9 w =>
            St1 w ⟨p5, 2, none⟩ (.bool IsStr_7) fun w =>
            St1 w ⟨p5, 3, none⟩ (.int .i64 I_8) fun w =>
            St1 w ⟨p5, 4, none⟩ (.string S_9) fun w =>
            Drew w fun w =>
            Hold w ⟨st, 7, none⟩ 1 fun R10 =>
            LdS w ⟨st, 7, none⟩ fun where_11 =>
            LdStr w ⟨p5, 0, none⟩ fun col_12 =>
            LdStr w ⟨p5, 1, none⟩ fun op_13 =>
            LdB w ⟨p5, 2, none⟩ fun lit_IsStr_14 =>
            LdI .i64 w ⟨p5, 3, none⟩ fun lit_I_15 =>
            LdStr w ⟨p5, 4, none⟩ fun lit_S_16 =>
            New w (.cells #[.string col_12, .string op_13, .bool lit_IsStr_14, .int .i64 lit_I_15, .string lit_S_16] 247) fun p17 w =>
            After R10 w <|
            AppS 247 [.string ⟨#[]⟩, .string ⟨#[]⟩, .bool false, .int .i64 0, .string ⟨#[]⟩] 64 5 w where_11 ⟨some ⟨p17, 0, none⟩, 1, 1⟩ fun l18 w =>
            St1 w ⟨st, 7, none⟩ (.slice l18.a l18.l l18.c) fun w =>
            S.querym_reader_eat r (⟨#[65, 78, 68]⟩ : ByteArray) w (fun r19 w =>
            next3 (r19, ()) w))) fun J20 =>
          Join (fun (w : World) =>
            St1 w ⟨r, 2, none⟩ (.bool true) fun w =>
            J20 w) fun J21 =>
          Drew w fun w =>
          LdI .i64 w ⟨r, 1, none⟩ fun i_22 =>
          LdS w ⟨r, 0, none⟩ fun t_23 =>
          if (decide (i_22 < (t_23.l : Int))) = true then
            LdS w ⟨r, 0, none⟩ fun t_24 =>
            LdI .i64 w ⟨r, 1, none⟩ fun i_25 =>
            Ix t_24.a t_24.l i_25 fun b26 o27 =>
            LdI .i64 w ⟨b26, o27 + Int.toNat i_25 * 3, none⟩ fun kind_28 =>
            if (kind_28 == 4) = true then
              LdS w ⟨r, 0, none⟩ fun t_29 =>
              LdI .i64 w ⟨r, 1, none⟩ fun i_30 =>
              Ix t_29.a t_29.l i_30 fun b31 o32 =>
              LdStr w ⟨b31, o32 + Int.toNat i_30 * 3 + 1, none⟩ fun text_33 =>
              S.querym_holdsSign text_33 w (fun r34 w =>
              if r34 = true then
                Drew w fun w =>
                LdS w ⟨r, 0, none⟩ fun t_35 =>
                LdI .i64 w ⟨r, 1, none⟩ fun i_36 =>
                Ix t_35.a t_35.l i_36 fun b37 o38 =>
                LdStr w ⟨b37, o38 + Int.toNat i_36 * 3 + 1, none⟩ fun text_39 =>
                St1 w ⟨p5, 1, none⟩ (.string text_39) fun w =>
                LdI .i64 w ⟨r, 1, none⟩ fun i_40 =>
                St1 w ⟨r, 1, none⟩ (.int .i64 (W (i_40 + 1))) fun w =>
                J20 w
              else
                J21 w)
            else
              J21 w
          else
            J21 w)
        else
          K w
      else
        K w) (true, ()) w)
def T.C87 : CallT := (CallT.cons 83 T.c83 (CallT.cons 84 T.c84 (CallT.cons 189 T.c189 (CallT.cons 86 T.c86 CallT.nil))))
def T.A87 : Ann := fun i => bif Nat.beq i 1000009 then some ([], [(0, 5), (1, 5), (5, 5)]) else bif Nat.beq i 2 then some ([0, 1], [(4, 3)]) else none
set_option maxRecDepth 1000000 in
theorem T.eq87 (r : Nat) (st : Nat) (w : World) (K : World → Prop) : denF Tryz.prog T.C87 T.A87 Tryz.f87 [.pointer (some ⟨r, 0, none⟩), .pointer (some ⟨st, 0, none⟩)] w (fun v w' => match v with | .tuple ⟨[]⟩ => K w' | _ => False) = S.querym_reader_where r st w K := by kernel_rfl
theorem T.CO87 : CallOk Tryz.prog T.C87 := (CallOk.cons 83 T.ok83 (CallOk.cons 84 T.ok84 (CallOk.cons 189 T.ok189 (CallOk.cons 86 T.ok86 CallOk.nil))))
def T.c87 (vs : List Value) (w : World) (K : Value → World → Prop) : Prop :=
  match vs with
  | [.pointer (some ⟨r, 0, none⟩), .pointer (some ⟨st, 0, none⟩)] => S.querym_reader_where r st w (fun w' => K (.tuple #[]) w')
  | _ => False
theorem T.ok87 : ∀ vs w K, T.c87 vs w K → (callFunc 87 vs.toArray).run Tryz.prog w = .ok (.enter 87 vs.toArray) w ∧ Calls Tryz.prog 87 vs.toArray w fun e w' => ∃ v, e = .returned v ∧ K v w' := by
  intro vs w K h
  unfold T.c87 at h
  split at h
  · refine ⟨Tryz.call87 _ _, ok_of T.CO87 mixed Tryz.func87 (T.eq87 _ _ _ _) h fun v w' hk => ⟨v, rfl, ?_⟩⟩
    split at hk
    · exact hk
    · exact hk.elim
  · exact h.elim

/-- e2e/querym.parse (function 36). -/
def S.querym_parse (text : ByteArray) (w : World) (K : Int → ByteArray → Sl → Int → Sl → Sl → Bool → Sl → ByteArray → Bool → Bool → Int → Bool → World → Prop) : Prop :=
  New w (.cells #[.int .i64 0, .string ⟨#[]⟩, .slice none 0 0, .int .i64 0, .slice none 0 0, .slice none 0 0, .bool false, .slice none 0 0, .string ⟨#[]⟩, .bool false, .bool false, .int .i64 0] 81) fun p1 w =>
  if (decide ((text.size : Int) > 256)) = true then
    St1 w ⟨p1, 0, none⟩ (.int .i64 0) fun w =>
    St1 w ⟨p1, 1, none⟩ (.string ⟨#[]⟩) fun w =>
    St1 w ⟨p1, 2, none⟩ (.slice none 0 0) fun w =>
    St1 w ⟨p1, 3, none⟩ (.int .i64 0) fun w =>
    St1 w ⟨p1, 4, none⟩ (.slice none 0 0) fun w =>
    St1 w ⟨p1, 5, none⟩ (.slice none 0 0) fun w =>
    St1 w ⟨p1, 6, none⟩ (.bool false) fun w =>
    St1 w ⟨p1, 7, none⟩ (.slice none 0 0) fun w =>
    St1 w ⟨p1, 8, none⟩ (.string ⟨#[]⟩) fun w =>
    St1 w ⟨p1, 9, none⟩ (.bool false) fun w =>
    St1 w ⟨p1, 10, none⟩ (.bool false) fun w =>
    St1 w ⟨p1, 11, none⟩ (.int .i64 0) fun w =>
    LdI .i64 w ⟨p1, 0, none⟩ fun kind_2 =>
    LdStr w ⟨p1, 1, none⟩ fun table_3 =>
    LdS w ⟨p1, 2, none⟩ fun cols_4 =>
    LdI .i64 w ⟨p1, 3, none⟩ fun pk_5 =>
    LdS w ⟨p1, 4, none⟩ fun names_6 =>
    LdS w ⟨p1, 5, none⟩ fun vals_7 =>
    LdB w ⟨p1, 6, none⟩ fun star_8 =>
    LdS w ⟨p1, 7, none⟩ fun where_9 =>
    LdStr w ⟨p1, 8, none⟩ fun order_10 =>
    LdB w ⟨p1, 9, none⟩ fun desc_11 =>
    LdB w ⟨p1, 10, none⟩ fun hasLimit_12 =>
    LdI .i64 w ⟨p1, 11, none⟩ fun limit_13 =>
    K kind_2 table_3 cols_4 pk_5 names_6 vals_7 star_8 where_9 order_10 desc_11 hasLimit_12 limit_13 false w
  else
    S.querym_tokens text w (fun r14 r15 w =>
    New w (.cells #[.int .i64 0, .string ⟨#[]⟩, .slice none 0 0, .int .i64 0, .slice none 0 0, .slice none 0 0, .bool false, .slice none 0 0, .string ⟨#[]⟩, .bool false, .bool false, .int .i64 0] 81) fun p16 w =>
    St1 w ⟨p16, 0, none⟩ (.int .i64 0) fun w =>
    St1 w ⟨p16, 1, none⟩ (.string ⟨#[]⟩) fun w =>
    St1 w ⟨p16, 2, none⟩ (.slice none 0 0) fun w =>
    St1 w ⟨p16, 3, none⟩ (.int .i64 0) fun w =>
    St1 w ⟨p16, 4, none⟩ (.slice none 0 0) fun w =>
    St1 w ⟨p16, 5, none⟩ (.slice none 0 0) fun w =>
    St1 w ⟨p16, 6, none⟩ (.bool false) fun w =>
    St1 w ⟨p16, 7, none⟩ (.slice none 0 0) fun w =>
    St1 w ⟨p16, 8, none⟩ (.string ⟨#[]⟩) fun w =>
    St1 w ⟨p16, 9, none⟩ (.bool false) fun w =>
    St1 w ⟨p16, 10, none⟩ (.bool false) fun w =>
    St1 w ⟨p16, 11, none⟩ (.int .i64 0) fun w =>
    if (!r15) = true then
      LdI .i64 w ⟨p16, 0, none⟩ fun kind_17 =>
      LdStr w ⟨p16, 1, none⟩ fun table_18 =>
      LdS w ⟨p16, 2, none⟩ fun cols_19 =>
      LdI .i64 w ⟨p16, 3, none⟩ fun pk_20 =>
      LdS w ⟨p16, 4, none⟩ fun names_21 =>
      LdS w ⟨p16, 5, none⟩ fun vals_22 =>
      LdB w ⟨p16, 6, none⟩ fun star_23 =>
      LdS w ⟨p16, 7, none⟩ fun where_24 =>
      LdStr w ⟨p16, 8, none⟩ fun order_25 =>
      LdB w ⟨p16, 9, none⟩ fun desc_26 =>
      LdB w ⟨p16, 10, none⟩ fun hasLimit_27 =>
      LdI .i64 w ⟨p16, 11, none⟩ fun limit_28 =>
      St1 w ⟨p1, 0, none⟩ (.int .i64 kind_17) fun w =>
      St1 w ⟨p1, 1, none⟩ (.string table_18) fun w =>
      St1 w ⟨p1, 2, none⟩ (.slice cols_19.a cols_19.l cols_19.c) fun w =>
      St1 w ⟨p1, 3, none⟩ (.int .i64 pk_20) fun w =>
      St1 w ⟨p1, 4, none⟩ (.slice names_21.a names_21.l names_21.c) fun w =>
      St1 w ⟨p1, 5, none⟩ (.slice vals_22.a vals_22.l vals_22.c) fun w =>
      St1 w ⟨p1, 6, none⟩ (.bool star_23) fun w =>
      St1 w ⟨p1, 7, none⟩ (.slice where_24.a where_24.l where_24.c) fun w =>
      St1 w ⟨p1, 8, none⟩ (.string order_25) fun w =>
      St1 w ⟨p1, 9, none⟩ (.bool desc_26) fun w =>
      St1 w ⟨p1, 10, none⟩ (.bool hasLimit_27) fun w =>
      St1 w ⟨p1, 11, none⟩ (.int .i64 limit_28) fun w =>
      LdI .i64 w ⟨p1, 0, none⟩ fun kind_29 =>
      LdStr w ⟨p1, 1, none⟩ fun table_30 =>
      LdS w ⟨p1, 2, none⟩ fun cols_31 =>
      LdI .i64 w ⟨p1, 3, none⟩ fun pk_32 =>
      LdS w ⟨p1, 4, none⟩ fun names_33 =>
      LdS w ⟨p1, 5, none⟩ fun vals_34 =>
      LdB w ⟨p1, 6, none⟩ fun star_35 =>
      LdS w ⟨p1, 7, none⟩ fun where_36 =>
      LdStr w ⟨p1, 8, none⟩ fun order_37 =>
      LdB w ⟨p1, 9, none⟩ fun desc_38 =>
      LdB w ⟨p1, 10, none⟩ fun hasLimit_39 =>
      LdI .i64 w ⟨p1, 11, none⟩ fun limit_40 =>
      K kind_29 table_30 cols_31 pk_32 names_33 vals_34 star_35 where_36 order_37 desc_38 hasLimit_39 limit_40 false w
    else
      New w (.cells #[.slice r14.a r14.l r14.c, .int .i64 0, .bool false] 162) fun p41 w =>
      S.querym_reader_eat p41 (⟨#[66, 69, 71, 73, 78]⟩ : ByteArray) w (fun r42 w =>
      Join (fun (w : World) =>
        Drew w fun w =>
        LdI .i64 w ⟨p16, 0, none⟩ fun kind_43 =>
        LdStr w ⟨p16, 1, none⟩ fun table_44 =>
        LdS w ⟨p16, 2, none⟩ fun cols_45 =>
        LdI .i64 w ⟨p16, 3, none⟩ fun pk_46 =>
        LdS w ⟨p16, 4, none⟩ fun names_47 =>
        LdS w ⟨p16, 5, none⟩ fun vals_48 =>
        LdB w ⟨p16, 6, none⟩ fun star_49 =>
        LdS w ⟨p16, 7, none⟩ fun where_50 =>
        LdStr w ⟨p16, 8, none⟩ fun order_51 =>
        LdB w ⟨p16, 9, none⟩ fun desc_52 =>
        LdB w ⟨p16, 10, none⟩ fun hasLimit_53 =>
        LdI .i64 w ⟨p16, 11, none⟩ fun limit_54 =>
        LdB w ⟨p41, 2, none⟩ fun bad_55 =>
        if (!bad_55) = true then
          Hold w ⟨p41, 1, none⟩ 1 fun R56 =>
          LdI .i64 w ⟨p41, 1, none⟩ fun i_57 =>
          Hold w ⟨p41, 0, none⟩ 1 fun R58 =>
          LdS w ⟨p41, 0, none⟩ fun t_59 =>
          St1 w ⟨p1, 0, none⟩ (.int .i64 kind_43) fun w =>
          St1 w ⟨p1, 1, none⟩ (.string table_44) fun w =>
          St1 w ⟨p1, 2, none⟩ (.slice cols_45.a cols_45.l cols_45.c) fun w =>
          St1 w ⟨p1, 3, none⟩ (.int .i64 pk_46) fun w =>
          St1 w ⟨p1, 4, none⟩ (.slice names_47.a names_47.l names_47.c) fun w =>
          St1 w ⟨p1, 5, none⟩ (.slice vals_48.a vals_48.l vals_48.c) fun w =>
          St1 w ⟨p1, 6, none⟩ (.bool star_49) fun w =>
          St1 w ⟨p1, 7, none⟩ (.slice where_50.a where_50.l where_50.c) fun w =>
          St1 w ⟨p1, 8, none⟩ (.string order_51) fun w =>
          St1 w ⟨p1, 9, none⟩ (.bool desc_52) fun w =>
          St1 w ⟨p1, 10, none⟩ (.bool hasLimit_53) fun w =>
          St1 w ⟨p1, 11, none⟩ (.int .i64 limit_54) fun w =>
          After R58 w <|
          After R56 w <|
          LdI .i64 w ⟨p1, 0, none⟩ fun kind_60 =>
          LdStr w ⟨p1, 1, none⟩ fun table_61 =>
          LdS w ⟨p1, 2, none⟩ fun cols_62 =>
          LdI .i64 w ⟨p1, 3, none⟩ fun pk_63 =>
          LdS w ⟨p1, 4, none⟩ fun names_64 =>
          LdS w ⟨p1, 5, none⟩ fun vals_65 =>
          LdB w ⟨p1, 6, none⟩ fun star_66 =>
          LdS w ⟨p1, 7, none⟩ fun where_67 =>
          LdStr w ⟨p1, 8, none⟩ fun order_68 =>
          LdB w ⟨p1, 9, none⟩ fun desc_69 =>
          LdB w ⟨p1, 10, none⟩ fun hasLimit_70 =>
          LdI .i64 w ⟨p1, 11, none⟩ fun limit_71 =>
          K kind_60 table_61 cols_62 pk_63 names_64 vals_65 star_66 where_67 order_68 desc_69 hasLimit_70 limit_71 (i_57 == (t_59.l : Int)) w
        else
          St1 w ⟨p1, 0, none⟩ (.int .i64 kind_43) fun w =>
          St1 w ⟨p1, 1, none⟩ (.string table_44) fun w =>
          St1 w ⟨p1, 2, none⟩ (.slice cols_45.a cols_45.l cols_45.c) fun w =>
          St1 w ⟨p1, 3, none⟩ (.int .i64 pk_46) fun w =>
          St1 w ⟨p1, 4, none⟩ (.slice names_47.a names_47.l names_47.c) fun w =>
          St1 w ⟨p1, 5, none⟩ (.slice vals_48.a vals_48.l vals_48.c) fun w =>
          St1 w ⟨p1, 6, none⟩ (.bool star_49) fun w =>
          St1 w ⟨p1, 7, none⟩ (.slice where_50.a where_50.l where_50.c) fun w =>
          St1 w ⟨p1, 8, none⟩ (.string order_51) fun w =>
          St1 w ⟨p1, 9, none⟩ (.bool desc_52) fun w =>
          St1 w ⟨p1, 10, none⟩ (.bool hasLimit_53) fun w =>
          St1 w ⟨p1, 11, none⟩ (.int .i64 limit_54) fun w =>
          LdI .i64 w ⟨p1, 0, none⟩ fun kind_72 =>
          LdStr w ⟨p1, 1, none⟩ fun table_73 =>
          LdS w ⟨p1, 2, none⟩ fun cols_74 =>
          LdI .i64 w ⟨p1, 3, none⟩ fun pk_75 =>
          LdS w ⟨p1, 4, none⟩ fun names_76 =>
          LdS w ⟨p1, 5, none⟩ fun vals_77 =>
          LdB w ⟨p1, 6, none⟩ fun star_78 =>
          LdS w ⟨p1, 7, none⟩ fun where_79 =>
          LdStr w ⟨p1, 8, none⟩ fun order_80 =>
          LdB w ⟨p1, 9, none⟩ fun desc_81 =>
          LdB w ⟨p1, 10, none⟩ fun hasLimit_82 =>
          LdI .i64 w ⟨p1, 11, none⟩ fun limit_83 =>
          K kind_72 table_73 cols_74 pk_75 names_76 vals_77 star_78 where_79 order_80 desc_81 hasLimit_82 limit_83 false w) fun J84 =>
      if r42 = true then
        St1 w ⟨p16, 0, none⟩ (.int .i64 1) fun w =>
        J84 w
      else
        S.querym_reader_eat p41 (⟨#[67, 79, 77, 77, 73, 84]⟩ : ByteArray) w (fun r85 w =>
        if r85 = true then
          St1 w ⟨p16, 0, none⟩ (.int .i64 2) fun w =>
          J84 w
        else
          S.querym_reader_eat p41 (⟨#[82, 79, 76, 76, 66, 65, 67, 75]⟩ : ByteArray) w (fun r86 w =>
          if r86 = true then
            St1 w ⟨p16, 0, none⟩ (.int .i64 3) fun w =>
            J84 w
          else
            S.querym_reader_eat p41 (⟨#[67, 82, 69, 65, 84, 69]⟩ : ByteArray) w (fun r87 w =>
            if r87 = true then
              S.querym_reader_eat p41 (⟨#[84, 65, 66, 76, 69]⟩ : ByteArray) w (fun r88 w =>
              if r88 = true then
                St1 w ⟨p16, 0, none⟩ (.int .i64 4) fun w =>
                S.querym_reader_name p41 w (fun r89 w =>
                St1 w ⟨p16, 1, none⟩ (.string r89) fun w =>
                S.querym_reader_want p41 (⟨#[40]⟩ : ByteArray) w (fun w =>
                Join (fun (keys_90 : Int) (w : World) =>
                  S.querym_reader_want p41 (⟨#[41]⟩ : ByteArray) w (fun w =>
                  if (keys_90 != 1) = true then
                    St1 w ⟨p41, 2, none⟩ (.bool true) fun w =>
                    J84 w
                  else
                    J84 w)) fun J91 =>
                LoopP (σ := Int × Bool × Unit) (fun st92 w next93 =>
                  if st92.2.1 = true then
                    LdB w ⟨p41, 2, none⟩ fun bad_94 =>
                    if (!bad_94) = true then
                      S.querym_reader_name p41 w (fun r95 w =>
                      New w (.cells #[.string ⟨#[]⟩, .bool false] 149) fun p96 w =>
                      St1 w ⟨p96, 0, none⟩ (.string r95) fun w =>
                      St1 w ⟨p96, 1, none⟩ (.bool false) fun w =>
                      S.querym_reader_eat p41 (⟨#[84, 69, 88, 84]⟩ : ByteArray) w (fun r97 w =>
                      Join (fun (w : World) =>
                        S.querym_reader_eat p41 (⟨#[75, 69, 89]⟩ : ByteArray) w (fun r98 w =>
                        Join (fun (keys_99 : Int) (w : World) =>
                          LdS w ⟨p16, 2, none⟩ fun cols_100 =>
                          LdStr w ⟨p96, 0, none⟩ fun Name_101 =>
                          LdB w ⟨p96, 1, none⟩ fun IsStr_102 =>
                          New w (.cells #[.string Name_101, .bool IsStr_102] 149) fun p103 w =>
                          AppS 149 [.string ⟨#[]⟩, .bool false] 24 2 w cols_100 ⟨some ⟨p103, 0, none⟩, 1, 1⟩ fun l104 w =>
                          St1 w ⟨p16, 2, none⟩ (.slice l104.a l104.l l104.c) fun w =>
                          S.querym_reader_eat p41 (⟨#[44]⟩ : ByteArray) w (fun r105 w =>
                          next93 (keys_99, r105, ()) w)) fun J106 =>
                        if r98 = true then
                          Let (W (st92.1 + 1)) fun keys_107 =>
                          LdS w ⟨p16, 2, none⟩ fun cols_108 =>
                          St1 w ⟨p16, 3, none⟩ (.int .i64 (cols_108.l : Int)) fun w =>
                          J106 keys_107 w
                        else
                          J106 st92.1 w)) fun J109 =>
                      if r97 = true then
                        St1 w ⟨p96, 1, none⟩ (.bool true) fun w =>
                        J109 w
                      else
                        S.querym_reader_want p41 (⟨#[73, 78, 84]⟩ : ByteArray) w (fun w =>
                        J109 w)))
                    else
                      J91 st92.1 w
                  else
                    J91 st92.1 w) (0, true, ()) w))
              else
                S.querym_reader_want p41 (⟨#[73, 78, 68, 69, 88]⟩ : ByteArray) w (fun w =>
                S.querym_reader_want p41 (⟨#[79, 78]⟩ : ByteArray) w (fun w =>
                St1 w ⟨p16, 0, none⟩ (.int .i64 6) fun w =>
                S.querym_reader_name p41 w (fun r110 w =>
                St1 w ⟨p16, 1, none⟩ (.string r110) fun w =>
                S.querym_reader_want p41 (⟨#[40]⟩ : ByteArray) w (fun w =>
                Drew w fun w =>
                Hold w ⟨p16, 4, none⟩ 1 fun R111 =>
                LdS w ⟨p16, 4, none⟩ fun names_112 =>
                S.querym_reader_name p41 w (fun r113 w =>
                After R111 w <|
                New w (.cells #[.string r113] 9) fun p114 w =>
                After R111 w <|
                AppS 9 [.string ⟨#[]⟩] 16 1 w names_112 ⟨some ⟨p114, 0, none⟩, 1, 1⟩ fun l115 w =>
                St1 w ⟨p16, 4, none⟩ (.slice l115.a l115.l l115.c) fun w =>
                S.querym_reader_want p41 (⟨#[41]⟩ : ByteArray) w (fun w =>
                J84 w)))))))
            else
              S.querym_reader_eat p41 (⟨#[68, 82, 79, 80]⟩ : ByteArray) w (fun r116 w =>
              if r116 = true then
                S.querym_reader_want p41 (⟨#[84, 65, 66, 76, 69]⟩ : ByteArray) w (fun w =>
                St1 w ⟨p16, 0, none⟩ (.int .i64 5) fun w =>
                S.querym_reader_name p41 w (fun r117 w =>
                St1 w ⟨p16, 1, none⟩ (.string r117) fun w =>
                J84 w))
              else
                S.querym_reader_eat p41 (⟨#[73, 78, 83, 69, 82, 84]⟩ : ByteArray) w (fun r118 w =>
                if r118 = true then
                  S.querym_reader_want p41 (⟨#[73, 78, 84, 79]⟩ : ByteArray) w (fun w =>
                  St1 w ⟨p16, 0, none⟩ (.int .i64 7) fun w =>
                  S.querym_reader_name p41 w (fun r119 w =>
                  St1 w ⟨p16, 1, none⟩ (.string r119) fun w =>
                  S.querym_reader_want p41 (⟨#[86, 65, 76, 85, 69, 83]⟩ : ByteArray) w (fun w =>
                  S.querym_reader_want p41 (⟨#[40]⟩ : ByteArray) w (fun w =>
                  LoopP (σ := Bool × Unit) (fun st120 w next121 =>
                    if st120.1 = true then
                      LdB w ⟨p41, 2, none⟩ fun bad_122 =>
                      if (!bad_122) = true then
                        Drew w fun w =>
                        Hold w ⟨p16, 5, none⟩ 1 fun R123 =>
                        LdS w ⟨p16, 5, none⟩ fun vals_124 =>
                        S.querym_reader_lit p41 w (fun IsStr_125 I_126 S_127 w =>
                        After R123 w <|
                        New w (.cells #[.bool IsStr_125, .int .i64 I_126, .string S_127] 167) fun p128 w =>
                        After R123 w <|
                        AppS 167 [.bool false, .int .i64 0, .string ⟨#[]⟩] 32 3 w vals_124 ⟨some ⟨p128, 0, none⟩, 1, 1⟩ fun l129 w =>
                        St1 w ⟨p16, 5, none⟩ (.slice l129.a l129.l l129.c) fun w =>
                        S.querym_reader_eat p41 (⟨#[44]⟩ : ByteArray) w (fun r130 w =>
                        next121 (r130, ()) w))
                      else
                        S.querym_reader_want p41 (⟨#[41]⟩ : ByteArray) w (fun w =>
                        J84 w)
                    else
                      S.querym_reader_want p41 (⟨#[41]⟩ : ByteArray) w (fun w =>
                      J84 w)) (true, ()) w))))
                else
                  S.querym_reader_eat p41 (⟨#[83, 69, 76, 69, 67, 84]⟩ : ByteArray) w (fun r131 w =>
                  if r131 = true then
                    St1 w ⟨p16, 0, none⟩ (.int .i64 8) fun w =>
                    S.querym_reader_eat p41 (⟨#[42]⟩ : ByteArray) w (fun r132 w =>
                    Join (fun (w : World) =>
                      S.querym_reader_want p41 (⟨#[70, 82, 79, 77]⟩ : ByteArray) w (fun w =>
                      S.querym_reader_name p41 w (fun r133 w =>
                      St1 w ⟨p16, 1, none⟩ (.string r133) fun w =>
                      S.querym_reader_where p41 p16 w (fun w =>
                      S.querym_reader_eat p41 (⟨#[79, 82, 68, 69, 82]⟩ : ByteArray) w (fun r134 w =>
                      Join (fun (w : World) =>
                        S.querym_reader_eat p41 (⟨#[76, 73, 77, 73, 84]⟩ : ByteArray) w (fun r135 w =>
                        if r135 = true then
                          St1 w ⟨p16, 10, none⟩ (.bool true) fun w =>
                          Join (fun (w : World) =>
                            St1 w ⟨p41, 2, none⟩ (.bool true) fun w =>
                            J84 w) fun J136 =>
                          Drew w fun w =>
                          LdI .i64 w ⟨p41, 1, none⟩ fun i_137 =>
                          LdS w ⟨p41, 0, none⟩ fun t_138 =>
                          if (decide (i_137 < (t_138.l : Int))) = true then
                            LdS w ⟨p41, 0, none⟩ fun t_139 =>
                            LdI .i64 w ⟨p41, 1, none⟩ fun i_140 =>
                            Ix t_139.a t_139.l i_140 fun b141 o142 =>
                            LdI .i64 w ⟨b141, o142 + Int.toNat i_140 * 3, none⟩ fun kind_143 =>
                            if (kind_143 == 2) = true then
                              Drew w fun w =>
                              LdS w ⟨p41, 0, none⟩ fun t_144 =>
                              LdI .i64 w ⟨p41, 1, none⟩ fun i_145 =>
                              Ix t_144.a t_144.l i_145 fun b146 o147 =>
                              LdI .i64 w ⟨b146, o147 + Int.toNat i_145 * 3 + 2, none⟩ fun val_148 =>
                              St1 w ⟨p16, 11, none⟩ (.int .i64 val_148) fun w =>
                              LdI .i64 w ⟨p41, 1, none⟩ fun i_149 =>
                              St1 w ⟨p41, 1, none⟩ (.int .i64 (W (i_149 + 1))) fun w =>
                              J84 w
                            else
                              J136 w
                          else
                            J136 w
                        else
                          J84 w)) fun J150 =>
                      if r134 = true then
                        S.querym_reader_want p41 (⟨#[66, 89]⟩ : ByteArray) w (fun w =>
                        S.querym_reader_name p41 w (fun r151 w =>
                        St1 w ⟨p16, 8, none⟩ (.string r151) fun w =>
                        S.querym_reader_eat p41 (⟨#[68, 69, 83, 67]⟩ : ByteArray) w (fun r152 w =>
                        St1 w ⟨p16, 9, none⟩ (.bool r152) fun w =>
                        J150 w)))
                      else
                        J150 w))))) fun J153 =>
                    if r132 = true then
                      St1 w ⟨p16, 6, none⟩ (.bool true) fun w =>
                      J153 w
                    else
                      LoopP (σ := Bool × Unit) (fun st154 w next155 =>
                        if st154.1 = true then
                          LdB w ⟨p41, 2, none⟩ fun bad_156 =>
                          if (!bad_156) = true then
                            Drew w fun w =>
                            Hold w ⟨p16, 4, none⟩ 1 fun R157 =>
                            LdS w ⟨p16, 4, none⟩ fun names_158 =>
                            S.querym_reader_name p41 w (fun r159 w =>
                            After R157 w <|
                            New w (.cells #[.string r159] 9) fun p160 w =>
                            After R157 w <|
                            AppS 9 [.string ⟨#[]⟩] 16 1 w names_158 ⟨some ⟨p160, 0, none⟩, 1, 1⟩ fun l161 w =>
                            St1 w ⟨p16, 4, none⟩ (.slice l161.a l161.l l161.c) fun w =>
                            S.querym_reader_eat p41 (⟨#[44]⟩ : ByteArray) w (fun r162 w =>
                            next155 (r162, ()) w))
                          else
                            J153 w
                        else
                          J153 w) (true, ()) w)
                  else
                    S.querym_reader_eat p41 (⟨#[85, 80, 68, 65, 84, 69]⟩ : ByteArray) w (fun r163 w =>
                    if r163 = true then
                      St1 w ⟨p16, 0, none⟩ (.int .i64 9) fun w =>
                      S.querym_reader_name p41 w (fun r164 w =>
                      St1 w ⟨p16, 1, none⟩ (.string r164) fun w =>
                      S.querym_reader_want p41 (⟨#[83, 69, 84]⟩ : ByteArray) w (fun w =>
                      LoopP (σ := Bool × Unit) (fun st165 w next166 =>
                        if st165.1 = true then
                          LdB w ⟨p41, 2, none⟩ fun bad_167 =>
                          if (!bad_167) = true then
                            Drew w fun w =>
                            Hold w ⟨p16, 4, none⟩ 1 fun R168 =>
                            LdS w ⟨p16, 4, none⟩ fun names_169 =>
                            S.querym_reader_name p41 w (fun r170 w =>
                            After R168 w <|
                            New w (.cells #[.string r170] 9) fun p171 w =>
                            After R168 w <|
                            AppS 9 [.string ⟨#[]⟩] 16 1 w names_169 ⟨some ⟨p171, 0, none⟩, 1, 1⟩ fun l172 w =>
                            St1 w ⟨p16, 4, none⟩ (.slice l172.a l172.l l172.c) fun w =>
                            S.querym_reader_want p41 (⟨#[61]⟩ : ByteArray) w (fun w =>
                            Drew w fun w =>
                            Hold w ⟨p16, 5, none⟩ 1 fun R173 =>
                            LdS w ⟨p16, 5, none⟩ fun vals_174 =>
                            S.querym_reader_lit p41 w (fun IsStr_175 I_176 S_177 w =>
                            After R173 w <|
                            New w (.cells #[.bool IsStr_175, .int .i64 I_176, .string S_177] 167) fun p178 w =>
                            After R173 w <|
                            AppS 167 [.bool false, .int .i64 0, .string ⟨#[]⟩] 32 3 w vals_174 ⟨some ⟨p178, 0, none⟩, 1, 1⟩ fun l179 w =>
                            St1 w ⟨p16, 5, none⟩ (.slice l179.a l179.l l179.c) fun w =>
                            S.querym_reader_eat p41 (⟨#[44]⟩ : ByteArray) w (fun r180 w =>
                            next166 (r180, ()) w))))
                          else
                            S.querym_reader_where p41 p16 w (fun w =>
                            J84 w)
                        else
                          S.querym_reader_where p41 p16 w (fun w =>
                          J84 w)) (true, ()) w))
                    else
                      S.querym_reader_eat p41 (⟨#[68, 69, 76, 69, 84, 69]⟩ : ByteArray) w (fun r181 w =>
                      if r181 = true then
                        S.querym_reader_want p41 (⟨#[70, 82, 79, 77]⟩ : ByteArray) w (fun w =>
                        St1 w ⟨p16, 0, none⟩ (.int .i64 10) fun w =>
                        S.querym_reader_name p41 w (fun r182 w =>
                        St1 w ⟨p16, 1, none⟩ (.string r182) fun w =>
                        S.querym_reader_where p41 p16 w (fun w =>
                        J84 w)))
                      else
                        LdI .i64 w ⟨p16, 0, none⟩ fun kind_183 =>
                        LdStr w ⟨p16, 1, none⟩ fun table_184 =>
                        LdS w ⟨p16, 2, none⟩ fun cols_185 =>
                        LdI .i64 w ⟨p16, 3, none⟩ fun pk_186 =>
                        LdS w ⟨p16, 4, none⟩ fun names_187 =>
                        LdS w ⟨p16, 5, none⟩ fun vals_188 =>
                        LdB w ⟨p16, 6, none⟩ fun star_189 =>
                        LdS w ⟨p16, 7, none⟩ fun where_190 =>
                        LdStr w ⟨p16, 8, none⟩ fun order_191 =>
                        LdB w ⟨p16, 9, none⟩ fun desc_192 =>
                        LdB w ⟨p16, 10, none⟩ fun hasLimit_193 =>
                        LdI .i64 w ⟨p16, 11, none⟩ fun limit_194 =>
                        St1 w ⟨p1, 0, none⟩ (.int .i64 kind_183) fun w =>
                        St1 w ⟨p1, 1, none⟩ (.string table_184) fun w =>
                        St1 w ⟨p1, 2, none⟩ (.slice cols_185.a cols_185.l cols_185.c) fun w =>
                        St1 w ⟨p1, 3, none⟩ (.int .i64 pk_186) fun w =>
                        St1 w ⟨p1, 4, none⟩ (.slice names_187.a names_187.l names_187.c) fun w =>
                        St1 w ⟨p1, 5, none⟩ (.slice vals_188.a vals_188.l vals_188.c) fun w =>
                        St1 w ⟨p1, 6, none⟩ (.bool star_189) fun w =>
                        St1 w ⟨p1, 7, none⟩ (.slice where_190.a where_190.l where_190.c) fun w =>
                        St1 w ⟨p1, 8, none⟩ (.string order_191) fun w =>
                        St1 w ⟨p1, 9, none⟩ (.bool desc_192) fun w =>
                        St1 w ⟨p1, 10, none⟩ (.bool hasLimit_193) fun w =>
                        St1 w ⟨p1, 11, none⟩ (.int .i64 limit_194) fun w =>
                        LdI .i64 w ⟨p1, 0, none⟩ fun kind_195 =>
                        LdStr w ⟨p1, 1, none⟩ fun table_196 =>
                        LdS w ⟨p1, 2, none⟩ fun cols_197 =>
                        LdI .i64 w ⟨p1, 3, none⟩ fun pk_198 =>
                        LdS w ⟨p1, 4, none⟩ fun names_199 =>
                        LdS w ⟨p1, 5, none⟩ fun vals_200 =>
                        LdB w ⟨p1, 6, none⟩ fun star_201 =>
                        LdS w ⟨p1, 7, none⟩ fun where_202 =>
                        LdStr w ⟨p1, 8, none⟩ fun order_203 =>
                        LdB w ⟨p1, 9, none⟩ fun desc_204 =>
                        LdB w ⟨p1, 10, none⟩ fun hasLimit_205 =>
                        LdI .i64 w ⟨p1, 11, none⟩ fun limit_206 =>
                        K kind_195 table_196 cols_197 pk_198 names_199 vals_200 star_201 where_202 order_203 desc_204 hasLimit_205 limit_206 false w))))))))))
def T.C36 : CallT := (CallT.cons 82 T.c82 (CallT.cons 83 T.c83 (CallT.cons 84 T.c84 (CallT.cons 85 T.c85 (CallT.cons 86 T.c86 (CallT.cons 87 T.c87 CallT.nil))))))
def T.A36 : Ann := fun i => bif Nat.beq i 1000093 then some ([], [(2, 5), (6, 5)]) else bif Nat.beq i 82 then some ([2, 6, 7], [(13, 3)]) else bif Nat.beq i 1000088 then some ([], [(2, 5), (6, 5), (7, 5)]) else bif Nat.beq i 61 then some ([2, 6, 7], [(12, 3)]) else bif Nat.beq i 1000076 then some ([], [(2, 5), (6, 5), (7, 5)]) else bif Nat.beq i 1000060 then some ([], [(2, 5), (6, 5), (7, 5)]) else bif Nat.beq i 1000077 then some ([], [(2, 5), (6, 5), (7, 5)]) else bif Nat.beq i 52 then some ([2, 6, 7], [(11, 3)]) else bif Nat.beq i 1000056 then some ([], [(2, 5), (6, 5), (7, 5)]) else bif Nat.beq i 1000045 then some ([], [(2, 5), (6, 5), (7, 5)]) else bif Nat.beq i 21 then some ([2, 6, 7], [(8, 0), (9, 3)]) else bif Nat.beq i 1000034 then some ([], [(2, 5), (6, 5), (7, 5)]) else bif Nat.beq i 1000041 then some ([], [(2, 5), (6, 5), (7, 5)]) else bif Nat.beq i 1000014 then some ([], [(2, 5), (6, 5), (7, 5)]) else bif Nat.beq i 1000012 then some ([], [(2, 5), (6, 5), (7, 5)]) else bif Nat.beq i 1000010 then some ([], [(2, 5), (6, 5), (7, 5)]) else none
set_option maxRecDepth 1000000 in
theorem T.eq36 (text : ByteArray) (w : World) (K : Int → ByteArray → Sl → Int → Sl → Sl → Bool → Sl → ByteArray → Bool → Bool → Int → Bool → World → Prop) : denF Tryz.prog T.C36 T.A36 Tryz.f36 [.string text] w (fun v w' => match v with | .tuple ⟨[.agg ⟨[.int .i64 r0, .string r1, .slice r2a r2l r2c, .int .i64 r3, .slice r4a r4l r4c, .slice r5a r5l r5c, .bool r6, .slice r7a r7l r7c, .string r8, .bool r9, .bool r10, .int .i64 r11]⟩, .bool r12]⟩ => K r0 r1 ⟨r2a, r2l, r2c⟩ r3 ⟨r4a, r4l, r4c⟩ ⟨r5a, r5l, r5c⟩ r6 ⟨r7a, r7l, r7c⟩ r8 r9 r10 r11 r12 w' | _ => False) = S.querym_parse text w K := by kernel_rfl
theorem T.CO36 : CallOk Tryz.prog T.C36 := (CallOk.cons 82 T.ok82 (CallOk.cons 83 T.ok83 (CallOk.cons 84 T.ok84 (CallOk.cons 85 T.ok85 (CallOk.cons 86 T.ok86 (CallOk.cons 87 T.ok87 CallOk.nil))))))
def T.c36 (vs : List Value) (w : World) (K : Value → World → Prop) : Prop :=
  match vs with
  | [.string text] => S.querym_parse text w (fun r0 r1 r2 r3 r4 r5 r6 r7 r8 r9 r10 r11 r12 w' => K (.tuple #[.agg #[.int .i64 r0, .string r1, .slice r2.a r2.l r2.c, .int .i64 r3, .slice r4.a r4.l r4.c, .slice r5.a r5.l r5.c, .bool r6, .slice r7.a r7.l r7.c, .string r8, .bool r9, .bool r10, .int .i64 r11], .bool r12]) w')
  | _ => False
theorem T.ok36 : ∀ vs w K, T.c36 vs w K → (callFunc 36 vs.toArray).run Tryz.prog w = .ok (.enter 36 vs.toArray) w ∧ Calls Tryz.prog 36 vs.toArray w fun e w' => ∃ v, e = .returned v ∧ K v w' := by
  intro vs w K h
  unfold T.c36 at h
  split at h
  · refine ⟨Tryz.call36 _ _, ok_of T.CO36 mixed Tryz.func36 (T.eq36 _ _ _) h fun v w' hk => ⟨v, rfl, ?_⟩⟩
    split at hk
    · exact hk
    · exact hk.elim
  · exact h.elim

/-- (*e2e/api.Multi).Begin (function 37). -/
def S.api_Multi_Begin (m : Nat) (s_ : Int) (w : World) (K : Int → World → Prop) : Prop :=
  S.api_GoodSess s_ w (fun r1 w =>
  if (!r1) = true then
    K 20 w
  else
    IxA 4 s_ <|
    LdB w ⟨m, 1 + Int.toNat s_ * 1, none⟩ fun Act_2 =>
    if Act_2 = true then
      K 3 w
    else
      IxA 4 s_ <|
      St1 w ⟨m, 1 + Int.toNat s_ * 1, none⟩ (.bool true) fun w =>
      Drew w fun w =>
      S.api_DB_Clone m 0 w (fun Tabs_3 w =>
      IxA 4 s_ <|
      St1 w ⟨m, 17 + Int.toNat s_ * 1, none⟩ (.slice Tabs_3.a Tabs_3.l Tabs_3.c) fun w =>
      K 0 w))
def T.C37 : CallT := (CallT.cons 23 T.c23 (CallT.cons 64 T.c64 CallT.nil))
def T.A37 : Ann := fun _ => none
set_option maxRecDepth 1000000 in
theorem T.eq37 (m : Nat) (s_ : Int) (w : World) (K : Int → World → Prop) : denF Tryz.prog T.C37 T.A37 Tryz.f37 [.pointer (some ⟨m, 0, none⟩), .int .i64 s_] w (fun v w' => match v with | .int .i64 r0 => K r0 w' | _ => False) = S.api_Multi_Begin m s_ w K := by kernel_rfl
theorem T.CO37 : CallOk Tryz.prog T.C37 := (CallOk.cons 23 T.ok23 (CallOk.cons 64 T.ok64 CallOk.nil))
def T.c37 (vs : List Value) (w : World) (K : Value → World → Prop) : Prop :=
  match vs with
  | [.pointer (some ⟨m, 0, none⟩), .int .i64 s_] => S.api_Multi_Begin m s_ w (fun r0 w' => K (.int .i64 r0) w')
  | _ => False
theorem T.ok37 : ∀ vs w K, T.c37 vs w K → (callFunc 37 vs.toArray).run Tryz.prog w = .ok (.enter 37 vs.toArray) w ∧ Calls Tryz.prog 37 vs.toArray w fun e w' => ∃ v, e = .returned v ∧ K v w' := by
  intro vs w K h
  unfold T.c37 at h
  split at h
  · refine ⟨Tryz.call37 _ _, ok_of T.CO37 mixed Tryz.func37 (T.eq37 _ _ _ _) h fun v w' hk => ⟨v, rfl, ?_⟩⟩
    split at hk
    · exact hk
    · exact hk.elim
  · exact h.elim

/-- (*e2e/api.Multi).end (function 89). -/
def S.api_Multi_end (m : Nat) (s_ : Int) (w : World) (K : World → Prop) : Prop :=
  IxA 4 s_ <|
  St1 w ⟨m, 1 + Int.toNat s_ * 1, none⟩ (.bool false) fun w =>
  IxA 4 s_ <|
  St1 w ⟨m, 5 + Int.toNat s_ * 3, none⟩ (.int .i64 0) fun w =>
  St1 w ⟨m, 5 + Int.toNat s_ * 3 + 1, none⟩ (.int .i64 0) fun w =>
  St1 w ⟨m, 5 + Int.toNat s_ * 3 + 2, none⟩ (.int .i64 0) fun w =>
  IxA 4 s_ <|
  St1 w ⟨m, 17 + Int.toNat s_ * 1, none⟩ (.slice none 0 0) fun w =>
  K w
def T.C89 : CallT := CallT.nil
def T.A89 : Ann := fun _ => none
set_option maxRecDepth 1000000 in
theorem T.eq89 (m : Nat) (s_ : Int) (w : World) (K : World → Prop) : denF Tryz.prog T.C89 T.A89 Tryz.f89 [.pointer (some ⟨m, 0, none⟩), .int .i64 s_] w (fun v w' => match v with | .tuple ⟨[]⟩ => K w' | _ => False) = S.api_Multi_end m s_ w K := by kernel_rfl
theorem T.CO89 : CallOk Tryz.prog T.C89 := CallOk.nil
def T.c89 (vs : List Value) (w : World) (K : Value → World → Prop) : Prop :=
  match vs with
  | [.pointer (some ⟨m, 0, none⟩), .int .i64 s_] => S.api_Multi_end m s_ w (fun w' => K (.tuple #[]) w')
  | _ => False
theorem T.ok89 : ∀ vs w K, T.c89 vs w K → (callFunc 89 vs.toArray).run Tryz.prog w = .ok (.enter 89 vs.toArray) w ∧ Calls Tryz.prog 89 vs.toArray w fun e w' => ∃ v, e = .returned v ∧ K v w' := by
  intro vs w K h
  unfold T.c89 at h
  split at h
  · refine ⟨Tryz.call89 _ _, ok_of T.CO89 mixed Tryz.func89 (T.eq89 _ _ _ _) h fun v w' hk => ⟨v, rfl, ?_⟩⟩
    split at hk
    · exact hk
    · exact hk.elim
  · exact h.elim

/-- (*e2e/api.Multi).Commit (function 38). -/
def S.api_Multi_Commit (m : Nat) (s_ : Int) (w : World) (K : Int → World → Prop) : Prop :=
  S.api_GoodSess s_ w (fun r1 w =>
  if (!r1) = true then
    K 20 w
  else
    IxA 4 s_ <|
    LdB w ⟨m, 1 + Int.toNat s_ * 1, none⟩ fun Act_2 =>
    if (!Act_2) = true then
      K 2 w
    else
      Join (fun (w : World) =>
        S.api_Multi_end m s_ w (fun w =>
        K 0 w)) fun J3 =>
      LoopP (σ := Int × Unit) (fun st4 w next5 =>
        LdS w ⟨m, 0, none⟩ fun Tabs_6 =>
        if (decide (st4.1 < (Tabs_6.l : Int))) = true then
          Join (fun (w : World) =>
            Let (W (st4.1 + 1)) fun i_7 =>
            next5 (i_7, ()) w) fun J8 =>
          IxA 4 s_ <|
          IxA 3 st4.1 <|
          LdI .i64 w ⟨m, 5 + Int.toNat s_ * 3 + Int.toNat st4.1 * 1, none⟩ fun Lock_9 =>
          if (Lock_9 == 2) = true then
            Drew w fun w =>
            Hold w ⟨m, 0, none⟩ 1 fun R10 =>
            LdS w ⟨m, 0, none⟩ fun Tabs_11 =>
            IxA 4 s_ <|
            LdS w ⟨m, 17 + Int.toNat s_ * 1, none⟩ fun Tabs_12 =>
            Ix Tabs_12.a Tabs_12.l st4.1 fun b13 o14 =>
            LdStr w ⟨b13, o14 + Int.toNat st4.1 * 5, none⟩ fun Sch_Name_15 =>
            LdS w ⟨b13, o14 + Int.toNat st4.1 * 5 + 1, none⟩ fun Sch_Cols_16 =>
            LdI .i64 w ⟨b13, o14 + Int.toNat st4.1 * 5 + 2, none⟩ fun Sch_PK_17 =>
            LdI .i64 w ⟨b13, o14 + Int.toNat st4.1 * 5 + 3, none⟩ fun Sch_Index_18 =>
            LdS w ⟨b13, o14 + Int.toNat st4.1 * 5 + 4, none⟩ fun Rows_19 =>
            S.api_CloneTable Sch_Name_15 Sch_Cols_16 Sch_PK_17 Sch_Index_18 Rows_19 w (fun Sch_Name_20 Sch_Cols_21 Sch_PK_22 Sch_Index_23 Rows_24 w =>
            After R10 w <|
            Ix Tabs_11.a Tabs_11.l st4.1 fun b25 o26 =>
            St1 w ⟨b25, o26 + Int.toNat st4.1 * 5, none⟩ (.string Sch_Name_20) fun w =>
            St1 w ⟨b25, o26 + Int.toNat st4.1 * 5 + 1, none⟩ (.slice Sch_Cols_21.a Sch_Cols_21.l Sch_Cols_21.c) fun w =>
            St1 w ⟨b25, o26 + Int.toNat st4.1 * 5 + 2, none⟩ (.int .i64 Sch_PK_22) fun w =>
            St1 w ⟨b25, o26 + Int.toNat st4.1 * 5 + 3, none⟩ (.int .i64 Sch_Index_23) fun w =>
            St1 w ⟨b25, o26 + Int.toNat st4.1 * 5 + 4, none⟩ (.slice Rows_24.a Rows_24.l Rows_24.c) fun w =>
            J8 w)
          else
            J8 w
        else
          J3 w) (0, ()) w)
def T.C38 : CallT := (CallT.cons 23 T.c23 (CallT.cons 89 T.c89 (CallT.cons 88 T.c88 CallT.nil)))
def T.A38 : Ann := fun i => bif Nat.beq i 6 then some ([0, 1], [(5, 0)]) else none
set_option maxRecDepth 1000000 in
theorem T.eq38 (m : Nat) (s_ : Int) (w : World) (K : Int → World → Prop) : denF Tryz.prog T.C38 T.A38 Tryz.f38 [.pointer (some ⟨m, 0, none⟩), .int .i64 s_] w (fun v w' => match v with | .int .i64 r0 => K r0 w' | _ => False) = S.api_Multi_Commit m s_ w K := by kernel_rfl
theorem T.CO38 : CallOk Tryz.prog T.C38 := (CallOk.cons 23 T.ok23 (CallOk.cons 89 T.ok89 (CallOk.cons 88 T.ok88 CallOk.nil)))
def T.c38 (vs : List Value) (w : World) (K : Value → World → Prop) : Prop :=
  match vs with
  | [.pointer (some ⟨m, 0, none⟩), .int .i64 s_] => S.api_Multi_Commit m s_ w (fun r0 w' => K (.int .i64 r0) w')
  | _ => False
theorem T.ok38 : ∀ vs w K, T.c38 vs w K → (callFunc 38 vs.toArray).run Tryz.prog w = .ok (.enter 38 vs.toArray) w ∧ Calls Tryz.prog 38 vs.toArray w fun e w' => ∃ v, e = .returned v ∧ K v w' := by
  intro vs w K h
  unfold T.c38 at h
  split at h
  · refine ⟨Tryz.call38 _ _, ok_of T.CO38 mixed Tryz.func38 (T.eq38 _ _ _ _) h fun v w' hk => ⟨v, rfl, ?_⟩⟩
    split at hk
    · exact hk
    · exact hk.elim
  · exact h.elim

/-- (*e2e/api.Multi).Rollback (function 39). -/
def S.api_Multi_Rollback (m : Nat) (s_ : Int) (w : World) (K : Int → World → Prop) : Prop :=
  S.api_GoodSess s_ w (fun r1 w =>
  if (!r1) = true then
    K 20 w
  else
    IxA 4 s_ <|
    LdB w ⟨m, 1 + Int.toNat s_ * 1, none⟩ fun Act_2 =>
    if (!Act_2) = true then
      K 2 w
    else
      S.api_Multi_end m s_ w (fun w =>
      K 0 w))
def T.C39 : CallT := (CallT.cons 23 T.c23 (CallT.cons 89 T.c89 CallT.nil))
def T.A39 : Ann := fun _ => none
set_option maxRecDepth 1000000 in
theorem T.eq39 (m : Nat) (s_ : Int) (w : World) (K : Int → World → Prop) : denF Tryz.prog T.C39 T.A39 Tryz.f39 [.pointer (some ⟨m, 0, none⟩), .int .i64 s_] w (fun v w' => match v with | .int .i64 r0 => K r0 w' | _ => False) = S.api_Multi_Rollback m s_ w K := by kernel_rfl
theorem T.CO39 : CallOk Tryz.prog T.C39 := (CallOk.cons 23 T.ok23 (CallOk.cons 89 T.ok89 CallOk.nil))
def T.c39 (vs : List Value) (w : World) (K : Value → World → Prop) : Prop :=
  match vs with
  | [.pointer (some ⟨m, 0, none⟩), .int .i64 s_] => S.api_Multi_Rollback m s_ w (fun r0 w' => K (.int .i64 r0) w')
  | _ => False
theorem T.ok39 : ∀ vs w K, T.c39 vs w K → (callFunc 39 vs.toArray).run Tryz.prog w = .ok (.enter 39 vs.toArray) w ∧ Calls Tryz.prog 39 vs.toArray w fun e w' => ∃ v, e = .returned v ∧ K v w' := by
  intro vs w K h
  unfold T.c39 at h
  split at h
  · refine ⟨Tryz.call39 _ _, ok_of T.CO39 mixed Tryz.func39 (T.eq39 _ _ _ _) h fun v w' hk => ⟨v, rfl, ?_⟩⟩
    split at hk
    · exact hk
    · exact hk.elim
  · exact h.elim

/-- (*e2e/api.Multi).alone (function 90). -/
def S.api_Multi_alone (m : Nat) (s_ : Int) (w : World) (K : Int → World → Prop) : Prop :=
  S.api_GoodSess s_ w (fun r1 w =>
  if (!r1) = true then
    K 20 w
  else
    IxA 4 s_ <|
    LdB w ⟨m, 1 + Int.toNat s_ * 1, none⟩ fun Act_2 =>
    if Act_2 = true then
      K 3 w
    else
      LoopP (σ := Int × Unit) (fun st3 w next4 =>
        if (decide (st3.1 < 4)) = true then
          IxA 4 st3.1 <|
          LdB w ⟨m, 1 + Int.toNat st3.1 * 1, none⟩ fun Act_5 =>
          if Act_5 = true then
            K 21 w
          else
            Let (W (st3.1 + 1)) fun o_6 =>
            next4 (o_6, ()) w
        else
          K 0 w) (0, ()) w)
def T.C90 : CallT := (CallT.cons 23 T.c23 CallT.nil)
def T.A90 : Ann := fun i => bif Nat.beq i 6 then some ([0], [(5, 0)]) else none
set_option maxRecDepth 1000000 in
theorem T.eq90 (m : Nat) (s_ : Int) (w : World) (K : Int → World → Prop) : denF Tryz.prog T.C90 T.A90 Tryz.f90 [.pointer (some ⟨m, 0, none⟩), .int .i64 s_] w (fun v w' => match v with | .int .i64 r0 => K r0 w' | _ => False) = S.api_Multi_alone m s_ w K := by kernel_rfl
theorem T.CO90 : CallOk Tryz.prog T.C90 := (CallOk.cons 23 T.ok23 CallOk.nil)
def T.c90 (vs : List Value) (w : World) (K : Value → World → Prop) : Prop :=
  match vs with
  | [.pointer (some ⟨m, 0, none⟩), .int .i64 s_] => S.api_Multi_alone m s_ w (fun r0 w' => K (.int .i64 r0) w')
  | _ => False
theorem T.ok90 : ∀ vs w K, T.c90 vs w K → (callFunc 90 vs.toArray).run Tryz.prog w = .ok (.enter 90 vs.toArray) w ∧ Calls Tryz.prog 90 vs.toArray w fun e w' => ∃ v, e = .returned v ∧ K v w' := by
  intro vs w K h
  unfold T.c90 at h
  split at h
  · refine ⟨Tryz.call90 _ _, ok_of T.CO90 mixed Tryz.func90 (T.eq90 _ _ _ _) h fun v w' hk => ⟨v, rfl, ?_⟩⟩
    split at hk
    · exact hk
    · exact hk.elim
  · exact h.elim

/-- e2e/api.GoodCols (function 158). -/
def S.api_GoodCols (cols : Sl) (pk : Int) (w : World) (K : Bool → World → Prop) : Prop :=
  if (decide ((cols.l : Int) < 1)) = true then
    K false w
  else
    if (decide ((cols.l : Int) > 3)) = true then
      K false w
    else
      if (decide (pk < 0)) = true then
        K false w
      else
        if (decide (pk ≥ (cols.l : Int))) = true then
          K false w
        else
          LoopP (σ := Int × Unit) (fun st1 w next2 =>
            if (decide (st1.1 < (cols.l : Int))) = true then
              Ix cols.a cols.l st1.1 fun b3 o4 =>
              LdStr w ⟨b3, o4 + Int.toNat st1.1 * 2, none⟩ fun Name_5 =>
              S.api_GoodName Name_5 w (fun r6 w =>
              if (!r6) = true then
                K false w
              else
                Join (fun (w : World) =>
                  Let (W (st1.1 + 1)) fun i_7 =>
                  next2 (i_7, ()) w) fun J8 =>
                LoopP (σ := Int × Unit) (fun st9 w next10 =>
                  if (decide (st9.1 < st1.1)) = true then
                    Drew w fun w =>
                    Ix cols.a cols.l st9.1 fun b11 o12 =>
                    LdStr w ⟨b11, o12 + Int.toNat st9.1 * 2, none⟩ fun Name_13 =>
                    Ix cols.a cols.l st1.1 fun b14 o15 =>
                    LdStr w ⟨b14, o15 + Int.toNat st1.1 * 2, none⟩ fun Name_16 =>
                    if (Name_13.toList == Name_16.toList) = true then
                      K false w
                    else
                      Let (W (st9.1 + 1)) fun j_17 =>
                      next10 (j_17, ()) w
                  else
                    J8 w) (0, ()) w)
            else
              K true w) (0, ()) w
def T.C158 : CallT := (CallT.cons 157 T.c157 CallT.nil)
def T.A158 : Ann := fun i => bif Nat.beq i 9 then some ([0, 5], [(6, 0)]) else bif Nat.beq i 4 then some ([0], [(5, 0)]) else none
set_option maxRecDepth 1000000 in
theorem T.eq158 (cols : Sl) (pk : Int) (w : World) (K : Bool → World → Prop) : denF Tryz.prog T.C158 T.A158 Tryz.f158 [.slice cols.a cols.l cols.c, .int .i64 pk] w (fun v w' => match v with | .bool r0 => K r0 w' | _ => False) = S.api_GoodCols cols pk w K := by kernel_rfl
theorem T.CO158 : CallOk Tryz.prog T.C158 := (CallOk.cons 157 T.ok157 CallOk.nil)
def T.c158 (vs : List Value) (w : World) (K : Value → World → Prop) : Prop :=
  match vs with
  | [.slice colsa colsl colsc, .int .i64 pk] => S.api_GoodCols ⟨colsa, colsl, colsc⟩ pk w (fun r0 w' => K (.bool r0) w')
  | _ => False
theorem T.ok158 : ∀ vs w K, T.c158 vs w K → (callFunc 158 vs.toArray).run Tryz.prog w = .ok (.enter 158 vs.toArray) w ∧ Calls Tryz.prog 158 vs.toArray w fun e w' => ∃ v, e = .returned v ∧ K v w' := by
  intro vs w K h
  unfold T.c158 at h
  split at h
  · refine ⟨Tryz.call158 _ _, ok_of T.CO158 mixed Tryz.func158 (T.eq158 _ _ _ _) h fun v w' hk => ⟨v, rfl, ?_⟩⟩
    split at hk
    · exact hk
    · exact hk.elim
  · exact h.elim

/-- (*e2e/api.DB).CreateTable (function 91). -/
def S.api_DB_CreateTable (d : Nat) (name : ByteArray) (cols : Sl) (pk : Int) (w : World) (K : Int → World → Prop) : Prop :=
  S.api_GoodName name w (fun r1 w =>
  if (!r1) = true then
    K 12 w
  else
    S.api_GoodCols cols pk w (fun r2 w =>
    if (!r2) = true then
      K 13 w
    else
      S.api_DB_Find d 0 name w (fun r3 w =>
      if (decide (r3 ≥ 0)) = true then
        K 11 w
      else
        LdS w ⟨d, 0, none⟩ fun Tabs_4 =>
        if (decide ((Tabs_4.l : Int) ≥ 3)) = true then
          K 6 w
        else
          S.api_CloneSchema name cols pk (-1) w (fun Name_5 Cols_6 PK_7 Index_8 w =>
          New w (.cells #[.string ⟨#[]⟩, .slice none 0 0, .int .i64 0, .int .i64 0, .slice none 0 0] 174) fun p9 w =>
          St1 w ⟨p9, 0, none⟩ (.string Name_5) fun w =>
          St1 w ⟨p9, 1, none⟩ (.slice Cols_6.a Cols_6.l Cols_6.c) fun w =>
          St1 w ⟨p9, 2, none⟩ (.int .i64 PK_7) fun w =>
          St1 w ⟨p9, 3, none⟩ (.int .i64 Index_8) fun w =>
          St1 w ⟨p9, 4, none⟩ (.slice none 0 0) fun w =>
          Join (fun (i_10 : Int) (w : World) =>
            Drew w fun w =>
            Hold w ⟨d, 0, none⟩ 1 fun R11 =>
            LdS w ⟨d, 0, none⟩ fun Tabs_12 =>
            LdStr w ⟨p9, 0, none⟩ fun Sch_Name_13 =>
            LdS w ⟨p9, 1, none⟩ fun Sch_Cols_14 =>
            LdI .i64 w ⟨p9, 2, none⟩ fun Sch_PK_15 =>
            LdI .i64 w ⟨p9, 3, none⟩ fun Sch_Index_16 =>
            LdS w ⟨p9, 4, none⟩ fun Rows_17 =>
            New w (.cells #[.string Sch_Name_13, .slice Sch_Cols_14.a Sch_Cols_14.l Sch_Cols_14.c, .int .i64 Sch_PK_15, .int .i64 Sch_Index_16, .slice Rows_17.a Rows_17.l Rows_17.c] 174) fun p18 w =>
            After R11 w <|
            AppS 174 [.string ⟨#[]⟩, .slice none 0 0, .int .i64 0, .int .i64 0, .slice none 0 0] 80 5 w Tabs_12 ⟨some ⟨p18, 0, none⟩, 1, 1⟩ fun l19 w =>
            St1 w ⟨d, 0, none⟩ (.slice l19.a l19.l l19.c) fun w =>
            LdS w ⟨d, 0, none⟩ fun Tabs_20 =>
            Let (W ((Tabs_20.l : Int) - 1)) fun j_21 =>
            Join (fun (w : World) =>
              Drew w fun w =>
              LdS w ⟨d, 0, none⟩ fun Tabs_22 =>
              LdStr w ⟨p9, 0, none⟩ fun Sch_Name_23 =>
              LdS w ⟨p9, 1, none⟩ fun Sch_Cols_24 =>
              LdI .i64 w ⟨p9, 2, none⟩ fun Sch_PK_25 =>
              LdI .i64 w ⟨p9, 3, none⟩ fun Sch_Index_26 =>
              LdS w ⟨p9, 4, none⟩ fun Rows_27 =>
              Ix Tabs_22.a Tabs_22.l i_10 fun b28 o29 =>
              St1 w ⟨b28, o29 + Int.toNat i_10 * 5, none⟩ (.string Sch_Name_23) fun w =>
              St1 w ⟨b28, o29 + Int.toNat i_10 * 5 + 1, none⟩ (.slice Sch_Cols_24.a Sch_Cols_24.l Sch_Cols_24.c) fun w =>
              St1 w ⟨b28, o29 + Int.toNat i_10 * 5 + 2, none⟩ (.int .i64 Sch_PK_25) fun w =>
              St1 w ⟨b28, o29 + Int.toNat i_10 * 5 + 3, none⟩ (.int .i64 Sch_Index_26) fun w =>
              St1 w ⟨b28, o29 + Int.toNat i_10 * 5 + 4, none⟩ (.slice Rows_27.a Rows_27.l Rows_27.c) fun w =>
              K 0 w) fun J30 =>
            LoopP (σ := Int × Unit) (fun st31 w next32 =>
              if (decide (st31.1 > i_10)) = true then
                Drew w fun w =>
                LdS w ⟨d, 0, none⟩ fun Tabs_33 =>
                LdS w ⟨d, 0, none⟩ fun Tabs_34 =>
                Ix Tabs_34.a Tabs_34.l (W (st31.1 - 1)) fun b35 o36 =>
                LdStr w ⟨b35, o36 + Int.toNat (W (st31.1 - 1)) * 5, none⟩ fun Sch_Name_37 =>
                LdS w ⟨b35, o36 + Int.toNat (W (st31.1 - 1)) * 5 + 1, none⟩ fun Sch_Cols_38 =>
                LdI .i64 w ⟨b35, o36 + Int.toNat (W (st31.1 - 1)) * 5 + 2, none⟩ fun Sch_PK_39 =>
                LdI .i64 w ⟨b35, o36 + Int.toNat (W (st31.1 - 1)) * 5 + 3, none⟩ fun Sch_Index_40 =>
                LdS w ⟨b35, o36 + Int.toNat (W (st31.1 - 1)) * 5 + 4, none⟩ fun Rows_41 =>
                Ix Tabs_33.a Tabs_33.l st31.1 fun b42 o43 =>
                St1 w ⟨b42, o43 + Int.toNat st31.1 * 5, none⟩ (.string Sch_Name_37) fun w =>
                St1 w ⟨b42, o43 + Int.toNat st31.1 * 5 + 1, none⟩ (.slice Sch_Cols_38.a Sch_Cols_38.l Sch_Cols_38.c) fun w =>
                St1 w ⟨b42, o43 + Int.toNat st31.1 * 5 + 2, none⟩ (.int .i64 Sch_PK_39) fun w =>
                St1 w ⟨b42, o43 + Int.toNat st31.1 * 5 + 3, none⟩ (.int .i64 Sch_Index_40) fun w =>
                St1 w ⟨b42, o43 + Int.toNat st31.1 * 5 + 4, none⟩ (.slice Rows_41.a Rows_41.l Rows_41.c) fun w =>
                Let (W (st31.1 - 1)) fun j_44 =>
                next32 (j_44, ()) w
              else
                J30 w) (j_21, ()) w) fun J45 =>
          LoopP (σ := Int × Unit) (fun st46 w next47 =>
            LdS w ⟨d, 0, none⟩ fun Tabs_48 =>
            if (decide (st46.1 < (Tabs_48.l : Int))) = true then
              LdS w ⟨d, 0, none⟩ fun Tabs_49 =>
              Ix Tabs_49.a Tabs_49.l st46.1 fun b50 o51 =>
              LdStr w ⟨b50, o51 + Int.toNat st46.1 * 5, none⟩ fun Name_52 =>
              if (Op.bytesLess Name_52.toList name.toList) = true then
                Let (W (st46.1 + 1)) fun i_53 =>
                next47 (i_53, ()) w
              else
                J45 st46.1 w
            else
              J45 st46.1 w) (0, ()) w))))
def T.C91 : CallT := (CallT.cons 157 T.c157 (CallT.cons 158 T.c158 (CallT.cons 192 T.c192 (CallT.cons 190 T.c190 CallT.nil))))
def T.A91 : Ann := fun i => bif Nat.beq i 11 then some ([0, 1, 9], [(10, 0)]) else bif Nat.beq i 15 then some ([0, 9, 10], [(11, 0)]) else none
set_option maxRecDepth 1000000 in
theorem T.eq91 (d : Nat) (name : ByteArray) (cols : Sl) (pk : Int) (w : World) (K : Int → World → Prop) : denF Tryz.prog T.C91 T.A91 Tryz.f91 [.pointer (some ⟨d, 0, none⟩), .string name, .slice cols.a cols.l cols.c, .int .i64 pk] w (fun v w' => match v with | .int .i64 r0 => K r0 w' | _ => False) = S.api_DB_CreateTable d name cols pk w K := by kernel_rfl
theorem T.CO91 : CallOk Tryz.prog T.C91 := (CallOk.cons 157 T.ok157 (CallOk.cons 158 T.ok158 (CallOk.cons 192 T.ok192 (CallOk.cons 190 T.ok190 CallOk.nil))))
def T.c91 (vs : List Value) (w : World) (K : Value → World → Prop) : Prop :=
  match vs with
  | [.pointer (some ⟨d, 0, none⟩), .string name, .slice colsa colsl colsc, .int .i64 pk] => S.api_DB_CreateTable d name ⟨colsa, colsl, colsc⟩ pk w (fun r0 w' => K (.int .i64 r0) w')
  | _ => False
theorem T.ok91 : ∀ vs w K, T.c91 vs w K → (callFunc 91 vs.toArray).run Tryz.prog w = .ok (.enter 91 vs.toArray) w ∧ Calls Tryz.prog 91 vs.toArray w fun e w' => ∃ v, e = .returned v ∧ K v w' := by
  intro vs w K h
  unfold T.c91 at h
  split at h
  · refine ⟨Tryz.call91 _ _, ok_of T.CO91 mixed Tryz.func91 (T.eq91 _ _ _ _ _ _) h fun v w' hk => ⟨v, rfl, ?_⟩⟩
    split at hk
    · exact hk
    · exact hk.elim
  · exact h.elim

/-- (*e2e/api.Multi).CreateTable (function 40). -/
def S.api_Multi_CreateTable (m : Nat) (s_ : Int) (name : ByteArray) (cols : Sl) (pk : Int) (w : World) (K : Int → World → Prop) : Prop :=
  S.api_Multi_alone m s_ w (fun r1 w =>
  if (r1 != 0) = true then
    K r1 w
  else
    S.api_DB_CreateTable m name cols pk w (fun r2 w =>
    K r2 w))
def T.C40 : CallT := (CallT.cons 90 T.c90 (CallT.cons 91 T.c91 CallT.nil))
def T.A40 : Ann := fun _ => none
set_option maxRecDepth 1000000 in
theorem T.eq40 (m : Nat) (s_ : Int) (name : ByteArray) (cols : Sl) (pk : Int) (w : World) (K : Int → World → Prop) : denF Tryz.prog T.C40 T.A40 Tryz.f40 [.pointer (some ⟨m, 0, none⟩), .int .i64 s_, .string name, .slice cols.a cols.l cols.c, .int .i64 pk] w (fun v w' => match v with | .int .i64 r0 => K r0 w' | _ => False) = S.api_Multi_CreateTable m s_ name cols pk w K := by kernel_rfl
theorem T.CO40 : CallOk Tryz.prog T.C40 := (CallOk.cons 90 T.ok90 (CallOk.cons 91 T.ok91 CallOk.nil))
def T.c40 (vs : List Value) (w : World) (K : Value → World → Prop) : Prop :=
  match vs with
  | [.pointer (some ⟨m, 0, none⟩), .int .i64 s_, .string name, .slice colsa colsl colsc, .int .i64 pk] => S.api_Multi_CreateTable m s_ name ⟨colsa, colsl, colsc⟩ pk w (fun r0 w' => K (.int .i64 r0) w')
  | _ => False
theorem T.ok40 : ∀ vs w K, T.c40 vs w K → (callFunc 40 vs.toArray).run Tryz.prog w = .ok (.enter 40 vs.toArray) w ∧ Calls Tryz.prog 40 vs.toArray w fun e w' => ∃ v, e = .returned v ∧ K v w' := by
  intro vs w K h
  unfold T.c40 at h
  split at h
  · refine ⟨Tryz.call40 _ _, ok_of T.CO40 mixed Tryz.func40 (T.eq40 _ _ _ _ _ _ _) h fun v w' hk => ⟨v, rfl, ?_⟩⟩
    split at hk
    · exact hk
    · exact hk.elim
  · exact h.elim

/-- (*e2e/api.DB).DropTable (function 92). -/
def S.api_DB_DropTable (d : Nat) (name : ByteArray) (w : World) (K : Int → World → Prop) : Prop :=
  S.api_DB_Find d 0 name w (fun r1 w =>
  if (decide (r1 < 0)) = true then
    K 10 w
  else
    Join (fun (w : World) =>
      Drew w fun w =>
      LdS w ⟨d, 0, none⟩ fun Tabs_2 =>
      LdS w ⟨d, 0, none⟩ fun Tabs_3 =>
      CutS 5 Tabs_2 0 (W ((Tabs_3.l : Int) - 1)) (Tabs_2.c : Int) fun l4 =>
      St1 w ⟨d, 0, none⟩ (.slice l4.a l4.l l4.c) fun w =>
      K 0 w) fun J5 =>
    LoopP (σ := Int × Unit) (fun st6 w next7 =>
      LdS w ⟨d, 0, none⟩ fun Tabs_8 =>
      if (decide ((W (st6.1 + 1)) < (Tabs_8.l : Int))) = true then
        Drew w fun w =>
        LdS w ⟨d, 0, none⟩ fun Tabs_9 =>
        LdS w ⟨d, 0, none⟩ fun Tabs_10 =>
        Ix Tabs_10.a Tabs_10.l (W (st6.1 + 1)) fun b11 o12 =>
        LdStr w ⟨b11, o12 + Int.toNat (W (st6.1 + 1)) * 5, none⟩ fun Sch_Name_13 =>
        LdS w ⟨b11, o12 + Int.toNat (W (st6.1 + 1)) * 5 + 1, none⟩ fun Sch_Cols_14 =>
        LdI .i64 w ⟨b11, o12 + Int.toNat (W (st6.1 + 1)) * 5 + 2, none⟩ fun Sch_PK_15 =>
        LdI .i64 w ⟨b11, o12 + Int.toNat (W (st6.1 + 1)) * 5 + 3, none⟩ fun Sch_Index_16 =>
        LdS w ⟨b11, o12 + Int.toNat (W (st6.1 + 1)) * 5 + 4, none⟩ fun Rows_17 =>
        Ix Tabs_9.a Tabs_9.l st6.1 fun b18 o19 =>
        St1 w ⟨b18, o19 + Int.toNat st6.1 * 5, none⟩ (.string Sch_Name_13) fun w =>
        St1 w ⟨b18, o19 + Int.toNat st6.1 * 5 + 1, none⟩ (.slice Sch_Cols_14.a Sch_Cols_14.l Sch_Cols_14.c) fun w =>
        St1 w ⟨b18, o19 + Int.toNat st6.1 * 5 + 2, none⟩ (.int .i64 Sch_PK_15) fun w =>
        St1 w ⟨b18, o19 + Int.toNat st6.1 * 5 + 3, none⟩ (.int .i64 Sch_Index_16) fun w =>
        St1 w ⟨b18, o19 + Int.toNat st6.1 * 5 + 4, none⟩ (.slice Rows_17.a Rows_17.l Rows_17.c) fun w =>
        Let (W (st6.1 + 1)) fun j_20 =>
        next7 (j_20, ()) w
      else
        J5 w) (r1, ()) w)
def T.C92 : CallT := (CallT.cons 192 T.c192 CallT.nil)
def T.A92 : Ann := fun i => bif Nat.beq i 5 then some ([0], [(6, 0)]) else none
set_option maxRecDepth 1000000 in
theorem T.eq92 (d : Nat) (name : ByteArray) (w : World) (K : Int → World → Prop) : denF Tryz.prog T.C92 T.A92 Tryz.f92 [.pointer (some ⟨d, 0, none⟩), .string name] w (fun v w' => match v with | .int .i64 r0 => K r0 w' | _ => False) = S.api_DB_DropTable d name w K := by kernel_rfl
theorem T.CO92 : CallOk Tryz.prog T.C92 := (CallOk.cons 192 T.ok192 CallOk.nil)
def T.c92 (vs : List Value) (w : World) (K : Value → World → Prop) : Prop :=
  match vs with
  | [.pointer (some ⟨d, 0, none⟩), .string name] => S.api_DB_DropTable d name w (fun r0 w' => K (.int .i64 r0) w')
  | _ => False
theorem T.ok92 : ∀ vs w K, T.c92 vs w K → (callFunc 92 vs.toArray).run Tryz.prog w = .ok (.enter 92 vs.toArray) w ∧ Calls Tryz.prog 92 vs.toArray w fun e w' => ∃ v, e = .returned v ∧ K v w' := by
  intro vs w K h
  unfold T.c92 at h
  split at h
  · refine ⟨Tryz.call92 _ _, ok_of T.CO92 mixed Tryz.func92 (T.eq92 _ _ _ _) h fun v w' hk => ⟨v, rfl, ?_⟩⟩
    split at hk
    · exact hk
    · exact hk.elim
  · exact h.elim

/-- (*e2e/api.Multi).DropTable (function 41). -/
def S.api_Multi_DropTable (m : Nat) (s_ : Int) (name : ByteArray) (w : World) (K : Int → World → Prop) : Prop :=
  S.api_Multi_alone m s_ w (fun r1 w =>
  if (r1 != 0) = true then
    K r1 w
  else
    S.api_DB_DropTable m name w (fun r2 w =>
    K r2 w))
def T.C41 : CallT := (CallT.cons 90 T.c90 (CallT.cons 92 T.c92 CallT.nil))
def T.A41 : Ann := fun _ => none
set_option maxRecDepth 1000000 in
theorem T.eq41 (m : Nat) (s_ : Int) (name : ByteArray) (w : World) (K : Int → World → Prop) : denF Tryz.prog T.C41 T.A41 Tryz.f41 [.pointer (some ⟨m, 0, none⟩), .int .i64 s_, .string name] w (fun v w' => match v with | .int .i64 r0 => K r0 w' | _ => False) = S.api_Multi_DropTable m s_ name w K := by kernel_rfl
theorem T.CO41 : CallOk Tryz.prog T.C41 := (CallOk.cons 90 T.ok90 (CallOk.cons 92 T.ok92 CallOk.nil))
def T.c41 (vs : List Value) (w : World) (K : Value → World → Prop) : Prop :=
  match vs with
  | [.pointer (some ⟨m, 0, none⟩), .int .i64 s_, .string name] => S.api_Multi_DropTable m s_ name w (fun r0 w' => K (.int .i64 r0) w')
  | _ => False
theorem T.ok41 : ∀ vs w K, T.c41 vs w K → (callFunc 41 vs.toArray).run Tryz.prog w = .ok (.enter 41 vs.toArray) w ∧ Calls Tryz.prog 41 vs.toArray w fun e w' => ∃ v, e = .returned v ∧ K v w' := by
  intro vs w K h
  unfold T.c41 at h
  split at h
  · refine ⟨Tryz.call41 _ _, ok_of T.CO41 mixed Tryz.func41 (T.eq41 _ _ _ _ _) h fun v w' hk => ⟨v, rfl, ?_⟩⟩
    split at hk
    · exact hk
    · exact hk.elim
  · exact h.elim

/-- (*e2e/api.DB).CreateIndex (function 193). -/
def S.api_DB_CreateIndex (d : Nat) (name : ByteArray) (col : Int) (w : World) (K : Int → World → Prop) : Prop :=
  S.api_DB_Find d 0 name w (fun r1 w =>
  if (decide (r1 < 0)) = true then
    K 10 w
  else
    if (decide (col < 0)) = true then
      K 14 w
    else
      LdS w ⟨d, 0, none⟩ fun Tabs_2 =>
      Ix Tabs_2.a Tabs_2.l r1 fun b3 o4 =>
      LdS w ⟨b3, o4 + Int.toNat r1 * 5 + 1, none⟩ fun Cols_5 =>
      if (decide (col ≥ (Cols_5.l : Int))) = true then
        K 14 w
      else
        LdS w ⟨d, 0, none⟩ fun Tabs_6 =>
        Ix Tabs_6.a Tabs_6.l r1 fun b7 o8 =>
        LdI .i64 w ⟨b7, o8 + Int.toNat r1 * 5 + 2, none⟩ fun PK_9 =>
        if (col == PK_9) = true then
          K 18 w
        else
          LdS w ⟨d, 0, none⟩ fun Tabs_10 =>
          Ix Tabs_10.a Tabs_10.l r1 fun b11 o12 =>
          LdI .i64 w ⟨b11, o12 + Int.toNat r1 * 5 + 3, none⟩ fun Index_13 =>
          if (decide (Index_13 ≥ 0)) = true then
            K 11 w
          else
            LdS w ⟨d, 0, none⟩ fun Tabs_14 =>
            Ix Tabs_14.a Tabs_14.l r1 fun b15 o16 =>
            St1 w ⟨b15, o16 + Int.toNat r1 * 5 + 3, none⟩ (.int .i64 col) fun w =>
            K 0 w)
def T.C193 : CallT := (CallT.cons 192 T.c192 CallT.nil)
def T.A193 : Ann := fun _ => none
set_option maxRecDepth 1000000 in
theorem T.eq193 (d : Nat) (name : ByteArray) (col : Int) (w : World) (K : Int → World → Prop) : denF Tryz.prog T.C193 T.A193 Tryz.f193 [.pointer (some ⟨d, 0, none⟩), .string name, .int .i64 col] w (fun v w' => match v with | .int .i64 r0 => K r0 w' | _ => False) = S.api_DB_CreateIndex d name col w K := by kernel_rfl
theorem T.CO193 : CallOk Tryz.prog T.C193 := (CallOk.cons 192 T.ok192 CallOk.nil)
def T.c193 (vs : List Value) (w : World) (K : Value → World → Prop) : Prop :=
  match vs with
  | [.pointer (some ⟨d, 0, none⟩), .string name, .int .i64 col] => S.api_DB_CreateIndex d name col w (fun r0 w' => K (.int .i64 r0) w')
  | _ => False
theorem T.ok193 : ∀ vs w K, T.c193 vs w K → (callFunc 193 vs.toArray).run Tryz.prog w = .ok (.enter 193 vs.toArray) w ∧ Calls Tryz.prog 193 vs.toArray w fun e w' => ∃ v, e = .returned v ∧ K v w' := by
  intro vs w K h
  unfold T.c193 at h
  split at h
  · refine ⟨Tryz.call193 _ _, ok_of T.CO193 mixed Tryz.func193 (T.eq193 _ _ _ _ _) h fun v w' hk => ⟨v, rfl, ?_⟩⟩
    split at hk
    · exact hk
    · exact hk.elim
  · exact h.elim

/-- (*e2e/api.Multi).CreateIndex (function 95). -/
def S.api_Multi_CreateIndex (m : Nat) (s_ : Int) (name : ByteArray) (col : Int) (w : World) (K : Int → World → Prop) : Prop :=
  S.api_Multi_alone m s_ w (fun r1 w =>
  if (r1 != 0) = true then
    K r1 w
  else
    S.api_DB_CreateIndex m name col w (fun r2 w =>
    K r2 w))
def T.C95 : CallT := (CallT.cons 90 T.c90 (CallT.cons 193 T.c193 CallT.nil))
def T.A95 : Ann := fun _ => none
set_option maxRecDepth 1000000 in
theorem T.eq95 (m : Nat) (s_ : Int) (name : ByteArray) (col : Int) (w : World) (K : Int → World → Prop) : denF Tryz.prog T.C95 T.A95 Tryz.f95 [.pointer (some ⟨m, 0, none⟩), .int .i64 s_, .string name, .int .i64 col] w (fun v w' => match v with | .int .i64 r0 => K r0 w' | _ => False) = S.api_Multi_CreateIndex m s_ name col w K := by kernel_rfl
theorem T.CO95 : CallOk Tryz.prog T.C95 := (CallOk.cons 90 T.ok90 (CallOk.cons 193 T.ok193 CallOk.nil))
def T.c95 (vs : List Value) (w : World) (K : Value → World → Prop) : Prop :=
  match vs with
  | [.pointer (some ⟨m, 0, none⟩), .int .i64 s_, .string name, .int .i64 col] => S.api_Multi_CreateIndex m s_ name col w (fun r0 w' => K (.int .i64 r0) w')
  | _ => False
theorem T.ok95 : ∀ vs w K, T.c95 vs w K → (callFunc 95 vs.toArray).run Tryz.prog w = .ok (.enter 95 vs.toArray) w ∧ Calls Tryz.prog 95 vs.toArray w fun e w' => ∃ v, e = .returned v ∧ K v w' := by
  intro vs w K h
  unfold T.c95 at h
  split at h
  · refine ⟨Tryz.call95 _ _, ok_of T.CO95 mixed Tryz.func95 (T.eq95 _ _ _ _ _ _) h fun v w' hk => ⟨v, rfl, ?_⟩⟩
    split at hk
    · exact hk
    · exact hk.elim
  · exact h.elim

/-- e2e/querym.colOf (function 94). -/
def S.querym_colOf (sch_Name : ByteArray) (sch_Cols : Sl) (sch_PK : Int) (sch_Index : Int) (name : ByteArray) (w : World) (K : Int → World → Prop) : Prop :=
  New w (.cells #[.string sch_Name, .slice sch_Cols.a sch_Cols.l sch_Cols.c, .int .i64 sch_PK, .int .i64 sch_Index] 73) fun p1 w =>
  LoopP (σ := Int × Unit) (fun st2 w next3 =>
    LdS w ⟨p1, 1, none⟩ fun Cols_4 =>
    if (decide (st2.1 < (Cols_4.l : Int))) = true then
      LdS w ⟨p1, 1, none⟩ fun Cols_5 =>
      Ix Cols_5.a Cols_5.l st2.1 fun b6 o7 =>
      LdStr w ⟨b6, o7 + Int.toNat st2.1 * 2, none⟩ fun Name_8 =>
      if (Name_8.toList == name.toList) = true then
        K st2.1 w
      else
        Let (W (st2.1 + 1)) fun i_9 =>
        next3 (i_9, ()) w
    else
      K (-1) w) (0, ()) w
def T.C94 : CallT := CallT.nil
def T.A94 : Ann := fun i => bif Nat.beq i 2 then some ([1, 2], [(5, 0)]) else none
set_option maxRecDepth 1000000 in
theorem T.eq94 (sch_Name : ByteArray) (sch_Cols : Sl) (sch_PK : Int) (sch_Index : Int) (name : ByteArray) (w : World) (K : Int → World → Prop) : denF Tryz.prog T.C94 T.A94 Tryz.f94 [.agg #[.string sch_Name, .slice sch_Cols.a sch_Cols.l sch_Cols.c, .int .i64 sch_PK, .int .i64 sch_Index], .string name] w (fun v w' => match v with | .int .i64 r0 => K r0 w' | _ => False) = S.querym_colOf sch_Name sch_Cols sch_PK sch_Index name w K := by kernel_rfl
theorem T.CO94 : CallOk Tryz.prog T.C94 := CallOk.nil
def T.c94 (vs : List Value) (w : World) (K : Value → World → Prop) : Prop :=
  match vs with
  | [.agg ⟨[.string sch_Name, .slice sch_Colsa sch_Colsl sch_Colsc, .int .i64 sch_PK, .int .i64 sch_Index]⟩, .string name] => S.querym_colOf sch_Name ⟨sch_Colsa, sch_Colsl, sch_Colsc⟩ sch_PK sch_Index name w (fun r0 w' => K (.int .i64 r0) w')
  | _ => False
theorem T.ok94 : ∀ vs w K, T.c94 vs w K → (callFunc 94 vs.toArray).run Tryz.prog w = .ok (.enter 94 vs.toArray) w ∧ Calls Tryz.prog 94 vs.toArray w fun e w' => ∃ v, e = .returned v ∧ K v w' := by
  intro vs w K h
  unfold T.c94 at h
  split at h
  · refine ⟨Tryz.call94 _ _, ok_of T.CO94 mixed Tryz.func94 (T.eq94 _ _ _ _ _ _ _) h fun v w' hk => ⟨v, rfl, ?_⟩⟩
    split at hk
    · exact hk
    · exact hk.elim
  · exact h.elim

/-- (*e2e/querym.Engine).createIndex (function 42). -/
def S.querym_Engine_createIndex (q : Nat) (s_ : Int) (st_kind : Int) (st_table : ByteArray) (st_cols : Sl) (st_pk : Int) (st_names : Sl) (st_vals : Sl) (st_star : Bool) (st_where : Sl) (st_order : ByteArray) (st_desc : Bool) (st_hasLimit : Bool) (st_limit : Int) (w : World) (K : Int → World → Prop) : Prop :=
  New w (.cells #[.int .i64 st_kind, .string st_table, .slice st_cols.a st_cols.l st_cols.c, .int .i64 st_pk, .slice st_names.a st_names.l st_names.c, .slice st_vals.a st_vals.l st_vals.c, .bool st_star, .slice st_where.a st_where.l st_where.c, .string st_order, .bool st_desc, .bool st_hasLimit, .int .i64 st_limit] 81) fun p1 w =>
  Join (fun (sch_2 : Nat) (e_3 : Int) (w : World) =>
    Join (fun (c_4 : Int) (w : World) =>
      Drew w fun w =>
      LdP w ⟨q, 0, none⟩ fun m_5 =>
      LdStr w ⟨p1, 1, none⟩ fun table_6 =>
      S.api_Multi_CreateIndex m_5 s_ table_6 c_4 w (fun r7 w =>
      K r7 w)) fun J8 =>
    if (e_3 == 0) = true then
      Drew w fun w =>
      LdStr w ⟨sch_2, 0, none⟩ fun Name_9 =>
      LdS w ⟨sch_2, 1, none⟩ fun Cols_10 =>
      LdI .i64 w ⟨sch_2, 2, none⟩ fun PK_11 =>
      LdI .i64 w ⟨sch_2, 3, none⟩ fun Index_12 =>
      LdS w ⟨p1, 4, none⟩ fun names_13 =>
      Ix names_13.a names_13.l 0 fun b14 o15 =>
      LdStr w ⟨b14, o15 + Int.toNat 0 * 1, none⟩ fun x_16 =>
      S.querym_colOf Name_9 Cols_10 PK_11 Index_12 x_16 w (fun r17 w =>
      J8 r17 w)
    else
      J8 (-1) w) fun J18 =>
  Drew w fun w =>
  Hold w ⟨q, 0, none⟩ 1 fun R19 =>
  LdP w ⟨q, 0, none⟩ fun m_20 =>
  Hold w ⟨p1, 1, none⟩ 1 fun R21 =>
  LdStr w ⟨p1, 1, none⟩ fun table_22 =>
  (S.api_DB_SchemaOf m_20 table_22 w (fun Name_23 Cols_24 PK_25 Index_26 r27 w =>
  New w (.cells #[.string ⟨#[]⟩, .slice none 0 0, .int .i64 0, .int .i64 0] 73) fun p28 w =>
  After R21 w <|
  After R19 w <|
  St1 w ⟨p28, 0, none⟩ (.string Name_23) fun w =>
  St1 w ⟨p28, 1, none⟩ (.slice Cols_24.a Cols_24.l Cols_24.c) fun w =>
  St1 w ⟨p28, 2, none⟩ (.int .i64 PK_25) fun w =>
  St1 w ⟨p28, 3, none⟩ (.int .i64 Index_26) fun w =>
  J18 p28 r27 w)) ∧
  (New w (.cells #[.string ⟨#[]⟩, .slice none 0 0, .int .i64 0, .int .i64 0] 73) fun p29 w =>
  After R21 w <|
  After R19 w <|
  S.api_DB_SchemaOf m_20 table_22 w (fun Name_30 Cols_31 PK_32 Index_33 r34 w =>
  St1 w ⟨p29, 0, none⟩ (.string Name_30) fun w =>
  St1 w ⟨p29, 1, none⟩ (.slice Cols_31.a Cols_31.l Cols_31.c) fun w =>
  St1 w ⟨p29, 2, none⟩ (.int .i64 PK_32) fun w =>
  St1 w ⟨p29, 3, none⟩ (.int .i64 Index_33) fun w =>
  J18 p29 r34 w))
def T.C42 : CallT := (CallT.cons 95 T.c95 (CallT.cons 94 T.c94 (CallT.cons 93 T.c93 CallT.nil)))
def T.A42 : Ann := fun _ => none
set_option maxRecDepth 1000000 in
theorem T.eq42 (q : Nat) (s_ : Int) (st_kind : Int) (st_table : ByteArray) (st_cols : Sl) (st_pk : Int) (st_names : Sl) (st_vals : Sl) (st_star : Bool) (st_where : Sl) (st_order : ByteArray) (st_desc : Bool) (st_hasLimit : Bool) (st_limit : Int) (w : World) (K : Int → World → Prop) : denF Tryz.prog T.C42 T.A42 Tryz.f42 [.pointer (some ⟨q, 0, none⟩), .int .i64 s_, .agg #[.int .i64 st_kind, .string st_table, .slice st_cols.a st_cols.l st_cols.c, .int .i64 st_pk, .slice st_names.a st_names.l st_names.c, .slice st_vals.a st_vals.l st_vals.c, .bool st_star, .slice st_where.a st_where.l st_where.c, .string st_order, .bool st_desc, .bool st_hasLimit, .int .i64 st_limit]] w (fun v w' => match v with | .int .i64 r0 => K r0 w' | _ => False) = S.querym_Engine_createIndex q s_ st_kind st_table st_cols st_pk st_names st_vals st_star st_where st_order st_desc st_hasLimit st_limit w K := by kernel_rfl
theorem T.CO42 : CallOk Tryz.prog T.C42 := (CallOk.cons 95 T.ok95 (CallOk.cons 94 T.ok94 (CallOk.cons 93 T.ok93 CallOk.nil)))
def T.c42 (vs : List Value) (w : World) (K : Value → World → Prop) : Prop :=
  match vs with
  | [.pointer (some ⟨q, 0, none⟩), .int .i64 s_, .agg ⟨[.int .i64 st_kind, .string st_table, .slice st_colsa st_colsl st_colsc, .int .i64 st_pk, .slice st_namesa st_namesl st_namesc, .slice st_valsa st_valsl st_valsc, .bool st_star, .slice st_wherea st_wherel st_wherec, .string st_order, .bool st_desc, .bool st_hasLimit, .int .i64 st_limit]⟩] => S.querym_Engine_createIndex q s_ st_kind st_table ⟨st_colsa, st_colsl, st_colsc⟩ st_pk ⟨st_namesa, st_namesl, st_namesc⟩ ⟨st_valsa, st_valsl, st_valsc⟩ st_star ⟨st_wherea, st_wherel, st_wherec⟩ st_order st_desc st_hasLimit st_limit w (fun r0 w' => K (.int .i64 r0) w')
  | _ => False
theorem T.ok42 : ∀ vs w K, T.c42 vs w K → (callFunc 42 vs.toArray).run Tryz.prog w = .ok (.enter 42 vs.toArray) w ∧ Calls Tryz.prog 42 vs.toArray w fun e w' => ∃ v, e = .returned v ∧ K v w' := by
  intro vs w K h
  unfold T.c42 at h
  split at h
  · refine ⟨Tryz.call42 _ _, ok_of T.CO42 mixed Tryz.func42 (T.eq42 _ _ _ _ _ _ _ _ _ _ _ _ _ _ _ _) h fun v w' hk => ⟨v, rfl, ?_⟩⟩
    split at hk
    · exact hk
    · exact hk.elim
  · exact h.elim

/-- (*e2e/api.Multi).Take (function 194). -/
def S.api_Multi_Take (m : Nat) (s_ : Int) (name : ByteArray) (mode : Int) (w : World) (K : Int → World → Prop) : Prop :=
  S.api_GoodSess s_ w (fun r1 w =>
  if (!r1) = true then
    K 20 w
  else
    IxA 4 s_ <|
    LdB w ⟨m, 1 + Int.toNat s_ * 1, none⟩ fun Act_2 =>
    if (!Act_2) = true then
      K 2 w
    else
      S.api_DB_Find m 0 name w (fun r3 w =>
      if (decide (r3 < 0)) = true then
        K 10 w
      else
        Join (fun (w : World) =>
          Join (fun (w : World) =>
            IxA 4 s_ <|
            IxA 3 r3 <|
            LdI .i64 w ⟨m, 5 + Int.toNat s_ * 3 + Int.toNat r3 * 1, none⟩ fun Lock_4 =>
            if (decide (mode > Lock_4)) = true then
              IxA 4 s_ <|
              IxA 3 r3 <|
              St1 w ⟨m, 5 + Int.toNat s_ * 3 + Int.toNat r3 * 1, none⟩ (.int .i64 mode) fun w =>
              K 0 w
            else
              K 0 w) fun J5 =>
          if (mode == 2) = true then
            IxA 4 s_ <|
            IxA 3 r3 <|
            LdI .i64 w ⟨m, 5 + Int.toNat s_ * 3 + Int.toNat r3 * 1, none⟩ fun Lock_6 =>
            if (Lock_6 != 2) = true then
              Drew w fun w =>
              IxA 4 s_ <|
              Hold w ⟨m, 17 + Int.toNat s_ * 1, none⟩ 1 fun R7 =>
              LdS w ⟨m, 17 + Int.toNat s_ * 1, none⟩ fun Tabs_8 =>
              LdS w ⟨m, 0, none⟩ fun Tabs_9 =>
              Ix Tabs_9.a Tabs_9.l r3 fun b10 o11 =>
              LdStr w ⟨b10, o11 + Int.toNat r3 * 5, none⟩ fun Sch_Name_12 =>
              LdS w ⟨b10, o11 + Int.toNat r3 * 5 + 1, none⟩ fun Sch_Cols_13 =>
              LdI .i64 w ⟨b10, o11 + Int.toNat r3 * 5 + 2, none⟩ fun Sch_PK_14 =>
              LdI .i64 w ⟨b10, o11 + Int.toNat r3 * 5 + 3, none⟩ fun Sch_Index_15 =>
              LdS w ⟨b10, o11 + Int.toNat r3 * 5 + 4, none⟩ fun Rows_16 =>
              S.api_CloneTable Sch_Name_12 Sch_Cols_13 Sch_PK_14 Sch_Index_15 Rows_16 w (fun Sch_Name_17 Sch_Cols_18 Sch_PK_19 Sch_Index_20 Rows_21 w =>
              After R7 w <|
              Ix Tabs_8.a Tabs_8.l r3 fun b22 o23 =>
              St1 w ⟨b22, o23 + Int.toNat r3 * 5, none⟩ (.string Sch_Name_17) fun w =>
              St1 w ⟨b22, o23 + Int.toNat r3 * 5 + 1, none⟩ (.slice Sch_Cols_18.a Sch_Cols_18.l Sch_Cols_18.c) fun w =>
              St1 w ⟨b22, o23 + Int.toNat r3 * 5 + 2, none⟩ (.int .i64 Sch_PK_19) fun w =>
              St1 w ⟨b22, o23 + Int.toNat r3 * 5 + 3, none⟩ (.int .i64 Sch_Index_20) fun w =>
              St1 w ⟨b22, o23 + Int.toNat r3 * 5 + 4, none⟩ (.slice Rows_21.a Rows_21.l Rows_21.c) fun w =>
              J5 w)
            else
              J5 w
          else
            J5 w) fun J24 =>
        LoopP (σ := Int × Unit) (fun st25 w next26 =>
          if (decide (st25.1 < 4)) = true then
            Join (fun (w : World) =>
              Let (W (st25.1 + 1)) fun o_27 =>
              next26 (o_27, ()) w) fun J28 =>
            if (st25.1 != s_) = true then
              IxA 4 st25.1 <|
              IxA 3 r3 <|
              LdI .i64 w ⟨m, 5 + Int.toNat st25.1 * 3 + Int.toNat r3 * 1, none⟩ fun Lock_29 =>
              if (Lock_29 == 2) = true then
                K 21 w
              else
                if (mode == 2) = true then
                  IxA 4 st25.1 <|
                  IxA 3 r3 <|
                  LdI .i64 w ⟨m, 5 + Int.toNat st25.1 * 3 + Int.toNat r3 * 1, none⟩ fun Lock_30 =>
                  if (Lock_30 != 0) = true then
                    K 21 w
                  else
                    J28 w
                else
                  J28 w
            else
              J28 w
          else
            J24 w) (0, ()) w))
def T.C194 : CallT := (CallT.cons 23 T.c23 (CallT.cons 192 T.c192 (CallT.cons 88 T.c88 CallT.nil)))
def T.A194 : Ann := fun i => bif Nat.beq i 9 then some ([0, 1, 3, 9], [(10, 0)]) else none
set_option maxRecDepth 1000000 in
theorem T.eq194 (m : Nat) (s_ : Int) (name : ByteArray) (mode : Int) (w : World) (K : Int → World → Prop) : denF Tryz.prog T.C194 T.A194 Tryz.f194 [.pointer (some ⟨m, 0, none⟩), .int .i64 s_, .string name, .int .i64 mode] w (fun v w' => match v with | .int .i64 r0 => K r0 w' | _ => False) = S.api_Multi_Take m s_ name mode w K := by kernel_rfl
theorem T.CO194 : CallOk Tryz.prog T.C194 := (CallOk.cons 23 T.ok23 (CallOk.cons 192 T.ok192 (CallOk.cons 88 T.ok88 CallOk.nil)))
def T.c194 (vs : List Value) (w : World) (K : Value → World → Prop) : Prop :=
  match vs with
  | [.pointer (some ⟨m, 0, none⟩), .int .i64 s_, .string name, .int .i64 mode] => S.api_Multi_Take m s_ name mode w (fun r0 w' => K (.int .i64 r0) w')
  | _ => False
theorem T.ok194 : ∀ vs w K, T.c194 vs w K → (callFunc 194 vs.toArray).run Tryz.prog w = .ok (.enter 194 vs.toArray) w ∧ Calls Tryz.prog 194 vs.toArray w fun e w' => ∃ v, e = .returned v ∧ K v w' := by
  intro vs w K h
  unfold T.c194 at h
  split at h
  · refine ⟨Tryz.call194 _ _, ok_of T.CO194 mixed Tryz.func194 (T.eq194 _ _ _ _ _ _) h fun v w' hk => ⟨v, rfl, ?_⟩⟩
    split at hk
    · exact hk
    · exact hk.elim
  · exact h.elim

/-- e2e/api.CheckRow (function 235). -/
def S.api_CheckRow (s_Name : ByteArray) (s_Cols : Sl) (s_PK : Int) (s_Index : Int) (row : Sl) (w : World) (K : Int → World → Prop) : Prop :=
  New w (.cells #[.string s_Name, .slice s_Cols.a s_Cols.l s_Cols.c, .int .i64 s_PK, .int .i64 s_Index] 73) fun p1 w =>
  LdS w ⟨p1, 1, none⟩ fun Cols_2 =>
  if ((row.l : Int) != (Cols_2.l : Int)) = true then
    K 15 w
  else
    Join (fun (w : World) =>
      LoopP (σ := Int × Unit) (fun st3 w next4 =>
        if (decide (st3.1 < (row.l : Int))) = true then
          Ix row.a row.l st3.1 fun b5 o6 =>
          LdStr w ⟨b5, o6 + Int.toNat st3.1 * 3 + 2, none⟩ fun S_7 =>
          if (decide ((S_7.size : Int) > 7)) = true then
            K 16 w
          else
            Let (W (st3.1 + 1)) fun i_8 =>
            next4 (i_8, ()) w
        else
          K 0 w) (0, ()) w) fun J9 =>
    LoopP (σ := Int × Unit) (fun st10 w next11 =>
      if (decide (st10.1 < (row.l : Int))) = true then
        Drew w fun w =>
        Ix row.a row.l st10.1 fun b12 o13 =>
        LdB w ⟨b12, o13 + Int.toNat st10.1 * 3, none⟩ fun IsStr_14 =>
        LdS w ⟨p1, 1, none⟩ fun Cols_15 =>
        Ix Cols_15.a Cols_15.l st10.1 fun b16 o17 =>
        LdB w ⟨b16, o17 + Int.toNat st10.1 * 2 + 1, none⟩ fun IsStr_18 =>
        if (!(IsStr_14 == IsStr_18)) = true then
          K 15 w
        else
          Let (W (st10.1 + 1)) fun i_19 =>
          next11 (i_19, ()) w
      else
        J9 w) (0, ()) w
def T.C235 : CallT := CallT.nil
def T.A235 : Ann := fun i => bif Nat.beq i 4 then some ([1, 2], [(5, 0)]) else bif Nat.beq i 9 then some ([1], [(6, 0)]) else none
set_option maxRecDepth 1000000 in
theorem T.eq235 (s_Name : ByteArray) (s_Cols : Sl) (s_PK : Int) (s_Index : Int) (row : Sl) (w : World) (K : Int → World → Prop) : denF Tryz.prog T.C235 T.A235 Tryz.f235 [.agg #[.string s_Name, .slice s_Cols.a s_Cols.l s_Cols.c, .int .i64 s_PK, .int .i64 s_Index], .slice row.a row.l row.c] w (fun v w' => match v with | .int .i64 r0 => K r0 w' | _ => False) = S.api_CheckRow s_Name s_Cols s_PK s_Index row w K := by kernel_rfl
theorem T.CO235 : CallOk Tryz.prog T.C235 := CallOk.nil
def T.c235 (vs : List Value) (w : World) (K : Value → World → Prop) : Prop :=
  match vs with
  | [.agg ⟨[.string s_Name, .slice s_Colsa s_Colsl s_Colsc, .int .i64 s_PK, .int .i64 s_Index]⟩, .slice rowa rowl rowc] => S.api_CheckRow s_Name ⟨s_Colsa, s_Colsl, s_Colsc⟩ s_PK s_Index ⟨rowa, rowl, rowc⟩ w (fun r0 w' => K (.int .i64 r0) w')
  | _ => False
theorem T.ok235 : ∀ vs w K, T.c235 vs w K → (callFunc 235 vs.toArray).run Tryz.prog w = .ok (.enter 235 vs.toArray) w ∧ Calls Tryz.prog 235 vs.toArray w fun e w' => ∃ v, e = .returned v ∧ K v w' := by
  intro vs w K h
  unfold T.c235 at h
  split at h
  · refine ⟨Tryz.call235 _ _, ok_of T.CO235 mixed Tryz.func235 (T.eq235 _ _ _ _ _ _ _) h fun v w' hk => ⟨v, rfl, ?_⟩⟩
    split at hk
    · exact hk
    · exact hk.elim
  · exact h.elim
end Go.Proofs.Qxb6500564aGreat
