/-
  MADE BY PROGRAM (my own gen2.py) out of the translation: the Go functions as typed texts, each tied to the model by the kernel.
-/
import Derived.Test.Qxb6500564aGreatS1
set_option linter.unusedVariables false
namespace Go.Proofs.Qxb6500564aGreat
open Go.Den

/-- (*e2e/txn.Mgr).slotOf (function 274). -/
def S.txn_Mgr_slotOf (g : Nat) (name : ByteArray) (w : World) (K : Int → World → Prop) : Prop :=
  LoopP (σ := Int × Unit) (fun st1 w next2 =>
    if (decide (st1.1 < 3)) = true then
      Join (fun (w : World) =>
        Let (W (st1.1 + 1)) fun i_3 =>
        next2 (i_3, ()) w) fun J4 =>
      IxA 3 st1.1 <|
      LdB w ⟨g, 5 + Int.toNat st1.1 * 6, none⟩ fun used_5 =>
      if used_5 = true then
        IxA 3 st1.1 <|
        LdStr w ⟨g, 5 + Int.toNat st1.1 * 6 + 1, none⟩ fun name_6 =>
        if (name_6.toList == name.toList) = true then
          K st1.1 w
        else
          J4 w
      else
        J4 w
    else
      K (-1) w) (0, ()) w
def T.C274 : CallT := CallT.nil
def T.A274 : Ann := fun i => bif Nat.beq i 2 then some ([0, 1], [(5, 0)]) else none
set_option maxRecDepth 1000000 in
theorem T.eq274 (g : Nat) (name : ByteArray) (w : World) (K : Int → World → Prop) : denF Tryz.prog T.C274 T.A274 Tryz.f274 [.pointer (some ⟨g, 0, none⟩), .string name] w (fun v w' => match v with | .int .i64 r0 => K r0 w' | _ => False) = S.txn_Mgr_slotOf g name w K := by kernel_rfl
theorem T.CO274 : CallOk Tryz.prog T.C274 := CallOk.nil
def T.c274 (vs : List Value) (w : World) (K : Value → World → Prop) : Prop :=
  match vs with
  | [.pointer (some ⟨g, 0, none⟩), .string name] => S.txn_Mgr_slotOf g name w (fun r0 w' => K (.int .i64 r0) w')
  | _ => False
theorem T.ok274 : ∀ vs w K, T.c274 vs w K → (callFunc 274 vs.toArray).run Tryz.prog w = .ok (.enter 274 vs.toArray) w ∧ Calls Tryz.prog 274 vs.toArray w fun e w' => ∃ v, e = .returned v ∧ K v w' := by
  intro vs w K h
  unfold T.c274 at h
  split at h
  · refine ⟨Tryz.call274 _ _, ok_of T.CO274 mixed Tryz.func274 (T.eq274 _ _ _ _) h fun v w' hk => ⟨v, rfl, ?_⟩⟩
    split at hk
    · exact hk
    · exact hk.elim
  · exact h.elim

/-- e2e/api.GoodSess (function 23). -/
def S.api_GoodSess (s_ : Int) (w : World) (K : Bool → World → Prop) : Prop :=
  if (decide (s_ ≥ 0)) = true then
    K (decide (s_ < 4)) w
  else
    K false w
def T.C23 : CallT := CallT.nil
def T.A23 : Ann := fun _ => none
set_option maxRecDepth 1000000 in
theorem T.eq23 (s_ : Int) (w : World) (K : Bool → World → Prop) : denF Tryz.prog T.C23 T.A23 Tryz.f23 [.int .i64 s_] w (fun v w' => match v with | .bool r0 => K r0 w' | _ => False) = S.api_GoodSess s_ w K := by kernel_rfl
theorem T.CO23 : CallOk Tryz.prog T.C23 := CallOk.nil
def T.c23 (vs : List Value) (w : World) (K : Value → World → Prop) : Prop :=
  match vs with
  | [.int .i64 s_] => S.api_GoodSess s_ w (fun r0 w' => K (.bool r0) w')
  | _ => False
theorem T.ok23 : ∀ vs w K, T.c23 vs w K → (callFunc 23 vs.toArray).run Tryz.prog w = .ok (.enter 23 vs.toArray) w ∧ Calls Tryz.prog 23 vs.toArray w fun e w' => ∃ v, e = .returned v ∧ K v w' := by
  intro vs w K h
  unfold T.c23 at h
  split at h
  · refine ⟨Tryz.call23 _ _, ok_of T.CO23 mixed Tryz.func23 (T.eq23 _ _ _) h fun v w' hk => ⟨v, rfl, ?_⟩⟩
    split at hk
    · exact hk
    · exact hk.elim
  · exact h.elim

/-- (*e2e/txn.Mgr).LockOf (function 213). -/
def S.txn_Mgr_LockOf (g : Nat) (s_ : Int) (name : ByteArray) (w : World) (K : Int → World → Prop) : Prop :=
  S.txn_Mgr_slotOf g name w (fun r1 w =>
  S.api_GoodSess s_ w (fun r2 w =>
  if (!r2) = true then
    K 0 w
  else
    if (decide (r1 < 0)) = true then
      K 0 w
    else
      IxA 3 r1 <|
      IxA 4 s_ <|
      LdI .i64 w ⟨g, 5 + Int.toNat r1 * 6 + 2 + Int.toNat s_ * 1, none⟩ fun mode_3 =>
      K mode_3 w))
def T.C213 : CallT := (CallT.cons 274 T.c274 (CallT.cons 23 T.c23 CallT.nil))
def T.A213 : Ann := fun _ => none
set_option maxRecDepth 1000000 in
theorem T.eq213 (g : Nat) (s_ : Int) (name : ByteArray) (w : World) (K : Int → World → Prop) : denF Tryz.prog T.C213 T.A213 Tryz.f213 [.pointer (some ⟨g, 0, none⟩), .int .i64 s_, .string name] w (fun v w' => match v with | .int .i64 r0 => K r0 w' | _ => False) = S.txn_Mgr_LockOf g s_ name w K := by kernel_rfl
theorem T.CO213 : CallOk Tryz.prog T.C213 := (CallOk.cons 274 T.ok274 (CallOk.cons 23 T.ok23 CallOk.nil))
def T.c213 (vs : List Value) (w : World) (K : Value → World → Prop) : Prop :=
  match vs with
  | [.pointer (some ⟨g, 0, none⟩), .int .i64 s_, .string name] => S.txn_Mgr_LockOf g s_ name w (fun r0 w' => K (.int .i64 r0) w')
  | _ => False
theorem T.ok213 : ∀ vs w K, T.c213 vs w K → (callFunc 213 vs.toArray).run Tryz.prog w = .ok (.enter 213 vs.toArray) w ∧ Calls Tryz.prog 213 vs.toArray w fun e w' => ∃ v, e = .returned v ∧ K v w' := by
  intro vs w K h
  unfold T.c213 at h
  split at h
  · refine ⟨Tryz.call213 _ _, ok_of T.CO213 mixed Tryz.func213 (T.eq213 _ _ _ _ _) h fun v w' hk => ⟨v, rfl, ?_⟩⟩
    split at hk
    · exact hk
    · exact hk.elim
  · exact h.elim

/-- (*e2e/query.Engine).LockOf (function 121). -/
def S.query_Engine_LockOf (q : Nat) (s_ : Int) (name : ByteArray) (w : World) (K : Int → World → Prop) : Prop :=
  LdP w ⟨q, 0, none⟩ fun t_1 =>
  S.txn_Mgr_LockOf t_1 s_ name w (fun r2 w =>
  K r2 w)
def T.C121 : CallT := (CallT.cons 213 T.c213 CallT.nil)
def T.A121 : Ann := fun _ => none
set_option maxRecDepth 1000000 in
theorem T.eq121 (q : Nat) (s_ : Int) (name : ByteArray) (w : World) (K : Int → World → Prop) : denF Tryz.prog T.C121 T.A121 Tryz.f121 [.pointer (some ⟨q, 0, none⟩), .int .i64 s_, .string name] w (fun v w' => match v with | .int .i64 r0 => K r0 w' | _ => False) = S.query_Engine_LockOf q s_ name w K := by kernel_rfl
theorem T.CO121 : CallOk Tryz.prog T.C121 := (CallOk.cons 213 T.ok213 CallOk.nil)
def T.c121 (vs : List Value) (w : World) (K : Value → World → Prop) : Prop :=
  match vs with
  | [.pointer (some ⟨q, 0, none⟩), .int .i64 s_, .string name] => S.query_Engine_LockOf q s_ name w (fun r0 w' => K (.int .i64 r0) w')
  | _ => False
theorem T.ok121 : ∀ vs w K, T.c121 vs w K → (callFunc 121 vs.toArray).run Tryz.prog w = .ok (.enter 121 vs.toArray) w ∧ Calls Tryz.prog 121 vs.toArray w fun e w' => ∃ v, e = .returned v ∧ K v w' := by
  intro vs w K h
  unfold T.c121 at h
  split at h
  · refine ⟨Tryz.call121 _ _, ok_of T.CO121 mixed Tryz.func121 (T.eq121 _ _ _ _ _) h fun v w' hk => ⟨v, rfl, ?_⟩⟩
    split at hk
    · exact hk
    · exact hk.elim
  · exact h.elim

/-- (*e2e/api.Multi).LockOf (function 214). -/
def S.api_Multi_LockOf (m : Nat) (s_ : Int) (name : ByteArray) (w : World) (K : Int → World → Prop) : Prop :=
  S.api_DB_Find m 0 name w (fun r1 w =>
  S.api_GoodSess s_ w (fun r2 w =>
  if (!r2) = true then
    K 0 w
  else
    if (decide (r1 < 0)) = true then
      K 0 w
    else
      IxA 4 s_ <|
      IxA 3 r1 <|
      LdI .i64 w ⟨m, 5 + Int.toNat s_ * 3 + Int.toNat r1 * 1, none⟩ fun Lock_3 =>
      K Lock_3 w))
def T.C214 : CallT := (CallT.cons 192 T.c192 (CallT.cons 23 T.c23 CallT.nil))
def T.A214 : Ann := fun _ => none
set_option maxRecDepth 1000000 in
theorem T.eq214 (m : Nat) (s_ : Int) (name : ByteArray) (w : World) (K : Int → World → Prop) : denF Tryz.prog T.C214 T.A214 Tryz.f214 [.pointer (some ⟨m, 0, none⟩), .int .i64 s_, .string name] w (fun v w' => match v with | .int .i64 r0 => K r0 w' | _ => False) = S.api_Multi_LockOf m s_ name w K := by kernel_rfl
theorem T.CO214 : CallOk Tryz.prog T.C214 := (CallOk.cons 192 T.ok192 (CallOk.cons 23 T.ok23 CallOk.nil))
def T.c214 (vs : List Value) (w : World) (K : Value → World → Prop) : Prop :=
  match vs with
  | [.pointer (some ⟨m, 0, none⟩), .int .i64 s_, .string name] => S.api_Multi_LockOf m s_ name w (fun r0 w' => K (.int .i64 r0) w')
  | _ => False
theorem T.ok214 : ∀ vs w K, T.c214 vs w K → (callFunc 214 vs.toArray).run Tryz.prog w = .ok (.enter 214 vs.toArray) w ∧ Calls Tryz.prog 214 vs.toArray w fun e w' => ∃ v, e = .returned v ∧ K v w' := by
  intro vs w K h
  unfold T.c214 at h
  split at h
  · refine ⟨Tryz.call214 _ _, ok_of T.CO214 mixed Tryz.func214 (T.eq214 _ _ _ _ _) h fun v w' hk => ⟨v, rfl, ?_⟩⟩
    split at hk
    · exact hk
    · exact hk.elim
  · exact h.elim

/-- (*e2e/querym.Engine).LockOf (function 122). -/
def S.querym_Engine_LockOf (q : Nat) (s_ : Int) (name : ByteArray) (w : World) (K : Int → World → Prop) : Prop :=
  LdP w ⟨q, 0, none⟩ fun m_1 =>
  S.api_Multi_LockOf m_1 s_ name w (fun r2 w =>
  K r2 w)
def T.C122 : CallT := (CallT.cons 214 T.c214 CallT.nil)
def T.A122 : Ann := fun _ => none
set_option maxRecDepth 1000000 in
theorem T.eq122 (q : Nat) (s_ : Int) (name : ByteArray) (w : World) (K : Int → World → Prop) : denF Tryz.prog T.C122 T.A122 Tryz.f122 [.pointer (some ⟨q, 0, none⟩), .int .i64 s_, .string name] w (fun v w' => match v with | .int .i64 r0 => K r0 w' | _ => False) = S.querym_Engine_LockOf q s_ name w K := by kernel_rfl
theorem T.CO122 : CallOk Tryz.prog T.C122 := (CallOk.cons 214 T.ok214 CallOk.nil)
def T.c122 (vs : List Value) (w : World) (K : Value → World → Prop) : Prop :=
  match vs with
  | [.pointer (some ⟨q, 0, none⟩), .int .i64 s_, .string name] => S.querym_Engine_LockOf q s_ name w (fun r0 w' => K (.int .i64 r0) w')
  | _ => False
theorem T.ok122 : ∀ vs w K, T.c122 vs w K → (callFunc 122 vs.toArray).run Tryz.prog w = .ok (.enter 122 vs.toArray) w ∧ Calls Tryz.prog 122 vs.toArray w fun e w' => ∃ v, e = .returned v ∧ K v w' := by
  intro vs w K h
  unfold T.c122 at h
  split at h
  · refine ⟨Tryz.call122 _ _, ok_of T.CO122 mixed Tryz.func122 (T.eq122 _ _ _ _ _) h fun v w' hk => ⟨v, rfl, ?_⟩⟩
    split at hk
    · exact hk
    · exact hk.elim
  · exact h.elim

/-- e2e/towerlaw.SameLockOf (function 110). -/
def S.towerlaw_SameLockOf (x : Nat) (m : Nat) (s_ : Int) (name : ByteArray) (w : World) (K : Bool → World → Prop) : Prop :=
  S.query_Engine_LockOf x s_ name w (fun r1 w =>
  S.querym_Engine_LockOf m s_ name w (fun r2 w =>
  K (r1 == r2) w))
def T.C110 : CallT := (CallT.cons 121 T.c121 (CallT.cons 122 T.c122 CallT.nil))
def T.A110 : Ann := fun _ => none
set_option maxRecDepth 1000000 in
theorem T.eq110 (x : Nat) (m : Nat) (s_ : Int) (name : ByteArray) (w : World) (K : Bool → World → Prop) : denF Tryz.prog T.C110 T.A110 Tryz.f110 [.pointer (some ⟨x, 0, none⟩), .pointer (some ⟨m, 0, none⟩), .int .i64 s_, .string name] w (fun v w' => match v with | .bool r0 => K r0 w' | _ => False) = S.towerlaw_SameLockOf x m s_ name w K := by kernel_rfl
theorem T.CO110 : CallOk Tryz.prog T.C110 := (CallOk.cons 121 T.ok121 (CallOk.cons 122 T.ok122 CallOk.nil))
def T.c110 (vs : List Value) (w : World) (K : Value → World → Prop) : Prop :=
  match vs with
  | [.pointer (some ⟨x, 0, none⟩), .pointer (some ⟨m, 0, none⟩), .int .i64 s_, .string name] => S.towerlaw_SameLockOf x m s_ name w (fun r0 w' => K (.bool r0) w')
  | _ => False
theorem T.ok110 : ∀ vs w K, T.c110 vs w K → (callFunc 110 vs.toArray).run Tryz.prog w = .ok (.enter 110 vs.toArray) w ∧ Calls Tryz.prog 110 vs.toArray w fun e w' => ∃ v, e = .returned v ∧ K v w' := by
  intro vs w K h
  unfold T.c110 at h
  split at h
  · refine ⟨Tryz.call110 _ _, ok_of T.CO110 mixed Tryz.func110 (T.eq110 _ _ _ _ _ _) h fun v w' hk => ⟨v, rfl, ?_⟩⟩
    split at hk
    · exact hk
    · exact hk.elim
  · exact h.elim

/-- e2e/table.back (function 306). -/
def S.table_back (k : ByteArray) (w : World) (K : ByteArray → World → Prop) : Prop :=
  if (decide ((k.size : Int) > 8)) = true then
    CutStr k (W ((k.size : Int) - 8)) (k.size : Int) fun s1 =>
    K s1 w
  else
    K k w
def T.C306 : CallT := CallT.nil
def T.A306 : Ann := fun _ => none
set_option maxRecDepth 1000000 in
theorem T.eq306 (k : ByteArray) (w : World) (K : ByteArray → World → Prop) : denF Tryz.prog T.C306 T.A306 Tryz.f306 [.string k] w (fun v w' => match v with | .string r0 => K r0 w' | _ => False) = S.table_back k w K := by kernel_rfl
theorem T.CO306 : CallOk Tryz.prog T.C306 := CallOk.nil
def T.c306 (vs : List Value) (w : World) (K : Value → World → Prop) : Prop :=
  match vs with
  | [.string k] => S.table_back k w (fun r0 w' => K (.string r0) w')
  | _ => False
theorem T.ok306 : ∀ vs w K, T.c306 vs w K → (callFunc 306 vs.toArray).run Tryz.prog w = .ok (.enter 306 vs.toArray) w ∧ Calls Tryz.prog 306 vs.toArray w fun e w' => ∃ v, e = .returned v ∧ K v w' := by
  intro vs w K h
  unfold T.c306 at h
  split at h
  · refine ⟨Tryz.call306 _ _, ok_of T.CO306 mixed Tryz.func306 (T.eq306 _ _ _) h fun v w' hk => ⟨v, rfl, ?_⟩⟩
    split at hk
    · exact hk
    · exact hk.elim
  · exact h.elim

/-- e2e/api.Str (function 188). -/
def S.api_Str (s_ : ByteArray) (w : World) (K : Bool → Int → ByteArray → World → Prop) : Prop :=
  New w (.cells #[.bool false, .int .i64 0, .string ⟨#[]⟩] 167) fun p1 w =>
  St1 w ⟨p1, 0, none⟩ (.bool true) fun w =>
  St1 w ⟨p1, 1, none⟩ (.int .i64 0) fun w =>
  St1 w ⟨p1, 2, none⟩ (.string s_) fun w =>
  LdB w ⟨p1, 0, none⟩ fun IsStr_2 =>
  LdI .i64 w ⟨p1, 1, none⟩ fun I_3 =>
  LdStr w ⟨p1, 2, none⟩ fun S_4 =>
  K IsStr_2 I_3 S_4 w
def T.C188 : CallT := CallT.nil
def T.A188 : Ann := fun _ => none
set_option maxRecDepth 1000000 in
theorem T.eq188 (s_ : ByteArray) (w : World) (K : Bool → Int → ByteArray → World → Prop) : denF Tryz.prog T.C188 T.A188 Tryz.f188 [.string s_] w (fun v w' => match v with | .agg ⟨[.bool r0, .int .i64 r1, .string r2]⟩ => K r0 r1 r2 w' | _ => False) = S.api_Str s_ w K := by kernel_rfl
theorem T.CO188 : CallOk Tryz.prog T.C188 := CallOk.nil
def T.c188 (vs : List Value) (w : World) (K : Value → World → Prop) : Prop :=
  match vs with
  | [.string s_] => S.api_Str s_ w (fun r0 r1 r2 w' => K (.agg #[.bool r0, .int .i64 r1, .string r2]) w')
  | _ => False
theorem T.ok188 : ∀ vs w K, T.c188 vs w K → (callFunc 188 vs.toArray).run Tryz.prog w = .ok (.enter 188 vs.toArray) w ∧ Calls Tryz.prog 188 vs.toArray w fun e w' => ∃ v, e = .returned v ∧ K v w' := by
  intro vs w K h
  unfold T.c188 at h
  split at h
  · refine ⟨Tryz.call188 _ _, ok_of T.CO188 mixed Tryz.func188 (T.eq188 _ _ _) h fun v w' hk => ⟨v, rfl, ?_⟩⟩
    split at hk
    · exact hk
    · exact hk.elim
  · exact h.elim

/-- e2e/table.intOf (function 302). -/
def S.table_intOf (c : ByteArray) (w : World) (K : Int → Bool → World → Prop) : Prop :=
  if ((c.size : Int) != 8) = true then
    K 0 false w
  else
    Join (fun (u_1 : Int) (w : World) =>
      K (W (Xor .u64 u_1 9223372036854775808)) true w) fun J2 =>
    LoopP (σ := Int × Int × Unit) (fun st3 w next4 =>
      if (decide (st3.2.1 < 8)) = true then
        IxStr c st3.2.1 fun c5 =>
        Let (Or .u64 (Shl .u64 st3.1 8) (U64 c5)) fun u_6 =>
        Let (W (st3.2.1 + 1)) fun j_7 =>
        next4 (u_6, j_7, ()) w
      else
        J2 st3.1 w) (0, 0, ()) w
def T.C302 : CallT := CallT.nil
def T.A302 : Ann := fun i => bif Nat.beq i 5 then some ([0], [(4, 2), (5, 0)]) else none
set_option maxRecDepth 1000000 in
theorem T.eq302 (c : ByteArray) (w : World) (K : Int → Bool → World → Prop) : denF Tryz.prog T.C302 T.A302 Tryz.f302 [.string c] w (fun v w' => match v with | .tuple ⟨[.int .i64 r0, .bool r1]⟩ => K r0 r1 w' | _ => False) = S.table_intOf c w K := by kernel_rfl
theorem T.CO302 : CallOk Tryz.prog T.C302 := CallOk.nil
def T.c302 (vs : List Value) (w : World) (K : Value → World → Prop) : Prop :=
  match vs with
  | [.string c] => S.table_intOf c w (fun r0 r1 w' => K (.tuple #[.int .i64 r0, .bool r1]) w')
  | _ => False
theorem T.ok302 : ∀ vs w K, T.c302 vs w K → (callFunc 302 vs.toArray).run Tryz.prog w = .ok (.enter 302 vs.toArray) w ∧ Calls Tryz.prog 302 vs.toArray w fun e w' => ∃ v, e = .returned v ∧ K v w' := by
  intro vs w K h
  unfold T.c302 at h
  split at h
  · refine ⟨Tryz.call302 _ _, ok_of T.CO302 mixed Tryz.func302 (T.eq302 _ _ _) h fun v w' hk => ⟨v, rfl, ?_⟩⟩
    split at hk
    · exact hk
    · exact hk.elim
  · exact h.elim

/-- e2e/api.Int (function 187). -/
def S.api_Int (i : Int) (w : World) (K : Bool → Int → ByteArray → World → Prop) : Prop :=
  New w (.cells #[.bool false, .int .i64 0, .string ⟨#[]⟩] 167) fun p1 w =>
  St1 w ⟨p1, 0, none⟩ (.bool false) fun w =>
  St1 w ⟨p1, 1, none⟩ (.int .i64 i) fun w =>
  St1 w ⟨p1, 2, none⟩ (.string (⟨#[]⟩ : ByteArray)) fun w =>
  LdB w ⟨p1, 0, none⟩ fun IsStr_2 =>
  LdI .i64 w ⟨p1, 1, none⟩ fun I_3 =>
  LdStr w ⟨p1, 2, none⟩ fun S_4 =>
  K IsStr_2 I_3 S_4 w
def T.C187 : CallT := CallT.nil
def T.A187 : Ann := fun _ => none
set_option maxRecDepth 1000000 in
theorem T.eq187 (i : Int) (w : World) (K : Bool → Int → ByteArray → World → Prop) : denF Tryz.prog T.C187 T.A187 Tryz.f187 [.int .i64 i] w (fun v w' => match v with | .agg ⟨[.bool r0, .int .i64 r1, .string r2]⟩ => K r0 r1 r2 w' | _ => False) = S.api_Int i w K := by kernel_rfl
theorem T.CO187 : CallOk Tryz.prog T.C187 := CallOk.nil
def T.c187 (vs : List Value) (w : World) (K : Value → World → Prop) : Prop :=
  match vs with
  | [.int .i64 i] => S.api_Int i w (fun r0 r1 r2 w' => K (.agg #[.bool r0, .int .i64 r1, .string r2]) w')
  | _ => False
theorem T.ok187 : ∀ vs w K, T.c187 vs w K → (callFunc 187 vs.toArray).run Tryz.prog w = .ok (.enter 187 vs.toArray) w ∧ Calls Tryz.prog 187 vs.toArray w fun e w' => ∃ v, e = .returned v ∧ K v w' := by
  intro vs w K h
  unfold T.c187 at h
  split at h
  · refine ⟨Tryz.call187 _ _, ok_of T.CO187 mixed Tryz.func187 (T.eq187 _ _ _) h fun v w' hk => ⟨v, rfl, ?_⟩⟩
    split at hk
    · exact hk
    · exact hk.elim
  · exact h.elim

/-- e2e/table.valOf (function 257). -/
def S.table_valOf (c : ByteArray) (isStr : Bool) (w : World) (K : Bool → Int → ByteArray → Bool → World → Prop) : Prop :=
  New w (.cells #[.bool false, .int .i64 0, .string ⟨#[]⟩] 167) fun p1 w =>
  if isStr = true then
    S.table_unpad c 7 w (fun r2 r3 w =>
    S.api_Str r2 w (fun IsStr_4 I_5 S_6 w =>
    St1 w ⟨p1, 0, none⟩ (.bool IsStr_4) fun w =>
    St1 w ⟨p1, 1, none⟩ (.int .i64 I_5) fun w =>
    St1 w ⟨p1, 2, none⟩ (.string S_6) fun w =>
    LdB w ⟨p1, 0, none⟩ fun IsStr_7 =>
    LdI .i64 w ⟨p1, 1, none⟩ fun I_8 =>
    LdStr w ⟨p1, 2, none⟩ fun S_9 =>
    K IsStr_7 I_8 S_9 r3 w))
  else
    S.table_intOf c w (fun r10 r11 w =>
    S.api_Int r10 w (fun IsStr_12 I_13 S_14 w =>
    St1 w ⟨p1, 0, none⟩ (.bool IsStr_12) fun w =>
    St1 w ⟨p1, 1, none⟩ (.int .i64 I_13) fun w =>
    St1 w ⟨p1, 2, none⟩ (.string S_14) fun w =>
    LdB w ⟨p1, 0, none⟩ fun IsStr_15 =>
    LdI .i64 w ⟨p1, 1, none⟩ fun I_16 =>
    LdStr w ⟨p1, 2, none⟩ fun S_17 =>
    K IsStr_15 I_16 S_17 r11 w))
def T.C257 : CallT := (CallT.cons 244 T.c244 (CallT.cons 188 T.c188 (CallT.cons 302 T.c302 (CallT.cons 187 T.c187 CallT.nil))))
def T.A257 : Ann := fun _ => none
set_option maxRecDepth 1000000 in
theorem T.eq257 (c : ByteArray) (isStr : Bool) (w : World) (K : Bool → Int → ByteArray → Bool → World → Prop) : denF Tryz.prog T.C257 T.A257 Tryz.f257 [.string c, .bool isStr] w (fun v w' => match v with | .tuple ⟨[.agg ⟨[.bool r0, .int .i64 r1, .string r2]⟩, .bool r3]⟩ => K r0 r1 r2 r3 w' | _ => False) = S.table_valOf c isStr w K := by kernel_rfl
theorem T.CO257 : CallOk Tryz.prog T.C257 := (CallOk.cons 244 T.ok244 (CallOk.cons 188 T.ok188 (CallOk.cons 302 T.ok302 (CallOk.cons 187 T.ok187 CallOk.nil))))
def T.c257 (vs : List Value) (w : World) (K : Value → World → Prop) : Prop :=
  match vs with
  | [.string c, .bool isStr] => S.table_valOf c isStr w (fun r0 r1 r2 r3 w' => K (.tuple #[.agg #[.bool r0, .int .i64 r1, .string r2], .bool r3]) w')
  | _ => False
theorem T.ok257 : ∀ vs w K, T.c257 vs w K → (callFunc 257 vs.toArray).run Tryz.prog w = .ok (.enter 257 vs.toArray) w ∧ Calls Tryz.prog 257 vs.toArray w fun e w' => ∃ v, e = .returned v ∧ K v w' := by
  intro vs w K h
  unfold T.c257 at h
  split at h
  · refine ⟨Tryz.call257 _ _, ok_of T.CO257 mixed Tryz.func257 (T.eq257 _ _ _ _) h fun v w' hk => ⟨v, rfl, ?_⟩⟩
    split at hk
    · exact hk
    · exact hk.elim
  · exact h.elim

/-- e2e/table.rowOf (function 171). -/
def S.table_rowOf (sch_Name : ByteArray) (sch_Cols : Sl) (sch_PK : Int) (sch_Index : Int) (k : ByteArray) (v : ByteArray) (w : World) (K : Sl → Bool → World → Prop) : Prop :=
  New w (.cells #[.string sch_Name, .slice sch_Cols.a sch_Cols.l sch_Cols.c, .int .i64 sch_PK, .int .i64 sch_Index] 73) fun p1 w =>
  LdS w ⟨p1, 1, none⟩ fun Cols_2 =>
  Let (Cols_2.l : Int) fun n_3 =>
  LdI .i64 w ⟨p1, 2, none⟩ fun PK_4 =>
  if (decide (PK_4 < 0)) = true then
    K ⟨none, 0, 0⟩ false w
  else
    LdI .i64 w ⟨p1, 2, none⟩ fun PK_5 =>
    if (decide (PK_5 ≥ n_3)) = true then
      K ⟨none, 0, 0⟩ false w
    else
      if ((v.size : Int) != (W (8 * (W (n_3 - 1))))) = true then
        K ⟨none, 0, 0⟩ false w
      else
        MkS 167 [.bool false, .int .i64 0, .string ⟨#[]⟩] 32 w n_3 n_3 fun l6 w =>
        Join (fun (w : World) =>
          K l6 true w) fun J7 =>
        LoopP (σ := Int × Int × Unit) (fun st8 w next9 =>
          if (decide (st8.2.1 < n_3)) = true then
            LdI .i64 w ⟨p1, 2, none⟩ fun PK_10 =>
            Join (fun (at_11 : Int) (ok_12 : Bool) (w : World) =>
              if (!ok_12) = true then
                K ⟨none, 0, 0⟩ false w
              else
                Let (W (st8.2.1 + 1)) fun c_13 =>
                next9 (at_11, c_13, ()) w) fun J14 =>
            if (st8.2.1 == PK_10) = true then
              LdS w ⟨p1, 1, none⟩ fun Cols_15 =>
              Ix Cols_15.a Cols_15.l st8.2.1 fun b16 o17 =>
              LdB w ⟨b16, o17 + Int.toNat st8.2.1 * 2 + 1, none⟩ fun IsStr_18 =>
              S.table_valOf k IsStr_18 w (fun IsStr_19 I_20 S_21 r22 w =>
              Ix l6.a l6.l st8.2.1 fun b23 o24 =>
              St1 w ⟨b23, o24 + Int.toNat st8.2.1 * 3, none⟩ (.bool IsStr_19) fun w =>
              St1 w ⟨b23, o24 + Int.toNat st8.2.1 * 3 + 1, none⟩ (.int .i64 I_20) fun w =>
              St1 w ⟨b23, o24 + Int.toNat st8.2.1 * 3 + 2, none⟩ (.string S_21) fun w =>
              J14 st8.1 r22 w)
            else
              Drew w fun w =>
              CutStr v st8.1 (W (st8.1 + 8)) fun s25 =>
              LdS w ⟨p1, 1, none⟩ fun Cols_26 =>
              Ix Cols_26.a Cols_26.l st8.2.1 fun b27 o28 =>
              LdB w ⟨b27, o28 + Int.toNat st8.2.1 * 2 + 1, none⟩ fun IsStr_29 =>
              S.table_valOf s25 IsStr_29 w (fun IsStr_30 I_31 S_32 r33 w =>
              Ix l6.a l6.l st8.2.1 fun b34 o35 =>
              St1 w ⟨b34, o35 + Int.toNat st8.2.1 * 3, none⟩ (.bool IsStr_30) fun w =>
              St1 w ⟨b34, o35 + Int.toNat st8.2.1 * 3 + 1, none⟩ (.int .i64 I_31) fun w =>
              St1 w ⟨b34, o35 + Int.toNat st8.2.1 * 3 + 2, none⟩ (.string S_32) fun w =>
              Let (W (st8.1 + 8)) fun at_36 =>
              J14 at_36 r33 w)
          else
            J7 w) (0, 0, ()) w
def T.C171 : CallT := (CallT.cons 257 T.c257 CallT.nil)
def T.A171 : Ann := fun i => bif Nat.beq i 1000012 then some ([], [(1, 4), (2, 4), (3, 5), (8, 0), (9, 6), (10, 0), (11, 0)]) else bif Nat.beq i 7 then some ([1, 2, 3, 8, 9], [(10, 0), (11, 0)]) else none
set_option maxRecDepth 1000000 in
theorem T.eq171 (sch_Name : ByteArray) (sch_Cols : Sl) (sch_PK : Int) (sch_Index : Int) (k : ByteArray) (v : ByteArray) (w : World) (K : Sl → Bool → World → Prop) : denF Tryz.prog T.C171 T.A171 Tryz.f171 [.agg #[.string sch_Name, .slice sch_Cols.a sch_Cols.l sch_Cols.c, .int .i64 sch_PK, .int .i64 sch_Index], .string k, .string v] w (fun v w' => match v with | .tuple ⟨[.slice r0a r0l r0c, .bool r1]⟩ => K ⟨r0a, r0l, r0c⟩ r1 w' | _ => False) = S.table_rowOf sch_Name sch_Cols sch_PK sch_Index k v w K := by kernel_rfl
theorem T.CO171 : CallOk Tryz.prog T.C171 := (CallOk.cons 257 T.ok257 CallOk.nil)
def T.c171 (vs : List Value) (w : World) (K : Value → World → Prop) : Prop :=
  match vs with
  | [.agg ⟨[.string sch_Name, .slice sch_Colsa sch_Colsl sch_Colsc, .int .i64 sch_PK, .int .i64 sch_Index]⟩, .string k, .string v] => S.table_rowOf sch_Name ⟨sch_Colsa, sch_Colsl, sch_Colsc⟩ sch_PK sch_Index k v w (fun r0 r1 w' => K (.tuple #[.slice r0.a r0.l r0.c, .bool r1]) w')
  | _ => False
theorem T.ok171 : ∀ vs w K, T.c171 vs w K → (callFunc 171 vs.toArray).run Tryz.prog w = .ok (.enter 171 vs.toArray) w ∧ Calls Tryz.prog 171 vs.toArray w fun e w' => ∃ v, e = .returned v ∧ K v w' := by
  intro vs w K h
  unfold T.c171 at h
  split at h
  · refine ⟨Tryz.call171 _ _, ok_of T.CO171 mixed Tryz.func171 (T.eq171 _ _ _ _ _ _ _ _) h fun v w' hk => ⟨v, rfl, ?_⟩⟩
    split at hk
    · exact hk
    · exact hk.elim
  · exact h.elim

/-- (*e2e/table.Store).fetch (function 233). -/
def S.table_Store_fetch (t : Nat) (h_ncols : Int) (h_pk : Int) (h_index : Int) (h_rows : Int) (h_idx : Int) (sch_Name : ByteArray) (sch_Cols : Sl) (sch_PK : Int) (sch_Index : Int) (k : ByteArray) (w : World) (K : Sl → Int → World → Prop) : Prop :=
  New w (.cells #[.int .i64 h_ncols, .int .i64 h_pk, .int .i64 h_index, .int .i64 h_rows, .int .i64 h_idx] 214) fun p1 w =>
  New w (.cells #[.string sch_Name, .slice sch_Cols.a sch_Cols.l sch_Cols.c, .int .i64 sch_PK, .int .i64 sch_Index] 73) fun p2 w =>
  Drew w fun w =>
  LdP w ⟨t, 0, none⟩ fun f_3 =>
  LdI .i64 w ⟨p1, 3, none⟩ fun rows_4 =>
  S.btree_Forest_Get f_3 rows_4 k w (fun r5 r6 w =>
  if (r6 == 9) = true then
    K ⟨none, 0, 0⟩ 9 w
  else
    LdStr w ⟨p2, 0, none⟩ fun Name_7 =>
    LdS w ⟨p2, 1, none⟩ fun Cols_8 =>
    LdI .i64 w ⟨p2, 2, none⟩ fun PK_9 =>
    LdI .i64 w ⟨p2, 3, none⟩ fun Index_10 =>
    S.table_rowOf Name_7 Cols_8 PK_9 Index_10 k r5 w (fun r11 r12 w =>
    if (r6 != 0) = true then
      K ⟨none, 0, 0⟩ 23 w
    else
      if (!r12) = true then
        K ⟨none, 0, 0⟩ 23 w
      else
        K r11 0 w))
def T.C233 : CallT := (CallT.cons 241 T.c241 (CallT.cons 171 T.c171 CallT.nil))
def T.A233 : Ann := fun _ => none
set_option maxRecDepth 1000000 in
theorem T.eq233 (t : Nat) (h_ncols : Int) (h_pk : Int) (h_index : Int) (h_rows : Int) (h_idx : Int) (sch_Name : ByteArray) (sch_Cols : Sl) (sch_PK : Int) (sch_Index : Int) (k : ByteArray) (w : World) (K : Sl → Int → World → Prop) : denF Tryz.prog T.C233 T.A233 Tryz.f233 [.pointer (some ⟨t, 0, none⟩), .agg #[.int .i64 h_ncols, .int .i64 h_pk, .int .i64 h_index, .int .i64 h_rows, .int .i64 h_idx], .agg #[.string sch_Name, .slice sch_Cols.a sch_Cols.l sch_Cols.c, .int .i64 sch_PK, .int .i64 sch_Index], .string k] w (fun v w' => match v with | .tuple ⟨[.slice r0a r0l r0c, .int .i64 r1]⟩ => K ⟨r0a, r0l, r0c⟩ r1 w' | _ => False) = S.table_Store_fetch t h_ncols h_pk h_index h_rows h_idx sch_Name sch_Cols sch_PK sch_Index k w K := by kernel_rfl
theorem T.CO233 : CallOk Tryz.prog T.C233 := (CallOk.cons 241 T.ok241 (CallOk.cons 171 T.ok171 CallOk.nil))
def T.c233 (vs : List Value) (w : World) (K : Value → World → Prop) : Prop :=
  match vs with
  | [.pointer (some ⟨t, 0, none⟩), .agg ⟨[.int .i64 h_ncols, .int .i64 h_pk, .int .i64 h_index, .int .i64 h_rows, .int .i64 h_idx]⟩, .agg ⟨[.string sch_Name, .slice sch_Colsa sch_Colsl sch_Colsc, .int .i64 sch_PK, .int .i64 sch_Index]⟩, .string k] => S.table_Store_fetch t h_ncols h_pk h_index h_rows h_idx sch_Name ⟨sch_Colsa, sch_Colsl, sch_Colsc⟩ sch_PK sch_Index k w (fun r0 r1 w' => K (.tuple #[.slice r0.a r0.l r0.c, .int .i64 r1]) w')
  | _ => False
theorem T.ok233 : ∀ vs w K, T.c233 vs w K → (callFunc 233 vs.toArray).run Tryz.prog w = .ok (.enter 233 vs.toArray) w ∧ Calls Tryz.prog 233 vs.toArray w fun e w' => ∃ v, e = .returned v ∧ K v w' := by
  intro vs w K h
  unfold T.c233 at h
  split at h
  · refine ⟨Tryz.call233 _ _, ok_of T.CO233 mixed Tryz.func233 (T.eq233 _ _ _ _ _ _ _ _ _ _ _ _ _) h fun v w' hk => ⟨v, rfl, ?_⟩⟩
    split at hk
    · exact hk
    · exact hk.elim
  · exact h.elim

/-- e2e/table.codeInt (function 283). -/
def S.table_codeInt (i : Int) (w : World) (K : ByteArray → World → Prop) : Prop :=
  Let (Xor .u64 (U64 i) 9223372036854775808) fun u_1 =>
  MkS 5 [.int .u8 0] 1 w 8 8 fun l2 w =>
  Join (fun (w : World) =>
    BtS w l2 fun s3 =>
    K s3 w) fun J4 =>
  LoopP (σ := Int × Int × Unit) (fun st5 w next6 =>
    if (decide (st5.2.1 ≥ 0)) = true then
      Ix l2.a l2.l st5.2.1 fun b7 o8 =>
      St1 w ⟨b7, o8 + Int.toNat st5.2.1 * 1, none⟩ (.int .u8 (U8 st5.1)) fun w =>
      Let (Shr .u64 st5.1 8) fun u_9 =>
      Let (W (st5.2.1 - 1)) fun j_10 =>
      next6 (u_9, j_10, ()) w
    else
      J4 w) (u_1, 7, ()) w
def T.C283 : CallT := CallT.nil
def T.A283 : Ann := fun i => bif Nat.beq i 4 then some ([4], [(3, 2), (5, 0)]) else none
set_option maxRecDepth 1000000 in
theorem T.eq283 (i : Int) (w : World) (K : ByteArray → World → Prop) : denF Tryz.prog T.C283 T.A283 Tryz.f283 [.int .i64 i] w (fun v w' => match v with | .string r0 => K r0 w' | _ => False) = S.table_codeInt i w K := by kernel_rfl
theorem T.CO283 : CallOk Tryz.prog T.C283 := CallOk.nil
def T.c283 (vs : List Value) (w : World) (K : Value → World → Prop) : Prop :=
  match vs with
  | [.int .i64 i] => S.table_codeInt i w (fun r0 w' => K (.string r0) w')
  | _ => False
theorem T.ok283 : ∀ vs w K, T.c283 vs w K → (callFunc 283 vs.toArray).run Tryz.prog w = .ok (.enter 283 vs.toArray) w ∧ Calls Tryz.prog 283 vs.toArray w fun e w' => ∃ v, e = .returned v ∧ K v w' := by
  intro vs w K h
  unfold T.c283 at h
  split at h
  · refine ⟨Tryz.call283 _ _, ok_of T.CO283 mixed Tryz.func283 (T.eq283 _ _ _) h fun v w' hk => ⟨v, rfl, ?_⟩⟩
    split at hk
    · exact hk
    · exact hk.elim
  · exact h.elim

/-- e2e/table.codeVal (function 232). -/
def S.table_codeVal (v_IsStr : Bool) (v_I : Int) (v_S : ByteArray) (w : World) (K : ByteArray → World → Prop) : Prop :=
  New w (.cells #[.bool v_IsStr, .int .i64 v_I, .string v_S] 167) fun p1 w =>
  LdB w ⟨p1, 0, none⟩ fun IsStr_2 =>
  if IsStr_2 = true then
    LdStr w ⟨p1, 2, none⟩ fun S_3 =>
    S.table_pad S_3 7 w (fun r4 w =>
    K r4 w)
  else
    LdI .i64 w ⟨p1, 1, none⟩ fun I_5 =>
    S.table_codeInt I_5 w (fun r6 w =>
    K r6 w)
def T.C232 : CallT := (CallT.cons 249 T.c249 (CallT.cons 283 T.c283 CallT.nil))
def T.A232 : Ann := fun _ => none
set_option maxRecDepth 1000000 in
theorem T.eq232 (v_IsStr : Bool) (v_I : Int) (v_S : ByteArray) (w : World) (K : ByteArray → World → Prop) : denF Tryz.prog T.C232 T.A232 Tryz.f232 [.agg #[.bool v_IsStr, .int .i64 v_I, .string v_S]] w (fun v w' => match v with | .string r0 => K r0 w' | _ => False) = S.table_codeVal v_IsStr v_I v_S w K := by kernel_rfl
theorem T.CO232 : CallOk Tryz.prog T.C232 := (CallOk.cons 249 T.ok249 (CallOk.cons 283 T.ok283 CallOk.nil))
def T.c232 (vs : List Value) (w : World) (K : Value → World → Prop) : Prop :=
  match vs with
  | [.agg ⟨[.bool v_IsStr, .int .i64 v_I, .string v_S]⟩] => S.table_codeVal v_IsStr v_I v_S w (fun r0 w' => K (.string r0) w')
  | _ => False
theorem T.ok232 : ∀ vs w K, T.c232 vs w K → (callFunc 232 vs.toArray).run Tryz.prog w = .ok (.enter 232 vs.toArray) w ∧ Calls Tryz.prog 232 vs.toArray w fun e w' => ∃ v, e = .returned v ∧ K v w' := by
  intro vs w K h
  unfold T.c232 at h
  split at h
  · refine ⟨Tryz.call232 _ _, ok_of T.CO232 mixed Tryz.func232 (T.eq232 _ _ _ _ _) h fun v w' hk => ⟨v, rfl, ?_⟩⟩
    split at hk
    · exact hk
    · exact hk.elim
  · exact h.elim

/-- (*e2e/table.Store).Scan (function 265). -/
def S.table_Store_Scan (t : Nat) (name : ByteArray) (col : Int) (lo_Has : Bool) (lo_V_IsStr : Bool) (lo_V_I : Int) (lo_V_S : ByteArray) (hi_Has : Bool) (hi_V_IsStr : Bool) (hi_V_I : Int) (hi_V_S : ByteArray) (w : World) (K : Sl → Int → World → Prop) : Prop :=
  New w (.cells #[.bool lo_Has, .bool lo_V_IsStr, .int .i64 lo_V_I, .string lo_V_S] 179) fun p1 w =>
  New w (.cells #[.bool hi_Has, .bool hi_V_IsStr, .int .i64 hi_V_I, .string hi_V_S] 179) fun p2 w =>
  S.table_Store_load t name w (fun ncols_3 pk_4 index_5 rows_6 idx_7 Name_8 Cols_9 PK_10 Index_11 r12 w =>
  New w (.cells #[.int .i64 0, .int .i64 0, .int .i64 0, .int .i64 0, .int .i64 0] 214) fun p13 w =>
  New w (.cells #[.string ⟨#[]⟩, .slice none 0 0, .int .i64 0, .int .i64 0] 73) fun p14 w =>
  St1 w ⟨p13, 0, none⟩ (.int .i64 ncols_3) fun w =>
  St1 w ⟨p13, 1, none⟩ (.int .i64 pk_4) fun w =>
  St1 w ⟨p13, 2, none⟩ (.int .i64 index_5) fun w =>
  St1 w ⟨p13, 3, none⟩ (.int .i64 rows_6) fun w =>
  St1 w ⟨p13, 4, none⟩ (.int .i64 idx_7) fun w =>
  St1 w ⟨p14, 0, none⟩ (.string Name_8) fun w =>
  St1 w ⟨p14, 1, none⟩ (.slice Cols_9.a Cols_9.l Cols_9.c) fun w =>
  St1 w ⟨p14, 2, none⟩ (.int .i64 PK_10) fun w =>
  St1 w ⟨p14, 3, none⟩ (.int .i64 Index_11) fun w =>
  if (r12 != 0) = true then
    K ⟨none, 0, 0⟩ r12 w
  else
    if (decide (col < 0)) = true then
      K ⟨none, 0, 0⟩ 14 w
    else
      LdI .i64 w ⟨p13, 0, none⟩ fun ncols_15 =>
      if (decide (col ≥ ncols_15)) = true then
        K ⟨none, 0, 0⟩ 14 w
      else
        Join (fun (w : World) =>
          Join (fun (w : World) =>
            Join (fun (w : World) =>
              Let (⟨#[]⟩ : ByteArray) fun from_16 =>
              Let (⟨#[]⟩ : ByteArray) fun upto_17 =>
              LdB w ⟨p1, 0, none⟩ fun Has_18 =>
              Join (fun (from_19 : ByteArray) (w : World) =>
                LdB w ⟨p2, 0, none⟩ fun Has_20 =>
                Join (fun (upto_21 : ByteArray) (w : World) =>
                  LdI .i64 w ⟨p13, 3, none⟩ fun rows_22 =>
                  LdI .i64 w ⟨p13, 1, none⟩ fun pk_23 =>
                  Join (fun (tree_24 : Int) (w : World) =>
                    LdB w ⟨p2, 0, none⟩ fun Has_25 =>
                    S.table_Store_span t tree_24 from_19 Has_25 upto_21 w (fun r26 w =>
                    MkS 61 [.slice none 0 0] 24 w (r26.l : Int) (r26.l : Int) fun l27 w =>
                    Join (fun (w : World) =>
                      K l27 0 w) fun J28 =>
                    LoopP (σ := Int × Unit) (fun st29 w next30 =>
                      if (decide (st29.1 < (r26.l : Int))) = true then
                        Ix r26.a r26.l st29.1 fun b31 o32 =>
                        LdStr w ⟨b31, o32 + Int.toNat st29.1 * 2, none⟩ fun K_33 =>
                        S.table_back K_33 w (fun r34 w =>
                        LdI .i64 w ⟨p13, 0, none⟩ fun ncols_35 =>
                        LdI .i64 w ⟨p13, 1, none⟩ fun pk_36 =>
                        LdI .i64 w ⟨p13, 2, none⟩ fun index_37 =>
                        LdI .i64 w ⟨p13, 3, none⟩ fun rows_38 =>
                        LdI .i64 w ⟨p13, 4, none⟩ fun idx_39 =>
                        LdStr w ⟨p14, 0, none⟩ fun Name_40 =>
                        LdS w ⟨p14, 1, none⟩ fun Cols_41 =>
                        LdI .i64 w ⟨p14, 2, none⟩ fun PK_42 =>
                        LdI .i64 w ⟨p14, 3, none⟩ fun Index_43 =>
                        S.table_Store_fetch t ncols_35 pk_36 index_37 rows_38 idx_39 Name_40 Cols_41 PK_42 Index_43 r34 w (fun r44 r45 w =>
                        Ix l27.a l27.l st29.1 fun b46 o47 =>
                        St1 w ⟨b46, o47 + Int.toNat st29.1 * 1, none⟩ (.slice r44.a r44.l r44.c) fun w =>
                        if (r45 != 0) = true then
                          K ⟨none, 0, 0⟩ 23 w
                        else
                          Let (W (st29.1 + 1)) fun i_48 =>
                          next30 (i_48, ()) w))
                      else
                        J28 w) (0, ()) w)) fun J49 =>
                  if (col != pk_23) = true then
                    LdI .i64 w ⟨p13, 4, none⟩ fun idx_50 =>
                    J49 idx_50 w
                  else
                    J49 rows_22 w) fun J51 =>
                if Has_20 = true then
                  LdB w ⟨p2, 1, none⟩ fun IsStr_52 =>
                  LdI .i64 w ⟨p2, 2, none⟩ fun I_53 =>
                  LdStr w ⟨p2, 3, none⟩ fun S_54 =>
                  S.table_codeVal IsStr_52 I_53 S_54 w (fun r55 w =>
                  J51 r55 w)
                else
                  J51 upto_17 w) fun J56 =>
              if Has_18 = true then
                LdB w ⟨p1, 1, none⟩ fun IsStr_57 =>
                LdI .i64 w ⟨p1, 2, none⟩ fun I_58 =>
                LdStr w ⟨p1, 3, none⟩ fun S_59 =>
                S.table_codeVal IsStr_57 I_58 S_59 w (fun r60 w =>
                J56 r60 w)
              else
                J56 from_16 w) fun J61 =>
            LdB w ⟨p1, 0, none⟩ fun Has_62 =>
            if Has_62 = true then
              LdStr w ⟨p1, 3, none⟩ fun S_63 =>
              if (decide ((S_63.size : Int) > 7)) = true then
                K ⟨none, 0, 0⟩ 16 w
              else
                LdB w ⟨p2, 0, none⟩ fun Has_64 =>
                if Has_64 = true then
                  LdStr w ⟨p2, 3, none⟩ fun S_65 =>
                  if (decide ((S_65.size : Int) > 7)) = true then
                    K ⟨none, 0, 0⟩ 16 w
                  else
                    J61 w
                else
                  J61 w
            else
              LdB w ⟨p2, 0, none⟩ fun Has_66 =>
              if Has_66 = true then
                LdStr w ⟨p2, 3, none⟩ fun S_67 =>
                if (decide ((S_67.size : Int) > 7)) = true then
                  K ⟨none, 0, 0⟩ 16 w
                else
                  J61 w
              else
                J61 w) fun J68 =>
          Drew w fun w =>
          LdB w ⟨p1, 0, none⟩ fun Has_69 =>
          if Has_69 = true then
            LdB w ⟨p1, 1, none⟩ fun IsStr_70 =>
            LdS w ⟨p14, 1, none⟩ fun Cols_71 =>
            Ix Cols_71.a Cols_71.l col fun b72 o73 =>
            LdB w ⟨b72, o73 + Int.toNat col * 2 + 1, none⟩ fun IsStr_74 =>
            if (!(IsStr_70 == IsStr_74)) = true then
              K ⟨none, 0, 0⟩ 15 w
            else
              LdB w ⟨p2, 0, none⟩ fun Has_75 =>
              if Has_75 = true then
                LdB w ⟨p2, 1, none⟩ fun IsStr_76 =>
                LdS w ⟨p14, 1, none⟩ fun Cols_77 =>
                Ix Cols_77.a Cols_77.l col fun b78 o79 =>
                LdB w ⟨b78, o79 + Int.toNat col * 2 + 1, none⟩ fun IsStr_80 =>
                if (!(IsStr_76 == IsStr_80)) = true then
                  K ⟨none, 0, 0⟩ 15 w
                else
                  J68 w
              else
                J68 w
          else
            LdB w ⟨p2, 0, none⟩ fun Has_81 =>
            if Has_81 = true then
              LdB w ⟨p2, 1, none⟩ fun IsStr_82 =>
              LdS w ⟨p14, 1, none⟩ fun Cols_83 =>
              Ix Cols_83.a Cols_83.l col fun b84 o85 =>
              LdB w ⟨b84, o85 + Int.toNat col * 2 + 1, none⟩ fun IsStr_86 =>
              if (!(IsStr_82 == IsStr_86)) = true then
                K ⟨none, 0, 0⟩ 15 w
              else
                J68 w
            else
              J68 w) fun J87 =>
        LdI .i64 w ⟨p13, 1, none⟩ fun pk_88 =>
        if (col != pk_88) = true then
          LdI .i64 w ⟨p13, 2, none⟩ fun index_89 =>
          if (col != index_89) = true then
            K ⟨none, 0, 0⟩ 19 w
          else
            J87 w
        else
          J87 w)
def T.C265 : CallT := (CallT.cons 159 T.c159 (CallT.cons 256 T.c256 (CallT.cons 306 T.c306 (CallT.cons 233 T.c233 (CallT.cons 232 T.c232 CallT.nil)))))
def T.A265 : Ann := fun i => bif Nat.beq i 23 then some ([0, 12, 13, 18, 19], [(20, 0)]) else none
set_option maxRecDepth 1000000 in
theorem T.eq265 (t : Nat) (name : ByteArray) (col : Int) (lo_Has : Bool) (lo_V_IsStr : Bool) (lo_V_I : Int) (lo_V_S : ByteArray) (hi_Has : Bool) (hi_V_IsStr : Bool) (hi_V_I : Int) (hi_V_S : ByteArray) (w : World) (K : Sl → Int → World → Prop) : denF Tryz.prog T.C265 T.A265 Tryz.f265 [.pointer (some ⟨t, 0, none⟩), .string name, .int .i64 col, .agg #[.bool lo_Has, .bool lo_V_IsStr, .int .i64 lo_V_I, .string lo_V_S], .agg #[.bool hi_Has, .bool hi_V_IsStr, .int .i64 hi_V_I, .string hi_V_S]] w (fun v w' => match v with | .tuple ⟨[.slice r0a r0l r0c, .int .i64 r1]⟩ => K ⟨r0a, r0l, r0c⟩ r1 w' | _ => False) = S.table_Store_Scan t name col lo_Has lo_V_IsStr lo_V_I lo_V_S hi_Has hi_V_IsStr hi_V_I hi_V_S w K := by kernel_rfl
theorem T.CO265 : CallOk Tryz.prog T.C265 := (CallOk.cons 159 T.ok159 (CallOk.cons 256 T.ok256 (CallOk.cons 306 T.ok306 (CallOk.cons 233 T.ok233 (CallOk.cons 232 T.ok232 CallOk.nil)))))
def T.c265 (vs : List Value) (w : World) (K : Value → World → Prop) : Prop :=
  match vs with
  | [.pointer (some ⟨t, 0, none⟩), .string name, .int .i64 col, .agg ⟨[.bool lo_Has, .bool lo_V_IsStr, .int .i64 lo_V_I, .string lo_V_S]⟩, .agg ⟨[.bool hi_Has, .bool hi_V_IsStr, .int .i64 hi_V_I, .string hi_V_S]⟩] => S.table_Store_Scan t name col lo_Has lo_V_IsStr lo_V_I lo_V_S hi_Has hi_V_IsStr hi_V_I hi_V_S w (fun r0 r1 w' => K (.tuple #[.slice r0.a r0.l r0.c, .int .i64 r1]) w')
  | _ => False
theorem T.ok265 : ∀ vs w K, T.c265 vs w K → (callFunc 265 vs.toArray).run Tryz.prog w = .ok (.enter 265 vs.toArray) w ∧ Calls Tryz.prog 265 vs.toArray w fun e w' => ∃ v, e = .returned v ∧ K v w' := by
  intro vs w K h
  unfold T.c265 at h
  split at h
  · refine ⟨Tryz.call265 _ _, ok_of T.CO265 mixed Tryz.func265 (T.eq265 _ _ _ _ _ _ _ _ _ _ _ _ _) h fun v w' hk => ⟨v, rfl, ?_⟩⟩
    split at hk
    · exact hk
    · exact hk.elim
  · exact h.elim

/-- e2e/txn.at (function 259). -/
def S.txn_at (row : Sl) (c : Int) (w : World) (K : Bool → Int → ByteArray → World → Prop) : Prop :=
  New w (.cells #[.bool false, .int .i64 0, .string ⟨#[]⟩] 167) fun p1 w =>
  if (decide (c < 0)) = true then
    S.api_Int 0 w (fun IsStr_2 I_3 S_4 w =>
    St1 w ⟨p1, 0, none⟩ (.bool IsStr_2) fun w =>
    St1 w ⟨p1, 1, none⟩ (.int .i64 I_3) fun w =>
    St1 w ⟨p1, 2, none⟩ (.string S_4) fun w =>
    LdB w ⟨p1, 0, none⟩ fun IsStr_5 =>
    LdI .i64 w ⟨p1, 1, none⟩ fun I_6 =>
    LdStr w ⟨p1, 2, none⟩ fun S_7 =>
    K IsStr_5 I_6 S_7 w)
  else
    if (decide (c ≥ (row.l : Int))) = true then
      S.api_Int 0 w (fun IsStr_8 I_9 S_10 w =>
      St1 w ⟨p1, 0, none⟩ (.bool IsStr_8) fun w =>
      St1 w ⟨p1, 1, none⟩ (.int .i64 I_9) fun w =>
      St1 w ⟨p1, 2, none⟩ (.string S_10) fun w =>
      LdB w ⟨p1, 0, none⟩ fun IsStr_11 =>
      LdI .i64 w ⟨p1, 1, none⟩ fun I_12 =>
      LdStr w ⟨p1, 2, none⟩ fun S_13 =>
      K IsStr_11 I_12 S_13 w)
    else
      Ix row.a row.l c fun b14 o15 =>
      LdB w ⟨b14, o15 + Int.toNat c * 3, none⟩ fun IsStr_16 =>
      LdI .i64 w ⟨b14, o15 + Int.toNat c * 3 + 1, none⟩ fun I_17 =>
      LdStr w ⟨b14, o15 + Int.toNat c * 3 + 2, none⟩ fun S_18 =>
      St1 w ⟨p1, 0, none⟩ (.bool IsStr_16) fun w =>
      St1 w ⟨p1, 1, none⟩ (.int .i64 I_17) fun w =>
      St1 w ⟨p1, 2, none⟩ (.string S_18) fun w =>
      LdB w ⟨p1, 0, none⟩ fun IsStr_19 =>
      LdI .i64 w ⟨p1, 1, none⟩ fun I_20 =>
      LdStr w ⟨p1, 2, none⟩ fun S_21 =>
      K IsStr_19 I_20 S_21 w
def T.C259 : CallT := (CallT.cons 187 T.c187 CallT.nil)
def T.A259 : Ann := fun _ => none
set_option maxRecDepth 1000000 in
theorem T.eq259 (row : Sl) (c : Int) (w : World) (K : Bool → Int → ByteArray → World → Prop) : denF Tryz.prog T.C259 T.A259 Tryz.f259 [.slice row.a row.l row.c, .int .i64 c] w (fun v w' => match v with | .agg ⟨[.bool r0, .int .i64 r1, .string r2]⟩ => K r0 r1 r2 w' | _ => False) = S.txn_at row c w K := by kernel_rfl
theorem T.CO259 : CallOk Tryz.prog T.C259 := (CallOk.cons 187 T.ok187 CallOk.nil)
def T.c259 (vs : List Value) (w : World) (K : Value → World → Prop) : Prop :=
  match vs with
  | [.slice rowa rowl rowc, .int .i64 c] => S.txn_at ⟨rowa, rowl, rowc⟩ c w (fun r0 r1 r2 w' => K (.agg #[.bool r0, .int .i64 r1, .string r2]) w')
  | _ => False
theorem T.ok259 : ∀ vs w K, T.c259 vs w K → (callFunc 259 vs.toArray).run Tryz.prog w = .ok (.enter 259 vs.toArray) w ∧ Calls Tryz.prog 259 vs.toArray w fun e w' => ∃ v, e = .returned v ∧ K v w' := by
  intro vs w K h
  unfold T.c259 at h
  split at h
  · refine ⟨Tryz.call259 _ _, ok_of T.CO259 mixed Tryz.func259 (T.eq259 _ _ _ _) h fun v w' hk => ⟨v, rfl, ?_⟩⟩
    split at hk
    · exact hk
    · exact hk.elim
  · exact h.elim

/-- e2e/api.Cmp (function 198). -/
def S.api_Cmp (a_IsStr : Bool) (a_I : Int) (a_S : ByteArray) (b_IsStr : Bool) (b_I : Int) (b_S : ByteArray) (w : World) (K : Int → World → Prop) : Prop :=
  New w (.cells #[.bool a_IsStr, .int .i64 a_I, .string a_S] 167) fun p1 w =>
  New w (.cells #[.bool b_IsStr, .int .i64 b_I, .string b_S] 167) fun p2 w =>
  LdB w ⟨p1, 0, none⟩ fun IsStr_3 =>
  LdB w ⟨p2, 0, none⟩ fun IsStr_4 =>
  if (!(IsStr_3 == IsStr_4)) = true then
    LdB w ⟨p2, 0, none⟩ fun IsStr_5 =>
    if IsStr_5 = true then
      K (-1) w
    else
      K 1 w
  else
    LdB w ⟨p1, 0, none⟩ fun IsStr_6 =>
    if IsStr_6 = true then
      LdStr w ⟨p1, 2, none⟩ fun S_7 =>
      LdStr w ⟨p2, 2, none⟩ fun S_8 =>
      if (Op.bytesLess S_7.toList S_8.toList) = true then
        K (-1) w
      else
        LdStr w ⟨p1, 2, none⟩ fun S_9 =>
        LdStr w ⟨p2, 2, none⟩ fun S_10 =>
        if (!(Op.bytesLess S_9.toList S_10.toList || S_9.toList == S_10.toList)) = true then
          K 1 w
        else
          K 0 w
    else
      LdI .i64 w ⟨p1, 1, none⟩ fun I_11 =>
      LdI .i64 w ⟨p2, 1, none⟩ fun I_12 =>
      if (decide (I_11 < I_12)) = true then
        K (-1) w
      else
        LdI .i64 w ⟨p1, 1, none⟩ fun I_13 =>
        LdI .i64 w ⟨p2, 1, none⟩ fun I_14 =>
        if (decide (I_13 > I_14)) = true then
          K 1 w
        else
          K 0 w
def T.C198 : CallT := CallT.nil
def T.A198 : Ann := fun _ => none
set_option maxRecDepth 1000000 in
theorem T.eq198 (a_IsStr : Bool) (a_I : Int) (a_S : ByteArray) (b_IsStr : Bool) (b_I : Int) (b_S : ByteArray) (w : World) (K : Int → World → Prop) : denF Tryz.prog T.C198 T.A198 Tryz.f198 [.agg #[.bool a_IsStr, .int .i64 a_I, .string a_S], .agg #[.bool b_IsStr, .int .i64 b_I, .string b_S]] w (fun v w' => match v with | .int .i64 r0 => K r0 w' | _ => False) = S.api_Cmp a_IsStr a_I a_S b_IsStr b_I b_S w K := by kernel_rfl
theorem T.CO198 : CallOk Tryz.prog T.C198 := CallOk.nil
def T.c198 (vs : List Value) (w : World) (K : Value → World → Prop) : Prop :=
  match vs with
  | [.agg ⟨[.bool a_IsStr, .int .i64 a_I, .string a_S]⟩, .agg ⟨[.bool b_IsStr, .int .i64 b_I, .string b_S]⟩] => S.api_Cmp a_IsStr a_I a_S b_IsStr b_I b_S w (fun r0 w' => K (.int .i64 r0) w')
  | _ => False
theorem T.ok198 : ∀ vs w K, T.c198 vs w K → (callFunc 198 vs.toArray).run Tryz.prog w = .ok (.enter 198 vs.toArray) w ∧ Calls Tryz.prog 198 vs.toArray w fun e w' => ∃ v, e = .returned v ∧ K v w' := by
  intro vs w K h
  unfold T.c198 at h
  split at h
  · refine ⟨Tryz.call198 _ _, ok_of T.CO198 mixed Tryz.func198 (T.eq198 _ _ _ _ _ _ _ _) h fun v w' hk => ⟨v, rfl, ?_⟩⟩
    split at hk
    · exact hk
    · exact hk.elim
  · exact h.elim

/-- e2e/txn.ahead (function 308). -/
def S.txn_ahead (a : Sl) (b : Sl) (col : Int) (pk : Int) (w : World) (K : Bool → World → Prop) : Prop :=
  S.txn_at a col w (fun IsStr_1 I_2 S_3 w =>
  New w (.cells #[.bool false, .int .i64 0, .string ⟨#[]⟩] 167) fun p4 w =>
  St1 w ⟨p4, 0, none⟩ (.bool IsStr_1) fun w =>
  St1 w ⟨p4, 1, none⟩ (.int .i64 I_2) fun w =>
  St1 w ⟨p4, 2, none⟩ (.string S_3) fun w =>
  S.txn_at b col w (fun IsStr_5 I_6 S_7 w =>
  New w (.cells #[.bool false, .int .i64 0, .string ⟨#[]⟩] 167) fun p8 w =>
  St1 w ⟨p8, 0, none⟩ (.bool IsStr_5) fun w =>
  St1 w ⟨p8, 1, none⟩ (.int .i64 I_6) fun w =>
  St1 w ⟨p8, 2, none⟩ (.string S_7) fun w =>
  LdB w ⟨p4, 0, none⟩ fun IsStr_9 =>
  LdI .i64 w ⟨p4, 1, none⟩ fun I_10 =>
  LdStr w ⟨p4, 2, none⟩ fun S_11 =>
  LdB w ⟨p8, 0, none⟩ fun IsStr_12 =>
  LdI .i64 w ⟨p8, 1, none⟩ fun I_13 =>
  LdStr w ⟨p8, 2, none⟩ fun S_14 =>
  S.api_Cmp IsStr_9 I_10 S_11 IsStr_12 I_13 S_14 w (fun r15 w =>
  if (r15 != 0) = true then
    K (decide (r15 < 0)) w
  else
    S.txn_at a pk w (fun IsStr_16 I_17 S_18 w =>
    St1 w ⟨p4, 0, none⟩ (.bool IsStr_16) fun w =>
    St1 w ⟨p4, 1, none⟩ (.int .i64 I_17) fun w =>
    St1 w ⟨p4, 2, none⟩ (.string S_18) fun w =>
    S.txn_at b pk w (fun IsStr_19 I_20 S_21 w =>
    St1 w ⟨p8, 0, none⟩ (.bool IsStr_19) fun w =>
    St1 w ⟨p8, 1, none⟩ (.int .i64 I_20) fun w =>
    St1 w ⟨p8, 2, none⟩ (.string S_21) fun w =>
    LdB w ⟨p4, 0, none⟩ fun IsStr_22 =>
    LdI .i64 w ⟨p4, 1, none⟩ fun I_23 =>
    LdStr w ⟨p4, 2, none⟩ fun S_24 =>
    LdB w ⟨p8, 0, none⟩ fun IsStr_25 =>
    LdI .i64 w ⟨p8, 1, none⟩ fun I_26 =>
    LdStr w ⟨p8, 2, none⟩ fun S_27 =>
    S.api_Cmp IsStr_22 I_23 S_24 IsStr_25 I_26 S_27 w (fun r28 w =>
    K (decide (r28 < 0)) w))))))
def T.C308 : CallT := (CallT.cons 259 T.c259 (CallT.cons 198 T.c198 CallT.nil))
def T.A308 : Ann := fun _ => none
set_option maxRecDepth 1000000 in
theorem T.eq308 (a : Sl) (b : Sl) (col : Int) (pk : Int) (w : World) (K : Bool → World → Prop) : denF Tryz.prog T.C308 T.A308 Tryz.f308 [.slice a.a a.l a.c, .slice b.a b.l b.c, .int .i64 col, .int .i64 pk] w (fun v w' => match v with | .bool r0 => K r0 w' | _ => False) = S.txn_ahead a b col pk w K := by kernel_rfl
theorem T.CO308 : CallOk Tryz.prog T.C308 := (CallOk.cons 259 T.ok259 (CallOk.cons 198 T.ok198 CallOk.nil))
def T.c308 (vs : List Value) (w : World) (K : Value → World → Prop) : Prop :=
  match vs with
  | [.slice aa al ac, .slice ba bl bc, .int .i64 col, .int .i64 pk] => S.txn_ahead ⟨aa, al, ac⟩ ⟨ba, bl, bc⟩ col pk w (fun r0 w' => K (.bool r0) w')
  | _ => False
theorem T.ok308 : ∀ vs w K, T.c308 vs w K → (callFunc 308 vs.toArray).run Tryz.prog w = .ok (.enter 308 vs.toArray) w ∧ Calls Tryz.prog 308 vs.toArray w fun e w' => ∃ v, e = .returned v ∧ K v w' := by
  intro vs w K h
  unfold T.c308 at h
  split at h
  · refine ⟨Tryz.call308 _ _, ok_of T.CO308 mixed Tryz.func308 (T.eq308 _ _ _ _ _ _) h fun v w' hk => ⟨v, rfl, ?_⟩⟩
    split at hk
    · exact hk
    · exact hk.elim
  · exact h.elim

/-- e2e/txn.within (function 307). -/
def S.txn_within (v_IsStr : Bool) (v_I : Int) (v_S : ByteArray) (lo_Has : Bool) (lo_V_IsStr : Bool) (lo_V_I : Int) (lo_V_S : ByteArray) (hi_Has : Bool) (hi_V_IsStr : Bool) (hi_V_I : Int) (hi_V_S : ByteArray) (w : World) (K : Bool → World → Prop) : Prop :=
  New w (.cells #[.bool v_IsStr, .int .i64 v_I, .string v_S] 167) fun p1 w =>
  New w (.cells #[.bool lo_Has, .bool lo_V_IsStr, .int .i64 lo_V_I, .string lo_V_S] 179) fun p2 w =>
  New w (.cells #[.bool hi_Has, .bool hi_V_IsStr, .int .i64 hi_V_I, .string hi_V_S] 179) fun p3 w =>
  Join (fun (w : World) =>
    LdB w ⟨p3, 0, none⟩ fun Has_4 =>
    if Has_4 = true then
      LdB w ⟨p1, 0, none⟩ fun IsStr_5 =>
      LdI .i64 w ⟨p1, 1, none⟩ fun I_6 =>
      LdStr w ⟨p1, 2, none⟩ fun S_7 =>
      LdB w ⟨p3, 1, none⟩ fun IsStr_8 =>
      LdI .i64 w ⟨p3, 2, none⟩ fun I_9 =>
      LdStr w ⟨p3, 3, none⟩ fun S_10 =>
      S.api_Cmp IsStr_5 I_6 S_7 IsStr_8 I_9 S_10 w (fun r11 w =>
      if (decide (r11 > 0)) = true then
        K false w
      else
        K true w)
    else
      K true w) fun J12 =>
  LdB w ⟨p2, 0, none⟩ fun Has_13 =>
  if Has_13 = true then
    LdB w ⟨p1, 0, none⟩ fun IsStr_14 =>
    LdI .i64 w ⟨p1, 1, none⟩ fun I_15 =>
    LdStr w ⟨p1, 2, none⟩ fun S_16 =>
    LdB w ⟨p2, 1, none⟩ fun IsStr_17 =>
    LdI .i64 w ⟨p2, 2, none⟩ fun I_18 =>
    LdStr w ⟨p2, 3, none⟩ fun S_19 =>
    S.api_Cmp IsStr_14 I_15 S_16 IsStr_17 I_18 S_19 w (fun r20 w =>
    if (decide (r20 < 0)) = true then
      K false w
    else
      J12 w)
  else
    J12 w
def T.C307 : CallT := (CallT.cons 198 T.c198 CallT.nil)
def T.A307 : Ann := fun _ => none
set_option maxRecDepth 1000000 in
theorem T.eq307 (v_IsStr : Bool) (v_I : Int) (v_S : ByteArray) (lo_Has : Bool) (lo_V_IsStr : Bool) (lo_V_I : Int) (lo_V_S : ByteArray) (hi_Has : Bool) (hi_V_IsStr : Bool) (hi_V_I : Int) (hi_V_S : ByteArray) (w : World) (K : Bool → World → Prop) : denF Tryz.prog T.C307 T.A307 Tryz.f307 [.agg #[.bool v_IsStr, .int .i64 v_I, .string v_S], .agg #[.bool lo_Has, .bool lo_V_IsStr, .int .i64 lo_V_I, .string lo_V_S], .agg #[.bool hi_Has, .bool hi_V_IsStr, .int .i64 hi_V_I, .string hi_V_S]] w (fun v w' => match v with | .bool r0 => K r0 w' | _ => False) = S.txn_within v_IsStr v_I v_S lo_Has lo_V_IsStr lo_V_I lo_V_S hi_Has hi_V_IsStr hi_V_I hi_V_S w K := by kernel_rfl
theorem T.CO307 : CallOk Tryz.prog T.C307 := (CallOk.cons 198 T.ok198 CallOk.nil)
def T.c307 (vs : List Value) (w : World) (K : Value → World → Prop) : Prop :=
  match vs with
  | [.agg ⟨[.bool v_IsStr, .int .i64 v_I, .string v_S]⟩, .agg ⟨[.bool lo_Has, .bool lo_V_IsStr, .int .i64 lo_V_I, .string lo_V_S]⟩, .agg ⟨[.bool hi_Has, .bool hi_V_IsStr, .int .i64 hi_V_I, .string hi_V_S]⟩] => S.txn_within v_IsStr v_I v_S lo_Has lo_V_IsStr lo_V_I lo_V_S hi_Has hi_V_IsStr hi_V_I hi_V_S w (fun r0 w' => K (.bool r0) w')
  | _ => False
theorem T.ok307 : ∀ vs w K, T.c307 vs w K → (callFunc 307 vs.toArray).run Tryz.prog w = .ok (.enter 307 vs.toArray) w ∧ Calls Tryz.prog 307 vs.toArray w fun e w' => ∃ v, e = .returned v ∧ K v w' := by
  intro vs w K h
  unfold T.c307 at h
  split at h
  · refine ⟨Tryz.call307 _ _, ok_of T.CO307 mixed Tryz.func307 (T.eq307 _ _ _ _ _ _ _ _ _ _ _ _ _) h fun v w' hk => ⟨v, rfl, ?_⟩⟩
    split at hk
    · exact hk
    · exact hk.elim
  · exact h.elim

/-- e2e/txn.side (function 305). -/
def S.txn_side (tab : ByteArray) (key_IsStr : Bool) (key_I : Int) (key_S : ByteArray) (c_tab : ByteArray) (c_key_IsStr : Bool) (c_key_I : Int) (c_key_S : ByteArray) (c_gone : Bool) (c_row : Sl) (w : World) (K : Int → World → Prop) : Prop :=
  New w (.cells #[.bool key_IsStr, .int .i64 key_I, .string key_S] 167) fun p1 w =>
  New w (.cells #[.string c_tab, .bool c_key_IsStr, .int .i64 c_key_I, .string c_key_S, .bool c_gone, .slice c_row.a c_row.l c_row.c] 206) fun p2 w =>
  LdStr w ⟨p2, 0, none⟩ fun tab_3 =>
  if (Op.bytesLess tab.toList tab_3.toList) = true then
    K (-1) w
  else
    LdStr w ⟨p2, 0, none⟩ fun tab_4 =>
    if (!(Op.bytesLess tab.toList tab_4.toList || tab.toList == tab_4.toList)) = true then
      K 1 w
    else
      LdB w ⟨p1, 0, none⟩ fun IsStr_5 =>
      LdI .i64 w ⟨p1, 1, none⟩ fun I_6 =>
      LdStr w ⟨p1, 2, none⟩ fun S_7 =>
      LdB w ⟨p2, 1, none⟩ fun IsStr_8 =>
      LdI .i64 w ⟨p2, 2, none⟩ fun I_9 =>
      LdStr w ⟨p2, 3, none⟩ fun S_10 =>
      S.api_Cmp IsStr_5 I_6 S_7 IsStr_8 I_9 S_10 w (fun r11 w =>
      K r11 w)
def T.C305 : CallT := (CallT.cons 198 T.c198 CallT.nil)
def T.A305 : Ann := fun _ => none
set_option maxRecDepth 1000000 in
theorem T.eq305 (tab : ByteArray) (key_IsStr : Bool) (key_I : Int) (key_S : ByteArray) (c_tab : ByteArray) (c_key_IsStr : Bool) (c_key_I : Int) (c_key_S : ByteArray) (c_gone : Bool) (c_row : Sl) (w : World) (K : Int → World → Prop) : denF Tryz.prog T.C305 T.A305 Tryz.f305 [.string tab, .agg #[.bool key_IsStr, .int .i64 key_I, .string key_S], .agg #[.string c_tab, .bool c_key_IsStr, .int .i64 c_key_I, .string c_key_S, .bool c_gone, .slice c_row.a c_row.l c_row.c]] w (fun v w' => match v with | .int .i64 r0 => K r0 w' | _ => False) = S.txn_side tab key_IsStr key_I key_S c_tab c_key_IsStr c_key_I c_key_S c_gone c_row w K := by kernel_rfl
theorem T.CO305 : CallOk Tryz.prog T.C305 := (CallOk.cons 198 T.ok198 CallOk.nil)
def T.c305 (vs : List Value) (w : World) (K : Value → World → Prop) : Prop :=
  match vs with
  | [.string tab, .agg ⟨[.bool key_IsStr, .int .i64 key_I, .string key_S]⟩, .agg ⟨[.string c_tab, .bool c_key_IsStr, .int .i64 c_key_I, .string c_key_S, .bool c_gone, .slice c_rowa c_rowl c_rowc]⟩] => S.txn_side tab key_IsStr key_I key_S c_tab c_key_IsStr c_key_I c_key_S c_gone ⟨c_rowa, c_rowl, c_rowc⟩ w (fun r0 w' => K (.int .i64 r0) w')
  | _ => False
theorem T.ok305 : ∀ vs w K, T.c305 vs w K → (callFunc 305 vs.toArray).run Tryz.prog w = .ok (.enter 305 vs.toArray) w ∧ Calls Tryz.prog 305 vs.toArray w fun e w' => ∃ v, e = .returned v ∧ K v w' := by
  intro vs w K h
  unfold T.c305 at h
  split at h
  · refine ⟨Tryz.call305 _ _, ok_of T.CO305 mixed Tryz.func305 (T.eq305 _ _ _ _ _ _ _ _ _ _ _ _) h fun v w' hk => ⟨v, rfl, ?_⟩⟩
    split at hk
    · exact hk
    · exact hk.elim
  · exact h.elim

/-- (*e2e/txn.Mgr).find (function 264). -/
def S.txn_Mgr_find (g : Nat) (s_ : Int) (tab : ByteArray) (key_IsStr : Bool) (key_I : Int) (key_S : ByteArray) (w : World) (K : Int → Bool → World → Prop) : Prop :=
  New w (.cells #[.bool key_IsStr, .int .i64 key_I, .string key_S] 167) fun p1 w =>
  Join (fun (w : World) =>
    IxA 4 s_ <|
    LdS w ⟨g, 23 + Int.toNat s_ * 1, none⟩ fun ws_2 =>
    K (ws_2.l : Int) false w) fun J3 =>
  LoopP (σ := Int × Unit) (fun st4 w next5 =>
    IxA 4 s_ <|
    LdS w ⟨g, 23 + Int.toNat s_ * 1, none⟩ fun ws_6 =>
    if (decide (st4.1 < (ws_6.l : Int))) = true then
      Drew w fun w =>
      LdB w ⟨p1, 0, none⟩ fun IsStr_7 =>
      LdI .i64 w ⟨p1, 1, none⟩ fun I_8 =>
      LdStr w ⟨p1, 2, none⟩ fun S_9 =>
      IxA 4 s_ <|
      LdS w ⟨g, 23 + Int.toNat s_ * 1, none⟩ fun ws_10 =>
      Ix ws_10.a ws_10.l st4.1 fun b11 o12 =>
      LdStr w ⟨b11, o12 + Int.toNat st4.1 * 6, none⟩ fun tab_13 =>
      LdB w ⟨b11, o12 + Int.toNat st4.1 * 6 + 1, none⟩ fun key_IsStr_14 =>
      LdI .i64 w ⟨b11, o12 + Int.toNat st4.1 * 6 + 2, none⟩ fun key_I_15 =>
      LdStr w ⟨b11, o12 + Int.toNat st4.1 * 6 + 3, none⟩ fun key_S_16 =>
      LdB w ⟨b11, o12 + Int.toNat st4.1 * 6 + 4, none⟩ fun gone_17 =>
      LdS w ⟨b11, o12 + Int.toNat st4.1 * 6 + 5, none⟩ fun row_18 =>
      S.txn_side tab IsStr_7 I_8 S_9 tab_13 key_IsStr_14 key_I_15 key_S_16 gone_17 row_18 w (fun r19 w =>
      if (decide (r19 ≤ 0)) = true then
        K st4.1 (r19 == 0) w
      else
        Let (W (st4.1 + 1)) fun p_20 =>
        next5 (p_20, ()) w)
    else
      J3 w) (0, ()) w
def T.C264 : CallT := (CallT.cons 305 T.c305 CallT.nil)
def T.A264 : Ann := fun i => bif Nat.beq i 2 then some ([0, 1, 2, 7], [(10, 0)]) else none
set_option maxRecDepth 1000000 in
theorem T.eq264 (g : Nat) (s_ : Int) (tab : ByteArray) (key_IsStr : Bool) (key_I : Int) (key_S : ByteArray) (w : World) (K : Int → Bool → World → Prop) : denF Tryz.prog T.C264 T.A264 Tryz.f264 [.pointer (some ⟨g, 0, none⟩), .int .i64 s_, .string tab, .agg #[.bool key_IsStr, .int .i64 key_I, .string key_S]] w (fun v w' => match v with | .tuple ⟨[.int .i64 r0, .bool r1]⟩ => K r0 r1 w' | _ => False) = S.txn_Mgr_find g s_ tab key_IsStr key_I key_S w K := by kernel_rfl
theorem T.CO264 : CallOk Tryz.prog T.C264 := (CallOk.cons 305 T.ok305 CallOk.nil)
def T.c264 (vs : List Value) (w : World) (K : Value → World → Prop) : Prop :=
  match vs with
  | [.pointer (some ⟨g, 0, none⟩), .int .i64 s_, .string tab, .agg ⟨[.bool key_IsStr, .int .i64 key_I, .string key_S]⟩] => S.txn_Mgr_find g s_ tab key_IsStr key_I key_S w (fun r0 r1 w' => K (.tuple #[.int .i64 r0, .bool r1]) w')
  | _ => False
theorem T.ok264 : ∀ vs w K, T.c264 vs w K → (callFunc 264 vs.toArray).run Tryz.prog w = .ok (.enter 264 vs.toArray) w ∧ Calls Tryz.prog 264 vs.toArray w fun e w' => ∃ v, e = .returned v ∧ K v w' := by
  intro vs w K h
  unfold T.c264 at h
  split at h
  · refine ⟨Tryz.call264 _ _, ok_of T.CO264 mixed Tryz.func264 (T.eq264 _ _ _ _ _ _ _ _) h fun v w' hk => ⟨v, rfl, ?_⟩⟩
    split at hk
    · exact hk
    · exact hk.elim
  · exact h.elim

/-- (*e2e/txn.Mgr).merge (function 266). -/
def S.txn_Mgr_merge (g : Nat) (s_ : Int) (sch_Name : ByteArray) (sch_Cols : Sl) (sch_PK : Int) (sch_Index : Int) (rows : Sl) (col : Int) (lo_Has : Bool) (lo_V_IsStr : Bool) (lo_V_I : Int) (lo_V_S : ByteArray) (hi_Has : Bool) (hi_V_IsStr : Bool) (hi_V_I : Int) (hi_V_S : ByteArray) (w : World) (K : Sl → World → Prop) : Prop :=
  New w (.cells #[.string sch_Name, .slice sch_Cols.a sch_Cols.l sch_Cols.c, .int .i64 sch_PK, .int .i64 sch_Index] 73) fun p1 w =>
  New w (.cells #[.bool lo_Has, .bool lo_V_IsStr, .int .i64 lo_V_I, .string lo_V_S] 179) fun p2 w =>
  New w (.cells #[.bool hi_Has, .bool hi_V_IsStr, .int .i64 hi_V_I, .string hi_V_S] 179) fun p3 w =>
  Join (fun (out_4 : Sl) (w : World) =>
    LoopP (σ := Sl × Int × Unit) (fun st5 w next6 =>
      IxA 4 s_ <|
      LdS w ⟨g, 23 + Int.toNat s_ * 1, none⟩ fun ws_7 =>
      if (decide (st5.2.1 < (ws_7.l : Int))) = true then
        Join (fun (out_8 : Sl) (w : World) =>
          Let (W (st5.2.1 + 1)) fun p_9 =>
          next6 (out_8, p_9, ()) w) fun J10 =>
        IxA 4 s_ <|
        LdS w ⟨g, 23 + Int.toNat s_ * 1, none⟩ fun ws_11 =>
        Ix ws_11.a ws_11.l st5.2.1 fun b12 o13 =>
        LdStr w ⟨b12, o13 + Int.toNat st5.2.1 * 6, none⟩ fun tab_14 =>
        LdB w ⟨b12, o13 + Int.toNat st5.2.1 * 6 + 1, none⟩ fun key_IsStr_15 =>
        LdI .i64 w ⟨b12, o13 + Int.toNat st5.2.1 * 6 + 2, none⟩ fun key_I_16 =>
        LdStr w ⟨b12, o13 + Int.toNat st5.2.1 * 6 + 3, none⟩ fun key_S_17 =>
        LdB w ⟨b12, o13 + Int.toNat st5.2.1 * 6 + 4, none⟩ fun gone_18 =>
        LdS w ⟨b12, o13 + Int.toNat st5.2.1 * 6 + 5, none⟩ fun row_19 =>
        New w (.cells #[.string ⟨#[]⟩, .bool false, .int .i64 0, .string ⟨#[]⟩, .bool false, .slice none 0 0] 206) fun p20 w =>
        St1 w ⟨p20, 0, none⟩ (.string tab_14) fun w =>
        St1 w ⟨p20, 1, none⟩ (.bool key_IsStr_15) fun w =>
        St1 w ⟨p20, 2, none⟩ (.int .i64 key_I_16) fun w =>
        St1 w ⟨p20, 3, none⟩ (.string key_S_17) fun w =>
        St1 w ⟨p20, 4, none⟩ (.bool gone_18) fun w =>
        St1 w ⟨p20, 5, none⟩ (.slice row_19.a row_19.l row_19.c) fun w =>
        Join (fun (in_21 : Bool) (w : World) =>
          if in_21 = true then
            LdS w ⟨p20, 5, none⟩ fun row_22 =>
            S.api_CloneRow row_22 w (fun r23 w =>
            New w (.cells #[.slice r23.a r23.l r23.c] 61) fun p24 w =>
            AppS 61 [.slice none 0 0] 24 1 w st5.1 ⟨some ⟨p24, 0, none⟩, 1, 1⟩ fun l25 w =>
            Let (W ((l25.l : Int) - 1)) fun j_26 =>
            Join (fun (j_27 : Int) (w : World) =>
              Ix l25.a l25.l j_27 fun b28 o29 =>
              St1 w ⟨b28, o29 + Int.toNat j_27 * 1, none⟩ (.slice r23.a r23.l r23.c) fun w =>
              J10 l25 w) fun J30 =>
            LoopP (σ := Int × Unit) (fun st31 w next32 =>
              Drew w fun w =>
              if (decide (st31.1 > 0)) = true then
                Ix l25.a l25.l (W (st31.1 - 1)) fun b33 o34 =>
                LdS w ⟨b33, o34 + Int.toNat (W (st31.1 - 1)) * 1, none⟩ fun x_35 =>
                LdI .i64 w ⟨p1, 2, none⟩ fun PK_36 =>
                S.txn_ahead r23 x_35 col PK_36 w (fun r37 w =>
                if r37 = true then
                  Ix l25.a l25.l (W (st31.1 - 1)) fun b38 o39 =>
                  LdS w ⟨b38, o39 + Int.toNat (W (st31.1 - 1)) * 1, none⟩ fun x_40 =>
                  Ix l25.a l25.l st31.1 fun b41 o42 =>
                  St1 w ⟨b41, o42 + Int.toNat st31.1 * 1, none⟩ (.slice x_40.a x_40.l x_40.c) fun w =>
                  Let (W (st31.1 - 1)) fun j_43 =>
                  next32 (j_43, ()) w
                else
                  J30 st31.1 w)
              else
                J30 st31.1 w) (j_26, ()) w)
          else
            J10 st5.1 w) fun J44 =>
        LdStr w ⟨p20, 0, none⟩ fun tab_45 =>
        LdStr w ⟨p1, 0, none⟩ fun Name_46 =>
        if (tab_45.toList == Name_46.toList) = true then
          LdB w ⟨p20, 4, none⟩ fun gone_47 =>
          if (!gone_47) = true then
            LdS w ⟨p20, 5, none⟩ fun row_48 =>
            S.txn_at row_48 col w (fun IsStr_49 I_50 S_51 w =>
            New w (.cells #[.bool false, .int .i64 0, .string ⟨#[]⟩] 167) fun p52 w =>
            St1 w ⟨p52, 0, none⟩ (.bool IsStr_49) fun w =>
            St1 w ⟨p52, 1, none⟩ (.int .i64 I_50) fun w =>
            St1 w ⟨p52, 2, none⟩ (.string S_51) fun w =>
            LdB w ⟨p52, 0, none⟩ fun IsStr_53 =>
            LdI .i64 w ⟨p52, 1, none⟩ fun I_54 =>
            LdStr w ⟨p52, 2, none⟩ fun S_55 =>
            LdB w ⟨p2, 0, none⟩ fun Has_56 =>
            LdB w ⟨p2, 1, none⟩ fun V_IsStr_57 =>
            LdI .i64 w ⟨p2, 2, none⟩ fun V_I_58 =>
            LdStr w ⟨p2, 3, none⟩ fun V_S_59 =>
            LdB w ⟨p3, 0, none⟩ fun Has_60 =>
            LdB w ⟨p3, 1, none⟩ fun V_IsStr_61 =>
            LdI .i64 w ⟨p3, 2, none⟩ fun V_I_62 =>
            LdStr w ⟨p3, 3, none⟩ fun V_S_63 =>
            S.txn_within IsStr_53 I_54 S_55 Has_56 V_IsStr_57 V_I_58 V_S_59 Has_60 V_IsStr_61 V_I_62 V_S_63 w (fun r64 w =>
            J44 r64 w))
          else
            J44 false w
        else
          J44 false w
      else
        K st5.1 w) (out_4, 0, ()) w) fun J65 =>
  LoopP (σ := Sl × Int × Unit) (fun st66 w next67 =>
    if (decide (st66.2.1 < (rows.l : Int))) = true then
      Join (fun (out_68 : Sl) (w : World) =>
        Let (W (st66.2.1 + 1)) fun i_69 =>
        next67 (out_68, i_69, ()) w) fun J70 =>
      Join (fun (k_71 : Nat) (w : World) =>
        LdStr w ⟨p1, 0, none⟩ fun Name_72 =>
        LdB w ⟨k_71, 0, none⟩ fun IsStr_73 =>
        LdI .i64 w ⟨k_71, 1, none⟩ fun I_74 =>
        LdStr w ⟨k_71, 2, none⟩ fun S_75 =>
        S.txn_Mgr_find g s_ Name_72 IsStr_73 I_74 S_75 w (fun r76 r77 w =>
        if (!r77) = true then
          Ix rows.a rows.l st66.2.1 fun b78 o79 =>
          LdS w ⟨b78, o79 + Int.toNat st66.2.1 * 1, none⟩ fun x_80 =>
          New w (.cells #[.slice x_80.a x_80.l x_80.c] 61) fun p81 w =>
          AppS 61 [.slice none 0 0] 24 1 w st66.1 ⟨some ⟨p81, 0, none⟩, 1, 1⟩ fun l82 w =>
          J70 l82 w
        else
          J70 st66.1 w)) fun J83 =>
      Drew w fun w =>
      Ix rows.a rows.l st66.2.1 fun b84 o85 =>
      Hold w ⟨b84, o85 + Int.toNat st66.2.1 * 1, none⟩ 1 fun R86 =>
      LdS w ⟨b84, o85 + Int.toNat st66.2.1 * 1, none⟩ fun x_87 =>
      Hold w ⟨p1, 2, none⟩ 1 fun R88 =>
      LdI .i64 w ⟨p1, 2, none⟩ fun PK_89 =>
      (S.txn_at x_87 PK_89 w (fun IsStr_90 I_91 S_92 w =>
      New w (.cells #[.bool false, .int .i64 0, .string ⟨#[]⟩] 167) fun p93 w =>
      After R88 w <|
      After R86 w <|
      St1 w ⟨p93, 0, none⟩ (.bool IsStr_90) fun w =>
      St1 w ⟨p93, 1, none⟩ (.int .i64 I_91) fun w =>
      St1 w ⟨p93, 2, none⟩ (.string S_92) fun w =>
      J83 p93 w)) ∧
      (New w (.cells #[.bool false, .int .i64 0, .string ⟨#[]⟩] 167) fun p94 w =>
      After R88 w <|
      After R86 w <|
      S.txn_at x_87 PK_89 w (fun IsStr_95 I_96 S_97 w =>
      St1 w ⟨p94, 0, none⟩ (.bool IsStr_95) fun w =>
      St1 w ⟨p94, 1, none⟩ (.int .i64 I_96) fun w =>
      St1 w ⟨p94, 2, none⟩ (.string S_97) fun w =>
      J83 p94 w))
    else
      J65 st66.1 w) (⟨none, 0, 0⟩, 0, ()) w
def T.C266 : CallT := (CallT.cons 261 T.c261 (CallT.cons 308 T.c308 (CallT.cons 259 T.c259 (CallT.cons 307 T.c307 (CallT.cons 264 T.c264 CallT.nil)))))
def T.A266 : Ann := fun i => bif Nat.beq i 3 then some ([0, 1, 3, 4, 9, 12, 13], [(15, 6), (16, 0)]) else bif Nat.beq i 21 then some ([0, 1, 4, 9, 12, 13, 15, 20, 24], [(25, 0)]) else bif Nat.beq i 10 then some ([0, 1, 4, 9, 12, 13], [(15, 6), (20, 0)]) else none
set_option maxRecDepth 1000000 in
theorem T.eq266 (g : Nat) (s_ : Int) (sch_Name : ByteArray) (sch_Cols : Sl) (sch_PK : Int) (sch_Index : Int) (rows : Sl) (col : Int) (lo_Has : Bool) (lo_V_IsStr : Bool) (lo_V_I : Int) (lo_V_S : ByteArray) (hi_Has : Bool) (hi_V_IsStr : Bool) (hi_V_I : Int) (hi_V_S : ByteArray) (w : World) (K : Sl → World → Prop) : denF Tryz.prog T.C266 T.A266 Tryz.f266 [.pointer (some ⟨g, 0, none⟩), .int .i64 s_, .agg #[.string sch_Name, .slice sch_Cols.a sch_Cols.l sch_Cols.c, .int .i64 sch_PK, .int .i64 sch_Index], .slice rows.a rows.l rows.c, .int .i64 col, .agg #[.bool lo_Has, .bool lo_V_IsStr, .int .i64 lo_V_I, .string lo_V_S], .agg #[.bool hi_Has, .bool hi_V_IsStr, .int .i64 hi_V_I, .string hi_V_S]] w (fun v w' => match v with | .slice r0a r0l r0c => K ⟨r0a, r0l, r0c⟩ w' | _ => False) = S.txn_Mgr_merge g s_ sch_Name sch_Cols sch_PK sch_Index rows col lo_Has lo_V_IsStr lo_V_I lo_V_S hi_Has hi_V_IsStr hi_V_I hi_V_S w K := by kernel_rfl
theorem T.CO266 : CallOk Tryz.prog T.C266 := (CallOk.cons 261 T.ok261 (CallOk.cons 308 T.ok308 (CallOk.cons 259 T.ok259 (CallOk.cons 307 T.ok307 (CallOk.cons 264 T.ok264 CallOk.nil)))))
def T.c266 (vs : List Value) (w : World) (K : Value → World → Prop) : Prop :=
  match vs with
  | [.pointer (some ⟨g, 0, none⟩), .int .i64 s_, .agg ⟨[.string sch_Name, .slice sch_Colsa sch_Colsl sch_Colsc, .int .i64 sch_PK, .int .i64 sch_Index]⟩, .slice rowsa rowsl rowsc, .int .i64 col, .agg ⟨[.bool lo_Has, .bool lo_V_IsStr, .int .i64 lo_V_I, .string lo_V_S]⟩, .agg ⟨[.bool hi_Has, .bool hi_V_IsStr, .int .i64 hi_V_I, .string hi_V_S]⟩] => S.txn_Mgr_merge g s_ sch_Name ⟨sch_Colsa, sch_Colsl, sch_Colsc⟩ sch_PK sch_Index ⟨rowsa, rowsl, rowsc⟩ col lo_Has lo_V_IsStr lo_V_I lo_V_S hi_Has hi_V_IsStr hi_V_I hi_V_S w (fun r0 w' => K (.slice r0.a r0.l r0.c) w')
  | _ => False
theorem T.ok266 : ∀ vs w K, T.c266 vs w K → (callFunc 266 vs.toArray).run Tryz.prog w = .ok (.enter 266 vs.toArray) w ∧ Calls Tryz.prog 266 vs.toArray w fun e w' => ∃ v, e = .returned v ∧ K v w' := by
  intro vs w K h
  unfold T.c266 at h
  split at h
  · refine ⟨Tryz.call266 _ _, ok_of T.CO266 mixed Tryz.func266 (T.eq266 _ _ _ _ _ _ _ _ _ _ _ _ _ _ _ _ _ _) h fun v w' hk => ⟨v, rfl, ?_⟩⟩
    split at hk
    · exact hk
    · exact hk.elim
  · exact h.elim

/-- (*e2e/txn.Mgr).View (function 215). -/
def S.txn_Mgr_View (g : Nat) (s_ : Int) (name : ByteArray) (w : World) (K : Sl → Int → World → Prop) : Prop :=
  S.api_GoodSess s_ w (fun r1 w =>
  if (!r1) = true then
    K ⟨none, 0, 0⟩ 20 w
  else
    LdP w ⟨g, 0, none⟩ fun t_2 =>
    S.table_Store_SchemaOf t_2 name w (fun Name_3 Cols_4 PK_5 Index_6 r7 w =>
    New w (.cells #[.string ⟨#[]⟩, .slice none 0 0, .int .i64 0, .int .i64 0] 73) fun p8 w =>
    St1 w ⟨p8, 0, none⟩ (.string Name_3) fun w =>
    St1 w ⟨p8, 1, none⟩ (.slice Cols_4.a Cols_4.l Cols_4.c) fun w =>
    St1 w ⟨p8, 2, none⟩ (.int .i64 PK_5) fun w =>
    St1 w ⟨p8, 3, none⟩ (.int .i64 Index_6) fun w =>
    if (r7 != 0) = true then
      K ⟨none, 0, 0⟩ 10 w
    else
      Drew w fun w =>
      LdP w ⟨g, 0, none⟩ fun t_9 =>
      LdI .i64 w ⟨p8, 2, none⟩ fun PK_10 =>
      S.table_Store_Scan t_9 name PK_10 false false 0 ⟨#[]⟩ false false 0 ⟨#[]⟩ w (fun r11 r12 w =>
      LdStr w ⟨p8, 0, none⟩ fun Name_13 =>
      LdS w ⟨p8, 1, none⟩ fun Cols_14 =>
      LdI .i64 w ⟨p8, 2, none⟩ fun PK_15 =>
      LdI .i64 w ⟨p8, 3, none⟩ fun Index_16 =>
      LdI .i64 w ⟨p8, 2, none⟩ fun PK_17 =>
      S.txn_Mgr_merge g s_ Name_13 Cols_14 PK_15 Index_16 r11 PK_17 false false 0 ⟨#[]⟩ false false 0 ⟨#[]⟩ w (fun r18 w =>
      K r18 0 w))))
def T.C215 : CallT := (CallT.cons 23 T.c23 (CallT.cons 75 T.c75 (CallT.cons 265 T.c265 (CallT.cons 266 T.c266 CallT.nil))))
def T.A215 : Ann := fun _ => none
set_option maxRecDepth 1000000 in
theorem T.eq215 (g : Nat) (s_ : Int) (name : ByteArray) (w : World) (K : Sl → Int → World → Prop) : denF Tryz.prog T.C215 T.A215 Tryz.f215 [.pointer (some ⟨g, 0, none⟩), .int .i64 s_, .string name] w (fun v w' => match v with | .tuple ⟨[.slice r0a r0l r0c, .int .i64 r1]⟩ => K ⟨r0a, r0l, r0c⟩ r1 w' | _ => False) = S.txn_Mgr_View g s_ name w K := by kernel_rfl
theorem T.CO215 : CallOk Tryz.prog T.C215 := (CallOk.cons 23 T.ok23 (CallOk.cons 75 T.ok75 (CallOk.cons 265 T.ok265 (CallOk.cons 266 T.ok266 CallOk.nil))))
def T.c215 (vs : List Value) (w : World) (K : Value → World → Prop) : Prop :=
  match vs with
  | [.pointer (some ⟨g, 0, none⟩), .int .i64 s_, .string name] => S.txn_Mgr_View g s_ name w (fun r0 r1 w' => K (.tuple #[.slice r0.a r0.l r0.c, .int .i64 r1]) w')
  | _ => False
theorem T.ok215 : ∀ vs w K, T.c215 vs w K → (callFunc 215 vs.toArray).run Tryz.prog w = .ok (.enter 215 vs.toArray) w ∧ Calls Tryz.prog 215 vs.toArray w fun e w' => ∃ v, e = .returned v ∧ K v w' := by
  intro vs w K h
  unfold T.c215 at h
  split at h
  · refine ⟨Tryz.call215 _ _, ok_of T.CO215 mixed Tryz.func215 (T.eq215 _ _ _ _ _) h fun v w' hk => ⟨v, rfl, ?_⟩⟩
    split at hk
    · exact hk
    · exact hk.elim
  · exact h.elim

/-- (*e2e/query.Engine).View (function 123). -/
def S.query_Engine_View (q : Nat) (s_ : Int) (name : ByteArray) (w : World) (K : Sl → Int → World → Prop) : Prop :=
  LdP w ⟨q, 0, none⟩ fun t_1 =>
  S.txn_Mgr_View t_1 s_ name w (fun r2 r3 w =>
  K r2 r3 w)
def T.C123 : CallT := (CallT.cons 215 T.c215 CallT.nil)
def T.A123 : Ann := fun _ => none
set_option maxRecDepth 1000000 in
theorem T.eq123 (q : Nat) (s_ : Int) (name : ByteArray) (w : World) (K : Sl → Int → World → Prop) : denF Tryz.prog T.C123 T.A123 Tryz.f123 [.pointer (some ⟨q, 0, none⟩), .int .i64 s_, .string name] w (fun v w' => match v with | .tuple ⟨[.slice r0a r0l r0c, .int .i64 r1]⟩ => K ⟨r0a, r0l, r0c⟩ r1 w' | _ => False) = S.query_Engine_View q s_ name w K := by kernel_rfl
theorem T.CO123 : CallOk Tryz.prog T.C123 := (CallOk.cons 215 T.ok215 CallOk.nil)
def T.c123 (vs : List Value) (w : World) (K : Value → World → Prop) : Prop :=
  match vs with
  | [.pointer (some ⟨q, 0, none⟩), .int .i64 s_, .string name] => S.query_Engine_View q s_ name w (fun r0 r1 w' => K (.tuple #[.slice r0.a r0.l r0.c, .int .i64 r1]) w')
  | _ => False
theorem T.ok123 : ∀ vs w K, T.c123 vs w K → (callFunc 123 vs.toArray).run Tryz.prog w = .ok (.enter 123 vs.toArray) w ∧ Calls Tryz.prog 123 vs.toArray w fun e w' => ∃ v, e = .returned v ∧ K v w' := by
  intro vs w K h
  unfold T.c123 at h
  split at h
  · refine ⟨Tryz.call123 _ _, ok_of T.CO123 mixed Tryz.func123 (T.eq123 _ _ _ _ _) h fun v w' hk => ⟨v, rfl, ?_⟩⟩
    split at hk
    · exact hk
    · exact hk.elim
  · exact h.elim

/-- (*e2e/api.Multi).seen (function 196). -/
def S.api_Multi_seen (m : Nat) (s_ : Int) (name : ByteArray) (w : World) (K : Nat → Nat → World → Prop) : Prop :=
  S.api_DB_Find m 0 name w (fun r1 w =>
  Join (fun (w : World) =>
    K m 0 w) fun J2 =>
  if (decide (r1 ≥ 0)) = true then
    IxA 4 s_ <|
    IxA 3 r1 <|
    LdI .i64 w ⟨m, 5 + Int.toNat s_ * 3 + Int.toNat r1 * 1, none⟩ fun Lock_3 =>
    if (Lock_3 == 2) = true then
      IxA 4 s_ <|
      K m (17 + Int.toNat s_ * 1) w
    else
      J2 w
  else
    J2 w)
def T.C196 : CallT := (CallT.cons 192 T.c192 CallT.nil)
def T.A196 : Ann := fun _ => none
set_option maxRecDepth 1000000 in
theorem T.eq196 (m : Nat) (s_ : Int) (name : ByteArray) (w : World) (K : Nat → Nat → World → Prop) : denF Tryz.prog T.C196 T.A196 Tryz.f196 [.pointer (some ⟨m, 0, none⟩), .int .i64 s_, .string name] w (fun v w' => match v with | .pointer (some ⟨r0, r0_o, none⟩) => K r0 r0_o w' | _ => False) = S.api_Multi_seen m s_ name w K := by kernel_rfl
theorem T.CO196 : CallOk Tryz.prog T.C196 := (CallOk.cons 192 T.ok192 CallOk.nil)
def T.c196 (vs : List Value) (w : World) (K : Value → World → Prop) : Prop :=
  match vs with
  | [.pointer (some ⟨m, 0, none⟩), .int .i64 s_, .string name] => S.api_Multi_seen m s_ name w (fun r0 r0_o w' => K (.pointer (some ⟨r0, r0_o, none⟩)) w')
  | _ => False
theorem T.ok196 : ∀ vs w K, T.c196 vs w K → (callFunc 196 vs.toArray).run Tryz.prog w = .ok (.enter 196 vs.toArray) w ∧ Calls Tryz.prog 196 vs.toArray w fun e w' => ∃ v, e = .returned v ∧ K v w' := by
  intro vs w K h
  unfold T.c196 at h
  split at h
  · refine ⟨Tryz.call196 _ _, ok_of T.CO196 mixed Tryz.func196 (T.eq196 _ _ _ _ _) h fun v w' hk => ⟨v, rfl, ?_⟩⟩
    split at hk
    · exact hk
    · exact hk.elim
  · exact h.elim

/-- (*e2e/api.Multi).View (function 216). -/
def S.api_Multi_View (m : Nat) (s_ : Int) (name : ByteArray) (w : World) (K : Sl → Int → World → Prop) : Prop :=
  S.api_GoodSess s_ w (fun r1 w =>
  if (!r1) = true then
    K ⟨none, 0, 0⟩ 20 w
  else
    S.api_DB_Find m 0 name w (fun r2 w =>
    if (decide (r2 < 0)) = true then
      K ⟨none, 0, 0⟩ 10 w
    else
      S.api_Multi_seen m s_ name w (fun r3 r3_o w =>
      LdS w ⟨r3, r3_o, none⟩ fun Tabs_4 =>
      Ix Tabs_4.a Tabs_4.l r2 fun b5 o6 =>
      LdS w ⟨b5, o6 + Int.toNat r2 * 5 + 4, none⟩ fun Rows_7 =>
      S.api_CloneRows Rows_7 w (fun r8 w =>
      K r8 0 w))))
def T.C216 : CallT := (CallT.cons 23 T.c23 (CallT.cons 192 T.c192 (CallT.cons 196 T.c196 (CallT.cons 191 T.c191 CallT.nil))))
def T.A216 : Ann := fun _ => none
set_option maxRecDepth 1000000 in
theorem T.eq216 (m : Nat) (s_ : Int) (name : ByteArray) (w : World) (K : Sl → Int → World → Prop) : denF Tryz.prog T.C216 T.A216 Tryz.f216 [.pointer (some ⟨m, 0, none⟩), .int .i64 s_, .string name] w (fun v w' => match v with | .tuple ⟨[.slice r0a r0l r0c, .int .i64 r1]⟩ => K ⟨r0a, r0l, r0c⟩ r1 w' | _ => False) = S.api_Multi_View m s_ name w K := by kernel_rfl
theorem T.CO216 : CallOk Tryz.prog T.C216 := (CallOk.cons 23 T.ok23 (CallOk.cons 192 T.ok192 (CallOk.cons 196 T.ok196 (CallOk.cons 191 T.ok191 CallOk.nil))))
def T.c216 (vs : List Value) (w : World) (K : Value → World → Prop) : Prop :=
  match vs with
  | [.pointer (some ⟨m, 0, none⟩), .int .i64 s_, .string name] => S.api_Multi_View m s_ name w (fun r0 r1 w' => K (.tuple #[.slice r0.a r0.l r0.c, .int .i64 r1]) w')
  | _ => False
theorem T.ok216 : ∀ vs w K, T.c216 vs w K → (callFunc 216 vs.toArray).run Tryz.prog w = .ok (.enter 216 vs.toArray) w ∧ Calls Tryz.prog 216 vs.toArray w fun e w' => ∃ v, e = .returned v ∧ K v w' := by
  intro vs w K h
  unfold T.c216 at h
  split at h
  · refine ⟨Tryz.call216 _ _, ok_of T.CO216 mixed Tryz.func216 (T.eq216 _ _ _ _ _) h fun v w' hk => ⟨v, rfl, ?_⟩⟩
    split at hk
    · exact hk
    · exact hk.elim
  · exact h.elim

/-- (*e2e/querym.Engine).View (function 124). -/
def S.querym_Engine_View (q : Nat) (s_ : Int) (name : ByteArray) (w : World) (K : Sl → Int → World → Prop) : Prop :=
  LdP w ⟨q, 0, none⟩ fun m_1 =>
  S.api_Multi_View m_1 s_ name w (fun r2 r3 w =>
  K r2 r3 w)
def T.C124 : CallT := (CallT.cons 216 T.c216 CallT.nil)
def T.A124 : Ann := fun _ => none
set_option maxRecDepth 1000000 in
theorem T.eq124 (q : Nat) (s_ : Int) (name : ByteArray) (w : World) (K : Sl → Int → World → Prop) : denF Tryz.prog T.C124 T.A124 Tryz.f124 [.pointer (some ⟨q, 0, none⟩), .int .i64 s_, .string name] w (fun v w' => match v with | .tuple ⟨[.slice r0a r0l r0c, .int .i64 r1]⟩ => K ⟨r0a, r0l, r0c⟩ r1 w' | _ => False) = S.querym_Engine_View q s_ name w K := by kernel_rfl
theorem T.CO124 : CallOk Tryz.prog T.C124 := (CallOk.cons 216 T.ok216 CallOk.nil)
def T.c124 (vs : List Value) (w : World) (K : Value → World → Prop) : Prop :=
  match vs with
  | [.pointer (some ⟨q, 0, none⟩), .int .i64 s_, .string name] => S.querym_Engine_View q s_ name w (fun r0 r1 w' => K (.tuple #[.slice r0.a r0.l r0.c, .int .i64 r1]) w')
  | _ => False
theorem T.ok124 : ∀ vs w K, T.c124 vs w K → (callFunc 124 vs.toArray).run Tryz.prog w = .ok (.enter 124 vs.toArray) w ∧ Calls Tryz.prog 124 vs.toArray w fun e w' => ∃ v, e = .returned v ∧ K v w' := by
  intro vs w K h
  unfold T.c124 at h
  split at h
  · refine ⟨Tryz.call124 _ _, ok_of T.CO124 mixed Tryz.func124 (T.eq124 _ _ _ _ _) h fun v w' hk => ⟨v, rfl, ?_⟩⟩
    split at hk
    · exact hk
    · exact hk.elim
  · exact h.elim

/-- e2e/towerlaw.SameValue (function 202). -/
def S.towerlaw_SameValue (a_IsStr : Bool) (a_I : Int) (a_S : ByteArray) (b_IsStr : Bool) (b_I : Int) (b_S : ByteArray) (w : World) (K : Bool → World → Prop) : Prop :=
  New w (.cells #[.bool a_IsStr, .int .i64 a_I, .string a_S] 167) fun p1 w =>
  New w (.cells #[.bool b_IsStr, .int .i64 b_I, .string b_S] 167) fun p2 w =>
  LdB w ⟨p1, 0, none⟩ fun IsStr_3 =>
  LdB w ⟨p2, 0, none⟩ fun IsStr_4 =>
  if (IsStr_3 == IsStr_4) = true then
    LdI .i64 w ⟨p1, 1, none⟩ fun I_5 =>
    LdI .i64 w ⟨p2, 1, none⟩ fun I_6 =>
    if (I_5 == I_6) = true then
      LdStr w ⟨p1, 2, none⟩ fun S_7 =>
      LdStr w ⟨p2, 2, none⟩ fun S_8 =>
      K (S_7.toList == S_8.toList) w
    else
      K false w
  else
    K false w
def T.C202 : CallT := CallT.nil
def T.A202 : Ann := fun _ => none
set_option maxRecDepth 1000000 in
theorem T.eq202 (a_IsStr : Bool) (a_I : Int) (a_S : ByteArray) (b_IsStr : Bool) (b_I : Int) (b_S : ByteArray) (w : World) (K : Bool → World → Prop) : denF Tryz.prog T.C202 T.A202 Tryz.f202 [.agg #[.bool a_IsStr, .int .i64 a_I, .string a_S], .agg #[.bool b_IsStr, .int .i64 b_I, .string b_S]] w (fun v w' => match v with | .bool r0 => K r0 w' | _ => False) = S.towerlaw_SameValue a_IsStr a_I a_S b_IsStr b_I b_S w K := by kernel_rfl
theorem T.CO202 : CallOk Tryz.prog T.C202 := CallOk.nil
def T.c202 (vs : List Value) (w : World) (K : Value → World → Prop) : Prop :=
  match vs with
  | [.agg ⟨[.bool a_IsStr, .int .i64 a_I, .string a_S]⟩, .agg ⟨[.bool b_IsStr, .int .i64 b_I, .string b_S]⟩] => S.towerlaw_SameValue a_IsStr a_I a_S b_IsStr b_I b_S w (fun r0 w' => K (.bool r0) w')
  | _ => False
theorem T.ok202 : ∀ vs w K, T.c202 vs w K → (callFunc 202 vs.toArray).run Tryz.prog w = .ok (.enter 202 vs.toArray) w ∧ Calls Tryz.prog 202 vs.toArray w fun e w' => ∃ v, e = .returned v ∧ K v w' := by
  intro vs w K h
  unfold T.c202 at h
  split at h
  · refine ⟨Tryz.call202 _ _, ok_of T.CO202 mixed Tryz.func202 (T.eq202 _ _ _ _ _ _ _ _) h fun v w' hk => ⟨v, rfl, ?_⟩⟩
    split at hk
    · exact hk
    · exact hk.elim
  · exact h.elim

/-- e2e/towerlaw.SameRow (function 103). -/
def S.towerlaw_SameRow (a : Sl) (b : Sl) (w : World) (K : Bool → World → Prop) : Prop :=
  if ((a.l : Int) != (b.l : Int)) = true then
    K false w
  else
    LoopP (σ := Int × Unit) (fun st1 w next2 =>
      if (decide (st1.1 < (a.l : Int))) = true then
        Drew w fun w =>
        Ix a.a a.l st1.1 fun b3 o4 =>
        LdB w ⟨b3, o4 + Int.toNat st1.1 * 3, none⟩ fun IsStr_5 =>
        LdI .i64 w ⟨b3, o4 + Int.toNat st1.1 * 3 + 1, none⟩ fun I_6 =>
        LdStr w ⟨b3, o4 + Int.toNat st1.1 * 3 + 2, none⟩ fun S_7 =>
        Ix b.a b.l st1.1 fun b8 o9 =>
        LdB w ⟨b8, o9 + Int.toNat st1.1 * 3, none⟩ fun IsStr_10 =>
        LdI .i64 w ⟨b8, o9 + Int.toNat st1.1 * 3 + 1, none⟩ fun I_11 =>
        LdStr w ⟨b8, o9 + Int.toNat st1.1 * 3 + 2, none⟩ fun S_12 =>
        S.towerlaw_SameValue IsStr_5 I_6 S_7 IsStr_10 I_11 S_12 w (fun r13 w =>
        if (!r13) = true then
          K false w
        else
          Let (W (st1.1 + 1)) fun i_14 =>
          next2 (i_14, ()) w)
      else
        K true w) (0, ()) w
def T.C103 : CallT := (CallT.cons 202 T.c202 CallT.nil)
def T.A103 : Ann := fun i => bif Nat.beq i 4 then some ([0, 1], [(5, 0)]) else none
set_option maxRecDepth 1000000 in
theorem T.eq103 (a : Sl) (b : Sl) (w : World) (K : Bool → World → Prop) : denF Tryz.prog T.C103 T.A103 Tryz.f103 [.slice a.a a.l a.c, .slice b.a b.l b.c] w (fun v w' => match v with | .bool r0 => K r0 w' | _ => False) = S.towerlaw_SameRow a b w K := by kernel_rfl
theorem T.CO103 : CallOk Tryz.prog T.C103 := (CallOk.cons 202 T.ok202 CallOk.nil)
def T.c103 (vs : List Value) (w : World) (K : Value → World → Prop) : Prop :=
  match vs with
  | [.slice aa al ac, .slice ba bl bc] => S.towerlaw_SameRow ⟨aa, al, ac⟩ ⟨ba, bl, bc⟩ w (fun r0 w' => K (.bool r0) w')
  | _ => False
theorem T.ok103 : ∀ vs w K, T.c103 vs w K → (callFunc 103 vs.toArray).run Tryz.prog w = .ok (.enter 103 vs.toArray) w ∧ Calls Tryz.prog 103 vs.toArray w fun e w' => ∃ v, e = .returned v ∧ K v w' := by
  intro vs w K h
  unfold T.c103 at h
  split at h
  · refine ⟨Tryz.call103 _ _, ok_of T.CO103 mixed Tryz.func103 (T.eq103 _ _ _ _) h fun v w' hk => ⟨v, rfl, ?_⟩⟩
    split at hk
    · exact hk
    · exact hk.elim
  · exact h.elim

/-- e2e/towerlaw.SameRows (function 45). -/
def S.towerlaw_SameRows (a : Sl) (b : Sl) (w : World) (K : Bool → World → Prop) : Prop :=
  if ((a.l : Int) != (b.l : Int)) = true then
    K false w
  else
    LoopP (σ := Int × Unit) (fun st1 w next2 =>
      if (decide (st1.1 < (a.l : Int))) = true then
        Drew w fun w =>
        Ix a.a a.l st1.1 fun b3 o4 =>
        LdS w ⟨b3, o4 + Int.toNat st1.1 * 1, none⟩ fun x_5 =>
        Ix b.a b.l st1.1 fun b6 o7 =>
        LdS w ⟨b6, o7 + Int.toNat st1.1 * 1, none⟩ fun x_8 =>
        S.towerlaw_SameRow x_5 x_8 w (fun r9 w =>
        if (!r9) = true then
          K false w
        else
          Let (W (st1.1 + 1)) fun i_10 =>
          next2 (i_10, ()) w)
      else
        K true w) (0, ()) w
def T.C45 : CallT := (CallT.cons 103 T.c103 CallT.nil)
def T.A45 : Ann := fun i => bif Nat.beq i 4 then some ([0, 1], [(5, 0)]) else none
set_option maxRecDepth 1000000 in
theorem T.eq45 (a : Sl) (b : Sl) (w : World) (K : Bool → World → Prop) : denF Tryz.prog T.C45 T.A45 Tryz.f45 [.slice a.a a.l a.c, .slice b.a b.l b.c] w (fun v w' => match v with | .bool r0 => K r0 w' | _ => False) = S.towerlaw_SameRows a b w K := by kernel_rfl
theorem T.CO45 : CallOk Tryz.prog T.C45 := (CallOk.cons 103 T.ok103 CallOk.nil)
def T.c45 (vs : List Value) (w : World) (K : Value → World → Prop) : Prop :=
  match vs with
  | [.slice aa al ac, .slice ba bl bc] => S.towerlaw_SameRows ⟨aa, al, ac⟩ ⟨ba, bl, bc⟩ w (fun r0 w' => K (.bool r0) w')
  | _ => False
theorem T.ok45 : ∀ vs w K, T.c45 vs w K → (callFunc 45 vs.toArray).run Tryz.prog w = .ok (.enter 45 vs.toArray) w ∧ Calls Tryz.prog 45 vs.toArray w fun e w' => ∃ v, e = .returned v ∧ K v w' := by
  intro vs w K h
  unfold T.c45 at h
  split at h
  · refine ⟨Tryz.call45 _ _, ok_of T.CO45 mixed Tryz.func45 (T.eq45 _ _ _ _) h fun v w' hk => ⟨v, rfl, ?_⟩⟩
    split at hk
    · exact hk
    · exact hk.elim
  · exact h.elim

/-- e2e/towerlaw.Spoil (function 270). -/
def S.towerlaw_Spoil (r : Sl) (w : World) (K : World → Prop) : Prop :=
  LoopP (σ := Int × Unit) (fun st1 w next2 =>
    if (decide (st1.1 < (r.l : Int))) = true then
      Join (fun (w : World) =>
        Let (W (st1.1 + 1)) fun i_3 =>
        next2 (i_3, ()) w) fun J4 =>
      Ix r.a r.l st1.1 fun b5 o6 =>
      LdB w ⟨b5, o6 + Int.toNat st1.1 * 3, none⟩ fun IsStr_7 =>
      if IsStr_7 = true then
        S.api_Int 1 w (fun IsStr_8 I_9 S_10 w =>
        Ix r.a r.l st1.1 fun b11 o12 =>
        St1 w ⟨b11, o12 + Int.toNat st1.1 * 3, none⟩ (.bool IsStr_8) fun w =>
        St1 w ⟨b11, o12 + Int.toNat st1.1 * 3 + 1, none⟩ (.int .i64 I_9) fun w =>
        St1 w ⟨b11, o12 + Int.toNat st1.1 * 3 + 2, none⟩ (.string S_10) fun w =>
        J4 w)
      else
        S.api_Str (⟨#[33]⟩ : ByteArray) w (fun IsStr_13 I_14 S_15 w =>
        Ix r.a r.l st1.1 fun b16 o17 =>
        St1 w ⟨b16, o17 + Int.toNat st1.1 * 3, none⟩ (.bool IsStr_13) fun w =>
        St1 w ⟨b16, o17 + Int.toNat st1.1 * 3 + 1, none⟩ (.int .i64 I_14) fun w =>
        St1 w ⟨b16, o17 + Int.toNat st1.1 * 3 + 2, none⟩ (.string S_15) fun w =>
        J4 w)
    else
      K w) (0, ()) w
def T.C270 : CallT := (CallT.cons 187 T.c187 (CallT.cons 188 T.c188 CallT.nil))
def T.A270 : Ann := fun i => bif Nat.beq i 1000005 then some ([], [(0, 6), (2, 0)]) else bif Nat.beq i 1 then some ([0], [(2, 0)]) else none
set_option maxRecDepth 1000000 in
theorem T.eq270 (r : Sl) (w : World) (K : World → Prop) : denF Tryz.prog T.C270 T.A270 Tryz.f270 [.slice r.a r.l r.c] w (fun v w' => match v with | .tuple ⟨[]⟩ => K w' | _ => False) = S.towerlaw_Spoil r w K := by kernel_rfl
theorem T.CO270 : CallOk Tryz.prog T.C270 := (CallOk.cons 187 T.ok187 (CallOk.cons 188 T.ok188 CallOk.nil))
def T.c270 (vs : List Value) (w : World) (K : Value → World → Prop) : Prop :=
  match vs with
  | [.slice ra rl rc] => S.towerlaw_Spoil ⟨ra, rl, rc⟩ w (fun w' => K (.tuple #[]) w')
  | _ => False
theorem T.ok270 : ∀ vs w K, T.c270 vs w K → (callFunc 270 vs.toArray).run Tryz.prog w = .ok (.enter 270 vs.toArray) w ∧ Calls Tryz.prog 270 vs.toArray w fun e w' => ∃ v, e = .returned v ∧ K v w' := by
  intro vs w K h
  unfold T.c270 at h
  split at h
  · refine ⟨Tryz.call270 _ _, ok_of T.CO270 mixed Tryz.func270 (T.eq270 _ _ _) h fun v w' hk => ⟨v, rfl, ?_⟩⟩
    split at hk
    · exact hk
    · exact hk.elim
  · exact h.elim

/-- e2e/towerlaw.SpoilAll (function 206). -/
def S.towerlaw_SpoilAll (r : Sl) (w : World) (K : World → Prop) : Prop :=
  LoopP (σ := Int × Unit) (fun st1 w next2 =>
    if (decide (st1.1 < (r.l : Int))) = true then
      Ix r.a r.l st1.1 fun b3 o4 =>
      LdS w ⟨b3, o4 + Int.toNat st1.1 * 1, none⟩ fun x_5 =>
      S.towerlaw_Spoil x_5 w (fun w =>
      Ix r.a r.l st1.1 fun b6 o7 =>
      St1 w ⟨b6, o7 + Int.toNat st1.1 * 1, none⟩ (.slice none 0 0) fun w =>
      Let (W (st1.1 + 1)) fun i_8 =>
      next2 (i_8, ()) w)
    else
      K w) (0, ()) w
def T.C206 : CallT := (CallT.cons 270 T.c270 CallT.nil)
def T.A206 : Ann := fun i => bif Nat.beq i 1 then some ([0], [(2, 0)]) else none
set_option maxRecDepth 1000000 in
theorem T.eq206 (r : Sl) (w : World) (K : World → Prop) : denF Tryz.prog T.C206 T.A206 Tryz.f206 [.slice r.a r.l r.c] w (fun v w' => match v with | .tuple ⟨[]⟩ => K w' | _ => False) = S.towerlaw_SpoilAll r w K := by kernel_rfl
theorem T.CO206 : CallOk Tryz.prog T.C206 := (CallOk.cons 270 T.ok270 CallOk.nil)
def T.c206 (vs : List Value) (w : World) (K : Value → World → Prop) : Prop :=
  match vs with
  | [.slice ra rl rc] => S.towerlaw_SpoilAll ⟨ra, rl, rc⟩ w (fun w' => K (.tuple #[]) w')
  | _ => False
theorem T.ok206 : ∀ vs w K, T.c206 vs w K → (callFunc 206 vs.toArray).run Tryz.prog w = .ok (.enter 206 vs.toArray) w ∧ Calls Tryz.prog 206 vs.toArray w fun e w' => ∃ v, e = .returned v ∧ K v w' := by
  intro vs w K h
  unfold T.c206 at h
  split at h
  · refine ⟨Tryz.call206 _ _, ok_of T.CO206 mixed Tryz.func206 (T.eq206 _ _ _) h fun v w' hk => ⟨v, rfl, ?_⟩⟩
    split at hk
    · exact hk
    · exact hk.elim
  · exact h.elim

/-- e2e/towerlaw.SameView (function 111). -/
def S.towerlaw_SameView (x : Nat) (m : Nat) (s_ : Int) (name : ByteArray) (w : World) (K : Bool → World → Prop) : Prop :=
  S.query_Engine_View x s_ name w (fun r1 r2 w =>
  S.querym_Engine_View m s_ name w (fun r3 r4 w =>
  if (r2 == r4) = true then
    S.towerlaw_SameRows r1 r3 w (fun r5 w =>
    S.towerlaw_SpoilAll r1 w (fun w =>
    K r5 w))
  else
    S.towerlaw_SpoilAll r1 w (fun w =>
    K false w)))
def T.C111 : CallT := (CallT.cons 123 T.c123 (CallT.cons 124 T.c124 (CallT.cons 45 T.c45 (CallT.cons 206 T.c206 CallT.nil))))
def T.A111 : Ann := fun _ => none
set_option maxRecDepth 1000000 in
theorem T.eq111 (x : Nat) (m : Nat) (s_ : Int) (name : ByteArray) (w : World) (K : Bool → World → Prop) : denF Tryz.prog T.C111 T.A111 Tryz.f111 [.pointer (some ⟨x, 0, none⟩), .pointer (some ⟨m, 0, none⟩), .int .i64 s_, .string name] w (fun v w' => match v with | .bool r0 => K r0 w' | _ => False) = S.towerlaw_SameView x m s_ name w K := by kernel_rfl
theorem T.CO111 : CallOk Tryz.prog T.C111 := (CallOk.cons 123 T.ok123 (CallOk.cons 124 T.ok124 (CallOk.cons 45 T.ok45 (CallOk.cons 206 T.ok206 CallOk.nil))))
def T.c111 (vs : List Value) (w : World) (K : Value → World → Prop) : Prop :=
  match vs with
  | [.pointer (some ⟨x, 0, none⟩), .pointer (some ⟨m, 0, none⟩), .int .i64 s_, .string name] => S.towerlaw_SameView x m s_ name w (fun r0 w' => K (.bool r0) w')
  | _ => False
theorem T.ok111 : ∀ vs w K, T.c111 vs w K → (callFunc 111 vs.toArray).run Tryz.prog w = .ok (.enter 111 vs.toArray) w ∧ Calls Tryz.prog 111 vs.toArray w fun e w' => ∃ v, e = .returned v ∧ K v w' := by
  intro vs w K h
  unfold T.c111 at h
  split at h
  · refine ⟨Tryz.call111 _ _, ok_of T.CO111 mixed Tryz.func111 (T.eq111 _ _ _ _ _ _) h fun v w' hk => ⟨v, rfl, ?_⟩⟩
    split at hk
    · exact hk
    · exact hk.elim
  · exact h.elim

/-- e2e/towerlaw.SameTable (function 49). -/
def S.towerlaw_SameTable (x : Nat) (m : Nat) (name : ByteArray) (w : World) (K : Bool → World → Prop) : Prop :=
  S.towerlaw_SameSchemaOf x m name w (fun r1 w =>
  if (!r1) = true then
    K false w
  else
    LoopP (σ := Int × Unit) (fun st2 w next3 =>
      if (decide (st2.1 ≤ 4)) = true then
        S.towerlaw_SameLockOf x m st2.1 name w (fun r4 w =>
        if (!r4) = true then
          K false w
        else
          S.towerlaw_SameView x m st2.1 name w (fun r5 w =>
          if (!r5) = true then
            K false w
          else
            Let (W (st2.1 + 1)) fun s_6 =>
            next3 (s_6, ()) w))
      else
        K true w) (-1, ()) w)
def T.C49 : CallT := (CallT.cons 109 T.c109 (CallT.cons 110 T.c110 (CallT.cons 111 T.c111 CallT.nil)))
def T.A49 : Ann := fun i => bif Nat.beq i 4 then some ([0, 1, 2], [(7, 0)]) else none
set_option maxRecDepth 1000000 in
theorem T.eq49 (x : Nat) (m : Nat) (name : ByteArray) (w : World) (K : Bool → World → Prop) : denF Tryz.prog T.C49 T.A49 Tryz.f49 [.pointer (some ⟨x, 0, none⟩), .pointer (some ⟨m, 0, none⟩), .string name] w (fun v w' => match v with | .bool r0 => K r0 w' | _ => False) = S.towerlaw_SameTable x m name w K := by kernel_rfl
theorem T.CO49 : CallOk Tryz.prog T.C49 := (CallOk.cons 109 T.ok109 (CallOk.cons 110 T.ok110 (CallOk.cons 111 T.ok111 CallOk.nil)))
def T.c49 (vs : List Value) (w : World) (K : Value → World → Prop) : Prop :=
  match vs with
  | [.pointer (some ⟨x, 0, none⟩), .pointer (some ⟨m, 0, none⟩), .string name] => S.towerlaw_SameTable x m name w (fun r0 w' => K (.bool r0) w')
  | _ => False
theorem T.ok49 : ∀ vs w K, T.c49 vs w K → (callFunc 49 vs.toArray).run Tryz.prog w = .ok (.enter 49 vs.toArray) w ∧ Calls Tryz.prog 49 vs.toArray w fun e w' => ∃ v, e = .returned v ∧ K v w' := by
  intro vs w K h
  unfold T.c49 at h
  split at h
  · refine ⟨Tryz.call49 _ _, ok_of T.CO49 mixed Tryz.func49 (T.eq49 _ _ _ _ _) h fun v w' hk => ⟨v, rfl, ?_⟩⟩
    split at hk
    · exact hk
    · exact hk.elim
  · exact h.elim

/-- (*e2e/txn.Mgr).Active (function 33). -/
def S.txn_Mgr_Active (g : Nat) (s_ : Int) (w : World) (K : Bool → World → Prop) : Prop :=
  S.api_GoodSess s_ w (fun r1 w =>
  if r1 = true then
    IxA 4 s_ <|
    LdB w ⟨g, 1 + Int.toNat s_ * 1, none⟩ fun act_2 =>
    K act_2 w
  else
    K false w)
def T.C33 : CallT := (CallT.cons 23 T.c23 CallT.nil)
def T.A33 : Ann := fun _ => none
set_option maxRecDepth 1000000 in
theorem T.eq33 (g : Nat) (s_ : Int) (w : World) (K : Bool → World → Prop) : denF Tryz.prog T.C33 T.A33 Tryz.f33 [.pointer (some ⟨g, 0, none⟩), .int .i64 s_] w (fun v w' => match v with | .bool r0 => K r0 w' | _ => False) = S.txn_Mgr_Active g s_ w K := by kernel_rfl
theorem T.CO33 : CallOk Tryz.prog T.C33 := (CallOk.cons 23 T.ok23 CallOk.nil)
def T.c33 (vs : List Value) (w : World) (K : Value → World → Prop) : Prop :=
  match vs with
  | [.pointer (some ⟨g, 0, none⟩), .int .i64 s_] => S.txn_Mgr_Active g s_ w (fun r0 w' => K (.bool r0) w')
  | _ => False
theorem T.ok33 : ∀ vs w K, T.c33 vs w K → (callFunc 33 vs.toArray).run Tryz.prog w = .ok (.enter 33 vs.toArray) w ∧ Calls Tryz.prog 33 vs.toArray w fun e w' => ∃ v, e = .returned v ∧ K v w' := by
  intro vs w K h
  unfold T.c33 at h
  split at h
  · refine ⟨Tryz.call33 _ _, ok_of T.CO33 mixed Tryz.func33 (T.eq33 _ _ _ _) h fun v w' hk => ⟨v, rfl, ?_⟩⟩
    split at hk
    · exact hk
    · exact hk.elim
  · exact h.elim

/-- (*e2e/query.Engine).Active (function 107). -/
def S.query_Engine_Active (q : Nat) (s_ : Int) (w : World) (K : Bool → World → Prop) : Prop :=
  LdP w ⟨q, 0, none⟩ fun t_1 =>
  S.txn_Mgr_Active t_1 s_ w (fun r2 w =>
  K r2 w)
def T.C107 : CallT := (CallT.cons 33 T.c33 CallT.nil)
def T.A107 : Ann := fun _ => none
set_option maxRecDepth 1000000 in
theorem T.eq107 (q : Nat) (s_ : Int) (w : World) (K : Bool → World → Prop) : denF Tryz.prog T.C107 T.A107 Tryz.f107 [.pointer (some ⟨q, 0, none⟩), .int .i64 s_] w (fun v w' => match v with | .bool r0 => K r0 w' | _ => False) = S.query_Engine_Active q s_ w K := by kernel_rfl
theorem T.CO107 : CallOk Tryz.prog T.C107 := (CallOk.cons 33 T.ok33 CallOk.nil)
def T.c107 (vs : List Value) (w : World) (K : Value → World → Prop) : Prop :=
  match vs with
  | [.pointer (some ⟨q, 0, none⟩), .int .i64 s_] => S.query_Engine_Active q s_ w (fun r0 w' => K (.bool r0) w')
  | _ => False
theorem T.ok107 : ∀ vs w K, T.c107 vs w K → (callFunc 107 vs.toArray).run Tryz.prog w = .ok (.enter 107 vs.toArray) w ∧ Calls Tryz.prog 107 vs.toArray w fun e w' => ∃ v, e = .returned v ∧ K v w' := by
  intro vs w K h
  unfold T.c107 at h
  split at h
  · refine ⟨Tryz.call107 _ _, ok_of T.CO107 mixed Tryz.func107 (T.eq107 _ _ _ _) h fun v w' hk => ⟨v, rfl, ?_⟩⟩
    split at hk
    · exact hk
    · exact hk.elim
  · exact h.elim

/-- (*e2e/api.Multi).Active (function 204). -/
def S.api_Multi_Active (m : Nat) (s_ : Int) (w : World) (K : Bool → World → Prop) : Prop :=
  S.api_GoodSess s_ w (fun r1 w =>
  if r1 = true then
    IxA 4 s_ <|
    LdB w ⟨m, 1 + Int.toNat s_ * 1, none⟩ fun Act_2 =>
    K Act_2 w
  else
    K false w)
def T.C204 : CallT := (CallT.cons 23 T.c23 CallT.nil)
def T.A204 : Ann := fun _ => none
set_option maxRecDepth 1000000 in
theorem T.eq204 (m : Nat) (s_ : Int) (w : World) (K : Bool → World → Prop) : denF Tryz.prog T.C204 T.A204 Tryz.f204 [.pointer (some ⟨m, 0, none⟩), .int .i64 s_] w (fun v w' => match v with | .bool r0 => K r0 w' | _ => False) = S.api_Multi_Active m s_ w K := by kernel_rfl
theorem T.CO204 : CallOk Tryz.prog T.C204 := (CallOk.cons 23 T.ok23 CallOk.nil)
def T.c204 (vs : List Value) (w : World) (K : Value → World → Prop) : Prop :=
  match vs with
  | [.pointer (some ⟨m, 0, none⟩), .int .i64 s_] => S.api_Multi_Active m s_ w (fun r0 w' => K (.bool r0) w')
  | _ => False
theorem T.ok204 : ∀ vs w K, T.c204 vs w K → (callFunc 204 vs.toArray).run Tryz.prog w = .ok (.enter 204 vs.toArray) w ∧ Calls Tryz.prog 204 vs.toArray w fun e w' => ∃ v, e = .returned v ∧ K v w' := by
  intro vs w K h
  unfold T.c204 at h
  split at h
  · refine ⟨Tryz.call204 _ _, ok_of T.CO204 mixed Tryz.func204 (T.eq204 _ _ _ _) h fun v w' hk => ⟨v, rfl, ?_⟩⟩
    split at hk
    · exact hk
    · exact hk.elim
  · exact h.elim

/-- (*e2e/querym.Engine).Active (function 108). -/
def S.querym_Engine_Active (q : Nat) (s_ : Int) (w : World) (K : Bool → World → Prop) : Prop :=
  LdP w ⟨q, 0, none⟩ fun m_1 =>
  S.api_Multi_Active m_1 s_ w (fun r2 w =>
  K r2 w)
def T.C108 : CallT := (CallT.cons 204 T.c204 CallT.nil)
def T.A108 : Ann := fun _ => none
set_option maxRecDepth 1000000 in
theorem T.eq108 (q : Nat) (s_ : Int) (w : World) (K : Bool → World → Prop) : denF Tryz.prog T.C108 T.A108 Tryz.f108 [.pointer (some ⟨q, 0, none⟩), .int .i64 s_] w (fun v w' => match v with | .bool r0 => K r0 w' | _ => False) = S.querym_Engine_Active q s_ w K := by kernel_rfl
theorem T.CO108 : CallOk Tryz.prog T.C108 := (CallOk.cons 204 T.ok204 CallOk.nil)
def T.c108 (vs : List Value) (w : World) (K : Value → World → Prop) : Prop :=
  match vs with
  | [.pointer (some ⟨q, 0, none⟩), .int .i64 s_] => S.querym_Engine_Active q s_ w (fun r0 w' => K (.bool r0) w')
  | _ => False
theorem T.ok108 : ∀ vs w K, T.c108 vs w K → (callFunc 108 vs.toArray).run Tryz.prog w = .ok (.enter 108 vs.toArray) w ∧ Calls Tryz.prog 108 vs.toArray w fun e w' => ∃ v, e = .returned v ∧ K v w' := by
  intro vs w K h
  unfold T.c108 at h
  split at h
  · refine ⟨Tryz.call108 _ _, ok_of T.CO108 mixed Tryz.func108 (T.eq108 _ _ _ _) h fun v w' hk => ⟨v, rfl, ?_⟩⟩
    split at hk
    · exact hk
    · exact hk.elim
  · exact h.elim

/-- e2e/towerlaw.SameActive (function 48). -/
def S.towerlaw_SameActive (x : Nat) (m : Nat) (s_ : Int) (w : World) (K : Bool → World → Prop) : Prop :=
  S.query_Engine_Active x s_ w (fun r1 w =>
  S.querym_Engine_Active m s_ w (fun r2 w =>
  K (r1 == r2) w))
def T.C48 : CallT := (CallT.cons 107 T.c107 (CallT.cons 108 T.c108 CallT.nil))
def T.A48 : Ann := fun _ => none
set_option maxRecDepth 1000000 in
theorem T.eq48 (x : Nat) (m : Nat) (s_ : Int) (w : World) (K : Bool → World → Prop) : denF Tryz.prog T.C48 T.A48 Tryz.f48 [.pointer (some ⟨x, 0, none⟩), .pointer (some ⟨m, 0, none⟩), .int .i64 s_] w (fun v w' => match v with | .bool r0 => K r0 w' | _ => False) = S.towerlaw_SameActive x m s_ w K := by kernel_rfl
theorem T.CO48 : CallOk Tryz.prog T.C48 := (CallOk.cons 107 T.ok107 (CallOk.cons 108 T.ok108 CallOk.nil))
def T.c48 (vs : List Value) (w : World) (K : Value → World → Prop) : Prop :=
  match vs with
  | [.pointer (some ⟨x, 0, none⟩), .pointer (some ⟨m, 0, none⟩), .int .i64 s_] => S.towerlaw_SameActive x m s_ w (fun r0 w' => K (.bool r0) w')
  | _ => False
theorem T.ok48 : ∀ vs w K, T.c48 vs w K → (callFunc 48 vs.toArray).run Tryz.prog w = .ok (.enter 48 vs.toArray) w ∧ Calls Tryz.prog 48 vs.toArray w fun e w' => ∃ v, e = .returned v ∧ K v w' := by
  intro vs w K h
  unfold T.c48 at h
  split at h
  · refine ⟨Tryz.call48 _ _, ok_of T.CO48 mixed Tryz.func48 (T.eq48 _ _ _ _ _) h fun v w' hk => ⟨v, rfl, ?_⟩⟩
    split at hk
    · exact hk
    · exact hk.elim
  · exact h.elim

/-- e2e/towerlaw.Alike (function 12). -/
def S.towerlaw_Alike (x : Nat) (m : Nat) (w : World) (K : Bool → World → Prop) : Prop :=
  S.querym_Engine_Tables m w (fun r1 w =>
  S.towerlaw_SameTables x m w (fun r2 w =>
  if (!r2) = true then
    K false w
  else
    Join (fun (w : World) =>
      Join (fun (w : World) =>
        S.towerlaw_SameTable x m (⟨#[]⟩ : ByteArray) w (fun r3 w =>
        K r3 w)) fun J4 =>
      LoopP (σ := Int × Unit) (fun st5 w next6 =>
        if (decide (st5.1 < (r1.l : Int))) = true then
          Ix r1.a r1.l st5.1 fun b7 o8 =>
          LdStr w ⟨b7, o8 + Int.toNat st5.1 * 1, none⟩ fun x_9 =>
          S.towerlaw_SameTable x m x_9 w (fun r10 w =>
          if (!r10) = true then
            K false w
          else
            Let (W (st5.1 + 1)) fun i_11 =>
            next6 (i_11, ()) w)
        else
          J4 w) (0, ()) w) fun J12 =>
    LoopP (σ := Int × Unit) (fun st13 w next14 =>
      if (decide (st13.1 ≤ 4)) = true then
        S.towerlaw_SameActive x m st13.1 w (fun r15 w =>
        if (!r15) = true then
          K false w
        else
          Let (W (st13.1 + 1)) fun s_16 =>
          next14 (s_16, ()) w)
      else
        J12 w) (-1, ()) w))
def T.C12 : CallT := (CallT.cons 46 T.c46 (CallT.cons 47 T.c47 (CallT.cons 49 T.c49 (CallT.cons 48 T.c48 CallT.nil))))
def T.A12 : Ann := fun i => bif Nat.beq i 5 then some ([0, 1, 5], [(6, 0)]) else bif Nat.beq i 10 then some ([0, 1, 5], [(7, 0)]) else none
set_option maxRecDepth 1000000 in
theorem T.eq12 (x : Nat) (m : Nat) (w : World) (K : Bool → World → Prop) : denF Tryz.prog T.C12 T.A12 Tryz.f12 [.pointer (some ⟨x, 0, none⟩), .pointer (some ⟨m, 0, none⟩)] w (fun v w' => match v with | .bool r0 => K r0 w' | _ => False) = S.towerlaw_Alike x m w K := by kernel_rfl
theorem T.CO12 : CallOk Tryz.prog T.C12 := (CallOk.cons 46 T.ok46 (CallOk.cons 47 T.ok47 (CallOk.cons 49 T.ok49 (CallOk.cons 48 T.ok48 CallOk.nil))))
def T.c12 (vs : List Value) (w : World) (K : Value → World → Prop) : Prop :=
  match vs with
  | [.pointer (some ⟨x, 0, none⟩), .pointer (some ⟨m, 0, none⟩)] => S.towerlaw_Alike x m w (fun r0 w' => K (.bool r0) w')
  | _ => False
theorem T.ok12 : ∀ vs w K, T.c12 vs w K → (callFunc 12 vs.toArray).run Tryz.prog w = .ok (.enter 12 vs.toArray) w ∧ Calls Tryz.prog 12 vs.toArray w fun e w' => ∃ v, e = .returned v ∧ K v w' := by
  intro vs w K h
  unfold T.c12 at h
  split at h
  · refine ⟨Tryz.call12 _ _, ok_of T.CO12 mixed Tryz.func12 (T.eq12 _ _ _ _) h fun v w' hk => ⟨v, rfl, ?_⟩⟩
    split at hk
    · exact hk
    · exact hk.elim
  · exact h.elim

/-- (*e2e/diskm.Disk).Steps (function 112). -/
def S.diskm_Disk_Steps (d : Nat) (w : World) (K : Int → World → Prop) : Prop :=
  LdS w ⟨d, 2, none⟩ fun recs_1 =>
  K (recs_1.l : Int) w
def T.C112 : CallT := CallT.nil
def T.A112 : Ann := fun _ => none
set_option maxRecDepth 1000000 in
theorem T.eq112 (d : Nat) (w : World) (K : Int → World → Prop) : denF Tryz.prog T.C112 T.A112 Tryz.f112 [.pointer (some ⟨d, 0, none⟩)] w (fun v w' => match v with | .int .i64 r0 => K r0 w' | _ => False) = S.diskm_Disk_Steps d w K := by kernel_rfl
theorem T.CO112 : CallOk Tryz.prog T.C112 := CallOk.nil
def T.c112 (vs : List Value) (w : World) (K : Value → World → Prop) : Prop :=
  match vs with
  | [.pointer (some ⟨d, 0, none⟩)] => S.diskm_Disk_Steps d w (fun r0 w' => K (.int .i64 r0) w')
  | _ => False
theorem T.ok112 : ∀ vs w K, T.c112 vs w K → (callFunc 112 vs.toArray).run Tryz.prog w = .ok (.enter 112 vs.toArray) w ∧ Calls Tryz.prog 112 vs.toArray w fun e w' => ∃ v, e = .returned v ∧ K v w' := by
  intro vs w K h
  unfold T.c112 at h
  split at h
  · refine ⟨Tryz.call112 _ _, ok_of T.CO112 mixed Tryz.func112 (T.eq112 _ _ _) h fun v w' hk => ⟨v, rfl, ?_⟩⟩
    split at hk
    · exact hk
    · exact hk.elim
  · exact h.elim

/-- e2e/towerlaw.Steps (function 50). -/
def S.towerlaw_Steps (d : Nat) (w : World) (K : Int → World → Prop) : Prop :=
  S.diskm_Disk_Steps d w (fun r1 w =>
  K r1 w)
def T.C50 : CallT := (CallT.cons 112 T.c112 CallT.nil)
def T.A50 : Ann := fun _ => none
set_option maxRecDepth 1000000 in
theorem T.eq50 (d : Nat) (w : World) (K : Int → World → Prop) : denF Tryz.prog T.C50 T.A50 Tryz.f50 [.pointer (some ⟨d, 0, none⟩)] w (fun v w' => match v with | .int .i64 r0 => K r0 w' | _ => False) = S.towerlaw_Steps d w K := by kernel_rfl
theorem T.CO50 : CallOk Tryz.prog T.C50 := (CallOk.cons 112 T.ok112 CallOk.nil)
def T.c50 (vs : List Value) (w : World) (K : Value → World → Prop) : Prop :=
  match vs with
  | [.pointer (some ⟨d, 0, none⟩)] => S.towerlaw_Steps d w (fun r0 w' => K (.int .i64 r0) w')
  | _ => False
theorem T.ok50 : ∀ vs w K, T.c50 vs w K → (callFunc 50 vs.toArray).run Tryz.prog w = .ok (.enter 50 vs.toArray) w ∧ Calls Tryz.prog 50 vs.toArray w fun e w' => ∃ v, e = .returned v ∧ K v w' := by
  intro vs w K h
  unfold T.c50 at h
  split at h
  · refine ⟨Tryz.call50 _ _, ok_of T.CO50 mixed Tryz.func50 (T.eq50 _ _ _) h fun v w' hk => ⟨v, rfl, ?_⟩⟩
    split at hk
    · exact hk
    · exact hk.elim
  · exact h.elim

/-- e2e/api.CopyBlocks (function 63). -/
def S.api_CopyBlocks (l : Sl) (w : World) (K : Sl → World → Prop) : Prop :=
  MkS 202 [.string ⟨#[]⟩] 16 w (l.l : Int) (l.l : Int) fun l1 w =>
  CopyS 1 w l1 l fun n2 w =>
  K l1 w
def T.C63 : CallT := CallT.nil
def T.A63 : Ann := fun _ => none
set_option maxRecDepth 1000000 in
theorem T.eq63 (l : Sl) (w : World) (K : Sl → World → Prop) : denF Tryz.prog T.C63 T.A63 Tryz.f63 [.slice l.a l.l l.c] w (fun v w' => match v with | .slice r0a r0l r0c => K ⟨r0a, r0l, r0c⟩ w' | _ => False) = S.api_CopyBlocks l w K := by kernel_rfl
theorem T.CO63 : CallOk Tryz.prog T.C63 := CallOk.nil
def T.c63 (vs : List Value) (w : World) (K : Value → World → Prop) : Prop :=
  match vs with
  | [.slice la ll lc] => S.api_CopyBlocks ⟨la, ll, lc⟩ w (fun r0 w' => K (.slice r0.a r0.l r0.c) w')
  | _ => False
theorem T.ok63 : ∀ vs w K, T.c63 vs w K → (callFunc 63 vs.toArray).run Tryz.prog w = .ok (.enter 63 vs.toArray) w ∧ Calls Tryz.prog 63 vs.toArray w fun e w' => ∃ v, e = .returned v ∧ K v w' := by
  intro vs w K h
  unfold T.c63 at h
  split at h
  · refine ⟨Tryz.call63 _ _, ok_of T.CO63 mixed Tryz.func63 (T.eq63 _ _ _) h fun v w' hk => ⟨v, rfl, ?_⟩⟩
    split at hk
    · exact hk
    · exact hk.elim
  · exact h.elim

/-- (*e2e/diskm.Disk).at (function 207). -/
def S.diskm_Disk_at (d : Nat) (k : Int) (w : World) (K : Nat → World → Prop) : Prop :=
  New w (.cells #[.slice none 0 0, .slice none 0 0, .slice none 0 0] 118) fun p1 w =>
  LdS w ⟨d, 1, none⟩ fun base_2 =>
  S.api_CopyBlocks base_2 w (fun r3 w =>
  St1 w ⟨p1, 0, none⟩ (.slice r3.a r3.l r3.c) fun w =>
  Join (fun (w : World) =>
    LdS w ⟨p1, 0, none⟩ fun blk_4 =>
    S.api_CopyBlocks blk_4 w (fun r5 w =>
    St1 w ⟨p1, 1, none⟩ (.slice r5.a r5.l r5.c) fun w =>
    K p1 w)) fun J6 =>
  LoopP (σ := Int × Unit) (fun st7 w next8 =>
    LdS w ⟨d, 2, none⟩ fun recs_9 =>
    if (decide (st7.1 < (recs_9.l : Int))) = true then
      if (decide (st7.1 < k)) = true then
        Drew w fun w =>
        LdS w ⟨p1, 0, none⟩ fun blk_10 =>
        LdS w ⟨d, 2, none⟩ fun recs_11 =>
        Ix recs_11.a recs_11.l st7.1 fun b12 o13 =>
        LdI .i64 w ⟨b12, o13 + Int.toNat st7.1 * 2, none⟩ fun b_14 =>
        LdS w ⟨d, 2, none⟩ fun recs_15 =>
        Ix recs_15.a recs_15.l st7.1 fun b16 o17 =>
        LdStr w ⟨b16, o17 + Int.toNat st7.1 * 2 + 1, none⟩ fun x_18 =>
        Ix blk_10.a blk_10.l b_14 fun b19 o20 =>
        St1 w ⟨b19, o20 + Int.toNat b_14 * 1, none⟩ (.string x_18) fun w =>
        Let (W (st7.1 + 1)) fun i_21 =>
        next8 (i_21, ()) w
      else
        J6 w
    else
      J6 w) (0, ()) w)
def T.C207 : CallT := (CallT.cons 63 T.c63 CallT.nil)
def T.A207 : Ann := fun i => bif Nat.beq i 4 then some ([0, 1, 5], [(6, 0)]) else none
set_option maxRecDepth 1000000 in
theorem T.eq207 (d : Nat) (k : Int) (w : World) (K : Nat → World → Prop) : denF Tryz.prog T.C207 T.A207 Tryz.f207 [.pointer (some ⟨d, 0, none⟩), .int .i64 k] w (fun v w' => match v with | .pointer (some ⟨r0, 0, none⟩) => K r0 w' | _ => False) = S.diskm_Disk_at d k w K := by kernel_rfl
theorem T.CO207 : CallOk Tryz.prog T.C207 := (CallOk.cons 63 T.ok63 CallOk.nil)
def T.c207 (vs : List Value) (w : World) (K : Value → World → Prop) : Prop :=
  match vs with
  | [.pointer (some ⟨d, 0, none⟩), .int .i64 k] => S.diskm_Disk_at d k w (fun r0 w' => K (.pointer (some ⟨r0, 0, none⟩)) w')
  | _ => False
theorem T.ok207 : ∀ vs w K, T.c207 vs w K → (callFunc 207 vs.toArray).run Tryz.prog w = .ok (.enter 207 vs.toArray) w ∧ Calls Tryz.prog 207 vs.toArray w fun e w' => ∃ v, e = .returned v ∧ K v w' := by
  intro vs w K h
  unfold T.c207 at h
  split at h
  · refine ⟨Tryz.call207 _ _, ok_of T.CO207 mixed Tryz.func207 (T.eq207 _ _ _ _) h fun v w' hk => ⟨v, rfl, ?_⟩⟩
    split at hk
    · exact hk
    · exact hk.elim
  · exact h.elim

/-- (*e2e/diskm.Disk).After (function 113). -/
def S.diskm_Disk_After (d : Nat) (k : Int) (w : World) (K : Nat → World → Prop) : Prop :=
  S.diskm_Disk_at d k w (fun r1 w =>
  K r1 w)
def T.C113 : CallT := (CallT.cons 207 T.c207 CallT.nil)
def T.A113 : Ann := fun _ => none
set_option maxRecDepth 1000000 in
theorem T.eq113 (d : Nat) (k : Int) (w : World) (K : Nat → World → Prop) : denF Tryz.prog T.C113 T.A113 Tryz.f113 [.pointer (some ⟨d, 0, none⟩), .int .i64 k] w (fun v w' => match v with | .pointer (some ⟨r0, 0, none⟩) => K r0 w' | _ => False) = S.diskm_Disk_After d k w K := by kernel_rfl
theorem T.CO113 : CallOk Tryz.prog T.C113 := (CallOk.cons 207 T.ok207 CallOk.nil)
def T.c113 (vs : List Value) (w : World) (K : Value → World → Prop) : Prop :=
  match vs with
  | [.pointer (some ⟨d, 0, none⟩), .int .i64 k] => S.diskm_Disk_After d k w (fun r0 w' => K (.pointer (some ⟨r0, 0, none⟩)) w')
  | _ => False
theorem T.ok113 : ∀ vs w K, T.c113 vs w K → (callFunc 113 vs.toArray).run Tryz.prog w = .ok (.enter 113 vs.toArray) w ∧ Calls Tryz.prog 113 vs.toArray w fun e w' => ∃ v, e = .returned v ∧ K v w' := by
  intro vs w K h
  unfold T.c113 at h
  split at h
  · refine ⟨Tryz.call113 _ _, ok_of T.CO113 mixed Tryz.func113 (T.eq113 _ _ _ _) h fun v w' hk => ⟨v, rfl, ?_⟩⟩
    split at hk
    · exact hk
    · exact hk.elim
  · exact h.elim

/-- (*e2e/diskm.Disk).Mark (function 20). -/
def S.diskm_Disk_Mark (d : Nat) (w : World) (K : World → Prop) : Prop :=
  LdS w ⟨d, 0, none⟩ fun blk_1 =>
  S.api_CopyBlocks blk_1 w (fun r2 w =>
  St1 w ⟨d, 1, none⟩ (.slice r2.a r2.l r2.c) fun w =>
  St1 w ⟨d, 2, none⟩ (.slice none 0 0) fun w =>
  K w)
def T.C20 : CallT := (CallT.cons 63 T.c63 CallT.nil)
def T.A20 : Ann := fun _ => none
set_option maxRecDepth 1000000 in
theorem T.eq20 (d : Nat) (w : World) (K : World → Prop) : denF Tryz.prog T.C20 T.A20 Tryz.f20 [.pointer (some ⟨d, 0, none⟩)] w (fun v w' => match v with | .tuple ⟨[]⟩ => K w' | _ => False) = S.diskm_Disk_Mark d w K := by kernel_rfl
theorem T.CO20 : CallOk Tryz.prog T.C20 := (CallOk.cons 63 T.ok63 CallOk.nil)
def T.c20 (vs : List Value) (w : World) (K : Value → World → Prop) : Prop :=
  match vs with
  | [.pointer (some ⟨d, 0, none⟩)] => S.diskm_Disk_Mark d w (fun w' => K (.tuple #[]) w')
  | _ => False
theorem T.ok20 : ∀ vs w K, T.c20 vs w K → (callFunc 20 vs.toArray).run Tryz.prog w = .ok (.enter 20 vs.toArray) w ∧ Calls Tryz.prog 20 vs.toArray w fun e w' => ∃ v, e = .returned v ∧ K v w' := by
  intro vs w K h
  unfold T.c20 at h
  split at h
  · refine ⟨Tryz.call20 _ _, ok_of T.CO20 mixed Tryz.func20 (T.eq20 _ _ _) h fun v w' hk => ⟨v, rfl, ?_⟩⟩
    split at hk
    · exact hk
    · exact hk.elim
  · exact h.elim

/-- e2e/towerlaw.After (function 51). -/
def S.towerlaw_After (d : Nat) (k : Int) (w : World) (K : Nat → World → Prop) : Prop :=
  S.diskm_Disk_After d k w (fun r1 w =>
  S.diskm_Disk_Mark r1 w (fun w =>
  K r1 w))
def T.C51 : CallT := (CallT.cons 113 T.c113 (CallT.cons 20 T.c20 CallT.nil))
def T.A51 : Ann := fun _ => none
set_option maxRecDepth 1000000 in
theorem T.eq51 (d : Nat) (k : Int) (w : World) (K : Nat → World → Prop) : denF Tryz.prog T.C51 T.A51 Tryz.f51 [.pointer (some ⟨d, 0, none⟩), .int .i64 k] w (fun v w' => match v with | .pointer (some ⟨r0, 0, none⟩) => K r0 w' | _ => False) = S.towerlaw_After d k w K := by kernel_rfl
theorem T.CO51 : CallOk Tryz.prog T.C51 := (CallOk.cons 113 T.ok113 (CallOk.cons 20 T.ok20 CallOk.nil))
def T.c51 (vs : List Value) (w : World) (K : Value → World → Prop) : Prop :=
  match vs with
  | [.pointer (some ⟨d, 0, none⟩), .int .i64 k] => S.towerlaw_After d k w (fun r0 w' => K (.pointer (some ⟨r0, 0, none⟩)) w')
  | _ => False
theorem T.ok51 : ∀ vs w K, T.c51 vs w K → (callFunc 51 vs.toArray).run Tryz.prog w = .ok (.enter 51 vs.toArray) w ∧ Calls Tryz.prog 51 vs.toArray w fun e w' => ∃ v, e = .returned v ∧ K v w' := by
  intro vs w K h
  unfold T.c51 at h
  split at h
  · refine ⟨Tryz.call51 _ _, ok_of T.CO51 mixed Tryz.func51 (T.eq51 _ _ _ _) h fun v w' hk => ⟨v, rfl, ?_⟩⟩
    split at hk
    · exact hk
    · exact hk.elim
  · exact h.elim

/-- e2e/wal.Open (function 208). -/
def S.wal_Open (d : Nat) (w : World) (K : Nat → World → Prop) : Prop :=
  S.diskm_Disk_Read d 0 w (fun r1 r2 w =>
  IxStr r1 0 fun c3 =>
  Join (fun (w : World) =>
    S.wal_over d w (fun r4 w =>
    K r4 w)) fun J5 =>
  if (c3 != 0) = true then
    S.wal_install d r1 w (fun r6 w =>
    J5 w)
  else
    J5 w)
def T.C208 : CallT := (CallT.cons 271 T.c271 (CallT.cons 134 T.c134 (CallT.cons 272 T.c272 CallT.nil)))
def T.A208 : Ann := fun _ => none
set_option maxRecDepth 1000000 in
theorem T.eq208 (d : Nat) (w : World) (K : Nat → World → Prop) : denF Tryz.prog T.C208 T.A208 Tryz.f208 [.pointer (some ⟨d, 0, none⟩)] w (fun v w' => match v with | .pointer (some ⟨r0, 0, none⟩) => K r0 w' | _ => False) = S.wal_Open d w K := by kernel_rfl
theorem T.CO208 : CallOk Tryz.prog T.C208 := (CallOk.cons 271 T.ok271 (CallOk.cons 134 T.ok134 (CallOk.cons 272 T.ok272 CallOk.nil)))
def T.c208 (vs : List Value) (w : World) (K : Value → World → Prop) : Prop :=
  match vs with
  | [.pointer (some ⟨d, 0, none⟩)] => S.wal_Open d w (fun r0 w' => K (.pointer (some ⟨r0, 0, none⟩)) w')
  | _ => False
theorem T.ok208 : ∀ vs w K, T.c208 vs w K → (callFunc 208 vs.toArray).run Tryz.prog w = .ok (.enter 208 vs.toArray) w ∧ Calls Tryz.prog 208 vs.toArray w fun e w' => ∃ v, e = .returned v ∧ K v w' := by
  intro vs w K h
  unfold T.c208 at h
  split at h
  · refine ⟨Tryz.call208 _ _, ok_of T.CO208 mixed Tryz.func208 (T.eq208 _ _ _) h fun v w' hk => ⟨v, rfl, ?_⟩⟩
    split at hk
    · exact hk
    · exact hk.elim
  · exact h.elim

/-- e2e/pager.Open (function 209). -/
def S.pager_Open (l : Nat) (w : World) (K : Nat → World → Prop) : Prop :=
  S.pager_empty l w (fun r1 w =>
  K r1 w)
def T.C209 : CallT := (CallT.cons 135 T.c135 CallT.nil)
def T.A209 : Ann := fun _ => none
set_option maxRecDepth 1000000 in
theorem T.eq209 (l : Nat) (w : World) (K : Nat → World → Prop) : denF Tryz.prog T.C209 T.A209 Tryz.f209 [.pointer (some ⟨l, 0, none⟩)] w (fun v w' => match v with | .pointer (some ⟨r0, 0, none⟩) => K r0 w' | _ => False) = S.pager_Open l w K := by kernel_rfl
theorem T.CO209 : CallOk Tryz.prog T.C209 := (CallOk.cons 135 T.ok135 CallOk.nil)
def T.c209 (vs : List Value) (w : World) (K : Value → World → Prop) : Prop :=
  match vs with
  | [.pointer (some ⟨l, 0, none⟩)] => S.pager_Open l w (fun r0 w' => K (.pointer (some ⟨r0, 0, none⟩)) w')
  | _ => False
theorem T.ok209 : ∀ vs w K, T.c209 vs w K → (callFunc 209 vs.toArray).run Tryz.prog w = .ok (.enter 209 vs.toArray) w ∧ Calls Tryz.prog 209 vs.toArray w fun e w' => ∃ v, e = .returned v ∧ K v w' := by
  intro vs w K h
  unfold T.c209 at h
  split at h
  · refine ⟨Tryz.call209 _ _, ok_of T.CO209 mixed Tryz.func209 (T.eq209 _ _ _) h fun v w' hk => ⟨v, rfl, ?_⟩⟩
    split at hk
    · exact hk
    · exact hk.elim
  · exact h.elim

/-- e2e/txn.Open (function 210). -/
def S.txn_Open (t : Nat) (w : World) (K : Nat → World → Prop) : Prop :=
  New w (.cells #[.pointer (some ⟨t, 0, none⟩), .bool false, .bool false, .bool false, .bool false, .bool false, .string ⟨#[]⟩, .int .i64 0, .int .i64 0, .int .i64 0, .int .i64 0, .bool false, .string ⟨#[]⟩, .int .i64 0, .int .i64 0, .int .i64 0, .int .i64 0, .bool false, .string ⟨#[]⟩, .int .i64 0, .int .i64 0, .int .i64 0, .int .i64 0, .slice none 0 0, .slice none 0 0, .slice none 0 0, .slice none 0 0] 142) fun p1 w =>
  K p1 w
def T.C210 : CallT := CallT.nil
def T.A210 : Ann := fun _ => none
set_option maxRecDepth 1000000 in
theorem T.eq210 (t : Nat) (w : World) (K : Nat → World → Prop) : denF Tryz.prog T.C210 T.A210 Tryz.f210 [.pointer (some ⟨t, 0, none⟩)] w (fun v w' => match v with | .pointer (some ⟨r0, 0, none⟩) => K r0 w' | _ => False) = S.txn_Open t w K := by kernel_rfl
theorem T.CO210 : CallOk Tryz.prog T.C210 := CallOk.nil
def T.c210 (vs : List Value) (w : World) (K : Value → World → Prop) : Prop :=
  match vs with
  | [.pointer (some ⟨t, 0, none⟩)] => S.txn_Open t w (fun r0 w' => K (.pointer (some ⟨r0, 0, none⟩)) w')
  | _ => False
theorem T.ok210 : ∀ vs w K, T.c210 vs w K → (callFunc 210 vs.toArray).run Tryz.prog w = .ok (.enter 210 vs.toArray) w ∧ Calls Tryz.prog 210 vs.toArray w fun e w' => ∃ v, e = .returned v ∧ K v w' := by
  intro vs w K h
  unfold T.c210 at h
  split at h
  · refine ⟨Tryz.call210 _ _, ok_of T.CO210 mixed Tryz.func210 (T.eq210 _ _ _) h fun v w' hk => ⟨v, rfl, ?_⟩⟩
    split at hk
    · exact hk
    · exact hk.elim
  · exact h.elim

/-- e2e/query.Open (function 211). -/
def S.query_Open (t : Nat) (w : World) (K : Nat → World → Prop) : Prop :=
  New w (.cells #[.pointer (some ⟨t, 0, none⟩), .int .i64 0] 68) fun p1 w =>
  K p1 w
def T.C211 : CallT := CallT.nil
def T.A211 : Ann := fun _ => none
set_option maxRecDepth 1000000 in
theorem T.eq211 (t : Nat) (w : World) (K : Nat → World → Prop) : denF Tryz.prog T.C211 T.A211 Tryz.f211 [.pointer (some ⟨t, 0, none⟩)] w (fun v w' => match v with | .pointer (some ⟨r0, 0, none⟩) => K r0 w' | _ => False) = S.query_Open t w K := by kernel_rfl
theorem T.CO211 : CallOk Tryz.prog T.C211 := CallOk.nil
def T.c211 (vs : List Value) (w : World) (K : Value → World → Prop) : Prop :=
  match vs with
  | [.pointer (some ⟨t, 0, none⟩)] => S.query_Open t w (fun r0 w' => K (.pointer (some ⟨r0, 0, none⟩)) w')
  | _ => False
theorem T.ok211 : ∀ vs w K, T.c211 vs w K → (callFunc 211 vs.toArray).run Tryz.prog w = .ok (.enter 211 vs.toArray) w ∧ Calls Tryz.prog 211 vs.toArray w fun e w' => ∃ v, e = .returned v ∧ K v w' := by
  intro vs w K h
  unfold T.c211 at h
  split at h
  · refine ⟨Tryz.call211 _ _, ok_of T.CO211 mixed Tryz.func211 (T.eq211 _ _ _) h fun v w' hk => ⟨v, rfl, ?_⟩⟩
    split at hk
    · exact hk
    · exact hk.elim
  · exact h.elim

/-- e2e/tower.OpenBox (function 114). -/
def S.tower_OpenBox (d : Nat) (w : World) (K : Nat → Nat → Nat → Nat → Nat → Nat → World → Prop) : Prop :=
  New w (.cells #[.pointer none, .pointer none, .pointer none, .pointer none, .pointer none, .pointer none] 52) fun p1 w =>
  S.wal_Open d w (fun r2 w =>
  S.pager_Open r2 w (fun r3 w =>
  S.btree_Open r3 w (fun r4 w =>
  S.table_Open r4 w (fun r5 w =>
  S.txn_Open r5 w (fun r6 w =>
  S.query_Open r6 w (fun r7 w =>
  St1 w ⟨p1, 0, none⟩ (.pointer (some ⟨r2, 0, none⟩)) fun w =>
  St1 w ⟨p1, 1, none⟩ (.pointer (some ⟨r3, 0, none⟩)) fun w =>
  St1 w ⟨p1, 2, none⟩ (.pointer (some ⟨r4, 0, none⟩)) fun w =>
  St1 w ⟨p1, 3, none⟩ (.pointer (some ⟨r5, 0, none⟩)) fun w =>
  St1 w ⟨p1, 4, none⟩ (.pointer (some ⟨r6, 0, none⟩)) fun w =>
  St1 w ⟨p1, 5, none⟩ (.pointer (some ⟨r7, 0, none⟩)) fun w =>
  LdP w ⟨p1, 0, none⟩ fun L_8 =>
  LdP w ⟨p1, 1, none⟩ fun P_9 =>
  LdP w ⟨p1, 2, none⟩ fun F_10 =>
  LdP w ⟨p1, 3, none⟩ fun S_11 =>
  LdP w ⟨p1, 4, none⟩ fun T_12 =>
  LdP w ⟨p1, 5, none⟩ fun Q_13 =>
  K L_8 P_9 F_10 S_11 T_12 Q_13 w))))))
def T.C114 : CallT := (CallT.cons 208 T.c208 (CallT.cons 209 T.c209 (CallT.cons 136 T.c136 (CallT.cons 137 T.c137 (CallT.cons 210 T.c210 (CallT.cons 211 T.c211 CallT.nil))))))
def T.A114 : Ann := fun _ => none
set_option maxRecDepth 1000000 in
theorem T.eq114 (d : Nat) (w : World) (K : Nat → Nat → Nat → Nat → Nat → Nat → World → Prop) : denF Tryz.prog T.C114 T.A114 Tryz.f114 [.pointer (some ⟨d, 0, none⟩)] w (fun v w' => match v with | .agg ⟨[.pointer (some ⟨r0, 0, none⟩), .pointer (some ⟨r1, 0, none⟩), .pointer (some ⟨r2, 0, none⟩), .pointer (some ⟨r3, 0, none⟩), .pointer (some ⟨r4, 0, none⟩), .pointer (some ⟨r5, 0, none⟩)]⟩ => K r0 r1 r2 r3 r4 r5 w' | _ => False) = S.tower_OpenBox d w K := by kernel_rfl
theorem T.CO114 : CallOk Tryz.prog T.C114 := (CallOk.cons 208 T.ok208 (CallOk.cons 209 T.ok209 (CallOk.cons 136 T.ok136 (CallOk.cons 137 T.ok137 (CallOk.cons 210 T.ok210 (CallOk.cons 211 T.ok211 CallOk.nil))))))
def T.c114 (vs : List Value) (w : World) (K : Value → World → Prop) : Prop :=
  match vs with
  | [.pointer (some ⟨d, 0, none⟩)] => S.tower_OpenBox d w (fun r0 r1 r2 r3 r4 r5 w' => K (.agg #[.pointer (some ⟨r0, 0, none⟩), .pointer (some ⟨r1, 0, none⟩), .pointer (some ⟨r2, 0, none⟩), .pointer (some ⟨r3, 0, none⟩), .pointer (some ⟨r4, 0, none⟩), .pointer (some ⟨r5, 0, none⟩)]) w')
  | _ => False
theorem T.ok114 : ∀ vs w K, T.c114 vs w K → (callFunc 114 vs.toArray).run Tryz.prog w = .ok (.enter 114 vs.toArray) w ∧ Calls Tryz.prog 114 vs.toArray w fun e w' => ∃ v, e = .returned v ∧ K v w' := by
  intro vs w K h
  unfold T.c114 at h
  split at h
  · refine ⟨Tryz.call114 _ _, ok_of T.CO114 mixed Tryz.func114 (T.eq114 _ _ _) h fun v w' hk => ⟨v, rfl, ?_⟩⟩
    split at hk
    · exact hk
    · exact hk.elim
  · exact h.elim

/-- e2e/tower.Open (function 115). -/
def S.tower_Open (d : Nat) (w : World) (K : Nat → World → Prop) : Prop :=
  S.wal_Open d w (fun r1 w =>
  S.pager_Open r1 w (fun r2 w =>
  S.btree_Open r2 w (fun r3 w =>
  S.table_Open r3 w (fun r4 w =>
  S.txn_Open r4 w (fun r5 w =>
  S.query_Open r5 w (fun r6 w =>
  K r6 w))))))
def T.C115 : CallT := (CallT.cons 208 T.c208 (CallT.cons 209 T.c209 (CallT.cons 136 T.c136 (CallT.cons 137 T.c137 (CallT.cons 210 T.c210 (CallT.cons 211 T.c211 CallT.nil))))))
def T.A115 : Ann := fun _ => none
set_option maxRecDepth 1000000 in
theorem T.eq115 (d : Nat) (w : World) (K : Nat → World → Prop) : denF Tryz.prog T.C115 T.A115 Tryz.f115 [.pointer (some ⟨d, 0, none⟩)] w (fun v w' => match v with | .pointer (some ⟨r0, 0, none⟩) => K r0 w' | _ => False) = S.tower_Open d w K := by kernel_rfl
theorem T.CO115 : CallOk Tryz.prog T.C115 := (CallOk.cons 208 T.ok208 (CallOk.cons 209 T.ok209 (CallOk.cons 136 T.ok136 (CallOk.cons 137 T.ok137 (CallOk.cons 210 T.ok210 (CallOk.cons 211 T.ok211 CallOk.nil))))))
def T.c115 (vs : List Value) (w : World) (K : Value → World → Prop) : Prop :=
  match vs with
  | [.pointer (some ⟨d, 0, none⟩)] => S.tower_Open d w (fun r0 w' => K (.pointer (some ⟨r0, 0, none⟩)) w')
  | _ => False
theorem T.ok115 : ∀ vs w K, T.c115 vs w K → (callFunc 115 vs.toArray).run Tryz.prog w = .ok (.enter 115 vs.toArray) w ∧ Calls Tryz.prog 115 vs.toArray w fun e w' => ∃ v, e = .returned v ∧ K v w' := by
  intro vs w K h
  unfold T.c115 at h
  split at h
  · refine ⟨Tryz.call115 _ _, ok_of T.CO115 mixed Tryz.func115 (T.eq115 _ _ _) h fun v w' hk => ⟨v, rfl, ?_⟩⟩
    split at hk
    · exact hk
    · exact hk.elim
  · exact h.elim

/-- e2e/towerexact.open (function 52). -/
def S.towerexact_open (d : Nat) (box : Bool) (w : World) (K : Nat → World → Prop) : Prop :=
  if box = true then
    S.tower_OpenBox d w (fun L_1 P_2 F_3 S_4 T_5 Q_6 w =>
    New w (.cells #[.pointer none, .pointer none, .pointer none, .pointer none, .pointer none, .pointer none] 52) fun p7 w =>
    St1 w ⟨p7, 0, none⟩ (.pointer (some ⟨L_1, 0, none⟩)) fun w =>
    St1 w ⟨p7, 1, none⟩ (.pointer (some ⟨P_2, 0, none⟩)) fun w =>
    St1 w ⟨p7, 2, none⟩ (.pointer (some ⟨F_3, 0, none⟩)) fun w =>
    St1 w ⟨p7, 3, none⟩ (.pointer (some ⟨S_4, 0, none⟩)) fun w =>
    St1 w ⟨p7, 4, none⟩ (.pointer (some ⟨T_5, 0, none⟩)) fun w =>
    St1 w ⟨p7, 5, none⟩ (.pointer (some ⟨Q_6, 0, none⟩)) fun w =>
    LdP w ⟨p7, 5, none⟩ fun Q_8 =>
    K Q_8 w)
  else
    S.tower_Open d w (fun r9 w =>
    K r9 w)
def T.C52 : CallT := (CallT.cons 114 T.c114 (CallT.cons 115 T.c115 CallT.nil))
def T.A52 : Ann := fun _ => none
set_option maxRecDepth 1000000 in
theorem T.eq52 (d : Nat) (box : Bool) (w : World) (K : Nat → World → Prop) : denF Tryz.prog T.C52 T.A52 Tryz.f52 [.pointer (some ⟨d, 0, none⟩), .bool box] w (fun v w' => match v with | .pointer (some ⟨r0, 0, none⟩) => K r0 w' | _ => False) = S.towerexact_open d box w K := by kernel_rfl
theorem T.CO52 : CallOk Tryz.prog T.C52 := (CallOk.cons 114 T.ok114 (CallOk.cons 115 T.ok115 CallOk.nil))
def T.c52 (vs : List Value) (w : World) (K : Value → World → Prop) : Prop :=
  match vs with
  | [.pointer (some ⟨d, 0, none⟩), .bool box] => S.towerexact_open d box w (fun r0 w' => K (.pointer (some ⟨r0, 0, none⟩)) w')
  | _ => False
theorem T.ok52 : ∀ vs w K, T.c52 vs w K → (callFunc 52 vs.toArray).run Tryz.prog w = .ok (.enter 52 vs.toArray) w ∧ Calls Tryz.prog 52 vs.toArray w fun e w' => ∃ v, e = .returned v ∧ K v w' := by
  intro vs w K h
  unfold T.c52 at h
  split at h
  · refine ⟨Tryz.call52 _ _, ok_of T.CO52 mixed Tryz.func52 (T.eq52 _ _ _ _) h fun v w' hk => ⟨v, rfl, ?_⟩⟩
    split at hk
    · exact hk
    · exact hk.elim
  · exact h.elim

/-- (*e2e/api.Multi).Crashed (function 116). -/
def S.api_Multi_Crashed (m : Nat) (w : World) (K : Nat → World → Prop) : Prop :=
  New w (.cells #[.slice none 0 0, .bool false, .bool false, .bool false, .bool false, .int .i64 0, .int .i64 0, .int .i64 0, .int .i64 0, .int .i64 0, .int .i64 0, .int .i64 0, .int .i64 0, .int .i64 0, .int .i64 0, .int .i64 0, .int .i64 0, .slice none 0 0, .slice none 0 0, .slice none 0 0, .slice none 0 0] 93) fun p1 w =>
  S.api_DB_Clone m 0 w (fun Tabs_2 w =>
  St1 w ⟨p1, 0, none⟩ (.slice Tabs_2.a Tabs_2.l Tabs_2.c) fun w =>
  K p1 w)
def T.C116 : CallT := (CallT.cons 64 T.c64 CallT.nil)
def T.A116 : Ann := fun _ => none
set_option maxRecDepth 1000000 in
theorem T.eq116 (m : Nat) (w : World) (K : Nat → World → Prop) : denF Tryz.prog T.C116 T.A116 Tryz.f116 [.pointer (some ⟨m, 0, none⟩)] w (fun v w' => match v with | .pointer (some ⟨r0, 0, none⟩) => K r0 w' | _ => False) = S.api_Multi_Crashed m w K := by kernel_rfl
theorem T.CO116 : CallOk Tryz.prog T.C116 := (CallOk.cons 64 T.ok64 CallOk.nil)
def T.c116 (vs : List Value) (w : World) (K : Value → World → Prop) : Prop :=
  match vs with
  | [.pointer (some ⟨m, 0, none⟩)] => S.api_Multi_Crashed m w (fun r0 w' => K (.pointer (some ⟨r0, 0, none⟩)) w')
  | _ => False
theorem T.ok116 : ∀ vs w K, T.c116 vs w K → (callFunc 116 vs.toArray).run Tryz.prog w = .ok (.enter 116 vs.toArray) w ∧ Calls Tryz.prog 116 vs.toArray w fun e w' => ∃ v, e = .returned v ∧ K v w' := by
  intro vs w K h
  unfold T.c116 at h
  split at h
  · refine ⟨Tryz.call116 _ _, ok_of T.CO116 mixed Tryz.func116 (T.eq116 _ _ _) h fun v w' hk => ⟨v, rfl, ?_⟩⟩
    split at hk
    · exact hk
    · exact hk.elim
  · exact h.elim
end Go.Proofs.Qxb6500564aGreat
