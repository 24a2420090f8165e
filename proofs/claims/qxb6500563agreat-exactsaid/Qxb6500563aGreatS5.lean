/-
  MADE BY PROGRAM (my own gen.py) out of the translation: the Go functions as typed texts, each tied to the model by the kernel.
-/
import Derived.Test.Qxb6500563aGreatS4
set_option linter.unusedVariables false
namespace Go.Proofs.Qxb6500563aGreat
open Go.Den

/-- (*e2e/bitsm.Tape).Pos (function 69). -/
def S.bitsm_Tape_Pos (t : Nat) (w : World) (K : Int → World → Prop) : Prop :=
  LdI .i64 w ⟨t, 1, none⟩ fun at_1 =>
  K at_1 w
def T.C69 : CallT := CallT.nil
def T.A69 : Ann := fun _ => none
set_option maxRecDepth 1000000 in
theorem T.eq69 (t : Nat) (w : World) (K : Int → World → Prop) : denF Tryz.prog T.C69 T.A69 Tryz.f69 [.pointer (some ⟨t, 0, none⟩)] w (fun v w' => match v with | .int .i64 r0 => K r0 w' | _ => False) = S.bitsm_Tape_Pos t w K := by kernel_rfl
theorem T.CO69 : CallOk Tryz.prog T.C69 := CallOk.nil
def T.c69 (vs : List Value) (w : World) (K : Value → World → Prop) : Prop :=
  match vs with
  | [.pointer (some ⟨t, 0, none⟩)] => S.bitsm_Tape_Pos t w (fun r0 w' => K (.int .i64 r0) w')
  | _ => False
theorem T.ok69 : ∀ vs w K, T.c69 vs w K → (callFunc 69 vs.toArray).run Tryz.prog w = .ok (.enter 69 vs.toArray) w ∧ Calls Tryz.prog 69 vs.toArray w fun e w' => ∃ v, e = .returned v ∧ K v w' := by
  intro vs w K h
  unfold T.c69 at h
  split at h
  · refine ⟨Tryz.call69 _ _, ok_of T.CO69 mixed Tryz.func69 (T.eq69 _ _ _) h fun v w' hk => ⟨v, rfl, ?_⟩⟩
    split at hk
    · exact hk
    · exact hk.elim
  · exact h.elim

/-- (*e2e/bitsm.Tape).Len (function 75). -/
def S.bitsm_Tape_Len (t : Nat) (w : World) (K : Int → World → Prop) : Prop :=
  LdS w ⟨t, 0, none⟩ fun bit_1 =>
  K (bit_1.l : Int) w
def T.C75 : CallT := CallT.nil
def T.A75 : Ann := fun _ => none
set_option maxRecDepth 1000000 in
theorem T.eq75 (t : Nat) (w : World) (K : Int → World → Prop) : denF Tryz.prog T.C75 T.A75 Tryz.f75 [.pointer (some ⟨t, 0, none⟩)] w (fun v w' => match v with | .int .i64 r0 => K r0 w' | _ => False) = S.bitsm_Tape_Len t w K := by kernel_rfl
theorem T.CO75 : CallOk Tryz.prog T.C75 := CallOk.nil
def T.c75 (vs : List Value) (w : World) (K : Value → World → Prop) : Prop :=
  match vs with
  | [.pointer (some ⟨t, 0, none⟩)] => S.bitsm_Tape_Len t w (fun r0 w' => K (.int .i64 r0) w')
  | _ => False
theorem T.ok75 : ∀ vs w K, T.c75 vs w K → (callFunc 75 vs.toArray).run Tryz.prog w = .ok (.enter 75 vs.toArray) w ∧ Calls Tryz.prog 75 vs.toArray w fun e w' => ∃ v, e = .returned v ∧ K v w' := by
  intro vs w K h
  unfold T.c75 at h
  split at h
  · refine ⟨Tryz.call75 _ _, ok_of T.CO75 mixed Tryz.func75 (T.eq75 _ _ _) h fun v w' hk => ⟨v, rfl, ?_⟩⟩
    split at hk
    · exact hk
    · exact hk.elim
  · exact h.elim

/-- (*e2e/bitsm.Tape).Peek (function 103). -/
def S.bitsm_Tape_Peek (t : Nat) (n : Int) (w : World) (K : Int → Int → World → Prop) : Prop :=
  if (decide (n < 0)) = true then
    K 0 0 w
  else
    if (decide (n > 16)) = true then
      K 0 0 w
    else
      Join (fun (v_1 : Int) (got_2 : Int) (w : World) =>
        K v_1 got_2 w) fun J3 =>
      LoopP (σ := Int × Int × Unit) (fun st4 w next5 =>
        Drew w fun w =>
        if (decide (st4.2.1 < n)) = true then
          LdI .i64 w ⟨t, 1, none⟩ fun at_6 =>
          LdS w ⟨t, 0, none⟩ fun bit_7 =>
          if (decide ((W (at_6 + st4.2.1)) < (bit_7.l : Int))) = true then
            Drew w fun w =>
            LdS w ⟨t, 0, none⟩ fun bit_8 =>
            LdI .i64 w ⟨t, 1, none⟩ fun at_9 =>
            Ix bit_8.a bit_8.l (W (at_9 + st4.2.1)) fun b10 o11 =>
            LdI .u8 w ⟨b10, o11 + Int.toNat (W (at_9 + st4.2.1)) * 1, none⟩ fun x_12 =>
            Pos (U64 st4.2.1) <|
            Let (Or .i64 st4.1 (Shl .i64 (W x_12) (U64 st4.2.1))) fun v_13 =>
            Let (W (st4.2.1 + 1)) fun got_14 =>
            next5 (v_13, got_14, ()) w
          else
            J3 st4.1 st4.2.1 w
        else
          J3 st4.1 st4.2.1 w) (0, 0, ()) w
def T.C103 : CallT := CallT.nil
def T.A103 : Ann := fun i => bif Nat.beq i 5 then some ([0, 1], [(6, 0), (7, 0)]) else none
set_option maxRecDepth 1000000 in
theorem T.eq103 (t : Nat) (n : Int) (w : World) (K : Int → Int → World → Prop) : denF Tryz.prog T.C103 T.A103 Tryz.f103 [.pointer (some ⟨t, 0, none⟩), .int .i64 n] w (fun v w' => match v with | .tuple ⟨[.int .i64 r0, .int .i64 r1]⟩ => K r0 r1 w' | _ => False) = S.bitsm_Tape_Peek t n w K := by kernel_rfl
theorem T.CO103 : CallOk Tryz.prog T.C103 := CallOk.nil
def T.c103 (vs : List Value) (w : World) (K : Value → World → Prop) : Prop :=
  match vs with
  | [.pointer (some ⟨t, 0, none⟩), .int .i64 n] => S.bitsm_Tape_Peek t n w (fun r0 r1 w' => K (.tuple #[.int .i64 r0, .int .i64 r1]) w')
  | _ => False
theorem T.ok103 : ∀ vs w K, T.c103 vs w K → (callFunc 103 vs.toArray).run Tryz.prog w = .ok (.enter 103 vs.toArray) w ∧ Calls Tryz.prog 103 vs.toArray w fun e w' => ∃ v, e = .returned v ∧ K v w' := by
  intro vs w K h
  unfold T.c103 at h
  split at h
  · refine ⟨Tryz.call103 _ _, ok_of T.CO103 mixed Tryz.func103 (T.eq103 _ _ _ _) h fun v w' hk => ⟨v, rfl, ?_⟩⟩
    split at hk
    · exact hk
    · exact hk.elim
  · exact h.elim

/-- (*e2e/bitsm.Tape).Skip (function 104). -/
def S.bitsm_Tape_Skip (t : Nat) (n : Int) (w : World) (K : Int → World → Prop) : Prop :=
  if (decide (n < 0)) = true then
    K 2 w
  else
    if (decide (n > 16)) = true then
      K 2 w
    else
      Drew w fun w =>
      LdI .i64 w ⟨t, 1, none⟩ fun at_1 =>
      LdS w ⟨t, 0, none⟩ fun bit_2 =>
      if (decide ((W (at_1 + n)) > (bit_2.l : Int))) = true then
        K 4 w
      else
        LdI .i64 w ⟨t, 1, none⟩ fun at_3 =>
        St1 w ⟨t, 1, none⟩ (.int .i64 (W (at_3 + n))) fun w =>
        K 0 w
def T.C104 : CallT := CallT.nil
def T.A104 : Ann := fun _ => none
set_option maxRecDepth 1000000 in
theorem T.eq104 (t : Nat) (n : Int) (w : World) (K : Int → World → Prop) : denF Tryz.prog T.C104 T.A104 Tryz.f104 [.pointer (some ⟨t, 0, none⟩), .int .i64 n] w (fun v w' => match v with | .int .i64 r0 => K r0 w' | _ => False) = S.bitsm_Tape_Skip t n w K := by kernel_rfl
theorem T.CO104 : CallOk Tryz.prog T.C104 := CallOk.nil
def T.c104 (vs : List Value) (w : World) (K : Value → World → Prop) : Prop :=
  match vs with
  | [.pointer (some ⟨t, 0, none⟩), .int .i64 n] => S.bitsm_Tape_Skip t n w (fun r0 w' => K (.int .i64 r0) w')
  | _ => False
theorem T.ok104 : ∀ vs w K, T.c104 vs w K → (callFunc 104 vs.toArray).run Tryz.prog w = .ok (.enter 104 vs.toArray) w ∧ Calls Tryz.prog 104 vs.toArray w fun e w' => ∃ v, e = .returned v ∧ K v w' := by
  intro vs w K h
  unfold T.c104 at h
  split at h
  · refine ⟨Tryz.call104 _ _, ok_of T.CO104 mixed Tryz.func104 (T.eq104 _ _ _ _) h fun v w' hk => ⟨v, rfl, ?_⟩⟩
    split at hk
    · exact hk
    · exact hk.elim
  · exact h.elim

/-- (*e2e/bitsm.Tape).Take (function 70). -/
def S.bitsm_Tape_Take (t : Nat) (n : Int) (w : World) (K : Int → Int → World → Prop) : Prop :=
  S.bitsm_Tape_Peek t n w (fun r1 r2 w =>
  S.bitsm_Tape_Skip t n w (fun r3 w =>
  if (r3 != 0) = true then
    K 0 r3 w
  else
    K r1 0 w))
def T.C70 : CallT := (CallT.cons 103 T.c103 (CallT.cons 104 T.c104 CallT.nil))
def T.A70 : Ann := fun _ => none
set_option maxRecDepth 1000000 in
theorem T.eq70 (t : Nat) (n : Int) (w : World) (K : Int → Int → World → Prop) : denF Tryz.prog T.C70 T.A70 Tryz.f70 [.pointer (some ⟨t, 0, none⟩), .int .i64 n] w (fun v w' => match v with | .tuple ⟨[.int .i64 r0, .int .i64 r1]⟩ => K r0 r1 w' | _ => False) = S.bitsm_Tape_Take t n w K := by kernel_rfl
theorem T.CO70 : CallOk Tryz.prog T.C70 := (CallOk.cons 103 T.ok103 (CallOk.cons 104 T.ok104 CallOk.nil))
def T.c70 (vs : List Value) (w : World) (K : Value → World → Prop) : Prop :=
  match vs with
  | [.pointer (some ⟨t, 0, none⟩), .int .i64 n] => S.bitsm_Tape_Take t n w (fun r0 r1 w' => K (.tuple #[.int .i64 r0, .int .i64 r1]) w')
  | _ => False
theorem T.ok70 : ∀ vs w K, T.c70 vs w K → (callFunc 70 vs.toArray).run Tryz.prog w = .ok (.enter 70 vs.toArray) w ∧ Calls Tryz.prog 70 vs.toArray w fun e w' => ∃ v, e = .returned v ∧ K v w' := by
  intro vs w K h
  unfold T.c70 at h
  split at h
  · refine ⟨Tryz.call70 _ _, ok_of T.CO70 mixed Tryz.func70 (T.eq70 _ _ _ _) h fun v w' hk => ⟨v, rfl, ?_⟩⟩
    split at hk
    · exact hk
    · exact hk.elim
  · exact h.elim

/-- e2e/blockm.stored (function 71). -/
def S.blockm_stored (t : Nat) (out : Sl) (w : World) (K : Sl → Int → Int → World → Prop) : Prop :=
  S.bitsm_Tape_Sync t w (fun w =>
  S.bitsm_Tape_Pos t w (fun r1 w =>
  S.bitsm_Tape_Take t 16 w (fun r2 r3 w =>
  Join (fun (out_4 : Sl) (at_5 : Int) (e_6 : Int) (w : World) =>
    K out_4 e_6 at_5 w) fun J7 =>
  LoopP (σ := Sl × Int × Int × Int × Unit) (fun st8 w next9 =>
    if (decide (st8.2.2.2.1 < r2)) = true then
      if (st8.2.2.1 == 0) = true then
        Join (fun (out_10 : Sl) (at_11 : Int) (e_12 : Int) (w : World) =>
          Let (W (st8.2.2.2.1 + 1)) fun k_13 =>
          next9 (out_10, at_11, e_12, k_13, ()) w) fun J14 =>
        S.bitsm_Tape_Pos t w (fun r15 w =>
        S.bitsm_Tape_Take t 8 w (fun r16 r17 w =>
        Join (fun (e_18 : Int) (w : World) =>
          if (e_18 == 0) = true then
            New w (.cells #[.int .u8 (U8 r16)] 5) fun p19 w =>
            AppS 5 [.int .u8 0] 1 1 w st8.1 ⟨some ⟨p19, 0, none⟩, 1, 1⟩ fun l20 w =>
            J14 l20 r15 e_18 w
          else
            J14 st8.1 r15 e_18 w) fun J21 =>
        if (r17 == 0) = true then
          if (decide ((st8.1.l : Int) ≥ 256)) = true then
            J21 10 w
          else
            J21 r17 w
        else
          J21 r17 w))
      else
        J7 st8.1 st8.2.1 st8.2.2.1 w
    else
      J7 st8.1 st8.2.1 st8.2.2.1 w) (out, r1, r3, 0, ()) w)))
def T.C71 : CallT := (CallT.cons 74 T.c74 (CallT.cons 69 T.c69 (CallT.cons 70 T.c70 CallT.nil)))
def T.A71 : Ann := fun i => bif Nat.beq i 5 then some ([0, 8], [(1, 6), (7, 0), (9, 0), (10, 0)]) else none
set_option maxRecDepth 1000000 in
theorem T.eq71 (t : Nat) (out : Sl) (w : World) (K : Sl → Int → Int → World → Prop) : denF Tryz.prog T.C71 T.A71 Tryz.f71 [.pointer (some ⟨t, 0, none⟩), .slice out.a out.l out.c] w (fun v w' => match v with | .tuple ⟨[.slice r0a r0l r0c, .int .i64 r1, .int .i64 r2]⟩ => K ⟨r0a, r0l, r0c⟩ r1 r2 w' | _ => False) = S.blockm_stored t out w K := by kernel_rfl
theorem T.CO71 : CallOk Tryz.prog T.C71 := (CallOk.cons 74 T.ok74 (CallOk.cons 69 T.ok69 (CallOk.cons 70 T.ok70 CallOk.nil)))
def T.c71 (vs : List Value) (w : World) (K : Value → World → Prop) : Prop :=
  match vs with
  | [.pointer (some ⟨t, 0, none⟩), .slice outa outl outc] => S.blockm_stored t ⟨outa, outl, outc⟩ w (fun r0 r1 r2 w' => K (.tuple #[.slice r0.a r0.l r0.c, .int .i64 r1, .int .i64 r2]) w')
  | _ => False
theorem T.ok71 : ∀ vs w K, T.c71 vs w K → (callFunc 71 vs.toArray).run Tryz.prog w = .ok (.enter 71 vs.toArray) w ∧ Calls Tryz.prog 71 vs.toArray w fun e w' => ∃ v, e = .returned v ∧ K v w' := by
  intro vs w K h
  unfold T.c71 at h
  split at h
  · refine ⟨Tryz.call71 _ _, ok_of T.CO71 mixed Tryz.func71 (T.eq71 _ _ _ _) h fun v w' hk => ⟨v, rfl, ?_⟩⟩
    split at hk
    · exact hk
    · exact hk.elim
  · exact h.elim

/-- (*e2e/huffm.Coder).Find (function 161). -/
def S.huffm_Coder_Find (c : Nat) (bits : Int) (have_ : Int) (w : World) (K : Int → Int → Int → World → Prop) : Prop :=
  Join (fun (w : World) =>
    K 0 0 2 w) fun J1 =>
  if (decide (have_ < 0)) = true then
    J1 w
  else
    if (decide (have_ > 16)) = true then
      J1 w
    else
      if (decide (bits < 0)) = true then
        J1 w
      else
        Pos (U64 have_) <|
        if ((Shr .i64 bits (U64 have_)) != 0) = true then
          J1 w
        else
          Join (fun (open_2 : Bool) (w : World) =>
            if open_2 = true then
              K 0 0 4 w
            else
              K 0 0 8 w) fun J3 =>
          LoopP (σ := Bool × Int × Unit) (fun st4 w next5 =>
            LdS w ⟨c, 0, none⟩ fun lens_6 =>
            if (decide (st4.2.1 < (lens_6.l : Int))) = true then
              Join (fun (open_7 : Bool) (w : World) =>
                Let (W (st4.2.1 + 1)) fun s_8 =>
                next5 (open_7, s_8, ()) w) fun J9 =>
              LdS w ⟨c, 0, none⟩ fun lens_10 =>
              Ix lens_10.a lens_10.l st4.2.1 fun b11 o12 =>
              LdI .i64 w ⟨b11, o12 + Int.toNat st4.2.1 * 1, none⟩ fun x_13 =>
              Join (fun (w : World) =>
                if (decide (x_13 > have_)) = true then
                  LdS w ⟨c, 1, none⟩ fun code_14 =>
                  Ix code_14.a code_14.l st4.2.1 fun b15 o16 =>
                  LdI .i64 w ⟨b15, o16 + Int.toNat st4.2.1 * 1, none⟩ fun x_17 =>
                  Pos (U64 have_) <|
                  if ((And .i64 x_17 (W ((Shl .i64 1 (U64 have_)) - 1))) == bits) = true then
                    J9 true w
                  else
                    J9 st4.1 w
                else
                  J9 st4.1 w) fun J18 =>
              if (decide (x_13 > 0)) = true then
                if (decide (x_13 ≤ have_)) = true then
                  Pos (U64 x_13) <|
                  LdS w ⟨c, 1, none⟩ fun code_19 =>
                  Ix code_19.a code_19.l st4.2.1 fun b20 o21 =>
                  LdI .i64 w ⟨b20, o21 + Int.toNat st4.2.1 * 1, none⟩ fun x_22 =>
                  if ((And .i64 bits (W ((Shl .i64 1 (U64 x_13)) - 1))) == x_22) = true then
                    K st4.2.1 x_13 0 w
                  else
                    J18 w
                else
                  J18 w
              else
                J18 w
            else
              J3 st4.1 w) (false, 0, ()) w
def T.C161 : CallT := CallT.nil
def T.A161 : Ann := fun i => bif Nat.beq i 5 then some ([0, 1, 2], [(9, 3), (10, 0)]) else none
set_option maxRecDepth 1000000 in
theorem T.eq161 (c : Nat) (bits : Int) (have_ : Int) (w : World) (K : Int → Int → Int → World → Prop) : denF Tryz.prog T.C161 T.A161 Tryz.f161 [.pointer (some ⟨c, 0, none⟩), .int .i64 bits, .int .i64 have_] w (fun v w' => match v with | .tuple ⟨[.int .i64 r0, .int .i64 r1, .int .i64 r2]⟩ => K r0 r1 r2 w' | _ => False) = S.huffm_Coder_Find c bits have_ w K := by kernel_rfl
theorem T.CO161 : CallOk Tryz.prog T.C161 := CallOk.nil
def T.c161 (vs : List Value) (w : World) (K : Value → World → Prop) : Prop :=
  match vs with
  | [.pointer (some ⟨c, 0, none⟩), .int .i64 bits, .int .i64 have_] => S.huffm_Coder_Find c bits have_ w (fun r0 r1 r2 w' => K (.tuple #[.int .i64 r0, .int .i64 r1, .int .i64 r2]) w')
  | _ => False
theorem T.ok161 : ∀ vs w K, T.c161 vs w K → (callFunc 161 vs.toArray).run Tryz.prog w = .ok (.enter 161 vs.toArray) w ∧ Calls Tryz.prog 161 vs.toArray w fun e w' => ∃ v, e = .returned v ∧ K v w' := by
  intro vs w K h
  unfold T.c161 at h
  split at h
  · refine ⟨Tryz.call161 _ _, ok_of T.CO161 mixed Tryz.func161 (T.eq161 _ _ _ _ _) h fun v w' hk => ⟨v, rfl, ?_⟩⟩
    split at hk
    · exact hk
    · exact hk.elim
  · exact h.elim

/-- e2e/blockm.symbol (function 135). -/
def S.blockm_symbol (t : Nat) (c : Nat) (w : World) (K : Int → Int → World → Prop) : Prop :=
  S.bitsm_Tape_Peek t 10 w (fun r1 r2 w =>
  S.huffm_Coder_Find c r1 r2 w (fun r3 r4 r5 w =>
  if (r5 != 0) = true then
    K 0 r5 w
  else
    S.bitsm_Tape_Skip t r4 w (fun r6 w =>
    K r3 0 w)))
def T.C135 : CallT := (CallT.cons 103 T.c103 (CallT.cons 161 T.c161 (CallT.cons 104 T.c104 CallT.nil)))
def T.A135 : Ann := fun _ => none
set_option maxRecDepth 1000000 in
theorem T.eq135 (t : Nat) (c : Nat) (w : World) (K : Int → Int → World → Prop) : denF Tryz.prog T.C135 T.A135 Tryz.f135 [.pointer (some ⟨t, 0, none⟩), .pointer (some ⟨c, 0, none⟩)] w (fun v w' => match v with | .tuple ⟨[.int .i64 r0, .int .i64 r1]⟩ => K r0 r1 w' | _ => False) = S.blockm_symbol t c w K := by kernel_rfl
theorem T.CO135 : CallOk Tryz.prog T.C135 := (CallOk.cons 103 T.ok103 (CallOk.cons 161 T.ok161 (CallOk.cons 104 T.ok104 CallOk.nil)))
def T.c135 (vs : List Value) (w : World) (K : Value → World → Prop) : Prop :=
  match vs with
  | [.pointer (some ⟨t, 0, none⟩), .pointer (some ⟨c, 0, none⟩)] => S.blockm_symbol t c w (fun r0 r1 w' => K (.tuple #[.int .i64 r0, .int .i64 r1]) w')
  | _ => False
theorem T.ok135 : ∀ vs w K, T.c135 vs w K → (callFunc 135 vs.toArray).run Tryz.prog w = .ok (.enter 135 vs.toArray) w ∧ Calls Tryz.prog 135 vs.toArray w fun e w' => ∃ v, e = .returned v ∧ K v w' := by
  intro vs w K h
  unfold T.c135 at h
  split at h
  · refine ⟨Tryz.call135 _ _, ok_of T.CO135 mixed Tryz.func135 (T.eq135 _ _ _ _) h fun v w' hk => ⟨v, rfl, ?_⟩⟩
    split at hk
    · exact hk
    · exact hk.elim
  · exact h.elim

/-- e2e/blockm.token (function 105). -/
def S.blockm_token (t : Nat) (a : Nat) (b : Nat) (out : Sl) (w : World) (K : Sl → Bool → Int → World → Prop) : Prop :=
  S.blockm_symbol t a w (fun r1 r2 w =>
  Join (fun (w : World) =>
    K out true r2 w) fun J3 =>
  if (r2 != 0) = true then
    J3 w
  else
    if (r1 == 256) = true then
      J3 w
    else
      if (decide (r1 < 256)) = true then
        if (decide ((out.l : Int) ≥ 256)) = true then
          K out true 10 w
        else
          New w (.cells #[.int .u8 (U8 r1)] 5) fun p4 w =>
          AppS 5 [.int .u8 0] 1 1 w out ⟨some ⟨p4, 0, none⟩, 1, 1⟩ fun l5 w =>
          K l5 false 0 w
      else
        S.blockm_symbol t b w (fun r6 r7 w =>
        if (r7 != 0) = true then
          K out true r7 w
        else
          S.api_DistBase r6 w (fun r8 r9 w =>
          S.bitsm_Tape_Take t r9 w (fun r10 r11 w =>
          if (r11 != 0) = true then
            K out true r11 w
          else
            Let (W ((W ((W (r1 - 256)) - 1)) + 3)) fun n_12 =>
            if (decide ((W (r8 + r10)) > (out.l : Int))) = true then
              K out true 9 w
            else
              if (decide ((W ((out.l : Int) + n_12)) > 256)) = true then
                K out true 10 w
              else
                Join (fun (out_13 : Sl) (w : World) =>
                  K out_13 false 0 w) fun J14 =>
                LoopP (σ := Sl × Int × Unit) (fun st15 w next16 =>
                  if (decide (st15.2.1 < n_12)) = true then
                    Ix st15.1.a st15.1.l (W ((W ((st15.1.l : Int) - r8)) - r10)) fun b17 o18 =>
                    LdI .u8 w ⟨b17, o18 + Int.toNat (W ((W ((st15.1.l : Int) - r8)) - r10)) * 1, none⟩ fun x_19 =>
                    New w (.cells #[.int .u8 x_19] 5) fun p20 w =>
                    AppS 5 [.int .u8 0] 1 1 w st15.1 ⟨some ⟨p20, 0, none⟩, 1, 1⟩ fun l21 w =>
                    Let (W (st15.2.1 + 1)) fun k_22 =>
                    next16 (l21, k_22, ()) w
                  else
                    J14 st15.1 w) (out, 0, ()) w))))
def T.C105 : CallT := (CallT.cons 135 T.c135 (CallT.cons 93 T.c93 (CallT.cons 70 T.c70 CallT.nil)))
def T.A105 : Ann := fun i => bif Nat.beq i 21 then some ([15, 17, 19], [(3, 6), (20, 0)]) else none
set_option maxRecDepth 1000000 in
theorem T.eq105 (t : Nat) (a : Nat) (b : Nat) (out : Sl) (w : World) (K : Sl → Bool → Int → World → Prop) : denF Tryz.prog T.C105 T.A105 Tryz.f105 [.pointer (some ⟨t, 0, none⟩), .pointer (some ⟨a, 0, none⟩), .pointer (some ⟨b, 0, none⟩), .slice out.a out.l out.c] w (fun v w' => match v with | .tuple ⟨[.slice r0a r0l r0c, .bool r1, .int .i64 r2]⟩ => K ⟨r0a, r0l, r0c⟩ r1 r2 w' | _ => False) = S.blockm_token t a b out w K := by kernel_rfl
theorem T.CO105 : CallOk Tryz.prog T.C105 := (CallOk.cons 135 T.ok135 (CallOk.cons 93 T.ok93 (CallOk.cons 70 T.ok70 CallOk.nil)))
def T.c105 (vs : List Value) (w : World) (K : Value → World → Prop) : Prop :=
  match vs with
  | [.pointer (some ⟨t, 0, none⟩), .pointer (some ⟨a, 0, none⟩), .pointer (some ⟨b, 0, none⟩), .slice outa outl outc] => S.blockm_token t a b ⟨outa, outl, outc⟩ w (fun r0 r1 r2 w' => K (.tuple #[.slice r0.a r0.l r0.c, .bool r1, .int .i64 r2]) w')
  | _ => False
theorem T.ok105 : ∀ vs w K, T.c105 vs w K → (callFunc 105 vs.toArray).run Tryz.prog w = .ok (.enter 105 vs.toArray) w ∧ Calls Tryz.prog 105 vs.toArray w fun e w' => ∃ v, e = .returned v ∧ K v w' := by
  intro vs w K h
  unfold T.c105 at h
  split at h
  · refine ⟨Tryz.call105 _ _, ok_of T.CO105 mixed Tryz.func105 (T.eq105 _ _ _ _ _ _) h fun v w' hk => ⟨v, rfl, ?_⟩⟩
    split at hk
    · exact hk
    · exact hk.elim
  · exact h.elim

/-- e2e/blockm.coded (function 72). -/
def S.blockm_coded (t : Nat) (l : Sl) (head : Int) (out : Sl) (w : World) (K : Sl → Int → Int → World → Prop) : Prop :=
  S.huffm_New w (fun r1 w =>
  S.huffm_New w (fun r2 w =>
  CutS 1 l 0 265 (l.c : Int) fun l3 =>
  S.huffm_Coder_Build r1 l3 w (fun r4 w =>
  Join (fun (e_5 : Int) (w : World) =>
    Join (fun (e_6 : Int) (w : World) =>
      Let (e_6 != 0) fun done_7 =>
      Join (fun (out_8 : Sl) (e_9 : Int) (at_10 : Int) (w : World) =>
        K out_8 e_9 at_10 w) fun J11 =>
      LoopP (σ := Sl × Int × Int × Bool × Unit) (fun st12 w next13 =>
        if (!st12.2.2.2.1) = true then
          S.bitsm_Tape_Pos t w (fun r14 w =>
          S.blockm_token t r1 r2 st12.1 w (fun r15 r16 r17 w =>
          next13 (r15, r17, r14, r16, ()) w))
        else
          J11 st12.1 st12.2.1 st12.2.2.1 w) (out, e_6, head, done_7, ()) w) fun J18 =>
    if (e_5 == 0) = true then
      Ix l.a l.l 256 fun b19 o20 =>
      LdI .i64 w ⟨b19, o20 + Int.toNat 256 * 1, none⟩ fun x_21 =>
      if (x_21 == 0) = true then
        J18 8 w
      else
        J18 e_5 w
    else
      J18 e_5 w) fun J22 =>
  if (r4 == 0) = true then
    CutS 1 l 265 (l.l : Int) (l.c : Int) fun l23 =>
    S.huffm_Coder_Build r2 l23 w (fun r24 w =>
    J22 r24 w)
  else
    J22 r4 w)))
def T.C72 : CallT := (CallT.cons 33 T.c33 (CallT.cons 97 T.c97 (CallT.cons 69 T.c69 (CallT.cons 105 T.c105 CallT.nil))))
def T.A72 : Ann := fun i => bif Nat.beq i 10 then some ([0, 11, 12], [(3, 6), (13, 0), (14, 0), (15, 3)]) else none
set_option maxRecDepth 1000000 in
theorem T.eq72 (t : Nat) (l : Sl) (head : Int) (out : Sl) (w : World) (K : Sl → Int → Int → World → Prop) : denF Tryz.prog T.C72 T.A72 Tryz.f72 [.pointer (some ⟨t, 0, none⟩), .slice l.a l.l l.c, .int .i64 head, .slice out.a out.l out.c] w (fun v w' => match v with | .tuple ⟨[.slice r0a r0l r0c, .int .i64 r1, .int .i64 r2]⟩ => K ⟨r0a, r0l, r0c⟩ r1 r2 w' | _ => False) = S.blockm_coded t l head out w K := by kernel_rfl
theorem T.CO72 : CallOk Tryz.prog T.C72 := (CallOk.cons 33 T.ok33 (CallOk.cons 97 T.ok97 (CallOk.cons 69 T.ok69 (CallOk.cons 105 T.ok105 CallOk.nil))))
def T.c72 (vs : List Value) (w : World) (K : Value → World → Prop) : Prop :=
  match vs with
  | [.pointer (some ⟨t, 0, none⟩), .slice la ll lc, .int .i64 head, .slice outa outl outc] => S.blockm_coded t ⟨la, ll, lc⟩ head ⟨outa, outl, outc⟩ w (fun r0 r1 r2 w' => K (.tuple #[.slice r0.a r0.l r0.c, .int .i64 r1, .int .i64 r2]) w')
  | _ => False
theorem T.ok72 : ∀ vs w K, T.c72 vs w K → (callFunc 72 vs.toArray).run Tryz.prog w = .ok (.enter 72 vs.toArray) w ∧ Calls Tryz.prog 72 vs.toArray w fun e w' => ∃ v, e = .returned v ∧ K v w' := by
  intro vs w K h
  unfold T.c72 at h
  split at h
  · refine ⟨Tryz.call72 _ _, ok_of T.CO72 mixed Tryz.func72 (T.eq72 _ _ _ _ _ _) h fun v w' hk => ⟨v, rfl, ?_⟩⟩
    split at hk
    · exact hk
    · exact hk.elim
  · exact h.elim

/-- e2e/blockm.lengths (function 73). -/
def S.blockm_lengths (t : Nat) (w : World) (K : Sl → Int → Int → World → Prop) : Prop :=
  MkS 3 [.int .i64 0] 8 w 273 273 fun l1 w =>
  Join (fun (w : World) =>
    K l1 0 0 w) fun J2 =>
  LoopP (σ := Int × Unit) (fun st3 w next4 =>
    if (decide (st3.1 < (l1.l : Int))) = true then
      S.bitsm_Tape_Pos t w (fun r5 w =>
      S.bitsm_Tape_Take t 4 w (fun r6 r7 w =>
      if (r7 != 0) = true then
        K ⟨none, 0, 0⟩ r7 r5 w
      else
        if (decide (r6 ≤ 10)) = true then
          Ix l1.a l1.l st3.1 fun b8 o9 =>
          St1 w ⟨b8, o9 + Int.toNat st3.1 * 1, none⟩ (.int .i64 r6) fun w =>
          Let (W (st3.1 + 1)) fun i_10 =>
          next4 (i_10, ()) w
        else
          if (decide (r6 > 12)) = true then
            K ⟨none, 0, 0⟩ 8 r5 w
          else
            Join (fun (more_11 : Int) (w : World) =>
              S.bitsm_Tape_Take t more_11 w (fun r12 r13 w =>
              if (r13 != 0) = true then
                K ⟨none, 0, 0⟩ r13 r5 w
              else
                Join (fun (v_14 : Int) (w : World) =>
                  if (decide ((W ((W (st3.1 + 3)) + r12)) > (l1.l : Int))) = true then
                    K ⟨none, 0, 0⟩ 8 r5 w
                  else
                    LoopP (σ := Int × Int × Unit) (fun st15 w next16 =>
                      if (decide (st15.2.1 < (W (3 + r12)))) = true then
                        Ix l1.a l1.l st15.1 fun b17 o18 =>
                        St1 w ⟨b17, o18 + Int.toNat st15.1 * 1, none⟩ (.int .i64 v_14) fun w =>
                        Let (W (st15.1 + 1)) fun i_19 =>
                        Let (W (st15.2.1 + 1)) fun k_20 =>
                        next16 (i_19, k_20, ()) w
                      else
                        next4 (st15.1, ()) w) (st3.1, 0, ()) w) fun J21 =>
                if (r6 == 12) = true then
                  if (st3.1 == 0) = true then
                    K ⟨none, 0, 0⟩ 8 r5 w
                  else
                    Ix l1.a l1.l (W (st3.1 - 1)) fun b22 o23 =>
                    LdI .i64 w ⟨b22, o23 + Int.toNat (W (st3.1 - 1)) * 1, none⟩ fun x_24 =>
                    J21 x_24 w
                else
                  J21 0 w)) fun J25 =>
            if (r6 == 12) = true then
              J25 2 w
            else
              J25 7 w))
    else
      J2 w) (0, ()) w
def T.C73 : CallT := (CallT.cons 69 T.c69 (CallT.cons 70 T.c70 CallT.nil))
def T.A73 : Ann := fun i => bif Nat.beq i 27 then some ([0, 5, 11, 13], [(6, 0), (14, 0)]) else bif Nat.beq i 3 then some ([0, 5], [(6, 0)]) else none
set_option maxRecDepth 1000000 in
theorem T.eq73 (t : Nat) (w : World) (K : Sl → Int → Int → World → Prop) : denF Tryz.prog T.C73 T.A73 Tryz.f73 [.pointer (some ⟨t, 0, none⟩)] w (fun v w' => match v with | .tuple ⟨[.slice r0a r0l r0c, .int .i64 r1, .int .i64 r2]⟩ => K ⟨r0a, r0l, r0c⟩ r1 r2 w' | _ => False) = S.blockm_lengths t w K := by kernel_rfl
theorem T.CO73 : CallOk Tryz.prog T.C73 := (CallOk.cons 69 T.ok69 (CallOk.cons 70 T.ok70 CallOk.nil))
def T.c73 (vs : List Value) (w : World) (K : Value → World → Prop) : Prop :=
  match vs with
  | [.pointer (some ⟨t, 0, none⟩)] => S.blockm_lengths t w (fun r0 r1 r2 w' => K (.tuple #[.slice r0.a r0.l r0.c, .int .i64 r1, .int .i64 r2]) w')
  | _ => False
theorem T.ok73 : ∀ vs w K, T.c73 vs w K → (callFunc 73 vs.toArray).run Tryz.prog w = .ok (.enter 73 vs.toArray) w ∧ Calls Tryz.prog 73 vs.toArray w fun e w' => ∃ v, e = .returned v ∧ K v w' := by
  intro vs w K h
  unfold T.c73 at h
  split at h
  · refine ⟨Tryz.call73 _ _, ok_of T.CO73 mixed Tryz.func73 (T.eq73 _ _ _) h fun v w' hk => ⟨v, rfl, ?_⟩⟩
    split at hk
    · exact hk
    · exact hk.elim
  · exact h.elim

/-- e2e/blockm.Run (function 47). -/
def S.blockm_Run (raw : ByteArray) (w : World) (K : ByteArray → Int → Int → World → Prop) : Prop :=
  if (decide ((raw.size : Int) > 512)) = true then
    K ⟨#[]⟩ 1 0 w
  else
    S.bitsm_New w (fun r1 w =>
    S.bitsm_Tape_Load r1 raw w (fun r2 w =>
    Join (fun (out_3 : Sl) (w : World) =>
      S.bitsm_Tape_Sync r1 w (fun w =>
      S.bitsm_Tape_Pos r1 w (fun r4 w =>
      S.bitsm_Tape_Len r1 w (fun r5 w =>
      if (decide (r4 < r5)) = true then
        BtS w out_3 fun s6 =>
        K s6 11 r4 w
      else
        BtS w out_3 fun s7 =>
        K s7 0 0 w)))) fun J8 =>
    LoopP (σ := Sl × Int × Unit) (fun st9 w next10 =>
      if (st9.2.1 == 0) = true then
        S.bitsm_Tape_Pos r1 w (fun r11 w =>
        S.bitsm_Tape_Take r1 1 w (fun r12 r13 w =>
        if (r13 != 0) = true then
          BtS w st9.1 fun s14 =>
          K s14 r13 r11 w
        else
          S.bitsm_Tape_Pos r1 w (fun r15 w =>
          S.bitsm_Tape_Take r1 2 w (fun r16 r17 w =>
          if (r17 != 0) = true then
            BtS w st9.1 fun s18 =>
            K s18 r17 r15 w
          else
            S.bitsm_Tape_Pos r1 w (fun r19 w =>
            Join (fun (out_20 : Sl) (at_21 : Int) (e_22 : Int) (w : World) =>
              if (e_22 != 0) = true then
                BtS w out_20 fun s23 =>
                K s23 e_22 at_21 w
              else
                next10 (out_20, r12, ()) w) fun J24 =>
            if (r16 == 0) = true then
              S.blockm_stored r1 st9.1 w (fun r25 r26 r27 w =>
              J24 r25 r27 r26 w)
            else
              if (r16 == 1) = true then
                S.blockm_FixedLens w (fun r28 w =>
                S.blockm_coded r1 r28 r19 st9.1 w (fun r29 r30 r31 w =>
                J24 r29 r31 r30 w))
              else
                if (r16 == 2) = true then
                  S.blockm_lengths r1 w (fun r32 r33 r34 w =>
                  if (r33 == 0) = true then
                    S.blockm_coded r1 r32 r19 st9.1 w (fun r35 r36 r37 w =>
                    J24 r35 r37 r36 w)
                  else
                    J24 st9.1 r34 r33 w)
                else
                  J24 st9.1 r15 5 w)))))
      else
        J8 st9.1 w) (⟨none, 0, 0⟩, 0, ()) w))
def T.C47 : CallT := (CallT.cons 67 T.c67 (CallT.cons 68 T.c68 (CallT.cons 74 T.c74 (CallT.cons 69 T.c69 (CallT.cons 75 T.c75 (CallT.cons 70 T.c70 (CallT.cons 71 T.c71 (CallT.cons 58 T.c58 (CallT.cons 72 T.c72 (CallT.cons 73 T.c73 CallT.nil))))))))))
def T.A47 : Ann := fun i => bif Nat.beq i 7 then some ([5], [(6, 6), (7, 0)]) else none
set_option maxRecDepth 1000000 in
theorem T.eq47 (raw : ByteArray) (w : World) (K : ByteArray → Int → Int → World → Prop) : denF Tryz.prog T.C47 T.A47 Tryz.f47 [.string raw] w (fun v w' => match v with | .tuple ⟨[.string r0, .int .i64 r1, .int .i64 r2]⟩ => K r0 r1 r2 w' | _ => False) = S.blockm_Run raw w K := by kernel_rfl
theorem T.CO47 : CallOk Tryz.prog T.C47 := (CallOk.cons 67 T.ok67 (CallOk.cons 68 T.ok68 (CallOk.cons 74 T.ok74 (CallOk.cons 69 T.ok69 (CallOk.cons 75 T.ok75 (CallOk.cons 70 T.ok70 (CallOk.cons 71 T.ok71 (CallOk.cons 58 T.ok58 (CallOk.cons 72 T.ok72 (CallOk.cons 73 T.ok73 CallOk.nil))))))))))
def T.c47 (vs : List Value) (w : World) (K : Value → World → Prop) : Prop :=
  match vs with
  | [.string raw] => S.blockm_Run raw w (fun r0 r1 r2 w' => K (.tuple #[.string r0, .int .i64 r1, .int .i64 r2]) w')
  | _ => False
theorem T.ok47 : ∀ vs w K, T.c47 vs w K → (callFunc 47 vs.toArray).run Tryz.prog w = .ok (.enter 47 vs.toArray) w ∧ Calls Tryz.prog 47 vs.toArray w fun e w' => ∃ v, e = .returned v ∧ K v w' := by
  intro vs w K h
  unfold T.c47 at h
  split at h
  · refine ⟨Tryz.call47 _ _, ok_of T.CO47 mixed Tryz.func47 (T.eq47 _ _ _) h fun v w' hk => ⟨v, rfl, ?_⟩⟩
    split at hk
    · exact hk
    · exact hk.elim
  · exact h.elim

/-- (*e2e/archm.Archive).Unpack (function 29). -/
def S.archm_Archive_Unpack (a : Nat) (raw : ByteArray) (w : World) (K : Sl → Int → Int → World → Prop) : Prop :=
  S.archm_read raw w (fun r1 r2 r3 w =>
  if (r2 != 0) = true then
    K ⟨none, 0, 0⟩ r2 r3 w
  else
    MkS 26 [.string ⟨#[]⟩, .string ⟨#[]⟩] 32 w (r1.l : Int) (r1.l : Int) fun l4 w =>
    Join (fun (w : World) =>
      K l4 0 0 w) fun J5 =>
    LoopP (σ := Int × Unit) (fun st6 w next7 =>
      if (decide (st6.1 < (r1.l : Int))) = true then
        Drew w fun w =>
        Ix r1.a r1.l st6.1 fun b8 o9 =>
        LdI .i64 w ⟨b8, o9 + Int.toNat st6.1 * 6 + 3, none⟩ fun from_10 =>
        Ix r1.a r1.l st6.1 fun b11 o12 =>
        LdI .i64 w ⟨b11, o12 + Int.toNat st6.1 * 6 + 4, none⟩ fun to_13 =>
        CutStr raw from_10 to_13 fun s14 =>
        S.blockm_Run s14 w (fun r15 r16 r17 w =>
        if (r16 != 0) = true then
          Drew w fun w =>
          Ix r1.a r1.l st6.1 fun b18 o19 =>
          LdI .i64 w ⟨b18, o19 + Int.toNat st6.1 * 6 + 5, none⟩ fun off_20 =>
          K ⟨none, 0, 0⟩ r16 off_20 w
        else
          Ix r1.a r1.l st6.1 fun b21 o22 =>
          LdI .i64 w ⟨b21, o22 + Int.toNat st6.1 * 6 + 1, none⟩ fun size_23 =>
          if ((r15.size : Int) != size_23) = true then
            Drew w fun w =>
            Ix r1.a r1.l st6.1 fun b24 o25 =>
            LdI .i64 w ⟨b24, o25 + Int.toNat st6.1 * 6 + 5, none⟩ fun off_26 =>
            K ⟨none, 0, 0⟩ 19 off_26 w
          else
            Drew w fun w =>
            Ix r1.a r1.l st6.1 fun b27 o28 =>
            Hold w ⟨b27, o28 + Int.toNat st6.1 * 6 + 2, none⟩ 1 fun R29 =>
            LdI .i64 w ⟨b27, o28 + Int.toNat st6.1 * 6 + 2, none⟩ fun sum_30 =>
            S.api_Sum r15 w (fun r31 w =>
            After R29 w <|
            if (r31 != sum_30) = true then
              Drew w fun w =>
              Ix r1.a r1.l st6.1 fun b32 o33 =>
              LdI .i64 w ⟨b32, o33 + Int.toNat st6.1 * 6 + 5, none⟩ fun off_34 =>
              K ⟨none, 0, 0⟩ 18 off_34 w
            else
              Ix r1.a r1.l st6.1 fun b35 o36 =>
              LdStr w ⟨b35, o36 + Int.toNat st6.1 * 6, none⟩ fun name_37 =>
              Ix l4.a l4.l st6.1 fun b38 o39 =>
              St1 w ⟨b38, o39 + Int.toNat st6.1 * 2, none⟩ (.string name_37) fun w =>
              St1 w ⟨b38, o39 + Int.toNat st6.1 * 2 + 1, none⟩ (.string r15) fun w =>
              Let (W (st6.1 + 1)) fun i_40 =>
              next7 (i_40, ()) w))
      else
        J5 w) (0, ()) w)
def T.C29 : CallT := (CallT.cons 45 T.c45 (CallT.cons 47 T.c47 (CallT.cons 43 T.c43 CallT.nil)))
def T.A29 : Ann := fun i => bif Nat.beq i 6 then some ([1, 7, 10], [(11, 0)]) else none
set_option maxRecDepth 1000000 in
theorem T.eq29 (a : Nat) (raw : ByteArray) (w : World) (K : Sl → Int → Int → World → Prop) : denF Tryz.prog T.C29 T.A29 Tryz.f29 [.pointer (some ⟨a, 0, none⟩), .string raw] w (fun v w' => match v with | .tuple ⟨[.slice r0a r0l r0c, .int .i64 r1, .int .i64 r2]⟩ => K ⟨r0a, r0l, r0c⟩ r1 r2 w' | _ => False) = S.archm_Archive_Unpack a raw w K := by kernel_rfl
theorem T.CO29 : CallOk Tryz.prog T.C29 := (CallOk.cons 45 T.ok45 (CallOk.cons 47 T.ok47 (CallOk.cons 43 T.ok43 CallOk.nil)))
def T.c29 (vs : List Value) (w : World) (K : Value → World → Prop) : Prop :=
  match vs with
  | [.pointer (some ⟨a, 0, none⟩), .string raw] => S.archm_Archive_Unpack a raw w (fun r0 r1 r2 w' => K (.tuple #[.slice r0.a r0.l r0.c, .int .i64 r1, .int .i64 r2]) w')
  | _ => False
theorem T.ok29 : ∀ vs w K, T.c29 vs w K → (callFunc 29 vs.toArray).run Tryz.prog w = .ok (.enter 29 vs.toArray) w ∧ Calls Tryz.prog 29 vs.toArray w fun e w' => ∃ v, e = .returned v ∧ K v w' := by
  intro vs w K h
  unfold T.c29 at h
  split at h
  · refine ⟨Tryz.call29 _ _, ok_of T.CO29 mixed Tryz.func29 (T.eq29 _ _ _ _) h fun v w' hk => ⟨v, rfl, ?_⟩⟩
    split at hk
    · exact hk
    · exact hk.elim
  · exact h.elim

/-- e2e/towerexact.unpacked (function 11). -/
def S.towerexact_unpacked (x : Nat) (m : Nat) (raw : ByteArray) (w : World) (K : Sl → Bool → World → Prop) : Prop :=
  S.arch_Archive_Unpack x raw w (fun r1 r2 r3 w =>
  S.archm_Archive_Unpack m raw w (fun r4 r5 r6 w =>
  Join (fun (w : World) =>
    K r1 false w) fun J7 =>
  Join (fun (w : World) =>
    if (r2 == r5) = true then
      if (r3 == r6) = true then
        S.towerexact_sameEntries r1 r4 w (fun r8 w =>
        K r1 r8 w)
      else
        K r1 false w
    else
      K r1 false w) fun J9 =>
  if (r2 != 0) = true then
    if (!(Option.isNone r1.a)) = true then
      J7 w
    else
      if ((r1.c : Int) != (r1.l : Int)) = true then
        J7 w
      else
        J9 w
  else
    if ((r1.c : Int) != (r1.l : Int)) = true then
      J7 w
    else
      J9 w))
def T.C11 : CallT := (CallT.cons 28 T.c28 (CallT.cons 29 T.c29 (CallT.cons 12 T.c12 CallT.nil)))
def T.A11 : Ann := fun _ => none
set_option maxRecDepth 1000000 in
theorem T.eq11 (x : Nat) (m : Nat) (raw : ByteArray) (w : World) (K : Sl → Bool → World → Prop) : denF Tryz.prog T.C11 T.A11 Tryz.f11 [.pointer (some ⟨x, 0, none⟩), .pointer (some ⟨m, 0, none⟩), .string raw] w (fun v w' => match v with | .tuple ⟨[.slice r0a r0l r0c, .bool r1]⟩ => K ⟨r0a, r0l, r0c⟩ r1 w' | _ => False) = S.towerexact_unpacked x m raw w K := by kernel_rfl
theorem T.CO11 : CallOk Tryz.prog T.C11 := (CallOk.cons 28 T.ok28 (CallOk.cons 29 T.ok29 (CallOk.cons 12 T.ok12 CallOk.nil)))
def T.c11 (vs : List Value) (w : World) (K : Value → World → Prop) : Prop :=
  match vs with
  | [.pointer (some ⟨x, 0, none⟩), .pointer (some ⟨m, 0, none⟩), .string raw] => S.towerexact_unpacked x m raw w (fun r0 r1 w' => K (.tuple #[.slice r0.a r0.l r0.c, .bool r1]) w')
  | _ => False
theorem T.ok11 : ∀ vs w K, T.c11 vs w K → (callFunc 11 vs.toArray).run Tryz.prog w = .ok (.enter 11 vs.toArray) w ∧ Calls Tryz.prog 11 vs.toArray w fun e w' => ∃ v, e = .returned v ∧ K v w' := by
  intro vs w K h
  unfold T.c11 at h
  split at h
  · refine ⟨Tryz.call11 _ _, ok_of T.CO11 mixed Tryz.func11 (T.eq11 _ _ _ _ _) h fun v w' hk => ⟨v, rfl, ?_⟩⟩
    split at hk
    · exact hk
    · exact hk.elim
  · exact h.elim

/-- e2e/towerexact.Raw (function 3). -/
def S.towerexact_Raw (names : Sl) (datas : Sl) (n : Int) (level : Int) (raw : ByteArray) (w : World) (K : Bool → World → Prop) : Prop :=
  if (decide ((raw.size : Int) > 1073741824)) = true then
    K true w
  else
    S.towerexact_few names w (fun r1 w =>
    if (!r1) = true then
      K true w
    else
      S.towerexact_few datas w (fun r2 w =>
      if (!r2) = true then
        K true w
      else
        Join (fun (l_3 : Sl) (w : World) =>
          S.towerexact_pick n (W ((l_3.l : Int) + 1)) w (fun r4 w =>
          S.archm_New w (fun r5 w =>
          S.tower_New w (fun r6 w =>
          S.towerexact_packed r6 r5 l_3 0 r4 (W ((l_3.l : Int) - r4)) level w (fun r7 r8 r9 w =>
          if (!r9) = true then
            K false w
          else
            Join (fun (w : World) =>
              S.tower_New w (fun r10 w =>
              S.towerexact_listed r10 r5 raw w (fun r11 r12 w =>
              if (!r12) = true then
                K false w
              else
                S.tower_New w (fun r13 w =>
                S.towerexact_unpacked r13 r5 raw w (fun r14 r15 w =>
                K r15 w))))) fun J16 =>
            if r8 = true then
              S.tower_New w (fun r17 w =>
              S.towerexact_listed r17 r5 r7 w (fun r18 r19 w =>
              if (!r19) = true then
                K false w
              else
                S.tower_New w (fun r20 w =>
                S.towerexact_unpacked r20 r5 r7 w (fun r21 r22 w =>
                if (!r22) = true then
                  K false w
                else
                  CutS 2 l_3 0 r4 (l_3.c : Int) fun l23 =>
                  S.towerexact_sameEntries r21 l23 w (fun r24 w =>
                  if (!r24) = true then
                    K false w
                  else
                    J16 w)))))
            else
              J16 w))))) fun J25 =>
        LoopP (σ := Sl × Int × Unit) (fun st26 w next27 =>
          if (decide (st26.2.1 < (names.l : Int))) = true then
            if (decide (st26.2.1 < (datas.l : Int))) = true then
              Drew w fun w =>
              Ix names.a names.l st26.2.1 fun b28 o29 =>
              LdStr w ⟨b28, o29 + Int.toNat st26.2.1 * 1, none⟩ fun x_30 =>
              Ix datas.a datas.l st26.2.1 fun b31 o32 =>
              LdStr w ⟨b31, o32 + Int.toNat st26.2.1 * 1, none⟩ fun x_33 =>
              New w (.cells #[.string x_30, .string x_33] 26) fun p34 w =>
              AppS 26 [.string ⟨#[]⟩, .string ⟨#[]⟩] 32 2 w st26.1 ⟨some ⟨p34, 0, none⟩, 1, 1⟩ fun l35 w =>
              Let (W (st26.2.1 + 1)) fun i_36 =>
              next27 (l35, i_36, ()) w
            else
              J25 st26.1 w
          else
            J25 st26.1 w) (⟨none, 0, 0⟩, 0, ()) w))
def T.C3 : CallT := (CallT.cons 5 T.c5 (CallT.cons 6 T.c6 (CallT.cons 7 T.c7 (CallT.cons 8 T.c8 (CallT.cons 9 T.c9 (CallT.cons 10 T.c10 (CallT.cons 11 T.c11 (CallT.cons 12 T.c12 CallT.nil))))))))
def T.A3 : Ann := fun i => bif Nat.beq i 5 then some ([0, 1, 2, 3, 4], [(11, 6), (12, 0)]) else none
set_option maxRecDepth 1000000 in
theorem T.eq3 (names : Sl) (datas : Sl) (n : Int) (level : Int) (raw : ByteArray) (w : World) (K : Bool → World → Prop) : denF Tryz.prog T.C3 T.A3 Tryz.f3 [.slice names.a names.l names.c, .slice datas.a datas.l datas.c, .int .i64 n, .int .i64 level, .string raw] w (fun v w' => match v with | .bool r0 => K r0 w' | _ => False) = S.towerexact_Raw names datas n level raw w K := by kernel_rfl
theorem T.CO3 : CallOk Tryz.prog T.C3 := (CallOk.cons 5 T.ok5 (CallOk.cons 6 T.ok6 (CallOk.cons 7 T.ok7 (CallOk.cons 8 T.ok8 (CallOk.cons 9 T.ok9 (CallOk.cons 10 T.ok10 (CallOk.cons 11 T.ok11 (CallOk.cons 12 T.ok12 CallOk.nil))))))))
def T.c3 (vs : List Value) (w : World) (K : Value → World → Prop) : Prop :=
  match vs with
  | [.slice namesa namesl namesc, .slice datasa datasl datasc, .int .i64 n, .int .i64 level, .string raw] => S.towerexact_Raw ⟨namesa, namesl, namesc⟩ ⟨datasa, datasl, datasc⟩ n level raw w (fun r0 w' => K (.bool r0) w')
  | _ => False
theorem T.ok3 : ∀ vs w K, T.c3 vs w K → (callFunc 3 vs.toArray).run Tryz.prog w = .ok (.enter 3 vs.toArray) w ∧ Calls Tryz.prog 3 vs.toArray w fun e w' => ∃ v, e = .returned v ∧ K v w' := by
  intro vs w K h
  unfold T.c3 at h
  split at h
  · refine ⟨Tryz.call3 _ _, ok_of T.CO3 mixed Tryz.func3 (T.eq3 _ _ _ _ _ _ _) h fun v w' hk => ⟨v, rfl, ?_⟩⟩
    split at hk
    · exact hk
    · exact hk.elim
  · exact h.elim

/-- e2e/towerexact.small (function 13). -/
def S.towerexact_small (script : Sl) (w : World) (K : Bool → World → Prop) : Prop :=
  if (decide ((script.l : Int) > 1073741824)) = true then
    K false w
  else
    Let (script.l : Int) fun n_1 =>
    LoopP (σ := Int × Int × Unit) (fun st2 w next3 =>
      if (decide (st2.2.1 < (script.l : Int))) = true then
        Drew w fun w =>
        Ix script.a script.l st2.2.1 fun b4 o5 =>
        LdStr w ⟨b4, o5 + Int.toNat st2.2.1 * 6 + 4, none⟩ fun S_6 =>
        Ix script.a script.l st2.2.1 fun b7 o8 =>
        LdStr w ⟨b7, o8 + Int.toNat st2.2.1 * 6 + 5, none⟩ fun T_9 =>
        Let (W ((W (st2.1 + (S_6.size : Int))) + (T_9.size : Int))) fun n_10 =>
        if (decide (n_10 > 1073741824)) = true then
          K false w
        else
          Let (W (st2.2.1 + 1)) fun i_11 =>
          next3 (n_10, i_11, ()) w
      else
        K true w) (n_1, 0, ()) w
def T.C13 : CallT := CallT.nil
def T.A13 : Ann := fun i => bif Nat.beq i 5 then some ([0], [(3, 0), (4, 0)]) else none
set_option maxRecDepth 1000000 in
theorem T.eq13 (script : Sl) (w : World) (K : Bool → World → Prop) : denF Tryz.prog T.C13 T.A13 Tryz.f13 [.slice script.a script.l script.c] w (fun v w' => match v with | .bool r0 => K r0 w' | _ => False) = S.towerexact_small script w K := by kernel_rfl
theorem T.CO13 : CallOk Tryz.prog T.C13 := CallOk.nil
def T.c13 (vs : List Value) (w : World) (K : Value → World → Prop) : Prop :=
  match vs with
  | [.slice scripta scriptl scriptc] => S.towerexact_small ⟨scripta, scriptl, scriptc⟩ w (fun r0 w' => K (.bool r0) w')
  | _ => False
theorem T.ok13 : ∀ vs w K, T.c13 vs w K → (callFunc 13 vs.toArray).run Tryz.prog w = .ok (.enter 13 vs.toArray) w ∧ Calls Tryz.prog 13 vs.toArray w fun e w' => ∃ v, e = .returned v ∧ K v w' := by
  intro vs w K h
  unfold T.c13 at h
  split at h
  · refine ⟨Tryz.call13 _ _, ok_of T.CO13 mixed Tryz.func13 (T.eq13 _ _ _) h fun v w' hk => ⟨v, rfl, ?_⟩⟩
    split at hk
    · exact hk
    · exact hk.elim
  · exact h.elim

/-- (*e2e/towerexact.World).lists (function 48). -/
def S.towerexact_World_lists (w_ : Nat) (o_Kind : Int) (o_A : Int) (o_B : Int) (o_C : Int) (o_S : ByteArray) (o_T : ByteArray) (w : World) (K : Bool → World → Prop) : Prop :=
  New w (.cells #[.int .i64 o_Kind, .int .i64 o_A, .int .i64 o_B, .int .i64 o_C, .string o_S, .string o_T] 69) fun p1 w =>
  LdI .i64 w ⟨p1, 0, none⟩ fun Kind_2 =>
  if (Kind_2 == 1) = true then
    S.tower_New w (fun r3 w =>
    S.archm_New w (fun r4 w =>
    LdS w ⟨w_, 0, none⟩ fun x_5 =>
    New w (.cells #[.pointer (some ⟨r3, 0, none⟩)] 30) fun p6 w =>
    AppS 30 [.pointer none] 8 1 w x_5 ⟨some ⟨p6, 0, none⟩, 1, 1⟩ fun l7 w =>
    St1 w ⟨w_, 0, none⟩ (.slice l7.a l7.l l7.c) fun w =>
    LdS w ⟨w_, 1, none⟩ fun m_8 =>
    New w (.cells #[.pointer (some ⟨r4, 0, none⟩)] 28) fun p9 w =>
    AppS 28 [.pointer none] 8 1 w m_8 ⟨some ⟨p9, 0, none⟩, 1, 1⟩ fun l10 w =>
    St1 w ⟨w_, 1, none⟩ (.slice l10.a l10.l l10.c) fun w =>
    K true w))
  else
    if (Kind_2 == 2) = true then
      Drew w fun w =>
      Hold w ⟨w_, 2, none⟩ 1 fun R11 =>
      LdS w ⟨w_, 2, none⟩ fun in_12 =>
      LdStr w ⟨p1, 4, none⟩ fun S_13 =>
      LdStr w ⟨p1, 5, none⟩ fun T_14 =>
      New w (.cells #[.string S_13, .string T_14] 26) fun p15 w =>
      After R11 w <|
      AppS 26 [.string ⟨#[]⟩, .string ⟨#[]⟩] 32 2 w in_12 ⟨some ⟨p15, 0, none⟩, 1, 1⟩ fun l16 w =>
      St1 w ⟨w_, 2, none⟩ (.slice l16.a l16.l l16.c) fun w =>
      K true w
    else
      if (Kind_2 == 3) = true then
        St1 w ⟨w_, 2, none⟩ (.slice none 0 0) fun w =>
        K true w
      else
        if (Kind_2 == 4) = true then
          LdS w ⟨w_, 2, none⟩ fun in_17 =>
          S.towerexact_copyEntries in_17 w (fun r18 w =>
          LdS w ⟨w_, 3, none⟩ fun ls_19 =>
          New w (.cells #[.slice r18.a r18.l r18.c] 24) fun p20 w =>
          AppS 24 [.slice none 0 0] 24 1 w ls_19 ⟨some ⟨p20, 0, none⟩, 1, 1⟩ fun l21 w =>
          St1 w ⟨w_, 3, none⟩ (.slice l21.a l21.l l21.c) fun w =>
          Drew w fun w =>
          Hold w ⟨w_, 4, none⟩ 1 fun R22 =>
          LdS w ⟨w_, 4, none⟩ fun lw_23 =>
          S.towerexact_copyEntries r18 w (fun r24 w =>
          After R22 w <|
          New w (.cells #[.slice r24.a r24.l r24.c] 24) fun p25 w =>
          After R22 w <|
          AppS 24 [.slice none 0 0] 24 1 w lw_23 ⟨some ⟨p25, 0, none⟩, 1, 1⟩ fun l26 w =>
          St1 w ⟨w_, 4, none⟩ (.slice l26.a l26.l l26.c) fun w =>
          K true w))
        else
          if (Kind_2 == 16) = true then
            LdI .i64 w ⟨p1, 1, none⟩ fun A_27 =>
            St1 w ⟨w_, 8, none⟩ (.int .i64 A_27) fun w =>
            LdI .i64 w ⟨p1, 2, none⟩ fun B_28 =>
            St1 w ⟨w_, 9, none⟩ (.int .i64 B_28) fun w =>
            K true w
          else
            if (Kind_2 == 15) = true then
              LdS w ⟨w_, 3, none⟩ fun ls_29 =>
              New w (.cells #[.slice none 0 0] 24) fun p30 w =>
              AppS 24 [.slice none 0 0] 24 1 w ls_29 ⟨some ⟨p30, 0, none⟩, 1, 1⟩ fun l31 w =>
              St1 w ⟨w_, 3, none⟩ (.slice l31.a l31.l l31.c) fun w =>
              LdS w ⟨w_, 4, none⟩ fun lw_32 =>
              New w (.cells #[.slice none 0 0] 24) fun p33 w =>
              AppS 24 [.slice none 0 0] 24 1 w lw_32 ⟨some ⟨p33, 0, none⟩, 1, 1⟩ fun l34 w =>
              St1 w ⟨w_, 4, none⟩ (.slice l34.a l34.l l34.c) fun w =>
              K true w
            else
              if (Kind_2 == 6) = true then
                LdI .i64 w ⟨p1, 1, none⟩ fun A_35 =>
                St1 w ⟨w_, 5, none⟩ (.int .i64 A_35) fun w =>
                LdI .i64 w ⟨p1, 2, none⟩ fun B_36 =>
                St1 w ⟨w_, 6, none⟩ (.int .i64 B_36) fun w =>
                LdI .i64 w ⟨p1, 3, none⟩ fun C_37 =>
                St1 w ⟨w_, 7, none⟩ (.int .i64 C_37) fun w =>
                K true w
              else
                if (Kind_2 == 5) = true then
                  LdS w ⟨w_, 3, none⟩ fun ls_38 =>
                  if (decide ((ls_38.l : Int) > 0)) = true then
                    Drew w fun w =>
                    LdI .i64 w ⟨p1, 1, none⟩ fun A_39 =>
                    LdS w ⟨w_, 3, none⟩ fun ls_40 =>
                    S.towerexact_pick A_39 (ls_40.l : Int) w (fun r41 w =>
                    LdS w ⟨w_, 3, none⟩ fun ls_42 =>
                    Ix ls_42.a ls_42.l r41 fun b43 o44 =>
                    LdS w ⟨b43, o44 + Int.toNat r41 * 1, none⟩ fun x_45 =>
                    if (decide ((x_45.l : Int) > 0)) = true then
                      LdI .i64 w ⟨p1, 2, none⟩ fun B_46 =>
                      S.towerexact_pick B_46 (x_45.l : Int) w (fun r47 w =>
                      LdStr w ⟨p1, 4, none⟩ fun S_48 =>
                      LdStr w ⟨p1, 5, none⟩ fun T_49 =>
                      Ix x_45.a x_45.l r47 fun b50 o51 =>
                      St1 w ⟨b50, o51 + Int.toNat r47 * 2, none⟩ (.string S_48) fun w =>
                      St1 w ⟨b50, o51 + Int.toNat r47 * 2 + 1, none⟩ (.string T_49) fun w =>
                      Drew w fun w =>
                      LdS w ⟨w_, 4, none⟩ fun lw_52 =>
                      Ix lw_52.a lw_52.l r41 fun b53 o54 =>
                      LdS w ⟨b53, o54 + Int.toNat r41 * 1, none⟩ fun x_55 =>
                      LdStr w ⟨p1, 4, none⟩ fun S_56 =>
                      LdStr w ⟨p1, 5, none⟩ fun T_57 =>
                      Ix x_55.a x_55.l r47 fun b58 o59 =>
                      St1 w ⟨b58, o59 + Int.toNat r47 * 2, none⟩ (.string S_56) fun w =>
                      St1 w ⟨b58, o59 + Int.toNat r47 * 2 + 1, none⟩ (.string T_57) fun w =>
                      K true w)
                    else
                      K true w)
                  else
                    K true w
                else
                  if (Kind_2 == 13) = true then
                    LdS w ⟨w_, 11, none⟩ fun is_60 =>
                    if (decide ((is_60.l : Int) > 0)) = true then
                      Join (fun (l_61 : Nat) (w : World) =>
                        LdS w ⟨l_61, 0, none⟩ fun real_62 =>
                        if (decide ((real_62.l : Int) > 0)) = true then
                          LdI .i64 w ⟨p1, 2, none⟩ fun B_63 =>
                          LdS w ⟨l_61, 0, none⟩ fun real_64 =>
                          S.towerexact_pick B_63 (real_64.l : Int) w (fun r65 w =>
                          Drew w fun w =>
                          LdS w ⟨l_61, 0, none⟩ fun real_66 =>
                          LdStr w ⟨p1, 4, none⟩ fun S_67 =>
                          LdI .i64 w ⟨w_, 8, none⟩ fun ra_68 =>
                          LdI .i64 w ⟨w_, 9, none⟩ fun rb_69 =>
                          Ix real_66.a real_66.l r65 fun b70 o71 =>
                          St1 w ⟨b70, o71 + Int.toNat r65 * 3, none⟩ (.string S_67) fun w =>
                          St1 w ⟨b70, o71 + Int.toNat r65 * 3 + 1, none⟩ (.int .i64 ra_68) fun w =>
                          St1 w ⟨b70, o71 + Int.toNat r65 * 3 + 2, none⟩ (.int .i64 rb_69) fun w =>
                          Drew w fun w =>
                          LdS w ⟨l_61, 1, none⟩ fun want_72 =>
                          LdStr w ⟨p1, 4, none⟩ fun S_73 =>
                          LdI .i64 w ⟨w_, 8, none⟩ fun ra_74 =>
                          LdI .i64 w ⟨w_, 9, none⟩ fun rb_75 =>
                          Ix want_72.a want_72.l r65 fun b76 o77 =>
                          St1 w ⟨b76, o77 + Int.toNat r65 * 3, none⟩ (.string S_73) fun w =>
                          St1 w ⟨b76, o77 + Int.toNat r65 * 3 + 1, none⟩ (.int .i64 ra_74) fun w =>
                          St1 w ⟨b76, o77 + Int.toNat r65 * 3 + 2, none⟩ (.int .i64 rb_75) fun w =>
                          K true w)
                        else
                          K true w) fun J78 =>
                      Drew w fun w =>
                      Hold w ⟨w_, 11, none⟩ 1 fun R79 =>
                      LdS w ⟨w_, 11, none⟩ fun is_80 =>
                      Hold w ⟨p1, 1, none⟩ 1 fun R81 =>
                      LdI .i64 w ⟨p1, 1, none⟩ fun A_82 =>
                      Hold w ⟨w_, 11, none⟩ 1 fun R83 =>
                      LdS w ⟨w_, 11, none⟩ fun is_84 =>
                      (S.towerexact_pick A_82 (is_84.l : Int) w (fun r85 w =>
                      After R79 w <|
                      Ix is_80.a is_80.l r85 fun b86 o87 =>
                      Hold w ⟨b86, o87 + Int.toNat r85 * 2, none⟩ 2 fun R88 =>
                      LdS w ⟨b86, o87 + Int.toNat r85 * 2, none⟩ fun real_89 =>
                      LdS w ⟨b86, o87 + Int.toNat r85 * 2 + 1, none⟩ fun want_90 =>
                      New w (.cells #[.slice none 0 0, .slice none 0 0] 126) fun p91 w =>
                      After R88 w <|
                      After R83 w <|
                      After R81 w <|
                      After R79 w <|
                      St1 w ⟨p91, 0, none⟩ (.slice real_89.a real_89.l real_89.c) fun w =>
                      St1 w ⟨p91, 1, none⟩ (.slice want_90.a want_90.l want_90.c) fun w =>
                      J78 p91 w)) ∧
                      (New w (.cells #[.slice none 0 0, .slice none 0 0] 126) fun p92 w =>
                      After R83 w <|
                      After R81 w <|
                      After R79 w <|
                      S.towerexact_pick A_82 (is_84.l : Int) w (fun r93 w =>
                      After R79 w <|
                      Ix is_80.a is_80.l r93 fun b94 o95 =>
                      LdS w ⟨b94, o95 + Int.toNat r93 * 2, none⟩ fun real_96 =>
                      LdS w ⟨b94, o95 + Int.toNat r93 * 2 + 1, none⟩ fun want_97 =>
                      St1 w ⟨p92, 0, none⟩ (.slice real_96.a real_96.l real_96.c) fun w =>
                      St1 w ⟨p92, 1, none⟩ (.slice want_97.a want_97.l want_97.c) fun w =>
                      J78 p92 w))
                    else
                      K true w
                  else
                    K false w
def T.C48 : CallT := (CallT.cons 8 T.c8 (CallT.cons 7 T.c7 (CallT.cons 22 T.c22 (CallT.cons 6 T.c6 CallT.nil))))
def T.A48 : Ann := fun _ => none
set_option maxRecDepth 1000000 in
theorem T.eq48 (w_ : Nat) (o_Kind : Int) (o_A : Int) (o_B : Int) (o_C : Int) (o_S : ByteArray) (o_T : ByteArray) (w : World) (K : Bool → World → Prop) : denF Tryz.prog T.C48 T.A48 Tryz.f48 [.pointer (some ⟨w_, 0, none⟩), .agg #[.int .i64 o_Kind, .int .i64 o_A, .int .i64 o_B, .int .i64 o_C, .string o_S, .string o_T]] w (fun v w' => match v with | .bool r0 => K r0 w' | _ => False) = S.towerexact_World_lists w_ o_Kind o_A o_B o_C o_S o_T w K := by kernel_rfl
theorem T.CO48 : CallOk Tryz.prog T.C48 := (CallOk.cons 8 T.ok8 (CallOk.cons 7 T.ok7 (CallOk.cons 22 T.ok22 (CallOk.cons 6 T.ok6 CallOk.nil))))
def T.c48 (vs : List Value) (w : World) (K : Value → World → Prop) : Prop :=
  match vs with
  | [.pointer (some ⟨w_, 0, none⟩), .agg ⟨[.int .i64 o_Kind, .int .i64 o_A, .int .i64 o_B, .int .i64 o_C, .string o_S, .string o_T]⟩] => S.towerexact_World_lists w_ o_Kind o_A o_B o_C o_S o_T w (fun r0 w' => K (.bool r0) w')
  | _ => False
theorem T.ok48 : ∀ vs w K, T.c48 vs w K → (callFunc 48 vs.toArray).run Tryz.prog w = .ok (.enter 48 vs.toArray) w ∧ Calls Tryz.prog 48 vs.toArray w fun e w' => ∃ v, e = .returned v ∧ K v w' := by
  intro vs w K h
  unfold T.c48 at h
  split at h
  · refine ⟨Tryz.call48 _ _, ok_of T.CO48 mixed Tryz.func48 (T.eq48 _ _ _ _ _ _ _ _ _) h fun v w' hk => ⟨v, rfl, ?_⟩⟩
    split at hk
    · exact hk
    · exact hk.elim
  · exact h.elim

/-- e2e/towerexact.copyInfos (function 76). -/
def S.towerexact_copyInfos (a : Sl) (w : World) (K : Sl → World → Prop) : Prop :=
  MkS 113 [.string ⟨#[]⟩, .int .i64 0, .int .i64 0] 32 w (a.l : Int) (a.l : Int) fun l1 w =>
  CopyS 3 w l1 a fun n2 w =>
  K l1 w
def T.C76 : CallT := CallT.nil
def T.A76 : Ann := fun _ => none
set_option maxRecDepth 1000000 in
theorem T.eq76 (a : Sl) (w : World) (K : Sl → World → Prop) : denF Tryz.prog T.C76 T.A76 Tryz.f76 [.slice a.a a.l a.c] w (fun v w' => match v with | .slice r0a r0l r0c => K ⟨r0a, r0l, r0c⟩ w' | _ => False) = S.towerexact_copyInfos a w K := by kernel_rfl
theorem T.CO76 : CallOk Tryz.prog T.C76 := CallOk.nil
def T.c76 (vs : List Value) (w : World) (K : Value → World → Prop) : Prop :=
  match vs with
  | [.slice aa al ac] => S.towerexact_copyInfos ⟨aa, al, ac⟩ w (fun r0 w' => K (.slice r0.a r0.l r0.c) w')
  | _ => False
theorem T.ok76 : ∀ vs w K, T.c76 vs w K → (callFunc 76 vs.toArray).run Tryz.prog w = .ok (.enter 76 vs.toArray) w ∧ Calls Tryz.prog 76 vs.toArray w fun e w' => ∃ v, e = .returned v ∧ K v w' := by
  intro vs w K h
  unfold T.c76 at h
  split at h
  · refine ⟨Tryz.call76 _ _, ok_of T.CO76 mixed Tryz.func76 (T.eq76 _ _ _) h fun v w' hk => ⟨v, rfl, ?_⟩⟩
    split at hk
    · exact hk
    · exact hk.elim
  · exact h.elim

/-- (*e2e/towerexact.World).keepI (function 49). -/
def S.towerexact_World_keepI (w_ : Nat) (a : Sl) (w : World) (K : World → Prop) : Prop :=
  if (!(Option.isNone a.a)) = true then
    CutS 3 a 0 (a.c : Int) (a.c : Int) fun l1 =>
    Drew w fun w =>
    Hold w ⟨w_, 11, none⟩ 1 fun R2 =>
    LdS w ⟨w_, 11, none⟩ fun is_3 =>
    S.towerexact_copyInfos l1 w (fun r4 w =>
    After R2 w <|
    New w (.cells #[.slice l1.a l1.l l1.c, .slice r4.a r4.l r4.c] 126) fun p5 w =>
    After R2 w <|
    AppS 126 [.slice none 0 0, .slice none 0 0] 48 2 w is_3 ⟨some ⟨p5, 0, none⟩, 1, 1⟩ fun l6 w =>
    St1 w ⟨w_, 11, none⟩ (.slice l6.a l6.l l6.c) fun w =>
    K w)
  else
    K w
def T.C49 : CallT := (CallT.cons 76 T.c76 CallT.nil)
def T.A49 : Ann := fun _ => none
set_option maxRecDepth 1000000 in
theorem T.eq49 (w_ : Nat) (a : Sl) (w : World) (K : World → Prop) : denF Tryz.prog T.C49 T.A49 Tryz.f49 [.pointer (some ⟨w_, 0, none⟩), .slice a.a a.l a.c] w (fun v w' => match v with | .tuple ⟨[]⟩ => K w' | _ => False) = S.towerexact_World_keepI w_ a w K := by kernel_rfl
theorem T.CO49 : CallOk Tryz.prog T.C49 := (CallOk.cons 76 T.ok76 CallOk.nil)
def T.c49 (vs : List Value) (w : World) (K : Value → World → Prop) : Prop :=
  match vs with
  | [.pointer (some ⟨w_, 0, none⟩), .slice aa al ac] => S.towerexact_World_keepI w_ ⟨aa, al, ac⟩ w (fun w' => K (.tuple #[]) w')
  | _ => False

theorem T.ok49 : ∀ vs w K, T.c49 vs w K → (callFunc 49 vs.toArray).run Tryz.prog w = .ok (.enter 49 vs.toArray) w ∧ Calls Tryz.prog 49 vs.toArray w fun e w' => ∃ v, e = .returned v ∧ K v w' := by
  intro vs w K h
  unfold T.c49 at h
  split at h
  · refine ⟨Tryz.call49 _ _, ok_of T.CO49 mixed Tryz.func49 (T.eq49 _ _ _ _) h fun v w' hk => ⟨v, rfl, ?_⟩⟩
    split at hk
    · exact hk
    · exact hk.elim
  · exact h.elim

/-- (*e2e/towerexact.World).keepE (function 50). -/
def S.towerexact_World_keepE (w_ : Nat) (a : Sl) (w : World) (K : World → Prop) : Prop :=
  if (!(Option.isNone a.a)) = true then
    CutS 2 a 0 (a.c : Int) (a.c : Int) fun l1 =>
    LdS w ⟨w_, 3, none⟩ fun ls_2 =>
    New w (.cells #[.slice l1.a l1.l l1.c] 24) fun p3 w =>
    AppS 24 [.slice none 0 0] 24 1 w ls_2 ⟨some ⟨p3, 0, none⟩, 1, 1⟩ fun l4 w =>
    St1 w ⟨w_, 3, none⟩ (.slice l4.a l4.l l4.c) fun w =>
    Drew w fun w =>
    Hold w ⟨w_, 4, none⟩ 1 fun R5 =>
    LdS w ⟨w_, 4, none⟩ fun lw_6 =>
    S.towerexact_copyEntries l1 w (fun r7 w =>
    After R5 w <|
    New w (.cells #[.slice r7.a r7.l r7.c] 24) fun p8 w =>
    After R5 w <|
    AppS 24 [.slice none 0 0] 24 1 w lw_6 ⟨some ⟨p8, 0, none⟩, 1, 1⟩ fun l9 w =>
    St1 w ⟨w_, 4, none⟩ (.slice l9.a l9.l l9.c) fun w =>
    K w)
  else
    K w
def T.C50 : CallT := (CallT.cons 22 T.c22 CallT.nil)
def T.A50 : Ann := fun _ => none
set_option maxRecDepth 1000000 in
theorem T.eq50 (w_ : Nat) (a : Sl) (w : World) (K : World → Prop) : denF Tryz.prog T.C50 T.A50 Tryz.f50 [.pointer (some ⟨w_, 0, none⟩), .slice a.a a.l a.c] w (fun v w' => match v with | .tuple ⟨[]⟩ => K w' | _ => False) = S.towerexact_World_keepE w_ a w K := by kernel_rfl
theorem T.CO50 : CallOk Tryz.prog T.C50 := (CallOk.cons 22 T.ok22 CallOk.nil)
def T.c50 (vs : List Value) (w : World) (K : Value → World → Prop) : Prop :=
  match vs with
  | [.pointer (some ⟨w_, 0, none⟩), .slice aa al ac] => S.towerexact_World_keepE w_ ⟨aa, al, ac⟩ w (fun w' => K (.tuple #[]) w')
  | _ => False

theorem T.ok50 : ∀ vs w K, T.c50 vs w K → (callFunc 50 vs.toArray).run Tryz.prog w = .ok (.enter 50 vs.toArray) w ∧ Calls Tryz.prog 50 vs.toArray w fun e w' => ∃ v, e = .returned v ∧ K v w' := by
  intro vs w K h
  unfold T.c50 at h
  split at h
  · refine ⟨Tryz.call50 _ _, ok_of T.CO50 mixed Tryz.func50 (T.eq50 _ _ _ _) h fun v w' hk => ⟨v, rfl, ?_⟩⟩
    split at hk
    · exact hk
    · exact hk.elim
  · exact h.elim

/-- (*e2e/arch.Archive).Check (function 51). -/
def S.arch_Archive_Check (a : Nat) (w : World) (K : Bool → World → Prop) : Prop :=
  LdP w ⟨a, 0, none⟩ fun k_1 =>
  LdP w ⟨a, 1, none⟩ fun d_2 =>
  LdS w ⟨a, 2, none⟩ fun page_3 =>
  if ((page_3.l : Int) != 1200) = true then
    K false w
  else
    LdS w ⟨a, 6, none⟩ fun gain_4 =>
    if ((gain_4.l : Int) != 256) = true then
      K false w
    else
      LdS w ⟨a, 4, none⟩ fun offs_5 =>
      if ((offs_5.l : Int) != 4) = true then
        K false w
      else
        LdS w ⟨a, 5, none⟩ fun tab_6 =>
        if ((tab_6.l : Int) != 4) = true then
          K false w
        else
          Drew w fun w =>
          LdI .i64 w ⟨a, 3, none⟩ fun fill_7 =>
          if (decide (fill_7 ≥ 0)) = true then
            LdI .i64 w ⟨a, 3, none⟩ fun fill_8 =>
            LdS w ⟨a, 2, none⟩ fun page_9 =>
            K (decide (fill_8 ≤ (page_9.l : Int))) w
          else
            K false w
def T.C51 : CallT := CallT.nil
def T.A51 : Ann := fun _ => none
set_option maxRecDepth 1000000 in
theorem T.eq51 (a : Nat) (w : World) (K : Bool → World → Prop) : denF Tryz.prog T.C51 T.A51 Tryz.f51 [.pointer (some ⟨a, 0, none⟩)] w (fun v w' => match v with | .bool r0 => K r0 w' | _ => False) = S.arch_Archive_Check a w K := by kernel_rfl
theorem T.CO51 : CallOk Tryz.prog T.C51 := CallOk.nil
def T.c51 (vs : List Value) (w : World) (K : Value → World → Prop) : Prop :=
  match vs with
  | [.pointer (some ⟨a, 0, none⟩)] => S.arch_Archive_Check a w (fun r0 w' => K (.bool r0) w')
  | _ => False
theorem T.ok51 : ∀ vs w K, T.c51 vs w K → (callFunc 51 vs.toArray).run Tryz.prog w = .ok (.enter 51 vs.toArray) w ∧ Calls Tryz.prog 51 vs.toArray w fun e w' => ∃ v, e = .returned v ∧ K v w' := by
  intro vs w K h
  unfold T.c51 at h
  split at h
  · refine ⟨Tryz.call51 _ _, ok_of T.CO51 mixed Tryz.func51 (T.eq51 _ _ _) h fun v w' hk => ⟨v, rfl, ?_⟩⟩
    split at hk
    · exact hk
    · exact hk.elim
  · exact h.elim

/-- (*e2e/towerexact.World).step (function 30). -/
def S.towerexact_World_step (w_ : Nat) (o_Kind : Int) (o_A : Int) (o_B : Int) (o_C : Int) (o_S : ByteArray) (o_T : ByteArray) (w : World) (K : Bool → World → Prop) : Prop :=
  New w (.cells #[.int .i64 o_Kind, .int .i64 o_A, .int .i64 o_B, .int .i64 o_C, .string o_S, .string o_T] 69) fun p1 w =>
  LdI .i64 w ⟨p1, 0, none⟩ fun Kind_2 =>
  LdI .i64 w ⟨p1, 1, none⟩ fun A_3 =>
  LdI .i64 w ⟨p1, 2, none⟩ fun B_4 =>
  LdI .i64 w ⟨p1, 3, none⟩ fun C_5 =>
  LdStr w ⟨p1, 4, none⟩ fun S_6 =>
  LdStr w ⟨p1, 5, none⟩ fun T_7 =>
  S.towerexact_World_lists w_ Kind_2 A_3 B_4 C_5 S_6 T_7 w (fun r8 w =>
  if r8 = true then
    K true w
  else
    LdS w ⟨w_, 0, none⟩ fun x_9 =>
    if ((x_9.l : Int) == 0) = true then
      K true w
    else
      Drew w fun w =>
      LdI .i64 w ⟨p1, 1, none⟩ fun A_10 =>
      LdS w ⟨w_, 0, none⟩ fun x_11 =>
      S.towerexact_pick A_10 (x_11.l : Int) w (fun r12 w =>
      LdS w ⟨w_, 0, none⟩ fun x_13 =>
      Ix x_13.a x_13.l r12 fun b14 o15 =>
      LdP w ⟨b14, o15 + Int.toNat r12 * 1, none⟩ fun x_16 =>
      LdS w ⟨w_, 1, none⟩ fun m_17 =>
      Ix m_17.a m_17.l r12 fun b18 o19 =>
      LdP w ⟨b18, o19 + Int.toNat r12 * 1, none⟩ fun x_20 =>
      LdStr w ⟨p1, 4, none⟩ fun S_21 =>
      Join (fun (raw_22 : ByteArray) (w : World) =>
        LdI .i64 w ⟨p1, 0, none⟩ fun Kind_23 =>
        if (Kind_23 == 7) = true then
          LdS w ⟨w_, 3, none⟩ fun ls_24 =>
          if ((ls_24.l : Int) == 0) = true then
            K true w
          else
            Drew w fun w =>
            Hold w ⟨w_, 3, none⟩ 1 fun R25 =>
            LdS w ⟨w_, 3, none⟩ fun ls_26 =>
            LdI .i64 w ⟨p1, 2, none⟩ fun B_27 =>
            LdS w ⟨w_, 3, none⟩ fun ls_28 =>
            S.towerexact_pick B_27 (ls_28.l : Int) w (fun r29 w =>
            After R25 w <|
            Ix ls_26.a ls_26.l r29 fun b30 o31 =>
            LdS w ⟨b30, o31 + Int.toNat r29 * 1, none⟩ fun x_32 =>
            LdI .i64 w ⟨w_, 5, none⟩ fun at_33 =>
            S.towerexact_pick at_33 (W ((x_32.l : Int) + 1)) w (fun r34 w =>
            LdI .i64 w ⟨w_, 6, none⟩ fun n_35 =>
            S.towerexact_pick n_35 (W ((W ((x_32.l : Int) - r34)) + 1)) w (fun r36 w =>
            Drew w fun w =>
            LdI .i64 w ⟨w_, 7, none⟩ fun ex_37 =>
            Hold w ⟨p1, 3, none⟩ 1 fun R38 =>
            LdI .i64 w ⟨p1, 3, none⟩ fun C_39 =>
            S.towerexact_pick ex_37 (W ((W ((W ((x_32.l : Int) - r34)) - r36)) + 1)) w (fun r40 w =>
            After R38 w <|
            S.towerexact_packed x_16 x_20 x_32 r34 r36 r40 C_39 w (fun r41 r42 r43 w =>
            if (!r43) = true then
              K false w
            else
              if r42 = true then
                LdS w ⟨w_, 10, none⟩ fun t_44 =>
                New w (.cells #[.string r41] 9) fun p45 w =>
                AppS 9 [.string ⟨#[]⟩] 16 1 w t_44 ⟨some ⟨p45, 0, none⟩, 1, 1⟩ fun l46 w =>
                St1 w ⟨w_, 10, none⟩ (.slice l46.a l46.l l46.c) fun w =>
                K true w
              else
                K true w)))))
        else
          Join (fun (j_47 : Bool) (w : World) =>
            if j_47 = true then
              S.towerexact_listed x_16 x_20 raw_22 w (fun r48 r49 w =>
              if (!r49) = true then
                K false w
              else
                S.towerexact_World_keepI w_ r48 w (fun w =>
                K true w))
            else
              Join (fun (j_50 : Bool) (w : World) =>
                if j_50 = true then
                  S.towerexact_unpacked x_16 x_20 raw_22 w (fun r51 r52 w =>
                  if (!r52) = true then
                    K false w
                  else
                    S.towerexact_World_keepE w_ r51 w (fun w =>
                    K true w))
                else
                  if (Kind_23 == 14) = true then
                    S.arch_Archive_Check x_16 w (fun r53 w =>
                    K r53 w)
                  else
                    K true w) fun J54 =>
              if (Kind_23 == 9) = true then
                J54 (Kind_23 == 9) w
              else
                J54 (Kind_23 == 10) w) fun J55 =>
          if (Kind_23 == 8) = true then
            J55 (Kind_23 == 8) w
          else
            J55 (Kind_23 == 11) w) fun J56 =>
      Join (fun (w : World) =>
        LdS w ⟨w_, 10, none⟩ fun t_57 =>
        if ((t_57.l : Int) == 0) = true then
          K true w
        else
          Drew w fun w =>
          Hold w ⟨w_, 10, none⟩ 1 fun R58 =>
          LdS w ⟨w_, 10, none⟩ fun t_59 =>
          LdI .i64 w ⟨p1, 2, none⟩ fun B_60 =>
          LdS w ⟨w_, 10, none⟩ fun t_61 =>
          S.towerexact_pick B_60 (t_61.l : Int) w (fun r62 w =>
          After R58 w <|
          Ix t_59.a t_59.l r62 fun b63 o64 =>
          LdStr w ⟨b63, o64 + Int.toNat r62 * 1, none⟩ fun x_65 =>
          J56 x_65 w)) fun J66 =>
      LdI .i64 w ⟨p1, 0, none⟩ fun Kind_67 =>
      if (Kind_67 == 10) = true then
        J66 w
      else
        LdI .i64 w ⟨p1, 0, none⟩ fun Kind_68 =>
        if (Kind_68 == 11) = true then
          J66 w
        else
          J56 S_21 w))
def T.C30 : CallT := (CallT.cons 48 T.c48 (CallT.cons 6 T.c6 (CallT.cons 9 T.c9 (CallT.cons 10 T.c10 (CallT.cons 49 T.c49 (CallT.cons 11 T.c11 (CallT.cons 50 T.c50 (CallT.cons 51 T.c51 CallT.nil))))))))
def T.A30 : Ann := fun _ => none
set_option maxRecDepth 1000000 in
theorem T.eq30 (w_ : Nat) (o_Kind : Int) (o_A : Int) (o_B : Int) (o_C : Int) (o_S : ByteArray) (o_T : ByteArray) (w : World) (K : Bool → World → Prop) : denF Tryz.prog T.C30 T.A30 Tryz.f30 [.pointer (some ⟨w_, 0, none⟩), .agg #[.int .i64 o_Kind, .int .i64 o_A, .int .i64 o_B, .int .i64 o_C, .string o_S, .string o_T]] w (fun v w' => match v with | .bool r0 => K r0 w' | _ => False) = S.towerexact_World_step w_ o_Kind o_A o_B o_C o_S o_T w K := by kernel_rfl
theorem T.CO30 : CallOk Tryz.prog T.C30 := (CallOk.cons 48 T.ok48 (CallOk.cons 6 T.ok6 (CallOk.cons 9 T.ok9 (CallOk.cons 10 T.ok10 (CallOk.cons 49 T.ok49 (CallOk.cons 11 T.ok11 (CallOk.cons 50 T.ok50 (CallOk.cons 51 T.ok51 CallOk.nil))))))))
def T.c30 (vs : List Value) (w : World) (K : Value → World → Prop) : Prop :=
  match vs with
  | [.pointer (some ⟨w_, 0, none⟩), .agg ⟨[.int .i64 o_Kind, .int .i64 o_A, .int .i64 o_B, .int .i64 o_C, .string o_S, .string o_T]⟩] => S.towerexact_World_step w_ o_Kind o_A o_B o_C o_S o_T w (fun r0 w' => K (.bool r0) w')
  | _ => False
theorem T.ok30 : ∀ vs w K, T.c30 vs w K → (callFunc 30 vs.toArray).run Tryz.prog w = .ok (.enter 30 vs.toArray) w ∧ Calls Tryz.prog 30 vs.toArray w fun e w' => ∃ v, e = .returned v ∧ K v w' := by
  intro vs w K h
  unfold T.c30 at h
  split at h
  · refine ⟨Tryz.call30 _ _, ok_of T.CO30 mixed Tryz.func30 (T.eq30 _ _ _ _ _ _ _ _ _) h fun v w' hk => ⟨v, rfl, ?_⟩⟩
    split at hk
    · exact hk
    · exact hk.elim
  · exact h.elim

/-- (*e2e/towerexact.World).looks (function 31). -/
def S.towerexact_World_looks (w_ : Nat) (w : World) (K : Bool → World → Prop) : Prop :=
  Join (fun (w : World) =>
    LoopP (σ := Int × Unit) (fun st1 w next2 =>
      LdS w ⟨w_, 3, none⟩ fun ls_3 =>
      if (decide (st1.1 < (ls_3.l : Int))) = true then
        Drew w fun w =>
        LdS w ⟨w_, 3, none⟩ fun ls_4 =>
        Ix ls_4.a ls_4.l st1.1 fun b5 o6 =>
        LdS w ⟨b5, o6 + Int.toNat st1.1 * 1, none⟩ fun x_7 =>
        LdS w ⟨w_, 4, none⟩ fun lw_8 =>
        Ix lw_8.a lw_8.l st1.1 fun b9 o10 =>
        LdS w ⟨b9, o10 + Int.toNat st1.1 * 1, none⟩ fun x_11 =>
        S.towerexact_sameEntries x_7 x_11 w (fun r12 w =>
        if (!r12) = true then
          K false w
        else
          Let (W (st1.1 + 1)) fun i_13 =>
          next2 (i_13, ()) w)
      else
        K true w) (0, ()) w) fun J14 =>
  LoopP (σ := Int × Unit) (fun st15 w next16 =>
    LdS w ⟨w_, 11, none⟩ fun is_17 =>
    if (decide (st15.1 < (is_17.l : Int))) = true then
      Drew w fun w =>
      LdS w ⟨w_, 11, none⟩ fun is_18 =>
      Ix is_18.a is_18.l st15.1 fun b19 o20 =>
      LdS w ⟨b19, o20 + Int.toNat st15.1 * 2, none⟩ fun real_21 =>
      LdS w ⟨w_, 11, none⟩ fun is_22 =>
      Ix is_22.a is_22.l st15.1 fun b23 o24 =>
      LdS w ⟨b23, o24 + Int.toNat st15.1 * 2 + 1, none⟩ fun want_25 =>
      S.towerexact_sameInfos real_21 want_25 w (fun r26 w =>
      if (!r26) = true then
        K false w
      else
        Let (W (st15.1 + 1)) fun i_27 =>
        next16 (i_27, ()) w)
    else
      J14 w) (0, ()) w
def T.C31 : CallT := (CallT.cons 12 T.c12 (CallT.cons 27 T.c27 CallT.nil))
def T.A31 : Ann := fun i => bif Nat.beq i 2 then some ([0], [(3, 0)]) else bif Nat.beq i 7 then some ([0], [(4, 0)]) else none
set_option maxRecDepth 1000000 in
theorem T.eq31 (w_ : Nat) (w : World) (K : Bool → World → Prop) : denF Tryz.prog T.C31 T.A31 Tryz.f31 [.pointer (some ⟨w_, 0, none⟩)] w (fun v w' => match v with | .bool r0 => K r0 w' | _ => False) = S.towerexact_World_looks w_ w K := by kernel_rfl
theorem T.CO31 : CallOk Tryz.prog T.C31 := (CallOk.cons 12 T.ok12 (CallOk.cons 27 T.ok27 CallOk.nil))
def T.c31 (vs : List Value) (w : World) (K : Value → World → Prop) : Prop :=
  match vs with
  | [.pointer (some ⟨w_, 0, none⟩)] => S.towerexact_World_looks w_ w (fun r0 w' => K (.bool r0) w')
  | _ => False
theorem T.ok31 : ∀ vs w K, T.c31 vs w K → (callFunc 31 vs.toArray).run Tryz.prog w = .ok (.enter 31 vs.toArray) w ∧ Calls Tryz.prog 31 vs.toArray w fun e w' => ∃ v, e = .returned v ∧ K v w' := by
  intro vs w K h
  unfold T.c31 at h
  split at h
  · refine ⟨Tryz.call31 _ _, ok_of T.CO31 mixed Tryz.func31 (T.eq31 _ _ _) h fun v w' hk => ⟨v, rfl, ?_⟩⟩
    split at hk
    · exact hk
    · exact hk.elim
  · exact h.elim

/-- e2e/towerexact.ExactUpTo (function 14). -/
def S.towerexact_ExactUpTo (script : Sl) (w : World) (K : Int → World → Prop) : Prop :=
  New w (.cells #[.slice none 0 0, .slice none 0 0, .slice none 0 0, .slice none 0 0, .slice none 0 0, .int .i64 0, .int .i64 0, .int .i64 0, .int .i64 0, .int .i64 0, .slice none 0 0, .slice none 0 0] 76) fun p1 w =>
  LoopP (σ := Int × Unit) (fun st2 w next3 =>
    if (decide (st2.1 < (script.l : Int))) = true then
      Ix script.a script.l st2.1 fun b4 o5 =>
      LdI .i64 w ⟨b4, o5 + Int.toNat st2.1 * 6, none⟩ fun Kind_6 =>
      LdI .i64 w ⟨b4, o5 + Int.toNat st2.1 * 6 + 1, none⟩ fun A_7 =>
      LdI .i64 w ⟨b4, o5 + Int.toNat st2.1 * 6 + 2, none⟩ fun B_8 =>
      LdI .i64 w ⟨b4, o5 + Int.toNat st2.1 * 6 + 3, none⟩ fun C_9 =>
      LdStr w ⟨b4, o5 + Int.toNat st2.1 * 6 + 4, none⟩ fun S_10 =>
      LdStr w ⟨b4, o5 + Int.toNat st2.1 * 6 + 5, none⟩ fun T_11 =>
      S.towerexact_World_step p1 Kind_6 A_7 B_8 C_9 S_10 T_11 w (fun r12 w =>
      if (!r12) = true then
        K st2.1 w
      else
        S.towerexact_World_looks p1 w (fun r13 w =>
        if (!r13) = true then
          K st2.1 w
        else
          Let (W (st2.1 + 1)) fun i_14 =>
          next3 (i_14, ()) w))
    else
      K (-1) w) (0, ()) w
def T.C14 : CallT := (CallT.cons 30 T.c30 (CallT.cons 31 T.c31 CallT.nil))
def T.A14 : Ann := fun i => bif Nat.beq i 3 then some ([0, 3], [(4, 0)]) else none
set_option maxRecDepth 1000000 in
theorem T.eq14 (script : Sl) (w : World) (K : Int → World → Prop) : denF Tryz.prog T.C14 T.A14 Tryz.f14 [.slice script.a script.l script.c] w (fun v w' => match v with | .int .i64 r0 => K r0 w' | _ => False) = S.towerexact_ExactUpTo script w K := by kernel_rfl
theorem T.CO14 : CallOk Tryz.prog T.C14 := (CallOk.cons 30 T.ok30 (CallOk.cons 31 T.ok31 CallOk.nil))
def T.c14 (vs : List Value) (w : World) (K : Value → World → Prop) : Prop :=
  match vs with
  | [.slice scripta scriptl scriptc] => S.towerexact_ExactUpTo ⟨scripta, scriptl, scriptc⟩ w (fun r0 w' => K (.int .i64 r0) w')
  | _ => False
theorem T.ok14 : ∀ vs w K, T.c14 vs w K → (callFunc 14 vs.toArray).run Tryz.prog w = .ok (.enter 14 vs.toArray) w ∧ Calls Tryz.prog 14 vs.toArray w fun e w' => ∃ v, e = .returned v ∧ K v w' := by
  intro vs w K h
  unfold T.c14 at h
  split at h
  · refine ⟨Tryz.call14 _ _, ok_of T.CO14 mixed Tryz.func14 (T.eq14 _ _ _) h fun v w' hk => ⟨v, rfl, ?_⟩⟩
    split at hk
    · exact hk
    · exact hk.elim
  · exact h.elim

/-- e2e/towerexact.Exact (function 4). -/
def S.towerexact_Exact (script : Sl) (w : World) (K : Bool → World → Prop) : Prop :=
  S.towerexact_small script w (fun r1 w =>
  if (!r1) = true then
    K true w
  else
    S.towerexact_ExactUpTo script w (fun r2 w =>
    K (r2 == (-1)) w))
def T.C4 : CallT := (CallT.cons 13 T.c13 (CallT.cons 14 T.c14 CallT.nil))
def T.A4 : Ann := fun _ => none
set_option maxRecDepth 1000000 in
theorem T.eq4 (script : Sl) (w : World) (K : Bool → World → Prop) : denF Tryz.prog T.C4 T.A4 Tryz.f4 [.slice script.a script.l script.c] w (fun v w' => match v with | .bool r0 => K r0 w' | _ => False) = S.towerexact_Exact script w K := by kernel_rfl
theorem T.CO4 : CallOk Tryz.prog T.C4 := (CallOk.cons 13 T.ok13 (CallOk.cons 14 T.ok14 CallOk.nil))
def T.c4 (vs : List Value) (w : World) (K : Value → World → Prop) : Prop :=
  match vs with
  | [.slice scripta scriptl scriptc] => S.towerexact_Exact ⟨scripta, scriptl, scriptc⟩ w (fun r0 w' => K (.bool r0) w')
  | _ => False
theorem T.ok4 : ∀ vs w K, T.c4 vs w K → (callFunc 4 vs.toArray).run Tryz.prog w = .ok (.enter 4 vs.toArray) w ∧ Calls Tryz.prog 4 vs.toArray w fun e w' => ∃ v, e = .returned v ∧ K v w' := by
  intro vs w K h
  unfold T.c4 at h
  split at h
  · refine ⟨Tryz.call4 _ _, ok_of T.CO4 mixed Tryz.func4 (T.eq4 _ _ _) h fun v w' hk => ⟨v, rfl, ?_⟩⟩
    split at hk
    · exact hk
    · exact hk.elim
  · exact h.elim
end Go.Proofs.Qxb6500563aGreat
