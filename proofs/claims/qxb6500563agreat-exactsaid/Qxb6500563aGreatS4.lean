/-
  MADE BY PROGRAM (my own gen.py) out of the translation: the Go functions as typed texts, each tied to the model by the kernel.
-/
import Derived.Test.Qxb6500563aGreatS3
set_option linter.unusedVariables false
namespace Go.Proofs.Qxb6500563aGreat
open Go.Den

/-- (*e2e/bits.Tape).Pos (function 133). -/
def S.bits_Tape_Pos (t : Nat) (w : World) (K : Int → World → Prop) : Prop :=
  LdI .i64 w ⟨t, 2, none⟩ fun at_1 =>
  K at_1 w
def T.C133 : CallT := CallT.nil
def T.A133 : Ann := fun _ => none
set_option maxRecDepth 1000000 in
theorem T.eq133 (t : Nat) (w : World) (K : Int → World → Prop) : denF Tryz.prog T.C133 T.A133 Tryz.f133 [.pointer (some ⟨t, 0, none⟩)] w (fun v w' => match v with | .int .i64 r0 => K r0 w' | _ => False) = S.bits_Tape_Pos t w K := by kernel_rfl
theorem T.CO133 : CallOk Tryz.prog T.C133 := CallOk.nil
def T.c133 (vs : List Value) (w : World) (K : Value → World → Prop) : Prop :=
  match vs with
  | [.pointer (some ⟨t, 0, none⟩)] => S.bits_Tape_Pos t w (fun r0 w' => K (.int .i64 r0) w')
  | _ => False
theorem T.ok133 : ∀ vs w K, T.c133 vs w K → (callFunc 133 vs.toArray).run Tryz.prog w = .ok (.enter 133 vs.toArray) w ∧ Calls Tryz.prog 133 vs.toArray w fun e w' => ∃ v, e = .returned v ∧ K v w' := by
  intro vs w K h
  unfold T.c133 at h
  split at h
  · refine ⟨Tryz.call133 _ _, ok_of T.CO133 mixed Tryz.func133 (T.eq133 _ _ _) h fun v w' hk => ⟨v, rfl, ?_⟩⟩
    split at hk
    · exact hk
    · exact hk.elim
  · exact h.elim

/-- (*e2e/bits.Tape).Len (function 134). -/
def S.bits_Tape_Len (t : Nat) (w : World) (K : Int → World → Prop) : Prop :=
  LdI .i64 w ⟨t, 1, none⟩ fun n_1 =>
  K n_1 w
def T.C134 : CallT := CallT.nil
def T.A134 : Ann := fun _ => none
set_option maxRecDepth 1000000 in
theorem T.eq134 (t : Nat) (w : World) (K : Int → World → Prop) : denF Tryz.prog T.C134 T.A134 Tryz.f134 [.pointer (some ⟨t, 0, none⟩)] w (fun v w' => match v with | .int .i64 r0 => K r0 w' | _ => False) = S.bits_Tape_Len t w K := by kernel_rfl
theorem T.CO134 : CallOk Tryz.prog T.C134 := CallOk.nil
def T.c134 (vs : List Value) (w : World) (K : Value → World → Prop) : Prop :=
  match vs with
  | [.pointer (some ⟨t, 0, none⟩)] => S.bits_Tape_Len t w (fun r0 w' => K (.int .i64 r0) w')
  | _ => False
theorem T.ok134 : ∀ vs w K, T.c134 vs w K → (callFunc 134 vs.toArray).run Tryz.prog w = .ok (.enter 134 vs.toArray) w ∧ Calls Tryz.prog 134 vs.toArray w fun e w' => ∃ v, e = .returned v ∧ K v w' := by
  intro vs w K h
  unfold T.c134 at h
  split at h
  · refine ⟨Tryz.call134 _ _, ok_of T.CO134 mixed Tryz.func134 (T.eq134 _ _ _) h fun v w' hk => ⟨v, rfl, ?_⟩⟩
    split at hk
    · exact hk
    · exact hk.elim
  · exact h.elim

/-- (*e2e/stream.Decoder).tail (function 101). -/
def S.stream_Decoder_tail (d : Nat) (w : World) (K : Int → World → Prop) : Prop :=
  LdP w ⟨d, 0, none⟩ fun t_1 =>
  S.bits_Tape_Pos t_1 w (fun r2 w =>
  St1 w ⟨d, 6, none⟩ (.int .i64 r2) fun w =>
  LdP w ⟨d, 0, none⟩ fun t_3 =>
  S.bits_Tape_Len t_3 w (fun r4 w =>
  LdI .i64 w ⟨d, 6, none⟩ fun at_5 =>
  if (decide (at_5 < r4)) = true then
    K 11 w
  else
    K 0 w))
def T.C101 : CallT := (CallT.cons 133 T.c133 (CallT.cons 134 T.c134 CallT.nil))
def T.A101 : Ann := fun _ => none
set_option maxRecDepth 1000000 in
theorem T.eq101 (d : Nat) (w : World) (K : Int → World → Prop) : denF Tryz.prog T.C101 T.A101 Tryz.f101 [.pointer (some ⟨d, 0, none⟩)] w (fun v w' => match v with | .int .i64 r0 => K r0 w' | _ => False) = S.stream_Decoder_tail d w K := by kernel_rfl
theorem T.CO101 : CallOk Tryz.prog T.C101 := (CallOk.cons 133 T.ok133 (CallOk.cons 134 T.ok134 CallOk.nil))
def T.c101 (vs : List Value) (w : World) (K : Value → World → Prop) : Prop :=
  match vs with
  | [.pointer (some ⟨d, 0, none⟩)] => S.stream_Decoder_tail d w (fun r0 w' => K (.int .i64 r0) w')
  | _ => False
theorem T.ok101 : ∀ vs w K, T.c101 vs w K → (callFunc 101 vs.toArray).run Tryz.prog w = .ok (.enter 101 vs.toArray) w ∧ Calls Tryz.prog 101 vs.toArray w fun e w' => ∃ v, e = .returned v ∧ K v w' := by
  intro vs w K h
  unfold T.c101 at h
  split at h
  · refine ⟨Tryz.call101 _ _, ok_of T.CO101 mixed Tryz.func101 (T.eq101 _ _ _) h fun v w' hk => ⟨v, rfl, ?_⟩⟩
    split at hk
    · exact hk
    · exact hk.elim
  · exact h.elim

/-- (*e2e/bits.Tape).Peek (function 157). -/
def S.bits_Tape_Peek (t : Nat) (n : Int) (w : World) (K : Int → Int → World → Prop) : Prop :=
  S.bits_inRange n w (fun r1 w =>
  if (!r1) = true then
    K 0 0 w
  else
    Drew w fun w =>
    LdI .i64 w ⟨t, 1, none⟩ fun n_2 =>
    LdI .i64 w ⟨t, 2, none⟩ fun at_3 =>
    Let (W (n_2 - at_3)) fun got_4 =>
    Join (fun (got_5 : Int) (w : World) =>
      LdI .i64 w ⟨t, 2, none⟩ fun at_6 =>
      Let (Shr .i64 at_6 3) fun i_7 =>
      Drew w fun w =>
      LdS w ⟨t, 0, none⟩ fun buf_8 =>
      Ix buf_8.a buf_8.l i_7 fun b9 o10 =>
      LdI .u8 w ⟨b9, o10 + Int.toNat i_7 * 1, none⟩ fun x_11 =>
      LdS w ⟨t, 0, none⟩ fun buf_12 =>
      Ix buf_12.a buf_12.l (W (i_7 + 1)) fun b13 o14 =>
      LdI .u8 w ⟨b13, o14 + Int.toNat (W (i_7 + 1)) * 1, none⟩ fun x_15 =>
      LdS w ⟨t, 0, none⟩ fun buf_16 =>
      Ix buf_16.a buf_16.l (W (i_7 + 2)) fun b17 o18 =>
      LdI .u8 w ⟨b17, o18 + Int.toNat (W (i_7 + 2)) * 1, none⟩ fun x_19 =>
      Let (Or .i64 (Or .i64 (W x_11) (Shl .i64 (W x_15) 8)) (Shl .i64 (W x_19) 16)) fun w_20 =>
      LdI .i64 w ⟨t, 2, none⟩ fun at_21 =>
      Pos (U64 (And .i64 at_21 7)) <|
      Let (Shr .i64 w_20 (U64 (And .i64 at_21 7))) fun w_22 =>
      Pos (U64 got_5) <|
      K (And .i64 w_22 (W ((Shl .i64 1 (U64 got_5)) - 1))) got_5 w) fun J23 =>
    if (decide (got_4 > n)) = true then
      J23 n w
    else
      J23 got_4 w)
def T.C157 : CallT := (CallT.cons 113 T.c113 CallT.nil)
def T.A157 : Ann := fun _ => none
set_option maxRecDepth 1000000 in
theorem T.eq157 (t : Nat) (n : Int) (w : World) (K : Int → Int → World → Prop) : denF Tryz.prog T.C157 T.A157 Tryz.f157 [.pointer (some ⟨t, 0, none⟩), .int .i64 n] w (fun v w' => match v with | .tuple ⟨[.int .i64 r0, .int .i64 r1]⟩ => K r0 r1 w' | _ => False) = S.bits_Tape_Peek t n w K := by kernel_rfl
theorem T.CO157 : CallOk Tryz.prog T.C157 := (CallOk.cons 113 T.ok113 CallOk.nil)
def T.c157 (vs : List Value) (w : World) (K : Value → World → Prop) : Prop :=
  match vs with
  | [.pointer (some ⟨t, 0, none⟩), .int .i64 n] => S.bits_Tape_Peek t n w (fun r0 r1 w' => K (.tuple #[.int .i64 r0, .int .i64 r1]) w')
  | _ => False
theorem T.ok157 : ∀ vs w K, T.c157 vs w K → (callFunc 157 vs.toArray).run Tryz.prog w = .ok (.enter 157 vs.toArray) w ∧ Calls Tryz.prog 157 vs.toArray w fun e w' => ∃ v, e = .returned v ∧ K v w' := by
  intro vs w K h
  unfold T.c157 at h
  split at h
  · refine ⟨Tryz.call157 _ _, ok_of T.CO157 mixed Tryz.func157 (T.eq157 _ _ _ _) h fun v w' hk => ⟨v, rfl, ?_⟩⟩
    split at hk
    · exact hk
    · exact hk.elim
  · exact h.elim

/-- (*e2e/bits.Tape).Take (function 151). -/
def S.bits_Tape_Take (t : Nat) (n : Int) (w : World) (K : Int → Int → World → Prop) : Prop :=
  S.bits_Tape_Peek t n w (fun r1 r2 w =>
  S.bits_inRange n w (fun r3 w =>
  if (!r3) = true then
    K 0 2 w
  else
    if (decide (r2 < n)) = true then
      K 0 4 w
    else
      LdI .i64 w ⟨t, 2, none⟩ fun at_4 =>
      St1 w ⟨t, 2, none⟩ (.int .i64 (W (at_4 + n))) fun w =>
      K r1 0 w))
def T.C151 : CallT := (CallT.cons 157 T.c157 (CallT.cons 113 T.c113 CallT.nil))
def T.A151 : Ann := fun _ => none
set_option maxRecDepth 1000000 in
theorem T.eq151 (t : Nat) (n : Int) (w : World) (K : Int → Int → World → Prop) : denF Tryz.prog T.C151 T.A151 Tryz.f151 [.pointer (some ⟨t, 0, none⟩), .int .i64 n] w (fun v w' => match v with | .tuple ⟨[.int .i64 r0, .int .i64 r1]⟩ => K r0 r1 w' | _ => False) = S.bits_Tape_Take t n w K := by kernel_rfl
theorem T.CO151 : CallOk Tryz.prog T.C151 := (CallOk.cons 157 T.ok157 (CallOk.cons 113 T.ok113 CallOk.nil))
def T.c151 (vs : List Value) (w : World) (K : Value → World → Prop) : Prop :=
  match vs with
  | [.pointer (some ⟨t, 0, none⟩), .int .i64 n] => S.bits_Tape_Take t n w (fun r0 r1 w' => K (.tuple #[.int .i64 r0, .int .i64 r1]) w')
  | _ => False
theorem T.ok151 : ∀ vs w K, T.c151 vs w K → (callFunc 151 vs.toArray).run Tryz.prog w = .ok (.enter 151 vs.toArray) w ∧ Calls Tryz.prog 151 vs.toArray w fun e w' => ∃ v, e = .returned v ∧ K v w' := by
  intro vs w K h
  unfold T.c151 at h
  split at h
  · refine ⟨Tryz.call151 _ _, ok_of T.CO151 mixed Tryz.func151 (T.eq151 _ _ _ _) h fun v w' hk => ⟨v, rfl, ?_⟩⟩
    split at hk
    · exact hk
    · exact hk.elim
  · exact h.elim

/-- (*e2e/stream.Decoder).turnFinal (function 125). -/
def S.stream_Decoder_turnFinal (d : Nat) (w : World) (K : Int → World → Prop) : Prop :=
  LdP w ⟨d, 0, none⟩ fun t_1 =>
  S.bits_Tape_Pos t_1 w (fun r2 w =>
  St1 w ⟨d, 6, none⟩ (.int .i64 r2) fun w =>
  LdP w ⟨d, 0, none⟩ fun t_3 =>
  S.bits_Tape_Take t_3 1 w (fun r4 r5 w =>
  if (r5 != 0) = true then
    K r5 w
  else
    St1 w ⟨d, 5, none⟩ (.int .i64 r4) fun w =>
    St1 w ⟨d, 4, none⟩ (.int .i64 1) fun w =>
    K 0 w))
def T.C125 : CallT := (CallT.cons 133 T.c133 (CallT.cons 151 T.c151 CallT.nil))
def T.A125 : Ann := fun _ => none
set_option maxRecDepth 1000000 in
theorem T.eq125 (d : Nat) (w : World) (K : Int → World → Prop) : denF Tryz.prog T.C125 T.A125 Tryz.f125 [.pointer (some ⟨d, 0, none⟩)] w (fun v w' => match v with | .int .i64 r0 => K r0 w' | _ => False) = S.stream_Decoder_turnFinal d w K := by kernel_rfl
theorem T.CO125 : CallOk Tryz.prog T.C125 := (CallOk.cons 133 T.ok133 (CallOk.cons 151 T.ok151 CallOk.nil))
def T.c125 (vs : List Value) (w : World) (K : Value → World → Prop) : Prop :=
  match vs with
  | [.pointer (some ⟨d, 0, none⟩)] => S.stream_Decoder_turnFinal d w (fun r0 w' => K (.int .i64 r0) w')
  | _ => False
theorem T.ok125 : ∀ vs w K, T.c125 vs w K → (callFunc 125 vs.toArray).run Tryz.prog w = .ok (.enter 125 vs.toArray) w ∧ Calls Tryz.prog 125 vs.toArray w fun e w' => ∃ v, e = .returned v ∧ K v w' := by
  intro vs w K h
  unfold T.c125 at h
  split at h
  · refine ⟨Tryz.call125 _ _, ok_of T.CO125 mixed Tryz.func125 (T.eq125 _ _ _) h fun v w' hk => ⟨v, rfl, ?_⟩⟩
    split at hk
    · exact hk
    · exact hk.elim
  · exact h.elim

/-- (*e2e/bits.Tape).Sync (function 152). -/
def S.bits_Tape_Sync (t : Nat) (w : World) (K : World → Prop) : Prop :=
  LdI .i64 w ⟨t, 2, none⟩ fun at_1 =>
  St1 w ⟨t, 2, none⟩ (.int .i64 (AndNot .i64 (W (at_1 + 7)) 7)) fun w =>
  Drew w fun w =>
  LdI .i64 w ⟨t, 2, none⟩ fun at_2 =>
  LdI .i64 w ⟨t, 1, none⟩ fun n_3 =>
  if (decide (at_2 > n_3)) = true then
    LdI .i64 w ⟨t, 1, none⟩ fun n_4 =>
    St1 w ⟨t, 2, none⟩ (.int .i64 n_4) fun w =>
    K w
  else
    K w
def T.C152 : CallT := CallT.nil
def T.A152 : Ann := fun _ => none
set_option maxRecDepth 1000000 in
theorem T.eq152 (t : Nat) (w : World) (K : World → Prop) : denF Tryz.prog T.C152 T.A152 Tryz.f152 [.pointer (some ⟨t, 0, none⟩)] w (fun v w' => match v with | .tuple ⟨[]⟩ => K w' | _ => False) = S.bits_Tape_Sync t w K := by kernel_rfl
theorem T.CO152 : CallOk Tryz.prog T.C152 := CallOk.nil
def T.c152 (vs : List Value) (w : World) (K : Value → World → Prop) : Prop :=
  match vs with
  | [.pointer (some ⟨t, 0, none⟩)] => S.bits_Tape_Sync t w (fun w' => K (.tuple #[]) w')
  | _ => False

theorem T.ok152 : ∀ vs w K, T.c152 vs w K → (callFunc 152 vs.toArray).run Tryz.prog w = .ok (.enter 152 vs.toArray) w ∧ Calls Tryz.prog 152 vs.toArray w fun e w' => ∃ v, e = .returned v ∧ K v w' := by
  intro vs w K h
  unfold T.c152 at h
  split at h
  · refine ⟨Tryz.call152 _ _, ok_of T.CO152 mixed Tryz.func152 (T.eq152 _ _ _) h fun v w' hk => ⟨v, rfl, ?_⟩⟩
    split at hk
    · exact hk
    · exact hk.elim
  · exact h.elim

/-- (*e2e/stream.Decoder).fixed (function 153). -/
def S.stream_Decoder_fixed (d : Nat) (w : World) (K : World → Prop) : Prop :=
  Join (fun (w : World) =>
    LoopP (σ := Int × Unit) (fun st1 w next2 =>
      if (decide (st1.1 < 8)) = true then
        LdS w ⟨d, 9, none⟩ fun lens_3 =>
        Ix lens_3.a lens_3.l (W (265 + st1.1)) fun b4 o5 =>
        St1 w ⟨b4, o5 + Int.toNat (W (265 + st1.1)) * 1, none⟩ (.int .i64 3) fun w =>
        Let (W (st1.1 + 1)) fun c_6 =>
        next2 (c_6, ()) w
      else
        K w) (0, ()) w) fun J7 =>
  LoopP (σ := Int × Unit) (fun st8 w next9 =>
    if (decide (st8.1 < 265)) = true then
      Drew w fun w =>
      Hold w ⟨d, 9, none⟩ 1 fun R10 =>
      LdS w ⟨d, 9, none⟩ fun lens_11 =>
      S.api_FixedLen st8.1 w (fun r12 w =>
      After R10 w <|
      Ix lens_11.a lens_11.l st8.1 fun b13 o14 =>
      St1 w ⟨b13, o14 + Int.toNat st8.1 * 1, none⟩ (.int .i64 r12) fun w =>
      Let (W (st8.1 + 1)) fun s_15 =>
      next9 (s_15, ()) w)
    else
      J7 w) (0, ()) w
def T.C153 : CallT := (CallT.cons 91 T.c91 CallT.nil)
def T.A153 : Ann := fun i => bif Nat.beq i 1 then some ([0], [(2, 0)]) else bif Nat.beq i 5 then some ([0], [(3, 0)]) else none
set_option maxRecDepth 1000000 in
theorem T.eq153 (d : Nat) (w : World) (K : World → Prop) : denF Tryz.prog T.C153 T.A153 Tryz.f153 [.pointer (some ⟨d, 0, none⟩)] w (fun v w' => match v with | .tuple ⟨[]⟩ => K w' | _ => False) = S.stream_Decoder_fixed d w K := by kernel_rfl
theorem T.CO153 : CallOk Tryz.prog T.C153 := (CallOk.cons 91 T.ok91 CallOk.nil)
def T.c153 (vs : List Value) (w : World) (K : Value → World → Prop) : Prop :=
  match vs with
  | [.pointer (some ⟨d, 0, none⟩)] => S.stream_Decoder_fixed d w (fun w' => K (.tuple #[]) w')
  | _ => False

theorem T.ok153 : ∀ vs w K, T.c153 vs w K → (callFunc 153 vs.toArray).run Tryz.prog w = .ok (.enter 153 vs.toArray) w ∧ Calls Tryz.prog 153 vs.toArray w fun e w' => ∃ v, e = .returned v ∧ K v w' := by
  intro vs w K h
  unfold T.c153 at h
  split at h
  · refine ⟨Tryz.call153 _ _, ok_of T.CO153 mixed Tryz.func153 (T.eq153 _ _ _) h fun v w' hk => ⟨v, rfl, ?_⟩⟩
    split at hk
    · exact hk
    · exact hk.elim
  · exact h.elim

/-- (*e2e/stream.Decoder).sets (function 154). -/
def S.stream_Decoder_sets (d : Nat) (w : World) (K : Int → World → Prop) : Prop :=
  LdI .i64 w ⟨d, 7, none⟩ fun head_1 =>
  St1 w ⟨d, 6, none⟩ (.int .i64 head_1) fun w =>
  St1 w ⟨d, 3, none⟩ (.bool false) fun w =>
  Drew w fun w =>
  LdP w ⟨d, 1, none⟩ fun a_2 =>
  LdS w ⟨d, 9, none⟩ fun lens_3 =>
  CutS 1 lens_3 0 265 (lens_3.c : Int) fun l4 =>
  S.huff_Coder_Build a_2 l4 w (fun r5 w =>
  if (r5 != 0) = true then
    K r5 w
  else
    Drew w fun w =>
    LdP w ⟨d, 2, none⟩ fun b_6 =>
    LdS w ⟨d, 9, none⟩ fun lens_7 =>
    CutS 1 lens_7 265 (lens_7.l : Int) (lens_7.c : Int) fun l8 =>
    S.huff_Coder_Build b_6 l8 w (fun r9 w =>
    if (r9 != 0) = true then
      K r9 w
    else
      LdS w ⟨d, 9, none⟩ fun lens_10 =>
      Ix lens_10.a lens_10.l 256 fun b11 o12 =>
      LdI .i64 w ⟨b11, o12 + Int.toNat 256 * 1, none⟩ fun x_13 =>
      if (x_13 == 0) = true then
        K 8 w
      else
        St1 w ⟨d, 4, none⟩ (.int .i64 5) fun w =>
        K 0 w))
def T.C154 : CallT := (CallT.cons 116 T.c116 CallT.nil)
def T.A154 : Ann := fun _ => none
set_option maxRecDepth 1000000 in
theorem T.eq154 (d : Nat) (w : World) (K : Int → World → Prop) : denF Tryz.prog T.C154 T.A154 Tryz.f154 [.pointer (some ⟨d, 0, none⟩)] w (fun v w' => match v with | .int .i64 r0 => K r0 w' | _ => False) = S.stream_Decoder_sets d w K := by kernel_rfl
theorem T.CO154 : CallOk Tryz.prog T.C154 := (CallOk.cons 116 T.ok116 CallOk.nil)
def T.c154 (vs : List Value) (w : World) (K : Value → World → Prop) : Prop :=
  match vs with
  | [.pointer (some ⟨d, 0, none⟩)] => S.stream_Decoder_sets d w (fun r0 w' => K (.int .i64 r0) w')
  | _ => False
theorem T.ok154 : ∀ vs w K, T.c154 vs w K → (callFunc 154 vs.toArray).run Tryz.prog w = .ok (.enter 154 vs.toArray) w ∧ Calls Tryz.prog 154 vs.toArray w fun e w' => ∃ v, e = .returned v ∧ K v w' := by
  intro vs w K h
  unfold T.c154 at h
  split at h
  · refine ⟨Tryz.call154 _ _, ok_of T.CO154 mixed Tryz.func154 (T.eq154 _ _ _) h fun v w' hk => ⟨v, rfl, ?_⟩⟩
    split at hk
    · exact hk
    · exact hk.elim
  · exact h.elim

/-- (*e2e/stream.Decoder).turnKind (function 126). -/
def S.stream_Decoder_turnKind (d : Nat) (w : World) (K : Int → World → Prop) : Prop :=
  LdP w ⟨d, 0, none⟩ fun t_1 =>
  S.bits_Tape_Pos t_1 w (fun r2 w =>
  St1 w ⟨d, 6, none⟩ (.int .i64 r2) fun w =>
  LdP w ⟨d, 0, none⟩ fun t_3 =>
  S.bits_Tape_Take t_3 2 w (fun r4 r5 w =>
  if (r5 != 0) = true then
    K r5 w
  else
    LdI .i64 w ⟨d, 6, none⟩ fun at_6 =>
    St1 w ⟨d, 7, none⟩ (.int .i64 (W (at_6 + 2))) fun w =>
    if (r4 == 0) = true then
      LdP w ⟨d, 0, none⟩ fun t_7 =>
      S.bits_Tape_Sync t_7 w (fun w =>
      St1 w ⟨d, 4, none⟩ (.int .i64 2) fun w =>
      K 0 w)
    else
      if (r4 == 1) = true then
        LdB w ⟨d, 3, none⟩ fun held_8 =>
        if held_8 = true then
          St1 w ⟨d, 4, none⟩ (.int .i64 5) fun w =>
          K 0 w
        else
          S.stream_Decoder_fixed d w (fun w =>
          S.stream_Decoder_sets d w (fun r9 w =>
          St1 w ⟨d, 3, none⟩ (.bool (r9 == 0)) fun w =>
          K r9 w))
      else
        if (r4 == 2) = true then
          St1 w ⟨d, 10, none⟩ (.int .i64 0) fun w =>
          St1 w ⟨d, 4, none⟩ (.int .i64 4) fun w =>
          K 0 w
        else
          K 5 w))
def T.C126 : CallT := (CallT.cons 133 T.c133 (CallT.cons 151 T.c151 (CallT.cons 152 T.c152 (CallT.cons 153 T.c153 (CallT.cons 154 T.c154 CallT.nil)))))
def T.A126 : Ann := fun _ => none
set_option maxRecDepth 1000000 in
theorem T.eq126 (d : Nat) (w : World) (K : Int → World → Prop) : denF Tryz.prog T.C126 T.A126 Tryz.f126 [.pointer (some ⟨d, 0, none⟩)] w (fun v w' => match v with | .int .i64 r0 => K r0 w' | _ => False) = S.stream_Decoder_turnKind d w K := by kernel_rfl
theorem T.CO126 : CallOk Tryz.prog T.C126 := (CallOk.cons 133 T.ok133 (CallOk.cons 151 T.ok151 (CallOk.cons 152 T.ok152 (CallOk.cons 153 T.ok153 (CallOk.cons 154 T.ok154 CallOk.nil)))))
def T.c126 (vs : List Value) (w : World) (K : Value → World → Prop) : Prop :=
  match vs with
  | [.pointer (some ⟨d, 0, none⟩)] => S.stream_Decoder_turnKind d w (fun r0 w' => K (.int .i64 r0) w')
  | _ => False
theorem T.ok126 : ∀ vs w K, T.c126 vs w K → (callFunc 126 vs.toArray).run Tryz.prog w = .ok (.enter 126 vs.toArray) w ∧ Calls Tryz.prog 126 vs.toArray w fun e w' => ∃ v, e = .returned v ∧ K v w' := by
  intro vs w K h
  unfold T.c126 at h
  split at h
  · refine ⟨Tryz.call126 _ _, ok_of T.CO126 mixed Tryz.func126 (T.eq126 _ _ _) h fun v w' hk => ⟨v, rfl, ?_⟩⟩
    split at hk
    · exact hk
    · exact hk.elim
  · exact h.elim

/-- (*e2e/stream.Decoder).shut (function 155). -/
def S.stream_Decoder_shut (d : Nat) (w : World) (K : World → Prop) : Prop :=
  LdI .i64 w ⟨d, 5, none⟩ fun final_1 =>
  if (final_1 == 0) = true then
    St1 w ⟨d, 4, none⟩ (.int .i64 0) fun w =>
    K w
  else
    LdP w ⟨d, 0, none⟩ fun t_2 =>
    S.bits_Tape_Sync t_2 w (fun w =>
    St1 w ⟨d, 4, none⟩ (.int .i64 8) fun w =>
    K w)
def T.C155 : CallT := (CallT.cons 152 T.c152 CallT.nil)
def T.A155 : Ann := fun _ => none
set_option maxRecDepth 1000000 in
theorem T.eq155 (d : Nat) (w : World) (K : World → Prop) : denF Tryz.prog T.C155 T.A155 Tryz.f155 [.pointer (some ⟨d, 0, none⟩)] w (fun v w' => match v with | .tuple ⟨[]⟩ => K w' | _ => False) = S.stream_Decoder_shut d w K := by kernel_rfl
theorem T.CO155 : CallOk Tryz.prog T.C155 := (CallOk.cons 152 T.ok152 CallOk.nil)
def T.c155 (vs : List Value) (w : World) (K : Value → World → Prop) : Prop :=
  match vs with
  | [.pointer (some ⟨d, 0, none⟩)] => S.stream_Decoder_shut d w (fun w' => K (.tuple #[]) w')
  | _ => False

theorem T.ok155 : ∀ vs w K, T.c155 vs w K → (callFunc 155 vs.toArray).run Tryz.prog w = .ok (.enter 155 vs.toArray) w ∧ Calls Tryz.prog 155 vs.toArray w fun e w' => ∃ v, e = .returned v ∧ K v w' := by
  intro vs w K h
  unfold T.c155 at h
  split at h
  · refine ⟨Tryz.call155 _ _, ok_of T.CO155 mixed Tryz.func155 (T.eq155 _ _ _) h fun v w' hk => ⟨v, rfl, ?_⟩⟩
    split at hk
    · exact hk
    · exact hk.elim
  · exact h.elim

/-- (*e2e/stream.Decoder).turnSize (function 127). -/
def S.stream_Decoder_turnSize (d : Nat) (w : World) (K : Int → World → Prop) : Prop :=
  LdP w ⟨d, 0, none⟩ fun t_1 =>
  S.bits_Tape_Pos t_1 w (fun r2 w =>
  St1 w ⟨d, 6, none⟩ (.int .i64 r2) fun w =>
  LdP w ⟨d, 0, none⟩ fun t_3 =>
  S.bits_Tape_Take t_3 16 w (fun r4 r5 w =>
  if (r5 != 0) = true then
    K r5 w
  else
    St1 w ⟨d, 8, none⟩ (.int .i64 r4) fun w =>
    St1 w ⟨d, 4, none⟩ (.int .i64 3) fun w =>
    if (r4 == 0) = true then
      S.stream_Decoder_shut d w (fun w =>
      K 0 w)
    else
      K 0 w))
def T.C127 : CallT := (CallT.cons 133 T.c133 (CallT.cons 151 T.c151 (CallT.cons 155 T.c155 CallT.nil)))
def T.A127 : Ann := fun _ => none
set_option maxRecDepth 1000000 in
theorem T.eq127 (d : Nat) (w : World) (K : Int → World → Prop) : denF Tryz.prog T.C127 T.A127 Tryz.f127 [.pointer (some ⟨d, 0, none⟩)] w (fun v w' => match v with | .int .i64 r0 => K r0 w' | _ => False) = S.stream_Decoder_turnSize d w K := by kernel_rfl
theorem T.CO127 : CallOk Tryz.prog T.C127 := (CallOk.cons 133 T.ok133 (CallOk.cons 151 T.ok151 (CallOk.cons 155 T.ok155 CallOk.nil)))
def T.c127 (vs : List Value) (w : World) (K : Value → World → Prop) : Prop :=
  match vs with
  | [.pointer (some ⟨d, 0, none⟩)] => S.stream_Decoder_turnSize d w (fun r0 w' => K (.int .i64 r0) w')
  | _ => False
theorem T.ok127 : ∀ vs w K, T.c127 vs w K → (callFunc 127 vs.toArray).run Tryz.prog w = .ok (.enter 127 vs.toArray) w ∧ Calls Tryz.prog 127 vs.toArray w fun e w' => ∃ v, e = .returned v ∧ K v w' := by
  intro vs w K h
  unfold T.c127 at h
  split at h
  · refine ⟨Tryz.call127 _ _, ok_of T.CO127 mixed Tryz.func127 (T.eq127 _ _ _) h fun v w' hk => ⟨v, rfl, ?_⟩⟩
    split at hk
    · exact hk
    · exact hk.elim
  · exact h.elim

/-- (*e2e/stream.Decoder).give (function 156). -/
def S.stream_Decoder_give (d : Nat) (c : Int) (w : World) (K : World → Prop) : Prop :=
  Drew w fun w =>
  LdS w ⟨d, 17, none⟩ fun buf_1 =>
  LdI .i64 w ⟨d, 18, none⟩ fun n_2 =>
  Ix buf_1.a buf_1.l n_2 fun b3 o4 =>
  St1 w ⟨b3, o4 + Int.toNat n_2 * 1, none⟩ (.int .u8 c) fun w =>
  LdI .i64 w ⟨d, 18, none⟩ fun n_5 =>
  St1 w ⟨d, 18, none⟩ (.int .i64 (W (n_5 + 1))) fun w =>
  Drew w fun w =>
  LdS w ⟨d, 14, none⟩ fun ring_6 =>
  LdI .i64 w ⟨d, 15, none⟩ fun w_7 =>
  Ix ring_6.a ring_6.l w_7 fun b8 o9 =>
  St1 w ⟨b8, o9 + Int.toNat w_7 * 1, none⟩ (.int .u8 c) fun w =>
  LdI .i64 w ⟨d, 15, none⟩ fun w_10 =>
  St1 w ⟨d, 15, none⟩ (.int .i64 (W (w_10 + 1))) fun w =>
  LdI .i64 w ⟨d, 15, none⟩ fun w_11 =>
  Join (fun (w : World) =>
    LdI .i64 w ⟨d, 16, none⟩ fun fill_12 =>
    Join (fun (w : World) =>
      LdI .i64 w ⟨d, 19, none⟩ fun total_13 =>
      St1 w ⟨d, 19, none⟩ (.int .i64 (W (total_13 + 1))) fun w =>
      K w) fun J14 =>
    if (decide (fill_12 < 16)) = true then
      LdI .i64 w ⟨d, 16, none⟩ fun fill_15 =>
      St1 w ⟨d, 16, none⟩ (.int .i64 (W (fill_15 + 1))) fun w =>
      J14 w
    else
      J14 w) fun J16 =>
  if (w_11 == 16) = true then
    St1 w ⟨d, 15, none⟩ (.int .i64 0) fun w =>
    J16 w
  else
    J16 w
def T.C156 : CallT := CallT.nil
def T.A156 : Ann := fun _ => none
set_option maxRecDepth 1000000 in
theorem T.eq156 (d : Nat) (c : Int) (w : World) (K : World → Prop) : denF Tryz.prog T.C156 T.A156 Tryz.f156 [.pointer (some ⟨d, 0, none⟩), .int .u8 c] w (fun v w' => match v with | .tuple ⟨[]⟩ => K w' | _ => False) = S.stream_Decoder_give d c w K := by kernel_rfl
theorem T.CO156 : CallOk Tryz.prog T.C156 := CallOk.nil
def T.c156 (vs : List Value) (w : World) (K : Value → World → Prop) : Prop :=
  match vs with
  | [.pointer (some ⟨d, 0, none⟩), .int .u8 c] => S.stream_Decoder_give d c w (fun w' => K (.tuple #[]) w')
  | _ => False

theorem T.ok156 : ∀ vs w K, T.c156 vs w K → (callFunc 156 vs.toArray).run Tryz.prog w = .ok (.enter 156 vs.toArray) w ∧ Calls Tryz.prog 156 vs.toArray w fun e w' => ∃ v, e = .returned v ∧ K v w' := by
  intro vs w K h
  unfold T.c156 at h
  split at h
  · refine ⟨Tryz.call156 _ _, ok_of T.CO156 mixed Tryz.func156 (T.eq156 _ _ _ _) h fun v w' hk => ⟨v, rfl, ?_⟩⟩
    split at hk
    · exact hk
    · exact hk.elim
  · exact h.elim

/-- (*e2e/stream.Decoder).turnByte (function 128). -/
def S.stream_Decoder_turnByte (d : Nat) (w : World) (K : Int → World → Prop) : Prop :=
  LdP w ⟨d, 0, none⟩ fun t_1 =>
  S.bits_Tape_Pos t_1 w (fun r2 w =>
  St1 w ⟨d, 6, none⟩ (.int .i64 r2) fun w =>
  LdP w ⟨d, 0, none⟩ fun t_3 =>
  S.bits_Tape_Take t_3 8 w (fun r4 r5 w =>
  if (r5 != 0) = true then
    K r5 w
  else
    LdI .i64 w ⟨d, 19, none⟩ fun total_6 =>
    if (decide (total_6 ≥ 256)) = true then
      K 10 w
    else
      S.stream_Decoder_give d (U8 r4) w (fun w =>
      LdI .i64 w ⟨d, 8, none⟩ fun due_7 =>
      St1 w ⟨d, 8, none⟩ (.int .i64 (W (due_7 - 1))) fun w =>
      LdI .i64 w ⟨d, 8, none⟩ fun due_8 =>
      if (due_8 == 0) = true then
        S.stream_Decoder_shut d w (fun w =>
        K 0 w)
      else
        K 0 w)))
def T.C128 : CallT := (CallT.cons 133 T.c133 (CallT.cons 151 T.c151 (CallT.cons 156 T.c156 (CallT.cons 155 T.c155 CallT.nil))))
def T.A128 : Ann := fun _ => none
set_option maxRecDepth 1000000 in
theorem T.eq128 (d : Nat) (w : World) (K : Int → World → Prop) : denF Tryz.prog T.C128 T.A128 Tryz.f128 [.pointer (some ⟨d, 0, none⟩)] w (fun v w' => match v with | .int .i64 r0 => K r0 w' | _ => False) = S.stream_Decoder_turnByte d w K := by kernel_rfl
theorem T.CO128 : CallOk Tryz.prog T.C128 := (CallOk.cons 133 T.ok133 (CallOk.cons 151 T.ok151 (CallOk.cons 156 T.ok156 (CallOk.cons 155 T.ok155 CallOk.nil))))
def T.c128 (vs : List Value) (w : World) (K : Value → World → Prop) : Prop :=
  match vs with
  | [.pointer (some ⟨d, 0, none⟩)] => S.stream_Decoder_turnByte d w (fun r0 w' => K (.int .i64 r0) w')
  | _ => False
theorem T.ok128 : ∀ vs w K, T.c128 vs w K → (callFunc 128 vs.toArray).run Tryz.prog w = .ok (.enter 128 vs.toArray) w ∧ Calls Tryz.prog 128 vs.toArray w fun e w' => ∃ v, e = .returned v ∧ K v w' := by
  intro vs w K h
  unfold T.c128 at h
  split at h
  · refine ⟨Tryz.call128 _ _, ok_of T.CO128 mixed Tryz.func128 (T.eq128 _ _ _) h fun v w' hk => ⟨v, rfl, ?_⟩⟩
    split at hk
    · exact hk
    · exact hk.elim
  · exact h.elim

/-- (*e2e/bits.Tape).Skip (function 158). -/
def S.bits_Tape_Skip (t : Nat) (n : Int) (w : World) (K : Int → World → Prop) : Prop :=
  S.bits_inRange n w (fun r1 w =>
  if (!r1) = true then
    K 2 w
  else
    Drew w fun w =>
    LdI .i64 w ⟨t, 1, none⟩ fun n_2 =>
    LdI .i64 w ⟨t, 2, none⟩ fun at_3 =>
    if (decide (n > (W (n_2 - at_3)))) = true then
      K 4 w
    else
      LdI .i64 w ⟨t, 2, none⟩ fun at_4 =>
      St1 w ⟨t, 2, none⟩ (.int .i64 (W (at_4 + n))) fun w =>
      K 0 w)
def T.C158 : CallT := (CallT.cons 113 T.c113 CallT.nil)
def T.A158 : Ann := fun _ => none
set_option maxRecDepth 1000000 in
theorem T.eq158 (t : Nat) (n : Int) (w : World) (K : Int → World → Prop) : denF Tryz.prog T.C158 T.A158 Tryz.f158 [.pointer (some ⟨t, 0, none⟩), .int .i64 n] w (fun v w' => match v with | .int .i64 r0 => K r0 w' | _ => False) = S.bits_Tape_Skip t n w K := by kernel_rfl
theorem T.CO158 : CallOk Tryz.prog T.C158 := (CallOk.cons 113 T.ok113 CallOk.nil)
def T.c158 (vs : List Value) (w : World) (K : Value → World → Prop) : Prop :=
  match vs with
  | [.pointer (some ⟨t, 0, none⟩), .int .i64 n] => S.bits_Tape_Skip t n w (fun r0 w' => K (.int .i64 r0) w')
  | _ => False
theorem T.ok158 : ∀ vs w K, T.c158 vs w K → (callFunc 158 vs.toArray).run Tryz.prog w = .ok (.enter 158 vs.toArray) w ∧ Calls Tryz.prog 158 vs.toArray w fun e w' => ∃ v, e = .returned v ∧ K v w' := by
  intro vs w K h
  unfold T.c158 at h
  split at h
  · refine ⟨Tryz.call158 _ _, ok_of T.CO158 mixed Tryz.func158 (T.eq158 _ _ _ _) h fun v w' hk => ⟨v, rfl, ?_⟩⟩
    split at hk
    · exact hk
    · exact hk.elim
  · exact h.elim

/-- (*e2e/stream.Decoder).listEnd (function 159). -/
def S.stream_Decoder_listEnd (d : Nat) (w : World) (K : Int → World → Prop) : Prop :=
  Drew w fun w =>
  LdI .i64 w ⟨d, 10, none⟩ fun idx_1 =>
  LdS w ⟨d, 9, none⟩ fun lens_2 =>
  if (decide (idx_1 < (lens_2.l : Int))) = true then
    K 0 w
  else
    S.stream_Decoder_sets d w (fun r3 w =>
    K r3 w)
def T.C159 : CallT := (CallT.cons 154 T.c154 CallT.nil)
def T.A159 : Ann := fun _ => none
set_option maxRecDepth 1000000 in
theorem T.eq159 (d : Nat) (w : World) (K : Int → World → Prop) : denF Tryz.prog T.C159 T.A159 Tryz.f159 [.pointer (some ⟨d, 0, none⟩)] w (fun v w' => match v with | .int .i64 r0 => K r0 w' | _ => False) = S.stream_Decoder_listEnd d w K := by kernel_rfl
theorem T.CO159 : CallOk Tryz.prog T.C159 := (CallOk.cons 154 T.ok154 CallOk.nil)
def T.c159 (vs : List Value) (w : World) (K : Value → World → Prop) : Prop :=
  match vs with
  | [.pointer (some ⟨d, 0, none⟩)] => S.stream_Decoder_listEnd d w (fun r0 w' => K (.int .i64 r0) w')
  | _ => False
theorem T.ok159 : ∀ vs w K, T.c159 vs w K → (callFunc 159 vs.toArray).run Tryz.prog w = .ok (.enter 159 vs.toArray) w ∧ Calls Tryz.prog 159 vs.toArray w fun e w' => ∃ v, e = .returned v ∧ K v w' := by
  intro vs w K h
  unfold T.c159 at h
  split at h
  · refine ⟨Tryz.call159 _ _, ok_of T.CO159 mixed Tryz.func159 (T.eq159 _ _ _) h fun v w' hk => ⟨v, rfl, ?_⟩⟩
    split at hk
    · exact hk
    · exact hk.elim
  · exact h.elim

/-- (*e2e/stream.Decoder).turnList (function 129). -/
def S.stream_Decoder_turnList (d : Nat) (w : World) (K : Int → World → Prop) : Prop :=
  LdP w ⟨d, 0, none⟩ fun t_1 =>
  S.bits_Tape_Pos t_1 w (fun r2 w =>
  St1 w ⟨d, 6, none⟩ (.int .i64 r2) fun w =>
  LdP w ⟨d, 0, none⟩ fun t_3 =>
  S.bits_Tape_Peek t_3 11 w (fun r4 r5 w =>
  if (decide (r5 < 4)) = true then
    K 4 w
  else
    Let (And .i64 r4 15) fun item_6 =>
    if (decide (item_6 ≤ 10)) = true then
      LdP w ⟨d, 0, none⟩ fun t_7 =>
      S.bits_Tape_Skip t_7 4 w (fun r8 w =>
      Drew w fun w =>
      LdS w ⟨d, 9, none⟩ fun lens_9 =>
      LdI .i64 w ⟨d, 10, none⟩ fun idx_10 =>
      Ix lens_9.a lens_9.l idx_10 fun b11 o12 =>
      St1 w ⟨b11, o12 + Int.toNat idx_10 * 1, none⟩ (.int .i64 item_6) fun w =>
      LdI .i64 w ⟨d, 10, none⟩ fun idx_13 =>
      St1 w ⟨d, 10, none⟩ (.int .i64 (W (idx_13 + 1))) fun w =>
      S.stream_Decoder_listEnd d w (fun r14 w =>
      K r14 w))
    else
      if (decide (item_6 > 12)) = true then
        K 8 w
      else
        Join (fun (wide_15 : Int) (w : World) =>
          if (decide (r5 < (W (4 + wide_15)))) = true then
            K 4 w
          else
            Pos (U64 wide_15) <|
            Let (W (3 + (And .i64 (Shr .i64 r4 4) (W ((Shl .i64 1 (U64 wide_15)) - 1))))) fun times_16 =>
            Join (fun (val_17 : Int) (w : World) =>
              Drew w fun w =>
              LdS w ⟨d, 9, none⟩ fun lens_18 =>
              LdI .i64 w ⟨d, 10, none⟩ fun idx_19 =>
              if (decide (times_16 > (W ((lens_18.l : Int) - idx_19)))) = true then
                K 8 w
              else
                LdP w ⟨d, 0, none⟩ fun t_20 =>
                S.bits_Tape_Skip t_20 (W (4 + wide_15)) w (fun r21 w =>
                Join (fun (w : World) =>
                  S.stream_Decoder_listEnd d w (fun r22 w =>
                  K r22 w)) fun J23 =>
                LoopP (σ := Int × Unit) (fun st24 w next25 =>
                  if (decide (st24.1 < times_16)) = true then
                    Drew w fun w =>
                    LdS w ⟨d, 9, none⟩ fun lens_26 =>
                    LdI .i64 w ⟨d, 10, none⟩ fun idx_27 =>
                    Ix lens_26.a lens_26.l idx_27 fun b28 o29 =>
                    St1 w ⟨b28, o29 + Int.toNat idx_27 * 1, none⟩ (.int .i64 val_17) fun w =>
                    LdI .i64 w ⟨d, 10, none⟩ fun idx_30 =>
                    St1 w ⟨d, 10, none⟩ (.int .i64 (W (idx_30 + 1))) fun w =>
                    Let (W (st24.1 + 1)) fun k_31 =>
                    next25 (k_31, ()) w
                  else
                    J23 w) (0, ()) w)) fun J32 =>
            if (item_6 == 12) = true then
              LdI .i64 w ⟨d, 10, none⟩ fun idx_33 =>
              if (idx_33 == 0) = true then
                K 8 w
              else
                Drew w fun w =>
                LdS w ⟨d, 9, none⟩ fun lens_34 =>
                LdI .i64 w ⟨d, 10, none⟩ fun idx_35 =>
                Ix lens_34.a lens_34.l (W (idx_35 - 1)) fun b36 o37 =>
                LdI .i64 w ⟨b36, o37 + Int.toNat (W (idx_35 - 1)) * 1, none⟩ fun x_38 =>
                J32 x_38 w
            else
              J32 0 w) fun J39 =>
        if (item_6 == 12) = true then
          J39 2 w
        else
          J39 7 w))
def T.C129 : CallT := (CallT.cons 133 T.c133 (CallT.cons 157 T.c157 (CallT.cons 158 T.c158 (CallT.cons 159 T.c159 CallT.nil))))
def T.A129 : Ann := fun i => bif Nat.beq i 28 then some ([0, 7, 8], [(9, 0)]) else none
set_option maxRecDepth 1000000 in
theorem T.eq129 (d : Nat) (w : World) (K : Int → World → Prop) : denF Tryz.prog T.C129 T.A129 Tryz.f129 [.pointer (some ⟨d, 0, none⟩)] w (fun v w' => match v with | .int .i64 r0 => K r0 w' | _ => False) = S.stream_Decoder_turnList d w K := by kernel_rfl
theorem T.CO129 : CallOk Tryz.prog T.C129 := (CallOk.cons 133 T.ok133 (CallOk.cons 157 T.ok157 (CallOk.cons 158 T.ok158 (CallOk.cons 159 T.ok159 CallOk.nil))))
def T.c129 (vs : List Value) (w : World) (K : Value → World → Prop) : Prop :=
  match vs with
  | [.pointer (some ⟨d, 0, none⟩)] => S.stream_Decoder_turnList d w (fun r0 w' => K (.int .i64 r0) w')
  | _ => False
theorem T.ok129 : ∀ vs w K, T.c129 vs w K → (callFunc 129 vs.toArray).run Tryz.prog w = .ok (.enter 129 vs.toArray) w ∧ Calls Tryz.prog 129 vs.toArray w fun e w' => ∃ v, e = .returned v ∧ K v w' := by
  intro vs w K h
  unfold T.c129 at h
  split at h
  · refine ⟨Tryz.call129 _ _, ok_of T.CO129 mixed Tryz.func129 (T.eq129 _ _ _) h fun v w' hk => ⟨v, rfl, ?_⟩⟩
    split at hk
    · exact hk
    · exact hk.elim
  · exact h.elim

/-- (*e2e/huff.Coder).Find (function 160). -/
def S.huff_Coder_Find (c : Nat) (ahead : Int) (have_ : Int) (w : World) (K : Int → Int → Int → World → Prop) : Prop :=
  Join (fun (w : World) =>
    K 0 0 2 w) fun J1 =>
  if (decide (have_ < 0)) = true then
    J1 w
  else
    if (decide (have_ > 16)) = true then
      J1 w
    else
      if (decide (ahead < 0)) = true then
        J1 w
      else
        Pos (U64 have_) <|
        if ((Shr .i64 ahead (U64 have_)) != 0) = true then
          J1 w
        else
          LdS w ⟨c, 3, none⟩ fun root_2 =>
          Ix root_2.a root_2.l (And .i64 ahead 63) fun b3 o4 =>
          LdI .i64 w ⟨b3, o4 + Int.toNat (And .i64 ahead 63) * 1, none⟩ fun x_5 =>
          Join (fun (cell_6 : Int) (w : World) =>
            if (cell_6 == 0) = true then
              K 0 0 8 w
            else
              Let (And .i64 cell_6 15) fun n_7 =>
              if (decide (n_7 > have_)) = true then
                K 0 0 4 w
              else
                K (Shr .i64 cell_6 4) n_7 0 w) fun J8 =>
          if (decide (x_5 < 0)) = true then
            Let (W (0 - x_5)) fun link_9 =>
            Pos (U64 (And .i64 link_9 15)) <|
            Let (And .i64 (Shr .i64 ahead 6) (W ((Shl .i64 1 (U64 (And .i64 link_9 15))) - 1))) fun more_10 =>
            LdS w ⟨c, 4, none⟩ fun sub_11 =>
            Ix sub_11.a sub_11.l (W ((Shr .i64 link_9 4) + more_10)) fun b12 o13 =>
            LdI .i64 w ⟨b12, o13 + Int.toNat (W ((Shr .i64 link_9 4) + more_10)) * 1, none⟩ fun x_14 =>
            J8 x_14 w
          else
            J8 x_5 w
def T.C160 : CallT := CallT.nil
def T.A160 : Ann := fun _ => none
set_option maxRecDepth 1000000 in
theorem T.eq160 (c : Nat) (ahead : Int) (have_ : Int) (w : World) (K : Int → Int → Int → World → Prop) : denF Tryz.prog T.C160 T.A160 Tryz.f160 [.pointer (some ⟨c, 0, none⟩), .int .i64 ahead, .int .i64 have_] w (fun v w' => match v with | .tuple ⟨[.int .i64 r0, .int .i64 r1, .int .i64 r2]⟩ => K r0 r1 r2 w' | _ => False) = S.huff_Coder_Find c ahead have_ w K := by kernel_rfl
theorem T.CO160 : CallOk Tryz.prog T.C160 := CallOk.nil
def T.c160 (vs : List Value) (w : World) (K : Value → World → Prop) : Prop :=
  match vs with
  | [.pointer (some ⟨c, 0, none⟩), .int .i64 ahead, .int .i64 have_] => S.huff_Coder_Find c ahead have_ w (fun r0 r1 r2 w' => K (.tuple #[.int .i64 r0, .int .i64 r1, .int .i64 r2]) w')
  | _ => False
theorem T.ok160 : ∀ vs w K, T.c160 vs w K → (callFunc 160 vs.toArray).run Tryz.prog w = .ok (.enter 160 vs.toArray) w ∧ Calls Tryz.prog 160 vs.toArray w fun e w' => ∃ v, e = .returned v ∧ K v w' := by
  intro vs w K h
  unfold T.c160 at h
  split at h
  · refine ⟨Tryz.call160 _ _, ok_of T.CO160 mixed Tryz.func160 (T.eq160 _ _ _ _ _) h fun v w' hk => ⟨v, rfl, ?_⟩⟩
    split at hk
    · exact hk
    · exact hk.elim
  · exact h.elim

/-- (*e2e/stream.Decoder).turnSym (function 130). -/
def S.stream_Decoder_turnSym (d : Nat) (w : World) (K : Int → World → Prop) : Prop :=
  LdP w ⟨d, 0, none⟩ fun t_1 =>
  S.bits_Tape_Pos t_1 w (fun r2 w =>
  St1 w ⟨d, 6, none⟩ (.int .i64 r2) fun w =>
  LdP w ⟨d, 0, none⟩ fun t_3 =>
  S.bits_Tape_Peek t_3 10 w (fun r4 r5 w =>
  LdP w ⟨d, 1, none⟩ fun a_6 =>
  S.huff_Coder_Find a_6 r4 r5 w (fun r7 r8 r9 w =>
  if (r9 != 0) = true then
    K r9 w
  else
    LdP w ⟨d, 0, none⟩ fun t_10 =>
    S.bits_Tape_Skip t_10 r8 w (fun r11 w =>
    if (r7 == 256) = true then
      S.stream_Decoder_shut d w (fun w =>
      K 0 w)
    else
      if (decide (r7 < 256)) = true then
        LdI .i64 w ⟨d, 19, none⟩ fun total_12 =>
        if (decide (total_12 ≥ 256)) = true then
          K 10 w
        else
          S.stream_Decoder_give d (U8 r7) w (fun w =>
          K 0 w)
      else
        St1 w ⟨d, 11, none⟩ (.int .i64 (W ((W ((W (r7 - 256)) - 1)) + 3))) fun w =>
        St1 w ⟨d, 4, none⟩ (.int .i64 6) fun w =>
        K 0 w))))
def T.C130 : CallT := (CallT.cons 133 T.c133 (CallT.cons 157 T.c157 (CallT.cons 160 T.c160 (CallT.cons 158 T.c158 (CallT.cons 155 T.c155 (CallT.cons 156 T.c156 CallT.nil))))))
def T.A130 : Ann := fun _ => none
set_option maxRecDepth 1000000 in
theorem T.eq130 (d : Nat) (w : World) (K : Int → World → Prop) : denF Tryz.prog T.C130 T.A130 Tryz.f130 [.pointer (some ⟨d, 0, none⟩)] w (fun v w' => match v with | .int .i64 r0 => K r0 w' | _ => False) = S.stream_Decoder_turnSym d w K := by kernel_rfl
theorem T.CO130 : CallOk Tryz.prog T.C130 := (CallOk.cons 133 T.ok133 (CallOk.cons 157 T.ok157 (CallOk.cons 160 T.ok160 (CallOk.cons 158 T.ok158 (CallOk.cons 155 T.ok155 (CallOk.cons 156 T.ok156 CallOk.nil))))))
def T.c130 (vs : List Value) (w : World) (K : Value → World → Prop) : Prop :=
  match vs with
  | [.pointer (some ⟨d, 0, none⟩)] => S.stream_Decoder_turnSym d w (fun r0 w' => K (.int .i64 r0) w')
  | _ => False
theorem T.ok130 : ∀ vs w K, T.c130 vs w K → (callFunc 130 vs.toArray).run Tryz.prog w = .ok (.enter 130 vs.toArray) w ∧ Calls Tryz.prog 130 vs.toArray w fun e w' => ∃ v, e = .returned v ∧ K v w' := by
  intro vs w K h
  unfold T.c130 at h
  split at h
  · refine ⟨Tryz.call130 _ _, ok_of T.CO130 mixed Tryz.func130 (T.eq130 _ _ _) h fun v w' hk => ⟨v, rfl, ?_⟩⟩
    split at hk
    · exact hk
    · exact hk.elim
  · exact h.elim

/-- (*e2e/stream.Decoder).turnDist (function 131). -/
def S.stream_Decoder_turnDist (d : Nat) (w : World) (K : Int → World → Prop) : Prop :=
  LdP w ⟨d, 0, none⟩ fun t_1 =>
  S.bits_Tape_Peek t_1 10 w (fun r2 r3 w =>
  LdP w ⟨d, 2, none⟩ fun b_4 =>
  S.huff_Coder_Find b_4 r2 r3 w (fun r5 r6 r7 w =>
  if (r7 != 0) = true then
    K r7 w
  else
    LdP w ⟨d, 0, none⟩ fun t_8 =>
    S.bits_Tape_Skip t_8 r6 w (fun r9 w =>
    S.api_DistBase r5 w (fun r10 r11 w =>
    St1 w ⟨d, 12, none⟩ (.int .i64 r10) fun w =>
    St1 w ⟨d, 13, none⟩ (.int .i64 r11) fun w =>
    St1 w ⟨d, 4, none⟩ (.int .i64 7) fun w =>
    K 0 w))))
def T.C131 : CallT := (CallT.cons 157 T.c157 (CallT.cons 160 T.c160 (CallT.cons 158 T.c158 (CallT.cons 93 T.c93 CallT.nil))))
def T.A131 : Ann := fun _ => none
set_option maxRecDepth 1000000 in
theorem T.eq131 (d : Nat) (w : World) (K : Int → World → Prop) : denF Tryz.prog T.C131 T.A131 Tryz.f131 [.pointer (some ⟨d, 0, none⟩)] w (fun v w' => match v with | .int .i64 r0 => K r0 w' | _ => False) = S.stream_Decoder_turnDist d w K := by kernel_rfl
theorem T.CO131 : CallOk Tryz.prog T.C131 := (CallOk.cons 157 T.ok157 (CallOk.cons 160 T.ok160 (CallOk.cons 158 T.ok158 (CallOk.cons 93 T.ok93 CallOk.nil))))
def T.c131 (vs : List Value) (w : World) (K : Value → World → Prop) : Prop :=
  match vs with
  | [.pointer (some ⟨d, 0, none⟩)] => S.stream_Decoder_turnDist d w (fun r0 w' => K (.int .i64 r0) w')
  | _ => False
theorem T.ok131 : ∀ vs w K, T.c131 vs w K → (callFunc 131 vs.toArray).run Tryz.prog w = .ok (.enter 131 vs.toArray) w ∧ Calls Tryz.prog 131 vs.toArray w fun e w' => ∃ v, e = .returned v ∧ K v w' := by
  intro vs w K h
  unfold T.c131 at h
  split at h
  · refine ⟨Tryz.call131 _ _, ok_of T.CO131 mixed Tryz.func131 (T.eq131 _ _ _) h fun v w' hk => ⟨v, rfl, ?_⟩⟩
    split at hk
    · exact hk
    · exact hk.elim
  · exact h.elim

/-- (*e2e/stream.Decoder).turnMore (function 132). -/
def S.stream_Decoder_turnMore (d : Nat) (w : World) (K : Int → World → Prop) : Prop :=
  Drew w fun w =>
  LdP w ⟨d, 0, none⟩ fun t_1 =>
  LdI .i64 w ⟨d, 13, none⟩ fun more_2 =>
  S.bits_Tape_Take t_1 more_2 w (fun r3 r4 w =>
  if (r4 != 0) = true then
    K r4 w
  else
    LdI .i64 w ⟨d, 12, none⟩ fun base_5 =>
    Let (W (base_5 + r3)) fun back_6 =>
    LdI .i64 w ⟨d, 16, none⟩ fun fill_7 =>
    if (decide (back_6 > fill_7)) = true then
      K 9 w
    else
      Drew w fun w =>
      LdI .i64 w ⟨d, 11, none⟩ fun run_8 =>
      LdI .i64 w ⟨d, 19, none⟩ fun total_9 =>
      if (decide (run_8 > (W (256 - total_9)))) = true then
        K 10 w
      else
        LdI .i64 w ⟨d, 15, none⟩ fun w_10 =>
        Let (W (w_10 - back_6)) fun from_11 =>
        Join (fun (from_12 : Int) (w : World) =>
          Join (fun (w : World) =>
            St1 w ⟨d, 4, none⟩ (.int .i64 5) fun w =>
            K 0 w) fun J13 =>
          LoopP (σ := Int × Int × Unit) (fun st14 w next15 =>
            LdI .i64 w ⟨d, 11, none⟩ fun run_16 =>
            if (decide (st14.2.1 < run_16)) = true then
              Join (fun (from_17 : Int) (w : World) =>
                Let (W (st14.2.1 + 1)) fun k_18 =>
                next15 (from_17, k_18, ()) w) fun J19 =>
              LdS w ⟨d, 14, none⟩ fun ring_20 =>
              Ix ring_20.a ring_20.l st14.1 fun b21 o22 =>
              LdI .u8 w ⟨b21, o22 + Int.toNat st14.1 * 1, none⟩ fun x_23 =>
              S.stream_Decoder_give d x_23 w (fun w =>
              Let (W (st14.1 + 1)) fun from_24 =>
              if (from_24 == 16) = true then
                J19 0 w
              else
                J19 from_24 w)
            else
              J13 w) (from_12, 0, ()) w) fun J25 =>
        if (decide (from_11 < 0)) = true then
          Let (W (from_11 + 16)) fun from_26 =>
          J25 from_26 w
        else
          J25 from_11 w)
def T.C132 : CallT := (CallT.cons 151 T.c151 (CallT.cons 156 T.c156 CallT.nil))
def T.A132 : Ann := fun i => bif Nat.beq i 13 then some ([0], [(6, 0), (7, 0)]) else none
set_option maxRecDepth 1000000 in
theorem T.eq132 (d : Nat) (w : World) (K : Int → World → Prop) : denF Tryz.prog T.C132 T.A132 Tryz.f132 [.pointer (some ⟨d, 0, none⟩)] w (fun v w' => match v with | .int .i64 r0 => K r0 w' | _ => False) = S.stream_Decoder_turnMore d w K := by kernel_rfl
theorem T.CO132 : CallOk Tryz.prog T.C132 := (CallOk.cons 151 T.ok151 (CallOk.cons 156 T.ok156 CallOk.nil))
def T.c132 (vs : List Value) (w : World) (K : Value → World → Prop) : Prop :=
  match vs with
  | [.pointer (some ⟨d, 0, none⟩)] => S.stream_Decoder_turnMore d w (fun r0 w' => K (.int .i64 r0) w')
  | _ => False
theorem T.ok132 : ∀ vs w K, T.c132 vs w K → (callFunc 132 vs.toArray).run Tryz.prog w = .ok (.enter 132 vs.toArray) w ∧ Calls Tryz.prog 132 vs.toArray w fun e w' => ∃ v, e = .returned v ∧ K v w' := by
  intro vs w K h
  unfold T.c132 at h
  split at h
  · refine ⟨Tryz.call132 _ _, ok_of T.CO132 mixed Tryz.func132 (T.eq132 _ _ _) h fun v w' hk => ⟨v, rfl, ?_⟩⟩
    split at hk
    · exact hk
    · exact hk.elim
  · exact h.elim

/-- (*e2e/stream.Decoder).turn (function 100). -/
def S.stream_Decoder_turn (d : Nat) (w : World) (K : Int → World → Prop) : Prop :=
  LdI .i64 w ⟨d, 4, none⟩ fun phase_1 =>
  if (phase_1 == 0) = true then
    S.stream_Decoder_turnFinal d w (fun r2 w =>
    K r2 w)
  else
    if (phase_1 == 1) = true then
      S.stream_Decoder_turnKind d w (fun r3 w =>
      K r3 w)
    else
      if (phase_1 == 2) = true then
        S.stream_Decoder_turnSize d w (fun r4 w =>
        K r4 w)
      else
        if (phase_1 == 3) = true then
          S.stream_Decoder_turnByte d w (fun r5 w =>
          K r5 w)
        else
          if (phase_1 == 4) = true then
            S.stream_Decoder_turnList d w (fun r6 w =>
            K r6 w)
          else
            if (phase_1 == 5) = true then
              S.stream_Decoder_turnSym d w (fun r7 w =>
              K r7 w)
            else
              if (phase_1 == 6) = true then
                S.stream_Decoder_turnDist d w (fun r8 w =>
                K r8 w)
              else
                S.stream_Decoder_turnMore d w (fun r9 w =>
                K r9 w)
def T.C100 : CallT := (CallT.cons 125 T.c125 (CallT.cons 126 T.c126 (CallT.cons 127 T.c127 (CallT.cons 128 T.c128 (CallT.cons 129 T.c129 (CallT.cons 130 T.c130 (CallT.cons 131 T.c131 (CallT.cons 132 T.c132 CallT.nil))))))))
def T.A100 : Ann := fun _ => none
set_option maxRecDepth 1000000 in
theorem T.eq100 (d : Nat) (w : World) (K : Int → World → Prop) : denF Tryz.prog T.C100 T.A100 Tryz.f100 [.pointer (some ⟨d, 0, none⟩)] w (fun v w' => match v with | .int .i64 r0 => K r0 w' | _ => False) = S.stream_Decoder_turn d w K := by kernel_rfl
theorem T.CO100 : CallOk Tryz.prog T.C100 := (CallOk.cons 125 T.ok125 (CallOk.cons 126 T.ok126 (CallOk.cons 127 T.ok127 (CallOk.cons 128 T.ok128 (CallOk.cons 129 T.ok129 (CallOk.cons 130 T.ok130 (CallOk.cons 131 T.ok131 (CallOk.cons 132 T.ok132 CallOk.nil))))))))
def T.c100 (vs : List Value) (w : World) (K : Value → World → Prop) : Prop :=
  match vs with
  | [.pointer (some ⟨d, 0, none⟩)] => S.stream_Decoder_turn d w (fun r0 w' => K (.int .i64 r0) w')
  | _ => False
theorem T.ok100 : ∀ vs w K, T.c100 vs w K → (callFunc 100 vs.toArray).run Tryz.prog w = .ok (.enter 100 vs.toArray) w ∧ Calls Tryz.prog 100 vs.toArray w fun e w' => ∃ v, e = .returned v ∧ K v w' := by
  intro vs w K h
  unfold T.c100 at h
  split at h
  · refine ⟨Tryz.call100 _ _, ok_of T.CO100 mixed Tryz.func100 (T.eq100 _ _ _) h fun v w' hk => ⟨v, rfl, ?_⟩⟩
    split at hk
    · exact hk
    · exact hk.elim
  · exact h.elim

/-- (*e2e/stream.Decoder).Feed (function 66). -/
def S.stream_Decoder_Feed (d : Nat) (chunk : ByteArray) (last : Bool) (w : World) (K : ByteArray → Int → Int → Int → World → Prop) : Prop :=
  New w (.cells #[.string ⟨#[]⟩, .int .i64 0, .int .i64 0, .int .i64 0] 148) fun p1 w =>
  LdI .i64 w ⟨d, 4, none⟩ fun phase_2 =>
  if (decide (phase_2 ≥ 9)) = true then
    St1 w ⟨p1, 0, none⟩ (.string ⟨#[]⟩) fun w =>
    St1 w ⟨p1, 1, none⟩ (.int .i64 2) fun w =>
    St1 w ⟨p1, 2, none⟩ (.int .i64 12) fun w =>
    St1 w ⟨p1, 3, none⟩ (.int .i64 0) fun w =>
    LdStr w ⟨p1, 0, none⟩ fun Out_3 =>
    LdI .i64 w ⟨p1, 1, none⟩ fun State_4 =>
    LdI .i64 w ⟨p1, 2, none⟩ fun Err_5 =>
    LdI .i64 w ⟨p1, 3, none⟩ fun Pos_6 =>
    K Out_3 State_4 Err_5 Pos_6 w
  else
    LdI .i64 w ⟨d, 20, none⟩ fun fed_7 =>
    if (decide ((chunk.size : Int) > (W (512 - fed_7)))) = true then
      St1 w ⟨d, 4, none⟩ (.int .i64 10) fun w =>
      St1 w ⟨p1, 0, none⟩ (.string ⟨#[]⟩) fun w =>
      St1 w ⟨p1, 1, none⟩ (.int .i64 2) fun w =>
      St1 w ⟨p1, 2, none⟩ (.int .i64 1) fun w =>
      St1 w ⟨p1, 3, none⟩ (.int .i64 0) fun w =>
      LdStr w ⟨p1, 0, none⟩ fun Out_8 =>
      LdI .i64 w ⟨p1, 1, none⟩ fun State_9 =>
      LdI .i64 w ⟨p1, 2, none⟩ fun Err_10 =>
      LdI .i64 w ⟨p1, 3, none⟩ fun Pos_11 =>
      K Out_8 State_9 Err_10 Pos_11 w
    else
      Join (fun (w : World) =>
        LdI .i64 w ⟨d, 20, none⟩ fun fed_12 =>
        St1 w ⟨d, 20, none⟩ (.int .i64 (W (fed_12 + (chunk.size : Int)))) fun w =>
        St1 w ⟨d, 18, none⟩ (.int .i64 0) fun w =>
        Join (fun (e_13 : Int) (w : World) =>
          Join (fun (e_14 : Int) (w : World) =>
            Drew w fun w =>
            LdS w ⟨d, 17, none⟩ fun buf_15 =>
            LdI .i64 w ⟨d, 18, none⟩ fun n_16 =>
            CutS 1 buf_15 0 n_16 (buf_15.c : Int) fun l17 =>
            BtS w l17 fun s18 =>
            Join (fun (w : World) =>
              Join (fun (w : World) =>
                St1 w ⟨p1, 0, none⟩ (.string s18) fun w =>
                St1 w ⟨p1, 1, none⟩ (.int .i64 0) fun w =>
                St1 w ⟨p1, 2, none⟩ (.int .i64 0) fun w =>
                St1 w ⟨p1, 3, none⟩ (.int .i64 0) fun w =>
                LdStr w ⟨p1, 0, none⟩ fun Out_19 =>
                LdI .i64 w ⟨p1, 1, none⟩ fun State_20 =>
                LdI .i64 w ⟨p1, 2, none⟩ fun Err_21 =>
                LdI .i64 w ⟨p1, 3, none⟩ fun Pos_22 =>
                K Out_19 State_20 Err_21 Pos_22 w) fun J23 =>
              Join (fun (w : World) =>
                St1 w ⟨d, 4, none⟩ (.int .i64 10) fun w =>
                LdI .i64 w ⟨d, 6, none⟩ fun at_24 =>
                St1 w ⟨p1, 0, none⟩ (.string s18) fun w =>
                St1 w ⟨p1, 1, none⟩ (.int .i64 2) fun w =>
                St1 w ⟨p1, 2, none⟩ (.int .i64 e_14) fun w =>
                St1 w ⟨p1, 3, none⟩ (.int .i64 at_24) fun w =>
                LdStr w ⟨p1, 0, none⟩ fun Out_25 =>
                LdI .i64 w ⟨p1, 1, none⟩ fun State_26 =>
                LdI .i64 w ⟨p1, 2, none⟩ fun Err_27 =>
                LdI .i64 w ⟨p1, 3, none⟩ fun Pos_28 =>
                K Out_25 State_26 Err_27 Pos_28 w) fun J29 =>
              if (!last) = true then
                if (e_14 == 0) = true then
                  J23 w
                else
                  if (e_14 == 4) = true then
                    J23 w
                  else
                    J29 w
              else
                J29 w) fun J30 =>
            if (e_14 == 0) = true then
              if last = true then
                St1 w ⟨d, 4, none⟩ (.int .i64 9) fun w =>
                St1 w ⟨p1, 0, none⟩ (.string s18) fun w =>
                St1 w ⟨p1, 1, none⟩ (.int .i64 1) fun w =>
                St1 w ⟨p1, 2, none⟩ (.int .i64 0) fun w =>
                St1 w ⟨p1, 3, none⟩ (.int .i64 0) fun w =>
                LdStr w ⟨p1, 0, none⟩ fun Out_31 =>
                LdI .i64 w ⟨p1, 1, none⟩ fun State_32 =>
                LdI .i64 w ⟨p1, 2, none⟩ fun Err_33 =>
                LdI .i64 w ⟨p1, 3, none⟩ fun Pos_34 =>
                K Out_31 State_32 Err_33 Pos_34 w
              else
                J30 w
            else
              J30 w) fun J35 =>
          if (e_13 == 0) = true then
            S.stream_Decoder_tail d w (fun r36 w =>
            J35 r36 w)
          else
            J35 e_13 w) fun J37 =>
        LoopP (σ := Int × Unit) (fun st38 w next39 =>
          if (st38.1 == 0) = true then
            LdI .i64 w ⟨d, 4, none⟩ fun phase_40 =>
            if (phase_40 != 8) = true then
              S.stream_Decoder_turn d w (fun r41 w =>
              next39 (r41, ()) w)
            else
              J37 st38.1 w
          else
            J37 st38.1 w) (0, ()) w) fun J42 =>
      LoopP (σ := Int × Unit) (fun st43 w next44 =>
        if (decide (st43.1 < (chunk.size : Int))) = true then
          Drew w fun w =>
          LdP w ⟨d, 0, none⟩ fun t_45 =>
          IxStr chunk st43.1 fun c46 =>
          S.bits_Tape_Put t_45 (W c46) 8 w (fun r47 w =>
          Let (W (st43.1 + 1)) fun i_48 =>
          next44 (i_48, ()) w)
        else
          J42 w) (0, ()) w
def T.C66 : CallT := (CallT.cons 101 T.c101 (CallT.cons 100 T.c100 (CallT.cons 81 T.c81 CallT.nil)))
def T.A66 : Ann := fun i => bif Nat.beq i 7 then some ([0, 1, 2, 6], [(7, 0)]) else bif Nat.beq i 13 then some ([0, 2, 6], [(8, 0)]) else none
set_option maxRecDepth 1000000 in
theorem T.eq66 (d : Nat) (chunk : ByteArray) (last : Bool) (w : World) (K : ByteArray → Int → Int → Int → World → Prop) : denF Tryz.prog T.C66 T.A66 Tryz.f66 [.pointer (some ⟨d, 0, none⟩), .string chunk, .bool last] w (fun v w' => match v with | .agg ⟨[.string r0, .int .i64 r1, .int .i64 r2, .int .i64 r3]⟩ => K r0 r1 r2 r3 w' | _ => False) = S.stream_Decoder_Feed d chunk last w K := by kernel_rfl
theorem T.CO66 : CallOk Tryz.prog T.C66 := (CallOk.cons 101 T.ok101 (CallOk.cons 100 T.ok100 (CallOk.cons 81 T.ok81 CallOk.nil)))
def T.c66 (vs : List Value) (w : World) (K : Value → World → Prop) : Prop :=
  match vs with
  | [.pointer (some ⟨d, 0, none⟩), .string chunk, .bool last] => S.stream_Decoder_Feed d chunk last w (fun r0 r1 r2 r3 w' => K (.agg #[.string r0, .int .i64 r1, .int .i64 r2, .int .i64 r3]) w')
  | _ => False
theorem T.ok66 : ∀ vs w K, T.c66 vs w K → (callFunc 66 vs.toArray).run Tryz.prog w = .ok (.enter 66 vs.toArray) w ∧ Calls Tryz.prog 66 vs.toArray w fun e w' => ∃ v, e = .returned v ∧ K v w' := by
  intro vs w K h
  unfold T.c66 at h
  split at h
  · refine ⟨Tryz.call66 _ _, ok_of T.CO66 mixed Tryz.func66 (T.eq66 _ _ _ _ _) h fun v w' hk => ⟨v, rfl, ?_⟩⟩
    split at hk
    · exact hk
    · exact hk.elim
  · exact h.elim

/-- (*e2e/arch.Archive).drain (function 46). -/
def S.arch_Archive_drain (a : Nat) (raw : ByteArray) (from_ : Int) (to_ : Int) (w : World) (K : Int → Int → Int → World → Prop) : Prop :=
  LdP w ⟨a, 1, none⟩ fun d_1 =>
  S.stream_Decoder_Reset d_1 w (fun w =>
  Join (fun (n_2 : Int) (lo_3 : Int) (hi_4 : Int) (w : World) =>
    K n_2 (W ((W (hi_4 * 256)) + lo_3)) 0 w) fun J5 =>
  LoopP (σ := Int × Int × Int × Int × Bool × Unit) (fun st6 w next7 =>
    if (!st6.2.2.2.2.1) = true then
      Let (W (st6.1 + 64)) fun end_8 =>
      Join (fun (last_9 : Bool) (end_10 : Int) (w : World) =>
        Join (fun (st_11 : Nat) (w : World) =>
          Join (fun (n_12 : Int) (lo_13 : Int) (hi_14 : Int) (w : World) =>
            LdI .i64 w ⟨st_11, 1, none⟩ fun State_15 =>
            if (State_15 == 2) = true then
              Drew w fun w =>
              LdI .i64 w ⟨st_11, 2, none⟩ fun Err_16 =>
              K 0 0 Err_16 w
            else
              next7 (end_10, n_12, lo_13, hi_14, last_9, ()) w) fun J17 =>
          LoopP (σ := Int × Int × Int × Int × Unit) (fun st18 w next19 =>
            LdStr w ⟨st_11, 0, none⟩ fun Out_20 =>
            if (decide (st18.2.2.2.1 < (Out_20.size : Int))) = true then
              LdStr w ⟨st_11, 0, none⟩ fun Out_21 =>
              IxStr Out_21 st18.2.2.2.1 fun c22 =>
              LdS w ⟨a, 6, none⟩ fun gain_23 =>
              Ix gain_23.a gain_23.l st18.1 fun b24 o25 =>
              St1 w ⟨b24, o25 + Int.toNat st18.1 * 1, none⟩ (.int .u8 c22) fun w =>
              Let (W (st18.1 + 1)) fun n_26 =>
              Let (Int.tmod (W (st18.2.1 + (W c22))) 251) fun lo_27 =>
              Let (Int.tmod (W (st18.2.2.1 + lo_27)) 251) fun hi_28 =>
              Let (W (st18.2.2.2.1 + 1)) fun j_29 =>
              next19 (n_26, lo_27, hi_28, j_29, ()) w
            else
              J17 st18.1 st18.2.1 st18.2.2.1 w) (st6.2.1, st6.2.2.1, st6.2.2.2.1, 0, ()) w) fun J30 =>
        Drew w fun w =>
        Hold w ⟨a, 1, none⟩ 1 fun R31 =>
        LdP w ⟨a, 1, none⟩ fun d_32 =>
        CutStr raw st6.1 end_10 fun s33 =>
        (S.stream_Decoder_Feed d_32 s33 last_9 w (fun Out_34 State_35 Err_36 Pos_37 w =>
        New w (.cells #[.string ⟨#[]⟩, .int .i64 0, .int .i64 0, .int .i64 0] 148) fun p38 w =>
        After R31 w <|
        St1 w ⟨p38, 0, none⟩ (.string Out_34) fun w =>
        St1 w ⟨p38, 1, none⟩ (.int .i64 State_35) fun w =>
        St1 w ⟨p38, 2, none⟩ (.int .i64 Err_36) fun w =>
        St1 w ⟨p38, 3, none⟩ (.int .i64 Pos_37) fun w =>
        J30 p38 w)) ∧
        (New w (.cells #[.string ⟨#[]⟩, .int .i64 0, .int .i64 0, .int .i64 0] 148) fun p39 w =>
        After R31 w <|
        S.stream_Decoder_Feed d_32 s33 last_9 w (fun Out_40 State_41 Err_42 Pos_43 w =>
        St1 w ⟨p39, 0, none⟩ (.string Out_40) fun w =>
        St1 w ⟨p39, 1, none⟩ (.int .i64 State_41) fun w =>
        St1 w ⟨p39, 2, none⟩ (.int .i64 Err_42) fun w =>
        St1 w ⟨p39, 3, none⟩ (.int .i64 Pos_43) fun w =>
        J30 p39 w))) fun J44 =>
      if (decide (end_8 ≥ to_)) = true then
        J44 true to_ w
      else
        J44 st6.2.2.2.2.1 end_8 w
    else
      J5 st6.2.1 st6.2.2.1 st6.2.2.2.1 w) (from_, 0, 1, 0, false, ()) w)
def T.C46 : CallT := (CallT.cons 65 T.c65 (CallT.cons 66 T.c66 CallT.nil))
def T.A46 : Ann := fun i => bif Nat.beq i 14 then some ([0, 1, 2, 3, 14, 16], [(11, 0), (12, 0), (13, 0), (17, 0)]) else bif Nat.beq i 6 then some ([0, 1, 3], [(2, 0), (11, 0), (12, 0), (13, 0), (14, 3)]) else none
set_option maxRecDepth 1000000 in
theorem T.eq46 (a : Nat) (raw : ByteArray) (from_ : Int) (to_ : Int) (w : World) (K : Int → Int → Int → World → Prop) : denF Tryz.prog T.C46 T.A46 Tryz.f46 [.pointer (some ⟨a, 0, none⟩), .string raw, .int .i64 from_, .int .i64 to_] w (fun v w' => match v with | .tuple ⟨[.int .i64 r0, .int .i64 r1, .int .i64 r2]⟩ => K r0 r1 r2 w' | _ => False) = S.arch_Archive_drain a raw from_ to_ w K := by kernel_rfl
theorem T.CO46 : CallOk Tryz.prog T.C46 := (CallOk.cons 65 T.ok65 (CallOk.cons 66 T.ok66 CallOk.nil))
def T.c46 (vs : List Value) (w : World) (K : Value → World → Prop) : Prop :=
  match vs with
  | [.pointer (some ⟨a, 0, none⟩), .string raw, .int .i64 from_, .int .i64 to_] => S.arch_Archive_drain a raw from_ to_ w (fun r0 r1 r2 w' => K (.tuple #[.int .i64 r0, .int .i64 r1, .int .i64 r2]) w')
  | _ => False
theorem T.ok46 : ∀ vs w K, T.c46 vs w K → (callFunc 46 vs.toArray).run Tryz.prog w = .ok (.enter 46 vs.toArray) w ∧ Calls Tryz.prog 46 vs.toArray w fun e w' => ∃ v, e = .returned v ∧ K v w' := by
  intro vs w K h
  unfold T.c46 at h
  split at h
  · refine ⟨Tryz.call46 _ _, ok_of T.CO46 mixed Tryz.func46 (T.eq46 _ _ _ _ _ _) h fun v w' hk => ⟨v, rfl, ?_⟩⟩
    split at hk
    · exact hk
    · exact hk.elim
  · exact h.elim

/-- (*e2e/arch.Archive).Unpack (function 28). -/
def S.arch_Archive_Unpack (a : Nat) (raw : ByteArray) (w : World) (K : Sl → Int → Int → World → Prop) : Prop :=
  if (decide ((raw.size : Int) > 1200)) = true then
    K ⟨none, 0, 0⟩ 1 0 w
  else
    S.arch_Archive_frame a raw w (fun r1 r2 r3 w =>
    if (r2 != 0) = true then
      K ⟨none, 0, 0⟩ r2 r3 w
    else
      MkS 26 [.string ⟨#[]⟩, .string ⟨#[]⟩] 32 w r1 r1 fun l4 w =>
      Join (fun (w : World) =>
        K l4 0 0 w) fun J5 =>
      LoopP (σ := Int × Unit) (fun st6 w next7 =>
        if (decide (st6.1 < r1)) = true then
          LdS w ⟨a, 5, none⟩ fun tab_8 =>
          Ix tab_8.a tab_8.l st6.1 fun b9 o10 =>
          LdI .i64 w ⟨b9, o10 + Int.toNat st6.1 * 5, none⟩ fun off_11 =>
          LdI .i64 w ⟨b9, o10 + Int.toNat st6.1 * 5 + 1, none⟩ fun head_12 =>
          LdI .i64 w ⟨b9, o10 + Int.toNat st6.1 * 5 + 2, none⟩ fun to_13 =>
          LdI .i64 w ⟨b9, o10 + Int.toNat st6.1 * 5 + 3, none⟩ fun size_14 =>
          LdI .i64 w ⟨b9, o10 + Int.toNat st6.1 * 5 + 4, none⟩ fun sum_15 =>
          New w (.cells #[.int .i64 0, .int .i64 0, .int .i64 0, .int .i64 0, .int .i64 0] 111) fun p16 w =>
          St1 w ⟨p16, 0, none⟩ (.int .i64 off_11) fun w =>
          St1 w ⟨p16, 1, none⟩ (.int .i64 head_12) fun w =>
          St1 w ⟨p16, 2, none⟩ (.int .i64 to_13) fun w =>
          St1 w ⟨p16, 3, none⟩ (.int .i64 size_14) fun w =>
          St1 w ⟨p16, 4, none⟩ (.int .i64 sum_15) fun w =>
          LdI .i64 w ⟨p16, 1, none⟩ fun head_17 =>
          LdI .i64 w ⟨p16, 2, none⟩ fun to_18 =>
          S.arch_Archive_drain a raw (W (head_17 + 6)) to_18 w (fun r19 r20 r21 w =>
          if (r21 != 0) = true then
            Drew w fun w =>
            LdI .i64 w ⟨p16, 0, none⟩ fun off_22 =>
            K ⟨none, 0, 0⟩ r21 off_22 w
          else
            LdI .i64 w ⟨p16, 3, none⟩ fun size_23 =>
            if (r19 != size_23) = true then
              Drew w fun w =>
              LdI .i64 w ⟨p16, 0, none⟩ fun off_24 =>
              K ⟨none, 0, 0⟩ 19 off_24 w
            else
              LdI .i64 w ⟨p16, 4, none⟩ fun sum_25 =>
              if (r20 != sum_25) = true then
                Drew w fun w =>
                LdI .i64 w ⟨p16, 0, none⟩ fun off_26 =>
                K ⟨none, 0, 0⟩ 18 off_26 w
              else
                LdI .i64 w ⟨p16, 0, none⟩ fun off_27 =>
                LdI .i64 w ⟨p16, 1, none⟩ fun head_28 =>
                CutStr raw (W (off_27 + 1)) head_28 fun s29 =>
                Ix l4.a l4.l st6.1 fun b30 o31 =>
                St1 w ⟨b30, o31 + Int.toNat st6.1 * 2, none⟩ (.string s29) fun w =>
                LdS w ⟨a, 6, none⟩ fun gain_32 =>
                CutS 1 gain_32 0 r19 (gain_32.c : Int) fun l33 =>
                BtS w l33 fun s34 =>
                Ix l4.a l4.l st6.1 fun b35 o36 =>
                St1 w ⟨b35, o36 + Int.toNat st6.1 * 2 + 1, none⟩ (.string s34) fun w =>
                Let (W (st6.1 + 1)) fun i_37 =>
                next7 (i_37, ()) w)
        else
          J5 w) (0, ()) w)
def T.C28 : CallT := (CallT.cons 44 T.c44 (CallT.cons 46 T.c46 CallT.nil))
def T.A28 : Ann := fun i => bif Nat.beq i 8 then some ([0, 1, 7, 10], [(11, 0)]) else none
set_option maxRecDepth 1000000 in
theorem T.eq28 (a : Nat) (raw : ByteArray) (w : World) (K : Sl → Int → Int → World → Prop) : denF Tryz.prog T.C28 T.A28 Tryz.f28 [.pointer (some ⟨a, 0, none⟩), .string raw] w (fun v w' => match v with | .tuple ⟨[.slice r0a r0l r0c, .int .i64 r1, .int .i64 r2]⟩ => K ⟨r0a, r0l, r0c⟩ r1 r2 w' | _ => False) = S.arch_Archive_Unpack a raw w K := by kernel_rfl
theorem T.CO28 : CallOk Tryz.prog T.C28 := (CallOk.cons 44 T.ok44 (CallOk.cons 46 T.ok46 CallOk.nil))
def T.c28 (vs : List Value) (w : World) (K : Value → World → Prop) : Prop :=
  match vs with
  | [.pointer (some ⟨a, 0, none⟩), .string raw] => S.arch_Archive_Unpack a raw w (fun r0 r1 r2 w' => K (.tuple #[.slice r0.a r0.l r0.c, .int .i64 r1, .int .i64 r2]) w')
  | _ => False
theorem T.ok28 : ∀ vs w K, T.c28 vs w K → (callFunc 28 vs.toArray).run Tryz.prog w = .ok (.enter 28 vs.toArray) w ∧ Calls Tryz.prog 28 vs.toArray w fun e w' => ∃ v, e = .returned v ∧ K v w' := by
  intro vs w K h
  unfold T.c28 at h
  split at h
  · refine ⟨Tryz.call28 _ _, ok_of T.CO28 mixed Tryz.func28 (T.eq28 _ _ _ _) h fun v w' hk => ⟨v, rfl, ?_⟩⟩
    split at hk
    · exact hk
    · exact hk.elim
  · exact h.elim

/-- (*e2e/bitsm.Tape).Reset (function 102). -/
def S.bitsm_Tape_Reset (t : Nat) (w : World) (K : World → Prop) : Prop :=
  St1 w ⟨t, 0, none⟩ (.slice none 0 0) fun w =>
  St1 w ⟨t, 1, none⟩ (.int .i64 0) fun w =>
  K w
def T.C102 : CallT := CallT.nil
def T.A102 : Ann := fun _ => none
set_option maxRecDepth 1000000 in
theorem T.eq102 (t : Nat) (w : World) (K : World → Prop) : denF Tryz.prog T.C102 T.A102 Tryz.f102 [.pointer (some ⟨t, 0, none⟩)] w (fun v w' => match v with | .tuple ⟨[]⟩ => K w' | _ => False) = S.bitsm_Tape_Reset t w K := by kernel_rfl
theorem T.CO102 : CallOk Tryz.prog T.C102 := CallOk.nil
def T.c102 (vs : List Value) (w : World) (K : Value → World → Prop) : Prop :=
  match vs with
  | [.pointer (some ⟨t, 0, none⟩)] => S.bitsm_Tape_Reset t w (fun w' => K (.tuple #[]) w')
  | _ => False

theorem T.ok102 : ∀ vs w K, T.c102 vs w K → (callFunc 102 vs.toArray).run Tryz.prog w = .ok (.enter 102 vs.toArray) w ∧ Calls Tryz.prog 102 vs.toArray w fun e w' => ∃ v, e = .returned v ∧ K v w' := by
  intro vs w K h
  unfold T.c102 at h
  split at h
  · refine ⟨Tryz.call102 _ _, ok_of T.CO102 mixed Tryz.func102 (T.eq102 _ _ _) h fun v w' hk => ⟨v, rfl, ?_⟩⟩
    split at hk
    · exact hk
    · exact hk.elim
  · exact h.elim

/-- (*e2e/bitsm.Tape).Load (function 68). -/
def S.bitsm_Tape_Load (t : Nat) (s_ : ByteArray) (w : World) (K : Int → World → Prop) : Prop :=
  if (decide ((s_.size : Int) > 512)) = true then
    K 1 w
  else
    S.bitsm_Tape_Reset t w (fun w =>
    LoopP (σ := Int × Unit) (fun st1 w next2 =>
      if (decide (st1.1 < (s_.size : Int))) = true then
        IxStr s_ st1.1 fun c3 =>
        S.bitsm_Tape_Put t (W c3) 8 w (fun r4 w =>
        Let (W (st1.1 + 1)) fun i_5 =>
        next2 (i_5, ()) w)
      else
        K 0 w) (0, ()) w)
def T.C68 : CallT := (CallT.cons 102 T.c102 (CallT.cons 94 T.c94 CallT.nil))
def T.A68 : Ann := fun i => bif Nat.beq i 5 then some ([0, 1], [(5, 0)]) else none
set_option maxRecDepth 1000000 in
theorem T.eq68 (t : Nat) (s_ : ByteArray) (w : World) (K : Int → World → Prop) : denF Tryz.prog T.C68 T.A68 Tryz.f68 [.pointer (some ⟨t, 0, none⟩), .string s_] w (fun v w' => match v with | .int .i64 r0 => K r0 w' | _ => False) = S.bitsm_Tape_Load t s_ w K := by kernel_rfl
theorem T.CO68 : CallOk Tryz.prog T.C68 := (CallOk.cons 102 T.ok102 (CallOk.cons 94 T.ok94 CallOk.nil))
def T.c68 (vs : List Value) (w : World) (K : Value → World → Prop) : Prop :=
  match vs with
  | [.pointer (some ⟨t, 0, none⟩), .string s_] => S.bitsm_Tape_Load t s_ w (fun r0 w' => K (.int .i64 r0) w')
  | _ => False
theorem T.ok68 : ∀ vs w K, T.c68 vs w K → (callFunc 68 vs.toArray).run Tryz.prog w = .ok (.enter 68 vs.toArray) w ∧ Calls Tryz.prog 68 vs.toArray w fun e w' => ∃ v, e = .returned v ∧ K v w' := by
  intro vs w K h
  unfold T.c68 at h
  split at h
  · refine ⟨Tryz.call68 _ _, ok_of T.CO68 mixed Tryz.func68 (T.eq68 _ _ _ _) h fun v w' hk => ⟨v, rfl, ?_⟩⟩
    split at hk
    · exact hk
    · exact hk.elim
  · exact h.elim

/-- (*e2e/bitsm.Tape).Sync (function 74). -/
def S.bitsm_Tape_Sync (t : Nat) (w : World) (K : World → Prop) : Prop :=
  LoopP (σ := Unit) (fun st1 w next2 =>
    Drew w fun w =>
    LdI .i64 w ⟨t, 1, none⟩ fun at_3 =>
    if ((Int.tmod at_3 8) != 0) = true then
      LdI .i64 w ⟨t, 1, none⟩ fun at_4 =>
      LdS w ⟨t, 0, none⟩ fun bit_5 =>
      if (decide (at_4 < (bit_5.l : Int))) = true then
        LdI .i64 w ⟨t, 1, none⟩ fun at_6 =>
        St1 w ⟨t, 1, none⟩ (.int .i64 (W (at_6 + 1))) fun w =>
        next2 (()) w
      else
        K w
    else
      K w) (()) w
def T.C74 : CallT := CallT.nil
def T.A74 : Ann := fun i => bif Nat.beq i 0 then some ([0], []) else none
set_option maxRecDepth 1000000 in
theorem T.eq74 (t : Nat) (w : World) (K : World → Prop) : denF Tryz.prog T.C74 T.A74 Tryz.f74 [.pointer (some ⟨t, 0, none⟩)] w (fun v w' => match v with | .tuple ⟨[]⟩ => K w' | _ => False) = S.bitsm_Tape_Sync t w K := by kernel_rfl
theorem T.CO74 : CallOk Tryz.prog T.C74 := CallOk.nil
def T.c74 (vs : List Value) (w : World) (K : Value → World → Prop) : Prop :=
  match vs with
  | [.pointer (some ⟨t, 0, none⟩)] => S.bitsm_Tape_Sync t w (fun w' => K (.tuple #[]) w')
  | _ => False

theorem T.ok74 : ∀ vs w K, T.c74 vs w K → (callFunc 74 vs.toArray).run Tryz.prog w = .ok (.enter 74 vs.toArray) w ∧ Calls Tryz.prog 74 vs.toArray w fun e w' => ∃ v, e = .returned v ∧ K v w' := by
  intro vs w K h
  unfold T.c74 at h
  split at h
  · refine ⟨Tryz.call74 _ _, ok_of T.CO74 mixed Tryz.func74 (T.eq74 _ _ _) h fun v w' hk => ⟨v, rfl, ?_⟩⟩
    split at hk
    · exact hk
    · exact hk.elim
  · exact h.elim
end Go.Proofs.Qxb6500563aGreat
