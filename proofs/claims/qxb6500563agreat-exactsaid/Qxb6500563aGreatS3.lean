/-
  MADE BY PROGRAM (my own gen.py) out of the translation: the Go functions as typed texts, each tied to the model by the kernel.
-/
import Derived.Test.Qxb6500563aGreatS2
set_option linter.unusedVariables false
namespace Go.Proofs.Qxb6500563aGreat
open Go.Den

/-- e2e/blockm.Bits (function 59). -/
def S.blockm_Bits (kind : Int) (n : Int) (c : Sl) (l : Sl) (w : World) (K : Int → World → Prop) : Prop :=
  if (kind == 0) = true then
    K (W (24 + (W (8 * n)))) w
  else
    Join (fun (sum_1 : Int) (w : World) =>
      LoopP (σ := Int × Int × Unit) (fun st2 w next3 =>
        if (decide (st2.2.1 < (c.l : Int))) = true then
          Join (fun (sum_4 : Int) (w : World) =>
            Let (W (st2.2.1 + 1)) fun s_5 =>
            next3 (sum_4, s_5, ()) w) fun J6 =>
          Drew w fun w =>
          Ix c.a c.l st2.2.1 fun b7 o8 =>
          LdI .i64 w ⟨b7, o8 + Int.toNat st2.2.1 * 1, none⟩ fun x_9 =>
          Ix l.a l.l st2.2.1 fun b10 o11 =>
          LdI .i64 w ⟨b10, o11 + Int.toNat st2.2.1 * 1, none⟩ fun x_12 =>
          Let (W (st2.1 + (W (x_9 * x_12)))) fun sum_13 =>
          if (decide (st2.2.1 ≥ 265)) = true then
            S.api_DistBase (W (st2.2.1 - 265)) w (fun r14 r15 w =>
            Ix c.a c.l st2.2.1 fun b16 o17 =>
            LdI .i64 w ⟨b16, o17 + Int.toNat st2.2.1 * 1, none⟩ fun x_18 =>
            Let (W (sum_13 + (W (x_18 * r15)))) fun sum_19 =>
            J6 sum_19 w)
          else
            J6 sum_13 w
        else
          K st2.1 w) (sum_1, 0, ()) w) fun J20 =>
    if (kind == 2) = true then
      S.blockm_Items l w (fun r21 w =>
      LoopP (σ := Int × Int × Unit) (fun st22 w next23 =>
        if (decide (st22.2.1 < (r21.l : Int))) = true then
          Ix r21.a r21.l (W (st22.2.1 + 2)) fun b24 o25 =>
          LdI .i64 w ⟨b24, o25 + Int.toNat (W (st22.2.1 + 2)) * 1, none⟩ fun x_26 =>
          Let (W ((W (st22.1 + 4)) + x_26)) fun sum_27 =>
          Let (W (st22.2.1 + 3)) fun k_28 =>
          next23 (sum_27, k_28, ()) w
        else
          J20 st22.1 w) (3, 0, ()) w)
    else
      J20 3 w
def T.C59 : CallT := (CallT.cons 93 T.c93 (CallT.cons 92 T.c92 CallT.nil))
def T.A59 : Ann := fun i => bif Nat.beq i 7 then some ([2, 3, 10], [(9, 0), (11, 0)]) else bif Nat.beq i 11 then some ([2, 3], [(9, 0), (12, 0)]) else none
set_option maxRecDepth 1000000 in
theorem T.eq59 (kind : Int) (n : Int) (c : Sl) (l : Sl) (w : World) (K : Int → World → Prop) : denF Tryz.prog T.C59 T.A59 Tryz.f59 [.int .i64 kind, .int .i64 n, .slice c.a c.l c.c, .slice l.a l.l l.c] w (fun v w' => match v with | .int .i64 r0 => K r0 w' | _ => False) = S.blockm_Bits kind n c l w K := by kernel_rfl
theorem T.CO59 : CallOk Tryz.prog T.C59 := (CallOk.cons 93 T.ok93 (CallOk.cons 92 T.ok92 CallOk.nil))
def T.c59 (vs : List Value) (w : World) (K : Value → World → Prop) : Prop :=
  match vs with
  | [.int .i64 kind, .int .i64 n, .slice ca cl cc, .slice la ll lc] => S.blockm_Bits kind n ⟨ca, cl, cc⟩ ⟨la, ll, lc⟩ w (fun r0 w' => K (.int .i64 r0) w')
  | _ => False
theorem T.ok59 : ∀ vs w K, T.c59 vs w K → (callFunc 59 vs.toArray).run Tryz.prog w = .ok (.enter 59 vs.toArray) w ∧ Calls Tryz.prog 59 vs.toArray w fun e w' => ∃ v, e = .returned v ∧ K v w' := by
  intro vs w K h
  unfold T.c59 at h
  split at h
  · refine ⟨Tryz.call59 _ _, ok_of T.CO59 mixed Tryz.func59 (T.eq59 _ _ _ _ _ _) h fun v w' hk => ⟨v, rfl, ?_⟩⟩
    split at hk
    · exact hk
    · exact hk.elim
  · exact h.elim

/-- e2e/blockm.Choose (function 60). -/
def S.blockm_Choose (stored : Int) (fixed : Int) (dynamic : Int) (w : World) (K : Int → World → Prop) : Prop :=
  Join (fun (w : World) =>
    if (decide (fixed ≤ dynamic)) = true then
      K 1 w
    else
      K 2 w) fun J1 =>
  if (decide (stored ≤ fixed)) = true then
    if (decide (stored ≤ dynamic)) = true then
      K 0 w
    else
      J1 w
  else
    J1 w
def T.C60 : CallT := CallT.nil
def T.A60 : Ann := fun _ => none
set_option maxRecDepth 1000000 in
theorem T.eq60 (stored : Int) (fixed : Int) (dynamic : Int) (w : World) (K : Int → World → Prop) : denF Tryz.prog T.C60 T.A60 Tryz.f60 [.int .i64 stored, .int .i64 fixed, .int .i64 dynamic] w (fun v w' => match v with | .int .i64 r0 => K r0 w' | _ => False) = S.blockm_Choose stored fixed dynamic w K := by kernel_rfl
theorem T.CO60 : CallOk Tryz.prog T.C60 := CallOk.nil
def T.c60 (vs : List Value) (w : World) (K : Value → World → Prop) : Prop :=
  match vs with
  | [.int .i64 stored, .int .i64 fixed, .int .i64 dynamic] => S.blockm_Choose stored fixed dynamic w (fun r0 w' => K (.int .i64 r0) w')
  | _ => False
theorem T.ok60 : ∀ vs w K, T.c60 vs w K → (callFunc 60 vs.toArray).run Tryz.prog w = .ok (.enter 60 vs.toArray) w ∧ Calls Tryz.prog 60 vs.toArray w fun e w' => ∃ v, e = .returned v ∧ K v w' := by
  intro vs w K h
  unfold T.c60 at h
  split at h
  · refine ⟨Tryz.call60 _ _, ok_of T.CO60 mixed Tryz.func60 (T.eq60 _ _ _ _ _) h fun v w' hk => ⟨v, rfl, ?_⟩⟩
    split at hk
    · exact hk
    · exact hk.elim
  · exact h.elim

/-- e2e/bitsm.New (function 67). -/
def S.bitsm_New (w : World) (K : Nat → World → Prop) : Prop :=
  New w (.cells #[.slice none 0 0, .int .i64 0] 180) fun p1 w =>
  K p1 w
def T.C67 : CallT := CallT.nil
def T.A67 : Ann := fun _ => none
set_option maxRecDepth 1000000 in
theorem T.eq67 (w : World) (K : Nat → World → Prop) : denF Tryz.prog T.C67 T.A67 Tryz.f67 [] w (fun v w' => match v with | .pointer (some ⟨r0, 0, none⟩) => K r0 w' | _ => False) = S.bitsm_New w K := by kernel_rfl
theorem T.CO67 : CallOk Tryz.prog T.C67 := CallOk.nil
def T.c67 (vs : List Value) (w : World) (K : Value → World → Prop) : Prop :=
  match vs with
  | [] => S.bitsm_New w (fun r0 w' => K (.pointer (some ⟨r0, 0, none⟩)) w')
  | _ => False
theorem T.ok67 : ∀ vs w K, T.c67 vs w K → (callFunc 67 vs.toArray).run Tryz.prog w = .ok (.enter 67 vs.toArray) w ∧ Calls Tryz.prog 67 vs.toArray w fun e w' => ∃ v, e = .returned v ∧ K v w' := by
  intro vs w K h
  unfold T.c67 at h
  split at h
  · refine ⟨Tryz.call67 _ _, ok_of T.CO67 mixed Tryz.func67 (T.eq67 _ _) h fun v w' hk => ⟨v, rfl, ?_⟩⟩
    split at hk
    · exact hk
    · exact hk.elim
  · exact h.elim

/-- (*e2e/bitsm.Tape).Put (function 94). -/
def S.bitsm_Tape_Put (t : Nat) (v : Int) (n : Int) (w : World) (K : Int → World → Prop) : Prop :=
  if (decide (n < 0)) = true then
    K 2 w
  else
    if (decide (n > 16)) = true then
      K 2 w
    else
      if (decide (v < 0)) = true then
        K 2 w
      else
        Pos (U64 n) <|
        if ((Shr .i64 v (U64 n)) != 0) = true then
          K 2 w
        else
          LdS w ⟨t, 0, none⟩ fun bit_1 =>
          if (decide ((W ((bit_1.l : Int) + n)) > 4096)) = true then
            K 3 w
          else
            LoopP (σ := Int × Unit) (fun st2 w next3 =>
              if (decide (st2.1 < n)) = true then
                LdS w ⟨t, 0, none⟩ fun bit_4 =>
                Pos (U64 st2.1) <|
                New w (.cells #[.int .u8 (U8 (And .i64 (Shr .i64 v (U64 st2.1)) 1))] 5) fun p5 w =>
                AppS 5 [.int .u8 0] 1 1 w bit_4 ⟨some ⟨p5, 0, none⟩, 1, 1⟩ fun l6 w =>
                St1 w ⟨t, 0, none⟩ (.slice l6.a l6.l l6.c) fun w =>
                Let (W (st2.1 + 1)) fun k_7 =>
                next3 (k_7, ()) w
              else
                K 0 w) (0, ()) w
def T.C94 : CallT := CallT.nil
def T.A94 : Ann := fun i => bif Nat.beq i 6 then some ([0, 1, 2], [(7, 0)]) else none
set_option maxRecDepth 1000000 in
theorem T.eq94 (t : Nat) (v : Int) (n : Int) (w : World) (K : Int → World → Prop) : denF Tryz.prog T.C94 T.A94 Tryz.f94 [.pointer (some ⟨t, 0, none⟩), .int .i64 v, .int .i64 n] w (fun v w' => match v with | .int .i64 r0 => K r0 w' | _ => False) = S.bitsm_Tape_Put t v n w K := by kernel_rfl
theorem T.CO94 : CallOk Tryz.prog T.C94 := CallOk.nil
def T.c94 (vs : List Value) (w : World) (K : Value → World → Prop) : Prop :=
  match vs with
  | [.pointer (some ⟨t, 0, none⟩), .int .i64 v, .int .i64 n] => S.bitsm_Tape_Put t v n w (fun r0 w' => K (.int .i64 r0) w')
  | _ => False
theorem T.ok94 : ∀ vs w K, T.c94 vs w K → (callFunc 94 vs.toArray).run Tryz.prog w = .ok (.enter 94 vs.toArray) w ∧ Calls Tryz.prog 94 vs.toArray w fun e w' => ∃ v, e = .returned v ∧ K v w' := by
  intro vs w K h
  unfold T.c94 at h
  split at h
  · refine ⟨Tryz.call94 _ _, ok_of T.CO94 mixed Tryz.func94 (T.eq94 _ _ _ _ _) h fun v w' hk => ⟨v, rfl, ?_⟩⟩
    split at hk
    · exact hk
    · exact hk.elim
  · exact h.elim

/-- (*e2e/bitsm.Tape).Pad (function 95). -/
def S.bitsm_Tape_Pad (t : Nat) (w : World) (K : World → Prop) : Prop :=
  LoopP (σ := Unit) (fun st1 w next2 =>
    LdS w ⟨t, 0, none⟩ fun bit_3 =>
    if ((Int.tmod (bit_3.l : Int) 8) != 0) = true then
      LdS w ⟨t, 0, none⟩ fun bit_4 =>
      New w (.cells #[.int .u8 0] 5) fun p5 w =>
      AppS 5 [.int .u8 0] 1 1 w bit_4 ⟨some ⟨p5, 0, none⟩, 1, 1⟩ fun l6 w =>
      St1 w ⟨t, 0, none⟩ (.slice l6.a l6.l l6.c) fun w =>
      next2 (()) w
    else
      K w) (()) w
def T.C95 : CallT := CallT.nil
def T.A95 : Ann := fun i => bif Nat.beq i 0 then some ([0], []) else none
set_option maxRecDepth 1000000 in
theorem T.eq95 (t : Nat) (w : World) (K : World → Prop) : denF Tryz.prog T.C95 T.A95 Tryz.f95 [.pointer (some ⟨t, 0, none⟩)] w (fun v w' => match v with | .tuple ⟨[]⟩ => K w' | _ => False) = S.bitsm_Tape_Pad t w K := by kernel_rfl
theorem T.CO95 : CallOk Tryz.prog T.C95 := CallOk.nil
def T.c95 (vs : List Value) (w : World) (K : Value → World → Prop) : Prop :=
  match vs with
  | [.pointer (some ⟨t, 0, none⟩)] => S.bitsm_Tape_Pad t w (fun w' => K (.tuple #[]) w')
  | _ => False

theorem T.ok95 : ∀ vs w K, T.c95 vs w K → (callFunc 95 vs.toArray).run Tryz.prog w = .ok (.enter 95 vs.toArray) w ∧ Calls Tryz.prog 95 vs.toArray w fun e w' => ∃ v, e = .returned v ∧ K v w' := by
  intro vs w K h
  unfold T.c95 at h
  split at h
  · refine ⟨Tryz.call95 _ _, ok_of T.CO95 mixed Tryz.func95 (T.eq95 _ _ _) h fun v w' hk => ⟨v, rfl, ?_⟩⟩
    split at hk
    · exact hk
    · exact hk.elim
  · exact h.elim

/-- (*e2e/bitsm.Tape).Text (function 96). -/
def S.bitsm_Tape_Text (t : Nat) (w : World) (K : ByteArray → World → Prop) : Prop :=
  LdS w ⟨t, 0, none⟩ fun bit_1 =>
  MkS 5 [.int .u8 0] 1 w (W (Int.tdiv (W ((bit_1.l : Int) + 7)) 8)) (W (Int.tdiv (W ((bit_1.l : Int) + 7)) 8)) fun l2 w =>
  Join (fun (w : World) =>
    BtS w l2 fun s3 =>
    K s3 w) fun J4 =>
  LoopP (σ := Int × Unit) (fun st5 w next6 =>
    LdS w ⟨t, 0, none⟩ fun bit_7 =>
    if (decide (st5.1 < (bit_7.l : Int))) = true then
      Drew w fun w =>
      Ix l2.a l2.l (W (Int.tdiv st5.1 8)) fun b8 o9 =>
      LdI .u8 w ⟨b8, o9 + Int.toNat (W (Int.tdiv st5.1 8)) * 1, none⟩ fun x_10 =>
      LdS w ⟨t, 0, none⟩ fun bit_11 =>
      Ix bit_11.a bit_11.l st5.1 fun b12 o13 =>
      LdI .u8 w ⟨b12, o13 + Int.toNat st5.1 * 1, none⟩ fun x_14 =>
      Pos (U64 (Int.tmod st5.1 8)) <|
      Ix l2.a l2.l (W (Int.tdiv st5.1 8)) fun b15 o16 =>
      St1 w ⟨b15, o16 + Int.toNat (W (Int.tdiv st5.1 8)) * 1, none⟩ (.int .u8 (Or .u8 x_10 (Shl .u8 x_14 (U64 (Int.tmod st5.1 8))))) fun w =>
      Let (W (st5.1 + 1)) fun i_17 =>
      next6 (i_17, ()) w
    else
      J4 w) (0, ()) w
def T.C96 : CallT := CallT.nil
def T.A96 : Ann := fun i => bif Nat.beq i 3 then some ([0, 3], [(4, 0)]) else none
set_option maxRecDepth 1000000 in
theorem T.eq96 (t : Nat) (w : World) (K : ByteArray → World → Prop) : denF Tryz.prog T.C96 T.A96 Tryz.f96 [.pointer (some ⟨t, 0, none⟩)] w (fun v w' => match v with | .string r0 => K r0 w' | _ => False) = S.bitsm_Tape_Text t w K := by kernel_rfl
theorem T.CO96 : CallOk Tryz.prog T.C96 := CallOk.nil
def T.c96 (vs : List Value) (w : World) (K : Value → World → Prop) : Prop :=
  match vs with
  | [.pointer (some ⟨t, 0, none⟩)] => S.bitsm_Tape_Text t w (fun r0 w' => K (.string r0) w')
  | _ => False
theorem T.ok96 : ∀ vs w K, T.c96 vs w K → (callFunc 96 vs.toArray).run Tryz.prog w = .ok (.enter 96 vs.toArray) w ∧ Calls Tryz.prog 96 vs.toArray w fun e w' => ∃ v, e = .returned v ∧ K v w' := by
  intro vs w K h
  unfold T.c96 at h
  split at h
  · refine ⟨Tryz.call96 _ _, ok_of T.CO96 mixed Tryz.func96 (T.eq96 _ _ _) h fun v w' hk => ⟨v, rfl, ?_⟩⟩
    split at hk
    · exact hk
    · exact hk.elim
  · exact h.elim

/-- e2e/huffm.Kraft (function 150). -/
def S.huffm_Kraft (lens : Sl) (w : World) (K : Int → World → Prop) : Prop :=
  LoopP (σ := Int × Int × Unit) (fun st1 w next2 =>
    if (decide (st1.2.1 < (lens.l : Int))) = true then
      Join (fun (k_3 : Int) (w : World) =>
        Let (W (st1.2.1 + 1)) fun i_4 =>
        next2 (k_3, i_4, ()) w) fun J5 =>
      Ix lens.a lens.l st1.2.1 fun b6 o7 =>
      LdI .i64 w ⟨b6, o7 + Int.toNat st1.2.1 * 1, none⟩ fun x_8 =>
      if (decide (x_8 > 0)) = true then
        Ix lens.a lens.l st1.2.1 fun b9 o10 =>
        LdI .i64 w ⟨b9, o10 + Int.toNat st1.2.1 * 1, none⟩ fun x_11 =>
        Pos (U64 (W (10 - x_11))) <|
        Let (W (st1.1 + (Shl .i64 1 (U64 (W (10 - x_11)))))) fun k_12 =>
        J5 k_12 w
      else
        J5 st1.1 w
    else
      K st1.1 w) (0, 0, ()) w
def T.C150 : CallT := CallT.nil
def T.A150 : Ann := fun i => bif Nat.beq i 3 then some ([0], [(3, 0), (4, 0)]) else none
set_option maxRecDepth 1000000 in
theorem T.eq150 (lens : Sl) (w : World) (K : Int → World → Prop) : denF Tryz.prog T.C150 T.A150 Tryz.f150 [.slice lens.a lens.l lens.c] w (fun v w' => match v with | .int .i64 r0 => K r0 w' | _ => False) = S.huffm_Kraft lens w K := by kernel_rfl
theorem T.CO150 : CallOk Tryz.prog T.C150 := CallOk.nil
def T.c150 (vs : List Value) (w : World) (K : Value → World → Prop) : Prop :=
  match vs with
  | [.slice lensa lensl lensc] => S.huffm_Kraft ⟨lensa, lensl, lensc⟩ w (fun r0 w' => K (.int .i64 r0) w')
  | _ => False
theorem T.ok150 : ∀ vs w K, T.c150 vs w K → (callFunc 150 vs.toArray).run Tryz.prog w = .ok (.enter 150 vs.toArray) w ∧ Calls Tryz.prog 150 vs.toArray w fun e w' => ∃ v, e = .returned v ∧ K v w' := by
  intro vs w K h
  unfold T.c150 at h
  split at h
  · refine ⟨Tryz.call150 _ _, ok_of T.CO150 mixed Tryz.func150 (T.eq150 _ _ _) h fun v w' hk => ⟨v, rfl, ?_⟩⟩
    split at hk
    · exact hk
    · exact hk.elim
  · exact h.elim

/-- e2e/huffm.CheckLens (function 122). -/
def S.huffm_CheckLens (lens : Sl) (w : World) (K : Int → World → Prop) : Prop :=
  if (decide ((lens.l : Int) > 265)) = true then
    K 1 w
  else
    Join (fun (w : World) =>
      S.huffm_Kraft lens w (fun r1 w =>
      if (decide (r1 > 1024)) = true then
        K 6 w
      else
        S.huffm_Used lens w (fun r2 w =>
        if (decide (r1 < 1024)) = true then
          if (decide (r2 > 0)) = true then
            if (decide (r2 > 1)) = true then
              K 7 w
            else
              if (r1 != 512) = true then
                K 7 w
              else
                K 0 w
          else
            K 0 w
        else
          K 0 w))) fun J3 =>
    LoopP (σ := Int × Unit) (fun st4 w next5 =>
      if (decide (st4.1 < (lens.l : Int))) = true then
        Ix lens.a lens.l st4.1 fun b6 o7 =>
        LdI .i64 w ⟨b6, o7 + Int.toNat st4.1 * 1, none⟩ fun x_8 =>
        if (decide (x_8 < 0)) = true then
          K 2 w
        else
          Ix lens.a lens.l st4.1 fun b9 o10 =>
          LdI .i64 w ⟨b9, o10 + Int.toNat st4.1 * 1, none⟩ fun x_11 =>
          if (decide (x_11 > 10)) = true then
            K 2 w
          else
            Let (W (st4.1 + 1)) fun i_12 =>
            next5 (i_12, ()) w
      else
        J3 w) (0, ()) w
def T.C122 : CallT := (CallT.cons 150 T.c150 (CallT.cons 88 T.c88 CallT.nil))
def T.A122 : Ann := fun i => bif Nat.beq i 4 then some ([0], [(3, 0)]) else none
set_option maxRecDepth 1000000 in
theorem T.eq122 (lens : Sl) (w : World) (K : Int → World → Prop) : denF Tryz.prog T.C122 T.A122 Tryz.f122 [.slice lens.a lens.l lens.c] w (fun v w' => match v with | .int .i64 r0 => K r0 w' | _ => False) = S.huffm_CheckLens lens w K := by kernel_rfl
theorem T.CO122 : CallOk Tryz.prog T.C122 := (CallOk.cons 150 T.ok150 (CallOk.cons 88 T.ok88 CallOk.nil))
def T.c122 (vs : List Value) (w : World) (K : Value → World → Prop) : Prop :=
  match vs with
  | [.slice lensa lensl lensc] => S.huffm_CheckLens ⟨lensa, lensl, lensc⟩ w (fun r0 w' => K (.int .i64 r0) w')
  | _ => False
theorem T.ok122 : ∀ vs w K, T.c122 vs w K → (callFunc 122 vs.toArray).run Tryz.prog w = .ok (.enter 122 vs.toArray) w ∧ Calls Tryz.prog 122 vs.toArray w fun e w' => ∃ v, e = .returned v ∧ K v w' := by
  intro vs w K h
  unfold T.c122 at h
  split at h
  · refine ⟨Tryz.call122 _ _, ok_of T.CO122 mixed Tryz.func122 (T.eq122 _ _ _) h fun v w' hk => ⟨v, rfl, ?_⟩⟩
    split at hk
    · exact hk
    · exact hk.elim
  · exact h.elim

/-- e2e/huffm.turn (function 123). -/
def S.huffm_turn (v : Int) (n : Int) (w : World) (K : Int → World → Prop) : Prop :=
  LoopP (σ := Int × Int × Unit) (fun st1 w next2 =>
    if (decide (st1.2.1 < n)) = true then
      Pos (U64 st1.2.1) <|
      Let (Or .i64 (Shl .i64 st1.1 1) (And .i64 (Shr .i64 v (U64 st1.2.1)) 1)) fun r_3 =>
      Let (W (st1.2.1 + 1)) fun k_4 =>
      next2 (r_3, k_4, ()) w
    else
      K st1.1 w) (0, 0, ()) w
def T.C123 : CallT := CallT.nil
def T.A123 : Ann := fun i => bif Nat.beq i 3 then some ([0, 1], [(5, 0), (6, 0)]) else none
set_option maxRecDepth 1000000 in
theorem T.eq123 (v : Int) (n : Int) (w : World) (K : Int → World → Prop) : denF Tryz.prog T.C123 T.A123 Tryz.f123 [.int .i64 v, .int .i64 n] w (fun v w' => match v with | .int .i64 r0 => K r0 w' | _ => False) = S.huffm_turn v n w K := by kernel_rfl
theorem T.CO123 : CallOk Tryz.prog T.C123 := CallOk.nil
def T.c123 (vs : List Value) (w : World) (K : Value → World → Prop) : Prop :=
  match vs with
  | [.int .i64 v, .int .i64 n] => S.huffm_turn v n w (fun r0 w' => K (.int .i64 r0) w')
  | _ => False
theorem T.ok123 : ∀ vs w K, T.c123 vs w K → (callFunc 123 vs.toArray).run Tryz.prog w = .ok (.enter 123 vs.toArray) w ∧ Calls Tryz.prog 123 vs.toArray w fun e w' => ∃ v, e = .returned v ∧ K v w' := by
  intro vs w K h
  unfold T.c123 at h
  split at h
  · refine ⟨Tryz.call123 _ _, ok_of T.CO123 mixed Tryz.func123 (T.eq123 _ _ _ _) h fun v w' hk => ⟨v, rfl, ?_⟩⟩
    split at hk
    · exact hk
    · exact hk.elim
  · exact h.elim

/-- (*e2e/huffm.Coder).Build (function 97). -/
def S.huffm_Coder_Build (c : Nat) (lens : Sl) (w : World) (K : Int → World → Prop) : Prop :=
  S.huffm_CheckLens lens w (fun r1 w =>
  if (r1 != 0) = true then
    K r1 w
  else
    S.api_CopyInts lens w (fun r2 w =>
    St1 w ⟨c, 0, none⟩ (.slice r2.a r2.l r2.c) fun w =>
    MkS 3 [.int .i64 0] 8 w (lens.l : Int) (lens.l : Int) fun l3 w =>
    St1 w ⟨c, 1, none⟩ (.slice l3.a l3.l l3.c) fun w =>
    LoopP (σ := Int × Int × Unit) (fun st4 w next5 =>
      if (decide (st4.2.1 ≤ 10)) = true then
        Let (Shl .i64 st4.1 1) fun next_6 =>
        Join (fun (next_7 : Int) (w : World) =>
          Let (W (st4.2.1 + 1)) fun n_8 =>
          next5 (next_7, n_8, ()) w) fun J9 =>
        LoopP (σ := Int × Int × Unit) (fun st10 w next11 =>
          if (decide (st10.2.1 < (lens.l : Int))) = true then
            Join (fun (next_12 : Int) (w : World) =>
              Let (W (st10.2.1 + 1)) fun s_13 =>
              next11 (next_12, s_13, ()) w) fun J14 =>
            Ix lens.a lens.l st10.2.1 fun b15 o16 =>
            LdI .i64 w ⟨b15, o16 + Int.toNat st10.2.1 * 1, none⟩ fun code_17 =>
            if (code_17 == st4.2.1) = true then
              Drew w fun w =>
              Hold w ⟨c, 1, none⟩ 1 fun R18 =>
              LdS w ⟨c, 1, none⟩ fun code_19 =>
              S.huffm_turn st10.1 st4.2.1 w (fun r20 w =>
              After R18 w <|
              Ix code_19.a code_19.l st10.2.1 fun b21 o22 =>
              St1 w ⟨b21, o22 + Int.toNat st10.2.1 * 1, none⟩ (.int .i64 r20) fun w =>
              Let (W (st10.1 + 1)) fun next_23 =>
              J14 next_23 w)
            else
              J14 st10.1 w
          else
            J9 st10.1 w) (next_6, 0, ()) w
      else
        K 0 w) (0, 1, ()) w))
def T.C97 : CallT := (CallT.cons 122 T.c122 (CallT.cons 119 T.c119 (CallT.cons 123 T.c123 CallT.nil)))
def T.A97 : Ann := fun i => bif Nat.beq i 12 then some ([0, 1, 7], [(6, 0), (8, 0)]) else bif Nat.beq i 8 then some ([0, 1], [(6, 0), (7, 0)]) else none
set_option maxRecDepth 1000000 in
theorem T.eq97 (c : Nat) (lens : Sl) (w : World) (K : Int → World → Prop) : denF Tryz.prog T.C97 T.A97 Tryz.f97 [.pointer (some ⟨c, 0, none⟩), .slice lens.a lens.l lens.c] w (fun v w' => match v with | .int .i64 r0 => K r0 w' | _ => False) = S.huffm_Coder_Build c lens w K := by kernel_rfl
theorem T.CO97 : CallOk Tryz.prog T.C97 := (CallOk.cons 122 T.ok122 (CallOk.cons 119 T.ok119 (CallOk.cons 123 T.ok123 CallOk.nil)))
def T.c97 (vs : List Value) (w : World) (K : Value → World → Prop) : Prop :=
  match vs with
  | [.pointer (some ⟨c, 0, none⟩), .slice lensa lensl lensc] => S.huffm_Coder_Build c ⟨lensa, lensl, lensc⟩ w (fun r0 w' => K (.int .i64 r0) w')
  | _ => False
theorem T.ok97 : ∀ vs w K, T.c97 vs w K → (callFunc 97 vs.toArray).run Tryz.prog w = .ok (.enter 97 vs.toArray) w ∧ Calls Tryz.prog 97 vs.toArray w fun e w' => ∃ v, e = .returned v ∧ K v w' := by
  intro vs w K h
  unfold T.c97 at h
  split at h
  · refine ⟨Tryz.call97 _ _, ok_of T.CO97 mixed Tryz.func97 (T.eq97 _ _ _ _) h fun v w' hk => ⟨v, rfl, ?_⟩⟩
    split at hk
    · exact hk
    · exact hk.elim
  · exact h.elim

/-- (*e2e/huffm.Coder).Code (function 124). -/
def S.huffm_Coder_Code (c : Nat) (sym : Int) (w : World) (K : Int → Int → Int → World → Prop) : Prop :=
  Join (fun (w : World) =>
    K 0 0 2 w) fun J1 =>
  if (decide (sym < 0)) = true then
    J1 w
  else
    LdS w ⟨c, 0, none⟩ fun lens_2 =>
    if (decide (sym ≥ (lens_2.l : Int))) = true then
      J1 w
    else
      LdS w ⟨c, 0, none⟩ fun lens_3 =>
      Ix lens_3.a lens_3.l sym fun b4 o5 =>
      LdI .i64 w ⟨b4, o5 + Int.toNat sym * 1, none⟩ fun x_6 =>
      if (x_6 == 0) = true then
        J1 w
      else
        Drew w fun w =>
        LdS w ⟨c, 1, none⟩ fun code_7 =>
        Ix code_7.a code_7.l sym fun b8 o9 =>
        LdI .i64 w ⟨b8, o9 + Int.toNat sym * 1, none⟩ fun x_10 =>
        LdS w ⟨c, 0, none⟩ fun lens_11 =>
        Ix lens_11.a lens_11.l sym fun b12 o13 =>
        LdI .i64 w ⟨b12, o13 + Int.toNat sym * 1, none⟩ fun x_14 =>
        K x_10 x_14 0 w
def T.C124 : CallT := CallT.nil
def T.A124 : Ann := fun _ => none
set_option maxRecDepth 1000000 in
theorem T.eq124 (c : Nat) (sym : Int) (w : World) (K : Int → Int → Int → World → Prop) : denF Tryz.prog T.C124 T.A124 Tryz.f124 [.pointer (some ⟨c, 0, none⟩), .int .i64 sym] w (fun v w' => match v with | .tuple ⟨[.int .i64 r0, .int .i64 r1, .int .i64 r2]⟩ => K r0 r1 r2 w' | _ => False) = S.huffm_Coder_Code c sym w K := by kernel_rfl
theorem T.CO124 : CallOk Tryz.prog T.C124 := CallOk.nil
def T.c124 (vs : List Value) (w : World) (K : Value → World → Prop) : Prop :=
  match vs with
  | [.pointer (some ⟨c, 0, none⟩), .int .i64 sym] => S.huffm_Coder_Code c sym w (fun r0 r1 r2 w' => K (.tuple #[.int .i64 r0, .int .i64 r1, .int .i64 r2]) w')
  | _ => False
theorem T.ok124 : ∀ vs w K, T.c124 vs w K → (callFunc 124 vs.toArray).run Tryz.prog w = .ok (.enter 124 vs.toArray) w ∧ Calls Tryz.prog 124 vs.toArray w fun e w' => ∃ v, e = .returned v ∧ K v w' := by
  intro vs w K h
  unfold T.c124 at h
  split at h
  · refine ⟨Tryz.call124 _ _, ok_of T.CO124 mixed Tryz.func124 (T.eq124 _ _ _ _) h fun v w' hk => ⟨v, rfl, ?_⟩⟩
    split at hk
    · exact hk
    · exact hk.elim
  · exact h.elim

/-- e2e/blockm.put (function 98). -/
def S.blockm_put (t : Nat) (c : Nat) (s_ : Int) (w : World) (K : World → Prop) : Prop :=
  S.huffm_Coder_Code c s_ w (fun r1 r2 r3 w =>
  S.bitsm_Tape_Put t r1 r2 w (fun r4 w =>
  K w))
def T.C98 : CallT := (CallT.cons 124 T.c124 (CallT.cons 94 T.c94 CallT.nil))
def T.A98 : Ann := fun _ => none
set_option maxRecDepth 1000000 in
theorem T.eq98 (t : Nat) (c : Nat) (s_ : Int) (w : World) (K : World → Prop) : denF Tryz.prog T.C98 T.A98 Tryz.f98 [.pointer (some ⟨t, 0, none⟩), .pointer (some ⟨c, 0, none⟩), .int .i64 s_] w (fun v w' => match v with | .tuple ⟨[]⟩ => K w' | _ => False) = S.blockm_put t c s_ w K := by kernel_rfl
theorem T.CO98 : CallOk Tryz.prog T.C98 := (CallOk.cons 124 T.ok124 (CallOk.cons 94 T.ok94 CallOk.nil))
def T.c98 (vs : List Value) (w : World) (K : Value → World → Prop) : Prop :=
  match vs with
  | [.pointer (some ⟨t, 0, none⟩), .pointer (some ⟨c, 0, none⟩), .int .i64 s_] => S.blockm_put t c s_ w (fun w' => K (.tuple #[]) w')
  | _ => False

theorem T.ok98 : ∀ vs w K, T.c98 vs w K → (callFunc 98 vs.toArray).run Tryz.prog w = .ok (.enter 98 vs.toArray) w ∧ Calls Tryz.prog 98 vs.toArray w fun e w' => ∃ v, e = .returned v ∧ K v w' := by
  intro vs w K h
  unfold T.c98 at h
  split at h
  · refine ⟨Tryz.call98 _ _, ok_of T.CO98 mixed Tryz.func98 (T.eq98 _ _ _ _ _) h fun v w' hk => ⟨v, rfl, ?_⟩⟩
    split at hk
    · exact hk
    · exact hk.elim
  · exact h.elim

/-- e2e/blockm.Emit (function 61). -/
def S.blockm_Emit (kind : Int) (data : ByteArray) (toks : Sl) (l : Sl) (w : World) (K : ByteArray → World → Prop) : Prop :=
  S.bitsm_New w (fun r1 w =>
  S.bitsm_Tape_Put r1 1 1 w (fun r2 w =>
  S.bitsm_Tape_Put r1 kind 2 w (fun r3 w =>
  if (kind == 0) = true then
    S.bitsm_Tape_Pad r1 w (fun w =>
    S.bitsm_Tape_Put r1 (data.size : Int) 16 w (fun r4 w =>
    Join (fun (w : World) =>
      S.bitsm_Tape_Text r1 w (fun r5 w =>
      K r5 w)) fun J6 =>
    LoopP (σ := Int × Unit) (fun st7 w next8 =>
      if (decide (st7.1 < (data.size : Int))) = true then
        IxStr data st7.1 fun c9 =>
        S.bitsm_Tape_Put r1 (W c9) 8 w (fun r10 w =>
        Let (W (st7.1 + 1)) fun i_11 =>
        next8 (i_11, ()) w)
      else
        J6 w) (0, ()) w))
  else
    Join (fun (w : World) =>
      S.huffm_New w (fun r12 w =>
      S.huffm_New w (fun r13 w =>
      CutS 1 l 0 265 (l.c : Int) fun l14 =>
      S.huffm_Coder_Build r12 l14 w (fun r15 w =>
      CutS 1 l 265 (l.l : Int) (l.c : Int) fun l16 =>
      S.huffm_Coder_Build r13 l16 w (fun r17 w =>
      Join (fun (w : World) =>
        S.blockm_put r1 r12 256 w (fun w =>
        S.bitsm_Tape_Text r1 w (fun r18 w =>
        K r18 w))) fun J19 =>
      LoopP (σ := Int × Unit) (fun st20 w next21 =>
        if (decide (st20.1 < (toks.l : Int))) = true then
          Join (fun (w : World) =>
            Let (W (st20.1 + 1)) fun k_22 =>
            next21 (k_22, ()) w) fun J23 =>
          Ix toks.a toks.l st20.1 fun b24 o25 =>
          LdI .i64 w ⟨b24, o25 + Int.toNat st20.1 * 3, none⟩ fun Len_26 =>
          if (Len_26 == 0) = true then
            Ix toks.a toks.l st20.1 fun b27 o28 =>
            LdI .i64 w ⟨b27, o28 + Int.toNat st20.1 * 3 + 2, none⟩ fun Lit_29 =>
            S.blockm_put r1 r12 Lit_29 w (fun w =>
            J23 w)
          else
            Ix toks.a toks.l st20.1 fun b30 o31 =>
            LdI .i64 w ⟨b30, o31 + Int.toNat st20.1 * 3, none⟩ fun Len_32 =>
            S.blockm_put r1 r12 (W ((W (257 + Len_32)) - 3)) w (fun w =>
            Ix toks.a toks.l st20.1 fun b33 o34 =>
            LdI .i64 w ⟨b33, o34 + Int.toNat st20.1 * 3 + 1, none⟩ fun Dist_35 =>
            S.api_DistCode Dist_35 w (fun r36 w =>
            S.blockm_put r1 r13 r36 w (fun w =>
            S.api_DistBase r36 w (fun r37 r38 w =>
            Ix toks.a toks.l st20.1 fun b39 o40 =>
            LdI .i64 w ⟨b39, o40 + Int.toNat st20.1 * 3 + 1, none⟩ fun Dist_41 =>
            S.bitsm_Tape_Put r1 (W (Dist_41 - r37)) r38 w (fun r42 w =>
            J23 w)))))
        else
          J19 w) (0, ()) w))))) fun J43 =>
    if (kind == 2) = true then
      S.blockm_Items l w (fun r44 w =>
      LoopP (σ := Int × Unit) (fun st45 w next46 =>
        if (decide (st45.1 < (r44.l : Int))) = true then
          Ix r44.a r44.l st45.1 fun b47 o48 =>
          LdI .i64 w ⟨b47, o48 + Int.toNat st45.1 * 1, none⟩ fun x_49 =>
          S.bitsm_Tape_Put r1 x_49 4 w (fun r50 w =>
          Drew w fun w =>
          Ix r44.a r44.l (W (st45.1 + 1)) fun b51 o52 =>
          LdI .i64 w ⟨b51, o52 + Int.toNat (W (st45.1 + 1)) * 1, none⟩ fun x_53 =>
          Ix r44.a r44.l (W (st45.1 + 2)) fun b54 o55 =>
          LdI .i64 w ⟨b54, o55 + Int.toNat (W (st45.1 + 2)) * 1, none⟩ fun x_56 =>
          S.bitsm_Tape_Put r1 x_53 x_56 w (fun r57 w =>
          Let (W (st45.1 + 3)) fun k_58 =>
          next46 (k_58, ()) w))
        else
          J43 w) (0, ()) w)
    else
      J43 w)))
def T.C61 : CallT := (CallT.cons 67 T.c67 (CallT.cons 94 T.c94 (CallT.cons 95 T.c95 (CallT.cons 96 T.c96 (CallT.cons 33 T.c33 (CallT.cons 97 T.c97 (CallT.cons 98 T.c98 (CallT.cons 86 T.c86 (CallT.cons 93 T.c93 (CallT.cons 92 T.c92 CallT.nil))))))))))
def T.A61 : Ann := fun i => bif Nat.beq i 15 then some ([2, 3, 9, 11], [(12, 0)]) else bif Nat.beq i 24 then some ([2, 9, 13, 14], [(15, 0)]) else bif Nat.beq i 8 then some ([1, 9], [(10, 0)]) else none
set_option maxRecDepth 1000000 in
theorem T.eq61 (kind : Int) (data : ByteArray) (toks : Sl) (l : Sl) (w : World) (K : ByteArray → World → Prop) : denF Tryz.prog T.C61 T.A61 Tryz.f61 [.int .i64 kind, .string data, .slice toks.a toks.l toks.c, .slice l.a l.l l.c] w (fun v w' => match v with | .string r0 => K r0 w' | _ => False) = S.blockm_Emit kind data toks l w K := by kernel_rfl
theorem T.CO61 : CallOk Tryz.prog T.C61 := (CallOk.cons 67 T.ok67 (CallOk.cons 94 T.ok94 (CallOk.cons 95 T.ok95 (CallOk.cons 96 T.ok96 (CallOk.cons 33 T.ok33 (CallOk.cons 97 T.ok97 (CallOk.cons 98 T.ok98 (CallOk.cons 86 T.ok86 (CallOk.cons 93 T.ok93 (CallOk.cons 92 T.ok92 CallOk.nil))))))))))
def T.c61 (vs : List Value) (w : World) (K : Value → World → Prop) : Prop :=
  match vs with
  | [.int .i64 kind, .string data, .slice toksa toksl toksc, .slice la ll lc] => S.blockm_Emit kind data ⟨toksa, toksl, toksc⟩ ⟨la, ll, lc⟩ w (fun r0 w' => K (.string r0) w')
  | _ => False
theorem T.ok61 : ∀ vs w K, T.c61 vs w K → (callFunc 61 vs.toArray).run Tryz.prog w = .ok (.enter 61 vs.toArray) w ∧ Calls Tryz.prog 61 vs.toArray w fun e w' => ∃ v, e = .returned v ∧ K v w' := by
  intro vs w K h
  unfold T.c61 at h
  split at h
  · refine ⟨Tryz.call61 _ _, ok_of T.CO61 mixed Tryz.func61 (T.eq61 _ _ _ _ _ _) h fun v w' hk => ⟨v, rfl, ?_⟩⟩
    split at hk
    · exact hk
    · exact hk.elim
  · exact h.elim

/-- (*e2e/blockm.Packer).Pack (function 41). -/
def S.blockm_Packer_Pack (p : Nat) (data : ByteArray) (level : Int) (w : World) (K : ByteArray → Int → World → Prop) : Prop :=
  if (decide ((data.size : Int) > 256)) = true then
    K ⟨#[]⟩ 1 w
  else
    if (decide (level < 0)) = true then
      K ⟨#[]⟩ 13 w
    else
      if (decide (level > 2)) = true then
        K ⟨#[]⟩ 13 w
      else
        LdP w ⟨p, 0, none⟩ fun z_1 =>
        S.lzm_Matcher_Parse z_1 data level w (fun r2 r3 w =>
        if (r3 != 0) = true then
          K ⟨#[]⟩ r3 w
        else
          S.blockm_Counts r2 w (fun r4 w =>
          Drew w fun w =>
          LdP w ⟨p, 1, none⟩ fun h_5 =>
          CutS 1 r4 0 265 (r4.c : Int) fun l6 =>
          S.huffm_Coder_Plan h_5 l6 10 w (fun r7 r8 w =>
          Drew w fun w =>
          LdP w ⟨p, 1, none⟩ fun h_9 =>
          CutS 1 r4 265 (r4.l : Int) (r4.c : Int) fun l10 =>
          S.huffm_Coder_Plan h_9 l10 10 w (fun r11 r12 w =>
          AppS 3 [.int .i64 0] 8 1 w r7 r11 fun l13 w =>
          S.blockm_FixedLens w (fun r14 w =>
          S.blockm_Bits 0 (data.size : Int) r4 r14 w (fun r15 w =>
          S.blockm_Bits 1 (data.size : Int) r4 r14 w (fun r16 w =>
          S.blockm_Bits 2 (data.size : Int) r4 l13 w (fun r17 w =>
          S.blockm_Choose r15 r16 r17 w (fun r18 w =>
          if (r18 == 2) = true then
            S.blockm_Emit r18 data r2 l13 w (fun r19 w =>
            K r19 0 w)
          else
            S.blockm_Emit r18 data r2 r14 w (fun r20 w =>
            K r20 0 w))))))))))
def T.C41 : CallT := (CallT.cons 55 T.c55 (CallT.cons 56 T.c56 (CallT.cons 57 T.c57 (CallT.cons 58 T.c58 (CallT.cons 59 T.c59 (CallT.cons 60 T.c60 (CallT.cons 61 T.c61 CallT.nil)))))))
def T.A41 : Ann := fun _ => none
set_option maxRecDepth 1000000 in
theorem T.eq41 (p : Nat) (data : ByteArray) (level : Int) (w : World) (K : ByteArray → Int → World → Prop) : denF Tryz.prog T.C41 T.A41 Tryz.f41 [.pointer (some ⟨p, 0, none⟩), .string data, .int .i64 level] w (fun v w' => match v with | .tuple ⟨[.string r0, .int .i64 r1]⟩ => K r0 r1 w' | _ => False) = S.blockm_Packer_Pack p data level w K := by kernel_rfl
theorem T.CO41 : CallOk Tryz.prog T.C41 := (CallOk.cons 55 T.ok55 (CallOk.cons 56 T.ok56 (CallOk.cons 57 T.ok57 (CallOk.cons 58 T.ok58 (CallOk.cons 59 T.ok59 (CallOk.cons 60 T.ok60 (CallOk.cons 61 T.ok61 CallOk.nil)))))))
def T.c41 (vs : List Value) (w : World) (K : Value → World → Prop) : Prop :=
  match vs with
  | [.pointer (some ⟨p, 0, none⟩), .string data, .int .i64 level] => S.blockm_Packer_Pack p data level w (fun r0 r1 w' => K (.tuple #[.string r0, .int .i64 r1]) w')
  | _ => False
theorem T.ok41 : ∀ vs w K, T.c41 vs w K → (callFunc 41 vs.toArray).run Tryz.prog w = .ok (.enter 41 vs.toArray) w ∧ Calls Tryz.prog 41 vs.toArray w fun e w' => ∃ v, e = .returned v ∧ K v w' := by
  intro vs w K h
  unfold T.c41 at h
  split at h
  · refine ⟨Tryz.call41 _ _, ok_of T.CO41 mixed Tryz.func41 (T.eq41 _ _ _ _ _) h fun v w' hk => ⟨v, rfl, ?_⟩⟩
    split at hk
    · exact hk
    · exact hk.elim
  · exact h.elim

/-- (*e2e/archm.Archive).Pack (function 24). -/
def S.archm_Archive_Pack (a : Nat) (l : Sl) (level : Int) (w : World) (K : ByteArray → Int → World → Prop) : Prop :=
  S.archm_CheckList l level w (fun r1 w =>
  if (r1 != 0) = true then
    K ⟨#[]⟩ r1 w
  else
    Let ⟨#[]⟩ fun text_2 =>
    Let ⟨#[]⟩ fun dir_3 =>
    Join (fun (text_4 : ByteArray) (dir_5 : ByteArray) (w : World) =>
      Let (text_4.size : Int) fun at_6 =>
      Drew w fun w =>
      CatOk text_4 dir_5 <|
      (New w (.cells #[.int .u8 (U8 (l.l : Int))] 5) fun p7 w =>
      HoldB w ⟨some ⟨p7, 0, none⟩, 1, 1⟩ fun R8 =>
      BtS w ⟨some ⟨p7, 0, none⟩, 1, 1⟩ fun s9 =>
      CatOk (text_4 ++ dir_5) s9 <|
      S.archm_two at_6 w (fun r10 w =>
      After R8 w <|
      CatOk ((text_4 ++ dir_5) ++ s9) r10 <|
      CatOk (((text_4 ++ dir_5) ++ s9) ++ r10) ⟨#[90]⟩ <|
      K ((((text_4 ++ dir_5) ++ s9) ++ r10) ++ ⟨#[90]⟩) 0 w)) ∧
      (S.archm_two at_6 w (fun r11 w =>
      New w (.cells #[.int .u8 (U8 (l.l : Int))] 5) fun p12 w =>
      BtS w ⟨some ⟨p12, 0, none⟩, 1, 1⟩ fun s13 =>
      CatOk (text_4 ++ dir_5) s13 <|
      CatOk ((text_4 ++ dir_5) ++ s13) r11 <|
      CatOk (((text_4 ++ dir_5) ++ s13) ++ r11) ⟨#[90]⟩ <|
      K ((((text_4 ++ dir_5) ++ s13) ++ r11) ++ ⟨#[90]⟩) 0 w))) fun J14 =>
    LoopP (σ := ByteArray × ByteArray × Int × Unit) (fun st15 w next16 =>
      if (decide (st15.2.2.1 < (l.l : Int))) = true then
        Drew w fun w =>
        LdP w ⟨a, 0, none⟩ fun k_17 =>
        Ix l.a l.l st15.2.2.1 fun b18 o19 =>
        LdStr w ⟨b18, o19 + Int.toNat st15.2.2.1 * 2 + 1, none⟩ fun Data_20 =>
        S.blockm_Packer_Pack k_17 Data_20 level w (fun r21 r22 w =>
        S.archm_two (st15.1.size : Int) w (fun r23 w =>
        CatOk st15.2.1 r23 <|
        Let (st15.2.1 ++ r23) fun dir_24 =>
        Ix l.a l.l st15.2.2.1 fun b25 o26 =>
        LdStr w ⟨b25, o26 + Int.toNat st15.2.2.1 * 2 + 1, none⟩ fun Data_27 =>
        S.archm_two (Data_27.size : Int) w (fun r28 w =>
        S.archm_two (r21.size : Int) w (fun r29 w =>
        Ix l.a l.l st15.2.2.1 fun b30 o31 =>
        LdStr w ⟨b30, o31 + Int.toNat st15.2.2.1 * 2 + 1, none⟩ fun Data_32 =>
        S.api_Sum Data_32 w (fun r33 w =>
        S.archm_two r33 w (fun r34 w =>
        Drew w fun w =>
        Ix l.a l.l st15.2.2.1 fun b35 o36 =>
        LdStr w ⟨b35, o36 + Int.toNat st15.2.2.1 * 2, none⟩ fun Name_37 =>
        Ix l.a l.l st15.2.2.1 fun b38 o39 =>
        Hold w ⟨b38, o39 + Int.toNat st15.2.2.1 * 2, none⟩ 1 fun R40 =>
        LdStr w ⟨b38, o39 + Int.toNat st15.2.2.1 * 2, none⟩ fun Name_41 =>
        New w (.cells #[.int .u8 (U8 (Name_37.size : Int))] 5) fun p42 w =>
        After R40 w <|
        BtS w ⟨some ⟨p42, 0, none⟩, 1, 1⟩ fun s43 =>
        CatOk st15.1 s43 <|
        CatOk (st15.1 ++ s43) Name_41 <|
        CatOk ((st15.1 ++ s43) ++ Name_41) r28 <|
        CatOk (((st15.1 ++ s43) ++ Name_41) ++ r28) r29 <|
        CatOk ((((st15.1 ++ s43) ++ Name_41) ++ r28) ++ r29) r34 <|
        CatOk (((((st15.1 ++ s43) ++ Name_41) ++ r28) ++ r29) ++ r34) r21 <|
        Let (W (st15.2.2.1 + 1)) fun i_44 =>
        next16 ((((((st15.1 ++ s43) ++ Name_41) ++ r28) ++ r29) ++ r34) ++ r21, dir_24, i_44, ()) w))))))
      else
        J14 st15.1 st15.2.1 w) (text_2, dir_3, 0, ()) w)
def T.C24 : CallT := (CallT.cons 40 T.c40 (CallT.cons 42 T.c42 (CallT.cons 41 T.c41 (CallT.cons 43 T.c43 CallT.nil))))
def T.A24 : Ann := fun i => bif Nat.beq i 7 then some ([0, 1, 2], [(9, 4), (10, 4), (11, 0)]) else none
set_option maxRecDepth 1000000 in
theorem T.eq24 (a : Nat) (l : Sl) (level : Int) (w : World) (K : ByteArray → Int → World → Prop) : denF Tryz.prog T.C24 T.A24 Tryz.f24 [.pointer (some ⟨a, 0, none⟩), .slice l.a l.l l.c, .int .i64 level] w (fun v w' => match v with | .tuple ⟨[.string r0, .int .i64 r1]⟩ => K r0 r1 w' | _ => False) = S.archm_Archive_Pack a l level w K := by kernel_rfl
theorem T.CO24 : CallOk Tryz.prog T.C24 := (CallOk.cons 40 T.ok40 (CallOk.cons 42 T.ok42 (CallOk.cons 41 T.ok41 (CallOk.cons 43 T.ok43 CallOk.nil))))
def T.c24 (vs : List Value) (w : World) (K : Value → World → Prop) : Prop :=
  match vs with
  | [.pointer (some ⟨a, 0, none⟩), .slice la ll lc, .int .i64 level] => S.archm_Archive_Pack a ⟨la, ll, lc⟩ level w (fun r0 r1 w' => K (.tuple #[.string r0, .int .i64 r1]) w')
  | _ => False
theorem T.ok24 : ∀ vs w K, T.c24 vs w K → (callFunc 24 vs.toArray).run Tryz.prog w = .ok (.enter 24 vs.toArray) w ∧ Calls Tryz.prog 24 vs.toArray w fun e w' => ∃ v, e = .returned v ∧ K v w' := by
  intro vs w K h
  unfold T.c24 at h
  split at h
  · refine ⟨Tryz.call24 _ _, ok_of T.CO24 mixed Tryz.func24 (T.eq24 _ _ _ _ _) h fun v w' hk => ⟨v, rfl, ?_⟩⟩
    split at hk
    · exact hk
    · exact hk.elim
  · exact h.elim

/-- e2e/towerexact.sameEntries (function 12). -/
def S.towerexact_sameEntries (a : Sl) (b : Sl) (w : World) (K : Bool → World → Prop) : Prop :=
  if ((a.l : Int) != (b.l : Int)) = true then
    K false w
  else
    LoopP (σ := Int × Unit) (fun st1 w next2 =>
      if (decide (st1.1 < (a.l : Int))) = true then
        Drew w fun w =>
        Ix a.a a.l st1.1 fun b3 o4 =>
        LdStr w ⟨b3, o4 + Int.toNat st1.1 * 2, none⟩ fun Name_5 =>
        LdStr w ⟨b3, o4 + Int.toNat st1.1 * 2 + 1, none⟩ fun Data_6 =>
        Ix b.a b.l st1.1 fun b7 o8 =>
        LdStr w ⟨b7, o8 + Int.toNat st1.1 * 2, none⟩ fun Name_9 =>
        LdStr w ⟨b7, o8 + Int.toNat st1.1 * 2 + 1, none⟩ fun Data_10 =>
        if (!(eqL [.string Name_5, .string Data_6] [.string Name_9, .string Data_10])) = true then
          K false w
        else
          Let (W (st1.1 + 1)) fun i_11 =>
          next2 (i_11, ()) w
      else
        K true w) (0, ()) w
def T.C12 : CallT := CallT.nil
def T.A12 : Ann := fun i => bif Nat.beq i 4 then some ([0, 1], [(5, 0)]) else none
set_option maxRecDepth 1000000 in
theorem T.eq12 (a : Sl) (b : Sl) (w : World) (K : Bool → World → Prop) : denF Tryz.prog T.C12 T.A12 Tryz.f12 [.slice a.a a.l a.c, .slice b.a b.l b.c] w (fun v w' => match v with | .bool r0 => K r0 w' | _ => False) = S.towerexact_sameEntries a b w K := by kernel_rfl
theorem T.CO12 : CallOk Tryz.prog T.C12 := CallOk.nil
def T.c12 (vs : List Value) (w : World) (K : Value → World → Prop) : Prop :=
  match vs with
  | [.slice aa al ac, .slice ba bl bc] => S.towerexact_sameEntries ⟨aa, al, ac⟩ ⟨ba, bl, bc⟩ w (fun r0 w' => K (.bool r0) w')
  | _ => False
theorem T.ok12 : ∀ vs w K, T.c12 vs w K → (callFunc 12 vs.toArray).run Tryz.prog w = .ok (.enter 12 vs.toArray) w ∧ Calls Tryz.prog 12 vs.toArray w fun e w' => ∃ v, e = .returned v ∧ K v w' := by
  intro vs w K h
  unfold T.c12 at h
  split at h
  · refine ⟨Tryz.call12 _ _, ok_of T.CO12 mixed Tryz.func12 (T.eq12 _ _ _ _) h fun v w' hk => ⟨v, rfl, ?_⟩⟩
    split at hk
    · exact hk
    · exact hk.elim
  · exact h.elim

/-- e2e/towerexact.packed (function 9). -/
def S.towerexact_packed (x : Nat) (m : Nat) (l : Sl) (at_ : Int) (n : Int) (ex : Int) (level : Int) (w : World) (K : ByteArray → Bool → Bool → World → Prop) : Prop :=
  S.towerexact_copyEntries l w (fun r1 w =>
  CutS 2 l at_ (W (at_ + n)) (l.c : Int) fun l2 =>
  S.towerexact_copyEntries l2 w (fun r3 w =>
  CutS 2 l at_ (W (at_ + n)) (W ((W (at_ + n)) + ex)) fun l4 =>
  S.arch_Archive_Pack x l4 level w (fun r5 r6 w =>
  S.archm_Archive_Pack m r3 level w (fun r7 r8 w =>
  if (r5.toList == r7.toList) = true then
    if (r6 == r8) = true then
      S.towerexact_sameEntries l r1 w (fun r9 w =>
      K r5 (r6 == 0) r9 w)
    else
      K r5 (r6 == 0) false w
  else
    K r5 (r6 == 0) false w))))
def T.C9 : CallT := (CallT.cons 22 T.c22 (CallT.cons 23 T.c23 (CallT.cons 24 T.c24 (CallT.cons 12 T.c12 CallT.nil))))
def T.A9 : Ann := fun _ => none
set_option maxRecDepth 1000000 in
theorem T.eq9 (x : Nat) (m : Nat) (l : Sl) (at_ : Int) (n : Int) (ex : Int) (level : Int) (w : World) (K : ByteArray → Bool → Bool → World → Prop) : denF Tryz.prog T.C9 T.A9 Tryz.f9 [.pointer (some ⟨x, 0, none⟩), .pointer (some ⟨m, 0, none⟩), .slice l.a l.l l.c, .int .i64 at_, .int .i64 n, .int .i64 ex, .int .i64 level] w (fun v w' => match v with | .tuple ⟨[.string r0, .bool r1, .bool r2]⟩ => K r0 r1 r2 w' | _ => False) = S.towerexact_packed x m l at_ n ex level w K := by kernel_rfl
theorem T.CO9 : CallOk Tryz.prog T.C9 := (CallOk.cons 22 T.ok22 (CallOk.cons 23 T.ok23 (CallOk.cons 24 T.ok24 (CallOk.cons 12 T.ok12 CallOk.nil))))
def T.c9 (vs : List Value) (w : World) (K : Value → World → Prop) : Prop :=
  match vs with
  | [.pointer (some ⟨x, 0, none⟩), .pointer (some ⟨m, 0, none⟩), .slice la ll lc, .int .i64 at_, .int .i64 n, .int .i64 ex, .int .i64 level] => S.towerexact_packed x m ⟨la, ll, lc⟩ at_ n ex level w (fun r0 r1 r2 w' => K (.tuple #[.string r0, .bool r1, .bool r2]) w')
  | _ => False
theorem T.ok9 : ∀ vs w K, T.c9 vs w K → (callFunc 9 vs.toArray).run Tryz.prog w = .ok (.enter 9 vs.toArray) w ∧ Calls Tryz.prog 9 vs.toArray w fun e w' => ∃ v, e = .returned v ∧ K v w' := by
  intro vs w K h
  unfold T.c9 at h
  split at h
  · refine ⟨Tryz.call9 _ _, ok_of T.CO9 mixed Tryz.func9 (T.eq9 _ _ _ _ _ _ _ _ _) h fun v w' hk => ⟨v, rfl, ?_⟩⟩
    split at hk
    · exact hk
    · exact hk.elim
  · exact h.elim

/-- e2e/arch.word (function 99). -/
def S.arch_word (raw : ByteArray) (i : Int) (w : World) (K : Int → World → Prop) : Prop :=
  Drew w fun w =>
  IxStr raw i fun c1 =>
  IxStr raw (W (i + 1)) fun c2 =>
  K (W ((W c1) + (Shl .i64 (W c2) 8))) w
def T.C99 : CallT := CallT.nil
def T.A99 : Ann := fun _ => none
set_option maxRecDepth 1000000 in
theorem T.eq99 (raw : ByteArray) (i : Int) (w : World) (K : Int → World → Prop) : denF Tryz.prog T.C99 T.A99 Tryz.f99 [.string raw, .int .i64 i] w (fun v w' => match v with | .int .i64 r0 => K r0 w' | _ => False) = S.arch_word raw i w K := by kernel_rfl
theorem T.CO99 : CallOk Tryz.prog T.C99 := CallOk.nil
def T.c99 (vs : List Value) (w : World) (K : Value → World → Prop) : Prop :=
  match vs with
  | [.string raw, .int .i64 i] => S.arch_word raw i w (fun r0 w' => K (.int .i64 r0) w')
  | _ => False
theorem T.ok99 : ∀ vs w K, T.c99 vs w K → (callFunc 99 vs.toArray).run Tryz.prog w = .ok (.enter 99 vs.toArray) w ∧ Calls Tryz.prog 99 vs.toArray w fun e w' => ∃ v, e = .returned v ∧ K v w' := by
  intro vs w K h
  unfold T.c99 at h
  split at h
  · refine ⟨Tryz.call99 _ _, ok_of T.CO99 mixed Tryz.func99 (T.eq99 _ _ _ _) h fun v w' hk => ⟨v, rfl, ?_⟩⟩
    split at hk
    · exact hk
    · exact hk.elim
  · exact h.elim

/-- e2e/arch.tail (function 62). -/
def S.arch_tail (raw : ByteArray) (w : World) (K : Int → Int → Int → Int → World → Prop) : Prop :=
  Let (W ((raw.size : Int) - 4)) fun end_1 =>
  if (decide (end_1 < 0)) = true then
    K 0 0 14 0 w
  else
    IxStr raw (W (end_1 + 3)) fun c2 =>
    if (c2 != 90) = true then
      K 0 0 14 0 w
    else
      IxStr raw end_1 fun c3 =>
      Let (W c3) fun count_4 =>
      if (decide (count_4 > 4)) = true then
        K 0 0 17 end_1 w
      else
        S.arch_word raw (W (end_1 + 1)) w (fun r5 w =>
        if ((W (r5 + (W (2 * count_4)))) != end_1) = true then
          K 0 0 15 (W (end_1 + 1)) w
        else
          K count_4 r5 0 0 w)
def T.C62 : CallT := (CallT.cons 99 T.c99 CallT.nil)
def T.A62 : Ann := fun _ => none
set_option maxRecDepth 1000000 in
theorem T.eq62 (raw : ByteArray) (w : World) (K : Int → Int → Int → Int → World → Prop) : denF Tryz.prog T.C62 T.A62 Tryz.f62 [.string raw] w (fun v w' => match v with | .tuple ⟨[.int .i64 r0, .int .i64 r1, .int .i64 r2, .int .i64 r3]⟩ => K r0 r1 r2 r3 w' | _ => False) = S.arch_tail raw w K := by kernel_rfl
theorem T.CO62 : CallOk Tryz.prog T.C62 := (CallOk.cons 99 T.ok99 CallOk.nil)
def T.c62 (vs : List Value) (w : World) (K : Value → World → Prop) : Prop :=
  match vs with
  | [.string raw] => S.arch_tail raw w (fun r0 r1 r2 r3 w' => K (.tuple #[.int .i64 r0, .int .i64 r1, .int .i64 r2, .int .i64 r3]) w')
  | _ => False
theorem T.ok62 : ∀ vs w K, T.c62 vs w K → (callFunc 62 vs.toArray).run Tryz.prog w = .ok (.enter 62 vs.toArray) w ∧ Calls Tryz.prog 62 vs.toArray w fun e w' => ∃ v, e = .returned v ∧ K v w' := by
  intro vs w K h
  unfold T.c62 at h
  split at h
  · refine ⟨Tryz.call62 _ _, ok_of T.CO62 mixed Tryz.func62 (T.eq62 _ _ _) h fun v w' hk => ⟨v, rfl, ?_⟩⟩
    split at hk
    · exact hk
    · exact hk.elim
  · exact h.elim

/-- e2e/arch.spot (function 63). -/
def S.arch_spot (raw : ByteArray) (dir : Int) (cell : Int) (w : World) (K : Int → Int → Int → Int → Int → Int → Int → World → Prop) : Prop :=
  New w (.cells #[.int .i64 0, .int .i64 0, .int .i64 0, .int .i64 0, .int .i64 0] 111) fun p1 w =>
  New w (.cells #[.int .i64 0, .int .i64 0, .int .i64 0, .int .i64 0, .int .i64 0] 111) fun p2 w =>
  St1 w ⟨p2, 0, none⟩ (.int .i64 0) fun w =>
  St1 w ⟨p2, 1, none⟩ (.int .i64 0) fun w =>
  St1 w ⟨p2, 2, none⟩ (.int .i64 0) fun w =>
  St1 w ⟨p2, 3, none⟩ (.int .i64 0) fun w =>
  St1 w ⟨p2, 4, none⟩ (.int .i64 0) fun w =>
  S.arch_word raw cell w (fun r3 w =>
  St1 w ⟨p2, 0, none⟩ (.int .i64 r3) fun w =>
  LdI .i64 w ⟨p2, 0, none⟩ fun off_4 =>
  if (decide (off_4 ≥ dir)) = true then
    LdI .i64 w ⟨p2, 0, none⟩ fun off_5 =>
    LdI .i64 w ⟨p2, 1, none⟩ fun head_6 =>
    LdI .i64 w ⟨p2, 2, none⟩ fun to_7 =>
    LdI .i64 w ⟨p2, 3, none⟩ fun size_8 =>
    LdI .i64 w ⟨p2, 4, none⟩ fun sum_9 =>
    St1 w ⟨p1, 0, none⟩ (.int .i64 off_5) fun w =>
    St1 w ⟨p1, 1, none⟩ (.int .i64 head_6) fun w =>
    St1 w ⟨p1, 2, none⟩ (.int .i64 to_7) fun w =>
    St1 w ⟨p1, 3, none⟩ (.int .i64 size_8) fun w =>
    St1 w ⟨p1, 4, none⟩ (.int .i64 sum_9) fun w =>
    LdI .i64 w ⟨p1, 0, none⟩ fun off_10 =>
    LdI .i64 w ⟨p1, 1, none⟩ fun head_11 =>
    LdI .i64 w ⟨p1, 2, none⟩ fun to_12 =>
    LdI .i64 w ⟨p1, 3, none⟩ fun size_13 =>
    LdI .i64 w ⟨p1, 4, none⟩ fun sum_14 =>
    K off_10 head_11 to_12 size_13 sum_14 15 cell w
  else
    LdI .i64 w ⟨p2, 0, none⟩ fun off_15 =>
    IxStr raw off_15 fun c16 =>
    Let (W c16) fun n_17 =>
    LdI .i64 w ⟨p2, 0, none⟩ fun off_18 =>
    St1 w ⟨p2, 1, none⟩ (.int .i64 (W ((W (off_18 + 1)) + n_17))) fun w =>
    LdI .i64 w ⟨p2, 1, none⟩ fun head_19 =>
    Let (W (head_19 + 6)) fun from_20 =>
    if (decide (from_20 > dir)) = true then
      LdI .i64 w ⟨p2, 0, none⟩ fun off_21 =>
      LdI .i64 w ⟨p2, 1, none⟩ fun head_22 =>
      LdI .i64 w ⟨p2, 2, none⟩ fun to_23 =>
      LdI .i64 w ⟨p2, 3, none⟩ fun size_24 =>
      LdI .i64 w ⟨p2, 4, none⟩ fun sum_25 =>
      St1 w ⟨p1, 0, none⟩ (.int .i64 off_21) fun w =>
      St1 w ⟨p1, 1, none⟩ (.int .i64 head_22) fun w =>
      St1 w ⟨p1, 2, none⟩ (.int .i64 to_23) fun w =>
      St1 w ⟨p1, 3, none⟩ (.int .i64 size_24) fun w =>
      St1 w ⟨p1, 4, none⟩ (.int .i64 sum_25) fun w =>
      LdI .i64 w ⟨p1, 0, none⟩ fun off_26 =>
      LdI .i64 w ⟨p1, 1, none⟩ fun head_27 =>
      LdI .i64 w ⟨p1, 2, none⟩ fun to_28 =>
      LdI .i64 w ⟨p1, 3, none⟩ fun size_29 =>
      LdI .i64 w ⟨p1, 4, none⟩ fun sum_30 =>
      K off_26 head_27 to_28 size_29 sum_30 15 cell w
    else
      LdI .i64 w ⟨p2, 1, none⟩ fun head_31 =>
      S.arch_word raw head_31 w (fun r32 w =>
      St1 w ⟨p2, 3, none⟩ (.int .i64 r32) fun w =>
      LdI .i64 w ⟨p2, 1, none⟩ fun head_33 =>
      S.arch_word raw (W (head_33 + 2)) w (fun r34 w =>
      LdI .i64 w ⟨p2, 1, none⟩ fun head_35 =>
      S.arch_word raw (W (head_35 + 4)) w (fun r36 w =>
      St1 w ⟨p2, 4, none⟩ (.int .i64 r36) fun w =>
      St1 w ⟨p2, 2, none⟩ (.int .i64 (W (from_20 + r34))) fun w =>
      LdI .i64 w ⟨p2, 2, none⟩ fun to_37 =>
      if (decide (to_37 > dir)) = true then
        LdI .i64 w ⟨p2, 0, none⟩ fun off_38 =>
        LdI .i64 w ⟨p2, 1, none⟩ fun head_39 =>
        LdI .i64 w ⟨p2, 2, none⟩ fun to_40 =>
        LdI .i64 w ⟨p2, 3, none⟩ fun size_41 =>
        LdI .i64 w ⟨p2, 4, none⟩ fun sum_42 =>
        St1 w ⟨p1, 0, none⟩ (.int .i64 off_38) fun w =>
        St1 w ⟨p1, 1, none⟩ (.int .i64 head_39) fun w =>
        St1 w ⟨p1, 2, none⟩ (.int .i64 to_40) fun w =>
        St1 w ⟨p1, 3, none⟩ (.int .i64 size_41) fun w =>
        St1 w ⟨p1, 4, none⟩ (.int .i64 sum_42) fun w =>
        LdI .i64 w ⟨p1, 0, none⟩ fun off_43 =>
        LdI .i64 w ⟨p1, 1, none⟩ fun head_44 =>
        LdI .i64 w ⟨p1, 2, none⟩ fun to_45 =>
        LdI .i64 w ⟨p1, 3, none⟩ fun size_46 =>
        LdI .i64 w ⟨p1, 4, none⟩ fun sum_47 =>
        K off_43 head_44 to_45 size_46 sum_47 15 cell w
      else
        Join (fun (w : World) =>
          Drew w fun w =>
          LdI .i64 w ⟨p2, 0, none⟩ fun off_48 =>
          LdI .i64 w ⟨p2, 1, none⟩ fun head_49 =>
          LdI .i64 w ⟨p2, 2, none⟩ fun to_50 =>
          LdI .i64 w ⟨p2, 3, none⟩ fun size_51 =>
          LdI .i64 w ⟨p2, 4, none⟩ fun sum_52 =>
          Hold w ⟨p2, 0, none⟩ 1 fun R53 =>
          LdI .i64 w ⟨p2, 0, none⟩ fun off_54 =>
          St1 w ⟨p1, 0, none⟩ (.int .i64 off_48) fun w =>
          St1 w ⟨p1, 1, none⟩ (.int .i64 head_49) fun w =>
          St1 w ⟨p1, 2, none⟩ (.int .i64 to_50) fun w =>
          St1 w ⟨p1, 3, none⟩ (.int .i64 size_51) fun w =>
          St1 w ⟨p1, 4, none⟩ (.int .i64 sum_52) fun w =>
          After R53 w <|
          LdI .i64 w ⟨p1, 0, none⟩ fun off_55 =>
          LdI .i64 w ⟨p1, 1, none⟩ fun head_56 =>
          LdI .i64 w ⟨p1, 2, none⟩ fun to_57 =>
          LdI .i64 w ⟨p1, 3, none⟩ fun size_58 =>
          LdI .i64 w ⟨p1, 4, none⟩ fun sum_59 =>
          K off_55 head_56 to_57 size_58 sum_59 16 off_54 w) fun J60 =>
        if (n_17 == 0) = true then
          J60 w
        else
          if (decide (n_17 > 8)) = true then
            J60 w
          else
            LdI .i64 w ⟨p2, 3, none⟩ fun size_61 =>
            if (decide (size_61 > 256)) = true then
              Drew w fun w =>
              LdI .i64 w ⟨p2, 0, none⟩ fun off_62 =>
              LdI .i64 w ⟨p2, 1, none⟩ fun head_63 =>
              LdI .i64 w ⟨p2, 2, none⟩ fun to_64 =>
              LdI .i64 w ⟨p2, 3, none⟩ fun size_65 =>
              LdI .i64 w ⟨p2, 4, none⟩ fun sum_66 =>
              Hold w ⟨p2, 0, none⟩ 1 fun R67 =>
              LdI .i64 w ⟨p2, 0, none⟩ fun off_68 =>
              St1 w ⟨p1, 0, none⟩ (.int .i64 off_62) fun w =>
              St1 w ⟨p1, 1, none⟩ (.int .i64 head_63) fun w =>
              St1 w ⟨p1, 2, none⟩ (.int .i64 to_64) fun w =>
              St1 w ⟨p1, 3, none⟩ (.int .i64 size_65) fun w =>
              St1 w ⟨p1, 4, none⟩ (.int .i64 sum_66) fun w =>
              After R67 w <|
              LdI .i64 w ⟨p1, 0, none⟩ fun off_69 =>
              LdI .i64 w ⟨p1, 1, none⟩ fun head_70 =>
              LdI .i64 w ⟨p1, 2, none⟩ fun to_71 =>
              LdI .i64 w ⟨p1, 3, none⟩ fun size_72 =>
              LdI .i64 w ⟨p1, 4, none⟩ fun sum_73 =>
              K off_69 head_70 to_71 size_72 sum_73 19 off_68 w
            else
              if (decide (r34 > 512)) = true then
                Drew w fun w =>
                LdI .i64 w ⟨p2, 0, none⟩ fun off_74 =>
                LdI .i64 w ⟨p2, 1, none⟩ fun head_75 =>
                LdI .i64 w ⟨p2, 2, none⟩ fun to_76 =>
                LdI .i64 w ⟨p2, 3, none⟩ fun size_77 =>
                LdI .i64 w ⟨p2, 4, none⟩ fun sum_78 =>
                Hold w ⟨p2, 0, none⟩ 1 fun R79 =>
                LdI .i64 w ⟨p2, 0, none⟩ fun off_80 =>
                St1 w ⟨p1, 0, none⟩ (.int .i64 off_74) fun w =>
                St1 w ⟨p1, 1, none⟩ (.int .i64 head_75) fun w =>
                St1 w ⟨p1, 2, none⟩ (.int .i64 to_76) fun w =>
                St1 w ⟨p1, 3, none⟩ (.int .i64 size_77) fun w =>
                St1 w ⟨p1, 4, none⟩ (.int .i64 sum_78) fun w =>
                After R79 w <|
                LdI .i64 w ⟨p1, 0, none⟩ fun off_81 =>
                LdI .i64 w ⟨p1, 1, none⟩ fun head_82 =>
                LdI .i64 w ⟨p1, 2, none⟩ fun to_83 =>
                LdI .i64 w ⟨p1, 3, none⟩ fun size_84 =>
                LdI .i64 w ⟨p1, 4, none⟩ fun sum_85 =>
                K off_81 head_82 to_83 size_84 sum_85 1 off_80 w
              else
                LdI .i64 w ⟨p2, 0, none⟩ fun off_86 =>
                LdI .i64 w ⟨p2, 1, none⟩ fun head_87 =>
                LdI .i64 w ⟨p2, 2, none⟩ fun to_88 =>
                LdI .i64 w ⟨p2, 3, none⟩ fun size_89 =>
                LdI .i64 w ⟨p2, 4, none⟩ fun sum_90 =>
                St1 w ⟨p1, 0, none⟩ (.int .i64 off_86) fun w =>
                St1 w ⟨p1, 1, none⟩ (.int .i64 head_87) fun w =>
                St1 w ⟨p1, 2, none⟩ (.int .i64 to_88) fun w =>
                St1 w ⟨p1, 3, none⟩ (.int .i64 size_89) fun w =>
                St1 w ⟨p1, 4, none⟩ (.int .i64 sum_90) fun w =>
                LdI .i64 w ⟨p1, 0, none⟩ fun off_91 =>
                LdI .i64 w ⟨p1, 1, none⟩ fun head_92 =>
                LdI .i64 w ⟨p1, 2, none⟩ fun to_93 =>
                LdI .i64 w ⟨p1, 3, none⟩ fun size_94 =>
                LdI .i64 w ⟨p1, 4, none⟩ fun sum_95 =>
                K off_91 head_92 to_93 size_94 sum_95 0 0 w))))
def T.C63 : CallT := (CallT.cons 99 T.c99 CallT.nil)
def T.A63 : Ann := fun _ => none
set_option maxRecDepth 1000000 in
theorem T.eq63 (raw : ByteArray) (dir : Int) (cell : Int) (w : World) (K : Int → Int → Int → Int → Int → Int → Int → World → Prop) : denF Tryz.prog T.C63 T.A63 Tryz.f63 [.string raw, .int .i64 dir, .int .i64 cell] w (fun v w' => match v with | .tuple ⟨[.agg ⟨[.int .i64 r0, .int .i64 r1, .int .i64 r2, .int .i64 r3, .int .i64 r4]⟩, .int .i64 r5, .int .i64 r6]⟩ => K r0 r1 r2 r3 r4 r5 r6 w' | _ => False) = S.arch_spot raw dir cell w K := by kernel_rfl
theorem T.CO63 : CallOk Tryz.prog T.C63 := (CallOk.cons 99 T.ok99 CallOk.nil)
def T.c63 (vs : List Value) (w : World) (K : Value → World → Prop) : Prop :=
  match vs with
  | [.string raw, .int .i64 dir, .int .i64 cell] => S.arch_spot raw dir cell w (fun r0 r1 r2 r3 r4 r5 r6 w' => K (.tuple #[.agg #[.int .i64 r0, .int .i64 r1, .int .i64 r2, .int .i64 r3, .int .i64 r4], .int .i64 r5, .int .i64 r6]) w')
  | _ => False
theorem T.ok63 : ∀ vs w K, T.c63 vs w K → (callFunc 63 vs.toArray).run Tryz.prog w = .ok (.enter 63 vs.toArray) w ∧ Calls Tryz.prog 63 vs.toArray w fun e w' => ∃ v, e = .returned v ∧ K v w' := by
  intro vs w K h
  unfold T.c63 at h
  split at h
  · refine ⟨Tryz.call63 _ _, ok_of T.CO63 mixed Tryz.func63 (T.eq63 _ _ _ _ _) h fun v w' hk => ⟨v, rfl, ?_⟩⟩
    split at hk
    · exact hk
    · exact hk.elim
  · exact h.elim

/-- (*e2e/arch.Archive).frame (function 44). -/
def S.arch_Archive_frame (a : Nat) (raw : ByteArray) (w : World) (K : Int → Int → Int → World → Prop) : Prop :=
  S.arch_tail raw w (fun r1 r2 r3 r4 w =>
  if (r3 != 0) = true then
    K 0 r3 r4 w
  else
    Join (fun (w : World) =>
      K r1 0 0 w) fun J5 =>
    LoopP (σ := Int × Unit) (fun st6 w next7 =>
      if (decide (st6.1 < r1)) = true then
        S.arch_spot raw r2 (W (r2 + (W (2 * st6.1)))) w (fun off_8 head_9 to_10 size_11 sum_12 r13 r14 w =>
        New w (.cells #[.int .i64 0, .int .i64 0, .int .i64 0, .int .i64 0, .int .i64 0] 111) fun p15 w =>
        St1 w ⟨p15, 0, none⟩ (.int .i64 off_8) fun w =>
        St1 w ⟨p15, 1, none⟩ (.int .i64 head_9) fun w =>
        St1 w ⟨p15, 2, none⟩ (.int .i64 to_10) fun w =>
        St1 w ⟨p15, 3, none⟩ (.int .i64 size_11) fun w =>
        St1 w ⟨p15, 4, none⟩ (.int .i64 sum_12) fun w =>
        if (r13 != 0) = true then
          K 0 r13 r14 w
        else
          Drew w fun w =>
          LdS w ⟨a, 5, none⟩ fun tab_16 =>
          LdI .i64 w ⟨p15, 0, none⟩ fun off_17 =>
          LdI .i64 w ⟨p15, 1, none⟩ fun head_18 =>
          LdI .i64 w ⟨p15, 2, none⟩ fun to_19 =>
          LdI .i64 w ⟨p15, 3, none⟩ fun size_20 =>
          LdI .i64 w ⟨p15, 4, none⟩ fun sum_21 =>
          Ix tab_16.a tab_16.l st6.1 fun b22 o23 =>
          St1 w ⟨b22, o23 + Int.toNat st6.1 * 5, none⟩ (.int .i64 off_17) fun w =>
          St1 w ⟨b22, o23 + Int.toNat st6.1 * 5 + 1, none⟩ (.int .i64 head_18) fun w =>
          St1 w ⟨b22, o23 + Int.toNat st6.1 * 5 + 2, none⟩ (.int .i64 to_19) fun w =>
          St1 w ⟨b22, o23 + Int.toNat st6.1 * 5 + 3, none⟩ (.int .i64 size_20) fun w =>
          St1 w ⟨b22, o23 + Int.toNat st6.1 * 5 + 4, none⟩ (.int .i64 sum_21) fun w =>
          Let (W (st6.1 + 1)) fun i_24 =>
          next7 (i_24, ()) w)
      else
        J5 w) (0, ()) w)
def T.C44 : CallT := (CallT.cons 62 T.c62 (CallT.cons 63 T.c63 CallT.nil))
def T.A44 : Ann := fun i => bif Nat.beq i 5 then some ([0, 1, 7, 8], [(11, 0)]) else none
set_option maxRecDepth 1000000 in
theorem T.eq44 (a : Nat) (raw : ByteArray) (w : World) (K : Int → Int → Int → World → Prop) : denF Tryz.prog T.C44 T.A44 Tryz.f44 [.pointer (some ⟨a, 0, none⟩), .string raw] w (fun v w' => match v with | .tuple ⟨[.int .i64 r0, .int .i64 r1, .int .i64 r2]⟩ => K r0 r1 r2 w' | _ => False) = S.arch_Archive_frame a raw w K := by kernel_rfl
theorem T.CO44 : CallOk Tryz.prog T.C44 := (CallOk.cons 62 T.ok62 (CallOk.cons 63 T.ok63 CallOk.nil))
def T.c44 (vs : List Value) (w : World) (K : Value → World → Prop) : Prop :=
  match vs with
  | [.pointer (some ⟨a, 0, none⟩), .string raw] => S.arch_Archive_frame a raw w (fun r0 r1 r2 w' => K (.tuple #[.int .i64 r0, .int .i64 r1, .int .i64 r2]) w')
  | _ => False
theorem T.ok44 : ∀ vs w K, T.c44 vs w K → (callFunc 44 vs.toArray).run Tryz.prog w = .ok (.enter 44 vs.toArray) w ∧ Calls Tryz.prog 44 vs.toArray w fun e w' => ∃ v, e = .returned v ∧ K v w' := by
  intro vs w K h
  unfold T.c44 at h
  split at h
  · refine ⟨Tryz.call44 _ _, ok_of T.CO44 mixed Tryz.func44 (T.eq44 _ _ _ _) h fun v w' hk => ⟨v, rfl, ?_⟩⟩
    split at hk
    · exact hk
    · exact hk.elim
  · exact h.elim

/-- (*e2e/arch.Archive).List (function 25). -/
def S.arch_Archive_List (a : Nat) (raw : ByteArray) (w : World) (K : Sl → Int → Int → World → Prop) : Prop :=
  if (decide ((raw.size : Int) > 1200)) = true then
    K ⟨none, 0, 0⟩ 1 0 w
  else
    S.arch_Archive_frame a raw w (fun r1 r2 r3 w =>
    if (r2 != 0) = true then
      K ⟨none, 0, 0⟩ r2 r3 w
    else
      MkS 113 [.string ⟨#[]⟩, .int .i64 0, .int .i64 0] 32 w r1 r1 fun l4 w =>
      Join (fun (w : World) =>
        K l4 0 0 w) fun J5 =>
      LoopP (σ := Int × Unit) (fun st6 w next7 =>
        if (decide (st6.1 < r1)) = true then
          LdS w ⟨a, 5, none⟩ fun tab_8 =>
          Ix tab_8.a tab_8.l st6.1 fun b9 o10 =>
          LdI .i64 w ⟨b9, o10 + Int.toNat st6.1 * 5, none⟩ fun off_11 =>
          LdI .i64 w ⟨b9, o10 + Int.toNat st6.1 * 5 + 1, none⟩ fun head_12 =>
          LdI .i64 w ⟨b9, o10 + Int.toNat st6.1 * 5 + 2, none⟩ fun to_13 =>
          LdI .i64 w ⟨b9, o10 + Int.toNat st6.1 * 5 + 3, none⟩ fun size_14 =>
          LdI .i64 w ⟨b9, o10 + Int.toNat st6.1 * 5 + 4, none⟩ fun sum_15 =>
          New w (.cells #[.int .i64 0, .int .i64 0, .int .i64 0, .int .i64 0, .int .i64 0] 111) fun p16 w =>
          St1 w ⟨p16, 0, none⟩ (.int .i64 off_11) fun w =>
          St1 w ⟨p16, 1, none⟩ (.int .i64 head_12) fun w =>
          St1 w ⟨p16, 2, none⟩ (.int .i64 to_13) fun w =>
          St1 w ⟨p16, 3, none⟩ (.int .i64 size_14) fun w =>
          St1 w ⟨p16, 4, none⟩ (.int .i64 sum_15) fun w =>
          LdI .i64 w ⟨p16, 0, none⟩ fun off_17 =>
          LdI .i64 w ⟨p16, 1, none⟩ fun head_18 =>
          CutStr raw (W (off_17 + 1)) head_18 fun s19 =>
          Ix l4.a l4.l st6.1 fun b20 o21 =>
          St1 w ⟨b20, o21 + Int.toNat st6.1 * 3, none⟩ (.string s19) fun w =>
          LdI .i64 w ⟨p16, 3, none⟩ fun size_22 =>
          Ix l4.a l4.l st6.1 fun b23 o24 =>
          St1 w ⟨b23, o24 + Int.toNat st6.1 * 3 + 1, none⟩ (.int .i64 size_22) fun w =>
          LdI .i64 w ⟨p16, 2, none⟩ fun to_25 =>
          LdI .i64 w ⟨p16, 1, none⟩ fun head_26 =>
          Ix l4.a l4.l st6.1 fun b27 o28 =>
          St1 w ⟨b27, o28 + Int.toNat st6.1 * 3 + 2, none⟩ (.int .i64 (W ((W (to_25 - head_26)) - 6))) fun w =>
          Let (W (st6.1 + 1)) fun i_29 =>
          next7 (i_29, ()) w
        else
          J5 w) (0, ()) w)
def T.C25 : CallT := (CallT.cons 44 T.c44 CallT.nil)
def T.A25 : Ann := fun i => bif Nat.beq i 8 then some ([0, 1, 7, 10], [(11, 0)]) else none
set_option maxRecDepth 1000000 in
theorem T.eq25 (a : Nat) (raw : ByteArray) (w : World) (K : Sl → Int → Int → World → Prop) : denF Tryz.prog T.C25 T.A25 Tryz.f25 [.pointer (some ⟨a, 0, none⟩), .string raw] w (fun v w' => match v with | .tuple ⟨[.slice r0a r0l r0c, .int .i64 r1, .int .i64 r2]⟩ => K ⟨r0a, r0l, r0c⟩ r1 r2 w' | _ => False) = S.arch_Archive_List a raw w K := by kernel_rfl
theorem T.CO25 : CallOk Tryz.prog T.C25 := (CallOk.cons 44 T.ok44 CallOk.nil)
def T.c25 (vs : List Value) (w : World) (K : Value → World → Prop) : Prop :=
  match vs with
  | [.pointer (some ⟨a, 0, none⟩), .string raw] => S.arch_Archive_List a raw w (fun r0 r1 r2 w' => K (.tuple #[.slice r0.a r0.l r0.c, .int .i64 r1, .int .i64 r2]) w')
  | _ => False
theorem T.ok25 : ∀ vs w K, T.c25 vs w K → (callFunc 25 vs.toArray).run Tryz.prog w = .ok (.enter 25 vs.toArray) w ∧ Calls Tryz.prog 25 vs.toArray w fun e w' => ∃ v, e = .returned v ∧ K v w' := by
  intro vs w K h
  unfold T.c25 at h
  split at h
  · refine ⟨Tryz.call25 _ _, ok_of T.CO25 mixed Tryz.func25 (T.eq25 _ _ _ _) h fun v w' hk => ⟨v, rfl, ?_⟩⟩
    split at hk
    · exact hk
    · exact hk.elim
  · exact h.elim

/-- e2e/archm.num (function 64). -/
def S.archm_num (s_ : ByteArray) (i : Int) (w : World) (K : Int → World → Prop) : Prop :=
  Drew w fun w =>
  IxStr s_ i fun c1 =>
  IxStr s_ (W (i + 1)) fun c2 =>
  K (W ((W c1) + (Shl .i64 (W c2) 8))) w
def T.C64 : CallT := CallT.nil
def T.A64 : Ann := fun _ => none
set_option maxRecDepth 1000000 in
theorem T.eq64 (s_ : ByteArray) (i : Int) (w : World) (K : Int → World → Prop) : denF Tryz.prog T.C64 T.A64 Tryz.f64 [.string s_, .int .i64 i] w (fun v w' => match v with | .int .i64 r0 => K r0 w' | _ => False) = S.archm_num s_ i w K := by kernel_rfl
theorem T.CO64 : CallOk Tryz.prog T.C64 := CallOk.nil
def T.c64 (vs : List Value) (w : World) (K : Value → World → Prop) : Prop :=
  match vs with
  | [.string s_, .int .i64 i] => S.archm_num s_ i w (fun r0 w' => K (.int .i64 r0) w')
  | _ => False
theorem T.ok64 : ∀ vs w K, T.c64 vs w K → (callFunc 64 vs.toArray).run Tryz.prog w = .ok (.enter 64 vs.toArray) w ∧ Calls Tryz.prog 64 vs.toArray w fun e w' => ∃ v, e = .returned v ∧ K v w' := by
  intro vs w K h
  unfold T.c64 at h
  split at h
  · refine ⟨Tryz.call64 _ _, ok_of T.CO64 mixed Tryz.func64 (T.eq64 _ _ _ _) h fun v w' hk => ⟨v, rfl, ?_⟩⟩
    split at hk
    · exact hk
    · exact hk.elim
  · exact h.elim

/-- e2e/archm.read (function 45). -/
def S.archm_read (raw : ByteArray) (w : World) (K : Sl → Int → Int → World → Prop) : Prop :=
  Let (raw.size : Int) fun n_1 =>
  if (decide (n_1 > 1200)) = true then
    K ⟨none, 0, 0⟩ 1 0 w
  else
    Join (fun (w : World) =>
      K ⟨none, 0, 0⟩ 14 0 w) fun J2 =>
    if (decide (n_1 < 4)) = true then
      J2 w
    else
      IxStr raw (W (n_1 - 1)) fun c3 =>
      if (c3 != 90) = true then
        J2 w
      else
        IxStr raw (W (n_1 - 4)) fun c4 =>
        Let (W c4) fun count_5 =>
        if (decide (count_5 > 4)) = true then
          K ⟨none, 0, 0⟩ 17 (W (n_1 - 4)) w
        else
          S.archm_num raw (W (n_1 - 3)) w (fun r6 w =>
          if ((W (r6 + (W (2 * count_5)))) != (W (n_1 - 4))) = true then
            K ⟨none, 0, 0⟩ 15 (W (n_1 - 3)) w
          else
            Join (fun (out_7 : Sl) (w : World) =>
              K out_7 0 0 w) fun J8 =>
            LoopP (σ := Sl × Int × Unit) (fun st9 w next10 =>
              if (decide (st9.2.1 < count_5)) = true then
                Let (W (r6 + (W (2 * st9.2.1)))) fun cell_11 =>
                S.archm_num raw cell_11 w (fun r12 w =>
                if (decide (r12 ≥ r6)) = true then
                  K ⟨none, 0, 0⟩ 15 cell_11 w
                else
                  IxStr raw r12 fun c13 =>
                  Let (W c13) fun ln_14 =>
                  if (decide ((W ((W ((W (r12 + 1)) + ln_14)) + 6)) > r6)) = true then
                    K ⟨none, 0, 0⟩ 15 cell_11 w
                  else
                    Let (W ((W (r12 + 1)) + ln_14)) fun h_15 =>
                    CutStr raw (W (r12 + 1)) h_15 fun s16 =>
                    New w (.cells #[.string ⟨#[]⟩, .int .i64 0, .int .i64 0, .int .i64 0, .int .i64 0, .int .i64 0] 118) fun p17 w =>
                    St1 w ⟨p17, 0, none⟩ (.string s16) fun w =>
                    St1 w ⟨p17, 1, none⟩ (.int .i64 0) fun w =>
                    St1 w ⟨p17, 2, none⟩ (.int .i64 0) fun w =>
                    St1 w ⟨p17, 3, none⟩ (.int .i64 (W (h_15 + 6))) fun w =>
                    St1 w ⟨p17, 4, none⟩ (.int .i64 0) fun w =>
                    St1 w ⟨p17, 5, none⟩ (.int .i64 r12) fun w =>
                    S.archm_num raw h_15 w (fun r18 w =>
                    St1 w ⟨p17, 1, none⟩ (.int .i64 r18) fun w =>
                    Drew w fun w =>
                    Hold w ⟨p17, 3, none⟩ 1 fun R19 =>
                    LdI .i64 w ⟨p17, 3, none⟩ fun from_20 =>
                    S.archm_num raw (W (h_15 + 2)) w (fun r21 w =>
                    After R19 w <|
                    St1 w ⟨p17, 4, none⟩ (.int .i64 (W (from_20 + r21))) fun w =>
                    S.archm_num raw (W (h_15 + 4)) w (fun r22 w =>
                    St1 w ⟨p17, 2, none⟩ (.int .i64 r22) fun w =>
                    LdI .i64 w ⟨p17, 4, none⟩ fun to_23 =>
                    if (decide (to_23 > r6)) = true then
                      K ⟨none, 0, 0⟩ 15 cell_11 w
                    else
                      Join (fun (w : World) =>
                        K ⟨none, 0, 0⟩ 16 r12 w) fun J24 =>
                      if (ln_14 == 0) = true then
                        J24 w
                      else
                        if (decide (ln_14 > 8)) = true then
                          J24 w
                        else
                          LdI .i64 w ⟨p17, 1, none⟩ fun size_25 =>
                          if (decide (size_25 > 256)) = true then
                            K ⟨none, 0, 0⟩ 19 r12 w
                          else
                            LdI .i64 w ⟨p17, 4, none⟩ fun to_26 =>
                            LdI .i64 w ⟨p17, 3, none⟩ fun from_27 =>
                            if (decide ((W (to_26 - from_27)) > 512)) = true then
                              K ⟨none, 0, 0⟩ 1 r12 w
                            else
                              LdStr w ⟨p17, 0, none⟩ fun name_28 =>
                              LdI .i64 w ⟨p17, 1, none⟩ fun size_29 =>
                              LdI .i64 w ⟨p17, 2, none⟩ fun sum_30 =>
                              LdI .i64 w ⟨p17, 3, none⟩ fun from_31 =>
                              LdI .i64 w ⟨p17, 4, none⟩ fun to_32 =>
                              LdI .i64 w ⟨p17, 5, none⟩ fun off_33 =>
                              New w (.cells #[.string name_28, .int .i64 size_29, .int .i64 sum_30, .int .i64 from_31, .int .i64 to_32, .int .i64 off_33] 118) fun p34 w =>
                              AppS 118 [.string ⟨#[]⟩, .int .i64 0, .int .i64 0, .int .i64 0, .int .i64 0, .int .i64 0] 56 6 w st9.1 ⟨some ⟨p34, 0, none⟩, 1, 1⟩ fun l35 w =>
                              Let (W (st9.2.1 + 1)) fun i_36 =>
                              next10 (l35, i_36, ()) w))))
              else
                J8 st9.1 w) (⟨none, 0, 0⟩, 0, ()) w)
def T.C45 : CallT := (CallT.cons 64 T.c64 CallT.nil)
def T.A45 : Ann := fun i => bif Nat.beq i 14 then some ([0, 6, 7], [(8, 6), (9, 0)]) else none
set_option maxRecDepth 1000000 in
theorem T.eq45 (raw : ByteArray) (w : World) (K : Sl → Int → Int → World → Prop) : denF Tryz.prog T.C45 T.A45 Tryz.f45 [.string raw] w (fun v w' => match v with | .tuple ⟨[.slice r0a r0l r0c, .int .i64 r1, .int .i64 r2]⟩ => K ⟨r0a, r0l, r0c⟩ r1 r2 w' | _ => False) = S.archm_read raw w K := by kernel_rfl
theorem T.CO45 : CallOk Tryz.prog T.C45 := (CallOk.cons 64 T.ok64 CallOk.nil)
def T.c45 (vs : List Value) (w : World) (K : Value → World → Prop) : Prop :=
  match vs with
  | [.string raw] => S.archm_read raw w (fun r0 r1 r2 w' => K (.tuple #[.slice r0.a r0.l r0.c, .int .i64 r1, .int .i64 r2]) w')
  | _ => False
theorem T.ok45 : ∀ vs w K, T.c45 vs w K → (callFunc 45 vs.toArray).run Tryz.prog w = .ok (.enter 45 vs.toArray) w ∧ Calls Tryz.prog 45 vs.toArray w fun e w' => ∃ v, e = .returned v ∧ K v w' := by
  intro vs w K h
  unfold T.c45 at h
  split at h
  · refine ⟨Tryz.call45 _ _, ok_of T.CO45 mixed Tryz.func45 (T.eq45 _ _ _) h fun v w' hk => ⟨v, rfl, ?_⟩⟩
    split at hk
    · exact hk
    · exact hk.elim
  · exact h.elim

/-- (*e2e/archm.Archive).List (function 26). -/
def S.archm_Archive_List (a : Nat) (raw : ByteArray) (w : World) (K : Sl → Int → Int → World → Prop) : Prop :=
  S.archm_read raw w (fun r1 r2 r3 w =>
  if (r2 != 0) = true then
    K ⟨none, 0, 0⟩ r2 r3 w
  else
    MkS 113 [.string ⟨#[]⟩, .int .i64 0, .int .i64 0] 32 w (r1.l : Int) (r1.l : Int) fun l4 w =>
    Join (fun (w : World) =>
      K l4 0 0 w) fun J5 =>
    LoopP (σ := Int × Unit) (fun st6 w next7 =>
      if (decide (st6.1 < (r1.l : Int))) = true then
        Drew w fun w =>
        Ix r1.a r1.l st6.1 fun b8 o9 =>
        LdStr w ⟨b8, o9 + Int.toNat st6.1 * 6, none⟩ fun name_10 =>
        Ix r1.a r1.l st6.1 fun b11 o12 =>
        LdI .i64 w ⟨b11, o12 + Int.toNat st6.1 * 6 + 1, none⟩ fun size_13 =>
        Ix r1.a r1.l st6.1 fun b14 o15 =>
        LdI .i64 w ⟨b14, o15 + Int.toNat st6.1 * 6 + 4, none⟩ fun to_16 =>
        Ix r1.a r1.l st6.1 fun b17 o18 =>
        LdI .i64 w ⟨b17, o18 + Int.toNat st6.1 * 6 + 3, none⟩ fun from_19 =>
        Ix l4.a l4.l st6.1 fun b20 o21 =>
        St1 w ⟨b20, o21 + Int.toNat st6.1 * 3, none⟩ (.string name_10) fun w =>
        St1 w ⟨b20, o21 + Int.toNat st6.1 * 3 + 1, none⟩ (.int .i64 size_13) fun w =>
        St1 w ⟨b20, o21 + Int.toNat st6.1 * 3 + 2, none⟩ (.int .i64 (W (to_16 - from_19))) fun w =>
        Let (W (st6.1 + 1)) fun i_22 =>
        next7 (i_22, ()) w
      else
        J5 w) (0, ()) w)
def T.C26 : CallT := (CallT.cons 45 T.c45 CallT.nil)
def T.A26 : Ann := fun i => bif Nat.beq i 6 then some ([7, 10], [(11, 0)]) else none
set_option maxRecDepth 1000000 in
theorem T.eq26 (a : Nat) (raw : ByteArray) (w : World) (K : Sl → Int → Int → World → Prop) : denF Tryz.prog T.C26 T.A26 Tryz.f26 [.pointer (some ⟨a, 0, none⟩), .string raw] w (fun v w' => match v with | .tuple ⟨[.slice r0a r0l r0c, .int .i64 r1, .int .i64 r2]⟩ => K ⟨r0a, r0l, r0c⟩ r1 r2 w' | _ => False) = S.archm_Archive_List a raw w K := by kernel_rfl
theorem T.CO26 : CallOk Tryz.prog T.C26 := (CallOk.cons 45 T.ok45 CallOk.nil)
def T.c26 (vs : List Value) (w : World) (K : Value → World → Prop) : Prop :=
  match vs with
  | [.pointer (some ⟨a, 0, none⟩), .string raw] => S.archm_Archive_List a raw w (fun r0 r1 r2 w' => K (.tuple #[.slice r0.a r0.l r0.c, .int .i64 r1, .int .i64 r2]) w')
  | _ => False
theorem T.ok26 : ∀ vs w K, T.c26 vs w K → (callFunc 26 vs.toArray).run Tryz.prog w = .ok (.enter 26 vs.toArray) w ∧ Calls Tryz.prog 26 vs.toArray w fun e w' => ∃ v, e = .returned v ∧ K v w' := by
  intro vs w K h
  unfold T.c26 at h
  split at h
  · refine ⟨Tryz.call26 _ _, ok_of T.CO26 mixed Tryz.func26 (T.eq26 _ _ _ _) h fun v w' hk => ⟨v, rfl, ?_⟩⟩
    split at hk
    · exact hk
    · exact hk.elim
  · exact h.elim

/-- e2e/towerexact.sameInfos (function 27). -/
def S.towerexact_sameInfos (a : Sl) (b : Sl) (w : World) (K : Bool → World → Prop) : Prop :=
  if ((a.l : Int) != (b.l : Int)) = true then
    K false w
  else
    LoopP (σ := Int × Unit) (fun st1 w next2 =>
      if (decide (st1.1 < (a.l : Int))) = true then
        Drew w fun w =>
        Ix a.a a.l st1.1 fun b3 o4 =>
        LdStr w ⟨b3, o4 + Int.toNat st1.1 * 3, none⟩ fun Name_5 =>
        LdI .i64 w ⟨b3, o4 + Int.toNat st1.1 * 3 + 1, none⟩ fun Size_6 =>
        LdI .i64 w ⟨b3, o4 + Int.toNat st1.1 * 3 + 2, none⟩ fun Raw_7 =>
        Ix b.a b.l st1.1 fun b8 o9 =>
        LdStr w ⟨b8, o9 + Int.toNat st1.1 * 3, none⟩ fun Name_10 =>
        LdI .i64 w ⟨b8, o9 + Int.toNat st1.1 * 3 + 1, none⟩ fun Size_11 =>
        LdI .i64 w ⟨b8, o9 + Int.toNat st1.1 * 3 + 2, none⟩ fun Raw_12 =>
        if (!(eqL [.string Name_5, .int .i64 Size_6, .int .i64 Raw_7] [.string Name_10, .int .i64 Size_11, .int .i64 Raw_12])) = true then
          K false w
        else
          Let (W (st1.1 + 1)) fun i_13 =>
          next2 (i_13, ()) w
      else
        K true w) (0, ()) w
def T.C27 : CallT := CallT.nil
def T.A27 : Ann := fun i => bif Nat.beq i 4 then some ([0, 1], [(5, 0)]) else none
set_option maxRecDepth 1000000 in
theorem T.eq27 (a : Sl) (b : Sl) (w : World) (K : Bool → World → Prop) : denF Tryz.prog T.C27 T.A27 Tryz.f27 [.slice a.a a.l a.c, .slice b.a b.l b.c] w (fun v w' => match v with | .bool r0 => K r0 w' | _ => False) = S.towerexact_sameInfos a b w K := by kernel_rfl
theorem T.CO27 : CallOk Tryz.prog T.C27 := CallOk.nil
def T.c27 (vs : List Value) (w : World) (K : Value → World → Prop) : Prop :=
  match vs with
  | [.slice aa al ac, .slice ba bl bc] => S.towerexact_sameInfos ⟨aa, al, ac⟩ ⟨ba, bl, bc⟩ w (fun r0 w' => K (.bool r0) w')
  | _ => False
theorem T.ok27 : ∀ vs w K, T.c27 vs w K → (callFunc 27 vs.toArray).run Tryz.prog w = .ok (.enter 27 vs.toArray) w ∧ Calls Tryz.prog 27 vs.toArray w fun e w' => ∃ v, e = .returned v ∧ K v w' := by
  intro vs w K h
  unfold T.c27 at h
  split at h
  · refine ⟨Tryz.call27 _ _, ok_of T.CO27 mixed Tryz.func27 (T.eq27 _ _ _ _) h fun v w' hk => ⟨v, rfl, ?_⟩⟩
    split at hk
    · exact hk
    · exact hk.elim
  · exact h.elim

/-- e2e/towerexact.listed (function 10). -/
def S.towerexact_listed (x : Nat) (m : Nat) (raw : ByteArray) (w : World) (K : Sl → Bool → World → Prop) : Prop :=
  S.arch_Archive_List x raw w (fun r1 r2 r3 w =>
  S.archm_Archive_List m raw w (fun r4 r5 r6 w =>
  Join (fun (w : World) =>
    K r1 false w) fun J7 =>
  Join (fun (w : World) =>
    if (r2 == r5) = true then
      if (r3 == r6) = true then
        S.towerexact_sameInfos r1 r4 w (fun r8 w =>
        K r1 r8 w)
      else
        K r1 false w
    else
      K r1 false w) fun J9 =>
  if (r2 != 0) = true then
    if (!(Option.isNone r1.a)) = true then
      J7 w
    else
      if ((r1.c : Int) != (r1.l : Int)) = true then
        J7 w
      else
        J9 w
  else
    if ((r1.c : Int) != (r1.l : Int)) = true then
      J7 w
    else
      J9 w))
def T.C10 : CallT := (CallT.cons 25 T.c25 (CallT.cons 26 T.c26 (CallT.cons 27 T.c27 CallT.nil)))
def T.A10 : Ann := fun _ => none
set_option maxRecDepth 1000000 in
theorem T.eq10 (x : Nat) (m : Nat) (raw : ByteArray) (w : World) (K : Sl → Bool → World → Prop) : denF Tryz.prog T.C10 T.A10 Tryz.f10 [.pointer (some ⟨x, 0, none⟩), .pointer (some ⟨m, 0, none⟩), .string raw] w (fun v w' => match v with | .tuple ⟨[.slice r0a r0l r0c, .bool r1]⟩ => K ⟨r0a, r0l, r0c⟩ r1 w' | _ => False) = S.towerexact_listed x m raw w K := by kernel_rfl
theorem T.CO10 : CallOk Tryz.prog T.C10 := (CallOk.cons 25 T.ok25 (CallOk.cons 26 T.ok26 (CallOk.cons 27 T.ok27 CallOk.nil)))
def T.c10 (vs : List Value) (w : World) (K : Value → World → Prop) : Prop :=
  match vs with
  | [.pointer (some ⟨x, 0, none⟩), .pointer (some ⟨m, 0, none⟩), .string raw] => S.towerexact_listed x m raw w (fun r0 r1 w' => K (.tuple #[.slice r0.a r0.l r0.c, .bool r1]) w')
  | _ => False
theorem T.ok10 : ∀ vs w K, T.c10 vs w K → (callFunc 10 vs.toArray).run Tryz.prog w = .ok (.enter 10 vs.toArray) w ∧ Calls Tryz.prog 10 vs.toArray w fun e w' => ∃ v, e = .returned v ∧ K v w' := by
  intro vs w K h
  unfold T.c10 at h
  split at h
  · refine ⟨Tryz.call10 _ _, ok_of T.CO10 mixed Tryz.func10 (T.eq10 _ _ _ _ _) h fun v w' hk => ⟨v, rfl, ?_⟩⟩
    split at hk
    · exact hk
    · exact hk.elim
  · exact h.elim

/-- (*e2e/stream.Decoder).Reset (function 65). -/
def S.stream_Decoder_Reset (d : Nat) (w : World) (K : World → Prop) : Prop :=
  LdP w ⟨d, 0, none⟩ fun t_1 =>
  S.bits_Tape_Reset t_1 w (fun w =>
  St1 w ⟨d, 4, none⟩ (.int .i64 0) fun w =>
  St1 w ⟨d, 5, none⟩ (.int .i64 0) fun w =>
  St1 w ⟨d, 6, none⟩ (.int .i64 0) fun w =>
  St1 w ⟨d, 7, none⟩ (.int .i64 0) fun w =>
  St1 w ⟨d, 15, none⟩ (.int .i64 0) fun w =>
  St1 w ⟨d, 16, none⟩ (.int .i64 0) fun w =>
  St1 w ⟨d, 18, none⟩ (.int .i64 0) fun w =>
  St1 w ⟨d, 19, none⟩ (.int .i64 0) fun w =>
  St1 w ⟨d, 20, none⟩ (.int .i64 0) fun w =>
  K w)
def T.C65 : CallT := (CallT.cons 35 T.c35 CallT.nil)
def T.A65 : Ann := fun _ => none
set_option maxRecDepth 1000000 in
theorem T.eq65 (d : Nat) (w : World) (K : World → Prop) : denF Tryz.prog T.C65 T.A65 Tryz.f65 [.pointer (some ⟨d, 0, none⟩)] w (fun v w' => match v with | .tuple ⟨[]⟩ => K w' | _ => False) = S.stream_Decoder_Reset d w K := by kernel_rfl
theorem T.CO65 : CallOk Tryz.prog T.C65 := (CallOk.cons 35 T.ok35 CallOk.nil)
def T.c65 (vs : List Value) (w : World) (K : Value → World → Prop) : Prop :=
  match vs with
  | [.pointer (some ⟨d, 0, none⟩)] => S.stream_Decoder_Reset d w (fun w' => K (.tuple #[]) w')
  | _ => False

theorem T.ok65 : ∀ vs w K, T.c65 vs w K → (callFunc 65 vs.toArray).run Tryz.prog w = .ok (.enter 65 vs.toArray) w ∧ Calls Tryz.prog 65 vs.toArray w fun e w' => ∃ v, e = .returned v ∧ K v w' := by
  intro vs w K h
  unfold T.c65 at h
  split at h
  · refine ⟨Tryz.call65 _ _, ok_of T.CO65 mixed Tryz.func65 (T.eq65 _ _ _) h fun v w' hk => ⟨v, rfl, ?_⟩⟩
    split at hk
    · exact hk
    · exact hk.elim
  · exact h.elim
end Go.Proofs.Qxb6500563aGreat
