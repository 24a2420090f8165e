/-
  MADE BY PROGRAM (my own gen.py) out of the translation: the Go functions as typed texts, each tied to the model by the kernel.
-/
import Derived.Test.Qxb6500563aGreatS1
set_option linter.unusedVariables false
namespace Go.Proofs.Qxb6500563aGreat
open Go.Den

/-- (*e2e/huff.Coder).lay (function 147). -/
def S.huff_Coder_lay (c : Nat) (w : World) (K : World → Prop) : Prop :=
  Join (fun (w : World) =>
    Join (fun (w : World) =>
      St1 w ⟨c, 5, none⟩ (.int .i64 0) fun w =>
      Join (fun (w : World) =>
        LoopP (σ := Int × Unit) (fun st1 w next2 =>
          LdI .i64 w ⟨c, 0, none⟩ fun n_3 =>
          if (decide (st1.1 < n_3)) = true then
            Join (fun (w : World) =>
              Let (W (st1.1 + 1)) fun s_4 =>
              next2 (s_4, ()) w) fun J5 =>
            LdS w ⟨c, 1, none⟩ fun lens_6 =>
            Ix lens_6.a lens_6.l st1.1 fun b7 o8 =>
            LdI .i64 w ⟨b7, o8 + Int.toNat st1.1 * 1, none⟩ fun x_9 =>
            if (decide (x_9 > 6)) = true then
              Drew w fun w =>
              LdS w ⟨c, 3, none⟩ fun root_10 =>
              LdS w ⟨c, 2, none⟩ fun code_11 =>
              Ix code_11.a code_11.l st1.1 fun b12 o13 =>
              LdI .i64 w ⟨b12, o13 + Int.toNat st1.1 * 1, none⟩ fun x_14 =>
              Ix root_10.a root_10.l (And .i64 x_14 63) fun b15 o16 =>
              LdI .i64 w ⟨b15, o16 + Int.toNat (And .i64 x_14 63) * 1, none⟩ fun x_17 =>
              Let (W (0 - x_17)) fun link_18 =>
              Let (Shr .i64 link_18 4) fun start_19 =>
              LdS w ⟨c, 2, none⟩ fun code_20 =>
              Ix code_20.a code_20.l st1.1 fun b21 o22 =>
              LdI .i64 w ⟨b21, o22 + Int.toNat st1.1 * 1, none⟩ fun x_23 =>
              Let (Shr .i64 x_23 6) fun j_24 =>
              LoopP (σ := Int × Unit) (fun st25 w next26 =>
                Pos (U64 (And .i64 link_18 15)) <|
                if (decide (st25.1 < (Shl .i64 1 (U64 (And .i64 link_18 15))))) = true then
                  LdS w ⟨c, 4, none⟩ fun sub_27 =>
                  Ix sub_27.a sub_27.l (W (start_19 + st25.1)) fun b28 o29 =>
                  St1 w ⟨b28, o29 + Int.toNat (W (start_19 + st25.1)) * 1, none⟩ (.int .i64 (Or .i64 (Shl .i64 st1.1 4) x_9)) fun w =>
                  Pos (U64 (W (x_9 - 6))) <|
                  Let (W (st25.1 + (Shl .i64 1 (U64 (W (x_9 - 6)))))) fun j_30 =>
                  next26 (j_30, ()) w
                else
                  J5 w) (j_24, ()) w
            else
              J5 w
          else
            K w) (0, ()) w) fun J31 =>
      LoopP (σ := Int × Unit) (fun st32 w next33 =>
        if (decide (st32.1 < 64)) = true then
          Join (fun (w : World) =>
            Let (W (st32.1 + 1)) fun p_34 =>
            next33 (p_34, ()) w) fun J35 =>
          LdS w ⟨c, 3, none⟩ fun root_36 =>
          Ix root_36.a root_36.l st32.1 fun b37 o38 =>
          LdI .i64 w ⟨b37, o38 + Int.toNat st32.1 * 1, none⟩ fun x_39 =>
          if (decide (x_39 < 0)) = true then
            LdS w ⟨c, 3, none⟩ fun root_40 =>
            Ix root_40.a root_40.l st32.1 fun b41 o42 =>
            LdI .i64 w ⟨b41, o42 + Int.toNat st32.1 * 1, none⟩ fun x_43 =>
            Let (W (0 - x_43)) fun width_44 =>
            Drew w fun w =>
            LdS w ⟨c, 3, none⟩ fun root_45 =>
            LdI .i64 w ⟨c, 5, none⟩ fun top_46 =>
            Ix root_45.a root_45.l st32.1 fun b47 o48 =>
            St1 w ⟨b47, o48 + Int.toNat st32.1 * 1, none⟩ (.int .i64 (W (0 - (Or .i64 (Shl .i64 top_46 4) width_44)))) fun w =>
            LoopP (σ := Int × Unit) (fun st49 w next50 =>
              Pos (U64 width_44) <|
              if (decide (st49.1 < (Shl .i64 1 (U64 width_44)))) = true then
                Drew w fun w =>
                LdS w ⟨c, 4, none⟩ fun sub_51 =>
                LdI .i64 w ⟨c, 5, none⟩ fun top_52 =>
                Ix sub_51.a sub_51.l top_52 fun b53 o54 =>
                St1 w ⟨b53, o54 + Int.toNat top_52 * 1, none⟩ (.int .i64 0) fun w =>
                LdI .i64 w ⟨c, 5, none⟩ fun top_55 =>
                St1 w ⟨c, 5, none⟩ (.int .i64 (W (top_55 + 1))) fun w =>
                Let (W (st49.1 + 1)) fun j_56 =>
                next50 (j_56, ()) w
              else
                J35 w) (0, ()) w
          else
            J35 w
        else
          J31 w) (0, ()) w) fun J57 =>
    LoopP (σ := Int × Unit) (fun st58 w next59 =>
      LdI .i64 w ⟨c, 0, none⟩ fun n_60 =>
      if (decide (st58.1 < n_60)) = true then
        Join (fun (w : World) =>
          Let (W (st58.1 + 1)) fun s_61 =>
          next59 (s_61, ()) w) fun J62 =>
        LdS w ⟨c, 1, none⟩ fun lens_63 =>
        Ix lens_63.a lens_63.l st58.1 fun b64 o65 =>
        LdI .i64 w ⟨b64, o65 + Int.toNat st58.1 * 1, none⟩ fun x_66 =>
        if (decide (x_66 > 6)) = true then
          LdS w ⟨c, 2, none⟩ fun code_67 =>
          Ix code_67.a code_67.l st58.1 fun b68 o69 =>
          LdI .i64 w ⟨b68, o69 + Int.toNat st58.1 * 1, none⟩ fun x_70 =>
          Let (And .i64 x_70 63) fun p_71 =>
          LdS w ⟨c, 3, none⟩ fun root_72 =>
          Ix root_72.a root_72.l p_71 fun b73 o74 =>
          LdI .i64 w ⟨b73, o74 + Int.toNat p_71 * 1, none⟩ fun x_75 =>
          if (decide ((W (0 - x_75)) < (W (x_66 - 6)))) = true then
            LdS w ⟨c, 3, none⟩ fun root_76 =>
            Ix root_76.a root_76.l p_71 fun b77 o78 =>
            St1 w ⟨b77, o78 + Int.toNat p_71 * 1, none⟩ (.int .i64 (W (6 - x_66))) fun w =>
            J62 w
          else
            J62 w
        else
          if (decide (x_66 > 0)) = true then
            LdS w ⟨c, 2, none⟩ fun code_79 =>
            Ix code_79.a code_79.l st58.1 fun b80 o81 =>
            LdI .i64 w ⟨b80, o81 + Int.toNat st58.1 * 1, none⟩ fun x_82 =>
            LoopP (σ := Int × Unit) (fun st83 w next84 =>
              if (decide (st83.1 < 64)) = true then
                LdS w ⟨c, 3, none⟩ fun root_85 =>
                Ix root_85.a root_85.l st83.1 fun b86 o87 =>
                St1 w ⟨b86, o87 + Int.toNat st83.1 * 1, none⟩ (.int .i64 (Or .i64 (Shl .i64 st58.1 4) x_66)) fun w =>
                Pos (U64 x_66) <|
                Let (W (st83.1 + (Shl .i64 1 (U64 x_66)))) fun i_88 =>
                next84 (i_88, ()) w
              else
                J62 w) (x_82, ()) w
          else
            J62 w
      else
        J57 w) (0, ()) w) fun J89 =>
  LoopP (σ := Int × Unit) (fun st90 w next91 =>
    if (decide (st90.1 < 64)) = true then
      LdS w ⟨c, 3, none⟩ fun root_92 =>
      Ix root_92.a root_92.l st90.1 fun b93 o94 =>
      St1 w ⟨b93, o94 + Int.toNat st90.1 * 1, none⟩ (.int .i64 0) fun w =>
      Let (W (st90.1 + 1)) fun i_95 =>
      next91 (i_95, ()) w
    else
      J89 w) (0, ()) w
def T.C147 : CallT := CallT.nil
def T.A147 : Ann := fun i => bif Nat.beq i 1 then some ([0], [(2, 0)]) else bif Nat.beq i 14 then some ([0, 3, 4], [(6, 0)]) else bif Nat.beq i 5 then some ([0], [(3, 0)]) else bif Nat.beq i 25 then some ([0, 7, 8], [(9, 0)]) else bif Nat.beq i 19 then some ([0], [(7, 0)]) else bif Nat.beq i 37 then some ([0, 10, 11, 12, 13], [(14, 0)]) else bif Nat.beq i 30 then some ([0], [(10, 0)]) else none
set_option maxRecDepth 1000000 in
theorem T.eq147 (c : Nat) (w : World) (K : World → Prop) : denF Tryz.prog T.C147 T.A147 Tryz.f147 [.pointer (some ⟨c, 0, none⟩)] w (fun v w' => match v with | .tuple ⟨[]⟩ => K w' | _ => False) = S.huff_Coder_lay c w K := by kernel_rfl
theorem T.CO147 : CallOk Tryz.prog T.C147 := CallOk.nil
def T.c147 (vs : List Value) (w : World) (K : Value → World → Prop) : Prop :=
  match vs with
  | [.pointer (some ⟨c, 0, none⟩)] => S.huff_Coder_lay c w (fun w' => K (.tuple #[]) w')
  | _ => False

theorem T.ok147 : ∀ vs w K, T.c147 vs w K → (callFunc 147 vs.toArray).run Tryz.prog w = .ok (.enter 147 vs.toArray) w ∧ Calls Tryz.prog 147 vs.toArray w fun e w' => ∃ v, e = .returned v ∧ K v w' := by
  intro vs w K h
  unfold T.c147 at h
  split at h
  · refine ⟨Tryz.call147 _ _, ok_of T.CO147 mixed Tryz.func147 (T.eq147 _ _ _) h fun v w' hk => ⟨v, rfl, ?_⟩⟩
    split at hk
    · exact hk
    · exact hk.elim
  · exact h.elim

/-- (*e2e/huff.Coder).Build (function 116). -/
def S.huff_Coder_Build (c : Nat) (lens : Sl) (w : World) (K : Int → World → Prop) : Prop :=
  if (decide ((lens.l : Int) > 265)) = true then
    K 1 w
  else
    New w (.cells #[.int .i64 0, .int .i64 0, .int .i64 0, .int .i64 0, .int .i64 0, .int .i64 0, .int .i64 0, .int .i64 0, .int .i64 0, .int .i64 0, .int .i64 0] 198) fun p1 w =>
    Join (fun (w : World) =>
      Join (fun (k_2 : Int) (w : World) =>
        if (decide (k_2 > 1024)) = true then
          K 6 w
        else
          Join (fun (w : World) =>
            New w (.cells #[.int .i64 0, .int .i64 0, .int .i64 0, .int .i64 0, .int .i64 0, .int .i64 0, .int .i64 0, .int .i64 0, .int .i64 0, .int .i64 0, .int .i64 0] 198) fun p3 w =>
            Join (fun (w : World) =>
              St1 w ⟨c, 0, none⟩ (.int .i64 (lens.l : Int)) fun w =>
              LoopP (σ := Int × Unit) (fun st4 w next5 =>
                if (decide (st4.1 < (lens.l : Int))) = true then
                  Join (fun (w : World) =>
                    Let (W (st4.1 + 1)) fun s_6 =>
                    next5 (s_6, ()) w) fun J7 =>
                  Ix lens.a lens.l st4.1 fun b8 o9 =>
                  LdI .i64 w ⟨b8, o9 + Int.toNat st4.1 * 1, none⟩ fun n_10 =>
                  LdS w ⟨c, 1, none⟩ fun lens_11 =>
                  Ix lens_11.a lens_11.l st4.1 fun b12 o13 =>
                  St1 w ⟨b12, o13 + Int.toNat st4.1 * 1, none⟩ (.int .i64 n_10) fun w =>
                  LdS w ⟨c, 2, none⟩ fun code_14 =>
                  Ix code_14.a code_14.l st4.1 fun b15 o16 =>
                  St1 w ⟨b15, o16 + Int.toNat st4.1 * 1, none⟩ (.int .i64 0) fun w =>
                  if (decide (n_10 > 0)) = true then
                    Drew w fun w =>
                    Hold w ⟨c, 2, none⟩ 1 fun R17 =>
                    LdS w ⟨c, 2, none⟩ fun code_18 =>
                    IxA 11 n_10 <|
                    LdI .i64 w ⟨p3, 0 + Int.toNat n_10 * 1, none⟩ fun x_19 =>
                    S.huff_flip x_19 n_10 w (fun r20 w =>
                    After R17 w <|
                    Ix code_18.a code_18.l st4.1 fun b21 o22 =>
                    St1 w ⟨b21, o22 + Int.toNat st4.1 * 1, none⟩ (.int .i64 r20) fun w =>
                    IxA 11 n_10 <|
                    LdI .i64 w ⟨p3, 0 + Int.toNat n_10 * 1, none⟩ fun x_23 =>
                    IxA 11 n_10 <|
                    St1 w ⟨p3, 0 + Int.toNat n_10 * 1, none⟩ (.int .i64 (W (x_23 + 1))) fun w =>
                    J7 w)
                  else
                    J7 w
                else
                  S.huff_Coder_lay c w (fun w =>
                  K 0 w)) (0, ()) w) fun J24 =>
            LoopP (σ := Int × Unit) (fun st25 w next26 =>
              if (decide (st25.1 ≤ 10)) = true then
                Drew w fun w =>
                IxA 11 (W (st25.1 - 1)) <|
                LdI .i64 w ⟨p3, 0 + Int.toNat (W (st25.1 - 1)) * 1, none⟩ fun x_27 =>
                IxA 11 (W (st25.1 - 1)) <|
                LdI .i64 w ⟨p1, 0 + Int.toNat (W (st25.1 - 1)) * 1, none⟩ fun x_28 =>
                IxA 11 st25.1 <|
                St1 w ⟨p3, 0 + Int.toNat st25.1 * 1, none⟩ (.int .i64 (Shl .i64 (W (x_27 + x_28)) 1)) fun w =>
                Let (W (st25.1 + 1)) fun n_29 =>
                next26 (n_29, ()) w
              else
                J24 w) (2, ()) w) fun J30 =>
          if (decide (k_2 < 1024)) = true then
            IxA 11 0 <|
            LdI .i64 w ⟨p1, 0 + Int.toNat 0 * 1, none⟩ fun x_31 =>
            Let (W ((lens.l : Int) - x_31)) fun used_32 =>
            if (decide (used_32 > 1)) = true then
              K 7 w
            else
              IxA 11 1 <|
              LdI .i64 w ⟨p1, 0 + Int.toNat 1 * 1, none⟩ fun x_33 =>
              if (used_32 != x_33) = true then
                K 7 w
              else
                J30 w
          else
            J30 w) fun J34 =>
      LoopP (σ := Int × Int × Unit) (fun st35 w next36 =>
        if (decide (st35.2.1 ≤ 10)) = true then
          IxA 11 st35.2.1 <|
          LdI .i64 w ⟨p1, 0 + Int.toNat st35.2.1 * 1, none⟩ fun x_37 =>
          Pos (U64 (W (10 - st35.2.1))) <|
          Let (W (st35.1 + (Shl .i64 x_37 (U64 (W (10 - st35.2.1)))))) fun k_38 =>
          Let (W (st35.2.1 + 1)) fun n_39 =>
          next36 (k_38, n_39, ()) w
        else
          J34 st35.1 w) (0, 1, ()) w) fun J40 =>
    LoopP (σ := Int × Unit) (fun st41 w next42 =>
      if (decide (st41.1 < (lens.l : Int))) = true then
        Ix lens.a lens.l st41.1 fun b43 o44 =>
        LdI .i64 w ⟨b43, o44 + Int.toNat st41.1 * 1, none⟩ fun x_45 =>
        if (decide (x_45 < 0)) = true then
          K 2 w
        else
          Ix lens.a lens.l st41.1 fun b46 o47 =>
          LdI .i64 w ⟨b46, o47 + Int.toNat st41.1 * 1, none⟩ fun x_48 =>
          if (decide (x_48 > 10)) = true then
            K 2 w
          else
            Ix lens.a lens.l st41.1 fun b49 o50 =>
            LdI .i64 w ⟨b49, o50 + Int.toNat st41.1 * 1, none⟩ fun x_51 =>
            IxA 11 x_51 <|
            LdI .i64 w ⟨p1, 0 + Int.toNat x_51 * 1, none⟩ fun x_52 =>
            IxA 11 x_51 <|
            St1 w ⟨p1, 0 + Int.toNat x_51 * 1, none⟩ (.int .i64 (W (x_52 + 1))) fun w =>
            Let (W (st41.1 + 1)) fun i_53 =>
            next42 (i_53, ()) w
      else
        J40 w) (0, ()) w
def T.C116 : CallT := (CallT.cons 146 T.c146 (CallT.cons 147 T.c147 CallT.nil))
def T.A116 : Ann := fun i => bif Nat.beq i 5 then some ([0, 1, 5], [(6, 0)]) else bif Nat.beq i 12 then some ([0, 1, 5], [(7, 0), (8, 0)]) else bif Nat.beq i 23 then some ([0, 1, 5, 10], [(11, 0)]) else bif Nat.beq i 28 then some ([0, 1, 10], [(12, 0)]) else none
set_option maxRecDepth 1000000 in
theorem T.eq116 (c : Nat) (lens : Sl) (w : World) (K : Int → World → Prop) : denF Tryz.prog T.C116 T.A116 Tryz.f116 [.pointer (some ⟨c, 0, none⟩), .slice lens.a lens.l lens.c] w (fun v w' => match v with | .int .i64 r0 => K r0 w' | _ => False) = S.huff_Coder_Build c lens w K := by kernel_rfl
theorem T.CO116 : CallOk Tryz.prog T.C116 := (CallOk.cons 146 T.ok146 (CallOk.cons 147 T.ok147 CallOk.nil))
def T.c116 (vs : List Value) (w : World) (K : Value → World → Prop) : Prop :=
  match vs with
  | [.pointer (some ⟨c, 0, none⟩), .slice lensa lensl lensc] => S.huff_Coder_Build c ⟨lensa, lensl, lensc⟩ w (fun r0 w' => K (.int .i64 r0) w')
  | _ => False
theorem T.ok116 : ∀ vs w K, T.c116 vs w K → (callFunc 116 vs.toArray).run Tryz.prog w = .ok (.enter 116 vs.toArray) w ∧ Calls Tryz.prog 116 vs.toArray w fun e w' => ∃ v, e = .returned v ∧ K v w' := by
  intro vs w K h
  unfold T.c116 at h
  split at h
  · refine ⟨Tryz.call116 _ _, ok_of T.CO116 mixed Tryz.func116 (T.eq116 _ _ _ _) h fun v w' hk => ⟨v, rfl, ?_⟩⟩
    split at hk
    · exact hk
    · exact hk.elim
  · exact h.elim

/-- (*e2e/huff.Coder).Code (function 148). -/
def S.huff_Coder_Code (c : Nat) (sym : Int) (w : World) (K : Int → Int → Int → World → Prop) : Prop :=
  Join (fun (w : World) =>
    K 0 0 2 w) fun J1 =>
  if (decide (sym < 0)) = true then
    J1 w
  else
    LdI .i64 w ⟨c, 0, none⟩ fun n_2 =>
    if (decide (sym ≥ n_2)) = true then
      J1 w
    else
      LdS w ⟨c, 1, none⟩ fun lens_3 =>
      Ix lens_3.a lens_3.l sym fun b4 o5 =>
      LdI .i64 w ⟨b4, o5 + Int.toNat sym * 1, none⟩ fun x_6 =>
      if (x_6 == 0) = true then
        K 0 0 2 w
      else
        Drew w fun w =>
        LdS w ⟨c, 2, none⟩ fun code_7 =>
        Ix code_7.a code_7.l sym fun b8 o9 =>
        LdI .i64 w ⟨b8, o9 + Int.toNat sym * 1, none⟩ fun x_10 =>
        LdS w ⟨c, 1, none⟩ fun lens_11 =>
        Ix lens_11.a lens_11.l sym fun b12 o13 =>
        LdI .i64 w ⟨b12, o13 + Int.toNat sym * 1, none⟩ fun x_14 =>
        K x_10 x_14 0 w
def T.C148 : CallT := CallT.nil
def T.A148 : Ann := fun _ => none
set_option maxRecDepth 1000000 in
theorem T.eq148 (c : Nat) (sym : Int) (w : World) (K : Int → Int → Int → World → Prop) : denF Tryz.prog T.C148 T.A148 Tryz.f148 [.pointer (some ⟨c, 0, none⟩), .int .i64 sym] w (fun v w' => match v with | .tuple ⟨[.int .i64 r0, .int .i64 r1, .int .i64 r2]⟩ => K r0 r1 r2 w' | _ => False) = S.huff_Coder_Code c sym w K := by kernel_rfl
theorem T.CO148 : CallOk Tryz.prog T.C148 := CallOk.nil
def T.c148 (vs : List Value) (w : World) (K : Value → World → Prop) : Prop :=
  match vs with
  | [.pointer (some ⟨c, 0, none⟩), .int .i64 sym] => S.huff_Coder_Code c sym w (fun r0 r1 r2 w' => K (.tuple #[.int .i64 r0, .int .i64 r1, .int .i64 r2]) w')
  | _ => False
theorem T.ok148 : ∀ vs w K, T.c148 vs w K → (callFunc 148 vs.toArray).run Tryz.prog w = .ok (.enter 148 vs.toArray) w ∧ Calls Tryz.prog 148 vs.toArray w fun e w' => ∃ v, e = .returned v ∧ K v w' := by
  intro vs w K h
  unfold T.c148 at h
  split at h
  · refine ⟨Tryz.call148 _ _, ok_of T.CO148 mixed Tryz.func148 (T.eq148 _ _ _ _) h fun v w' hk => ⟨v, rfl, ?_⟩⟩
    split at hk
    · exact hk
    · exact hk.elim
  · exact h.elim

/-- (*e2e/block.Packer).fetch (function 117). -/
def S.block_Packer_fetch (p : Nat) (w : World) (K : World → Prop) : Prop :=
  Join (fun (w : World) =>
    LoopP (σ := Int × Unit) (fun st1 w next2 =>
      if (decide (st1.1 < 8)) = true then
        Join (fun (w : World) =>
          Let (W (st1.1 + 1)) fun c_3 =>
          next2 (c_3, ()) w) fun J4 =>
        LdS w ⟨p, 4, none⟩ fun count_5 =>
        Ix count_5.a count_5.l (W (265 + st1.1)) fun b6 o7 =>
        LdI .i64 w ⟨b6, o7 + Int.toNat (W (265 + st1.1)) * 1, none⟩ fun x_8 =>
        if (decide (x_8 > 0)) = true then
          LdP w ⟨p, 2, none⟩ fun b_9 =>
          S.huff_Coder_Code b_9 st1.1 w (fun r10 r11 r12 w =>
          LdS w ⟨p, 6, none⟩ fun code_13 =>
          Ix code_13.a code_13.l (W (265 + st1.1)) fun b14 o15 =>
          St1 w ⟨b14, o15 + Int.toNat (W (265 + st1.1)) * 1, none⟩ (.int .i64 r10) fun w =>
          LdS w ⟨p, 7, none⟩ fun wide_16 =>
          Ix wide_16.a wide_16.l (W (265 + st1.1)) fun b17 o18 =>
          St1 w ⟨b17, o18 + Int.toNat (W (265 + st1.1)) * 1, none⟩ (.int .i64 r11) fun w =>
          J4 w)
        else
          J4 w
      else
        K w) (0, ()) w) fun J19 =>
  LoopP (σ := Int × Unit) (fun st20 w next21 =>
    if (decide (st20.1 < 265)) = true then
      Join (fun (w : World) =>
        Let (W (st20.1 + 1)) fun s_22 =>
        next21 (s_22, ()) w) fun J23 =>
      LdS w ⟨p, 4, none⟩ fun count_24 =>
      Ix count_24.a count_24.l st20.1 fun b25 o26 =>
      LdI .i64 w ⟨b25, o26 + Int.toNat st20.1 * 1, none⟩ fun x_27 =>
      if (decide (x_27 > 0)) = true then
        LdP w ⟨p, 1, none⟩ fun a_28 =>
        S.huff_Coder_Code a_28 st20.1 w (fun r29 r30 r31 w =>
        LdS w ⟨p, 6, none⟩ fun code_32 =>
        Ix code_32.a code_32.l st20.1 fun b33 o34 =>
        St1 w ⟨b33, o34 + Int.toNat st20.1 * 1, none⟩ (.int .i64 r29) fun w =>
        LdS w ⟨p, 7, none⟩ fun wide_35 =>
        Ix wide_35.a wide_35.l st20.1 fun b36 o37 =>
        St1 w ⟨b36, o37 + Int.toNat st20.1 * 1, none⟩ (.int .i64 r30) fun w =>
        J23 w)
      else
        J23 w
    else
      J19 w) (0, ()) w
def T.C117 : CallT := (CallT.cons 148 T.c148 CallT.nil)
def T.A117 : Ann := fun i => bif Nat.beq i 1 then some ([0], [(2, 0)]) else bif Nat.beq i 8 then some ([0], [(6, 0)]) else none
set_option maxRecDepth 1000000 in
theorem T.eq117 (p : Nat) (w : World) (K : World → Prop) : denF Tryz.prog T.C117 T.A117 Tryz.f117 [.pointer (some ⟨p, 0, none⟩)] w (fun v w' => match v with | .tuple ⟨[]⟩ => K w' | _ => False) = S.block_Packer_fetch p w K := by kernel_rfl
theorem T.CO117 : CallOk Tryz.prog T.C117 := (CallOk.cons 148 T.ok148 CallOk.nil)
def T.c117 (vs : List Value) (w : World) (K : Value → World → Prop) : Prop :=
  match vs with
  | [.pointer (some ⟨p, 0, none⟩)] => S.block_Packer_fetch p w (fun w' => K (.tuple #[]) w')
  | _ => False

theorem T.ok117 : ∀ vs w K, T.c117 vs w K → (callFunc 117 vs.toArray).run Tryz.prog w = .ok (.enter 117 vs.toArray) w ∧ Calls Tryz.prog 117 vs.toArray w fun e w' => ∃ v, e = .returned v ∧ K v w' := by
  intro vs w K h
  unfold T.c117 at h
  split at h
  · refine ⟨Tryz.call117 _ _, ok_of T.CO117 mixed Tryz.func117 (T.eq117 _ _ _) h fun v w' hk => ⟨v, rfl, ?_⟩⟩
    split at hk
    · exact hk
    · exact hk.elim
  · exact h.elim

/-- (*e2e/block.Packer).sym (function 149). -/
def S.block_Packer_sym (p : Nat) (s_ : Int) (w : World) (K : World → Prop) : Prop :=
  Drew w fun w =>
  LdP w ⟨p, 0, none⟩ fun t_1 =>
  LdS w ⟨p, 6, none⟩ fun code_2 =>
  Ix code_2.a code_2.l s_ fun b3 o4 =>
  LdI .i64 w ⟨b3, o4 + Int.toNat s_ * 1, none⟩ fun x_5 =>
  LdS w ⟨p, 7, none⟩ fun wide_6 =>
  Ix wide_6.a wide_6.l s_ fun b7 o8 =>
  LdI .i64 w ⟨b7, o8 + Int.toNat s_ * 1, none⟩ fun x_9 =>
  S.bits_Tape_Put t_1 x_5 x_9 w (fun r10 w =>
  K w)
def T.C149 : CallT := (CallT.cons 81 T.c81 CallT.nil)
def T.A149 : Ann := fun _ => none
set_option maxRecDepth 1000000 in
theorem T.eq149 (p : Nat) (s_ : Int) (w : World) (K : World → Prop) : denF Tryz.prog T.C149 T.A149 Tryz.f149 [.pointer (some ⟨p, 0, none⟩), .int .i64 s_] w (fun v w' => match v with | .tuple ⟨[]⟩ => K w' | _ => False) = S.block_Packer_sym p s_ w K := by kernel_rfl
theorem T.CO149 : CallOk Tryz.prog T.C149 := (CallOk.cons 81 T.ok81 CallOk.nil)
def T.c149 (vs : List Value) (w : World) (K : Value → World → Prop) : Prop :=
  match vs with
  | [.pointer (some ⟨p, 0, none⟩), .int .i64 s_] => S.block_Packer_sym p s_ w (fun w' => K (.tuple #[]) w')
  | _ => False

theorem T.ok149 : ∀ vs w K, T.c149 vs w K → (callFunc 149 vs.toArray).run Tryz.prog w = .ok (.enter 149 vs.toArray) w ∧ Calls Tryz.prog 149 vs.toArray w fun e w' => ∃ v, e = .returned v ∧ K v w' := by
  intro vs w K h
  unfold T.c149 at h
  split at h
  · refine ⟨Tryz.call149 _ _, ok_of T.CO149 mixed Tryz.func149 (T.eq149 _ _ _ _) h fun v w' hk => ⟨v, rfl, ?_⟩⟩
    split at hk
    · exact hk
    · exact hk.elim
  · exact h.elim

/-- (*e2e/block.Packer).tokens (function 118). -/
def S.block_Packer_tokens (p : Nat) (toks : Sl) (w : World) (K : World → Prop) : Prop :=
  LoopP (σ := Int × Unit) (fun st1 w next2 =>
    if (decide (st1.1 < (toks.l : Int))) = true then
      Join (fun (w : World) =>
        Let (W (st1.1 + 1)) fun k_3 =>
        next2 (k_3, ()) w) fun J4 =>
      Ix toks.a toks.l st1.1 fun b5 o6 =>
      LdI .i64 w ⟨b5, o6 + Int.toNat st1.1 * 3, none⟩ fun Len_7 =>
      if (Len_7 == 0) = true then
        Ix toks.a toks.l st1.1 fun b8 o9 =>
        LdI .i64 w ⟨b8, o9 + Int.toNat st1.1 * 3 + 2, none⟩ fun Lit_10 =>
        S.block_Packer_sym p Lit_10 w (fun w =>
        J4 w)
      else
        S.block_lenSym Len_7 w (fun r11 w =>
        S.block_Packer_sym p r11 w (fun w =>
        Ix toks.a toks.l st1.1 fun b12 o13 =>
        LdI .i64 w ⟨b12, o13 + Int.toNat st1.1 * 3 + 1, none⟩ fun Dist_14 =>
        S.api_DistCode Dist_14 w (fun r15 w =>
        S.block_Packer_sym p (W (265 + r15)) w (fun w =>
        S.api_DistBase r15 w (fun r16 r17 w =>
        if (decide (r17 > 0)) = true then
          LdP w ⟨p, 0, none⟩ fun t_18 =>
          S.bits_Tape_Put t_18 (W (Dist_14 - r16)) r17 w (fun r19 w =>
          J4 w)
        else
          J4 w)))))
    else
      S.block_Packer_sym p 256 w (fun w =>
      K w)) (0, ()) w
def T.C118 : CallT := (CallT.cons 149 T.c149 (CallT.cons 109 T.c109 (CallT.cons 86 T.c86 (CallT.cons 93 T.c93 (CallT.cons 81 T.c81 CallT.nil)))))
def T.A118 : Ann := fun i => bif Nat.beq i 1 then some ([0, 1], [(4, 0)]) else none
set_option maxRecDepth 1000000 in
theorem T.eq118 (p : Nat) (toks : Sl) (w : World) (K : World → Prop) : denF Tryz.prog T.C118 T.A118 Tryz.f118 [.pointer (some ⟨p, 0, none⟩), .slice toks.a toks.l toks.c] w (fun v w' => match v with | .tuple ⟨[]⟩ => K w' | _ => False) = S.block_Packer_tokens p toks w K := by kernel_rfl
theorem T.CO118 : CallOk Tryz.prog T.C118 := (CallOk.cons 149 T.ok149 (CallOk.cons 109 T.ok109 (CallOk.cons 86 T.ok86 (CallOk.cons 93 T.ok93 (CallOk.cons 81 T.ok81 CallOk.nil)))))
def T.c118 (vs : List Value) (w : World) (K : Value → World → Prop) : Prop :=
  match vs with
  | [.pointer (some ⟨p, 0, none⟩), .slice toksa toksl toksc] => S.block_Packer_tokens p ⟨toksa, toksl, toksc⟩ w (fun w' => K (.tuple #[]) w')
  | _ => False

theorem T.ok118 : ∀ vs w K, T.c118 vs w K → (callFunc 118 vs.toArray).run Tryz.prog w = .ok (.enter 118 vs.toArray) w ∧ Calls Tryz.prog 118 vs.toArray w fun e w' => ∃ v, e = .returned v ∧ K v w' := by
  intro vs w K h
  unfold T.c118 at h
  split at h
  · refine ⟨Tryz.call118 _ _, ok_of T.CO118 mixed Tryz.func118 (T.eq118 _ _ _ _) h fun v w' hk => ⟨v, rfl, ?_⟩⟩
    split at hk
    · exact hk
    · exact hk.elim
  · exact h.elim

/-- (*e2e/block.Packer).fixed (function 115). -/
def S.block_Packer_fixed (p : Nat) (w : World) (K : World → Prop) : Prop :=
  Join (fun (w : World) =>
    LoopP (σ := Int × Unit) (fun st1 w next2 =>
      if (decide (st1.1 < 8)) = true then
        LdS w ⟨p, 5, none⟩ fun plan_3 =>
        Ix plan_3.a plan_3.l (W (265 + st1.1)) fun b4 o5 =>
        St1 w ⟨b4, o5 + Int.toNat (W (265 + st1.1)) * 1, none⟩ (.int .i64 3) fun w =>
        Let (W (st1.1 + 1)) fun c_6 =>
        next2 (c_6, ()) w
      else
        K w) (0, ()) w) fun J7 =>
  LoopP (σ := Int × Unit) (fun st8 w next9 =>
    if (decide (st8.1 < 265)) = true then
      Drew w fun w =>
      Hold w ⟨p, 5, none⟩ 1 fun R10 =>
      LdS w ⟨p, 5, none⟩ fun plan_11 =>
      S.api_FixedLen st8.1 w (fun r12 w =>
      After R10 w <|
      Ix plan_11.a plan_11.l st8.1 fun b13 o14 =>
      St1 w ⟨b13, o14 + Int.toNat st8.1 * 1, none⟩ (.int .i64 r12) fun w =>
      Let (W (st8.1 + 1)) fun s_15 =>
      next9 (s_15, ()) w)
    else
      J7 w) (0, ()) w
def T.C115 : CallT := (CallT.cons 91 T.c91 CallT.nil)
def T.A115 : Ann := fun i => bif Nat.beq i 1 then some ([0], [(2, 0)]) else bif Nat.beq i 5 then some ([0], [(3, 0)]) else none
set_option maxRecDepth 1000000 in
theorem T.eq115 (p : Nat) (w : World) (K : World → Prop) : denF Tryz.prog T.C115 T.A115 Tryz.f115 [.pointer (some ⟨p, 0, none⟩)] w (fun v w' => match v with | .tuple ⟨[]⟩ => K w' | _ => False) = S.block_Packer_fixed p w K := by kernel_rfl
theorem T.CO115 : CallOk Tryz.prog T.C115 := (CallOk.cons 91 T.ok91 CallOk.nil)
def T.c115 (vs : List Value) (w : World) (K : Value → World → Prop) : Prop :=
  match vs with
  | [.pointer (some ⟨p, 0, none⟩)] => S.block_Packer_fixed p w (fun w' => K (.tuple #[]) w')
  | _ => False

theorem T.ok115 : ∀ vs w K, T.c115 vs w K → (callFunc 115 vs.toArray).run Tryz.prog w = .ok (.enter 115 vs.toArray) w ∧ Calls Tryz.prog 115 vs.toArray w fun e w' => ∃ v, e = .returned v ∧ K v w' := by
  intro vs w K h
  unfold T.c115 at h
  split at h
  · refine ⟨Tryz.call115 _ _, ok_of T.CO115 mixed Tryz.func115 (T.eq115 _ _ _) h fun v w' hk => ⟨v, rfl, ?_⟩⟩
    split at hk
    · exact hk
    · exact hk.elim
  · exact h.elim

/-- (*e2e/block.Packer).coded (function 83). -/
def S.block_Packer_coded (p : Nat) (kind : Int) (toks : Sl) (w : World) (K : World → Prop) : Prop :=
  Join (fun (w : World) =>
    Drew w fun w =>
    LdP w ⟨p, 1, none⟩ fun a_1 =>
    LdS w ⟨p, 5, none⟩ fun plan_2 =>
    CutS 1 plan_2 0 265 (plan_2.c : Int) fun l3 =>
    S.huff_Coder_Build a_1 l3 w (fun r4 w =>
    Drew w fun w =>
    LdP w ⟨p, 2, none⟩ fun b_5 =>
    LdS w ⟨p, 5, none⟩ fun plan_6 =>
    CutS 1 plan_6 265 (plan_6.l : Int) (plan_6.c : Int) fun l7 =>
    S.huff_Coder_Build b_5 l7 w (fun r8 w =>
    Join (fun (w : World) =>
      S.block_Packer_fetch p w (fun w =>
      S.block_Packer_tokens p toks w (fun w =>
      K w))) fun J9 =>
    if (kind == 2) = true then
      S.block_Packer_list p true w (fun r10 w =>
      J9 w)
    else
      J9 w))) fun J11 =>
  if (kind == 1) = true then
    S.block_Packer_fixed p w (fun w =>
    J11 w)
  else
    J11 w
def T.C83 : CallT := (CallT.cons 116 T.c116 (CallT.cons 117 T.c117 (CallT.cons 118 T.c118 (CallT.cons 112 T.c112 (CallT.cons 115 T.c115 CallT.nil)))))
def T.A83 : Ann := fun _ => none
set_option maxRecDepth 1000000 in
theorem T.eq83 (p : Nat) (kind : Int) (toks : Sl) (w : World) (K : World → Prop) : denF Tryz.prog T.C83 T.A83 Tryz.f83 [.pointer (some ⟨p, 0, none⟩), .int .i64 kind, .slice toks.a toks.l toks.c] w (fun v w' => match v with | .tuple ⟨[]⟩ => K w' | _ => False) = S.block_Packer_coded p kind toks w K := by kernel_rfl
theorem T.CO83 : CallOk Tryz.prog T.C83 := (CallOk.cons 116 T.ok116 (CallOk.cons 117 T.ok117 (CallOk.cons 118 T.ok118 (CallOk.cons 112 T.ok112 (CallOk.cons 115 T.ok115 CallOk.nil)))))
def T.c83 (vs : List Value) (w : World) (K : Value → World → Prop) : Prop :=
  match vs with
  | [.pointer (some ⟨p, 0, none⟩), .int .i64 kind, .slice toksa toksl toksc] => S.block_Packer_coded p kind ⟨toksa, toksl, toksc⟩ w (fun w' => K (.tuple #[]) w')
  | _ => False

theorem T.ok83 : ∀ vs w K, T.c83 vs w K → (callFunc 83 vs.toArray).run Tryz.prog w = .ok (.enter 83 vs.toArray) w ∧ Calls Tryz.prog 83 vs.toArray w fun e w' => ∃ v, e = .returned v ∧ K v w' := by
  intro vs w K h
  unfold T.c83 at h
  split at h
  · refine ⟨Tryz.call83 _ _, ok_of T.CO83 mixed Tryz.func83 (T.eq83 _ _ _ _ _) h fun v w' hk => ⟨v, rfl, ?_⟩⟩
    split at hk
    · exact hk
    · exact hk.elim
  · exact h.elim

/-- (*e2e/block.Packer).Pack (function 53). -/
def S.block_Packer_Pack (p : Nat) (data : ByteArray) (level : Int) (w : World) (K : ByteArray → Int → World → Prop) : Prop :=
  if (decide ((data.size : Int) > 256)) = true then
    K ⟨#[]⟩ 1 w
  else
    if (decide (level < 0)) = true then
      K ⟨#[]⟩ 13 w
    else
      if (decide (level > 2)) = true then
        K ⟨#[]⟩ 13 w
      else
        LdP w ⟨p, 3, none⟩ fun z_1 =>
        S.lz_Matcher_Parse z_1 data level w (fun r2 r3 w =>
        S.block_Packer_tally p r2 w (fun w =>
        S.block_Packer_lengths p w (fun w =>
        S.block_Packer_choose p (data.size : Int) w (fun r4 w =>
        LdP w ⟨p, 0, none⟩ fun t_5 =>
        S.bits_Tape_Reset t_5 w (fun w =>
        LdP w ⟨p, 0, none⟩ fun t_6 =>
        S.bits_Tape_Put t_6 1 1 w (fun r7 w =>
        LdP w ⟨p, 0, none⟩ fun t_8 =>
        S.bits_Tape_Put t_8 r4 2 w (fun r9 w =>
        Join (fun (w : World) =>
          LdP w ⟨p, 0, none⟩ fun t_10 =>
          S.bits_Tape_Text t_10 w (fun r11 w =>
          K r11 0 w)) fun J12 =>
        if (r4 == 0) = true then
          S.block_Packer_stored p data w (fun w =>
          J12 w)
        else
          S.block_Packer_coded p r4 r2 w (fun w =>
          J12 w))))))))
def T.C53 : CallT := (CallT.cons 77 T.c77 (CallT.cons 78 T.c78 (CallT.cons 79 T.c79 (CallT.cons 80 T.c80 (CallT.cons 35 T.c35 (CallT.cons 81 T.c81 (CallT.cons 84 T.c84 (CallT.cons 82 T.c82 (CallT.cons 83 T.c83 CallT.nil)))))))))
def T.A53 : Ann := fun _ => none
set_option maxRecDepth 1000000 in
theorem T.eq53 (p : Nat) (data : ByteArray) (level : Int) (w : World) (K : ByteArray → Int → World → Prop) : denF Tryz.prog T.C53 T.A53 Tryz.f53 [.pointer (some ⟨p, 0, none⟩), .string data, .int .i64 level] w (fun v w' => match v with | .tuple ⟨[.string r0, .int .i64 r1]⟩ => K r0 r1 w' | _ => False) = S.block_Packer_Pack p data level w K := by kernel_rfl
theorem T.CO53 : CallOk Tryz.prog T.C53 := (CallOk.cons 77 T.ok77 (CallOk.cons 78 T.ok78 (CallOk.cons 79 T.ok79 (CallOk.cons 80 T.ok80 (CallOk.cons 35 T.ok35 (CallOk.cons 81 T.ok81 (CallOk.cons 84 T.ok84 (CallOk.cons 82 T.ok82 (CallOk.cons 83 T.ok83 CallOk.nil)))))))))
def T.c53 (vs : List Value) (w : World) (K : Value → World → Prop) : Prop :=
  match vs with
  | [.pointer (some ⟨p, 0, none⟩), .string data, .int .i64 level] => S.block_Packer_Pack p data level w (fun r0 r1 w' => K (.tuple #[.string r0, .int .i64 r1]) w')
  | _ => False
theorem T.ok53 : ∀ vs w K, T.c53 vs w K → (callFunc 53 vs.toArray).run Tryz.prog w = .ok (.enter 53 vs.toArray) w ∧ Calls Tryz.prog 53 vs.toArray w fun e w' => ∃ v, e = .returned v ∧ K v w' := by
  intro vs w K h
  unfold T.c53 at h
  split at h
  · refine ⟨Tryz.call53 _ _, ok_of T.CO53 mixed Tryz.func53 (T.eq53 _ _ _ _ _) h fun v w' hk => ⟨v, rfl, ?_⟩⟩
    split at hk
    · exact hk
    · exact hk.elim
  · exact h.elim

/-- e2e/api.Sum (function 43). -/
def S.api_Sum (s_ : ByteArray) (w : World) (K : Int → World → Prop) : Prop :=
  Join (fun (a_1 : Int) (b_2 : Int) (w : World) =>
    K (W ((W (b_2 * 256)) + a_1)) w) fun J3 =>
  LoopP (σ := Int × Int × Int × Unit) (fun st4 w next5 =>
    if (decide (st4.2.2.1 < (s_.size : Int))) = true then
      IxStr s_ st4.2.2.1 fun c6 =>
      Let (Int.tmod (W (st4.1 + (W c6))) 251) fun a_7 =>
      Let (Int.tmod (W (st4.2.1 + a_7)) 251) fun b_8 =>
      Let (W (st4.2.2.1 + 1)) fun i_9 =>
      next5 (a_7, b_8, i_9, ()) w
    else
      J3 st4.1 st4.2.1 w) (1, 0, 0, ()) w
def T.C43 : CallT := CallT.nil
def T.A43 : Ann := fun i => bif Nat.beq i 4 then some ([0], [(3, 0), (4, 0), (5, 0)]) else none
set_option maxRecDepth 1000000 in
theorem T.eq43 (s_ : ByteArray) (w : World) (K : Int → World → Prop) : denF Tryz.prog T.C43 T.A43 Tryz.f43 [.string s_] w (fun v w' => match v with | .int .i64 r0 => K r0 w' | _ => False) = S.api_Sum s_ w K := by kernel_rfl
theorem T.CO43 : CallOk Tryz.prog T.C43 := CallOk.nil
def T.c43 (vs : List Value) (w : World) (K : Value → World → Prop) : Prop :=
  match vs with
  | [.string s_] => S.api_Sum s_ w (fun r0 w' => K (.int .i64 r0) w')
  | _ => False
theorem T.ok43 : ∀ vs w K, T.c43 vs w K → (callFunc 43 vs.toArray).run Tryz.prog w = .ok (.enter 43 vs.toArray) w ∧ Calls Tryz.prog 43 vs.toArray w fun e w' => ∃ v, e = .returned v ∧ K v w' := by
  intro vs w K h
  unfold T.c43 at h
  split at h
  · refine ⟨Tryz.call43 _ _, ok_of T.CO43 mixed Tryz.func43 (T.eq43 _ _ _) h fun v w' hk => ⟨v, rfl, ?_⟩⟩
    split at hk
    · exact hk
    · exact hk.elim
  · exact h.elim

/-- (*e2e/arch.Archive).lay (function 54). -/
def S.arch_Archive_lay (a : Nat) (s_ : ByteArray) (w : World) (K : World → Prop) : Prop :=
  Drew w fun w =>
  LdS w ⟨a, 2, none⟩ fun page_1 =>
  LdI .i64 w ⟨a, 3, none⟩ fun fill_2 =>
  CutS 1 page_1 fill_2 (page_1.l : Int) (page_1.c : Int) fun l3 =>
  CopyStr w l3 s_ fun n4 w =>
  LdI .i64 w ⟨a, 3, none⟩ fun fill_5 =>
  St1 w ⟨a, 3, none⟩ (.int .i64 (W (fill_5 + (s_.size : Int)))) fun w =>
  K w
def T.C54 : CallT := CallT.nil
def T.A54 : Ann := fun _ => none
set_option maxRecDepth 1000000 in
theorem T.eq54 (a : Nat) (s_ : ByteArray) (w : World) (K : World → Prop) : denF Tryz.prog T.C54 T.A54 Tryz.f54 [.pointer (some ⟨a, 0, none⟩), .string s_] w (fun v w' => match v with | .tuple ⟨[]⟩ => K w' | _ => False) = S.arch_Archive_lay a s_ w K := by kernel_rfl
theorem T.CO54 : CallOk Tryz.prog T.C54 := CallOk.nil
def T.c54 (vs : List Value) (w : World) (K : Value → World → Prop) : Prop :=
  match vs with
  | [.pointer (some ⟨a, 0, none⟩), .string s_] => S.arch_Archive_lay a s_ w (fun w' => K (.tuple #[]) w')
  | _ => False

theorem T.ok54 : ∀ vs w K, T.c54 vs w K → (callFunc 54 vs.toArray).run Tryz.prog w = .ok (.enter 54 vs.toArray) w ∧ Calls Tryz.prog 54 vs.toArray w fun e w' => ∃ v, e = .returned v ∧ K v w' := by
  intro vs w K h
  unfold T.c54 at h
  split at h
  · refine ⟨Tryz.call54 _ _, ok_of T.CO54 mixed Tryz.func54 (T.eq54 _ _ _ _) h fun v w' hk => ⟨v, rfl, ?_⟩⟩
    split at hk
    · exact hk
    · exact hk.elim
  · exact h.elim

/-- (*e2e/arch.Archive).record (function 37). -/
def S.arch_Archive_record (a : Nat) (name : ByteArray) (data : ByteArray) (level : Int) (w : World) (K : World → Prop) : Prop :=
  LdP w ⟨a, 0, none⟩ fun k_1 =>
  S.block_Packer_Pack k_1 data level w (fun r2 r3 w =>
  S.api_Sum data w (fun r4 w =>
  S.arch_Archive_one a (name.size : Int) w (fun w =>
  S.arch_Archive_lay a name w (fun w =>
  S.arch_Archive_two a (data.size : Int) w (fun w =>
  S.arch_Archive_two a (r2.size : Int) w (fun w =>
  S.arch_Archive_two a r4 w (fun w =>
  S.arch_Archive_lay a r2 w (fun w =>
  K w))))))))
def T.C37 : CallT := (CallT.cons 53 T.c53 (CallT.cons 43 T.c43 (CallT.cons 39 T.c39 (CallT.cons 54 T.c54 (CallT.cons 38 T.c38 CallT.nil)))))
def T.A37 : Ann := fun _ => none
set_option maxRecDepth 1000000 in
theorem T.eq37 (a : Nat) (name : ByteArray) (data : ByteArray) (level : Int) (w : World) (K : World → Prop) : denF Tryz.prog T.C37 T.A37 Tryz.f37 [.pointer (some ⟨a, 0, none⟩), .string name, .string data, .int .i64 level] w (fun v w' => match v with | .tuple ⟨[]⟩ => K w' | _ => False) = S.arch_Archive_record a name data level w K := by kernel_rfl
theorem T.CO37 : CallOk Tryz.prog T.C37 := (CallOk.cons 53 T.ok53 (CallOk.cons 43 T.ok43 (CallOk.cons 39 T.ok39 (CallOk.cons 54 T.ok54 (CallOk.cons 38 T.ok38 CallOk.nil)))))
def T.c37 (vs : List Value) (w : World) (K : Value → World → Prop) : Prop :=
  match vs with
  | [.pointer (some ⟨a, 0, none⟩), .string name, .string data, .int .i64 level] => S.arch_Archive_record a name data level w (fun w' => K (.tuple #[]) w')
  | _ => False

theorem T.ok37 : ∀ vs w K, T.c37 vs w K → (callFunc 37 vs.toArray).run Tryz.prog w = .ok (.enter 37 vs.toArray) w ∧ Calls Tryz.prog 37 vs.toArray w fun e w' => ∃ v, e = .returned v ∧ K v w' := by
  intro vs w K h
  unfold T.c37 at h
  split at h
  · refine ⟨Tryz.call37 _ _, ok_of T.CO37 mixed Tryz.func37 (T.eq37 _ _ _ _ _ _) h fun v w' hk => ⟨v, rfl, ?_⟩⟩
    split at hk
    · exact hk
    · exact hk.elim
  · exact h.elim

/-- (*e2e/arch.Archive).Pack (function 23). -/
def S.arch_Archive_Pack (a : Nat) (l : Sl) (level : Int) (w : World) (K : ByteArray → Int → World → Prop) : Prop :=
  if (decide ((l.l : Int) > 4)) = true then
    K ⟨#[]⟩ 17 w
  else
    if (decide (level < 0)) = true then
      K ⟨#[]⟩ 13 w
    else
      if (decide (level > 2)) = true then
        K ⟨#[]⟩ 13 w
      else
        S.arch_judge l w (fun r1 w =>
        if (r1 != 0) = true then
          K ⟨#[]⟩ r1 w
        else
          St1 w ⟨a, 3, none⟩ (.int .i64 0) fun w =>
          Join (fun (w : World) =>
            LdI .i64 w ⟨a, 3, none⟩ fun fill_2 =>
            Join (fun (w : World) =>
              S.arch_Archive_one a (l.l : Int) w (fun w =>
              S.arch_Archive_two a fill_2 w (fun w =>
              S.arch_Archive_one a 90 w (fun w =>
              Drew w fun w =>
              LdS w ⟨a, 2, none⟩ fun page_3 =>
              LdI .i64 w ⟨a, 3, none⟩ fun fill_4 =>
              CutS 1 page_3 0 fill_4 (page_3.c : Int) fun l5 =>
              BtS w l5 fun s6 =>
              K s6 0 w)))) fun J7 =>
            LoopP (σ := Int × Unit) (fun st8 w next9 =>
              if (decide (st8.1 < (l.l : Int))) = true then
                LdS w ⟨a, 4, none⟩ fun offs_10 =>
                Ix offs_10.a offs_10.l st8.1 fun b11 o12 =>
                LdI .i64 w ⟨b11, o12 + Int.toNat st8.1 * 1, none⟩ fun x_13 =>
                S.arch_Archive_two a x_13 w (fun w =>
                Let (W (st8.1 + 1)) fun i_14 =>
                next9 (i_14, ()) w)
              else
                J7 w) (0, ()) w) fun J15 =>
          LoopP (σ := Int × Unit) (fun st16 w next17 =>
            if (decide (st16.1 < (l.l : Int))) = true then
              Drew w fun w =>
              LdS w ⟨a, 4, none⟩ fun offs_18 =>
              LdI .i64 w ⟨a, 3, none⟩ fun fill_19 =>
              Ix offs_18.a offs_18.l st16.1 fun b20 o21 =>
              St1 w ⟨b20, o21 + Int.toNat st16.1 * 1, none⟩ (.int .i64 fill_19) fun w =>
              Drew w fun w =>
              Ix l.a l.l st16.1 fun b22 o23 =>
              LdStr w ⟨b22, o23 + Int.toNat st16.1 * 2, none⟩ fun Name_24 =>
              Ix l.a l.l st16.1 fun b25 o26 =>
              LdStr w ⟨b25, o26 + Int.toNat st16.1 * 2 + 1, none⟩ fun Data_27 =>
              S.arch_Archive_record a Name_24 Data_27 level w (fun w =>
              Let (W (st16.1 + 1)) fun i_28 =>
              next17 (i_28, ()) w)
            else
              J15 w) (0, ()) w)
def T.C23 : CallT := (CallT.cons 36 T.c36 (CallT.cons 39 T.c39 (CallT.cons 38 T.c38 (CallT.cons 37 T.c37 CallT.nil))))
def T.A23 : Ann := fun i => bif Nat.beq i 10 then some ([0, 1, 2], [(9, 0)]) else bif Nat.beq i 16 then some ([0, 1, 10], [(11, 0)]) else none
set_option maxRecDepth 1000000 in
theorem T.eq23 (a : Nat) (l : Sl) (level : Int) (w : World) (K : ByteArray → Int → World → Prop) : denF Tryz.prog T.C23 T.A23 Tryz.f23 [.pointer (some ⟨a, 0, none⟩), .slice l.a l.l l.c, .int .i64 level] w (fun v w' => match v with | .tuple ⟨[.string r0, .int .i64 r1]⟩ => K r0 r1 w' | _ => False) = S.arch_Archive_Pack a l level w K := by kernel_rfl
theorem T.CO23 : CallOk Tryz.prog T.C23 := (CallOk.cons 36 T.ok36 (CallOk.cons 39 T.ok39 (CallOk.cons 38 T.ok38 (CallOk.cons 37 T.ok37 CallOk.nil))))
def T.c23 (vs : List Value) (w : World) (K : Value → World → Prop) : Prop :=
  match vs with
  | [.pointer (some ⟨a, 0, none⟩), .slice la ll lc, .int .i64 level] => S.arch_Archive_Pack a ⟨la, ll, lc⟩ level w (fun r0 r1 w' => K (.tuple #[.string r0, .int .i64 r1]) w')
  | _ => False
theorem T.ok23 : ∀ vs w K, T.c23 vs w K → (callFunc 23 vs.toArray).run Tryz.prog w = .ok (.enter 23 vs.toArray) w ∧ Calls Tryz.prog 23 vs.toArray w fun e w' => ∃ v, e = .returned v ∧ K v w' := by
  intro vs w K h
  unfold T.c23 at h
  split at h
  · refine ⟨Tryz.call23 _ _, ok_of T.CO23 mixed Tryz.func23 (T.eq23 _ _ _ _ _) h fun v w' hk => ⟨v, rfl, ?_⟩⟩
    split at hk
    · exact hk
    · exact hk.elim
  · exact h.elim

/-- e2e/archm.CheckList (function 40). -/
def S.archm_CheckList (l : Sl) (level : Int) (w : World) (K : Int → World → Prop) : Prop :=
  if (decide ((l.l : Int) > 4)) = true then
    K 17 w
  else
    if (decide (level < 0)) = true then
      K 13 w
    else
      if (decide (level > 2)) = true then
        K 13 w
      else
        LoopP (σ := Int × Unit) (fun st1 w next2 =>
          if (decide (st1.1 < (l.l : Int))) = true then
            Ix l.a l.l st1.1 fun b3 o4 =>
            LdStr w ⟨b3, o4 + Int.toNat st1.1 * 2, none⟩ fun Name_5 =>
            if ((Name_5.size : Int) == 0) = true then
              K 16 w
            else
              Ix l.a l.l st1.1 fun b6 o7 =>
              LdStr w ⟨b6, o7 + Int.toNat st1.1 * 2, none⟩ fun Name_8 =>
              if (decide ((Name_8.size : Int) > 8)) = true then
                K 16 w
              else
                Ix l.a l.l st1.1 fun b9 o10 =>
                LdStr w ⟨b9, o10 + Int.toNat st1.1 * 2 + 1, none⟩ fun Data_11 =>
                if (decide ((Data_11.size : Int) > 256)) = true then
                  K 1 w
                else
                  Let (W (st1.1 + 1)) fun i_12 =>
                  next2 (i_12, ()) w
          else
            K 0 w) (0, ()) w
def T.C40 : CallT := CallT.nil
def T.A40 : Ann := fun i => bif Nat.beq i 6 then some ([0], [(5, 0)]) else none
set_option maxRecDepth 1000000 in
theorem T.eq40 (l : Sl) (level : Int) (w : World) (K : Int → World → Prop) : denF Tryz.prog T.C40 T.A40 Tryz.f40 [.slice l.a l.l l.c, .int .i64 level] w (fun v w' => match v with | .int .i64 r0 => K r0 w' | _ => False) = S.archm_CheckList l level w K := by kernel_rfl
theorem T.CO40 : CallOk Tryz.prog T.C40 := CallOk.nil
def T.c40 (vs : List Value) (w : World) (K : Value → World → Prop) : Prop :=
  match vs with
  | [.slice la ll lc, .int .i64 level] => S.archm_CheckList ⟨la, ll, lc⟩ level w (fun r0 w' => K (.int .i64 r0) w')
  | _ => False
theorem T.ok40 : ∀ vs w K, T.c40 vs w K → (callFunc 40 vs.toArray).run Tryz.prog w = .ok (.enter 40 vs.toArray) w ∧ Calls Tryz.prog 40 vs.toArray w fun e w' => ∃ v, e = .returned v ∧ K v w' := by
  intro vs w K h
  unfold T.c40 at h
  split at h
  · refine ⟨Tryz.call40 _ _, ok_of T.CO40 mixed Tryz.func40 (T.eq40 _ _ _ _) h fun v w' hk => ⟨v, rfl, ?_⟩⟩
    split at hk
    · exact hk
    · exact hk.elim
  · exact h.elim

/-- e2e/archm.two (function 42). -/
def S.archm_two (n : Int) (w : World) (K : ByteArray → World → Prop) : Prop :=
  New w (.cells #[.int .u8 (U8 (And .i64 n 255)), .int .u8 (U8 (And .i64 (Shr .i64 n 8) 255))] 5) fun p1 w =>
  BtS w ⟨some ⟨p1, 0, none⟩, 2, 2⟩ fun s2 =>
  K s2 w
def T.C42 : CallT := CallT.nil
def T.A42 : Ann := fun _ => none
set_option maxRecDepth 1000000 in
theorem T.eq42 (n : Int) (w : World) (K : ByteArray → World → Prop) : denF Tryz.prog T.C42 T.A42 Tryz.f42 [.int .i64 n] w (fun v w' => match v with | .string r0 => K r0 w' | _ => False) = S.archm_two n w K := by kernel_rfl
theorem T.CO42 : CallOk Tryz.prog T.C42 := CallOk.nil
def T.c42 (vs : List Value) (w : World) (K : Value → World → Prop) : Prop :=
  match vs with
  | [.int .i64 n] => S.archm_two n w (fun r0 w' => K (.string r0) w')
  | _ => False
theorem T.ok42 : ∀ vs w K, T.c42 vs w K → (callFunc 42 vs.toArray).run Tryz.prog w = .ok (.enter 42 vs.toArray) w ∧ Calls Tryz.prog 42 vs.toArray w fun e w' => ∃ v, e = .returned v ∧ K v w' := by
  intro vs w K h
  unfold T.c42 at h
  split at h
  · refine ⟨Tryz.call42 _ _, ok_of T.CO42 mixed Tryz.func42 (T.eq42 _ _ _) h fun v w' hk => ⟨v, rfl, ?_⟩⟩
    split at hk
    · exact hk
    · exact hk.elim
  · exact h.elim

/-- e2e/lzm.Best (function 85). -/
def S.lzm_Best (s_ : ByteArray) (i : Int) (w : World) (K : Int → Int → World → Prop) : Prop :=
  Join (fun (bl_1 : Int) (bd_2 : Int) (w : World) =>
    if (decide (bl_1 < 3)) = true then
      K 0 0 w
    else
      K bl_1 bd_2 w) fun J3 =>
  LoopP (σ := Int × Int × Int × Unit) (fun st4 w next5 =>
    if (decide (st4.2.2.1 ≤ 16)) = true then
      if (decide (st4.2.2.1 ≤ i)) = true then
        Join (fun (bl_6 : Int) (bd_7 : Int) (w : World) =>
          Let (W (st4.2.2.1 + 1)) fun d_8 =>
          next5 (bl_6, bd_7, d_8, ()) w) fun J9 =>
        Join (fun (n_10 : Int) (w : World) =>
          if (decide (n_10 > st4.1)) = true then
            J9 n_10 st4.2.2.1 w
          else
            J9 st4.1 st4.2.1 w) fun J11 =>
        LoopP (σ := Int × Unit) (fun st12 w next13 =>
          Drew w fun w =>
          if (decide (st12.1 < 10)) = true then
            if (decide ((W (i + st12.1)) < (s_.size : Int))) = true then
              IxStr s_ (W (i + st12.1)) fun c14 =>
              IxStr s_ (W ((W (i + st12.1)) - st4.2.2.1)) fun c15 =>
              if (c14 == c15) = true then
                Let (W (st12.1 + 1)) fun n_16 =>
                next13 (n_16, ()) w
              else
                J11 st12.1 w
            else
              J11 st12.1 w
          else
            J11 st12.1 w) (0, ()) w
      else
        J3 st4.1 st4.2.1 w
    else
      J3 st4.1 st4.2.1 w) (0, 0, 1, ()) w
def T.C85 : CallT := CallT.nil
def T.A85 : Ann := fun i => bif Nat.beq i 7 then some ([0, 1, 6, 7, 8], [(9, 0)]) else bif Nat.beq i 4 then some ([0, 1], [(6, 0), (7, 0), (8, 0)]) else none
set_option maxRecDepth 1000000 in
theorem T.eq85 (s_ : ByteArray) (i : Int) (w : World) (K : Int → Int → World → Prop) : denF Tryz.prog T.C85 T.A85 Tryz.f85 [.string s_, .int .i64 i] w (fun v w' => match v with | .tuple ⟨[.int .i64 r0, .int .i64 r1]⟩ => K r0 r1 w' | _ => False) = S.lzm_Best s_ i w K := by kernel_rfl
theorem T.CO85 : CallOk Tryz.prog T.C85 := CallOk.nil
def T.c85 (vs : List Value) (w : World) (K : Value → World → Prop) : Prop :=
  match vs with
  | [.string s_, .int .i64 i] => S.lzm_Best s_ i w (fun r0 r1 w' => K (.tuple #[.int .i64 r0, .int .i64 r1]) w')
  | _ => False
theorem T.ok85 : ∀ vs w K, T.c85 vs w K → (callFunc 85 vs.toArray).run Tryz.prog w = .ok (.enter 85 vs.toArray) w ∧ Calls Tryz.prog 85 vs.toArray w fun e w' => ∃ v, e = .returned v ∧ K v w' := by
  intro vs w K h
  unfold T.c85 at h
  split at h
  · refine ⟨Tryz.call85 _ _, ok_of T.CO85 mixed Tryz.func85 (T.eq85 _ _ _ _) h fun v w' hk => ⟨v, rfl, ?_⟩⟩
    split at hk
    · exact hk
    · exact hk.elim
  · exact h.elim

/-- (*e2e/lzm.Matcher).Parse (function 55). -/
def S.lzm_Matcher_Parse (m : Nat) (s_ : ByteArray) (level : Int) (w : World) (K : Sl → Int → World → Prop) : Prop :=
  if (decide ((s_.size : Int) > 256)) = true then
    K ⟨none, 0, 0⟩ 1 w
  else
    if (decide (level < 0)) = true then
      K ⟨none, 0, 0⟩ 13 w
    else
      if (decide (level > 2)) = true then
        K ⟨none, 0, 0⟩ 13 w
      else
        MkS 170 [.int .i64 0, .int .i64 0, .int .i64 0] 24 w 0 (s_.size : Int) fun l1 w =>
        Join (fun (out_2 : Sl) (w : World) =>
          MkS 170 [.int .i64 0, .int .i64 0, .int .i64 0] 24 w (out_2.l : Int) (out_2.l : Int) fun l3 w =>
          CopyS 3 w l3 out_2 fun n4 w =>
          K l3 0 w) fun J5 =>
        LoopP (σ := Sl × Int × Unit) (fun st6 w next7 =>
          if (decide (st6.2.1 < (s_.size : Int))) = true then
            Join (fun (n_8 : Int) (d_9 : Int) (w : World) =>
              Join (fun (n_10 : Int) (w : World) =>
                if (n_10 == 0) = true then
                  IxStr s_ st6.2.1 fun c11 =>
                  New w (.cells #[.int .i64 0, .int .i64 0, .int .i64 (W c11)] 170) fun p12 w =>
                  AppS 170 [.int .i64 0, .int .i64 0, .int .i64 0] 24 3 w st6.1 ⟨some ⟨p12, 0, none⟩, 1, 1⟩ fun l13 w =>
                  Let (W (st6.2.1 + 1)) fun i_14 =>
                  next7 (l13, i_14, ()) w
                else
                  New w (.cells #[.int .i64 n_10, .int .i64 d_9, .int .i64 0] 170) fun p15 w =>
                  AppS 170 [.int .i64 0, .int .i64 0, .int .i64 0] 24 3 w st6.1 ⟨some ⟨p15, 0, none⟩, 1, 1⟩ fun l16 w =>
                  Let (W (st6.2.1 + n_10)) fun i_17 =>
                  next7 (l16, i_17, ()) w) fun J18 =>
              if (level == 2) = true then
                if (decide (n_8 > 0)) = true then
                  if (decide (n_8 < 10)) = true then
                    S.lzm_Best s_ (W (st6.2.1 + 1)) w (fun r19 r20 w =>
                    if (decide (r19 > n_8)) = true then
                      J18 0 w
                    else
                      J18 n_8 w)
                  else
                    J18 n_8 w
                else
                  J18 n_8 w
              else
                J18 n_8 w) fun J21 =>
            if (decide (level > 0)) = true then
              S.lzm_Best s_ st6.2.1 w (fun r22 r23 w =>
              J21 r22 r23 w)
            else
              J21 0 0 w
          else
            J5 st6.1 w) (l1, 0, ()) w
def T.C55 : CallT := (CallT.cons 85 T.c85 CallT.nil)
def T.A55 : Ann := fun i => bif Nat.beq i 7 then some ([1, 2], [(8, 6), (9, 0)]) else none
set_option maxRecDepth 1000000 in
theorem T.eq55 (m : Nat) (s_ : ByteArray) (level : Int) (w : World) (K : Sl → Int → World → Prop) : denF Tryz.prog T.C55 T.A55 Tryz.f55 [.pointer (some ⟨m, 0, none⟩), .string s_, .int .i64 level] w (fun v w' => match v with | .tuple ⟨[.slice r0a r0l r0c, .int .i64 r1]⟩ => K ⟨r0a, r0l, r0c⟩ r1 w' | _ => False) = S.lzm_Matcher_Parse m s_ level w K := by kernel_rfl
theorem T.CO55 : CallOk Tryz.prog T.C55 := (CallOk.cons 85 T.ok85 CallOk.nil)
def T.c55 (vs : List Value) (w : World) (K : Value → World → Prop) : Prop :=
  match vs with
  | [.pointer (some ⟨m, 0, none⟩), .string s_, .int .i64 level] => S.lzm_Matcher_Parse m s_ level w (fun r0 r1 w' => K (.tuple #[.slice r0.a r0.l r0.c, .int .i64 r1]) w')
  | _ => False
theorem T.ok55 : ∀ vs w K, T.c55 vs w K → (callFunc 55 vs.toArray).run Tryz.prog w = .ok (.enter 55 vs.toArray) w ∧ Calls Tryz.prog 55 vs.toArray w fun e w' => ∃ v, e = .returned v ∧ K v w' := by
  intro vs w K h
  unfold T.c55 at h
  split at h
  · refine ⟨Tryz.call55 _ _, ok_of T.CO55 mixed Tryz.func55 (T.eq55 _ _ _ _ _) h fun v w' hk => ⟨v, rfl, ?_⟩⟩
    split at hk
    · exact hk
    · exact hk.elim
  · exact h.elim

/-- e2e/blockm.Counts (function 56). -/
def S.blockm_Counts (l : Sl) (w : World) (K : Sl → World → Prop) : Prop :=
  MkS 3 [.int .i64 0] 8 w 273 273 fun l1 w =>
  Ix l1.a l1.l 256 fun b2 o3 =>
  St1 w ⟨b2, o3 + Int.toNat 256 * 1, none⟩ (.int .i64 1) fun w =>
  LoopP (σ := Int × Unit) (fun st4 w next5 =>
    if (decide (st4.1 < (l.l : Int))) = true then
      Join (fun (w : World) =>
        Let (W (st4.1 + 1)) fun k_6 =>
        next5 (k_6, ()) w) fun J7 =>
      Ix l.a l.l st4.1 fun b8 o9 =>
      LdI .i64 w ⟨b8, o9 + Int.toNat st4.1 * 3, none⟩ fun Len_10 =>
      if (Len_10 == 0) = true then
        Ix l.a l.l st4.1 fun b11 o12 =>
        LdI .i64 w ⟨b11, o12 + Int.toNat st4.1 * 3 + 2, none⟩ fun Lit_13 =>
        Ix l1.a l1.l Lit_13 fun b14 o15 =>
        LdI .i64 w ⟨b14, o15 + Int.toNat Lit_13 * 1, none⟩ fun x_16 =>
        Ix l1.a l1.l Lit_13 fun b17 o18 =>
        St1 w ⟨b17, o18 + Int.toNat Lit_13 * 1, none⟩ (.int .i64 (W (x_16 + 1))) fun w =>
        J7 w
      else
        Ix l.a l.l st4.1 fun b19 o20 =>
        LdI .i64 w ⟨b19, o20 + Int.toNat st4.1 * 3, none⟩ fun Len_21 =>
        Ix l1.a l1.l (W ((W (257 + Len_21)) - 3)) fun b22 o23 =>
        LdI .i64 w ⟨b22, o23 + Int.toNat (W ((W (257 + Len_21)) - 3)) * 1, none⟩ fun x_24 =>
        Ix l1.a l1.l (W ((W (257 + Len_21)) - 3)) fun b25 o26 =>
        St1 w ⟨b25, o26 + Int.toNat (W ((W (257 + Len_21)) - 3)) * 1, none⟩ (.int .i64 (W (x_24 + 1))) fun w =>
        Ix l.a l.l st4.1 fun b27 o28 =>
        LdI .i64 w ⟨b27, o28 + Int.toNat st4.1 * 3 + 1, none⟩ fun Dist_29 =>
        S.api_DistCode Dist_29 w (fun r30 w =>
        Ix l1.a l1.l (W (265 + r30)) fun b31 o32 =>
        LdI .i64 w ⟨b31, o32 + Int.toNat (W (265 + r30)) * 1, none⟩ fun x_33 =>
        Ix l1.a l1.l (W (265 + r30)) fun b34 o35 =>
        St1 w ⟨b34, o35 + Int.toNat (W (265 + r30)) * 1, none⟩ (.int .i64 (W (x_33 + 1))) fun w =>
        J7 w)
    else
      K l1 w) (0, ()) w
def T.C56 : CallT := (CallT.cons 86 T.c86 CallT.nil)
def T.A56 : Ann := fun i => bif Nat.beq i 4 then some ([0, 3], [(4, 0)]) else none
set_option maxRecDepth 1000000 in
theorem T.eq56 (l : Sl) (w : World) (K : Sl → World → Prop) : denF Tryz.prog T.C56 T.A56 Tryz.f56 [.slice l.a l.l l.c] w (fun v w' => match v with | .slice r0a r0l r0c => K ⟨r0a, r0l, r0c⟩ w' | _ => False) = S.blockm_Counts l w K := by kernel_rfl
theorem T.CO56 : CallOk Tryz.prog T.C56 := (CallOk.cons 86 T.ok86 CallOk.nil)
def T.c56 (vs : List Value) (w : World) (K : Value → World → Prop) : Prop :=
  match vs with
  | [.slice la ll lc] => S.blockm_Counts ⟨la, ll, lc⟩ w (fun r0 w' => K (.slice r0.a r0.l r0.c) w')
  | _ => False
theorem T.ok56 : ∀ vs w K, T.c56 vs w K → (callFunc 56 vs.toArray).run Tryz.prog w = .ok (.enter 56 vs.toArray) w ∧ Calls Tryz.prog 56 vs.toArray w fun e w' => ∃ v, e = .returned v ∧ K v w' := by
  intro vs w K h
  unfold T.c56 at h
  split at h
  · refine ⟨Tryz.call56 _ _, ok_of T.CO56 mixed Tryz.func56 (T.eq56 _ _ _) h fun v w' hk => ⟨v, rfl, ?_⟩⟩
    split at hk
    · exact hk
    · exact hk.elim
  · exact h.elim

/-- e2e/huffm.Used (function 88). -/
def S.huffm_Used (l : Sl) (w : World) (K : Int → World → Prop) : Prop :=
  LoopP (σ := Int × Int × Unit) (fun st1 w next2 =>
    if (decide (st1.2.1 < (l.l : Int))) = true then
      Join (fun (n_3 : Int) (w : World) =>
        Let (W (st1.2.1 + 1)) fun i_4 =>
        next2 (n_3, i_4, ()) w) fun J5 =>
      Ix l.a l.l st1.2.1 fun b6 o7 =>
      LdI .i64 w ⟨b6, o7 + Int.toNat st1.2.1 * 1, none⟩ fun x_8 =>
      if (decide (x_8 > 0)) = true then
        Let (W (st1.1 + 1)) fun n_9 =>
        J5 n_9 w
      else
        J5 st1.1 w
    else
      K st1.1 w) (0, 0, ()) w
def T.C88 : CallT := CallT.nil
def T.A88 : Ann := fun i => bif Nat.beq i 3 then some ([0], [(3, 0), (4, 0)]) else none
set_option maxRecDepth 1000000 in
theorem T.eq88 (l : Sl) (w : World) (K : Int → World → Prop) : denF Tryz.prog T.C88 T.A88 Tryz.f88 [.slice l.a l.l l.c] w (fun v w' => match v with | .int .i64 r0 => K r0 w' | _ => False) = S.huffm_Used l w K := by kernel_rfl
theorem T.CO88 : CallOk Tryz.prog T.C88 := CallOk.nil
def T.c88 (vs : List Value) (w : World) (K : Value → World → Prop) : Prop :=
  match vs with
  | [.slice la ll lc] => S.huffm_Used ⟨la, ll, lc⟩ w (fun r0 w' => K (.int .i64 r0) w')
  | _ => False
theorem T.ok88 : ∀ vs w K, T.c88 vs w K → (callFunc 88 vs.toArray).run Tryz.prog w = .ok (.enter 88 vs.toArray) w ∧ Calls Tryz.prog 88 vs.toArray w fun e w' => ∃ v, e = .returned v ∧ K v w' := by
  intro vs w K h
  unfold T.c88 at h
  split at h
  · refine ⟨Tryz.call88 _ _, ok_of T.CO88 mixed Tryz.func88 (T.eq88 _ _ _) h fun v w' hk => ⟨v, rfl, ?_⟩⟩
    split at hk
    · exact hk
    · exact hk.elim
  · exact h.elim

/-- e2e/huffm.CheckPlan (function 87). -/
def S.huffm_CheckPlan (counts : Sl) (limit : Int) (w : World) (K : Int → World → Prop) : Prop :=
  if (decide ((counts.l : Int) > 265)) = true then
    K 1 w
  else
    if (decide (limit < 1)) = true then
      K 2 w
    else
      if (decide (limit > 10)) = true then
        K 2 w
      else
        Join (fun (w : World) =>
          S.huffm_Used counts w (fun r1 w =>
          Pos (U64 limit) <|
          if (decide (r1 > (Shl .i64 1 (U64 limit)))) = true then
            K 2 w
          else
            K 0 w)) fun J2 =>
        LoopP (σ := Int × Unit) (fun st3 w next4 =>
          if (decide (st3.1 < (counts.l : Int))) = true then
            Ix counts.a counts.l st3.1 fun b5 o6 =>
            LdI .i64 w ⟨b5, o6 + Int.toNat st3.1 * 1, none⟩ fun x_7 =>
            if (decide (x_7 < 0)) = true then
              K 2 w
            else
              Ix counts.a counts.l st3.1 fun b8 o9 =>
              LdI .i64 w ⟨b8, o9 + Int.toNat st3.1 * 1, none⟩ fun x_10 =>
              if (decide (x_10 > 1048576)) = true then
                K 2 w
              else
                Let (W (st3.1 + 1)) fun i_11 =>
                next4 (i_11, ()) w
          else
            J2 w) (0, ()) w
def T.C87 : CallT := (CallT.cons 88 T.c88 CallT.nil)
def T.A87 : Ann := fun i => bif Nat.beq i 6 then some ([0, 1], [(5, 0)]) else none
set_option maxRecDepth 1000000 in
theorem T.eq87 (counts : Sl) (limit : Int) (w : World) (K : Int → World → Prop) : denF Tryz.prog T.C87 T.A87 Tryz.f87 [.slice counts.a counts.l counts.c, .int .i64 limit] w (fun v w' => match v with | .int .i64 r0 => K r0 w' | _ => False) = S.huffm_CheckPlan counts limit w K := by kernel_rfl
theorem T.CO87 : CallOk Tryz.prog T.C87 := (CallOk.cons 88 T.ok88 CallOk.nil)
def T.c87 (vs : List Value) (w : World) (K : Value → World → Prop) : Prop :=
  match vs with
  | [.slice countsa countsl countsc, .int .i64 limit] => S.huffm_CheckPlan ⟨countsa, countsl, countsc⟩ limit w (fun r0 w' => K (.int .i64 r0) w')
  | _ => False
theorem T.ok87 : ∀ vs w K, T.c87 vs w K → (callFunc 87 vs.toArray).run Tryz.prog w = .ok (.enter 87 vs.toArray) w ∧ Calls Tryz.prog 87 vs.toArray w fun e w' => ∃ v, e = .returned v ∧ K v w' := by
  intro vs w K h
  unfold T.c87 at h
  split at h
  · refine ⟨Tryz.call87 _ _, ok_of T.CO87 mixed Tryz.func87 (T.eq87 _ _ _ _) h fun v w' hk => ⟨v, rfl, ?_⟩⟩
    split at hk
    · exact hk
    · exact hk.elim
  · exact h.elim

/-- e2e/api.CopyInts (function 119). -/
def S.api_CopyInts (l : Sl) (w : World) (K : Sl → World → Prop) : Prop :=
  MkS 3 [.int .i64 0] 8 w (l.l : Int) (l.l : Int) fun l1 w =>
  CopyS 1 w l1 l fun n2 w =>
  K l1 w
def T.C119 : CallT := CallT.nil
def T.A119 : Ann := fun _ => none
set_option maxRecDepth 1000000 in
theorem T.eq119 (l : Sl) (w : World) (K : Sl → World → Prop) : denF Tryz.prog T.C119 T.A119 Tryz.f119 [.slice l.a l.l l.c] w (fun v w' => match v with | .slice r0a r0l r0c => K ⟨r0a, r0l, r0c⟩ w' | _ => False) = S.api_CopyInts l w K := by kernel_rfl
theorem T.CO119 : CallOk Tryz.prog T.C119 := CallOk.nil
def T.c119 (vs : List Value) (w : World) (K : Value → World → Prop) : Prop :=
  match vs with
  | [.slice la ll lc] => S.api_CopyInts ⟨la, ll, lc⟩ w (fun r0 w' => K (.slice r0.a r0.l r0.c) w')
  | _ => False
theorem T.ok119 : ∀ vs w K, T.c119 vs w K → (callFunc 119 vs.toArray).run Tryz.prog w = .ok (.enter 119 vs.toArray) w ∧ Calls Tryz.prog 119 vs.toArray w fun e w' => ∃ v, e = .returned v ∧ K v w' := by
  intro vs w K h
  unfold T.c119 at h
  split at h
  · refine ⟨Tryz.call119 _ _, ok_of T.CO119 mixed Tryz.func119 (T.eq119 _ _ _) h fun v w' hk => ⟨v, rfl, ?_⟩⟩
    split at hk
    · exact hk
    · exact hk.elim
  · exact h.elim

/-- e2e/huffm.least (function 120). -/
def S.huffm_least (w_ : Sl) (h : Sl) (not : Int) (w : World) (K : Int → World → Prop) : Prop :=
  LoopP (σ := Int × Int × Unit) (fun st1 w next2 =>
    if (decide (st1.2.1 < (w_.l : Int))) = true then
      Join (fun (b_3 : Int) (w : World) =>
        Let (W (st1.2.1 + 1)) fun g_4 =>
        next2 (b_3, g_4, ()) w) fun J5 =>
      Ix w_.a w_.l st1.2.1 fun b6 o7 =>
      LdI .i64 w ⟨b6, o7 + Int.toNat st1.2.1 * 1, none⟩ fun x_8 =>
      if (decide (x_8 > 0)) = true then
        if (st1.2.1 != not) = true then
          Drew w fun w =>
          if (decide (st1.1 < 0)) = true then
            J5 st1.2.1 w
          else
            Ix w_.a w_.l st1.2.1 fun b9 o10 =>
            LdI .i64 w ⟨b9, o10 + Int.toNat st1.2.1 * 1, none⟩ fun x_11 =>
            Ix w_.a w_.l st1.1 fun b12 o13 =>
            LdI .i64 w ⟨b12, o13 + Int.toNat st1.1 * 1, none⟩ fun x_14 =>
            if (decide (x_11 < x_14)) = true then
              J5 st1.2.1 w
            else
              Ix w_.a w_.l st1.2.1 fun b15 o16 =>
              LdI .i64 w ⟨b15, o16 + Int.toNat st1.2.1 * 1, none⟩ fun x_17 =>
              Ix w_.a w_.l st1.1 fun b18 o19 =>
              LdI .i64 w ⟨b18, o19 + Int.toNat st1.1 * 1, none⟩ fun x_20 =>
              if (x_17 == x_20) = true then
                Ix h.a h.l st1.2.1 fun b21 o22 =>
                LdI .i64 w ⟨b21, o22 + Int.toNat st1.2.1 * 1, none⟩ fun x_23 =>
                Ix h.a h.l st1.1 fun b24 o25 =>
                LdI .i64 w ⟨b24, o25 + Int.toNat st1.1 * 1, none⟩ fun x_26 =>
                if (decide (x_23 < x_26)) = true then
                  J5 st1.2.1 w
                else
                  J5 st1.1 w
              else
                J5 st1.1 w
        else
          J5 st1.1 w
      else
        J5 st1.1 w
    else
      K st1.1 w) (-1, 0, ()) w
def T.C120 : CallT := CallT.nil
def T.A120 : Ann := fun i => bif Nat.beq i 3 then some ([0, 1, 2], [(7, 0), (8, 0)]) else none
set_option maxRecDepth 1000000 in
theorem T.eq120 (w_ : Sl) (h : Sl) (not : Int) (w : World) (K : Int → World → Prop) : denF Tryz.prog T.C120 T.A120 Tryz.f120 [.slice w_.a w_.l w_.c, .slice h.a h.l h.c, .int .i64 not] w (fun v w' => match v with | .int .i64 r0 => K r0 w' | _ => False) = S.huffm_least w_ h not w K := by kernel_rfl
theorem T.CO120 : CallOk Tryz.prog T.C120 := CallOk.nil
def T.c120 (vs : List Value) (w : World) (K : Value → World → Prop) : Prop :=
  match vs with
  | [.slice w_a w_l w_c, .slice ha hl hc, .int .i64 not] => S.huffm_least ⟨w_a, w_l, w_c⟩ ⟨ha, hl, hc⟩ not w (fun r0 w' => K (.int .i64 r0) w')
  | _ => False
theorem T.ok120 : ∀ vs w K, T.c120 vs w K → (callFunc 120 vs.toArray).run Tryz.prog w = .ok (.enter 120 vs.toArray) w ∧ Calls Tryz.prog 120 vs.toArray w fun e w' => ∃ v, e = .returned v ∧ K v w' := by
  intro vs w K h
  unfold T.c120 at h
  split at h
  · refine ⟨Tryz.call120 _ _, ok_of T.CO120 mixed Tryz.func120 (T.eq120 _ _ _ _ _) h fun v w' hk => ⟨v, rfl, ?_⟩⟩
    split at hk
    · exact hk
    · exact hk.elim
  · exact h.elim

/-- e2e/huffm.plain (function 89). -/
def S.huffm_plain (counts : Sl) (w : World) (K : Sl → World → Prop) : Prop :=
  MkS 3 [.int .i64 0] 8 w (counts.l : Int) (counts.l : Int) fun l1 w =>
  MkS 3 [.int .i64 0] 8 w (counts.l : Int) (counts.l : Int) fun l2 w =>
  S.api_CopyInts counts w (fun r3 w =>
  MkS 3 [.int .i64 0] 8 w (counts.l : Int) (counts.l : Int) fun l4 w =>
  Join (fun (w : World) =>
    S.huffm_Used counts w (fun r5 w =>
    LoopP (σ := Int × Unit) (fun st6 w next7 =>
      if (decide (st6.1 > 1)) = true then
        S.huffm_least r3 l4 (-1) w (fun r8 w =>
        S.huffm_least r3 l4 r8 w (fun r9 w =>
        Join (fun (w : World) =>
          Drew w fun w =>
          Ix r3.a r3.l r8 fun b10 o11 =>
          LdI .i64 w ⟨b10, o11 + Int.toNat r8 * 1, none⟩ fun x_12 =>
          Ix r3.a r3.l r9 fun b13 o14 =>
          LdI .i64 w ⟨b13, o14 + Int.toNat r9 * 1, none⟩ fun x_15 =>
          Ix r3.a r3.l r8 fun b16 o17 =>
          St1 w ⟨b16, o17 + Int.toNat r8 * 1, none⟩ (.int .i64 (W (x_12 + x_15))) fun w =>
          Ix r3.a r3.l r9 fun b18 o19 =>
          St1 w ⟨b18, o19 + Int.toNat r9 * 1, none⟩ (.int .i64 0) fun w =>
          Drew w fun w =>
          Ix l4.a l4.l r9 fun b20 o21 =>
          LdI .i64 w ⟨b20, o21 + Int.toNat r9 * 1, none⟩ fun x_22 =>
          Ix l4.a l4.l r8 fun b23 o24 =>
          LdI .i64 w ⟨b23, o24 + Int.toNat r8 * 1, none⟩ fun x_25 =>
          Join (fun (w : World) =>
            Ix l4.a l4.l r8 fun b26 o27 =>
            LdI .i64 w ⟨b26, o27 + Int.toNat r8 * 1, none⟩ fun x_28 =>
            Ix l4.a l4.l r8 fun b29 o30 =>
            St1 w ⟨b29, o30 + Int.toNat r8 * 1, none⟩ (.int .i64 (W (x_28 + 1))) fun w =>
            Let (W (st6.1 - 1)) fun n_31 =>
            next7 (n_31, ()) w) fun J32 =>
          if (decide (x_22 > x_25)) = true then
            Ix l4.a l4.l r9 fun b33 o34 =>
            LdI .i64 w ⟨b33, o34 + Int.toNat r9 * 1, none⟩ fun x_35 =>
            Ix l4.a l4.l r8 fun b36 o37 =>
            St1 w ⟨b36, o37 + Int.toNat r8 * 1, none⟩ (.int .i64 x_35) fun w =>
            J32 w
          else
            J32 w) fun J38 =>
        LoopP (σ := Int × Unit) (fun st39 w next40 =>
          if (decide (st39.1 < (counts.l : Int))) = true then
            Join (fun (w : World) =>
              Let (W (st39.1 + 1)) fun i_41 =>
              next40 (i_41, ()) w) fun J42 =>
            Join (fun (w : World) =>
              Ix l1.a l1.l st39.1 fun b43 o44 =>
              LdI .i64 w ⟨b43, o44 + Int.toNat st39.1 * 1, none⟩ fun x_45 =>
              Ix l1.a l1.l st39.1 fun b46 o47 =>
              St1 w ⟨b46, o47 + Int.toNat st39.1 * 1, none⟩ (.int .i64 (W (x_45 + 1))) fun w =>
              Ix l2.a l2.l st39.1 fun b48 o49 =>
              St1 w ⟨b48, o49 + Int.toNat st39.1 * 1, none⟩ (.int .i64 r8) fun w =>
              J42 w) fun J50 =>
            Ix counts.a counts.l st39.1 fun b51 o52 =>
            LdI .i64 w ⟨b51, o52 + Int.toNat st39.1 * 1, none⟩ fun x_53 =>
            if (decide (x_53 > 0)) = true then
              Ix l2.a l2.l st39.1 fun b54 o55 =>
              LdI .i64 w ⟨b54, o55 + Int.toNat st39.1 * 1, none⟩ fun x_56 =>
              if (x_56 == r8) = true then
                J50 w
              else
                Ix l2.a l2.l st39.1 fun b57 o58 =>
                LdI .i64 w ⟨b57, o58 + Int.toNat st39.1 * 1, none⟩ fun x_59 =>
                if (x_59 == r9) = true then
                  J50 w
                else
                  J42 w
            else
              J42 w
          else
            J38 w) (0, ()) w))
      else
        K l1 w) (r5, ()) w)) fun J60 =>
  LoopP (σ := Int × Unit) (fun st61 w next62 =>
    if (decide (st61.1 < (counts.l : Int))) = true then
      Ix l2.a l2.l st61.1 fun b63 o64 =>
      St1 w ⟨b63, o64 + Int.toNat st61.1 * 1, none⟩ (.int .i64 st61.1) fun w =>
      Let (W (st61.1 + 1)) fun i_65 =>
      next62 (i_65, ()) w
    else
      J60 w) (0, ()) w)
def T.C89 : CallT := (CallT.cons 119 T.c119 (CallT.cons 88 T.c88 (CallT.cons 120 T.c120 CallT.nil)))
def T.A89 : Ann := fun i => bif Nat.beq i 6 then some ([0, 3, 4, 5, 6], [(7, 0)]) else bif Nat.beq i 15 then some ([0, 3, 4, 5, 6, 8, 9, 10], [(11, 0)]) else bif Nat.beq i 10 then some ([0, 3, 4, 5, 6], [(8, 0)]) else none
set_option maxRecDepth 1000000 in
theorem T.eq89 (counts : Sl) (w : World) (K : Sl → World → Prop) : denF Tryz.prog T.C89 T.A89 Tryz.f89 [.slice counts.a counts.l counts.c] w (fun v w' => match v with | .slice r0a r0l r0c => K ⟨r0a, r0l, r0c⟩ w' | _ => False) = S.huffm_plain counts w K := by kernel_rfl
theorem T.CO89 : CallOk Tryz.prog T.C89 := (CallOk.cons 119 T.ok119 (CallOk.cons 88 T.ok88 (CallOk.cons 120 T.ok120 CallOk.nil)))
def T.c89 (vs : List Value) (w : World) (K : Value → World → Prop) : Prop :=
  match vs with
  | [.slice countsa countsl countsc] => S.huffm_plain ⟨countsa, countsl, countsc⟩ w (fun r0 w' => K (.slice r0.a r0.l r0.c) w')
  | _ => False
theorem T.ok89 : ∀ vs w K, T.c89 vs w K → (callFunc 89 vs.toArray).run Tryz.prog w = .ok (.enter 89 vs.toArray) w ∧ Calls Tryz.prog 89 vs.toArray w fun e w' => ∃ v, e = .returned v ∧ K v w' := by
  intro vs w K h
  unfold T.c89 at h
  split at h
  · refine ⟨Tryz.call89 _ _, ok_of T.CO89 mixed Tryz.func89 (T.eq89 _ _ _) h fun v w' hk => ⟨v, rfl, ?_⟩⟩
    split at hk
    · exact hk
    · exact hk.elim
  · exact h.elim

/-- e2e/huffm.pick (function 121). -/
def S.huffm_pick (counts : Sl) (lens : Sl) (lo : Int) (hi : Int) (rare : Bool) (w : World) (K : Int → World → Prop) : Prop :=
  LoopP (σ := Int × Int × Unit) (fun st1 w next2 =>
    if (decide (st1.2.1 < (lens.l : Int))) = true then
      Join (fun (b_3 : Int) (w : World) =>
        Let (W (st1.2.1 + 1)) fun i_4 =>
        next2 (b_3, i_4, ()) w) fun J5 =>
      Ix lens.a lens.l st1.2.1 fun b6 o7 =>
      LdI .i64 w ⟨b6, o7 + Int.toNat st1.2.1 * 1, none⟩ fun x_8 =>
      if (decide (x_8 ≥ lo)) = true then
        Ix lens.a lens.l st1.2.1 fun b9 o10 =>
        LdI .i64 w ⟨b9, o10 + Int.toNat st1.2.1 * 1, none⟩ fun x_11 =>
        if (decide (x_11 ≤ hi)) = true then
          Join (fun (better_12 : Bool) (w : World) =>
            Join (fun (better_13 : Bool) (w : World) =>
              if better_13 = true then
                J5 st1.2.1 w
              else
                J5 st1.1 w) fun J14 =>
            Drew w fun w =>
            if (decide (st1.1 ≥ 0)) = true then
              Ix lens.a lens.l st1.2.1 fun b15 o16 =>
              LdI .i64 w ⟨b15, o16 + Int.toNat st1.2.1 * 1, none⟩ fun x_17 =>
              Ix lens.a lens.l st1.1 fun b18 o19 =>
              LdI .i64 w ⟨b18, o19 + Int.toNat st1.1 * 1, none⟩ fun x_20 =>
              if (x_17 == x_20) = true then
                Drew w fun w =>
                if rare = true then
                  Ix counts.a counts.l st1.2.1 fun b21 o22 =>
                  LdI .i64 w ⟨b21, o22 + Int.toNat st1.2.1 * 1, none⟩ fun x_23 =>
                  Ix counts.a counts.l st1.1 fun b24 o25 =>
                  LdI .i64 w ⟨b24, o25 + Int.toNat st1.1 * 1, none⟩ fun x_26 =>
                  if (decide (x_23 < x_26)) = true then
                    J14 true w
                  else
                    if (!rare) = true then
                      Ix counts.a counts.l st1.2.1 fun b27 o28 =>
                      LdI .i64 w ⟨b27, o28 + Int.toNat st1.2.1 * 1, none⟩ fun x_29 =>
                      Ix counts.a counts.l st1.1 fun b30 o31 =>
                      LdI .i64 w ⟨b30, o31 + Int.toNat st1.1 * 1, none⟩ fun x_32 =>
                      Let (decide (x_29 > x_32)) fun better_33 =>
                      J14 better_33 w
                    else
                      J14 false w
                else
                  if (!rare) = true then
                    Ix counts.a counts.l st1.2.1 fun b34 o35 =>
                    LdI .i64 w ⟨b34, o35 + Int.toNat st1.2.1 * 1, none⟩ fun x_36 =>
                    Ix counts.a counts.l st1.1 fun b37 o38 =>
                    LdI .i64 w ⟨b37, o38 + Int.toNat st1.1 * 1, none⟩ fun x_39 =>
                    Let (decide (x_36 > x_39)) fun better_40 =>
                    J14 better_40 w
                  else
                    J14 false w
              else
                J14 better_12 w
            else
              J14 better_12 w) fun J41 =>
          Drew w fun w =>
          if (decide (st1.1 < 0)) = true then
            J41 true w
          else
            Ix lens.a lens.l st1.2.1 fun b42 o43 =>
            LdI .i64 w ⟨b42, o43 + Int.toNat st1.2.1 * 1, none⟩ fun x_44 =>
            Ix lens.a lens.l st1.1 fun b45 o46 =>
            LdI .i64 w ⟨b45, o46 + Int.toNat st1.1 * 1, none⟩ fun x_47 =>
            Let (decide (x_44 > x_47)) fun better_48 =>
            J41 better_48 w
        else
          J5 st1.1 w
      else
        J5 st1.1 w
    else
      K st1.1 w) (-1, 0, ()) w
def T.C121 : CallT := CallT.nil
def T.A121 : Ann := fun i => bif Nat.beq i 3 then some ([0, 1, 2, 3, 4], [(11, 0), (12, 0)]) else none
set_option maxRecDepth 1000000 in
theorem T.eq121 (counts : Sl) (lens : Sl) (lo : Int) (hi : Int) (rare : Bool) (w : World) (K : Int → World → Prop) : denF Tryz.prog T.C121 T.A121 Tryz.f121 [.slice counts.a counts.l counts.c, .slice lens.a lens.l lens.c, .int .i64 lo, .int .i64 hi, .bool rare] w (fun v w' => match v with | .int .i64 r0 => K r0 w' | _ => False) = S.huffm_pick counts lens lo hi rare w K := by kernel_rfl
theorem T.CO121 : CallOk Tryz.prog T.C121 := CallOk.nil
def T.c121 (vs : List Value) (w : World) (K : Value → World → Prop) : Prop :=
  match vs with
  | [.slice countsa countsl countsc, .slice lensa lensl lensc, .int .i64 lo, .int .i64 hi, .bool rare] => S.huffm_pick ⟨countsa, countsl, countsc⟩ ⟨lensa, lensl, lensc⟩ lo hi rare w (fun r0 w' => K (.int .i64 r0) w')
  | _ => False
theorem T.ok121 : ∀ vs w K, T.c121 vs w K → (callFunc 121 vs.toArray).run Tryz.prog w = .ok (.enter 121 vs.toArray) w ∧ Calls Tryz.prog 121 vs.toArray w fun e w' => ∃ v, e = .returned v ∧ K v w' := by
  intro vs w K h
  unfold T.c121 at h
  split at h
  · refine ⟨Tryz.call121 _ _, ok_of T.CO121 mixed Tryz.func121 (T.eq121 _ _ _ _ _ _ _) h fun v w' hk => ⟨v, rfl, ?_⟩⟩
    split at hk
    · exact hk
    · exact hk.elim
  · exact h.elim

/-- e2e/huffm.repair (function 90). -/
def S.huffm_repair (counts : Sl) (lens : Sl) (limit : Int) (w : World) (K : World → Prop) : Prop :=
  Pos (U64 limit) <|
  Let (Shl .i64 1 (U64 limit)) fun one_1 =>
  Join (fun (k_2 : Int) (w : World) =>
    Join (fun (k_3 : Int) (w : World) =>
      LoopP (σ := Int × Unit) (fun st4 w next5 =>
        if (decide (st4.1 < one_1)) = true then
          S.huffm_pick counts lens 2 limit false w (fun r6 w =>
          Ix lens.a lens.l r6 fun b7 o8 =>
          LdI .i64 w ⟨b7, o8 + Int.toNat r6 * 1, none⟩ fun x_9 =>
          Pos (U64 (W (limit - x_9))) <|
          Let (W (st4.1 + (Shl .i64 1 (U64 (W (limit - x_9)))))) fun k_10 =>
          Ix lens.a lens.l r6 fun b11 o12 =>
          LdI .i64 w ⟨b11, o12 + Int.toNat r6 * 1, none⟩ fun x_13 =>
          Ix lens.a lens.l r6 fun b14 o15 =>
          St1 w ⟨b14, o15 + Int.toNat r6 * 1, none⟩ (.int .i64 (W (x_13 - 1))) fun w =>
          next5 (k_10, ()) w)
        else
          K w) (k_3, ()) w) fun J16 =>
    LoopP (σ := Int × Unit) (fun st17 w next18 =>
      if (decide (st17.1 > one_1)) = true then
        S.huffm_pick counts lens 1 (W (limit - 1)) true w (fun r19 w =>
        Ix lens.a lens.l r19 fun b20 o21 =>
        LdI .i64 w ⟨b20, o21 + Int.toNat r19 * 1, none⟩ fun x_22 =>
        Ix lens.a lens.l r19 fun b23 o24 =>
        St1 w ⟨b23, o24 + Int.toNat r19 * 1, none⟩ (.int .i64 (W (x_22 + 1))) fun w =>
        Ix lens.a lens.l r19 fun b25 o26 =>
        LdI .i64 w ⟨b25, o26 + Int.toNat r19 * 1, none⟩ fun x_27 =>
        Pos (U64 (W (limit - x_27))) <|
        Let (W (st17.1 - (Shl .i64 1 (U64 (W (limit - x_27)))))) fun k_28 =>
        next18 (k_28, ()) w)
      else
        J16 st17.1 w) (k_2, ()) w) fun J29 =>
  LoopP (σ := Int × Int × Unit) (fun st30 w next31 =>
    if (decide (st30.2.1 < (lens.l : Int))) = true then
      Join (fun (k_32 : Int) (w : World) =>
        Let (W (st30.2.1 + 1)) fun i_33 =>
        next31 (k_32, i_33, ()) w) fun J34 =>
      Ix lens.a lens.l st30.2.1 fun b35 o36 =>
      LdI .i64 w ⟨b35, o36 + Int.toNat st30.2.1 * 1, none⟩ fun x_37 =>
      Join (fun (w : World) =>
        Ix lens.a lens.l st30.2.1 fun b38 o39 =>
        LdI .i64 w ⟨b38, o39 + Int.toNat st30.2.1 * 1, none⟩ fun x_40 =>
        if (decide (x_40 > 0)) = true then
          Ix lens.a lens.l st30.2.1 fun b41 o42 =>
          LdI .i64 w ⟨b41, o42 + Int.toNat st30.2.1 * 1, none⟩ fun x_43 =>
          Pos (U64 (W (limit - x_43))) <|
          Let (W (st30.1 + (Shl .i64 1 (U64 (W (limit - x_43)))))) fun k_44 =>
          J34 k_44 w
        else
          J34 st30.1 w) fun J45 =>
      if (decide (x_37 > limit)) = true then
        Ix lens.a lens.l st30.2.1 fun b46 o47 =>
        St1 w ⟨b46, o47 + Int.toNat st30.2.1 * 1, none⟩ (.int .i64 limit) fun w =>
        J45 w
      else
        J45 w
    else
      J29 st30.1 w) (0, 0, ()) w
def T.C90 : CallT := (CallT.cons 121 T.c121 CallT.nil)
def T.A90 : Ann := fun i => bif Nat.beq i 3 then some ([0, 1, 2, 6], [(7, 0), (8, 0)]) else bif Nat.beq i 9 then some ([0, 1, 2, 6], [(7, 0)]) else bif Nat.beq i 13 then some ([0, 1, 2, 6], [(7, 0)]) else none
set_option maxRecDepth 1000000 in
theorem T.eq90 (counts : Sl) (lens : Sl) (limit : Int) (w : World) (K : World → Prop) : denF Tryz.prog T.C90 T.A90 Tryz.f90 [.slice counts.a counts.l counts.c, .slice lens.a lens.l lens.c, .int .i64 limit] w (fun v w' => match v with | .tuple ⟨[]⟩ => K w' | _ => False) = S.huffm_repair counts lens limit w K := by kernel_rfl
theorem T.CO90 : CallOk Tryz.prog T.C90 := (CallOk.cons 121 T.ok121 CallOk.nil)
def T.c90 (vs : List Value) (w : World) (K : Value → World → Prop) : Prop :=
  match vs with
  | [.slice countsa countsl countsc, .slice lensa lensl lensc, .int .i64 limit] => S.huffm_repair ⟨countsa, countsl, countsc⟩ ⟨lensa, lensl, lensc⟩ limit w (fun w' => K (.tuple #[]) w')
  | _ => False

theorem T.ok90 : ∀ vs w K, T.c90 vs w K → (callFunc 90 vs.toArray).run Tryz.prog w = .ok (.enter 90 vs.toArray) w ∧ Calls Tryz.prog 90 vs.toArray w fun e w' => ∃ v, e = .returned v ∧ K v w' := by
  intro vs w K h
  unfold T.c90 at h
  split at h
  · refine ⟨Tryz.call90 _ _, ok_of T.CO90 mixed Tryz.func90 (T.eq90 _ _ _ _ _) h fun v w' hk => ⟨v, rfl, ?_⟩⟩
    split at hk
    · exact hk
    · exact hk.elim
  · exact h.elim

/-- (*e2e/huffm.Coder).Plan (function 57). -/
def S.huffm_Coder_Plan (c : Nat) (counts : Sl) (limit : Int) (w : World) (K : Sl → Int → World → Prop) : Prop :=
  S.huffm_CheckPlan counts limit w (fun r1 w =>
  if (r1 != 0) = true then
    K ⟨none, 0, 0⟩ r1 w
  else
    S.huffm_Used counts w (fun r2 w =>
    if (decide (r2 < 2)) = true then
      MkS 3 [.int .i64 0] 8 w (counts.l : Int) (counts.l : Int) fun l3 w =>
      Join (fun (w : World) =>
        K l3 0 w) fun J4 =>
      LoopP (σ := Int × Unit) (fun st5 w next6 =>
        if (decide (st5.1 < (counts.l : Int))) = true then
          Join (fun (w : World) =>
            Let (W (st5.1 + 1)) fun i_7 =>
            next6 (i_7, ()) w) fun J8 =>
          Ix counts.a counts.l st5.1 fun b9 o10 =>
          LdI .i64 w ⟨b9, o10 + Int.toNat st5.1 * 1, none⟩ fun x_11 =>
          if (decide (x_11 > 0)) = true then
            Ix l3.a l3.l st5.1 fun b12 o13 =>
            St1 w ⟨b12, o13 + Int.toNat st5.1 * 1, none⟩ (.int .i64 1) fun w =>
            J8 w
          else
            J8 w
        else
          J4 w) (0, ()) w
    else
      S.huffm_plain counts w (fun r14 w =>
      S.huffm_repair counts r14 limit w (fun w =>
      K r14 0 w))))
def T.C57 : CallT := (CallT.cons 87 T.c87 (CallT.cons 88 T.c88 (CallT.cons 89 T.c89 (CallT.cons 90 T.c90 CallT.nil))))
def T.A57 : Ann := fun i => bif Nat.beq i 8 then some ([1, 10], [(11, 0)]) else none
set_option maxRecDepth 1000000 in
theorem T.eq57 (c : Nat) (counts : Sl) (limit : Int) (w : World) (K : Sl → Int → World → Prop) : denF Tryz.prog T.C57 T.A57 Tryz.f57 [.pointer (some ⟨c, 0, none⟩), .slice counts.a counts.l counts.c, .int .i64 limit] w (fun v w' => match v with | .tuple ⟨[.slice r0a r0l r0c, .int .i64 r1]⟩ => K ⟨r0a, r0l, r0c⟩ r1 w' | _ => False) = S.huffm_Coder_Plan c counts limit w K := by kernel_rfl
theorem T.CO57 : CallOk Tryz.prog T.C57 := (CallOk.cons 87 T.ok87 (CallOk.cons 88 T.ok88 (CallOk.cons 89 T.ok89 (CallOk.cons 90 T.ok90 CallOk.nil))))
def T.c57 (vs : List Value) (w : World) (K : Value → World → Prop) : Prop :=
  match vs with
  | [.pointer (some ⟨c, 0, none⟩), .slice countsa countsl countsc, .int .i64 limit] => S.huffm_Coder_Plan c ⟨countsa, countsl, countsc⟩ limit w (fun r0 r1 w' => K (.tuple #[.slice r0.a r0.l r0.c, .int .i64 r1]) w')
  | _ => False
theorem T.ok57 : ∀ vs w K, T.c57 vs w K → (callFunc 57 vs.toArray).run Tryz.prog w = .ok (.enter 57 vs.toArray) w ∧ Calls Tryz.prog 57 vs.toArray w fun e w' => ∃ v, e = .returned v ∧ K v w' := by
  intro vs w K h
  unfold T.c57 at h
  split at h
  · refine ⟨Tryz.call57 _ _, ok_of T.CO57 mixed Tryz.func57 (T.eq57 _ _ _ _ _) h fun v w' hk => ⟨v, rfl, ?_⟩⟩
    split at hk
    · exact hk
    · exact hk.elim
  · exact h.elim

/-- e2e/blockm.FixedLens (function 58). -/
def S.blockm_FixedLens (w : World) (K : Sl → World → Prop) : Prop :=
  MkS 3 [.int .i64 0] 8 w 273 273 fun l1 w =>
  Join (fun (w : World) =>
    LoopP (σ := Int × Unit) (fun st2 w next3 =>
      if (decide (st2.1 < 8)) = true then
        Ix l1.a l1.l (W (265 + st2.1)) fun b4 o5 =>
        St1 w ⟨b4, o5 + Int.toNat (W (265 + st2.1)) * 1, none⟩ (.int .i64 3) fun w =>
        Let (W (st2.1 + 1)) fun c_6 =>
        next3 (c_6, ()) w
      else
        K l1 w) (0, ()) w) fun J7 =>
  LoopP (σ := Int × Unit) (fun st8 w next9 =>
    if (decide (st8.1 < 265)) = true then
      S.api_FixedLen st8.1 w (fun r10 w =>
      Ix l1.a l1.l st8.1 fun b11 o12 =>
      St1 w ⟨b11, o12 + Int.toNat st8.1 * 1, none⟩ (.int .i64 r10) fun w =>
      Let (W (st8.1 + 1)) fun s_13 =>
      next9 (s_13, ()) w)
    else
      J7 w) (0, ()) w
def T.C58 : CallT := (CallT.cons 91 T.c91 CallT.nil)
def T.A58 : Ann := fun i => bif Nat.beq i 3 then some ([1], [(2, 0)]) else bif Nat.beq i 7 then some ([1], [(3, 0)]) else none
set_option maxRecDepth 1000000 in
theorem T.eq58 (w : World) (K : Sl → World → Prop) : denF Tryz.prog T.C58 T.A58 Tryz.f58 [] w (fun v w' => match v with | .slice r0a r0l r0c => K ⟨r0a, r0l, r0c⟩ w' | _ => False) = S.blockm_FixedLens w K := by kernel_rfl
theorem T.CO58 : CallOk Tryz.prog T.C58 := (CallOk.cons 91 T.ok91 CallOk.nil)
def T.c58 (vs : List Value) (w : World) (K : Value → World → Prop) : Prop :=
  match vs with
  | [] => S.blockm_FixedLens w (fun r0 w' => K (.slice r0.a r0.l r0.c) w')
  | _ => False
theorem T.ok58 : ∀ vs w K, T.c58 vs w K → (callFunc 58 vs.toArray).run Tryz.prog w = .ok (.enter 58 vs.toArray) w ∧ Calls Tryz.prog 58 vs.toArray w fun e w' => ∃ v, e = .returned v ∧ K v w' := by
  intro vs w K h
  unfold T.c58 at h
  split at h
  · refine ⟨Tryz.call58 _ _, ok_of T.CO58 mixed Tryz.func58 (T.eq58 _ _) h fun v w' hk => ⟨v, rfl, ?_⟩⟩
    split at hk
    · exact hk
    · exact hk.elim
  · exact h.elim

/-- e2e/blockm.Items (function 92). -/
def S.blockm_Items (l : Sl) (w : World) (K : Sl → World → Prop) : Prop :=
  LoopP (σ := Sl × Int × Unit) (fun st1 w next2 =>
    if (decide (st1.2.1 < (l.l : Int))) = true then
      Join (fun (run_3 : Int) (w : World) =>
        Join (fun (w : World) =>
          Join (fun (w : World) =>
            Ix l.a l.l st1.2.1 fun b4 o5 =>
            LdI .i64 w ⟨b4, o5 + Int.toNat st1.2.1 * 1, none⟩ fun x_6 =>
            New w (.cells #[.int .i64 x_6, .int .i64 0, .int .i64 0] 3) fun p7 w =>
            AppS 3 [.int .i64 0] 8 1 w st1.1 ⟨some ⟨p7, 0, none⟩, 3, 3⟩ fun l8 w =>
            Let (W (st1.2.1 + 1)) fun i_9 =>
            next2 (l8, i_9, ()) w) fun J10 =>
          Drew w fun w =>
          if (decide (st1.2.1 > 0)) = true then
            Ix l.a l.l st1.2.1 fun b11 o12 =>
            LdI .i64 w ⟨b11, o12 + Int.toNat st1.2.1 * 1, none⟩ fun x_13 =>
            Ix l.a l.l (W (st1.2.1 - 1)) fun b14 o15 =>
            LdI .i64 w ⟨b14, o15 + Int.toNat (W (st1.2.1 - 1)) * 1, none⟩ fun x_16 =>
            if (x_13 == x_16) = true then
              if (decide (run_3 ≥ 3)) = true then
                Join (fun (run_17 : Int) (w : World) =>
                  New w (.cells #[.int .i64 12, .int .i64 (W (run_17 - 3)), .int .i64 2] 3) fun p18 w =>
                  AppS 3 [.int .i64 0] 8 1 w st1.1 ⟨some ⟨p18, 0, none⟩, 3, 3⟩ fun l19 w =>
                  Let (W (st1.2.1 + run_17)) fun i_20 =>
                  next2 (l19, i_20, ()) w) fun J21 =>
                if (decide (run_3 > 6)) = true then
                  J21 6 w
                else
                  J21 run_3 w
              else
                J10 w
            else
              J10 w
          else
            J10 w) fun J22 =>
        Ix l.a l.l st1.2.1 fun b23 o24 =>
        LdI .i64 w ⟨b23, o24 + Int.toNat st1.2.1 * 1, none⟩ fun x_25 =>
        if (x_25 == 0) = true then
          if (decide (run_3 ≥ 3)) = true then
            Join (fun (run_26 : Int) (w : World) =>
              New w (.cells #[.int .i64 11, .int .i64 (W (run_26 - 3)), .int .i64 7] 3) fun p27 w =>
              AppS 3 [.int .i64 0] 8 1 w st1.1 ⟨some ⟨p27, 0, none⟩, 3, 3⟩ fun l28 w =>
              Let (W (st1.2.1 + run_26)) fun i_29 =>
              next2 (l28, i_29, ()) w) fun J30 =>
            if (decide (run_3 > 130)) = true then
              J30 130 w
            else
              J30 run_3 w
          else
            J22 w
        else
          J22 w) fun J31 =>
      LoopP (σ := Int × Unit) (fun st32 w next33 =>
        Drew w fun w =>
        if (decide ((W (st1.2.1 + st32.1)) < (l.l : Int))) = true then
          Ix l.a l.l (W (st1.2.1 + st32.1)) fun b34 o35 =>
          LdI .i64 w ⟨b34, o35 + Int.toNat (W (st1.2.1 + st32.1)) * 1, none⟩ fun x_36 =>
          Ix l.a l.l st1.2.1 fun b37 o38 =>
          LdI .i64 w ⟨b37, o38 + Int.toNat st1.2.1 * 1, none⟩ fun x_39 =>
          if (x_36 == x_39) = true then
            Let (W (st32.1 + 1)) fun run_40 =>
            next33 (run_40, ()) w
          else
            J31 st32.1 w
        else
          J31 st32.1 w) (1, ()) w
    else
      K st1.1 w) (⟨none, 0, 0⟩, 0, ()) w
def T.C92 : CallT := CallT.nil
def T.A92 : Ann := fun i => bif Nat.beq i 5 then some ([0, 3, 4], [(5, 0)]) else bif Nat.beq i 3 then some ([0], [(3, 6), (4, 0)]) else none
set_option maxRecDepth 1000000 in
theorem T.eq92 (l : Sl) (w : World) (K : Sl → World → Prop) : denF Tryz.prog T.C92 T.A92 Tryz.f92 [.slice l.a l.l l.c] w (fun v w' => match v with | .slice r0a r0l r0c => K ⟨r0a, r0l, r0c⟩ w' | _ => False) = S.blockm_Items l w K := by kernel_rfl
theorem T.CO92 : CallOk Tryz.prog T.C92 := CallOk.nil
def T.c92 (vs : List Value) (w : World) (K : Value → World → Prop) : Prop :=
  match vs with
  | [.slice la ll lc] => S.blockm_Items ⟨la, ll, lc⟩ w (fun r0 w' => K (.slice r0.a r0.l r0.c) w')
  | _ => False
theorem T.ok92 : ∀ vs w K, T.c92 vs w K → (callFunc 92 vs.toArray).run Tryz.prog w = .ok (.enter 92 vs.toArray) w ∧ Calls Tryz.prog 92 vs.toArray w fun e w' => ∃ v, e = .returned v ∧ K v w' := by
  intro vs w K h
  unfold T.c92 at h
  split at h
  · refine ⟨Tryz.call92 _ _, ok_of T.CO92 mixed Tryz.func92 (T.eq92 _ _ _) h fun v w' hk => ⟨v, rfl, ?_⟩⟩
    split at hk
    · exact hk
    · exact hk.elim
  · exact h.elim
end Go.Proofs.Qxb6500563aGreat
