/-
  MADE BY PROGRAM (my own gen2.py) out of the translation: the Go functions as typed texts, each tied to the model by the kernel.
-/
import Derived.Test.Qxb6500562aGreatS6
set_option linter.unusedVariables false
namespace Go.Proofs.Qxb6500562aGreat
open Go.Den

/-- (*e2e/genm.Engine).Run (function 24). -/
def S.genm_Engine_Run (g : Nat) (src : ByteArray) (input : Sl) (fuel : Int) (w : World) (K : Int → Int → Int → Int → Sl → Int → World → Prop) : Prop :=
  New w (.cells #[.int .i64 0, .int .i64 0, .int .i64 0, .int .i64 0, .slice none 0 0, .int .i64 0] 31) fun p1 w =>
  if (decide ((src.size : Int) > 4096)) = true then
    St1 w ⟨p1, 0, none⟩ (.int .i64 31) fun w =>
    St1 w ⟨p1, 1, none⟩ (.int .i64 4096) fun w =>
    St1 w ⟨p1, 2, none⟩ (.int .i64 0) fun w =>
    St1 w ⟨p1, 3, none⟩ (.int .i64 0) fun w =>
    St1 w ⟨p1, 4, none⟩ (.slice none 0 0) fun w =>
    St1 w ⟨p1, 5, none⟩ (.int .i64 fuel) fun w =>
    LdI .i64 w ⟨p1, 0, none⟩ fun Err_2 =>
    LdI .i64 w ⟨p1, 1, none⟩ fun Pos_3 =>
    LdI .i64 w ⟨p1, 2, none⟩ fun End_4 =>
    LdI .i64 w ⟨p1, 3, none⟩ fun Ret_5 =>
    LdS w ⟨p1, 4, none⟩ fun Out_6 =>
    LdI .i64 w ⟨p1, 5, none⟩ fun Fuel_7 =>
    K Err_2 Pos_3 End_4 Ret_5 Out_6 Fuel_7 w
  else
    if (decide ((input.l : Int) > 128)) = true then
      St1 w ⟨p1, 0, none⟩ (.int .i64 32) fun w =>
      St1 w ⟨p1, 1, none⟩ (.int .i64 128) fun w =>
      St1 w ⟨p1, 2, none⟩ (.int .i64 0) fun w =>
      St1 w ⟨p1, 3, none⟩ (.int .i64 0) fun w =>
      St1 w ⟨p1, 4, none⟩ (.slice none 0 0) fun w =>
      St1 w ⟨p1, 5, none⟩ (.int .i64 fuel) fun w =>
      LdI .i64 w ⟨p1, 0, none⟩ fun Err_8 =>
      LdI .i64 w ⟨p1, 1, none⟩ fun Pos_9 =>
      LdI .i64 w ⟨p1, 2, none⟩ fun End_10 =>
      LdI .i64 w ⟨p1, 3, none⟩ fun Ret_11 =>
      LdS w ⟨p1, 4, none⟩ fun Out_12 =>
      LdI .i64 w ⟨p1, 5, none⟩ fun Fuel_13 =>
      K Err_8 Pos_9 End_10 Ret_11 Out_12 Fuel_13 w
    else
      LdP w ⟨g, 0, none⟩ fun ck_14 =>
      S.checkm_Checker_Check ck_14 src w (fun Tree_Nodes_15 Tree_Root_16 Tree_Err_17 Tree_Pos_18 Ty_19 Ref_20 Funcs_21 Main_22 Err_23 Pos_24 w =>
      New w (.cells #[.slice none 0 0, .int .i64 0, .int .i64 0, .int .i64 0, .slice none 0 0, .slice none 0 0, .slice none 0 0, .int .i64 0, .int .i64 0, .int .i64 0] 103) fun p25 w =>
      St1 w ⟨p25, 0, none⟩ (.slice Tree_Nodes_15.a Tree_Nodes_15.l Tree_Nodes_15.c) fun w =>
      St1 w ⟨p25, 1, none⟩ (.int .i64 Tree_Root_16) fun w =>
      St1 w ⟨p25, 2, none⟩ (.int .i64 Tree_Err_17) fun w =>
      St1 w ⟨p25, 3, none⟩ (.int .i64 Tree_Pos_18) fun w =>
      St1 w ⟨p25, 4, none⟩ (.slice Ty_19.a Ty_19.l Ty_19.c) fun w =>
      St1 w ⟨p25, 5, none⟩ (.slice Ref_20.a Ref_20.l Ref_20.c) fun w =>
      St1 w ⟨p25, 6, none⟩ (.slice Funcs_21.a Funcs_21.l Funcs_21.c) fun w =>
      St1 w ⟨p25, 7, none⟩ (.int .i64 Main_22) fun w =>
      St1 w ⟨p25, 8, none⟩ (.int .i64 Err_23) fun w =>
      St1 w ⟨p25, 9, none⟩ (.int .i64 Pos_24) fun w =>
      LdI .i64 w ⟨p25, 8, none⟩ fun Err_26 =>
      if (Err_26 != 0) = true then
        LdI .i64 w ⟨p25, 8, none⟩ fun Err_27 =>
        LdI .i64 w ⟨p25, 9, none⟩ fun Pos_28 =>
        St1 w ⟨p1, 0, none⟩ (.int .i64 Err_27) fun w =>
        St1 w ⟨p1, 1, none⟩ (.int .i64 Pos_28) fun w =>
        St1 w ⟨p1, 2, none⟩ (.int .i64 0) fun w =>
        St1 w ⟨p1, 3, none⟩ (.int .i64 0) fun w =>
        St1 w ⟨p1, 4, none⟩ (.slice none 0 0) fun w =>
        St1 w ⟨p1, 5, none⟩ (.int .i64 fuel) fun w =>
        LdI .i64 w ⟨p1, 0, none⟩ fun Err_29 =>
        LdI .i64 w ⟨p1, 1, none⟩ fun Pos_30 =>
        LdI .i64 w ⟨p1, 2, none⟩ fun End_31 =>
        LdI .i64 w ⟨p1, 3, none⟩ fun Ret_32 =>
        LdS w ⟨p1, 4, none⟩ fun Out_33 =>
        LdI .i64 w ⟨p1, 5, none⟩ fun Fuel_34 =>
        K Err_29 Pos_30 End_31 Ret_32 Out_33 Fuel_34 w
      else
        LdP w ⟨g, 1, none⟩ fun h_35 =>
        S.heapm_Heap_Depth h_35 w (fun r36 w =>
        LdP w ⟨g, 1, none⟩ fun h_37 =>
        S.heapm_Heap_Pop h_37 r36 w (fun r38 w =>
        Drew w fun w =>
        Hold w ⟨p25, 0, none⟩ 10 fun R39 =>
        LdS w ⟨p25, 0, none⟩ fun Tree_Nodes_40 =>
        LdI .i64 w ⟨p25, 1, none⟩ fun Tree_Root_41 =>
        LdI .i64 w ⟨p25, 2, none⟩ fun Tree_Err_42 =>
        LdI .i64 w ⟨p25, 3, none⟩ fun Tree_Pos_43 =>
        LdS w ⟨p25, 4, none⟩ fun Ty_44 =>
        LdS w ⟨p25, 5, none⟩ fun Ref_45 =>
        LdS w ⟨p25, 6, none⟩ fun Funcs_46 =>
        LdI .i64 w ⟨p25, 7, none⟩ fun Main_47 =>
        LdI .i64 w ⟨p25, 8, none⟩ fun Err_48 =>
        LdI .i64 w ⟨p25, 9, none⟩ fun Pos_49 =>
        Hold w ⟨p25, 0, none⟩ 1 fun R50 =>
        LdS w ⟨p25, 0, none⟩ fun Nodes_51 =>
        Hold w ⟨g, 1, none⟩ 1 fun R52 =>
        LdP w ⟨g, 1, none⟩ fun h_53 =>
        AppS 3 [.int .i64 0] 8 1 w ⟨none, 0, 0⟩ input fun l54 w =>
        After R52 w <|
        After R50 w <|
        After R39 w <|
        New w (.cells #[.slice Tree_Nodes_40.a Tree_Nodes_40.l Tree_Nodes_40.c, .int .i64 Tree_Root_41, .int .i64 Tree_Err_42, .int .i64 Tree_Pos_43, .slice Ty_44.a Ty_44.l Ty_44.c, .slice Ref_45.a Ref_45.l Ref_45.c, .slice Funcs_46.a Funcs_46.l Funcs_46.c, .int .i64 Main_47, .int .i64 Err_48, .int .i64 Pos_49, .slice Nodes_51.a Nodes_51.l Nodes_51.c, .slice l54.a l54.l l54.c, .int .i64 0, .int .i64 fuel, .slice none 0 0, .int .i64 0, .pointer (some ⟨h_53, 0, none⟩), .int .i64 0] 121) fun p55 w =>
        LdI .i64 w ⟨p25, 7, none⟩ fun Main_56 =>
        S.genm_run_invoke p55 Main_56 ⟨none, 0, 0⟩ w (fun r57 w =>
        LdS w ⟨p55, 14, none⟩ fun out_58 =>
        Join (fun (out_59 : Sl) (w : World) =>
          LdI .i64 w ⟨p55, 17, none⟩ fun end_60 =>
          if (end_60 != 0) = true then
            Drew w fun w =>
            LdI .i64 w ⟨p55, 17, none⟩ fun end_61 =>
            LdI .i64 w ⟨p55, 13, none⟩ fun fuel_62 =>
            St1 w ⟨p1, 0, none⟩ (.int .i64 0) fun w =>
            St1 w ⟨p1, 1, none⟩ (.int .i64 0) fun w =>
            St1 w ⟨p1, 2, none⟩ (.int .i64 end_61) fun w =>
            St1 w ⟨p1, 3, none⟩ (.int .i64 0) fun w =>
            St1 w ⟨p1, 4, none⟩ (.slice out_59.a out_59.l out_59.c) fun w =>
            St1 w ⟨p1, 5, none⟩ (.int .i64 fuel_62) fun w =>
            LdI .i64 w ⟨p1, 0, none⟩ fun Err_63 =>
            LdI .i64 w ⟨p1, 1, none⟩ fun Pos_64 =>
            LdI .i64 w ⟨p1, 2, none⟩ fun End_65 =>
            LdI .i64 w ⟨p1, 3, none⟩ fun Ret_66 =>
            LdS w ⟨p1, 4, none⟩ fun Out_67 =>
            LdI .i64 w ⟨p1, 5, none⟩ fun Fuel_68 =>
            K Err_63 Pos_64 End_65 Ret_66 Out_67 Fuel_68 w
          else
            LdI .i64 w ⟨p55, 13, none⟩ fun fuel_69 =>
            St1 w ⟨p1, 0, none⟩ (.int .i64 0) fun w =>
            St1 w ⟨p1, 1, none⟩ (.int .i64 0) fun w =>
            St1 w ⟨p1, 2, none⟩ (.int .i64 21) fun w =>
            St1 w ⟨p1, 3, none⟩ (.int .i64 r57) fun w =>
            St1 w ⟨p1, 4, none⟩ (.slice out_59.a out_59.l out_59.c) fun w =>
            St1 w ⟨p1, 5, none⟩ (.int .i64 fuel_69) fun w =>
            LdI .i64 w ⟨p1, 0, none⟩ fun Err_70 =>
            LdI .i64 w ⟨p1, 1, none⟩ fun Pos_71 =>
            LdI .i64 w ⟨p1, 2, none⟩ fun End_72 =>
            LdI .i64 w ⟨p1, 3, none⟩ fun Ret_73 =>
            LdS w ⟨p1, 4, none⟩ fun Out_74 =>
            LdI .i64 w ⟨p1, 5, none⟩ fun Fuel_75 =>
            K Err_70 Pos_71 End_72 Ret_73 Out_74 Fuel_75 w) fun J76 =>
        if (decide ((out_58.l : Int) > 0)) = true then
          LdS w ⟨p55, 14, none⟩ fun out_77 =>
          MkS 3 [.int .i64 0] 8 w (out_77.l : Int) (out_77.l : Int) fun l78 w =>
          LdS w ⟨p55, 14, none⟩ fun out_79 =>
          CopyS 1 w l78 out_79 fun n80 w =>
          J76 l78 w
        else
          J76 ⟨none, 0, 0⟩ w))))
def T.C24 : CallT := (CallT.cons 40 T.c40 (CallT.cons 41 T.c41 (CallT.cons 42 T.c42 (CallT.cons 43 T.c43 CallT.nil))))
def T.A24 : Ann := fun _ => none
set_option maxRecDepth 1000000 in
theorem T.eq24 (g : Nat) (src : ByteArray) (input : Sl) (fuel : Int) (w : World) (K : Int → Int → Int → Int → Sl → Int → World → Prop) : denF Tryz.prog T.C24 T.A24 Tryz.f24 [.pointer (some ⟨g, 0, none⟩), .string src, .slice input.a input.l input.c, .int .i64 fuel] w (fun v w' => match v with | .agg ⟨[.int .i64 r0, .int .i64 r1, .int .i64 r2, .int .i64 r3, .slice r4a r4l r4c, .int .i64 r5]⟩ => K r0 r1 r2 r3 ⟨r4a, r4l, r4c⟩ r5 w' | _ => False) = S.genm_Engine_Run g src input fuel w K := by kernel_rfl
theorem T.CO24 : CallOk Tryz.prog T.C24 := (CallOk.cons 40 T.ok40 (CallOk.cons 41 T.ok41 (CallOk.cons 42 T.ok42 (CallOk.cons 43 T.ok43 CallOk.nil))))
def T.c24 (vs : List Value) (w : World) (K : Value → World → Prop) : Prop :=
  match vs with
  | [.pointer (some ⟨g, 0, none⟩), .string src, .slice inputa inputl inputc, .int .i64 fuel] => S.genm_Engine_Run g src ⟨inputa, inputl, inputc⟩ fuel w (fun r0 r1 r2 r3 r4 r5 w' => K (.agg #[.int .i64 r0, .int .i64 r1, .int .i64 r2, .int .i64 r3, .slice r4.a r4.l r4.c, .int .i64 r5]) w')
  | _ => False
theorem T.ok24 : ∀ vs w K, T.c24 vs w K → (callFunc 24 vs.toArray).run Tryz.prog w = .ok (.enter 24 vs.toArray) w ∧ Calls Tryz.prog 24 vs.toArray w fun e w' => ∃ v, e = .returned v ∧ K v w' := by
  intro vs w K h
  unfold T.c24 at h
  split at h
  · refine ⟨Tryz.call24 _ _, ok_of T.CO24 mixed Tryz.func24 (T.eq24 _ _ _ _ _ _) h fun v w' hk => ⟨v, rfl, ?_⟩⟩
    split at hk
    · exact hk
    · exact hk.elim
  · exact h.elim

/-- e2e/towerexact.sameInts (function 14). -/
def S.towerexact_sameInts (a : Sl) (b : Sl) (w : World) (K : Bool → World → Prop) : Prop :=
  if ((a.l : Int) != (b.l : Int)) = true then
    K false w
  else
    LoopP (σ := Int × Unit) (fun st1 w next2 =>
      if (decide (st1.1 < (a.l : Int))) = true then
        Drew w fun w =>
        Ix a.a a.l st1.1 fun b3 o4 =>
        LdI .i64 w ⟨b3, o4 + Int.toNat st1.1 * 1, none⟩ fun x_5 =>
        Ix b.a b.l st1.1 fun b6 o7 =>
        LdI .i64 w ⟨b6, o7 + Int.toNat st1.1 * 1, none⟩ fun x_8 =>
        if (x_5 != x_8) = true then
          K false w
        else
          Let (W (st1.1 + 1)) fun i_9 =>
          next2 (i_9, ()) w
      else
        K true w) (0, ()) w
def T.C14 : CallT := CallT.nil
def T.A14 : Ann := fun i => bif Nat.beq i 4 then some ([0, 1], [(5, 0)]) else none
set_option maxRecDepth 1000000 in
theorem T.eq14 (a : Sl) (b : Sl) (w : World) (K : Bool → World → Prop) : denF Tryz.prog T.C14 T.A14 Tryz.f14 [.slice a.a a.l a.c, .slice b.a b.l b.c] w (fun v w' => match v with | .bool r0 => K r0 w' | _ => False) = S.towerexact_sameInts a b w K := by kernel_rfl
theorem T.CO14 : CallOk Tryz.prog T.C14 := CallOk.nil
def T.c14 (vs : List Value) (w : World) (K : Value → World → Prop) : Prop :=
  match vs with
  | [.slice aa al ac, .slice ba bl bc] => S.towerexact_sameInts ⟨aa, al, ac⟩ ⟨ba, bl, bc⟩ w (fun r0 w' => K (.bool r0) w')
  | _ => False
theorem T.ok14 : ∀ vs w K, T.c14 vs w K → (callFunc 14 vs.toArray).run Tryz.prog w = .ok (.enter 14 vs.toArray) w ∧ Calls Tryz.prog 14 vs.toArray w fun e w' => ∃ v, e = .returned v ∧ K v w' := by
  intro vs w K h
  unfold T.c14 at h
  split at h
  · refine ⟨Tryz.call14 _ _, ok_of T.CO14 mixed Tryz.func14 (T.eq14 _ _ _ _) h fun v w' hk => ⟨v, rfl, ?_⟩⟩
    split at hk
    · exact hk
    · exact hk.elim
  · exact h.elim

/-- e2e/towerexact.same (function 25). -/
def S.towerexact_same (a_Err : Int) (a_Pos : Int) (a_End : Int) (a_Ret : Int) (a_Out : Sl) (a_Fuel : Int) (b_Err : Int) (b_Pos : Int) (b_End : Int) (b_Ret : Int) (b_Out : Sl) (b_Fuel : Int) (w : World) (K : Bool → World → Prop) : Prop :=
  New w (.cells #[.int .i64 a_Err, .int .i64 a_Pos, .int .i64 a_End, .int .i64 a_Ret, .slice a_Out.a a_Out.l a_Out.c, .int .i64 a_Fuel] 31) fun p1 w =>
  New w (.cells #[.int .i64 b_Err, .int .i64 b_Pos, .int .i64 b_End, .int .i64 b_Ret, .slice b_Out.a b_Out.l b_Out.c, .int .i64 b_Fuel] 31) fun p2 w =>
  LdI .i64 w ⟨p1, 0, none⟩ fun Err_3 =>
  LdI .i64 w ⟨p2, 0, none⟩ fun Err_4 =>
  if (Err_3 != Err_4) = true then
    K false w
  else
    LdI .i64 w ⟨p1, 1, none⟩ fun Pos_5 =>
    LdI .i64 w ⟨p2, 1, none⟩ fun Pos_6 =>
    if (Pos_5 != Pos_6) = true then
      K false w
    else
      LdI .i64 w ⟨p1, 2, none⟩ fun End_7 =>
      LdI .i64 w ⟨p2, 2, none⟩ fun End_8 =>
      if (End_7 != End_8) = true then
        K false w
      else
        LdI .i64 w ⟨p1, 3, none⟩ fun Ret_9 =>
        LdI .i64 w ⟨p2, 3, none⟩ fun Ret_10 =>
        if (Ret_9 != Ret_10) = true then
          K false w
        else
          LdI .i64 w ⟨p1, 5, none⟩ fun Fuel_11 =>
          LdI .i64 w ⟨p2, 5, none⟩ fun Fuel_12 =>
          if (Fuel_11 != Fuel_12) = true then
            K false w
          else
            LdS w ⟨p1, 4, none⟩ fun Out_13 =>
            LdS w ⟨p2, 4, none⟩ fun Out_14 =>
            S.towerexact_sameInts Out_13 Out_14 w (fun r15 w =>
            K r15 w)
def T.C25 : CallT := (CallT.cons 14 T.c14 CallT.nil)
def T.A25 : Ann := fun _ => none
set_option maxRecDepth 1000000 in
theorem T.eq25 (a_Err : Int) (a_Pos : Int) (a_End : Int) (a_Ret : Int) (a_Out : Sl) (a_Fuel : Int) (b_Err : Int) (b_Pos : Int) (b_End : Int) (b_Ret : Int) (b_Out : Sl) (b_Fuel : Int) (w : World) (K : Bool → World → Prop) : denF Tryz.prog T.C25 T.A25 Tryz.f25 [.agg #[.int .i64 a_Err, .int .i64 a_Pos, .int .i64 a_End, .int .i64 a_Ret, .slice a_Out.a a_Out.l a_Out.c, .int .i64 a_Fuel], .agg #[.int .i64 b_Err, .int .i64 b_Pos, .int .i64 b_End, .int .i64 b_Ret, .slice b_Out.a b_Out.l b_Out.c, .int .i64 b_Fuel]] w (fun v w' => match v with | .bool r0 => K r0 w' | _ => False) = S.towerexact_same a_Err a_Pos a_End a_Ret a_Out a_Fuel b_Err b_Pos b_End b_Ret b_Out b_Fuel w K := by kernel_rfl
theorem T.CO25 : CallOk Tryz.prog T.C25 := (CallOk.cons 14 T.ok14 CallOk.nil)
def T.c25 (vs : List Value) (w : World) (K : Value → World → Prop) : Prop :=
  match vs with
  | [.agg ⟨[.int .i64 a_Err, .int .i64 a_Pos, .int .i64 a_End, .int .i64 a_Ret, .slice a_Outa a_Outl a_Outc, .int .i64 a_Fuel]⟩, .agg ⟨[.int .i64 b_Err, .int .i64 b_Pos, .int .i64 b_End, .int .i64 b_Ret, .slice b_Outa b_Outl b_Outc, .int .i64 b_Fuel]⟩] => S.towerexact_same a_Err a_Pos a_End a_Ret ⟨a_Outa, a_Outl, a_Outc⟩ a_Fuel b_Err b_Pos b_End b_Ret ⟨b_Outa, b_Outl, b_Outc⟩ b_Fuel w (fun r0 w' => K (.bool r0) w')
  | _ => False
theorem T.ok25 : ∀ vs w K, T.c25 vs w K → (callFunc 25 vs.toArray).run Tryz.prog w = .ok (.enter 25 vs.toArray) w ∧ Calls Tryz.prog 25 vs.toArray w fun e w' => ∃ v, e = .returned v ∧ K v w' := by
  intro vs w K h
  unfold T.c25 at h
  split at h
  · refine ⟨Tryz.call25 _ _, ok_of T.CO25 mixed Tryz.func25 (T.eq25 _ _ _ _ _ _ _ _ _ _ _ _ _ _) h fun v w' hk => ⟨v, rfl, ?_⟩⟩
    split at hk
    · exact hk
    · exact hk.elim
  · exact h.elim

/-- e2e/towerexact.tidy (function 26). -/
def S.towerexact_tidy (x : Sl) (w : World) (K : Bool → World → Prop) : Prop :=
  if ((x.c : Int) != (x.l : Int)) = true then
    K false w
  else
    if (decide ((x.l : Int) > 0)) = true then
      K true w
    else
      K (Option.isNone x.a) w
def T.C26 : CallT := CallT.nil
def T.A26 : Ann := fun _ => none
set_option maxRecDepth 1000000 in
theorem T.eq26 (x : Sl) (w : World) (K : Bool → World → Prop) : denF Tryz.prog T.C26 T.A26 Tryz.f26 [.slice x.a x.l x.c] w (fun v w' => match v with | .bool r0 => K r0 w' | _ => False) = S.towerexact_tidy x w K := by kernel_rfl
theorem T.CO26 : CallOk Tryz.prog T.C26 := CallOk.nil
def T.c26 (vs : List Value) (w : World) (K : Value → World → Prop) : Prop :=
  match vs with
  | [.slice xa xl xc] => S.towerexact_tidy ⟨xa, xl, xc⟩ w (fun r0 w' => K (.bool r0) w')
  | _ => False
theorem T.ok26 : ∀ vs w K, T.c26 vs w K → (callFunc 26 vs.toArray).run Tryz.prog w = .ok (.enter 26 vs.toArray) w ∧ Calls Tryz.prog 26 vs.toArray w fun e w' => ∃ v, e = .returned v ∧ K v w' := by
  intro vs w K h
  unfold T.c26 at h
  split at h
  · refine ⟨Tryz.call26 _ _, ok_of T.CO26 mixed Tryz.func26 (T.eq26 _ _ _) h fun v w' hk => ⟨v, rfl, ?_⟩⟩
    split at hk
    · exact hk
    · exact hk.elim
  · exact h.elim

/-- e2e/towerexact.ran (function 9). -/
def S.towerexact_ran (x : Nat) (m : Nat) (src : ByteArray) (list : Sl) (from_ : Int) (n : Int) (extra : Int) (fuel : Int) (w : World) (K : Int → Int → Int → Int → Sl → Int → Bool → World → Prop) : Prop :=
  New w (.cells #[.int .i64 0, .int .i64 0, .int .i64 0, .int .i64 0, .slice none 0 0, .int .i64 0] 31) fun p1 w =>
  S.towerexact_copyInts list w (fun r2 w =>
  CutS 1 list from_ (W (from_ + n)) (list.c : Int) fun l3 =>
  S.towerexact_copyInts l3 w (fun r4 w =>
  CutS 1 list from_ (W (from_ + n)) (W ((W (from_ + n)) + extra)) fun l5 =>
  S.gen_Engine_Run x src l5 fuel w (fun Err_6 Pos_7 End_8 Ret_9 Out_10 Fuel_11 w =>
  New w (.cells #[.int .i64 0, .int .i64 0, .int .i64 0, .int .i64 0, .slice none 0 0, .int .i64 0] 31) fun p12 w =>
  St1 w ⟨p12, 0, none⟩ (.int .i64 Err_6) fun w =>
  St1 w ⟨p12, 1, none⟩ (.int .i64 Pos_7) fun w =>
  St1 w ⟨p12, 2, none⟩ (.int .i64 End_8) fun w =>
  St1 w ⟨p12, 3, none⟩ (.int .i64 Ret_9) fun w =>
  St1 w ⟨p12, 4, none⟩ (.slice Out_10.a Out_10.l Out_10.c) fun w =>
  St1 w ⟨p12, 5, none⟩ (.int .i64 Fuel_11) fun w =>
  S.genm_Engine_Run m src r4 fuel w (fun Err_13 Pos_14 End_15 Ret_16 Out_17 Fuel_18 w =>
  New w (.cells #[.int .i64 0, .int .i64 0, .int .i64 0, .int .i64 0, .slice none 0 0, .int .i64 0] 31) fun p19 w =>
  St1 w ⟨p19, 0, none⟩ (.int .i64 Err_13) fun w =>
  St1 w ⟨p19, 1, none⟩ (.int .i64 Pos_14) fun w =>
  St1 w ⟨p19, 2, none⟩ (.int .i64 End_15) fun w =>
  St1 w ⟨p19, 3, none⟩ (.int .i64 Ret_16) fun w =>
  St1 w ⟨p19, 4, none⟩ (.slice Out_17.a Out_17.l Out_17.c) fun w =>
  St1 w ⟨p19, 5, none⟩ (.int .i64 Fuel_18) fun w =>
  Join (fun (w : World) =>
    LdI .i64 w ⟨p12, 0, none⟩ fun Err_20 =>
    LdI .i64 w ⟨p12, 1, none⟩ fun Pos_21 =>
    LdI .i64 w ⟨p12, 2, none⟩ fun End_22 =>
    LdI .i64 w ⟨p12, 3, none⟩ fun Ret_23 =>
    LdS w ⟨p12, 4, none⟩ fun Out_24 =>
    LdI .i64 w ⟨p12, 5, none⟩ fun Fuel_25 =>
    St1 w ⟨p1, 0, none⟩ (.int .i64 Err_20) fun w =>
    St1 w ⟨p1, 1, none⟩ (.int .i64 Pos_21) fun w =>
    St1 w ⟨p1, 2, none⟩ (.int .i64 End_22) fun w =>
    St1 w ⟨p1, 3, none⟩ (.int .i64 Ret_23) fun w =>
    St1 w ⟨p1, 4, none⟩ (.slice Out_24.a Out_24.l Out_24.c) fun w =>
    St1 w ⟨p1, 5, none⟩ (.int .i64 Fuel_25) fun w =>
    LdI .i64 w ⟨p1, 0, none⟩ fun Err_26 =>
    LdI .i64 w ⟨p1, 1, none⟩ fun Pos_27 =>
    LdI .i64 w ⟨p1, 2, none⟩ fun End_28 =>
    LdI .i64 w ⟨p1, 3, none⟩ fun Ret_29 =>
    LdS w ⟨p1, 4, none⟩ fun Out_30 =>
    LdI .i64 w ⟨p1, 5, none⟩ fun Fuel_31 =>
    K Err_26 Pos_27 End_28 Ret_29 Out_30 Fuel_31 false w) fun J32 =>
  LdI .i64 w ⟨p12, 0, none⟩ fun Err_33 =>
  LdI .i64 w ⟨p12, 1, none⟩ fun Pos_34 =>
  LdI .i64 w ⟨p12, 2, none⟩ fun End_35 =>
  LdI .i64 w ⟨p12, 3, none⟩ fun Ret_36 =>
  LdS w ⟨p12, 4, none⟩ fun Out_37 =>
  LdI .i64 w ⟨p12, 5, none⟩ fun Fuel_38 =>
  LdI .i64 w ⟨p19, 0, none⟩ fun Err_39 =>
  LdI .i64 w ⟨p19, 1, none⟩ fun Pos_40 =>
  LdI .i64 w ⟨p19, 2, none⟩ fun End_41 =>
  LdI .i64 w ⟨p19, 3, none⟩ fun Ret_42 =>
  LdS w ⟨p19, 4, none⟩ fun Out_43 =>
  LdI .i64 w ⟨p19, 5, none⟩ fun Fuel_44 =>
  S.towerexact_same Err_33 Pos_34 End_35 Ret_36 Out_37 Fuel_38 Err_39 Pos_40 End_41 Ret_42 Out_43 Fuel_44 w (fun r45 w =>
  if (!r45) = true then
    J32 w
  else
    S.towerexact_sameInts list r2 w (fun r46 w =>
    if (!r46) = true then
      J32 w
    else
      Drew w fun w =>
      Hold w ⟨p12, 0, none⟩ 6 fun R47 =>
      LdI .i64 w ⟨p12, 0, none⟩ fun Err_48 =>
      LdI .i64 w ⟨p12, 1, none⟩ fun Pos_49 =>
      LdI .i64 w ⟨p12, 2, none⟩ fun End_50 =>
      LdI .i64 w ⟨p12, 3, none⟩ fun Ret_51 =>
      LdS w ⟨p12, 4, none⟩ fun Out_52 =>
      LdI .i64 w ⟨p12, 5, none⟩ fun Fuel_53 =>
      LdS w ⟨p12, 4, none⟩ fun Out_54 =>
      S.towerexact_tidy Out_54 w (fun r55 w =>
      After R47 w <|
      St1 w ⟨p1, 0, none⟩ (.int .i64 Err_48) fun w =>
      St1 w ⟨p1, 1, none⟩ (.int .i64 Pos_49) fun w =>
      St1 w ⟨p1, 2, none⟩ (.int .i64 End_50) fun w =>
      St1 w ⟨p1, 3, none⟩ (.int .i64 Ret_51) fun w =>
      St1 w ⟨p1, 4, none⟩ (.slice Out_52.a Out_52.l Out_52.c) fun w =>
      St1 w ⟨p1, 5, none⟩ (.int .i64 Fuel_53) fun w =>
      LdI .i64 w ⟨p1, 0, none⟩ fun Err_56 =>
      LdI .i64 w ⟨p1, 1, none⟩ fun Pos_57 =>
      LdI .i64 w ⟨p1, 2, none⟩ fun End_58 =>
      LdI .i64 w ⟨p1, 3, none⟩ fun Ret_59 =>
      LdS w ⟨p1, 4, none⟩ fun Out_60 =>
      LdI .i64 w ⟨p1, 5, none⟩ fun Fuel_61 =>
      K Err_56 Pos_57 End_58 Ret_59 Out_60 Fuel_61 r55 w)))))))
def T.C9 : CallT := (CallT.cons 8 T.c8 (CallT.cons 23 T.c23 (CallT.cons 24 T.c24 (CallT.cons 25 T.c25 (CallT.cons 14 T.c14 (CallT.cons 26 T.c26 CallT.nil))))))
def T.A9 : Ann := fun _ => none
set_option maxRecDepth 1000000 in
theorem T.eq9 (x : Nat) (m : Nat) (src : ByteArray) (list : Sl) (from_ : Int) (n : Int) (extra : Int) (fuel : Int) (w : World) (K : Int → Int → Int → Int → Sl → Int → Bool → World → Prop) : denF Tryz.prog T.C9 T.A9 Tryz.f9 [.pointer (some ⟨x, 0, none⟩), .pointer (some ⟨m, 0, none⟩), .string src, .slice list.a list.l list.c, .int .i64 from_, .int .i64 n, .int .i64 extra, .int .i64 fuel] w (fun v w' => match v with | .tuple ⟨[.agg ⟨[.int .i64 r0, .int .i64 r1, .int .i64 r2, .int .i64 r3, .slice r4a r4l r4c, .int .i64 r5]⟩, .bool r6]⟩ => K r0 r1 r2 r3 ⟨r4a, r4l, r4c⟩ r5 r6 w' | _ => False) = S.towerexact_ran x m src list from_ n extra fuel w K := by kernel_rfl
theorem T.CO9 : CallOk Tryz.prog T.C9 := (CallOk.cons 8 T.ok8 (CallOk.cons 23 T.ok23 (CallOk.cons 24 T.ok24 (CallOk.cons 25 T.ok25 (CallOk.cons 14 T.ok14 (CallOk.cons 26 T.ok26 CallOk.nil))))))
def T.c9 (vs : List Value) (w : World) (K : Value → World → Prop) : Prop :=
  match vs with
  | [.pointer (some ⟨x, 0, none⟩), .pointer (some ⟨m, 0, none⟩), .string src, .slice lista listl listc, .int .i64 from_, .int .i64 n, .int .i64 extra, .int .i64 fuel] => S.towerexact_ran x m src ⟨lista, listl, listc⟩ from_ n extra fuel w (fun r0 r1 r2 r3 r4 r5 r6 w' => K (.tuple #[.agg #[.int .i64 r0, .int .i64 r1, .int .i64 r2, .int .i64 r3, .slice r4.a r4.l r4.c, .int .i64 r5], .bool r6]) w')
  | _ => False
theorem T.ok9 : ∀ vs w K, T.c9 vs w K → (callFunc 9 vs.toArray).run Tryz.prog w = .ok (.enter 9 vs.toArray) w ∧ Calls Tryz.prog 9 vs.toArray w fun e w' => ∃ v, e = .returned v ∧ K v w' := by
  intro vs w K h
  unfold T.c9 at h
  split at h
  · refine ⟨Tryz.call9 _ _, ok_of T.CO9 mixed Tryz.func9 (T.eq9 _ _ _ _ _ _ _ _ _ _) h fun v w' hk => ⟨v, rfl, ?_⟩⟩
    split at hk
    · exact hk
    · exact hk.elim
  · exact h.elim

/-- (*e2e/gen.Engine).Compile (function 27). -/
def S.gen_Engine_Compile (g : Nat) (src : ByteArray) (w : World) (K : Sl → Int → Int → World → Prop) : Prop :=
  LdP w ⟨g, 0, none⟩ fun ck_1 =>
  S.check_Checker_Check ck_1 src w (fun Tree_Nodes_2 Tree_Root_3 Tree_Err_4 Tree_Pos_5 Ty_6 Ref_7 Funcs_8 Main_9 Err_10 Pos_11 w =>
  New w (.cells #[.slice none 0 0, .int .i64 0, .int .i64 0, .int .i64 0, .slice none 0 0, .slice none 0 0, .slice none 0 0, .int .i64 0, .int .i64 0, .int .i64 0] 103) fun p12 w =>
  St1 w ⟨p12, 0, none⟩ (.slice Tree_Nodes_2.a Tree_Nodes_2.l Tree_Nodes_2.c) fun w =>
  St1 w ⟨p12, 1, none⟩ (.int .i64 Tree_Root_3) fun w =>
  St1 w ⟨p12, 2, none⟩ (.int .i64 Tree_Err_4) fun w =>
  St1 w ⟨p12, 3, none⟩ (.int .i64 Tree_Pos_5) fun w =>
  St1 w ⟨p12, 4, none⟩ (.slice Ty_6.a Ty_6.l Ty_6.c) fun w =>
  St1 w ⟨p12, 5, none⟩ (.slice Ref_7.a Ref_7.l Ref_7.c) fun w =>
  St1 w ⟨p12, 6, none⟩ (.slice Funcs_8.a Funcs_8.l Funcs_8.c) fun w =>
  St1 w ⟨p12, 7, none⟩ (.int .i64 Main_9) fun w =>
  St1 w ⟨p12, 8, none⟩ (.int .i64 Err_10) fun w =>
  St1 w ⟨p12, 9, none⟩ (.int .i64 Pos_11) fun w =>
  LdI .i64 w ⟨p12, 8, none⟩ fun Err_13 =>
  if (Err_13 != 0) = true then
    Drew w fun w =>
    LdI .i64 w ⟨p12, 8, none⟩ fun Err_14 =>
    LdI .i64 w ⟨p12, 9, none⟩ fun Pos_15 =>
    K ⟨none, 0, 0⟩ Err_14 Pos_15 w
  else
    LdS w ⟨p12, 0, none⟩ fun Tree_Nodes_16 =>
    LdI .i64 w ⟨p12, 1, none⟩ fun Tree_Root_17 =>
    LdI .i64 w ⟨p12, 2, none⟩ fun Tree_Err_18 =>
    LdI .i64 w ⟨p12, 3, none⟩ fun Tree_Pos_19 =>
    LdS w ⟨p12, 4, none⟩ fun Ty_20 =>
    LdS w ⟨p12, 5, none⟩ fun Ref_21 =>
    LdS w ⟨p12, 6, none⟩ fun Funcs_22 =>
    LdI .i64 w ⟨p12, 7, none⟩ fun Main_23 =>
    LdI .i64 w ⟨p12, 8, none⟩ fun Err_24 =>
    LdI .i64 w ⟨p12, 9, none⟩ fun Pos_25 =>
    S.gen_Engine_compile g Tree_Nodes_16 Tree_Root_17 Tree_Err_18 Tree_Pos_19 Ty_20 Ref_21 Funcs_22 Main_23 Err_24 Pos_25 w (fun w =>
    S.gen_Engine_image g w (fun r26 w =>
    K r26 0 0 w)))
def T.C27 : CallT := (CallT.cons 37 T.c37 (CallT.cons 38 T.c38 (CallT.cons 39 T.c39 CallT.nil)))
def T.A27 : Ann := fun _ => none
set_option maxRecDepth 1000000 in
theorem T.eq27 (g : Nat) (src : ByteArray) (w : World) (K : Sl → Int → Int → World → Prop) : denF Tryz.prog T.C27 T.A27 Tryz.f27 [.pointer (some ⟨g, 0, none⟩), .string src] w (fun v w' => match v with | .tuple ⟨[.slice r0a r0l r0c, .int .i64 r1, .int .i64 r2]⟩ => K ⟨r0a, r0l, r0c⟩ r1 r2 w' | _ => False) = S.gen_Engine_Compile g src w K := by kernel_rfl
theorem T.CO27 : CallOk Tryz.prog T.C27 := (CallOk.cons 37 T.ok37 (CallOk.cons 38 T.ok38 (CallOk.cons 39 T.ok39 CallOk.nil)))
def T.c27 (vs : List Value) (w : World) (K : Value → World → Prop) : Prop :=
  match vs with
  | [.pointer (some ⟨g, 0, none⟩), .string src] => S.gen_Engine_Compile g src w (fun r0 r1 r2 w' => K (.tuple #[.slice r0.a r0.l r0.c, .int .i64 r1, .int .i64 r2]) w')
  | _ => False
theorem T.ok27 : ∀ vs w K, T.c27 vs w K → (callFunc 27 vs.toArray).run Tryz.prog w = .ok (.enter 27 vs.toArray) w ∧ Calls Tryz.prog 27 vs.toArray w fun e w' => ∃ v, e = .returned v ∧ K v w' := by
  intro vs w K h
  unfold T.c27 at h
  split at h
  · refine ⟨Tryz.call27 _ _, ok_of T.CO27 mixed Tryz.func27 (T.eq27 _ _ _ _) h fun v w' hk => ⟨v, rfl, ?_⟩⟩
    split at hk
    · exact hk
    · exact hk.elim
  · exact h.elim

/-- e2e/towerexact.sameBytes (function 28). -/
def S.towerexact_sameBytes (a : Sl) (b : Sl) (w : World) (K : Bool → World → Prop) : Prop :=
  if ((a.l : Int) != (b.l : Int)) = true then
    K false w
  else
    LoopP (σ := Int × Unit) (fun st1 w next2 =>
      if (decide (st1.1 < (a.l : Int))) = true then
        Drew w fun w =>
        Ix a.a a.l st1.1 fun b3 o4 =>
        LdI .u8 w ⟨b3, o4 + Int.toNat st1.1 * 1, none⟩ fun x_5 =>
        Ix b.a b.l st1.1 fun b6 o7 =>
        LdI .u8 w ⟨b6, o7 + Int.toNat st1.1 * 1, none⟩ fun x_8 =>
        if (x_5 != x_8) = true then
          K false w
        else
          Let (W (st1.1 + 1)) fun i_9 =>
          next2 (i_9, ()) w
      else
        K true w) (0, ()) w
def T.C28 : CallT := CallT.nil
def T.A28 : Ann := fun i => bif Nat.beq i 4 then some ([0, 1], [(5, 0)]) else none
set_option maxRecDepth 1000000 in
theorem T.eq28 (a : Sl) (b : Sl) (w : World) (K : Bool → World → Prop) : denF Tryz.prog T.C28 T.A28 Tryz.f28 [.slice a.a a.l a.c, .slice b.a b.l b.c] w (fun v w' => match v with | .bool r0 => K r0 w' | _ => False) = S.towerexact_sameBytes a b w K := by kernel_rfl
theorem T.CO28 : CallOk Tryz.prog T.C28 := CallOk.nil
def T.c28 (vs : List Value) (w : World) (K : Value → World → Prop) : Prop :=
  match vs with
  | [.slice aa al ac, .slice ba bl bc] => S.towerexact_sameBytes ⟨aa, al, ac⟩ ⟨ba, bl, bc⟩ w (fun r0 w' => K (.bool r0) w')
  | _ => False
theorem T.ok28 : ∀ vs w K, T.c28 vs w K → (callFunc 28 vs.toArray).run Tryz.prog w = .ok (.enter 28 vs.toArray) w ∧ Calls Tryz.prog 28 vs.toArray w fun e w' => ∃ v, e = .returned v ∧ K v w' := by
  intro vs w K h
  unfold T.c28 at h
  split at h
  · refine ⟨Tryz.call28 _ _, ok_of T.CO28 mixed Tryz.func28 (T.eq28 _ _ _ _) h fun v w' hk => ⟨v, rfl, ?_⟩⟩
    split at hk
    · exact hk
    · exact hk.elim
  · exact h.elim

/-- e2e/towerexact.compiled (function 10). -/
def S.towerexact_compiled (x : Nat) (src : ByteArray) (w : World) (K : Sl → Bool → Bool → World → Prop) : Prop :=
  S.gen_Engine_Compile x src w (fun r1 r2 r3 w =>
  S.genm_New w (fun r4 w =>
  S.genm_Engine_Run r4 src ⟨none, 0, 0⟩ 0 w (fun Err_5 Pos_6 End_7 Ret_8 Out_9 Fuel_10 w =>
  New w (.cells #[.int .i64 0, .int .i64 0, .int .i64 0, .int .i64 0, .slice none 0 0, .int .i64 0] 31) fun p11 w =>
  St1 w ⟨p11, 0, none⟩ (.int .i64 Err_5) fun w =>
  St1 w ⟨p11, 1, none⟩ (.int .i64 Pos_6) fun w =>
  St1 w ⟨p11, 2, none⟩ (.int .i64 End_7) fun w =>
  St1 w ⟨p11, 3, none⟩ (.int .i64 Ret_8) fun w =>
  St1 w ⟨p11, 4, none⟩ (.slice Out_9.a Out_9.l Out_9.c) fun w =>
  St1 w ⟨p11, 5, none⟩ (.int .i64 Fuel_10) fun w =>
  LdI .i64 w ⟨p11, 0, none⟩ fun Err_12 =>
  if (Err_12 != 0) = true then
    Join (fun (j_13 : Sl) (j_14 : Bool) (j_15 : Bool) (w : World) =>
      K j_13 j_14 j_15 w) fun J16 =>
    LdI .i64 w ⟨p11, 0, none⟩ fun Err_17 =>
    if (r2 == Err_17) = true then
      LdI .i64 w ⟨p11, 1, none⟩ fun Pos_18 =>
      if (r3 == Pos_18) = true then
        J16 ⟨none, 0, 0⟩ false (Option.isNone r1.a) w
      else
        J16 ⟨none, 0, 0⟩ false false w
    else
      J16 ⟨none, 0, 0⟩ false false w
  else
    S.tower_New w (fun r19 w =>
    S.gen_Engine_Compile r19 src w (fun r20 r21 r22 w =>
    if (r2 == 0) = true then
      if (r3 == 0) = true then
        if (!(Option.isNone r1.a)) = true then
          if ((r1.c : Int) == (r1.l : Int)) = true then
            S.towerexact_sameBytes r1 r20 w (fun r23 w =>
            K r1 true r23 w)
          else
            K r1 true false w
        else
          K r1 true false w
      else
        K r1 true false w
    else
      K r1 true false w)))))
def T.C10 : CallT := (CallT.cons 27 T.c27 (CallT.cons 7 T.c7 (CallT.cons 24 T.c24 (CallT.cons 6 T.c6 (CallT.cons 28 T.c28 CallT.nil)))))
def T.A10 : Ann := fun _ => none
set_option maxRecDepth 1000000 in
theorem T.eq10 (x : Nat) (src : ByteArray) (w : World) (K : Sl → Bool → Bool → World → Prop) : denF Tryz.prog T.C10 T.A10 Tryz.f10 [.pointer (some ⟨x, 0, none⟩), .string src] w (fun v w' => match v with | .tuple ⟨[.slice r0a r0l r0c, .bool r1, .bool r2]⟩ => K ⟨r0a, r0l, r0c⟩ r1 r2 w' | _ => False) = S.towerexact_compiled x src w K := by kernel_rfl
theorem T.CO10 : CallOk Tryz.prog T.C10 := (CallOk.cons 27 T.ok27 (CallOk.cons 7 T.ok7 (CallOk.cons 24 T.ok24 (CallOk.cons 6 T.ok6 (CallOk.cons 28 T.ok28 CallOk.nil)))))
def T.c10 (vs : List Value) (w : World) (K : Value → World → Prop) : Prop :=
  match vs with
  | [.pointer (some ⟨x, 0, none⟩), .string src] => S.towerexact_compiled x src w (fun r0 r1 r2 w' => K (.tuple #[.slice r0.a r0.l r0.c, .bool r1, .bool r2]) w')
  | _ => False
theorem T.ok10 : ∀ vs w K, T.c10 vs w K → (callFunc 10 vs.toArray).run Tryz.prog w = .ok (.enter 10 vs.toArray) w ∧ Calls Tryz.prog 10 vs.toArray w fun e w' => ∃ v, e = .returned v ∧ K v w' := by
  intro vs w K h
  unfold T.c10 at h
  split at h
  · refine ⟨Tryz.call10 _ _, ok_of T.CO10 mixed Tryz.func10 (T.eq10 _ _ _ _) h fun v w' hk => ⟨v, rfl, ?_⟩⟩
    split at hk
    · exact hk
    · exact hk.elim
  · exact h.elim

/-- e2e/towerexact.short (function 13). -/
def S.towerexact_short (a : Sl) (w : World) (K : Sl → World → Prop) : Prop :=
  if (decide ((a.l : Int) > 128)) = true then
    CutS 1 a 0 128 (a.c : Int) fun l1 =>
    K l1 w
  else
    K a w
def T.C13 : CallT := CallT.nil
def T.A13 : Ann := fun _ => none
set_option maxRecDepth 1000000 in
theorem T.eq13 (a : Sl) (w : World) (K : Sl → World → Prop) : denF Tryz.prog T.C13 T.A13 Tryz.f13 [.slice a.a a.l a.c] w (fun v w' => match v with | .slice r0a r0l r0c => K ⟨r0a, r0l, r0c⟩ w' | _ => False) = S.towerexact_short a w K := by kernel_rfl
theorem T.CO13 : CallOk Tryz.prog T.C13 := CallOk.nil
def T.c13 (vs : List Value) (w : World) (K : Value → World → Prop) : Prop :=
  match vs with
  | [.slice aa al ac] => S.towerexact_short ⟨aa, al, ac⟩ w (fun r0 w' => K (.slice r0.a r0.l r0.c) w')
  | _ => False
theorem T.ok13 : ∀ vs w K, T.c13 vs w K → (callFunc 13 vs.toArray).run Tryz.prog w = .ok (.enter 13 vs.toArray) w ∧ Calls Tryz.prog 13 vs.toArray w fun e w' => ∃ v, e = .returned v ∧ K v w' := by
  intro vs w K h
  unfold T.c13 at h
  split at h
  · refine ⟨Tryz.call13 _ _, ok_of T.CO13 mixed Tryz.func13 (T.eq13 _ _ _) h fun v w' hk => ⟨v, rfl, ?_⟩⟩
    split at hk
    · exact hk
    · exact hk.elim
  · exact h.elim

/-- e2e/towerexact.copyBytes (function 31). -/
def S.towerexact_copyBytes (a : Sl) (w : World) (K : Sl → World → Prop) : Prop :=
  MkS 5 [.int .u8 0] 1 w (a.l : Int) (a.l : Int) fun l1 w =>
  CopyS 1 w l1 a fun n2 w =>
  K l1 w
def T.C31 : CallT := CallT.nil
def T.A31 : Ann := fun _ => none
set_option maxRecDepth 1000000 in
theorem T.eq31 (a : Sl) (w : World) (K : Sl → World → Prop) : denF Tryz.prog T.C31 T.A31 Tryz.f31 [.slice a.a a.l a.c] w (fun v w' => match v with | .slice r0a r0l r0c => K ⟨r0a, r0l, r0c⟩ w' | _ => False) = S.towerexact_copyBytes a w K := by kernel_rfl
theorem T.CO31 : CallOk Tryz.prog T.C31 := CallOk.nil
def T.c31 (vs : List Value) (w : World) (K : Value → World → Prop) : Prop :=
  match vs with
  | [.slice aa al ac] => S.towerexact_copyBytes ⟨aa, al, ac⟩ w (fun r0 w' => K (.slice r0.a r0.l r0.c) w')
  | _ => False
theorem T.ok31 : ∀ vs w K, T.c31 vs w K → (callFunc 31 vs.toArray).run Tryz.prog w = .ok (.enter 31 vs.toArray) w ∧ Calls Tryz.prog 31 vs.toArray w fun e w' => ∃ v, e = .returned v ∧ K v w' := by
  intro vs w K h
  unfold T.c31 at h
  split at h
  · refine ⟨Tryz.call31 _ _, ok_of T.CO31 mixed Tryz.func31 (T.eq31 _ _ _) h fun v w' hk => ⟨v, rfl, ?_⟩⟩
    split at hk
    · exact hk
    · exact hk.elim
  · exact h.elim

/-- e2e/towerexact.executed (function 12). -/
def S.towerexact_executed (v : Nat) (c : Sl) (src : ByteArray) (mine : Sl) (fuel : Int) (w : World) (K : Int → Int → Int → Int → Sl → Int → Bool → World → Prop) : Prop :=
  New w (.cells #[.int .i64 0, .int .i64 0, .int .i64 0, .int .i64 0, .slice none 0 0, .int .i64 0] 31) fun p1 w =>
  S.towerexact_copyInts mine w (fun r2 w =>
  S.towerexact_copyBytes c w (fun r3 w =>
  S.vm_VM_Run v c mine fuel w (fun Err_4 Pos_5 End_6 Ret_7 Out_8 Fuel_9 w =>
  New w (.cells #[.int .i64 0, .int .i64 0, .int .i64 0, .int .i64 0, .slice none 0 0, .int .i64 0] 31) fun p10 w =>
  St1 w ⟨p10, 0, none⟩ (.int .i64 Err_4) fun w =>
  St1 w ⟨p10, 1, none⟩ (.int .i64 Pos_5) fun w =>
  St1 w ⟨p10, 2, none⟩ (.int .i64 End_6) fun w =>
  St1 w ⟨p10, 3, none⟩ (.int .i64 Ret_7) fun w =>
  St1 w ⟨p10, 4, none⟩ (.slice Out_8.a Out_8.l Out_8.c) fun w =>
  St1 w ⟨p10, 5, none⟩ (.int .i64 Fuel_9) fun w =>
  S.genm_New w (fun r11 w =>
  S.genm_Engine_Run r11 src r2 fuel w (fun Err_12 Pos_13 End_14 Ret_15 Out_16 Fuel_17 w =>
  New w (.cells #[.int .i64 0, .int .i64 0, .int .i64 0, .int .i64 0, .slice none 0 0, .int .i64 0] 31) fun p18 w =>
  St1 w ⟨p18, 0, none⟩ (.int .i64 Err_12) fun w =>
  St1 w ⟨p18, 1, none⟩ (.int .i64 Pos_13) fun w =>
  St1 w ⟨p18, 2, none⟩ (.int .i64 End_14) fun w =>
  St1 w ⟨p18, 3, none⟩ (.int .i64 Ret_15) fun w =>
  St1 w ⟨p18, 4, none⟩ (.slice Out_16.a Out_16.l Out_16.c) fun w =>
  St1 w ⟨p18, 5, none⟩ (.int .i64 Fuel_17) fun w =>
  Drew w fun w =>
  Hold w ⟨p10, 0, none⟩ 6 fun R19 =>
  LdI .i64 w ⟨p10, 0, none⟩ fun Err_20 =>
  LdI .i64 w ⟨p10, 1, none⟩ fun Pos_21 =>
  LdI .i64 w ⟨p10, 2, none⟩ fun End_22 =>
  LdI .i64 w ⟨p10, 3, none⟩ fun Ret_23 =>
  LdS w ⟨p10, 4, none⟩ fun Out_24 =>
  LdI .i64 w ⟨p10, 5, none⟩ fun Fuel_25 =>
  LdI .i64 w ⟨p10, 0, none⟩ fun Err_26 =>
  LdI .i64 w ⟨p10, 1, none⟩ fun Pos_27 =>
  LdI .i64 w ⟨p10, 2, none⟩ fun End_28 =>
  LdI .i64 w ⟨p10, 3, none⟩ fun Ret_29 =>
  LdS w ⟨p10, 4, none⟩ fun Out_30 =>
  LdI .i64 w ⟨p10, 5, none⟩ fun Fuel_31 =>
  LdI .i64 w ⟨p18, 0, none⟩ fun Err_32 =>
  LdI .i64 w ⟨p18, 1, none⟩ fun Pos_33 =>
  LdI .i64 w ⟨p18, 2, none⟩ fun End_34 =>
  LdI .i64 w ⟨p18, 3, none⟩ fun Ret_35 =>
  LdS w ⟨p18, 4, none⟩ fun Out_36 =>
  LdI .i64 w ⟨p18, 5, none⟩ fun Fuel_37 =>
  S.towerexact_same Err_26 Pos_27 End_28 Ret_29 Out_30 Fuel_31 Err_32 Pos_33 End_34 Ret_35 Out_36 Fuel_37 w (fun r38 w =>
  After R19 w <|
  if r38 = true then
    S.towerexact_sameInts mine r2 w (fun r39 w =>
    After R19 w <|
    if r39 = true then
      S.towerexact_sameBytes c r3 w (fun r40 w =>
      After R19 w <|
      if r40 = true then
        LdS w ⟨p10, 4, none⟩ fun Out_41 =>
        S.towerexact_tidy Out_41 w (fun r42 w =>
        After R19 w <|
        St1 w ⟨p1, 0, none⟩ (.int .i64 Err_20) fun w =>
        St1 w ⟨p1, 1, none⟩ (.int .i64 Pos_21) fun w =>
        St1 w ⟨p1, 2, none⟩ (.int .i64 End_22) fun w =>
        St1 w ⟨p1, 3, none⟩ (.int .i64 Ret_23) fun w =>
        St1 w ⟨p1, 4, none⟩ (.slice Out_24.a Out_24.l Out_24.c) fun w =>
        St1 w ⟨p1, 5, none⟩ (.int .i64 Fuel_25) fun w =>
        LdI .i64 w ⟨p1, 0, none⟩ fun Err_43 =>
        LdI .i64 w ⟨p1, 1, none⟩ fun Pos_44 =>
        LdI .i64 w ⟨p1, 2, none⟩ fun End_45 =>
        LdI .i64 w ⟨p1, 3, none⟩ fun Ret_46 =>
        LdS w ⟨p1, 4, none⟩ fun Out_47 =>
        LdI .i64 w ⟨p1, 5, none⟩ fun Fuel_48 =>
        K Err_43 Pos_44 End_45 Ret_46 Out_47 Fuel_48 r42 w)
      else
        After R19 w <|
        St1 w ⟨p1, 0, none⟩ (.int .i64 Err_20) fun w =>
        St1 w ⟨p1, 1, none⟩ (.int .i64 Pos_21) fun w =>
        St1 w ⟨p1, 2, none⟩ (.int .i64 End_22) fun w =>
        St1 w ⟨p1, 3, none⟩ (.int .i64 Ret_23) fun w =>
        St1 w ⟨p1, 4, none⟩ (.slice Out_24.a Out_24.l Out_24.c) fun w =>
        St1 w ⟨p1, 5, none⟩ (.int .i64 Fuel_25) fun w =>
        LdI .i64 w ⟨p1, 0, none⟩ fun Err_49 =>
        LdI .i64 w ⟨p1, 1, none⟩ fun Pos_50 =>
        LdI .i64 w ⟨p1, 2, none⟩ fun End_51 =>
        LdI .i64 w ⟨p1, 3, none⟩ fun Ret_52 =>
        LdS w ⟨p1, 4, none⟩ fun Out_53 =>
        LdI .i64 w ⟨p1, 5, none⟩ fun Fuel_54 =>
        K Err_49 Pos_50 End_51 Ret_52 Out_53 Fuel_54 false w)
    else
      After R19 w <|
      After R19 w <|
      St1 w ⟨p1, 0, none⟩ (.int .i64 Err_20) fun w =>
      St1 w ⟨p1, 1, none⟩ (.int .i64 Pos_21) fun w =>
      St1 w ⟨p1, 2, none⟩ (.int .i64 End_22) fun w =>
      St1 w ⟨p1, 3, none⟩ (.int .i64 Ret_23) fun w =>
      St1 w ⟨p1, 4, none⟩ (.slice Out_24.a Out_24.l Out_24.c) fun w =>
      St1 w ⟨p1, 5, none⟩ (.int .i64 Fuel_25) fun w =>
      LdI .i64 w ⟨p1, 0, none⟩ fun Err_55 =>
      LdI .i64 w ⟨p1, 1, none⟩ fun Pos_56 =>
      LdI .i64 w ⟨p1, 2, none⟩ fun End_57 =>
      LdI .i64 w ⟨p1, 3, none⟩ fun Ret_58 =>
      LdS w ⟨p1, 4, none⟩ fun Out_59 =>
      LdI .i64 w ⟨p1, 5, none⟩ fun Fuel_60 =>
      K Err_55 Pos_56 End_57 Ret_58 Out_59 Fuel_60 false w)
  else
    After R19 w <|
    After R19 w <|
    After R19 w <|
    St1 w ⟨p1, 0, none⟩ (.int .i64 Err_20) fun w =>
    St1 w ⟨p1, 1, none⟩ (.int .i64 Pos_21) fun w =>
    St1 w ⟨p1, 2, none⟩ (.int .i64 End_22) fun w =>
    St1 w ⟨p1, 3, none⟩ (.int .i64 Ret_23) fun w =>
    St1 w ⟨p1, 4, none⟩ (.slice Out_24.a Out_24.l Out_24.c) fun w =>
    St1 w ⟨p1, 5, none⟩ (.int .i64 Fuel_25) fun w =>
    LdI .i64 w ⟨p1, 0, none⟩ fun Err_61 =>
    LdI .i64 w ⟨p1, 1, none⟩ fun Pos_62 =>
    LdI .i64 w ⟨p1, 2, none⟩ fun End_63 =>
    LdI .i64 w ⟨p1, 3, none⟩ fun Ret_64 =>
    LdS w ⟨p1, 4, none⟩ fun Out_65 =>
    LdI .i64 w ⟨p1, 5, none⟩ fun Fuel_66 =>
    K Err_61 Pos_62 End_63 Ret_64 Out_65 Fuel_66 false w))))))
def T.C12 : CallT := (CallT.cons 8 T.c8 (CallT.cons 31 T.c31 (CallT.cons 32 T.c32 (CallT.cons 7 T.c7 (CallT.cons 24 T.c24 (CallT.cons 25 T.c25 (CallT.cons 14 T.c14 (CallT.cons 28 T.c28 (CallT.cons 26 T.c26 CallT.nil)))))))))
def T.A12 : Ann := fun _ => none
set_option maxRecDepth 1000000 in
theorem T.eq12 (v : Nat) (c : Sl) (src : ByteArray) (mine : Sl) (fuel : Int) (w : World) (K : Int → Int → Int → Int → Sl → Int → Bool → World → Prop) : denF Tryz.prog T.C12 T.A12 Tryz.f12 [.pointer (some ⟨v, 0, none⟩), .slice c.a c.l c.c, .string src, .slice mine.a mine.l mine.c, .int .i64 fuel] w (fun v w' => match v with | .tuple ⟨[.agg ⟨[.int .i64 r0, .int .i64 r1, .int .i64 r2, .int .i64 r3, .slice r4a r4l r4c, .int .i64 r5]⟩, .bool r6]⟩ => K r0 r1 r2 r3 ⟨r4a, r4l, r4c⟩ r5 r6 w' | _ => False) = S.towerexact_executed v c src mine fuel w K := by kernel_rfl
theorem T.CO12 : CallOk Tryz.prog T.C12 := (CallOk.cons 8 T.ok8 (CallOk.cons 31 T.ok31 (CallOk.cons 32 T.ok32 (CallOk.cons 7 T.ok7 (CallOk.cons 24 T.ok24 (CallOk.cons 25 T.ok25 (CallOk.cons 14 T.ok14 (CallOk.cons 28 T.ok28 (CallOk.cons 26 T.ok26 CallOk.nil)))))))))
def T.c12 (vs : List Value) (w : World) (K : Value → World → Prop) : Prop :=
  match vs with
  | [.pointer (some ⟨v, 0, none⟩), .slice ca cl cc, .string src, .slice minea minel minec, .int .i64 fuel] => S.towerexact_executed v ⟨ca, cl, cc⟩ src ⟨minea, minel, minec⟩ fuel w (fun r0 r1 r2 r3 r4 r5 r6 w' => K (.tuple #[.agg #[.int .i64 r0, .int .i64 r1, .int .i64 r2, .int .i64 r3, .slice r4.a r4.l r4.c, .int .i64 r5], .bool r6]) w')
  | _ => False
theorem T.ok12 : ∀ vs w K, T.c12 vs w K → (callFunc 12 vs.toArray).run Tryz.prog w = .ok (.enter 12 vs.toArray) w ∧ Calls Tryz.prog 12 vs.toArray w fun e w' => ∃ v, e = .returned v ∧ K v w' := by
  intro vs w K h
  unfold T.c12 at h
  split at h
  · refine ⟨Tryz.call12 _ _, ok_of T.CO12 mixed Tryz.func12 (T.eq12 _ _ _ _ _ _ _) h fun v w' hk => ⟨v, rfl, ?_⟩⟩
    split at hk
    · exact hk
    · exact hk.elim
  · exact h.elim

/-- e2e/towerexact.Raw (function 3). -/
def S.towerexact_Raw (src : ByteArray) (list : Sl) (n : Int) (fuel : Int) (w : World) (K : Bool → World → Prop) : Prop :=
  if (decide ((src.size : Int) > 1073741824)) = true then
    K true w
  else
    if (decide ((list.l : Int) > 1073741824)) = true then
      K true w
    else
      S.towerexact_pick n (W ((list.l : Int) + 1)) w (fun r1 w =>
      CutS 1 list 0 r1 (list.c : Int) fun l2 =>
      S.tower_New w (fun r3 w =>
      S.genm_New w (fun r4 w =>
      S.towerexact_copyInts list w (fun r5 w =>
      S.towerexact_ran r3 r4 src r5 0 r1 (W ((r5.l : Int) - r1)) fuel w (fun Err_6 Pos_7 End_8 Ret_9 Out_10 Fuel_11 r12 w =>
      New w (.cells #[.int .i64 0, .int .i64 0, .int .i64 0, .int .i64 0, .slice none 0 0, .int .i64 0] 31) fun p13 w =>
      St1 w ⟨p13, 0, none⟩ (.int .i64 Err_6) fun w =>
      St1 w ⟨p13, 1, none⟩ (.int .i64 Pos_7) fun w =>
      St1 w ⟨p13, 2, none⟩ (.int .i64 End_8) fun w =>
      St1 w ⟨p13, 3, none⟩ (.int .i64 Ret_9) fun w =>
      St1 w ⟨p13, 4, none⟩ (.slice Out_10.a Out_10.l Out_10.c) fun w =>
      St1 w ⟨p13, 5, none⟩ (.int .i64 Fuel_11) fun w =>
      if (!r12) = true then
        K false w
      else
        S.tower_New w (fun r14 w =>
        S.towerexact_compiled r14 src w (fun r15 r16 r17 w =>
        if (!r17) = true then
          K r17 w
        else
          if (!r16) = true then
            K r17 w
          else
            S.tower_Machine w (fun r18 w =>
            S.towerexact_copyInts list w (fun r19 w =>
            S.towerexact_short l2 w (fun r20 w =>
            CutS 1 r19 0 (r20.l : Int) (r19.c : Int) fun l21 =>
            S.towerexact_executed r18 r15 src l21 fuel w (fun Err_22 Pos_23 End_24 Ret_25 Out_26 Fuel_27 r28 w =>
            if r28 = true then
              S.towerexact_sameInts r19 list w (fun r29 w =>
              K r29 w)
            else
              K false w)))))))))))
def T.C3 : CallT := (CallT.cons 5 T.c5 (CallT.cons 6 T.c6 (CallT.cons 7 T.c7 (CallT.cons 8 T.c8 (CallT.cons 9 T.c9 (CallT.cons 10 T.c10 (CallT.cons 11 T.c11 (CallT.cons 13 T.c13 (CallT.cons 12 T.c12 (CallT.cons 14 T.c14 CallT.nil))))))))))
def T.A3 : Ann := fun _ => none
set_option maxRecDepth 1000000 in
theorem T.eq3 (src : ByteArray) (list : Sl) (n : Int) (fuel : Int) (w : World) (K : Bool → World → Prop) : denF Tryz.prog T.C3 T.A3 Tryz.f3 [.string src, .slice list.a list.l list.c, .int .i64 n, .int .i64 fuel] w (fun v w' => match v with | .bool r0 => K r0 w' | _ => False) = S.towerexact_Raw src list n fuel w K := by kernel_rfl
theorem T.CO3 : CallOk Tryz.prog T.C3 := (CallOk.cons 5 T.ok5 (CallOk.cons 6 T.ok6 (CallOk.cons 7 T.ok7 (CallOk.cons 8 T.ok8 (CallOk.cons 9 T.ok9 (CallOk.cons 10 T.ok10 (CallOk.cons 11 T.ok11 (CallOk.cons 13 T.ok13 (CallOk.cons 12 T.ok12 (CallOk.cons 14 T.ok14 CallOk.nil))))))))))
def T.c3 (vs : List Value) (w : World) (K : Value → World → Prop) : Prop :=
  match vs with
  | [.string src, .slice lista listl listc, .int .i64 n, .int .i64 fuel] => S.towerexact_Raw src ⟨lista, listl, listc⟩ n fuel w (fun r0 w' => K (.bool r0) w')
  | _ => False
theorem T.ok3 : ∀ vs w K, T.c3 vs w K → (callFunc 3 vs.toArray).run Tryz.prog w = .ok (.enter 3 vs.toArray) w ∧ Calls Tryz.prog 3 vs.toArray w fun e w' => ∃ v, e = .returned v ∧ K v w' := by
  intro vs w K h
  unfold T.c3 at h
  split at h
  · refine ⟨Tryz.call3 _ _, ok_of T.CO3 mixed Tryz.func3 (T.eq3 _ _ _ _ _ _) h fun v w' hk => ⟨v, rfl, ?_⟩⟩
    split at hk
    · exact hk
    · exact hk.elim
  · exact h.elim

/-- e2e/towerexact.small (function 15). -/
def S.towerexact_small (script : Sl) (w : World) (K : Bool → World → Prop) : Prop :=
  if (decide ((script.l : Int) > 1073741824)) = true then
    K false w
  else
    Let (script.l : Int) fun n_1 =>
    LoopP (σ := Int × Int × Unit) (fun st2 w next3 =>
      if (decide (st2.2.1 < (script.l : Int))) = true then
        Drew w fun w =>
        Ix script.a script.l st2.2.1 fun b4 o5 =>
        LdStr w ⟨b4, o5 + Int.toNat st2.2.1 * 6 + 4, none⟩ fun S_6 =>
        Ix script.a script.l st2.2.1 fun b7 o8 =>
        LdStr w ⟨b7, o8 + Int.toNat st2.2.1 * 6 + 5, none⟩ fun T_9 =>
        Let (W ((W (st2.1 + (S_6.size : Int))) + (T_9.size : Int))) fun n_10 =>
        if (decide (n_10 > 1073741824)) = true then
          K false w
        else
          Let (W (st2.2.1 + 1)) fun i_11 =>
          next3 (n_10, i_11, ()) w
      else
        K true w) (n_1, 0, ()) w
def T.C15 : CallT := CallT.nil
def T.A15 : Ann := fun i => bif Nat.beq i 5 then some ([0], [(3, 0), (4, 0)]) else none
set_option maxRecDepth 1000000 in
theorem T.eq15 (script : Sl) (w : World) (K : Bool → World → Prop) : denF Tryz.prog T.C15 T.A15 Tryz.f15 [.slice script.a script.l script.c] w (fun v w' => match v with | .bool r0 => K r0 w' | _ => False) = S.towerexact_small script w K := by kernel_rfl
theorem T.CO15 : CallOk Tryz.prog T.C15 := CallOk.nil
def T.c15 (vs : List Value) (w : World) (K : Value → World → Prop) : Prop :=
  match vs with
  | [.slice scripta scriptl scriptc] => S.towerexact_small ⟨scripta, scriptl, scriptc⟩ w (fun r0 w' => K (.bool r0) w')
  | _ => False
theorem T.ok15 : ∀ vs w K, T.c15 vs w K → (callFunc 15 vs.toArray).run Tryz.prog w = .ok (.enter 15 vs.toArray) w ∧ Calls Tryz.prog 15 vs.toArray w fun e w' => ∃ v, e = .returned v ∧ K v w' := by
  intro vs w K h
  unfold T.c15 at h
  split at h
  · refine ⟨Tryz.call15 _ _, ok_of T.CO15 mixed Tryz.func15 (T.eq15 _ _ _) h fun v w' hk => ⟨v, rfl, ?_⟩⟩
    split at hk
    · exact hk
    · exact hk.elim
  · exact h.elim

/-- (*e2e/gen.Engine).starts (function 96). -/
def S.gen_Engine_starts (g : Nat) (w : World) (K : Sl → Bool → World → Prop) : Prop :=
  LdS w ⟨g, 12, none⟩ fun code_1 =>
  MkS 4 [.bool false] 1 w (code_1.l : Int) (code_1.l : Int) fun l2 w =>
  Join (fun (w : World) =>
    K l2 true w) fun J3 =>
  LoopP (σ := Int × Unit) (fun st4 w next5 =>
    LdS w ⟨g, 12, none⟩ fun code_6 =>
    if (decide (st4.1 < (code_6.l : Int))) = true then
      LdS w ⟨g, 12, none⟩ fun code_7 =>
      Ix code_7.a code_7.l st4.1 fun b8 o9 =>
      LdI .u8 w ⟨b8, o9 + Int.toNat st4.1 * 1, none⟩ fun x_10 =>
      S.api_OpArgs (W x_10) w (fun r11 w =>
      if (decide (r11 < 0)) = true then
        K ⟨none, 0, 0⟩ false w
      else
        LdS w ⟨g, 12, none⟩ fun code_12 =>
        if (decide ((W ((W (st4.1 + 1)) + r11)) > (code_12.l : Int))) = true then
          K ⟨none, 0, 0⟩ false w
        else
          Ix l2.a l2.l st4.1 fun b13 o14 =>
          St1 w ⟨b13, o14 + Int.toNat st4.1 * 1, none⟩ (.bool true) fun w =>
          Let (W ((W (st4.1 + 1)) + r11)) fun pc_15 =>
          next5 (pc_15, ()) w)
    else
      J3 w) (0, ()) w
def T.C96 : CallT := (CallT.cons 76 T.c76 CallT.nil)
def T.A96 : Ann := fun i => bif Nat.beq i 3 then some ([0, 4], [(5, 0)]) else none
set_option maxRecDepth 1000000 in
theorem T.eq96 (g : Nat) (w : World) (K : Sl → Bool → World → Prop) : denF Tryz.prog T.C96 T.A96 Tryz.f96 [.pointer (some ⟨g, 0, none⟩)] w (fun v w' => match v with | .tuple ⟨[.slice r0a r0l r0c, .bool r1]⟩ => K ⟨r0a, r0l, r0c⟩ r1 w' | _ => False) = S.gen_Engine_starts g w K := by kernel_rfl
theorem T.CO96 : CallOk Tryz.prog T.C96 := (CallOk.cons 76 T.ok76 CallOk.nil)
def T.c96 (vs : List Value) (w : World) (K : Value → World → Prop) : Prop :=
  match vs with
  | [.pointer (some ⟨g, 0, none⟩)] => S.gen_Engine_starts g w (fun r0 r1 w' => K (.tuple #[.slice r0.a r0.l r0.c, .bool r1]) w')
  | _ => False
theorem T.ok96 : ∀ vs w K, T.c96 vs w K → (callFunc 96 vs.toArray).run Tryz.prog w = .ok (.enter 96 vs.toArray) w ∧ Calls Tryz.prog 96 vs.toArray w fun e w' => ∃ v, e = .returned v ∧ K v w' := by
  intro vs w K h
  unfold T.c96 at h
  split at h
  · refine ⟨Tryz.call96 _ _, ok_of T.CO96 mixed Tryz.func96 (T.eq96 _ _ _) h fun v w' hk => ⟨v, rfl, ?_⟩⟩
    split at hk
    · exact hk
    · exact hk.elim
  · exact h.elim

/-- e2e/gen.lands (function 138). -/
def S.gen_lands (at_ : Sl) (to_ : Int) (w : World) (K : Bool → World → Prop) : Prop :=
  if (decide (to_ ≥ 0)) = true then
    if (decide (to_ < (at_.l : Int))) = true then
      Ix at_.a at_.l to_ fun b1 o2 =>
      LdB w ⟨b1, o2 + Int.toNat to_ * 1, none⟩ fun x_3 =>
      K x_3 w
    else
      K false w
  else
    K false w
def T.C138 : CallT := CallT.nil
def T.A138 : Ann := fun _ => none
set_option maxRecDepth 1000000 in
theorem T.eq138 (at_ : Sl) (to_ : Int) (w : World) (K : Bool → World → Prop) : denF Tryz.prog T.C138 T.A138 Tryz.f138 [.slice at_.a at_.l at_.c, .int .i64 to_] w (fun v w' => match v with | .bool r0 => K r0 w' | _ => False) = S.gen_lands at_ to_ w K := by kernel_rfl
theorem T.CO138 : CallOk Tryz.prog T.C138 := CallOk.nil
def T.c138 (vs : List Value) (w : World) (K : Value → World → Prop) : Prop :=
  match vs with
  | [.slice at_a at_l at_c, .int .i64 to_] => S.gen_lands ⟨at_a, at_l, at_c⟩ to_ w (fun r0 w' => K (.bool r0) w')
  | _ => False
theorem T.ok138 : ∀ vs w K, T.c138 vs w K → (callFunc 138 vs.toArray).run Tryz.prog w = .ok (.enter 138 vs.toArray) w ∧ Calls Tryz.prog 138 vs.toArray w fun e w' => ∃ v, e = .returned v ∧ K v w' := by
  intro vs w K h
  unfold T.c138 at h
  split at h
  · refine ⟨Tryz.call138 _ _, ok_of T.CO138 mixed Tryz.func138 (T.eq138 _ _ _ _) h fun v w' hk => ⟨v, rfl, ?_⟩⟩
    split at hk
    · exact hk
    · exact hk.elim
  · exact h.elim

/-- (*e2e/gen.Engine).jumpsFine (function 97). -/
def S.gen_Engine_jumpsFine (g : Nat) (at_ : Sl) (w : World) (K : Bool → World → Prop) : Prop :=
  LoopP (σ := Int × Unit) (fun st1 w next2 =>
    LdS w ⟨g, 12, none⟩ fun code_3 =>
    if (decide (st1.1 < (code_3.l : Int))) = true then
      Join (fun (w : World) =>
        Let (W (st1.1 + 1)) fun pc_4 =>
        next2 (pc_4, ()) w) fun J5 =>
      Ix at_.a at_.l st1.1 fun b6 o7 =>
      LdB w ⟨b6, o7 + Int.toNat st1.1 * 1, none⟩ fun x_8 =>
      if x_8 = true then
        LdS w ⟨g, 12, none⟩ fun code_9 =>
        S.api_U16At code_9 (W (st1.1 + 1)) w (fun r10 w =>
        LdS w ⟨g, 12, none⟩ fun code_11 =>
        Ix code_11.a code_11.l st1.1 fun b12 o13 =>
        LdI .u8 w ⟨b12, o13 + Int.toNat st1.1 * 1, none⟩ fun x_14 =>
        Join (fun (j_15 : Bool) (w : World) =>
          if j_15 = true then
            if (decide (r10 ≤ st1.1)) = true then
              K false w
            else
              S.gen_lands at_ r10 w (fun r16 w =>
              if (!r16) = true then
                K false w
              else
                J5 w)
          else
            if ((W x_14) == 21) = true then
              S.gen_lands at_ r10 w (fun r17 w =>
              if (!r17) = true then
                K false w
              else
                J5 w)
            else
              if ((W x_14) == 24) = true then
                S.gen_lands at_ r10 w (fun r18 w =>
                if (!r18) = true then
                  K false w
                else
                  LdS w ⟨g, 12, none⟩ fun code_19 =>
                  Ix code_19.a code_19.l r10 fun b20 o21 =>
                  LdI .u8 w ⟨b20, o21 + Int.toNat r10 * 1, none⟩ fun x_22 =>
                  if ((W x_22) != 25) = true then
                    K false w
                  else
                    J5 w)
              else
                J5 w) fun J23 =>
        if ((W x_14) == 22) = true then
          J23 ((W x_14) == 22) w
        else
          J23 ((W x_14) == 23) w)
      else
        J5 w
    else
      K true w) (0, ()) w
def T.C97 : CallT := (CallT.cons 87 T.c87 (CallT.cons 138 T.c138 CallT.nil))
def T.A97 : Ann := fun i => bif Nat.beq i 1000014 then some ([], [(0, 5), (1, 6), (5, 0), (6, 0), (34, 0)]) else bif Nat.beq i 1000011 then some ([], [(0, 5), (1, 6), (5, 0), (6, 0), (34, 0)]) else bif Nat.beq i 2 then some ([0, 1], [(5, 0)]) else none
set_option maxRecDepth 1000000 in
theorem T.eq97 (g : Nat) (at_ : Sl) (w : World) (K : Bool → World → Prop) : denF Tryz.prog T.C97 T.A97 Tryz.f97 [.pointer (some ⟨g, 0, none⟩), .slice at_.a at_.l at_.c] w (fun v w' => match v with | .bool r0 => K r0 w' | _ => False) = S.gen_Engine_jumpsFine g at_ w K := by kernel_rfl
theorem T.CO97 : CallOk Tryz.prog T.C97 := (CallOk.cons 87 T.ok87 (CallOk.cons 138 T.ok138 CallOk.nil))
def T.c97 (vs : List Value) (w : World) (K : Value → World → Prop) : Prop :=
  match vs with
  | [.pointer (some ⟨g, 0, none⟩), .slice at_a at_l at_c] => S.gen_Engine_jumpsFine g ⟨at_a, at_l, at_c⟩ w (fun r0 w' => K (.bool r0) w')
  | _ => False
theorem T.ok97 : ∀ vs w K, T.c97 vs w K → (callFunc 97 vs.toArray).run Tryz.prog w = .ok (.enter 97 vs.toArray) w ∧ Calls Tryz.prog 97 vs.toArray w fun e w' => ∃ v, e = .returned v ∧ K v w' := by
  intro vs w K h
  unfold T.c97 at h
  split at h
  · refine ⟨Tryz.call97 _ _, ok_of T.CO97 mixed Tryz.func97 (T.eq97 _ _ _ _) h fun v w' hk => ⟨v, rfl, ?_⟩⟩
    split at hk
    · exact hk
    · exact hk.elim
  · exact h.elim

/-- (*e2e/gen.Engine).tablesFine (function 98). -/
def S.gen_Engine_tablesFine (g : Nat) (at_ : Sl) (w : World) (K : Bool → World → Prop) : Prop :=
  LdS w ⟨g, 15, none⟩ fun entry_1 =>
  Let ((entry_1.l : Int) == 0) fun zero_2 =>
  Join (fun (zero_3 : Bool) (w : World) =>
    LoopP (σ := Int × Unit) (fun st4 w next5 =>
      LdS w ⟨g, 14, none⟩ fun calls_6 =>
      if (decide (st4.1 < (calls_6.l : Int))) = true then
        LdS w ⟨g, 14, none⟩ fun calls_7 =>
        Ix calls_7.a calls_7.l st4.1 fun b8 o9 =>
        LdI .i64 w ⟨b8, o9 + Int.toNat st4.1 * 2, none⟩ fun hole_10 =>
        LdI .i64 w ⟨b8, o9 + Int.toNat st4.1 * 2 + 1, none⟩ fun fn_11 =>
        New w (.cells #[.int .i64 0, .int .i64 0] 144) fun p12 w =>
        St1 w ⟨p12, 0, none⟩ (.int .i64 hole_10) fun w =>
        St1 w ⟨p12, 1, none⟩ (.int .i64 fn_11) fun w =>
        Drew w fun w =>
        LdI .i64 w ⟨p12, 1, none⟩ fun fn_13 =>
        if (decide (fn_13 < 0)) = true then
          K false w
        else
          LdI .i64 w ⟨p12, 1, none⟩ fun fn_14 =>
          LdS w ⟨g, 15, none⟩ fun entry_15 =>
          if (decide (fn_14 ≥ (entry_15.l : Int))) = true then
            K false w
          else
            LdI .i64 w ⟨p12, 0, none⟩ fun hole_16 =>
            S.gen_lands at_ (W (hole_16 - 1)) w (fun r17 w =>
            if (!r17) = true then
              K false w
            else
              Drew w fun w =>
              LdS w ⟨g, 12, none⟩ fun code_18 =>
              LdI .i64 w ⟨p12, 0, none⟩ fun hole_19 =>
              Ix code_18.a code_18.l (W (hole_19 - 1)) fun b20 o21 =>
              LdI .u8 w ⟨b20, o21 + Int.toNat (W (hole_19 - 1)) * 1, none⟩ fun x_22 =>
              if ((W x_22) != 24) = true then
                K false w
              else
                LdS w ⟨g, 12, none⟩ fun code_23 =>
                LdI .i64 w ⟨p12, 0, none⟩ fun hole_24 =>
                Hold w ⟨g, 15, none⟩ 1 fun R25 =>
                LdS w ⟨g, 15, none⟩ fun entry_26 =>
                Hold w ⟨p12, 1, none⟩ 1 fun R27 =>
                LdI .i64 w ⟨p12, 1, none⟩ fun fn_28 =>
                Ix entry_26.a entry_26.l fn_28 fun b29 o30 =>
                Hold w ⟨b29, o30 + Int.toNat fn_28 * 1, none⟩ 1 fun R31 =>
                LdI .i64 w ⟨b29, o30 + Int.toNat fn_28 * 1, none⟩ fun x_32 =>
                S.api_U16At code_23 hole_24 w (fun r33 w =>
                After R31 w <|
                After R27 w <|
                After R25 w <|
                if (r33 != x_32) = true then
                  K false w
                else
                  Let (W (st4.1 + 1)) fun k_34 =>
                  next5 (k_34, ()) w))
      else
        K zero_3 w) (0, ()) w) fun J35 =>
  LoopP (σ := Bool × Int × Unit) (fun st36 w next37 =>
    LdS w ⟨g, 15, none⟩ fun entry_38 =>
    if (decide (st36.2.1 < (entry_38.l : Int))) = true then
      LdS w ⟨g, 15, none⟩ fun entry_39 =>
      Ix entry_39.a entry_39.l st36.2.1 fun b40 o41 =>
      LdI .i64 w ⟨b40, o41 + Int.toNat st36.2.1 * 1, none⟩ fun x_42 =>
      S.gen_lands at_ x_42 w (fun r43 w =>
      if (!r43) = true then
        K false w
      else
        LdS w ⟨g, 12, none⟩ fun code_44 =>
        Ix code_44.a code_44.l x_42 fun b45 o46 =>
        LdI .u8 w ⟨b45, o46 + Int.toNat x_42 * 1, none⟩ fun x_47 =>
        if ((W x_47) != 25) = true then
          K false w
        else
          Join (fun (zero_48 : Bool) (w : World) =>
            Let (W (st36.2.1 + 1)) fun i_49 =>
            next37 (zero_48, i_49, ()) w) fun J50 =>
          if st36.1 = true then
            J50 true w
          else
            Let (x_42 == 0) fun zero_51 =>
            J50 zero_51 w)
    else
      J35 st36.1 w) (zero_2, 0, ()) w
def T.C98 : CallT := (CallT.cons 138 T.c138 (CallT.cons 87 T.c87 CallT.nil))
def T.A98 : Ann := fun i => bif Nat.beq i 3 then some ([0, 1], [(5, 3), (6, 0)]) else bif Nat.beq i 10 then some ([0, 1, 5], [(8, 0)]) else none
set_option maxRecDepth 1000000 in
theorem T.eq98 (g : Nat) (at_ : Sl) (w : World) (K : Bool → World → Prop) : denF Tryz.prog T.C98 T.A98 Tryz.f98 [.pointer (some ⟨g, 0, none⟩), .slice at_.a at_.l at_.c] w (fun v w' => match v with | .bool r0 => K r0 w' | _ => False) = S.gen_Engine_tablesFine g at_ w K := by kernel_rfl
theorem T.CO98 : CallOk Tryz.prog T.C98 := (CallOk.cons 138 T.ok138 (CallOk.cons 87 T.ok87 CallOk.nil))
def T.c98 (vs : List Value) (w : World) (K : Value → World → Prop) : Prop :=
  match vs with
  | [.pointer (some ⟨g, 0, none⟩), .slice at_a at_l at_c] => S.gen_Engine_tablesFine g ⟨at_a, at_l, at_c⟩ w (fun r0 w' => K (.bool r0) w')
  | _ => False
theorem T.ok98 : ∀ vs w K, T.c98 vs w K → (callFunc 98 vs.toArray).run Tryz.prog w = .ok (.enter 98 vs.toArray) w ∧ Calls Tryz.prog 98 vs.toArray w fun e w' => ∃ v, e = .returned v ∧ K v w' := by
  intro vs w K h
  unfold T.c98 at h
  split at h
  · refine ⟨Tryz.call98 _ _, ok_of T.CO98 mixed Tryz.func98 (T.eq98 _ _ _ _) h fun v w' hk => ⟨v, rfl, ?_⟩⟩
    split at hk
    · exact hk
    · exact hk.elim
  · exact h.elim

/-- (*e2e/gen.Engine).Check (function 47). -/
def S.gen_Engine_Check (g : Nat) (w : World) (K : Bool → World → Prop) : Prop :=
  LdS w ⟨g, 13, none⟩ fun holes_1 =>
  if ((holes_1.l : Int) != 0) = true then
    K false w
  else
    LdS w ⟨g, 12, none⟩ fun code_2 =>
    if (decide ((code_2.l : Int) ≥ 65536)) = true then
      K false w
    else
      S.gen_Engine_starts g w (fun r3 r4 w =>
      if (!r4) = true then
        K false w
      else
        S.gen_Engine_jumpsFine g r3 w (fun r5 w =>
        if (!r5) = true then
          K false w
        else
          S.gen_Engine_tablesFine g r3 w (fun r6 w =>
          K r6 w)))
def T.C47 : CallT := (CallT.cons 96 T.c96 (CallT.cons 97 T.c97 (CallT.cons 98 T.c98 CallT.nil)))
def T.A47 : Ann := fun _ => none
set_option maxRecDepth 1000000 in
theorem T.eq47 (g : Nat) (w : World) (K : Bool → World → Prop) : denF Tryz.prog T.C47 T.A47 Tryz.f47 [.pointer (some ⟨g, 0, none⟩)] w (fun v w' => match v with | .bool r0 => K r0 w' | _ => False) = S.gen_Engine_Check g w K := by kernel_rfl
theorem T.CO47 : CallOk Tryz.prog T.C47 := (CallOk.cons 96 T.ok96 (CallOk.cons 97 T.ok97 (CallOk.cons 98 T.ok98 CallOk.nil)))
def T.c47 (vs : List Value) (w : World) (K : Value → World → Prop) : Prop :=
  match vs with
  | [.pointer (some ⟨g, 0, none⟩)] => S.gen_Engine_Check g w (fun r0 w' => K (.bool r0) w')
  | _ => False
theorem T.ok47 : ∀ vs w K, T.c47 vs w K → (callFunc 47 vs.toArray).run Tryz.prog w = .ok (.enter 47 vs.toArray) w ∧ Calls Tryz.prog 47 vs.toArray w fun e w' => ∃ v, e = .returned v ∧ K v w' := by
  intro vs w K h
  unfold T.c47 at h
  split at h
  · refine ⟨Tryz.call47 _ _, ok_of T.CO47 mixed Tryz.func47 (T.eq47 _ _ _) h fun v w' hk => ⟨v, rfl, ?_⟩⟩
    split at hk
    · exact hk
    · exact hk.elim
  · exact h.elim

/-- (*e2e/towerexact.World).step (function 33). -/
def S.towerexact_World_step (w_ : Nat) (o_Kind : Int) (o_A : Int) (o_B : Int) (o_C : Int) (o_S : ByteArray) (o_T : ByteArray) (w : World) (K : Bool → World → Prop) : Prop :=
  New w (.cells #[.int .i64 o_Kind, .int .i64 o_A, .int .i64 o_B, .int .i64 o_C, .string o_S, .string o_T] 70) fun p1 w =>
  LdI .i64 w ⟨p1, 0, none⟩ fun Kind_2 =>
  if (Kind_2 == 1) = true then
    S.tower_New w (fun r3 w =>
    S.genm_New w (fun r4 w =>
    LdS w ⟨w_, 0, none⟩ fun x_5 =>
    New w (.cells #[.pointer (some ⟨r3, 0, none⟩)] 24) fun p6 w =>
    AppS 24 [.pointer none] 8 1 w x_5 ⟨some ⟨p6, 0, none⟩, 1, 1⟩ fun l7 w =>
    St1 w ⟨w_, 0, none⟩ (.slice l7.a l7.l l7.c) fun w =>
    LdS w ⟨w_, 1, none⟩ fun m_8 =>
    New w (.cells #[.pointer (some ⟨r4, 0, none⟩)] 26) fun p9 w =>
    AppS 26 [.pointer none] 8 1 w m_8 ⟨some ⟨p9, 0, none⟩, 1, 1⟩ fun l10 w =>
    St1 w ⟨w_, 1, none⟩ (.slice l10.a l10.l l10.c) fun w =>
    K true w))
  else
    if (Kind_2 == 2) = true then
      S.tower_Machine w (fun r11 w =>
      LdS w ⟨w_, 2, none⟩ fun v_12 =>
      New w (.cells #[.pointer (some ⟨r11, 0, none⟩)] 37) fun p13 w =>
      AppS 37 [.pointer none] 8 1 w v_12 ⟨some ⟨p13, 0, none⟩, 1, 1⟩ fun l14 w =>
      St1 w ⟨w_, 2, none⟩ (.slice l14.a l14.l l14.c) fun w =>
      K true w)
    else
      if (Kind_2 == 3) = true then
        Drew w fun w =>
        Hold w ⟨w_, 3, none⟩ 1 fun R15 =>
        LdS w ⟨w_, 3, none⟩ fun in_16 =>
        LdI .i64 w ⟨p1, 1, none⟩ fun A_17 =>
        New w (.cells #[.int .i64 A_17] 3) fun p18 w =>
        After R15 w <|
        AppS 3 [.int .i64 0] 8 1 w in_16 ⟨some ⟨p18, 0, none⟩, 1, 1⟩ fun l19 w =>
        St1 w ⟨w_, 3, none⟩ (.slice l19.a l19.l l19.c) fun w =>
        K true w
      else
        if (Kind_2 == 4) = true then
          St1 w ⟨w_, 3, none⟩ (.slice none 0 0) fun w =>
          K true w
        else
          if (Kind_2 == 5) = true then
            LdS w ⟨w_, 3, none⟩ fun in_20 =>
            S.towerexact_copyInts in_20 w (fun r21 w =>
            LdS w ⟨w_, 4, none⟩ fun ls_22 =>
            New w (.cells #[.slice r21.a r21.l r21.c] 22) fun p23 w =>
            AppS 22 [.slice none 0 0] 24 1 w ls_22 ⟨some ⟨p23, 0, none⟩, 1, 1⟩ fun l24 w =>
            St1 w ⟨w_, 4, none⟩ (.slice l24.a l24.l l24.c) fun w =>
            Drew w fun w =>
            Hold w ⟨w_, 5, none⟩ 1 fun R25 =>
            LdS w ⟨w_, 5, none⟩ fun lw_26 =>
            S.towerexact_copyInts r21 w (fun r27 w =>
            After R25 w <|
            New w (.cells #[.slice r27.a r27.l r27.c] 22) fun p28 w =>
            After R25 w <|
            AppS 22 [.slice none 0 0] 24 1 w lw_26 ⟨some ⟨p28, 0, none⟩, 1, 1⟩ fun l29 w =>
            St1 w ⟨w_, 5, none⟩ (.slice l29.a l29.l l29.c) fun w =>
            K true w))
          else
            if (Kind_2 == 15) = true then
              LdS w ⟨w_, 4, none⟩ fun ls_30 =>
              New w (.cells #[.slice none 0 0] 22) fun p31 w =>
              AppS 22 [.slice none 0 0] 24 1 w ls_30 ⟨some ⟨p31, 0, none⟩, 1, 1⟩ fun l32 w =>
              St1 w ⟨w_, 4, none⟩ (.slice l32.a l32.l l32.c) fun w =>
              LdS w ⟨w_, 5, none⟩ fun lw_33 =>
              New w (.cells #[.slice none 0 0] 22) fun p34 w =>
              AppS 22 [.slice none 0 0] 24 1 w lw_33 ⟨some ⟨p34, 0, none⟩, 1, 1⟩ fun l35 w =>
              St1 w ⟨w_, 5, none⟩ (.slice l35.a l35.l l35.c) fun w =>
              K true w
            else
              if (Kind_2 == 10) = true then
                LdI .i64 w ⟨p1, 1, none⟩ fun A_36 =>
                St1 w ⟨w_, 8, none⟩ (.int .i64 A_36) fun w =>
                K true w
              else
                if (Kind_2 == 14) = true then
                  LdI .i64 w ⟨p1, 1, none⟩ fun A_37 =>
                  St1 w ⟨w_, 9, none⟩ (.int .i64 A_37) fun w =>
                  LdI .i64 w ⟨p1, 2, none⟩ fun B_38 =>
                  St1 w ⟨w_, 10, none⟩ (.int .i64 B_38) fun w =>
                  LdI .i64 w ⟨p1, 3, none⟩ fun C_39 =>
                  St1 w ⟨w_, 11, none⟩ (.int .i64 C_39) fun w =>
                  K true w
                else
                  if (Kind_2 == 6) = true then
                    LdS w ⟨w_, 4, none⟩ fun ls_40 =>
                    if ((ls_40.l : Int) == 0) = true then
                      K true w
                    else
                      Drew w fun w =>
                      LdI .i64 w ⟨p1, 1, none⟩ fun A_41 =>
                      LdS w ⟨w_, 4, none⟩ fun ls_42 =>
                      S.towerexact_pick A_41 (ls_42.l : Int) w (fun r43 w =>
                      LdS w ⟨w_, 4, none⟩ fun ls_44 =>
                      Ix ls_44.a ls_44.l r43 fun b45 o46 =>
                      LdS w ⟨b45, o46 + Int.toNat r43 * 1, none⟩ fun x_47 =>
                      if (decide ((x_47.l : Int) > 0)) = true then
                        LdI .i64 w ⟨p1, 2, none⟩ fun B_48 =>
                        S.towerexact_pick B_48 (x_47.l : Int) w (fun r49 w =>
                        LdI .i64 w ⟨p1, 3, none⟩ fun C_50 =>
                        Ix x_47.a x_47.l r49 fun b51 o52 =>
                        St1 w ⟨b51, o52 + Int.toNat r49 * 1, none⟩ (.int .i64 C_50) fun w =>
                        Drew w fun w =>
                        LdS w ⟨w_, 5, none⟩ fun lw_53 =>
                        Ix lw_53.a lw_53.l r43 fun b54 o55 =>
                        LdS w ⟨b54, o55 + Int.toNat r43 * 1, none⟩ fun x_56 =>
                        LdI .i64 w ⟨p1, 3, none⟩ fun C_57 =>
                        Ix x_56.a x_56.l r49 fun b58 o59 =>
                        St1 w ⟨b58, o59 + Int.toNat r49 * 1, none⟩ (.int .i64 C_57) fun w =>
                        K true w)
                      else
                        K true w)
                  else
                    if (Kind_2 == 7) = true then
                      LdS w ⟨w_, 0, none⟩ fun x_60 =>
                      if ((x_60.l : Int) == 0) = true then
                        K true w
                      else
                        LdS w ⟨w_, 4, none⟩ fun ls_61 =>
                        if ((ls_61.l : Int) == 0) = true then
                          K true w
                        else
                          Drew w fun w =>
                          LdI .i64 w ⟨p1, 1, none⟩ fun A_62 =>
                          LdS w ⟨w_, 0, none⟩ fun x_63 =>
                          S.towerexact_pick A_62 (x_63.l : Int) w (fun r64 w =>
                          Drew w fun w =>
                          Hold w ⟨w_, 4, none⟩ 1 fun R65 =>
                          LdS w ⟨w_, 4, none⟩ fun ls_66 =>
                          LdI .i64 w ⟨p1, 3, none⟩ fun C_67 =>
                          LdS w ⟨w_, 4, none⟩ fun ls_68 =>
                          S.towerexact_pick C_67 (ls_68.l : Int) w (fun r69 w =>
                          After R65 w <|
                          Ix ls_66.a ls_66.l r69 fun b70 o71 =>
                          LdS w ⟨b70, o71 + Int.toNat r69 * 1, none⟩ fun x_72 =>
                          LdI .i64 w ⟨w_, 9, none⟩ fun from_73 =>
                          S.towerexact_pick from_73 (W ((x_72.l : Int) + 1)) w (fun r74 w =>
                          LdI .i64 w ⟨w_, 10, none⟩ fun n_75 =>
                          S.towerexact_pick n_75 (W ((W ((x_72.l : Int) - r74)) + 1)) w (fun r76 w =>
                          Join (fun (a_77 : Nat) (ok_78 : Bool) (w : World) =>
                            if (!ok_78) = true then
                              K false w
                            else
                              LdS w ⟨a_77, 4, none⟩ fun Out_79 =>
                              if (decide ((Out_79.l : Int) > 0)) = true then
                                Drew w fun w =>
                                Hold w ⟨w_, 4, none⟩ 1 fun R80 =>
                                LdS w ⟨w_, 4, none⟩ fun ls_81 =>
                                LdS w ⟨a_77, 4, none⟩ fun Out_82 =>
                                New w (.cells #[.slice Out_82.a Out_82.l Out_82.c] 22) fun p83 w =>
                                After R80 w <|
                                AppS 22 [.slice none 0 0] 24 1 w ls_81 ⟨some ⟨p83, 0, none⟩, 1, 1⟩ fun l84 w =>
                                St1 w ⟨w_, 4, none⟩ (.slice l84.a l84.l l84.c) fun w =>
                                Drew w fun w =>
                                Hold w ⟨w_, 5, none⟩ 1 fun R85 =>
                                LdS w ⟨w_, 5, none⟩ fun lw_86 =>
                                LdS w ⟨a_77, 4, none⟩ fun Out_87 =>
                                S.towerexact_copyInts Out_87 w (fun r88 w =>
                                After R85 w <|
                                New w (.cells #[.slice r88.a r88.l r88.c] 22) fun p89 w =>
                                After R85 w <|
                                AppS 22 [.slice none 0 0] 24 1 w lw_86 ⟨some ⟨p89, 0, none⟩, 1, 1⟩ fun l90 w =>
                                St1 w ⟨w_, 5, none⟩ (.slice l90.a l90.l l90.c) fun w =>
                                K true w)
                              else
                                K true w) fun J91 =>
                          Drew w fun w =>
                          Hold w ⟨w_, 0, none⟩ 1 fun R92 =>
                          LdS w ⟨w_, 0, none⟩ fun x_93 =>
                          Ix x_93.a x_93.l r64 fun b94 o95 =>
                          Hold w ⟨b94, o95 + Int.toNat r64 * 1, none⟩ 1 fun R96 =>
                          LdP w ⟨b94, o95 + Int.toNat r64 * 1, none⟩ fun x_97 =>
                          Hold w ⟨w_, 1, none⟩ 1 fun R98 =>
                          LdS w ⟨w_, 1, none⟩ fun m_99 =>
                          Ix m_99.a m_99.l r64 fun b100 o101 =>
                          Hold w ⟨b100, o101 + Int.toNat r64 * 1, none⟩ 1 fun R102 =>
                          LdP w ⟨b100, o101 + Int.toNat r64 * 1, none⟩ fun x_103 =>
                          Hold w ⟨p1, 4, none⟩ 1 fun R104 =>
                          LdStr w ⟨p1, 4, none⟩ fun S_105 =>
                          Hold w ⟨w_, 11, none⟩ 1 fun R106 =>
                          LdI .i64 w ⟨w_, 11, none⟩ fun extra_107 =>
                          Hold w ⟨p1, 2, none⟩ 1 fun R108 =>
                          LdI .i64 w ⟨p1, 2, none⟩ fun B_109 =>
                          (S.towerexact_pick extra_107 (W ((W ((W ((x_72.l : Int) - r74)) - r76)) + 1)) w (fun r110 w =>
                          After R108 w <|
                          After R104 w <|
                          After R102 w <|
                          After R98 w <|
                          After R96 w <|
                          After R92 w <|
                          (S.towerexact_ran x_97 x_103 S_105 x_72 r74 r76 r110 B_109 w (fun Err_111 Pos_112 End_113 Ret_114 Out_115 Fuel_116 r117 w =>
                          New w (.cells #[.int .i64 0, .int .i64 0, .int .i64 0, .int .i64 0, .slice none 0 0, .int .i64 0] 31) fun p118 w =>
                          After R108 w <|
                          After R106 w <|
                          After R104 w <|
                          After R102 w <|
                          After R98 w <|
                          After R96 w <|
                          After R92 w <|
                          St1 w ⟨p118, 0, none⟩ (.int .i64 Err_111) fun w =>
                          St1 w ⟨p118, 1, none⟩ (.int .i64 Pos_112) fun w =>
                          St1 w ⟨p118, 2, none⟩ (.int .i64 End_113) fun w =>
                          St1 w ⟨p118, 3, none⟩ (.int .i64 Ret_114) fun w =>
                          St1 w ⟨p118, 4, none⟩ (.slice Out_115.a Out_115.l Out_115.c) fun w =>
                          St1 w ⟨p118, 5, none⟩ (.int .i64 Fuel_116) fun w =>
                          J91 p118 r117 w)) ∧
                          (New w (.cells #[.int .i64 0, .int .i64 0, .int .i64 0, .int .i64 0, .slice none 0 0, .int .i64 0] 31) fun p119 w =>
                          After R108 w <|
                          After R106 w <|
                          After R104 w <|
                          After R102 w <|
                          After R98 w <|
                          After R96 w <|
                          After R92 w <|
                          S.towerexact_ran x_97 x_103 S_105 x_72 r74 r76 r110 B_109 w (fun Err_120 Pos_121 End_122 Ret_123 Out_124 Fuel_125 r126 w =>
                          St1 w ⟨p119, 0, none⟩ (.int .i64 Err_120) fun w =>
                          St1 w ⟨p119, 1, none⟩ (.int .i64 Pos_121) fun w =>
                          St1 w ⟨p119, 2, none⟩ (.int .i64 End_122) fun w =>
                          St1 w ⟨p119, 3, none⟩ (.int .i64 Ret_123) fun w =>
                          St1 w ⟨p119, 4, none⟩ (.slice Out_124.a Out_124.l Out_124.c) fun w =>
                          St1 w ⟨p119, 5, none⟩ (.int .i64 Fuel_125) fun w =>
                          J91 p119 r126 w)))) ∧
                          (New w (.cells #[.int .i64 0, .int .i64 0, .int .i64 0, .int .i64 0, .slice none 0 0, .int .i64 0] 31) fun p127 w =>
                          After R108 w <|
                          After R106 w <|
                          After R104 w <|
                          After R102 w <|
                          After R98 w <|
                          After R96 w <|
                          After R92 w <|
                          S.towerexact_pick extra_107 (W ((W ((W ((x_72.l : Int) - r74)) - r76)) + 1)) w (fun r128 w =>
                          After R108 w <|
                          After R104 w <|
                          After R102 w <|
                          After R98 w <|
                          After R96 w <|
                          After R92 w <|
                          S.towerexact_ran x_97 x_103 S_105 x_72 r74 r76 r128 B_109 w (fun Err_129 Pos_130 End_131 Ret_132 Out_133 Fuel_134 r135 w =>
                          St1 w ⟨p127, 0, none⟩ (.int .i64 Err_129) fun w =>
                          St1 w ⟨p127, 1, none⟩ (.int .i64 Pos_130) fun w =>
                          St1 w ⟨p127, 2, none⟩ (.int .i64 End_131) fun w =>
                          St1 w ⟨p127, 3, none⟩ (.int .i64 Ret_132) fun w =>
                          St1 w ⟨p127, 4, none⟩ (.slice Out_133.a Out_133.l Out_133.c) fun w =>
                          St1 w ⟨p127, 5, none⟩ (.int .i64 Fuel_134) fun w =>
                          J91 p127 r135 w)))))))
                    else
                      if (Kind_2 == 13) = true then
                        LdS w ⟨w_, 0, none⟩ fun x_136 =>
                        if (decide ((x_136.l : Int) > 0)) = true then
                          Drew w fun w =>
                          Hold w ⟨w_, 0, none⟩ 1 fun R137 =>
                          LdS w ⟨w_, 0, none⟩ fun x_138 =>
                          LdI .i64 w ⟨p1, 1, none⟩ fun A_139 =>
                          LdS w ⟨w_, 0, none⟩ fun x_140 =>
                          S.towerexact_pick A_139 (x_140.l : Int) w (fun r141 w =>
                          After R137 w <|
                          Ix x_138.a x_138.l r141 fun b142 o143 =>
                          LdP w ⟨b142, o143 + Int.toNat r141 * 1, none⟩ fun x_144 =>
                          S.gen_Engine_Check x_144 w (fun r145 w =>
                          K r145 w))
                        else
                          K true w
                      else
                        if (Kind_2 == 8) = true then
                          LdS w ⟨w_, 0, none⟩ fun x_146 =>
                          if ((x_146.l : Int) == 0) = true then
                            K true w
                          else
                            Drew w fun w =>
                            Hold w ⟨w_, 0, none⟩ 1 fun R147 =>
                            LdS w ⟨w_, 0, none⟩ fun x_148 =>
                            LdI .i64 w ⟨p1, 1, none⟩ fun A_149 =>
                            LdS w ⟨w_, 0, none⟩ fun x_150 =>
                            Hold w ⟨p1, 4, none⟩ 1 fun R151 =>
                            LdStr w ⟨p1, 4, none⟩ fun S_152 =>
                            S.towerexact_pick A_149 (x_150.l : Int) w (fun r153 w =>
                            After R151 w <|
                            After R147 w <|
                            Ix x_148.a x_148.l r153 fun b154 o155 =>
                            LdP w ⟨b154, o155 + Int.toNat r153 * 1, none⟩ fun x_156 =>
                            S.towerexact_compiled x_156 S_152 w (fun r157 r158 r159 w =>
                            if (!r159) = true then
                              K false w
                            else
                              if r158 = true then
                                Drew w fun w =>
                                Hold w ⟨w_, 12, none⟩ 1 fun R160 =>
                                LdS w ⟨w_, 12, none⟩ fun cods_161 =>
                                Hold w ⟨p1, 4, none⟩ 1 fun R162 =>
                                LdStr w ⟨p1, 4, none⟩ fun S_163 =>
                                S.towerexact_copyBytes r157 w (fun r164 w =>
                                After R162 w <|
                                After R160 w <|
                                New w (.cells #[.slice r157.a r157.l r157.c, .slice r164.a r164.l r164.c, .string S_163, .bool false] 133) fun p165 w =>
                                After R160 w <|
                                AppS 133 [.slice none 0 0, .slice none 0 0, .string ⟨#[]⟩, .bool false] 72 4 w cods_161 ⟨some ⟨p165, 0, none⟩, 1, 1⟩ fun l166 w =>
                                St1 w ⟨w_, 12, none⟩ (.slice l166.a l166.l l166.c) fun w =>
                                K true w)
                              else
                                K true w))
                        else
                          if (Kind_2 == 9) = true then
                            LdS w ⟨w_, 2, none⟩ fun v_167 =>
                            if ((v_167.l : Int) == 0) = true then
                              K true w
                            else
                              LdS w ⟨w_, 12, none⟩ fun cods_168 =>
                              if ((cods_168.l : Int) == 0) = true then
                                K true w
                              else
                                LdS w ⟨w_, 4, none⟩ fun ls_169 =>
                                if ((ls_169.l : Int) == 0) = true then
                                  K true w
                                else
                                  Join (fun (c_170 : Nat) (w : World) =>
                                    LdB w ⟨c_170, 3, none⟩ fun gone_171 =>
                                    if gone_171 = true then
                                      K true w
                                    else
                                      Join (fun (w : World) =>
                                        Drew w fun w =>
                                        LdS w ⟨w_, 6, none⟩ fun room_172 =>
                                        LdS w ⟨c_170, 0, none⟩ fun real_173 =>
                                        CutS 1 room_172 0 (real_173.l : Int) (room_172.c : Int) fun l174 =>
                                        LdS w ⟨c_170, 0, none⟩ fun real_175 =>
                                        CopyS 1 w l174 real_175 fun n176 w =>
                                        Drew w fun w =>
                                        LdS w ⟨w_, 7, none⟩ fun rw_177 =>
                                        LdS w ⟨c_170, 0, none⟩ fun real_178 =>
                                        CopyS 1 w rw_177 real_178 fun n179 w =>
                                        Join (fun (a_180 : Nat) (ok_181 : Bool) (w : World) =>
                                          if (!ok_181) = true then
                                            K false w
                                          else
                                            LdS w ⟨a_180, 4, none⟩ fun Out_182 =>
                                            if (decide ((Out_182.l : Int) > 0)) = true then
                                              Drew w fun w =>
                                              Hold w ⟨w_, 4, none⟩ 1 fun R183 =>
                                              LdS w ⟨w_, 4, none⟩ fun ls_184 =>
                                              LdS w ⟨a_180, 4, none⟩ fun Out_185 =>
                                              New w (.cells #[.slice Out_185.a Out_185.l Out_185.c] 22) fun p186 w =>
                                              After R183 w <|
                                              AppS 22 [.slice none 0 0] 24 1 w ls_184 ⟨some ⟨p186, 0, none⟩, 1, 1⟩ fun l187 w =>
                                              St1 w ⟨w_, 4, none⟩ (.slice l187.a l187.l l187.c) fun w =>
                                              Drew w fun w =>
                                              Hold w ⟨w_, 5, none⟩ 1 fun R188 =>
                                              LdS w ⟨w_, 5, none⟩ fun lw_189 =>
                                              LdS w ⟨a_180, 4, none⟩ fun Out_190 =>
                                              S.towerexact_copyInts Out_190 w (fun r191 w =>
                                              After R188 w <|
                                              New w (.cells #[.slice r191.a r191.l r191.c] 22) fun p192 w =>
                                              After R188 w <|
                                              AppS 22 [.slice none 0 0] 24 1 w lw_189 ⟨some ⟨p192, 0, none⟩, 1, 1⟩ fun l193 w =>
                                              St1 w ⟨w_, 5, none⟩ (.slice l193.a l193.l l193.c) fun w =>
                                              K true w)
                                            else
                                              K true w) fun J194 =>
                                        Drew w fun w =>
                                        Hold w ⟨w_, 2, none⟩ 1 fun R195 =>
                                        LdS w ⟨w_, 2, none⟩ fun v_196 =>
                                        Hold w ⟨p1, 1, none⟩ 1 fun R197 =>
                                        LdI .i64 w ⟨p1, 1, none⟩ fun A_198 =>
                                        Hold w ⟨w_, 2, none⟩ 1 fun R199 =>
                                        LdS w ⟨w_, 2, none⟩ fun v_200 =>
                                        Hold w ⟨c_170, 2, none⟩ 1 fun R201 =>
                                        LdStr w ⟨c_170, 2, none⟩ fun src_202 =>
                                        Hold w ⟨w_, 4, none⟩ 1 fun R203 =>
                                        LdS w ⟨w_, 4, none⟩ fun ls_204 =>
                                        Hold w ⟨w_, 8, none⟩ 1 fun R205 =>
                                        LdI .i64 w ⟨w_, 8, none⟩ fun name_206 =>
                                        Hold w ⟨w_, 4, none⟩ 1 fun R207 =>
                                        LdS w ⟨w_, 4, none⟩ fun ls_208 =>
                                        Hold w ⟨p1, 3, none⟩ 1 fun R209 =>
                                        LdI .i64 w ⟨p1, 3, none⟩ fun C_210 =>
                                        (S.towerexact_pick A_198 (v_200.l : Int) w (fun r211 w =>
                                        After R209 w <|
                                        After R207 w <|
                                        After R205 w <|
                                        After R203 w <|
                                        After R201 w <|
                                        After R195 w <|
                                        Ix v_196.a v_196.l r211 fun b212 o213 =>
                                        Hold w ⟨b212, o213 + Int.toNat r211 * 1, none⟩ 1 fun R214 =>
                                        LdP w ⟨b212, o213 + Int.toNat r211 * 1, none⟩ fun x_215 =>
                                        (S.towerexact_pick name_206 (ls_208.l : Int) w (fun r216 w =>
                                        After R214 w <|
                                        After R209 w <|
                                        After R203 w <|
                                        After R201 w <|
                                        After R195 w <|
                                        Ix ls_204.a ls_204.l r216 fun b217 o218 =>
                                        Hold w ⟨b217, o218 + Int.toNat r216 * 1, none⟩ 1 fun R219 =>
                                        LdS w ⟨b217, o218 + Int.toNat r216 * 1, none⟩ fun x_220 =>
                                        (S.towerexact_short x_220 w (fun r221 w =>
                                        After R214 w <|
                                        After R209 w <|
                                        After R201 w <|
                                        After R195 w <|
                                        (S.towerexact_executed x_215 l174 src_202 r221 C_210 w (fun Err_222 Pos_223 End_224 Ret_225 Out_226 Fuel_227 r228 w =>
                                        New w (.cells #[.int .i64 0, .int .i64 0, .int .i64 0, .int .i64 0, .slice none 0 0, .int .i64 0] 31) fun p229 w =>
                                        After R219 w <|
                                        After R214 w <|
                                        After R209 w <|
                                        After R207 w <|
                                        After R205 w <|
                                        After R203 w <|
                                        After R201 w <|
                                        After R199 w <|
                                        After R197 w <|
                                        After R195 w <|
                                        St1 w ⟨p229, 0, none⟩ (.int .i64 Err_222) fun w =>
                                        St1 w ⟨p229, 1, none⟩ (.int .i64 Pos_223) fun w =>
                                        St1 w ⟨p229, 2, none⟩ (.int .i64 End_224) fun w =>
                                        St1 w ⟨p229, 3, none⟩ (.int .i64 Ret_225) fun w =>
                                        St1 w ⟨p229, 4, none⟩ (.slice Out_226.a Out_226.l Out_226.c) fun w =>
                                        St1 w ⟨p229, 5, none⟩ (.int .i64 Fuel_227) fun w =>
                                        J194 p229 r228 w)) ∧
                                        (New w (.cells #[.int .i64 0, .int .i64 0, .int .i64 0, .int .i64 0, .slice none 0 0, .int .i64 0] 31) fun p230 w =>
                                        After R219 w <|
                                        After R214 w <|
                                        After R209 w <|
                                        After R207 w <|
                                        After R205 w <|
                                        After R203 w <|
                                        After R201 w <|
                                        After R199 w <|
                                        After R197 w <|
                                        After R195 w <|
                                        S.towerexact_executed x_215 l174 src_202 r221 C_210 w (fun Err_231 Pos_232 End_233 Ret_234 Out_235 Fuel_236 r237 w =>
                                        St1 w ⟨p230, 0, none⟩ (.int .i64 Err_231) fun w =>
                                        St1 w ⟨p230, 1, none⟩ (.int .i64 Pos_232) fun w =>
                                        St1 w ⟨p230, 2, none⟩ (.int .i64 End_233) fun w =>
                                        St1 w ⟨p230, 3, none⟩ (.int .i64 Ret_234) fun w =>
                                        St1 w ⟨p230, 4, none⟩ (.slice Out_235.a Out_235.l Out_235.c) fun w =>
                                        St1 w ⟨p230, 5, none⟩ (.int .i64 Fuel_236) fun w =>
                                        J194 p230 r237 w)))) ∧
                                        (New w (.cells #[.int .i64 0, .int .i64 0, .int .i64 0, .int .i64 0, .slice none 0 0, .int .i64 0] 31) fun p238 w =>
                                        After R219 w <|
                                        After R214 w <|
                                        After R209 w <|
                                        After R207 w <|
                                        After R205 w <|
                                        After R203 w <|
                                        After R201 w <|
                                        After R199 w <|
                                        After R197 w <|
                                        After R195 w <|
                                        S.towerexact_short x_220 w (fun r239 w =>
                                        After R214 w <|
                                        After R209 w <|
                                        After R201 w <|
                                        After R195 w <|
                                        S.towerexact_executed x_215 l174 src_202 r239 C_210 w (fun Err_240 Pos_241 End_242 Ret_243 Out_244 Fuel_245 r246 w =>
                                        St1 w ⟨p238, 0, none⟩ (.int .i64 Err_240) fun w =>
                                        St1 w ⟨p238, 1, none⟩ (.int .i64 Pos_241) fun w =>
                                        St1 w ⟨p238, 2, none⟩ (.int .i64 End_242) fun w =>
                                        St1 w ⟨p238, 3, none⟩ (.int .i64 Ret_243) fun w =>
                                        St1 w ⟨p238, 4, none⟩ (.slice Out_244.a Out_244.l Out_244.c) fun w =>
                                        St1 w ⟨p238, 5, none⟩ (.int .i64 Fuel_245) fun w =>
                                        J194 p238 r246 w))))) ∧
                                        (New w (.cells #[.int .i64 0, .int .i64 0, .int .i64 0, .int .i64 0, .slice none 0 0, .int .i64 0] 31) fun p247 w =>
                                        After R214 w <|
                                        After R209 w <|
                                        After R207 w <|
                                        After R205 w <|
                                        After R203 w <|
                                        After R201 w <|
                                        After R199 w <|
                                        After R197 w <|
                                        After R195 w <|
                                        S.towerexact_pick name_206 (ls_208.l : Int) w (fun r248 w =>
                                        After R214 w <|
                                        After R209 w <|
                                        After R203 w <|
                                        After R201 w <|
                                        After R195 w <|
                                        Ix ls_204.a ls_204.l r248 fun b249 o250 =>
                                        LdS w ⟨b249, o250 + Int.toNat r248 * 1, none⟩ fun x_251 =>
                                        S.towerexact_short x_251 w (fun r252 w =>
                                        After R214 w <|
                                        After R209 w <|
                                        After R201 w <|
                                        After R195 w <|
                                        S.towerexact_executed x_215 l174 src_202 r252 C_210 w (fun Err_253 Pos_254 End_255 Ret_256 Out_257 Fuel_258 r259 w =>
                                        St1 w ⟨p247, 0, none⟩ (.int .i64 Err_253) fun w =>
                                        St1 w ⟨p247, 1, none⟩ (.int .i64 Pos_254) fun w =>
                                        St1 w ⟨p247, 2, none⟩ (.int .i64 End_255) fun w =>
                                        St1 w ⟨p247, 3, none⟩ (.int .i64 Ret_256) fun w =>
                                        St1 w ⟨p247, 4, none⟩ (.slice Out_257.a Out_257.l Out_257.c) fun w =>
                                        St1 w ⟨p247, 5, none⟩ (.int .i64 Fuel_258) fun w =>
                                        J194 p247 r259 w)))))) ∧
                                        (New w (.cells #[.int .i64 0, .int .i64 0, .int .i64 0, .int .i64 0, .slice none 0 0, .int .i64 0] 31) fun p260 w =>
                                        After R209 w <|
                                        After R207 w <|
                                        After R205 w <|
                                        After R203 w <|
                                        After R201 w <|
                                        After R199 w <|
                                        After R197 w <|
                                        After R195 w <|
                                        S.towerexact_pick A_198 (v_200.l : Int) w (fun r261 w =>
                                        After R209 w <|
                                        After R207 w <|
                                        After R205 w <|
                                        After R203 w <|
                                        After R201 w <|
                                        After R195 w <|
                                        Ix v_196.a v_196.l r261 fun b262 o263 =>
                                        Hold w ⟨b262, o263 + Int.toNat r261 * 1, none⟩ 1 fun R264 =>
                                        LdP w ⟨b262, o263 + Int.toNat r261 * 1, none⟩ fun x_265 =>
                                        S.towerexact_pick name_206 (ls_208.l : Int) w (fun r266 w =>
                                        After R264 w <|
                                        After R209 w <|
                                        After R203 w <|
                                        After R201 w <|
                                        After R195 w <|
                                        Ix ls_204.a ls_204.l r266 fun b267 o268 =>
                                        LdS w ⟨b267, o268 + Int.toNat r266 * 1, none⟩ fun x_269 =>
                                        S.towerexact_short x_269 w (fun r270 w =>
                                        After R264 w <|
                                        After R209 w <|
                                        After R201 w <|
                                        After R195 w <|
                                        S.towerexact_executed x_265 l174 src_202 r270 C_210 w (fun Err_271 Pos_272 End_273 Ret_274 Out_275 Fuel_276 r277 w =>
                                        St1 w ⟨p260, 0, none⟩ (.int .i64 Err_271) fun w =>
                                        St1 w ⟨p260, 1, none⟩ (.int .i64 Pos_272) fun w =>
                                        St1 w ⟨p260, 2, none⟩ (.int .i64 End_273) fun w =>
                                        St1 w ⟨p260, 3, none⟩ (.int .i64 Ret_274) fun w =>
                                        St1 w ⟨p260, 4, none⟩ (.slice Out_275.a Out_275.l Out_275.c) fun w =>
                                        St1 w ⟨p260, 5, none⟩ (.int .i64 Fuel_276) fun w =>
                                        J194 p260 r277 w)))))) fun J278 =>
                                      LoopP (σ := Unit) (fun st279 w next280 =>
                                        Drew w fun w =>
                                        LdS w ⟨w_, 6, none⟩ fun room_281 =>
                                        LdS w ⟨c_170, 0, none⟩ fun real_282 =>
                                        if (decide ((room_281.l : Int) < (real_282.l : Int))) = true then
                                          LdS w ⟨w_, 6, none⟩ fun room_283 =>
                                          New w (.cells #[.int .u8 0] 5) fun p284 w =>
                                          AppS 5 [.int .u8 0] 1 1 w room_283 ⟨some ⟨p284, 0, none⟩, 1, 1⟩ fun l285 w =>
                                          St1 w ⟨w_, 6, none⟩ (.slice l285.a l285.l l285.c) fun w =>
                                          LdS w ⟨w_, 7, none⟩ fun rw_286 =>
                                          New w (.cells #[.int .u8 0] 5) fun p287 w =>
                                          AppS 5 [.int .u8 0] 1 1 w rw_286 ⟨some ⟨p287, 0, none⟩, 1, 1⟩ fun l288 w =>
                                          St1 w ⟨w_, 7, none⟩ (.slice l288.a l288.l l288.c) fun w =>
                                          next280 (()) w
                                        else
                                          J278 w) (()) w) fun J289 =>
                                  Drew w fun w =>
                                  Hold w ⟨w_, 12, none⟩ 1 fun R290 =>
                                  LdS w ⟨w_, 12, none⟩ fun cods_291 =>
                                  Hold w ⟨p1, 2, none⟩ 1 fun R292 =>
                                  LdI .i64 w ⟨p1, 2, none⟩ fun B_293 =>
                                  Hold w ⟨w_, 12, none⟩ 1 fun R294 =>
                                  LdS w ⟨w_, 12, none⟩ fun cods_295 =>
                                  (S.towerexact_pick B_293 (cods_295.l : Int) w (fun r296 w =>
                                  After R290 w <|
                                  Ix cods_291.a cods_291.l r296 fun b297 o298 =>
                                  Hold w ⟨b297, o298 + Int.toNat r296 * 4, none⟩ 4 fun R299 =>
                                  LdS w ⟨b297, o298 + Int.toNat r296 * 4, none⟩ fun real_300 =>
                                  LdS w ⟨b297, o298 + Int.toNat r296 * 4 + 1, none⟩ fun want_301 =>
                                  LdStr w ⟨b297, o298 + Int.toNat r296 * 4 + 2, none⟩ fun src_302 =>
                                  LdB w ⟨b297, o298 + Int.toNat r296 * 4 + 3, none⟩ fun gone_303 =>
                                  New w (.cells #[.slice none 0 0, .slice none 0 0, .string ⟨#[]⟩, .bool false] 133) fun p304 w =>
                                  After R299 w <|
                                  After R294 w <|
                                  After R292 w <|
                                  After R290 w <|
                                  St1 w ⟨p304, 0, none⟩ (.slice real_300.a real_300.l real_300.c) fun w =>
                                  St1 w ⟨p304, 1, none⟩ (.slice want_301.a want_301.l want_301.c) fun w =>
                                  St1 w ⟨p304, 2, none⟩ (.string src_302) fun w =>
                                  St1 w ⟨p304, 3, none⟩ (.bool gone_303) fun w =>
                                  J289 p304 w)) ∧
                                  (New w (.cells #[.slice none 0 0, .slice none 0 0, .string ⟨#[]⟩, .bool false] 133) fun p305 w =>
                                  After R294 w <|
                                  After R292 w <|
                                  After R290 w <|
                                  S.towerexact_pick B_293 (cods_295.l : Int) w (fun r306 w =>
                                  After R290 w <|
                                  Ix cods_291.a cods_291.l r306 fun b307 o308 =>
                                  LdS w ⟨b307, o308 + Int.toNat r306 * 4, none⟩ fun real_309 =>
                                  LdS w ⟨b307, o308 + Int.toNat r306 * 4 + 1, none⟩ fun want_310 =>
                                  LdStr w ⟨b307, o308 + Int.toNat r306 * 4 + 2, none⟩ fun src_311 =>
                                  LdB w ⟨b307, o308 + Int.toNat r306 * 4 + 3, none⟩ fun gone_312 =>
                                  St1 w ⟨p305, 0, none⟩ (.slice real_309.a real_309.l real_309.c) fun w =>
                                  St1 w ⟨p305, 1, none⟩ (.slice want_310.a want_310.l want_310.c) fun w =>
                                  St1 w ⟨p305, 2, none⟩ (.string src_311) fun w =>
                                  St1 w ⟨p305, 3, none⟩ (.bool gone_312) fun w =>
                                  J289 p305 w))
                          else
                            if (Kind_2 == 12) = true then
                              LdS w ⟨w_, 12, none⟩ fun cods_313 =>
                              if ((cods_313.l : Int) == 0) = true then
                                K true w
                              else
                                Drew w fun w =>
                                LdI .i64 w ⟨p1, 1, none⟩ fun A_314 =>
                                LdS w ⟨w_, 12, none⟩ fun cods_315 =>
                                S.towerexact_pick A_314 (cods_315.l : Int) w (fun r316 w =>
                                LdS w ⟨w_, 12, none⟩ fun cods_317 =>
                                Ix cods_317.a cods_317.l r316 fun b318 o319 =>
                                LdS w ⟨b318, o319 + Int.toNat r316 * 4, none⟩ fun real_320 =>
                                if (decide ((real_320.l : Int) > 0)) = true then
                                  Drew w fun w =>
                                  LdI .i64 w ⟨p1, 2, none⟩ fun B_321 =>
                                  LdS w ⟨w_, 12, none⟩ fun cods_322 =>
                                  Ix cods_322.a cods_322.l r316 fun b323 o324 =>
                                  LdS w ⟨b323, o324 + Int.toNat r316 * 4, none⟩ fun real_325 =>
                                  S.towerexact_pick B_321 (real_325.l : Int) w (fun r326 w =>
                                  Drew w fun w =>
                                  LdS w ⟨w_, 12, none⟩ fun cods_327 =>
                                  Ix cods_327.a cods_327.l r316 fun b328 o329 =>
                                  LdS w ⟨b328, o329 + Int.toNat r316 * 4, none⟩ fun real_330 =>
                                  LdI .i64 w ⟨p1, 3, none⟩ fun C_331 =>
                                  Ix real_330.a real_330.l r326 fun b332 o333 =>
                                  St1 w ⟨b332, o333 + Int.toNat r326 * 1, none⟩ (.int .u8 (U8 C_331)) fun w =>
                                  Drew w fun w =>
                                  LdS w ⟨w_, 12, none⟩ fun cods_334 =>
                                  Ix cods_334.a cods_334.l r316 fun b335 o336 =>
                                  LdS w ⟨b335, o336 + Int.toNat r316 * 4 + 1, none⟩ fun want_337 =>
                                  LdI .i64 w ⟨p1, 3, none⟩ fun C_338 =>
                                  Ix want_337.a want_337.l r326 fun b339 o340 =>
                                  St1 w ⟨b339, o340 + Int.toNat r326 * 1, none⟩ (.int .u8 (U8 C_338)) fun w =>
                                  LdS w ⟨w_, 12, none⟩ fun cods_341 =>
                                  Ix cods_341.a cods_341.l r316 fun b342 o343 =>
                                  St1 w ⟨b342, o343 + Int.toNat r316 * 4 + 3, none⟩ (.bool true) fun w =>
                                  K true w)
                                else
                                  K true w)
                            else
                              K true w
def T.C33 : CallT := (CallT.cons 6 T.c6 (CallT.cons 7 T.c7 (CallT.cons 11 T.c11 (CallT.cons 8 T.c8 (CallT.cons 5 T.c5 (CallT.cons 9 T.c9 (CallT.cons 47 T.c47 (CallT.cons 10 T.c10 (CallT.cons 31 T.c31 (CallT.cons 13 T.c13 (CallT.cons 12 T.c12 CallT.nil)))))))))))
def T.A33 : Ann := fun i => bif Nat.beq i 66 then some ([0, 3, 21], []) else bif Nat.beq i 1000078 then some ([], [(0, 5), (3, 5), (28, 0)]) else bif Nat.beq i 1000060 then some ([], [(0, 5), (3, 5), (28, 0)]) else bif Nat.beq i 1000052 then some ([], [(0, 5), (3, 5), (28, 0)]) else bif Nat.beq i 1000049 then some ([], [(0, 5), (3, 5), (28, 0)]) else bif Nat.beq i 1000036 then some ([], [(0, 5), (3, 5), (28, 0)]) else bif Nat.beq i 1000027 then some ([], [(0, 5), (3, 5), (28, 0)]) else bif Nat.beq i 1000023 then some ([], [(0, 5), (3, 5), (28, 0)]) else bif Nat.beq i 1000021 then some ([], [(0, 5), (3, 5), (28, 0)]) else bif Nat.beq i 1000018 then some ([], [(0, 5), (3, 5), (28, 0)]) else bif Nat.beq i 1000014 then some ([], [(0, 5), (3, 5), (28, 0)]) else bif Nat.beq i 1000012 then some ([], [(0, 5), (3, 5), (28, 0)]) else bif Nat.beq i 1000010 then some ([], [(0, 5), (3, 5), (28, 0)]) else bif Nat.beq i 1000007 then some ([], [(0, 5), (3, 5), (28, 0)]) else none
set_option maxRecDepth 1000000 in
theorem T.eq33 (w_ : Nat) (o_Kind : Int) (o_A : Int) (o_B : Int) (o_C : Int) (o_S : ByteArray) (o_T : ByteArray) (w : World) (K : Bool → World → Prop) : denF Tryz.prog T.C33 T.A33 Tryz.f33 [.pointer (some ⟨w_, 0, none⟩), .agg #[.int .i64 o_Kind, .int .i64 o_A, .int .i64 o_B, .int .i64 o_C, .string o_S, .string o_T]] w (fun v w' => match v with | .bool r0 => K r0 w' | _ => False) = S.towerexact_World_step w_ o_Kind o_A o_B o_C o_S o_T w K := by kernel_rfl
theorem T.CO33 : CallOk Tryz.prog T.C33 := (CallOk.cons 6 T.ok6 (CallOk.cons 7 T.ok7 (CallOk.cons 11 T.ok11 (CallOk.cons 8 T.ok8 (CallOk.cons 5 T.ok5 (CallOk.cons 9 T.ok9 (CallOk.cons 47 T.ok47 (CallOk.cons 10 T.ok10 (CallOk.cons 31 T.ok31 (CallOk.cons 13 T.ok13 (CallOk.cons 12 T.ok12 CallOk.nil)))))))))))
def T.c33 (vs : List Value) (w : World) (K : Value → World → Prop) : Prop :=
  match vs with
  | [.pointer (some ⟨w_, 0, none⟩), .agg ⟨[.int .i64 o_Kind, .int .i64 o_A, .int .i64 o_B, .int .i64 o_C, .string o_S, .string o_T]⟩] => S.towerexact_World_step w_ o_Kind o_A o_B o_C o_S o_T w (fun r0 w' => K (.bool r0) w')
  | _ => False
theorem T.ok33 : ∀ vs w K, T.c33 vs w K → (callFunc 33 vs.toArray).run Tryz.prog w = .ok (.enter 33 vs.toArray) w ∧ Calls Tryz.prog 33 vs.toArray w fun e w' => ∃ v, e = .returned v ∧ K v w' := by
  intro vs w K h
  unfold T.c33 at h
  split at h
  · refine ⟨Tryz.call33 _ _, ok_of T.CO33 mixed Tryz.func33 (T.eq33 _ _ _ _ _ _ _ _ _) h fun v w' hk => ⟨v, rfl, ?_⟩⟩
    split at hk
    · exact hk
    · exact hk.elim
  · exact h.elim

/-- (*e2e/towerexact.World).looks (function 34). -/
def S.towerexact_World_looks (w_ : Nat) (w : World) (K : Bool → World → Prop) : Prop :=
  Join (fun (w : World) =>
    Join (fun (w : World) =>
      Drew w fun w =>
      LdS w ⟨w_, 6, none⟩ fun room_1 =>
      LdS w ⟨w_, 7, none⟩ fun rw_2 =>
      S.towerexact_sameBytes room_1 rw_2 w (fun r3 w =>
      K r3 w)) fun J4 =>
    LoopP (σ := Int × Unit) (fun st5 w next6 =>
      LdS w ⟨w_, 4, none⟩ fun ls_7 =>
      if (decide (st5.1 < (ls_7.l : Int))) = true then
        Drew w fun w =>
        LdS w ⟨w_, 4, none⟩ fun ls_8 =>
        Ix ls_8.a ls_8.l st5.1 fun b9 o10 =>
        LdS w ⟨b9, o10 + Int.toNat st5.1 * 1, none⟩ fun x_11 =>
        LdS w ⟨w_, 5, none⟩ fun lw_12 =>
        Ix lw_12.a lw_12.l st5.1 fun b13 o14 =>
        LdS w ⟨b13, o14 + Int.toNat st5.1 * 1, none⟩ fun x_15 =>
        S.towerexact_sameInts x_11 x_15 w (fun r16 w =>
        if (!r16) = true then
          K false w
        else
          Let (W (st5.1 + 1)) fun i_17 =>
          next6 (i_17, ()) w)
      else
        J4 w) (0, ()) w) fun J18 =>
  LoopP (σ := Int × Unit) (fun st19 w next20 =>
    LdS w ⟨w_, 12, none⟩ fun cods_21 =>
    if (decide (st19.1 < (cods_21.l : Int))) = true then
      Drew w fun w =>
      LdS w ⟨w_, 12, none⟩ fun cods_22 =>
      Ix cods_22.a cods_22.l st19.1 fun b23 o24 =>
      LdS w ⟨b23, o24 + Int.toNat st19.1 * 4, none⟩ fun real_25 =>
      LdS w ⟨w_, 12, none⟩ fun cods_26 =>
      Ix cods_26.a cods_26.l st19.1 fun b27 o28 =>
      LdS w ⟨b27, o28 + Int.toNat st19.1 * 4 + 1, none⟩ fun want_29 =>
      S.towerexact_sameBytes real_25 want_29 w (fun r30 w =>
      if (!r30) = true then
        K false w
      else
        Let (W (st19.1 + 1)) fun i_31 =>
        next20 (i_31, ()) w)
    else
      J18 w) (0, ()) w
def T.C34 : CallT := (CallT.cons 28 T.c28 (CallT.cons 14 T.c14 CallT.nil))
def T.A34 : Ann := fun i => bif Nat.beq i 2 then some ([0], [(3, 0)]) else bif Nat.beq i 7 then some ([0], [(4, 0)]) else none
set_option maxRecDepth 1000000 in
theorem T.eq34 (w_ : Nat) (w : World) (K : Bool → World → Prop) : denF Tryz.prog T.C34 T.A34 Tryz.f34 [.pointer (some ⟨w_, 0, none⟩)] w (fun v w' => match v with | .bool r0 => K r0 w' | _ => False) = S.towerexact_World_looks w_ w K := by kernel_rfl
theorem T.CO34 : CallOk Tryz.prog T.C34 := (CallOk.cons 28 T.ok28 (CallOk.cons 14 T.ok14 CallOk.nil))
def T.c34 (vs : List Value) (w : World) (K : Value → World → Prop) : Prop :=
  match vs with
  | [.pointer (some ⟨w_, 0, none⟩)] => S.towerexact_World_looks w_ w (fun r0 w' => K (.bool r0) w')
  | _ => False
theorem T.ok34 : ∀ vs w K, T.c34 vs w K → (callFunc 34 vs.toArray).run Tryz.prog w = .ok (.enter 34 vs.toArray) w ∧ Calls Tryz.prog 34 vs.toArray w fun e w' => ∃ v, e = .returned v ∧ K v w' := by
  intro vs w K h
  unfold T.c34 at h
  split at h
  · refine ⟨Tryz.call34 _ _, ok_of T.CO34 mixed Tryz.func34 (T.eq34 _ _ _) h fun v w' hk => ⟨v, rfl, ?_⟩⟩
    split at hk
    · exact hk
    · exact hk.elim
  · exact h.elim

/-- e2e/towerexact.ExactUpTo (function 16). -/
def S.towerexact_ExactUpTo (script : Sl) (w : World) (K : Int → World → Prop) : Prop :=
  New w (.cells #[.slice none 0 0, .slice none 0 0, .slice none 0 0, .slice none 0 0, .slice none 0 0, .slice none 0 0, .slice none 0 0, .slice none 0 0, .int .i64 0, .int .i64 0, .int .i64 0, .int .i64 0, .slice none 0 0] 78) fun p1 w =>
  LoopP (σ := Int × Unit) (fun st2 w next3 =>
    if (decide (st2.1 < (script.l : Int))) = true then
      Ix script.a script.l st2.1 fun b4 o5 =>
      LdI .i64 w ⟨b4, o5 + Int.toNat st2.1 * 6, none⟩ fun Kind_6 =>
      LdI .i64 w ⟨b4, o5 + Int.toNat st2.1 * 6 + 1, none⟩ fun A_7 =>
      LdI .i64 w ⟨b4, o5 + Int.toNat st2.1 * 6 + 2, none⟩ fun B_8 =>
      LdI .i64 w ⟨b4, o5 + Int.toNat st2.1 * 6 + 3, none⟩ fun C_9 =>
      LdStr w ⟨b4, o5 + Int.toNat st2.1 * 6 + 4, none⟩ fun S_10 =>
      LdStr w ⟨b4, o5 + Int.toNat st2.1 * 6 + 5, none⟩ fun T_11 =>
      S.towerexact_World_step p1 Kind_6 A_7 B_8 C_9 S_10 T_11 w (fun r12 w =>
      if (!r12) = true then
        K st2.1 w
      else
        S.towerexact_World_looks p1 w (fun r13 w =>
        if (!r13) = true then
          K st2.1 w
        else
          Let (W (st2.1 + 1)) fun i_14 =>
          next3 (i_14, ()) w))
    else
      K (-1) w) (0, ()) w
def T.C16 : CallT := (CallT.cons 33 T.c33 (CallT.cons 34 T.c34 CallT.nil))
def T.A16 : Ann := fun i => bif Nat.beq i 3 then some ([0, 3], [(4, 0)]) else none
set_option maxRecDepth 1000000 in
theorem T.eq16 (script : Sl) (w : World) (K : Int → World → Prop) : denF Tryz.prog T.C16 T.A16 Tryz.f16 [.slice script.a script.l script.c] w (fun v w' => match v with | .int .i64 r0 => K r0 w' | _ => False) = S.towerexact_ExactUpTo script w K := by kernel_rfl
theorem T.CO16 : CallOk Tryz.prog T.C16 := (CallOk.cons 33 T.ok33 (CallOk.cons 34 T.ok34 CallOk.nil))
def T.c16 (vs : List Value) (w : World) (K : Value → World → Prop) : Prop :=
  match vs with
  | [.slice scripta scriptl scriptc] => S.towerexact_ExactUpTo ⟨scripta, scriptl, scriptc⟩ w (fun r0 w' => K (.int .i64 r0) w')
  | _ => False
theorem T.ok16 : ∀ vs w K, T.c16 vs w K → (callFunc 16 vs.toArray).run Tryz.prog w = .ok (.enter 16 vs.toArray) w ∧ Calls Tryz.prog 16 vs.toArray w fun e w' => ∃ v, e = .returned v ∧ K v w' := by
  intro vs w K h
  unfold T.c16 at h
  split at h
  · refine ⟨Tryz.call16 _ _, ok_of T.CO16 mixed Tryz.func16 (T.eq16 _ _ _) h fun v w' hk => ⟨v, rfl, ?_⟩⟩
    split at hk
    · exact hk
    · exact hk.elim
  · exact h.elim

/-- e2e/towerexact.Exact (function 4). -/
def S.towerexact_Exact (script : Sl) (w : World) (K : Bool → World → Prop) : Prop :=
  S.towerexact_small script w (fun r1 w =>
  if (!r1) = true then
    K true w
  else
    S.towerexact_ExactUpTo script w (fun r2 w =>
    K (r2 == (-1)) w))
def T.C4 : CallT := (CallT.cons 15 T.c15 (CallT.cons 16 T.c16 CallT.nil))
def T.A4 : Ann := fun _ => none
set_option maxRecDepth 1000000 in
theorem T.eq4 (script : Sl) (w : World) (K : Bool → World → Prop) : denF Tryz.prog T.C4 T.A4 Tryz.f4 [.slice script.a script.l script.c] w (fun v w' => match v with | .bool r0 => K r0 w' | _ => False) = S.towerexact_Exact script w K := by kernel_rfl
theorem T.CO4 : CallOk Tryz.prog T.C4 := (CallOk.cons 15 T.ok15 (CallOk.cons 16 T.ok16 CallOk.nil))
def T.c4 (vs : List Value) (w : World) (K : Value → World → Prop) : Prop :=
  match vs with
  | [.slice scripta scriptl scriptc] => S.towerexact_Exact ⟨scripta, scriptl, scriptc⟩ w (fun r0 w' => K (.bool r0) w')
  | _ => False
theorem T.ok4 : ∀ vs w K, T.c4 vs w K → (callFunc 4 vs.toArray).run Tryz.prog w = .ok (.enter 4 vs.toArray) w ∧ Calls Tryz.prog 4 vs.toArray w fun e w' => ∃ v, e = .returned v ∧ K v w' := by
  intro vs w K h
  unfold T.c4 at h
  split at h
  · refine ⟨Tryz.call4 _ _, ok_of T.CO4 mixed Tryz.func4 (T.eq4 _ _ _) h fun v w' hk => ⟨v, rfl, ?_⟩⟩
    split at hk
    · exact hk
    · exact hk.elim
  · exact h.elim
end Go.Proofs.Qxb6500562aGreat
