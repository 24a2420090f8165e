/-
  MADE BY PROGRAM (my own gen2.py) out of the translation: the Go functions as typed texts, each tied to the model by the kernel.
-/
import Derived.Test.Qxb6500564aGreatS3
set_option linter.unusedVariables false
namespace Go.Proofs.Qxb6500564aGreat
open Go.Den

/-- (*e2e/api.Table).place (function 269). -/
def S.api_Table_place (t : Nat) (t_o : Nat) (key_IsStr : Bool) (key_I : Int) (key_S : ByteArray) (w : World) (K : Int → Bool → World → Prop) : Prop :=
  New w (.cells #[.bool key_IsStr, .int .i64 key_I, .string key_S] 167) fun p1 w =>
  Join (fun (w : World) =>
    LdS w ⟨t, t_o + 4, none⟩ fun Rows_2 =>
    K (Rows_2.l : Int) false w) fun J3 =>
  LoopP (σ := Int × Unit) (fun st4 w next5 =>
    LdS w ⟨t, t_o + 4, none⟩ fun Rows_6 =>
    if (decide (st4.1 < (Rows_6.l : Int))) = true then
      Drew w fun w =>
      LdB w ⟨p1, 0, none⟩ fun IsStr_7 =>
      LdI .i64 w ⟨p1, 1, none⟩ fun I_8 =>
      LdStr w ⟨p1, 2, none⟩ fun S_9 =>
      LdS w ⟨t, t_o + 4, none⟩ fun Rows_10 =>
      Ix Rows_10.a Rows_10.l st4.1 fun b11 o12 =>
      LdS w ⟨b11, o12 + Int.toNat st4.1 * 1, none⟩ fun x_13 =>
      LdI .i64 w ⟨t, t_o + 2, none⟩ fun PK_14 =>
      Ix x_13.a x_13.l PK_14 fun b15 o16 =>
      LdB w ⟨b15, o16 + Int.toNat PK_14 * 3, none⟩ fun IsStr_17 =>
      LdI .i64 w ⟨b15, o16 + Int.toNat PK_14 * 3 + 1, none⟩ fun I_18 =>
      LdStr w ⟨b15, o16 + Int.toNat PK_14 * 3 + 2, none⟩ fun S_19 =>
      S.api_Cmp IsStr_7 I_8 S_9 IsStr_17 I_18 S_19 w (fun r20 w =>
      if (decide (r20 ≤ 0)) = true then
        K st4.1 (r20 == 0) w
      else
        Let (W (st4.1 + 1)) fun i_21 =>
        next5 (i_21, ()) w)
    else
      J3 w) (0, ()) w
def T.C269 : CallT := (CallT.cons 198 T.c198 CallT.nil)
def T.A269 : Ann := fun i => bif Nat.beq i 2 then some ([0, 3], [(6, 0)]) else none
set_option maxRecDepth 1000000 in
theorem T.eq269 (t : Nat) (t_o : Nat) (key_IsStr : Bool) (key_I : Int) (key_S : ByteArray) (w : World) (K : Int → Bool → World → Prop) : denF Tryz.prog T.C269 T.A269 Tryz.f269 [.pointer (some ⟨t, t_o, none⟩), .agg #[.bool key_IsStr, .int .i64 key_I, .string key_S]] w (fun v w' => match v with | .tuple ⟨[.int .i64 r0, .bool r1]⟩ => K r0 r1 w' | _ => False) = S.api_Table_place t t_o key_IsStr key_I key_S w K := by kernel_rfl
theorem T.CO269 : CallOk Tryz.prog T.C269 := (CallOk.cons 198 T.ok198 CallOk.nil)
def T.c269 (vs : List Value) (w : World) (K : Value → World → Prop) : Prop :=
  match vs with
  | [.pointer (some ⟨t, t_o, none⟩), .agg ⟨[.bool key_IsStr, .int .i64 key_I, .string key_S]⟩] => S.api_Table_place t t_o key_IsStr key_I key_S w (fun r0 r1 w' => K (.tuple #[.int .i64 r0, .bool r1]) w')
  | _ => False
theorem T.ok269 : ∀ vs w K, T.c269 vs w K → (callFunc 269 vs.toArray).run Tryz.prog w = .ok (.enter 269 vs.toArray) w ∧ Calls Tryz.prog 269 vs.toArray w fun e w' => ∃ v, e = .returned v ∧ K v w' := by
  intro vs w K h
  unfold T.c269 at h
  split at h
  · refine ⟨Tryz.call269 _ _, ok_of T.CO269 mixed Tryz.func269 (T.eq269 _ _ _ _ _ _ _) h fun v w' hk => ⟨v, rfl, ?_⟩⟩
    split at hk
    · exact hk
    · exact hk.elim
  · exact h.elim

/-- (*e2e/api.DB).Insert (function 195). -/
def S.api_DB_Insert (d : Nat) (d_o : Nat) (name : ByteArray) (row : Sl) (w : World) (K : Int → World → Prop) : Prop :=
  S.api_DB_Find d d_o name w (fun r1 w =>
  if (decide (r1 < 0)) = true then
    K 10 w
  else
    LdS w ⟨d, d_o, none⟩ fun Tabs_2 =>
    Ix Tabs_2.a Tabs_2.l r1 fun b3 o4 =>
    LdStr w ⟨b3, o4 + Int.toNat r1 * 5, none⟩ fun Name_5 =>
    LdS w ⟨b3, o4 + Int.toNat r1 * 5 + 1, none⟩ fun Cols_6 =>
    LdI .i64 w ⟨b3, o4 + Int.toNat r1 * 5 + 2, none⟩ fun PK_7 =>
    LdI .i64 w ⟨b3, o4 + Int.toNat r1 * 5 + 3, none⟩ fun Index_8 =>
    S.api_CheckRow Name_5 Cols_6 PK_7 Index_8 row w (fun r9 w =>
    if (r9 != 0) = true then
      K r9 w
    else
      LdI .i64 w ⟨b3, o4 + Int.toNat r1 * 5 + 2, none⟩ fun PK_10 =>
      Ix row.a row.l PK_10 fun b11 o12 =>
      LdB w ⟨b11, o12 + Int.toNat PK_10 * 3, none⟩ fun IsStr_13 =>
      LdI .i64 w ⟨b11, o12 + Int.toNat PK_10 * 3 + 1, none⟩ fun I_14 =>
      LdStr w ⟨b11, o12 + Int.toNat PK_10 * 3 + 2, none⟩ fun S_15 =>
      S.api_Table_place b3 (o4 + Int.toNat r1 * 5) IsStr_13 I_14 S_15 w (fun r16 r17 w =>
      if r17 = true then
        K 17 w
      else
        LdS w ⟨b3, o4 + Int.toNat r1 * 5 + 4, none⟩ fun Rows_18 =>
        if (decide ((Rows_18.l : Int) ≥ 8)) = true then
          K 6 w
        else
          LdS w ⟨b3, o4 + Int.toNat r1 * 5 + 4, none⟩ fun Rows_19 =>
          New w (.cells #[.slice none 0 0] 61) fun p20 w =>
          AppS 61 [.slice none 0 0] 24 1 w Rows_19 ⟨some ⟨p20, 0, none⟩, 1, 1⟩ fun l21 w =>
          St1 w ⟨b3, o4 + Int.toNat r1 * 5 + 4, none⟩ (.slice l21.a l21.l l21.c) fun w =>
          LdS w ⟨b3, o4 + Int.toNat r1 * 5 + 4, none⟩ fun Rows_22 =>
          Let (W ((Rows_22.l : Int) - 1)) fun j_23 =>
          Join (fun (w : World) =>
            Drew w fun w =>
            Hold w ⟨b3, o4 + Int.toNat r1 * 5 + 4, none⟩ 1 fun R24 =>
            LdS w ⟨b3, o4 + Int.toNat r1 * 5 + 4, none⟩ fun Rows_25 =>
            S.api_CloneRow row w (fun r26 w =>
            After R24 w <|
            Ix Rows_25.a Rows_25.l r16 fun b27 o28 =>
            St1 w ⟨b27, o28 + Int.toNat r16 * 1, none⟩ (.slice r26.a r26.l r26.c) fun w =>
            K 0 w)) fun J29 =>
          LoopP (σ := Int × Unit) (fun st30 w next31 =>
            if (decide (st30.1 > r16)) = true then
              Drew w fun w =>
              LdS w ⟨b3, o4 + Int.toNat r1 * 5 + 4, none⟩ fun Rows_32 =>
              LdS w ⟨b3, o4 + Int.toNat r1 * 5 + 4, none⟩ fun Rows_33 =>
              Ix Rows_33.a Rows_33.l (W (st30.1 - 1)) fun b34 o35 =>
              LdS w ⟨b34, o35 + Int.toNat (W (st30.1 - 1)) * 1, none⟩ fun x_36 =>
              Ix Rows_32.a Rows_32.l st30.1 fun b37 o38 =>
              St1 w ⟨b37, o38 + Int.toNat st30.1 * 1, none⟩ (.slice x_36.a x_36.l x_36.c) fun w =>
              Let (W (st30.1 - 1)) fun j_39 =>
              next31 (j_39, ()) w
            else
              J29 w) (j_23, ()) w)))
def T.C195 : CallT := (CallT.cons 192 T.c192 (CallT.cons 235 T.c235 (CallT.cons 269 T.c269 (CallT.cons 261 T.c261 CallT.nil))))
def T.A195 : Ann := fun i => bif Nat.beq i 15 then some ([2, 8, 10], [(12, 0)]) else none
set_option maxRecDepth 1000000 in
theorem T.eq195 (d : Nat) (d_o : Nat) (name : ByteArray) (row : Sl) (w : World) (K : Int → World → Prop) : denF Tryz.prog T.C195 T.A195 Tryz.f195 [.pointer (some ⟨d, d_o, none⟩), .string name, .slice row.a row.l row.c] w (fun v w' => match v with | .int .i64 r0 => K r0 w' | _ => False) = S.api_DB_Insert d d_o name row w K := by kernel_rfl
theorem T.CO195 : CallOk Tryz.prog T.C195 := (CallOk.cons 192 T.ok192 (CallOk.cons 235 T.ok235 (CallOk.cons 269 T.ok269 (CallOk.cons 261 T.ok261 CallOk.nil))))
def T.c195 (vs : List Value) (w : World) (K : Value → World → Prop) : Prop :=
  match vs with
  | [.pointer (some ⟨d, d_o, none⟩), .string name, .slice rowa rowl rowc] => S.api_DB_Insert d d_o name ⟨rowa, rowl, rowc⟩ w (fun r0 w' => K (.int .i64 r0) w')
  | _ => False
theorem T.ok195 : ∀ vs w K, T.c195 vs w K → (callFunc 195 vs.toArray).run Tryz.prog w = .ok (.enter 195 vs.toArray) w ∧ Calls Tryz.prog 195 vs.toArray w fun e w' => ∃ v, e = .returned v ∧ K v w' := by
  intro vs w K h
  unfold T.c195 at h
  split at h
  · refine ⟨Tryz.call195 _ _, ok_of T.CO195 mixed Tryz.func195 (T.eq195 _ _ _ _ _ _) h fun v w' hk => ⟨v, rfl, ?_⟩⟩
    split at hk
    · exact hk
    · exact hk.elim
  · exact h.elim

/-- (*e2e/api.Multi).Insert (function 96). -/
def S.api_Multi_Insert (m : Nat) (s_ : Int) (name : ByteArray) (row : Sl) (w : World) (K : Int → World → Prop) : Prop :=
  S.api_Multi_Take m s_ name 2 w (fun r1 w =>
  if (r1 != 0) = true then
    K r1 w
  else
    IxA 4 s_ <|
    S.api_DB_Insert m (17 + Int.toNat s_ * 1) name row w (fun r2 w =>
    K r2 w))
def T.C96 : CallT := (CallT.cons 194 T.c194 (CallT.cons 195 T.c195 CallT.nil))
def T.A96 : Ann := fun _ => none
set_option maxRecDepth 1000000 in
theorem T.eq96 (m : Nat) (s_ : Int) (name : ByteArray) (row : Sl) (w : World) (K : Int → World → Prop) : denF Tryz.prog T.C96 T.A96 Tryz.f96 [.pointer (some ⟨m, 0, none⟩), .int .i64 s_, .string name, .slice row.a row.l row.c] w (fun v w' => match v with | .int .i64 r0 => K r0 w' | _ => False) = S.api_Multi_Insert m s_ name row w K := by kernel_rfl
theorem T.CO96 : CallOk Tryz.prog T.C96 := (CallOk.cons 194 T.ok194 (CallOk.cons 195 T.ok195 CallOk.nil))
def T.c96 (vs : List Value) (w : World) (K : Value → World → Prop) : Prop :=
  match vs with
  | [.pointer (some ⟨m, 0, none⟩), .int .i64 s_, .string name, .slice rowa rowl rowc] => S.api_Multi_Insert m s_ name ⟨rowa, rowl, rowc⟩ w (fun r0 w' => K (.int .i64 r0) w')
  | _ => False
theorem T.ok96 : ∀ vs w K, T.c96 vs w K → (callFunc 96 vs.toArray).run Tryz.prog w = .ok (.enter 96 vs.toArray) w ∧ Calls Tryz.prog 96 vs.toArray w fun e w' => ∃ v, e = .returned v ∧ K v w' := by
  intro vs w K h
  unfold T.c96 at h
  split at h
  · refine ⟨Tryz.call96 _ _, ok_of T.CO96 mixed Tryz.func96 (T.eq96 _ _ _ _ _ _) h fun v w' hk => ⟨v, rfl, ?_⟩⟩
    split at hk
    · exact hk
    · exact hk.elim
  · exact h.elim

/-- e2e/querym.check (function 97). -/
def S.querym_check (sch_Name : ByteArray) (sch_Cols : Sl) (sch_PK : Int) (sch_Index : Int) (st_kind : Int) (st_table : ByteArray) (st_cols : Sl) (st_pk : Int) (st_names : Sl) (st_vals : Sl) (st_star : Bool) (st_where : Sl) (st_order : ByteArray) (st_desc : Bool) (st_hasLimit : Bool) (st_limit : Int) (w : World) (K : Int → World → Prop) : Prop :=
  New w (.cells #[.string sch_Name, .slice sch_Cols.a sch_Cols.l sch_Cols.c, .int .i64 sch_PK, .int .i64 sch_Index] 73) fun p1 w =>
  New w (.cells #[.int .i64 st_kind, .string st_table, .slice st_cols.a st_cols.l st_cols.c, .int .i64 st_pk, .slice st_names.a st_names.l st_names.c, .slice st_vals.a st_vals.l st_vals.c, .bool st_star, .slice st_where.a st_where.l st_where.c, .string st_order, .bool st_desc, .bool st_hasLimit, .int .i64 st_limit] 81) fun p2 w =>
  Join (fun (w : World) =>
    Join (fun (w : World) =>
      Join (fun (w : World) =>
        LdI .i64 w ⟨p2, 0, none⟩ fun kind_3 =>
        Join (fun (w : World) =>
          Join (fun (w : World) =>
            LdI .i64 w ⟨p2, 0, none⟩ fun kind_4 =>
            if (kind_4 == 9) = true then
              LoopP (σ := Int × Unit) (fun st5 w next6 =>
                LdS w ⟨p2, 5, none⟩ fun vals_7 =>
                if (decide (st5.1 < (vals_7.l : Int))) = true then
                  LdS w ⟨p2, 5, none⟩ fun vals_8 =>
                  Ix vals_8.a vals_8.l st5.1 fun b9 o10 =>
                  LdStr w ⟨b9, o10 + Int.toNat st5.1 * 3 + 2, none⟩ fun S_11 =>
                  if (decide ((S_11.size : Int) > 7)) = true then
                    K 16 w
                  else
                    Let (W (st5.1 + 1)) fun i_12 =>
                    next6 (i_12, ()) w
                else
                  K 0 w) (0, ()) w
            else
              K 0 w) fun J13 =>
          LoopP (σ := Int × Unit) (fun st14 w next15 =>
            LdS w ⟨p2, 7, none⟩ fun where_16 =>
            if (decide (st14.1 < (where_16.l : Int))) = true then
              Drew w fun w =>
              Hold w ⟨p2, 7, none⟩ 1 fun R17 =>
              LdS w ⟨p2, 7, none⟩ fun where_18 =>
              Ix where_18.a where_18.l st14.1 fun b19 o20 =>
              Hold w ⟨b19, o20 + Int.toNat st14.1 * 5 + 2, none⟩ 1 fun R21 =>
              LdB w ⟨b19, o20 + Int.toNat st14.1 * 5 + 2, none⟩ fun IsStr_22 =>
              Hold w ⟨p1, 1, none⟩ 1 fun R23 =>
              LdS w ⟨p1, 1, none⟩ fun Cols_24 =>
              LdStr w ⟨p1, 0, none⟩ fun Name_25 =>
              LdS w ⟨p1, 1, none⟩ fun Cols_26 =>
              LdI .i64 w ⟨p1, 2, none⟩ fun PK_27 =>
              LdI .i64 w ⟨p1, 3, none⟩ fun Index_28 =>
              LdS w ⟨p2, 7, none⟩ fun where_29 =>
              Ix where_29.a where_29.l st14.1 fun b30 o31 =>
              LdStr w ⟨b30, o31 + Int.toNat st14.1 * 5, none⟩ fun col_32 =>
              S.querym_colOf Name_25 Cols_26 PK_27 Index_28 col_32 w (fun r33 w =>
              After R23 w <|
              After R21 w <|
              After R17 w <|
              Ix Cols_24.a Cols_24.l r33 fun b34 o35 =>
              LdB w ⟨b34, o35 + Int.toNat r33 * 2 + 1, none⟩ fun IsStr_36 =>
              if (!(IsStr_22 == IsStr_36)) = true then
                K 15 w
              else
                Let (W (st14.1 + 1)) fun i_37 =>
                next15 (i_37, ()) w)
            else
              J13 w) (0, ()) w) fun J38 =>
        if (kind_3 == 9) = true then
          Join (fun (w : World) =>
            LoopP (σ := Int × Unit) (fun st39 w next40 =>
              LdS w ⟨p2, 4, none⟩ fun names_41 =>
              if (decide (st39.1 < (names_41.l : Int))) = true then
                Drew w fun w =>
                Hold w ⟨p2, 5, none⟩ 1 fun R42 =>
                LdS w ⟨p2, 5, none⟩ fun vals_43 =>
                Ix vals_43.a vals_43.l st39.1 fun b44 o45 =>
                Hold w ⟨b44, o45 + Int.toNat st39.1 * 3, none⟩ 1 fun R46 =>
                LdB w ⟨b44, o45 + Int.toNat st39.1 * 3, none⟩ fun IsStr_47 =>
                Hold w ⟨p1, 1, none⟩ 1 fun R48 =>
                LdS w ⟨p1, 1, none⟩ fun Cols_49 =>
                LdStr w ⟨p1, 0, none⟩ fun Name_50 =>
                LdS w ⟨p1, 1, none⟩ fun Cols_51 =>
                LdI .i64 w ⟨p1, 2, none⟩ fun PK_52 =>
                LdI .i64 w ⟨p1, 3, none⟩ fun Index_53 =>
                LdS w ⟨p2, 4, none⟩ fun names_54 =>
                Ix names_54.a names_54.l st39.1 fun b55 o56 =>
                LdStr w ⟨b55, o56 + Int.toNat st39.1 * 1, none⟩ fun x_57 =>
                S.querym_colOf Name_50 Cols_51 PK_52 Index_53 x_57 w (fun r58 w =>
                After R48 w <|
                After R46 w <|
                After R42 w <|
                Ix Cols_49.a Cols_49.l r58 fun b59 o60 =>
                LdB w ⟨b59, o60 + Int.toNat r58 * 2 + 1, none⟩ fun IsStr_61 =>
                if (!(IsStr_47 == IsStr_61)) = true then
                  K 15 w
                else
                  Let (W (st39.1 + 1)) fun i_62 =>
                  next40 (i_62, ()) w)
              else
                J38 w) (0, ()) w) fun J63 =>
          LoopP (σ := Int × Unit) (fun st64 w next65 =>
            LdS w ⟨p2, 4, none⟩ fun names_66 =>
            if (decide (st64.1 < (names_66.l : Int))) = true then
              Drew w fun w =>
              LdStr w ⟨p1, 0, none⟩ fun Name_67 =>
              LdS w ⟨p1, 1, none⟩ fun Cols_68 =>
              LdI .i64 w ⟨p1, 2, none⟩ fun PK_69 =>
              LdI .i64 w ⟨p1, 3, none⟩ fun Index_70 =>
              LdS w ⟨p2, 4, none⟩ fun names_71 =>
              Ix names_71.a names_71.l st64.1 fun b72 o73 =>
              LdStr w ⟨b72, o73 + Int.toNat st64.1 * 1, none⟩ fun x_74 =>
              Hold w ⟨p1, 2, none⟩ 1 fun R75 =>
              LdI .i64 w ⟨p1, 2, none⟩ fun PK_76 =>
              S.querym_colOf Name_67 Cols_68 PK_69 Index_70 x_74 w (fun r77 w =>
              After R75 w <|
              if (r77 == PK_76) = true then
                K 18 w
              else
                Let (W (st64.1 + 1)) fun i_78 =>
                next65 (i_78, ()) w)
            else
              J63 w) (0, ()) w
        else
          J38 w) fun J79 =>
      LdStr w ⟨p2, 8, none⟩ fun order_80 =>
      if (!(order_80.toList == (⟨#[]⟩ : ByteArray).toList)) = true then
        LdStr w ⟨p1, 0, none⟩ fun Name_81 =>
        LdS w ⟨p1, 1, none⟩ fun Cols_82 =>
        LdI .i64 w ⟨p1, 2, none⟩ fun PK_83 =>
        LdI .i64 w ⟨p1, 3, none⟩ fun Index_84 =>
        LdStr w ⟨p2, 8, none⟩ fun order_85 =>
        S.querym_colOf Name_81 Cols_82 PK_83 Index_84 order_85 w (fun r86 w =>
        if (decide (r86 < 0)) = true then
          K 14 w
        else
          J79 w)
      else
        J79 w) fun J87 =>
    LoopP (σ := Int × Unit) (fun st88 w next89 =>
      LdS w ⟨p2, 7, none⟩ fun where_90 =>
      if (decide (st88.1 < (where_90.l : Int))) = true then
        Drew w fun w =>
        LdStr w ⟨p1, 0, none⟩ fun Name_91 =>
        LdS w ⟨p1, 1, none⟩ fun Cols_92 =>
        LdI .i64 w ⟨p1, 2, none⟩ fun PK_93 =>
        LdI .i64 w ⟨p1, 3, none⟩ fun Index_94 =>
        LdS w ⟨p2, 7, none⟩ fun where_95 =>
        Ix where_95.a where_95.l st88.1 fun b96 o97 =>
        LdStr w ⟨b96, o97 + Int.toNat st88.1 * 5, none⟩ fun col_98 =>
        S.querym_colOf Name_91 Cols_92 PK_93 Index_94 col_98 w (fun r99 w =>
        if (decide (r99 < 0)) = true then
          K 14 w
        else
          Let (W (st88.1 + 1)) fun i_100 =>
          next89 (i_100, ()) w)
      else
        J87 w) (0, ()) w) fun J101 =>
  LoopP (σ := Int × Unit) (fun st102 w next103 =>
    LdS w ⟨p2, 4, none⟩ fun names_104 =>
    if (decide (st102.1 < (names_104.l : Int))) = true then
      Drew w fun w =>
      LdStr w ⟨p1, 0, none⟩ fun Name_105 =>
      LdS w ⟨p1, 1, none⟩ fun Cols_106 =>
      LdI .i64 w ⟨p1, 2, none⟩ fun PK_107 =>
      LdI .i64 w ⟨p1, 3, none⟩ fun Index_108 =>
      LdS w ⟨p2, 4, none⟩ fun names_109 =>
      Ix names_109.a names_109.l st102.1 fun b110 o111 =>
      LdStr w ⟨b110, o111 + Int.toNat st102.1 * 1, none⟩ fun x_112 =>
      S.querym_colOf Name_105 Cols_106 PK_107 Index_108 x_112 w (fun r113 w =>
      if (decide (r113 < 0)) = true then
        K 14 w
      else
        Let (W (st102.1 + 1)) fun i_114 =>
        next103 (i_114, ()) w)
    else
      J101 w) (0, ()) w
def T.C97 : CallT := (CallT.cons 94 T.c94 CallT.nil)
def T.A97 : Ann := fun i => bif Nat.beq i 2 then some ([2, 3], [(5, 0)]) else bif Nat.beq i 7 then some ([2, 3], [(6, 0)]) else bif Nat.beq i 15 then some ([2, 3], [(7, 0)]) else bif Nat.beq i 20 then some ([2, 3], [(8, 0)]) else bif Nat.beq i 25 then some ([2, 3], [(9, 0)]) else bif Nat.beq i 31 then some ([3], [(10, 0)]) else none
set_option maxRecDepth 1000000 in
theorem T.eq97 (sch_Name : ByteArray) (sch_Cols : Sl) (sch_PK : Int) (sch_Index : Int) (st_kind : Int) (st_table : ByteArray) (st_cols : Sl) (st_pk : Int) (st_names : Sl) (st_vals : Sl) (st_star : Bool) (st_where : Sl) (st_order : ByteArray) (st_desc : Bool) (st_hasLimit : Bool) (st_limit : Int) (w : World) (K : Int → World → Prop) : denF Tryz.prog T.C97 T.A97 Tryz.f97 [.agg #[.string sch_Name, .slice sch_Cols.a sch_Cols.l sch_Cols.c, .int .i64 sch_PK, .int .i64 sch_Index], .agg #[.int .i64 st_kind, .string st_table, .slice st_cols.a st_cols.l st_cols.c, .int .i64 st_pk, .slice st_names.a st_names.l st_names.c, .slice st_vals.a st_vals.l st_vals.c, .bool st_star, .slice st_where.a st_where.l st_where.c, .string st_order, .bool st_desc, .bool st_hasLimit, .int .i64 st_limit]] w (fun v w' => match v with | .int .i64 r0 => K r0 w' | _ => False) = S.querym_check sch_Name sch_Cols sch_PK sch_Index st_kind st_table st_cols st_pk st_names st_vals st_star st_where st_order st_desc st_hasLimit st_limit w K := by kernel_rfl
theorem T.CO97 : CallOk Tryz.prog T.C97 := (CallOk.cons 94 T.ok94 CallOk.nil)
def T.c97 (vs : List Value) (w : World) (K : Value → World → Prop) : Prop :=
  match vs with
  | [.agg ⟨[.string sch_Name, .slice sch_Colsa sch_Colsl sch_Colsc, .int .i64 sch_PK, .int .i64 sch_Index]⟩, .agg ⟨[.int .i64 st_kind, .string st_table, .slice st_colsa st_colsl st_colsc, .int .i64 st_pk, .slice st_namesa st_namesl st_namesc, .slice st_valsa st_valsl st_valsc, .bool st_star, .slice st_wherea st_wherel st_wherec, .string st_order, .bool st_desc, .bool st_hasLimit, .int .i64 st_limit]⟩] => S.querym_check sch_Name ⟨sch_Colsa, sch_Colsl, sch_Colsc⟩ sch_PK sch_Index st_kind st_table ⟨st_colsa, st_colsl, st_colsc⟩ st_pk ⟨st_namesa, st_namesl, st_namesc⟩ ⟨st_valsa, st_valsl, st_valsc⟩ st_star ⟨st_wherea, st_wherel, st_wherec⟩ st_order st_desc st_hasLimit st_limit w (fun r0 w' => K (.int .i64 r0) w')
  | _ => False
theorem T.ok97 : ∀ vs w K, T.c97 vs w K → (callFunc 97 vs.toArray).run Tryz.prog w = .ok (.enter 97 vs.toArray) w ∧ Calls Tryz.prog 97 vs.toArray w fun e w' => ∃ v, e = .returned v ∧ K v w' := by
  intro vs w K h
  unfold T.c97 at h
  split at h
  · refine ⟨Tryz.call97 _ _, ok_of T.CO97 mixed Tryz.func97 (T.eq97 _ _ _ _ _ _ _ _ _ _ _ _ _ _ _ _ _ _) h fun v w' hk => ⟨v, rfl, ?_⟩⟩
    split at hk
    · exact hk
    · exact hk.elim
  · exact h.elim

/-- e2e/api.SortRows (function 178). -/
def S.api_SortRows (r : Sl) (col : Int) (desc : Bool) (w : World) (K : World → Prop) : Prop :=
  LoopP (σ := Int × Unit) (fun st1 w next2 =>
    if (decide (st1.1 < (r.l : Int))) = true then
      Join (fun (w : World) =>
        Let (W (st1.1 + 1)) fun i_3 =>
        next2 (i_3, ()) w) fun J4 =>
      LoopP (σ := Int × Unit) (fun st5 w next6 =>
        if (decide (st5.1 > 0)) = true then
          Drew w fun w =>
          Ix r.a r.l (W (st5.1 - 1)) fun b7 o8 =>
          LdS w ⟨b7, o8 + Int.toNat (W (st5.1 - 1)) * 1, none⟩ fun x_9 =>
          Ix x_9.a x_9.l col fun b10 o11 =>
          LdB w ⟨b10, o11 + Int.toNat col * 3, none⟩ fun IsStr_12 =>
          LdI .i64 w ⟨b10, o11 + Int.toNat col * 3 + 1, none⟩ fun I_13 =>
          LdStr w ⟨b10, o11 + Int.toNat col * 3 + 2, none⟩ fun S_14 =>
          Ix r.a r.l st5.1 fun b15 o16 =>
          LdS w ⟨b15, o16 + Int.toNat st5.1 * 1, none⟩ fun x_17 =>
          Ix x_17.a x_17.l col fun b18 o19 =>
          LdB w ⟨b18, o19 + Int.toNat col * 3, none⟩ fun IsStr_20 =>
          LdI .i64 w ⟨b18, o19 + Int.toNat col * 3 + 1, none⟩ fun I_21 =>
          LdStr w ⟨b18, o19 + Int.toNat col * 3 + 2, none⟩ fun S_22 =>
          S.api_Cmp IsStr_12 I_13 S_14 IsStr_20 I_21 S_22 w (fun r23 w =>
          Join (fun (w : World) =>
            Drew w fun w =>
            Ix r.a r.l st5.1 fun b24 o25 =>
            LdS w ⟨b24, o25 + Int.toNat st5.1 * 1, none⟩ fun x_26 =>
            Ix r.a r.l (W (st5.1 - 1)) fun b27 o28 =>
            LdS w ⟨b27, o28 + Int.toNat (W (st5.1 - 1)) * 1, none⟩ fun x_29 =>
            Ix r.a r.l (W (st5.1 - 1)) fun b30 o31 =>
            St1 w ⟨b30, o31 + Int.toNat (W (st5.1 - 1)) * 1, none⟩ (.slice x_26.a x_26.l x_26.c) fun w =>
            Ix r.a r.l st5.1 fun b32 o33 =>
            St1 w ⟨b32, o33 + Int.toNat st5.1 * 1, none⟩ (.slice x_29.a x_29.l x_29.c) fun w =>
            Let (W (st5.1 - 1)) fun j_34 =>
            next6 (j_34, ()) w) fun J35 =>
          if (!desc) = true then
            if (decide (r23 ≤ 0)) = true then
              J4 w
            else
              if desc = true then
                if (decide (r23 ≥ 0)) = true then
                  J4 w
                else
                  J35 w
              else
                J35 w
          else
            if desc = true then
              if (decide (r23 ≥ 0)) = true then
                J4 w
              else
                J35 w
            else
              J35 w)
        else
          J4 w) (st1.1, ()) w
    else
      K w) (1, ()) w
def T.C178 : CallT := (CallT.cons 198 T.c198 CallT.nil)
def T.A178 : Ann := fun i => bif Nat.beq i 4 then some ([0, 1, 2, 6], [(7, 0)]) else bif Nat.beq i 1 then some ([0, 1, 2], [(6, 0)]) else none
set_option maxRecDepth 1000000 in
theorem T.eq178 (r : Sl) (col : Int) (desc : Bool) (w : World) (K : World → Prop) : denF Tryz.prog T.C178 T.A178 Tryz.f178 [.slice r.a r.l r.c, .int .i64 col, .bool desc] w (fun v w' => match v with | .tuple ⟨[]⟩ => K w' | _ => False) = S.api_SortRows r col desc w K := by kernel_rfl
theorem T.CO178 : CallOk Tryz.prog T.C178 := (CallOk.cons 198 T.ok198 CallOk.nil)
def T.c178 (vs : List Value) (w : World) (K : Value → World → Prop) : Prop :=
  match vs with
  | [.slice ra rl rc, .int .i64 col, .bool desc] => S.api_SortRows ⟨ra, rl, rc⟩ col desc w (fun w' => K (.tuple #[]) w')
  | _ => False
theorem T.ok178 : ∀ vs w K, T.c178 vs w K → (callFunc 178 vs.toArray).run Tryz.prog w = .ok (.enter 178 vs.toArray) w ∧ Calls Tryz.prog 178 vs.toArray w fun e w' => ∃ v, e = .returned v ∧ K v w' := by
  intro vs w K h
  unfold T.c178 at h
  split at h
  · refine ⟨Tryz.call178 _ _, ok_of T.CO178 mixed Tryz.func178 (T.eq178 _ _ _ _ _) h fun v w' hk => ⟨v, rfl, ?_⟩⟩
    split at hk
    · exact hk
    · exact hk.elim
  · exact h.elim

/-- (*e2e/api.DB).Scan (function 197). -/
def S.api_DB_Scan (d : Nat) (d_o : Nat) (name : ByteArray) (col : Int) (lo_Has : Bool) (lo_V_IsStr : Bool) (lo_V_I : Int) (lo_V_S : ByteArray) (hi_Has : Bool) (hi_V_IsStr : Bool) (hi_V_I : Int) (hi_V_S : ByteArray) (w : World) (K : Sl → Int → World → Prop) : Prop :=
  New w (.cells #[.bool lo_Has, .bool lo_V_IsStr, .int .i64 lo_V_I, .string lo_V_S] 179) fun p1 w =>
  New w (.cells #[.bool hi_Has, .bool hi_V_IsStr, .int .i64 hi_V_I, .string hi_V_S] 179) fun p2 w =>
  S.api_DB_Find d d_o name w (fun r3 w =>
  if (decide (r3 < 0)) = true then
    K ⟨none, 0, 0⟩ 10 w
  else
    LdS w ⟨d, d_o, none⟩ fun Tabs_4 =>
    Ix Tabs_4.a Tabs_4.l r3 fun b5 o6 =>
    if (decide (col < 0)) = true then
      K ⟨none, 0, 0⟩ 14 w
    else
      LdS w ⟨b5, o6 + Int.toNat r3 * 5 + 1, none⟩ fun Cols_7 =>
      if (decide (col ≥ (Cols_7.l : Int))) = true then
        K ⟨none, 0, 0⟩ 14 w
      else
        Join (fun (w : World) =>
          Join (fun (w : World) =>
            Join (fun (w : World) =>
              Join (fun (out_8 : Sl) (w : World) =>
                S.api_SortRows out_8 col false w (fun w =>
                K out_8 0 w)) fun J9 =>
              LoopP (σ := Sl × Int × Unit) (fun st10 w next11 =>
                LdS w ⟨b5, o6 + Int.toNat r3 * 5 + 4, none⟩ fun Rows_12 =>
                if (decide (st10.2.1 < (Rows_12.l : Int))) = true then
                  Join (fun (out_13 : Sl) (w : World) =>
                    Let (W (st10.2.1 + 1)) fun j_14 =>
                    next11 (out_13, j_14, ()) w) fun J15 =>
                  LdS w ⟨b5, o6 + Int.toNat r3 * 5 + 4, none⟩ fun Rows_16 =>
                  Ix Rows_16.a Rows_16.l st10.2.1 fun b17 o18 =>
                  LdS w ⟨b17, o18 + Int.toNat st10.2.1 * 1, none⟩ fun x_19 =>
                  Ix x_19.a x_19.l col fun b20 o21 =>
                  LdB w ⟨b20, o21 + Int.toNat col * 3, none⟩ fun IsStr_22 =>
                  LdI .i64 w ⟨b20, o21 + Int.toNat col * 3 + 1, none⟩ fun I_23 =>
                  LdStr w ⟨b20, o21 + Int.toNat col * 3 + 2, none⟩ fun S_24 =>
                  New w (.cells #[.bool false, .int .i64 0, .string ⟨#[]⟩] 167) fun p25 w =>
                  St1 w ⟨p25, 0, none⟩ (.bool IsStr_22) fun w =>
                  St1 w ⟨p25, 1, none⟩ (.int .i64 I_23) fun w =>
                  St1 w ⟨p25, 2, none⟩ (.string S_24) fun w =>
                  LdB w ⟨p1, 0, none⟩ fun Has_26 =>
                  Join (fun (in_27 : Bool) (w : World) =>
                    Join (fun (in_28 : Bool) (w : World) =>
                      if in_28 = true then
                        LdS w ⟨b5, o6 + Int.toNat r3 * 5 + 4, none⟩ fun Rows_29 =>
                        Ix Rows_29.a Rows_29.l st10.2.1 fun b30 o31 =>
                        LdS w ⟨b30, o31 + Int.toNat st10.2.1 * 1, none⟩ fun x_32 =>
                        S.api_CloneRow x_32 w (fun r33 w =>
                        New w (.cells #[.slice r33.a r33.l r33.c] 61) fun p34 w =>
                        AppS 61 [.slice none 0 0] 24 1 w st10.1 ⟨some ⟨p34, 0, none⟩, 1, 1⟩ fun l35 w =>
                        J15 l35 w)
                      else
                        J15 st10.1 w) fun J36 =>
                    if in_27 = true then
                      LdB w ⟨p2, 0, none⟩ fun Has_37 =>
                      if Has_37 = true then
                        LdB w ⟨p25, 0, none⟩ fun IsStr_38 =>
                        LdI .i64 w ⟨p25, 1, none⟩ fun I_39 =>
                        LdStr w ⟨p25, 2, none⟩ fun S_40 =>
                        LdB w ⟨p2, 1, none⟩ fun IsStr_41 =>
                        LdI .i64 w ⟨p2, 2, none⟩ fun I_42 =>
                        LdStr w ⟨p2, 3, none⟩ fun S_43 =>
                        S.api_Cmp IsStr_38 I_39 S_40 IsStr_41 I_42 S_43 w (fun r44 w =>
                        Let (decide (r44 ≤ 0)) fun in_45 =>
                        J36 in_45 w)
                      else
                        J36 in_27 w
                    else
                      J36 in_27 w) fun J46 =>
                  if Has_26 = true then
                    LdB w ⟨p25, 0, none⟩ fun IsStr_47 =>
                    LdI .i64 w ⟨p25, 1, none⟩ fun I_48 =>
                    LdStr w ⟨p25, 2, none⟩ fun S_49 =>
                    LdB w ⟨p1, 1, none⟩ fun IsStr_50 =>
                    LdI .i64 w ⟨p1, 2, none⟩ fun I_51 =>
                    LdStr w ⟨p1, 3, none⟩ fun S_52 =>
                    S.api_Cmp IsStr_47 I_48 S_49 IsStr_50 I_51 S_52 w (fun r53 w =>
                    Let (decide (r53 ≥ 0)) fun in_54 =>
                    J46 in_54 w)
                  else
                    J46 true w
                else
                  J9 st10.1 w) (⟨none, 0, 0⟩, 0, ()) w) fun J55 =>
            LdB w ⟨p1, 0, none⟩ fun Has_56 =>
            if Has_56 = true then
              LdStr w ⟨p1, 3, none⟩ fun S_57 =>
              if (decide ((S_57.size : Int) > 7)) = true then
                K ⟨none, 0, 0⟩ 16 w
              else
                LdB w ⟨p2, 0, none⟩ fun Has_58 =>
                if Has_58 = true then
                  LdStr w ⟨p2, 3, none⟩ fun S_59 =>
                  if (decide ((S_59.size : Int) > 7)) = true then
                    K ⟨none, 0, 0⟩ 16 w
                  else
                    J55 w
                else
                  J55 w
            else
              LdB w ⟨p2, 0, none⟩ fun Has_60 =>
              if Has_60 = true then
                LdStr w ⟨p2, 3, none⟩ fun S_61 =>
                if (decide ((S_61.size : Int) > 7)) = true then
                  K ⟨none, 0, 0⟩ 16 w
                else
                  J55 w
              else
                J55 w) fun J62 =>
          Drew w fun w =>
          LdB w ⟨p1, 0, none⟩ fun Has_63 =>
          if Has_63 = true then
            LdB w ⟨p1, 1, none⟩ fun IsStr_64 =>
            LdS w ⟨b5, o6 + Int.toNat r3 * 5 + 1, none⟩ fun Cols_65 =>
            Ix Cols_65.a Cols_65.l col fun b66 o67 =>
            LdB w ⟨b66, o67 + Int.toNat col * 2 + 1, none⟩ fun IsStr_68 =>
            if (!(IsStr_64 == IsStr_68)) = true then
              K ⟨none, 0, 0⟩ 15 w
            else
              LdB w ⟨p2, 0, none⟩ fun Has_69 =>
              if Has_69 = true then
                LdB w ⟨p2, 1, none⟩ fun IsStr_70 =>
                LdS w ⟨b5, o6 + Int.toNat r3 * 5 + 1, none⟩ fun Cols_71 =>
                Ix Cols_71.a Cols_71.l col fun b72 o73 =>
                LdB w ⟨b72, o73 + Int.toNat col * 2 + 1, none⟩ fun IsStr_74 =>
                if (!(IsStr_70 == IsStr_74)) = true then
                  K ⟨none, 0, 0⟩ 15 w
                else
                  J62 w
              else
                J62 w
          else
            LdB w ⟨p2, 0, none⟩ fun Has_75 =>
            if Has_75 = true then
              LdB w ⟨p2, 1, none⟩ fun IsStr_76 =>
              LdS w ⟨b5, o6 + Int.toNat r3 * 5 + 1, none⟩ fun Cols_77 =>
              Ix Cols_77.a Cols_77.l col fun b78 o79 =>
              LdB w ⟨b78, o79 + Int.toNat col * 2 + 1, none⟩ fun IsStr_80 =>
              if (!(IsStr_76 == IsStr_80)) = true then
                K ⟨none, 0, 0⟩ 15 w
              else
                J62 w
            else
              J62 w) fun J81 =>
        LdI .i64 w ⟨b5, o6 + Int.toNat r3 * 5 + 2, none⟩ fun PK_82 =>
        if (col != PK_82) = true then
          LdI .i64 w ⟨b5, o6 + Int.toNat r3 * 5 + 3, none⟩ fun Index_83 =>
          if (col != Index_83) = true then
            K ⟨none, 0, 0⟩ 19 w
          else
            J81 w
        else
          J81 w)
def T.C197 : CallT := (CallT.cons 192 T.c192 (CallT.cons 178 T.c178 (CallT.cons 261 T.c261 (CallT.cons 198 T.c198 CallT.nil))))
def T.A197 : Ann := fun i => bif Nat.beq i 15 then some ([2, 8, 9, 13], [(14, 6), (15, 0)]) else none
set_option maxRecDepth 1000000 in
theorem T.eq197 (d : Nat) (d_o : Nat) (name : ByteArray) (col : Int) (lo_Has : Bool) (lo_V_IsStr : Bool) (lo_V_I : Int) (lo_V_S : ByteArray) (hi_Has : Bool) (hi_V_IsStr : Bool) (hi_V_I : Int) (hi_V_S : ByteArray) (w : World) (K : Sl → Int → World → Prop) : denF Tryz.prog T.C197 T.A197 Tryz.f197 [.pointer (some ⟨d, d_o, none⟩), .string name, .int .i64 col, .agg #[.bool lo_Has, .bool lo_V_IsStr, .int .i64 lo_V_I, .string lo_V_S], .agg #[.bool hi_Has, .bool hi_V_IsStr, .int .i64 hi_V_I, .string hi_V_S]] w (fun v w' => match v with | .tuple ⟨[.slice r0a r0l r0c, .int .i64 r1]⟩ => K ⟨r0a, r0l, r0c⟩ r1 w' | _ => False) = S.api_DB_Scan d d_o name col lo_Has lo_V_IsStr lo_V_I lo_V_S hi_Has hi_V_IsStr hi_V_I hi_V_S w K := by kernel_rfl
theorem T.CO197 : CallOk Tryz.prog T.C197 := (CallOk.cons 192 T.ok192 (CallOk.cons 178 T.ok178 (CallOk.cons 261 T.ok261 (CallOk.cons 198 T.ok198 CallOk.nil))))
def T.c197 (vs : List Value) (w : World) (K : Value → World → Prop) : Prop :=
  match vs with
  | [.pointer (some ⟨d, d_o, none⟩), .string name, .int .i64 col, .agg ⟨[.bool lo_Has, .bool lo_V_IsStr, .int .i64 lo_V_I, .string lo_V_S]⟩, .agg ⟨[.bool hi_Has, .bool hi_V_IsStr, .int .i64 hi_V_I, .string hi_V_S]⟩] => S.api_DB_Scan d d_o name col lo_Has lo_V_IsStr lo_V_I lo_V_S hi_Has hi_V_IsStr hi_V_I hi_V_S w (fun r0 r1 w' => K (.tuple #[.slice r0.a r0.l r0.c, .int .i64 r1]) w')
  | _ => False
theorem T.ok197 : ∀ vs w K, T.c197 vs w K → (callFunc 197 vs.toArray).run Tryz.prog w = .ok (.enter 197 vs.toArray) w ∧ Calls Tryz.prog 197 vs.toArray w fun e w' => ∃ v, e = .returned v ∧ K v w' := by
  intro vs w K h
  unfold T.c197 at h
  split at h
  · refine ⟨Tryz.call197 _ _, ok_of T.CO197 mixed Tryz.func197 (T.eq197 _ _ _ _ _ _ _ _ _ _ _ _ _ _) h fun v w' hk => ⟨v, rfl, ?_⟩⟩
    split at hk
    · exact hk
    · exact hk.elim
  · exact h.elim

/-- (*e2e/api.Multi).Scan (function 98). -/
def S.api_Multi_Scan (m : Nat) (s_ : Int) (name : ByteArray) (col : Int) (lo_Has : Bool) (lo_V_IsStr : Bool) (lo_V_I : Int) (lo_V_S : ByteArray) (hi_Has : Bool) (hi_V_IsStr : Bool) (hi_V_I : Int) (hi_V_S : ByteArray) (w : World) (K : Sl → Int → World → Prop) : Prop :=
  New w (.cells #[.bool lo_Has, .bool lo_V_IsStr, .int .i64 lo_V_I, .string lo_V_S] 179) fun p1 w =>
  New w (.cells #[.bool hi_Has, .bool hi_V_IsStr, .int .i64 hi_V_I, .string hi_V_S] 179) fun p2 w =>
  S.api_Multi_Take m s_ name 1 w (fun r3 w =>
  if (r3 != 0) = true then
    K ⟨none, 0, 0⟩ r3 w
  else
    S.api_Multi_seen m s_ name w (fun r4 r4_o w =>
    LdB w ⟨p1, 0, none⟩ fun Has_5 =>
    LdB w ⟨p1, 1, none⟩ fun V_IsStr_6 =>
    LdI .i64 w ⟨p1, 2, none⟩ fun V_I_7 =>
    LdStr w ⟨p1, 3, none⟩ fun V_S_8 =>
    LdB w ⟨p2, 0, none⟩ fun Has_9 =>
    LdB w ⟨p2, 1, none⟩ fun V_IsStr_10 =>
    LdI .i64 w ⟨p2, 2, none⟩ fun V_I_11 =>
    LdStr w ⟨p2, 3, none⟩ fun V_S_12 =>
    S.api_DB_Scan r4 r4_o name col Has_5 V_IsStr_6 V_I_7 V_S_8 Has_9 V_IsStr_10 V_I_11 V_S_12 w (fun r13 r14 w =>
    K r13 r14 w)))
def T.C98 : CallT := (CallT.cons 194 T.c194 (CallT.cons 196 T.c196 (CallT.cons 197 T.c197 CallT.nil)))
def T.A98 : Ann := fun _ => none
set_option maxRecDepth 1000000 in
theorem T.eq98 (m : Nat) (s_ : Int) (name : ByteArray) (col : Int) (lo_Has : Bool) (lo_V_IsStr : Bool) (lo_V_I : Int) (lo_V_S : ByteArray) (hi_Has : Bool) (hi_V_IsStr : Bool) (hi_V_I : Int) (hi_V_S : ByteArray) (w : World) (K : Sl → Int → World → Prop) : denF Tryz.prog T.C98 T.A98 Tryz.f98 [.pointer (some ⟨m, 0, none⟩), .int .i64 s_, .string name, .int .i64 col, .agg #[.bool lo_Has, .bool lo_V_IsStr, .int .i64 lo_V_I, .string lo_V_S], .agg #[.bool hi_Has, .bool hi_V_IsStr, .int .i64 hi_V_I, .string hi_V_S]] w (fun v w' => match v with | .tuple ⟨[.slice r0a r0l r0c, .int .i64 r1]⟩ => K ⟨r0a, r0l, r0c⟩ r1 w' | _ => False) = S.api_Multi_Scan m s_ name col lo_Has lo_V_IsStr lo_V_I lo_V_S hi_Has hi_V_IsStr hi_V_I hi_V_S w K := by kernel_rfl
theorem T.CO98 : CallOk Tryz.prog T.C98 := (CallOk.cons 194 T.ok194 (CallOk.cons 196 T.ok196 (CallOk.cons 197 T.ok197 CallOk.nil)))
def T.c98 (vs : List Value) (w : World) (K : Value → World → Prop) : Prop :=
  match vs with
  | [.pointer (some ⟨m, 0, none⟩), .int .i64 s_, .string name, .int .i64 col, .agg ⟨[.bool lo_Has, .bool lo_V_IsStr, .int .i64 lo_V_I, .string lo_V_S]⟩, .agg ⟨[.bool hi_Has, .bool hi_V_IsStr, .int .i64 hi_V_I, .string hi_V_S]⟩] => S.api_Multi_Scan m s_ name col lo_Has lo_V_IsStr lo_V_I lo_V_S hi_Has hi_V_IsStr hi_V_I hi_V_S w (fun r0 r1 w' => K (.tuple #[.slice r0.a r0.l r0.c, .int .i64 r1]) w')
  | _ => False
theorem T.ok98 : ∀ vs w K, T.c98 vs w K → (callFunc 98 vs.toArray).run Tryz.prog w = .ok (.enter 98 vs.toArray) w ∧ Calls Tryz.prog 98 vs.toArray w fun e w' => ∃ v, e = .returned v ∧ K v w' := by
  intro vs w K h
  unfold T.c98 at h
  split at h
  · refine ⟨Tryz.call98 _ _, ok_of T.CO98 mixed Tryz.func98 (T.eq98 _ _ _ _ _ _ _ _ _ _ _ _ _ _) h fun v w' hk => ⟨v, rfl, ?_⟩⟩
    split at hk
    · exact hk
    · exact hk.elim
  · exact h.elim

/-- e2e/querym.project (function 100). -/
def S.querym_project (sch_Name : ByteArray) (sch_Cols : Sl) (sch_PK : Int) (sch_Index : Int) (st_kind : Int) (st_table : ByteArray) (st_cols : Sl) (st_pk : Int) (st_names : Sl) (st_vals : Sl) (st_star : Bool) (st_where : Sl) (st_order : ByteArray) (st_desc : Bool) (st_hasLimit : Bool) (st_limit : Int) (hit : Sl) (w : World) (K : Int → Int → Sl → Sl → World → Prop) : Prop :=
  New w (.cells #[.string sch_Name, .slice sch_Cols.a sch_Cols.l sch_Cols.c, .int .i64 sch_PK, .int .i64 sch_Index] 73) fun p1 w =>
  New w (.cells #[.int .i64 st_kind, .string st_table, .slice st_cols.a st_cols.l st_cols.c, .int .i64 st_pk, .slice st_names.a st_names.l st_names.c, .slice st_vals.a st_vals.l st_vals.c, .bool st_star, .slice st_where.a st_where.l st_where.c, .string st_order, .bool st_desc, .bool st_hasLimit, .int .i64 st_limit] 81) fun p2 w =>
  New w (.cells #[.int .i64 0, .int .i64 0, .slice none 0 0, .slice none 0 0] 36) fun p3 w =>
  LdStr w ⟨p2, 8, none⟩ fun order_4 =>
  Join (fun (w : World) =>
    LdB w ⟨p2, 10, none⟩ fun hasLimit_5 =>
    Join (fun (hit_6 : Sl) (w : World) =>
      LdS w ⟨p2, 4, none⟩ fun names_7 =>
      LdB w ⟨p2, 6, none⟩ fun star_8 =>
      Join (fun (names_9 : Sl) (w : World) =>
        New w (.cells #[.int .i64 0, .int .i64 0, .slice none 0 0, .slice none 0 0] 36) fun p10 w =>
        St1 w ⟨p10, 0, none⟩ (.int .i64 0) fun w =>
        St1 w ⟨p10, 1, none⟩ (.int .i64 (hit_6.l : Int)) fun w =>
        St1 w ⟨p10, 2, none⟩ (.slice names_9.a names_9.l names_9.c) fun w =>
        St1 w ⟨p10, 3, none⟩ (.slice none 0 0) fun w =>
        LoopP (σ := Int × Unit) (fun st11 w next12 =>
          if (decide (st11.1 < (hit_6.l : Int))) = true then
            Join (fun (row_13 : Sl) (w : World) =>
              LdS w ⟨p10, 3, none⟩ fun Rows_14 =>
              New w (.cells #[.slice row_13.a row_13.l row_13.c] 61) fun p15 w =>
              AppS 61 [.slice none 0 0] 24 1 w Rows_14 ⟨some ⟨p15, 0, none⟩, 1, 1⟩ fun l16 w =>
              St1 w ⟨p10, 3, none⟩ (.slice l16.a l16.l l16.c) fun w =>
              Let (W (st11.1 + 1)) fun i_17 =>
              next12 (i_17, ()) w) fun J18 =>
            LoopP (σ := Sl × Int × Unit) (fun st19 w next20 =>
              if (decide (st19.2.1 < (names_9.l : Int))) = true then
                Drew w fun w =>
                Ix hit_6.a hit_6.l st11.1 fun b21 o22 =>
                Hold w ⟨b21, o22 + Int.toNat st11.1 * 1, none⟩ 1 fun R23 =>
                LdS w ⟨b21, o22 + Int.toNat st11.1 * 1, none⟩ fun Rows_24 =>
                LdStr w ⟨p1, 0, none⟩ fun Name_25 =>
                LdS w ⟨p1, 1, none⟩ fun Cols_26 =>
                LdI .i64 w ⟨p1, 2, none⟩ fun PK_27 =>
                LdI .i64 w ⟨p1, 3, none⟩ fun Index_28 =>
                Ix names_9.a names_9.l st19.2.1 fun b29 o30 =>
                LdStr w ⟨b29, o30 + Int.toNat st19.2.1 * 1, none⟩ fun x_31 =>
                S.querym_colOf Name_25 Cols_26 PK_27 Index_28 x_31 w (fun r32 w =>
                After R23 w <|
                Ix Rows_24.a Rows_24.l r32 fun b33 o34 =>
                LdB w ⟨b33, o34 + Int.toNat r32 * 3, none⟩ fun IsStr_35 =>
                LdI .i64 w ⟨b33, o34 + Int.toNat r32 * 3 + 1, none⟩ fun I_36 =>
                LdStr w ⟨b33, o34 + Int.toNat r32 * 3 + 2, none⟩ fun S_37 =>
                New w (.cells #[.bool IsStr_35, .int .i64 I_36, .string S_37] 167) fun p38 w =>
                AppS 167 [.bool false, .int .i64 0, .string ⟨#[]⟩] 32 3 w st19.1 ⟨some ⟨p38, 0, none⟩, 1, 1⟩ fun l39 w =>
                Let (W (st19.2.1 + 1)) fun j_40 =>
                next20 (l39, j_40, ()) w)
              else
                J18 st19.1 w) (⟨none, 0, 0⟩, 0, ()) w
          else
            LdI .i64 w ⟨p10, 0, none⟩ fun Err_41 =>
            LdI .i64 w ⟨p10, 1, none⟩ fun N_42 =>
            LdS w ⟨p10, 2, none⟩ fun Cols_43 =>
            LdS w ⟨p10, 3, none⟩ fun Rows_44 =>
            St1 w ⟨p3, 0, none⟩ (.int .i64 Err_41) fun w =>
            St1 w ⟨p3, 1, none⟩ (.int .i64 N_42) fun w =>
            St1 w ⟨p3, 2, none⟩ (.slice Cols_43.a Cols_43.l Cols_43.c) fun w =>
            St1 w ⟨p3, 3, none⟩ (.slice Rows_44.a Rows_44.l Rows_44.c) fun w =>
            LdI .i64 w ⟨p3, 0, none⟩ fun Err_45 =>
            LdI .i64 w ⟨p3, 1, none⟩ fun N_46 =>
            LdS w ⟨p3, 2, none⟩ fun Cols_47 =>
            LdS w ⟨p3, 3, none⟩ fun Rows_48 =>
            K Err_45 N_46 Cols_47 Rows_48 w) (0, ()) w) fun J49 =>
      if star_8 = true then
        LoopP (σ := Sl × Int × Unit) (fun st50 w next51 =>
          LdS w ⟨p1, 1, none⟩ fun Cols_52 =>
          if (decide (st50.2.1 < (Cols_52.l : Int))) = true then
            LdS w ⟨p1, 1, none⟩ fun Cols_53 =>
            Ix Cols_53.a Cols_53.l st50.2.1 fun b54 o55 =>
            LdStr w ⟨b54, o55 + Int.toNat st50.2.1 * 2, none⟩ fun Name_56 =>
            New w (.cells #[.string Name_56] 9) fun p57 w =>
            AppS 9 [.string ⟨#[]⟩] 16 1 w st50.1 ⟨some ⟨p57, 0, none⟩, 1, 1⟩ fun l58 w =>
            Let (W (st50.2.1 + 1)) fun i_59 =>
            next51 (l58, i_59, ()) w
          else
            J49 st50.1 w) (⟨none, 0, 0⟩, 0, ()) w
      else
        J49 names_7 w) fun J60 =>
    if hasLimit_5 = true then
      LdI .i64 w ⟨p2, 11, none⟩ fun limit_61 =>
      if (decide (limit_61 < 0)) = true then
        J60 ⟨none, 0, 0⟩ w
      else
        LdI .i64 w ⟨p2, 11, none⟩ fun limit_62 =>
        if (decide (limit_62 < (hit.l : Int))) = true then
          LdI .i64 w ⟨p2, 11, none⟩ fun limit_63 =>
          CutS 1 hit 0 limit_63 (hit.c : Int) fun l64 =>
          J60 l64 w
        else
          J60 hit w
    else
      J60 hit w) fun J65 =>
  if (!(order_4.toList == (⟨#[]⟩ : ByteArray).toList)) = true then
    LdStr w ⟨p1, 0, none⟩ fun Name_66 =>
    LdS w ⟨p1, 1, none⟩ fun Cols_67 =>
    LdI .i64 w ⟨p1, 2, none⟩ fun PK_68 =>
    LdI .i64 w ⟨p1, 3, none⟩ fun Index_69 =>
    LdStr w ⟨p2, 8, none⟩ fun order_70 =>
    S.querym_colOf Name_66 Cols_67 PK_68 Index_69 order_70 w (fun r71 w =>
    LdB w ⟨p2, 9, none⟩ fun desc_72 =>
    S.api_SortRows hit r71 desc_72 w (fun w =>
    J65 w))
  else
    J65 w
def T.C100 : CallT := (CallT.cons 94 T.c94 (CallT.cons 178 T.c178 CallT.nil))
def T.A100 : Ann := fun i => bif Nat.beq i 1000007 then some ([], [(2, 6), (3, 5), (4, 5), (6, 5)]) else bif Nat.beq i 13 then some ([2, 3, 6], [(8, 6), (9, 0)]) else bif Nat.beq i 22 then some ([2, 3, 6, 8, 10, 11], [(12, 6), (13, 0)]) else bif Nat.beq i 18 then some ([2, 3, 6, 8, 10], [(11, 0)]) else none
set_option maxRecDepth 1000000 in
theorem T.eq100 (sch_Name : ByteArray) (sch_Cols : Sl) (sch_PK : Int) (sch_Index : Int) (st_kind : Int) (st_table : ByteArray) (st_cols : Sl) (st_pk : Int) (st_names : Sl) (st_vals : Sl) (st_star : Bool) (st_where : Sl) (st_order : ByteArray) (st_desc : Bool) (st_hasLimit : Bool) (st_limit : Int) (hit : Sl) (w : World) (K : Int → Int → Sl → Sl → World → Prop) : denF Tryz.prog T.C100 T.A100 Tryz.f100 [.agg #[.string sch_Name, .slice sch_Cols.a sch_Cols.l sch_Cols.c, .int .i64 sch_PK, .int .i64 sch_Index], .agg #[.int .i64 st_kind, .string st_table, .slice st_cols.a st_cols.l st_cols.c, .int .i64 st_pk, .slice st_names.a st_names.l st_names.c, .slice st_vals.a st_vals.l st_vals.c, .bool st_star, .slice st_where.a st_where.l st_where.c, .string st_order, .bool st_desc, .bool st_hasLimit, .int .i64 st_limit], .slice hit.a hit.l hit.c] w (fun v w' => match v with | .agg ⟨[.int .i64 r0, .int .i64 r1, .slice r2a r2l r2c, .slice r3a r3l r3c]⟩ => K r0 r1 ⟨r2a, r2l, r2c⟩ ⟨r3a, r3l, r3c⟩ w' | _ => False) = S.querym_project sch_Name sch_Cols sch_PK sch_Index st_kind st_table st_cols st_pk st_names st_vals st_star st_where st_order st_desc st_hasLimit st_limit hit w K := by kernel_rfl
theorem T.CO100 : CallOk Tryz.prog T.C100 := (CallOk.cons 94 T.ok94 (CallOk.cons 178 T.ok178 CallOk.nil))
def T.c100 (vs : List Value) (w : World) (K : Value → World → Prop) : Prop :=
  match vs with
  | [.agg ⟨[.string sch_Name, .slice sch_Colsa sch_Colsl sch_Colsc, .int .i64 sch_PK, .int .i64 sch_Index]⟩, .agg ⟨[.int .i64 st_kind, .string st_table, .slice st_colsa st_colsl st_colsc, .int .i64 st_pk, .slice st_namesa st_namesl st_namesc, .slice st_valsa st_valsl st_valsc, .bool st_star, .slice st_wherea st_wherel st_wherec, .string st_order, .bool st_desc, .bool st_hasLimit, .int .i64 st_limit]⟩, .slice hita hitl hitc] => S.querym_project sch_Name ⟨sch_Colsa, sch_Colsl, sch_Colsc⟩ sch_PK sch_Index st_kind st_table ⟨st_colsa, st_colsl, st_colsc⟩ st_pk ⟨st_namesa, st_namesl, st_namesc⟩ ⟨st_valsa, st_valsl, st_valsc⟩ st_star ⟨st_wherea, st_wherel, st_wherec⟩ st_order st_desc st_hasLimit st_limit ⟨hita, hitl, hitc⟩ w (fun r0 r1 r2 r3 w' => K (.agg #[.int .i64 r0, .int .i64 r1, .slice r2.a r2.l r2.c, .slice r3.a r3.l r3.c]) w')
  | _ => False
theorem T.ok100 : ∀ vs w K, T.c100 vs w K → (callFunc 100 vs.toArray).run Tryz.prog w = .ok (.enter 100 vs.toArray) w ∧ Calls Tryz.prog 100 vs.toArray w fun e w' => ∃ v, e = .returned v ∧ K v w' := by
  intro vs w K h
  unfold T.c100 at h
  split at h
  · refine ⟨Tryz.call100 _ _, ok_of T.CO100 mixed Tryz.func100 (T.eq100 _ _ _ _ _ _ _ _ _ _ _ _ _ _ _ _ _ _ _) h fun v w' hk => ⟨v, rfl, ?_⟩⟩
    split at hk
    · exact hk
    · exact hk.elim
  · exact h.elim

/-- e2e/api.CheckVal (function 231). -/
def S.api_CheckVal (s_Name : ByteArray) (s_Cols : Sl) (s_PK : Int) (s_Index : Int) (c : Int) (v_IsStr : Bool) (v_I : Int) (v_S : ByteArray) (w : World) (K : Int → World → Prop) : Prop :=
  New w (.cells #[.string s_Name, .slice s_Cols.a s_Cols.l s_Cols.c, .int .i64 s_PK, .int .i64 s_Index] 73) fun p1 w =>
  New w (.cells #[.bool v_IsStr, .int .i64 v_I, .string v_S] 167) fun p2 w =>
  Drew w fun w =>
  LdB w ⟨p2, 0, none⟩ fun IsStr_3 =>
  LdS w ⟨p1, 1, none⟩ fun Cols_4 =>
  Ix Cols_4.a Cols_4.l c fun b5 o6 =>
  LdB w ⟨b5, o6 + Int.toNat c * 2 + 1, none⟩ fun IsStr_7 =>
  if (!(IsStr_3 == IsStr_7)) = true then
    K 15 w
  else
    LdStr w ⟨p2, 2, none⟩ fun S_8 =>
    if (decide ((S_8.size : Int) > 7)) = true then
      K 16 w
    else
      K 0 w
def T.C231 : CallT := CallT.nil
def T.A231 : Ann := fun _ => none
set_option maxRecDepth 1000000 in
theorem T.eq231 (s_Name : ByteArray) (s_Cols : Sl) (s_PK : Int) (s_Index : Int) (c : Int) (v_IsStr : Bool) (v_I : Int) (v_S : ByteArray) (w : World) (K : Int → World → Prop) : denF Tryz.prog T.C231 T.A231 Tryz.f231 [.agg #[.string s_Name, .slice s_Cols.a s_Cols.l s_Cols.c, .int .i64 s_PK, .int .i64 s_Index], .int .i64 c, .agg #[.bool v_IsStr, .int .i64 v_I, .string v_S]] w (fun v w' => match v with | .int .i64 r0 => K r0 w' | _ => False) = S.api_CheckVal s_Name s_Cols s_PK s_Index c v_IsStr v_I v_S w K := by kernel_rfl
theorem T.CO231 : CallOk Tryz.prog T.C231 := CallOk.nil
def T.c231 (vs : List Value) (w : World) (K : Value → World → Prop) : Prop :=
  match vs with
  | [.agg ⟨[.string s_Name, .slice s_Colsa s_Colsl s_Colsc, .int .i64 s_PK, .int .i64 s_Index]⟩, .int .i64 c, .agg ⟨[.bool v_IsStr, .int .i64 v_I, .string v_S]⟩] => S.api_CheckVal s_Name ⟨s_Colsa, s_Colsl, s_Colsc⟩ s_PK s_Index c v_IsStr v_I v_S w (fun r0 w' => K (.int .i64 r0) w')
  | _ => False
theorem T.ok231 : ∀ vs w K, T.c231 vs w K → (callFunc 231 vs.toArray).run Tryz.prog w = .ok (.enter 231 vs.toArray) w ∧ Calls Tryz.prog 231 vs.toArray w fun e w' => ∃ v, e = .returned v ∧ K v w' := by
  intro vs w K h
  unfold T.c231 at h
  split at h
  · refine ⟨Tryz.call231 _ _, ok_of T.CO231 mixed Tryz.func231 (T.eq231 _ _ _ _ _ _ _ _ _ _) h fun v w' hk => ⟨v, rfl, ?_⟩⟩
    split at hk
    · exact hk
    · exact hk.elim
  · exact h.elim

/-- (*e2e/api.DB).Delete (function 200). -/
def S.api_DB_Delete (d : Nat) (d_o : Nat) (name : ByteArray) (key_IsStr : Bool) (key_I : Int) (key_S : ByteArray) (w : World) (K : Int → World → Prop) : Prop :=
  New w (.cells #[.bool key_IsStr, .int .i64 key_I, .string key_S] 167) fun p1 w =>
  S.api_DB_Find d d_o name w (fun r2 w =>
  if (decide (r2 < 0)) = true then
    K 10 w
  else
    LdS w ⟨d, d_o, none⟩ fun Tabs_3 =>
    Ix Tabs_3.a Tabs_3.l r2 fun b4 o5 =>
    Drew w fun w =>
    LdStr w ⟨b4, o5 + Int.toNat r2 * 5, none⟩ fun Name_6 =>
    LdS w ⟨b4, o5 + Int.toNat r2 * 5 + 1, none⟩ fun Cols_7 =>
    LdI .i64 w ⟨b4, o5 + Int.toNat r2 * 5 + 2, none⟩ fun PK_8 =>
    LdI .i64 w ⟨b4, o5 + Int.toNat r2 * 5 + 3, none⟩ fun Index_9 =>
    LdI .i64 w ⟨b4, o5 + Int.toNat r2 * 5 + 2, none⟩ fun PK_10 =>
    LdB w ⟨p1, 0, none⟩ fun IsStr_11 =>
    LdI .i64 w ⟨p1, 1, none⟩ fun I_12 =>
    LdStr w ⟨p1, 2, none⟩ fun S_13 =>
    S.api_CheckVal Name_6 Cols_7 PK_8 Index_9 PK_10 IsStr_11 I_12 S_13 w (fun r14 w =>
    if (r14 != 0) = true then
      K r14 w
    else
      LdB w ⟨p1, 0, none⟩ fun IsStr_15 =>
      LdI .i64 w ⟨p1, 1, none⟩ fun I_16 =>
      LdStr w ⟨p1, 2, none⟩ fun S_17 =>
      S.api_Table_place b4 (o5 + Int.toNat r2 * 5) IsStr_15 I_16 S_17 w (fun r18 r19 w =>
      if (!r19) = true then
        K 9 w
      else
        Join (fun (w : World) =>
          Drew w fun w =>
          LdS w ⟨b4, o5 + Int.toNat r2 * 5 + 4, none⟩ fun Rows_20 =>
          LdS w ⟨b4, o5 + Int.toNat r2 * 5 + 4, none⟩ fun Rows_21 =>
          CutS 1 Rows_20 0 (W ((Rows_21.l : Int) - 1)) (Rows_20.c : Int) fun l22 =>
          St1 w ⟨b4, o5 + Int.toNat r2 * 5 + 4, none⟩ (.slice l22.a l22.l l22.c) fun w =>
          K 0 w) fun J23 =>
        LoopP (σ := Int × Unit) (fun st24 w next25 =>
          LdS w ⟨b4, o5 + Int.toNat r2 * 5 + 4, none⟩ fun Rows_26 =>
          if (decide ((W (st24.1 + 1)) < (Rows_26.l : Int))) = true then
            Drew w fun w =>
            LdS w ⟨b4, o5 + Int.toNat r2 * 5 + 4, none⟩ fun Rows_27 =>
            LdS w ⟨b4, o5 + Int.toNat r2 * 5 + 4, none⟩ fun Rows_28 =>
            Ix Rows_28.a Rows_28.l (W (st24.1 + 1)) fun b29 o30 =>
            LdS w ⟨b29, o30 + Int.toNat (W (st24.1 + 1)) * 1, none⟩ fun x_31 =>
            Ix Rows_27.a Rows_27.l st24.1 fun b32 o33 =>
            St1 w ⟨b32, o33 + Int.toNat st24.1 * 1, none⟩ (.slice x_31.a x_31.l x_31.c) fun w =>
            Let (W (st24.1 + 1)) fun j_34 =>
            next25 (j_34, ()) w
          else
            J23 w) (r18, ()) w)))
def T.C200 : CallT := (CallT.cons 192 T.c192 (CallT.cons 231 T.c231 (CallT.cons 269 T.c269 CallT.nil)))
def T.A200 : Ann := fun i => bif Nat.beq i 12 then some ([8], [(12, 0)]) else none
set_option maxRecDepth 1000000 in
theorem T.eq200 (d : Nat) (d_o : Nat) (name : ByteArray) (key_IsStr : Bool) (key_I : Int) (key_S : ByteArray) (w : World) (K : Int → World → Prop) : denF Tryz.prog T.C200 T.A200 Tryz.f200 [.pointer (some ⟨d, d_o, none⟩), .string name, .agg #[.bool key_IsStr, .int .i64 key_I, .string key_S]] w (fun v w' => match v with | .int .i64 r0 => K r0 w' | _ => False) = S.api_DB_Delete d d_o name key_IsStr key_I key_S w K := by kernel_rfl
theorem T.CO200 : CallOk Tryz.prog T.C200 := (CallOk.cons 192 T.ok192 (CallOk.cons 231 T.ok231 (CallOk.cons 269 T.ok269 CallOk.nil)))
def T.c200 (vs : List Value) (w : World) (K : Value → World → Prop) : Prop :=
  match vs with
  | [.pointer (some ⟨d, d_o, none⟩), .string name, .agg ⟨[.bool key_IsStr, .int .i64 key_I, .string key_S]⟩] => S.api_DB_Delete d d_o name key_IsStr key_I key_S w (fun r0 w' => K (.int .i64 r0) w')
  | _ => False
theorem T.ok200 : ∀ vs w K, T.c200 vs w K → (callFunc 200 vs.toArray).run Tryz.prog w = .ok (.enter 200 vs.toArray) w ∧ Calls Tryz.prog 200 vs.toArray w fun e w' => ∃ v, e = .returned v ∧ K v w' := by
  intro vs w K h
  unfold T.c200 at h
  split at h
  · refine ⟨Tryz.call200 _ _, ok_of T.CO200 mixed Tryz.func200 (T.eq200 _ _ _ _ _ _ _ _) h fun v w' hk => ⟨v, rfl, ?_⟩⟩
    split at hk
    · exact hk
    · exact hk.elim
  · exact h.elim

/-- (*e2e/api.Multi).Delete (function 101). -/
def S.api_Multi_Delete (m : Nat) (s_ : Int) (name : ByteArray) (key_IsStr : Bool) (key_I : Int) (key_S : ByteArray) (w : World) (K : Int → World → Prop) : Prop :=
  New w (.cells #[.bool key_IsStr, .int .i64 key_I, .string key_S] 167) fun p1 w =>
  S.api_Multi_Take m s_ name 2 w (fun r2 w =>
  if (r2 != 0) = true then
    K r2 w
  else
    Drew w fun w =>
    IxA 4 s_ <|
    LdB w ⟨p1, 0, none⟩ fun IsStr_3 =>
    LdI .i64 w ⟨p1, 1, none⟩ fun I_4 =>
    LdStr w ⟨p1, 2, none⟩ fun S_5 =>
    S.api_DB_Delete m (17 + Int.toNat s_ * 1) name IsStr_3 I_4 S_5 w (fun r6 w =>
    K r6 w))
def T.C101 : CallT := (CallT.cons 194 T.c194 (CallT.cons 200 T.c200 CallT.nil))
def T.A101 : Ann := fun _ => none
set_option maxRecDepth 1000000 in
theorem T.eq101 (m : Nat) (s_ : Int) (name : ByteArray) (key_IsStr : Bool) (key_I : Int) (key_S : ByteArray) (w : World) (K : Int → World → Prop) : denF Tryz.prog T.C101 T.A101 Tryz.f101 [.pointer (some ⟨m, 0, none⟩), .int .i64 s_, .string name, .agg #[.bool key_IsStr, .int .i64 key_I, .string key_S]] w (fun v w' => match v with | .int .i64 r0 => K r0 w' | _ => False) = S.api_Multi_Delete m s_ name key_IsStr key_I key_S w K := by kernel_rfl
theorem T.CO101 : CallOk Tryz.prog T.C101 := (CallOk.cons 194 T.ok194 (CallOk.cons 200 T.ok200 CallOk.nil))
def T.c101 (vs : List Value) (w : World) (K : Value → World → Prop) : Prop :=
  match vs with
  | [.pointer (some ⟨m, 0, none⟩), .int .i64 s_, .string name, .agg ⟨[.bool key_IsStr, .int .i64 key_I, .string key_S]⟩] => S.api_Multi_Delete m s_ name key_IsStr key_I key_S w (fun r0 w' => K (.int .i64 r0) w')
  | _ => False
theorem T.ok101 : ∀ vs w K, T.c101 vs w K → (callFunc 101 vs.toArray).run Tryz.prog w = .ok (.enter 101 vs.toArray) w ∧ Calls Tryz.prog 101 vs.toArray w fun e w' => ∃ v, e = .returned v ∧ K v w' := by
  intro vs w K h
  unfold T.c101 at h
  split at h
  · refine ⟨Tryz.call101 _ _, ok_of T.CO101 mixed Tryz.func101 (T.eq101 _ _ _ _ _ _ _ _) h fun v w' hk => ⟨v, rfl, ?_⟩⟩
    split at hk
    · exact hk
    · exact hk.elim
  · exact h.elim

/-- (*e2e/api.DB).Update (function 201). -/
def S.api_DB_Update (d : Nat) (d_o : Nat) (name : ByteArray) (row : Sl) (w : World) (K : Int → World → Prop) : Prop :=
  S.api_DB_Find d d_o name w (fun r1 w =>
  if (decide (r1 < 0)) = true then
    K 10 w
  else
    LdS w ⟨d, d_o, none⟩ fun Tabs_2 =>
    Ix Tabs_2.a Tabs_2.l r1 fun b3 o4 =>
    LdStr w ⟨b3, o4 + Int.toNat r1 * 5, none⟩ fun Name_5 =>
    LdS w ⟨b3, o4 + Int.toNat r1 * 5 + 1, none⟩ fun Cols_6 =>
    LdI .i64 w ⟨b3, o4 + Int.toNat r1 * 5 + 2, none⟩ fun PK_7 =>
    LdI .i64 w ⟨b3, o4 + Int.toNat r1 * 5 + 3, none⟩ fun Index_8 =>
    S.api_CheckRow Name_5 Cols_6 PK_7 Index_8 row w (fun r9 w =>
    if (r9 != 0) = true then
      K r9 w
    else
      LdI .i64 w ⟨b3, o4 + Int.toNat r1 * 5 + 2, none⟩ fun PK_10 =>
      Ix row.a row.l PK_10 fun b11 o12 =>
      LdB w ⟨b11, o12 + Int.toNat PK_10 * 3, none⟩ fun IsStr_13 =>
      LdI .i64 w ⟨b11, o12 + Int.toNat PK_10 * 3 + 1, none⟩ fun I_14 =>
      LdStr w ⟨b11, o12 + Int.toNat PK_10 * 3 + 2, none⟩ fun S_15 =>
      S.api_Table_place b3 (o4 + Int.toNat r1 * 5) IsStr_13 I_14 S_15 w (fun r16 r17 w =>
      if (!r17) = true then
        K 9 w
      else
        Drew w fun w =>
        Hold w ⟨b3, o4 + Int.toNat r1 * 5 + 4, none⟩ 1 fun R18 =>
        LdS w ⟨b3, o4 + Int.toNat r1 * 5 + 4, none⟩ fun Rows_19 =>
        S.api_CloneRow row w (fun r20 w =>
        After R18 w <|
        Ix Rows_19.a Rows_19.l r16 fun b21 o22 =>
        St1 w ⟨b21, o22 + Int.toNat r16 * 1, none⟩ (.slice r20.a r20.l r20.c) fun w =>
        K 0 w))))
def T.C201 : CallT := (CallT.cons 192 T.c192 (CallT.cons 235 T.c235 (CallT.cons 269 T.c269 (CallT.cons 261 T.c261 CallT.nil))))
def T.A201 : Ann := fun _ => none
set_option maxRecDepth 1000000 in
theorem T.eq201 (d : Nat) (d_o : Nat) (name : ByteArray) (row : Sl) (w : World) (K : Int → World → Prop) : denF Tryz.prog T.C201 T.A201 Tryz.f201 [.pointer (some ⟨d, d_o, none⟩), .string name, .slice row.a row.l row.c] w (fun v w' => match v with | .int .i64 r0 => K r0 w' | _ => False) = S.api_DB_Update d d_o name row w K := by kernel_rfl
theorem T.CO201 : CallOk Tryz.prog T.C201 := (CallOk.cons 192 T.ok192 (CallOk.cons 235 T.ok235 (CallOk.cons 269 T.ok269 (CallOk.cons 261 T.ok261 CallOk.nil))))
def T.c201 (vs : List Value) (w : World) (K : Value → World → Prop) : Prop :=
  match vs with
  | [.pointer (some ⟨d, d_o, none⟩), .string name, .slice rowa rowl rowc] => S.api_DB_Update d d_o name ⟨rowa, rowl, rowc⟩ w (fun r0 w' => K (.int .i64 r0) w')
  | _ => False
theorem T.ok201 : ∀ vs w K, T.c201 vs w K → (callFunc 201 vs.toArray).run Tryz.prog w = .ok (.enter 201 vs.toArray) w ∧ Calls Tryz.prog 201 vs.toArray w fun e w' => ∃ v, e = .returned v ∧ K v w' := by
  intro vs w K h
  unfold T.c201 at h
  split at h
  · refine ⟨Tryz.call201 _ _, ok_of T.CO201 mixed Tryz.func201 (T.eq201 _ _ _ _ _ _) h fun v w' hk => ⟨v, rfl, ?_⟩⟩
    split at hk
    · exact hk
    · exact hk.elim
  · exact h.elim

/-- (*e2e/api.Multi).Update (function 102). -/
def S.api_Multi_Update (m : Nat) (s_ : Int) (name : ByteArray) (row : Sl) (w : World) (K : Int → World → Prop) : Prop :=
  S.api_Multi_Take m s_ name 2 w (fun r1 w =>
  if (r1 != 0) = true then
    K r1 w
  else
    IxA 4 s_ <|
    S.api_DB_Update m (17 + Int.toNat s_ * 1) name row w (fun r2 w =>
    K r2 w))
def T.C102 : CallT := (CallT.cons 194 T.c194 (CallT.cons 201 T.c201 CallT.nil))
def T.A102 : Ann := fun _ => none
set_option maxRecDepth 1000000 in
theorem T.eq102 (m : Nat) (s_ : Int) (name : ByteArray) (row : Sl) (w : World) (K : Int → World → Prop) : denF Tryz.prog T.C102 T.A102 Tryz.f102 [.pointer (some ⟨m, 0, none⟩), .int .i64 s_, .string name, .slice row.a row.l row.c] w (fun v w' => match v with | .int .i64 r0 => K r0 w' | _ => False) = S.api_Multi_Update m s_ name row w K := by kernel_rfl
theorem T.CO102 : CallOk Tryz.prog T.C102 := (CallOk.cons 194 T.ok194 (CallOk.cons 201 T.ok201 CallOk.nil))
def T.c102 (vs : List Value) (w : World) (K : Value → World → Prop) : Prop :=
  match vs with
  | [.pointer (some ⟨m, 0, none⟩), .int .i64 s_, .string name, .slice rowa rowl rowc] => S.api_Multi_Update m s_ name ⟨rowa, rowl, rowc⟩ w (fun r0 w' => K (.int .i64 r0) w')
  | _ => False
theorem T.ok102 : ∀ vs w K, T.c102 vs w K → (callFunc 102 vs.toArray).run Tryz.prog w = .ok (.enter 102 vs.toArray) w ∧ Calls Tryz.prog 102 vs.toArray w fun e w' => ∃ v, e = .returned v ∧ K v w' := by
  intro vs w K h
  unfold T.c102 at h
  split at h
  · refine ⟨Tryz.call102 _ _, ok_of T.CO102 mixed Tryz.func102 (T.eq102 _ _ _ _ _ _) h fun v w' hk => ⟨v, rfl, ?_⟩⟩
    split at hk
    · exact hk
    · exact hk.elim
  · exact h.elim

/-- e2e/querym.holds (function 199). -/
def S.querym_holds (c : Int) (op : ByteArray) (w : World) (K : Bool → World → Prop) : Prop :=
  if (op.toList == (⟨#[61]⟩ : ByteArray).toList) = true then
    K (c == 0) w
  else
    if (op.toList == (⟨#[33, 61]⟩ : ByteArray).toList) = true then
      K (c != 0) w
    else
      if (op.toList == (⟨#[60]⟩ : ByteArray).toList) = true then
        K (decide (c < 0)) w
      else
        if (op.toList == (⟨#[60, 61]⟩ : ByteArray).toList) = true then
          K (decide (c ≤ 0)) w
        else
          if (op.toList == (⟨#[62]⟩ : ByteArray).toList) = true then
            K (decide (c > 0)) w
          else
            if (op.toList == (⟨#[62, 61]⟩ : ByteArray).toList) = true then
              K (decide (c ≥ 0)) w
            else
              K false w
def T.C199 : CallT := CallT.nil
def T.A199 : Ann := fun i => bif Nat.beq i 1000012 then some ([], [(0, 0), (5, 4)]) else bif Nat.beq i 1000010 then some ([], [(0, 0), (5, 4)]) else bif Nat.beq i 1000008 then some ([], [(0, 0), (5, 4)]) else bif Nat.beq i 1000006 then some ([], [(0, 0), (5, 4)]) else bif Nat.beq i 1000004 then some ([], [(0, 0), (5, 4)]) else none
set_option maxRecDepth 1000000 in
theorem T.eq199 (c : Int) (op : ByteArray) (w : World) (K : Bool → World → Prop) : denF Tryz.prog T.C199 T.A199 Tryz.f199 [.int .i64 c, .string op] w (fun v w' => match v with | .bool r0 => K r0 w' | _ => False) = S.querym_holds c op w K := by kernel_rfl
theorem T.CO199 : CallOk Tryz.prog T.C199 := CallOk.nil
def T.c199 (vs : List Value) (w : World) (K : Value → World → Prop) : Prop :=
  match vs with
  | [.int .i64 c, .string op] => S.querym_holds c op w (fun r0 w' => K (.bool r0) w')
  | _ => False
theorem T.ok199 : ∀ vs w K, T.c199 vs w K → (callFunc 199 vs.toArray).run Tryz.prog w = .ok (.enter 199 vs.toArray) w ∧ Calls Tryz.prog 199 vs.toArray w fun e w' => ∃ v, e = .returned v ∧ K v w' := by
  intro vs w K h
  unfold T.c199 at h
  split at h
  · refine ⟨Tryz.call199 _ _, ok_of T.CO199 mixed Tryz.func199 (T.eq199 _ _ _ _) h fun v w' hk => ⟨v, rfl, ?_⟩⟩
    split at hk
    · exact hk
    · exact hk.elim
  · exact h.elim

/-- e2e/querym.match (function 99). -/
def S.querym_match (sch_Name : ByteArray) (sch_Cols : Sl) (sch_PK : Int) (sch_Index : Int) (w_ : Sl) (row : Sl) (w : World) (K : Bool → World → Prop) : Prop :=
  New w (.cells #[.string sch_Name, .slice sch_Cols.a sch_Cols.l sch_Cols.c, .int .i64 sch_PK, .int .i64 sch_Index] 73) fun p1 w =>
  LoopP (σ := Int × Unit) (fun st2 w next3 =>
    if (decide (st2.1 < (w_.l : Int))) = true then
      Drew w fun w =>
      LdStr w ⟨p1, 0, none⟩ fun Name_4 =>
      LdS w ⟨p1, 1, none⟩ fun Cols_5 =>
      LdI .i64 w ⟨p1, 2, none⟩ fun PK_6 =>
      LdI .i64 w ⟨p1, 3, none⟩ fun Index_7 =>
      Ix w_.a w_.l st2.1 fun b8 o9 =>
      LdStr w ⟨b8, o9 + Int.toNat st2.1 * 5, none⟩ fun col_10 =>
      S.querym_colOf Name_4 Cols_5 PK_6 Index_7 col_10 w (fun r11 w =>
      Drew w fun w =>
      Ix row.a row.l r11 fun b12 o13 =>
      LdB w ⟨b12, o13 + Int.toNat r11 * 3, none⟩ fun IsStr_14 =>
      LdI .i64 w ⟨b12, o13 + Int.toNat r11 * 3 + 1, none⟩ fun I_15 =>
      LdStr w ⟨b12, o13 + Int.toNat r11 * 3 + 2, none⟩ fun S_16 =>
      Ix w_.a w_.l st2.1 fun b17 o18 =>
      LdB w ⟨b17, o18 + Int.toNat st2.1 * 5 + 2, none⟩ fun IsStr_19 =>
      LdI .i64 w ⟨b17, o18 + Int.toNat st2.1 * 5 + 2 + 1, none⟩ fun I_20 =>
      LdStr w ⟨b17, o18 + Int.toNat st2.1 * 5 + 2 + 2, none⟩ fun S_21 =>
      S.api_Cmp IsStr_14 I_15 S_16 IsStr_19 I_20 S_21 w (fun r22 w =>
      Ix w_.a w_.l st2.1 fun b23 o24 =>
      LdStr w ⟨b23, o24 + Int.toNat st2.1 * 5 + 1, none⟩ fun op_25 =>
      S.querym_holds r22 op_25 w (fun r26 w =>
      if (!r26) = true then
        K false w
      else
        Let (W (st2.1 + 1)) fun i_27 =>
        next3 (i_27, ()) w)))
    else
      K true w) (0, ()) w
def T.C99 : CallT := (CallT.cons 94 T.c94 (CallT.cons 198 T.c198 (CallT.cons 199 T.c199 CallT.nil)))
def T.A99 : Ann := fun i => bif Nat.beq i 2 then some ([1, 2, 3], [(7, 0)]) else none
set_option maxRecDepth 1000000 in
theorem T.eq99 (sch_Name : ByteArray) (sch_Cols : Sl) (sch_PK : Int) (sch_Index : Int) (w_ : Sl) (row : Sl) (w : World) (K : Bool → World → Prop) : denF Tryz.prog T.C99 T.A99 Tryz.f99 [.agg #[.string sch_Name, .slice sch_Cols.a sch_Cols.l sch_Cols.c, .int .i64 sch_PK, .int .i64 sch_Index], .slice w_.a w_.l w_.c, .slice row.a row.l row.c] w (fun v w' => match v with | .bool r0 => K r0 w' | _ => False) = S.querym_match sch_Name sch_Cols sch_PK sch_Index w_ row w K := by kernel_rfl
theorem T.CO99 : CallOk Tryz.prog T.C99 := (CallOk.cons 94 T.ok94 (CallOk.cons 198 T.ok198 (CallOk.cons 199 T.ok199 CallOk.nil)))
def T.c99 (vs : List Value) (w : World) (K : Value → World → Prop) : Prop :=
  match vs with
  | [.agg ⟨[.string sch_Name, .slice sch_Colsa sch_Colsl sch_Colsc, .int .i64 sch_PK, .int .i64 sch_Index]⟩, .slice w_a w_l w_c, .slice rowa rowl rowc] => S.querym_match sch_Name ⟨sch_Colsa, sch_Colsl, sch_Colsc⟩ sch_PK sch_Index ⟨w_a, w_l, w_c⟩ ⟨rowa, rowl, rowc⟩ w (fun r0 w' => K (.bool r0) w')
  | _ => False
theorem T.ok99 : ∀ vs w K, T.c99 vs w K → (callFunc 99 vs.toArray).run Tryz.prog w = .ok (.enter 99 vs.toArray) w ∧ Calls Tryz.prog 99 vs.toArray w fun e w' => ∃ v, e = .returned v ∧ K v w' := by
  intro vs w K h
  unfold T.c99 at h
  split at h
  · refine ⟨Tryz.call99 _ _, ok_of T.CO99 mixed Tryz.func99 (T.eq99 _ _ _ _ _ _ _ _) h fun v w' hk => ⟨v, rfl, ?_⟩⟩
    split at hk
    · exact hk
    · exact hk.elim
  · exact h.elim

/-- (*e2e/querym.Engine).run (function 43). -/
def S.querym_Engine_run (q : Nat) (s_ : Int) (st_kind : Int) (st_table : ByteArray) (st_cols : Sl) (st_pk : Int) (st_names : Sl) (st_vals : Sl) (st_star : Bool) (st_where : Sl) (st_order : ByteArray) (st_desc : Bool) (st_hasLimit : Bool) (st_limit : Int) (w : World) (K : Int → Int → Sl → Sl → World → Prop) : Prop :=
  New w (.cells #[.int .i64 st_kind, .string st_table, .slice st_cols.a st_cols.l st_cols.c, .int .i64 st_pk, .slice st_names.a st_names.l st_names.c, .slice st_vals.a st_vals.l st_vals.c, .bool st_star, .slice st_where.a st_where.l st_where.c, .string st_order, .bool st_desc, .bool st_hasLimit, .int .i64 st_limit] 81) fun p1 w =>
  New w (.cells #[.int .i64 0, .int .i64 0, .slice none 0 0, .slice none 0 0] 36) fun p2 w =>
  LdI .i64 w ⟨p1, 0, none⟩ fun kind_3 =>
  if (kind_3 == 7) = true then
    Drew w fun w =>
    LdP w ⟨q, 0, none⟩ fun m_4 =>
    LdStr w ⟨p1, 1, none⟩ fun table_5 =>
    LdS w ⟨p1, 5, none⟩ fun vals_6 =>
    S.api_Multi_Insert m_4 s_ table_5 vals_6 w (fun r7 w =>
    if (r7 != 0) = true then
      S.querym_fail r7 w (fun Err_8 N_9 Cols_10 Rows_11 w =>
      St1 w ⟨p2, 0, none⟩ (.int .i64 Err_8) fun w =>
      St1 w ⟨p2, 1, none⟩ (.int .i64 N_9) fun w =>
      St1 w ⟨p2, 2, none⟩ (.slice Cols_10.a Cols_10.l Cols_10.c) fun w =>
      St1 w ⟨p2, 3, none⟩ (.slice Rows_11.a Rows_11.l Rows_11.c) fun w =>
      LdI .i64 w ⟨p2, 0, none⟩ fun Err_12 =>
      LdI .i64 w ⟨p2, 1, none⟩ fun N_13 =>
      LdS w ⟨p2, 2, none⟩ fun Cols_14 =>
      LdS w ⟨p2, 3, none⟩ fun Rows_15 =>
      K Err_12 N_13 Cols_14 Rows_15 w)
    else
      St1 w ⟨p2, 0, none⟩ (.int .i64 0) fun w =>
      St1 w ⟨p2, 1, none⟩ (.int .i64 1) fun w =>
      St1 w ⟨p2, 2, none⟩ (.slice none 0 0) fun w =>
      St1 w ⟨p2, 3, none⟩ (.slice none 0 0) fun w =>
      LdI .i64 w ⟨p2, 0, none⟩ fun Err_16 =>
      LdI .i64 w ⟨p2, 1, none⟩ fun N_17 =>
      LdS w ⟨p2, 2, none⟩ fun Cols_18 =>
      LdS w ⟨p2, 3, none⟩ fun Rows_19 =>
      K Err_16 N_17 Cols_18 Rows_19 w)
  else
    Join (fun (sch_20 : Nat) (e_21 : Int) (w : World) =>
      if (e_21 != 0) = true then
        S.querym_fail e_21 w (fun Err_22 N_23 Cols_24 Rows_25 w =>
        St1 w ⟨p2, 0, none⟩ (.int .i64 Err_22) fun w =>
        St1 w ⟨p2, 1, none⟩ (.int .i64 N_23) fun w =>
        St1 w ⟨p2, 2, none⟩ (.slice Cols_24.a Cols_24.l Cols_24.c) fun w =>
        St1 w ⟨p2, 3, none⟩ (.slice Rows_25.a Rows_25.l Rows_25.c) fun w =>
        LdI .i64 w ⟨p2, 0, none⟩ fun Err_26 =>
        LdI .i64 w ⟨p2, 1, none⟩ fun N_27 =>
        LdS w ⟨p2, 2, none⟩ fun Cols_28 =>
        LdS w ⟨p2, 3, none⟩ fun Rows_29 =>
        K Err_26 N_27 Cols_28 Rows_29 w)
      else
        LdStr w ⟨sch_20, 0, none⟩ fun Name_30 =>
        LdS w ⟨sch_20, 1, none⟩ fun Cols_31 =>
        LdI .i64 w ⟨sch_20, 2, none⟩ fun PK_32 =>
        LdI .i64 w ⟨sch_20, 3, none⟩ fun Index_33 =>
        LdI .i64 w ⟨p1, 0, none⟩ fun kind_34 =>
        LdStr w ⟨p1, 1, none⟩ fun table_35 =>
        LdS w ⟨p1, 2, none⟩ fun cols_36 =>
        LdI .i64 w ⟨p1, 3, none⟩ fun pk_37 =>
        LdS w ⟨p1, 4, none⟩ fun names_38 =>
        LdS w ⟨p1, 5, none⟩ fun vals_39 =>
        LdB w ⟨p1, 6, none⟩ fun star_40 =>
        LdS w ⟨p1, 7, none⟩ fun where_41 =>
        LdStr w ⟨p1, 8, none⟩ fun order_42 =>
        LdB w ⟨p1, 9, none⟩ fun desc_43 =>
        LdB w ⟨p1, 10, none⟩ fun hasLimit_44 =>
        LdI .i64 w ⟨p1, 11, none⟩ fun limit_45 =>
        S.querym_check Name_30 Cols_31 PK_32 Index_33 kind_34 table_35 cols_36 pk_37 names_38 vals_39 star_40 where_41 order_42 desc_43 hasLimit_44 limit_45 w (fun r46 w =>
        if (r46 != 0) = true then
          S.querym_fail r46 w (fun Err_47 N_48 Cols_49 Rows_50 w =>
          St1 w ⟨p2, 0, none⟩ (.int .i64 Err_47) fun w =>
          St1 w ⟨p2, 1, none⟩ (.int .i64 N_48) fun w =>
          St1 w ⟨p2, 2, none⟩ (.slice Cols_49.a Cols_49.l Cols_49.c) fun w =>
          St1 w ⟨p2, 3, none⟩ (.slice Rows_50.a Rows_50.l Rows_50.c) fun w =>
          LdI .i64 w ⟨p2, 0, none⟩ fun Err_51 =>
          LdI .i64 w ⟨p2, 1, none⟩ fun N_52 =>
          LdS w ⟨p2, 2, none⟩ fun Cols_53 =>
          LdS w ⟨p2, 3, none⟩ fun Rows_54 =>
          K Err_51 N_52 Cols_53 Rows_54 w)
        else
          Drew w fun w =>
          LdP w ⟨q, 0, none⟩ fun m_55 =>
          LdStr w ⟨p1, 1, none⟩ fun table_56 =>
          LdI .i64 w ⟨sch_20, 2, none⟩ fun PK_57 =>
          S.api_Multi_Scan m_55 s_ table_56 PK_57 false false 0 ⟨#[]⟩ false false 0 ⟨#[]⟩ w (fun r58 r59 w =>
          if (r59 != 0) = true then
            S.querym_fail r59 w (fun Err_60 N_61 Cols_62 Rows_63 w =>
            St1 w ⟨p2, 0, none⟩ (.int .i64 Err_60) fun w =>
            St1 w ⟨p2, 1, none⟩ (.int .i64 N_61) fun w =>
            St1 w ⟨p2, 2, none⟩ (.slice Cols_62.a Cols_62.l Cols_62.c) fun w =>
            St1 w ⟨p2, 3, none⟩ (.slice Rows_63.a Rows_63.l Rows_63.c) fun w =>
            LdI .i64 w ⟨p2, 0, none⟩ fun Err_64 =>
            LdI .i64 w ⟨p2, 1, none⟩ fun N_65 =>
            LdS w ⟨p2, 2, none⟩ fun Cols_66 =>
            LdS w ⟨p2, 3, none⟩ fun Rows_67 =>
            K Err_64 N_65 Cols_66 Rows_67 w)
          else
            Join (fun (hit_68 : Sl) (w : World) =>
              LdI .i64 w ⟨p1, 0, none⟩ fun kind_69 =>
              if (kind_69 == 8) = true then
                LdStr w ⟨sch_20, 0, none⟩ fun Name_70 =>
                LdS w ⟨sch_20, 1, none⟩ fun Cols_71 =>
                LdI .i64 w ⟨sch_20, 2, none⟩ fun PK_72 =>
                LdI .i64 w ⟨sch_20, 3, none⟩ fun Index_73 =>
                LdI .i64 w ⟨p1, 0, none⟩ fun kind_74 =>
                LdStr w ⟨p1, 1, none⟩ fun table_75 =>
                LdS w ⟨p1, 2, none⟩ fun cols_76 =>
                LdI .i64 w ⟨p1, 3, none⟩ fun pk_77 =>
                LdS w ⟨p1, 4, none⟩ fun names_78 =>
                LdS w ⟨p1, 5, none⟩ fun vals_79 =>
                LdB w ⟨p1, 6, none⟩ fun star_80 =>
                LdS w ⟨p1, 7, none⟩ fun where_81 =>
                LdStr w ⟨p1, 8, none⟩ fun order_82 =>
                LdB w ⟨p1, 9, none⟩ fun desc_83 =>
                LdB w ⟨p1, 10, none⟩ fun hasLimit_84 =>
                LdI .i64 w ⟨p1, 11, none⟩ fun limit_85 =>
                S.querym_project Name_70 Cols_71 PK_72 Index_73 kind_74 table_75 cols_76 pk_77 names_78 vals_79 star_80 where_81 order_82 desc_83 hasLimit_84 limit_85 hit_68 w (fun Err_86 N_87 Cols_88 Rows_89 w =>
                St1 w ⟨p2, 0, none⟩ (.int .i64 Err_86) fun w =>
                St1 w ⟨p2, 1, none⟩ (.int .i64 N_87) fun w =>
                St1 w ⟨p2, 2, none⟩ (.slice Cols_88.a Cols_88.l Cols_88.c) fun w =>
                St1 w ⟨p2, 3, none⟩ (.slice Rows_89.a Rows_89.l Rows_89.c) fun w =>
                LdI .i64 w ⟨p2, 0, none⟩ fun Err_90 =>
                LdI .i64 w ⟨p2, 1, none⟩ fun N_91 =>
                LdS w ⟨p2, 2, none⟩ fun Cols_92 =>
                LdS w ⟨p2, 3, none⟩ fun Rows_93 =>
                K Err_90 N_91 Cols_92 Rows_93 w)
              else
                Join (fun (w : World) =>
                  St1 w ⟨p2, 0, none⟩ (.int .i64 0) fun w =>
                  St1 w ⟨p2, 1, none⟩ (.int .i64 (hit_68.l : Int)) fun w =>
                  St1 w ⟨p2, 2, none⟩ (.slice none 0 0) fun w =>
                  St1 w ⟨p2, 3, none⟩ (.slice none 0 0) fun w =>
                  LdI .i64 w ⟨p2, 0, none⟩ fun Err_94 =>
                  LdI .i64 w ⟨p2, 1, none⟩ fun N_95 =>
                  LdS w ⟨p2, 2, none⟩ fun Cols_96 =>
                  LdS w ⟨p2, 3, none⟩ fun Rows_97 =>
                  K Err_94 N_95 Cols_96 Rows_97 w) fun J98 =>
                LoopP (σ := Int × Unit) (fun st99 w next100 =>
                  if (decide (st99.1 < (hit_68.l : Int))) = true then
                    LdI .i64 w ⟨p1, 0, none⟩ fun kind_101 =>
                    Join (fun (e_102 : Int) (w : World) =>
                      if (e_102 != 0) = true then
                        S.querym_fail e_102 w (fun Err_103 N_104 Cols_105 Rows_106 w =>
                        St1 w ⟨p2, 0, none⟩ (.int .i64 Err_103) fun w =>
                        St1 w ⟨p2, 1, none⟩ (.int .i64 N_104) fun w =>
                        St1 w ⟨p2, 2, none⟩ (.slice Cols_105.a Cols_105.l Cols_105.c) fun w =>
                        St1 w ⟨p2, 3, none⟩ (.slice Rows_106.a Rows_106.l Rows_106.c) fun w =>
                        LdI .i64 w ⟨p2, 0, none⟩ fun Err_107 =>
                        LdI .i64 w ⟨p2, 1, none⟩ fun N_108 =>
                        LdS w ⟨p2, 2, none⟩ fun Cols_109 =>
                        LdS w ⟨p2, 3, none⟩ fun Rows_110 =>
                        K Err_107 N_108 Cols_109 Rows_110 w)
                      else
                        Let (W (st99.1 + 1)) fun i_111 =>
                        next100 (i_111, ()) w) fun J112 =>
                    if (kind_101 == 10) = true then
                      Drew w fun w =>
                      LdP w ⟨q, 0, none⟩ fun m_113 =>
                      LdStr w ⟨p1, 1, none⟩ fun table_114 =>
                      Ix hit_68.a hit_68.l st99.1 fun b115 o116 =>
                      LdS w ⟨b115, o116 + Int.toNat st99.1 * 1, none⟩ fun x_117 =>
                      LdI .i64 w ⟨sch_20, 2, none⟩ fun PK_118 =>
                      Ix x_117.a x_117.l PK_118 fun b119 o120 =>
                      LdB w ⟨b119, o120 + Int.toNat PK_118 * 3, none⟩ fun IsStr_121 =>
                      LdI .i64 w ⟨b119, o120 + Int.toNat PK_118 * 3 + 1, none⟩ fun I_122 =>
                      LdStr w ⟨b119, o120 + Int.toNat PK_118 * 3 + 2, none⟩ fun S_123 =>
                      S.api_Multi_Delete m_113 s_ table_114 IsStr_121 I_122 S_123 w (fun r124 w =>
                      J112 r124 w)
                    else
                      Join (fun (w : World) =>
                        Drew w fun w =>
                        LdP w ⟨q, 0, none⟩ fun m_125 =>
                        LdStr w ⟨p1, 1, none⟩ fun table_126 =>
                        Ix hit_68.a hit_68.l st99.1 fun b127 o128 =>
                        LdS w ⟨b127, o128 + Int.toNat st99.1 * 1, none⟩ fun x_129 =>
                        S.api_Multi_Update m_125 s_ table_126 x_129 w (fun r130 w =>
                        J112 r130 w)) fun J131 =>
                      LoopP (σ := Int × Unit) (fun st132 w next133 =>
                        LdS w ⟨p1, 4, none⟩ fun names_134 =>
                        if (decide (st132.1 < (names_134.l : Int))) = true then
                          Drew w fun w =>
                          Ix hit_68.a hit_68.l st99.1 fun b135 o136 =>
                          Hold w ⟨b135, o136 + Int.toNat st99.1 * 1, none⟩ 1 fun R137 =>
                          LdS w ⟨b135, o136 + Int.toNat st99.1 * 1, none⟩ fun x_138 =>
                          LdStr w ⟨sch_20, 0, none⟩ fun Name_139 =>
                          LdS w ⟨sch_20, 1, none⟩ fun Cols_140 =>
                          LdI .i64 w ⟨sch_20, 2, none⟩ fun PK_141 =>
                          LdI .i64 w ⟨sch_20, 3, none⟩ fun Index_142 =>
                          LdS w ⟨p1, 4, none⟩ fun names_143 =>
                          Ix names_143.a names_143.l st132.1 fun b144 o145 =>
                          LdStr w ⟨b144, o145 + Int.toNat st132.1 * 1, none⟩ fun x_146 =>
                          Hold w ⟨p1, 5, none⟩ 1 fun R147 =>
                          LdS w ⟨p1, 5, none⟩ fun vals_148 =>
                          Ix vals_148.a vals_148.l st132.1 fun b149 o150 =>
                          Hold w ⟨b149, o150 + Int.toNat st132.1 * 3, none⟩ 3 fun R151 =>
                          LdB w ⟨b149, o150 + Int.toNat st132.1 * 3, none⟩ fun IsStr_152 =>
                          LdI .i64 w ⟨b149, o150 + Int.toNat st132.1 * 3 + 1, none⟩ fun I_153 =>
                          LdStr w ⟨b149, o150 + Int.toNat st132.1 * 3 + 2, none⟩ fun S_154 =>
                          S.querym_colOf Name_139 Cols_140 PK_141 Index_142 x_146 w (fun r155 w =>
                          After R151 w <|
                          After R147 w <|
                          After R137 w <|
                          Ix x_138.a x_138.l r155 fun b156 o157 =>
                          St1 w ⟨b156, o157 + Int.toNat r155 * 3, none⟩ (.bool IsStr_152) fun w =>
                          St1 w ⟨b156, o157 + Int.toNat r155 * 3 + 1, none⟩ (.int .i64 I_153) fun w =>
                          St1 w ⟨b156, o157 + Int.toNat r155 * 3 + 2, none⟩ (.string S_154) fun w =>
                          Let (W (st132.1 + 1)) fun j_158 =>
                          next133 (j_158, ()) w)
                        else
                          J131 w) (0, ()) w
                  else
                    J98 w) (0, ()) w) fun J159 =>
            LoopP (σ := Sl × Int × Unit) (fun st160 w next161 =>
              if (decide (st160.2.1 < (r58.l : Int))) = true then
                Join (fun (hit_162 : Sl) (w : World) =>
                  Let (W (st160.2.1 + 1)) fun i_163 =>
                  next161 (hit_162, i_163, ()) w) fun J164 =>
                Drew w fun w =>
                LdStr w ⟨sch_20, 0, none⟩ fun Name_165 =>
                LdS w ⟨sch_20, 1, none⟩ fun Cols_166 =>
                LdI .i64 w ⟨sch_20, 2, none⟩ fun PK_167 =>
                LdI .i64 w ⟨sch_20, 3, none⟩ fun Index_168 =>
                LdS w ⟨p1, 7, none⟩ fun where_169 =>
                Ix r58.a r58.l st160.2.1 fun b170 o171 =>
                LdS w ⟨b170, o171 + Int.toNat st160.2.1 * 1, none⟩ fun x_172 =>
                S.querym_match Name_165 Cols_166 PK_167 Index_168 where_169 x_172 w (fun r173 w =>
                if r173 = true then
                  Ix r58.a r58.l st160.2.1 fun b174 o175 =>
                  LdS w ⟨b174, o175 + Int.toNat st160.2.1 * 1, none⟩ fun x_176 =>
                  New w (.cells #[.slice x_176.a x_176.l x_176.c] 61) fun p177 w =>
                  AppS 61 [.slice none 0 0] 24 1 w st160.1 ⟨some ⟨p177, 0, none⟩, 1, 1⟩ fun l178 w =>
                  J164 l178 w
                else
                  J164 st160.1 w)
              else
                J159 st160.1 w) (⟨none, 0, 0⟩, 0, ()) w))) fun J179 =>
    Drew w fun w =>
    Hold w ⟨q, 0, none⟩ 1 fun R180 =>
    LdP w ⟨q, 0, none⟩ fun m_181 =>
    Hold w ⟨p1, 1, none⟩ 1 fun R182 =>
    LdStr w ⟨p1, 1, none⟩ fun table_183 =>
    (S.api_DB_SchemaOf m_181 table_183 w (fun Name_184 Cols_185 PK_186 Index_187 r188 w =>
    New w (.cells #[.string ⟨#[]⟩, .slice none 0 0, .int .i64 0, .int .i64 0] 73) fun p189 w =>
    After R182 w <|
    After R180 w <|
    St1 w ⟨p189, 0, none⟩ (.string Name_184) fun w =>
    St1 w ⟨p189, 1, none⟩ (.slice Cols_185.a Cols_185.l Cols_185.c) fun w =>
    St1 w ⟨p189, 2, none⟩ (.int .i64 PK_186) fun w =>
    St1 w ⟨p189, 3, none⟩ (.int .i64 Index_187) fun w =>
    J179 p189 r188 w)) ∧
    (New w (.cells #[.string ⟨#[]⟩, .slice none 0 0, .int .i64 0, .int .i64 0] 73) fun p190 w =>
    After R182 w <|
    After R180 w <|
    S.api_DB_SchemaOf m_181 table_183 w (fun Name_191 Cols_192 PK_193 Index_194 r195 w =>
    St1 w ⟨p190, 0, none⟩ (.string Name_191) fun w =>
    St1 w ⟨p190, 1, none⟩ (.slice Cols_192.a Cols_192.l Cols_192.c) fun w =>
    St1 w ⟨p190, 2, none⟩ (.int .i64 PK_193) fun w =>
    St1 w ⟨p190, 3, none⟩ (.int .i64 Index_194) fun w =>
    J179 p190 r195 w))
def T.C43 : CallT := (CallT.cons 96 T.c96 (CallT.cons 35 T.c35 (CallT.cons 97 T.c97 (CallT.cons 98 T.c98 (CallT.cons 100 T.c100 (CallT.cons 101 T.c101 (CallT.cons 102 T.c102 (CallT.cons 94 T.c94 (CallT.cons 99 T.c99 (CallT.cons 93 T.c93 CallT.nil))))))))))
def T.A43 : Ann := fun i => bif Nat.beq i 17 then some ([0, 1, 5, 6, 8, 10], [(11, 6), (12, 0)]) else bif Nat.beq i 29 then some ([0, 1, 5, 6, 8, 11, 13], [(14, 0)]) else bif Nat.beq i 1000028 then some ([], [(0, 5), (1, 0), (5, 5), (6, 5), (8, 5), (11, 6), (13, 0)]) else bif Nat.beq i 24 then some ([0, 1, 5, 6, 8, 11], [(13, 0)]) else none
set_option maxRecDepth 1000000 in
theorem T.eq43 (q : Nat) (s_ : Int) (st_kind : Int) (st_table : ByteArray) (st_cols : Sl) (st_pk : Int) (st_names : Sl) (st_vals : Sl) (st_star : Bool) (st_where : Sl) (st_order : ByteArray) (st_desc : Bool) (st_hasLimit : Bool) (st_limit : Int) (w : World) (K : Int → Int → Sl → Sl → World → Prop) : denF Tryz.prog T.C43 T.A43 Tryz.f43 [.pointer (some ⟨q, 0, none⟩), .int .i64 s_, .agg #[.int .i64 st_kind, .string st_table, .slice st_cols.a st_cols.l st_cols.c, .int .i64 st_pk, .slice st_names.a st_names.l st_names.c, .slice st_vals.a st_vals.l st_vals.c, .bool st_star, .slice st_where.a st_where.l st_where.c, .string st_order, .bool st_desc, .bool st_hasLimit, .int .i64 st_limit]] w (fun v w' => match v with | .agg ⟨[.int .i64 r0, .int .i64 r1, .slice r2a r2l r2c, .slice r3a r3l r3c]⟩ => K r0 r1 ⟨r2a, r2l, r2c⟩ ⟨r3a, r3l, r3c⟩ w' | _ => False) = S.querym_Engine_run q s_ st_kind st_table st_cols st_pk st_names st_vals st_star st_where st_order st_desc st_hasLimit st_limit w K := by kernel_rfl
theorem T.CO43 : CallOk Tryz.prog T.C43 := (CallOk.cons 96 T.ok96 (CallOk.cons 35 T.ok35 (CallOk.cons 97 T.ok97 (CallOk.cons 98 T.ok98 (CallOk.cons 100 T.ok100 (CallOk.cons 101 T.ok101 (CallOk.cons 102 T.ok102 (CallOk.cons 94 T.ok94 (CallOk.cons 99 T.ok99 (CallOk.cons 93 T.ok93 CallOk.nil))))))))))
def T.c43 (vs : List Value) (w : World) (K : Value → World → Prop) : Prop :=
  match vs with
  | [.pointer (some ⟨q, 0, none⟩), .int .i64 s_, .agg ⟨[.int .i64 st_kind, .string st_table, .slice st_colsa st_colsl st_colsc, .int .i64 st_pk, .slice st_namesa st_namesl st_namesc, .slice st_valsa st_valsl st_valsc, .bool st_star, .slice st_wherea st_wherel st_wherec, .string st_order, .bool st_desc, .bool st_hasLimit, .int .i64 st_limit]⟩] => S.querym_Engine_run q s_ st_kind st_table ⟨st_colsa, st_colsl, st_colsc⟩ st_pk ⟨st_namesa, st_namesl, st_namesc⟩ ⟨st_valsa, st_valsl, st_valsc⟩ st_star ⟨st_wherea, st_wherel, st_wherec⟩ st_order st_desc st_hasLimit st_limit w (fun r0 r1 r2 r3 w' => K (.agg #[.int .i64 r0, .int .i64 r1, .slice r2.a r2.l r2.c, .slice r3.a r3.l r3.c]) w')
  | _ => False
theorem T.ok43 : ∀ vs w K, T.c43 vs w K → (callFunc 43 vs.toArray).run Tryz.prog w = .ok (.enter 43 vs.toArray) w ∧ Calls Tryz.prog 43 vs.toArray w fun e w' => ∃ v, e = .returned v ∧ K v w' := by
  intro vs w K h
  unfold T.c43 at h
  split at h
  · refine ⟨Tryz.call43 _ _, ok_of T.CO43 mixed Tryz.func43 (T.eq43 _ _ _ _ _ _ _ _ _ _ _ _ _ _ _ _) h fun v w' hk => ⟨v, rfl, ?_⟩⟩
    split at hk
    · exact hk
    · exact hk.elim
  · exact h.elim

/-- (*e2e/querym.Engine).Exec (function 10). -/
def S.querym_Engine_Exec (q : Nat) (s_ : Int) (text : ByteArray) (w : World) (K : Int → Int → Sl → Sl → World → Prop) : Prop :=
  New w (.cells #[.int .i64 0, .int .i64 0, .slice none 0 0, .slice none 0 0] 36) fun p1 w =>
  if (decide ((text.size : Int) > 256)) = true then
    S.querym_fail 24 w (fun Err_2 N_3 Cols_4 Rows_5 w =>
    St1 w ⟨p1, 0, none⟩ (.int .i64 Err_2) fun w =>
    St1 w ⟨p1, 1, none⟩ (.int .i64 N_3) fun w =>
    St1 w ⟨p1, 2, none⟩ (.slice Cols_4.a Cols_4.l Cols_4.c) fun w =>
    St1 w ⟨p1, 3, none⟩ (.slice Rows_5.a Rows_5.l Rows_5.c) fun w =>
    LdI .i64 w ⟨p1, 0, none⟩ fun Err_6 =>
    LdI .i64 w ⟨p1, 1, none⟩ fun N_7 =>
    LdS w ⟨p1, 2, none⟩ fun Cols_8 =>
    LdS w ⟨p1, 3, none⟩ fun Rows_9 =>
    K Err_6 N_7 Cols_8 Rows_9 w)
  else
    S.api_GoodSess s_ w (fun r10 w =>
    if (!r10) = true then
      S.querym_fail 20 w (fun Err_11 N_12 Cols_13 Rows_14 w =>
      St1 w ⟨p1, 0, none⟩ (.int .i64 Err_11) fun w =>
      St1 w ⟨p1, 1, none⟩ (.int .i64 N_12) fun w =>
      St1 w ⟨p1, 2, none⟩ (.slice Cols_13.a Cols_13.l Cols_13.c) fun w =>
      St1 w ⟨p1, 3, none⟩ (.slice Rows_14.a Rows_14.l Rows_14.c) fun w =>
      LdI .i64 w ⟨p1, 0, none⟩ fun Err_15 =>
      LdI .i64 w ⟨p1, 1, none⟩ fun N_16 =>
      LdS w ⟨p1, 2, none⟩ fun Cols_17 =>
      LdS w ⟨p1, 3, none⟩ fun Rows_18 =>
      K Err_15 N_16 Cols_17 Rows_18 w)
    else
      S.querym_parse text w (fun kind_19 table_20 cols_21 pk_22 names_23 vals_24 star_25 where_26 order_27 desc_28 hasLimit_29 limit_30 r31 w =>
      New w (.cells #[.int .i64 0, .string ⟨#[]⟩, .slice none 0 0, .int .i64 0, .slice none 0 0, .slice none 0 0, .bool false, .slice none 0 0, .string ⟨#[]⟩, .bool false, .bool false, .int .i64 0] 81) fun p32 w =>
      St1 w ⟨p32, 0, none⟩ (.int .i64 kind_19) fun w =>
      St1 w ⟨p32, 1, none⟩ (.string table_20) fun w =>
      St1 w ⟨p32, 2, none⟩ (.slice cols_21.a cols_21.l cols_21.c) fun w =>
      St1 w ⟨p32, 3, none⟩ (.int .i64 pk_22) fun w =>
      St1 w ⟨p32, 4, none⟩ (.slice names_23.a names_23.l names_23.c) fun w =>
      St1 w ⟨p32, 5, none⟩ (.slice vals_24.a vals_24.l vals_24.c) fun w =>
      St1 w ⟨p32, 6, none⟩ (.bool star_25) fun w =>
      St1 w ⟨p32, 7, none⟩ (.slice where_26.a where_26.l where_26.c) fun w =>
      St1 w ⟨p32, 8, none⟩ (.string order_27) fun w =>
      St1 w ⟨p32, 9, none⟩ (.bool desc_28) fun w =>
      St1 w ⟨p32, 10, none⟩ (.bool hasLimit_29) fun w =>
      St1 w ⟨p32, 11, none⟩ (.int .i64 limit_30) fun w =>
      if (!r31) = true then
        S.querym_fail 22 w (fun Err_33 N_34 Cols_35 Rows_36 w =>
        St1 w ⟨p1, 0, none⟩ (.int .i64 Err_33) fun w =>
        St1 w ⟨p1, 1, none⟩ (.int .i64 N_34) fun w =>
        St1 w ⟨p1, 2, none⟩ (.slice Cols_35.a Cols_35.l Cols_35.c) fun w =>
        St1 w ⟨p1, 3, none⟩ (.slice Rows_36.a Rows_36.l Rows_36.c) fun w =>
        LdI .i64 w ⟨p1, 0, none⟩ fun Err_37 =>
        LdI .i64 w ⟨p1, 1, none⟩ fun N_38 =>
        LdS w ⟨p1, 2, none⟩ fun Cols_39 =>
        LdS w ⟨p1, 3, none⟩ fun Rows_40 =>
        K Err_37 N_38 Cols_39 Rows_40 w)
      else
        LdI .i64 w ⟨p32, 0, none⟩ fun kind_41 =>
        if (decide (kind_41 ≤ 6)) = true then
          LdI .i64 w ⟨p32, 0, none⟩ fun kind_42 =>
          Join (fun (e_43 : Int) (w : World) =>
            S.querym_fail e_43 w (fun Err_44 N_45 Cols_46 Rows_47 w =>
            St1 w ⟨p1, 0, none⟩ (.int .i64 Err_44) fun w =>
            St1 w ⟨p1, 1, none⟩ (.int .i64 N_45) fun w =>
            St1 w ⟨p1, 2, none⟩ (.slice Cols_46.a Cols_46.l Cols_46.c) fun w =>
            St1 w ⟨p1, 3, none⟩ (.slice Rows_47.a Rows_47.l Rows_47.c) fun w =>
            LdI .i64 w ⟨p1, 0, none⟩ fun Err_48 =>
            LdI .i64 w ⟨p1, 1, none⟩ fun N_49 =>
            LdS w ⟨p1, 2, none⟩ fun Cols_50 =>
            LdS w ⟨p1, 3, none⟩ fun Rows_51 =>
            K Err_48 N_49 Cols_50 Rows_51 w)) fun J52 =>
          if (kind_42 == 1) = true then
            LdP w ⟨q, 0, none⟩ fun m_53 =>
            S.api_Multi_Begin m_53 s_ w (fun r54 w =>
            J52 r54 w)
          else
            if (kind_42 == 2) = true then
              LdP w ⟨q, 0, none⟩ fun m_55 =>
              S.api_Multi_Commit m_55 s_ w (fun r56 w =>
              J52 r56 w)
            else
              if (kind_42 == 3) = true then
                LdP w ⟨q, 0, none⟩ fun m_57 =>
                S.api_Multi_Rollback m_57 s_ w (fun r58 w =>
                J52 r58 w)
              else
                if (kind_42 == 4) = true then
                  Drew w fun w =>
                  LdP w ⟨q, 0, none⟩ fun m_59 =>
                  LdStr w ⟨p32, 1, none⟩ fun table_60 =>
                  LdS w ⟨p32, 2, none⟩ fun cols_61 =>
                  LdI .i64 w ⟨p32, 3, none⟩ fun pk_62 =>
                  S.api_Multi_CreateTable m_59 s_ table_60 cols_61 pk_62 w (fun r63 w =>
                  J52 r63 w)
                else
                  if (kind_42 == 5) = true then
                    Drew w fun w =>
                    LdP w ⟨q, 0, none⟩ fun m_64 =>
                    LdStr w ⟨p32, 1, none⟩ fun table_65 =>
                    S.api_Multi_DropTable m_64 s_ table_65 w (fun r66 w =>
                    J52 r66 w)
                  else
                    if (kind_42 == 6) = true then
                      LdI .i64 w ⟨p32, 0, none⟩ fun kind_67 =>
                      LdStr w ⟨p32, 1, none⟩ fun table_68 =>
                      LdS w ⟨p32, 2, none⟩ fun cols_69 =>
                      LdI .i64 w ⟨p32, 3, none⟩ fun pk_70 =>
                      LdS w ⟨p32, 4, none⟩ fun names_71 =>
                      LdS w ⟨p32, 5, none⟩ fun vals_72 =>
                      LdB w ⟨p32, 6, none⟩ fun star_73 =>
                      LdS w ⟨p32, 7, none⟩ fun where_74 =>
                      LdStr w ⟨p32, 8, none⟩ fun order_75 =>
                      LdB w ⟨p32, 9, none⟩ fun desc_76 =>
                      LdB w ⟨p32, 10, none⟩ fun hasLimit_77 =>
                      LdI .i64 w ⟨p32, 11, none⟩ fun limit_78 =>
                      S.querym_Engine_createIndex q s_ kind_67 table_68 cols_69 pk_70 names_71 vals_72 star_73 where_74 order_75 desc_76 hasLimit_77 limit_78 w (fun r79 w =>
                      J52 r79 w)
                    else
                      J52 0 w
        else
          LdP w ⟨q, 0, none⟩ fun m_80 =>
          IxA 4 s_ <|
          LdB w ⟨m_80, 1 + Int.toNat s_ * 1, none⟩ fun Act_81 =>
          Let (!Act_81) fun auto_82 =>
          Join (fun (w : World) =>
            LdI .i64 w ⟨p32, 0, none⟩ fun kind_83 =>
            LdStr w ⟨p32, 1, none⟩ fun table_84 =>
            LdS w ⟨p32, 2, none⟩ fun cols_85 =>
            LdI .i64 w ⟨p32, 3, none⟩ fun pk_86 =>
            LdS w ⟨p32, 4, none⟩ fun names_87 =>
            LdS w ⟨p32, 5, none⟩ fun vals_88 =>
            LdB w ⟨p32, 6, none⟩ fun star_89 =>
            LdS w ⟨p32, 7, none⟩ fun where_90 =>
            LdStr w ⟨p32, 8, none⟩ fun order_91 =>
            LdB w ⟨p32, 9, none⟩ fun desc_92 =>
            LdB w ⟨p32, 10, none⟩ fun hasLimit_93 =>
            LdI .i64 w ⟨p32, 11, none⟩ fun limit_94 =>
            S.querym_Engine_run q s_ kind_83 table_84 cols_85 pk_86 names_87 vals_88 star_89 where_90 order_91 desc_92 hasLimit_93 limit_94 w (fun Err_95 N_96 Cols_97 Rows_98 w =>
            New w (.cells #[.int .i64 0, .int .i64 0, .slice none 0 0, .slice none 0 0] 36) fun p99 w =>
            St1 w ⟨p99, 0, none⟩ (.int .i64 Err_95) fun w =>
            St1 w ⟨p99, 1, none⟩ (.int .i64 N_96) fun w =>
            St1 w ⟨p99, 2, none⟩ (.slice Cols_97.a Cols_97.l Cols_97.c) fun w =>
            St1 w ⟨p99, 3, none⟩ (.slice Rows_98.a Rows_98.l Rows_98.c) fun w =>
            if auto_82 = true then
              LdI .i64 w ⟨p99, 0, none⟩ fun Err_100 =>
              if (Err_100 == 0) = true then
                LdP w ⟨q, 0, none⟩ fun m_101 =>
                S.api_Multi_Commit m_101 s_ w (fun r102 w =>
                LdI .i64 w ⟨p99, 0, none⟩ fun Err_103 =>
                LdI .i64 w ⟨p99, 1, none⟩ fun N_104 =>
                LdS w ⟨p99, 2, none⟩ fun Cols_105 =>
                LdS w ⟨p99, 3, none⟩ fun Rows_106 =>
                St1 w ⟨p1, 0, none⟩ (.int .i64 Err_103) fun w =>
                St1 w ⟨p1, 1, none⟩ (.int .i64 N_104) fun w =>
                St1 w ⟨p1, 2, none⟩ (.slice Cols_105.a Cols_105.l Cols_105.c) fun w =>
                St1 w ⟨p1, 3, none⟩ (.slice Rows_106.a Rows_106.l Rows_106.c) fun w =>
                LdI .i64 w ⟨p1, 0, none⟩ fun Err_107 =>
                LdI .i64 w ⟨p1, 1, none⟩ fun N_108 =>
                LdS w ⟨p1, 2, none⟩ fun Cols_109 =>
                LdS w ⟨p1, 3, none⟩ fun Rows_110 =>
                K Err_107 N_108 Cols_109 Rows_110 w)
              else
                LdP w ⟨q, 0, none⟩ fun m_111 =>
                S.api_Multi_Rollback m_111 s_ w (fun r112 w =>
                LdI .i64 w ⟨p99, 0, none⟩ fun Err_113 =>
                LdI .i64 w ⟨p99, 1, none⟩ fun N_114 =>
                LdS w ⟨p99, 2, none⟩ fun Cols_115 =>
                LdS w ⟨p99, 3, none⟩ fun Rows_116 =>
                St1 w ⟨p1, 0, none⟩ (.int .i64 Err_113) fun w =>
                St1 w ⟨p1, 1, none⟩ (.int .i64 N_114) fun w =>
                St1 w ⟨p1, 2, none⟩ (.slice Cols_115.a Cols_115.l Cols_115.c) fun w =>
                St1 w ⟨p1, 3, none⟩ (.slice Rows_116.a Rows_116.l Rows_116.c) fun w =>
                LdI .i64 w ⟨p1, 0, none⟩ fun Err_117 =>
                LdI .i64 w ⟨p1, 1, none⟩ fun N_118 =>
                LdS w ⟨p1, 2, none⟩ fun Cols_119 =>
                LdS w ⟨p1, 3, none⟩ fun Rows_120 =>
                K Err_117 N_118 Cols_119 Rows_120 w)
            else
              LdI .i64 w ⟨p99, 0, none⟩ fun Err_121 =>
              LdI .i64 w ⟨p99, 1, none⟩ fun N_122 =>
              LdS w ⟨p99, 2, none⟩ fun Cols_123 =>
              LdS w ⟨p99, 3, none⟩ fun Rows_124 =>
              St1 w ⟨p1, 0, none⟩ (.int .i64 Err_121) fun w =>
              St1 w ⟨p1, 1, none⟩ (.int .i64 N_122) fun w =>
              St1 w ⟨p1, 2, none⟩ (.slice Cols_123.a Cols_123.l Cols_123.c) fun w =>
              St1 w ⟨p1, 3, none⟩ (.slice Rows_124.a Rows_124.l Rows_124.c) fun w =>
              LdI .i64 w ⟨p1, 0, none⟩ fun Err_125 =>
              LdI .i64 w ⟨p1, 1, none⟩ fun N_126 =>
              LdS w ⟨p1, 2, none⟩ fun Cols_127 =>
              LdS w ⟨p1, 3, none⟩ fun Rows_128 =>
              K Err_125 N_126 Cols_127 Rows_128 w)) fun J129 =>
          if auto_82 = true then
            LdP w ⟨q, 0, none⟩ fun m_130 =>
            S.api_Multi_Begin m_130 s_ w (fun r131 w =>
            J129 w)
          else
            J129 w))
def T.C10 : CallT := (CallT.cons 35 T.c35 (CallT.cons 23 T.c23 (CallT.cons 36 T.c36 (CallT.cons 37 T.c37 (CallT.cons 38 T.c38 (CallT.cons 39 T.c39 (CallT.cons 40 T.c40 (CallT.cons 41 T.c41 (CallT.cons 42 T.c42 (CallT.cons 43 T.c43 CallT.nil))))))))))
def T.A10 : Ann := fun i => bif Nat.beq i 1000031 then some ([], [(0, 5), (1, 0), (6, 5), (11, 5)]) else bif Nat.beq i 1000021 then some ([], [(0, 5), (1, 0), (6, 5), (7, 5), (9, 0), (32, 0)]) else bif Nat.beq i 1000019 then some ([], [(0, 5), (1, 0), (6, 5), (7, 5), (9, 0), (32, 0)]) else bif Nat.beq i 1000017 then some ([], [(0, 5), (1, 0), (6, 5), (7, 5), (9, 0), (32, 0)]) else bif Nat.beq i 1000015 then some ([], [(0, 5), (1, 0), (6, 5), (7, 5), (9, 0), (32, 0)]) else bif Nat.beq i 1000013 then some ([], [(0, 5), (1, 0), (6, 5), (7, 5), (9, 0), (32, 0)]) else none
set_option maxRecDepth 1000000 in
theorem T.eq10 (q : Nat) (s_ : Int) (text : ByteArray) (w : World) (K : Int → Int → Sl → Sl → World → Prop) : denF Tryz.prog T.C10 T.A10 Tryz.f10 [.pointer (some ⟨q, 0, none⟩), .int .i64 s_, .string text] w (fun v w' => match v with | .agg ⟨[.int .i64 r0, .int .i64 r1, .slice r2a r2l r2c, .slice r3a r3l r3c]⟩ => K r0 r1 ⟨r2a, r2l, r2c⟩ ⟨r3a, r3l, r3c⟩ w' | _ => False) = S.querym_Engine_Exec q s_ text w K := by kernel_rfl
theorem T.CO10 : CallOk Tryz.prog T.C10 := (CallOk.cons 35 T.ok35 (CallOk.cons 23 T.ok23 (CallOk.cons 36 T.ok36 (CallOk.cons 37 T.ok37 (CallOk.cons 38 T.ok38 (CallOk.cons 39 T.ok39 (CallOk.cons 40 T.ok40 (CallOk.cons 41 T.ok41 (CallOk.cons 42 T.ok42 (CallOk.cons 43 T.ok43 CallOk.nil))))))))))
def T.c10 (vs : List Value) (w : World) (K : Value → World → Prop) : Prop :=
  match vs with
  | [.pointer (some ⟨q, 0, none⟩), .int .i64 s_, .string text] => S.querym_Engine_Exec q s_ text w (fun r0 r1 r2 r3 w' => K (.agg #[.int .i64 r0, .int .i64 r1, .slice r2.a r2.l r2.c, .slice r3.a r3.l r3.c]) w')
  | _ => False
theorem T.ok10 : ∀ vs w K, T.c10 vs w K → (callFunc 10 vs.toArray).run Tryz.prog w = .ok (.enter 10 vs.toArray) w ∧ Calls Tryz.prog 10 vs.toArray w fun e w' => ∃ v, e = .returned v ∧ K v w' := by
  intro vs w K h
  unfold T.c10 at h
  split at h
  · refine ⟨Tryz.call10 _ _, ok_of T.CO10 mixed Tryz.func10 (T.eq10 _ _ _ _ _) h fun v w' hk => ⟨v, rfl, ?_⟩⟩
    split at hk
    · exact hk
    · exact hk.elim
  · exact h.elim

/-- e2e/query.fail (function 22). -/
def S.query_fail (e : Int) (w : World) (K : Int → Int → Sl → Sl → World → Prop) : Prop :=
  New w (.cells #[.int .i64 0, .int .i64 0, .slice none 0 0, .slice none 0 0] 36) fun p1 w =>
  St1 w ⟨p1, 0, none⟩ (.int .i64 e) fun w =>
  St1 w ⟨p1, 1, none⟩ (.int .i64 0) fun w =>
  St1 w ⟨p1, 2, none⟩ (.slice none 0 0) fun w =>
  St1 w ⟨p1, 3, none⟩ (.slice none 0 0) fun w =>
  LdI .i64 w ⟨p1, 0, none⟩ fun Err_2 =>
  LdI .i64 w ⟨p1, 1, none⟩ fun N_3 =>
  LdS w ⟨p1, 2, none⟩ fun Cols_4 =>
  LdS w ⟨p1, 3, none⟩ fun Rows_5 =>
  K Err_2 N_3 Cols_4 Rows_5 w
def T.C22 : CallT := CallT.nil
def T.A22 : Ann := fun _ => none
set_option maxRecDepth 1000000 in
theorem T.eq22 (e : Int) (w : World) (K : Int → Int → Sl → Sl → World → Prop) : denF Tryz.prog T.C22 T.A22 Tryz.f22 [.int .i64 e] w (fun v w' => match v with | .agg ⟨[.int .i64 r0, .int .i64 r1, .slice r2a r2l r2c, .slice r3a r3l r3c]⟩ => K r0 r1 ⟨r2a, r2l, r2c⟩ ⟨r3a, r3l, r3c⟩ w' | _ => False) = S.query_fail e w K := by kernel_rfl
theorem T.CO22 : CallOk Tryz.prog T.C22 := CallOk.nil
def T.c22 (vs : List Value) (w : World) (K : Value → World → Prop) : Prop :=
  match vs with
  | [.int .i64 e] => S.query_fail e w (fun r0 r1 r2 r3 w' => K (.agg #[.int .i64 r0, .int .i64 r1, .slice r2.a r2.l r2.c, .slice r3.a r3.l r3.c]) w')
  | _ => False
theorem T.ok22 : ∀ vs w K, T.c22 vs w K → (callFunc 22 vs.toArray).run Tryz.prog w = .ok (.enter 22 vs.toArray) w ∧ Calls Tryz.prog 22 vs.toArray w fun e w' => ∃ v, e = .returned v ∧ K v w' := by
  intro vs w K h
  unfold T.c22 at h
  split at h
  · refine ⟨Tryz.call22 _ _, ok_of T.CO22 mixed Tryz.func22 (T.eq22 _ _ _) h fun v w' hk => ⟨v, rfl, ?_⟩⟩
    split at hk
    · exact hk
    · exact hk.elim
  · exact h.elim

/-- e2e/query.letter (function 225). -/
def S.query_letter (c : Int) (w : World) (K : Bool → World → Prop) : Prop :=
  if (decide (c ≥ 65)) = true then
    if (decide (c ≤ 90)) = true then
      K true w
    else
      if (decide (c ≥ 97)) = true then
        if (decide (c ≤ 122)) = true then
          K true w
        else
          K (c == 95) w
      else
        K (c == 95) w
  else
    if (decide (c ≥ 97)) = true then
      if (decide (c ≤ 122)) = true then
        K true w
      else
        K (c == 95) w
    else
      K (c == 95) w
def T.C225 : CallT := CallT.nil
def T.A225 : Ann := fun _ => none
set_option maxRecDepth 1000000 in
theorem T.eq225 (c : Int) (w : World) (K : Bool → World → Prop) : denF Tryz.prog T.C225 T.A225 Tryz.f225 [.int .u8 c] w (fun v w' => match v with | .bool r0 => K r0 w' | _ => False) = S.query_letter c w K := by kernel_rfl
theorem T.CO225 : CallOk Tryz.prog T.C225 := CallOk.nil
def T.c225 (vs : List Value) (w : World) (K : Value → World → Prop) : Prop :=
  match vs with
  | [.int .u8 c] => S.query_letter c w (fun r0 w' => K (.bool r0) w')
  | _ => False
theorem T.ok225 : ∀ vs w K, T.c225 vs w K → (callFunc 225 vs.toArray).run Tryz.prog w = .ok (.enter 225 vs.toArray) w ∧ Calls Tryz.prog 225 vs.toArray w fun e w' => ∃ v, e = .returned v ∧ K v w' := by
  intro vs w K h
  unfold T.c225 at h
  split at h
  · refine ⟨Tryz.call225 _ _, ok_of T.CO225 mixed Tryz.func225 (T.eq225 _ _ _) h fun v w' hk => ⟨v, rfl, ?_⟩⟩
    split at hk
    · exact hk
    · exact hk.elim
  · exact h.elim

/-- e2e/query.keyword (function 227). -/
def S.query_keyword (w_ : ByteArray) (w : World) (K : Bool → World → Prop) : Prop :=
  Join (fun (j_1 : Bool) (w : World) =>
    if j_1 = true then
      K true w
    else
      K false w) fun J2 =>
  if (w_.toList == (⟨#[79, 78]⟩ : ByteArray).toList) = true then
    J2 (w_.toList == (⟨#[79, 78]⟩ : ByteArray).toList) w
  else
    if (w_.toList == (⟨#[66, 89]⟩ : ByteArray).toList) = true then
      J2 (w_.toList == (⟨#[66, 89]⟩ : ByteArray).toList) w
    else
      if (w_.toList == (⟨#[65, 78, 68]⟩ : ByteArray).toList) = true then
        J2 (w_.toList == (⟨#[65, 78, 68]⟩ : ByteArray).toList) w
      else
        if (w_.toList == (⟨#[83, 69, 84]⟩ : ByteArray).toList) = true then
          J2 (w_.toList == (⟨#[83, 69, 84]⟩ : ByteArray).toList) w
        else
          if (w_.toList == (⟨#[73, 78, 84]⟩ : ByteArray).toList) = true then
            J2 (w_.toList == (⟨#[73, 78, 84]⟩ : ByteArray).toList) w
          else
            if (w_.toList == (⟨#[75, 69, 89]⟩ : ByteArray).toList) = true then
              J2 (w_.toList == (⟨#[75, 69, 89]⟩ : ByteArray).toList) w
            else
              if (w_.toList == (⟨#[68, 82, 79, 80]⟩ : ByteArray).toList) = true then
                J2 (w_.toList == (⟨#[68, 82, 79, 80]⟩ : ByteArray).toList) w
              else
                if (w_.toList == (⟨#[73, 78, 84, 79]⟩ : ByteArray).toList) = true then
                  J2 (w_.toList == (⟨#[73, 78, 84, 79]⟩ : ByteArray).toList) w
                else
                  if (w_.toList == (⟨#[70, 82, 79, 77]⟩ : ByteArray).toList) = true then
                    J2 (w_.toList == (⟨#[70, 82, 79, 77]⟩ : ByteArray).toList) w
                  else
                    if (w_.toList == (⟨#[68, 69, 83, 67]⟩ : ByteArray).toList) = true then
                      J2 (w_.toList == (⟨#[68, 69, 83, 67]⟩ : ByteArray).toList) w
                    else
                      if (w_.toList == (⟨#[84, 69, 88, 84]⟩ : ByteArray).toList) = true then
                        J2 (w_.toList == (⟨#[84, 69, 88, 84]⟩ : ByteArray).toList) w
                      else
                        if (w_.toList == (⟨#[66, 69, 71, 73, 78]⟩ : ByteArray).toList) = true then
                          J2 (w_.toList == (⟨#[66, 69, 71, 73, 78]⟩ : ByteArray).toList) w
                        else
                          if (w_.toList == (⟨#[84, 65, 66, 76, 69]⟩ : ByteArray).toList) = true then
                            J2 (w_.toList == (⟨#[84, 65, 66, 76, 69]⟩ : ByteArray).toList) w
                          else
                            if (w_.toList == (⟨#[73, 78, 68, 69, 88]⟩ : ByteArray).toList) = true then
                              J2 (w_.toList == (⟨#[73, 78, 68, 69, 88]⟩ : ByteArray).toList) w
                            else
                              if (w_.toList == (⟨#[87, 72, 69, 82, 69]⟩ : ByteArray).toList) = true then
                                J2 (w_.toList == (⟨#[87, 72, 69, 82, 69]⟩ : ByteArray).toList) w
                              else
                                if (w_.toList == (⟨#[79, 82, 68, 69, 82]⟩ : ByteArray).toList) = true then
                                  J2 (w_.toList == (⟨#[79, 82, 68, 69, 82]⟩ : ByteArray).toList) w
                                else
                                  if (w_.toList == (⟨#[76, 73, 77, 73, 84]⟩ : ByteArray).toList) = true then
                                    J2 (w_.toList == (⟨#[76, 73, 77, 73, 84]⟩ : ByteArray).toList) w
                                  else
                                    if (w_.toList == (⟨#[67, 79, 77, 77, 73, 84]⟩ : ByteArray).toList) = true then
                                      J2 (w_.toList == (⟨#[67, 79, 77, 77, 73, 84]⟩ : ByteArray).toList) w
                                    else
                                      if (w_.toList == (⟨#[67, 82, 69, 65, 84, 69]⟩ : ByteArray).toList) = true then
                                        J2 (w_.toList == (⟨#[67, 82, 69, 65, 84, 69]⟩ : ByteArray).toList) w
                                      else
                                        if (w_.toList == (⟨#[73, 78, 83, 69, 82, 84]⟩ : ByteArray).toList) = true then
                                          J2 (w_.toList == (⟨#[73, 78, 83, 69, 82, 84]⟩ : ByteArray).toList) w
                                        else
                                          if (w_.toList == (⟨#[86, 65, 76, 85, 69, 83]⟩ : ByteArray).toList) = true then
                                            J2 (w_.toList == (⟨#[86, 65, 76, 85, 69, 83]⟩ : ByteArray).toList) w
                                          else
                                            if (w_.toList == (⟨#[83, 69, 76, 69, 67, 84]⟩ : ByteArray).toList) = true then
                                              J2 (w_.toList == (⟨#[83, 69, 76, 69, 67, 84]⟩ : ByteArray).toList) w
                                            else
                                              if (w_.toList == (⟨#[85, 80, 68, 65, 84, 69]⟩ : ByteArray).toList) = true then
                                                J2 (w_.toList == (⟨#[85, 80, 68, 65, 84, 69]⟩ : ByteArray).toList) w
                                              else
                                                if (w_.toList == (⟨#[68, 69, 76, 69, 84, 69]⟩ : ByteArray).toList) = true then
                                                  J2 (w_.toList == (⟨#[68, 69, 76, 69, 84, 69]⟩ : ByteArray).toList) w
                                                else
                                                  J2 (w_.toList == (⟨#[82, 79, 76, 76, 66, 65, 67, 75]⟩ : ByteArray).toList) w
def T.C227 : CallT := CallT.nil
def T.A227 : Ann := fun i => bif Nat.beq i 1000025 then some ([], [(3, 4)]) else bif Nat.beq i 1000024 then some ([], [(3, 4)]) else bif Nat.beq i 1000023 then some ([], [(3, 4)]) else bif Nat.beq i 1000022 then some ([], [(3, 4)]) else bif Nat.beq i 1000021 then some ([], [(3, 4)]) else bif Nat.beq i 1000020 then some ([], [(3, 4)]) else bif Nat.beq i 1000019 then some ([], [(3, 4)]) else bif Nat.beq i 1000018 then some ([], [(3, 4)]) else bif Nat.beq i 1000017 then some ([], [(3, 4)]) else bif Nat.beq i 1000016 then some ([], [(3, 4)]) else bif Nat.beq i 1000015 then some ([], [(3, 4)]) else bif Nat.beq i 1000014 then some ([], [(3, 4)]) else bif Nat.beq i 1000013 then some ([], [(3, 4)]) else bif Nat.beq i 1000012 then some ([], [(3, 4)]) else bif Nat.beq i 1000011 then some ([], [(3, 4)]) else bif Nat.beq i 1000010 then some ([], [(3, 4)]) else bif Nat.beq i 1000009 then some ([], [(3, 4)]) else bif Nat.beq i 1000008 then some ([], [(3, 4)]) else bif Nat.beq i 1000007 then some ([], [(3, 4)]) else bif Nat.beq i 1000006 then some ([], [(3, 4)]) else bif Nat.beq i 1000005 then some ([], [(3, 4)]) else bif Nat.beq i 1000004 then some ([], [(3, 4)]) else bif Nat.beq i 1000003 then some ([], [(3, 4)]) else none
set_option maxRecDepth 1000000 in
theorem T.eq227 (w_ : ByteArray) (w : World) (K : Bool → World → Prop) : denF Tryz.prog T.C227 T.A227 Tryz.f227 [.string w_] w (fun v w' => match v with | .bool r0 => K r0 w' | _ => False) = S.query_keyword w_ w K := by kernel_rfl
theorem T.CO227 : CallOk Tryz.prog T.C227 := CallOk.nil
def T.c227 (vs : List Value) (w : World) (K : Value → World → Prop) : Prop :=
  match vs with
  | [.string w_] => S.query_keyword w_ w (fun r0 w' => K (.bool r0) w')
  | _ => False
theorem T.ok227 : ∀ vs w K, T.c227 vs w K → (callFunc 227 vs.toArray).run Tryz.prog w = .ok (.enter 227 vs.toArray) w ∧ Calls Tryz.prog 227 vs.toArray w fun e w' => ∃ v, e = .returned v ∧ K v w' := by
  intro vs w K h
  unfold T.c227 at h
  split at h
  · refine ⟨Tryz.call227 _ _, ok_of T.CO227 mixed Tryz.func227 (T.eq227 _ _ _) h fun v w' hk => ⟨v, rfl, ?_⟩⟩
    split at hk
    · exact hk
    · exact hk.elim
  · exact h.elim

/-- e2e/query.digit (function 226). -/
def S.query_digit (c : Int) (w : World) (K : Bool → World → Prop) : Prop :=
  if (decide (c ≥ 48)) = true then
    K (decide (c ≤ 57)) w
  else
    K false w
def T.C226 : CallT := CallT.nil
def T.A226 : Ann := fun _ => none
set_option maxRecDepth 1000000 in
theorem T.eq226 (c : Int) (w : World) (K : Bool → World → Prop) : denF Tryz.prog T.C226 T.A226 Tryz.f226 [.int .u8 c] w (fun v w' => match v with | .bool r0 => K r0 w' | _ => False) = S.query_digit c w K := by kernel_rfl
theorem T.CO226 : CallOk Tryz.prog T.C226 := CallOk.nil
def T.c226 (vs : List Value) (w : World) (K : Value → World → Prop) : Prop :=
  match vs with
  | [.int .u8 c] => S.query_digit c w (fun r0 w' => K (.bool r0) w')
  | _ => False
theorem T.ok226 : ∀ vs w K, T.c226 vs w K → (callFunc 226 vs.toArray).run Tryz.prog w = .ok (.enter 226 vs.toArray) w ∧ Calls Tryz.prog 226 vs.toArray w fun e w' => ∃ v, e = .returned v ∧ K v w' := by
  intro vs w K h
  unfold T.c226 at h
  split at h
  · refine ⟨Tryz.call226 _ _, ok_of T.CO226 mixed Tryz.func226 (T.eq226 _ _ _) h fun v w' hk => ⟨v, rfl, ?_⟩⟩
    split at hk
    · exact hk
    · exact hk.elim
  · exact h.elim

/-- e2e/query.lexInt (function 228). -/
def S.query_lexInt (s_ : ByteArray) (at_ : Int) (w : World) (K : Int → ByteArray → Int → Int → World → Prop) : Prop :=
  New w (.cells #[.int .i64 0, .string ⟨#[]⟩, .int .i64 0, .int .i64 0] 130) fun p1 w =>
  IxStr s_ at_ fun c2 =>
  Let (c2 == 45) fun neg_3 =>
  Join (fun (at_4 : Int) (w : World) =>
    Join (fun (at_5 : Int) (acc_6 : Int) (w : World) =>
      if neg_3 = true then
        St1 w ⟨p1, 0, none⟩ (.int .i64 4) fun w =>
        St1 w ⟨p1, 1, none⟩ (.string ⟨#[]⟩) fun w =>
        St1 w ⟨p1, 2, none⟩ (.int .i64 acc_6) fun w =>
        St1 w ⟨p1, 3, none⟩ (.int .i64 at_5) fun w =>
        LdI .i64 w ⟨p1, 0, none⟩ fun Kind_7 =>
        LdStr w ⟨p1, 1, none⟩ fun Text_8 =>
        LdI .i64 w ⟨p1, 2, none⟩ fun Val_9 =>
        LdI .i64 w ⟨p1, 3, none⟩ fun End_10 =>
        K Kind_7 Text_8 Val_9 End_10 w
      else
        if (acc_6 == (-9223372036854775808)) = true then
          St1 w ⟨p1, 0, none⟩ (.int .i64 1) fun w =>
          St1 w ⟨p1, 1, none⟩ (.string ⟨#[]⟩) fun w =>
          St1 w ⟨p1, 2, none⟩ (.int .i64 0) fun w =>
          St1 w ⟨p1, 3, none⟩ (.int .i64 0) fun w =>
          LdI .i64 w ⟨p1, 0, none⟩ fun Kind_11 =>
          LdStr w ⟨p1, 1, none⟩ fun Text_12 =>
          LdI .i64 w ⟨p1, 2, none⟩ fun Val_13 =>
          LdI .i64 w ⟨p1, 3, none⟩ fun End_14 =>
          K Kind_11 Text_12 Val_13 End_14 w
        else
          St1 w ⟨p1, 0, none⟩ (.int .i64 4) fun w =>
          St1 w ⟨p1, 1, none⟩ (.string ⟨#[]⟩) fun w =>
          St1 w ⟨p1, 2, none⟩ (.int .i64 (W (0 - acc_6))) fun w =>
          St1 w ⟨p1, 3, none⟩ (.int .i64 at_5) fun w =>
          LdI .i64 w ⟨p1, 0, none⟩ fun Kind_15 =>
          LdStr w ⟨p1, 1, none⟩ fun Text_16 =>
          LdI .i64 w ⟨p1, 2, none⟩ fun Val_17 =>
          LdI .i64 w ⟨p1, 3, none⟩ fun End_18 =>
          K Kind_15 Text_16 Val_17 End_18 w) fun J19 =>
    LoopP (σ := Int × Int × Unit) (fun st20 w next21 =>
      if (decide (st20.1 < (s_.size : Int))) = true then
        IxStr s_ st20.1 fun c22 =>
        S.query_digit c22 w (fun r23 w =>
        if r23 = true then
          IxStr s_ st20.1 fun c24 =>
          Let (W (U8 (c24 - 48))) fun d_25 =>
          if (decide (st20.2.1 < (W (Int.tdiv (W ((-9223372036854775808) + d_25)) 10)))) = true then
            St1 w ⟨p1, 0, none⟩ (.int .i64 1) fun w =>
            St1 w ⟨p1, 1, none⟩ (.string ⟨#[]⟩) fun w =>
            St1 w ⟨p1, 2, none⟩ (.int .i64 0) fun w =>
            St1 w ⟨p1, 3, none⟩ (.int .i64 0) fun w =>
            LdI .i64 w ⟨p1, 0, none⟩ fun Kind_26 =>
            LdStr w ⟨p1, 1, none⟩ fun Text_27 =>
            LdI .i64 w ⟨p1, 2, none⟩ fun Val_28 =>
            LdI .i64 w ⟨p1, 3, none⟩ fun End_29 =>
            K Kind_26 Text_27 Val_28 End_29 w
          else
            Let (W ((W (st20.2.1 * 10)) - d_25)) fun acc_30 =>
            Let (W (st20.1 + 1)) fun at_31 =>
            next21 (at_31, acc_30, ()) w
        else
          J19 st20.1 st20.2.1 w)
      else
        J19 st20.1 st20.2.1 w) (at_4, 0, ()) w) fun J32 =>
  if neg_3 = true then
    Let (W (at_ + 1)) fun at_33 =>
    J32 at_33 w
  else
    J32 at_ w
def T.C228 : CallT := (CallT.cons 226 T.c226 CallT.nil)
def T.A228 : Ann := fun i => bif Nat.beq i 5 then some ([0, 4, 5], [(1, 0), (6, 0)]) else none
set_option maxRecDepth 1000000 in
theorem T.eq228 (s_ : ByteArray) (at_ : Int) (w : World) (K : Int → ByteArray → Int → Int → World → Prop) : denF Tryz.prog T.C228 T.A228 Tryz.f228 [.string s_, .int .i64 at_] w (fun v w' => match v with | .agg ⟨[.int .i64 r0, .string r1, .int .i64 r2, .int .i64 r3]⟩ => K r0 r1 r2 r3 w' | _ => False) = S.query_lexInt s_ at_ w K := by kernel_rfl
theorem T.CO228 : CallOk Tryz.prog T.C228 := (CallOk.cons 226 T.ok226 CallOk.nil)
def T.c228 (vs : List Value) (w : World) (K : Value → World → Prop) : Prop :=
  match vs with
  | [.string s_, .int .i64 at_] => S.query_lexInt s_ at_ w (fun r0 r1 r2 r3 w' => K (.agg #[.int .i64 r0, .string r1, .int .i64 r2, .int .i64 r3]) w')
  | _ => False
theorem T.ok228 : ∀ vs w K, T.c228 vs w K → (callFunc 228 vs.toArray).run Tryz.prog w = .ok (.enter 228 vs.toArray) w ∧ Calls Tryz.prog 228 vs.toArray w fun e w' => ∃ v, e = .returned v ∧ K v w' := by
  intro vs w K h
  unfold T.c228 at h
  split at h
  · refine ⟨Tryz.call228 _ _, ok_of T.CO228 mixed Tryz.func228 (T.eq228 _ _ _ _) h fun v w' hk => ⟨v, rfl, ?_⟩⟩
    split at hk
    · exact hk
    · exact hk.elim
  · exact h.elim

/-- e2e/query.blank (function 224). -/
def S.query_blank (c : Int) (w : World) (K : Bool → World → Prop) : Prop :=
  if (c == 32) = true then
    K true w
  else
    if (c == 9) = true then
      K true w
    else
      if (c == 10) = true then
        K true w
      else
        K (c == 13) w
def T.C224 : CallT := CallT.nil
def T.A224 : Ann := fun _ => none
set_option maxRecDepth 1000000 in
theorem T.eq224 (c : Int) (w : World) (K : Bool → World → Prop) : denF Tryz.prog T.C224 T.A224 Tryz.f224 [.int .u8 c] w (fun v w' => match v with | .bool r0 => K r0 w' | _ => False) = S.query_blank c w K := by kernel_rfl
theorem T.CO224 : CallOk Tryz.prog T.C224 := CallOk.nil
def T.c224 (vs : List Value) (w : World) (K : Value → World → Prop) : Prop :=
  match vs with
  | [.int .u8 c] => S.query_blank c w (fun r0 w' => K (.bool r0) w')
  | _ => False
theorem T.ok224 : ∀ vs w K, T.c224 vs w K → (callFunc 224 vs.toArray).run Tryz.prog w = .ok (.enter 224 vs.toArray) w ∧ Calls Tryz.prog 224 vs.toArray w fun e w' => ∃ v, e = .returned v ∧ K v w' := by
  intro vs w K h
  unfold T.c224 at h
  split at h
  · refine ⟨Tryz.call224 _ _, ok_of T.CO224 mixed Tryz.func224 (T.eq224 _ _ _) h fun v w' hk => ⟨v, rfl, ?_⟩⟩
    split at hk
    · exact hk
    · exact hk.elim
  · exact h.elim

/-- e2e/query.lex (function 138). -/
def S.query_lex (s_ : ByteArray) (at_ : Int) (w : World) (K : Int → ByteArray → Int → Int → World → Prop) : Prop :=
  New w (.cells #[.int .i64 0, .string ⟨#[]⟩, .int .i64 0, .int .i64 0] 130) fun p1 w =>
  Join (fun (at_2 : Int) (w : World) =>
    if (decide (at_2 ≥ (s_.size : Int))) = true then
      St1 w ⟨p1, 0, none⟩ (.int .i64 0) fun w =>
      St1 w ⟨p1, 1, none⟩ (.string ⟨#[]⟩) fun w =>
      St1 w ⟨p1, 2, none⟩ (.int .i64 0) fun w =>
      St1 w ⟨p1, 3, none⟩ (.int .i64 at_2) fun w =>
      LdI .i64 w ⟨p1, 0, none⟩ fun Kind_3 =>
      LdStr w ⟨p1, 1, none⟩ fun Text_4 =>
      LdI .i64 w ⟨p1, 2, none⟩ fun Val_5 =>
      LdI .i64 w ⟨p1, 3, none⟩ fun End_6 =>
      K Kind_3 Text_4 Val_5 End_6 w
    else
      IxStr s_ at_2 fun c7 =>
      Let (W (at_2 + 1)) fun end_8 =>
      S.query_letter c7 w (fun r9 w =>
      if r9 = true then
        Join (fun (end_10 : Int) (w : World) =>
          CutStr s_ at_2 end_10 fun s11 =>
          S.query_keyword s11 w (fun r12 w =>
          if r12 = true then
            CutStr s_ at_2 end_10 fun s13 =>
            St1 w ⟨p1, 0, none⟩ (.int .i64 3) fun w =>
            St1 w ⟨p1, 1, none⟩ (.string s13) fun w =>
            St1 w ⟨p1, 2, none⟩ (.int .i64 0) fun w =>
            St1 w ⟨p1, 3, none⟩ (.int .i64 end_10) fun w =>
            LdI .i64 w ⟨p1, 0, none⟩ fun Kind_14 =>
            LdStr w ⟨p1, 1, none⟩ fun Text_15 =>
            LdI .i64 w ⟨p1, 2, none⟩ fun Val_16 =>
            LdI .i64 w ⟨p1, 3, none⟩ fun End_17 =>
            K Kind_14 Text_15 Val_16 End_17 w
          else
            CutStr s_ at_2 end_10 fun s18 =>
            St1 w ⟨p1, 0, none⟩ (.int .i64 2) fun w =>
            St1 w ⟨p1, 1, none⟩ (.string s18) fun w =>
            St1 w ⟨p1, 2, none⟩ (.int .i64 0) fun w =>
            St1 w ⟨p1, 3, none⟩ (.int .i64 end_10) fun w =>
            LdI .i64 w ⟨p1, 0, none⟩ fun Kind_19 =>
            LdStr w ⟨p1, 1, none⟩ fun Text_20 =>
            LdI .i64 w ⟨p1, 2, none⟩ fun Val_21 =>
            LdI .i64 w ⟨p1, 3, none⟩ fun End_22 =>
            K Kind_19 Text_20 Val_21 End_22 w)) fun J23 =>
        LoopP (σ := Int × Unit) (fun st24 w next25 =>
          if (decide (st24.1 < (s_.size : Int))) = true then
            IxStr s_ st24.1 fun c26 =>
            S.query_letter c26 w (fun r27 w =>
            Join (fun (w : World) =>
              Let (W (st24.1 + 1)) fun end_28 =>
              next25 (end_28, ()) w) fun J29 =>
            if (!r27) = true then
              IxStr s_ st24.1 fun c30 =>
              S.query_digit c30 w (fun r31 w =>
              if (!r31) = true then
                J23 st24.1 w
              else
                J29 w)
            else
              J29 w)
          else
            J23 st24.1 w) (end_8, ()) w
      else
        S.query_digit c7 w (fun r32 w =>
        Join (fun (num_33 : Bool) (w : World) =>
          if num_33 = true then
            S.query_lexInt s_ at_2 w (fun Kind_34 Text_35 Val_36 End_37 w =>
            St1 w ⟨p1, 0, none⟩ (.int .i64 Kind_34) fun w =>
            St1 w ⟨p1, 1, none⟩ (.string Text_35) fun w =>
            St1 w ⟨p1, 2, none⟩ (.int .i64 Val_36) fun w =>
            St1 w ⟨p1, 3, none⟩ (.int .i64 End_37) fun w =>
            LdI .i64 w ⟨p1, 0, none⟩ fun Kind_38 =>
            LdStr w ⟨p1, 1, none⟩ fun Text_39 =>
            LdI .i64 w ⟨p1, 2, none⟩ fun Val_40 =>
            LdI .i64 w ⟨p1, 3, none⟩ fun End_41 =>
            K Kind_38 Text_39 Val_40 End_41 w)
          else
            if (c7 == 39) = true then
              Join (fun (end_42 : Int) (w : World) =>
                if (decide (end_42 ≥ (s_.size : Int))) = true then
                  St1 w ⟨p1, 0, none⟩ (.int .i64 1) fun w =>
                  St1 w ⟨p1, 1, none⟩ (.string ⟨#[]⟩) fun w =>
                  St1 w ⟨p1, 2, none⟩ (.int .i64 0) fun w =>
                  St1 w ⟨p1, 3, none⟩ (.int .i64 0) fun w =>
                  LdI .i64 w ⟨p1, 0, none⟩ fun Kind_43 =>
                  LdStr w ⟨p1, 1, none⟩ fun Text_44 =>
                  LdI .i64 w ⟨p1, 2, none⟩ fun Val_45 =>
                  LdI .i64 w ⟨p1, 3, none⟩ fun End_46 =>
                  K Kind_43 Text_44 Val_45 End_46 w
                else
                  CutStr s_ (W (at_2 + 1)) end_42 fun s47 =>
                  St1 w ⟨p1, 0, none⟩ (.int .i64 5) fun w =>
                  St1 w ⟨p1, 1, none⟩ (.string s47) fun w =>
                  St1 w ⟨p1, 2, none⟩ (.int .i64 0) fun w =>
                  St1 w ⟨p1, 3, none⟩ (.int .i64 (W (end_42 + 1))) fun w =>
                  LdI .i64 w ⟨p1, 0, none⟩ fun Kind_48 =>
                  LdStr w ⟨p1, 1, none⟩ fun Text_49 =>
                  LdI .i64 w ⟨p1, 2, none⟩ fun Val_50 =>
                  LdI .i64 w ⟨p1, 3, none⟩ fun End_51 =>
                  K Kind_48 Text_49 Val_50 End_51 w) fun J52 =>
              LoopP (σ := Int × Unit) (fun st53 w next54 =>
                if (decide (st53.1 < (s_.size : Int))) = true then
                  IxStr s_ st53.1 fun c55 =>
                  if (c55 != 39) = true then
                    Let (W (st53.1 + 1)) fun end_56 =>
                    next54 (end_56, ()) w
                  else
                    J52 st53.1 w
                else
                  J52 st53.1 w) (end_8, ()) w
            else
              Join (fun (end_57 : Int) (w : World) =>
                CutStr s_ at_2 end_57 fun s58 =>
                St1 w ⟨p1, 0, none⟩ (.int .i64 6) fun w =>
                St1 w ⟨p1, 1, none⟩ (.string s58) fun w =>
                St1 w ⟨p1, 2, none⟩ (.int .i64 0) fun w =>
                St1 w ⟨p1, 3, none⟩ (.int .i64 end_57) fun w =>
                LdI .i64 w ⟨p1, 0, none⟩ fun Kind_59 =>
                LdStr w ⟨p1, 1, none⟩ fun Text_60 =>
                LdI .i64 w ⟨p1, 2, none⟩ fun Val_61 =>
                LdI .i64 w ⟨p1, 3, none⟩ fun End_62 =>
                K Kind_59 Text_60 Val_61 End_62 w) fun J63 =>
              Join (fun (w : World) =>
                Let (W (end_8 + 1)) fun end_64 =>
                J63 end_64 w) fun J65 =>
              Join (fun (w : World) =>
                if (c7 != 40) = true then
                  if (c7 != 41) = true then
                    if (c7 != 44) = true then
                      if (c7 != 42) = true then
                        if (c7 != 61) = true then
                          if (c7 != 60) = true then
                            if (c7 != 62) = true then
                              St1 w ⟨p1, 0, none⟩ (.int .i64 1) fun w =>
                              St1 w ⟨p1, 1, none⟩ (.string ⟨#[]⟩) fun w =>
                              St1 w ⟨p1, 2, none⟩ (.int .i64 0) fun w =>
                              St1 w ⟨p1, 3, none⟩ (.int .i64 0) fun w =>
                              LdI .i64 w ⟨p1, 0, none⟩ fun Kind_66 =>
                              LdStr w ⟨p1, 1, none⟩ fun Text_67 =>
                              LdI .i64 w ⟨p1, 2, none⟩ fun Val_68 =>
                              LdI .i64 w ⟨p1, 3, none⟩ fun End_69 =>
                              K Kind_66 Text_67 Val_68 End_69 w
                            else
                              J63 end_8 w
                          else
                            J63 end_8 w
                        else
                          J63 end_8 w
                      else
                        J63 end_8 w
                    else
                      J63 end_8 w
                  else
                    J63 end_8 w
                else
                  J63 end_8 w) fun J70 =>
              if (c7 == 60) = true then
                if (decide (end_8 < (s_.size : Int))) = true then
                  IxStr s_ end_8 fun c71 =>
                  if (c71 == 61) = true then
                    J65 w
                  else
                    J70 w
                else
                  J70 w
              else
                if (c7 == 62) = true then
                  if (decide (end_8 < (s_.size : Int))) = true then
                    IxStr s_ end_8 fun c72 =>
                    if (c72 == 61) = true then
                      J65 w
                    else
                      J70 w
                  else
                    J70 w
                else
                  if (c7 == 33) = true then
                    if (decide (end_8 < (s_.size : Int))) = true then
                      IxStr s_ end_8 fun c73 =>
                      if (c73 == 61) = true then
                        J65 w
                      else
                        J70 w
                    else
                      J70 w
                  else
                    J70 w) fun J74 =>
        if (!r32) = true then
          if (c7 == 45) = true then
            if (decide (end_8 < (s_.size : Int))) = true then
              IxStr s_ end_8 fun c75 =>
              S.query_digit c75 w (fun r76 w =>
              J74 r76 w)
            else
              J74 r32 w
          else
            J74 r32 w
        else
          J74 r32 w))) fun J77 =>
  LoopP (σ := Int × Unit) (fun st78 w next79 =>
    if (decide (st78.1 < (s_.size : Int))) = true then
      IxStr s_ st78.1 fun c80 =>
      S.query_blank c80 w (fun r81 w =>
      if r81 = true then
        Let (W (st78.1 + 1)) fun at_82 =>
        next79 (at_82, ()) w
      else
        J77 st78.1 w)
    else
      J77 st78.1 w) (at_, ()) w
def T.C138 : CallT := (CallT.cons 225 T.c225 (CallT.cons 227 T.c227 (CallT.cons 226 T.c226 (CallT.cons 228 T.c228 (CallT.cons 224 T.c224 CallT.nil)))))
def T.A138 : Ann := fun i => bif Nat.beq i 1 then some ([0, 4], [(1, 0)]) else bif Nat.beq i 1000027 then some ([], [(0, 4), (1, 0), (4, 5), (5, 1), (6, 0)]) else bif Nat.beq i 20 then some ([0, 1, 4], [(6, 0)]) else bif Nat.beq i 7 then some ([0, 1, 4], [(6, 0)]) else none
set_option maxRecDepth 1000000 in
theorem T.eq138 (s_ : ByteArray) (at_ : Int) (w : World) (K : Int → ByteArray → Int → Int → World → Prop) : denF Tryz.prog T.C138 T.A138 Tryz.f138 [.string s_, .int .i64 at_] w (fun v w' => match v with | .agg ⟨[.int .i64 r0, .string r1, .int .i64 r2, .int .i64 r3]⟩ => K r0 r1 r2 r3 w' | _ => False) = S.query_lex s_ at_ w K := by kernel_rfl
theorem T.CO138 : CallOk Tryz.prog T.C138 := (CallOk.cons 225 T.ok225 (CallOk.cons 227 T.ok227 (CallOk.cons 226 T.ok226 (CallOk.cons 228 T.ok228 (CallOk.cons 224 T.ok224 CallOk.nil)))))
def T.c138 (vs : List Value) (w : World) (K : Value → World → Prop) : Prop :=
  match vs with
  | [.string s_, .int .i64 at_] => S.query_lex s_ at_ w (fun r0 r1 r2 r3 w' => K (.agg #[.int .i64 r0, .string r1, .int .i64 r2, .int .i64 r3]) w')
  | _ => False
theorem T.ok138 : ∀ vs w K, T.c138 vs w K → (callFunc 138 vs.toArray).run Tryz.prog w = .ok (.enter 138 vs.toArray) w ∧ Calls Tryz.prog 138 vs.toArray w fun e w' => ∃ v, e = .returned v ∧ K v w' := by
  intro vs w K h
  unfold T.c138 at h
  split at h
  · refine ⟨Tryz.call138 _ _, ok_of T.CO138 mixed Tryz.func138 (T.eq138 _ _ _ _) h fun v w' hk => ⟨v, rfl, ?_⟩⟩
    split at hk
    · exact hk
    · exact hk.elim
  · exact h.elim
end Go.Proofs.Qxb6500564aGreat
