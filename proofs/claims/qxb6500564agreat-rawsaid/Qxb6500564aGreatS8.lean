/-
  MADE BY PROGRAM (my own gen2.py) out of the translation: the Go functions as typed texts, each tied to the model by the kernel.
-/
import Derived.Test.Qxb6500564aGreatS7
set_option linter.unusedVariables false
namespace Go.Proofs.Qxb6500564aGreat
open Go.Den

/-- (*e2e/btree.Forest).Drop (function 168). -/
def S.btree_Forest_Drop (f : Nat) (h : Int) (w : World) (K : Int → World → Prop) : Prop :=
  LdP w ⟨f, 0, none⟩ fun p_1 =>
  S.pager_Pager_InTxn p_1 w (fun r2 w =>
  if (!r2) = true then
    K 2 w
  else
    S.btree_Forest_root f h w (fun r3 r4 w =>
    if (r4 == 0) = true then
      K 7 w
    else
      S.btree_Forest_raze f r4 8 w (fun r5 r6 w =>
      if (r6 != 0) = true then
        K r6 w
      else
        S.btree_setAt r3 h 0 w (fun r7 w =>
        IxStr r7 8 fun c8 =>
        S.btree_setAt r7 8 (U8 (W ((W c8) - r5))) w (fun r9 w =>
        S.btree_Forest_putDir f r9 w (fun r10 w =>
        K r10 w))))))
def T.C168 : CallT := (CallT.cons 239 T.c239 (CallT.cons 245 T.c245 (CallT.cons 252 T.c252 (CallT.cons 247 T.c247 (CallT.cons 248 T.c248 CallT.nil)))))
def T.A168 : Ann := fun _ => none
set_option maxRecDepth 1000000 in
theorem T.eq168 (f : Nat) (h : Int) (w : World) (K : Int → World → Prop) : denF Tryz.prog T.C168 T.A168 Tryz.f168 [.pointer (some ⟨f, 0, none⟩), .int .i64 h] w (fun v w' => match v with | .int .i64 r0 => K r0 w' | _ => False) = S.btree_Forest_Drop f h w K := by kernel_rfl
theorem T.CO168 : CallOk Tryz.prog T.C168 := (CallOk.cons 239 T.ok239 (CallOk.cons 245 T.ok245 (CallOk.cons 252 T.ok252 (CallOk.cons 247 T.ok247 (CallOk.cons 248 T.ok248 CallOk.nil)))))
def T.c168 (vs : List Value) (w : World) (K : Value → World → Prop) : Prop :=
  match vs with
  | [.pointer (some ⟨f, 0, none⟩), .int .i64 h] => S.btree_Forest_Drop f h w (fun r0 w' => K (.int .i64 r0) w')
  | _ => False
theorem T.ok168 : ∀ vs w K, T.c168 vs w K → (callFunc 168 vs.toArray).run Tryz.prog w = .ok (.enter 168 vs.toArray) w ∧ Calls Tryz.prog 168 vs.toArray w fun e w' => ∃ v, e = .returned v ∧ K v w' := by
  intro vs w K h
  unfold T.c168 at h
  split at h
  · refine ⟨Tryz.call168 _ _, ok_of T.CO168 mixed Tryz.func168 (T.eq168 _ _ _ _) h fun v w' hk => ⟨v, rfl, ?_⟩⟩
    split at hk
    · exact hk
    · exact hk.elim
  · exact h.elim

/-- (*e2e/table.Store).DropTable (function 74). -/
def S.table_Store_DropTable (t : Nat) (name : ByteArray) (w : World) (K : Int → World → Prop) : Prop :=
  S.table_Store_loadTxn t name w (fun ncols_1 pk_2 index_3 rows_4 idx_5 Name_6 Cols_7 PK_8 Index_9 r10 w =>
  New w (.cells #[.int .i64 0, .int .i64 0, .int .i64 0, .int .i64 0, .int .i64 0] 214) fun p11 w =>
  New w (.cells #[.string ⟨#[]⟩, .slice none 0 0, .int .i64 0, .int .i64 0] 73) fun p12 w =>
  St1 w ⟨p11, 0, none⟩ (.int .i64 ncols_1) fun w =>
  St1 w ⟨p11, 1, none⟩ (.int .i64 pk_2) fun w =>
  St1 w ⟨p11, 2, none⟩ (.int .i64 index_3) fun w =>
  St1 w ⟨p11, 3, none⟩ (.int .i64 rows_4) fun w =>
  St1 w ⟨p11, 4, none⟩ (.int .i64 idx_5) fun w =>
  St1 w ⟨p12, 0, none⟩ (.string Name_6) fun w =>
  St1 w ⟨p12, 1, none⟩ (.slice Cols_7.a Cols_7.l Cols_7.c) fun w =>
  St1 w ⟨p12, 2, none⟩ (.int .i64 PK_8) fun w =>
  St1 w ⟨p12, 3, none⟩ (.int .i64 Index_9) fun w =>
  if (r10 != 0) = true then
    K r10 w
  else
    Drew w fun w =>
    LdP w ⟨t, 0, none⟩ fun f_13 =>
    LdI .i64 w ⟨p11, 3, none⟩ fun rows_14 =>
    S.btree_Forest_Drop f_13 rows_14 w (fun r15 w =>
    S.table_fold 0 r15 w (fun r16 w =>
    LdI .i64 w ⟨p11, 4, none⟩ fun idx_17 =>
    Join (fun (e_18 : Int) (w : World) =>
      LoopP (σ := Int × Int × Unit) (fun st19 w next20 =>
        LdI .i64 w ⟨p11, 0, none⟩ fun ncols_21 =>
        if (decide (st19.2.1 ≤ ncols_21)) = true then
          S.table_catKey name st19.2.1 w (fun r22 w =>
          LdP w ⟨t, 0, none⟩ fun f_23 =>
          S.btree_Forest_Delete f_23 0 r22 w (fun r24 w =>
          S.table_fold st19.1 r24 w (fun r25 w =>
          Let (W (st19.2.1 + 1)) fun i_26 =>
          next20 (r25, i_26, ()) w)))
        else
          K st19.1 w) (e_18, 0, ()) w) fun J27 =>
    if (decide (idx_17 ≥ 0)) = true then
      Drew w fun w =>
      LdP w ⟨t, 0, none⟩ fun f_28 =>
      LdI .i64 w ⟨p11, 4, none⟩ fun idx_29 =>
      S.btree_Forest_Drop f_28 idx_29 w (fun r30 w =>
      S.table_fold r16 r30 w (fun r31 w =>
      J27 r31 w))
    else
      J27 r16 w)))
def T.C74 : CallT := (CallT.cons 167 T.c167 (CallT.cons 168 T.c168 (CallT.cons 165 T.c165 (CallT.cons 162 T.c162 (CallT.cons 169 T.c169 CallT.nil)))))
def T.A74 : Ann := fun i => bif Nat.beq i 10 then some ([0, 1, 5], [(7, 0), (9, 0)]) else none
set_option maxRecDepth 1000000 in
theorem T.eq74 (t : Nat) (name : ByteArray) (w : World) (K : Int → World → Prop) : denF Tryz.prog T.C74 T.A74 Tryz.f74 [.pointer (some ⟨t, 0, none⟩), .string name] w (fun v w' => match v with | .int .i64 r0 => K r0 w' | _ => False) = S.table_Store_DropTable t name w K := by kernel_rfl
theorem T.CO74 : CallOk Tryz.prog T.C74 := (CallOk.cons 167 T.ok167 (CallOk.cons 168 T.ok168 (CallOk.cons 165 T.ok165 (CallOk.cons 162 T.ok162 (CallOk.cons 169 T.ok169 CallOk.nil)))))
def T.c74 (vs : List Value) (w : World) (K : Value → World → Prop) : Prop :=
  match vs with
  | [.pointer (some ⟨t, 0, none⟩), .string name] => S.table_Store_DropTable t name w (fun r0 w' => K (.int .i64 r0) w')
  | _ => False
theorem T.ok74 : ∀ vs w K, T.c74 vs w K → (callFunc 74 vs.toArray).run Tryz.prog w = .ok (.enter 74 vs.toArray) w ∧ Calls Tryz.prog 74 vs.toArray w fun e w' => ∃ v, e = .returned v ∧ K v w' := by
  intro vs w K h
  unfold T.c74 at h
  split at h
  · refine ⟨Tryz.call74 _ _, ok_of T.CO74 mixed Tryz.func74 (T.eq74 _ _ _ _) h fun v w' hk => ⟨v, rfl, ?_⟩⟩
    split at hk
    · exact hk
    · exact hk.elim
  · exact h.elim

/-- (*e2e/txn.Mgr).DropTable (function 29). -/
def S.txn_Mgr_DropTable (g : Nat) (s_ : Int) (name : ByteArray) (w : World) (K : Int → World → Prop) : Prop :=
  S.txn_Mgr_alone g s_ w (fun r1 w =>
  if (r1 != 0) = true then
    K r1 w
  else
    LdP w ⟨g, 0, none⟩ fun t_2 =>
    S.table_Store_DropTable t_2 name w (fun r3 w =>
    S.txn_Mgr_seal g r3 w (fun r4 w =>
    K r4 w)))
def T.C29 : CallT := (CallT.cons 72 T.c72 (CallT.cons 74 T.c74 (CallT.cons 70 T.c70 CallT.nil)))
def T.A29 : Ann := fun _ => none
set_option maxRecDepth 1000000 in
theorem T.eq29 (g : Nat) (s_ : Int) (name : ByteArray) (w : World) (K : Int → World → Prop) : denF Tryz.prog T.C29 T.A29 Tryz.f29 [.pointer (some ⟨g, 0, none⟩), .int .i64 s_, .string name] w (fun v w' => match v with | .int .i64 r0 => K r0 w' | _ => False) = S.txn_Mgr_DropTable g s_ name w K := by kernel_rfl
theorem T.CO29 : CallOk Tryz.prog T.C29 := (CallOk.cons 72 T.ok72 (CallOk.cons 74 T.ok74 (CallOk.cons 70 T.ok70 CallOk.nil)))
def T.c29 (vs : List Value) (w : World) (K : Value → World → Prop) : Prop :=
  match vs with
  | [.pointer (some ⟨g, 0, none⟩), .int .i64 s_, .string name] => S.txn_Mgr_DropTable g s_ name w (fun r0 w' => K (.int .i64 r0) w')
  | _ => False
theorem T.ok29 : ∀ vs w K, T.c29 vs w K → (callFunc 29 vs.toArray).run Tryz.prog w = .ok (.enter 29 vs.toArray) w ∧ Calls Tryz.prog 29 vs.toArray w fun e w' => ∃ v, e = .returned v ∧ K v w' := by
  intro vs w K h
  unfold T.c29 at h
  split at h
  · refine ⟨Tryz.call29 _ _, ok_of T.CO29 mixed Tryz.func29 (T.eq29 _ _ _ _ _) h fun v w' hk => ⟨v, rfl, ?_⟩⟩
    split at hk
    · exact hk
    · exact hk.elim
  · exact h.elim

/-- e2e/query.ColOf (function 31). -/
def S.query_ColOf (sch_Name : ByteArray) (sch_Cols : Sl) (sch_PK : Int) (sch_Index : Int) (name : ByteArray) (w : World) (K : Int → World → Prop) : Prop :=
  New w (.cells #[.string sch_Name, .slice sch_Cols.a sch_Cols.l sch_Cols.c, .int .i64 sch_PK, .int .i64 sch_Index] 73) fun p1 w =>
  LoopP (σ := Int × Unit) (fun st2 w next3 =>
    LdS w ⟨p1, 1, none⟩ fun Cols_4 =>
    if (decide (st2.1 < (Cols_4.l : Int))) = true then
      LdS w ⟨p1, 1, none⟩ fun Cols_5 =>
      Ix Cols_5.a Cols_5.l st2.1 fun b6 o7 =>
      LdStr w ⟨b6, o7 + Int.toNat st2.1 * 2, none⟩ fun Name_8 =>
      if (Name_8.toList == name.toList) = true then
        K st2.1 w
      else
        Let (W (st2.1 + 1)) fun i_9 =>
        next3 (i_9, ()) w
    else
      K (-1) w) (0, ()) w
def T.C31 : CallT := CallT.nil
def T.A31 : Ann := fun i => bif Nat.beq i 2 then some ([1, 2], [(5, 0)]) else none
set_option maxRecDepth 1000000 in
theorem T.eq31 (sch_Name : ByteArray) (sch_Cols : Sl) (sch_PK : Int) (sch_Index : Int) (name : ByteArray) (w : World) (K : Int → World → Prop) : denF Tryz.prog T.C31 T.A31 Tryz.f31 [.agg #[.string sch_Name, .slice sch_Cols.a sch_Cols.l sch_Cols.c, .int .i64 sch_PK, .int .i64 sch_Index], .string name] w (fun v w' => match v with | .int .i64 r0 => K r0 w' | _ => False) = S.query_ColOf sch_Name sch_Cols sch_PK sch_Index name w K := by kernel_rfl
theorem T.CO31 : CallOk Tryz.prog T.C31 := CallOk.nil
def T.c31 (vs : List Value) (w : World) (K : Value → World → Prop) : Prop :=
  match vs with
  | [.agg ⟨[.string sch_Name, .slice sch_Colsa sch_Colsl sch_Colsc, .int .i64 sch_PK, .int .i64 sch_Index]⟩, .string name] => S.query_ColOf sch_Name ⟨sch_Colsa, sch_Colsl, sch_Colsc⟩ sch_PK sch_Index name w (fun r0 w' => K (.int .i64 r0) w')
  | _ => False
theorem T.ok31 : ∀ vs w K, T.c31 vs w K → (callFunc 31 vs.toArray).run Tryz.prog w = .ok (.enter 31 vs.toArray) w ∧ Calls Tryz.prog 31 vs.toArray w fun e w' => ∃ v, e = .returned v ∧ K v w' := by
  intro vs w K h
  unfold T.c31 at h
  split at h
  · refine ⟨Tryz.call31 _ _, ok_of T.CO31 mixed Tryz.func31 (T.eq31 _ _ _ _ _ _ _) h fun v w' hk => ⟨v, rfl, ?_⟩⟩
    split at hk
    · exact hk
    · exact hk.elim
  · exact h.elim

/-- (*e2e/table.Store).CreateIndex (function 76). -/
def S.table_Store_CreateIndex (t : Nat) (name : ByteArray) (col : Int) (w : World) (K : Int → World → Prop) : Prop :=
  S.table_Store_loadTxn t name w (fun ncols_1 pk_2 index_3 rows_4 idx_5 Name_6 Cols_7 PK_8 Index_9 r10 w =>
  New w (.cells #[.int .i64 0, .int .i64 0, .int .i64 0, .int .i64 0, .int .i64 0] 214) fun p11 w =>
  New w (.cells #[.string ⟨#[]⟩, .slice none 0 0, .int .i64 0, .int .i64 0] 73) fun p12 w =>
  St1 w ⟨p11, 0, none⟩ (.int .i64 ncols_1) fun w =>
  St1 w ⟨p11, 1, none⟩ (.int .i64 pk_2) fun w =>
  St1 w ⟨p11, 2, none⟩ (.int .i64 index_3) fun w =>
  St1 w ⟨p11, 3, none⟩ (.int .i64 rows_4) fun w =>
  St1 w ⟨p11, 4, none⟩ (.int .i64 idx_5) fun w =>
  St1 w ⟨p12, 0, none⟩ (.string Name_6) fun w =>
  St1 w ⟨p12, 1, none⟩ (.slice Cols_7.a Cols_7.l Cols_7.c) fun w =>
  St1 w ⟨p12, 2, none⟩ (.int .i64 PK_8) fun w =>
  St1 w ⟨p12, 3, none⟩ (.int .i64 Index_9) fun w =>
  if (r10 != 0) = true then
    K r10 w
  else
    if (decide (col < 0)) = true then
      K 14 w
    else
      LdI .i64 w ⟨p11, 0, none⟩ fun ncols_13 =>
      if (decide (col ≥ ncols_13)) = true then
        K 14 w
      else
        LdI .i64 w ⟨p11, 1, none⟩ fun pk_14 =>
        if (col == pk_14) = true then
          K 18 w
        else
          LdI .i64 w ⟨p11, 2, none⟩ fun index_15 =>
          if (decide (index_15 ≥ 0)) = true then
            K 11 w
          else
            LdP w ⟨t, 0, none⟩ fun f_16 =>
            S.btree_Forest_Create f_16 w (fun r17 r18 w =>
            LdI .i64 w ⟨p11, 3, none⟩ fun rows_19 =>
            S.table_Store_all t rows_19 w (fun r20 w =>
            Join (fun (e_21 : Int) (w : World) =>
              St1 w ⟨p11, 2, none⟩ (.int .i64 col) fun w =>
              St1 w ⟨p11, 4, none⟩ (.int .i64 r17) fun w =>
              S.table_catKey name 0 w (fun r22 w =>
              LdI .i64 w ⟨p11, 0, none⟩ fun ncols_23 =>
              LdI .i64 w ⟨p11, 1, none⟩ fun pk_24 =>
              LdI .i64 w ⟨p11, 2, none⟩ fun index_25 =>
              LdI .i64 w ⟨p11, 3, none⟩ fun rows_26 =>
              LdI .i64 w ⟨p11, 4, none⟩ fun idx_27 =>
              S.table_headText ncols_23 pk_24 index_25 rows_26 idx_27 w (fun r28 w =>
              LdP w ⟨t, 0, none⟩ fun f_29 =>
              S.btree_Forest_Insert f_29 0 r22 r28 w (fun r30 w =>
              S.table_fold e_21 r30 w (fun r31 w =>
              K r31 w))))) fun J32 =>
            LoopP (σ := Int × Int × Unit) (fun st33 w next34 =>
              if (decide (st33.2.1 < (r20.l : Int))) = true then
                Drew w fun w =>
                LdStr w ⟨p12, 0, none⟩ fun Name_35 =>
                LdS w ⟨p12, 1, none⟩ fun Cols_36 =>
                LdI .i64 w ⟨p12, 2, none⟩ fun PK_37 =>
                LdI .i64 w ⟨p12, 3, none⟩ fun Index_38 =>
                Ix r20.a r20.l st33.2.1 fun b39 o40 =>
                LdStr w ⟨b39, o40 + Int.toNat st33.2.1 * 2, none⟩ fun K_41 =>
                Ix r20.a r20.l st33.2.1 fun b42 o43 =>
                LdStr w ⟨b42, o43 + Int.toNat st33.2.1 * 2 + 1, none⟩ fun V_44 =>
                S.table_rowOf Name_35 Cols_36 PK_37 Index_38 K_41 V_44 w (fun r45 r46 w =>
                if (!r46) = true then
                  K 23 w
                else
                  LdI .i64 w ⟨p11, 1, none⟩ fun pk_47 =>
                  S.table_idxKey r45 col pk_47 w (fun r48 w =>
                  LdP w ⟨t, 0, none⟩ fun f_49 =>
                  S.btree_Forest_Insert f_49 r17 r48 (⟨#[]⟩ : ByteArray) w (fun r50 w =>
                  S.table_fold st33.1 r50 w (fun r51 w =>
                  Let (W (st33.2.1 + 1)) fun i_52 =>
                  next34 (r51, i_52, ()) w))))
              else
                J32 st33.1 w) (r18, 0, ()) w)))
def T.C76 : CallT := (CallT.cons 167 T.c167 (CallT.cons 161 T.c161 (CallT.cons 170 T.c170 (CallT.cons 162 T.c162 (CallT.cons 163 T.c163 (CallT.cons 164 T.c164 (CallT.cons 165 T.c165 (CallT.cons 171 T.c171 (CallT.cons 172 T.c172 CallT.nil)))))))))
def T.A76 : Ann := fun i => bif Nat.beq i 13 then some ([0, 1, 2, 7, 8, 10, 11], [(9, 0), (12, 0)]) else none
set_option maxRecDepth 1000000 in
theorem T.eq76 (t : Nat) (name : ByteArray) (col : Int) (w : World) (K : Int → World → Prop) : denF Tryz.prog T.C76 T.A76 Tryz.f76 [.pointer (some ⟨t, 0, none⟩), .string name, .int .i64 col] w (fun v w' => match v with | .int .i64 r0 => K r0 w' | _ => False) = S.table_Store_CreateIndex t name col w K := by kernel_rfl
theorem T.CO76 : CallOk Tryz.prog T.C76 := (CallOk.cons 167 T.ok167 (CallOk.cons 161 T.ok161 (CallOk.cons 170 T.ok170 (CallOk.cons 162 T.ok162 (CallOk.cons 163 T.ok163 (CallOk.cons 164 T.ok164 (CallOk.cons 165 T.ok165 (CallOk.cons 171 T.ok171 (CallOk.cons 172 T.ok172 CallOk.nil)))))))))
def T.c76 (vs : List Value) (w : World) (K : Value → World → Prop) : Prop :=
  match vs with
  | [.pointer (some ⟨t, 0, none⟩), .string name, .int .i64 col] => S.table_Store_CreateIndex t name col w (fun r0 w' => K (.int .i64 r0) w')
  | _ => False
theorem T.ok76 : ∀ vs w K, T.c76 vs w K → (callFunc 76 vs.toArray).run Tryz.prog w = .ok (.enter 76 vs.toArray) w ∧ Calls Tryz.prog 76 vs.toArray w fun e w' => ∃ v, e = .returned v ∧ K v w' := by
  intro vs w K h
  unfold T.c76 at h
  split at h
  · refine ⟨Tryz.call76 _ _, ok_of T.CO76 mixed Tryz.func76 (T.eq76 _ _ _ _ _) h fun v w' hk => ⟨v, rfl, ?_⟩⟩
    split at hk
    · exact hk
    · exact hk.elim
  · exact h.elim

/-- (*e2e/txn.Mgr).CreateIndex (function 32). -/
def S.txn_Mgr_CreateIndex (g : Nat) (s_ : Int) (name : ByteArray) (col : Int) (w : World) (K : Int → World → Prop) : Prop :=
  S.txn_Mgr_alone g s_ w (fun r1 w =>
  if (r1 != 0) = true then
    K r1 w
  else
    LdP w ⟨g, 0, none⟩ fun t_2 =>
    S.table_Store_CreateIndex t_2 name col w (fun r3 w =>
    S.txn_Mgr_seal g r3 w (fun r4 w =>
    K r4 w)))
def T.C32 : CallT := (CallT.cons 72 T.c72 (CallT.cons 76 T.c76 (CallT.cons 70 T.c70 CallT.nil)))
def T.A32 : Ann := fun _ => none
set_option maxRecDepth 1000000 in
theorem T.eq32 (g : Nat) (s_ : Int) (name : ByteArray) (col : Int) (w : World) (K : Int → World → Prop) : denF Tryz.prog T.C32 T.A32 Tryz.f32 [.pointer (some ⟨g, 0, none⟩), .int .i64 s_, .string name, .int .i64 col] w (fun v w' => match v with | .int .i64 r0 => K r0 w' | _ => False) = S.txn_Mgr_CreateIndex g s_ name col w K := by kernel_rfl
theorem T.CO32 : CallOk Tryz.prog T.C32 := (CallOk.cons 72 T.ok72 (CallOk.cons 76 T.ok76 (CallOk.cons 70 T.ok70 CallOk.nil)))
def T.c32 (vs : List Value) (w : World) (K : Value → World → Prop) : Prop :=
  match vs with
  | [.pointer (some ⟨g, 0, none⟩), .int .i64 s_, .string name, .int .i64 col] => S.txn_Mgr_CreateIndex g s_ name col w (fun r0 w' => K (.int .i64 r0) w')
  | _ => False
theorem T.ok32 : ∀ vs w K, T.c32 vs w K → (callFunc 32 vs.toArray).run Tryz.prog w = .ok (.enter 32 vs.toArray) w ∧ Calls Tryz.prog 32 vs.toArray w fun e w' => ∃ v, e = .returned v ∧ K v w' := by
  intro vs w K h
  unfold T.c32 at h
  split at h
  · refine ⟨Tryz.call32 _ _, ok_of T.CO32 mixed Tryz.func32 (T.eq32 _ _ _ _ _ _) h fun v w' hk => ⟨v, rfl, ?_⟩⟩
    split at hk
    · exact hk
    · exact hk.elim
  · exact h.elim

/-- (*e2e/txn.Mgr).freeSlot (function 303). -/
def S.txn_Mgr_freeSlot (g : Nat) (w : World) (K : Int → World → Prop) : Prop :=
  LoopP (σ := Int × Unit) (fun st1 w next2 =>
    if (decide (st1.1 < 3)) = true then
      IxA 3 st1.1 <|
      LdB w ⟨g, 5 + Int.toNat st1.1 * 6, none⟩ fun used_3 =>
      if (!used_3) = true then
        K st1.1 w
      else
        Let (W (st1.1 + 1)) fun i_4 =>
        next2 (i_4, ()) w
    else
      K (-1) w) (0, ()) w
def T.C303 : CallT := CallT.nil
def T.A303 : Ann := fun i => bif Nat.beq i 2 then some ([0], [(3, 0)]) else none
set_option maxRecDepth 1000000 in
theorem T.eq303 (g : Nat) (w : World) (K : Int → World → Prop) : denF Tryz.prog T.C303 T.A303 Tryz.f303 [.pointer (some ⟨g, 0, none⟩)] w (fun v w' => match v with | .int .i64 r0 => K r0 w' | _ => False) = S.txn_Mgr_freeSlot g w K := by kernel_rfl
theorem T.CO303 : CallOk Tryz.prog T.C303 := CallOk.nil
def T.c303 (vs : List Value) (w : World) (K : Value → World → Prop) : Prop :=
  match vs with
  | [.pointer (some ⟨g, 0, none⟩)] => S.txn_Mgr_freeSlot g w (fun r0 w' => K (.int .i64 r0) w')
  | _ => False
theorem T.ok303 : ∀ vs w K, T.c303 vs w K → (callFunc 303 vs.toArray).run Tryz.prog w = .ok (.enter 303 vs.toArray) w ∧ Calls Tryz.prog 303 vs.toArray w fun e w' => ∃ v, e = .returned v ∧ K v w' := by
  intro vs w K h
  unfold T.c303 at h
  split at h
  · refine ⟨Tryz.call303 _ _, ok_of T.CO303 mixed Tryz.func303 (T.eq303 _ _ _) h fun v w' hk => ⟨v, rfl, ?_⟩⟩
    split at hk
    · exact hk
    · exact hk.elim
  · exact h.elim

/-- (*e2e/txn.Mgr).take (function 258). -/
def S.txn_Mgr_take (g : Nat) (s_ : Int) (name : ByteArray) (mode : Int) (w : World) (K : ByteArray → Sl → Int → Int → Int → World → Prop) : Prop :=
  New w (.cells #[.string ⟨#[]⟩, .slice none 0 0, .int .i64 0, .int .i64 0] 73) fun p1 w =>
  S.txn_Mgr_inTxn g s_ w (fun r2 w =>
  if (r2 != 0) = true then
    St1 w ⟨p1, 0, none⟩ (.string ⟨#[]⟩) fun w =>
    St1 w ⟨p1, 1, none⟩ (.slice none 0 0) fun w =>
    St1 w ⟨p1, 2, none⟩ (.int .i64 0) fun w =>
    St1 w ⟨p1, 3, none⟩ (.int .i64 0) fun w =>
    LdStr w ⟨p1, 0, none⟩ fun Name_3 =>
    LdS w ⟨p1, 1, none⟩ fun Cols_4 =>
    LdI .i64 w ⟨p1, 2, none⟩ fun PK_5 =>
    LdI .i64 w ⟨p1, 3, none⟩ fun Index_6 =>
    K Name_3 Cols_4 PK_5 Index_6 r2 w
  else
    LdP w ⟨g, 0, none⟩ fun t_7 =>
    S.table_Store_SchemaOf t_7 name w (fun Name_8 Cols_9 PK_10 Index_11 r12 w =>
    New w (.cells #[.string ⟨#[]⟩, .slice none 0 0, .int .i64 0, .int .i64 0] 73) fun p13 w =>
    St1 w ⟨p13, 0, none⟩ (.string Name_8) fun w =>
    St1 w ⟨p13, 1, none⟩ (.slice Cols_9.a Cols_9.l Cols_9.c) fun w =>
    St1 w ⟨p13, 2, none⟩ (.int .i64 PK_10) fun w =>
    St1 w ⟨p13, 3, none⟩ (.int .i64 Index_11) fun w =>
    if (r12 != 0) = true then
      St1 w ⟨p1, 0, none⟩ (.string ⟨#[]⟩) fun w =>
      St1 w ⟨p1, 1, none⟩ (.slice none 0 0) fun w =>
      St1 w ⟨p1, 2, none⟩ (.int .i64 0) fun w =>
      St1 w ⟨p1, 3, none⟩ (.int .i64 0) fun w =>
      LdStr w ⟨p1, 0, none⟩ fun Name_14 =>
      LdS w ⟨p1, 1, none⟩ fun Cols_15 =>
      LdI .i64 w ⟨p1, 2, none⟩ fun PK_16 =>
      LdI .i64 w ⟨p1, 3, none⟩ fun Index_17 =>
      K Name_14 Cols_15 PK_16 Index_17 10 w
    else
      S.txn_Mgr_slotOf g name w (fun r18 w =>
      Join (fun (w : World) =>
        Join (fun (i_19 : Int) (w : World) =>
          if (decide (i_19 < 0)) = true then
            St1 w ⟨p1, 0, none⟩ (.string ⟨#[]⟩) fun w =>
            St1 w ⟨p1, 1, none⟩ (.slice none 0 0) fun w =>
            St1 w ⟨p1, 2, none⟩ (.int .i64 0) fun w =>
            St1 w ⟨p1, 3, none⟩ (.int .i64 0) fun w =>
            LdStr w ⟨p1, 0, none⟩ fun Name_20 =>
            LdS w ⟨p1, 1, none⟩ fun Cols_21 =>
            LdI .i64 w ⟨p1, 2, none⟩ fun PK_22 =>
            LdI .i64 w ⟨p1, 3, none⟩ fun Index_23 =>
            K Name_20 Cols_21 PK_22 Index_23 23 w
          else
            IxA 3 i_19 <|
            St1 w ⟨g, 5 + Int.toNat i_19 * 6, none⟩ (.bool true) fun w =>
            IxA 3 i_19 <|
            St1 w ⟨g, 5 + Int.toNat i_19 * 6 + 1, none⟩ (.string name) fun w =>
            IxA 3 i_19 <|
            IxA 4 s_ <|
            LdI .i64 w ⟨g, 5 + Int.toNat i_19 * 6 + 2 + Int.toNat s_ * 1, none⟩ fun mode_24 =>
            Join (fun (w : World) =>
              LdStr w ⟨p13, 0, none⟩ fun Name_25 =>
              LdS w ⟨p13, 1, none⟩ fun Cols_26 =>
              LdI .i64 w ⟨p13, 2, none⟩ fun PK_27 =>
              LdI .i64 w ⟨p13, 3, none⟩ fun Index_28 =>
              St1 w ⟨p1, 0, none⟩ (.string Name_25) fun w =>
              St1 w ⟨p1, 1, none⟩ (.slice Cols_26.a Cols_26.l Cols_26.c) fun w =>
              St1 w ⟨p1, 2, none⟩ (.int .i64 PK_27) fun w =>
              St1 w ⟨p1, 3, none⟩ (.int .i64 Index_28) fun w =>
              LdStr w ⟨p1, 0, none⟩ fun Name_29 =>
              LdS w ⟨p1, 1, none⟩ fun Cols_30 =>
              LdI .i64 w ⟨p1, 2, none⟩ fun PK_31 =>
              LdI .i64 w ⟨p1, 3, none⟩ fun Index_32 =>
              K Name_29 Cols_30 PK_31 Index_32 0 w) fun J33 =>
            if (decide (mode > mode_24)) = true then
              IxA 3 i_19 <|
              IxA 4 s_ <|
              St1 w ⟨g, 5 + Int.toNat i_19 * 6 + 2 + Int.toNat s_ * 1, none⟩ (.int .i64 mode) fun w =>
              J33 w
            else
              J33 w) fun J34 =>
        if (decide (r18 < 0)) = true then
          S.txn_Mgr_freeSlot g w (fun r35 w =>
          J34 r35 w)
        else
          J34 r18 w) fun J36 =>
      if (decide (r18 ≥ 0)) = true then
        S.txn_Mgr_barred g r18 s_ mode w (fun r37 w =>
        if r37 = true then
          St1 w ⟨p1, 0, none⟩ (.string ⟨#[]⟩) fun w =>
          St1 w ⟨p1, 1, none⟩ (.slice none 0 0) fun w =>
          St1 w ⟨p1, 2, none⟩ (.int .i64 0) fun w =>
          St1 w ⟨p1, 3, none⟩ (.int .i64 0) fun w =>
          LdStr w ⟨p1, 0, none⟩ fun Name_38 =>
          LdS w ⟨p1, 1, none⟩ fun Cols_39 =>
          LdI .i64 w ⟨p1, 2, none⟩ fun PK_40 =>
          LdI .i64 w ⟨p1, 3, none⟩ fun Index_41 =>
          K Name_38 Cols_39 PK_40 Index_41 21 w
        else
          J36 w)
      else
        J36 w)))
def T.C258 : CallT := (CallT.cons 67 T.c67 (CallT.cons 75 T.c75 (CallT.cons 274 T.c274 (CallT.cons 238 T.c238 (CallT.cons 303 T.c303 CallT.nil)))))
def T.A258 : Ann := fun _ => none
set_option maxRecDepth 1000000 in
theorem T.eq258 (g : Nat) (s_ : Int) (name : ByteArray) (mode : Int) (w : World) (K : ByteArray → Sl → Int → Int → Int → World → Prop) : denF Tryz.prog T.C258 T.A258 Tryz.f258 [.pointer (some ⟨g, 0, none⟩), .int .i64 s_, .string name, .int .i64 mode] w (fun v w' => match v with | .tuple ⟨[.agg ⟨[.string r0, .slice r1a r1l r1c, .int .i64 r2, .int .i64 r3]⟩, .int .i64 r4]⟩ => K r0 ⟨r1a, r1l, r1c⟩ r2 r3 r4 w' | _ => False) = S.txn_Mgr_take g s_ name mode w K := by kernel_rfl
theorem T.CO258 : CallOk Tryz.prog T.C258 := (CallOk.cons 67 T.ok67 (CallOk.cons 75 T.ok75 (CallOk.cons 274 T.ok274 (CallOk.cons 238 T.ok238 (CallOk.cons 303 T.ok303 CallOk.nil)))))
def T.c258 (vs : List Value) (w : World) (K : Value → World → Prop) : Prop :=
  match vs with
  | [.pointer (some ⟨g, 0, none⟩), .int .i64 s_, .string name, .int .i64 mode] => S.txn_Mgr_take g s_ name mode w (fun r0 r1 r2 r3 r4 w' => K (.tuple #[.agg #[.string r0, .slice r1.a r1.l r1.c, .int .i64 r2, .int .i64 r3], .int .i64 r4]) w')
  | _ => False
theorem T.ok258 : ∀ vs w K, T.c258 vs w K → (callFunc 258 vs.toArray).run Tryz.prog w = .ok (.enter 258 vs.toArray) w ∧ Calls Tryz.prog 258 vs.toArray w fun e w' => ∃ v, e = .returned v ∧ K v w' := by
  intro vs w K h
  unfold T.c258 at h
  split at h
  · refine ⟨Tryz.call258 _ _, ok_of T.CO258 mixed Tryz.func258 (T.eq258 _ _ _ _ _ _) h fun v w' hk => ⟨v, rfl, ?_⟩⟩
    split at hk
    · exact hk
    · exact hk.elim
  · exact h.elim

/-- (*e2e/txn.Mgr).has (function 260). -/
def S.txn_Mgr_has (g : Nat) (s_ : Int) (tab : ByteArray) (key_IsStr : Bool) (key_I : Int) (key_S : ByteArray) (w : World) (K : Bool → World → Prop) : Prop :=
  New w (.cells #[.bool key_IsStr, .int .i64 key_I, .string key_S] 167) fun p1 w =>
  LdB w ⟨p1, 0, none⟩ fun IsStr_2 =>
  LdI .i64 w ⟨p1, 1, none⟩ fun I_3 =>
  LdStr w ⟨p1, 2, none⟩ fun S_4 =>
  S.txn_Mgr_find g s_ tab IsStr_2 I_3 S_4 w (fun r5 r6 w =>
  if r6 = true then
    IxA 4 s_ <|
    LdS w ⟨g, 23 + Int.toNat s_ * 1, none⟩ fun ws_7 =>
    Ix ws_7.a ws_7.l r5 fun b8 o9 =>
    LdB w ⟨b8, o9 + Int.toNat r5 * 6 + 4, none⟩ fun gone_10 =>
    K (!gone_10) w
  else
    LdB w ⟨p1, 0, none⟩ fun IsStr_11 =>
    LdI .i64 w ⟨p1, 1, none⟩ fun I_12 =>
    LdStr w ⟨p1, 2, none⟩ fun S_13 =>
    S.txn_Mgr_below g tab IsStr_11 I_12 S_13 w (fun r14 w =>
    K r14 w))
def T.C260 : CallT := (CallT.cons 264 T.c264 (CallT.cons 150 T.c150 CallT.nil))
def T.A260 : Ann := fun _ => none
set_option maxRecDepth 1000000 in
theorem T.eq260 (g : Nat) (s_ : Int) (tab : ByteArray) (key_IsStr : Bool) (key_I : Int) (key_S : ByteArray) (w : World) (K : Bool → World → Prop) : denF Tryz.prog T.C260 T.A260 Tryz.f260 [.pointer (some ⟨g, 0, none⟩), .int .i64 s_, .string tab, .agg #[.bool key_IsStr, .int .i64 key_I, .string key_S]] w (fun v w' => match v with | .bool r0 => K r0 w' | _ => False) = S.txn_Mgr_has g s_ tab key_IsStr key_I key_S w K := by kernel_rfl
theorem T.CO260 : CallOk Tryz.prog T.C260 := (CallOk.cons 264 T.ok264 (CallOk.cons 150 T.ok150 CallOk.nil))
def T.c260 (vs : List Value) (w : World) (K : Value → World → Prop) : Prop :=
  match vs with
  | [.pointer (some ⟨g, 0, none⟩), .int .i64 s_, .string tab, .agg ⟨[.bool key_IsStr, .int .i64 key_I, .string key_S]⟩] => S.txn_Mgr_has g s_ tab key_IsStr key_I key_S w (fun r0 w' => K (.bool r0) w')
  | _ => False
theorem T.ok260 : ∀ vs w K, T.c260 vs w K → (callFunc 260 vs.toArray).run Tryz.prog w = .ok (.enter 260 vs.toArray) w ∧ Calls Tryz.prog 260 vs.toArray w fun e w' => ∃ v, e = .returned v ∧ K v w' := by
  intro vs w K h
  unfold T.c260 at h
  split at h
  · refine ⟨Tryz.call260 _ _, ok_of T.CO260 mixed Tryz.func260 (T.eq260 _ _ _ _ _ _ _ _) h fun v w' hk => ⟨v, rfl, ?_⟩⟩
    split at hk
    · exact hk
    · exact hk.elim
  · exact h.elim

/-- (*e2e/txn.Mgr).put (function 262). -/
def S.txn_Mgr_put (g : Nat) (s_ : Int) (c_tab : ByteArray) (c_key_IsStr : Bool) (c_key_I : Int) (c_key_S : ByteArray) (c_gone : Bool) (c_row : Sl) (w : World) (K : World → Prop) : Prop :=
  New w (.cells #[.string c_tab, .bool c_key_IsStr, .int .i64 c_key_I, .string c_key_S, .bool c_gone, .slice c_row.a c_row.l c_row.c] 206) fun p1 w =>
  LdStr w ⟨p1, 0, none⟩ fun tab_2 =>
  LdB w ⟨p1, 1, none⟩ fun IsStr_3 =>
  LdI .i64 w ⟨p1, 2, none⟩ fun I_4 =>
  LdStr w ⟨p1, 3, none⟩ fun S_5 =>
  S.txn_Mgr_find g s_ tab_2 IsStr_3 I_4 S_5 w (fun r6 r7 w =>
  Join (fun (w : World) =>
    Drew w fun w =>
    IxA 4 s_ <|
    LdS w ⟨g, 23 + Int.toNat s_ * 1, none⟩ fun ws_8 =>
    LdStr w ⟨p1, 0, none⟩ fun tab_9 =>
    LdB w ⟨p1, 1, none⟩ fun key_IsStr_10 =>
    LdI .i64 w ⟨p1, 2, none⟩ fun key_I_11 =>
    LdStr w ⟨p1, 3, none⟩ fun key_S_12 =>
    LdB w ⟨p1, 4, none⟩ fun gone_13 =>
    LdS w ⟨p1, 5, none⟩ fun row_14 =>
    Ix ws_8.a ws_8.l r6 fun b15 o16 =>
    St1 w ⟨b15, o16 + Int.toNat r6 * 6, none⟩ (.string tab_9) fun w =>
    St1 w ⟨b15, o16 + Int.toNat r6 * 6 + 1, none⟩ (.bool key_IsStr_10) fun w =>
    St1 w ⟨b15, o16 + Int.toNat r6 * 6 + 2, none⟩ (.int .i64 key_I_11) fun w =>
    St1 w ⟨b15, o16 + Int.toNat r6 * 6 + 3, none⟩ (.string key_S_12) fun w =>
    St1 w ⟨b15, o16 + Int.toNat r6 * 6 + 4, none⟩ (.bool gone_13) fun w =>
    St1 w ⟨b15, o16 + Int.toNat r6 * 6 + 5, none⟩ (.slice row_14.a row_14.l row_14.c) fun w =>
    K w) fun J17 =>
  if (!r7) = true then
    Drew w fun w =>
    IxA 4 s_ <|
    Hold w ⟨g, 23 + Int.toNat s_ * 1, none⟩ 1 fun R18 =>
    LdS w ⟨g, 23 + Int.toNat s_ * 1, none⟩ fun ws_19 =>
    LdStr w ⟨p1, 0, none⟩ fun tab_20 =>
    LdB w ⟨p1, 1, none⟩ fun key_IsStr_21 =>
    LdI .i64 w ⟨p1, 2, none⟩ fun key_I_22 =>
    LdStr w ⟨p1, 3, none⟩ fun key_S_23 =>
    LdB w ⟨p1, 4, none⟩ fun gone_24 =>
    LdS w ⟨p1, 5, none⟩ fun row_25 =>
    New w (.cells #[.string tab_20, .bool key_IsStr_21, .int .i64 key_I_22, .string key_S_23, .bool gone_24, .slice row_25.a row_25.l row_25.c] 206) fun p26 w =>
    After R18 w <|
    AppS 206 [.string ⟨#[]⟩, .bool false, .int .i64 0, .string ⟨#[]⟩, .bool false, .slice none 0 0] 80 6 w ws_19 ⟨some ⟨p26, 0, none⟩, 1, 1⟩ fun l27 w =>
    IxA 4 s_ <|
    St1 w ⟨g, 23 + Int.toNat s_ * 1, none⟩ (.slice l27.a l27.l l27.c) fun w =>
    IxA 4 s_ <|
    LdS w ⟨g, 23 + Int.toNat s_ * 1, none⟩ fun ws_28 =>
    Let (W ((ws_28.l : Int) - 1)) fun j_29 =>
    LoopP (σ := Int × Unit) (fun st30 w next31 =>
      if (decide (st30.1 > r6)) = true then
        Drew w fun w =>
        IxA 4 s_ <|
        LdS w ⟨g, 23 + Int.toNat s_ * 1, none⟩ fun ws_32 =>
        IxA 4 s_ <|
        LdS w ⟨g, 23 + Int.toNat s_ * 1, none⟩ fun ws_33 =>
        Ix ws_33.a ws_33.l (W (st30.1 - 1)) fun b34 o35 =>
        LdStr w ⟨b34, o35 + Int.toNat (W (st30.1 - 1)) * 6, none⟩ fun tab_36 =>
        LdB w ⟨b34, o35 + Int.toNat (W (st30.1 - 1)) * 6 + 1, none⟩ fun key_IsStr_37 =>
        LdI .i64 w ⟨b34, o35 + Int.toNat (W (st30.1 - 1)) * 6 + 2, none⟩ fun key_I_38 =>
        LdStr w ⟨b34, o35 + Int.toNat (W (st30.1 - 1)) * 6 + 3, none⟩ fun key_S_39 =>
        LdB w ⟨b34, o35 + Int.toNat (W (st30.1 - 1)) * 6 + 4, none⟩ fun gone_40 =>
        LdS w ⟨b34, o35 + Int.toNat (W (st30.1 - 1)) * 6 + 5, none⟩ fun row_41 =>
        Ix ws_32.a ws_32.l st30.1 fun b42 o43 =>
        St1 w ⟨b42, o43 + Int.toNat st30.1 * 6, none⟩ (.string tab_36) fun w =>
        St1 w ⟨b42, o43 + Int.toNat st30.1 * 6 + 1, none⟩ (.bool key_IsStr_37) fun w =>
        St1 w ⟨b42, o43 + Int.toNat st30.1 * 6 + 2, none⟩ (.int .i64 key_I_38) fun w =>
        St1 w ⟨b42, o43 + Int.toNat st30.1 * 6 + 3, none⟩ (.string key_S_39) fun w =>
        St1 w ⟨b42, o43 + Int.toNat st30.1 * 6 + 4, none⟩ (.bool gone_40) fun w =>
        St1 w ⟨b42, o43 + Int.toNat st30.1 * 6 + 5, none⟩ (.slice row_41.a row_41.l row_41.c) fun w =>
        Let (W (st30.1 - 1)) fun j_44 =>
        next31 (j_44, ()) w
      else
        J17 w) (j_29, ()) w
  else
    J17 w)
def T.C262 : CallT := (CallT.cons 264 T.c264 CallT.nil)
def T.A262 : Ann := fun i => bif Nat.beq i 5 then some ([0, 1, 5, 6], [(8, 0)]) else none
set_option maxRecDepth 1000000 in
theorem T.eq262 (g : Nat) (s_ : Int) (c_tab : ByteArray) (c_key_IsStr : Bool) (c_key_I : Int) (c_key_S : ByteArray) (c_gone : Bool) (c_row : Sl) (w : World) (K : World → Prop) : denF Tryz.prog T.C262 T.A262 Tryz.f262 [.pointer (some ⟨g, 0, none⟩), .int .i64 s_, .agg #[.string c_tab, .bool c_key_IsStr, .int .i64 c_key_I, .string c_key_S, .bool c_gone, .slice c_row.a c_row.l c_row.c]] w (fun v w' => match v with | .tuple ⟨[]⟩ => K w' | _ => False) = S.txn_Mgr_put g s_ c_tab c_key_IsStr c_key_I c_key_S c_gone c_row w K := by kernel_rfl
theorem T.CO262 : CallOk Tryz.prog T.C262 := (CallOk.cons 264 T.ok264 CallOk.nil)
def T.c262 (vs : List Value) (w : World) (K : Value → World → Prop) : Prop :=
  match vs with
  | [.pointer (some ⟨g, 0, none⟩), .int .i64 s_, .agg ⟨[.string c_tab, .bool c_key_IsStr, .int .i64 c_key_I, .string c_key_S, .bool c_gone, .slice c_rowa c_rowl c_rowc]⟩] => S.txn_Mgr_put g s_ c_tab c_key_IsStr c_key_I c_key_S c_gone ⟨c_rowa, c_rowl, c_rowc⟩ w (fun w' => K (.tuple #[]) w')
  | _ => False
theorem T.ok262 : ∀ vs w K, T.c262 vs w K → (callFunc 262 vs.toArray).run Tryz.prog w = .ok (.enter 262 vs.toArray) w ∧ Calls Tryz.prog 262 vs.toArray w fun e w' => ∃ v, e = .returned v ∧ K v w' := by
  intro vs w K h
  unfold T.c262 at h
  split at h
  · refine ⟨Tryz.call262 _ _, ok_of T.CO262 mixed Tryz.func262 (T.eq262 _ _ _ _ _ _ _ _ _ _) h fun v w' hk => ⟨v, rfl, ?_⟩⟩
    split at hk
    · exact hk
    · exact hk.elim
  · exact h.elim

/-- (*e2e/txn.Mgr).write (function 173). -/
def S.txn_Mgr_write (g : Nat) (s_ : Int) (name : ByteArray) (row : Sl) (fresh : Bool) (w : World) (K : Int → World → Prop) : Prop :=
  S.txn_Mgr_take g s_ name 2 w (fun Name_1 Cols_2 PK_3 Index_4 r5 w =>
  New w (.cells #[.string ⟨#[]⟩, .slice none 0 0, .int .i64 0, .int .i64 0] 73) fun p6 w =>
  St1 w ⟨p6, 0, none⟩ (.string Name_1) fun w =>
  St1 w ⟨p6, 1, none⟩ (.slice Cols_2.a Cols_2.l Cols_2.c) fun w =>
  St1 w ⟨p6, 2, none⟩ (.int .i64 PK_3) fun w =>
  St1 w ⟨p6, 3, none⟩ (.int .i64 Index_4) fun w =>
  Join (fun (e_7 : Int) (w : World) =>
    if (e_7 != 0) = true then
      K e_7 w
    else
      LdI .i64 w ⟨p6, 2, none⟩ fun PK_8 =>
      S.txn_at row PK_8 w (fun IsStr_9 I_10 S_11 w =>
      New w (.cells #[.bool false, .int .i64 0, .string ⟨#[]⟩] 167) fun p12 w =>
      St1 w ⟨p12, 0, none⟩ (.bool IsStr_9) fun w =>
      St1 w ⟨p12, 1, none⟩ (.int .i64 I_10) fun w =>
      St1 w ⟨p12, 2, none⟩ (.string S_11) fun w =>
      LdB w ⟨p12, 0, none⟩ fun IsStr_13 =>
      LdI .i64 w ⟨p12, 1, none⟩ fun I_14 =>
      LdStr w ⟨p12, 2, none⟩ fun S_15 =>
      S.txn_Mgr_has g s_ name IsStr_13 I_14 S_15 w (fun r16 w =>
      Join (fun (w : World) =>
        Join (fun (w : World) =>
          S.txn_Mgr_View g s_ name w (fun r17 r18 w =>
          Join (fun (w : World) =>
            S.api_CloneRow row w (fun r19 w =>
            LdB w ⟨p12, 0, none⟩ fun IsStr_20 =>
            LdI .i64 w ⟨p12, 1, none⟩ fun I_21 =>
            LdStr w ⟨p12, 2, none⟩ fun S_22 =>
            S.txn_Mgr_put g s_ name IsStr_20 I_21 S_22 false r19 w (fun w =>
            K 0 w))) fun J23 =>
          if fresh = true then
            if (decide ((r17.l : Int) ≥ 8)) = true then
              K 6 w
            else
              J23 w
          else
            J23 w)) fun J24 =>
        if (!fresh) = true then
          if (!r16) = true then
            K 9 w
          else
            J24 w
        else
          J24 w) fun J25 =>
      if fresh = true then
        if r16 = true then
          K 17 w
        else
          J25 w
      else
        J25 w))) fun J26 =>
  if (r5 == 0) = true then
    LdStr w ⟨p6, 0, none⟩ fun Name_27 =>
    LdS w ⟨p6, 1, none⟩ fun Cols_28 =>
    LdI .i64 w ⟨p6, 2, none⟩ fun PK_29 =>
    LdI .i64 w ⟨p6, 3, none⟩ fun Index_30 =>
    S.api_CheckRow Name_27 Cols_28 PK_29 Index_30 row w (fun r31 w =>
    J26 r31 w)
  else
    J26 r5 w)
def T.C173 : CallT := (CallT.cons 258 T.c258 (CallT.cons 259 T.c259 (CallT.cons 260 T.c260 (CallT.cons 215 T.c215 (CallT.cons 261 T.c261 (CallT.cons 262 T.c262 (CallT.cons 235 T.c235 CallT.nil)))))))
def T.A173 : Ann := fun _ => none
set_option maxRecDepth 1000000 in
theorem T.eq173 (g : Nat) (s_ : Int) (name : ByteArray) (row : Sl) (fresh : Bool) (w : World) (K : Int → World → Prop) : denF Tryz.prog T.C173 T.A173 Tryz.f173 [.pointer (some ⟨g, 0, none⟩), .int .i64 s_, .string name, .slice row.a row.l row.c, .bool fresh] w (fun v w' => match v with | .int .i64 r0 => K r0 w' | _ => False) = S.txn_Mgr_write g s_ name row fresh w K := by kernel_rfl
theorem T.CO173 : CallOk Tryz.prog T.C173 := (CallOk.cons 258 T.ok258 (CallOk.cons 259 T.ok259 (CallOk.cons 260 T.ok260 (CallOk.cons 215 T.ok215 (CallOk.cons 261 T.ok261 (CallOk.cons 262 T.ok262 (CallOk.cons 235 T.ok235 CallOk.nil)))))))
def T.c173 (vs : List Value) (w : World) (K : Value → World → Prop) : Prop :=
  match vs with
  | [.pointer (some ⟨g, 0, none⟩), .int .i64 s_, .string name, .slice rowa rowl rowc, .bool fresh] => S.txn_Mgr_write g s_ name ⟨rowa, rowl, rowc⟩ fresh w (fun r0 w' => K (.int .i64 r0) w')
  | _ => False
theorem T.ok173 : ∀ vs w K, T.c173 vs w K → (callFunc 173 vs.toArray).run Tryz.prog w = .ok (.enter 173 vs.toArray) w ∧ Calls Tryz.prog 173 vs.toArray w fun e w' => ∃ v, e = .returned v ∧ K v w' := by
  intro vs w K h
  unfold T.c173 at h
  split at h
  · refine ⟨Tryz.call173 _ _, ok_of T.CO173 mixed Tryz.func173 (T.eq173 _ _ _ _ _ _ _) h fun v w' hk => ⟨v, rfl, ?_⟩⟩
    split at hk
    · exact hk
    · exact hk.elim
  · exact h.elim

/-- (*e2e/txn.Mgr).Insert (function 77). -/
def S.txn_Mgr_Insert (g : Nat) (s_ : Int) (name : ByteArray) (row : Sl) (w : World) (K : Int → World → Prop) : Prop :=
  S.txn_Mgr_write g s_ name row true w (fun r1 w =>
  K r1 w)
def T.C77 : CallT := (CallT.cons 173 T.c173 CallT.nil)
def T.A77 : Ann := fun _ => none
set_option maxRecDepth 1000000 in
theorem T.eq77 (g : Nat) (s_ : Int) (name : ByteArray) (row : Sl) (w : World) (K : Int → World → Prop) : denF Tryz.prog T.C77 T.A77 Tryz.f77 [.pointer (some ⟨g, 0, none⟩), .int .i64 s_, .string name, .slice row.a row.l row.c] w (fun v w' => match v with | .int .i64 r0 => K r0 w' | _ => False) = S.txn_Mgr_Insert g s_ name row w K := by kernel_rfl
theorem T.CO77 : CallOk Tryz.prog T.C77 := (CallOk.cons 173 T.ok173 CallOk.nil)
def T.c77 (vs : List Value) (w : World) (K : Value → World → Prop) : Prop :=
  match vs with
  | [.pointer (some ⟨g, 0, none⟩), .int .i64 s_, .string name, .slice rowa rowl rowc] => S.txn_Mgr_Insert g s_ name ⟨rowa, rowl, rowc⟩ w (fun r0 w' => K (.int .i64 r0) w')
  | _ => False
theorem T.ok77 : ∀ vs w K, T.c77 vs w K → (callFunc 77 vs.toArray).run Tryz.prog w = .ok (.enter 77 vs.toArray) w ∧ Calls Tryz.prog 77 vs.toArray w fun e w' => ∃ v, e = .returned v ∧ K v w' := by
  intro vs w K h
  unfold T.c77 at h
  split at h
  · refine ⟨Tryz.call77 _ _, ok_of T.CO77 mixed Tryz.func77 (T.eq77 _ _ _ _ _ _) h fun v w' hk => ⟨v, rfl, ?_⟩⟩
    split at hk
    · exact hk
    · exact hk.elim
  · exact h.elim

/-- e2e/query.Usable (function 304). -/
def S.query_Usable (c_Col : ByteArray) (c_Op : Int) (c_Lit_IsStr : Bool) (c_Lit_I : Int) (c_Lit_S : ByteArray) (w : World) (K : Bool → World → Prop) : Prop :=
  New w (.cells #[.string c_Col, .int .i64 c_Op, .bool c_Lit_IsStr, .int .i64 c_Lit_I, .string c_Lit_S] 233) fun p1 w =>
  LdI .i64 w ⟨p1, 1, none⟩ fun Op_2 =>
  if (Op_2 != 5) = true then
    LdStr w ⟨p1, 4, none⟩ fun S_3 =>
    K (decide ((S_3.size : Int) ≤ 7)) w
  else
    K false w
def T.C304 : CallT := CallT.nil
def T.A304 : Ann := fun _ => none
set_option maxRecDepth 1000000 in
theorem T.eq304 (c_Col : ByteArray) (c_Op : Int) (c_Lit_IsStr : Bool) (c_Lit_I : Int) (c_Lit_S : ByteArray) (w : World) (K : Bool → World → Prop) : denF Tryz.prog T.C304 T.A304 Tryz.f304 [.agg #[.string c_Col, .int .i64 c_Op, .bool c_Lit_IsStr, .int .i64 c_Lit_I, .string c_Lit_S]] w (fun v w' => match v with | .bool r0 => K r0 w' | _ => False) = S.query_Usable c_Col c_Op c_Lit_IsStr c_Lit_I c_Lit_S w K := by kernel_rfl
theorem T.CO304 : CallOk Tryz.prog T.C304 := CallOk.nil
def T.c304 (vs : List Value) (w : World) (K : Value → World → Prop) : Prop :=
  match vs with
  | [.agg ⟨[.string c_Col, .int .i64 c_Op, .bool c_Lit_IsStr, .int .i64 c_Lit_I, .string c_Lit_S]⟩] => S.query_Usable c_Col c_Op c_Lit_IsStr c_Lit_I c_Lit_S w (fun r0 w' => K (.bool r0) w')
  | _ => False
theorem T.ok304 : ∀ vs w K, T.c304 vs w K → (callFunc 304 vs.toArray).run Tryz.prog w = .ok (.enter 304 vs.toArray) w ∧ Calls Tryz.prog 304 vs.toArray w fun e w' => ∃ v, e = .returned v ∧ K v w' := by
  intro vs w K h
  unfold T.c304 at h
  split at h
  · refine ⟨Tryz.call304 _ _, ok_of T.CO304 mixed Tryz.func304 (T.eq304 _ _ _ _ _ _ _) h fun v w' hk => ⟨v, rfl, ?_⟩⟩
    split at hk
    · exact hk
    · exact hk.elim
  · exact h.elim

/-- e2e/query.span (function 263). -/
def S.query_span (sch_Name : ByteArray) (sch_Cols : Sl) (sch_PK : Int) (sch_Index : Int) (where_ : Sl) (col : Int) (w : World) (K : Int → Bool → Bool → Int → ByteArray → Bool → Bool → Int → ByteArray → Bool → Bool → Int → ByteArray → World → Prop) : Prop :=
  New w (.cells #[.string sch_Name, .slice sch_Cols.a sch_Cols.l sch_Cols.c, .int .i64 sch_PK, .int .i64 sch_Index] 73) fun p1 w =>
  New w (.cells #[.bool false, .bool false, .int .i64 0, .string ⟨#[]⟩] 179) fun p2 w =>
  New w (.cells #[.bool false, .bool false, .int .i64 0, .string ⟨#[]⟩] 179) fun p3 w =>
  New w (.cells #[.bool false, .bool false, .int .i64 0, .string ⟨#[]⟩] 179) fun p4 w =>
  New w (.cells #[.bool false, .bool false, .int .i64 0, .string ⟨#[]⟩] 179) fun p5 w =>
  New w (.cells #[.bool false, .bool false, .int .i64 0, .string ⟨#[]⟩] 179) fun p6 w =>
  New w (.cells #[.bool false, .bool false, .int .i64 0, .string ⟨#[]⟩] 179) fun p7 w =>
  St1 w ⟨p5, 0, none⟩ (.bool false) fun w =>
  St1 w ⟨p5, 1, none⟩ (.bool false) fun w =>
  St1 w ⟨p5, 2, none⟩ (.int .i64 0) fun w =>
  St1 w ⟨p5, 3, none⟩ (.string ⟨#[]⟩) fun w =>
  St1 w ⟨p6, 0, none⟩ (.bool false) fun w =>
  St1 w ⟨p6, 1, none⟩ (.bool false) fun w =>
  St1 w ⟨p6, 2, none⟩ (.int .i64 0) fun w =>
  St1 w ⟨p6, 3, none⟩ (.string ⟨#[]⟩) fun w =>
  St1 w ⟨p7, 0, none⟩ (.bool false) fun w =>
  St1 w ⟨p7, 1, none⟩ (.bool false) fun w =>
  St1 w ⟨p7, 2, none⟩ (.int .i64 0) fun w =>
  St1 w ⟨p7, 3, none⟩ (.string ⟨#[]⟩) fun w =>
  Join (fun (n_8 : Int) (w : World) =>
    Drew w fun w =>
    LdB w ⟨p5, 0, none⟩ fun Has_9 =>
    LdB w ⟨p5, 1, none⟩ fun V_IsStr_10 =>
    LdI .i64 w ⟨p5, 2, none⟩ fun V_I_11 =>
    LdStr w ⟨p5, 3, none⟩ fun V_S_12 =>
    Hold w ⟨p6, 0, none⟩ 4 fun R13 =>
    LdB w ⟨p6, 0, none⟩ fun Has_14 =>
    LdB w ⟨p6, 1, none⟩ fun V_IsStr_15 =>
    LdI .i64 w ⟨p6, 2, none⟩ fun V_I_16 =>
    LdStr w ⟨p6, 3, none⟩ fun V_S_17 =>
    Hold w ⟨p7, 0, none⟩ 4 fun R18 =>
    LdB w ⟨p7, 0, none⟩ fun Has_19 =>
    LdB w ⟨p7, 1, none⟩ fun V_IsStr_20 =>
    LdI .i64 w ⟨p7, 2, none⟩ fun V_I_21 =>
    LdStr w ⟨p7, 3, none⟩ fun V_S_22 =>
    St1 w ⟨p2, 0, none⟩ (.bool Has_9) fun w =>
    St1 w ⟨p2, 1, none⟩ (.bool V_IsStr_10) fun w =>
    St1 w ⟨p2, 2, none⟩ (.int .i64 V_I_11) fun w =>
    St1 w ⟨p2, 3, none⟩ (.string V_S_12) fun w =>
    After R18 w <|
    After R13 w <|
    St1 w ⟨p3, 0, none⟩ (.bool Has_14) fun w =>
    St1 w ⟨p3, 1, none⟩ (.bool V_IsStr_15) fun w =>
    St1 w ⟨p3, 2, none⟩ (.int .i64 V_I_16) fun w =>
    St1 w ⟨p3, 3, none⟩ (.string V_S_17) fun w =>
    After R18 w <|
    St1 w ⟨p4, 0, none⟩ (.bool Has_19) fun w =>
    St1 w ⟨p4, 1, none⟩ (.bool V_IsStr_20) fun w =>
    St1 w ⟨p4, 2, none⟩ (.int .i64 V_I_21) fun w =>
    St1 w ⟨p4, 3, none⟩ (.string V_S_22) fun w =>
    LdB w ⟨p2, 0, none⟩ fun Has_23 =>
    LdB w ⟨p2, 1, none⟩ fun V_IsStr_24 =>
    LdI .i64 w ⟨p2, 2, none⟩ fun V_I_25 =>
    LdStr w ⟨p2, 3, none⟩ fun V_S_26 =>
    LdB w ⟨p3, 0, none⟩ fun Has_27 =>
    LdB w ⟨p3, 1, none⟩ fun V_IsStr_28 =>
    LdI .i64 w ⟨p3, 2, none⟩ fun V_I_29 =>
    LdStr w ⟨p3, 3, none⟩ fun V_S_30 =>
    LdB w ⟨p4, 0, none⟩ fun Has_31 =>
    LdB w ⟨p4, 1, none⟩ fun V_IsStr_32 =>
    LdI .i64 w ⟨p4, 2, none⟩ fun V_I_33 =>
    LdStr w ⟨p4, 3, none⟩ fun V_S_34 =>
    K n_8 Has_23 V_IsStr_24 V_I_25 V_S_26 Has_27 V_IsStr_28 V_I_29 V_S_30 Has_31 V_IsStr_32 V_I_33 V_S_34 w) fun J35 =>
  LoopP (σ := Int × Int × Unit) (fun st36 w next37 =>
    if (decide (st36.2.1 < (where_.l : Int))) = true then
      Join (fun (n_38 : Int) (w : World) =>
        Let (W (st36.2.1 + 1)) fun i_39 =>
        next37 (n_38, i_39, ()) w) fun J40 =>
      Ix where_.a where_.l st36.2.1 fun b41 o42 =>
      LdStr w ⟨b41, o42 + Int.toNat st36.2.1 * 5, none⟩ fun Col_43 =>
      LdI .i64 w ⟨b41, o42 + Int.toNat st36.2.1 * 5 + 1, none⟩ fun Op_44 =>
      LdB w ⟨b41, o42 + Int.toNat st36.2.1 * 5 + 2, none⟩ fun Lit_IsStr_45 =>
      LdI .i64 w ⟨b41, o42 + Int.toNat st36.2.1 * 5 + 3, none⟩ fun Lit_I_46 =>
      LdStr w ⟨b41, o42 + Int.toNat st36.2.1 * 5 + 4, none⟩ fun Lit_S_47 =>
      New w (.cells #[.string ⟨#[]⟩, .int .i64 0, .bool false, .int .i64 0, .string ⟨#[]⟩] 233) fun p48 w =>
      St1 w ⟨p48, 0, none⟩ (.string Col_43) fun w =>
      St1 w ⟨p48, 1, none⟩ (.int .i64 Op_44) fun w =>
      St1 w ⟨p48, 2, none⟩ (.bool Lit_IsStr_45) fun w =>
      St1 w ⟨p48, 3, none⟩ (.int .i64 Lit_I_46) fun w =>
      St1 w ⟨p48, 4, none⟩ (.string Lit_S_47) fun w =>
      LdStr w ⟨p48, 0, none⟩ fun Col_49 =>
      LdI .i64 w ⟨p48, 1, none⟩ fun Op_50 =>
      LdB w ⟨p48, 2, none⟩ fun Lit_IsStr_51 =>
      LdI .i64 w ⟨p48, 3, none⟩ fun Lit_I_52 =>
      LdStr w ⟨p48, 4, none⟩ fun Lit_S_53 =>
      S.query_Usable Col_49 Op_50 Lit_IsStr_51 Lit_I_52 Lit_S_53 w (fun r54 w =>
      if (!r54) = true then
        J40 st36.1 w
      else
        LdStr w ⟨p1, 0, none⟩ fun Name_55 =>
        LdS w ⟨p1, 1, none⟩ fun Cols_56 =>
        LdI .i64 w ⟨p1, 2, none⟩ fun PK_57 =>
        LdI .i64 w ⟨p1, 3, none⟩ fun Index_58 =>
        LdStr w ⟨p48, 0, none⟩ fun Col_59 =>
        S.query_ColOf Name_55 Cols_56 PK_57 Index_58 Col_59 w (fun r60 w =>
        if (r60 != col) = true then
          J40 st36.1 w
        else
          Let (W (st36.1 + 1)) fun n_61 =>
          Join (fun (w : World) =>
            Join (fun (w : World) =>
              Join (fun (w : World) =>
                LdB w ⟨p48, 2, none⟩ fun IsStr_62 =>
                LdI .i64 w ⟨p48, 3, none⟩ fun I_63 =>
                LdStr w ⟨p48, 4, none⟩ fun S_64 =>
                St1 w ⟨p6, 0, none⟩ (.bool true) fun w =>
                St1 w ⟨p6, 1, none⟩ (.bool IsStr_62) fun w =>
                St1 w ⟨p6, 2, none⟩ (.int .i64 I_63) fun w =>
                St1 w ⟨p6, 3, none⟩ (.string S_64) fun w =>
                J40 n_61 w) fun J65 =>
              LdI .i64 w ⟨p48, 1, none⟩ fun Op_66 =>
              if ((And .i64 Op_66 4) == 0) = true then
                LdB w ⟨p6, 0, none⟩ fun Has_67 =>
                if (!Has_67) = true then
                  J65 w
                else
                  LdB w ⟨p48, 2, none⟩ fun IsStr_68 =>
                  LdI .i64 w ⟨p48, 3, none⟩ fun I_69 =>
                  LdStr w ⟨p48, 4, none⟩ fun S_70 =>
                  LdB w ⟨p6, 1, none⟩ fun IsStr_71 =>
                  LdI .i64 w ⟨p6, 2, none⟩ fun I_72 =>
                  LdStr w ⟨p6, 3, none⟩ fun S_73 =>
                  S.api_Cmp IsStr_68 I_69 S_70 IsStr_71 I_72 S_73 w (fun r74 w =>
                  if (decide (r74 < 0)) = true then
                    J65 w
                  else
                    J40 n_61 w)
              else
                J40 n_61 w) fun J75 =>
            Join (fun (w : World) =>
              LdB w ⟨p48, 2, none⟩ fun IsStr_76 =>
              LdI .i64 w ⟨p48, 3, none⟩ fun I_77 =>
              LdStr w ⟨p48, 4, none⟩ fun S_78 =>
              St1 w ⟨p5, 0, none⟩ (.bool true) fun w =>
              St1 w ⟨p5, 1, none⟩ (.bool IsStr_76) fun w =>
              St1 w ⟨p5, 2, none⟩ (.int .i64 I_77) fun w =>
              St1 w ⟨p5, 3, none⟩ (.string S_78) fun w =>
              J75 w) fun J79 =>
            LdI .i64 w ⟨p48, 1, none⟩ fun Op_80 =>
            if ((And .i64 Op_80 1) == 0) = true then
              LdB w ⟨p5, 0, none⟩ fun Has_81 =>
              if (!Has_81) = true then
                J79 w
              else
                LdB w ⟨p48, 2, none⟩ fun IsStr_82 =>
                LdI .i64 w ⟨p48, 3, none⟩ fun I_83 =>
                LdStr w ⟨p48, 4, none⟩ fun S_84 =>
                LdB w ⟨p5, 1, none⟩ fun IsStr_85 =>
                LdI .i64 w ⟨p5, 2, none⟩ fun I_86 =>
                LdStr w ⟨p5, 3, none⟩ fun S_87 =>
                S.api_Cmp IsStr_82 I_83 S_84 IsStr_85 I_86 S_87 w (fun r88 w =>
                if (decide (r88 > 0)) = true then
                  J79 w
                else
                  J75 w)
            else
              J75 w) fun J89 =>
          LdI .i64 w ⟨p48, 1, none⟩ fun Op_90 =>
          if (Op_90 == 2) = true then
            LdB w ⟨p7, 0, none⟩ fun Has_91 =>
            if (!Has_91) = true then
              LdB w ⟨p48, 2, none⟩ fun IsStr_92 =>
              LdI .i64 w ⟨p48, 3, none⟩ fun I_93 =>
              LdStr w ⟨p48, 4, none⟩ fun S_94 =>
              St1 w ⟨p7, 0, none⟩ (.bool true) fun w =>
              St1 w ⟨p7, 1, none⟩ (.bool IsStr_92) fun w =>
              St1 w ⟨p7, 2, none⟩ (.int .i64 I_93) fun w =>
              St1 w ⟨p7, 3, none⟩ (.string S_94) fun w =>
              J89 w
            else
              J89 w
          else
            J89 w))
    else
      J35 st36.1 w) (0, 0, ()) w
def T.C263 : CallT := (CallT.cons 304 T.c304 (CallT.cons 31 T.c31 (CallT.cons 198 T.c198 CallT.nil)))
def T.A263 : Ann := fun i => bif Nat.beq i 4 then some ([1, 2, 3, 7, 8, 9, 11, 12, 13], [(10, 0), (14, 0)]) else none
set_option maxRecDepth 1000000 in
theorem T.eq263 (sch_Name : ByteArray) (sch_Cols : Sl) (sch_PK : Int) (sch_Index : Int) (where_ : Sl) (col : Int) (w : World) (K : Int → Bool → Bool → Int → ByteArray → Bool → Bool → Int → ByteArray → Bool → Bool → Int → ByteArray → World → Prop) : denF Tryz.prog T.C263 T.A263 Tryz.f263 [.agg #[.string sch_Name, .slice sch_Cols.a sch_Cols.l sch_Cols.c, .int .i64 sch_PK, .int .i64 sch_Index], .slice where_.a where_.l where_.c, .int .i64 col] w (fun v w' => match v with | .tuple ⟨[.int .i64 r0, .agg ⟨[.bool r1, .bool r2, .int .i64 r3, .string r4]⟩, .agg ⟨[.bool r5, .bool r6, .int .i64 r7, .string r8]⟩, .agg ⟨[.bool r9, .bool r10, .int .i64 r11, .string r12]⟩]⟩ => K r0 r1 r2 r3 r4 r5 r6 r7 r8 r9 r10 r11 r12 w' | _ => False) = S.query_span sch_Name sch_Cols sch_PK sch_Index where_ col w K := by kernel_rfl
theorem T.CO263 : CallOk Tryz.prog T.C263 := (CallOk.cons 304 T.ok304 (CallOk.cons 31 T.ok31 (CallOk.cons 198 T.ok198 CallOk.nil)))
def T.c263 (vs : List Value) (w : World) (K : Value → World → Prop) : Prop :=
  match vs with
  | [.agg ⟨[.string sch_Name, .slice sch_Colsa sch_Colsl sch_Colsc, .int .i64 sch_PK, .int .i64 sch_Index]⟩, .slice where_a where_l where_c, .int .i64 col] => S.query_span sch_Name ⟨sch_Colsa, sch_Colsl, sch_Colsc⟩ sch_PK sch_Index ⟨where_a, where_l, where_c⟩ col w (fun r0 r1 r2 r3 r4 r5 r6 r7 r8 r9 r10 r11 r12 w' => K (.tuple #[.int .i64 r0, .agg #[.bool r1, .bool r2, .int .i64 r3, .string r4], .agg #[.bool r5, .bool r6, .int .i64 r7, .string r8], .agg #[.bool r9, .bool r10, .int .i64 r11, .string r12]]) w')
  | _ => False
theorem T.ok263 : ∀ vs w K, T.c263 vs w K → (callFunc 263 vs.toArray).run Tryz.prog w = .ok (.enter 263 vs.toArray) w ∧ Calls Tryz.prog 263 vs.toArray w fun e w' => ∃ v, e = .returned v ∧ K v w' := by
  intro vs w K h
  unfold T.c263 at h
  split at h
  · refine ⟨Tryz.call263 _ _, ok_of T.CO263 mixed Tryz.func263 (T.eq263 _ _ _ _ _ _ _ _) h fun v w' hk => ⟨v, rfl, ?_⟩⟩
    split at hk
    · exact hk
    · exact hk.elim
  · exact h.elim

/-- e2e/query.PlanOf (function 174). -/
def S.query_PlanOf (sch_Name : ByteArray) (sch_Cols : Sl) (sch_PK : Int) (sch_Index : Int) (where_ : Sl) (w : World) (K : Int → Int → Bool → Bool → Int → ByteArray → Bool → Bool → Int → ByteArray → World → Prop) : Prop :=
  New w (.cells #[.string sch_Name, .slice sch_Cols.a sch_Cols.l sch_Cols.c, .int .i64 sch_PK, .int .i64 sch_Index] 73) fun p1 w =>
  New w (.cells #[.int .i64 0, .int .i64 0, .bool false, .bool false, .int .i64 0, .string ⟨#[]⟩, .bool false, .bool false, .int .i64 0, .string ⟨#[]⟩] 235) fun p2 w =>
  LdStr w ⟨p1, 0, none⟩ fun Name_3 =>
  LdS w ⟨p1, 1, none⟩ fun Cols_4 =>
  LdI .i64 w ⟨p1, 2, none⟩ fun PK_5 =>
  LdI .i64 w ⟨p1, 3, none⟩ fun Index_6 =>
  LdI .i64 w ⟨p1, 2, none⟩ fun PK_7 =>
  S.query_span Name_3 Cols_4 PK_5 Index_6 where_ PK_7 w (fun r8 Has_9 V_IsStr_10 V_I_11 V_S_12 Has_13 V_IsStr_14 V_I_15 V_S_16 Has_17 V_IsStr_18 V_I_19 V_S_20 w =>
  New w (.cells #[.bool false, .bool false, .int .i64 0, .string ⟨#[]⟩] 179) fun p21 w =>
  New w (.cells #[.bool false, .bool false, .int .i64 0, .string ⟨#[]⟩] 179) fun p22 w =>
  New w (.cells #[.bool false, .bool false, .int .i64 0, .string ⟨#[]⟩] 179) fun p23 w =>
  St1 w ⟨p21, 0, none⟩ (.bool Has_9) fun w =>
  St1 w ⟨p21, 1, none⟩ (.bool V_IsStr_10) fun w =>
  St1 w ⟨p21, 2, none⟩ (.int .i64 V_I_11) fun w =>
  St1 w ⟨p21, 3, none⟩ (.string V_S_12) fun w =>
  St1 w ⟨p22, 0, none⟩ (.bool Has_13) fun w =>
  St1 w ⟨p22, 1, none⟩ (.bool V_IsStr_14) fun w =>
  St1 w ⟨p22, 2, none⟩ (.int .i64 V_I_15) fun w =>
  St1 w ⟨p22, 3, none⟩ (.string V_S_16) fun w =>
  St1 w ⟨p23, 0, none⟩ (.bool Has_17) fun w =>
  St1 w ⟨p23, 1, none⟩ (.bool V_IsStr_18) fun w =>
  St1 w ⟨p23, 2, none⟩ (.int .i64 V_I_19) fun w =>
  St1 w ⟨p23, 3, none⟩ (.string V_S_20) fun w =>
  LdB w ⟨p23, 0, none⟩ fun Has_24 =>
  if Has_24 = true then
    LdI .i64 w ⟨p1, 2, none⟩ fun PK_25 =>
    LdB w ⟨p23, 0, none⟩ fun Has_26 =>
    LdB w ⟨p23, 1, none⟩ fun V_IsStr_27 =>
    LdI .i64 w ⟨p23, 2, none⟩ fun V_I_28 =>
    LdStr w ⟨p23, 3, none⟩ fun V_S_29 =>
    LdB w ⟨p23, 0, none⟩ fun Has_30 =>
    LdB w ⟨p23, 1, none⟩ fun V_IsStr_31 =>
    LdI .i64 w ⟨p23, 2, none⟩ fun V_I_32 =>
    LdStr w ⟨p23, 3, none⟩ fun V_S_33 =>
    St1 w ⟨p2, 0, none⟩ (.int .i64 1) fun w =>
    St1 w ⟨p2, 1, none⟩ (.int .i64 PK_25) fun w =>
    St1 w ⟨p2, 2, none⟩ (.bool Has_26) fun w =>
    St1 w ⟨p2, 3, none⟩ (.bool V_IsStr_27) fun w =>
    St1 w ⟨p2, 4, none⟩ (.int .i64 V_I_28) fun w =>
    St1 w ⟨p2, 5, none⟩ (.string V_S_29) fun w =>
    St1 w ⟨p2, 6, none⟩ (.bool Has_30) fun w =>
    St1 w ⟨p2, 7, none⟩ (.bool V_IsStr_31) fun w =>
    St1 w ⟨p2, 8, none⟩ (.int .i64 V_I_32) fun w =>
    St1 w ⟨p2, 9, none⟩ (.string V_S_33) fun w =>
    LdI .i64 w ⟨p2, 0, none⟩ fun Kind_34 =>
    LdI .i64 w ⟨p2, 1, none⟩ fun Col_35 =>
    LdB w ⟨p2, 2, none⟩ fun Lo_Has_36 =>
    LdB w ⟨p2, 3, none⟩ fun Lo_V_IsStr_37 =>
    LdI .i64 w ⟨p2, 4, none⟩ fun Lo_V_I_38 =>
    LdStr w ⟨p2, 5, none⟩ fun Lo_V_S_39 =>
    LdB w ⟨p2, 6, none⟩ fun Hi_Has_40 =>
    LdB w ⟨p2, 7, none⟩ fun Hi_V_IsStr_41 =>
    LdI .i64 w ⟨p2, 8, none⟩ fun Hi_V_I_42 =>
    LdStr w ⟨p2, 9, none⟩ fun Hi_V_S_43 =>
    K Kind_34 Col_35 Lo_Has_36 Lo_V_IsStr_37 Lo_V_I_38 Lo_V_S_39 Hi_Has_40 Hi_V_IsStr_41 Hi_V_I_42 Hi_V_S_43 w
  else
    if (decide (r8 > 0)) = true then
      LdI .i64 w ⟨p1, 2, none⟩ fun PK_44 =>
      LdB w ⟨p21, 0, none⟩ fun Has_45 =>
      LdB w ⟨p21, 1, none⟩ fun V_IsStr_46 =>
      LdI .i64 w ⟨p21, 2, none⟩ fun V_I_47 =>
      LdStr w ⟨p21, 3, none⟩ fun V_S_48 =>
      LdB w ⟨p22, 0, none⟩ fun Has_49 =>
      LdB w ⟨p22, 1, none⟩ fun V_IsStr_50 =>
      LdI .i64 w ⟨p22, 2, none⟩ fun V_I_51 =>
      LdStr w ⟨p22, 3, none⟩ fun V_S_52 =>
      St1 w ⟨p2, 0, none⟩ (.int .i64 2) fun w =>
      St1 w ⟨p2, 1, none⟩ (.int .i64 PK_44) fun w =>
      St1 w ⟨p2, 2, none⟩ (.bool Has_45) fun w =>
      St1 w ⟨p2, 3, none⟩ (.bool V_IsStr_46) fun w =>
      St1 w ⟨p2, 4, none⟩ (.int .i64 V_I_47) fun w =>
      St1 w ⟨p2, 5, none⟩ (.string V_S_48) fun w =>
      St1 w ⟨p2, 6, none⟩ (.bool Has_49) fun w =>
      St1 w ⟨p2, 7, none⟩ (.bool V_IsStr_50) fun w =>
      St1 w ⟨p2, 8, none⟩ (.int .i64 V_I_51) fun w =>
      St1 w ⟨p2, 9, none⟩ (.string V_S_52) fun w =>
      LdI .i64 w ⟨p2, 0, none⟩ fun Kind_53 =>
      LdI .i64 w ⟨p2, 1, none⟩ fun Col_54 =>
      LdB w ⟨p2, 2, none⟩ fun Lo_Has_55 =>
      LdB w ⟨p2, 3, none⟩ fun Lo_V_IsStr_56 =>
      LdI .i64 w ⟨p2, 4, none⟩ fun Lo_V_I_57 =>
      LdStr w ⟨p2, 5, none⟩ fun Lo_V_S_58 =>
      LdB w ⟨p2, 6, none⟩ fun Hi_Has_59 =>
      LdB w ⟨p2, 7, none⟩ fun Hi_V_IsStr_60 =>
      LdI .i64 w ⟨p2, 8, none⟩ fun Hi_V_I_61 =>
      LdStr w ⟨p2, 9, none⟩ fun Hi_V_S_62 =>
      K Kind_53 Col_54 Lo_Has_55 Lo_V_IsStr_56 Lo_V_I_57 Lo_V_S_58 Hi_Has_59 Hi_V_IsStr_60 Hi_V_I_61 Hi_V_S_62 w
    else
      LdI .i64 w ⟨p1, 3, none⟩ fun Index_63 =>
      Join (fun (w : World) =>
        LdI .i64 w ⟨p1, 2, none⟩ fun PK_64 =>
        St1 w ⟨p2, 0, none⟩ (.int .i64 4) fun w =>
        St1 w ⟨p2, 1, none⟩ (.int .i64 PK_64) fun w =>
        St1 w ⟨p2, 2, none⟩ (.bool false) fun w =>
        St1 w ⟨p2, 3, none⟩ (.bool false) fun w =>
        St1 w ⟨p2, 4, none⟩ (.int .i64 0) fun w =>
        St1 w ⟨p2, 5, none⟩ (.string ⟨#[]⟩) fun w =>
        St1 w ⟨p2, 6, none⟩ (.bool false) fun w =>
        St1 w ⟨p2, 7, none⟩ (.bool false) fun w =>
        St1 w ⟨p2, 8, none⟩ (.int .i64 0) fun w =>
        St1 w ⟨p2, 9, none⟩ (.string ⟨#[]⟩) fun w =>
        LdI .i64 w ⟨p2, 0, none⟩ fun Kind_65 =>
        LdI .i64 w ⟨p2, 1, none⟩ fun Col_66 =>
        LdB w ⟨p2, 2, none⟩ fun Lo_Has_67 =>
        LdB w ⟨p2, 3, none⟩ fun Lo_V_IsStr_68 =>
        LdI .i64 w ⟨p2, 4, none⟩ fun Lo_V_I_69 =>
        LdStr w ⟨p2, 5, none⟩ fun Lo_V_S_70 =>
        LdB w ⟨p2, 6, none⟩ fun Hi_Has_71 =>
        LdB w ⟨p2, 7, none⟩ fun Hi_V_IsStr_72 =>
        LdI .i64 w ⟨p2, 8, none⟩ fun Hi_V_I_73 =>
        LdStr w ⟨p2, 9, none⟩ fun Hi_V_S_74 =>
        K Kind_65 Col_66 Lo_Has_67 Lo_V_IsStr_68 Lo_V_I_69 Lo_V_S_70 Hi_Has_71 Hi_V_IsStr_72 Hi_V_I_73 Hi_V_S_74 w) fun J75 =>
      if (decide (Index_63 ≥ 0)) = true then
        LdStr w ⟨p1, 0, none⟩ fun Name_76 =>
        LdS w ⟨p1, 1, none⟩ fun Cols_77 =>
        LdI .i64 w ⟨p1, 2, none⟩ fun PK_78 =>
        LdI .i64 w ⟨p1, 3, none⟩ fun Index_79 =>
        LdI .i64 w ⟨p1, 3, none⟩ fun Index_80 =>
        S.query_span Name_76 Cols_77 PK_78 Index_79 where_ Index_80 w (fun r81 Has_82 V_IsStr_83 V_I_84 V_S_85 Has_86 V_IsStr_87 V_I_88 V_S_89 Has_90 V_IsStr_91 V_I_92 V_S_93 w =>
        St1 w ⟨p21, 0, none⟩ (.bool Has_82) fun w =>
        St1 w ⟨p21, 1, none⟩ (.bool V_IsStr_83) fun w =>
        St1 w ⟨p21, 2, none⟩ (.int .i64 V_I_84) fun w =>
        St1 w ⟨p21, 3, none⟩ (.string V_S_85) fun w =>
        St1 w ⟨p22, 0, none⟩ (.bool Has_86) fun w =>
        St1 w ⟨p22, 1, none⟩ (.bool V_IsStr_87) fun w =>
        St1 w ⟨p22, 2, none⟩ (.int .i64 V_I_88) fun w =>
        St1 w ⟨p22, 3, none⟩ (.string V_S_89) fun w =>
        if (decide (r81 > 0)) = true then
          LdI .i64 w ⟨p1, 3, none⟩ fun Index_94 =>
          LdB w ⟨p21, 0, none⟩ fun Has_95 =>
          LdB w ⟨p21, 1, none⟩ fun V_IsStr_96 =>
          LdI .i64 w ⟨p21, 2, none⟩ fun V_I_97 =>
          LdStr w ⟨p21, 3, none⟩ fun V_S_98 =>
          LdB w ⟨p22, 0, none⟩ fun Has_99 =>
          LdB w ⟨p22, 1, none⟩ fun V_IsStr_100 =>
          LdI .i64 w ⟨p22, 2, none⟩ fun V_I_101 =>
          LdStr w ⟨p22, 3, none⟩ fun V_S_102 =>
          St1 w ⟨p2, 0, none⟩ (.int .i64 3) fun w =>
          St1 w ⟨p2, 1, none⟩ (.int .i64 Index_94) fun w =>
          St1 w ⟨p2, 2, none⟩ (.bool Has_95) fun w =>
          St1 w ⟨p2, 3, none⟩ (.bool V_IsStr_96) fun w =>
          St1 w ⟨p2, 4, none⟩ (.int .i64 V_I_97) fun w =>
          St1 w ⟨p2, 5, none⟩ (.string V_S_98) fun w =>
          St1 w ⟨p2, 6, none⟩ (.bool Has_99) fun w =>
          St1 w ⟨p2, 7, none⟩ (.bool V_IsStr_100) fun w =>
          St1 w ⟨p2, 8, none⟩ (.int .i64 V_I_101) fun w =>
          St1 w ⟨p2, 9, none⟩ (.string V_S_102) fun w =>
          LdI .i64 w ⟨p2, 0, none⟩ fun Kind_103 =>
          LdI .i64 w ⟨p2, 1, none⟩ fun Col_104 =>
          LdB w ⟨p2, 2, none⟩ fun Lo_Has_105 =>
          LdB w ⟨p2, 3, none⟩ fun Lo_V_IsStr_106 =>
          LdI .i64 w ⟨p2, 4, none⟩ fun Lo_V_I_107 =>
          LdStr w ⟨p2, 5, none⟩ fun Lo_V_S_108 =>
          LdB w ⟨p2, 6, none⟩ fun Hi_Has_109 =>
          LdB w ⟨p2, 7, none⟩ fun Hi_V_IsStr_110 =>
          LdI .i64 w ⟨p2, 8, none⟩ fun Hi_V_I_111 =>
          LdStr w ⟨p2, 9, none⟩ fun Hi_V_S_112 =>
          K Kind_103 Col_104 Lo_Has_105 Lo_V_IsStr_106 Lo_V_I_107 Lo_V_S_108 Hi_Has_109 Hi_V_IsStr_110 Hi_V_I_111 Hi_V_S_112 w
        else
          J75 w)
      else
        J75 w)
def T.C174 : CallT := (CallT.cons 263 T.c263 CallT.nil)
def T.A174 : Ann := fun _ => none
set_option maxRecDepth 1000000 in
theorem T.eq174 (sch_Name : ByteArray) (sch_Cols : Sl) (sch_PK : Int) (sch_Index : Int) (where_ : Sl) (w : World) (K : Int → Int → Bool → Bool → Int → ByteArray → Bool → Bool → Int → ByteArray → World → Prop) : denF Tryz.prog T.C174 T.A174 Tryz.f174 [.agg #[.string sch_Name, .slice sch_Cols.a sch_Cols.l sch_Cols.c, .int .i64 sch_PK, .int .i64 sch_Index], .slice where_.a where_.l where_.c] w (fun v w' => match v with | .agg ⟨[.int .i64 r0, .int .i64 r1, .bool r2, .bool r3, .int .i64 r4, .string r5, .bool r6, .bool r7, .int .i64 r8, .string r9]⟩ => K r0 r1 r2 r3 r4 r5 r6 r7 r8 r9 w' | _ => False) = S.query_PlanOf sch_Name sch_Cols sch_PK sch_Index where_ w K := by kernel_rfl
theorem T.CO174 : CallOk Tryz.prog T.C174 := (CallOk.cons 263 T.ok263 CallOk.nil)
def T.c174 (vs : List Value) (w : World) (K : Value → World → Prop) : Prop :=
  match vs with
  | [.agg ⟨[.string sch_Name, .slice sch_Colsa sch_Colsl sch_Colsc, .int .i64 sch_PK, .int .i64 sch_Index]⟩, .slice where_a where_l where_c] => S.query_PlanOf sch_Name ⟨sch_Colsa, sch_Colsl, sch_Colsc⟩ sch_PK sch_Index ⟨where_a, where_l, where_c⟩ w (fun r0 r1 r2 r3 r4 r5 r6 r7 r8 r9 w' => K (.agg #[.int .i64 r0, .int .i64 r1, .bool r2, .bool r3, .int .i64 r4, .string r5, .bool r6, .bool r7, .int .i64 r8, .string r9]) w')
  | _ => False
theorem T.ok174 : ∀ vs w K, T.c174 vs w K → (callFunc 174 vs.toArray).run Tryz.prog w = .ok (.enter 174 vs.toArray) w ∧ Calls Tryz.prog 174 vs.toArray w fun e w' => ∃ v, e = .returned v ∧ K v w' := by
  intro vs w K h
  unfold T.c174 at h
  split at h
  · refine ⟨Tryz.call174 _ _, ok_of T.CO174 mixed Tryz.func174 (T.eq174 _ _ _ _ _ _ _) h fun v w' hk => ⟨v, rfl, ?_⟩⟩
    split at hk
    · exact hk
    · exact hk.elim
  · exact h.elim

/-- e2e/query.holds (function 267). -/
def S.query_holds (c : Int) (op : Int) (w : World) (K : Bool → World → Prop) : Prop :=
  if (decide (c < 0)) = true then
    if ((And .i64 op 1) != 0) = true then
      K true w
    else
      if (c == 0) = true then
        if ((And .i64 op 2) != 0) = true then
          K true w
        else
          if (decide (c > 0)) = true then
            K ((And .i64 op 4) != 0) w
          else
            K false w
      else
        if (decide (c > 0)) = true then
          K ((And .i64 op 4) != 0) w
        else
          K false w
  else
    if (c == 0) = true then
      if ((And .i64 op 2) != 0) = true then
        K true w
      else
        if (decide (c > 0)) = true then
          K ((And .i64 op 4) != 0) w
        else
          K false w
    else
      if (decide (c > 0)) = true then
        K ((And .i64 op 4) != 0) w
      else
        K false w
def T.C267 : CallT := CallT.nil
def T.A267 : Ann := fun _ => none
set_option maxRecDepth 1000000 in
theorem T.eq267 (c : Int) (op : Int) (w : World) (K : Bool → World → Prop) : denF Tryz.prog T.C267 T.A267 Tryz.f267 [.int .i64 c, .int .i64 op] w (fun v w' => match v with | .bool r0 => K r0 w' | _ => False) = S.query_holds c op w K := by kernel_rfl
theorem T.CO267 : CallOk Tryz.prog T.C267 := CallOk.nil
def T.c267 (vs : List Value) (w : World) (K : Value → World → Prop) : Prop :=
  match vs with
  | [.int .i64 c, .int .i64 op] => S.query_holds c op w (fun r0 w' => K (.bool r0) w')
  | _ => False
theorem T.ok267 : ∀ vs w K, T.c267 vs w K → (callFunc 267 vs.toArray).run Tryz.prog w = .ok (.enter 267 vs.toArray) w ∧ Calls Tryz.prog 267 vs.toArray w fun e w' => ∃ v, e = .returned v ∧ K v w' := by
  intro vs w K h
  unfold T.c267 at h
  split at h
  · refine ⟨Tryz.call267 _ _, ok_of T.CO267 mixed Tryz.func267 (T.eq267 _ _ _ _) h fun v w' hk => ⟨v, rfl, ?_⟩⟩
    split at hk
    · exact hk
    · exact hk.elim
  · exact h.elim

/-- e2e/query.match (function 177). -/
def S.query_match (sch_Name : ByteArray) (sch_Cols : Sl) (sch_PK : Int) (sch_Index : Int) (where_ : Sl) (row : Sl) (w : World) (K : Bool → World → Prop) : Prop :=
  New w (.cells #[.string sch_Name, .slice sch_Cols.a sch_Cols.l sch_Cols.c, .int .i64 sch_PK, .int .i64 sch_Index] 73) fun p1 w =>
  LoopP (σ := Int × Unit) (fun st2 w next3 =>
    if (decide (st2.1 < (where_.l : Int))) = true then
      Drew w fun w =>
      LdStr w ⟨p1, 0, none⟩ fun Name_4 =>
      LdS w ⟨p1, 1, none⟩ fun Cols_5 =>
      LdI .i64 w ⟨p1, 2, none⟩ fun PK_6 =>
      LdI .i64 w ⟨p1, 3, none⟩ fun Index_7 =>
      Ix where_.a where_.l st2.1 fun b8 o9 =>
      LdStr w ⟨b8, o9 + Int.toNat st2.1 * 5, none⟩ fun Col_10 =>
      S.query_ColOf Name_4 Cols_5 PK_6 Index_7 Col_10 w (fun r11 w =>
      Drew w fun w =>
      Ix row.a row.l r11 fun b12 o13 =>
      LdB w ⟨b12, o13 + Int.toNat r11 * 3, none⟩ fun IsStr_14 =>
      LdI .i64 w ⟨b12, o13 + Int.toNat r11 * 3 + 1, none⟩ fun I_15 =>
      LdStr w ⟨b12, o13 + Int.toNat r11 * 3 + 2, none⟩ fun S_16 =>
      Ix where_.a where_.l st2.1 fun b17 o18 =>
      LdB w ⟨b17, o18 + Int.toNat st2.1 * 5 + 2, none⟩ fun IsStr_19 =>
      LdI .i64 w ⟨b17, o18 + Int.toNat st2.1 * 5 + 2 + 1, none⟩ fun I_20 =>
      LdStr w ⟨b17, o18 + Int.toNat st2.1 * 5 + 2 + 2, none⟩ fun S_21 =>
      S.api_Cmp IsStr_14 I_15 S_16 IsStr_19 I_20 S_21 w (fun r22 w =>
      Ix where_.a where_.l st2.1 fun b23 o24 =>
      LdI .i64 w ⟨b23, o24 + Int.toNat st2.1 * 5 + 1, none⟩ fun Op_25 =>
      S.query_holds r22 Op_25 w (fun r26 w =>
      if (!r26) = true then
        K false w
      else
        Let (W (st2.1 + 1)) fun i_27 =>
        next3 (i_27, ()) w)))
    else
      K true w) (0, ()) w
def T.C177 : CallT := (CallT.cons 31 T.c31 (CallT.cons 198 T.c198 (CallT.cons 267 T.c267 CallT.nil)))
def T.A177 : Ann := fun i => bif Nat.beq i 2 then some ([1, 2, 3], [(7, 0)]) else none
set_option maxRecDepth 1000000 in
theorem T.eq177 (sch_Name : ByteArray) (sch_Cols : Sl) (sch_PK : Int) (sch_Index : Int) (where_ : Sl) (row : Sl) (w : World) (K : Bool → World → Prop) : denF Tryz.prog T.C177 T.A177 Tryz.f177 [.agg #[.string sch_Name, .slice sch_Cols.a sch_Cols.l sch_Cols.c, .int .i64 sch_PK, .int .i64 sch_Index], .slice where_.a where_.l where_.c, .slice row.a row.l row.c] w (fun v w' => match v with | .bool r0 => K r0 w' | _ => False) = S.query_match sch_Name sch_Cols sch_PK sch_Index where_ row w K := by kernel_rfl
theorem T.CO177 : CallOk Tryz.prog T.C177 := (CallOk.cons 31 T.ok31 (CallOk.cons 198 T.ok198 (CallOk.cons 267 T.ok267 CallOk.nil)))
def T.c177 (vs : List Value) (w : World) (K : Value → World → Prop) : Prop :=
  match vs with
  | [.agg ⟨[.string sch_Name, .slice sch_Colsa sch_Colsl sch_Colsc, .int .i64 sch_PK, .int .i64 sch_Index]⟩, .slice where_a where_l where_c, .slice rowa rowl rowc] => S.query_match sch_Name ⟨sch_Colsa, sch_Colsl, sch_Colsc⟩ sch_PK sch_Index ⟨where_a, where_l, where_c⟩ ⟨rowa, rowl, rowc⟩ w (fun r0 w' => K (.bool r0) w')
  | _ => False
theorem T.ok177 : ∀ vs w K, T.c177 vs w K → (callFunc 177 vs.toArray).run Tryz.prog w = .ok (.enter 177 vs.toArray) w ∧ Calls Tryz.prog 177 vs.toArray w fun e w' => ∃ v, e = .returned v ∧ K v w' := by
  intro vs w K h
  unfold T.c177 at h
  split at h
  · refine ⟨Tryz.call177 _ _, ok_of T.CO177 mixed Tryz.func177 (T.eq177 _ _ _ _ _ _ _ _) h fun v w' hk => ⟨v, rfl, ?_⟩⟩
    split at hk
    · exact hk
    · exact hk.elim
  · exact h.elim

/-- (*e2e/txn.Mgr).Lookup (function 175). -/
def S.txn_Mgr_Lookup (g : Nat) (s_ : Int) (name : ByteArray) (key_IsStr : Bool) (key_I : Int) (key_S : ByteArray) (w : World) (K : Sl → Int → World → Prop) : Prop :=
  New w (.cells #[.bool key_IsStr, .int .i64 key_I, .string key_S] 167) fun p1 w =>
  S.txn_Mgr_take g s_ name 1 w (fun Name_2 Cols_3 PK_4 Index_5 r6 w =>
  New w (.cells #[.string ⟨#[]⟩, .slice none 0 0, .int .i64 0, .int .i64 0] 73) fun p7 w =>
  St1 w ⟨p7, 0, none⟩ (.string Name_2) fun w =>
  St1 w ⟨p7, 1, none⟩ (.slice Cols_3.a Cols_3.l Cols_3.c) fun w =>
  St1 w ⟨p7, 2, none⟩ (.int .i64 PK_4) fun w =>
  St1 w ⟨p7, 3, none⟩ (.int .i64 Index_5) fun w =>
  if (r6 != 0) = true then
    K ⟨none, 0, 0⟩ r6 w
  else
    LdB w ⟨p1, 0, none⟩ fun IsStr_8 =>
    LdI .i64 w ⟨p1, 1, none⟩ fun I_9 =>
    LdStr w ⟨p1, 2, none⟩ fun S_10 =>
    S.txn_Mgr_find g s_ name IsStr_8 I_9 S_10 w (fun r11 r12 w =>
    Join (fun (w : World) =>
      if r12 = true then
        IxA 4 s_ <|
        LdS w ⟨g, 23 + Int.toNat s_ * 1, none⟩ fun ws_13 =>
        Ix ws_13.a ws_13.l r11 fun b14 o15 =>
        LdS w ⟨b14, o15 + Int.toNat r11 * 6 + 5, none⟩ fun row_16 =>
        S.api_CloneRow row_16 w (fun r17 w =>
        K r17 0 w)
      else
        Drew w fun w =>
        LdP w ⟨g, 0, none⟩ fun t_18 =>
        LdB w ⟨p1, 0, none⟩ fun IsStr_19 =>
        LdI .i64 w ⟨p1, 1, none⟩ fun I_20 =>
        LdStr w ⟨p1, 2, none⟩ fun S_21 =>
        S.table_Store_Lookup t_18 name IsStr_19 I_20 S_21 w (fun r22 r23 w =>
        K r22 r23 w)) fun J24 =>
    if r12 = true then
      IxA 4 s_ <|
      LdS w ⟨g, 23 + Int.toNat s_ * 1, none⟩ fun ws_25 =>
      Ix ws_25.a ws_25.l r11 fun b26 o27 =>
      LdB w ⟨b26, o27 + Int.toNat r11 * 6 + 4, none⟩ fun gone_28 =>
      if gone_28 = true then
        K ⟨none, 0, 0⟩ 9 w
      else
        J24 w
    else
      J24 w))
def T.C175 : CallT := (CallT.cons 258 T.c258 (CallT.cons 264 T.c264 (CallT.cons 261 T.c261 (CallT.cons 234 T.c234 CallT.nil))))
def T.A175 : Ann := fun _ => none
set_option maxRecDepth 1000000 in
theorem T.eq175 (g : Nat) (s_ : Int) (name : ByteArray) (key_IsStr : Bool) (key_I : Int) (key_S : ByteArray) (w : World) (K : Sl → Int → World → Prop) : denF Tryz.prog T.C175 T.A175 Tryz.f175 [.pointer (some ⟨g, 0, none⟩), .int .i64 s_, .string name, .agg #[.bool key_IsStr, .int .i64 key_I, .string key_S]] w (fun v w' => match v with | .tuple ⟨[.slice r0a r0l r0c, .int .i64 r1]⟩ => K ⟨r0a, r0l, r0c⟩ r1 w' | _ => False) = S.txn_Mgr_Lookup g s_ name key_IsStr key_I key_S w K := by kernel_rfl
theorem T.CO175 : CallOk Tryz.prog T.C175 := (CallOk.cons 258 T.ok258 (CallOk.cons 264 T.ok264 (CallOk.cons 261 T.ok261 (CallOk.cons 234 T.ok234 CallOk.nil))))
def T.c175 (vs : List Value) (w : World) (K : Value → World → Prop) : Prop :=
  match vs with
  | [.pointer (some ⟨g, 0, none⟩), .int .i64 s_, .string name, .agg ⟨[.bool key_IsStr, .int .i64 key_I, .string key_S]⟩] => S.txn_Mgr_Lookup g s_ name key_IsStr key_I key_S w (fun r0 r1 w' => K (.tuple #[.slice r0.a r0.l r0.c, .int .i64 r1]) w')
  | _ => False
theorem T.ok175 : ∀ vs w K, T.c175 vs w K → (callFunc 175 vs.toArray).run Tryz.prog w = .ok (.enter 175 vs.toArray) w ∧ Calls Tryz.prog 175 vs.toArray w fun e w' => ∃ v, e = .returned v ∧ K v w' := by
  intro vs w K h
  unfold T.c175 at h
  split at h
  · refine ⟨Tryz.call175 _ _, ok_of T.CO175 mixed Tryz.func175 (T.eq175 _ _ _ _ _ _ _ _) h fun v w' hk => ⟨v, rfl, ?_⟩⟩
    split at hk
    · exact hk
    · exact hk.elim
  · exact h.elim

/-- (*e2e/txn.Mgr).Scan (function 176). -/
def S.txn_Mgr_Scan (g : Nat) (s_ : Int) (name : ByteArray) (col : Int) (lo_Has : Bool) (lo_V_IsStr : Bool) (lo_V_I : Int) (lo_V_S : ByteArray) (hi_Has : Bool) (hi_V_IsStr : Bool) (hi_V_I : Int) (hi_V_S : ByteArray) (w : World) (K : Sl → Int → World → Prop) : Prop :=
  New w (.cells #[.bool lo_Has, .bool lo_V_IsStr, .int .i64 lo_V_I, .string lo_V_S] 179) fun p1 w =>
  New w (.cells #[.bool hi_Has, .bool hi_V_IsStr, .int .i64 hi_V_I, .string hi_V_S] 179) fun p2 w =>
  S.txn_Mgr_take g s_ name 1 w (fun Name_3 Cols_4 PK_5 Index_6 r7 w =>
  New w (.cells #[.string ⟨#[]⟩, .slice none 0 0, .int .i64 0, .int .i64 0] 73) fun p8 w =>
  St1 w ⟨p8, 0, none⟩ (.string Name_3) fun w =>
  St1 w ⟨p8, 1, none⟩ (.slice Cols_4.a Cols_4.l Cols_4.c) fun w =>
  St1 w ⟨p8, 2, none⟩ (.int .i64 PK_5) fun w =>
  St1 w ⟨p8, 3, none⟩ (.int .i64 Index_6) fun w =>
  if (r7 != 0) = true then
    K ⟨none, 0, 0⟩ r7 w
  else
    Drew w fun w =>
    LdP w ⟨g, 0, none⟩ fun t_9 =>
    LdB w ⟨p1, 0, none⟩ fun Has_10 =>
    LdB w ⟨p1, 1, none⟩ fun V_IsStr_11 =>
    LdI .i64 w ⟨p1, 2, none⟩ fun V_I_12 =>
    LdStr w ⟨p1, 3, none⟩ fun V_S_13 =>
    LdB w ⟨p2, 0, none⟩ fun Has_14 =>
    LdB w ⟨p2, 1, none⟩ fun V_IsStr_15 =>
    LdI .i64 w ⟨p2, 2, none⟩ fun V_I_16 =>
    LdStr w ⟨p2, 3, none⟩ fun V_S_17 =>
    S.table_Store_Scan t_9 name col Has_10 V_IsStr_11 V_I_12 V_S_13 Has_14 V_IsStr_15 V_I_16 V_S_17 w (fun r18 r19 w =>
    if (r19 != 0) = true then
      K ⟨none, 0, 0⟩ r19 w
    else
      LdStr w ⟨p8, 0, none⟩ fun Name_20 =>
      LdS w ⟨p8, 1, none⟩ fun Cols_21 =>
      LdI .i64 w ⟨p8, 2, none⟩ fun PK_22 =>
      LdI .i64 w ⟨p8, 3, none⟩ fun Index_23 =>
      LdB w ⟨p1, 0, none⟩ fun Has_24 =>
      LdB w ⟨p1, 1, none⟩ fun V_IsStr_25 =>
      LdI .i64 w ⟨p1, 2, none⟩ fun V_I_26 =>
      LdStr w ⟨p1, 3, none⟩ fun V_S_27 =>
      LdB w ⟨p2, 0, none⟩ fun Has_28 =>
      LdB w ⟨p2, 1, none⟩ fun V_IsStr_29 =>
      LdI .i64 w ⟨p2, 2, none⟩ fun V_I_30 =>
      LdStr w ⟨p2, 3, none⟩ fun V_S_31 =>
      S.txn_Mgr_merge g s_ Name_20 Cols_21 PK_22 Index_23 r18 col Has_24 V_IsStr_25 V_I_26 V_S_27 Has_28 V_IsStr_29 V_I_30 V_S_31 w (fun r32 w =>
      K r32 0 w)))
def T.C176 : CallT := (CallT.cons 258 T.c258 (CallT.cons 265 T.c265 (CallT.cons 266 T.c266 CallT.nil)))
def T.A176 : Ann := fun _ => none
set_option maxRecDepth 1000000 in
theorem T.eq176 (g : Nat) (s_ : Int) (name : ByteArray) (col : Int) (lo_Has : Bool) (lo_V_IsStr : Bool) (lo_V_I : Int) (lo_V_S : ByteArray) (hi_Has : Bool) (hi_V_IsStr : Bool) (hi_V_I : Int) (hi_V_S : ByteArray) (w : World) (K : Sl → Int → World → Prop) : denF Tryz.prog T.C176 T.A176 Tryz.f176 [.pointer (some ⟨g, 0, none⟩), .int .i64 s_, .string name, .int .i64 col, .agg #[.bool lo_Has, .bool lo_V_IsStr, .int .i64 lo_V_I, .string lo_V_S], .agg #[.bool hi_Has, .bool hi_V_IsStr, .int .i64 hi_V_I, .string hi_V_S]] w (fun v w' => match v with | .tuple ⟨[.slice r0a r0l r0c, .int .i64 r1]⟩ => K ⟨r0a, r0l, r0c⟩ r1 w' | _ => False) = S.txn_Mgr_Scan g s_ name col lo_Has lo_V_IsStr lo_V_I lo_V_S hi_Has hi_V_IsStr hi_V_I hi_V_S w K := by kernel_rfl
theorem T.CO176 : CallOk Tryz.prog T.C176 := (CallOk.cons 258 T.ok258 (CallOk.cons 265 T.ok265 (CallOk.cons 266 T.ok266 CallOk.nil)))
def T.c176 (vs : List Value) (w : World) (K : Value → World → Prop) : Prop :=
  match vs with
  | [.pointer (some ⟨g, 0, none⟩), .int .i64 s_, .string name, .int .i64 col, .agg ⟨[.bool lo_Has, .bool lo_V_IsStr, .int .i64 lo_V_I, .string lo_V_S]⟩, .agg ⟨[.bool hi_Has, .bool hi_V_IsStr, .int .i64 hi_V_I, .string hi_V_S]⟩] => S.txn_Mgr_Scan g s_ name col lo_Has lo_V_IsStr lo_V_I lo_V_S hi_Has hi_V_IsStr hi_V_I hi_V_S w (fun r0 r1 w' => K (.tuple #[.slice r0.a r0.l r0.c, .int .i64 r1]) w')
  | _ => False
theorem T.ok176 : ∀ vs w K, T.c176 vs w K → (callFunc 176 vs.toArray).run Tryz.prog w = .ok (.enter 176 vs.toArray) w ∧ Calls Tryz.prog 176 vs.toArray w fun e w' => ∃ v, e = .returned v ∧ K v w' := by
  intro vs w K h
  unfold T.c176 at h
  split at h
  · refine ⟨Tryz.call176 _ _, ok_of T.CO176 mixed Tryz.func176 (T.eq176 _ _ _ _ _ _ _ _ _ _ _ _ _ _) h fun v w' hk => ⟨v, rfl, ?_⟩⟩
    split at hk
    · exact hk
    · exact hk.elim
  · exact h.elim

/-- (*e2e/query.Engine).fetch (function 79). -/
def S.query_Engine_fetch (q : Nat) (s_ : Int) (sch_Name : ByteArray) (sch_Cols : Sl) (sch_PK : Int) (sch_Index : Int) (st_Kind : Int) (st_Table : ByteArray) (st_Defs : Sl) (st_PK : Int) (st_Lits : Sl) (st_Star : Bool) (st_List : Sl) (st_Sets : Sl) (st_Where : Sl) (st_Order : ByteArray) (st_Desc : Bool) (st_HasLimit : Bool) (st_Limit : Int) (w : World) (K : Sl → Int → World → Prop) : Prop :=
  New w (.cells #[.string sch_Name, .slice sch_Cols.a sch_Cols.l sch_Cols.c, .int .i64 sch_PK, .int .i64 sch_Index] 73) fun p1 w =>
  New w (.cells #[.int .i64 st_Kind, .string st_Table, .slice st_Defs.a st_Defs.l st_Defs.c, .int .i64 st_PK, .slice st_Lits.a st_Lits.l st_Lits.c, .bool st_Star, .slice st_List.a st_List.l st_List.c, .slice st_Sets.a st_Sets.l st_Sets.c, .slice st_Where.a st_Where.l st_Where.c, .string st_Order, .bool st_Desc, .bool st_HasLimit, .int .i64 st_Limit] 64) fun p2 w =>
  LdStr w ⟨p1, 0, none⟩ fun Name_3 =>
  LdS w ⟨p1, 1, none⟩ fun Cols_4 =>
  LdI .i64 w ⟨p1, 2, none⟩ fun PK_5 =>
  LdI .i64 w ⟨p1, 3, none⟩ fun Index_6 =>
  LdS w ⟨p2, 8, none⟩ fun Where_7 =>
  S.query_PlanOf Name_3 Cols_4 PK_5 Index_6 Where_7 w (fun Kind_8 Col_9 Lo_Has_10 Lo_V_IsStr_11 Lo_V_I_12 Lo_V_S_13 Hi_Has_14 Hi_V_IsStr_15 Hi_V_I_16 Hi_V_S_17 w =>
  New w (.cells #[.int .i64 0, .int .i64 0, .bool false, .bool false, .int .i64 0, .string ⟨#[]⟩, .bool false, .bool false, .int .i64 0, .string ⟨#[]⟩] 235) fun p18 w =>
  St1 w ⟨p18, 0, none⟩ (.int .i64 Kind_8) fun w =>
  St1 w ⟨p18, 1, none⟩ (.int .i64 Col_9) fun w =>
  St1 w ⟨p18, 2, none⟩ (.bool Lo_Has_10) fun w =>
  St1 w ⟨p18, 3, none⟩ (.bool Lo_V_IsStr_11) fun w =>
  St1 w ⟨p18, 4, none⟩ (.int .i64 Lo_V_I_12) fun w =>
  St1 w ⟨p18, 5, none⟩ (.string Lo_V_S_13) fun w =>
  St1 w ⟨p18, 6, none⟩ (.bool Hi_Has_14) fun w =>
  St1 w ⟨p18, 7, none⟩ (.bool Hi_V_IsStr_15) fun w =>
  St1 w ⟨p18, 8, none⟩ (.int .i64 Hi_V_I_16) fun w =>
  St1 w ⟨p18, 9, none⟩ (.string Hi_V_S_17) fun w =>
  LdI .i64 w ⟨p18, 0, none⟩ fun Kind_19 =>
  St1 w ⟨q, 1, none⟩ (.int .i64 Kind_19) fun w =>
  LdI .i64 w ⟨p18, 0, none⟩ fun Kind_20 =>
  Join (fun (rows_21 : Sl) (e_22 : Int) (w : World) =>
    Join (fun (e_23 : Int) (w : World) =>
      Join (fun (hit_24 : Sl) (w : World) =>
        LdI .i64 w ⟨p18, 0, none⟩ fun Kind_25 =>
        Join (fun (w : World) =>
          K hit_24 e_23 w) fun J26 =>
        if (Kind_25 == 3) = true then
          LdI .i64 w ⟨p1, 2, none⟩ fun PK_27 =>
          S.api_SortRows hit_24 PK_27 false w (fun w =>
          J26 w)
        else
          J26 w) fun J28 =>
      LoopP (σ := Sl × Int × Unit) (fun st29 w next30 =>
        if (decide (st29.2.1 < (rows_21.l : Int))) = true then
          Join (fun (hit_31 : Sl) (w : World) =>
            Let (W (st29.2.1 + 1)) fun i_32 =>
            next30 (hit_31, i_32, ()) w) fun J33 =>
          Drew w fun w =>
          LdStr w ⟨p1, 0, none⟩ fun Name_34 =>
          LdS w ⟨p1, 1, none⟩ fun Cols_35 =>
          LdI .i64 w ⟨p1, 2, none⟩ fun PK_36 =>
          LdI .i64 w ⟨p1, 3, none⟩ fun Index_37 =>
          LdS w ⟨p2, 8, none⟩ fun Where_38 =>
          Ix rows_21.a rows_21.l st29.2.1 fun b39 o40 =>
          LdS w ⟨b39, o40 + Int.toNat st29.2.1 * 1, none⟩ fun x_41 =>
          S.query_match Name_34 Cols_35 PK_36 Index_37 Where_38 x_41 w (fun r42 w =>
          if r42 = true then
            Ix rows_21.a rows_21.l st29.2.1 fun b43 o44 =>
            LdS w ⟨b43, o44 + Int.toNat st29.2.1 * 1, none⟩ fun x_45 =>
            New w (.cells #[.slice x_45.a x_45.l x_45.c] 61) fun p46 w =>
            AppS 61 [.slice none 0 0] 24 1 w st29.1 ⟨some ⟨p46, 0, none⟩, 1, 1⟩ fun l47 w =>
            J33 l47 w
          else
            J33 st29.1 w)
        else
          J28 st29.1 w) (⟨none, 0, 0⟩, 0, ()) w) fun J48 =>
    if (e_22 != 0) = true then
      if (e_22 != 21) = true then
        J48 23 w
      else
        J48 e_22 w
    else
      J48 e_22 w) fun J49 =>
  if (Kind_20 == 1) = true then
    Drew w fun w =>
    LdP w ⟨q, 0, none⟩ fun t_50 =>
    LdStr w ⟨p2, 1, none⟩ fun Table_51 =>
    LdB w ⟨p18, 3, none⟩ fun IsStr_52 =>
    LdI .i64 w ⟨p18, 4, none⟩ fun I_53 =>
    LdStr w ⟨p18, 5, none⟩ fun S_54 =>
    S.txn_Mgr_Lookup t_50 s_ Table_51 IsStr_52 I_53 S_54 w (fun r55 r56 w =>
    if (r56 == 0) = true then
      New w (.cells #[.slice r55.a r55.l r55.c] 61) fun p57 w =>
      AppS 61 [.slice none 0 0] 24 1 w ⟨none, 0, 0⟩ ⟨some ⟨p57, 0, none⟩, 1, 1⟩ fun l58 w =>
      J49 l58 0 w
    else
      if (r56 != 9) = true then
        J49 ⟨none, 0, 0⟩ r56 w
      else
        J49 ⟨none, 0, 0⟩ 0 w)
  else
    Drew w fun w =>
    LdP w ⟨q, 0, none⟩ fun t_59 =>
    LdStr w ⟨p2, 1, none⟩ fun Table_60 =>
    LdI .i64 w ⟨p18, 1, none⟩ fun Col_61 =>
    LdB w ⟨p18, 2, none⟩ fun Has_62 =>
    LdB w ⟨p18, 3, none⟩ fun V_IsStr_63 =>
    LdI .i64 w ⟨p18, 4, none⟩ fun V_I_64 =>
    LdStr w ⟨p18, 5, none⟩ fun V_S_65 =>
    LdB w ⟨p18, 6, none⟩ fun Has_66 =>
    LdB w ⟨p18, 7, none⟩ fun V_IsStr_67 =>
    LdI .i64 w ⟨p18, 8, none⟩ fun V_I_68 =>
    LdStr w ⟨p18, 9, none⟩ fun V_S_69 =>
    S.txn_Mgr_Scan t_59 s_ Table_60 Col_61 Has_62 V_IsStr_63 V_I_64 V_S_65 Has_66 V_IsStr_67 V_I_68 V_S_69 w (fun r70 r71 w =>
    J49 r70 r71 w))
def T.C79 : CallT := (CallT.cons 174 T.c174 (CallT.cons 178 T.c178 (CallT.cons 177 T.c177 (CallT.cons 175 T.c175 (CallT.cons 176 T.c176 CallT.nil)))))
def T.A79 : Ann := fun i => bif Nat.beq i 1000009 then some ([], [(6, 5), (7, 5), (10, 5), (11, 6), (12, 6), (13, 0), (15, 0)]) else bif Nat.beq i 15 then some ([6, 7, 10, 11, 13], [(12, 6), (16, 0)]) else bif Nat.beq i 1000011 then some ([], [(0, 5), (1, 0), (6, 5), (7, 5), (10, 5), (12, 6)]) else none
set_option maxRecDepth 1000000 in
theorem T.eq79 (q : Nat) (s_ : Int) (sch_Name : ByteArray) (sch_Cols : Sl) (sch_PK : Int) (sch_Index : Int) (st_Kind : Int) (st_Table : ByteArray) (st_Defs : Sl) (st_PK : Int) (st_Lits : Sl) (st_Star : Bool) (st_List : Sl) (st_Sets : Sl) (st_Where : Sl) (st_Order : ByteArray) (st_Desc : Bool) (st_HasLimit : Bool) (st_Limit : Int) (w : World) (K : Sl → Int → World → Prop) : denF Tryz.prog T.C79 T.A79 Tryz.f79 [.pointer (some ⟨q, 0, none⟩), .int .i64 s_, .agg #[.string sch_Name, .slice sch_Cols.a sch_Cols.l sch_Cols.c, .int .i64 sch_PK, .int .i64 sch_Index], .agg #[.int .i64 st_Kind, .string st_Table, .slice st_Defs.a st_Defs.l st_Defs.c, .int .i64 st_PK, .slice st_Lits.a st_Lits.l st_Lits.c, .bool st_Star, .slice st_List.a st_List.l st_List.c, .slice st_Sets.a st_Sets.l st_Sets.c, .slice st_Where.a st_Where.l st_Where.c, .string st_Order, .bool st_Desc, .bool st_HasLimit, .int .i64 st_Limit]] w (fun v w' => match v with | .tuple ⟨[.slice r0a r0l r0c, .int .i64 r1]⟩ => K ⟨r0a, r0l, r0c⟩ r1 w' | _ => False) = S.query_Engine_fetch q s_ sch_Name sch_Cols sch_PK sch_Index st_Kind st_Table st_Defs st_PK st_Lits st_Star st_List st_Sets st_Where st_Order st_Desc st_HasLimit st_Limit w K := by kernel_rfl
theorem T.CO79 : CallOk Tryz.prog T.C79 := (CallOk.cons 174 T.ok174 (CallOk.cons 178 T.ok178 (CallOk.cons 177 T.ok177 (CallOk.cons 175 T.ok175 (CallOk.cons 176 T.ok176 CallOk.nil)))))
def T.c79 (vs : List Value) (w : World) (K : Value → World → Prop) : Prop :=
  match vs with
  | [.pointer (some ⟨q, 0, none⟩), .int .i64 s_, .agg ⟨[.string sch_Name, .slice sch_Colsa sch_Colsl sch_Colsc, .int .i64 sch_PK, .int .i64 sch_Index]⟩, .agg ⟨[.int .i64 st_Kind, .string st_Table, .slice st_Defsa st_Defsl st_Defsc, .int .i64 st_PK, .slice st_Litsa st_Litsl st_Litsc, .bool st_Star, .slice st_Lista st_Listl st_Listc, .slice st_Setsa st_Setsl st_Setsc, .slice st_Wherea st_Wherel st_Wherec, .string st_Order, .bool st_Desc, .bool st_HasLimit, .int .i64 st_Limit]⟩] => S.query_Engine_fetch q s_ sch_Name ⟨sch_Colsa, sch_Colsl, sch_Colsc⟩ sch_PK sch_Index st_Kind st_Table ⟨st_Defsa, st_Defsl, st_Defsc⟩ st_PK ⟨st_Litsa, st_Litsl, st_Litsc⟩ st_Star ⟨st_Lista, st_Listl, st_Listc⟩ ⟨st_Setsa, st_Setsl, st_Setsc⟩ ⟨st_Wherea, st_Wherel, st_Wherec⟩ st_Order st_Desc st_HasLimit st_Limit w (fun r0 r1 w' => K (.tuple #[.slice r0.a r0.l r0.c, .int .i64 r1]) w')
  | _ => False
theorem T.ok79 : ∀ vs w K, T.c79 vs w K → (callFunc 79 vs.toArray).run Tryz.prog w = .ok (.enter 79 vs.toArray) w ∧ Calls Tryz.prog 79 vs.toArray w fun e w' => ∃ v, e = .returned v ∧ K v w' := by
  intro vs w K h
  unfold T.c79 at h
  split at h
  · refine ⟨Tryz.call79 _ _, ok_of T.CO79 mixed Tryz.func79 (T.eq79 _ _ _ _ _ _ _ _ _ _ _ _ _ _ _ _ _ _ _ _ _) h fun v w' hk => ⟨v, rfl, ?_⟩⟩
    split at hk
    · exact hk
    · exact hk.elim
  · exact h.elim

/-- e2e/query.project (function 80). -/
def S.query_project (sch_Name : ByteArray) (sch_Cols : Sl) (sch_PK : Int) (sch_Index : Int) (st_Kind : Int) (st_Table : ByteArray) (st_Defs : Sl) (st_PK : Int) (st_Lits : Sl) (st_Star : Bool) (st_List : Sl) (st_Sets : Sl) (st_Where : Sl) (st_Order : ByteArray) (st_Desc : Bool) (st_HasLimit : Bool) (st_Limit : Int) (hit : Sl) (w : World) (K : Int → Int → Sl → Sl → World → Prop) : Prop :=
  New w (.cells #[.string sch_Name, .slice sch_Cols.a sch_Cols.l sch_Cols.c, .int .i64 sch_PK, .int .i64 sch_Index] 73) fun p1 w =>
  New w (.cells #[.int .i64 st_Kind, .string st_Table, .slice st_Defs.a st_Defs.l st_Defs.c, .int .i64 st_PK, .slice st_Lits.a st_Lits.l st_Lits.c, .bool st_Star, .slice st_List.a st_List.l st_List.c, .slice st_Sets.a st_Sets.l st_Sets.c, .slice st_Where.a st_Where.l st_Where.c, .string st_Order, .bool st_Desc, .bool st_HasLimit, .int .i64 st_Limit] 64) fun p2 w =>
  New w (.cells #[.int .i64 0, .int .i64 0, .slice none 0 0, .slice none 0 0] 36) fun p3 w =>
  LdStr w ⟨p2, 9, none⟩ fun Order_4 =>
  Join (fun (w : World) =>
    Let (hit.l : Int) fun n_5 =>
    Join (fun (n_6 : Int) (w : World) =>
      LdS w ⟨p2, 6, none⟩ fun List_7 =>
      New w (.cells #[.int .i64 0, .int .i64 0, .slice none 0 0, .slice none 0 0] 36) fun p8 w =>
      St1 w ⟨p8, 0, none⟩ (.int .i64 0) fun w =>
      St1 w ⟨p8, 1, none⟩ (.int .i64 n_6) fun w =>
      St1 w ⟨p8, 2, none⟩ (.slice List_7.a List_7.l List_7.c) fun w =>
      St1 w ⟨p8, 3, none⟩ (.slice none 0 0) fun w =>
      Join (fun (w : World) =>
        LoopP (σ := Int × Unit) (fun st9 w next10 =>
          if (decide (st9.1 < n_6)) = true then
            LdS w ⟨p8, 2, none⟩ fun Cols_11 =>
            MkS 167 [.bool false, .int .i64 0, .string ⟨#[]⟩] 32 w (Cols_11.l : Int) (Cols_11.l : Int) fun l12 w =>
            Join (fun (w : World) =>
              LdS w ⟨p8, 3, none⟩ fun Rows_13 =>
              New w (.cells #[.slice l12.a l12.l l12.c] 61) fun p14 w =>
              AppS 61 [.slice none 0 0] 24 1 w Rows_13 ⟨some ⟨p14, 0, none⟩, 1, 1⟩ fun l15 w =>
              St1 w ⟨p8, 3, none⟩ (.slice l15.a l15.l l15.c) fun w =>
              Let (W (st9.1 + 1)) fun i_16 =>
              next10 (i_16, ()) w) fun J17 =>
            LoopP (σ := Int × Unit) (fun st18 w next19 =>
              LdS w ⟨p8, 2, none⟩ fun Cols_20 =>
              if (decide (st18.1 < (Cols_20.l : Int))) = true then
                Drew w fun w =>
                Ix hit.a hit.l st9.1 fun b21 o22 =>
                Hold w ⟨b21, o22 + Int.toNat st9.1 * 1, none⟩ 1 fun R23 =>
                LdS w ⟨b21, o22 + Int.toNat st9.1 * 1, none⟩ fun x_24 =>
                LdStr w ⟨p1, 0, none⟩ fun Name_25 =>
                LdS w ⟨p1, 1, none⟩ fun Cols_26 =>
                LdI .i64 w ⟨p1, 2, none⟩ fun PK_27 =>
                LdI .i64 w ⟨p1, 3, none⟩ fun Index_28 =>
                LdS w ⟨p8, 2, none⟩ fun Cols_29 =>
                Ix Cols_29.a Cols_29.l st18.1 fun b30 o31 =>
                LdStr w ⟨b30, o31 + Int.toNat st18.1 * 1, none⟩ fun x_32 =>
                S.query_ColOf Name_25 Cols_26 PK_27 Index_28 x_32 w (fun r33 w =>
                After R23 w <|
                Ix x_24.a x_24.l r33 fun b34 o35 =>
                LdB w ⟨b34, o35 + Int.toNat r33 * 3, none⟩ fun IsStr_36 =>
                LdI .i64 w ⟨b34, o35 + Int.toNat r33 * 3 + 1, none⟩ fun I_37 =>
                LdStr w ⟨b34, o35 + Int.toNat r33 * 3 + 2, none⟩ fun S_38 =>
                Ix l12.a l12.l st18.1 fun b39 o40 =>
                St1 w ⟨b39, o40 + Int.toNat st18.1 * 3, none⟩ (.bool IsStr_36) fun w =>
                St1 w ⟨b39, o40 + Int.toNat st18.1 * 3 + 1, none⟩ (.int .i64 I_37) fun w =>
                St1 w ⟨b39, o40 + Int.toNat st18.1 * 3 + 2, none⟩ (.string S_38) fun w =>
                Let (W (st18.1 + 1)) fun j_41 =>
                next19 (j_41, ()) w)
              else
                J17 w) (0, ()) w
          else
            LdI .i64 w ⟨p8, 0, none⟩ fun Err_42 =>
            LdI .i64 w ⟨p8, 1, none⟩ fun N_43 =>
            LdS w ⟨p8, 2, none⟩ fun Cols_44 =>
            LdS w ⟨p8, 3, none⟩ fun Rows_45 =>
            St1 w ⟨p3, 0, none⟩ (.int .i64 Err_42) fun w =>
            St1 w ⟨p3, 1, none⟩ (.int .i64 N_43) fun w =>
            St1 w ⟨p3, 2, none⟩ (.slice Cols_44.a Cols_44.l Cols_44.c) fun w =>
            St1 w ⟨p3, 3, none⟩ (.slice Rows_45.a Rows_45.l Rows_45.c) fun w =>
            LdI .i64 w ⟨p3, 0, none⟩ fun Err_46 =>
            LdI .i64 w ⟨p3, 1, none⟩ fun N_47 =>
            LdS w ⟨p3, 2, none⟩ fun Cols_48 =>
            LdS w ⟨p3, 3, none⟩ fun Rows_49 =>
            K Err_46 N_47 Cols_48 Rows_49 w) (0, ()) w) fun J50 =>
      LoopP (σ := Int × Unit) (fun st51 w next52 =>
        LdB w ⟨p2, 5, none⟩ fun Star_53 =>
        if Star_53 = true then
          LdS w ⟨p1, 1, none⟩ fun Cols_54 =>
          if (decide (st51.1 < (Cols_54.l : Int))) = true then
            Drew w fun w =>
            Hold w ⟨p8, 2, none⟩ 1 fun R55 =>
            LdS w ⟨p8, 2, none⟩ fun Cols_56 =>
            LdS w ⟨p1, 1, none⟩ fun Cols_57 =>
            Ix Cols_57.a Cols_57.l st51.1 fun b58 o59 =>
            LdStr w ⟨b58, o59 + Int.toNat st51.1 * 2, none⟩ fun Name_60 =>
            New w (.cells #[.string Name_60] 9) fun p61 w =>
            After R55 w <|
            AppS 9 [.string ⟨#[]⟩] 16 1 w Cols_56 ⟨some ⟨p61, 0, none⟩, 1, 1⟩ fun l62 w =>
            St1 w ⟨p8, 2, none⟩ (.slice l62.a l62.l l62.c) fun w =>
            Let (W (st51.1 + 1)) fun c_63 =>
            next52 (c_63, ()) w
          else
            J50 w
        else
          J50 w) (0, ()) w) fun J64 =>
    LdB w ⟨p2, 11, none⟩ fun HasLimit_65 =>
    if HasLimit_65 = true then
      LdI .i64 w ⟨p2, 12, none⟩ fun Limit_66 =>
      if (decide (Limit_66 < n_5)) = true then
        LdI .i64 w ⟨p2, 12, none⟩ fun Limit_67 =>
        if (decide (Limit_67 < 0)) = true then
          J64 0 w
        else
          J64 Limit_67 w
      else
        J64 n_5 w
    else
      J64 n_5 w) fun J68 =>
  if (!(Order_4.toList == (⟨#[]⟩ : ByteArray).toList)) = true then
    LdStr w ⟨p1, 0, none⟩ fun Name_69 =>
    LdS w ⟨p1, 1, none⟩ fun Cols_70 =>
    LdI .i64 w ⟨p1, 2, none⟩ fun PK_71 =>
    LdI .i64 w ⟨p1, 3, none⟩ fun Index_72 =>
    LdStr w ⟨p2, 9, none⟩ fun Order_73 =>
    S.query_ColOf Name_69 Cols_70 PK_71 Index_72 Order_73 w (fun r74 w =>
    LdB w ⟨p2, 10, none⟩ fun Desc_75 =>
    S.api_SortRows hit r74 Desc_75 w (fun w =>
    J68 w))
  else
    J68 w
def T.C80 : CallT := (CallT.cons 31 T.c31 (CallT.cons 178 T.c178 CallT.nil))
def T.A80 : Ann := fun i => bif Nat.beq i 11 then some ([2, 3, 4, 6, 8, 9], [(10, 0)]) else bif Nat.beq i 19 then some ([2, 3, 6, 8, 9, 11, 12], [(13, 0)]) else bif Nat.beq i 15 then some ([2, 3, 6, 8, 9], [(11, 0)]) else none
set_option maxRecDepth 1000000 in
theorem T.eq80 (sch_Name : ByteArray) (sch_Cols : Sl) (sch_PK : Int) (sch_Index : Int) (st_Kind : Int) (st_Table : ByteArray) (st_Defs : Sl) (st_PK : Int) (st_Lits : Sl) (st_Star : Bool) (st_List : Sl) (st_Sets : Sl) (st_Where : Sl) (st_Order : ByteArray) (st_Desc : Bool) (st_HasLimit : Bool) (st_Limit : Int) (hit : Sl) (w : World) (K : Int → Int → Sl → Sl → World → Prop) : denF Tryz.prog T.C80 T.A80 Tryz.f80 [.agg #[.string sch_Name, .slice sch_Cols.a sch_Cols.l sch_Cols.c, .int .i64 sch_PK, .int .i64 sch_Index], .agg #[.int .i64 st_Kind, .string st_Table, .slice st_Defs.a st_Defs.l st_Defs.c, .int .i64 st_PK, .slice st_Lits.a st_Lits.l st_Lits.c, .bool st_Star, .slice st_List.a st_List.l st_List.c, .slice st_Sets.a st_Sets.l st_Sets.c, .slice st_Where.a st_Where.l st_Where.c, .string st_Order, .bool st_Desc, .bool st_HasLimit, .int .i64 st_Limit], .slice hit.a hit.l hit.c] w (fun v w' => match v with | .agg ⟨[.int .i64 r0, .int .i64 r1, .slice r2a r2l r2c, .slice r3a r3l r3c]⟩ => K r0 r1 ⟨r2a, r2l, r2c⟩ ⟨r3a, r3l, r3c⟩ w' | _ => False) = S.query_project sch_Name sch_Cols sch_PK sch_Index st_Kind st_Table st_Defs st_PK st_Lits st_Star st_List st_Sets st_Where st_Order st_Desc st_HasLimit st_Limit hit w K := by kernel_rfl
theorem T.CO80 : CallOk Tryz.prog T.C80 := (CallOk.cons 31 T.ok31 (CallOk.cons 178 T.ok178 CallOk.nil))
def T.c80 (vs : List Value) (w : World) (K : Value → World → Prop) : Prop :=
  match vs with
  | [.agg ⟨[.string sch_Name, .slice sch_Colsa sch_Colsl sch_Colsc, .int .i64 sch_PK, .int .i64 sch_Index]⟩, .agg ⟨[.int .i64 st_Kind, .string st_Table, .slice st_Defsa st_Defsl st_Defsc, .int .i64 st_PK, .slice st_Litsa st_Litsl st_Litsc, .bool st_Star, .slice st_Lista st_Listl st_Listc, .slice st_Setsa st_Setsl st_Setsc, .slice st_Wherea st_Wherel st_Wherec, .string st_Order, .bool st_Desc, .bool st_HasLimit, .int .i64 st_Limit]⟩, .slice hita hitl hitc] => S.query_project sch_Name ⟨sch_Colsa, sch_Colsl, sch_Colsc⟩ sch_PK sch_Index st_Kind st_Table ⟨st_Defsa, st_Defsl, st_Defsc⟩ st_PK ⟨st_Litsa, st_Litsl, st_Litsc⟩ st_Star ⟨st_Lista, st_Listl, st_Listc⟩ ⟨st_Setsa, st_Setsl, st_Setsc⟩ ⟨st_Wherea, st_Wherel, st_Wherec⟩ st_Order st_Desc st_HasLimit st_Limit ⟨hita, hitl, hitc⟩ w (fun r0 r1 r2 r3 w' => K (.agg #[.int .i64 r0, .int .i64 r1, .slice r2.a r2.l r2.c, .slice r3.a r3.l r3.c]) w')
  | _ => False
theorem T.ok80 : ∀ vs w K, T.c80 vs w K → (callFunc 80 vs.toArray).run Tryz.prog w = .ok (.enter 80 vs.toArray) w ∧ Calls Tryz.prog 80 vs.toArray w fun e w' => ∃ v, e = .returned v ∧ K v w' := by
  intro vs w K h
  unfold T.c80 at h
  split at h
  · refine ⟨Tryz.call80 _ _, ok_of T.CO80 mixed Tryz.func80 (T.eq80 _ _ _ _ _ _ _ _ _ _ _ _ _ _ _ _ _ _ _ _) h fun v w' hk => ⟨v, rfl, ?_⟩⟩
    split at hk
    · exact hk
    · exact hk.elim
  · exact h.elim

/-- (*e2e/txn.Mgr).drop (function 268). -/
def S.txn_Mgr_drop (g : Nat) (s_ : Int) (tab : ByteArray) (key_IsStr : Bool) (key_I : Int) (key_S : ByteArray) (w : World) (K : World → Prop) : Prop :=
  New w (.cells #[.bool key_IsStr, .int .i64 key_I, .string key_S] 167) fun p1 w =>
  LdB w ⟨p1, 0, none⟩ fun IsStr_2 =>
  LdI .i64 w ⟨p1, 1, none⟩ fun I_3 =>
  LdStr w ⟨p1, 2, none⟩ fun S_4 =>
  S.txn_Mgr_find g s_ tab IsStr_2 I_3 S_4 w (fun r5 r6 w =>
  if r6 = true then
    Join (fun (w : World) =>
      Drew w fun w =>
      IxA 4 s_ <|
      LdS w ⟨g, 23 + Int.toNat s_ * 1, none⟩ fun ws_7 =>
      IxA 4 s_ <|
      LdS w ⟨g, 23 + Int.toNat s_ * 1, none⟩ fun ws_8 =>
      CutS 6 ws_7 0 (W ((ws_8.l : Int) - 1)) (ws_7.c : Int) fun l9 =>
      IxA 4 s_ <|
      St1 w ⟨g, 23 + Int.toNat s_ * 1, none⟩ (.slice l9.a l9.l l9.c) fun w =>
      K w) fun J10 =>
    LoopP (σ := Int × Unit) (fun st11 w next12 =>
      IxA 4 s_ <|
      LdS w ⟨g, 23 + Int.toNat s_ * 1, none⟩ fun ws_13 =>
      if (decide ((W (st11.1 + 1)) < (ws_13.l : Int))) = true then
        Drew w fun w =>
        IxA 4 s_ <|
        LdS w ⟨g, 23 + Int.toNat s_ * 1, none⟩ fun ws_14 =>
        IxA 4 s_ <|
        LdS w ⟨g, 23 + Int.toNat s_ * 1, none⟩ fun ws_15 =>
        Ix ws_15.a ws_15.l (W (st11.1 + 1)) fun b16 o17 =>
        LdStr w ⟨b16, o17 + Int.toNat (W (st11.1 + 1)) * 6, none⟩ fun tab_18 =>
        LdB w ⟨b16, o17 + Int.toNat (W (st11.1 + 1)) * 6 + 1, none⟩ fun key_IsStr_19 =>
        LdI .i64 w ⟨b16, o17 + Int.toNat (W (st11.1 + 1)) * 6 + 2, none⟩ fun key_I_20 =>
        LdStr w ⟨b16, o17 + Int.toNat (W (st11.1 + 1)) * 6 + 3, none⟩ fun key_S_21 =>
        LdB w ⟨b16, o17 + Int.toNat (W (st11.1 + 1)) * 6 + 4, none⟩ fun gone_22 =>
        LdS w ⟨b16, o17 + Int.toNat (W (st11.1 + 1)) * 6 + 5, none⟩ fun row_23 =>
        Ix ws_14.a ws_14.l st11.1 fun b24 o25 =>
        St1 w ⟨b24, o25 + Int.toNat st11.1 * 6, none⟩ (.string tab_18) fun w =>
        St1 w ⟨b24, o25 + Int.toNat st11.1 * 6 + 1, none⟩ (.bool key_IsStr_19) fun w =>
        St1 w ⟨b24, o25 + Int.toNat st11.1 * 6 + 2, none⟩ (.int .i64 key_I_20) fun w =>
        St1 w ⟨b24, o25 + Int.toNat st11.1 * 6 + 3, none⟩ (.string key_S_21) fun w =>
        St1 w ⟨b24, o25 + Int.toNat st11.1 * 6 + 4, none⟩ (.bool gone_22) fun w =>
        St1 w ⟨b24, o25 + Int.toNat st11.1 * 6 + 5, none⟩ (.slice row_23.a row_23.l row_23.c) fun w =>
        Let (W (st11.1 + 1)) fun j_26 =>
        next12 (j_26, ()) w
      else
        J10 w) (r5, ()) w
  else
    K w)
def T.C268 : CallT := (CallT.cons 264 T.c264 CallT.nil)
def T.A268 : Ann := fun i => bif Nat.beq i 4 then some ([0, 1], [(10, 0)]) else none
set_option maxRecDepth 1000000 in
theorem T.eq268 (g : Nat) (s_ : Int) (tab : ByteArray) (key_IsStr : Bool) (key_I : Int) (key_S : ByteArray) (w : World) (K : World → Prop) : denF Tryz.prog T.C268 T.A268 Tryz.f268 [.pointer (some ⟨g, 0, none⟩), .int .i64 s_, .string tab, .agg #[.bool key_IsStr, .int .i64 key_I, .string key_S]] w (fun v w' => match v with | .tuple ⟨[]⟩ => K w' | _ => False) = S.txn_Mgr_drop g s_ tab key_IsStr key_I key_S w K := by kernel_rfl
theorem T.CO268 : CallOk Tryz.prog T.C268 := (CallOk.cons 264 T.ok264 CallOk.nil)
def T.c268 (vs : List Value) (w : World) (K : Value → World → Prop) : Prop :=
  match vs with
  | [.pointer (some ⟨g, 0, none⟩), .int .i64 s_, .string tab, .agg ⟨[.bool key_IsStr, .int .i64 key_I, .string key_S]⟩] => S.txn_Mgr_drop g s_ tab key_IsStr key_I key_S w (fun w' => K (.tuple #[]) w')
  | _ => False
theorem T.ok268 : ∀ vs w K, T.c268 vs w K → (callFunc 268 vs.toArray).run Tryz.prog w = .ok (.enter 268 vs.toArray) w ∧ Calls Tryz.prog 268 vs.toArray w fun e w' => ∃ v, e = .returned v ∧ K v w' := by
  intro vs w K h
  unfold T.c268 at h
  split at h
  · refine ⟨Tryz.call268 _ _, ok_of T.CO268 mixed Tryz.func268 (T.eq268 _ _ _ _ _ _ _ _) h fun v w' hk => ⟨v, rfl, ?_⟩⟩
    split at hk
    · exact hk
    · exact hk.elim
  · exact h.elim

/-- (*e2e/txn.Mgr).Delete (function 179). -/
def S.txn_Mgr_Delete (g : Nat) (s_ : Int) (name : ByteArray) (key_IsStr : Bool) (key_I : Int) (key_S : ByteArray) (w : World) (K : Int → World → Prop) : Prop :=
  New w (.cells #[.bool key_IsStr, .int .i64 key_I, .string key_S] 167) fun p1 w =>
  S.txn_Mgr_take g s_ name 2 w (fun Name_2 Cols_3 PK_4 Index_5 r6 w =>
  New w (.cells #[.string ⟨#[]⟩, .slice none 0 0, .int .i64 0, .int .i64 0] 73) fun p7 w =>
  St1 w ⟨p7, 0, none⟩ (.string Name_2) fun w =>
  St1 w ⟨p7, 1, none⟩ (.slice Cols_3.a Cols_3.l Cols_3.c) fun w =>
  St1 w ⟨p7, 2, none⟩ (.int .i64 PK_4) fun w =>
  St1 w ⟨p7, 3, none⟩ (.int .i64 Index_5) fun w =>
  Join (fun (e_8 : Int) (w : World) =>
    if (e_8 != 0) = true then
      K e_8 w
    else
      LdB w ⟨p1, 0, none⟩ fun IsStr_9 =>
      LdI .i64 w ⟨p1, 1, none⟩ fun I_10 =>
      LdStr w ⟨p1, 2, none⟩ fun S_11 =>
      S.txn_Mgr_has g s_ name IsStr_9 I_10 S_11 w (fun r12 w =>
      if (!r12) = true then
        K 9 w
      else
        LdB w ⟨p1, 0, none⟩ fun IsStr_13 =>
        LdI .i64 w ⟨p1, 1, none⟩ fun I_14 =>
        LdStr w ⟨p1, 2, none⟩ fun S_15 =>
        S.txn_Mgr_below g name IsStr_13 I_14 S_15 w (fun r16 w =>
        if r16 = true then
          LdB w ⟨p1, 0, none⟩ fun IsStr_17 =>
          LdI .i64 w ⟨p1, 1, none⟩ fun I_18 =>
          LdStr w ⟨p1, 2, none⟩ fun S_19 =>
          S.txn_Mgr_put g s_ name IsStr_17 I_18 S_19 true ⟨none, 0, 0⟩ w (fun w =>
          K 0 w)
        else
          LdB w ⟨p1, 0, none⟩ fun IsStr_20 =>
          LdI .i64 w ⟨p1, 1, none⟩ fun I_21 =>
          LdStr w ⟨p1, 2, none⟩ fun S_22 =>
          S.txn_Mgr_drop g s_ name IsStr_20 I_21 S_22 w (fun w =>
          K 0 w)))) fun J23 =>
  if (r6 == 0) = true then
    LdStr w ⟨p7, 0, none⟩ fun Name_24 =>
    LdS w ⟨p7, 1, none⟩ fun Cols_25 =>
    LdI .i64 w ⟨p7, 2, none⟩ fun PK_26 =>
    LdI .i64 w ⟨p7, 3, none⟩ fun Index_27 =>
    LdI .i64 w ⟨p7, 2, none⟩ fun PK_28 =>
    LdB w ⟨p1, 0, none⟩ fun IsStr_29 =>
    LdI .i64 w ⟨p1, 1, none⟩ fun I_30 =>
    LdStr w ⟨p1, 2, none⟩ fun S_31 =>
    S.api_CheckVal Name_24 Cols_25 PK_26 Index_27 PK_28 IsStr_29 I_30 S_31 w (fun r32 w =>
    J23 r32 w)
  else
    J23 r6 w)
def T.C179 : CallT := (CallT.cons 258 T.c258 (CallT.cons 260 T.c260 (CallT.cons 150 T.c150 (CallT.cons 262 T.c262 (CallT.cons 268 T.c268 (CallT.cons 231 T.c231 CallT.nil))))))
def T.A179 : Ann := fun i => bif Nat.beq i 1000010 then some ([], [(0, 5), (1, 0), (2, 4), (7, 5)]) else none
set_option maxRecDepth 1000000 in
theorem T.eq179 (g : Nat) (s_ : Int) (name : ByteArray) (key_IsStr : Bool) (key_I : Int) (key_S : ByteArray) (w : World) (K : Int → World → Prop) : denF Tryz.prog T.C179 T.A179 Tryz.f179 [.pointer (some ⟨g, 0, none⟩), .int .i64 s_, .string name, .agg #[.bool key_IsStr, .int .i64 key_I, .string key_S]] w (fun v w' => match v with | .int .i64 r0 => K r0 w' | _ => False) = S.txn_Mgr_Delete g s_ name key_IsStr key_I key_S w K := by kernel_rfl
theorem T.CO179 : CallOk Tryz.prog T.C179 := (CallOk.cons 258 T.ok258 (CallOk.cons 260 T.ok260 (CallOk.cons 150 T.ok150 (CallOk.cons 262 T.ok262 (CallOk.cons 268 T.ok268 (CallOk.cons 231 T.ok231 CallOk.nil))))))
def T.c179 (vs : List Value) (w : World) (K : Value → World → Prop) : Prop :=
  match vs with
  | [.pointer (some ⟨g, 0, none⟩), .int .i64 s_, .string name, .agg ⟨[.bool key_IsStr, .int .i64 key_I, .string key_S]⟩] => S.txn_Mgr_Delete g s_ name key_IsStr key_I key_S w (fun r0 w' => K (.int .i64 r0) w')
  | _ => False
theorem T.ok179 : ∀ vs w K, T.c179 vs w K → (callFunc 179 vs.toArray).run Tryz.prog w = .ok (.enter 179 vs.toArray) w ∧ Calls Tryz.prog 179 vs.toArray w fun e w' => ∃ v, e = .returned v ∧ K v w' := by
  intro vs w K h
  unfold T.c179 at h
  split at h
  · refine ⟨Tryz.call179 _ _, ok_of T.CO179 mixed Tryz.func179 (T.eq179 _ _ _ _ _ _ _ _) h fun v w' hk => ⟨v, rfl, ?_⟩⟩
    split at hk
    · exact hk
    · exact hk.elim
  · exact h.elim

/-- (*e2e/txn.Mgr).Update (function 180). -/
def S.txn_Mgr_Update (g : Nat) (s_ : Int) (name : ByteArray) (row : Sl) (w : World) (K : Int → World → Prop) : Prop :=
  S.txn_Mgr_write g s_ name row false w (fun r1 w =>
  K r1 w)
def T.C180 : CallT := (CallT.cons 173 T.c173 CallT.nil)
def T.A180 : Ann := fun _ => none
set_option maxRecDepth 1000000 in
theorem T.eq180 (g : Nat) (s_ : Int) (name : ByteArray) (row : Sl) (w : World) (K : Int → World → Prop) : denF Tryz.prog T.C180 T.A180 Tryz.f180 [.pointer (some ⟨g, 0, none⟩), .int .i64 s_, .string name, .slice row.a row.l row.c] w (fun v w' => match v with | .int .i64 r0 => K r0 w' | _ => False) = S.txn_Mgr_Update g s_ name row w K := by kernel_rfl
theorem T.CO180 : CallOk Tryz.prog T.C180 := (CallOk.cons 173 T.ok173 CallOk.nil)
def T.c180 (vs : List Value) (w : World) (K : Value → World → Prop) : Prop :=
  match vs with
  | [.pointer (some ⟨g, 0, none⟩), .int .i64 s_, .string name, .slice rowa rowl rowc] => S.txn_Mgr_Update g s_ name ⟨rowa, rowl, rowc⟩ w (fun r0 w' => K (.int .i64 r0) w')
  | _ => False
theorem T.ok180 : ∀ vs w K, T.c180 vs w K → (callFunc 180 vs.toArray).run Tryz.prog w = .ok (.enter 180 vs.toArray) w ∧ Calls Tryz.prog 180 vs.toArray w fun e w' => ∃ v, e = .returned v ∧ K v w' := by
  intro vs w K h
  unfold T.c180 at h
  split at h
  · refine ⟨Tryz.call180 _ _, ok_of T.CO180 mixed Tryz.func180 (T.eq180 _ _ _ _ _ _) h fun v w' hk => ⟨v, rfl, ?_⟩⟩
    split at hk
    · exact hk
    · exact hk.elim
  · exact h.elim

/-- (*e2e/query.Engine).change (function 81). -/
def S.query_Engine_change (q : Nat) (s_ : Int) (sch_Name : ByteArray) (sch_Cols : Sl) (sch_PK : Int) (sch_Index : Int) (st_Kind : Int) (st_Table : ByteArray) (st_Defs : Sl) (st_PK : Int) (st_Lits : Sl) (st_Star : Bool) (st_List : Sl) (st_Sets : Sl) (st_Where : Sl) (st_Order : ByteArray) (st_Desc : Bool) (st_HasLimit : Bool) (st_Limit : Int) (hit : Sl) (w : World) (K : Int → Int → Sl → Sl → World → Prop) : Prop :=
  New w (.cells #[.string sch_Name, .slice sch_Cols.a sch_Cols.l sch_Cols.c, .int .i64 sch_PK, .int .i64 sch_Index] 73) fun p1 w =>
  New w (.cells #[.int .i64 st_Kind, .string st_Table, .slice st_Defs.a st_Defs.l st_Defs.c, .int .i64 st_PK, .slice st_Lits.a st_Lits.l st_Lits.c, .bool st_Star, .slice st_List.a st_List.l st_List.c, .slice st_Sets.a st_Sets.l st_Sets.c, .slice st_Where.a st_Where.l st_Where.c, .string st_Order, .bool st_Desc, .bool st_HasLimit, .int .i64 st_Limit] 64) fun p2 w =>
  New w (.cells #[.int .i64 0, .int .i64 0, .slice none 0 0, .slice none 0 0] 36) fun p3 w =>
  Join (fun (w : World) =>
    St1 w ⟨p3, 0, none⟩ (.int .i64 0) fun w =>
    St1 w ⟨p3, 1, none⟩ (.int .i64 (hit.l : Int)) fun w =>
    St1 w ⟨p3, 2, none⟩ (.slice none 0 0) fun w =>
    St1 w ⟨p3, 3, none⟩ (.slice none 0 0) fun w =>
    LdI .i64 w ⟨p3, 0, none⟩ fun Err_4 =>
    LdI .i64 w ⟨p3, 1, none⟩ fun N_5 =>
    LdS w ⟨p3, 2, none⟩ fun Cols_6 =>
    LdS w ⟨p3, 3, none⟩ fun Rows_7 =>
    K Err_4 N_5 Cols_6 Rows_7 w) fun J8 =>
  LoopP (σ := Int × Unit) (fun st9 w next10 =>
    if (decide (st9.1 < (hit.l : Int))) = true then
      LdI .i64 w ⟨p2, 0, none⟩ fun Kind_11 =>
      Join (fun (e_12 : Int) (w : World) =>
        Join (fun (w : World) =>
          if (e_12 != 0) = true then
            S.query_fail 23 w (fun Err_13 N_14 Cols_15 Rows_16 w =>
            St1 w ⟨p3, 0, none⟩ (.int .i64 Err_13) fun w =>
            St1 w ⟨p3, 1, none⟩ (.int .i64 N_14) fun w =>
            St1 w ⟨p3, 2, none⟩ (.slice Cols_15.a Cols_15.l Cols_15.c) fun w =>
            St1 w ⟨p3, 3, none⟩ (.slice Rows_16.a Rows_16.l Rows_16.c) fun w =>
            LdI .i64 w ⟨p3, 0, none⟩ fun Err_17 =>
            LdI .i64 w ⟨p3, 1, none⟩ fun N_18 =>
            LdS w ⟨p3, 2, none⟩ fun Cols_19 =>
            LdS w ⟨p3, 3, none⟩ fun Rows_20 =>
            K Err_17 N_18 Cols_19 Rows_20 w)
          else
            Let (W (st9.1 + 1)) fun i_21 =>
            next10 (i_21, ()) w) fun J22 =>
        if (e_12 == 21) = true then
          if (st9.1 == 0) = true then
            S.query_fail e_12 w (fun Err_23 N_24 Cols_25 Rows_26 w =>
            St1 w ⟨p3, 0, none⟩ (.int .i64 Err_23) fun w =>
            St1 w ⟨p3, 1, none⟩ (.int .i64 N_24) fun w =>
            St1 w ⟨p3, 2, none⟩ (.slice Cols_25.a Cols_25.l Cols_25.c) fun w =>
            St1 w ⟨p3, 3, none⟩ (.slice Rows_26.a Rows_26.l Rows_26.c) fun w =>
            LdI .i64 w ⟨p3, 0, none⟩ fun Err_27 =>
            LdI .i64 w ⟨p3, 1, none⟩ fun N_28 =>
            LdS w ⟨p3, 2, none⟩ fun Cols_29 =>
            LdS w ⟨p3, 3, none⟩ fun Rows_30 =>
            K Err_27 N_28 Cols_29 Rows_30 w)
          else
            J22 w
        else
          J22 w) fun J31 =>
      if (Kind_11 == 10) = true then
        Drew w fun w =>
        LdP w ⟨q, 0, none⟩ fun t_32 =>
        LdStr w ⟨p2, 1, none⟩ fun Table_33 =>
        Ix hit.a hit.l st9.1 fun b34 o35 =>
        LdS w ⟨b34, o35 + Int.toNat st9.1 * 1, none⟩ fun x_36 =>
        LdI .i64 w ⟨p1, 2, none⟩ fun PK_37 =>
        Ix x_36.a x_36.l PK_37 fun b38 o39 =>
        LdB w ⟨b38, o39 + Int.toNat PK_37 * 3, none⟩ fun IsStr_40 =>
        LdI .i64 w ⟨b38, o39 + Int.toNat PK_37 * 3 + 1, none⟩ fun I_41 =>
        LdStr w ⟨b38, o39 + Int.toNat PK_37 * 3 + 2, none⟩ fun S_42 =>
        S.txn_Mgr_Delete t_32 s_ Table_33 IsStr_40 I_41 S_42 w (fun r43 w =>
        J31 r43 w)
      else
        Join (fun (w : World) =>
          Drew w fun w =>
          LdP w ⟨q, 0, none⟩ fun t_44 =>
          LdStr w ⟨p2, 1, none⟩ fun Table_45 =>
          Ix hit.a hit.l st9.1 fun b46 o47 =>
          LdS w ⟨b46, o47 + Int.toNat st9.1 * 1, none⟩ fun x_48 =>
          S.txn_Mgr_Update t_44 s_ Table_45 x_48 w (fun r49 w =>
          J31 r49 w)) fun J50 =>
        LoopP (σ := Int × Unit) (fun st51 w next52 =>
          LdS w ⟨p2, 7, none⟩ fun Sets_53 =>
          if (decide (st51.1 < (Sets_53.l : Int))) = true then
            Drew w fun w =>
            Ix hit.a hit.l st9.1 fun b54 o55 =>
            Hold w ⟨b54, o55 + Int.toNat st9.1 * 1, none⟩ 1 fun R56 =>
            LdS w ⟨b54, o55 + Int.toNat st9.1 * 1, none⟩ fun x_57 =>
            LdStr w ⟨p1, 0, none⟩ fun Name_58 =>
            LdS w ⟨p1, 1, none⟩ fun Cols_59 =>
            LdI .i64 w ⟨p1, 2, none⟩ fun PK_60 =>
            LdI .i64 w ⟨p1, 3, none⟩ fun Index_61 =>
            LdS w ⟨p2, 7, none⟩ fun Sets_62 =>
            Ix Sets_62.a Sets_62.l st51.1 fun b63 o64 =>
            LdStr w ⟨b63, o64 + Int.toNat st51.1 * 5, none⟩ fun Col_65 =>
            Hold w ⟨p2, 7, none⟩ 1 fun R66 =>
            LdS w ⟨p2, 7, none⟩ fun Sets_67 =>
            Ix Sets_67.a Sets_67.l st51.1 fun b68 o69 =>
            Hold w ⟨b68, o69 + Int.toNat st51.1 * 5 + 2, none⟩ 3 fun R70 =>
            LdB w ⟨b68, o69 + Int.toNat st51.1 * 5 + 2, none⟩ fun IsStr_71 =>
            LdI .i64 w ⟨b68, o69 + Int.toNat st51.1 * 5 + 2 + 1, none⟩ fun I_72 =>
            LdStr w ⟨b68, o69 + Int.toNat st51.1 * 5 + 2 + 2, none⟩ fun S_73 =>
            S.query_ColOf Name_58 Cols_59 PK_60 Index_61 Col_65 w (fun r74 w =>
            After R70 w <|
            After R66 w <|
            After R56 w <|
            Ix x_57.a x_57.l r74 fun b75 o76 =>
            St1 w ⟨b75, o76 + Int.toNat r74 * 3, none⟩ (.bool IsStr_71) fun w =>
            St1 w ⟨b75, o76 + Int.toNat r74 * 3 + 1, none⟩ (.int .i64 I_72) fun w =>
            St1 w ⟨b75, o76 + Int.toNat r74 * 3 + 2, none⟩ (.string S_73) fun w =>
            Let (W (st51.1 + 1)) fun j_77 =>
            next52 (j_77, ()) w)
          else
            J50 w) (0, ()) w
    else
      J8 w) (0, ()) w
def T.C81 : CallT := (CallT.cons 22 T.c22 (CallT.cons 179 T.c179 (CallT.cons 180 T.c180 (CallT.cons 31 T.c31 CallT.nil))))
def T.A81 : Ann := fun i => bif Nat.beq i 8 then some ([0, 1, 4, 7, 8, 10, 11], [(13, 0)]) else bif Nat.beq i 1000007 then some ([], [(0, 5), (1, 0), (4, 6), (7, 5), (8, 5), (10, 5), (11, 0)]) else bif Nat.beq i 2 then some ([0, 1, 4, 7, 8, 10], [(11, 0)]) else none
set_option maxRecDepth 1000000 in
theorem T.eq81 (q : Nat) (s_ : Int) (sch_Name : ByteArray) (sch_Cols : Sl) (sch_PK : Int) (sch_Index : Int) (st_Kind : Int) (st_Table : ByteArray) (st_Defs : Sl) (st_PK : Int) (st_Lits : Sl) (st_Star : Bool) (st_List : Sl) (st_Sets : Sl) (st_Where : Sl) (st_Order : ByteArray) (st_Desc : Bool) (st_HasLimit : Bool) (st_Limit : Int) (hit : Sl) (w : World) (K : Int → Int → Sl → Sl → World → Prop) : denF Tryz.prog T.C81 T.A81 Tryz.f81 [.pointer (some ⟨q, 0, none⟩), .int .i64 s_, .agg #[.string sch_Name, .slice sch_Cols.a sch_Cols.l sch_Cols.c, .int .i64 sch_PK, .int .i64 sch_Index], .agg #[.int .i64 st_Kind, .string st_Table, .slice st_Defs.a st_Defs.l st_Defs.c, .int .i64 st_PK, .slice st_Lits.a st_Lits.l st_Lits.c, .bool st_Star, .slice st_List.a st_List.l st_List.c, .slice st_Sets.a st_Sets.l st_Sets.c, .slice st_Where.a st_Where.l st_Where.c, .string st_Order, .bool st_Desc, .bool st_HasLimit, .int .i64 st_Limit], .slice hit.a hit.l hit.c] w (fun v w' => match v with | .agg ⟨[.int .i64 r0, .int .i64 r1, .slice r2a r2l r2c, .slice r3a r3l r3c]⟩ => K r0 r1 ⟨r2a, r2l, r2c⟩ ⟨r3a, r3l, r3c⟩ w' | _ => False) = S.query_Engine_change q s_ sch_Name sch_Cols sch_PK sch_Index st_Kind st_Table st_Defs st_PK st_Lits st_Star st_List st_Sets st_Where st_Order st_Desc st_HasLimit st_Limit hit w K := by kernel_rfl
theorem T.CO81 : CallOk Tryz.prog T.C81 := (CallOk.cons 22 T.ok22 (CallOk.cons 179 T.ok179 (CallOk.cons 180 T.ok180 (CallOk.cons 31 T.ok31 CallOk.nil))))
def T.c81 (vs : List Value) (w : World) (K : Value → World → Prop) : Prop :=
  match vs with
  | [.pointer (some ⟨q, 0, none⟩), .int .i64 s_, .agg ⟨[.string sch_Name, .slice sch_Colsa sch_Colsl sch_Colsc, .int .i64 sch_PK, .int .i64 sch_Index]⟩, .agg ⟨[.int .i64 st_Kind, .string st_Table, .slice st_Defsa st_Defsl st_Defsc, .int .i64 st_PK, .slice st_Litsa st_Litsl st_Litsc, .bool st_Star, .slice st_Lista st_Listl st_Listc, .slice st_Setsa st_Setsl st_Setsc, .slice st_Wherea st_Wherel st_Wherec, .string st_Order, .bool st_Desc, .bool st_HasLimit, .int .i64 st_Limit]⟩, .slice hita hitl hitc] => S.query_Engine_change q s_ sch_Name ⟨sch_Colsa, sch_Colsl, sch_Colsc⟩ sch_PK sch_Index st_Kind st_Table ⟨st_Defsa, st_Defsl, st_Defsc⟩ st_PK ⟨st_Litsa, st_Litsl, st_Litsc⟩ st_Star ⟨st_Lista, st_Listl, st_Listc⟩ ⟨st_Setsa, st_Setsl, st_Setsc⟩ ⟨st_Wherea, st_Wherel, st_Wherec⟩ st_Order st_Desc st_HasLimit st_Limit ⟨hita, hitl, hitc⟩ w (fun r0 r1 r2 r3 w' => K (.agg #[.int .i64 r0, .int .i64 r1, .slice r2.a r2.l r2.c, .slice r3.a r3.l r3.c]) w')
  | _ => False
theorem T.ok81 : ∀ vs w K, T.c81 vs w K → (callFunc 81 vs.toArray).run Tryz.prog w = .ok (.enter 81 vs.toArray) w ∧ Calls Tryz.prog 81 vs.toArray w fun e w' => ∃ v, e = .returned v ∧ K v w' := by
  intro vs w K h
  unfold T.c81 at h
  split at h
  · refine ⟨Tryz.call81 _ _, ok_of T.CO81 mixed Tryz.func81 (T.eq81 _ _ _ _ _ _ _ _ _ _ _ _ _ _ _ _ _ _ _ _ _ _) h fun v w' hk => ⟨v, rfl, ?_⟩⟩
    split at hk
    · exact hk
    · exact hk.elim
  · exact h.elim

/-- e2e/query.check (function 78). -/
def S.query_check (sch_Name : ByteArray) (sch_Cols : Sl) (sch_PK : Int) (sch_Index : Int) (st_Kind : Int) (st_Table : ByteArray) (st_Defs : Sl) (st_PK : Int) (st_Lits : Sl) (st_Star : Bool) (st_List : Sl) (st_Sets : Sl) (st_Where : Sl) (st_Order : ByteArray) (st_Desc : Bool) (st_HasLimit : Bool) (st_Limit : Int) (w : World) (K : Int → World → Prop) : Prop :=
  New w (.cells #[.string sch_Name, .slice sch_Cols.a sch_Cols.l sch_Cols.c, .int .i64 sch_PK, .int .i64 sch_Index] 73) fun p1 w =>
  New w (.cells #[.int .i64 st_Kind, .string st_Table, .slice st_Defs.a st_Defs.l st_Defs.c, .int .i64 st_PK, .slice st_Lits.a st_Lits.l st_Lits.c, .bool st_Star, .slice st_List.a st_List.l st_List.c, .slice st_Sets.a st_Sets.l st_Sets.c, .slice st_Where.a st_Where.l st_Where.c, .string st_Order, .bool st_Desc, .bool st_HasLimit, .int .i64 st_Limit] 64) fun p2 w =>
  Join (fun (noCol_3 : Bool) (pk_4 : Bool) (typ_5 : Bool) (long_6 : Bool) (w : World) =>
    Join (fun (noCol_7 : Bool) (w : World) =>
      Join (fun (noCol_8 : Bool) (pk_9 : Bool) (typ_10 : Bool) (long_11 : Bool) (w : World) =>
        Join (fun (noCol_12 : Bool) (typ_13 : Bool) (w : World) =>
          if noCol_12 = true then
            K 14 w
          else
            if pk_9 = true then
              K 18 w
            else
              if typ_13 = true then
                K 15 w
              else
                if long_11 = true then
                  K 16 w
                else
                  K 0 w) fun J14 =>
        LoopP (σ := Bool × Bool × Int × Unit) (fun st15 w next16 =>
          LdS w ⟨p2, 8, none⟩ fun Where_17 =>
          if (decide (st15.2.2.1 < (Where_17.l : Int))) = true then
            Join (fun (noCol_18 : Bool) (typ_19 : Bool) (w : World) =>
              Let (W (st15.2.2.1 + 1)) fun i_20 =>
              next16 (noCol_18, typ_19, i_20, ()) w) fun J21 =>
            Drew w fun w =>
            LdStr w ⟨p1, 0, none⟩ fun Name_22 =>
            LdS w ⟨p1, 1, none⟩ fun Cols_23 =>
            LdI .i64 w ⟨p1, 2, none⟩ fun PK_24 =>
            LdI .i64 w ⟨p1, 3, none⟩ fun Index_25 =>
            LdS w ⟨p2, 8, none⟩ fun Where_26 =>
            Ix Where_26.a Where_26.l st15.2.2.1 fun b27 o28 =>
            LdStr w ⟨b27, o28 + Int.toNat st15.2.2.1 * 5, none⟩ fun Col_29 =>
            S.query_ColOf Name_22 Cols_23 PK_24 Index_25 Col_29 w (fun r30 w =>
            if (decide (r30 < 0)) = true then
              J21 true st15.2.1 w
            else
              Drew w fun w =>
              if st15.2.1 = true then
                J21 st15.1 true w
              else
                LdS w ⟨p2, 8, none⟩ fun Where_31 =>
                Ix Where_31.a Where_31.l st15.2.2.1 fun b32 o33 =>
                LdB w ⟨b32, o33 + Int.toNat st15.2.2.1 * 5 + 2, none⟩ fun IsStr_34 =>
                LdS w ⟨p1, 1, none⟩ fun Cols_35 =>
                Ix Cols_35.a Cols_35.l r30 fun b36 o37 =>
                LdB w ⟨b36, o37 + Int.toNat r30 * 2 + 1, none⟩ fun IsStr_38 =>
                Let (!(IsStr_34 == IsStr_38)) fun typ_39 =>
                J21 st15.1 typ_39 w)
          else
            J14 st15.1 st15.2.1 w) (noCol_8, typ_10, 0, ()) w) fun J40 =>
      LoopP (σ := Bool × Bool × Bool × Bool × Int × Unit) (fun st41 w next42 =>
        LdS w ⟨p2, 7, none⟩ fun Sets_43 =>
        if (decide (st41.2.2.2.2.1 < (Sets_43.l : Int))) = true then
          Join (fun (noCol_44 : Bool) (pk_45 : Bool) (typ_46 : Bool) (long_47 : Bool) (w : World) =>
            Let (W (st41.2.2.2.2.1 + 1)) fun i_48 =>
            next42 (noCol_44, pk_45, typ_46, long_47, i_48, ()) w) fun J49 =>
          Drew w fun w =>
          LdStr w ⟨p1, 0, none⟩ fun Name_50 =>
          LdS w ⟨p1, 1, none⟩ fun Cols_51 =>
          LdI .i64 w ⟨p1, 2, none⟩ fun PK_52 =>
          LdI .i64 w ⟨p1, 3, none⟩ fun Index_53 =>
          LdS w ⟨p2, 7, none⟩ fun Sets_54 =>
          Ix Sets_54.a Sets_54.l st41.2.2.2.2.1 fun b55 o56 =>
          LdStr w ⟨b55, o56 + Int.toNat st41.2.2.2.2.1 * 5, none⟩ fun Col_57 =>
          S.query_ColOf Name_50 Cols_51 PK_52 Index_53 Col_57 w (fun r58 w =>
          if (decide (r58 < 0)) = true then
            J49 true st41.2.1 st41.2.2.1 st41.2.2.2.1 w
          else
            Join (fun (pk_59 : Bool) (w : World) =>
              Join (fun (typ_60 : Bool) (w : World) =>
                if st41.2.2.2.1 = true then
                  J49 st41.1 pk_59 typ_60 true w
                else
                  LdS w ⟨p2, 7, none⟩ fun Sets_61 =>
                  Ix Sets_61.a Sets_61.l st41.2.2.2.2.1 fun b62 o63 =>
                  LdStr w ⟨b62, o63 + Int.toNat st41.2.2.2.2.1 * 5 + 2 + 2, none⟩ fun S_64 =>
                  Let (decide ((S_64.size : Int) > 7)) fun long_65 =>
                  J49 st41.1 pk_59 typ_60 long_65 w) fun J66 =>
              Drew w fun w =>
              if st41.2.2.1 = true then
                J66 true w
              else
                LdS w ⟨p2, 7, none⟩ fun Sets_67 =>
                Ix Sets_67.a Sets_67.l st41.2.2.2.2.1 fun b68 o69 =>
                LdB w ⟨b68, o69 + Int.toNat st41.2.2.2.2.1 * 5 + 2, none⟩ fun IsStr_70 =>
                LdS w ⟨p1, 1, none⟩ fun Cols_71 =>
                Ix Cols_71.a Cols_71.l r58 fun b72 o73 =>
                LdB w ⟨b72, o73 + Int.toNat r58 * 2 + 1, none⟩ fun IsStr_74 =>
                Let (!(IsStr_70 == IsStr_74)) fun typ_75 =>
                J66 typ_75 w) fun J76 =>
            if st41.2.1 = true then
              J76 true w
            else
              LdI .i64 w ⟨p1, 2, none⟩ fun PK_77 =>
              Let (r58 == PK_77) fun pk_78 =>
              J76 pk_78 w)
        else
          J40 st41.1 st41.2.1 st41.2.2.1 st41.2.2.2.1 w) (noCol_7, pk_4, typ_5, long_6, 0, ()) w) fun J79 =>
    LoopP (σ := Bool × Int × Unit) (fun st80 w next81 =>
      LdS w ⟨p2, 6, none⟩ fun List_82 =>
      if (decide (st80.2.1 < (List_82.l : Int))) = true then
        Join (fun (noCol_83 : Bool) (w : World) =>
          Let (W (st80.2.1 + 1)) fun i_84 =>
          next81 (noCol_83, i_84, ()) w) fun J85 =>
        Drew w fun w =>
        if st80.1 = true then
          J85 true w
        else
          LdStr w ⟨p1, 0, none⟩ fun Name_86 =>
          LdS w ⟨p1, 1, none⟩ fun Cols_87 =>
          LdI .i64 w ⟨p1, 2, none⟩ fun PK_88 =>
          LdI .i64 w ⟨p1, 3, none⟩ fun Index_89 =>
          LdS w ⟨p2, 6, none⟩ fun List_90 =>
          Ix List_90.a List_90.l st80.2.1 fun b91 o92 =>
          LdStr w ⟨b91, o92 + Int.toNat st80.2.1 * 1, none⟩ fun x_93 =>
          S.query_ColOf Name_86 Cols_87 PK_88 Index_89 x_93 w (fun r94 w =>
          Let (decide (r94 < 0)) fun noCol_95 =>
          J85 noCol_95 w)
      else
        J79 st80.1 w) (noCol_3, 0, ()) w) fun J96 =>
  LdStr w ⟨p2, 9, none⟩ fun Order_97 =>
  if (!(Order_97.toList == (⟨#[]⟩ : ByteArray).toList)) = true then
    LdStr w ⟨p1, 0, none⟩ fun Name_98 =>
    LdS w ⟨p1, 1, none⟩ fun Cols_99 =>
    LdI .i64 w ⟨p1, 2, none⟩ fun PK_100 =>
    LdI .i64 w ⟨p1, 3, none⟩ fun Index_101 =>
    LdStr w ⟨p2, 9, none⟩ fun Order_102 =>
    S.query_ColOf Name_98 Cols_99 PK_100 Index_101 Order_102 w (fun r103 w =>
    Let (decide (r103 < 0)) fun noCol_104 =>
    J96 noCol_104 false false false w)
  else
    J96 false false false false w
def T.C78 : CallT := (CallT.cons 31 T.c31 CallT.nil)
def T.A78 : Ann := fun i => bif Nat.beq i 3 then some ([2, 3, 6, 7, 8], [(5, 3), (9, 0)]) else bif Nat.beq i 1000012 then some ([], [(2, 5), (3, 5), (5, 3), (6, 3), (7, 3), (8, 3), (10, 0), (11, 0)]) else bif Nat.beq i 7 then some ([2, 3], [(5, 3), (6, 3), (7, 3), (8, 3), (10, 0)]) else bif Nat.beq i 1000021 then some ([], [(2, 5), (3, 5), (5, 3), (6, 3), (7, 3), (8, 3), (12, 0), (13, 0)]) else bif Nat.beq i 16 then some ([2, 3, 6, 8], [(5, 3), (7, 3), (12, 0)]) else none
set_option maxRecDepth 1000000 in
theorem T.eq78 (sch_Name : ByteArray) (sch_Cols : Sl) (sch_PK : Int) (sch_Index : Int) (st_Kind : Int) (st_Table : ByteArray) (st_Defs : Sl) (st_PK : Int) (st_Lits : Sl) (st_Star : Bool) (st_List : Sl) (st_Sets : Sl) (st_Where : Sl) (st_Order : ByteArray) (st_Desc : Bool) (st_HasLimit : Bool) (st_Limit : Int) (w : World) (K : Int → World → Prop) : denF Tryz.prog T.C78 T.A78 Tryz.f78 [.agg #[.string sch_Name, .slice sch_Cols.a sch_Cols.l sch_Cols.c, .int .i64 sch_PK, .int .i64 sch_Index], .agg #[.int .i64 st_Kind, .string st_Table, .slice st_Defs.a st_Defs.l st_Defs.c, .int .i64 st_PK, .slice st_Lits.a st_Lits.l st_Lits.c, .bool st_Star, .slice st_List.a st_List.l st_List.c, .slice st_Sets.a st_Sets.l st_Sets.c, .slice st_Where.a st_Where.l st_Where.c, .string st_Order, .bool st_Desc, .bool st_HasLimit, .int .i64 st_Limit]] w (fun v w' => match v with | .int .i64 r0 => K r0 w' | _ => False) = S.query_check sch_Name sch_Cols sch_PK sch_Index st_Kind st_Table st_Defs st_PK st_Lits st_Star st_List st_Sets st_Where st_Order st_Desc st_HasLimit st_Limit w K := by kernel_rfl
theorem T.CO78 : CallOk Tryz.prog T.C78 := (CallOk.cons 31 T.ok31 CallOk.nil)
def T.c78 (vs : List Value) (w : World) (K : Value → World → Prop) : Prop :=
  match vs with
  | [.agg ⟨[.string sch_Name, .slice sch_Colsa sch_Colsl sch_Colsc, .int .i64 sch_PK, .int .i64 sch_Index]⟩, .agg ⟨[.int .i64 st_Kind, .string st_Table, .slice st_Defsa st_Defsl st_Defsc, .int .i64 st_PK, .slice st_Litsa st_Litsl st_Litsc, .bool st_Star, .slice st_Lista st_Listl st_Listc, .slice st_Setsa st_Setsl st_Setsc, .slice st_Wherea st_Wherel st_Wherec, .string st_Order, .bool st_Desc, .bool st_HasLimit, .int .i64 st_Limit]⟩] => S.query_check sch_Name ⟨sch_Colsa, sch_Colsl, sch_Colsc⟩ sch_PK sch_Index st_Kind st_Table ⟨st_Defsa, st_Defsl, st_Defsc⟩ st_PK ⟨st_Litsa, st_Litsl, st_Litsc⟩ st_Star ⟨st_Lista, st_Listl, st_Listc⟩ ⟨st_Setsa, st_Setsl, st_Setsc⟩ ⟨st_Wherea, st_Wherel, st_Wherec⟩ st_Order st_Desc st_HasLimit st_Limit w (fun r0 w' => K (.int .i64 r0) w')
  | _ => False
theorem T.ok78 : ∀ vs w K, T.c78 vs w K → (callFunc 78 vs.toArray).run Tryz.prog w = .ok (.enter 78 vs.toArray) w ∧ Calls Tryz.prog 78 vs.toArray w fun e w' => ∃ v, e = .returned v ∧ K v w' := by
  intro vs w K h
  unfold T.c78 at h
  split at h
  · refine ⟨Tryz.call78 _ _, ok_of T.CO78 mixed Tryz.func78 (T.eq78 _ _ _ _ _ _ _ _ _ _ _ _ _ _ _ _ _ _ _) h fun v w' hk => ⟨v, rfl, ?_⟩⟩
    split at hk
    · exact hk
    · exact hk.elim
  · exact h.elim

/-- (*e2e/query.Engine).run (function 34). -/
def S.query_Engine_run (q : Nat) (s_ : Int) (st_Kind : Int) (st_Table : ByteArray) (st_Defs : Sl) (st_PK : Int) (st_Lits : Sl) (st_Star : Bool) (st_List : Sl) (st_Sets : Sl) (st_Where : Sl) (st_Order : ByteArray) (st_Desc : Bool) (st_HasLimit : Bool) (st_Limit : Int) (w : World) (K : Int → Int → Sl → Sl → World → Prop) : Prop :=
  New w (.cells #[.int .i64 st_Kind, .string st_Table, .slice st_Defs.a st_Defs.l st_Defs.c, .int .i64 st_PK, .slice st_Lits.a st_Lits.l st_Lits.c, .bool st_Star, .slice st_List.a st_List.l st_List.c, .slice st_Sets.a st_Sets.l st_Sets.c, .slice st_Where.a st_Where.l st_Where.c, .string st_Order, .bool st_Desc, .bool st_HasLimit, .int .i64 st_Limit] 64) fun p1 w =>
  New w (.cells #[.int .i64 0, .int .i64 0, .slice none 0 0, .slice none 0 0] 36) fun p2 w =>
  LdI .i64 w ⟨p1, 0, none⟩ fun Kind_3 =>
  if (Kind_3 == 7) = true then
    Drew w fun w =>
    LdP w ⟨q, 0, none⟩ fun t_4 =>
    LdStr w ⟨p1, 1, none⟩ fun Table_5 =>
    LdS w ⟨p1, 4, none⟩ fun Lits_6 =>
    S.txn_Mgr_Insert t_4 s_ Table_5 Lits_6 w (fun r7 w =>
    if (r7 != 0) = true then
      S.query_fail r7 w (fun Err_8 N_9 Cols_10 Rows_11 w =>
      St1 w ⟨p2, 0, none⟩ (.int .i64 Err_8) fun w =>
      St1 w ⟨p2, 1, none⟩ (.int .i64 N_9) fun w =>
      St1 w ⟨p2, 2, none⟩ (.slice Cols_10.a Cols_10.l Cols_10.c) fun w =>
      St1 w ⟨p2, 3, none⟩ (.slice Rows_11.a Rows_11.l Rows_11.c) fun w =>
      LdI .i64 w ⟨p2, 0, none⟩ fun Err_12 =>
      LdI .i64 w ⟨p2, 1, none⟩ fun N_13 =>
      LdS w ⟨p2, 2, none⟩ fun Cols_14 =>
      LdS w ⟨p2, 3, none⟩ fun Rows_15 =>
      K Err_12 N_13 Cols_14 Rows_15 w)
    else
      St1 w ⟨p2, 0, none⟩ (.int .i64 0) fun w =>
      St1 w ⟨p2, 1, none⟩ (.int .i64 1) fun w =>
      St1 w ⟨p2, 2, none⟩ (.slice none 0 0) fun w =>
      St1 w ⟨p2, 3, none⟩ (.slice none 0 0) fun w =>
      LdI .i64 w ⟨p2, 0, none⟩ fun Err_16 =>
      LdI .i64 w ⟨p2, 1, none⟩ fun N_17 =>
      LdS w ⟨p2, 2, none⟩ fun Cols_18 =>
      LdS w ⟨p2, 3, none⟩ fun Rows_19 =>
      K Err_16 N_17 Cols_18 Rows_19 w)
  else
    Join (fun (sch_20 : Nat) (e_21 : Int) (w : World) =>
      Join (fun (e_22 : Int) (w : World) =>
        if (e_22 != 0) = true then
          S.query_fail e_22 w (fun Err_23 N_24 Cols_25 Rows_26 w =>
          St1 w ⟨p2, 0, none⟩ (.int .i64 Err_23) fun w =>
          St1 w ⟨p2, 1, none⟩ (.int .i64 N_24) fun w =>
          St1 w ⟨p2, 2, none⟩ (.slice Cols_25.a Cols_25.l Cols_25.c) fun w =>
          St1 w ⟨p2, 3, none⟩ (.slice Rows_26.a Rows_26.l Rows_26.c) fun w =>
          LdI .i64 w ⟨p2, 0, none⟩ fun Err_27 =>
          LdI .i64 w ⟨p2, 1, none⟩ fun N_28 =>
          LdS w ⟨p2, 2, none⟩ fun Cols_29 =>
          LdS w ⟨p2, 3, none⟩ fun Rows_30 =>
          K Err_27 N_28 Cols_29 Rows_30 w)
        else
          LdStr w ⟨sch_20, 0, none⟩ fun Name_31 =>
          LdS w ⟨sch_20, 1, none⟩ fun Cols_32 =>
          LdI .i64 w ⟨sch_20, 2, none⟩ fun PK_33 =>
          LdI .i64 w ⟨sch_20, 3, none⟩ fun Index_34 =>
          LdI .i64 w ⟨p1, 0, none⟩ fun Kind_35 =>
          LdStr w ⟨p1, 1, none⟩ fun Table_36 =>
          LdS w ⟨p1, 2, none⟩ fun Defs_37 =>
          LdI .i64 w ⟨p1, 3, none⟩ fun PK_38 =>
          LdS w ⟨p1, 4, none⟩ fun Lits_39 =>
          LdB w ⟨p1, 5, none⟩ fun Star_40 =>
          LdS w ⟨p1, 6, none⟩ fun List_41 =>
          LdS w ⟨p1, 7, none⟩ fun Sets_42 =>
          LdS w ⟨p1, 8, none⟩ fun Where_43 =>
          LdStr w ⟨p1, 9, none⟩ fun Order_44 =>
          LdB w ⟨p1, 10, none⟩ fun Desc_45 =>
          LdB w ⟨p1, 11, none⟩ fun HasLimit_46 =>
          LdI .i64 w ⟨p1, 12, none⟩ fun Limit_47 =>
          S.query_Engine_fetch q s_ Name_31 Cols_32 PK_33 Index_34 Kind_35 Table_36 Defs_37 PK_38 Lits_39 Star_40 List_41 Sets_42 Where_43 Order_44 Desc_45 HasLimit_46 Limit_47 w (fun r48 r49 w =>
          if (r49 != 0) = true then
            S.query_fail r49 w (fun Err_50 N_51 Cols_52 Rows_53 w =>
            St1 w ⟨p2, 0, none⟩ (.int .i64 Err_50) fun w =>
            St1 w ⟨p2, 1, none⟩ (.int .i64 N_51) fun w =>
            St1 w ⟨p2, 2, none⟩ (.slice Cols_52.a Cols_52.l Cols_52.c) fun w =>
            St1 w ⟨p2, 3, none⟩ (.slice Rows_53.a Rows_53.l Rows_53.c) fun w =>
            LdI .i64 w ⟨p2, 0, none⟩ fun Err_54 =>
            LdI .i64 w ⟨p2, 1, none⟩ fun N_55 =>
            LdS w ⟨p2, 2, none⟩ fun Cols_56 =>
            LdS w ⟨p2, 3, none⟩ fun Rows_57 =>
            K Err_54 N_55 Cols_56 Rows_57 w)
          else
            LdI .i64 w ⟨p1, 0, none⟩ fun Kind_58 =>
            if (Kind_58 == 8) = true then
              LdStr w ⟨sch_20, 0, none⟩ fun Name_59 =>
              LdS w ⟨sch_20, 1, none⟩ fun Cols_60 =>
              LdI .i64 w ⟨sch_20, 2, none⟩ fun PK_61 =>
              LdI .i64 w ⟨sch_20, 3, none⟩ fun Index_62 =>
              LdI .i64 w ⟨p1, 0, none⟩ fun Kind_63 =>
              LdStr w ⟨p1, 1, none⟩ fun Table_64 =>
              LdS w ⟨p1, 2, none⟩ fun Defs_65 =>
              LdI .i64 w ⟨p1, 3, none⟩ fun PK_66 =>
              LdS w ⟨p1, 4, none⟩ fun Lits_67 =>
              LdB w ⟨p1, 5, none⟩ fun Star_68 =>
              LdS w ⟨p1, 6, none⟩ fun List_69 =>
              LdS w ⟨p1, 7, none⟩ fun Sets_70 =>
              LdS w ⟨p1, 8, none⟩ fun Where_71 =>
              LdStr w ⟨p1, 9, none⟩ fun Order_72 =>
              LdB w ⟨p1, 10, none⟩ fun Desc_73 =>
              LdB w ⟨p1, 11, none⟩ fun HasLimit_74 =>
              LdI .i64 w ⟨p1, 12, none⟩ fun Limit_75 =>
              S.query_project Name_59 Cols_60 PK_61 Index_62 Kind_63 Table_64 Defs_65 PK_66 Lits_67 Star_68 List_69 Sets_70 Where_71 Order_72 Desc_73 HasLimit_74 Limit_75 r48 w (fun Err_76 N_77 Cols_78 Rows_79 w =>
              St1 w ⟨p2, 0, none⟩ (.int .i64 Err_76) fun w =>
              St1 w ⟨p2, 1, none⟩ (.int .i64 N_77) fun w =>
              St1 w ⟨p2, 2, none⟩ (.slice Cols_78.a Cols_78.l Cols_78.c) fun w =>
              St1 w ⟨p2, 3, none⟩ (.slice Rows_79.a Rows_79.l Rows_79.c) fun w =>
              LdI .i64 w ⟨p2, 0, none⟩ fun Err_80 =>
              LdI .i64 w ⟨p2, 1, none⟩ fun N_81 =>
              LdS w ⟨p2, 2, none⟩ fun Cols_82 =>
              LdS w ⟨p2, 3, none⟩ fun Rows_83 =>
              K Err_80 N_81 Cols_82 Rows_83 w)
            else
              LdStr w ⟨sch_20, 0, none⟩ fun Name_84 =>
              LdS w ⟨sch_20, 1, none⟩ fun Cols_85 =>
              LdI .i64 w ⟨sch_20, 2, none⟩ fun PK_86 =>
              LdI .i64 w ⟨sch_20, 3, none⟩ fun Index_87 =>
              LdI .i64 w ⟨p1, 0, none⟩ fun Kind_88 =>
              LdStr w ⟨p1, 1, none⟩ fun Table_89 =>
              LdS w ⟨p1, 2, none⟩ fun Defs_90 =>
              LdI .i64 w ⟨p1, 3, none⟩ fun PK_91 =>
              LdS w ⟨p1, 4, none⟩ fun Lits_92 =>
              LdB w ⟨p1, 5, none⟩ fun Star_93 =>
              LdS w ⟨p1, 6, none⟩ fun List_94 =>
              LdS w ⟨p1, 7, none⟩ fun Sets_95 =>
              LdS w ⟨p1, 8, none⟩ fun Where_96 =>
              LdStr w ⟨p1, 9, none⟩ fun Order_97 =>
              LdB w ⟨p1, 10, none⟩ fun Desc_98 =>
              LdB w ⟨p1, 11, none⟩ fun HasLimit_99 =>
              LdI .i64 w ⟨p1, 12, none⟩ fun Limit_100 =>
              S.query_Engine_change q s_ Name_84 Cols_85 PK_86 Index_87 Kind_88 Table_89 Defs_90 PK_91 Lits_92 Star_93 List_94 Sets_95 Where_96 Order_97 Desc_98 HasLimit_99 Limit_100 r48 w (fun Err_101 N_102 Cols_103 Rows_104 w =>
              St1 w ⟨p2, 0, none⟩ (.int .i64 Err_101) fun w =>
              St1 w ⟨p2, 1, none⟩ (.int .i64 N_102) fun w =>
              St1 w ⟨p2, 2, none⟩ (.slice Cols_103.a Cols_103.l Cols_103.c) fun w =>
              St1 w ⟨p2, 3, none⟩ (.slice Rows_104.a Rows_104.l Rows_104.c) fun w =>
              LdI .i64 w ⟨p2, 0, none⟩ fun Err_105 =>
              LdI .i64 w ⟨p2, 1, none⟩ fun N_106 =>
              LdS w ⟨p2, 2, none⟩ fun Cols_107 =>
              LdS w ⟨p2, 3, none⟩ fun Rows_108 =>
              K Err_105 N_106 Cols_107 Rows_108 w))) fun J109 =>
      if (e_21 == 0) = true then
        LdStr w ⟨sch_20, 0, none⟩ fun Name_110 =>
        LdS w ⟨sch_20, 1, none⟩ fun Cols_111 =>
        LdI .i64 w ⟨sch_20, 2, none⟩ fun PK_112 =>
        LdI .i64 w ⟨sch_20, 3, none⟩ fun Index_113 =>
        LdI .i64 w ⟨p1, 0, none⟩ fun Kind_114 =>
        LdStr w ⟨p1, 1, none⟩ fun Table_115 =>
        LdS w ⟨p1, 2, none⟩ fun Defs_116 =>
        LdI .i64 w ⟨p1, 3, none⟩ fun PK_117 =>
        LdS w ⟨p1, 4, none⟩ fun Lits_118 =>
        LdB w ⟨p1, 5, none⟩ fun Star_119 =>
        LdS w ⟨p1, 6, none⟩ fun List_120 =>
        LdS w ⟨p1, 7, none⟩ fun Sets_121 =>
        LdS w ⟨p1, 8, none⟩ fun Where_122 =>
        LdStr w ⟨p1, 9, none⟩ fun Order_123 =>
        LdB w ⟨p1, 10, none⟩ fun Desc_124 =>
        LdB w ⟨p1, 11, none⟩ fun HasLimit_125 =>
        LdI .i64 w ⟨p1, 12, none⟩ fun Limit_126 =>
        S.query_check Name_110 Cols_111 PK_112 Index_113 Kind_114 Table_115 Defs_116 PK_117 Lits_118 Star_119 List_120 Sets_121 Where_122 Order_123 Desc_124 HasLimit_125 Limit_126 w (fun r127 w =>
        J109 r127 w)
      else
        J109 e_21 w) fun J128 =>
    Drew w fun w =>
    Hold w ⟨q, 0, none⟩ 1 fun R129 =>
    LdP w ⟨q, 0, none⟩ fun t_130 =>
    Hold w ⟨p1, 1, none⟩ 1 fun R131 =>
    LdStr w ⟨p1, 1, none⟩ fun Table_132 =>
    (S.txn_Mgr_SchemaOf t_130 Table_132 w (fun Name_133 Cols_134 PK_135 Index_136 r137 w =>
    New w (.cells #[.string ⟨#[]⟩, .slice none 0 0, .int .i64 0, .int .i64 0] 73) fun p138 w =>
    After R131 w <|
    After R129 w <|
    St1 w ⟨p138, 0, none⟩ (.string Name_133) fun w =>
    St1 w ⟨p138, 1, none⟩ (.slice Cols_134.a Cols_134.l Cols_134.c) fun w =>
    St1 w ⟨p138, 2, none⟩ (.int .i64 PK_135) fun w =>
    St1 w ⟨p138, 3, none⟩ (.int .i64 Index_136) fun w =>
    J128 p138 r137 w)) ∧
    (New w (.cells #[.string ⟨#[]⟩, .slice none 0 0, .int .i64 0, .int .i64 0] 73) fun p139 w =>
    After R131 w <|
    After R129 w <|
    S.txn_Mgr_SchemaOf t_130 Table_132 w (fun Name_140 Cols_141 PK_142 Index_143 r144 w =>
    St1 w ⟨p139, 0, none⟩ (.string Name_140) fun w =>
    St1 w ⟨p139, 1, none⟩ (.slice Cols_141.a Cols_141.l Cols_141.c) fun w =>
    St1 w ⟨p139, 2, none⟩ (.int .i64 PK_142) fun w =>
    St1 w ⟨p139, 3, none⟩ (.int .i64 Index_143) fun w =>
    J128 p139 r144 w))
def T.C34 : CallT := (CallT.cons 77 T.c77 (CallT.cons 22 T.c22 (CallT.cons 79 T.c79 (CallT.cons 80 T.c80 (CallT.cons 81 T.c81 (CallT.cons 78 T.c78 (CallT.cons 30 T.c30 CallT.nil)))))))
def T.A34 : Ann := fun _ => none
set_option maxRecDepth 1000000 in
theorem T.eq34 (q : Nat) (s_ : Int) (st_Kind : Int) (st_Table : ByteArray) (st_Defs : Sl) (st_PK : Int) (st_Lits : Sl) (st_Star : Bool) (st_List : Sl) (st_Sets : Sl) (st_Where : Sl) (st_Order : ByteArray) (st_Desc : Bool) (st_HasLimit : Bool) (st_Limit : Int) (w : World) (K : Int → Int → Sl → Sl → World → Prop) : denF Tryz.prog T.C34 T.A34 Tryz.f34 [.pointer (some ⟨q, 0, none⟩), .int .i64 s_, .agg #[.int .i64 st_Kind, .string st_Table, .slice st_Defs.a st_Defs.l st_Defs.c, .int .i64 st_PK, .slice st_Lits.a st_Lits.l st_Lits.c, .bool st_Star, .slice st_List.a st_List.l st_List.c, .slice st_Sets.a st_Sets.l st_Sets.c, .slice st_Where.a st_Where.l st_Where.c, .string st_Order, .bool st_Desc, .bool st_HasLimit, .int .i64 st_Limit]] w (fun v w' => match v with | .agg ⟨[.int .i64 r0, .int .i64 r1, .slice r2a r2l r2c, .slice r3a r3l r3c]⟩ => K r0 r1 ⟨r2a, r2l, r2c⟩ ⟨r3a, r3l, r3c⟩ w' | _ => False) = S.query_Engine_run q s_ st_Kind st_Table st_Defs st_PK st_Lits st_Star st_List st_Sets st_Where st_Order st_Desc st_HasLimit st_Limit w K := by kernel_rfl
theorem T.CO34 : CallOk Tryz.prog T.C34 := (CallOk.cons 77 T.ok77 (CallOk.cons 22 T.ok22 (CallOk.cons 79 T.ok79 (CallOk.cons 80 T.ok80 (CallOk.cons 81 T.ok81 (CallOk.cons 78 T.ok78 (CallOk.cons 30 T.ok30 CallOk.nil)))))))
def T.c34 (vs : List Value) (w : World) (K : Value → World → Prop) : Prop :=
  match vs with
  | [.pointer (some ⟨q, 0, none⟩), .int .i64 s_, .agg ⟨[.int .i64 st_Kind, .string st_Table, .slice st_Defsa st_Defsl st_Defsc, .int .i64 st_PK, .slice st_Litsa st_Litsl st_Litsc, .bool st_Star, .slice st_Lista st_Listl st_Listc, .slice st_Setsa st_Setsl st_Setsc, .slice st_Wherea st_Wherel st_Wherec, .string st_Order, .bool st_Desc, .bool st_HasLimit, .int .i64 st_Limit]⟩] => S.query_Engine_run q s_ st_Kind st_Table ⟨st_Defsa, st_Defsl, st_Defsc⟩ st_PK ⟨st_Litsa, st_Litsl, st_Litsc⟩ st_Star ⟨st_Lista, st_Listl, st_Listc⟩ ⟨st_Setsa, st_Setsl, st_Setsc⟩ ⟨st_Wherea, st_Wherel, st_Wherec⟩ st_Order st_Desc st_HasLimit st_Limit w (fun r0 r1 r2 r3 w' => K (.agg #[.int .i64 r0, .int .i64 r1, .slice r2.a r2.l r2.c, .slice r3.a r3.l r3.c]) w')
  | _ => False
theorem T.ok34 : ∀ vs w K, T.c34 vs w K → (callFunc 34 vs.toArray).run Tryz.prog w = .ok (.enter 34 vs.toArray) w ∧ Calls Tryz.prog 34 vs.toArray w fun e w' => ∃ v, e = .returned v ∧ K v w' := by
  intro vs w K h
  unfold T.c34 at h
  split at h
  · refine ⟨Tryz.call34 _ _, ok_of T.CO34 mixed Tryz.func34 (T.eq34 _ _ _ _ _ _ _ _ _ _ _ _ _ _ _ _ _) h fun v w' hk => ⟨v, rfl, ?_⟩⟩
    split at hk
    · exact hk
    · exact hk.elim
  · exact h.elim
end Go.Proofs.Qxb6500564aGreat
