/-
  MADE BY PROGRAM (my own gen2.py) out of the translation: the Go functions as typed texts, each tied to the model by the kernel.
-/
import Derived.Test.Qxb6500564aGreatS5
set_option linter.unusedVariables false
namespace Go.Proofs.Qxb6500564aGreat
open Go.Den

/-- (*e2e/btree.Forest).Insert (function 164). -/
def S.btree_Forest_Insert (f : Nat) (h : Int) (k : ByteArray) (v : ByteArray) (w : World) (K : Int → World → Prop) : Prop :=
  LdP w ⟨f, 0, none⟩ fun p_1 =>
  S.pager_Pager_InTxn p_1 w (fun r2 w =>
  if (!r2) = true then
    K 2 w
  else
    S.btree_Forest_root f h w (fun r3 r4 w =>
    if (r4 == 0) = true then
      K 7 w
    else
      if (decide ((k.size : Int) > 16)) = true then
        K 8 w
      else
        if (decide ((v.size : Int) > 16)) = true then
          K 8 w
        else
          S.btree_Forest_find f r4 k 8 w (fun r5 r6 w =>
          if (r6 == 23) = true then
            K r6 w
          else
            if (r6 == 0) = true then
              S.btree_Forest_put f r4 k v 8 w (fun r7 r8 r9 w =>
              K r9 w)
            else
              IxStr r3 8 fun c10 =>
              if (decide ((W c10) ≥ 64)) = true then
                K 6 w
              else
                S.btree_Forest_put f r4 k v 8 w (fun r11 r12 r13 w =>
                if (r13 != 0) = true then
                  K r13 w
                else
                  Join (fun (d_14 : ByteArray) (w : World) =>
                    IxStr d_14 8 fun c15 =>
                    S.btree_setAt d_14 8 (U8 (c15 + 1)) w (fun r16 w =>
                    S.btree_Forest_putDir f r16 w (fun r17 w =>
                    K r17 w))) fun J18 =>
                  if (r12 != 0) = true then
                    New w (.cells #[.int .i64 0, .int .i64 0, .string ⟨#[]⟩, .string ⟨#[]⟩, .string ⟨#[]⟩, .string ⟨#[]⟩, .string ⟨#[]⟩, .string ⟨#[]⟩, .string ⟨#[]⟩, .string ⟨#[]⟩, .int .i64 0, .int .i64 0, .int .i64 0, .int .i64 0, .int .i64 0] 289) fun p19 w =>
                    St1 w ⟨p19, 0, none⟩ (.int .i64 2) fun w =>
                    St1 w ⟨p19, 1, none⟩ (.int .i64 2) fun w =>
                    St1 w ⟨p19, 2, none⟩ (.string ⟨#[]⟩) fun w =>
                    St1 w ⟨p19, 3, none⟩ (.string ⟨#[]⟩) fun w =>
                    St1 w ⟨p19, 4, none⟩ (.string ⟨#[]⟩) fun w =>
                    St1 w ⟨p19, 5, none⟩ (.string ⟨#[]⟩) fun w =>
                    St1 w ⟨p19, 6, none⟩ (.string ⟨#[]⟩) fun w =>
                    St1 w ⟨p19, 7, none⟩ (.string ⟨#[]⟩) fun w =>
                    St1 w ⟨p19, 8, none⟩ (.string ⟨#[]⟩) fun w =>
                    St1 w ⟨p19, 9, none⟩ (.string ⟨#[]⟩) fun w =>
                    St1 w ⟨p19, 10, none⟩ (.int .i64 0) fun w =>
                    St1 w ⟨p19, 11, none⟩ (.int .i64 0) fun w =>
                    St1 w ⟨p19, 12, none⟩ (.int .i64 0) fun w =>
                    St1 w ⟨p19, 13, none⟩ (.int .i64 0) fun w =>
                    St1 w ⟨p19, 14, none⟩ (.int .i64 0) fun w =>
                    IxA 5 0 <|
                    St1 w ⟨p19, 10 + Int.toNat 0 * 1, none⟩ (.int .i64 r4) fun w =>
                    IxA 5 1 <|
                    St1 w ⟨p19, 10 + Int.toNat 1 * 1, none⟩ (.int .i64 r12) fun w =>
                    IxA 4 0 <|
                    St1 w ⟨p19, 2 + Int.toNat 0 * 1, none⟩ (.string r11) fun w =>
                    LdP w ⟨f, 0, none⟩ fun p_20 =>
                    S.pager_Pager_Alloc p_20 w (fun r21 r22 w =>
                    if (r22 != 0) = true then
                      K 23 w
                    else
                      LdI .i64 w ⟨p19, 0, none⟩ fun kind_23 =>
                      LdI .i64 w ⟨p19, 1, none⟩ fun n_24 =>
                      LdStr w ⟨p19, 2, none⟩ fun keys_25 =>
                      LdStr w ⟨p19, 3, none⟩ fun keys_26 =>
                      LdStr w ⟨p19, 4, none⟩ fun keys_27 =>
                      LdStr w ⟨p19, 5, none⟩ fun keys_28 =>
                      LdStr w ⟨p19, 6, none⟩ fun vals_29 =>
                      LdStr w ⟨p19, 7, none⟩ fun vals_30 =>
                      LdStr w ⟨p19, 8, none⟩ fun vals_31 =>
                      LdStr w ⟨p19, 9, none⟩ fun vals_32 =>
                      LdI .i64 w ⟨p19, 10, none⟩ fun kids_33 =>
                      LdI .i64 w ⟨p19, 11, none⟩ fun kids_34 =>
                      LdI .i64 w ⟨p19, 12, none⟩ fun kids_35 =>
                      LdI .i64 w ⟨p19, 13, none⟩ fun kids_36 =>
                      LdI .i64 w ⟨p19, 14, none⟩ fun kids_37 =>
                      S.btree_Forest_store f r21 kind_23 n_24 keys_25 keys_26 keys_27 keys_28 vals_29 vals_30 vals_31 vals_32 kids_33 kids_34 kids_35 kids_36 kids_37 w (fun r38 w =>
                      if (r38 != 0) = true then
                        K 23 w
                      else
                        S.btree_setAt r3 h (U8 r21) w (fun r39 w =>
                        J18 r39 w)))
                  else
                    J18 r3 w))))
def T.C164 : CallT := (CallT.cons 239 T.c239 (CallT.cons 245 T.c245 (CallT.cons 250 T.c250 (CallT.cons 251 T.c251 (CallT.cons 247 T.c247 (CallT.cons 248 T.c248 (CallT.cons 219 T.c219 (CallT.cons 246 T.c246 CallT.nil))))))))
def T.A164 : Ann := fun _ => none
set_option maxRecDepth 1000000 in
theorem T.eq164 (f : Nat) (h : Int) (k : ByteArray) (v : ByteArray) (w : World) (K : Int → World → Prop) : denF Tryz.prog T.C164 T.A164 Tryz.f164 [.pointer (some ⟨f, 0, none⟩), .int .i64 h, .string k, .string v] w (fun v w' => match v with | .int .i64 r0 => K r0 w' | _ => False) = S.btree_Forest_Insert f h k v w K := by kernel_rfl
theorem T.CO164 : CallOk Tryz.prog T.C164 := (CallOk.cons 239 T.ok239 (CallOk.cons 245 T.ok245 (CallOk.cons 250 T.ok250 (CallOk.cons 251 T.ok251 (CallOk.cons 247 T.ok247 (CallOk.cons 248 T.ok248 (CallOk.cons 219 T.ok219 (CallOk.cons 246 T.ok246 CallOk.nil))))))))
def T.c164 (vs : List Value) (w : World) (K : Value → World → Prop) : Prop :=
  match vs with
  | [.pointer (some ⟨f, 0, none⟩), .int .i64 h, .string k, .string v] => S.btree_Forest_Insert f h k v w (fun r0 w' => K (.int .i64 r0) w')
  | _ => False
theorem T.ok164 : ∀ vs w K, T.c164 vs w K → (callFunc 164 vs.toArray).run Tryz.prog w = .ok (.enter 164 vs.toArray) w ∧ Calls Tryz.prog 164 vs.toArray w fun e w' => ∃ v, e = .returned v ∧ K v w' := by
  intro vs w K h
  unfold T.c164 at h
  split at h
  · refine ⟨Tryz.call164 _ _, ok_of T.CO164 mixed Tryz.func164 (T.eq164 _ _ _ _ _ _) h fun v w' hk => ⟨v, rfl, ?_⟩⟩
    split at hk
    · exact hk
    · exact hk.elim
  · exact h.elim

/-- e2e/table.fold (function 165). -/
def S.table_fold (sofar : Int) (e : Int) (w : World) (K : Int → World → Prop) : Prop :=
  if (sofar != 0) = true then
    K 23 w
  else
    if (e != 0) = true then
      K 23 w
    else
      K 0 w
def T.C165 : CallT := CallT.nil
def T.A165 : Ann := fun _ => none
set_option maxRecDepth 1000000 in
theorem T.eq165 (sofar : Int) (e : Int) (w : World) (K : Int → World → Prop) : denF Tryz.prog T.C165 T.A165 Tryz.f165 [.int .i64 sofar, .int .i64 e] w (fun v w' => match v with | .int .i64 r0 => K r0 w' | _ => False) = S.table_fold sofar e w K := by kernel_rfl
theorem T.CO165 : CallOk Tryz.prog T.C165 := CallOk.nil
def T.c165 (vs : List Value) (w : World) (K : Value → World → Prop) : Prop :=
  match vs with
  | [.int .i64 sofar, .int .i64 e] => S.table_fold sofar e w (fun r0 w' => K (.int .i64 r0) w')
  | _ => False
theorem T.ok165 : ∀ vs w K, T.c165 vs w K → (callFunc 165 vs.toArray).run Tryz.prog w = .ok (.enter 165 vs.toArray) w ∧ Calls Tryz.prog 165 vs.toArray w fun e w' => ∃ v, e = .returned v ∧ K v w' := by
  intro vs w K h
  unfold T.c165 at h
  split at h
  · refine ⟨Tryz.call165 _ _, ok_of T.CO165 mixed Tryz.func165 (T.eq165 _ _ _ _) h fun v w' hk => ⟨v, rfl, ?_⟩⟩
    split at hk
    · exact hk
    · exact hk.elim
  · exact h.elim

/-- e2e/table.idxKey (function 172). -/
def S.table_idxKey (row : Sl) (col : Int) (pk : Int) (w : World) (K : ByteArray → World → Prop) : Prop :=
  Ix row.a row.l col fun b1 o2 =>
  LdB w ⟨b1, o2 + Int.toNat col * 3, none⟩ fun IsStr_3 =>
  LdI .i64 w ⟨b1, o2 + Int.toNat col * 3 + 1, none⟩ fun I_4 =>
  LdStr w ⟨b1, o2 + Int.toNat col * 3 + 2, none⟩ fun S_5 =>
  S.table_codeVal IsStr_3 I_4 S_5 w (fun r6 w =>
  Ix row.a row.l pk fun b7 o8 =>
  LdB w ⟨b7, o8 + Int.toNat pk * 3, none⟩ fun IsStr_9 =>
  LdI .i64 w ⟨b7, o8 + Int.toNat pk * 3 + 1, none⟩ fun I_10 =>
  LdStr w ⟨b7, o8 + Int.toNat pk * 3 + 2, none⟩ fun S_11 =>
  S.table_codeVal IsStr_9 I_10 S_11 w (fun r12 w =>
  CatOk r6 r12 <|
  K (r6 ++ r12) w))
def T.C172 : CallT := (CallT.cons 232 T.c232 CallT.nil)
def T.A172 : Ann := fun _ => none
set_option maxRecDepth 1000000 in
theorem T.eq172 (row : Sl) (col : Int) (pk : Int) (w : World) (K : ByteArray → World → Prop) : denF Tryz.prog T.C172 T.A172 Tryz.f172 [.slice row.a row.l row.c, .int .i64 col, .int .i64 pk] w (fun v w' => match v with | .string r0 => K r0 w' | _ => False) = S.table_idxKey row col pk w K := by kernel_rfl
theorem T.CO172 : CallOk Tryz.prog T.C172 := (CallOk.cons 232 T.ok232 CallOk.nil)
def T.c172 (vs : List Value) (w : World) (K : Value → World → Prop) : Prop :=
  match vs with
  | [.slice rowa rowl rowc, .int .i64 col, .int .i64 pk] => S.table_idxKey ⟨rowa, rowl, rowc⟩ col pk w (fun r0 w' => K (.string r0) w')
  | _ => False
theorem T.ok172 : ∀ vs w K, T.c172 vs w K → (callFunc 172 vs.toArray).run Tryz.prog w = .ok (.enter 172 vs.toArray) w ∧ Calls Tryz.prog 172 vs.toArray w fun e w' => ∃ v, e = .returned v ∧ K v w' := by
  intro vs w K h
  unfold T.c172 at h
  split at h
  · refine ⟨Tryz.call172 _ _, ok_of T.CO172 mixed Tryz.func172 (T.eq172 _ _ _ _ _) h fun v w' hk => ⟨v, rfl, ?_⟩⟩
    split at hk
    · exact hk
    · exact hk.elim
  · exact h.elim

/-- (*e2e/table.Store).Insert (function 152). -/
def S.table_Store_Insert (t : Nat) (name : ByteArray) (row : Sl) (w : World) (K : Int → World → Prop) : Prop :=
  S.table_Store_loadTxn t name w (fun ncols_1 pk_2 index_3 rows_4 idx_5 Name_6 Cols_7 PK_8 Index_9 r10 w =>
  New w (.cells #[.int .i64 0, .int .i64 0, .int .i64 0, .int .i64 0, .int .i64 0] 214) fun p11 w =>
  New w (.cells #[.string ⟨#[]⟩, .slice none 0 0, .int .i64 0, .int .i64 0] 73) fun p12 w =>
  St1 w ⟨p11, 0, none⟩ (.int .i64 ncols_1) fun w =>
  St1 w ⟨p11, 1, none⟩ (.int .i64 pk_2) fun w =>
  St1 w ⟨p11, 2, none⟩ (.int .i64 index_3) fun w =>
  St1 w ⟨p11, 3, none⟩ (.int .i64 rows_4) fun w =>
  St1 w ⟨p11, 4, none⟩ (.int .i64 idx_5) fun w =>
  St1 w ⟨p12, 0, none⟩ (.string Name_6) fun w =>
  St1 w ⟨p12, 1, none⟩ (.slice Cols_7.a Cols_7.l Cols_7.c) fun w =>
  St1 w ⟨p12, 2, none⟩ (.int .i64 PK_8) fun w =>
  St1 w ⟨p12, 3, none⟩ (.int .i64 Index_9) fun w =>
  if (r10 != 0) = true then
    K r10 w
  else
    LdStr w ⟨p12, 0, none⟩ fun Name_13 =>
    LdS w ⟨p12, 1, none⟩ fun Cols_14 =>
    LdI .i64 w ⟨p12, 2, none⟩ fun PK_15 =>
    LdI .i64 w ⟨p12, 3, none⟩ fun Index_16 =>
    S.api_CheckRow Name_13 Cols_14 PK_15 Index_16 row w (fun r17 w =>
    if (r17 != 0) = true then
      K r17 w
    else
      LdI .i64 w ⟨p11, 1, none⟩ fun pk_18 =>
      Ix row.a row.l pk_18 fun b19 o20 =>
      LdB w ⟨b19, o20 + Int.toNat pk_18 * 3, none⟩ fun IsStr_21 =>
      LdI .i64 w ⟨b19, o20 + Int.toNat pk_18 * 3 + 1, none⟩ fun I_22 =>
      LdStr w ⟨b19, o20 + Int.toNat pk_18 * 3 + 2, none⟩ fun S_23 =>
      S.table_codeVal IsStr_21 I_22 S_23 w (fun r24 w =>
      LdI .i64 w ⟨p11, 0, none⟩ fun ncols_25 =>
      LdI .i64 w ⟨p11, 1, none⟩ fun pk_26 =>
      LdI .i64 w ⟨p11, 2, none⟩ fun index_27 =>
      LdI .i64 w ⟨p11, 3, none⟩ fun rows_28 =>
      LdI .i64 w ⟨p11, 4, none⟩ fun idx_29 =>
      LdStr w ⟨p12, 0, none⟩ fun Name_30 =>
      LdS w ⟨p12, 1, none⟩ fun Cols_31 =>
      LdI .i64 w ⟨p12, 2, none⟩ fun PK_32 =>
      LdI .i64 w ⟨p12, 3, none⟩ fun Index_33 =>
      S.table_Store_fetch t ncols_25 pk_26 index_27 rows_28 idx_29 Name_30 Cols_31 PK_32 Index_33 r24 w (fun r34 r35 w =>
      if (r35 == 0) = true then
        K 17 w
      else
        if (r35 != 9) = true then
          K r35 w
        else
          LdI .i64 w ⟨p11, 3, none⟩ fun rows_36 =>
          S.table_Store_all t rows_36 w (fun r37 w =>
          if (decide ((r37.l : Int) ≥ 8)) = true then
            K 6 w
          else
            LdI .i64 w ⟨p11, 1, none⟩ fun pk_38 =>
            S.table_restOf row pk_38 w (fun r39 w =>
            Drew w fun w =>
            LdP w ⟨t, 0, none⟩ fun f_40 =>
            LdI .i64 w ⟨p11, 3, none⟩ fun rows_41 =>
            S.btree_Forest_Insert f_40 rows_41 r24 r39 w (fun r42 w =>
            S.table_fold 0 r42 w (fun r43 w =>
            LdI .i64 w ⟨p11, 4, none⟩ fun idx_44 =>
            if (decide (idx_44 ≥ 0)) = true then
              LdI .i64 w ⟨p11, 2, none⟩ fun index_45 =>
              LdI .i64 w ⟨p11, 1, none⟩ fun pk_46 =>
              S.table_idxKey row index_45 pk_46 w (fun r47 w =>
              Drew w fun w =>
              LdP w ⟨t, 0, none⟩ fun f_48 =>
              LdI .i64 w ⟨p11, 4, none⟩ fun idx_49 =>
              S.btree_Forest_Insert f_48 idx_49 r47 (⟨#[]⟩ : ByteArray) w (fun r50 w =>
              S.table_fold r43 r50 w (fun r51 w =>
              K r51 w)))
            else
              K r43 w))))))))
def T.C152 : CallT := (CallT.cons 167 T.c167 (CallT.cons 235 T.c235 (CallT.cons 232 T.c232 (CallT.cons 233 T.c233 (CallT.cons 170 T.c170 (CallT.cons 236 T.c236 (CallT.cons 164 T.c164 (CallT.cons 165 T.c165 (CallT.cons 172 T.c172 CallT.nil)))))))))
def T.A152 : Ann := fun _ => none
set_option maxRecDepth 1000000 in
theorem T.eq152 (t : Nat) (name : ByteArray) (row : Sl) (w : World) (K : Int → World → Prop) : denF Tryz.prog T.C152 T.A152 Tryz.f152 [.pointer (some ⟨t, 0, none⟩), .string name, .slice row.a row.l row.c] w (fun v w' => match v with | .int .i64 r0 => K r0 w' | _ => False) = S.table_Store_Insert t name row w K := by kernel_rfl
theorem T.CO152 : CallOk Tryz.prog T.C152 := (CallOk.cons 167 T.ok167 (CallOk.cons 235 T.ok235 (CallOk.cons 232 T.ok232 (CallOk.cons 233 T.ok233 (CallOk.cons 170 T.ok170 (CallOk.cons 236 T.ok236 (CallOk.cons 164 T.ok164 (CallOk.cons 165 T.ok165 (CallOk.cons 172 T.ok172 CallOk.nil)))))))))
def T.c152 (vs : List Value) (w : World) (K : Value → World → Prop) : Prop :=
  match vs with
  | [.pointer (some ⟨t, 0, none⟩), .string name, .slice rowa rowl rowc] => S.table_Store_Insert t name ⟨rowa, rowl, rowc⟩ w (fun r0 w' => K (.int .i64 r0) w')
  | _ => False
theorem T.ok152 : ∀ vs w K, T.c152 vs w K → (callFunc 152 vs.toArray).run Tryz.prog w = .ok (.enter 152 vs.toArray) w ∧ Calls Tryz.prog 152 vs.toArray w fun e w' => ∃ v, e = .returned v ∧ K v w' := by
  intro vs w K h
  unfold T.c152 at h
  split at h
  · refine ⟨Tryz.call152 _ _, ok_of T.CO152 mixed Tryz.func152 (T.eq152 _ _ _ _ _) h fun v w' hk => ⟨v, rfl, ?_⟩⟩
    split at hk
    · exact hk
    · exact hk.elim
  · exact h.elim

/-- e2e/btree.leafCut (function 293). -/
def S.btree_leafCut (nd_kind : Int) (nd_n : Int) (nd_keys : ByteArray) (nd_keys_ : ByteArray) (nd_keys__ : ByteArray) (nd_keys___ : ByteArray) (nd_vals : ByteArray) (nd_vals_ : ByteArray) (nd_vals__ : ByteArray) (nd_vals___ : ByteArray) (nd_kids : Int) (nd_kids_ : Int) (nd_kids__ : Int) (nd_kids___ : Int) (nd_kids____ : Int) (i : Int) (w : World) (K : Int → Int → ByteArray → ByteArray → ByteArray → ByteArray → ByteArray → ByteArray → ByteArray → ByteArray → Int → Int → Int → Int → Int → World → Prop) : Prop :=
  New w (.cells #[.int .i64 nd_kind, .int .i64 nd_n, .string nd_keys, .string nd_keys_, .string nd_keys__, .string nd_keys___, .string nd_vals, .string nd_vals_, .string nd_vals__, .string nd_vals___, .int .i64 nd_kids, .int .i64 nd_kids_, .int .i64 nd_kids__, .int .i64 nd_kids___, .int .i64 nd_kids____] 289) fun p1 w =>
  New w (.cells #[.int .i64 0, .int .i64 0, .string ⟨#[]⟩, .string ⟨#[]⟩, .string ⟨#[]⟩, .string ⟨#[]⟩, .string ⟨#[]⟩, .string ⟨#[]⟩, .string ⟨#[]⟩, .string ⟨#[]⟩, .int .i64 0, .int .i64 0, .int .i64 0, .int .i64 0, .int .i64 0] 289) fun p2 w =>
  Join (fun (w : World) =>
    LdI .i64 w ⟨p1, 1, none⟩ fun n_3 =>
    St1 w ⟨p1, 1, none⟩ (.int .i64 (W (n_3 - 1))) fun w =>
    LdI .i64 w ⟨p1, 0, none⟩ fun kind_4 =>
    LdI .i64 w ⟨p1, 1, none⟩ fun n_5 =>
    LdStr w ⟨p1, 2, none⟩ fun keys_6 =>
    LdStr w ⟨p1, 3, none⟩ fun keys_7 =>
    LdStr w ⟨p1, 4, none⟩ fun keys_8 =>
    LdStr w ⟨p1, 5, none⟩ fun keys_9 =>
    LdStr w ⟨p1, 6, none⟩ fun vals_10 =>
    LdStr w ⟨p1, 7, none⟩ fun vals_11 =>
    LdStr w ⟨p1, 8, none⟩ fun vals_12 =>
    LdStr w ⟨p1, 9, none⟩ fun vals_13 =>
    LdI .i64 w ⟨p1, 10, none⟩ fun kids_14 =>
    LdI .i64 w ⟨p1, 11, none⟩ fun kids_15 =>
    LdI .i64 w ⟨p1, 12, none⟩ fun kids_16 =>
    LdI .i64 w ⟨p1, 13, none⟩ fun kids_17 =>
    LdI .i64 w ⟨p1, 14, none⟩ fun kids_18 =>
    St1 w ⟨p2, 0, none⟩ (.int .i64 kind_4) fun w =>
    St1 w ⟨p2, 1, none⟩ (.int .i64 n_5) fun w =>
    St1 w ⟨p2, 2, none⟩ (.string keys_6) fun w =>
    St1 w ⟨p2, 3, none⟩ (.string keys_7) fun w =>
    St1 w ⟨p2, 4, none⟩ (.string keys_8) fun w =>
    St1 w ⟨p2, 5, none⟩ (.string keys_9) fun w =>
    St1 w ⟨p2, 6, none⟩ (.string vals_10) fun w =>
    St1 w ⟨p2, 7, none⟩ (.string vals_11) fun w =>
    St1 w ⟨p2, 8, none⟩ (.string vals_12) fun w =>
    St1 w ⟨p2, 9, none⟩ (.string vals_13) fun w =>
    St1 w ⟨p2, 10, none⟩ (.int .i64 kids_14) fun w =>
    St1 w ⟨p2, 11, none⟩ (.int .i64 kids_15) fun w =>
    St1 w ⟨p2, 12, none⟩ (.int .i64 kids_16) fun w =>
    St1 w ⟨p2, 13, none⟩ (.int .i64 kids_17) fun w =>
    St1 w ⟨p2, 14, none⟩ (.int .i64 kids_18) fun w =>
    LdI .i64 w ⟨p2, 0, none⟩ fun kind_19 =>
    LdI .i64 w ⟨p2, 1, none⟩ fun n_20 =>
    LdStr w ⟨p2, 2, none⟩ fun keys_21 =>
    LdStr w ⟨p2, 3, none⟩ fun keys_22 =>
    LdStr w ⟨p2, 4, none⟩ fun keys_23 =>
    LdStr w ⟨p2, 5, none⟩ fun keys_24 =>
    LdStr w ⟨p2, 6, none⟩ fun vals_25 =>
    LdStr w ⟨p2, 7, none⟩ fun vals_26 =>
    LdStr w ⟨p2, 8, none⟩ fun vals_27 =>
    LdStr w ⟨p2, 9, none⟩ fun vals_28 =>
    LdI .i64 w ⟨p2, 10, none⟩ fun kids_29 =>
    LdI .i64 w ⟨p2, 11, none⟩ fun kids_30 =>
    LdI .i64 w ⟨p2, 12, none⟩ fun kids_31 =>
    LdI .i64 w ⟨p2, 13, none⟩ fun kids_32 =>
    LdI .i64 w ⟨p2, 14, none⟩ fun kids_33 =>
    K kind_19 n_20 keys_21 keys_22 keys_23 keys_24 vals_25 vals_26 vals_27 vals_28 kids_29 kids_30 kids_31 kids_32 kids_33 w) fun J34 =>
  LoopP (σ := Int × Unit) (fun st35 w next36 =>
    LdI .i64 w ⟨p1, 1, none⟩ fun n_37 =>
    if (decide ((W (st35.1 + 1)) < n_37)) = true then
      IxA 4 (W (st35.1 + 1)) <|
      LdStr w ⟨p1, 2 + Int.toNat (W (st35.1 + 1)) * 1, none⟩ fun keys_38 =>
      IxA 4 st35.1 <|
      St1 w ⟨p1, 2 + Int.toNat st35.1 * 1, none⟩ (.string keys_38) fun w =>
      IxA 4 (W (st35.1 + 1)) <|
      LdStr w ⟨p1, 6 + Int.toNat (W (st35.1 + 1)) * 1, none⟩ fun vals_39 =>
      IxA 4 st35.1 <|
      St1 w ⟨p1, 6 + Int.toNat st35.1 * 1, none⟩ (.string vals_39) fun w =>
      Let (W (st35.1 + 1)) fun j_40 =>
      next36 (j_40, ()) w
    else
      J34 w) (i, ()) w
def T.C293 : CallT := CallT.nil
def T.A293 : Ann := fun i => bif Nat.beq i 2 then some ([2, 4], [(5, 0)]) else none
set_option maxRecDepth 1000000 in
theorem T.eq293 (nd_kind : Int) (nd_n : Int) (nd_keys : ByteArray) (nd_keys_ : ByteArray) (nd_keys__ : ByteArray) (nd_keys___ : ByteArray) (nd_vals : ByteArray) (nd_vals_ : ByteArray) (nd_vals__ : ByteArray) (nd_vals___ : ByteArray) (nd_kids : Int) (nd_kids_ : Int) (nd_kids__ : Int) (nd_kids___ : Int) (nd_kids____ : Int) (i : Int) (w : World) (K : Int → Int → ByteArray → ByteArray → ByteArray → ByteArray → ByteArray → ByteArray → ByteArray → ByteArray → Int → Int → Int → Int → Int → World → Prop) : denF Tryz.prog T.C293 T.A293 Tryz.f293 [.agg #[.int .i64 nd_kind, .int .i64 nd_n, .string nd_keys, .string nd_keys_, .string nd_keys__, .string nd_keys___, .string nd_vals, .string nd_vals_, .string nd_vals__, .string nd_vals___, .int .i64 nd_kids, .int .i64 nd_kids_, .int .i64 nd_kids__, .int .i64 nd_kids___, .int .i64 nd_kids____], .int .i64 i] w (fun v w' => match v with | .agg ⟨[.int .i64 r0, .int .i64 r1, .string r2, .string r3, .string r4, .string r5, .string r6, .string r7, .string r8, .string r9, .int .i64 r10, .int .i64 r11, .int .i64 r12, .int .i64 r13, .int .i64 r14]⟩ => K r0 r1 r2 r3 r4 r5 r6 r7 r8 r9 r10 r11 r12 r13 r14 w' | _ => False) = S.btree_leafCut nd_kind nd_n nd_keys nd_keys_ nd_keys__ nd_keys___ nd_vals nd_vals_ nd_vals__ nd_vals___ nd_kids nd_kids_ nd_kids__ nd_kids___ nd_kids____ i w K := by kernel_rfl
theorem T.CO293 : CallOk Tryz.prog T.C293 := CallOk.nil
def T.c293 (vs : List Value) (w : World) (K : Value → World → Prop) : Prop :=
  match vs with
  | [.agg ⟨[.int .i64 nd_kind, .int .i64 nd_n, .string nd_keys, .string nd_keys_, .string nd_keys__, .string nd_keys___, .string nd_vals, .string nd_vals_, .string nd_vals__, .string nd_vals___, .int .i64 nd_kids, .int .i64 nd_kids_, .int .i64 nd_kids__, .int .i64 nd_kids___, .int .i64 nd_kids____]⟩, .int .i64 i] => S.btree_leafCut nd_kind nd_n nd_keys nd_keys_ nd_keys__ nd_keys___ nd_vals nd_vals_ nd_vals__ nd_vals___ nd_kids nd_kids_ nd_kids__ nd_kids___ nd_kids____ i w (fun r0 r1 r2 r3 r4 r5 r6 r7 r8 r9 r10 r11 r12 r13 r14 w' => K (.agg #[.int .i64 r0, .int .i64 r1, .string r2, .string r3, .string r4, .string r5, .string r6, .string r7, .string r8, .string r9, .int .i64 r10, .int .i64 r11, .int .i64 r12, .int .i64 r13, .int .i64 r14]) w')
  | _ => False
theorem T.ok293 : ∀ vs w K, T.c293 vs w K → (callFunc 293 vs.toArray).run Tryz.prog w = .ok (.enter 293 vs.toArray) w ∧ Calls Tryz.prog 293 vs.toArray w fun e w' => ∃ v, e = .returned v ∧ K v w' := by
  intro vs w K h
  unfold T.c293 at h
  split at h
  · refine ⟨Tryz.call293 _ _, ok_of T.CO293 mixed Tryz.func293 (T.eq293 _ _ _ _ _ _ _ _ _ _ _ _ _ _ _ _ _ _) h fun v w' hk => ⟨v, rfl, ?_⟩⟩
    split at hk
    · exact hk
    · exact hk.elim
  · exact h.elim

/-- e2e/pager.clearBit (function 296). -/
def S.pager_clearBit (m : ByteArray) (n : Int) (w : World) (K : ByteArray → World → Prop) : Prop :=
  Drew w fun w =>
  IxStr m (Shr .i64 n 3) fun c1 =>
  S.pager_mask n w (fun r2 w =>
  Let (AndNot .u8 c1 r2) fun v_3 =>
  S.pager_with m (Shr .i64 n 3) v_3 w (fun r4 w =>
  K r4 w))
def T.C296 : CallT := (CallT.cons 317 T.c317 (CallT.cons 318 T.c318 CallT.nil))
def T.A296 : Ann := fun _ => none
set_option maxRecDepth 1000000 in
theorem T.eq296 (m : ByteArray) (n : Int) (w : World) (K : ByteArray → World → Prop) : denF Tryz.prog T.C296 T.A296 Tryz.f296 [.string m, .int .i64 n] w (fun v w' => match v with | .string r0 => K r0 w' | _ => False) = S.pager_clearBit m n w K := by kernel_rfl
theorem T.CO296 : CallOk Tryz.prog T.C296 := (CallOk.cons 317 T.ok317 (CallOk.cons 318 T.ok318 CallOk.nil))
def T.c296 (vs : List Value) (w : World) (K : Value → World → Prop) : Prop :=
  match vs with
  | [.string m, .int .i64 n] => S.pager_clearBit m n w (fun r0 w' => K (.string r0) w')
  | _ => False
theorem T.ok296 : ∀ vs w K, T.c296 vs w K → (callFunc 296 vs.toArray).run Tryz.prog w = .ok (.enter 296 vs.toArray) w ∧ Calls Tryz.prog 296 vs.toArray w fun e w' => ∃ v, e = .returned v ∧ K v w' := by
  intro vs w K h
  unfold T.c296 at h
  split at h
  · refine ⟨Tryz.call296 _ _, ok_of T.CO296 mixed Tryz.func296 (T.eq296 _ _ _ _) h fun v w' hk => ⟨v, rfl, ?_⟩⟩
    split at hk
    · exact hk
    · exact hk.elim
  · exact h.elim

/-- (*e2e/pager.Pager).retire (function 298). -/
def S.pager_Pager_retire (p : Nat) (f : Int) (w : World) (K : World → Prop) : Prop :=
  IxA 5 f <|
  St1 w ⟨p, 2 + Int.toNat f * 4, none⟩ (.int .i64 0) fun w =>
  St1 w ⟨p, 2 + Int.toNat f * 4 + 1, none⟩ (.bool false) fun w =>
  St1 w ⟨p, 2 + Int.toNat f * 4 + 2, none⟩ (.bool false) fun w =>
  St1 w ⟨p, 2 + Int.toNat f * 4 + 3, none⟩ (.string ⟨#[]⟩) fun w =>
  S.pager_Pager_place p f w (fun r1 w =>
  Join (fun (w : World) =>
    IxA 5 4 <|
    St1 w ⟨p, 22 + Int.toNat 4 * 1, none⟩ (.int .i64 f) fun w =>
    K w) fun J2 =>
  LoopP (σ := Int × Unit) (fun st3 w next4 =>
    if (decide (st3.1 < 4)) = true then
      Drew w fun w =>
      IxA 5 (W (st3.1 + 1)) <|
      LdI .i64 w ⟨p, 22 + Int.toNat (W (st3.1 + 1)) * 1, none⟩ fun order_5 =>
      IxA 5 st3.1 <|
      St1 w ⟨p, 22 + Int.toNat st3.1 * 1, none⟩ (.int .i64 order_5) fun w =>
      Let (W (st3.1 + 1)) fun i_6 =>
      next4 (i_6, ()) w
    else
      J2 w) (r1, ()) w)
def T.C298 : CallT := (CallT.cons 331 T.c331 CallT.nil)
def T.A298 : Ann := fun i => bif Nat.beq i 2 then some ([0, 1], [(4, 0)]) else none
set_option maxRecDepth 1000000 in
theorem T.eq298 (p : Nat) (f : Int) (w : World) (K : World → Prop) : denF Tryz.prog T.C298 T.A298 Tryz.f298 [.pointer (some ⟨p, 0, none⟩), .int .i64 f] w (fun v w' => match v with | .tuple ⟨[]⟩ => K w' | _ => False) = S.pager_Pager_retire p f w K := by kernel_rfl
theorem T.CO298 : CallOk Tryz.prog T.C298 := (CallOk.cons 331 T.ok331 CallOk.nil)
def T.c298 (vs : List Value) (w : World) (K : Value → World → Prop) : Prop :=
  match vs with
  | [.pointer (some ⟨p, 0, none⟩), .int .i64 f] => S.pager_Pager_retire p f w (fun w' => K (.tuple #[]) w')
  | _ => False
theorem T.ok298 : ∀ vs w K, T.c298 vs w K → (callFunc 298 vs.toArray).run Tryz.prog w = .ok (.enter 298 vs.toArray) w ∧ Calls Tryz.prog 298 vs.toArray w fun e w' => ∃ v, e = .returned v ∧ K v w' := by
  intro vs w K h
  unfold T.c298 at h
  split at h
  · refine ⟨Tryz.call298 _ _, ok_of T.CO298 mixed Tryz.func298 (T.eq298 _ _ _ _) h fun v w' hk => ⟨v, rfl, ?_⟩⟩
    split at hk
    · exact hk
    · exact hk.elim
  · exact h.elim

/-- (*e2e/pager.Pager).Free (function 255). -/
def S.pager_Pager_Free (p : Nat) (n : Int) (w : World) (K : Int → World → Prop) : Prop :=
  LdB w ⟨p, 1, none⟩ fun open_1 =>
  if (!open_1) = true then
    K 2 w
  else
    S.pager_Pager_Used p n w (fun r2 w =>
    if (!r2) = true then
      K 5 w
    else
      S.pager_Pager_read p 0 w (fun r3 r4 w =>
      if (r4 != 0) = true then
        K r4 w
      else
        S.pager_clearBit r3 n w (fun r5 w =>
        S.pager_Pager_write p 0 r5 w (fun r6 w =>
        if (r6 != 0) = true then
          K r6 w
        else
          S.pager_Pager_find p n w (fun r7 w =>
          if (decide (r7 ≥ 0)) = true then
            S.pager_Pager_retire p r7 w (fun w =>
            K 0 w)
          else
            K 0 w)))))
def T.C255 : CallT := (CallT.cons 217 T.c217 (CallT.cons 275 T.c275 (CallT.cons 296 T.c296 (CallT.cons 280 T.c280 (CallT.cons 297 T.c297 (CallT.cons 298 T.c298 CallT.nil))))))
def T.A255 : Ann := fun _ => none
set_option maxRecDepth 1000000 in
theorem T.eq255 (p : Nat) (n : Int) (w : World) (K : Int → World → Prop) : denF Tryz.prog T.C255 T.A255 Tryz.f255 [.pointer (some ⟨p, 0, none⟩), .int .i64 n] w (fun v w' => match v with | .int .i64 r0 => K r0 w' | _ => False) = S.pager_Pager_Free p n w K := by kernel_rfl
theorem T.CO255 : CallOk Tryz.prog T.C255 := (CallOk.cons 217 T.ok217 (CallOk.cons 275 T.ok275 (CallOk.cons 296 T.ok296 (CallOk.cons 280 T.ok280 (CallOk.cons 297 T.ok297 (CallOk.cons 298 T.ok298 CallOk.nil))))))
def T.c255 (vs : List Value) (w : World) (K : Value → World → Prop) : Prop :=
  match vs with
  | [.pointer (some ⟨p, 0, none⟩), .int .i64 n] => S.pager_Pager_Free p n w (fun r0 w' => K (.int .i64 r0) w')
  | _ => False
theorem T.ok255 : ∀ vs w K, T.c255 vs w K → (callFunc 255 vs.toArray).run Tryz.prog w = .ok (.enter 255 vs.toArray) w ∧ Calls Tryz.prog 255 vs.toArray w fun e w' => ∃ v, e = .returned v ∧ K v w' := by
  intro vs w K h
  unfold T.c255 at h
  split at h
  · refine ⟨Tryz.call255 _ _, ok_of T.CO255 mixed Tryz.func255 (T.eq255 _ _ _ _) h fun v w' hk => ⟨v, rfl, ?_⟩⟩
    split at hk
    · exact hk
    · exact hk.elim
  · exact h.elim

/-- e2e/btree.innerCut (function 329). -/
def S.btree_innerCut (nd_kind : Int) (nd_n : Int) (nd_keys : ByteArray) (nd_keys_ : ByteArray) (nd_keys__ : ByteArray) (nd_keys___ : ByteArray) (nd_vals : ByteArray) (nd_vals_ : ByteArray) (nd_vals__ : ByteArray) (nd_vals___ : ByteArray) (nd_kids : Int) (nd_kids_ : Int) (nd_kids__ : Int) (nd_kids___ : Int) (nd_kids____ : Int) (i : Int) (w : World) (K : Int → Int → ByteArray → ByteArray → ByteArray → ByteArray → ByteArray → ByteArray → ByteArray → ByteArray → Int → Int → Int → Int → Int → World → Prop) : Prop :=
  New w (.cells #[.int .i64 nd_kind, .int .i64 nd_n, .string nd_keys, .string nd_keys_, .string nd_keys__, .string nd_keys___, .string nd_vals, .string nd_vals_, .string nd_vals__, .string nd_vals___, .int .i64 nd_kids, .int .i64 nd_kids_, .int .i64 nd_kids__, .int .i64 nd_kids___, .int .i64 nd_kids____] 289) fun p1 w =>
  New w (.cells #[.int .i64 0, .int .i64 0, .string ⟨#[]⟩, .string ⟨#[]⟩, .string ⟨#[]⟩, .string ⟨#[]⟩, .string ⟨#[]⟩, .string ⟨#[]⟩, .string ⟨#[]⟩, .string ⟨#[]⟩, .int .i64 0, .int .i64 0, .int .i64 0, .int .i64 0, .int .i64 0] 289) fun p2 w =>
  Join (fun (w : World) =>
    LdI .i64 w ⟨p1, 1, none⟩ fun n_3 =>
    St1 w ⟨p1, 1, none⟩ (.int .i64 (W (n_3 - 1))) fun w =>
    LdI .i64 w ⟨p1, 0, none⟩ fun kind_4 =>
    LdI .i64 w ⟨p1, 1, none⟩ fun n_5 =>
    LdStr w ⟨p1, 2, none⟩ fun keys_6 =>
    LdStr w ⟨p1, 3, none⟩ fun keys_7 =>
    LdStr w ⟨p1, 4, none⟩ fun keys_8 =>
    LdStr w ⟨p1, 5, none⟩ fun keys_9 =>
    LdStr w ⟨p1, 6, none⟩ fun vals_10 =>
    LdStr w ⟨p1, 7, none⟩ fun vals_11 =>
    LdStr w ⟨p1, 8, none⟩ fun vals_12 =>
    LdStr w ⟨p1, 9, none⟩ fun vals_13 =>
    LdI .i64 w ⟨p1, 10, none⟩ fun kids_14 =>
    LdI .i64 w ⟨p1, 11, none⟩ fun kids_15 =>
    LdI .i64 w ⟨p1, 12, none⟩ fun kids_16 =>
    LdI .i64 w ⟨p1, 13, none⟩ fun kids_17 =>
    LdI .i64 w ⟨p1, 14, none⟩ fun kids_18 =>
    St1 w ⟨p2, 0, none⟩ (.int .i64 kind_4) fun w =>
    St1 w ⟨p2, 1, none⟩ (.int .i64 n_5) fun w =>
    St1 w ⟨p2, 2, none⟩ (.string keys_6) fun w =>
    St1 w ⟨p2, 3, none⟩ (.string keys_7) fun w =>
    St1 w ⟨p2, 4, none⟩ (.string keys_8) fun w =>
    St1 w ⟨p2, 5, none⟩ (.string keys_9) fun w =>
    St1 w ⟨p2, 6, none⟩ (.string vals_10) fun w =>
    St1 w ⟨p2, 7, none⟩ (.string vals_11) fun w =>
    St1 w ⟨p2, 8, none⟩ (.string vals_12) fun w =>
    St1 w ⟨p2, 9, none⟩ (.string vals_13) fun w =>
    St1 w ⟨p2, 10, none⟩ (.int .i64 kids_14) fun w =>
    St1 w ⟨p2, 11, none⟩ (.int .i64 kids_15) fun w =>
    St1 w ⟨p2, 12, none⟩ (.int .i64 kids_16) fun w =>
    St1 w ⟨p2, 13, none⟩ (.int .i64 kids_17) fun w =>
    St1 w ⟨p2, 14, none⟩ (.int .i64 kids_18) fun w =>
    LdI .i64 w ⟨p2, 0, none⟩ fun kind_19 =>
    LdI .i64 w ⟨p2, 1, none⟩ fun n_20 =>
    LdStr w ⟨p2, 2, none⟩ fun keys_21 =>
    LdStr w ⟨p2, 3, none⟩ fun keys_22 =>
    LdStr w ⟨p2, 4, none⟩ fun keys_23 =>
    LdStr w ⟨p2, 5, none⟩ fun keys_24 =>
    LdStr w ⟨p2, 6, none⟩ fun vals_25 =>
    LdStr w ⟨p2, 7, none⟩ fun vals_26 =>
    LdStr w ⟨p2, 8, none⟩ fun vals_27 =>
    LdStr w ⟨p2, 9, none⟩ fun vals_28 =>
    LdI .i64 w ⟨p2, 10, none⟩ fun kids_29 =>
    LdI .i64 w ⟨p2, 11, none⟩ fun kids_30 =>
    LdI .i64 w ⟨p2, 12, none⟩ fun kids_31 =>
    LdI .i64 w ⟨p2, 13, none⟩ fun kids_32 =>
    LdI .i64 w ⟨p2, 14, none⟩ fun kids_33 =>
    K kind_19 n_20 keys_21 keys_22 keys_23 keys_24 vals_25 vals_26 vals_27 vals_28 kids_29 kids_30 kids_31 kids_32 kids_33 w) fun J34 =>
  LoopP (σ := Int × Unit) (fun st35 w next36 =>
    LdI .i64 w ⟨p1, 1, none⟩ fun n_37 =>
    if (decide ((W (st35.1 + 2)) < n_37)) = true then
      IxA 4 (W (st35.1 + 1)) <|
      LdStr w ⟨p1, 2 + Int.toNat (W (st35.1 + 1)) * 1, none⟩ fun keys_38 =>
      IxA 4 st35.1 <|
      St1 w ⟨p1, 2 + Int.toNat st35.1 * 1, none⟩ (.string keys_38) fun w =>
      IxA 5 (W (st35.1 + 2)) <|
      LdI .i64 w ⟨p1, 10 + Int.toNat (W (st35.1 + 2)) * 1, none⟩ fun kids_39 =>
      IxA 5 (W (st35.1 + 1)) <|
      St1 w ⟨p1, 10 + Int.toNat (W (st35.1 + 1)) * 1, none⟩ (.int .i64 kids_39) fun w =>
      Let (W (st35.1 + 1)) fun j_40 =>
      next36 (j_40, ()) w
    else
      J34 w) (i, ()) w
def T.C329 : CallT := CallT.nil
def T.A329 : Ann := fun i => bif Nat.beq i 2 then some ([2, 4], [(5, 0)]) else none
set_option maxRecDepth 1000000 in
theorem T.eq329 (nd_kind : Int) (nd_n : Int) (nd_keys : ByteArray) (nd_keys_ : ByteArray) (nd_keys__ : ByteArray) (nd_keys___ : ByteArray) (nd_vals : ByteArray) (nd_vals_ : ByteArray) (nd_vals__ : ByteArray) (nd_vals___ : ByteArray) (nd_kids : Int) (nd_kids_ : Int) (nd_kids__ : Int) (nd_kids___ : Int) (nd_kids____ : Int) (i : Int) (w : World) (K : Int → Int → ByteArray → ByteArray → ByteArray → ByteArray → ByteArray → ByteArray → ByteArray → ByteArray → Int → Int → Int → Int → Int → World → Prop) : denF Tryz.prog T.C329 T.A329 Tryz.f329 [.agg #[.int .i64 nd_kind, .int .i64 nd_n, .string nd_keys, .string nd_keys_, .string nd_keys__, .string nd_keys___, .string nd_vals, .string nd_vals_, .string nd_vals__, .string nd_vals___, .int .i64 nd_kids, .int .i64 nd_kids_, .int .i64 nd_kids__, .int .i64 nd_kids___, .int .i64 nd_kids____], .int .i64 i] w (fun v w' => match v with | .agg ⟨[.int .i64 r0, .int .i64 r1, .string r2, .string r3, .string r4, .string r5, .string r6, .string r7, .string r8, .string r9, .int .i64 r10, .int .i64 r11, .int .i64 r12, .int .i64 r13, .int .i64 r14]⟩ => K r0 r1 r2 r3 r4 r5 r6 r7 r8 r9 r10 r11 r12 r13 r14 w' | _ => False) = S.btree_innerCut nd_kind nd_n nd_keys nd_keys_ nd_keys__ nd_keys___ nd_vals nd_vals_ nd_vals__ nd_vals___ nd_kids nd_kids_ nd_kids__ nd_kids___ nd_kids____ i w K := by kernel_rfl
theorem T.CO329 : CallOk Tryz.prog T.C329 := CallOk.nil
def T.c329 (vs : List Value) (w : World) (K : Value → World → Prop) : Prop :=
  match vs with
  | [.agg ⟨[.int .i64 nd_kind, .int .i64 nd_n, .string nd_keys, .string nd_keys_, .string nd_keys__, .string nd_keys___, .string nd_vals, .string nd_vals_, .string nd_vals__, .string nd_vals___, .int .i64 nd_kids, .int .i64 nd_kids_, .int .i64 nd_kids__, .int .i64 nd_kids___, .int .i64 nd_kids____]⟩, .int .i64 i] => S.btree_innerCut nd_kind nd_n nd_keys nd_keys_ nd_keys__ nd_keys___ nd_vals nd_vals_ nd_vals__ nd_vals___ nd_kids nd_kids_ nd_kids__ nd_kids___ nd_kids____ i w (fun r0 r1 r2 r3 r4 r5 r6 r7 r8 r9 r10 r11 r12 r13 r14 w' => K (.agg #[.int .i64 r0, .int .i64 r1, .string r2, .string r3, .string r4, .string r5, .string r6, .string r7, .string r8, .string r9, .int .i64 r10, .int .i64 r11, .int .i64 r12, .int .i64 r13, .int .i64 r14]) w')
  | _ => False
theorem T.ok329 : ∀ vs w K, T.c329 vs w K → (callFunc 329 vs.toArray).run Tryz.prog w = .ok (.enter 329 vs.toArray) w ∧ Calls Tryz.prog 329 vs.toArray w fun e w' => ∃ v, e = .returned v ∧ K v w' := by
  intro vs w K h
  unfold T.c329 at h
  split at h
  · refine ⟨Tryz.call329 _ _, ok_of T.CO329 mixed Tryz.func329 (T.eq329 _ _ _ _ _ _ _ _ _ _ _ _ _ _ _ _ _ _) h fun v w' hk => ⟨v, rfl, ?_⟩⟩
    split at hk
    · exact hk
    · exact hk.elim
  · exact h.elim

/-- e2e/btree.join (function 328). -/
def S.btree_join (l_kind : Int) (l_n : Int) (l_keys : ByteArray) (l_keys_ : ByteArray) (l_keys__ : ByteArray) (l_keys___ : ByteArray) (l_vals : ByteArray) (l_vals_ : ByteArray) (l_vals__ : ByteArray) (l_vals___ : ByteArray) (l_kids : Int) (l_kids_ : Int) (l_kids__ : Int) (l_kids___ : Int) (l_kids____ : Int) (r_kind : Int) (r_n : Int) (r_keys : ByteArray) (r_keys_ : ByteArray) (r_keys__ : ByteArray) (r_keys___ : ByteArray) (r_vals : ByteArray) (r_vals_ : ByteArray) (r_vals__ : ByteArray) (r_vals___ : ByteArray) (r_kids : Int) (r_kids_ : Int) (r_kids__ : Int) (r_kids___ : Int) (r_kids____ : Int) (sep : ByteArray) (w : World) (K : Int → Int → ByteArray → ByteArray → ByteArray → ByteArray → ByteArray → ByteArray → ByteArray → ByteArray → Int → Int → Int → Int → Int → World → Prop) : Prop :=
  New w (.cells #[.int .i64 l_kind, .int .i64 l_n, .string l_keys, .string l_keys_, .string l_keys__, .string l_keys___, .string l_vals, .string l_vals_, .string l_vals__, .string l_vals___, .int .i64 l_kids, .int .i64 l_kids_, .int .i64 l_kids__, .int .i64 l_kids___, .int .i64 l_kids____] 289) fun p1 w =>
  New w (.cells #[.int .i64 r_kind, .int .i64 r_n, .string r_keys, .string r_keys_, .string r_keys__, .string r_keys___, .string r_vals, .string r_vals_, .string r_vals__, .string r_vals___, .int .i64 r_kids, .int .i64 r_kids_, .int .i64 r_kids__, .int .i64 r_kids___, .int .i64 r_kids____] 289) fun p2 w =>
  New w (.cells #[.int .i64 0, .int .i64 0, .string ⟨#[]⟩, .string ⟨#[]⟩, .string ⟨#[]⟩, .string ⟨#[]⟩, .string ⟨#[]⟩, .string ⟨#[]⟩, .string ⟨#[]⟩, .string ⟨#[]⟩, .int .i64 0, .int .i64 0, .int .i64 0, .int .i64 0, .int .i64 0] 289) fun p3 w =>
  LdI .i64 w ⟨p1, 0, none⟩ fun kind_4 =>
  if (kind_4 == 1) = true then
    Join (fun (w : World) =>
      LdI .i64 w ⟨p1, 1, none⟩ fun n_5 =>
      LdI .i64 w ⟨p2, 1, none⟩ fun n_6 =>
      St1 w ⟨p1, 1, none⟩ (.int .i64 (W (n_5 + n_6))) fun w =>
      LdI .i64 w ⟨p1, 0, none⟩ fun kind_7 =>
      LdI .i64 w ⟨p1, 1, none⟩ fun n_8 =>
      LdStr w ⟨p1, 2, none⟩ fun keys_9 =>
      LdStr w ⟨p1, 3, none⟩ fun keys_10 =>
      LdStr w ⟨p1, 4, none⟩ fun keys_11 =>
      LdStr w ⟨p1, 5, none⟩ fun keys_12 =>
      LdStr w ⟨p1, 6, none⟩ fun vals_13 =>
      LdStr w ⟨p1, 7, none⟩ fun vals_14 =>
      LdStr w ⟨p1, 8, none⟩ fun vals_15 =>
      LdStr w ⟨p1, 9, none⟩ fun vals_16 =>
      LdI .i64 w ⟨p1, 10, none⟩ fun kids_17 =>
      LdI .i64 w ⟨p1, 11, none⟩ fun kids_18 =>
      LdI .i64 w ⟨p1, 12, none⟩ fun kids_19 =>
      LdI .i64 w ⟨p1, 13, none⟩ fun kids_20 =>
      LdI .i64 w ⟨p1, 14, none⟩ fun kids_21 =>
      St1 w ⟨p3, 0, none⟩ (.int .i64 kind_7) fun w =>
      St1 w ⟨p3, 1, none⟩ (.int .i64 n_8) fun w =>
      St1 w ⟨p3, 2, none⟩ (.string keys_9) fun w =>
      St1 w ⟨p3, 3, none⟩ (.string keys_10) fun w =>
      St1 w ⟨p3, 4, none⟩ (.string keys_11) fun w =>
      St1 w ⟨p3, 5, none⟩ (.string keys_12) fun w =>
      St1 w ⟨p3, 6, none⟩ (.string vals_13) fun w =>
      St1 w ⟨p3, 7, none⟩ (.string vals_14) fun w =>
      St1 w ⟨p3, 8, none⟩ (.string vals_15) fun w =>
      St1 w ⟨p3, 9, none⟩ (.string vals_16) fun w =>
      St1 w ⟨p3, 10, none⟩ (.int .i64 kids_17) fun w =>
      St1 w ⟨p3, 11, none⟩ (.int .i64 kids_18) fun w =>
      St1 w ⟨p3, 12, none⟩ (.int .i64 kids_19) fun w =>
      St1 w ⟨p3, 13, none⟩ (.int .i64 kids_20) fun w =>
      St1 w ⟨p3, 14, none⟩ (.int .i64 kids_21) fun w =>
      LdI .i64 w ⟨p3, 0, none⟩ fun kind_22 =>
      LdI .i64 w ⟨p3, 1, none⟩ fun n_23 =>
      LdStr w ⟨p3, 2, none⟩ fun keys_24 =>
      LdStr w ⟨p3, 3, none⟩ fun keys_25 =>
      LdStr w ⟨p3, 4, none⟩ fun keys_26 =>
      LdStr w ⟨p3, 5, none⟩ fun keys_27 =>
      LdStr w ⟨p3, 6, none⟩ fun vals_28 =>
      LdStr w ⟨p3, 7, none⟩ fun vals_29 =>
      LdStr w ⟨p3, 8, none⟩ fun vals_30 =>
      LdStr w ⟨p3, 9, none⟩ fun vals_31 =>
      LdI .i64 w ⟨p3, 10, none⟩ fun kids_32 =>
      LdI .i64 w ⟨p3, 11, none⟩ fun kids_33 =>
      LdI .i64 w ⟨p3, 12, none⟩ fun kids_34 =>
      LdI .i64 w ⟨p3, 13, none⟩ fun kids_35 =>
      LdI .i64 w ⟨p3, 14, none⟩ fun kids_36 =>
      K kind_22 n_23 keys_24 keys_25 keys_26 keys_27 vals_28 vals_29 vals_30 vals_31 kids_32 kids_33 kids_34 kids_35 kids_36 w) fun J37 =>
    LoopP (σ := Int × Unit) (fun st38 w next39 =>
      LdI .i64 w ⟨p2, 1, none⟩ fun n_40 =>
      if (decide (st38.1 < n_40)) = true then
        Drew w fun w =>
        LdI .i64 w ⟨p1, 1, none⟩ fun n_41 =>
        IxA 4 st38.1 <|
        LdStr w ⟨p2, 2 + Int.toNat st38.1 * 1, none⟩ fun keys_42 =>
        IxA 4 (W (n_41 + st38.1)) <|
        St1 w ⟨p1, 2 + Int.toNat (W (n_41 + st38.1)) * 1, none⟩ (.string keys_42) fun w =>
        Drew w fun w =>
        LdI .i64 w ⟨p1, 1, none⟩ fun n_43 =>
        IxA 4 st38.1 <|
        LdStr w ⟨p2, 6 + Int.toNat st38.1 * 1, none⟩ fun vals_44 =>
        IxA 4 (W (n_43 + st38.1)) <|
        St1 w ⟨p1, 6 + Int.toNat (W (n_43 + st38.1)) * 1, none⟩ (.string vals_44) fun w =>
        Let (W (st38.1 + 1)) fun j_45 =>
        next39 (j_45, ()) w
      else
        J37 w) (0, ()) w
  else
    LdI .i64 w ⟨p1, 1, none⟩ fun n_46 =>
    IxA 4 (W (n_46 - 1)) <|
    St1 w ⟨p1, 2 + Int.toNat (W (n_46 - 1)) * 1, none⟩ (.string sep) fun w =>
    Join (fun (w : World) =>
      Join (fun (w : World) =>
        LdI .i64 w ⟨p1, 1, none⟩ fun n_47 =>
        LdI .i64 w ⟨p2, 1, none⟩ fun n_48 =>
        St1 w ⟨p1, 1, none⟩ (.int .i64 (W (n_47 + n_48))) fun w =>
        LdI .i64 w ⟨p1, 0, none⟩ fun kind_49 =>
        LdI .i64 w ⟨p1, 1, none⟩ fun n_50 =>
        LdStr w ⟨p1, 2, none⟩ fun keys_51 =>
        LdStr w ⟨p1, 3, none⟩ fun keys_52 =>
        LdStr w ⟨p1, 4, none⟩ fun keys_53 =>
        LdStr w ⟨p1, 5, none⟩ fun keys_54 =>
        LdStr w ⟨p1, 6, none⟩ fun vals_55 =>
        LdStr w ⟨p1, 7, none⟩ fun vals_56 =>
        LdStr w ⟨p1, 8, none⟩ fun vals_57 =>
        LdStr w ⟨p1, 9, none⟩ fun vals_58 =>
        LdI .i64 w ⟨p1, 10, none⟩ fun kids_59 =>
        LdI .i64 w ⟨p1, 11, none⟩ fun kids_60 =>
        LdI .i64 w ⟨p1, 12, none⟩ fun kids_61 =>
        LdI .i64 w ⟨p1, 13, none⟩ fun kids_62 =>
        LdI .i64 w ⟨p1, 14, none⟩ fun kids_63 =>
        St1 w ⟨p3, 0, none⟩ (.int .i64 kind_49) fun w =>
        St1 w ⟨p3, 1, none⟩ (.int .i64 n_50) fun w =>
        St1 w ⟨p3, 2, none⟩ (.string keys_51) fun w =>
        St1 w ⟨p3, 3, none⟩ (.string keys_52) fun w =>
        St1 w ⟨p3, 4, none⟩ (.string keys_53) fun w =>
        St1 w ⟨p3, 5, none⟩ (.string keys_54) fun w =>
        St1 w ⟨p3, 6, none⟩ (.string vals_55) fun w =>
        St1 w ⟨p3, 7, none⟩ (.string vals_56) fun w =>
        St1 w ⟨p3, 8, none⟩ (.string vals_57) fun w =>
        St1 w ⟨p3, 9, none⟩ (.string vals_58) fun w =>
        St1 w ⟨p3, 10, none⟩ (.int .i64 kids_59) fun w =>
        St1 w ⟨p3, 11, none⟩ (.int .i64 kids_60) fun w =>
        St1 w ⟨p3, 12, none⟩ (.int .i64 kids_61) fun w =>
        St1 w ⟨p3, 13, none⟩ (.int .i64 kids_62) fun w =>
        St1 w ⟨p3, 14, none⟩ (.int .i64 kids_63) fun w =>
        LdI .i64 w ⟨p3, 0, none⟩ fun kind_64 =>
        LdI .i64 w ⟨p3, 1, none⟩ fun n_65 =>
        LdStr w ⟨p3, 2, none⟩ fun keys_66 =>
        LdStr w ⟨p3, 3, none⟩ fun keys_67 =>
        LdStr w ⟨p3, 4, none⟩ fun keys_68 =>
        LdStr w ⟨p3, 5, none⟩ fun keys_69 =>
        LdStr w ⟨p3, 6, none⟩ fun vals_70 =>
        LdStr w ⟨p3, 7, none⟩ fun vals_71 =>
        LdStr w ⟨p3, 8, none⟩ fun vals_72 =>
        LdStr w ⟨p3, 9, none⟩ fun vals_73 =>
        LdI .i64 w ⟨p3, 10, none⟩ fun kids_74 =>
        LdI .i64 w ⟨p3, 11, none⟩ fun kids_75 =>
        LdI .i64 w ⟨p3, 12, none⟩ fun kids_76 =>
        LdI .i64 w ⟨p3, 13, none⟩ fun kids_77 =>
        LdI .i64 w ⟨p3, 14, none⟩ fun kids_78 =>
        K kind_64 n_65 keys_66 keys_67 keys_68 keys_69 vals_70 vals_71 vals_72 vals_73 kids_74 kids_75 kids_76 kids_77 kids_78 w) fun J79 =>
      LoopP (σ := Int × Unit) (fun st80 w next81 =>
        LdI .i64 w ⟨p2, 1, none⟩ fun n_82 =>
        if (decide ((W (st80.1 + 1)) < n_82)) = true then
          Drew w fun w =>
          LdI .i64 w ⟨p1, 1, none⟩ fun n_83 =>
          IxA 4 st80.1 <|
          LdStr w ⟨p2, 2 + Int.toNat st80.1 * 1, none⟩ fun keys_84 =>
          IxA 4 (W (n_83 + st80.1)) <|
          St1 w ⟨p1, 2 + Int.toNat (W (n_83 + st80.1)) * 1, none⟩ (.string keys_84) fun w =>
          Let (W (st80.1 + 1)) fun j_85 =>
          next81 (j_85, ()) w
        else
          J79 w) (0, ()) w) fun J86 =>
    LoopP (σ := Int × Unit) (fun st87 w next88 =>
      LdI .i64 w ⟨p2, 1, none⟩ fun n_89 =>
      if (decide (st87.1 < n_89)) = true then
        Drew w fun w =>
        LdI .i64 w ⟨p1, 1, none⟩ fun n_90 =>
        IxA 5 st87.1 <|
        LdI .i64 w ⟨p2, 10 + Int.toNat st87.1 * 1, none⟩ fun kids_91 =>
        IxA 5 (W (n_90 + st87.1)) <|
        St1 w ⟨p1, 10 + Int.toNat (W (n_90 + st87.1)) * 1, none⟩ (.int .i64 kids_91) fun w =>
        Let (W (st87.1 + 1)) fun j_92 =>
        next88 (j_92, ()) w
      else
        J86 w) (0, ()) w
def T.C328 : CallT := CallT.nil
def T.A328 : Ann := fun i => bif Nat.beq i 11 then some ([3, 4, 6], [(8, 0)]) else bif Nat.beq i 15 then some ([3, 4, 6], [(9, 0)]) else bif Nat.beq i 3 then some ([3, 4, 6], [(7, 0)]) else none
set_option maxRecDepth 1000000 in
theorem T.eq328 (l_kind : Int) (l_n : Int) (l_keys : ByteArray) (l_keys_ : ByteArray) (l_keys__ : ByteArray) (l_keys___ : ByteArray) (l_vals : ByteArray) (l_vals_ : ByteArray) (l_vals__ : ByteArray) (l_vals___ : ByteArray) (l_kids : Int) (l_kids_ : Int) (l_kids__ : Int) (l_kids___ : Int) (l_kids____ : Int) (r_kind : Int) (r_n : Int) (r_keys : ByteArray) (r_keys_ : ByteArray) (r_keys__ : ByteArray) (r_keys___ : ByteArray) (r_vals : ByteArray) (r_vals_ : ByteArray) (r_vals__ : ByteArray) (r_vals___ : ByteArray) (r_kids : Int) (r_kids_ : Int) (r_kids__ : Int) (r_kids___ : Int) (r_kids____ : Int) (sep : ByteArray) (w : World) (K : Int → Int → ByteArray → ByteArray → ByteArray → ByteArray → ByteArray → ByteArray → ByteArray → ByteArray → Int → Int → Int → Int → Int → World → Prop) : denF Tryz.prog T.C328 T.A328 Tryz.f328 [.agg #[.int .i64 l_kind, .int .i64 l_n, .string l_keys, .string l_keys_, .string l_keys__, .string l_keys___, .string l_vals, .string l_vals_, .string l_vals__, .string l_vals___, .int .i64 l_kids, .int .i64 l_kids_, .int .i64 l_kids__, .int .i64 l_kids___, .int .i64 l_kids____], .agg #[.int .i64 r_kind, .int .i64 r_n, .string r_keys, .string r_keys_, .string r_keys__, .string r_keys___, .string r_vals, .string r_vals_, .string r_vals__, .string r_vals___, .int .i64 r_kids, .int .i64 r_kids_, .int .i64 r_kids__, .int .i64 r_kids___, .int .i64 r_kids____], .string sep] w (fun v w' => match v with | .agg ⟨[.int .i64 r0, .int .i64 r1, .string r2, .string r3, .string r4, .string r5, .string r6, .string r7, .string r8, .string r9, .int .i64 r10, .int .i64 r11, .int .i64 r12, .int .i64 r13, .int .i64 r14]⟩ => K r0 r1 r2 r3 r4 r5 r6 r7 r8 r9 r10 r11 r12 r13 r14 w' | _ => False) = S.btree_join l_kind l_n l_keys l_keys_ l_keys__ l_keys___ l_vals l_vals_ l_vals__ l_vals___ l_kids l_kids_ l_kids__ l_kids___ l_kids____ r_kind r_n r_keys r_keys_ r_keys__ r_keys___ r_vals r_vals_ r_vals__ r_vals___ r_kids r_kids_ r_kids__ r_kids___ r_kids____ sep w K := by kernel_rfl
theorem T.CO328 : CallOk Tryz.prog T.C328 := CallOk.nil
def T.c328 (vs : List Value) (w : World) (K : Value → World → Prop) : Prop :=
  match vs with
  | [.agg ⟨[.int .i64 l_kind, .int .i64 l_n, .string l_keys, .string l_keys_, .string l_keys__, .string l_keys___, .string l_vals, .string l_vals_, .string l_vals__, .string l_vals___, .int .i64 l_kids, .int .i64 l_kids_, .int .i64 l_kids__, .int .i64 l_kids___, .int .i64 l_kids____]⟩, .agg ⟨[.int .i64 r_kind, .int .i64 r_n, .string r_keys, .string r_keys_, .string r_keys__, .string r_keys___, .string r_vals, .string r_vals_, .string r_vals__, .string r_vals___, .int .i64 r_kids, .int .i64 r_kids_, .int .i64 r_kids__, .int .i64 r_kids___, .int .i64 r_kids____]⟩, .string sep] => S.btree_join l_kind l_n l_keys l_keys_ l_keys__ l_keys___ l_vals l_vals_ l_vals__ l_vals___ l_kids l_kids_ l_kids__ l_kids___ l_kids____ r_kind r_n r_keys r_keys_ r_keys__ r_keys___ r_vals r_vals_ r_vals__ r_vals___ r_kids r_kids_ r_kids__ r_kids___ r_kids____ sep w (fun r0 r1 r2 r3 r4 r5 r6 r7 r8 r9 r10 r11 r12 r13 r14 w' => K (.agg #[.int .i64 r0, .int .i64 r1, .string r2, .string r3, .string r4, .string r5, .string r6, .string r7, .string r8, .string r9, .int .i64 r10, .int .i64 r11, .int .i64 r12, .int .i64 r13, .int .i64 r14]) w')
  | _ => False
theorem T.ok328 : ∀ vs w K, T.c328 vs w K → (callFunc 328 vs.toArray).run Tryz.prog w = .ok (.enter 328 vs.toArray) w ∧ Calls Tryz.prog 328 vs.toArray w fun e w' => ∃ v, e = .returned v ∧ K v w' := by
  intro vs w K h
  unfold T.c328 at h
  split at h
  · refine ⟨Tryz.call328 _ _, ok_of T.CO328 mixed Tryz.func328 (T.eq328 _ _ _ _ _ _ _ _ _ _ _ _ _ _ _ _ _ _ _ _ _ _ _ _ _ _ _ _ _ _ _ _ _) h fun v w' hk => ⟨v, rfl, ?_⟩⟩
    split at hk
    · exact hk
    · exact hk.elim
  · exact h.elim

/-- (*e2e/btree.Forest).store2 (function 326). -/
def S.btree_Forest_store2 (f : Nat) (pa : Int) (a_kind : Int) (a_n : Int) (a_keys : ByteArray) (a_keys_ : ByteArray) (a_keys__ : ByteArray) (a_keys___ : ByteArray) (a_vals : ByteArray) (a_vals_ : ByteArray) (a_vals__ : ByteArray) (a_vals___ : ByteArray) (a_kids : Int) (a_kids_ : Int) (a_kids__ : Int) (a_kids___ : Int) (a_kids____ : Int) (pb : Int) (b_kind : Int) (b_n : Int) (b_keys : ByteArray) (b_keys_ : ByteArray) (b_keys__ : ByteArray) (b_keys___ : ByteArray) (b_vals : ByteArray) (b_vals_ : ByteArray) (b_vals__ : ByteArray) (b_vals___ : ByteArray) (b_kids : Int) (b_kids_ : Int) (b_kids__ : Int) (b_kids___ : Int) (b_kids____ : Int) (w : World) (K : Int → World → Prop) : Prop :=
  New w (.cells #[.int .i64 a_kind, .int .i64 a_n, .string a_keys, .string a_keys_, .string a_keys__, .string a_keys___, .string a_vals, .string a_vals_, .string a_vals__, .string a_vals___, .int .i64 a_kids, .int .i64 a_kids_, .int .i64 a_kids__, .int .i64 a_kids___, .int .i64 a_kids____] 289) fun p1 w =>
  New w (.cells #[.int .i64 b_kind, .int .i64 b_n, .string b_keys, .string b_keys_, .string b_keys__, .string b_keys___, .string b_vals, .string b_vals_, .string b_vals__, .string b_vals___, .int .i64 b_kids, .int .i64 b_kids_, .int .i64 b_kids__, .int .i64 b_kids___, .int .i64 b_kids____] 289) fun p2 w =>
  LdI .i64 w ⟨p1, 0, none⟩ fun kind_3 =>
  LdI .i64 w ⟨p1, 1, none⟩ fun n_4 =>
  LdStr w ⟨p1, 2, none⟩ fun keys_5 =>
  LdStr w ⟨p1, 3, none⟩ fun keys_6 =>
  LdStr w ⟨p1, 4, none⟩ fun keys_7 =>
  LdStr w ⟨p1, 5, none⟩ fun keys_8 =>
  LdStr w ⟨p1, 6, none⟩ fun vals_9 =>
  LdStr w ⟨p1, 7, none⟩ fun vals_10 =>
  LdStr w ⟨p1, 8, none⟩ fun vals_11 =>
  LdStr w ⟨p1, 9, none⟩ fun vals_12 =>
  LdI .i64 w ⟨p1, 10, none⟩ fun kids_13 =>
  LdI .i64 w ⟨p1, 11, none⟩ fun kids_14 =>
  LdI .i64 w ⟨p1, 12, none⟩ fun kids_15 =>
  LdI .i64 w ⟨p1, 13, none⟩ fun kids_16 =>
  LdI .i64 w ⟨p1, 14, none⟩ fun kids_17 =>
  S.btree_Forest_store f pa kind_3 n_4 keys_5 keys_6 keys_7 keys_8 vals_9 vals_10 vals_11 vals_12 kids_13 kids_14 kids_15 kids_16 kids_17 w (fun r18 w =>
  if (r18 != 0) = true then
    K 23 w
  else
    LdI .i64 w ⟨p2, 0, none⟩ fun kind_19 =>
    LdI .i64 w ⟨p2, 1, none⟩ fun n_20 =>
    LdStr w ⟨p2, 2, none⟩ fun keys_21 =>
    LdStr w ⟨p2, 3, none⟩ fun keys_22 =>
    LdStr w ⟨p2, 4, none⟩ fun keys_23 =>
    LdStr w ⟨p2, 5, none⟩ fun keys_24 =>
    LdStr w ⟨p2, 6, none⟩ fun vals_25 =>
    LdStr w ⟨p2, 7, none⟩ fun vals_26 =>
    LdStr w ⟨p2, 8, none⟩ fun vals_27 =>
    LdStr w ⟨p2, 9, none⟩ fun vals_28 =>
    LdI .i64 w ⟨p2, 10, none⟩ fun kids_29 =>
    LdI .i64 w ⟨p2, 11, none⟩ fun kids_30 =>
    LdI .i64 w ⟨p2, 12, none⟩ fun kids_31 =>
    LdI .i64 w ⟨p2, 13, none⟩ fun kids_32 =>
    LdI .i64 w ⟨p2, 14, none⟩ fun kids_33 =>
    S.btree_Forest_store f pb kind_19 n_20 keys_21 keys_22 keys_23 keys_24 vals_25 vals_26 vals_27 vals_28 kids_29 kids_30 kids_31 kids_32 kids_33 w (fun r34 w =>
    K r34 w))
def T.C326 : CallT := (CallT.cons 246 T.c246 CallT.nil)
def T.A326 : Ann := fun _ => none
set_option maxRecDepth 1000000 in
theorem T.eq326 (f : Nat) (pa : Int) (a_kind : Int) (a_n : Int) (a_keys : ByteArray) (a_keys_ : ByteArray) (a_keys__ : ByteArray) (a_keys___ : ByteArray) (a_vals : ByteArray) (a_vals_ : ByteArray) (a_vals__ : ByteArray) (a_vals___ : ByteArray) (a_kids : Int) (a_kids_ : Int) (a_kids__ : Int) (a_kids___ : Int) (a_kids____ : Int) (pb : Int) (b_kind : Int) (b_n : Int) (b_keys : ByteArray) (b_keys_ : ByteArray) (b_keys__ : ByteArray) (b_keys___ : ByteArray) (b_vals : ByteArray) (b_vals_ : ByteArray) (b_vals__ : ByteArray) (b_vals___ : ByteArray) (b_kids : Int) (b_kids_ : Int) (b_kids__ : Int) (b_kids___ : Int) (b_kids____ : Int) (w : World) (K : Int → World → Prop) : denF Tryz.prog T.C326 T.A326 Tryz.f326 [.pointer (some ⟨f, 0, none⟩), .int .i64 pa, .agg #[.int .i64 a_kind, .int .i64 a_n, .string a_keys, .string a_keys_, .string a_keys__, .string a_keys___, .string a_vals, .string a_vals_, .string a_vals__, .string a_vals___, .int .i64 a_kids, .int .i64 a_kids_, .int .i64 a_kids__, .int .i64 a_kids___, .int .i64 a_kids____], .int .i64 pb, .agg #[.int .i64 b_kind, .int .i64 b_n, .string b_keys, .string b_keys_, .string b_keys__, .string b_keys___, .string b_vals, .string b_vals_, .string b_vals__, .string b_vals___, .int .i64 b_kids, .int .i64 b_kids_, .int .i64 b_kids__, .int .i64 b_kids___, .int .i64 b_kids____]] w (fun v w' => match v with | .int .i64 r0 => K r0 w' | _ => False) = S.btree_Forest_store2 f pa a_kind a_n a_keys a_keys_ a_keys__ a_keys___ a_vals a_vals_ a_vals__ a_vals___ a_kids a_kids_ a_kids__ a_kids___ a_kids____ pb b_kind b_n b_keys b_keys_ b_keys__ b_keys___ b_vals b_vals_ b_vals__ b_vals___ b_kids b_kids_ b_kids__ b_kids___ b_kids____ w K := by kernel_rfl
theorem T.CO326 : CallOk Tryz.prog T.C326 := (CallOk.cons 246 T.ok246 CallOk.nil)
def T.c326 (vs : List Value) (w : World) (K : Value → World → Prop) : Prop :=
  match vs with
  | [.pointer (some ⟨f, 0, none⟩), .int .i64 pa, .agg ⟨[.int .i64 a_kind, .int .i64 a_n, .string a_keys, .string a_keys_, .string a_keys__, .string a_keys___, .string a_vals, .string a_vals_, .string a_vals__, .string a_vals___, .int .i64 a_kids, .int .i64 a_kids_, .int .i64 a_kids__, .int .i64 a_kids___, .int .i64 a_kids____]⟩, .int .i64 pb, .agg ⟨[.int .i64 b_kind, .int .i64 b_n, .string b_keys, .string b_keys_, .string b_keys__, .string b_keys___, .string b_vals, .string b_vals_, .string b_vals__, .string b_vals___, .int .i64 b_kids, .int .i64 b_kids_, .int .i64 b_kids__, .int .i64 b_kids___, .int .i64 b_kids____]⟩] => S.btree_Forest_store2 f pa a_kind a_n a_keys a_keys_ a_keys__ a_keys___ a_vals a_vals_ a_vals__ a_vals___ a_kids a_kids_ a_kids__ a_kids___ a_kids____ pb b_kind b_n b_keys b_keys_ b_keys__ b_keys___ b_vals b_vals_ b_vals__ b_vals___ b_kids b_kids_ b_kids__ b_kids___ b_kids____ w (fun r0 w' => K (.int .i64 r0) w')
  | _ => False
theorem T.ok326 : ∀ vs w K, T.c326 vs w K → (callFunc 326 vs.toArray).run Tryz.prog w = .ok (.enter 326 vs.toArray) w ∧ Calls Tryz.prog 326 vs.toArray w fun e w' => ∃ v, e = .returned v ∧ K v w' := by
  intro vs w K h
  unfold T.c326 at h
  split at h
  · refine ⟨Tryz.call326 _ _, ok_of T.CO326 mixed Tryz.func326 (T.eq326 _ _ _ _ _ _ _ _ _ _ _ _ _ _ _ _ _ _ _ _ _ _ _ _ _ _ _ _ _ _ _ _ _ _ _) h fun v w' hk => ⟨v, rfl, ?_⟩⟩
    split at hk
    · exact hk
    · exact hk.elim
  · exact h.elim

/-- e2e/btree.fromRight (function 327). -/
def S.btree_fromRight (l_kind : Int) (l_n : Int) (l_keys : ByteArray) (l_keys_ : ByteArray) (l_keys__ : ByteArray) (l_keys___ : ByteArray) (l_vals : ByteArray) (l_vals_ : ByteArray) (l_vals__ : ByteArray) (l_vals___ : ByteArray) (l_kids : Int) (l_kids_ : Int) (l_kids__ : Int) (l_kids___ : Int) (l_kids____ : Int) (r_kind : Int) (r_n : Int) (r_keys : ByteArray) (r_keys_ : ByteArray) (r_keys__ : ByteArray) (r_keys___ : ByteArray) (r_vals : ByteArray) (r_vals_ : ByteArray) (r_vals__ : ByteArray) (r_vals___ : ByteArray) (r_kids : Int) (r_kids_ : Int) (r_kids__ : Int) (r_kids___ : Int) (r_kids____ : Int) (sep : ByteArray) (w : World) (K : Int → Int → ByteArray → ByteArray → ByteArray → ByteArray → ByteArray → ByteArray → ByteArray → ByteArray → Int → Int → Int → Int → Int → Int → Int → ByteArray → ByteArray → ByteArray → ByteArray → ByteArray → ByteArray → ByteArray → ByteArray → Int → Int → Int → Int → Int → ByteArray → World → Prop) : Prop :=
  New w (.cells #[.int .i64 l_kind, .int .i64 l_n, .string l_keys, .string l_keys_, .string l_keys__, .string l_keys___, .string l_vals, .string l_vals_, .string l_vals__, .string l_vals___, .int .i64 l_kids, .int .i64 l_kids_, .int .i64 l_kids__, .int .i64 l_kids___, .int .i64 l_kids____] 289) fun p1 w =>
  New w (.cells #[.int .i64 r_kind, .int .i64 r_n, .string r_keys, .string r_keys_, .string r_keys__, .string r_keys___, .string r_vals, .string r_vals_, .string r_vals__, .string r_vals___, .int .i64 r_kids, .int .i64 r_kids_, .int .i64 r_kids__, .int .i64 r_kids___, .int .i64 r_kids____] 289) fun p2 w =>
  New w (.cells #[.int .i64 0, .int .i64 0, .string ⟨#[]⟩, .string ⟨#[]⟩, .string ⟨#[]⟩, .string ⟨#[]⟩, .string ⟨#[]⟩, .string ⟨#[]⟩, .string ⟨#[]⟩, .string ⟨#[]⟩, .int .i64 0, .int .i64 0, .int .i64 0, .int .i64 0, .int .i64 0] 289) fun p3 w =>
  New w (.cells #[.int .i64 0, .int .i64 0, .string ⟨#[]⟩, .string ⟨#[]⟩, .string ⟨#[]⟩, .string ⟨#[]⟩, .string ⟨#[]⟩, .string ⟨#[]⟩, .string ⟨#[]⟩, .string ⟨#[]⟩, .int .i64 0, .int .i64 0, .int .i64 0, .int .i64 0, .int .i64 0] 289) fun p4 w =>
  LdI .i64 w ⟨p1, 0, none⟩ fun kind_5 =>
  if (kind_5 == 1) = true then
    LdI .i64 w ⟨p1, 1, none⟩ fun n_6 =>
    IxA 4 0 <|
    LdStr w ⟨p2, 2 + Int.toNat 0 * 1, none⟩ fun keys_7 =>
    IxA 4 n_6 <|
    St1 w ⟨p1, 2 + Int.toNat n_6 * 1, none⟩ (.string keys_7) fun w =>
    LdI .i64 w ⟨p1, 1, none⟩ fun n_8 =>
    IxA 4 0 <|
    LdStr w ⟨p2, 6 + Int.toNat 0 * 1, none⟩ fun vals_9 =>
    IxA 4 n_8 <|
    St1 w ⟨p1, 6 + Int.toNat n_8 * 1, none⟩ (.string vals_9) fun w =>
    LdI .i64 w ⟨p1, 1, none⟩ fun n_10 =>
    St1 w ⟨p1, 1, none⟩ (.int .i64 (W (n_10 + 1))) fun w =>
    LdI .i64 w ⟨p2, 0, none⟩ fun kind_11 =>
    LdI .i64 w ⟨p2, 1, none⟩ fun n_12 =>
    LdStr w ⟨p2, 2, none⟩ fun keys_13 =>
    LdStr w ⟨p2, 3, none⟩ fun keys_14 =>
    LdStr w ⟨p2, 4, none⟩ fun keys_15 =>
    LdStr w ⟨p2, 5, none⟩ fun keys_16 =>
    LdStr w ⟨p2, 6, none⟩ fun vals_17 =>
    LdStr w ⟨p2, 7, none⟩ fun vals_18 =>
    LdStr w ⟨p2, 8, none⟩ fun vals_19 =>
    LdStr w ⟨p2, 9, none⟩ fun vals_20 =>
    LdI .i64 w ⟨p2, 10, none⟩ fun kids_21 =>
    LdI .i64 w ⟨p2, 11, none⟩ fun kids_22 =>
    LdI .i64 w ⟨p2, 12, none⟩ fun kids_23 =>
    LdI .i64 w ⟨p2, 13, none⟩ fun kids_24 =>
    LdI .i64 w ⟨p2, 14, none⟩ fun kids_25 =>
    S.btree_leafCut kind_11 n_12 keys_13 keys_14 keys_15 keys_16 vals_17 vals_18 vals_19 vals_20 kids_21 kids_22 kids_23 kids_24 kids_25 0 w (fun kind_26 n_27 keys_28 keys_29 keys_30 keys_31 vals_32 vals_33 vals_34 vals_35 kids_36 kids_37 kids_38 kids_39 kids_40 w =>
    St1 w ⟨p2, 0, none⟩ (.int .i64 kind_26) fun w =>
    St1 w ⟨p2, 1, none⟩ (.int .i64 n_27) fun w =>
    St1 w ⟨p2, 2, none⟩ (.string keys_28) fun w =>
    St1 w ⟨p2, 3, none⟩ (.string keys_29) fun w =>
    St1 w ⟨p2, 4, none⟩ (.string keys_30) fun w =>
    St1 w ⟨p2, 5, none⟩ (.string keys_31) fun w =>
    St1 w ⟨p2, 6, none⟩ (.string vals_32) fun w =>
    St1 w ⟨p2, 7, none⟩ (.string vals_33) fun w =>
    St1 w ⟨p2, 8, none⟩ (.string vals_34) fun w =>
    St1 w ⟨p2, 9, none⟩ (.string vals_35) fun w =>
    St1 w ⟨p2, 10, none⟩ (.int .i64 kids_36) fun w =>
    St1 w ⟨p2, 11, none⟩ (.int .i64 kids_37) fun w =>
    St1 w ⟨p2, 12, none⟩ (.int .i64 kids_38) fun w =>
    St1 w ⟨p2, 13, none⟩ (.int .i64 kids_39) fun w =>
    St1 w ⟨p2, 14, none⟩ (.int .i64 kids_40) fun w =>
    Drew w fun w =>
    LdI .i64 w ⟨p1, 0, none⟩ fun kind_41 =>
    LdI .i64 w ⟨p1, 1, none⟩ fun n_42 =>
    LdStr w ⟨p1, 2, none⟩ fun keys_43 =>
    LdStr w ⟨p1, 3, none⟩ fun keys_44 =>
    LdStr w ⟨p1, 4, none⟩ fun keys_45 =>
    LdStr w ⟨p1, 5, none⟩ fun keys_46 =>
    LdStr w ⟨p1, 6, none⟩ fun vals_47 =>
    LdStr w ⟨p1, 7, none⟩ fun vals_48 =>
    LdStr w ⟨p1, 8, none⟩ fun vals_49 =>
    LdStr w ⟨p1, 9, none⟩ fun vals_50 =>
    LdI .i64 w ⟨p1, 10, none⟩ fun kids_51 =>
    LdI .i64 w ⟨p1, 11, none⟩ fun kids_52 =>
    LdI .i64 w ⟨p1, 12, none⟩ fun kids_53 =>
    LdI .i64 w ⟨p1, 13, none⟩ fun kids_54 =>
    LdI .i64 w ⟨p1, 14, none⟩ fun kids_55 =>
    Hold w ⟨p2, 0, none⟩ 15 fun R56 =>
    LdI .i64 w ⟨p2, 0, none⟩ fun kind_57 =>
    LdI .i64 w ⟨p2, 1, none⟩ fun n_58 =>
    LdStr w ⟨p2, 2, none⟩ fun keys_59 =>
    LdStr w ⟨p2, 3, none⟩ fun keys_60 =>
    LdStr w ⟨p2, 4, none⟩ fun keys_61 =>
    LdStr w ⟨p2, 5, none⟩ fun keys_62 =>
    LdStr w ⟨p2, 6, none⟩ fun vals_63 =>
    LdStr w ⟨p2, 7, none⟩ fun vals_64 =>
    LdStr w ⟨p2, 8, none⟩ fun vals_65 =>
    LdStr w ⟨p2, 9, none⟩ fun vals_66 =>
    LdI .i64 w ⟨p2, 10, none⟩ fun kids_67 =>
    LdI .i64 w ⟨p2, 11, none⟩ fun kids_68 =>
    LdI .i64 w ⟨p2, 12, none⟩ fun kids_69 =>
    LdI .i64 w ⟨p2, 13, none⟩ fun kids_70 =>
    LdI .i64 w ⟨p2, 14, none⟩ fun kids_71 =>
    IxA 4 0 <|
    Hold w ⟨p2, 2 + Int.toNat 0 * 1, none⟩ 1 fun R72 =>
    LdStr w ⟨p2, 2 + Int.toNat 0 * 1, none⟩ fun keys_73 =>
    St1 w ⟨p3, 0, none⟩ (.int .i64 kind_41) fun w =>
    St1 w ⟨p3, 1, none⟩ (.int .i64 n_42) fun w =>
    St1 w ⟨p3, 2, none⟩ (.string keys_43) fun w =>
    St1 w ⟨p3, 3, none⟩ (.string keys_44) fun w =>
    St1 w ⟨p3, 4, none⟩ (.string keys_45) fun w =>
    St1 w ⟨p3, 5, none⟩ (.string keys_46) fun w =>
    St1 w ⟨p3, 6, none⟩ (.string vals_47) fun w =>
    St1 w ⟨p3, 7, none⟩ (.string vals_48) fun w =>
    St1 w ⟨p3, 8, none⟩ (.string vals_49) fun w =>
    St1 w ⟨p3, 9, none⟩ (.string vals_50) fun w =>
    St1 w ⟨p3, 10, none⟩ (.int .i64 kids_51) fun w =>
    St1 w ⟨p3, 11, none⟩ (.int .i64 kids_52) fun w =>
    St1 w ⟨p3, 12, none⟩ (.int .i64 kids_53) fun w =>
    St1 w ⟨p3, 13, none⟩ (.int .i64 kids_54) fun w =>
    St1 w ⟨p3, 14, none⟩ (.int .i64 kids_55) fun w =>
    After R72 w <|
    After R56 w <|
    St1 w ⟨p4, 0, none⟩ (.int .i64 kind_57) fun w =>
    St1 w ⟨p4, 1, none⟩ (.int .i64 n_58) fun w =>
    St1 w ⟨p4, 2, none⟩ (.string keys_59) fun w =>
    St1 w ⟨p4, 3, none⟩ (.string keys_60) fun w =>
    St1 w ⟨p4, 4, none⟩ (.string keys_61) fun w =>
    St1 w ⟨p4, 5, none⟩ (.string keys_62) fun w =>
    St1 w ⟨p4, 6, none⟩ (.string vals_63) fun w =>
    St1 w ⟨p4, 7, none⟩ (.string vals_64) fun w =>
    St1 w ⟨p4, 8, none⟩ (.string vals_65) fun w =>
    St1 w ⟨p4, 9, none⟩ (.string vals_66) fun w =>
    St1 w ⟨p4, 10, none⟩ (.int .i64 kids_67) fun w =>
    St1 w ⟨p4, 11, none⟩ (.int .i64 kids_68) fun w =>
    St1 w ⟨p4, 12, none⟩ (.int .i64 kids_69) fun w =>
    St1 w ⟨p4, 13, none⟩ (.int .i64 kids_70) fun w =>
    St1 w ⟨p4, 14, none⟩ (.int .i64 kids_71) fun w =>
    After R72 w <|
    LdI .i64 w ⟨p3, 0, none⟩ fun kind_74 =>
    LdI .i64 w ⟨p3, 1, none⟩ fun n_75 =>
    LdStr w ⟨p3, 2, none⟩ fun keys_76 =>
    LdStr w ⟨p3, 3, none⟩ fun keys_77 =>
    LdStr w ⟨p3, 4, none⟩ fun keys_78 =>
    LdStr w ⟨p3, 5, none⟩ fun keys_79 =>
    LdStr w ⟨p3, 6, none⟩ fun vals_80 =>
    LdStr w ⟨p3, 7, none⟩ fun vals_81 =>
    LdStr w ⟨p3, 8, none⟩ fun vals_82 =>
    LdStr w ⟨p3, 9, none⟩ fun vals_83 =>
    LdI .i64 w ⟨p3, 10, none⟩ fun kids_84 =>
    LdI .i64 w ⟨p3, 11, none⟩ fun kids_85 =>
    LdI .i64 w ⟨p3, 12, none⟩ fun kids_86 =>
    LdI .i64 w ⟨p3, 13, none⟩ fun kids_87 =>
    LdI .i64 w ⟨p3, 14, none⟩ fun kids_88 =>
    LdI .i64 w ⟨p4, 0, none⟩ fun kind_89 =>
    LdI .i64 w ⟨p4, 1, none⟩ fun n_90 =>
    LdStr w ⟨p4, 2, none⟩ fun keys_91 =>
    LdStr w ⟨p4, 3, none⟩ fun keys_92 =>
    LdStr w ⟨p4, 4, none⟩ fun keys_93 =>
    LdStr w ⟨p4, 5, none⟩ fun keys_94 =>
    LdStr w ⟨p4, 6, none⟩ fun vals_95 =>
    LdStr w ⟨p4, 7, none⟩ fun vals_96 =>
    LdStr w ⟨p4, 8, none⟩ fun vals_97 =>
    LdStr w ⟨p4, 9, none⟩ fun vals_98 =>
    LdI .i64 w ⟨p4, 10, none⟩ fun kids_99 =>
    LdI .i64 w ⟨p4, 11, none⟩ fun kids_100 =>
    LdI .i64 w ⟨p4, 12, none⟩ fun kids_101 =>
    LdI .i64 w ⟨p4, 13, none⟩ fun kids_102 =>
    LdI .i64 w ⟨p4, 14, none⟩ fun kids_103 =>
    K kind_74 n_75 keys_76 keys_77 keys_78 keys_79 vals_80 vals_81 vals_82 vals_83 kids_84 kids_85 kids_86 kids_87 kids_88 kind_89 n_90 keys_91 keys_92 keys_93 keys_94 vals_95 vals_96 vals_97 vals_98 kids_99 kids_100 kids_101 kids_102 kids_103 keys_73 w)
  else
    IxA 4 0 <|
    LdStr w ⟨p2, 2 + Int.toNat 0 * 1, none⟩ fun keys_104 =>
    LdI .i64 w ⟨p1, 1, none⟩ fun n_105 =>
    IxA 5 0 <|
    LdI .i64 w ⟨p2, 10 + Int.toNat 0 * 1, none⟩ fun kids_106 =>
    IxA 5 n_105 <|
    St1 w ⟨p1, 10 + Int.toNat n_105 * 1, none⟩ (.int .i64 kids_106) fun w =>
    LdI .i64 w ⟨p1, 1, none⟩ fun n_107 =>
    IxA 4 (W (n_107 - 1)) <|
    St1 w ⟨p1, 2 + Int.toNat (W (n_107 - 1)) * 1, none⟩ (.string sep) fun w =>
    LdI .i64 w ⟨p1, 1, none⟩ fun n_108 =>
    St1 w ⟨p1, 1, none⟩ (.int .i64 (W (n_108 + 1))) fun w =>
    IxA 5 1 <|
    LdI .i64 w ⟨p2, 10 + Int.toNat 1 * 1, none⟩ fun kids_109 =>
    IxA 5 0 <|
    St1 w ⟨p2, 10 + Int.toNat 0 * 1, none⟩ (.int .i64 kids_109) fun w =>
    LdI .i64 w ⟨p2, 0, none⟩ fun kind_110 =>
    LdI .i64 w ⟨p2, 1, none⟩ fun n_111 =>
    LdStr w ⟨p2, 2, none⟩ fun keys_112 =>
    LdStr w ⟨p2, 3, none⟩ fun keys_113 =>
    LdStr w ⟨p2, 4, none⟩ fun keys_114 =>
    LdStr w ⟨p2, 5, none⟩ fun keys_115 =>
    LdStr w ⟨p2, 6, none⟩ fun vals_116 =>
    LdStr w ⟨p2, 7, none⟩ fun vals_117 =>
    LdStr w ⟨p2, 8, none⟩ fun vals_118 =>
    LdStr w ⟨p2, 9, none⟩ fun vals_119 =>
    LdI .i64 w ⟨p2, 10, none⟩ fun kids_120 =>
    LdI .i64 w ⟨p2, 11, none⟩ fun kids_121 =>
    LdI .i64 w ⟨p2, 12, none⟩ fun kids_122 =>
    LdI .i64 w ⟨p2, 13, none⟩ fun kids_123 =>
    LdI .i64 w ⟨p2, 14, none⟩ fun kids_124 =>
    S.btree_innerCut kind_110 n_111 keys_112 keys_113 keys_114 keys_115 vals_116 vals_117 vals_118 vals_119 kids_120 kids_121 kids_122 kids_123 kids_124 0 w (fun kind_125 n_126 keys_127 keys_128 keys_129 keys_130 vals_131 vals_132 vals_133 vals_134 kids_135 kids_136 kids_137 kids_138 kids_139 w =>
    St1 w ⟨p2, 0, none⟩ (.int .i64 kind_125) fun w =>
    St1 w ⟨p2, 1, none⟩ (.int .i64 n_126) fun w =>
    St1 w ⟨p2, 2, none⟩ (.string keys_127) fun w =>
    St1 w ⟨p2, 3, none⟩ (.string keys_128) fun w =>
    St1 w ⟨p2, 4, none⟩ (.string keys_129) fun w =>
    St1 w ⟨p2, 5, none⟩ (.string keys_130) fun w =>
    St1 w ⟨p2, 6, none⟩ (.string vals_131) fun w =>
    St1 w ⟨p2, 7, none⟩ (.string vals_132) fun w =>
    St1 w ⟨p2, 8, none⟩ (.string vals_133) fun w =>
    St1 w ⟨p2, 9, none⟩ (.string vals_134) fun w =>
    St1 w ⟨p2, 10, none⟩ (.int .i64 kids_135) fun w =>
    St1 w ⟨p2, 11, none⟩ (.int .i64 kids_136) fun w =>
    St1 w ⟨p2, 12, none⟩ (.int .i64 kids_137) fun w =>
    St1 w ⟨p2, 13, none⟩ (.int .i64 kids_138) fun w =>
    St1 w ⟨p2, 14, none⟩ (.int .i64 kids_139) fun w =>
    Drew w fun w =>
    LdI .i64 w ⟨p1, 0, none⟩ fun kind_140 =>
    LdI .i64 w ⟨p1, 1, none⟩ fun n_141 =>
    LdStr w ⟨p1, 2, none⟩ fun keys_142 =>
    LdStr w ⟨p1, 3, none⟩ fun keys_143 =>
    LdStr w ⟨p1, 4, none⟩ fun keys_144 =>
    LdStr w ⟨p1, 5, none⟩ fun keys_145 =>
    LdStr w ⟨p1, 6, none⟩ fun vals_146 =>
    LdStr w ⟨p1, 7, none⟩ fun vals_147 =>
    LdStr w ⟨p1, 8, none⟩ fun vals_148 =>
    LdStr w ⟨p1, 9, none⟩ fun vals_149 =>
    LdI .i64 w ⟨p1, 10, none⟩ fun kids_150 =>
    LdI .i64 w ⟨p1, 11, none⟩ fun kids_151 =>
    LdI .i64 w ⟨p1, 12, none⟩ fun kids_152 =>
    LdI .i64 w ⟨p1, 13, none⟩ fun kids_153 =>
    LdI .i64 w ⟨p1, 14, none⟩ fun kids_154 =>
    Hold w ⟨p2, 0, none⟩ 15 fun R155 =>
    LdI .i64 w ⟨p2, 0, none⟩ fun kind_156 =>
    LdI .i64 w ⟨p2, 1, none⟩ fun n_157 =>
    LdStr w ⟨p2, 2, none⟩ fun keys_158 =>
    LdStr w ⟨p2, 3, none⟩ fun keys_159 =>
    LdStr w ⟨p2, 4, none⟩ fun keys_160 =>
    LdStr w ⟨p2, 5, none⟩ fun keys_161 =>
    LdStr w ⟨p2, 6, none⟩ fun vals_162 =>
    LdStr w ⟨p2, 7, none⟩ fun vals_163 =>
    LdStr w ⟨p2, 8, none⟩ fun vals_164 =>
    LdStr w ⟨p2, 9, none⟩ fun vals_165 =>
    LdI .i64 w ⟨p2, 10, none⟩ fun kids_166 =>
    LdI .i64 w ⟨p2, 11, none⟩ fun kids_167 =>
    LdI .i64 w ⟨p2, 12, none⟩ fun kids_168 =>
    LdI .i64 w ⟨p2, 13, none⟩ fun kids_169 =>
    LdI .i64 w ⟨p2, 14, none⟩ fun kids_170 =>
    St1 w ⟨p3, 0, none⟩ (.int .i64 kind_140) fun w =>
    St1 w ⟨p3, 1, none⟩ (.int .i64 n_141) fun w =>
    St1 w ⟨p3, 2, none⟩ (.string keys_142) fun w =>
    St1 w ⟨p3, 3, none⟩ (.string keys_143) fun w =>
    St1 w ⟨p3, 4, none⟩ (.string keys_144) fun w =>
    St1 w ⟨p3, 5, none⟩ (.string keys_145) fun w =>
    St1 w ⟨p3, 6, none⟩ (.string vals_146) fun w =>
    St1 w ⟨p3, 7, none⟩ (.string vals_147) fun w =>
    St1 w ⟨p3, 8, none⟩ (.string vals_148) fun w =>
    St1 w ⟨p3, 9, none⟩ (.string vals_149) fun w =>
    St1 w ⟨p3, 10, none⟩ (.int .i64 kids_150) fun w =>
    St1 w ⟨p3, 11, none⟩ (.int .i64 kids_151) fun w =>
    St1 w ⟨p3, 12, none⟩ (.int .i64 kids_152) fun w =>
    St1 w ⟨p3, 13, none⟩ (.int .i64 kids_153) fun w =>
    St1 w ⟨p3, 14, none⟩ (.int .i64 kids_154) fun w =>
    After R155 w <|
    St1 w ⟨p4, 0, none⟩ (.int .i64 kind_156) fun w =>
    St1 w ⟨p4, 1, none⟩ (.int .i64 n_157) fun w =>
    St1 w ⟨p4, 2, none⟩ (.string keys_158) fun w =>
    St1 w ⟨p4, 3, none⟩ (.string keys_159) fun w =>
    St1 w ⟨p4, 4, none⟩ (.string keys_160) fun w =>
    St1 w ⟨p4, 5, none⟩ (.string keys_161) fun w =>
    St1 w ⟨p4, 6, none⟩ (.string vals_162) fun w =>
    St1 w ⟨p4, 7, none⟩ (.string vals_163) fun w =>
    St1 w ⟨p4, 8, none⟩ (.string vals_164) fun w =>
    St1 w ⟨p4, 9, none⟩ (.string vals_165) fun w =>
    St1 w ⟨p4, 10, none⟩ (.int .i64 kids_166) fun w =>
    St1 w ⟨p4, 11, none⟩ (.int .i64 kids_167) fun w =>
    St1 w ⟨p4, 12, none⟩ (.int .i64 kids_168) fun w =>
    St1 w ⟨p4, 13, none⟩ (.int .i64 kids_169) fun w =>
    St1 w ⟨p4, 14, none⟩ (.int .i64 kids_170) fun w =>
    LdI .i64 w ⟨p3, 0, none⟩ fun kind_171 =>
    LdI .i64 w ⟨p3, 1, none⟩ fun n_172 =>
    LdStr w ⟨p3, 2, none⟩ fun keys_173 =>
    LdStr w ⟨p3, 3, none⟩ fun keys_174 =>
    LdStr w ⟨p3, 4, none⟩ fun keys_175 =>
    LdStr w ⟨p3, 5, none⟩ fun keys_176 =>
    LdStr w ⟨p3, 6, none⟩ fun vals_177 =>
    LdStr w ⟨p3, 7, none⟩ fun vals_178 =>
    LdStr w ⟨p3, 8, none⟩ fun vals_179 =>
    LdStr w ⟨p3, 9, none⟩ fun vals_180 =>
    LdI .i64 w ⟨p3, 10, none⟩ fun kids_181 =>
    LdI .i64 w ⟨p3, 11, none⟩ fun kids_182 =>
    LdI .i64 w ⟨p3, 12, none⟩ fun kids_183 =>
    LdI .i64 w ⟨p3, 13, none⟩ fun kids_184 =>
    LdI .i64 w ⟨p3, 14, none⟩ fun kids_185 =>
    LdI .i64 w ⟨p4, 0, none⟩ fun kind_186 =>
    LdI .i64 w ⟨p4, 1, none⟩ fun n_187 =>
    LdStr w ⟨p4, 2, none⟩ fun keys_188 =>
    LdStr w ⟨p4, 3, none⟩ fun keys_189 =>
    LdStr w ⟨p4, 4, none⟩ fun keys_190 =>
    LdStr w ⟨p4, 5, none⟩ fun keys_191 =>
    LdStr w ⟨p4, 6, none⟩ fun vals_192 =>
    LdStr w ⟨p4, 7, none⟩ fun vals_193 =>
    LdStr w ⟨p4, 8, none⟩ fun vals_194 =>
    LdStr w ⟨p4, 9, none⟩ fun vals_195 =>
    LdI .i64 w ⟨p4, 10, none⟩ fun kids_196 =>
    LdI .i64 w ⟨p4, 11, none⟩ fun kids_197 =>
    LdI .i64 w ⟨p4, 12, none⟩ fun kids_198 =>
    LdI .i64 w ⟨p4, 13, none⟩ fun kids_199 =>
    LdI .i64 w ⟨p4, 14, none⟩ fun kids_200 =>
    K kind_171 n_172 keys_173 keys_174 keys_175 keys_176 vals_177 vals_178 vals_179 vals_180 kids_181 kids_182 kids_183 kids_184 kids_185 kind_186 n_187 keys_188 keys_189 keys_190 keys_191 vals_192 vals_193 vals_194 vals_195 kids_196 kids_197 kids_198 kids_199 kids_200 keys_104 w)
def T.C327 : CallT := (CallT.cons 293 T.c293 (CallT.cons 329 T.c329 CallT.nil))
def T.A327 : Ann := fun _ => none
set_option maxRecDepth 1000000 in
theorem T.eq327 (l_kind : Int) (l_n : Int) (l_keys : ByteArray) (l_keys_ : ByteArray) (l_keys__ : ByteArray) (l_keys___ : ByteArray) (l_vals : ByteArray) (l_vals_ : ByteArray) (l_vals__ : ByteArray) (l_vals___ : ByteArray) (l_kids : Int) (l_kids_ : Int) (l_kids__ : Int) (l_kids___ : Int) (l_kids____ : Int) (r_kind : Int) (r_n : Int) (r_keys : ByteArray) (r_keys_ : ByteArray) (r_keys__ : ByteArray) (r_keys___ : ByteArray) (r_vals : ByteArray) (r_vals_ : ByteArray) (r_vals__ : ByteArray) (r_vals___ : ByteArray) (r_kids : Int) (r_kids_ : Int) (r_kids__ : Int) (r_kids___ : Int) (r_kids____ : Int) (sep : ByteArray) (w : World) (K : Int → Int → ByteArray → ByteArray → ByteArray → ByteArray → ByteArray → ByteArray → ByteArray → ByteArray → Int → Int → Int → Int → Int → Int → Int → ByteArray → ByteArray → ByteArray → ByteArray → ByteArray → ByteArray → ByteArray → ByteArray → Int → Int → Int → Int → Int → ByteArray → World → Prop) : denF Tryz.prog T.C327 T.A327 Tryz.f327 [.agg #[.int .i64 l_kind, .int .i64 l_n, .string l_keys, .string l_keys_, .string l_keys__, .string l_keys___, .string l_vals, .string l_vals_, .string l_vals__, .string l_vals___, .int .i64 l_kids, .int .i64 l_kids_, .int .i64 l_kids__, .int .i64 l_kids___, .int .i64 l_kids____], .agg #[.int .i64 r_kind, .int .i64 r_n, .string r_keys, .string r_keys_, .string r_keys__, .string r_keys___, .string r_vals, .string r_vals_, .string r_vals__, .string r_vals___, .int .i64 r_kids, .int .i64 r_kids_, .int .i64 r_kids__, .int .i64 r_kids___, .int .i64 r_kids____], .string sep] w (fun v w' => match v with | .tuple ⟨[.agg ⟨[.int .i64 r0, .int .i64 r1, .string r2, .string r3, .string r4, .string r5, .string r6, .string r7, .string r8, .string r9, .int .i64 r10, .int .i64 r11, .int .i64 r12, .int .i64 r13, .int .i64 r14]⟩, .agg ⟨[.int .i64 r15, .int .i64 r16, .string r17, .string r18, .string r19, .string r20, .string r21, .string r22, .string r23, .string r24, .int .i64 r25, .int .i64 r26, .int .i64 r27, .int .i64 r28, .int .i64 r29]⟩, .string r30]⟩ => K r0 r1 r2 r3 r4 r5 r6 r7 r8 r9 r10 r11 r12 r13 r14 r15 r16 r17 r18 r19 r20 r21 r22 r23 r24 r25 r26 r27 r28 r29 r30 w' | _ => False) = S.btree_fromRight l_kind l_n l_keys l_keys_ l_keys__ l_keys___ l_vals l_vals_ l_vals__ l_vals___ l_kids l_kids_ l_kids__ l_kids___ l_kids____ r_kind r_n r_keys r_keys_ r_keys__ r_keys___ r_vals r_vals_ r_vals__ r_vals___ r_kids r_kids_ r_kids__ r_kids___ r_kids____ sep w K := by kernel_rfl
theorem T.CO327 : CallOk Tryz.prog T.C327 := (CallOk.cons 293 T.ok293 (CallOk.cons 329 T.ok329 CallOk.nil))
def T.c327 (vs : List Value) (w : World) (K : Value → World → Prop) : Prop :=
  match vs with
  | [.agg ⟨[.int .i64 l_kind, .int .i64 l_n, .string l_keys, .string l_keys_, .string l_keys__, .string l_keys___, .string l_vals, .string l_vals_, .string l_vals__, .string l_vals___, .int .i64 l_kids, .int .i64 l_kids_, .int .i64 l_kids__, .int .i64 l_kids___, .int .i64 l_kids____]⟩, .agg ⟨[.int .i64 r_kind, .int .i64 r_n, .string r_keys, .string r_keys_, .string r_keys__, .string r_keys___, .string r_vals, .string r_vals_, .string r_vals__, .string r_vals___, .int .i64 r_kids, .int .i64 r_kids_, .int .i64 r_kids__, .int .i64 r_kids___, .int .i64 r_kids____]⟩, .string sep] => S.btree_fromRight l_kind l_n l_keys l_keys_ l_keys__ l_keys___ l_vals l_vals_ l_vals__ l_vals___ l_kids l_kids_ l_kids__ l_kids___ l_kids____ r_kind r_n r_keys r_keys_ r_keys__ r_keys___ r_vals r_vals_ r_vals__ r_vals___ r_kids r_kids_ r_kids__ r_kids___ r_kids____ sep w (fun r0 r1 r2 r3 r4 r5 r6 r7 r8 r9 r10 r11 r12 r13 r14 r15 r16 r17 r18 r19 r20 r21 r22 r23 r24 r25 r26 r27 r28 r29 r30 w' => K (.tuple #[.agg #[.int .i64 r0, .int .i64 r1, .string r2, .string r3, .string r4, .string r5, .string r6, .string r7, .string r8, .string r9, .int .i64 r10, .int .i64 r11, .int .i64 r12, .int .i64 r13, .int .i64 r14], .agg #[.int .i64 r15, .int .i64 r16, .string r17, .string r18, .string r19, .string r20, .string r21, .string r22, .string r23, .string r24, .int .i64 r25, .int .i64 r26, .int .i64 r27, .int .i64 r28, .int .i64 r29], .string r30]) w')
  | _ => False
theorem T.ok327 : ∀ vs w K, T.c327 vs w K → (callFunc 327 vs.toArray).run Tryz.prog w = .ok (.enter 327 vs.toArray) w ∧ Calls Tryz.prog 327 vs.toArray w fun e w' => ∃ v, e = .returned v ∧ K v w' := by
  intro vs w K h
  unfold T.c327 at h
  split at h
  · refine ⟨Tryz.call327 _ _, ok_of T.CO327 mixed Tryz.func327 (T.eq327 _ _ _ _ _ _ _ _ _ _ _ _ _ _ _ _ _ _ _ _ _ _ _ _ _ _ _ _ _ _ _ _ _) h fun v w' hk => ⟨v, rfl, ?_⟩⟩
    split at hk
    · exact hk
    · exact hk.elim
  · exact h.elim

/-- e2e/btree.fromLeft (function 325). -/
def S.btree_fromLeft (l_kind : Int) (l_n : Int) (l_keys : ByteArray) (l_keys_ : ByteArray) (l_keys__ : ByteArray) (l_keys___ : ByteArray) (l_vals : ByteArray) (l_vals_ : ByteArray) (l_vals__ : ByteArray) (l_vals___ : ByteArray) (l_kids : Int) (l_kids_ : Int) (l_kids__ : Int) (l_kids___ : Int) (l_kids____ : Int) (r_kind : Int) (r_n : Int) (r_keys : ByteArray) (r_keys_ : ByteArray) (r_keys__ : ByteArray) (r_keys___ : ByteArray) (r_vals : ByteArray) (r_vals_ : ByteArray) (r_vals__ : ByteArray) (r_vals___ : ByteArray) (r_kids : Int) (r_kids_ : Int) (r_kids__ : Int) (r_kids___ : Int) (r_kids____ : Int) (sep : ByteArray) (w : World) (K : Int → Int → ByteArray → ByteArray → ByteArray → ByteArray → ByteArray → ByteArray → ByteArray → ByteArray → Int → Int → Int → Int → Int → Int → Int → ByteArray → ByteArray → ByteArray → ByteArray → ByteArray → ByteArray → ByteArray → ByteArray → Int → Int → Int → Int → Int → ByteArray → World → Prop) : Prop :=
  New w (.cells #[.int .i64 l_kind, .int .i64 l_n, .string l_keys, .string l_keys_, .string l_keys__, .string l_keys___, .string l_vals, .string l_vals_, .string l_vals__, .string l_vals___, .int .i64 l_kids, .int .i64 l_kids_, .int .i64 l_kids__, .int .i64 l_kids___, .int .i64 l_kids____] 289) fun p1 w =>
  New w (.cells #[.int .i64 r_kind, .int .i64 r_n, .string r_keys, .string r_keys_, .string r_keys__, .string r_keys___, .string r_vals, .string r_vals_, .string r_vals__, .string r_vals___, .int .i64 r_kids, .int .i64 r_kids_, .int .i64 r_kids__, .int .i64 r_kids___, .int .i64 r_kids____] 289) fun p2 w =>
  New w (.cells #[.int .i64 0, .int .i64 0, .string ⟨#[]⟩, .string ⟨#[]⟩, .string ⟨#[]⟩, .string ⟨#[]⟩, .string ⟨#[]⟩, .string ⟨#[]⟩, .string ⟨#[]⟩, .string ⟨#[]⟩, .int .i64 0, .int .i64 0, .int .i64 0, .int .i64 0, .int .i64 0] 289) fun p3 w =>
  New w (.cells #[.int .i64 0, .int .i64 0, .string ⟨#[]⟩, .string ⟨#[]⟩, .string ⟨#[]⟩, .string ⟨#[]⟩, .string ⟨#[]⟩, .string ⟨#[]⟩, .string ⟨#[]⟩, .string ⟨#[]⟩, .int .i64 0, .int .i64 0, .int .i64 0, .int .i64 0, .int .i64 0] 289) fun p4 w =>
  LdI .i64 w ⟨p1, 0, none⟩ fun kind_5 =>
  if (kind_5 == 1) = true then
    Drew w fun w =>
    LdI .i64 w ⟨p2, 0, none⟩ fun kind_6 =>
    LdI .i64 w ⟨p2, 1, none⟩ fun n_7 =>
    LdStr w ⟨p2, 2, none⟩ fun keys_8 =>
    LdStr w ⟨p2, 3, none⟩ fun keys_9 =>
    LdStr w ⟨p2, 4, none⟩ fun keys_10 =>
    LdStr w ⟨p2, 5, none⟩ fun keys_11 =>
    LdStr w ⟨p2, 6, none⟩ fun vals_12 =>
    LdStr w ⟨p2, 7, none⟩ fun vals_13 =>
    LdStr w ⟨p2, 8, none⟩ fun vals_14 =>
    LdStr w ⟨p2, 9, none⟩ fun vals_15 =>
    LdI .i64 w ⟨p2, 10, none⟩ fun kids_16 =>
    LdI .i64 w ⟨p2, 11, none⟩ fun kids_17 =>
    LdI .i64 w ⟨p2, 12, none⟩ fun kids_18 =>
    LdI .i64 w ⟨p2, 13, none⟩ fun kids_19 =>
    LdI .i64 w ⟨p2, 14, none⟩ fun kids_20 =>
    LdI .i64 w ⟨p1, 1, none⟩ fun n_21 =>
    IxA 4 (W (n_21 - 1)) <|
    LdStr w ⟨p1, 2 + Int.toNat (W (n_21 - 1)) * 1, none⟩ fun keys_22 =>
    LdI .i64 w ⟨p1, 1, none⟩ fun n_23 =>
    IxA 4 (W (n_23 - 1)) <|
    LdStr w ⟨p1, 6 + Int.toNat (W (n_23 - 1)) * 1, none⟩ fun vals_24 =>
    S.btree_leafPut kind_6 n_7 keys_8 keys_9 keys_10 keys_11 vals_12 vals_13 vals_14 vals_15 kids_16 kids_17 kids_18 kids_19 kids_20 keys_22 vals_24 w (fun kind_25 n_26 keys_27 keys_28 keys_29 keys_30 vals_31 vals_32 vals_33 vals_34 kids_35 kids_36 kids_37 kids_38 kids_39 w =>
    St1 w ⟨p2, 0, none⟩ (.int .i64 kind_25) fun w =>
    St1 w ⟨p2, 1, none⟩ (.int .i64 n_26) fun w =>
    St1 w ⟨p2, 2, none⟩ (.string keys_27) fun w =>
    St1 w ⟨p2, 3, none⟩ (.string keys_28) fun w =>
    St1 w ⟨p2, 4, none⟩ (.string keys_29) fun w =>
    St1 w ⟨p2, 5, none⟩ (.string keys_30) fun w =>
    St1 w ⟨p2, 6, none⟩ (.string vals_31) fun w =>
    St1 w ⟨p2, 7, none⟩ (.string vals_32) fun w =>
    St1 w ⟨p2, 8, none⟩ (.string vals_33) fun w =>
    St1 w ⟨p2, 9, none⟩ (.string vals_34) fun w =>
    St1 w ⟨p2, 10, none⟩ (.int .i64 kids_35) fun w =>
    St1 w ⟨p2, 11, none⟩ (.int .i64 kids_36) fun w =>
    St1 w ⟨p2, 12, none⟩ (.int .i64 kids_37) fun w =>
    St1 w ⟨p2, 13, none⟩ (.int .i64 kids_38) fun w =>
    St1 w ⟨p2, 14, none⟩ (.int .i64 kids_39) fun w =>
    LdI .i64 w ⟨p1, 1, none⟩ fun n_40 =>
    St1 w ⟨p1, 1, none⟩ (.int .i64 (W (n_40 - 1))) fun w =>
    Drew w fun w =>
    LdI .i64 w ⟨p1, 0, none⟩ fun kind_41 =>
    LdI .i64 w ⟨p1, 1, none⟩ fun n_42 =>
    LdStr w ⟨p1, 2, none⟩ fun keys_43 =>
    LdStr w ⟨p1, 3, none⟩ fun keys_44 =>
    LdStr w ⟨p1, 4, none⟩ fun keys_45 =>
    LdStr w ⟨p1, 5, none⟩ fun keys_46 =>
    LdStr w ⟨p1, 6, none⟩ fun vals_47 =>
    LdStr w ⟨p1, 7, none⟩ fun vals_48 =>
    LdStr w ⟨p1, 8, none⟩ fun vals_49 =>
    LdStr w ⟨p1, 9, none⟩ fun vals_50 =>
    LdI .i64 w ⟨p1, 10, none⟩ fun kids_51 =>
    LdI .i64 w ⟨p1, 11, none⟩ fun kids_52 =>
    LdI .i64 w ⟨p1, 12, none⟩ fun kids_53 =>
    LdI .i64 w ⟨p1, 13, none⟩ fun kids_54 =>
    LdI .i64 w ⟨p1, 14, none⟩ fun kids_55 =>
    Hold w ⟨p2, 0, none⟩ 15 fun R56 =>
    LdI .i64 w ⟨p2, 0, none⟩ fun kind_57 =>
    LdI .i64 w ⟨p2, 1, none⟩ fun n_58 =>
    LdStr w ⟨p2, 2, none⟩ fun keys_59 =>
    LdStr w ⟨p2, 3, none⟩ fun keys_60 =>
    LdStr w ⟨p2, 4, none⟩ fun keys_61 =>
    LdStr w ⟨p2, 5, none⟩ fun keys_62 =>
    LdStr w ⟨p2, 6, none⟩ fun vals_63 =>
    LdStr w ⟨p2, 7, none⟩ fun vals_64 =>
    LdStr w ⟨p2, 8, none⟩ fun vals_65 =>
    LdStr w ⟨p2, 9, none⟩ fun vals_66 =>
    LdI .i64 w ⟨p2, 10, none⟩ fun kids_67 =>
    LdI .i64 w ⟨p2, 11, none⟩ fun kids_68 =>
    LdI .i64 w ⟨p2, 12, none⟩ fun kids_69 =>
    LdI .i64 w ⟨p2, 13, none⟩ fun kids_70 =>
    LdI .i64 w ⟨p2, 14, none⟩ fun kids_71 =>
    IxA 4 0 <|
    Hold w ⟨p2, 2 + Int.toNat 0 * 1, none⟩ 1 fun R72 =>
    LdStr w ⟨p2, 2 + Int.toNat 0 * 1, none⟩ fun keys_73 =>
    St1 w ⟨p3, 0, none⟩ (.int .i64 kind_41) fun w =>
    St1 w ⟨p3, 1, none⟩ (.int .i64 n_42) fun w =>
    St1 w ⟨p3, 2, none⟩ (.string keys_43) fun w =>
    St1 w ⟨p3, 3, none⟩ (.string keys_44) fun w =>
    St1 w ⟨p3, 4, none⟩ (.string keys_45) fun w =>
    St1 w ⟨p3, 5, none⟩ (.string keys_46) fun w =>
    St1 w ⟨p3, 6, none⟩ (.string vals_47) fun w =>
    St1 w ⟨p3, 7, none⟩ (.string vals_48) fun w =>
    St1 w ⟨p3, 8, none⟩ (.string vals_49) fun w =>
    St1 w ⟨p3, 9, none⟩ (.string vals_50) fun w =>
    St1 w ⟨p3, 10, none⟩ (.int .i64 kids_51) fun w =>
    St1 w ⟨p3, 11, none⟩ (.int .i64 kids_52) fun w =>
    St1 w ⟨p3, 12, none⟩ (.int .i64 kids_53) fun w =>
    St1 w ⟨p3, 13, none⟩ (.int .i64 kids_54) fun w =>
    St1 w ⟨p3, 14, none⟩ (.int .i64 kids_55) fun w =>
    After R72 w <|
    After R56 w <|
    St1 w ⟨p4, 0, none⟩ (.int .i64 kind_57) fun w =>
    St1 w ⟨p4, 1, none⟩ (.int .i64 n_58) fun w =>
    St1 w ⟨p4, 2, none⟩ (.string keys_59) fun w =>
    St1 w ⟨p4, 3, none⟩ (.string keys_60) fun w =>
    St1 w ⟨p4, 4, none⟩ (.string keys_61) fun w =>
    St1 w ⟨p4, 5, none⟩ (.string keys_62) fun w =>
    St1 w ⟨p4, 6, none⟩ (.string vals_63) fun w =>
    St1 w ⟨p4, 7, none⟩ (.string vals_64) fun w =>
    St1 w ⟨p4, 8, none⟩ (.string vals_65) fun w =>
    St1 w ⟨p4, 9, none⟩ (.string vals_66) fun w =>
    St1 w ⟨p4, 10, none⟩ (.int .i64 kids_67) fun w =>
    St1 w ⟨p4, 11, none⟩ (.int .i64 kids_68) fun w =>
    St1 w ⟨p4, 12, none⟩ (.int .i64 kids_69) fun w =>
    St1 w ⟨p4, 13, none⟩ (.int .i64 kids_70) fun w =>
    St1 w ⟨p4, 14, none⟩ (.int .i64 kids_71) fun w =>
    After R72 w <|
    LdI .i64 w ⟨p3, 0, none⟩ fun kind_74 =>
    LdI .i64 w ⟨p3, 1, none⟩ fun n_75 =>
    LdStr w ⟨p3, 2, none⟩ fun keys_76 =>
    LdStr w ⟨p3, 3, none⟩ fun keys_77 =>
    LdStr w ⟨p3, 4, none⟩ fun keys_78 =>
    LdStr w ⟨p3, 5, none⟩ fun keys_79 =>
    LdStr w ⟨p3, 6, none⟩ fun vals_80 =>
    LdStr w ⟨p3, 7, none⟩ fun vals_81 =>
    LdStr w ⟨p3, 8, none⟩ fun vals_82 =>
    LdStr w ⟨p3, 9, none⟩ fun vals_83 =>
    LdI .i64 w ⟨p3, 10, none⟩ fun kids_84 =>
    LdI .i64 w ⟨p3, 11, none⟩ fun kids_85 =>
    LdI .i64 w ⟨p3, 12, none⟩ fun kids_86 =>
    LdI .i64 w ⟨p3, 13, none⟩ fun kids_87 =>
    LdI .i64 w ⟨p3, 14, none⟩ fun kids_88 =>
    LdI .i64 w ⟨p4, 0, none⟩ fun kind_89 =>
    LdI .i64 w ⟨p4, 1, none⟩ fun n_90 =>
    LdStr w ⟨p4, 2, none⟩ fun keys_91 =>
    LdStr w ⟨p4, 3, none⟩ fun keys_92 =>
    LdStr w ⟨p4, 4, none⟩ fun keys_93 =>
    LdStr w ⟨p4, 5, none⟩ fun keys_94 =>
    LdStr w ⟨p4, 6, none⟩ fun vals_95 =>
    LdStr w ⟨p4, 7, none⟩ fun vals_96 =>
    LdStr w ⟨p4, 8, none⟩ fun vals_97 =>
    LdStr w ⟨p4, 9, none⟩ fun vals_98 =>
    LdI .i64 w ⟨p4, 10, none⟩ fun kids_99 =>
    LdI .i64 w ⟨p4, 11, none⟩ fun kids_100 =>
    LdI .i64 w ⟨p4, 12, none⟩ fun kids_101 =>
    LdI .i64 w ⟨p4, 13, none⟩ fun kids_102 =>
    LdI .i64 w ⟨p4, 14, none⟩ fun kids_103 =>
    K kind_74 n_75 keys_76 keys_77 keys_78 keys_79 vals_80 vals_81 vals_82 vals_83 kids_84 kids_85 kids_86 kids_87 kids_88 kind_89 n_90 keys_91 keys_92 keys_93 keys_94 vals_95 vals_96 vals_97 vals_98 kids_99 kids_100 kids_101 kids_102 kids_103 keys_73 w)
  else
    IxA 5 0 <|
    LdI .i64 w ⟨p2, 10 + Int.toNat 0 * 1, none⟩ fun kids_104 =>
    IxA 5 1 <|
    St1 w ⟨p2, 10 + Int.toNat 1 * 1, none⟩ (.int .i64 kids_104) fun w =>
    LdI .i64 w ⟨p1, 1, none⟩ fun n_105 =>
    IxA 5 (W (n_105 - 1)) <|
    LdI .i64 w ⟨p1, 10 + Int.toNat (W (n_105 - 1)) * 1, none⟩ fun kids_106 =>
    IxA 5 0 <|
    St1 w ⟨p2, 10 + Int.toNat 0 * 1, none⟩ (.int .i64 kids_106) fun w =>
    IxA 4 0 <|
    St1 w ⟨p2, 2 + Int.toNat 0 * 1, none⟩ (.string sep) fun w =>
    St1 w ⟨p2, 1, none⟩ (.int .i64 2) fun w =>
    LdI .i64 w ⟨p1, 1, none⟩ fun n_107 =>
    St1 w ⟨p1, 1, none⟩ (.int .i64 (W (n_107 - 1))) fun w =>
    Drew w fun w =>
    LdI .i64 w ⟨p1, 0, none⟩ fun kind_108 =>
    LdI .i64 w ⟨p1, 1, none⟩ fun n_109 =>
    LdStr w ⟨p1, 2, none⟩ fun keys_110 =>
    LdStr w ⟨p1, 3, none⟩ fun keys_111 =>
    LdStr w ⟨p1, 4, none⟩ fun keys_112 =>
    LdStr w ⟨p1, 5, none⟩ fun keys_113 =>
    LdStr w ⟨p1, 6, none⟩ fun vals_114 =>
    LdStr w ⟨p1, 7, none⟩ fun vals_115 =>
    LdStr w ⟨p1, 8, none⟩ fun vals_116 =>
    LdStr w ⟨p1, 9, none⟩ fun vals_117 =>
    LdI .i64 w ⟨p1, 10, none⟩ fun kids_118 =>
    LdI .i64 w ⟨p1, 11, none⟩ fun kids_119 =>
    LdI .i64 w ⟨p1, 12, none⟩ fun kids_120 =>
    LdI .i64 w ⟨p1, 13, none⟩ fun kids_121 =>
    LdI .i64 w ⟨p1, 14, none⟩ fun kids_122 =>
    Hold w ⟨p2, 0, none⟩ 15 fun R123 =>
    LdI .i64 w ⟨p2, 0, none⟩ fun kind_124 =>
    LdI .i64 w ⟨p2, 1, none⟩ fun n_125 =>
    LdStr w ⟨p2, 2, none⟩ fun keys_126 =>
    LdStr w ⟨p2, 3, none⟩ fun keys_127 =>
    LdStr w ⟨p2, 4, none⟩ fun keys_128 =>
    LdStr w ⟨p2, 5, none⟩ fun keys_129 =>
    LdStr w ⟨p2, 6, none⟩ fun vals_130 =>
    LdStr w ⟨p2, 7, none⟩ fun vals_131 =>
    LdStr w ⟨p2, 8, none⟩ fun vals_132 =>
    LdStr w ⟨p2, 9, none⟩ fun vals_133 =>
    LdI .i64 w ⟨p2, 10, none⟩ fun kids_134 =>
    LdI .i64 w ⟨p2, 11, none⟩ fun kids_135 =>
    LdI .i64 w ⟨p2, 12, none⟩ fun kids_136 =>
    LdI .i64 w ⟨p2, 13, none⟩ fun kids_137 =>
    LdI .i64 w ⟨p2, 14, none⟩ fun kids_138 =>
    Hold w ⟨p1, 1, none⟩ 1 fun R139 =>
    LdI .i64 w ⟨p1, 1, none⟩ fun n_140 =>
    IxA 4 (W (n_140 - 1)) <|
    Hold w ⟨p1, 2 + Int.toNat (W (n_140 - 1)) * 1, none⟩ 1 fun R141 =>
    LdStr w ⟨p1, 2 + Int.toNat (W (n_140 - 1)) * 1, none⟩ fun keys_142 =>
    St1 w ⟨p3, 0, none⟩ (.int .i64 kind_108) fun w =>
    St1 w ⟨p3, 1, none⟩ (.int .i64 n_109) fun w =>
    St1 w ⟨p3, 2, none⟩ (.string keys_110) fun w =>
    St1 w ⟨p3, 3, none⟩ (.string keys_111) fun w =>
    St1 w ⟨p3, 4, none⟩ (.string keys_112) fun w =>
    St1 w ⟨p3, 5, none⟩ (.string keys_113) fun w =>
    St1 w ⟨p3, 6, none⟩ (.string vals_114) fun w =>
    St1 w ⟨p3, 7, none⟩ (.string vals_115) fun w =>
    St1 w ⟨p3, 8, none⟩ (.string vals_116) fun w =>
    St1 w ⟨p3, 9, none⟩ (.string vals_117) fun w =>
    St1 w ⟨p3, 10, none⟩ (.int .i64 kids_118) fun w =>
    St1 w ⟨p3, 11, none⟩ (.int .i64 kids_119) fun w =>
    St1 w ⟨p3, 12, none⟩ (.int .i64 kids_120) fun w =>
    St1 w ⟨p3, 13, none⟩ (.int .i64 kids_121) fun w =>
    St1 w ⟨p3, 14, none⟩ (.int .i64 kids_122) fun w =>
    After R141 w <|
    After R139 w <|
    After R123 w <|
    St1 w ⟨p4, 0, none⟩ (.int .i64 kind_124) fun w =>
    St1 w ⟨p4, 1, none⟩ (.int .i64 n_125) fun w =>
    St1 w ⟨p4, 2, none⟩ (.string keys_126) fun w =>
    St1 w ⟨p4, 3, none⟩ (.string keys_127) fun w =>
    St1 w ⟨p4, 4, none⟩ (.string keys_128) fun w =>
    St1 w ⟨p4, 5, none⟩ (.string keys_129) fun w =>
    St1 w ⟨p4, 6, none⟩ (.string vals_130) fun w =>
    St1 w ⟨p4, 7, none⟩ (.string vals_131) fun w =>
    St1 w ⟨p4, 8, none⟩ (.string vals_132) fun w =>
    St1 w ⟨p4, 9, none⟩ (.string vals_133) fun w =>
    St1 w ⟨p4, 10, none⟩ (.int .i64 kids_134) fun w =>
    St1 w ⟨p4, 11, none⟩ (.int .i64 kids_135) fun w =>
    St1 w ⟨p4, 12, none⟩ (.int .i64 kids_136) fun w =>
    St1 w ⟨p4, 13, none⟩ (.int .i64 kids_137) fun w =>
    St1 w ⟨p4, 14, none⟩ (.int .i64 kids_138) fun w =>
    After R141 w <|
    After R139 w <|
    LdI .i64 w ⟨p3, 0, none⟩ fun kind_143 =>
    LdI .i64 w ⟨p3, 1, none⟩ fun n_144 =>
    LdStr w ⟨p3, 2, none⟩ fun keys_145 =>
    LdStr w ⟨p3, 3, none⟩ fun keys_146 =>
    LdStr w ⟨p3, 4, none⟩ fun keys_147 =>
    LdStr w ⟨p3, 5, none⟩ fun keys_148 =>
    LdStr w ⟨p3, 6, none⟩ fun vals_149 =>
    LdStr w ⟨p3, 7, none⟩ fun vals_150 =>
    LdStr w ⟨p3, 8, none⟩ fun vals_151 =>
    LdStr w ⟨p3, 9, none⟩ fun vals_152 =>
    LdI .i64 w ⟨p3, 10, none⟩ fun kids_153 =>
    LdI .i64 w ⟨p3, 11, none⟩ fun kids_154 =>
    LdI .i64 w ⟨p3, 12, none⟩ fun kids_155 =>
    LdI .i64 w ⟨p3, 13, none⟩ fun kids_156 =>
    LdI .i64 w ⟨p3, 14, none⟩ fun kids_157 =>
    LdI .i64 w ⟨p4, 0, none⟩ fun kind_158 =>
    LdI .i64 w ⟨p4, 1, none⟩ fun n_159 =>
    LdStr w ⟨p4, 2, none⟩ fun keys_160 =>
    LdStr w ⟨p4, 3, none⟩ fun keys_161 =>
    LdStr w ⟨p4, 4, none⟩ fun keys_162 =>
    LdStr w ⟨p4, 5, none⟩ fun keys_163 =>
    LdStr w ⟨p4, 6, none⟩ fun vals_164 =>
    LdStr w ⟨p4, 7, none⟩ fun vals_165 =>
    LdStr w ⟨p4, 8, none⟩ fun vals_166 =>
    LdStr w ⟨p4, 9, none⟩ fun vals_167 =>
    LdI .i64 w ⟨p4, 10, none⟩ fun kids_168 =>
    LdI .i64 w ⟨p4, 11, none⟩ fun kids_169 =>
    LdI .i64 w ⟨p4, 12, none⟩ fun kids_170 =>
    LdI .i64 w ⟨p4, 13, none⟩ fun kids_171 =>
    LdI .i64 w ⟨p4, 14, none⟩ fun kids_172 =>
    K kind_143 n_144 keys_145 keys_146 keys_147 keys_148 vals_149 vals_150 vals_151 vals_152 kids_153 kids_154 kids_155 kids_156 kids_157 kind_158 n_159 keys_160 keys_161 keys_162 keys_163 vals_164 vals_165 vals_166 vals_167 kids_168 kids_169 kids_170 kids_171 kids_172 keys_142 w
def T.C325 : CallT := (CallT.cons 290 T.c290 CallT.nil)
def T.A325 : Ann := fun _ => none
set_option maxRecDepth 1000000 in
theorem T.eq325 (l_kind : Int) (l_n : Int) (l_keys : ByteArray) (l_keys_ : ByteArray) (l_keys__ : ByteArray) (l_keys___ : ByteArray) (l_vals : ByteArray) (l_vals_ : ByteArray) (l_vals__ : ByteArray) (l_vals___ : ByteArray) (l_kids : Int) (l_kids_ : Int) (l_kids__ : Int) (l_kids___ : Int) (l_kids____ : Int) (r_kind : Int) (r_n : Int) (r_keys : ByteArray) (r_keys_ : ByteArray) (r_keys__ : ByteArray) (r_keys___ : ByteArray) (r_vals : ByteArray) (r_vals_ : ByteArray) (r_vals__ : ByteArray) (r_vals___ : ByteArray) (r_kids : Int) (r_kids_ : Int) (r_kids__ : Int) (r_kids___ : Int) (r_kids____ : Int) (sep : ByteArray) (w : World) (K : Int → Int → ByteArray → ByteArray → ByteArray → ByteArray → ByteArray → ByteArray → ByteArray → ByteArray → Int → Int → Int → Int → Int → Int → Int → ByteArray → ByteArray → ByteArray → ByteArray → ByteArray → ByteArray → ByteArray → ByteArray → Int → Int → Int → Int → Int → ByteArray → World → Prop) : denF Tryz.prog T.C325 T.A325 Tryz.f325 [.agg #[.int .i64 l_kind, .int .i64 l_n, .string l_keys, .string l_keys_, .string l_keys__, .string l_keys___, .string l_vals, .string l_vals_, .string l_vals__, .string l_vals___, .int .i64 l_kids, .int .i64 l_kids_, .int .i64 l_kids__, .int .i64 l_kids___, .int .i64 l_kids____], .agg #[.int .i64 r_kind, .int .i64 r_n, .string r_keys, .string r_keys_, .string r_keys__, .string r_keys___, .string r_vals, .string r_vals_, .string r_vals__, .string r_vals___, .int .i64 r_kids, .int .i64 r_kids_, .int .i64 r_kids__, .int .i64 r_kids___, .int .i64 r_kids____], .string sep] w (fun v w' => match v with | .tuple ⟨[.agg ⟨[.int .i64 r0, .int .i64 r1, .string r2, .string r3, .string r4, .string r5, .string r6, .string r7, .string r8, .string r9, .int .i64 r10, .int .i64 r11, .int .i64 r12, .int .i64 r13, .int .i64 r14]⟩, .agg ⟨[.int .i64 r15, .int .i64 r16, .string r17, .string r18, .string r19, .string r20, .string r21, .string r22, .string r23, .string r24, .int .i64 r25, .int .i64 r26, .int .i64 r27, .int .i64 r28, .int .i64 r29]⟩, .string r30]⟩ => K r0 r1 r2 r3 r4 r5 r6 r7 r8 r9 r10 r11 r12 r13 r14 r15 r16 r17 r18 r19 r20 r21 r22 r23 r24 r25 r26 r27 r28 r29 r30 w' | _ => False) = S.btree_fromLeft l_kind l_n l_keys l_keys_ l_keys__ l_keys___ l_vals l_vals_ l_vals__ l_vals___ l_kids l_kids_ l_kids__ l_kids___ l_kids____ r_kind r_n r_keys r_keys_ r_keys__ r_keys___ r_vals r_vals_ r_vals__ r_vals___ r_kids r_kids_ r_kids__ r_kids___ r_kids____ sep w K := by kernel_rfl
theorem T.CO325 : CallOk Tryz.prog T.C325 := (CallOk.cons 290 T.ok290 CallOk.nil)
def T.c325 (vs : List Value) (w : World) (K : Value → World → Prop) : Prop :=
  match vs with
  | [.agg ⟨[.int .i64 l_kind, .int .i64 l_n, .string l_keys, .string l_keys_, .string l_keys__, .string l_keys___, .string l_vals, .string l_vals_, .string l_vals__, .string l_vals___, .int .i64 l_kids, .int .i64 l_kids_, .int .i64 l_kids__, .int .i64 l_kids___, .int .i64 l_kids____]⟩, .agg ⟨[.int .i64 r_kind, .int .i64 r_n, .string r_keys, .string r_keys_, .string r_keys__, .string r_keys___, .string r_vals, .string r_vals_, .string r_vals__, .string r_vals___, .int .i64 r_kids, .int .i64 r_kids_, .int .i64 r_kids__, .int .i64 r_kids___, .int .i64 r_kids____]⟩, .string sep] => S.btree_fromLeft l_kind l_n l_keys l_keys_ l_keys__ l_keys___ l_vals l_vals_ l_vals__ l_vals___ l_kids l_kids_ l_kids__ l_kids___ l_kids____ r_kind r_n r_keys r_keys_ r_keys__ r_keys___ r_vals r_vals_ r_vals__ r_vals___ r_kids r_kids_ r_kids__ r_kids___ r_kids____ sep w (fun r0 r1 r2 r3 r4 r5 r6 r7 r8 r9 r10 r11 r12 r13 r14 r15 r16 r17 r18 r19 r20 r21 r22 r23 r24 r25 r26 r27 r28 r29 r30 w' => K (.tuple #[.agg #[.int .i64 r0, .int .i64 r1, .string r2, .string r3, .string r4, .string r5, .string r6, .string r7, .string r8, .string r9, .int .i64 r10, .int .i64 r11, .int .i64 r12, .int .i64 r13, .int .i64 r14], .agg #[.int .i64 r15, .int .i64 r16, .string r17, .string r18, .string r19, .string r20, .string r21, .string r22, .string r23, .string r24, .int .i64 r25, .int .i64 r26, .int .i64 r27, .int .i64 r28, .int .i64 r29], .string r30]) w')
  | _ => False
theorem T.ok325 : ∀ vs w K, T.c325 vs w K → (callFunc 325 vs.toArray).run Tryz.prog w = .ok (.enter 325 vs.toArray) w ∧ Calls Tryz.prog 325 vs.toArray w fun e w' => ∃ v, e = .returned v ∧ K v w' := by
  intro vs w K h
  unfold T.c325 at h
  split at h
  · refine ⟨Tryz.call325 _ _, ok_of T.CO325 mixed Tryz.func325 (T.eq325 _ _ _ _ _ _ _ _ _ _ _ _ _ _ _ _ _ _ _ _ _ _ _ _ _ _ _ _ _ _ _ _ _) h fun v w' hk => ⟨v, rfl, ?_⟩⟩
    split at hk
    · exact hk
    · exact hk.elim
  · exact h.elim

/-- (*e2e/btree.Forest).mend (function 294). -/
def S.btree_Forest_mend (f : Nat) (nd_kind : Int) (nd_n : Int) (nd_keys : ByteArray) (nd_keys_ : ByteArray) (nd_keys__ : ByteArray) (nd_keys___ : ByteArray) (nd_vals : ByteArray) (nd_vals_ : ByteArray) (nd_vals__ : ByteArray) (nd_vals___ : ByteArray) (nd_kids : Int) (nd_kids_ : Int) (nd_kids__ : Int) (nd_kids___ : Int) (nd_kids____ : Int) (c : Int) (w : World) (K : Int → Int → ByteArray → ByteArray → ByteArray → ByteArray → ByteArray → ByteArray → ByteArray → ByteArray → Int → Int → Int → Int → Int → Int → World → Prop) : Prop :=
  New w (.cells #[.int .i64 nd_kind, .int .i64 nd_n, .string nd_keys, .string nd_keys_, .string nd_keys__, .string nd_keys___, .string nd_vals, .string nd_vals_, .string nd_vals__, .string nd_vals___, .int .i64 nd_kids, .int .i64 nd_kids_, .int .i64 nd_kids__, .int .i64 nd_kids___, .int .i64 nd_kids____] 289) fun p1 w =>
  New w (.cells #[.int .i64 0, .int .i64 0, .string ⟨#[]⟩, .string ⟨#[]⟩, .string ⟨#[]⟩, .string ⟨#[]⟩, .string ⟨#[]⟩, .string ⟨#[]⟩, .string ⟨#[]⟩, .string ⟨#[]⟩, .int .i64 0, .int .i64 0, .int .i64 0, .int .i64 0, .int .i64 0] 289) fun p2 w =>
  IxA 5 c <|
  LdI .i64 w ⟨p1, 10 + Int.toNat c * 1, none⟩ fun kids_3 =>
  S.btree_Forest_load f kids_3 w (fun kind_4 n_5 keys_6 keys_7 keys_8 keys_9 vals_10 vals_11 vals_12 vals_13 kids_14 kids_15 kids_16 kids_17 kids_18 r19 w =>
  New w (.cells #[.int .i64 0, .int .i64 0, .string ⟨#[]⟩, .string ⟨#[]⟩, .string ⟨#[]⟩, .string ⟨#[]⟩, .string ⟨#[]⟩, .string ⟨#[]⟩, .string ⟨#[]⟩, .string ⟨#[]⟩, .int .i64 0, .int .i64 0, .int .i64 0, .int .i64 0, .int .i64 0] 289) fun p20 w =>
  St1 w ⟨p20, 0, none⟩ (.int .i64 kind_4) fun w =>
  St1 w ⟨p20, 1, none⟩ (.int .i64 n_5) fun w =>
  St1 w ⟨p20, 2, none⟩ (.string keys_6) fun w =>
  St1 w ⟨p20, 3, none⟩ (.string keys_7) fun w =>
  St1 w ⟨p20, 4, none⟩ (.string keys_8) fun w =>
  St1 w ⟨p20, 5, none⟩ (.string keys_9) fun w =>
  St1 w ⟨p20, 6, none⟩ (.string vals_10) fun w =>
  St1 w ⟨p20, 7, none⟩ (.string vals_11) fun w =>
  St1 w ⟨p20, 8, none⟩ (.string vals_12) fun w =>
  St1 w ⟨p20, 9, none⟩ (.string vals_13) fun w =>
  St1 w ⟨p20, 10, none⟩ (.int .i64 kids_14) fun w =>
  St1 w ⟨p20, 11, none⟩ (.int .i64 kids_15) fun w =>
  St1 w ⟨p20, 12, none⟩ (.int .i64 kids_16) fun w =>
  St1 w ⟨p20, 13, none⟩ (.int .i64 kids_17) fun w =>
  St1 w ⟨p20, 14, none⟩ (.int .i64 kids_18) fun w =>
  if (!r19) = true then
    LdI .i64 w ⟨p1, 0, none⟩ fun kind_21 =>
    LdI .i64 w ⟨p1, 1, none⟩ fun n_22 =>
    LdStr w ⟨p1, 2, none⟩ fun keys_23 =>
    LdStr w ⟨p1, 3, none⟩ fun keys_24 =>
    LdStr w ⟨p1, 4, none⟩ fun keys_25 =>
    LdStr w ⟨p1, 5, none⟩ fun keys_26 =>
    LdStr w ⟨p1, 6, none⟩ fun vals_27 =>
    LdStr w ⟨p1, 7, none⟩ fun vals_28 =>
    LdStr w ⟨p1, 8, none⟩ fun vals_29 =>
    LdStr w ⟨p1, 9, none⟩ fun vals_30 =>
    LdI .i64 w ⟨p1, 10, none⟩ fun kids_31 =>
    LdI .i64 w ⟨p1, 11, none⟩ fun kids_32 =>
    LdI .i64 w ⟨p1, 12, none⟩ fun kids_33 =>
    LdI .i64 w ⟨p1, 13, none⟩ fun kids_34 =>
    LdI .i64 w ⟨p1, 14, none⟩ fun kids_35 =>
    St1 w ⟨p2, 0, none⟩ (.int .i64 kind_21) fun w =>
    St1 w ⟨p2, 1, none⟩ (.int .i64 n_22) fun w =>
    St1 w ⟨p2, 2, none⟩ (.string keys_23) fun w =>
    St1 w ⟨p2, 3, none⟩ (.string keys_24) fun w =>
    St1 w ⟨p2, 4, none⟩ (.string keys_25) fun w =>
    St1 w ⟨p2, 5, none⟩ (.string keys_26) fun w =>
    St1 w ⟨p2, 6, none⟩ (.string vals_27) fun w =>
    St1 w ⟨p2, 7, none⟩ (.string vals_28) fun w =>
    St1 w ⟨p2, 8, none⟩ (.string vals_29) fun w =>
    St1 w ⟨p2, 9, none⟩ (.string vals_30) fun w =>
    St1 w ⟨p2, 10, none⟩ (.int .i64 kids_31) fun w =>
    St1 w ⟨p2, 11, none⟩ (.int .i64 kids_32) fun w =>
    St1 w ⟨p2, 12, none⟩ (.int .i64 kids_33) fun w =>
    St1 w ⟨p2, 13, none⟩ (.int .i64 kids_34) fun w =>
    St1 w ⟨p2, 14, none⟩ (.int .i64 kids_35) fun w =>
    LdI .i64 w ⟨p2, 0, none⟩ fun kind_36 =>
    LdI .i64 w ⟨p2, 1, none⟩ fun n_37 =>
    LdStr w ⟨p2, 2, none⟩ fun keys_38 =>
    LdStr w ⟨p2, 3, none⟩ fun keys_39 =>
    LdStr w ⟨p2, 4, none⟩ fun keys_40 =>
    LdStr w ⟨p2, 5, none⟩ fun keys_41 =>
    LdStr w ⟨p2, 6, none⟩ fun vals_42 =>
    LdStr w ⟨p2, 7, none⟩ fun vals_43 =>
    LdStr w ⟨p2, 8, none⟩ fun vals_44 =>
    LdStr w ⟨p2, 9, none⟩ fun vals_45 =>
    LdI .i64 w ⟨p2, 10, none⟩ fun kids_46 =>
    LdI .i64 w ⟨p2, 11, none⟩ fun kids_47 =>
    LdI .i64 w ⟨p2, 12, none⟩ fun kids_48 =>
    LdI .i64 w ⟨p2, 13, none⟩ fun kids_49 =>
    LdI .i64 w ⟨p2, 14, none⟩ fun kids_50 =>
    K kind_36 n_37 keys_38 keys_39 keys_40 keys_41 vals_42 vals_43 vals_44 vals_45 kids_46 kids_47 kids_48 kids_49 kids_50 23 w
  else
    LdI .i64 w ⟨p20, 0, none⟩ fun kind_51 =>
    Join (fun (least_52 : Int) (most_53 : Int) (w : World) =>
      New w (.cells #[.int .i64 0, .int .i64 0, .string ⟨#[]⟩, .string ⟨#[]⟩, .string ⟨#[]⟩, .string ⟨#[]⟩, .string ⟨#[]⟩, .string ⟨#[]⟩, .string ⟨#[]⟩, .string ⟨#[]⟩, .int .i64 0, .int .i64 0, .int .i64 0, .int .i64 0, .int .i64 0] 289) fun p54 w =>
      New w (.cells #[.int .i64 0, .int .i64 0, .string ⟨#[]⟩, .string ⟨#[]⟩, .string ⟨#[]⟩, .string ⟨#[]⟩, .string ⟨#[]⟩, .string ⟨#[]⟩, .string ⟨#[]⟩, .string ⟨#[]⟩, .int .i64 0, .int .i64 0, .int .i64 0, .int .i64 0, .int .i64 0] 289) fun p55 w =>
      Join (fun (w : World) =>
        LdI .i64 w ⟨p1, 1, none⟩ fun n_56 =>
        Join (fun (w : World) =>
          Join (fun (i_57 : Int) (w : World) =>
            Join (fun (w : World) =>
              LdI .i64 w ⟨p1, 0, none⟩ fun kind_58 =>
              LdI .i64 w ⟨p1, 1, none⟩ fun n_59 =>
              LdStr w ⟨p1, 2, none⟩ fun keys_60 =>
              LdStr w ⟨p1, 3, none⟩ fun keys_61 =>
              LdStr w ⟨p1, 4, none⟩ fun keys_62 =>
              LdStr w ⟨p1, 5, none⟩ fun keys_63 =>
              LdStr w ⟨p1, 6, none⟩ fun vals_64 =>
              LdStr w ⟨p1, 7, none⟩ fun vals_65 =>
              LdStr w ⟨p1, 8, none⟩ fun vals_66 =>
              LdStr w ⟨p1, 9, none⟩ fun vals_67 =>
              LdI .i64 w ⟨p1, 10, none⟩ fun kids_68 =>
              LdI .i64 w ⟨p1, 11, none⟩ fun kids_69 =>
              LdI .i64 w ⟨p1, 12, none⟩ fun kids_70 =>
              LdI .i64 w ⟨p1, 13, none⟩ fun kids_71 =>
              LdI .i64 w ⟨p1, 14, none⟩ fun kids_72 =>
              St1 w ⟨p2, 0, none⟩ (.int .i64 kind_58) fun w =>
              St1 w ⟨p2, 1, none⟩ (.int .i64 n_59) fun w =>
              St1 w ⟨p2, 2, none⟩ (.string keys_60) fun w =>
              St1 w ⟨p2, 3, none⟩ (.string keys_61) fun w =>
              St1 w ⟨p2, 4, none⟩ (.string keys_62) fun w =>
              St1 w ⟨p2, 5, none⟩ (.string keys_63) fun w =>
              St1 w ⟨p2, 6, none⟩ (.string vals_64) fun w =>
              St1 w ⟨p2, 7, none⟩ (.string vals_65) fun w =>
              St1 w ⟨p2, 8, none⟩ (.string vals_66) fun w =>
              St1 w ⟨p2, 9, none⟩ (.string vals_67) fun w =>
              St1 w ⟨p2, 10, none⟩ (.int .i64 kids_68) fun w =>
              St1 w ⟨p2, 11, none⟩ (.int .i64 kids_69) fun w =>
              St1 w ⟨p2, 12, none⟩ (.int .i64 kids_70) fun w =>
              St1 w ⟨p2, 13, none⟩ (.int .i64 kids_71) fun w =>
              St1 w ⟨p2, 14, none⟩ (.int .i64 kids_72) fun w =>
              LdI .i64 w ⟨p2, 0, none⟩ fun kind_73 =>
              LdI .i64 w ⟨p2, 1, none⟩ fun n_74 =>
              LdStr w ⟨p2, 2, none⟩ fun keys_75 =>
              LdStr w ⟨p2, 3, none⟩ fun keys_76 =>
              LdStr w ⟨p2, 4, none⟩ fun keys_77 =>
              LdStr w ⟨p2, 5, none⟩ fun keys_78 =>
              LdStr w ⟨p2, 6, none⟩ fun vals_79 =>
              LdStr w ⟨p2, 7, none⟩ fun vals_80 =>
              LdStr w ⟨p2, 8, none⟩ fun vals_81 =>
              LdStr w ⟨p2, 9, none⟩ fun vals_82 =>
              LdI .i64 w ⟨p2, 10, none⟩ fun kids_83 =>
              LdI .i64 w ⟨p2, 11, none⟩ fun kids_84 =>
              LdI .i64 w ⟨p2, 12, none⟩ fun kids_85 =>
              LdI .i64 w ⟨p2, 13, none⟩ fun kids_86 =>
              LdI .i64 w ⟨p2, 14, none⟩ fun kids_87 =>
              K kind_73 n_74 keys_75 keys_76 keys_77 keys_78 vals_79 vals_80 vals_81 vals_82 kids_83 kids_84 kids_85 kids_86 kids_87 23 w) fun J88 =>
            LdI .i64 w ⟨p1, 1, none⟩ fun n_89 =>
            if (decide ((W (i_57 + 1)) ≥ n_89)) = true then
              J88 w
            else
              LdI .i64 w ⟨p54, 1, none⟩ fun n_90 =>
              LdI .i64 w ⟨p55, 1, none⟩ fun n_91 =>
              if (decide ((W (n_90 + n_91)) > most_53)) = true then
                J88 w
              else
                Join (fun (both_92 : Nat) (w : World) =>
                  Drew w fun w =>
                  IxA 5 i_57 <|
                  LdI .i64 w ⟨p1, 10 + Int.toNat i_57 * 1, none⟩ fun kids_93 =>
                  LdI .i64 w ⟨both_92, 0, none⟩ fun kind_94 =>
                  LdI .i64 w ⟨both_92, 1, none⟩ fun n_95 =>
                  LdStr w ⟨both_92, 2, none⟩ fun keys_96 =>
                  LdStr w ⟨both_92, 3, none⟩ fun keys_97 =>
                  LdStr w ⟨both_92, 4, none⟩ fun keys_98 =>
                  LdStr w ⟨both_92, 5, none⟩ fun keys_99 =>
                  LdStr w ⟨both_92, 6, none⟩ fun vals_100 =>
                  LdStr w ⟨both_92, 7, none⟩ fun vals_101 =>
                  LdStr w ⟨both_92, 8, none⟩ fun vals_102 =>
                  LdStr w ⟨both_92, 9, none⟩ fun vals_103 =>
                  LdI .i64 w ⟨both_92, 10, none⟩ fun kids_104 =>
                  LdI .i64 w ⟨both_92, 11, none⟩ fun kids_105 =>
                  LdI .i64 w ⟨both_92, 12, none⟩ fun kids_106 =>
                  LdI .i64 w ⟨both_92, 13, none⟩ fun kids_107 =>
                  LdI .i64 w ⟨both_92, 14, none⟩ fun kids_108 =>
                  S.btree_Forest_store f kids_93 kind_94 n_95 keys_96 keys_97 keys_98 keys_99 vals_100 vals_101 vals_102 vals_103 kids_104 kids_105 kids_106 kids_107 kids_108 w (fun r109 w =>
                  if (r109 != 0) = true then
                    LdI .i64 w ⟨p1, 0, none⟩ fun kind_110 =>
                    LdI .i64 w ⟨p1, 1, none⟩ fun n_111 =>
                    LdStr w ⟨p1, 2, none⟩ fun keys_112 =>
                    LdStr w ⟨p1, 3, none⟩ fun keys_113 =>
                    LdStr w ⟨p1, 4, none⟩ fun keys_114 =>
                    LdStr w ⟨p1, 5, none⟩ fun keys_115 =>
                    LdStr w ⟨p1, 6, none⟩ fun vals_116 =>
                    LdStr w ⟨p1, 7, none⟩ fun vals_117 =>
                    LdStr w ⟨p1, 8, none⟩ fun vals_118 =>
                    LdStr w ⟨p1, 9, none⟩ fun vals_119 =>
                    LdI .i64 w ⟨p1, 10, none⟩ fun kids_120 =>
                    LdI .i64 w ⟨p1, 11, none⟩ fun kids_121 =>
                    LdI .i64 w ⟨p1, 12, none⟩ fun kids_122 =>
                    LdI .i64 w ⟨p1, 13, none⟩ fun kids_123 =>
                    LdI .i64 w ⟨p1, 14, none⟩ fun kids_124 =>
                    St1 w ⟨p2, 0, none⟩ (.int .i64 kind_110) fun w =>
                    St1 w ⟨p2, 1, none⟩ (.int .i64 n_111) fun w =>
                    St1 w ⟨p2, 2, none⟩ (.string keys_112) fun w =>
                    St1 w ⟨p2, 3, none⟩ (.string keys_113) fun w =>
                    St1 w ⟨p2, 4, none⟩ (.string keys_114) fun w =>
                    St1 w ⟨p2, 5, none⟩ (.string keys_115) fun w =>
                    St1 w ⟨p2, 6, none⟩ (.string vals_116) fun w =>
                    St1 w ⟨p2, 7, none⟩ (.string vals_117) fun w =>
                    St1 w ⟨p2, 8, none⟩ (.string vals_118) fun w =>
                    St1 w ⟨p2, 9, none⟩ (.string vals_119) fun w =>
                    St1 w ⟨p2, 10, none⟩ (.int .i64 kids_120) fun w =>
                    St1 w ⟨p2, 11, none⟩ (.int .i64 kids_121) fun w =>
                    St1 w ⟨p2, 12, none⟩ (.int .i64 kids_122) fun w =>
                    St1 w ⟨p2, 13, none⟩ (.int .i64 kids_123) fun w =>
                    St1 w ⟨p2, 14, none⟩ (.int .i64 kids_124) fun w =>
                    LdI .i64 w ⟨p2, 0, none⟩ fun kind_125 =>
                    LdI .i64 w ⟨p2, 1, none⟩ fun n_126 =>
                    LdStr w ⟨p2, 2, none⟩ fun keys_127 =>
                    LdStr w ⟨p2, 3, none⟩ fun keys_128 =>
                    LdStr w ⟨p2, 4, none⟩ fun keys_129 =>
                    LdStr w ⟨p2, 5, none⟩ fun keys_130 =>
                    LdStr w ⟨p2, 6, none⟩ fun vals_131 =>
                    LdStr w ⟨p2, 7, none⟩ fun vals_132 =>
                    LdStr w ⟨p2, 8, none⟩ fun vals_133 =>
                    LdStr w ⟨p2, 9, none⟩ fun vals_134 =>
                    LdI .i64 w ⟨p2, 10, none⟩ fun kids_135 =>
                    LdI .i64 w ⟨p2, 11, none⟩ fun kids_136 =>
                    LdI .i64 w ⟨p2, 12, none⟩ fun kids_137 =>
                    LdI .i64 w ⟨p2, 13, none⟩ fun kids_138 =>
                    LdI .i64 w ⟨p2, 14, none⟩ fun kids_139 =>
                    K kind_125 n_126 keys_127 keys_128 keys_129 keys_130 vals_131 vals_132 vals_133 vals_134 kids_135 kids_136 kids_137 kids_138 kids_139 23 w
                  else
                    Drew w fun w =>
                    LdP w ⟨f, 0, none⟩ fun p_140 =>
                    IxA 5 (W (i_57 + 1)) <|
                    LdI .i64 w ⟨p1, 10 + Int.toNat (W (i_57 + 1)) * 1, none⟩ fun kids_141 =>
                    S.pager_Pager_Free p_140 kids_141 w (fun r142 w =>
                    if (r142 != 0) = true then
                      LdI .i64 w ⟨p1, 0, none⟩ fun kind_143 =>
                      LdI .i64 w ⟨p1, 1, none⟩ fun n_144 =>
                      LdStr w ⟨p1, 2, none⟩ fun keys_145 =>
                      LdStr w ⟨p1, 3, none⟩ fun keys_146 =>
                      LdStr w ⟨p1, 4, none⟩ fun keys_147 =>
                      LdStr w ⟨p1, 5, none⟩ fun keys_148 =>
                      LdStr w ⟨p1, 6, none⟩ fun vals_149 =>
                      LdStr w ⟨p1, 7, none⟩ fun vals_150 =>
                      LdStr w ⟨p1, 8, none⟩ fun vals_151 =>
                      LdStr w ⟨p1, 9, none⟩ fun vals_152 =>
                      LdI .i64 w ⟨p1, 10, none⟩ fun kids_153 =>
                      LdI .i64 w ⟨p1, 11, none⟩ fun kids_154 =>
                      LdI .i64 w ⟨p1, 12, none⟩ fun kids_155 =>
                      LdI .i64 w ⟨p1, 13, none⟩ fun kids_156 =>
                      LdI .i64 w ⟨p1, 14, none⟩ fun kids_157 =>
                      St1 w ⟨p2, 0, none⟩ (.int .i64 kind_143) fun w =>
                      St1 w ⟨p2, 1, none⟩ (.int .i64 n_144) fun w =>
                      St1 w ⟨p2, 2, none⟩ (.string keys_145) fun w =>
                      St1 w ⟨p2, 3, none⟩ (.string keys_146) fun w =>
                      St1 w ⟨p2, 4, none⟩ (.string keys_147) fun w =>
                      St1 w ⟨p2, 5, none⟩ (.string keys_148) fun w =>
                      St1 w ⟨p2, 6, none⟩ (.string vals_149) fun w =>
                      St1 w ⟨p2, 7, none⟩ (.string vals_150) fun w =>
                      St1 w ⟨p2, 8, none⟩ (.string vals_151) fun w =>
                      St1 w ⟨p2, 9, none⟩ (.string vals_152) fun w =>
                      St1 w ⟨p2, 10, none⟩ (.int .i64 kids_153) fun w =>
                      St1 w ⟨p2, 11, none⟩ (.int .i64 kids_154) fun w =>
                      St1 w ⟨p2, 12, none⟩ (.int .i64 kids_155) fun w =>
                      St1 w ⟨p2, 13, none⟩ (.int .i64 kids_156) fun w =>
                      St1 w ⟨p2, 14, none⟩ (.int .i64 kids_157) fun w =>
                      LdI .i64 w ⟨p2, 0, none⟩ fun kind_158 =>
                      LdI .i64 w ⟨p2, 1, none⟩ fun n_159 =>
                      LdStr w ⟨p2, 2, none⟩ fun keys_160 =>
                      LdStr w ⟨p2, 3, none⟩ fun keys_161 =>
                      LdStr w ⟨p2, 4, none⟩ fun keys_162 =>
                      LdStr w ⟨p2, 5, none⟩ fun keys_163 =>
                      LdStr w ⟨p2, 6, none⟩ fun vals_164 =>
                      LdStr w ⟨p2, 7, none⟩ fun vals_165 =>
                      LdStr w ⟨p2, 8, none⟩ fun vals_166 =>
                      LdStr w ⟨p2, 9, none⟩ fun vals_167 =>
                      LdI .i64 w ⟨p2, 10, none⟩ fun kids_168 =>
                      LdI .i64 w ⟨p2, 11, none⟩ fun kids_169 =>
                      LdI .i64 w ⟨p2, 12, none⟩ fun kids_170 =>
                      LdI .i64 w ⟨p2, 13, none⟩ fun kids_171 =>
                      LdI .i64 w ⟨p2, 14, none⟩ fun kids_172 =>
                      K kind_158 n_159 keys_160 keys_161 keys_162 keys_163 vals_164 vals_165 vals_166 vals_167 kids_168 kids_169 kids_170 kids_171 kids_172 23 w
                    else
                      LdI .i64 w ⟨p1, 0, none⟩ fun kind_173 =>
                      LdI .i64 w ⟨p1, 1, none⟩ fun n_174 =>
                      LdStr w ⟨p1, 2, none⟩ fun keys_175 =>
                      LdStr w ⟨p1, 3, none⟩ fun keys_176 =>
                      LdStr w ⟨p1, 4, none⟩ fun keys_177 =>
                      LdStr w ⟨p1, 5, none⟩ fun keys_178 =>
                      LdStr w ⟨p1, 6, none⟩ fun vals_179 =>
                      LdStr w ⟨p1, 7, none⟩ fun vals_180 =>
                      LdStr w ⟨p1, 8, none⟩ fun vals_181 =>
                      LdStr w ⟨p1, 9, none⟩ fun vals_182 =>
                      LdI .i64 w ⟨p1, 10, none⟩ fun kids_183 =>
                      LdI .i64 w ⟨p1, 11, none⟩ fun kids_184 =>
                      LdI .i64 w ⟨p1, 12, none⟩ fun kids_185 =>
                      LdI .i64 w ⟨p1, 13, none⟩ fun kids_186 =>
                      LdI .i64 w ⟨p1, 14, none⟩ fun kids_187 =>
                      S.btree_innerCut kind_173 n_174 keys_175 keys_176 keys_177 keys_178 vals_179 vals_180 vals_181 vals_182 kids_183 kids_184 kids_185 kids_186 kids_187 i_57 w (fun kind_188 n_189 keys_190 keys_191 keys_192 keys_193 vals_194 vals_195 vals_196 vals_197 kids_198 kids_199 kids_200 kids_201 kids_202 w =>
                      St1 w ⟨p2, 0, none⟩ (.int .i64 kind_188) fun w =>
                      St1 w ⟨p2, 1, none⟩ (.int .i64 n_189) fun w =>
                      St1 w ⟨p2, 2, none⟩ (.string keys_190) fun w =>
                      St1 w ⟨p2, 3, none⟩ (.string keys_191) fun w =>
                      St1 w ⟨p2, 4, none⟩ (.string keys_192) fun w =>
                      St1 w ⟨p2, 5, none⟩ (.string keys_193) fun w =>
                      St1 w ⟨p2, 6, none⟩ (.string vals_194) fun w =>
                      St1 w ⟨p2, 7, none⟩ (.string vals_195) fun w =>
                      St1 w ⟨p2, 8, none⟩ (.string vals_196) fun w =>
                      St1 w ⟨p2, 9, none⟩ (.string vals_197) fun w =>
                      St1 w ⟨p2, 10, none⟩ (.int .i64 kids_198) fun w =>
                      St1 w ⟨p2, 11, none⟩ (.int .i64 kids_199) fun w =>
                      St1 w ⟨p2, 12, none⟩ (.int .i64 kids_200) fun w =>
                      St1 w ⟨p2, 13, none⟩ (.int .i64 kids_201) fun w =>
                      St1 w ⟨p2, 14, none⟩ (.int .i64 kids_202) fun w =>
                      LdI .i64 w ⟨p2, 0, none⟩ fun kind_203 =>
                      LdI .i64 w ⟨p2, 1, none⟩ fun n_204 =>
                      LdStr w ⟨p2, 2, none⟩ fun keys_205 =>
                      LdStr w ⟨p2, 3, none⟩ fun keys_206 =>
                      LdStr w ⟨p2, 4, none⟩ fun keys_207 =>
                      LdStr w ⟨p2, 5, none⟩ fun keys_208 =>
                      LdStr w ⟨p2, 6, none⟩ fun vals_209 =>
                      LdStr w ⟨p2, 7, none⟩ fun vals_210 =>
                      LdStr w ⟨p2, 8, none⟩ fun vals_211 =>
                      LdStr w ⟨p2, 9, none⟩ fun vals_212 =>
                      LdI .i64 w ⟨p2, 10, none⟩ fun kids_213 =>
                      LdI .i64 w ⟨p2, 11, none⟩ fun kids_214 =>
                      LdI .i64 w ⟨p2, 12, none⟩ fun kids_215 =>
                      LdI .i64 w ⟨p2, 13, none⟩ fun kids_216 =>
                      LdI .i64 w ⟨p2, 14, none⟩ fun kids_217 =>
                      K kind_203 n_204 keys_205 keys_206 keys_207 keys_208 vals_209 vals_210 vals_211 vals_212 kids_213 kids_214 kids_215 kids_216 kids_217 0 w)))) fun J218 =>
                Drew w fun w =>
                Hold w ⟨p54, 0, none⟩ 15 fun R219 =>
                LdI .i64 w ⟨p54, 0, none⟩ fun kind_220 =>
                LdI .i64 w ⟨p54, 1, none⟩ fun n_221 =>
                LdStr w ⟨p54, 2, none⟩ fun keys_222 =>
                LdStr w ⟨p54, 3, none⟩ fun keys_223 =>
                LdStr w ⟨p54, 4, none⟩ fun keys_224 =>
                LdStr w ⟨p54, 5, none⟩ fun keys_225 =>
                LdStr w ⟨p54, 6, none⟩ fun vals_226 =>
                LdStr w ⟨p54, 7, none⟩ fun vals_227 =>
                LdStr w ⟨p54, 8, none⟩ fun vals_228 =>
                LdStr w ⟨p54, 9, none⟩ fun vals_229 =>
                LdI .i64 w ⟨p54, 10, none⟩ fun kids_230 =>
                LdI .i64 w ⟨p54, 11, none⟩ fun kids_231 =>
                LdI .i64 w ⟨p54, 12, none⟩ fun kids_232 =>
                LdI .i64 w ⟨p54, 13, none⟩ fun kids_233 =>
                LdI .i64 w ⟨p54, 14, none⟩ fun kids_234 =>
                Hold w ⟨p55, 0, none⟩ 15 fun R235 =>
                LdI .i64 w ⟨p55, 0, none⟩ fun kind_236 =>
                LdI .i64 w ⟨p55, 1, none⟩ fun n_237 =>
                LdStr w ⟨p55, 2, none⟩ fun keys_238 =>
                LdStr w ⟨p55, 3, none⟩ fun keys_239 =>
                LdStr w ⟨p55, 4, none⟩ fun keys_240 =>
                LdStr w ⟨p55, 5, none⟩ fun keys_241 =>
                LdStr w ⟨p55, 6, none⟩ fun vals_242 =>
                LdStr w ⟨p55, 7, none⟩ fun vals_243 =>
                LdStr w ⟨p55, 8, none⟩ fun vals_244 =>
                LdStr w ⟨p55, 9, none⟩ fun vals_245 =>
                LdI .i64 w ⟨p55, 10, none⟩ fun kids_246 =>
                LdI .i64 w ⟨p55, 11, none⟩ fun kids_247 =>
                LdI .i64 w ⟨p55, 12, none⟩ fun kids_248 =>
                LdI .i64 w ⟨p55, 13, none⟩ fun kids_249 =>
                LdI .i64 w ⟨p55, 14, none⟩ fun kids_250 =>
                IxA 4 i_57 <|
                Hold w ⟨p1, 2 + Int.toNat i_57 * 1, none⟩ 1 fun R251 =>
                LdStr w ⟨p1, 2 + Int.toNat i_57 * 1, none⟩ fun keys_252 =>
                (S.btree_join kind_220 n_221 keys_222 keys_223 keys_224 keys_225 vals_226 vals_227 vals_228 vals_229 kids_230 kids_231 kids_232 kids_233 kids_234 kind_236 n_237 keys_238 keys_239 keys_240 keys_241 vals_242 vals_243 vals_244 vals_245 kids_246 kids_247 kids_248 kids_249 kids_250 keys_252 w (fun kind_253 n_254 keys_255 keys_256 keys_257 keys_258 vals_259 vals_260 vals_261 vals_262 kids_263 kids_264 kids_265 kids_266 kids_267 w =>
                New w (.cells #[.int .i64 0, .int .i64 0, .string ⟨#[]⟩, .string ⟨#[]⟩, .string ⟨#[]⟩, .string ⟨#[]⟩, .string ⟨#[]⟩, .string ⟨#[]⟩, .string ⟨#[]⟩, .string ⟨#[]⟩, .int .i64 0, .int .i64 0, .int .i64 0, .int .i64 0, .int .i64 0] 289) fun p268 w =>
                After R251 w <|
                After R235 w <|
                After R219 w <|
                St1 w ⟨p268, 0, none⟩ (.int .i64 kind_253) fun w =>
                St1 w ⟨p268, 1, none⟩ (.int .i64 n_254) fun w =>
                St1 w ⟨p268, 2, none⟩ (.string keys_255) fun w =>
                St1 w ⟨p268, 3, none⟩ (.string keys_256) fun w =>
                St1 w ⟨p268, 4, none⟩ (.string keys_257) fun w =>
                St1 w ⟨p268, 5, none⟩ (.string keys_258) fun w =>
                St1 w ⟨p268, 6, none⟩ (.string vals_259) fun w =>
                St1 w ⟨p268, 7, none⟩ (.string vals_260) fun w =>
                St1 w ⟨p268, 8, none⟩ (.string vals_261) fun w =>
                St1 w ⟨p268, 9, none⟩ (.string vals_262) fun w =>
                St1 w ⟨p268, 10, none⟩ (.int .i64 kids_263) fun w =>
                St1 w ⟨p268, 11, none⟩ (.int .i64 kids_264) fun w =>
                St1 w ⟨p268, 12, none⟩ (.int .i64 kids_265) fun w =>
                St1 w ⟨p268, 13, none⟩ (.int .i64 kids_266) fun w =>
                St1 w ⟨p268, 14, none⟩ (.int .i64 kids_267) fun w =>
                J218 p268 w)) ∧
                (New w (.cells #[.int .i64 0, .int .i64 0, .string ⟨#[]⟩, .string ⟨#[]⟩, .string ⟨#[]⟩, .string ⟨#[]⟩, .string ⟨#[]⟩, .string ⟨#[]⟩, .string ⟨#[]⟩, .string ⟨#[]⟩, .int .i64 0, .int .i64 0, .int .i64 0, .int .i64 0, .int .i64 0] 289) fun p269 w =>
                After R251 w <|
                After R235 w <|
                After R219 w <|
                S.btree_join kind_220 n_221 keys_222 keys_223 keys_224 keys_225 vals_226 vals_227 vals_228 vals_229 kids_230 kids_231 kids_232 kids_233 kids_234 kind_236 n_237 keys_238 keys_239 keys_240 keys_241 vals_242 vals_243 vals_244 vals_245 kids_246 kids_247 kids_248 kids_249 kids_250 keys_252 w (fun kind_270 n_271 keys_272 keys_273 keys_274 keys_275 vals_276 vals_277 vals_278 vals_279 kids_280 kids_281 kids_282 kids_283 kids_284 w =>
                St1 w ⟨p269, 0, none⟩ (.int .i64 kind_270) fun w =>
                St1 w ⟨p269, 1, none⟩ (.int .i64 n_271) fun w =>
                St1 w ⟨p269, 2, none⟩ (.string keys_272) fun w =>
                St1 w ⟨p269, 3, none⟩ (.string keys_273) fun w =>
                St1 w ⟨p269, 4, none⟩ (.string keys_274) fun w =>
                St1 w ⟨p269, 5, none⟩ (.string keys_275) fun w =>
                St1 w ⟨p269, 6, none⟩ (.string vals_276) fun w =>
                St1 w ⟨p269, 7, none⟩ (.string vals_277) fun w =>
                St1 w ⟨p269, 8, none⟩ (.string vals_278) fun w =>
                St1 w ⟨p269, 9, none⟩ (.string vals_279) fun w =>
                St1 w ⟨p269, 10, none⟩ (.int .i64 kids_280) fun w =>
                St1 w ⟨p269, 11, none⟩ (.int .i64 kids_281) fun w =>
                St1 w ⟨p269, 12, none⟩ (.int .i64 kids_282) fun w =>
                St1 w ⟨p269, 13, none⟩ (.int .i64 kids_283) fun w =>
                St1 w ⟨p269, 14, none⟩ (.int .i64 kids_284) fun w =>
                J218 p269 w))) fun J285 =>
          if (decide (c > 0)) = true then
            Let (W (c - 1)) fun i_286 =>
            LdI .i64 w ⟨p20, 0, none⟩ fun kind_287 =>
            LdI .i64 w ⟨p20, 1, none⟩ fun n_288 =>
            LdStr w ⟨p20, 2, none⟩ fun keys_289 =>
            LdStr w ⟨p20, 3, none⟩ fun keys_290 =>
            LdStr w ⟨p20, 4, none⟩ fun keys_291 =>
            LdStr w ⟨p20, 5, none⟩ fun keys_292 =>
            LdStr w ⟨p20, 6, none⟩ fun vals_293 =>
            LdStr w ⟨p20, 7, none⟩ fun vals_294 =>
            LdStr w ⟨p20, 8, none⟩ fun vals_295 =>
            LdStr w ⟨p20, 9, none⟩ fun vals_296 =>
            LdI .i64 w ⟨p20, 10, none⟩ fun kids_297 =>
            LdI .i64 w ⟨p20, 11, none⟩ fun kids_298 =>
            LdI .i64 w ⟨p20, 12, none⟩ fun kids_299 =>
            LdI .i64 w ⟨p20, 13, none⟩ fun kids_300 =>
            LdI .i64 w ⟨p20, 14, none⟩ fun kids_301 =>
            St1 w ⟨p55, 0, none⟩ (.int .i64 kind_287) fun w =>
            St1 w ⟨p55, 1, none⟩ (.int .i64 n_288) fun w =>
            St1 w ⟨p55, 2, none⟩ (.string keys_289) fun w =>
            St1 w ⟨p55, 3, none⟩ (.string keys_290) fun w =>
            St1 w ⟨p55, 4, none⟩ (.string keys_291) fun w =>
            St1 w ⟨p55, 5, none⟩ (.string keys_292) fun w =>
            St1 w ⟨p55, 6, none⟩ (.string vals_293) fun w =>
            St1 w ⟨p55, 7, none⟩ (.string vals_294) fun w =>
            St1 w ⟨p55, 8, none⟩ (.string vals_295) fun w =>
            St1 w ⟨p55, 9, none⟩ (.string vals_296) fun w =>
            St1 w ⟨p55, 10, none⟩ (.int .i64 kids_297) fun w =>
            St1 w ⟨p55, 11, none⟩ (.int .i64 kids_298) fun w =>
            St1 w ⟨p55, 12, none⟩ (.int .i64 kids_299) fun w =>
            St1 w ⟨p55, 13, none⟩ (.int .i64 kids_300) fun w =>
            St1 w ⟨p55, 14, none⟩ (.int .i64 kids_301) fun w =>
            J285 i_286 w
          else
            LdI .i64 w ⟨p20, 0, none⟩ fun kind_302 =>
            LdI .i64 w ⟨p20, 1, none⟩ fun n_303 =>
            LdStr w ⟨p20, 2, none⟩ fun keys_304 =>
            LdStr w ⟨p20, 3, none⟩ fun keys_305 =>
            LdStr w ⟨p20, 4, none⟩ fun keys_306 =>
            LdStr w ⟨p20, 5, none⟩ fun keys_307 =>
            LdStr w ⟨p20, 6, none⟩ fun vals_308 =>
            LdStr w ⟨p20, 7, none⟩ fun vals_309 =>
            LdStr w ⟨p20, 8, none⟩ fun vals_310 =>
            LdStr w ⟨p20, 9, none⟩ fun vals_311 =>
            LdI .i64 w ⟨p20, 10, none⟩ fun kids_312 =>
            LdI .i64 w ⟨p20, 11, none⟩ fun kids_313 =>
            LdI .i64 w ⟨p20, 12, none⟩ fun kids_314 =>
            LdI .i64 w ⟨p20, 13, none⟩ fun kids_315 =>
            LdI .i64 w ⟨p20, 14, none⟩ fun kids_316 =>
            St1 w ⟨p54, 0, none⟩ (.int .i64 kind_302) fun w =>
            St1 w ⟨p54, 1, none⟩ (.int .i64 n_303) fun w =>
            St1 w ⟨p54, 2, none⟩ (.string keys_304) fun w =>
            St1 w ⟨p54, 3, none⟩ (.string keys_305) fun w =>
            St1 w ⟨p54, 4, none⟩ (.string keys_306) fun w =>
            St1 w ⟨p54, 5, none⟩ (.string keys_307) fun w =>
            St1 w ⟨p54, 6, none⟩ (.string vals_308) fun w =>
            St1 w ⟨p54, 7, none⟩ (.string vals_309) fun w =>
            St1 w ⟨p54, 8, none⟩ (.string vals_310) fun w =>
            St1 w ⟨p54, 9, none⟩ (.string vals_311) fun w =>
            St1 w ⟨p54, 10, none⟩ (.int .i64 kids_312) fun w =>
            St1 w ⟨p54, 11, none⟩ (.int .i64 kids_313) fun w =>
            St1 w ⟨p54, 12, none⟩ (.int .i64 kids_314) fun w =>
            St1 w ⟨p54, 13, none⟩ (.int .i64 kids_315) fun w =>
            St1 w ⟨p54, 14, none⟩ (.int .i64 kids_316) fun w =>
            J285 c w) fun J317 =>
        if (decide ((W (c + 1)) < n_56)) = true then
          IxA 5 (W (c + 1)) <|
          LdI .i64 w ⟨p1, 10 + Int.toNat (W (c + 1)) * 1, none⟩ fun kids_318 =>
          S.btree_Forest_load f kids_318 w (fun kind_319 n_320 keys_321 keys_322 keys_323 keys_324 vals_325 vals_326 vals_327 vals_328 kids_329 kids_330 kids_331 kids_332 kids_333 r334 w =>
          St1 w ⟨p55, 0, none⟩ (.int .i64 kind_319) fun w =>
          St1 w ⟨p55, 1, none⟩ (.int .i64 n_320) fun w =>
          St1 w ⟨p55, 2, none⟩ (.string keys_321) fun w =>
          St1 w ⟨p55, 3, none⟩ (.string keys_322) fun w =>
          St1 w ⟨p55, 4, none⟩ (.string keys_323) fun w =>
          St1 w ⟨p55, 5, none⟩ (.string keys_324) fun w =>
          St1 w ⟨p55, 6, none⟩ (.string vals_325) fun w =>
          St1 w ⟨p55, 7, none⟩ (.string vals_326) fun w =>
          St1 w ⟨p55, 8, none⟩ (.string vals_327) fun w =>
          St1 w ⟨p55, 9, none⟩ (.string vals_328) fun w =>
          St1 w ⟨p55, 10, none⟩ (.int .i64 kids_329) fun w =>
          St1 w ⟨p55, 11, none⟩ (.int .i64 kids_330) fun w =>
          St1 w ⟨p55, 12, none⟩ (.int .i64 kids_331) fun w =>
          St1 w ⟨p55, 13, none⟩ (.int .i64 kids_332) fun w =>
          St1 w ⟨p55, 14, none⟩ (.int .i64 kids_333) fun w =>
          Join (fun (w : World) =>
            LdI .i64 w ⟨p1, 0, none⟩ fun kind_335 =>
            LdI .i64 w ⟨p1, 1, none⟩ fun n_336 =>
            LdStr w ⟨p1, 2, none⟩ fun keys_337 =>
            LdStr w ⟨p1, 3, none⟩ fun keys_338 =>
            LdStr w ⟨p1, 4, none⟩ fun keys_339 =>
            LdStr w ⟨p1, 5, none⟩ fun keys_340 =>
            LdStr w ⟨p1, 6, none⟩ fun vals_341 =>
            LdStr w ⟨p1, 7, none⟩ fun vals_342 =>
            LdStr w ⟨p1, 8, none⟩ fun vals_343 =>
            LdStr w ⟨p1, 9, none⟩ fun vals_344 =>
            LdI .i64 w ⟨p1, 10, none⟩ fun kids_345 =>
            LdI .i64 w ⟨p1, 11, none⟩ fun kids_346 =>
            LdI .i64 w ⟨p1, 12, none⟩ fun kids_347 =>
            LdI .i64 w ⟨p1, 13, none⟩ fun kids_348 =>
            LdI .i64 w ⟨p1, 14, none⟩ fun kids_349 =>
            St1 w ⟨p2, 0, none⟩ (.int .i64 kind_335) fun w =>
            St1 w ⟨p2, 1, none⟩ (.int .i64 n_336) fun w =>
            St1 w ⟨p2, 2, none⟩ (.string keys_337) fun w =>
            St1 w ⟨p2, 3, none⟩ (.string keys_338) fun w =>
            St1 w ⟨p2, 4, none⟩ (.string keys_339) fun w =>
            St1 w ⟨p2, 5, none⟩ (.string keys_340) fun w =>
            St1 w ⟨p2, 6, none⟩ (.string vals_341) fun w =>
            St1 w ⟨p2, 7, none⟩ (.string vals_342) fun w =>
            St1 w ⟨p2, 8, none⟩ (.string vals_343) fun w =>
            St1 w ⟨p2, 9, none⟩ (.string vals_344) fun w =>
            St1 w ⟨p2, 10, none⟩ (.int .i64 kids_345) fun w =>
            St1 w ⟨p2, 11, none⟩ (.int .i64 kids_346) fun w =>
            St1 w ⟨p2, 12, none⟩ (.int .i64 kids_347) fun w =>
            St1 w ⟨p2, 13, none⟩ (.int .i64 kids_348) fun w =>
            St1 w ⟨p2, 14, none⟩ (.int .i64 kids_349) fun w =>
            LdI .i64 w ⟨p2, 0, none⟩ fun kind_350 =>
            LdI .i64 w ⟨p2, 1, none⟩ fun n_351 =>
            LdStr w ⟨p2, 2, none⟩ fun keys_352 =>
            LdStr w ⟨p2, 3, none⟩ fun keys_353 =>
            LdStr w ⟨p2, 4, none⟩ fun keys_354 =>
            LdStr w ⟨p2, 5, none⟩ fun keys_355 =>
            LdStr w ⟨p2, 6, none⟩ fun vals_356 =>
            LdStr w ⟨p2, 7, none⟩ fun vals_357 =>
            LdStr w ⟨p2, 8, none⟩ fun vals_358 =>
            LdStr w ⟨p2, 9, none⟩ fun vals_359 =>
            LdI .i64 w ⟨p2, 10, none⟩ fun kids_360 =>
            LdI .i64 w ⟨p2, 11, none⟩ fun kids_361 =>
            LdI .i64 w ⟨p2, 12, none⟩ fun kids_362 =>
            LdI .i64 w ⟨p2, 13, none⟩ fun kids_363 =>
            LdI .i64 w ⟨p2, 14, none⟩ fun kids_364 =>
            K kind_350 n_351 keys_352 keys_353 keys_354 keys_355 vals_356 vals_357 vals_358 vals_359 kids_360 kids_361 kids_362 kids_363 kids_364 23 w) fun J365 =>
          if (!r334) = true then
            J365 w
          else
            LdI .i64 w ⟨p55, 0, none⟩ fun kind_366 =>
            LdI .i64 w ⟨p20, 0, none⟩ fun kind_367 =>
            if (kind_366 != kind_367) = true then
              J365 w
            else
              LdI .i64 w ⟨p55, 1, none⟩ fun n_368 =>
              if (decide (n_368 > least_52)) = true then
                Join (fun (a_369 : Nat) (b_370 : Nat) (sep_371 : ByteArray) (w : World) =>
                  IxA 4 c <|
                  St1 w ⟨p1, 2 + Int.toNat c * 1, none⟩ (.string sep_371) fun w =>
                  Drew w fun w =>
                  Hold w ⟨p1, 0, none⟩ 15 fun R372 =>
                  LdI .i64 w ⟨p1, 0, none⟩ fun kind_373 =>
                  LdI .i64 w ⟨p1, 1, none⟩ fun n_374 =>
                  LdStr w ⟨p1, 2, none⟩ fun keys_375 =>
                  LdStr w ⟨p1, 3, none⟩ fun keys_376 =>
                  LdStr w ⟨p1, 4, none⟩ fun keys_377 =>
                  LdStr w ⟨p1, 5, none⟩ fun keys_378 =>
                  LdStr w ⟨p1, 6, none⟩ fun vals_379 =>
                  LdStr w ⟨p1, 7, none⟩ fun vals_380 =>
                  LdStr w ⟨p1, 8, none⟩ fun vals_381 =>
                  LdStr w ⟨p1, 9, none⟩ fun vals_382 =>
                  LdI .i64 w ⟨p1, 10, none⟩ fun kids_383 =>
                  LdI .i64 w ⟨p1, 11, none⟩ fun kids_384 =>
                  LdI .i64 w ⟨p1, 12, none⟩ fun kids_385 =>
                  LdI .i64 w ⟨p1, 13, none⟩ fun kids_386 =>
                  LdI .i64 w ⟨p1, 14, none⟩ fun kids_387 =>
                  IxA 5 c <|
                  LdI .i64 w ⟨p1, 10 + Int.toNat c * 1, none⟩ fun kids_388 =>
                  LdI .i64 w ⟨a_369, 0, none⟩ fun kind_389 =>
                  LdI .i64 w ⟨a_369, 1, none⟩ fun n_390 =>
                  LdStr w ⟨a_369, 2, none⟩ fun keys_391 =>
                  LdStr w ⟨a_369, 3, none⟩ fun keys_392 =>
                  LdStr w ⟨a_369, 4, none⟩ fun keys_393 =>
                  LdStr w ⟨a_369, 5, none⟩ fun keys_394 =>
                  LdStr w ⟨a_369, 6, none⟩ fun vals_395 =>
                  LdStr w ⟨a_369, 7, none⟩ fun vals_396 =>
                  LdStr w ⟨a_369, 8, none⟩ fun vals_397 =>
                  LdStr w ⟨a_369, 9, none⟩ fun vals_398 =>
                  LdI .i64 w ⟨a_369, 10, none⟩ fun kids_399 =>
                  LdI .i64 w ⟨a_369, 11, none⟩ fun kids_400 =>
                  LdI .i64 w ⟨a_369, 12, none⟩ fun kids_401 =>
                  LdI .i64 w ⟨a_369, 13, none⟩ fun kids_402 =>
                  LdI .i64 w ⟨a_369, 14, none⟩ fun kids_403 =>
                  IxA 5 (W (c + 1)) <|
                  LdI .i64 w ⟨p1, 10 + Int.toNat (W (c + 1)) * 1, none⟩ fun kids_404 =>
                  LdI .i64 w ⟨b_370, 0, none⟩ fun kind_405 =>
                  LdI .i64 w ⟨b_370, 1, none⟩ fun n_406 =>
                  LdStr w ⟨b_370, 2, none⟩ fun keys_407 =>
                  LdStr w ⟨b_370, 3, none⟩ fun keys_408 =>
                  LdStr w ⟨b_370, 4, none⟩ fun keys_409 =>
                  LdStr w ⟨b_370, 5, none⟩ fun keys_410 =>
                  LdStr w ⟨b_370, 6, none⟩ fun vals_411 =>
                  LdStr w ⟨b_370, 7, none⟩ fun vals_412 =>
                  LdStr w ⟨b_370, 8, none⟩ fun vals_413 =>
                  LdStr w ⟨b_370, 9, none⟩ fun vals_414 =>
                  LdI .i64 w ⟨b_370, 10, none⟩ fun kids_415 =>
                  LdI .i64 w ⟨b_370, 11, none⟩ fun kids_416 =>
                  LdI .i64 w ⟨b_370, 12, none⟩ fun kids_417 =>
                  LdI .i64 w ⟨b_370, 13, none⟩ fun kids_418 =>
                  LdI .i64 w ⟨b_370, 14, none⟩ fun kids_419 =>
                  S.btree_Forest_store2 f kids_388 kind_389 n_390 keys_391 keys_392 keys_393 keys_394 vals_395 vals_396 vals_397 vals_398 kids_399 kids_400 kids_401 kids_402 kids_403 kids_404 kind_405 n_406 keys_407 keys_408 keys_409 keys_410 vals_411 vals_412 vals_413 vals_414 kids_415 kids_416 kids_417 kids_418 kids_419 w (fun r420 w =>
                  After R372 w <|
                  St1 w ⟨p2, 0, none⟩ (.int .i64 kind_373) fun w =>
                  St1 w ⟨p2, 1, none⟩ (.int .i64 n_374) fun w =>
                  St1 w ⟨p2, 2, none⟩ (.string keys_375) fun w =>
                  St1 w ⟨p2, 3, none⟩ (.string keys_376) fun w =>
                  St1 w ⟨p2, 4, none⟩ (.string keys_377) fun w =>
                  St1 w ⟨p2, 5, none⟩ (.string keys_378) fun w =>
                  St1 w ⟨p2, 6, none⟩ (.string vals_379) fun w =>
                  St1 w ⟨p2, 7, none⟩ (.string vals_380) fun w =>
                  St1 w ⟨p2, 8, none⟩ (.string vals_381) fun w =>
                  St1 w ⟨p2, 9, none⟩ (.string vals_382) fun w =>
                  St1 w ⟨p2, 10, none⟩ (.int .i64 kids_383) fun w =>
                  St1 w ⟨p2, 11, none⟩ (.int .i64 kids_384) fun w =>
                  St1 w ⟨p2, 12, none⟩ (.int .i64 kids_385) fun w =>
                  St1 w ⟨p2, 13, none⟩ (.int .i64 kids_386) fun w =>
                  St1 w ⟨p2, 14, none⟩ (.int .i64 kids_387) fun w =>
                  LdI .i64 w ⟨p2, 0, none⟩ fun kind_421 =>
                  LdI .i64 w ⟨p2, 1, none⟩ fun n_422 =>
                  LdStr w ⟨p2, 2, none⟩ fun keys_423 =>
                  LdStr w ⟨p2, 3, none⟩ fun keys_424 =>
                  LdStr w ⟨p2, 4, none⟩ fun keys_425 =>
                  LdStr w ⟨p2, 5, none⟩ fun keys_426 =>
                  LdStr w ⟨p2, 6, none⟩ fun vals_427 =>
                  LdStr w ⟨p2, 7, none⟩ fun vals_428 =>
                  LdStr w ⟨p2, 8, none⟩ fun vals_429 =>
                  LdStr w ⟨p2, 9, none⟩ fun vals_430 =>
                  LdI .i64 w ⟨p2, 10, none⟩ fun kids_431 =>
                  LdI .i64 w ⟨p2, 11, none⟩ fun kids_432 =>
                  LdI .i64 w ⟨p2, 12, none⟩ fun kids_433 =>
                  LdI .i64 w ⟨p2, 13, none⟩ fun kids_434 =>
                  LdI .i64 w ⟨p2, 14, none⟩ fun kids_435 =>
                  K kind_421 n_422 keys_423 keys_424 keys_425 keys_426 vals_427 vals_428 vals_429 vals_430 kids_431 kids_432 kids_433 kids_434 kids_435 r420 w)) fun J436 =>
                Drew w fun w =>
                Hold w ⟨p20, 0, none⟩ 15 fun R437 =>
                LdI .i64 w ⟨p20, 0, none⟩ fun kind_438 =>
                LdI .i64 w ⟨p20, 1, none⟩ fun n_439 =>
                LdStr w ⟨p20, 2, none⟩ fun keys_440 =>
                LdStr w ⟨p20, 3, none⟩ fun keys_441 =>
                LdStr w ⟨p20, 4, none⟩ fun keys_442 =>
                LdStr w ⟨p20, 5, none⟩ fun keys_443 =>
                LdStr w ⟨p20, 6, none⟩ fun vals_444 =>
                LdStr w ⟨p20, 7, none⟩ fun vals_445 =>
                LdStr w ⟨p20, 8, none⟩ fun vals_446 =>
                LdStr w ⟨p20, 9, none⟩ fun vals_447 =>
                LdI .i64 w ⟨p20, 10, none⟩ fun kids_448 =>
                LdI .i64 w ⟨p20, 11, none⟩ fun kids_449 =>
                LdI .i64 w ⟨p20, 12, none⟩ fun kids_450 =>
                LdI .i64 w ⟨p20, 13, none⟩ fun kids_451 =>
                LdI .i64 w ⟨p20, 14, none⟩ fun kids_452 =>
                Hold w ⟨p55, 0, none⟩ 15 fun R453 =>
                LdI .i64 w ⟨p55, 0, none⟩ fun kind_454 =>
                LdI .i64 w ⟨p55, 1, none⟩ fun n_455 =>
                LdStr w ⟨p55, 2, none⟩ fun keys_456 =>
                LdStr w ⟨p55, 3, none⟩ fun keys_457 =>
                LdStr w ⟨p55, 4, none⟩ fun keys_458 =>
                LdStr w ⟨p55, 5, none⟩ fun keys_459 =>
                LdStr w ⟨p55, 6, none⟩ fun vals_460 =>
                LdStr w ⟨p55, 7, none⟩ fun vals_461 =>
                LdStr w ⟨p55, 8, none⟩ fun vals_462 =>
                LdStr w ⟨p55, 9, none⟩ fun vals_463 =>
                LdI .i64 w ⟨p55, 10, none⟩ fun kids_464 =>
                LdI .i64 w ⟨p55, 11, none⟩ fun kids_465 =>
                LdI .i64 w ⟨p55, 12, none⟩ fun kids_466 =>
                LdI .i64 w ⟨p55, 13, none⟩ fun kids_467 =>
                LdI .i64 w ⟨p55, 14, none⟩ fun kids_468 =>
                IxA 4 c <|
                Hold w ⟨p1, 2 + Int.toNat c * 1, none⟩ 1 fun R469 =>
                LdStr w ⟨p1, 2 + Int.toNat c * 1, none⟩ fun keys_470 =>
                (S.btree_fromRight kind_438 n_439 keys_440 keys_441 keys_442 keys_443 vals_444 vals_445 vals_446 vals_447 kids_448 kids_449 kids_450 kids_451 kids_452 kind_454 n_455 keys_456 keys_457 keys_458 keys_459 vals_460 vals_461 vals_462 vals_463 kids_464 kids_465 kids_466 kids_467 kids_468 keys_470 w (fun kind_471 n_472 keys_473 keys_474 keys_475 keys_476 vals_477 vals_478 vals_479 vals_480 kids_481 kids_482 kids_483 kids_484 kids_485 kind_486 n_487 keys_488 keys_489 keys_490 keys_491 vals_492 vals_493 vals_494 vals_495 kids_496 kids_497 kids_498 kids_499 kids_500 r501 w =>
                (New w (.cells #[.int .i64 0, .int .i64 0, .string ⟨#[]⟩, .string ⟨#[]⟩, .string ⟨#[]⟩, .string ⟨#[]⟩, .string ⟨#[]⟩, .string ⟨#[]⟩, .string ⟨#[]⟩, .string ⟨#[]⟩, .int .i64 0, .int .i64 0, .int .i64 0, .int .i64 0, .int .i64 0] 289) fun p502 w =>
                After R469 w <|
                After R453 w <|
                After R437 w <|
                New w (.cells #[.int .i64 0, .int .i64 0, .string ⟨#[]⟩, .string ⟨#[]⟩, .string ⟨#[]⟩, .string ⟨#[]⟩, .string ⟨#[]⟩, .string ⟨#[]⟩, .string ⟨#[]⟩, .string ⟨#[]⟩, .int .i64 0, .int .i64 0, .int .i64 0, .int .i64 0, .int .i64 0] 289) fun p503 w =>
                After R469 w <|
                After R453 w <|
                After R437 w <|
                St1 w ⟨p502, 0, none⟩ (.int .i64 kind_471) fun w =>
                St1 w ⟨p502, 1, none⟩ (.int .i64 n_472) fun w =>
                St1 w ⟨p502, 2, none⟩ (.string keys_473) fun w =>
                St1 w ⟨p502, 3, none⟩ (.string keys_474) fun w =>
                St1 w ⟨p502, 4, none⟩ (.string keys_475) fun w =>
                St1 w ⟨p502, 5, none⟩ (.string keys_476) fun w =>
                St1 w ⟨p502, 6, none⟩ (.string vals_477) fun w =>
                St1 w ⟨p502, 7, none⟩ (.string vals_478) fun w =>
                St1 w ⟨p502, 8, none⟩ (.string vals_479) fun w =>
                St1 w ⟨p502, 9, none⟩ (.string vals_480) fun w =>
                St1 w ⟨p502, 10, none⟩ (.int .i64 kids_481) fun w =>
                St1 w ⟨p502, 11, none⟩ (.int .i64 kids_482) fun w =>
                St1 w ⟨p502, 12, none⟩ (.int .i64 kids_483) fun w =>
                St1 w ⟨p502, 13, none⟩ (.int .i64 kids_484) fun w =>
                St1 w ⟨p502, 14, none⟩ (.int .i64 kids_485) fun w =>
                St1 w ⟨p503, 0, none⟩ (.int .i64 kind_486) fun w =>
                St1 w ⟨p503, 1, none⟩ (.int .i64 n_487) fun w =>
                St1 w ⟨p503, 2, none⟩ (.string keys_488) fun w =>
                St1 w ⟨p503, 3, none⟩ (.string keys_489) fun w =>
                St1 w ⟨p503, 4, none⟩ (.string keys_490) fun w =>
                St1 w ⟨p503, 5, none⟩ (.string keys_491) fun w =>
                St1 w ⟨p503, 6, none⟩ (.string vals_492) fun w =>
                St1 w ⟨p503, 7, none⟩ (.string vals_493) fun w =>
                St1 w ⟨p503, 8, none⟩ (.string vals_494) fun w =>
                St1 w ⟨p503, 9, none⟩ (.string vals_495) fun w =>
                St1 w ⟨p503, 10, none⟩ (.int .i64 kids_496) fun w =>
                St1 w ⟨p503, 11, none⟩ (.int .i64 kids_497) fun w =>
                St1 w ⟨p503, 12, none⟩ (.int .i64 kids_498) fun w =>
                St1 w ⟨p503, 13, none⟩ (.int .i64 kids_499) fun w =>
                St1 w ⟨p503, 14, none⟩ (.int .i64 kids_500) fun w =>
                J436 p502 p503 r501 w) ∧
                (New w (.cells #[.int .i64 0, .int .i64 0, .string ⟨#[]⟩, .string ⟨#[]⟩, .string ⟨#[]⟩, .string ⟨#[]⟩, .string ⟨#[]⟩, .string ⟨#[]⟩, .string ⟨#[]⟩, .string ⟨#[]⟩, .int .i64 0, .int .i64 0, .int .i64 0, .int .i64 0, .int .i64 0] 289) fun p504 w =>
                After R469 w <|
                After R453 w <|
                After R437 w <|
                New w (.cells #[.int .i64 0, .int .i64 0, .string ⟨#[]⟩, .string ⟨#[]⟩, .string ⟨#[]⟩, .string ⟨#[]⟩, .string ⟨#[]⟩, .string ⟨#[]⟩, .string ⟨#[]⟩, .string ⟨#[]⟩, .int .i64 0, .int .i64 0, .int .i64 0, .int .i64 0, .int .i64 0] 289) fun p505 w =>
                After R469 w <|
                After R453 w <|
                After R437 w <|
                St1 w ⟨p505, 0, none⟩ (.int .i64 kind_471) fun w =>
                St1 w ⟨p505, 1, none⟩ (.int .i64 n_472) fun w =>
                St1 w ⟨p505, 2, none⟩ (.string keys_473) fun w =>
                St1 w ⟨p505, 3, none⟩ (.string keys_474) fun w =>
                St1 w ⟨p505, 4, none⟩ (.string keys_475) fun w =>
                St1 w ⟨p505, 5, none⟩ (.string keys_476) fun w =>
                St1 w ⟨p505, 6, none⟩ (.string vals_477) fun w =>
                St1 w ⟨p505, 7, none⟩ (.string vals_478) fun w =>
                St1 w ⟨p505, 8, none⟩ (.string vals_479) fun w =>
                St1 w ⟨p505, 9, none⟩ (.string vals_480) fun w =>
                St1 w ⟨p505, 10, none⟩ (.int .i64 kids_481) fun w =>
                St1 w ⟨p505, 11, none⟩ (.int .i64 kids_482) fun w =>
                St1 w ⟨p505, 12, none⟩ (.int .i64 kids_483) fun w =>
                St1 w ⟨p505, 13, none⟩ (.int .i64 kids_484) fun w =>
                St1 w ⟨p505, 14, none⟩ (.int .i64 kids_485) fun w =>
                St1 w ⟨p504, 0, none⟩ (.int .i64 kind_486) fun w =>
                St1 w ⟨p504, 1, none⟩ (.int .i64 n_487) fun w =>
                St1 w ⟨p504, 2, none⟩ (.string keys_488) fun w =>
                St1 w ⟨p504, 3, none⟩ (.string keys_489) fun w =>
                St1 w ⟨p504, 4, none⟩ (.string keys_490) fun w =>
                St1 w ⟨p504, 5, none⟩ (.string keys_491) fun w =>
                St1 w ⟨p504, 6, none⟩ (.string vals_492) fun w =>
                St1 w ⟨p504, 7, none⟩ (.string vals_493) fun w =>
                St1 w ⟨p504, 8, none⟩ (.string vals_494) fun w =>
                St1 w ⟨p504, 9, none⟩ (.string vals_495) fun w =>
                St1 w ⟨p504, 10, none⟩ (.int .i64 kids_496) fun w =>
                St1 w ⟨p504, 11, none⟩ (.int .i64 kids_497) fun w =>
                St1 w ⟨p504, 12, none⟩ (.int .i64 kids_498) fun w =>
                St1 w ⟨p504, 13, none⟩ (.int .i64 kids_499) fun w =>
                St1 w ⟨p504, 14, none⟩ (.int .i64 kids_500) fun w =>
                J436 p505 p504 r501 w))) ∧
                (New w (.cells #[.int .i64 0, .int .i64 0, .string ⟨#[]⟩, .string ⟨#[]⟩, .string ⟨#[]⟩, .string ⟨#[]⟩, .string ⟨#[]⟩, .string ⟨#[]⟩, .string ⟨#[]⟩, .string ⟨#[]⟩, .int .i64 0, .int .i64 0, .int .i64 0, .int .i64 0, .int .i64 0] 289) fun p506 w =>
                After R469 w <|
                After R453 w <|
                After R437 w <|
                (S.btree_fromRight kind_438 n_439 keys_440 keys_441 keys_442 keys_443 vals_444 vals_445 vals_446 vals_447 kids_448 kids_449 kids_450 kids_451 kids_452 kind_454 n_455 keys_456 keys_457 keys_458 keys_459 vals_460 vals_461 vals_462 vals_463 kids_464 kids_465 kids_466 kids_467 kids_468 keys_470 w (fun kind_507 n_508 keys_509 keys_510 keys_511 keys_512 vals_513 vals_514 vals_515 vals_516 kids_517 kids_518 kids_519 kids_520 kids_521 kind_522 n_523 keys_524 keys_525 keys_526 keys_527 vals_528 vals_529 vals_530 vals_531 kids_532 kids_533 kids_534 kids_535 kids_536 r537 w =>
                New w (.cells #[.int .i64 0, .int .i64 0, .string ⟨#[]⟩, .string ⟨#[]⟩, .string ⟨#[]⟩, .string ⟨#[]⟩, .string ⟨#[]⟩, .string ⟨#[]⟩, .string ⟨#[]⟩, .string ⟨#[]⟩, .int .i64 0, .int .i64 0, .int .i64 0, .int .i64 0, .int .i64 0] 289) fun p538 w =>
                After R469 w <|
                After R453 w <|
                After R437 w <|
                St1 w ⟨p506, 0, none⟩ (.int .i64 kind_507) fun w =>
                St1 w ⟨p506, 1, none⟩ (.int .i64 n_508) fun w =>
                St1 w ⟨p506, 2, none⟩ (.string keys_509) fun w =>
                St1 w ⟨p506, 3, none⟩ (.string keys_510) fun w =>
                St1 w ⟨p506, 4, none⟩ (.string keys_511) fun w =>
                St1 w ⟨p506, 5, none⟩ (.string keys_512) fun w =>
                St1 w ⟨p506, 6, none⟩ (.string vals_513) fun w =>
                St1 w ⟨p506, 7, none⟩ (.string vals_514) fun w =>
                St1 w ⟨p506, 8, none⟩ (.string vals_515) fun w =>
                St1 w ⟨p506, 9, none⟩ (.string vals_516) fun w =>
                St1 w ⟨p506, 10, none⟩ (.int .i64 kids_517) fun w =>
                St1 w ⟨p506, 11, none⟩ (.int .i64 kids_518) fun w =>
                St1 w ⟨p506, 12, none⟩ (.int .i64 kids_519) fun w =>
                St1 w ⟨p506, 13, none⟩ (.int .i64 kids_520) fun w =>
                St1 w ⟨p506, 14, none⟩ (.int .i64 kids_521) fun w =>
                St1 w ⟨p538, 0, none⟩ (.int .i64 kind_522) fun w =>
                St1 w ⟨p538, 1, none⟩ (.int .i64 n_523) fun w =>
                St1 w ⟨p538, 2, none⟩ (.string keys_524) fun w =>
                St1 w ⟨p538, 3, none⟩ (.string keys_525) fun w =>
                St1 w ⟨p538, 4, none⟩ (.string keys_526) fun w =>
                St1 w ⟨p538, 5, none⟩ (.string keys_527) fun w =>
                St1 w ⟨p538, 6, none⟩ (.string vals_528) fun w =>
                St1 w ⟨p538, 7, none⟩ (.string vals_529) fun w =>
                St1 w ⟨p538, 8, none⟩ (.string vals_530) fun w =>
                St1 w ⟨p538, 9, none⟩ (.string vals_531) fun w =>
                St1 w ⟨p538, 10, none⟩ (.int .i64 kids_532) fun w =>
                St1 w ⟨p538, 11, none⟩ (.int .i64 kids_533) fun w =>
                St1 w ⟨p538, 12, none⟩ (.int .i64 kids_534) fun w =>
                St1 w ⟨p538, 13, none⟩ (.int .i64 kids_535) fun w =>
                St1 w ⟨p538, 14, none⟩ (.int .i64 kids_536) fun w =>
                J436 p506 p538 r537 w)) ∧
                (New w (.cells #[.int .i64 0, .int .i64 0, .string ⟨#[]⟩, .string ⟨#[]⟩, .string ⟨#[]⟩, .string ⟨#[]⟩, .string ⟨#[]⟩, .string ⟨#[]⟩, .string ⟨#[]⟩, .string ⟨#[]⟩, .int .i64 0, .int .i64 0, .int .i64 0, .int .i64 0, .int .i64 0] 289) fun p539 w =>
                After R469 w <|
                After R453 w <|
                After R437 w <|
                S.btree_fromRight kind_438 n_439 keys_440 keys_441 keys_442 keys_443 vals_444 vals_445 vals_446 vals_447 kids_448 kids_449 kids_450 kids_451 kids_452 kind_454 n_455 keys_456 keys_457 keys_458 keys_459 vals_460 vals_461 vals_462 vals_463 kids_464 kids_465 kids_466 kids_467 kids_468 keys_470 w (fun kind_540 n_541 keys_542 keys_543 keys_544 keys_545 vals_546 vals_547 vals_548 vals_549 kids_550 kids_551 kids_552 kids_553 kids_554 kind_555 n_556 keys_557 keys_558 keys_559 keys_560 vals_561 vals_562 vals_563 vals_564 kids_565 kids_566 kids_567 kids_568 kids_569 r570 w =>
                St1 w ⟨p506, 0, none⟩ (.int .i64 kind_540) fun w =>
                St1 w ⟨p506, 1, none⟩ (.int .i64 n_541) fun w =>
                St1 w ⟨p506, 2, none⟩ (.string keys_542) fun w =>
                St1 w ⟨p506, 3, none⟩ (.string keys_543) fun w =>
                St1 w ⟨p506, 4, none⟩ (.string keys_544) fun w =>
                St1 w ⟨p506, 5, none⟩ (.string keys_545) fun w =>
                St1 w ⟨p506, 6, none⟩ (.string vals_546) fun w =>
                St1 w ⟨p506, 7, none⟩ (.string vals_547) fun w =>
                St1 w ⟨p506, 8, none⟩ (.string vals_548) fun w =>
                St1 w ⟨p506, 9, none⟩ (.string vals_549) fun w =>
                St1 w ⟨p506, 10, none⟩ (.int .i64 kids_550) fun w =>
                St1 w ⟨p506, 11, none⟩ (.int .i64 kids_551) fun w =>
                St1 w ⟨p506, 12, none⟩ (.int .i64 kids_552) fun w =>
                St1 w ⟨p506, 13, none⟩ (.int .i64 kids_553) fun w =>
                St1 w ⟨p506, 14, none⟩ (.int .i64 kids_554) fun w =>
                St1 w ⟨p539, 0, none⟩ (.int .i64 kind_555) fun w =>
                St1 w ⟨p539, 1, none⟩ (.int .i64 n_556) fun w =>
                St1 w ⟨p539, 2, none⟩ (.string keys_557) fun w =>
                St1 w ⟨p539, 3, none⟩ (.string keys_558) fun w =>
                St1 w ⟨p539, 4, none⟩ (.string keys_559) fun w =>
                St1 w ⟨p539, 5, none⟩ (.string keys_560) fun w =>
                St1 w ⟨p539, 6, none⟩ (.string vals_561) fun w =>
                St1 w ⟨p539, 7, none⟩ (.string vals_562) fun w =>
                St1 w ⟨p539, 8, none⟩ (.string vals_563) fun w =>
                St1 w ⟨p539, 9, none⟩ (.string vals_564) fun w =>
                St1 w ⟨p539, 10, none⟩ (.int .i64 kids_565) fun w =>
                St1 w ⟨p539, 11, none⟩ (.int .i64 kids_566) fun w =>
                St1 w ⟨p539, 12, none⟩ (.int .i64 kids_567) fun w =>
                St1 w ⟨p539, 13, none⟩ (.int .i64 kids_568) fun w =>
                St1 w ⟨p539, 14, none⟩ (.int .i64 kids_569) fun w =>
                J436 p506 p539 r570 w))) ∧
                (New w (.cells #[.int .i64 0, .int .i64 0, .string ⟨#[]⟩, .string ⟨#[]⟩, .string ⟨#[]⟩, .string ⟨#[]⟩, .string ⟨#[]⟩, .string ⟨#[]⟩, .string ⟨#[]⟩, .string ⟨#[]⟩, .int .i64 0, .int .i64 0, .int .i64 0, .int .i64 0, .int .i64 0] 289) fun p571 w =>
                After R469 w <|
                After R453 w <|
                After R437 w <|
                (S.btree_fromRight kind_438 n_439 keys_440 keys_441 keys_442 keys_443 vals_444 vals_445 vals_446 vals_447 kids_448 kids_449 kids_450 kids_451 kids_452 kind_454 n_455 keys_456 keys_457 keys_458 keys_459 vals_460 vals_461 vals_462 vals_463 kids_464 kids_465 kids_466 kids_467 kids_468 keys_470 w (fun kind_572 n_573 keys_574 keys_575 keys_576 keys_577 vals_578 vals_579 vals_580 vals_581 kids_582 kids_583 kids_584 kids_585 kids_586 kind_587 n_588 keys_589 keys_590 keys_591 keys_592 vals_593 vals_594 vals_595 vals_596 kids_597 kids_598 kids_599 kids_600 kids_601 r602 w =>
                New w (.cells #[.int .i64 0, .int .i64 0, .string ⟨#[]⟩, .string ⟨#[]⟩, .string ⟨#[]⟩, .string ⟨#[]⟩, .string ⟨#[]⟩, .string ⟨#[]⟩, .string ⟨#[]⟩, .string ⟨#[]⟩, .int .i64 0, .int .i64 0, .int .i64 0, .int .i64 0, .int .i64 0] 289) fun p603 w =>
                After R469 w <|
                After R453 w <|
                After R437 w <|
                St1 w ⟨p603, 0, none⟩ (.int .i64 kind_572) fun w =>
                St1 w ⟨p603, 1, none⟩ (.int .i64 n_573) fun w =>
                St1 w ⟨p603, 2, none⟩ (.string keys_574) fun w =>
                St1 w ⟨p603, 3, none⟩ (.string keys_575) fun w =>
                St1 w ⟨p603, 4, none⟩ (.string keys_576) fun w =>
                St1 w ⟨p603, 5, none⟩ (.string keys_577) fun w =>
                St1 w ⟨p603, 6, none⟩ (.string vals_578) fun w =>
                St1 w ⟨p603, 7, none⟩ (.string vals_579) fun w =>
                St1 w ⟨p603, 8, none⟩ (.string vals_580) fun w =>
                St1 w ⟨p603, 9, none⟩ (.string vals_581) fun w =>
                St1 w ⟨p603, 10, none⟩ (.int .i64 kids_582) fun w =>
                St1 w ⟨p603, 11, none⟩ (.int .i64 kids_583) fun w =>
                St1 w ⟨p603, 12, none⟩ (.int .i64 kids_584) fun w =>
                St1 w ⟨p603, 13, none⟩ (.int .i64 kids_585) fun w =>
                St1 w ⟨p603, 14, none⟩ (.int .i64 kids_586) fun w =>
                St1 w ⟨p571, 0, none⟩ (.int .i64 kind_587) fun w =>
                St1 w ⟨p571, 1, none⟩ (.int .i64 n_588) fun w =>
                St1 w ⟨p571, 2, none⟩ (.string keys_589) fun w =>
                St1 w ⟨p571, 3, none⟩ (.string keys_590) fun w =>
                St1 w ⟨p571, 4, none⟩ (.string keys_591) fun w =>
                St1 w ⟨p571, 5, none⟩ (.string keys_592) fun w =>
                St1 w ⟨p571, 6, none⟩ (.string vals_593) fun w =>
                St1 w ⟨p571, 7, none⟩ (.string vals_594) fun w =>
                St1 w ⟨p571, 8, none⟩ (.string vals_595) fun w =>
                St1 w ⟨p571, 9, none⟩ (.string vals_596) fun w =>
                St1 w ⟨p571, 10, none⟩ (.int .i64 kids_597) fun w =>
                St1 w ⟨p571, 11, none⟩ (.int .i64 kids_598) fun w =>
                St1 w ⟨p571, 12, none⟩ (.int .i64 kids_599) fun w =>
                St1 w ⟨p571, 13, none⟩ (.int .i64 kids_600) fun w =>
                St1 w ⟨p571, 14, none⟩ (.int .i64 kids_601) fun w =>
                J436 p603 p571 r602 w)) ∧
                (New w (.cells #[.int .i64 0, .int .i64 0, .string ⟨#[]⟩, .string ⟨#[]⟩, .string ⟨#[]⟩, .string ⟨#[]⟩, .string ⟨#[]⟩, .string ⟨#[]⟩, .string ⟨#[]⟩, .string ⟨#[]⟩, .int .i64 0, .int .i64 0, .int .i64 0, .int .i64 0, .int .i64 0] 289) fun p604 w =>
                After R469 w <|
                After R453 w <|
                After R437 w <|
                S.btree_fromRight kind_438 n_439 keys_440 keys_441 keys_442 keys_443 vals_444 vals_445 vals_446 vals_447 kids_448 kids_449 kids_450 kids_451 kids_452 kind_454 n_455 keys_456 keys_457 keys_458 keys_459 vals_460 vals_461 vals_462 vals_463 kids_464 kids_465 kids_466 kids_467 kids_468 keys_470 w (fun kind_605 n_606 keys_607 keys_608 keys_609 keys_610 vals_611 vals_612 vals_613 vals_614 kids_615 kids_616 kids_617 kids_618 kids_619 kind_620 n_621 keys_622 keys_623 keys_624 keys_625 vals_626 vals_627 vals_628 vals_629 kids_630 kids_631 kids_632 kids_633 kids_634 r635 w =>
                St1 w ⟨p604, 0, none⟩ (.int .i64 kind_605) fun w =>
                St1 w ⟨p604, 1, none⟩ (.int .i64 n_606) fun w =>
                St1 w ⟨p604, 2, none⟩ (.string keys_607) fun w =>
                St1 w ⟨p604, 3, none⟩ (.string keys_608) fun w =>
                St1 w ⟨p604, 4, none⟩ (.string keys_609) fun w =>
                St1 w ⟨p604, 5, none⟩ (.string keys_610) fun w =>
                St1 w ⟨p604, 6, none⟩ (.string vals_611) fun w =>
                St1 w ⟨p604, 7, none⟩ (.string vals_612) fun w =>
                St1 w ⟨p604, 8, none⟩ (.string vals_613) fun w =>
                St1 w ⟨p604, 9, none⟩ (.string vals_614) fun w =>
                St1 w ⟨p604, 10, none⟩ (.int .i64 kids_615) fun w =>
                St1 w ⟨p604, 11, none⟩ (.int .i64 kids_616) fun w =>
                St1 w ⟨p604, 12, none⟩ (.int .i64 kids_617) fun w =>
                St1 w ⟨p604, 13, none⟩ (.int .i64 kids_618) fun w =>
                St1 w ⟨p604, 14, none⟩ (.int .i64 kids_619) fun w =>
                St1 w ⟨p571, 0, none⟩ (.int .i64 kind_620) fun w =>
                St1 w ⟨p571, 1, none⟩ (.int .i64 n_621) fun w =>
                St1 w ⟨p571, 2, none⟩ (.string keys_622) fun w =>
                St1 w ⟨p571, 3, none⟩ (.string keys_623) fun w =>
                St1 w ⟨p571, 4, none⟩ (.string keys_624) fun w =>
                St1 w ⟨p571, 5, none⟩ (.string keys_625) fun w =>
                St1 w ⟨p571, 6, none⟩ (.string vals_626) fun w =>
                St1 w ⟨p571, 7, none⟩ (.string vals_627) fun w =>
                St1 w ⟨p571, 8, none⟩ (.string vals_628) fun w =>
                St1 w ⟨p571, 9, none⟩ (.string vals_629) fun w =>
                St1 w ⟨p571, 10, none⟩ (.int .i64 kids_630) fun w =>
                St1 w ⟨p571, 11, none⟩ (.int .i64 kids_631) fun w =>
                St1 w ⟨p571, 12, none⟩ (.int .i64 kids_632) fun w =>
                St1 w ⟨p571, 13, none⟩ (.int .i64 kids_633) fun w =>
                St1 w ⟨p571, 14, none⟩ (.int .i64 kids_634) fun w =>
                J436 p604 p571 r635 w)))
              else
                J317 w)
        else
          J317 w) fun J636 =>
      if (decide (c > 0)) = true then
        IxA 5 (W (c - 1)) <|
        LdI .i64 w ⟨p1, 10 + Int.toNat (W (c - 1)) * 1, none⟩ fun kids_637 =>
        S.btree_Forest_load f kids_637 w (fun kind_638 n_639 keys_640 keys_641 keys_642 keys_643 vals_644 vals_645 vals_646 vals_647 kids_648 kids_649 kids_650 kids_651 kids_652 r653 w =>
        St1 w ⟨p54, 0, none⟩ (.int .i64 kind_638) fun w =>
        St1 w ⟨p54, 1, none⟩ (.int .i64 n_639) fun w =>
        St1 w ⟨p54, 2, none⟩ (.string keys_640) fun w =>
        St1 w ⟨p54, 3, none⟩ (.string keys_641) fun w =>
        St1 w ⟨p54, 4, none⟩ (.string keys_642) fun w =>
        St1 w ⟨p54, 5, none⟩ (.string keys_643) fun w =>
        St1 w ⟨p54, 6, none⟩ (.string vals_644) fun w =>
        St1 w ⟨p54, 7, none⟩ (.string vals_645) fun w =>
        St1 w ⟨p54, 8, none⟩ (.string vals_646) fun w =>
        St1 w ⟨p54, 9, none⟩ (.string vals_647) fun w =>
        St1 w ⟨p54, 10, none⟩ (.int .i64 kids_648) fun w =>
        St1 w ⟨p54, 11, none⟩ (.int .i64 kids_649) fun w =>
        St1 w ⟨p54, 12, none⟩ (.int .i64 kids_650) fun w =>
        St1 w ⟨p54, 13, none⟩ (.int .i64 kids_651) fun w =>
        St1 w ⟨p54, 14, none⟩ (.int .i64 kids_652) fun w =>
        Join (fun (w : World) =>
          LdI .i64 w ⟨p1, 0, none⟩ fun kind_654 =>
          LdI .i64 w ⟨p1, 1, none⟩ fun n_655 =>
          LdStr w ⟨p1, 2, none⟩ fun keys_656 =>
          LdStr w ⟨p1, 3, none⟩ fun keys_657 =>
          LdStr w ⟨p1, 4, none⟩ fun keys_658 =>
          LdStr w ⟨p1, 5, none⟩ fun keys_659 =>
          LdStr w ⟨p1, 6, none⟩ fun vals_660 =>
          LdStr w ⟨p1, 7, none⟩ fun vals_661 =>
          LdStr w ⟨p1, 8, none⟩ fun vals_662 =>
          LdStr w ⟨p1, 9, none⟩ fun vals_663 =>
          LdI .i64 w ⟨p1, 10, none⟩ fun kids_664 =>
          LdI .i64 w ⟨p1, 11, none⟩ fun kids_665 =>
          LdI .i64 w ⟨p1, 12, none⟩ fun kids_666 =>
          LdI .i64 w ⟨p1, 13, none⟩ fun kids_667 =>
          LdI .i64 w ⟨p1, 14, none⟩ fun kids_668 =>
          St1 w ⟨p2, 0, none⟩ (.int .i64 kind_654) fun w =>
          St1 w ⟨p2, 1, none⟩ (.int .i64 n_655) fun w =>
          St1 w ⟨p2, 2, none⟩ (.string keys_656) fun w =>
          St1 w ⟨p2, 3, none⟩ (.string keys_657) fun w =>
          St1 w ⟨p2, 4, none⟩ (.string keys_658) fun w =>
          St1 w ⟨p2, 5, none⟩ (.string keys_659) fun w =>
          St1 w ⟨p2, 6, none⟩ (.string vals_660) fun w =>
          St1 w ⟨p2, 7, none⟩ (.string vals_661) fun w =>
          St1 w ⟨p2, 8, none⟩ (.string vals_662) fun w =>
          St1 w ⟨p2, 9, none⟩ (.string vals_663) fun w =>
          St1 w ⟨p2, 10, none⟩ (.int .i64 kids_664) fun w =>
          St1 w ⟨p2, 11, none⟩ (.int .i64 kids_665) fun w =>
          St1 w ⟨p2, 12, none⟩ (.int .i64 kids_666) fun w =>
          St1 w ⟨p2, 13, none⟩ (.int .i64 kids_667) fun w =>
          St1 w ⟨p2, 14, none⟩ (.int .i64 kids_668) fun w =>
          LdI .i64 w ⟨p2, 0, none⟩ fun kind_669 =>
          LdI .i64 w ⟨p2, 1, none⟩ fun n_670 =>
          LdStr w ⟨p2, 2, none⟩ fun keys_671 =>
          LdStr w ⟨p2, 3, none⟩ fun keys_672 =>
          LdStr w ⟨p2, 4, none⟩ fun keys_673 =>
          LdStr w ⟨p2, 5, none⟩ fun keys_674 =>
          LdStr w ⟨p2, 6, none⟩ fun vals_675 =>
          LdStr w ⟨p2, 7, none⟩ fun vals_676 =>
          LdStr w ⟨p2, 8, none⟩ fun vals_677 =>
          LdStr w ⟨p2, 9, none⟩ fun vals_678 =>
          LdI .i64 w ⟨p2, 10, none⟩ fun kids_679 =>
          LdI .i64 w ⟨p2, 11, none⟩ fun kids_680 =>
          LdI .i64 w ⟨p2, 12, none⟩ fun kids_681 =>
          LdI .i64 w ⟨p2, 13, none⟩ fun kids_682 =>
          LdI .i64 w ⟨p2, 14, none⟩ fun kids_683 =>
          K kind_669 n_670 keys_671 keys_672 keys_673 keys_674 vals_675 vals_676 vals_677 vals_678 kids_679 kids_680 kids_681 kids_682 kids_683 23 w) fun J684 =>
        if (!r653) = true then
          J684 w
        else
          LdI .i64 w ⟨p54, 0, none⟩ fun kind_685 =>
          LdI .i64 w ⟨p20, 0, none⟩ fun kind_686 =>
          if (kind_685 != kind_686) = true then
            J684 w
          else
            LdI .i64 w ⟨p54, 1, none⟩ fun n_687 =>
            if (decide (n_687 > least_52)) = true then
              Join (fun (a_688 : Nat) (b_689 : Nat) (sep_690 : ByteArray) (w : World) =>
                IxA 4 (W (c - 1)) <|
                St1 w ⟨p1, 2 + Int.toNat (W (c - 1)) * 1, none⟩ (.string sep_690) fun w =>
                Drew w fun w =>
                Hold w ⟨p1, 0, none⟩ 15 fun R691 =>
                LdI .i64 w ⟨p1, 0, none⟩ fun kind_692 =>
                LdI .i64 w ⟨p1, 1, none⟩ fun n_693 =>
                LdStr w ⟨p1, 2, none⟩ fun keys_694 =>
                LdStr w ⟨p1, 3, none⟩ fun keys_695 =>
                LdStr w ⟨p1, 4, none⟩ fun keys_696 =>
                LdStr w ⟨p1, 5, none⟩ fun keys_697 =>
                LdStr w ⟨p1, 6, none⟩ fun vals_698 =>
                LdStr w ⟨p1, 7, none⟩ fun vals_699 =>
                LdStr w ⟨p1, 8, none⟩ fun vals_700 =>
                LdStr w ⟨p1, 9, none⟩ fun vals_701 =>
                LdI .i64 w ⟨p1, 10, none⟩ fun kids_702 =>
                LdI .i64 w ⟨p1, 11, none⟩ fun kids_703 =>
                LdI .i64 w ⟨p1, 12, none⟩ fun kids_704 =>
                LdI .i64 w ⟨p1, 13, none⟩ fun kids_705 =>
                LdI .i64 w ⟨p1, 14, none⟩ fun kids_706 =>
                IxA 5 (W (c - 1)) <|
                LdI .i64 w ⟨p1, 10 + Int.toNat (W (c - 1)) * 1, none⟩ fun kids_707 =>
                LdI .i64 w ⟨a_688, 0, none⟩ fun kind_708 =>
                LdI .i64 w ⟨a_688, 1, none⟩ fun n_709 =>
                LdStr w ⟨a_688, 2, none⟩ fun keys_710 =>
                LdStr w ⟨a_688, 3, none⟩ fun keys_711 =>
                LdStr w ⟨a_688, 4, none⟩ fun keys_712 =>
                LdStr w ⟨a_688, 5, none⟩ fun keys_713 =>
                LdStr w ⟨a_688, 6, none⟩ fun vals_714 =>
                LdStr w ⟨a_688, 7, none⟩ fun vals_715 =>
                LdStr w ⟨a_688, 8, none⟩ fun vals_716 =>
                LdStr w ⟨a_688, 9, none⟩ fun vals_717 =>
                LdI .i64 w ⟨a_688, 10, none⟩ fun kids_718 =>
                LdI .i64 w ⟨a_688, 11, none⟩ fun kids_719 =>
                LdI .i64 w ⟨a_688, 12, none⟩ fun kids_720 =>
                LdI .i64 w ⟨a_688, 13, none⟩ fun kids_721 =>
                LdI .i64 w ⟨a_688, 14, none⟩ fun kids_722 =>
                IxA 5 c <|
                LdI .i64 w ⟨p1, 10 + Int.toNat c * 1, none⟩ fun kids_723 =>
                LdI .i64 w ⟨b_689, 0, none⟩ fun kind_724 =>
                LdI .i64 w ⟨b_689, 1, none⟩ fun n_725 =>
                LdStr w ⟨b_689, 2, none⟩ fun keys_726 =>
                LdStr w ⟨b_689, 3, none⟩ fun keys_727 =>
                LdStr w ⟨b_689, 4, none⟩ fun keys_728 =>
                LdStr w ⟨b_689, 5, none⟩ fun keys_729 =>
                LdStr w ⟨b_689, 6, none⟩ fun vals_730 =>
                LdStr w ⟨b_689, 7, none⟩ fun vals_731 =>
                LdStr w ⟨b_689, 8, none⟩ fun vals_732 =>
                LdStr w ⟨b_689, 9, none⟩ fun vals_733 =>
                LdI .i64 w ⟨b_689, 10, none⟩ fun kids_734 =>
                LdI .i64 w ⟨b_689, 11, none⟩ fun kids_735 =>
                LdI .i64 w ⟨b_689, 12, none⟩ fun kids_736 =>
                LdI .i64 w ⟨b_689, 13, none⟩ fun kids_737 =>
                LdI .i64 w ⟨b_689, 14, none⟩ fun kids_738 =>
                S.btree_Forest_store2 f kids_707 kind_708 n_709 keys_710 keys_711 keys_712 keys_713 vals_714 vals_715 vals_716 vals_717 kids_718 kids_719 kids_720 kids_721 kids_722 kids_723 kind_724 n_725 keys_726 keys_727 keys_728 keys_729 vals_730 vals_731 vals_732 vals_733 kids_734 kids_735 kids_736 kids_737 kids_738 w (fun r739 w =>
                After R691 w <|
                St1 w ⟨p2, 0, none⟩ (.int .i64 kind_692) fun w =>
                St1 w ⟨p2, 1, none⟩ (.int .i64 n_693) fun w =>
                St1 w ⟨p2, 2, none⟩ (.string keys_694) fun w =>
                St1 w ⟨p2, 3, none⟩ (.string keys_695) fun w =>
                St1 w ⟨p2, 4, none⟩ (.string keys_696) fun w =>
                St1 w ⟨p2, 5, none⟩ (.string keys_697) fun w =>
                St1 w ⟨p2, 6, none⟩ (.string vals_698) fun w =>
                St1 w ⟨p2, 7, none⟩ (.string vals_699) fun w =>
                St1 w ⟨p2, 8, none⟩ (.string vals_700) fun w =>
                St1 w ⟨p2, 9, none⟩ (.string vals_701) fun w =>
                St1 w ⟨p2, 10, none⟩ (.int .i64 kids_702) fun w =>
                St1 w ⟨p2, 11, none⟩ (.int .i64 kids_703) fun w =>
                St1 w ⟨p2, 12, none⟩ (.int .i64 kids_704) fun w =>
                St1 w ⟨p2, 13, none⟩ (.int .i64 kids_705) fun w =>
                St1 w ⟨p2, 14, none⟩ (.int .i64 kids_706) fun w =>
                LdI .i64 w ⟨p2, 0, none⟩ fun kind_740 =>
                LdI .i64 w ⟨p2, 1, none⟩ fun n_741 =>
                LdStr w ⟨p2, 2, none⟩ fun keys_742 =>
                LdStr w ⟨p2, 3, none⟩ fun keys_743 =>
                LdStr w ⟨p2, 4, none⟩ fun keys_744 =>
                LdStr w ⟨p2, 5, none⟩ fun keys_745 =>
                LdStr w ⟨p2, 6, none⟩ fun vals_746 =>
                LdStr w ⟨p2, 7, none⟩ fun vals_747 =>
                LdStr w ⟨p2, 8, none⟩ fun vals_748 =>
                LdStr w ⟨p2, 9, none⟩ fun vals_749 =>
                LdI .i64 w ⟨p2, 10, none⟩ fun kids_750 =>
                LdI .i64 w ⟨p2, 11, none⟩ fun kids_751 =>
                LdI .i64 w ⟨p2, 12, none⟩ fun kids_752 =>
                LdI .i64 w ⟨p2, 13, none⟩ fun kids_753 =>
                LdI .i64 w ⟨p2, 14, none⟩ fun kids_754 =>
                K kind_740 n_741 keys_742 keys_743 keys_744 keys_745 vals_746 vals_747 vals_748 vals_749 kids_750 kids_751 kids_752 kids_753 kids_754 r739 w)) fun J755 =>
              Drew w fun w =>
              Hold w ⟨p54, 0, none⟩ 15 fun R756 =>
              LdI .i64 w ⟨p54, 0, none⟩ fun kind_757 =>
              LdI .i64 w ⟨p54, 1, none⟩ fun n_758 =>
              LdStr w ⟨p54, 2, none⟩ fun keys_759 =>
              LdStr w ⟨p54, 3, none⟩ fun keys_760 =>
              LdStr w ⟨p54, 4, none⟩ fun keys_761 =>
              LdStr w ⟨p54, 5, none⟩ fun keys_762 =>
              LdStr w ⟨p54, 6, none⟩ fun vals_763 =>
              LdStr w ⟨p54, 7, none⟩ fun vals_764 =>
              LdStr w ⟨p54, 8, none⟩ fun vals_765 =>
              LdStr w ⟨p54, 9, none⟩ fun vals_766 =>
              LdI .i64 w ⟨p54, 10, none⟩ fun kids_767 =>
              LdI .i64 w ⟨p54, 11, none⟩ fun kids_768 =>
              LdI .i64 w ⟨p54, 12, none⟩ fun kids_769 =>
              LdI .i64 w ⟨p54, 13, none⟩ fun kids_770 =>
              LdI .i64 w ⟨p54, 14, none⟩ fun kids_771 =>
              Hold w ⟨p20, 0, none⟩ 15 fun R772 =>
              LdI .i64 w ⟨p20, 0, none⟩ fun kind_773 =>
              LdI .i64 w ⟨p20, 1, none⟩ fun n_774 =>
              LdStr w ⟨p20, 2, none⟩ fun keys_775 =>
              LdStr w ⟨p20, 3, none⟩ fun keys_776 =>
              LdStr w ⟨p20, 4, none⟩ fun keys_777 =>
              LdStr w ⟨p20, 5, none⟩ fun keys_778 =>
              LdStr w ⟨p20, 6, none⟩ fun vals_779 =>
              LdStr w ⟨p20, 7, none⟩ fun vals_780 =>
              LdStr w ⟨p20, 8, none⟩ fun vals_781 =>
              LdStr w ⟨p20, 9, none⟩ fun vals_782 =>
              LdI .i64 w ⟨p20, 10, none⟩ fun kids_783 =>
              LdI .i64 w ⟨p20, 11, none⟩ fun kids_784 =>
              LdI .i64 w ⟨p20, 12, none⟩ fun kids_785 =>
              LdI .i64 w ⟨p20, 13, none⟩ fun kids_786 =>
              LdI .i64 w ⟨p20, 14, none⟩ fun kids_787 =>
              IxA 4 (W (c - 1)) <|
              Hold w ⟨p1, 2 + Int.toNat (W (c - 1)) * 1, none⟩ 1 fun R788 =>
              LdStr w ⟨p1, 2 + Int.toNat (W (c - 1)) * 1, none⟩ fun keys_789 =>
              (S.btree_fromLeft kind_757 n_758 keys_759 keys_760 keys_761 keys_762 vals_763 vals_764 vals_765 vals_766 kids_767 kids_768 kids_769 kids_770 kids_771 kind_773 n_774 keys_775 keys_776 keys_777 keys_778 vals_779 vals_780 vals_781 vals_782 kids_783 kids_784 kids_785 kids_786 kids_787 keys_789 w (fun kind_790 n_791 keys_792 keys_793 keys_794 keys_795 vals_796 vals_797 vals_798 vals_799 kids_800 kids_801 kids_802 kids_803 kids_804 kind_805 n_806 keys_807 keys_808 keys_809 keys_810 vals_811 vals_812 vals_813 vals_814 kids_815 kids_816 kids_817 kids_818 kids_819 r820 w =>
              (New w (.cells #[.int .i64 0, .int .i64 0, .string ⟨#[]⟩, .string ⟨#[]⟩, .string ⟨#[]⟩, .string ⟨#[]⟩, .string ⟨#[]⟩, .string ⟨#[]⟩, .string ⟨#[]⟩, .string ⟨#[]⟩, .int .i64 0, .int .i64 0, .int .i64 0, .int .i64 0, .int .i64 0] 289) fun p821 w =>
              After R788 w <|
              After R772 w <|
              After R756 w <|
              New w (.cells #[.int .i64 0, .int .i64 0, .string ⟨#[]⟩, .string ⟨#[]⟩, .string ⟨#[]⟩, .string ⟨#[]⟩, .string ⟨#[]⟩, .string ⟨#[]⟩, .string ⟨#[]⟩, .string ⟨#[]⟩, .int .i64 0, .int .i64 0, .int .i64 0, .int .i64 0, .int .i64 0] 289) fun p822 w =>
              After R788 w <|
              After R772 w <|
              After R756 w <|
              St1 w ⟨p821, 0, none⟩ (.int .i64 kind_790) fun w =>
              St1 w ⟨p821, 1, none⟩ (.int .i64 n_791) fun w =>
              St1 w ⟨p821, 2, none⟩ (.string keys_792) fun w =>
              St1 w ⟨p821, 3, none⟩ (.string keys_793) fun w =>
              St1 w ⟨p821, 4, none⟩ (.string keys_794) fun w =>
              St1 w ⟨p821, 5, none⟩ (.string keys_795) fun w =>
              St1 w ⟨p821, 6, none⟩ (.string vals_796) fun w =>
              St1 w ⟨p821, 7, none⟩ (.string vals_797) fun w =>
              St1 w ⟨p821, 8, none⟩ (.string vals_798) fun w =>
              St1 w ⟨p821, 9, none⟩ (.string vals_799) fun w =>
              St1 w ⟨p821, 10, none⟩ (.int .i64 kids_800) fun w =>
              St1 w ⟨p821, 11, none⟩ (.int .i64 kids_801) fun w =>
              St1 w ⟨p821, 12, none⟩ (.int .i64 kids_802) fun w =>
              St1 w ⟨p821, 13, none⟩ (.int .i64 kids_803) fun w =>
              St1 w ⟨p821, 14, none⟩ (.int .i64 kids_804) fun w =>
              St1 w ⟨p822, 0, none⟩ (.int .i64 kind_805) fun w =>
              St1 w ⟨p822, 1, none⟩ (.int .i64 n_806) fun w =>
              St1 w ⟨p822, 2, none⟩ (.string keys_807) fun w =>
              St1 w ⟨p822, 3, none⟩ (.string keys_808) fun w =>
              St1 w ⟨p822, 4, none⟩ (.string keys_809) fun w =>
              St1 w ⟨p822, 5, none⟩ (.string keys_810) fun w =>
              St1 w ⟨p822, 6, none⟩ (.string vals_811) fun w =>
              St1 w ⟨p822, 7, none⟩ (.string vals_812) fun w =>
              St1 w ⟨p822, 8, none⟩ (.string vals_813) fun w =>
              St1 w ⟨p822, 9, none⟩ (.string vals_814) fun w =>
              St1 w ⟨p822, 10, none⟩ (.int .i64 kids_815) fun w =>
              St1 w ⟨p822, 11, none⟩ (.int .i64 kids_816) fun w =>
              St1 w ⟨p822, 12, none⟩ (.int .i64 kids_817) fun w =>
              St1 w ⟨p822, 13, none⟩ (.int .i64 kids_818) fun w =>
              St1 w ⟨p822, 14, none⟩ (.int .i64 kids_819) fun w =>
              J755 p821 p822 r820 w) ∧
              (New w (.cells #[.int .i64 0, .int .i64 0, .string ⟨#[]⟩, .string ⟨#[]⟩, .string ⟨#[]⟩, .string ⟨#[]⟩, .string ⟨#[]⟩, .string ⟨#[]⟩, .string ⟨#[]⟩, .string ⟨#[]⟩, .int .i64 0, .int .i64 0, .int .i64 0, .int .i64 0, .int .i64 0] 289) fun p823 w =>
              After R788 w <|
              After R772 w <|
              After R756 w <|
              New w (.cells #[.int .i64 0, .int .i64 0, .string ⟨#[]⟩, .string ⟨#[]⟩, .string ⟨#[]⟩, .string ⟨#[]⟩, .string ⟨#[]⟩, .string ⟨#[]⟩, .string ⟨#[]⟩, .string ⟨#[]⟩, .int .i64 0, .int .i64 0, .int .i64 0, .int .i64 0, .int .i64 0] 289) fun p824 w =>
              After R788 w <|
              After R772 w <|
              After R756 w <|
              St1 w ⟨p824, 0, none⟩ (.int .i64 kind_790) fun w =>
              St1 w ⟨p824, 1, none⟩ (.int .i64 n_791) fun w =>
              St1 w ⟨p824, 2, none⟩ (.string keys_792) fun w =>
              St1 w ⟨p824, 3, none⟩ (.string keys_793) fun w =>
              St1 w ⟨p824, 4, none⟩ (.string keys_794) fun w =>
              St1 w ⟨p824, 5, none⟩ (.string keys_795) fun w =>
              St1 w ⟨p824, 6, none⟩ (.string vals_796) fun w =>
              St1 w ⟨p824, 7, none⟩ (.string vals_797) fun w =>
              St1 w ⟨p824, 8, none⟩ (.string vals_798) fun w =>
              St1 w ⟨p824, 9, none⟩ (.string vals_799) fun w =>
              St1 w ⟨p824, 10, none⟩ (.int .i64 kids_800) fun w =>
              St1 w ⟨p824, 11, none⟩ (.int .i64 kids_801) fun w =>
              St1 w ⟨p824, 12, none⟩ (.int .i64 kids_802) fun w =>
              St1 w ⟨p824, 13, none⟩ (.int .i64 kids_803) fun w =>
              St1 w ⟨p824, 14, none⟩ (.int .i64 kids_804) fun w =>
              St1 w ⟨p823, 0, none⟩ (.int .i64 kind_805) fun w =>
              St1 w ⟨p823, 1, none⟩ (.int .i64 n_806) fun w =>
              St1 w ⟨p823, 2, none⟩ (.string keys_807) fun w =>
              St1 w ⟨p823, 3, none⟩ (.string keys_808) fun w =>
              St1 w ⟨p823, 4, none⟩ (.string keys_809) fun w =>
              St1 w ⟨p823, 5, none⟩ (.string keys_810) fun w =>
              St1 w ⟨p823, 6, none⟩ (.string vals_811) fun w =>
              St1 w ⟨p823, 7, none⟩ (.string vals_812) fun w =>
              St1 w ⟨p823, 8, none⟩ (.string vals_813) fun w =>
              St1 w ⟨p823, 9, none⟩ (.string vals_814) fun w =>
              St1 w ⟨p823, 10, none⟩ (.int .i64 kids_815) fun w =>
              St1 w ⟨p823, 11, none⟩ (.int .i64 kids_816) fun w =>
              St1 w ⟨p823, 12, none⟩ (.int .i64 kids_817) fun w =>
              St1 w ⟨p823, 13, none⟩ (.int .i64 kids_818) fun w =>
              St1 w ⟨p823, 14, none⟩ (.int .i64 kids_819) fun w =>
              J755 p824 p823 r820 w))) ∧
              (New w (.cells #[.int .i64 0, .int .i64 0, .string ⟨#[]⟩, .string ⟨#[]⟩, .string ⟨#[]⟩, .string ⟨#[]⟩, .string ⟨#[]⟩, .string ⟨#[]⟩, .string ⟨#[]⟩, .string ⟨#[]⟩, .int .i64 0, .int .i64 0, .int .i64 0, .int .i64 0, .int .i64 0] 289) fun p825 w =>
              After R788 w <|
              After R772 w <|
              After R756 w <|
              (S.btree_fromLeft kind_757 n_758 keys_759 keys_760 keys_761 keys_762 vals_763 vals_764 vals_765 vals_766 kids_767 kids_768 kids_769 kids_770 kids_771 kind_773 n_774 keys_775 keys_776 keys_777 keys_778 vals_779 vals_780 vals_781 vals_782 kids_783 kids_784 kids_785 kids_786 kids_787 keys_789 w (fun kind_826 n_827 keys_828 keys_829 keys_830 keys_831 vals_832 vals_833 vals_834 vals_835 kids_836 kids_837 kids_838 kids_839 kids_840 kind_841 n_842 keys_843 keys_844 keys_845 keys_846 vals_847 vals_848 vals_849 vals_850 kids_851 kids_852 kids_853 kids_854 kids_855 r856 w =>
              New w (.cells #[.int .i64 0, .int .i64 0, .string ⟨#[]⟩, .string ⟨#[]⟩, .string ⟨#[]⟩, .string ⟨#[]⟩, .string ⟨#[]⟩, .string ⟨#[]⟩, .string ⟨#[]⟩, .string ⟨#[]⟩, .int .i64 0, .int .i64 0, .int .i64 0, .int .i64 0, .int .i64 0] 289) fun p857 w =>
              After R788 w <|
              After R772 w <|
              After R756 w <|
              St1 w ⟨p825, 0, none⟩ (.int .i64 kind_826) fun w =>
              St1 w ⟨p825, 1, none⟩ (.int .i64 n_827) fun w =>
              St1 w ⟨p825, 2, none⟩ (.string keys_828) fun w =>
              St1 w ⟨p825, 3, none⟩ (.string keys_829) fun w =>
              St1 w ⟨p825, 4, none⟩ (.string keys_830) fun w =>
              St1 w ⟨p825, 5, none⟩ (.string keys_831) fun w =>
              St1 w ⟨p825, 6, none⟩ (.string vals_832) fun w =>
              St1 w ⟨p825, 7, none⟩ (.string vals_833) fun w =>
              St1 w ⟨p825, 8, none⟩ (.string vals_834) fun w =>
              St1 w ⟨p825, 9, none⟩ (.string vals_835) fun w =>
              St1 w ⟨p825, 10, none⟩ (.int .i64 kids_836) fun w =>
              St1 w ⟨p825, 11, none⟩ (.int .i64 kids_837) fun w =>
              St1 w ⟨p825, 12, none⟩ (.int .i64 kids_838) fun w =>
              St1 w ⟨p825, 13, none⟩ (.int .i64 kids_839) fun w =>
              St1 w ⟨p825, 14, none⟩ (.int .i64 kids_840) fun w =>
              St1 w ⟨p857, 0, none⟩ (.int .i64 kind_841) fun w =>
              St1 w ⟨p857, 1, none⟩ (.int .i64 n_842) fun w =>
              St1 w ⟨p857, 2, none⟩ (.string keys_843) fun w =>
              St1 w ⟨p857, 3, none⟩ (.string keys_844) fun w =>
              St1 w ⟨p857, 4, none⟩ (.string keys_845) fun w =>
              St1 w ⟨p857, 5, none⟩ (.string keys_846) fun w =>
              St1 w ⟨p857, 6, none⟩ (.string vals_847) fun w =>
              St1 w ⟨p857, 7, none⟩ (.string vals_848) fun w =>
              St1 w ⟨p857, 8, none⟩ (.string vals_849) fun w =>
              St1 w ⟨p857, 9, none⟩ (.string vals_850) fun w =>
              St1 w ⟨p857, 10, none⟩ (.int .i64 kids_851) fun w =>
              St1 w ⟨p857, 11, none⟩ (.int .i64 kids_852) fun w =>
              St1 w ⟨p857, 12, none⟩ (.int .i64 kids_853) fun w =>
              St1 w ⟨p857, 13, none⟩ (.int .i64 kids_854) fun w =>
              St1 w ⟨p857, 14, none⟩ (.int .i64 kids_855) fun w =>
              J755 p825 p857 r856 w)) ∧
              (New w (.cells #[.int .i64 0, .int .i64 0, .string ⟨#[]⟩, .string ⟨#[]⟩, .string ⟨#[]⟩, .string ⟨#[]⟩, .string ⟨#[]⟩, .string ⟨#[]⟩, .string ⟨#[]⟩, .string ⟨#[]⟩, .int .i64 0, .int .i64 0, .int .i64 0, .int .i64 0, .int .i64 0] 289) fun p858 w =>
              After R788 w <|
              After R772 w <|
              After R756 w <|
              S.btree_fromLeft kind_757 n_758 keys_759 keys_760 keys_761 keys_762 vals_763 vals_764 vals_765 vals_766 kids_767 kids_768 kids_769 kids_770 kids_771 kind_773 n_774 keys_775 keys_776 keys_777 keys_778 vals_779 vals_780 vals_781 vals_782 kids_783 kids_784 kids_785 kids_786 kids_787 keys_789 w (fun kind_859 n_860 keys_861 keys_862 keys_863 keys_864 vals_865 vals_866 vals_867 vals_868 kids_869 kids_870 kids_871 kids_872 kids_873 kind_874 n_875 keys_876 keys_877 keys_878 keys_879 vals_880 vals_881 vals_882 vals_883 kids_884 kids_885 kids_886 kids_887 kids_888 r889 w =>
              St1 w ⟨p825, 0, none⟩ (.int .i64 kind_859) fun w =>
              St1 w ⟨p825, 1, none⟩ (.int .i64 n_860) fun w =>
              St1 w ⟨p825, 2, none⟩ (.string keys_861) fun w =>
              St1 w ⟨p825, 3, none⟩ (.string keys_862) fun w =>
              St1 w ⟨p825, 4, none⟩ (.string keys_863) fun w =>
              St1 w ⟨p825, 5, none⟩ (.string keys_864) fun w =>
              St1 w ⟨p825, 6, none⟩ (.string vals_865) fun w =>
              St1 w ⟨p825, 7, none⟩ (.string vals_866) fun w =>
              St1 w ⟨p825, 8, none⟩ (.string vals_867) fun w =>
              St1 w ⟨p825, 9, none⟩ (.string vals_868) fun w =>
              St1 w ⟨p825, 10, none⟩ (.int .i64 kids_869) fun w =>
              St1 w ⟨p825, 11, none⟩ (.int .i64 kids_870) fun w =>
              St1 w ⟨p825, 12, none⟩ (.int .i64 kids_871) fun w =>
              St1 w ⟨p825, 13, none⟩ (.int .i64 kids_872) fun w =>
              St1 w ⟨p825, 14, none⟩ (.int .i64 kids_873) fun w =>
              St1 w ⟨p858, 0, none⟩ (.int .i64 kind_874) fun w =>
              St1 w ⟨p858, 1, none⟩ (.int .i64 n_875) fun w =>
              St1 w ⟨p858, 2, none⟩ (.string keys_876) fun w =>
              St1 w ⟨p858, 3, none⟩ (.string keys_877) fun w =>
              St1 w ⟨p858, 4, none⟩ (.string keys_878) fun w =>
              St1 w ⟨p858, 5, none⟩ (.string keys_879) fun w =>
              St1 w ⟨p858, 6, none⟩ (.string vals_880) fun w =>
              St1 w ⟨p858, 7, none⟩ (.string vals_881) fun w =>
              St1 w ⟨p858, 8, none⟩ (.string vals_882) fun w =>
              St1 w ⟨p858, 9, none⟩ (.string vals_883) fun w =>
              St1 w ⟨p858, 10, none⟩ (.int .i64 kids_884) fun w =>
              St1 w ⟨p858, 11, none⟩ (.int .i64 kids_885) fun w =>
              St1 w ⟨p858, 12, none⟩ (.int .i64 kids_886) fun w =>
              St1 w ⟨p858, 13, none⟩ (.int .i64 kids_887) fun w =>
              St1 w ⟨p858, 14, none⟩ (.int .i64 kids_888) fun w =>
              J755 p825 p858 r889 w))) ∧
              (New w (.cells #[.int .i64 0, .int .i64 0, .string ⟨#[]⟩, .string ⟨#[]⟩, .string ⟨#[]⟩, .string ⟨#[]⟩, .string ⟨#[]⟩, .string ⟨#[]⟩, .string ⟨#[]⟩, .string ⟨#[]⟩, .int .i64 0, .int .i64 0, .int .i64 0, .int .i64 0, .int .i64 0] 289) fun p890 w =>
              After R788 w <|
              After R772 w <|
              After R756 w <|
              (S.btree_fromLeft kind_757 n_758 keys_759 keys_760 keys_761 keys_762 vals_763 vals_764 vals_765 vals_766 kids_767 kids_768 kids_769 kids_770 kids_771 kind_773 n_774 keys_775 keys_776 keys_777 keys_778 vals_779 vals_780 vals_781 vals_782 kids_783 kids_784 kids_785 kids_786 kids_787 keys_789 w (fun kind_891 n_892 keys_893 keys_894 keys_895 keys_896 vals_897 vals_898 vals_899 vals_900 kids_901 kids_902 kids_903 kids_904 kids_905 kind_906 n_907 keys_908 keys_909 keys_910 keys_911 vals_912 vals_913 vals_914 vals_915 kids_916 kids_917 kids_918 kids_919 kids_920 r921 w =>
              New w (.cells #[.int .i64 0, .int .i64 0, .string ⟨#[]⟩, .string ⟨#[]⟩, .string ⟨#[]⟩, .string ⟨#[]⟩, .string ⟨#[]⟩, .string ⟨#[]⟩, .string ⟨#[]⟩, .string ⟨#[]⟩, .int .i64 0, .int .i64 0, .int .i64 0, .int .i64 0, .int .i64 0] 289) fun p922 w =>
              After R788 w <|
              After R772 w <|
              After R756 w <|
              St1 w ⟨p922, 0, none⟩ (.int .i64 kind_891) fun w =>
              St1 w ⟨p922, 1, none⟩ (.int .i64 n_892) fun w =>
              St1 w ⟨p922, 2, none⟩ (.string keys_893) fun w =>
              St1 w ⟨p922, 3, none⟩ (.string keys_894) fun w =>
              St1 w ⟨p922, 4, none⟩ (.string keys_895) fun w =>
              St1 w ⟨p922, 5, none⟩ (.string keys_896) fun w =>
              St1 w ⟨p922, 6, none⟩ (.string vals_897) fun w =>
              St1 w ⟨p922, 7, none⟩ (.string vals_898) fun w =>
              St1 w ⟨p922, 8, none⟩ (.string vals_899) fun w =>
              St1 w ⟨p922, 9, none⟩ (.string vals_900) fun w =>
              St1 w ⟨p922, 10, none⟩ (.int .i64 kids_901) fun w =>
              St1 w ⟨p922, 11, none⟩ (.int .i64 kids_902) fun w =>
              St1 w ⟨p922, 12, none⟩ (.int .i64 kids_903) fun w =>
              St1 w ⟨p922, 13, none⟩ (.int .i64 kids_904) fun w =>
              St1 w ⟨p922, 14, none⟩ (.int .i64 kids_905) fun w =>
              St1 w ⟨p890, 0, none⟩ (.int .i64 kind_906) fun w =>
              St1 w ⟨p890, 1, none⟩ (.int .i64 n_907) fun w =>
              St1 w ⟨p890, 2, none⟩ (.string keys_908) fun w =>
              St1 w ⟨p890, 3, none⟩ (.string keys_909) fun w =>
              St1 w ⟨p890, 4, none⟩ (.string keys_910) fun w =>
              St1 w ⟨p890, 5, none⟩ (.string keys_911) fun w =>
              St1 w ⟨p890, 6, none⟩ (.string vals_912) fun w =>
              St1 w ⟨p890, 7, none⟩ (.string vals_913) fun w =>
              St1 w ⟨p890, 8, none⟩ (.string vals_914) fun w =>
              St1 w ⟨p890, 9, none⟩ (.string vals_915) fun w =>
              St1 w ⟨p890, 10, none⟩ (.int .i64 kids_916) fun w =>
              St1 w ⟨p890, 11, none⟩ (.int .i64 kids_917) fun w =>
              St1 w ⟨p890, 12, none⟩ (.int .i64 kids_918) fun w =>
              St1 w ⟨p890, 13, none⟩ (.int .i64 kids_919) fun w =>
              St1 w ⟨p890, 14, none⟩ (.int .i64 kids_920) fun w =>
              J755 p922 p890 r921 w)) ∧
              (New w (.cells #[.int .i64 0, .int .i64 0, .string ⟨#[]⟩, .string ⟨#[]⟩, .string ⟨#[]⟩, .string ⟨#[]⟩, .string ⟨#[]⟩, .string ⟨#[]⟩, .string ⟨#[]⟩, .string ⟨#[]⟩, .int .i64 0, .int .i64 0, .int .i64 0, .int .i64 0, .int .i64 0] 289) fun p923 w =>
              After R788 w <|
              After R772 w <|
              After R756 w <|
              S.btree_fromLeft kind_757 n_758 keys_759 keys_760 keys_761 keys_762 vals_763 vals_764 vals_765 vals_766 kids_767 kids_768 kids_769 kids_770 kids_771 kind_773 n_774 keys_775 keys_776 keys_777 keys_778 vals_779 vals_780 vals_781 vals_782 kids_783 kids_784 kids_785 kids_786 kids_787 keys_789 w (fun kind_924 n_925 keys_926 keys_927 keys_928 keys_929 vals_930 vals_931 vals_932 vals_933 kids_934 kids_935 kids_936 kids_937 kids_938 kind_939 n_940 keys_941 keys_942 keys_943 keys_944 vals_945 vals_946 vals_947 vals_948 kids_949 kids_950 kids_951 kids_952 kids_953 r954 w =>
              St1 w ⟨p923, 0, none⟩ (.int .i64 kind_924) fun w =>
              St1 w ⟨p923, 1, none⟩ (.int .i64 n_925) fun w =>
              St1 w ⟨p923, 2, none⟩ (.string keys_926) fun w =>
              St1 w ⟨p923, 3, none⟩ (.string keys_927) fun w =>
              St1 w ⟨p923, 4, none⟩ (.string keys_928) fun w =>
              St1 w ⟨p923, 5, none⟩ (.string keys_929) fun w =>
              St1 w ⟨p923, 6, none⟩ (.string vals_930) fun w =>
              St1 w ⟨p923, 7, none⟩ (.string vals_931) fun w =>
              St1 w ⟨p923, 8, none⟩ (.string vals_932) fun w =>
              St1 w ⟨p923, 9, none⟩ (.string vals_933) fun w =>
              St1 w ⟨p923, 10, none⟩ (.int .i64 kids_934) fun w =>
              St1 w ⟨p923, 11, none⟩ (.int .i64 kids_935) fun w =>
              St1 w ⟨p923, 12, none⟩ (.int .i64 kids_936) fun w =>
              St1 w ⟨p923, 13, none⟩ (.int .i64 kids_937) fun w =>
              St1 w ⟨p923, 14, none⟩ (.int .i64 kids_938) fun w =>
              St1 w ⟨p890, 0, none⟩ (.int .i64 kind_939) fun w =>
              St1 w ⟨p890, 1, none⟩ (.int .i64 n_940) fun w =>
              St1 w ⟨p890, 2, none⟩ (.string keys_941) fun w =>
              St1 w ⟨p890, 3, none⟩ (.string keys_942) fun w =>
              St1 w ⟨p890, 4, none⟩ (.string keys_943) fun w =>
              St1 w ⟨p890, 5, none⟩ (.string keys_944) fun w =>
              St1 w ⟨p890, 6, none⟩ (.string vals_945) fun w =>
              St1 w ⟨p890, 7, none⟩ (.string vals_946) fun w =>
              St1 w ⟨p890, 8, none⟩ (.string vals_947) fun w =>
              St1 w ⟨p890, 9, none⟩ (.string vals_948) fun w =>
              St1 w ⟨p890, 10, none⟩ (.int .i64 kids_949) fun w =>
              St1 w ⟨p890, 11, none⟩ (.int .i64 kids_950) fun w =>
              St1 w ⟨p890, 12, none⟩ (.int .i64 kids_951) fun w =>
              St1 w ⟨p890, 13, none⟩ (.int .i64 kids_952) fun w =>
              St1 w ⟨p890, 14, none⟩ (.int .i64 kids_953) fun w =>
              J755 p923 p890 r954 w)))
            else
              J636 w)
      else
        J636 w) fun J955 =>
    if (kind_51 == 2) = true then
      J955 2 4 w
    else
      J955 2 3 w)
def T.C294 : CallT := (CallT.cons 254 T.c254 (CallT.cons 246 T.c246 (CallT.cons 255 T.c255 (CallT.cons 329 T.c329 (CallT.cons 328 T.c328 (CallT.cons 326 T.c326 (CallT.cons 327 T.c327 (CallT.cons 325 T.c325 CallT.nil))))))))
def T.A294 : Ann := fun _ => none
set_option maxRecDepth 1000000 in
theorem T.eq294 (f : Nat) (nd_kind : Int) (nd_n : Int) (nd_keys : ByteArray) (nd_keys_ : ByteArray) (nd_keys__ : ByteArray) (nd_keys___ : ByteArray) (nd_vals : ByteArray) (nd_vals_ : ByteArray) (nd_vals__ : ByteArray) (nd_vals___ : ByteArray) (nd_kids : Int) (nd_kids_ : Int) (nd_kids__ : Int) (nd_kids___ : Int) (nd_kids____ : Int) (c : Int) (w : World) (K : Int → Int → ByteArray → ByteArray → ByteArray → ByteArray → ByteArray → ByteArray → ByteArray → ByteArray → Int → Int → Int → Int → Int → Int → World → Prop) : denF Tryz.prog T.C294 T.A294 Tryz.f294 [.pointer (some ⟨f, 0, none⟩), .agg #[.int .i64 nd_kind, .int .i64 nd_n, .string nd_keys, .string nd_keys_, .string nd_keys__, .string nd_keys___, .string nd_vals, .string nd_vals_, .string nd_vals__, .string nd_vals___, .int .i64 nd_kids, .int .i64 nd_kids_, .int .i64 nd_kids__, .int .i64 nd_kids___, .int .i64 nd_kids____], .int .i64 c] w (fun v w' => match v with | .tuple ⟨[.agg ⟨[.int .i64 r0, .int .i64 r1, .string r2, .string r3, .string r4, .string r5, .string r6, .string r7, .string r8, .string r9, .int .i64 r10, .int .i64 r11, .int .i64 r12, .int .i64 r13, .int .i64 r14]⟩, .int .i64 r15]⟩ => K r0 r1 r2 r3 r4 r5 r6 r7 r8 r9 r10 r11 r12 r13 r14 r15 w' | _ => False) = S.btree_Forest_mend f nd_kind nd_n nd_keys nd_keys_ nd_keys__ nd_keys___ nd_vals nd_vals_ nd_vals__ nd_vals___ nd_kids nd_kids_ nd_kids__ nd_kids___ nd_kids____ c w K := by kernel_rfl
theorem T.CO294 : CallOk Tryz.prog T.C294 := (CallOk.cons 254 T.ok254 (CallOk.cons 246 T.ok246 (CallOk.cons 255 T.ok255 (CallOk.cons 329 T.ok329 (CallOk.cons 328 T.ok328 (CallOk.cons 326 T.ok326 (CallOk.cons 327 T.ok327 (CallOk.cons 325 T.ok325 CallOk.nil))))))))
def T.c294 (vs : List Value) (w : World) (K : Value → World → Prop) : Prop :=
  match vs with
  | [.pointer (some ⟨f, 0, none⟩), .agg ⟨[.int .i64 nd_kind, .int .i64 nd_n, .string nd_keys, .string nd_keys_, .string nd_keys__, .string nd_keys___, .string nd_vals, .string nd_vals_, .string nd_vals__, .string nd_vals___, .int .i64 nd_kids, .int .i64 nd_kids_, .int .i64 nd_kids__, .int .i64 nd_kids___, .int .i64 nd_kids____]⟩, .int .i64 c] => S.btree_Forest_mend f nd_kind nd_n nd_keys nd_keys_ nd_keys__ nd_keys___ nd_vals nd_vals_ nd_vals__ nd_vals___ nd_kids nd_kids_ nd_kids__ nd_kids___ nd_kids____ c w (fun r0 r1 r2 r3 r4 r5 r6 r7 r8 r9 r10 r11 r12 r13 r14 r15 w' => K (.tuple #[.agg #[.int .i64 r0, .int .i64 r1, .string r2, .string r3, .string r4, .string r5, .string r6, .string r7, .string r8, .string r9, .int .i64 r10, .int .i64 r11, .int .i64 r12, .int .i64 r13, .int .i64 r14], .int .i64 r15]) w')
  | _ => False
theorem T.ok294 : ∀ vs w K, T.c294 vs w K → (callFunc 294 vs.toArray).run Tryz.prog w = .ok (.enter 294 vs.toArray) w ∧ Calls Tryz.prog 294 vs.toArray w fun e w' => ∃ v, e = .returned v ∧ K v w' := by
  intro vs w K h
  unfold T.c294 at h
  split at h
  · refine ⟨Tryz.call294 _ _, ok_of T.CO294 mixed Tryz.func294 (T.eq294 _ _ _ _ _ _ _ _ _ _ _ _ _ _ _ _ _ _ _) h fun v w' hk => ⟨v, rfl, ?_⟩⟩
    split at hk
    · exact hk
    · exact hk.elim
  · exact h.elim
end Go.Proofs.Qxb6500564aGreat
